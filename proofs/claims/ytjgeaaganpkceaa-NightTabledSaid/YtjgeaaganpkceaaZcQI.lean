/- Layer 5: who surely slept, the fewest men; a night the other way round (NightTurned); in plain Lean. -/
import Derived.Test.YtjgeaaganpkceaaZcQH
import Derived.Test.YtjgeaaganpkceaaZcRv
namespace Go.Proofs.Ytjgeaaganpkceaa.Nt
open Go.PL Rv
section
variable {ls hs : List (List Int)} {ok : Nat → Bool} {okF : Int → Option Bool}
end
theorem cpy_eq {α : Type} (z : α) (l : List α) : cpy (List.replicate l.length z) l = l := by
  unfold cpy; simp
theorem copyI_eq {l : List Int} (h : l.length ≤ 1000000) : oyezkit_Copy_int l = some l := by
  unfold oyezkit_Copy_int
  rw [gd_t ⟨by omega, by omega⟩, bvE, bvE, Int.toNat_natCast, cpy_eq]
theorem set_app {α : Type} (a : List α) (n : Nat) (z x : α) : (a ++ List.replicate (n + 1) z).set a.length x = a ++ [x] ++ List.replicate n z := by
  rw [List.set_append_right (h := Nat.le_refl _), Nat.sub_self, List.replicate_succ, List.set_cons_zero, List.append_assoc]; rfl
theorem copyRowsI_l1 : ∀ (tl a : List (List Int)), (∀ l ∈ tl, l.length ≤ 1000000) → oyezkit_CopyRows_int_l1 tl (a.length : Int) (a ++ List.replicate tl.length []) = some (a ++ tl)
  | [], a, _ => by simp [oyezkit_CopyRows_int_l1]
  | x :: tl, a, h => by
    unfold oyezkit_CopyRows_int_l1
    have ih := copyRowsI_l1 tl (a ++ [x]) (fun l hl => h l (List.mem_cons_of_mem _ hl))
    rw [copyI_eq (h x (List.mem_cons_self ..)), b1_some, ixN [] _ (by simp), bvE, Int.toNat_natCast, List.length_cons, set_app]
    rw [List.length_append] at ih
    simpa using ih
theorem copyRowsI_eq {L : List (List Int)} (h : L.length ≤ 1000000) (h2 : ∀ l ∈ L, l.length ≤ 1000000) : oyezkit_CopyRows_int L = some L := by
  have e1 := copyRowsI_l1 L [] h2
  rw [List.nil_append, List.nil_append, List.length_nil] at e1
  unfold oyezkit_CopyRows_int
  rw [gd_t ⟨by omega, by omega⟩, bvE, Int.toNat_natCast, show (0 : Int) = ((0 : Nat) : Int) from rfl, e1, b1_some]
section
variable {ls hs : List (List Int)}
end
end Go.Proofs.Ytjgeaaganpkceaa.Nt
