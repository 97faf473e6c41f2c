/- Layer 5: who surely slept, the fewest men; a night the other way round (NightTurned); in plain Lean. -/
import Derived.Test.YtjgeaaganpkceaaZhQH
import Derived.Test.YtjgeaaganpkceaaZhRv
namespace Go.Proofs.Ytjgeaaganpkceaa.Nt
open Go.PL Rv
section
variable {ls hs : List (List Int)} {ok : Nat → Bool} {okF : Int → Option Bool}
theorem clone_eq {xs : List Int} (h : xs.length ≤ 1000000) : slices_Clone_int_int xs = some xs := by
  unfold slices_Clone_int_int nilIf
  rw [ap_t (by simp; omega), List.nil_append]
  by_cases h1 : xs = []
  · rw [if_pos h1, h1]; rfl
  · rw [if_neg h1]
end
theorem cpy_eq {α : Type} (z : α) (l : List α) : cpy (List.replicate l.length z) l = l := by
  unfold cpy; simp
theorem set_app {α : Type} (a : List α) (n : Nat) (z x : α) : (a ++ List.replicate (n + 1) z).set a.length x = a ++ [x] ++ List.replicate n z := by
  rw [List.set_append_right (h := Nat.le_refl _), Nat.sub_self, List.replicate_succ, List.set_cons_zero, List.append_assoc]; rfl
theorem lis_len {ls hs : List (List Int)} (g : GoodW ls hs) : ∀ l ∈ ls, l.length ≤ 6 := fun l hl => by
  obtain ⟨i, hi, he⟩ := List.getElem_of_mem hl
  have := nodup_len i l (g.nd l hl) (g.lis i l (by rw [List.getElem?_eq_getElem hi, he]))
  have := g.n6
  omega
section
variable {ls hs : List (List Int)}
end
end Go.Proofs.Ytjgeaaganpkceaa.Nt
