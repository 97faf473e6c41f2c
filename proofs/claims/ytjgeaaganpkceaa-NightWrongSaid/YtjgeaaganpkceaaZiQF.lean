/- Layer 5: explanations that are tried; the fewest naps are told (NightExplained); in plain Lean. -/
import Derived.Test.YtjgeaaganpkceaaZiQE
namespace Go.Proofs.Ytjgeaaganpkceaa.Nt
open Go.PL
section
variable {ls hs : List (List Int)}
variable {metal : List Int}
end
theorem cmp_eq (x y : Int) : cmp_Compare_int x y = some (if x < y then -1 else if y < x then 1 else 0) := by
  unfold cmp_Compare_int cmp_isNaN_int
  rw [b1_some, b1_some, if_neg (by simp), if_neg (by simp)]
  split
  · rfl
  · split <;> rfl
theorem compare_l2 {s1 s2 : List Nat} (hl : s1.length = s2.length) : ∀ (tl u : List Nat) (k : Nat), s2.drop k = u → tl.length = u.length → lexLe u tl → ∃ n : Int, 0 ≤ n ∧ slices_Compare_int_int_l2 (natL s1) (natL s2) (natL tl) (k : Int) = some n
  | [], u, k, _, _, _ => by
    refine ⟨0, Int.le_refl _, ?_⟩
    show slices_Compare_int_int_l2 (natL s1) (natL s2) [] (k : Int) = some 0
    unfold slices_Compare_int_int_l2 slices_Compare_int_int_j1
    rw [if_neg (by simp [natL]; omega)]
  | x :: tl, [], k, _, h, _ => by simp at h
  | x :: tl, y :: u, k, hd, hu, hx => by
    have hk : k < s2.length := by
      rcases Nat.lt_or_ge k s2.length with h' | h'
      · exact h'
      · rw [List.drop_eq_nil_of_le h'] at hd; cases hd
    have hg : (natL s2)[k]? = some (y : Int) := by
      rw [List.drop_eq_getElem_cons hk] at hd
      unfold natL
      rw [List.getElem?_map, List.getElem?_eq_getElem hk, (List.cons.inj hd).1]; rfl
    have hd2 : s2.drop (k + 1) = u := by
      rw [List.drop_eq_getElem_cons hk] at hd
      exact (List.cons.inj hd).2
    rw [natL_cons]; unfold slices_Compare_int_int_l2
    rw [if_neg (by simp [natL]; omega), ix_t (by omega) (by rw [Int.toNat_natCast]; exact hg), cmp_eq, b1_some]
    rcases hx with h | ⟨h, h2⟩
    · refine ⟨1, by omega, ?_⟩
      have ev : (if (x : Int) < (y : Int) then (-1 : Int) else if (y : Int) < (x : Int) then 1 else 0) = 1 := by rw [if_neg (by omega), if_pos (by omega)]
      rw [ev, if_pos (by decide)]
    · obtain ⟨n, h3, h4⟩ := compare_l2 hl tl u (k + 1) hd2 (by simpa using hu) h2
      refine ⟨n, h3, ?_⟩
      have ev : (if (x : Int) < (y : Int) then (-1 : Int) else if (y : Int) < (x : Int) then 1 else 0) = 0 := by rw [if_neg (by omega), if_neg (by omega)]
      rw [ev, if_neg (by decide), show (k : Int) + 1 = ((k + 1 : Nat) : Int) by omega]
      exact h4
theorem compare_ge {s t : List Nat} (hl : s.length = t.length) (h : lexLe t s) : ∃ n : Int, 0 ≤ n ∧ slices_Compare_int_int (natL s) (natL t) = some n := by
  unfold slices_Compare_int_int
  exact compare_l2 hl s t 0 rfl hl h
section
variable {ls hs : List (List Int)} {metal : List Int}
end
end Go.Proofs.Ytjgeaaganpkceaa.Nt
