/- Layer 1: lists without what comes twice on end; the fewest stands that serve houses; in plain Lean. -/
import Derived.Test.YtejkgppikpkkpaaZWHM
namespace Go.Proofs.Ytejkgppikpkkpaa
open Go.PL Go.Hear
/-- Each row has one of the stands. -/
def All (R : List (List Bool)) (L : List Nat) : Prop := ∀ r ∈ R, ∃ s ∈ L, r.getD s false = true
/-- The shortest list that serves all; the first one of these. -/
structure IsFew (R : List (List Bool)) (L : List Nat) : Prop where
  inc : Inc 0 L
  all : All R L
  len : L.length ≤ R.length
  min : ∀ L', Inc 0 L' → All R L' → L.length < L'.length ∨ (L.length = L'.length ∧ lexLe L L')
  use : ∀ p : Nat → Bool, (∀ s, p s = false → colS R s = List.replicate R.length false) → ∀ s ∈ L, p s = true
theorem inc_of {p : Nat → Bool} : ∀ (n a : Nat), a + n ≤ 30 → Inc a ((List.range' a n).filter p)
  | 0, _, _ => trivial
  | n + 1, a, h => by
    have ih := inc_of (p := p) n (a + 1) (by omega)
    rw [List.range'_succ]
    cases hp : p a with
    | true => rw [List.filter_cons_of_pos hp]; exact ⟨⟨Nat.le_refl _, by omega⟩, ih⟩
    | false => rw [List.filter_cons_of_neg (by rw [hp]; decide)]; exact ih.weak (by omega)
section
variable {wide : Int} {ps : List Int} {w v : Int}
theorem idxE_l2 {v : List Bool} : ∀ (l : List (List Bool)) (k : Int), 0 ≤ k → ∃ n, slices_Index_hear_ears_hear_ears_l2 v l k = some n ∧ (0 ≤ n ↔ v ∈ l)
  | [], k, _ => ⟨-1, rfl, by simp⟩
  | x :: l, k, hk => by
    unfold slices_Index_hear_ears_hear_ears_l2
    by_cases hx : v = x
    · exact ⟨k, by rw [if_pos hx], by simp [hx, hk]⟩
    · obtain ⟨n, h1, h2⟩ := idxE_l2 (v := v) l (k + 1) (by omega)
      refine ⟨n, by rw [if_neg hx]; exact h1, ?_⟩
      rw [h2, List.mem_cons]; simp [hx]
theorem deafQ_eq (R : List (List Bool)) (f : Int → Option Int) : hear_quarter_deaf R f = some (decide (List.replicate 30 false ∈ R)) := by
  unfold hear_quarter_deaf slices_Contains_hear_ears_hear_ears slices_Index_hear_ears_hear_ears
  obtain ⟨n, h1, h2⟩ := idxE_l2 (v := List.replicate 30 false) R 0 (Int.le_refl _)
  rw [h1, b1_some, b1_some]
  congr 1
  rw [decide_eq_decide]
  exact h2
end
end Go.Proofs.Ytejkgppikpkkpaa
