/- Layer 1: what ways need, and the way that is told; HearWays. -/
import Derived.Test.YtodhcoakjlmcdaaGreatZBHE
namespace Go.Proofs.YtodhcoakjlmcdaaGreat
open Go.PL Go.Hear
section
variable {wide : Int} {ps : List Int} {w : Int} {way : List Int}
theorem drop_get {l r : List Int} {x : Int} {k : Nat} (h : l.drop k = x :: r) : k < l.length ∧ l.getD k 0 = x ∧ l.drop (k + 1) = r := by
  have hk : k < l.length := by
    by_cases hk : k < l.length
    · exact hk
    · rw [List.drop_eq_nil_of_le (by omega)] at h; cases h
  rw [List.drop_eq_getElem_cons hk] at h
  refine ⟨hk, ?_, (List.cons.inj h).2⟩
  rw [List.getD_eq_getElem?_getD, List.getElem?_eq_getElem hk]
  exact (List.cons.inj h).1
theorem isE_ok' {ps : List Int} {p kind : Int} (h : isE ps p kind = 0) : (0 ≤ p ∧ p < ps.length) ∧ ps.getD p.toNat 0 = kind := by
  unfold isE at h
  split at h
  · cases h
  · rename_i h1
    split at h
    · cases h
    · rename_i h2
      have h1' := Classical.not_not.1 h1
      exact ⟨⟨h1'.1, by omega⟩, Classical.not_not.1 h2⟩
end
end Go.Proofs.YtodhcoakjlmcdaaGreat
