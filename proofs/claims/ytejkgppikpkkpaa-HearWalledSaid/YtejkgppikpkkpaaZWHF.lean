/- Layer 1: towns with a wall more; HearTowns. -/
import Derived.Test.YtejkgppikpkkpaaZWHE
namespace Go.Proofs.Ytejkgppikpkkpaa
open Go.PL Go.Hear
/-- What a town with a wall more is. -/
def wldV (wide : Int) (ps : List Int) (plot : Int) : Int × List Int × Int :=
  if chk wide ps ≠ 0 then (0, [], chk wide ps) else if isE ps plot 0 ≠ 0 then (0, [], isE ps plot 0) else (wide, ps.set plot.toNat 2, 0)
theorem isE_ok {ps : List Int} {p kind : Int} (h : isE ps p kind = 0) : (0 ≤ p ∧ p < ps.length) ∧ ps.getD p.toNat 0 = kind := by
  unfold isE at h
  split at h
  · cases h
  · rename_i h1
    split at h
    · cases h
    · rename_i h2
      have h1' := Classical.not_not.1 h1
      exact ⟨⟨h1'.1, by omega⟩, Classical.not_not.1 h2⟩
theorem Walled_eq {wide : Int} {ps : List Int} (hn : ps.length ≤ 1000) (plot : Int) : hear_Walled wide ps plot = some (wldV wide ps plot) := by
  unfold hear_Walled wldV
  rw [check_eq hn, b1_some]
  by_cases h1 : chk wide ps = 0
  · rw [if_neg (not_not_intro h1), if_neg (not_not_intro h1), is_eq hn, b1_some]
    by_cases h2 : isE ps plot 0 = 0
    · obtain ⟨hp, _⟩ := isE_ok h2
      rw [if_neg (not_not_intro h2), if_neg (not_not_intro h2), gd_t (by omega), bvE, Int.toNat_natCast, cpy_self, bvE, ix_get _ hp.1 hp.2, bvE]
    · rw [if_pos h2, if_pos h2]
  · rw [if_pos h1, if_pos h1]
end Go.Proofs.Ytejkgppikpkkpaa
