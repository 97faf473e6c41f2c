/- Layer 1: towns with a wall more; HearTowns. -/
import Derived.Test.YtdnmaodkdhdacaaHE
namespace Go.Proofs.Ytdnmaodkdhdacaa
open Go.PL Go.Hear

/-- What a town with a wall more is. -/
def wldV (wide : Int) (ps : List Int) (plot : Int) : Int × List Int × Int :=
  if chk wide ps ≠ 0 then (0, [], chk wide ps) else if isE ps plot 0 ≠ 0 then (0, [], isE ps plot 0) else (wide, ps.set plot.toNat 2, 0)
theorem isE_ok {ps : List Int} {p kind : Int} (h : isE ps p kind = 0) : (0 ≤ p ∧ p < ps.length) ∧ ps.getD p.toNat 0 = kind := by
  unfold isE at h
  split at h
  · cases h
  · rename_i h1
    split at h
    · cases h
    · rename_i h2
      have h1' := Classical.not_not.1 h1
      exact ⟨⟨h1'.1, by omega⟩, Classical.not_not.1 h2⟩
theorem Walled_eq {wide : Int} {ps : List Int} (hn : ps.length ≤ 1000) (plot : Int) : hear_Walled wide ps plot = some (wldV wide ps plot) := by
  unfold hear_Walled wldV
  rw [check_eq hn, b1_some]
  by_cases h1 : chk wide ps = 0
  · rw [if_neg (not_not_intro h1), if_neg (not_not_intro h1), is_eq hn, b1_some]
    by_cases h2 : isE ps plot 0 = 0
    · obtain ⟨hp, _⟩ := isE_ok h2
      rw [if_neg (not_not_intro h2), if_neg (not_not_intro h2), gd_t (by omega), bvE, Int.toNat_natCast, cpy_self, bvE, ix_get _ hp.1 hp.2, bvE]
    · rw [if_pos h2, if_pos h2]
  · rw [if_pos h1, if_pos h1]
theorem rWalled_eq {wide : Int} {ps : List Int} (hn : ps.length ≤ 1000) (plot : Int) : oyezref01_Walled wide ps plot = some (wldV wide ps plot) := by
  unfold oyezref01_Walled wldV
  rw [rcheck_eq hn, b1_some]
  by_cases h1 : chk wide ps = 0
  · rw [if_neg (not_not_intro h1), if_neg (not_not_intro h1), ris_eq hn, b1_some]
    by_cases h2 : isE ps plot 0 = 0
    · obtain ⟨hp, _⟩ := isE_ok h2
      rw [if_neg (not_not_intro h2), if_neg (not_not_intro h2), ap_t (by simp; omega), List.nil_append, ix_get _ hp.1 hp.2, bvE]
    · rw [if_pos h2, if_pos h2]
  · rw [if_pos h1, if_pos h1]
theorem wld_len {wide : Int} {ps : List Int} (hn : ps.length ≤ 1000) (plot : Int) : (wldV wide ps plot).2.1.length ≤ 1000 := by
  unfold wldV
  split
  · simp
  · split
    · simp
    · simpa using hn

theorem towns_true {wide : Int} {ps : List Int} {w v plot : Int} : oyezlaw01_HearTowns wide ps w v plot = some true := by
  unfold oyezlaw01_HearTowns
  rw [great_eq, b1_some, awake_t, b1_some]
  by_cases h1 : 40 < (ps.length : Int)
  · rw [if_pos (decide_eq_true h1)]
  rw [if_neg (fun h => h1 (of_decide_eq_true h)), own_eq (by omega), b2_some, theirs_eq (by omega), b2_some]
  rw [check_eq (by omega), b1_some, rcheck_eq (by omega), b1_some, if_neg (not_not_intro rfl), checkAir_eq, b1_some, rcheckAir_eq, b1_some, b1_some, if_neg (by simp)]
  rw [Walled_eq (by omega), rWalled_eq (by omega)]
  have hl := wld_len (wide := wide) (show ps.length ≤ 1000 by omega) plot
  generalize wldV wide ps plot = r at hl
  obtain ⟨a, b, c⟩ := r
  rw [b3_some, b3_some, if_neg (not_not_intro rfl), if_neg (not_not_intro rfl), theirs_eq hl, b2_some, like_eq, b1_some, b1_some, if_neg (by simp), bvE, same_eq, b1_some, if_pos rfl]
end Go.Proofs.Ytdnmaodkdhdacaa
