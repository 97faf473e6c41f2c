/- Layer 1: cries back, and the calm; HearBack. -/
import Derived.Test.YtodhcoakjlmcdaaGreatZBBl
import Derived.Test.YtodhcoakjlmcdaaGreatZBHG
namespace Go.Proofs.YtodhcoakjlmcdaaGreat
open Go.PL Go.Hear
section
variable {E E' : Int → List (Int × Int)} {s : Int} {n : Nat}
end
section
variable {wide : Int} {ps : List Int} {w : Int}
theorem openE_of (hc : chk wide ps = 0) (hw : okW w) : openE wide ps w = 0 := by
  unfold openE; rw [if_neg (not_not_intro hc), if_neg (not_not_intro hw)]
def wndP (wide : Int) (ps : List Int) (voice stand house w : Int) : Bool := decide (needE wide ps w stand house = 0) && decide (needV wide ps w stand house ≤ voice)
def wndF (P : Int → Bool) : Nat → Int → List Int
  | 0, _ => []
  | m + 1, w => if P w = true then w :: wndF P m (w + 1) else wndF P m (w + 1)
theorem winds_l3 (hn : ps.length ≤ 1000) (voice stand house : Int) : ∀ (fu m : Nat) (w : Int) (acc : List Int), 0 ≤ w → w + m = 5 → m < fu → acc.length ≤ 100 + w.toNat → hear_Winds_l3 wide ps voice stand house fu acc w = some (acc ++ wndF (wndP wide ps voice stand house) m w)
  | 0, m, w, acc, _, _, h, _ => by omega
  | fu + 1, 0, w, acc, h0, h1, _, _ => by
    unfold hear_Winds_l3 wndF
    rw [if_neg (by omega), List.append_nil]
  | fu + 1, m + 1, w, acc, h0, h1, h2, h3 => by
    unfold hear_Winds_l3 wndF
    rw [if_pos (by omega), Need_eq hn, b2_some, gd_t (r64_small (by omega))]
    have e : (if needE wide ps w stand house = 0 then some (decide (needV wide ps w stand house ≤ voice)) else some false) = some (wndP wide ps voice stand house w) := by
      unfold wndP
      by_cases h : needE wide ps w stand house = 0
      · rw [if_pos h, decide_eq_true h, Bool.true_and]
      · rw [if_neg h, decide_eq_false h, Bool.false_and]
    rw [e, b1_some]
    by_cases hp : wndP wide ps voice stand house w = true
    · rw [if_pos hp, if_pos hp, ap_t (by simp; omega), gd_t (r64_small (by omega)), winds_l3 hn voice stand house fu m (w + 1) (acc ++ [w]) (by omega) (by omega) (by omega) (by simp; omega)]
      simp
    · rw [if_neg hp, if_neg hp, winds_l3 hn voice stand house fu m (w + 1) acc (by omega) (by omega) (by omega) (by omega)]
def wndE (wide : Int) (ps : List Int) (voice stand house : Int) : Int := if chk wide ps ≠ 0 then chk wide ps else if chkA 0 voice ≠ 0 then chkA 0 voice else if isE ps stand 0 ≠ 0 then isE ps stand 0 else isE ps house 1
theorem Winds_eq (hn : ps.length ≤ 1000) (voice stand house : Int) : hear_Winds wide ps voice stand house = some (if wndE wide ps voice stand house = 0 then wndF (wndP wide ps voice stand house) 5 0 else [], wndE wide ps voice stand house) := by
  unfold hear_Winds wndE
  rw [check_eq hn, b1_some]
  by_cases h1 : chk wide ps = 0
  · rw [if_neg (not_not_intro h1), if_neg (not_not_intro h1), checkAir_eq, b1_some]
    by_cases h2 : chkA 0 voice = 0
    · rw [if_neg (not_not_intro h2), if_neg (not_not_intro h2), is_eq hn, b1_some, is_eq hn, b1_some, gd_t ⟨by decide, by decide⟩]
      have e2 : Int.toNat (2 - 0) = 2 := by decide
      rw [e2]
      unfold hear_Winds_l2
      rw [ix_t (x := isE ps stand 0) (Int.le_refl 0) rfl]
      by_cases h3 : isE ps stand 0 = 0
      · rw [if_neg (not_not_intro h3), if_neg (not_not_intro h3)]
        unfold hear_Winds_l2
        rw [ix_t (x := isE ps house 1) (by decide) rfl]
        by_cases h4 : isE ps house 1 = 0
        · rw [if_neg (not_not_intro h4), if_pos h4, h4]
          unfold hear_Winds_l2 hear_Winds_j1
          rw [winds_l3 hn voice stand house FU 5 0 [] (by omega) (by omega) (by unfold FU; omega) (by simp), b1_some, List.nil_append]
        · rw [if_pos h4, if_neg h4]
      · rw [if_pos h3, if_pos h3, if_neg h3]
    · rw [if_pos h2, if_pos h2, if_neg h2]
  · rw [if_pos h1, if_pos h1, if_neg h1]
theorem isE_of {p kind : Int} (hp : 0 ≤ p ∧ p < ps.length) (h : ps.getD p.toNat 0 = kind) : isE ps p kind = 0 := by
  unfold isE; rw [if_neg (not_not_intro ⟨hp.1, by omega⟩), if_neg (not_not_intro h)]
theorem standE_of (ho : openE wide ps w = 0) {p : Int} (hp : 0 ≤ p ∧ p < ps.length) (h : ps.getD p.toNat 0 = 0) : standE wide ps w p = 0 := by
  unfold standE; rw [if_neg (not_not_intro ho), isE_of hp h]
end
end Go.Proofs.YtodhcoakjlmcdaaGreat
