/- Layer 1: cries back, and the calm; HearBack. -/
import Derived.Test.YtejkgppikpkkpaaGreatZFBl
import Derived.Test.YtejkgppikpkkpaaGreatZFHG
namespace Go.Proofs.YtejkgppikpkkpaaGreat
open Go.PL Go.Hear
section
variable {E E' : Int → List (Int × Int)} {s : Int} {n : Nat}
end
section
variable {wide : Int} {ps : List Int} {w : Int}
theorem openE_of (hc : chk wide ps = 0) (hw : okW w) : openE wide ps w = 0 := by
  unfold openE; rw [if_neg (not_not_intro hc), if_neg (not_not_intro hw)]
theorem isE_of {p kind : Int} (hp : 0 ≤ p ∧ p < ps.length) (h : ps.getD p.toNat 0 = kind) : isE ps p kind = 0 := by
  unfold isE; rw [if_neg (not_not_intro ⟨hp.1, by omega⟩), if_neg (not_not_intro h)]
theorem standE_of (ho : openE wide ps w = 0) {p : Int} (hp : 0 ≤ p ∧ p < ps.length) (h : ps.getD p.toNat 0 = 0) : standE wide ps w p = 0 := by
  unfold standE; rw [if_neg (not_not_intro ho), isE_of hp h]
end
end Go.Proofs.YtejkgppikpkkpaaGreat
