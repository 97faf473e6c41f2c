/- Layer 1: cries back, and the calm; HearBack. -/
import Derived.Test.YtejkgppikpkkpaaGreatZCBl
import Derived.Test.YtejkgppikpkkpaaGreatZCHG
namespace Go.Proofs.YtejkgppikpkkpaaGreat
open Go.PL Go.Hear
section
variable {E E' : Int → List (Int × Int)} {s : Int} {n : Nat}
end
section
variable {wide : Int} {ps : List Int} {w : Int}
theorem openE_of (hc : chk wide ps = 0) (hw : okW w) : openE wide ps w = 0 := by
  unfold openE; rw [if_neg (not_not_intro hc), if_neg (not_not_intro hw)]
end
end Go.Proofs.YtejkgppikpkkpaaGreat
