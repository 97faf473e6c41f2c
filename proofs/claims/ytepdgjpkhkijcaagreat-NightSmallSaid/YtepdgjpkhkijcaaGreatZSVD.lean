/- NightSmall: three men who listen in all ways, as many men and hours as there may be; NightSmall. -/
import Derived.Test.YtepdgjpkhkijcaaGreatZSVB
import Derived.Test.YtepdgjpkhkijcaaGreatZSVC
namespace Go.Proofs.YtepdgjpkhkijcaaGreat.Ns
open Go.PL
theorem a2 : A4 0 19 = some true := by kernel_rfl
theorem CC {x : Int} (h : -1000 ≤ x ∧ x ≤ 1000) : Cl x := by unfold Cl; omega
theorem Pf : EZ = some true := (RI ⟨CC (by decide), CC (by decide)⟩).trans (a0.trans (a1.trans a2))
end Go.Proofs.YtepdgjpkhkijcaaGreat.Ns
