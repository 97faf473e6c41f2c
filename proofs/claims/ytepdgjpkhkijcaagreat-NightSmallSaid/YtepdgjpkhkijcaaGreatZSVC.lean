/- NightSmall: the example with each number at its limits, the second half. -/
import Derived.Test.YtepdgjpkhkijcaaGreatZSTd
import Derived.KernelRfl
namespace Go.Proofs.YtepdgjpkhkijcaaGreat.Ns
open Go.PL
theorem RS (m : Nat) : A4 (m + 10) 9 = A4 m 19 := by kernel_rfl
theorem a1 : A4 10 9 = A4 0 19 := RS 0
end Go.Proofs.YtepdgjpkhkijcaaGreat.Ns
