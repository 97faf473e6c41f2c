/- NightSmall: the example with each number at its limits, the first half; evaluated by the kernel. -/
import Derived.Test.YtepdgjpkhkijcaaGreatZSTd
import Derived.KernelRfl
namespace Go.Proofs.YtepdgjpkhkijcaaGreat.Ns
open Go.PL
theorem RT (m : Nat) : A4 (m + 9) 0 = A4 m 9 := by kernel_rfl
theorem a0 : A4 19 0 = A4 10 9 := RT 10
end Go.Proofs.YtepdgjpkhkijcaaGreat.Ns
