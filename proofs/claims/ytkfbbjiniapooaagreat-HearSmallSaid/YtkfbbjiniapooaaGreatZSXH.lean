/- HearSmall: towns of three rows, part 4. -/
import Derived.Test.YtkfbbjiniapooaaGreatZSTd
import Derived.KernelRfl
namespace Go.Proofs.YtkfbbjiniapooaaGreat.Sm
open Go.PL
theorem XO (m : Nat) : Ab (m + 1) 11 = Ab m 12 := by kernel_rfl
theorem FE : Ab 19 11 = Ab 18 12 := XO 18
end Go.Proofs.YtkfbbjiniapooaaGreat.Sm
