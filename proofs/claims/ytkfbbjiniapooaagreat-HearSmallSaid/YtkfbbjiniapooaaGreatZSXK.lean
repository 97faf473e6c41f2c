/- HearSmall: towns of three rows, part 7. -/
import Derived.Test.YtkfbbjiniapooaaGreatZSTd
import Derived.KernelRfl
namespace Go.Proofs.YtkfbbjiniapooaaGreat.Sm
open Go.PL
theorem Yo (m : Nat) : Ab (m + 1) 19 = Ab m 20 := by kernel_rfl
theorem J5 : Ab 11 19 = Ab 10 20 := Yo 10
end Go.Proofs.YtkfbbjiniapooaaGreat.Sm
