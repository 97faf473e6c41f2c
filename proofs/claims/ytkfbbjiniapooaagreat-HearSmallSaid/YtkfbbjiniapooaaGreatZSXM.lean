/- HearSmall: towns of three rows, part 9. -/
import Derived.Test.YtkfbbjiniapooaaGreatZSTd
import Derived.KernelRfl
namespace Go.Proofs.YtkfbbjiniapooaaGreat.Sm
open Go.PL
theorem XS (m : Nat) : Ab (m + 1) 23 = Ab m 24 := by kernel_rfl
theorem I0 : Ab 7 23 = Ab 6 24 := XS 6
end Go.Proofs.YtkfbbjiniapooaaGreat.Sm
