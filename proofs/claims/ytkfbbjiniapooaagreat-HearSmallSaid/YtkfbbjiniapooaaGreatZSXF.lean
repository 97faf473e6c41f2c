/- HearSmall: towns of three rows, part 3. -/
import Derived.Test.YtkfbbjiniapooaaGreatZSTd
import Derived.KernelRfl
namespace Go.Proofs.YtkfbbjiniapooaaGreat.Sm
open Go.PL
theorem YX (m : Nat) : Ab (m + 1) 9 = Ab m 10 := by kernel_rfl
theorem XP (m : Nat) : Ab (m + 1) 10 = Ab m 11 := by kernel_rfl
theorem c9 : Ab 21 9 = Ab 20 10 := YX 20
theorem H4 : Ab 20 10 = Ab 19 11 := XP 19
end Go.Proofs.YtkfbbjiniapooaaGreat.Sm
