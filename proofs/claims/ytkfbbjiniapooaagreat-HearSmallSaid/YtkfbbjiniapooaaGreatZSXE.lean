/- HearSmall: towns of three rows, part 2. -/
import Derived.Test.YtkfbbjiniapooaaGreatZSTd
import Derived.KernelRfl
namespace Go.Proofs.YtkfbbjiniapooaaGreat.Sm
open Go.PL
theorem Ze (m : Nat) : Ab (m + 1) 5 = Ab m 6 := by kernel_rfl
theorem YY (m : Nat) : Ab (m + 1) 6 = Ab m 7 := by kernel_rfl
theorem Y1 (m : Nat) : Ab (m + 1) 7 = Ab m 8 := by kernel_rfl
theorem YZ (m : Nat) : Ab (m + 1) 8 = Ab m 9 := by kernel_rfl
theorem c5 : Ab 25 5 = Ab 24 6 := Ze 24
theorem c6 : Ab 24 6 = Ab 23 7 := YY 23
theorem c7 : Ab 23 7 = Ab 22 8 := Y1 22
theorem c8 : Ab 22 8 = Ab 21 9 := YZ 21
end Go.Proofs.YtkfbbjiniapooaaGreat.Sm
