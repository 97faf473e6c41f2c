/- HearSmall: towns of three rows, part 6. -/
import Derived.Test.YtkfbbjiniapooaaGreatZSTd
import Derived.KernelRfl
namespace Go.Proofs.YtkfbbjiniapooaaGreat.Sm
open Go.PL
theorem Yk (m : Nat) : Ab (m + 1) 16 = Ab m 17 := by kernel_rfl
theorem Ye (m : Nat) : Ab (m + 1) 17 = Ab m 18 := by kernel_rfl
theorem Yf (m : Nat) : Ab (m + 1) 18 = Ab m 19 := by kernel_rfl
theorem UT : Ab 14 16 = Ab 13 17 := Yk 13
theorem FG : Ab 13 17 = Ab 12 18 := Ye 12
theorem KW : Ab 12 18 = Ab 11 19 := Yf 11
end Go.Proofs.YtkfbbjiniapooaaGreat.Sm
