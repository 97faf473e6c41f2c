/- HearSmall: towns of three rows, part 8. -/
import Derived.Test.YtkfbbjiniapooaaGreatZSTd
import Derived.KernelRfl
namespace Go.Proofs.YtkfbbjiniapooaaGreat.Sm
open Go.PL
theorem Yp (m : Nat) : Ab (m + 1) 20 = Ab m 21 := by kernel_rfl
theorem Yy (m : Nat) : Ab (m + 1) 21 = Ab m 22 := by kernel_rfl
theorem Yj (m : Nat) : Ab (m + 1) 22 = Ab m 23 := by kernel_rfl
theorem QY : Ab 10 20 = Ab 9 21 := Yp 9
theorem Jj : Ab 9 21 = Ab 8 22 := Yy 8
theorem I1 : Ab 8 22 = Ab 7 23 := Yj 7
end Go.Proofs.YtkfbbjiniapooaaGreat.Sm
