/- HearSmall: towns of three rows, part 1. -/
import Derived.Test.YtkfbbjiniapooaaGreatZSTd
import Derived.KernelRfl
namespace Go.Proofs.YtkfbbjiniapooaaGreat.Sm
open Go.PL
theorem YQ (m : Nat) : Ab (m + 1) 0 = Ab m 1 := by kernel_rfl
theorem Y3 (m : Nat) : Ab (m + 1) 1 = Ab m 2 := by kernel_rfl
theorem Y7 (m : Nat) : Ab (m + 1) 2 = Ab m 3 := by kernel_rfl
theorem Zc (m : Nat) : Ab (m + 1) 3 = Ab m 4 := by kernel_rfl
theorem Y9 (m : Nat) : Ab (m + 1) 4 = Ab m 5 := by kernel_rfl
theorem c0 : Ab 30 0 = Ab 29 1 := YQ 29
theorem c1 : Ab 29 1 = Ab 28 2 := Y3 28
theorem c2 : Ab 28 2 = Ab 27 3 := Y7 27
theorem c3 : Ab 27 3 = Ab 26 4 := Zc 26
theorem c4 : Ab 26 4 = Ab 25 5 := Y9 25
end Go.Proofs.YtkfbbjiniapooaaGreat.Sm
