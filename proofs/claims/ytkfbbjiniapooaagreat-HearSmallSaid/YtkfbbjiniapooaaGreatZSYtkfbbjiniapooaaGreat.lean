/- HearSmall: towns of three rows, part 10. -/
import Derived.Test.YtkfbbjiniapooaaGreatZSTd
import Derived.KernelRfl
namespace Go.Proofs.YtkfbbjiniapooaaGreat.Sm
open Go.PL
theorem XI (m : Nat) : Ab (m + 1) 24 = Ab m 25 := by kernel_rfl
theorem X4 (m : Nat) : Ab (m + 1) 26 = Ab m 27 := by kernel_rfl
theorem XM (m : Nat) : Ab (m + 1) 27 = Ab m 28 := by kernel_rfl
theorem Yd (m : Nat) : Ab (m + 1) 28 = Ab m 29 := by kernel_rfl
theorem XR (m : Nat) : Ab (m + 1) 29 = Ab m 30 := by kernel_rfl
theorem VL : Ab 6 24 = Ab 5 25 := XI 5
theorem JE : Ab 4 26 = Ab 3 27 := X4 3
theorem Mi : Ab 3 27 = Ab 2 28 := XM 2
theorem N3 : Ab 2 28 = Ab 1 29 := Yd 1
theorem Jl : Ab 1 29 = Ab 0 30 := XR 0
end Go.Proofs.YtkfbbjiniapooaaGreat.Sm
