/- HearSmall: each number at its limits, the second half. -/
import Derived.Test.YtkfbbjiniapooaaGreatZSTd
import Derived.KernelRfl
namespace Go.Proofs.YtkfbbjiniapooaaGreat.Sm
open Go.PL
theorem YW (m : Nat) : An (m + 1) 9 = An m 10 := by kernel_rfl
theorem Yg (m : Nat) : An (m + 1) 10 = An m 11 := by kernel_rfl
theorem X3 (m : Nat) : An (m + 1) 11 = An m 12 := by kernel_rfl
theorem X6 (m : Nat) : An (m + 1) 12 = An m 13 := by kernel_rfl
theorem XK (m : Nat) : An (m + 1) 13 = An m 14 := by kernel_rfl
theorem XH (m : Nat) : An (m + 1) 14 = An m 15 := by kernel_rfl
theorem XG (m : Nat) : An (m + 1) 15 = An m 16 := by kernel_rfl
theorem X1 (m : Nat) : An (m + 1) 16 = An m 17 := by kernel_rfl
theorem Yw (m : Nat) : An (m + 1) 17 = An m 18 := by kernel_rfl
theorem a9 : An 9 9 = An 8 10 := YW 8
theorem Nv : An 8 10 = An 7 11 := Yg 7
theorem MS : An 7 11 = An 6 12 := X3 6
theorem PR : An 6 12 = An 5 13 := X6 5
theorem TS : An 5 13 = An 4 14 := XK 4
theorem Zb : An 4 14 = An 3 15 := XH 3
theorem YS : An 3 15 = An 2 16 := XG 2
theorem HU : An 2 16 = An 1 17 := X1 1
theorem U9 : An 1 17 = An 0 18 := Yw 0
end Go.Proofs.YtkfbbjiniapooaaGreat.Sm
