/- HearSmall: each number at its limits, the first half; evaluated by the kernel. -/
import Derived.Test.YtkfbbjiniapooaaGreatZSTd
import Derived.KernelRfl
namespace Go.Proofs.YtkfbbjiniapooaaGreat.Sm
open Go.PL
theorem Y4 (m : Nat) : An (m + 1) 0 = An m 1 := by kernel_rfl
theorem YI (m : Nat) : An (m + 1) 1 = An m 2 := by kernel_rfl
theorem YV (m : Nat) : An (m + 1) 2 = An m 3 := by kernel_rfl
theorem YT (m : Nat) : An (m + 1) 3 = An m 4 := by kernel_rfl
theorem YR (m : Nat) : An (m + 1) 4 = An m 5 := by kernel_rfl
theorem YK (m : Nat) : An (m + 1) 5 = An m 6 := by kernel_rfl
theorem YJ (m : Nat) : An (m + 1) 6 = An m 7 := by kernel_rfl
theorem Zf (m : Nat) : An (m + 1) 7 = An m 8 := by kernel_rfl
theorem Zg (m : Nat) : An (m + 1) 8 = An m 9 := by kernel_rfl
theorem a0 : An 18 0 = An 17 1 := Y4 17
theorem a1 : An 17 1 = An 16 2 := YI 16
theorem a2 : An 16 2 = An 15 3 := YV 15
theorem a3 : An 15 3 = An 14 4 := YT 14
theorem a4 : An 14 4 = An 13 5 := YR 13
theorem a5 : An 13 5 = An 12 6 := YK 12
theorem a6 : An 12 6 = An 11 7 := YJ 11
theorem a7 : An 11 7 = An 10 8 := Zf 10
theorem a8 : An 10 8 = An 9 9 := Zg 9
end Go.Proofs.YtkfbbjiniapooaaGreat.Sm
