/- HearSmall: towns of a row. -/
import Derived.Test.YtkfbbjiniapooaaGreatZSTd
import Derived.KernelRfl
namespace Go.Proofs.YtkfbbjiniapooaaGreat.Sm
open Go.PL
theorem Y5 (m : Nat) : AD (m + 9) 0 = AD m 9 := by kernel_rfl
theorem Y8 (m : Nat) : AD (m + 9) 9 = AD m 18 := by kernel_rfl
theorem XW (m : Nat) : AD (m + 9) 18 = AD m 27 := by kernel_rfl
theorem X9 (m : Nat) : AD (m + 9) 27 = AD m 36 := by kernel_rfl
theorem Yb (m : Nat) : AD (m + 9) 36 = AD m 45 := by kernel_rfl
theorem Yi (m : Nat) : AD (m + 9) 45 = AD m 54 := by kernel_rfl
theorem XF (m : Nat) : AD (m + 9) 54 = AD m 63 := by kernel_rfl
theorem X8 (m : Nat) : AD (m + 9) 63 = AD m 72 := by kernel_rfl
theorem Yu (m : Nat) : AD (m + 9) 72 = AD m 81 := by kernel_rfl
theorem b0 : AD 81 0 = AD 72 9 := Y5 72
theorem b9 : AD 72 9 = AD 63 18 := Y8 63
theorem W2 : AD 63 18 = AD 54 27 := XW 54
theorem Xj : AD 54 27 = AD 45 36 := X9 45
theorem Qr : AD 45 36 = AD 36 45 := Yb 36
theorem Yz : AD 36 45 = AD 27 54 := Yi 27
theorem YA : AD 27 54 = AD 18 63 := XF 18
theorem Pr : AD 18 63 = AD 9 72 := X8 9
theorem YM : AD 9 72 = AD 0 81 := Yu 0
end Go.Proofs.YtkfbbjiniapooaaGreat.Sm
