/- HearSmall: as many plots as there may be, a part. -/
import Derived.Test.YtkfbbjiniapooaaGreatZSTd
import Derived.KernelRfl
namespace Go.Proofs.YtkfbbjiniapooaaGreat.Sm
open Go.PL
theorem e5_ (m : Nat) : A2 (m + 1) 5 = A2 m 6 := by kernel_rfl
theorem e5 : A2 28 5 = A2 27 6 := e5_ 27
theorem e6_ (m : Nat) : A2 (m + 1) 6 = A2 m 7 := by kernel_rfl
theorem e6 : A2 27 6 = A2 26 7 := e6_ 26
theorem e7_ (m : Nat) : A2 (m + 1) 7 = A2 m 8 := by kernel_rfl
theorem e7 : A2 26 7 = A2 25 8 := e7_ 25
theorem e8_ (m : Nat) : A2 (m + 1) 8 = A2 m 9 := by kernel_rfl
theorem e8 : A2 25 8 = A2 24 9 := e8_ 24
theorem e9_ (m : Nat) : A2 (m + 1) 9 = A2 m 10 := by kernel_rfl
theorem e9 : A2 24 9 = A2 23 10 := e9_ 23
theorem e10_ (m : Nat) : A2 (m + 1) 10 = A2 m 11 := by kernel_rfl
theorem e10 : A2 23 10 = A2 22 11 := e10_ 22
end Go.Proofs.YtkfbbjiniapooaaGreat.Sm
