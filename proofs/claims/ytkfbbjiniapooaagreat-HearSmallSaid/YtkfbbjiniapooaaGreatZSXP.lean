/- HearSmall: as many plots as there may be, a part. -/
import Derived.Test.YtkfbbjiniapooaaGreatZSTd
import Derived.KernelRfl
namespace Go.Proofs.YtkfbbjiniapooaaGreat.Sm
open Go.PL
theorem e0_ (m : Nat) : A2 (m + 1) 0 = A2 m 1 := by kernel_rfl
theorem e0 : A2 33 0 = A2 32 1 := e0_ 32
theorem e1_ (m : Nat) : A2 (m + 1) 1 = A2 m 2 := by kernel_rfl
theorem e1 : A2 32 1 = A2 31 2 := e1_ 31
theorem e2_ (m : Nat) : A2 (m + 1) 2 = A2 m 3 := by kernel_rfl
theorem e2 : A2 31 2 = A2 30 3 := e2_ 30
theorem e3_ (m : Nat) : A2 (m + 1) 3 = A2 m 4 := by kernel_rfl
theorem e3 : A2 30 3 = A2 29 4 := e3_ 29
theorem e4_ (m : Nat) : A2 (m + 1) 4 = A2 m 5 := by kernel_rfl
theorem e4 : A2 29 4 = A2 28 5 := e4_ 28
end Go.Proofs.YtkfbbjiniapooaaGreat.Sm
