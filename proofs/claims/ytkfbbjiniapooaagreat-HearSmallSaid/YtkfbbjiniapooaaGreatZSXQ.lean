/- HearSmall: as many plots as there may be, a part. -/
import Derived.Test.YtkfbbjiniapooaaGreatZSTd
import Derived.KernelRfl
namespace Go.Proofs.YtkfbbjiniapooaaGreat.Sm
open Go.PL
theorem XY (m : Nat) : A2 (m + 11) 11 = A2 m 22 := by kernel_rfl
theorem d11 : A2 22 11 = A2 11 22 := XY 11
theorem Yv (m : Nat) : A2 (m + 11) 22 = A2 m 33 := by kernel_rfl
theorem d22 : A2 11 22 = A2 0 33 := Yv 0
end Go.Proofs.YtkfbbjiniapooaaGreat.Sm
