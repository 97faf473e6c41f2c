/- BookSmall: the example with each number at its limits, and what may be told and pleaded; evaluated by the kernel. -/
import Derived.Test.YtdhookifhfkcpaaGreatZBTd
import Derived.KernelRfl
namespace Go.Proofs.YtdhookifhfkcpaaGreat.Bs
open Go.PL
theorem Tr (m : Nat) : Bg (m + 4) 0 = Bg m 4 := by kernel_rfl
theorem Tk (m : Nat) : Bg (m + 4) 4 = Bg m 8 := by kernel_rfl
theorem Tt (m : Nat) : Bg (m + 4) 8 = Bg m 12 := by kernel_rfl
theorem Tl (m : Nat) : Bg (m + 2) 12 = Bg m 14 := by kernel_rfl
theorem a : Bg 14 0 = Bg 0 14 :=
  (Tr 10).trans ((Tk 6).trans ((Tt 2).trans (Tl 0)))
theorem Tw (m : Nat) : Bf (m + 4) 0 = Bf m 4 := by kernel_rfl
theorem Tx (m : Nat) : Bf (m + 4) 4 = Bf m 8 := by kernel_rfl
theorem Tv (m : Nat) : Bf (m + 4) 8 = Bf m 12 := by kernel_rfl
theorem To (m : Nat) : Bf (m + 2) 12 = Bf m 14 := by kernel_rfl
theorem d : Bf 14 0 = Bf 0 14 :=
  (Tw 10).trans ((Tx 6).trans ((Tv 2).trans (To 0)))
end Go.Proofs.YtdhookifhfkcpaaGreat.Bs
