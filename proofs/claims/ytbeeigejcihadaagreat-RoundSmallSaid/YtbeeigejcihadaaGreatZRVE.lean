/- RoundSmall: the example with each number at its limits; evaluated by the kernel. -/
import Derived.Test.YtbeeigejcihadaaGreatZRTd
import Derived.KernelRfl
namespace Go.Proofs.YtbeeigejcihadaaGreat.Rs
open Go.PL
theorem SV (m : Nat) : Bc (m + 3) 0 = Bc m 3 := by kernel_rfl
theorem S3 (m : Nat) : Bc (m + 3) 3 = Bc m 6 := by kernel_rfl
theorem SS (m : Nat) : Bc (m + 3) 6 = Bc m 9 := by kernel_rfl
theorem Tf (m : Nat) : Bc (m + 3) 9 = Bc m 12 := by kernel_rfl
theorem SY (m : Nat) : Bc (m + 3) 12 = Bc m 15 := by kernel_rfl
theorem S5 (m : Nat) : Bc (m + 2) 15 = Bc m 17 := by kernel_rfl
theorem a : Bc 17 0 = Bc 0 17 :=
  (SV 14).trans ((S3 11).trans ((SS 8).trans ((Tf 5).trans ((SY 2).trans (S5 0)))))
end Go.Proofs.YtbeeigejcihadaaGreat.Rs
