/- RoundSmall: small rounds in sixty ways. -/
import Derived.Test.YtbeeigejcihadaaGreatZRTd
import Derived.KernelRfl
namespace Go.Proofs.YtbeeigejcihadaaGreat.Rs
open Go.PL
theorem S0 (m : Nat) : AS (m + 6) 0 = AS m 6 := by kernel_rfl
theorem Te (m : Nat) : AS (m + 6) 6 = AS m 12 := by kernel_rfl
theorem Ti (m : Nat) : AS (m + 6) 12 = AS m 18 := by kernel_rfl
theorem S8 (m : Nat) : AS (m + 6) 18 = AS m 24 := by kernel_rfl
theorem S6 (m : Nat) : AS (m + 6) 24 = AS m 30 := by kernel_rfl
theorem Tb (m : Nat) : AS (m + 6) 30 = AS m 36 := by kernel_rfl
theorem Tc (m : Nat) : AS (m + 6) 36 = AS m 42 := by kernel_rfl
theorem S1 (m : Nat) : AS (m + 6) 42 = AS m 48 := by kernel_rfl
theorem SU (m : Nat) : AS (m + 6) 48 = AS m 54 := by kernel_rfl
theorem S7 (m : Nat) : AS (m + 6) 54 = AS m 60 := by kernel_rfl
theorem c : AS 60 0 = AS 0 60 :=
  (S0 54).trans ((Te 48).trans ((Ti 42).trans ((S8 36).trans ((S6 30).trans ((Tb 24).trans ((Tc 18).trans ((S1 12).trans ((SU 6).trans (S7 0)))))))))
end Go.Proofs.YtbeeigejcihadaaGreat.Rs
