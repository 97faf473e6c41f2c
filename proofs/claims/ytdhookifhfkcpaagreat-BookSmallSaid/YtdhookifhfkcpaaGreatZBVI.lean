/- BookSmall: small books in many ways; BookSmall. -/
import Derived.Test.YtdhookifhfkcpaaGreatZBTd
import Derived.Test.YtdhookifhfkcpaaGreatZBVH
import Derived.KernelRfl
namespace Go.Proofs.YtdhookifhfkcpaaGreat.Bs
open Go.PL
theorem Tq (m : Nat) : Bb (m + 18) 0 = Bb m 18 := by kernel_rfl
theorem Tu (m : Nat) : Bb (m + 18) 18 = Bb m 36 := by kernel_rfl
theorem Ts (m : Nat) : Bb (m + 18) 36 = Bb m 54 := by kernel_rfl
theorem Tp (m : Nat) : Bb (m + 18) 54 = Bb m 72 := by kernel_rfl
theorem Tn (m : Nat) : Bb (m + 9) 72 = Bb m 81 := by kernel_rfl
theorem c : Bb 81 0 = Bb 0 81 :=
  (Tq 63).trans ((Tu 45).trans ((Ts 27).trans ((Tp 9).trans (Tn 0))))
theorem e1 : BJ 0 0 [] [] [] 0 0 = some true := by kernel_rfl
theorem e2 : Cs 0 0 [] [] [] [] [] = some true := by kernel_rfl
theorem e3 : Cc = some true := by kernel_rfl
theorem CE {x : Int} (h : -1000 ≤ x ∧ x ≤ 1000) : Cn x := by unfold Cn; omega
theorem a' : Bg (Int.toNat (14 - 0)) 0 = some () := a
theorem c' : Bb (Int.toNat (81 - 0)) 0 = some () := c
theorem d' : Bf (Int.toNat (14 - 0)) 0 = some () := d
theorem Qa : Er = some true := by
  unfold Er
  rw [R5 ⟨CE (x := 0) (by decide), CE (x := 14) (by decide)⟩, a', R5 ⟨CE (x := 0) (by decide), CE (x := 81) (by decide)⟩, c', R5 ⟨CE (x := 0) (by decide), CE (x := 14) (by decide)⟩, d', e1, e2, e3]
  rfl
end Go.Proofs.YtdhookifhfkcpaaGreat.Bs
