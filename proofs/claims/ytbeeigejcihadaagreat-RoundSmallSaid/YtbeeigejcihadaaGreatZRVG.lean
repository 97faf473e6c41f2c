/- RoundSmall: as many houses, cries and notices as there may be; RoundSmall. -/
import Derived.Test.YtbeeigejcihadaaGreatZRTd
import Derived.Test.YtbeeigejcihadaaGreatZRVE
import Derived.Test.YtbeeigejcihadaaGreatZRVF
import Derived.KernelRfl
namespace Go.Proofs.YtbeeigejcihadaaGreat.Rs
open Go.PL
theorem S4 (m : Nat) : AY (m + 1) 0 = AY m 1 := by kernel_rfl
theorem Td (m : Nat) : AY (m + 1) 1 = AY m 2 := by kernel_rfl
theorem S2 (m : Nat) : AY (m + 1) 2 = AY m 3 := by kernel_rfl
theorem S9 (m : Nat) : AY (m + 1) 3 = AY m 4 := by kernel_rfl
theorem SZ (m : Nat) : AY (m + 1) 4 = AY m 5 := by kernel_rfl
theorem Ta (m : Nat) : AY (m + 1) 5 = AY m 6 := by kernel_rfl
theorem Th (m : Nat) : AY (m + 1) 6 = AY m 7 := by kernel_rfl
theorem Tg (m : Nat) : AY (m + 1) 7 = AY m 8 := by kernel_rfl
theorem d : AY 8 0 = AY 0 8 :=
  (S4 7).trans ((Td 6).trans ((S2 5).trans ((S9 4).trans ((SZ 3).trans ((Ta 2).trans ((Th 1).trans (Tg 0)))))))
theorem e1 : B8 [] [] 0 0 [] 0 0 = some true := by kernel_rfl
theorem e2 : DU [] [] 0 0 [] [] = some true := by kernel_rfl
theorem e3 : BS = some true := by kernel_rfl
theorem Cs {x : Int} (h : -1000 ≤ x ∧ x ≤ 1000) : Ca x := by unfold Ca; omega
theorem a' : Bc (Int.toNat (17 - 0)) 0 = some () := a
theorem c' : AS (Int.toNat (60 - 0)) 0 = some () := c
theorem d' : AY (Int.toNat (8 - 0)) 0 = some () := d
theorem Pq : Eh = some true := by
  unfold Eh
  rw [RR ⟨Cs (x := 0) (by decide), Cs (x := 17) (by decide)⟩, a', RR ⟨Cs (x := 0) (by decide), Cs (x := 60) (by decide)⟩, c', RR ⟨Cs (x := 0) (by decide), Cs (x := 8) (by decide)⟩, d', e1, e2, e3]
  rfl
end Go.Proofs.YtbeeigejcihadaaGreat.Rs
