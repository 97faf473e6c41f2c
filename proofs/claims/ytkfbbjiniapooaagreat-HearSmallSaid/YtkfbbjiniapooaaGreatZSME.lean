/- HearSmall: the one town of three rows that is not reckoned, but known by the law for all towns. -/
import Derived.Test.YtkfbbjiniapooaaGreatZSMD
import Derived.KernelRfl
namespace Go.Proofs.YtkfbbjiniapooaaGreat.Sm
open Go.PL
theorem q1 : EE [1, 0, 0, 1, 1, 1, 0, 0, 1] 9 FU (Int.tmod 125 9) 0 = some 1 := by kernel_rfl
theorem q2 : Hm 3 [1, 0, 0, 1, 1, 1, 0, 0, 1] 0 1 = some ([3, 0, 2, 6, 3, 5, 7, 5, 8], 0) := by kernel_rfl
theorem q3 : KC 3 [1, 0, 0, 1, 1, 1, 0, 0, 1] 0 1 (Int.tmod (Int.tdiv 125 3) 9) = some ([1, 2, 5], 0) := by kernel_rfl
theorem q4 : HA 3 [1, 0, 0, 1, 1, 1, 0, 0, 1] = some [0, 3, 4, 5, 8] := by kernel_rfl
theorem q5 : CV 3 [1, 0, 0, 1, 1, 1, 0, 0, 1] 0 3 (Int.tmod (Int.tdiv 125 3) 9) = some true := by kernel_rfl
theorem q6 : EU 3 [1, 0, 0, 1, 1, 1, 0, 0, 1] 0 1 (Int.tmod (Int.tdiv 125 3) 9) [3, 0, 2, 6, 3, 5, 7, 5, 8] = some true := by kernel_rfl
theorem q7 : Fy 3 [1, 0, 0, 1, 1, 1, 0, 0, 1] 0 1 (Int.tmod (Int.tdiv 125 3) 9) [1, 2, 5] = some true := by kernel_rfl
theorem q8 : Dj 3 [1, 0, 0, 1, 1, 1, 0, 0, 1] 0 3 1 (Int.tmod (Int.tdiv 125 3) 9) = some true := by kernel_rfl
theorem q9 : Ck 3 [1, 0, 0, 1, 1, 1, 0, 0, 1] 0 3 [0, 3, 4, 5, 8] = some true := Rw (by decide)
theorem Wp : En 3 [1, 0, 0, 1, 1, 1, 0, 0, 1] 0 3 [0, 3, 4, 5, 8] (Int.tmod 125 4) = some true := by kernel_rfl
end Go.Proofs.YtkfbbjiniapooaaGreat.Sm
namespace Go.Proofs.YtkfbbjiniapooaaGreat.Sm
open Go.PL
theorem Zh {α β : Type} {a : α} {f : α → Option β} : bv a f = f a := rfl
set_option maxRecDepth 100000 in
theorem W0 : Fq 3 [1, 0, 0, 1, 1, 1, 0, 0, 1] 0 3 125 = some true := by
  unfold Fq
  rw [show (if (([1, 0, 0, 1, 1, 1, 0, 0, 1] : List Int).length : Int) > 1 then (([1, 0, 0, 1, 1, 1, 0, 0, 1] : List Int).length : Int) else 1) = 9 from by decide]
  rw [Zh]
  rw [BF (by decide), BF (by decide), BF (by decide)]
  rw [q1, Ax]
  rw [q2, Dt]
  rw [if_pos (by decide), Ax]
  rw [if_neg (by decide), Ax]
  rw [q3, Dt, if_pos (by decide), Ax, if_neg (by decide), Ax, q4, Ax, if_pos (by decide), Ax, if_neg (by decide), Ax, q5, Ax, if_pos rfl, q6, Ax, if_pos rfl, q7, Ax, if_pos rfl, q8, Ax, if_pos rfl, q9, Ax, if_pos rfl, Wp, Ax]
theorem Zd : (gd (Cm 0 ∧ Cm 9) <| CE 25 (Int.toNat (9 - 0)) 0 []) = some [1, 0, 0, 1, 1, 1, 0, 0, 1] := by kernel_rfl
set_option maxRecDepth 100000 in
theorem Yl (m : Nat) : Ab (m + 1) 25 = Ab m 26 := by
  have e : Fq 3 [1, 0, 0, 1, 1, 1, 0, 0, 1] (Int.tmod 25 5) (2 + (Int.tmod 25 8)) (5 * 25) = some true := W0
  rw [Ab, Zd, Ax, BF (by decide), BF (by decide), e, Ax, if_neg (by decide)]
  rfl
end Go.Proofs.YtkfbbjiniapooaaGreat.Sm
