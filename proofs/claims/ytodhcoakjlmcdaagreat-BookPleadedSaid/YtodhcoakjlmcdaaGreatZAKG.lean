/- Layer 7: a reading more; BookRead; in plain Lean. -/
import Derived.Test.YtodhcoakjlmcdaaGreatZAKF
namespace Go.Proofs.YtodhcoakjlmcdaaGreat.Bk
open Go.PL
section
variable {n n2 : Int} {hs : List (List (List Int))} {rs : List Int} {cs : List (Int × Int × Int)}
theorem BOK.set (h : BOK n n2 hs rs cs) (k : Nat) {p : Int} (hp : -1 ≤ p ∧ p ≤ 7) : BOK n n2 hs (rs.set k p) cs :=
  ⟨h.hn, h.hn2, h.hh, by rw [List.length_set]; exact h.hr, h.hc, h.h8, h.hl, fun r hr => (List.mem_or_eq_of_mem_set hr).elim (h.rr r) (fun e => e ▸ hp), by rw [List.length_set]; exact h.cc⟩
/-- How many go through a wind, whatever is read in its hour. -/
def UW (rs : List Int) (k : Nat) (w : Int) : Nat := S ((rs.take k).reverse) w * S (rs.drop (k + 1)) w
theorem thr_set {k : Nat} (hk : k < rs.length) (p w : Int) : thr (rs.set k p) k w = if canB p w = true then UW rs k w else 0 := by
  rw [thr_eq (by rw [List.length_set]; exact hk), getD_setI hk, if_pos rfl]
  unfold UW
  rw [List.take_set_of_le (Nat.le_refl _), List.drop_set_of_lt (by omega)]
theorem cnt_set {k : Nat} (hk : k < rs.length) (p : Int) : cntR (rs.set k p) = sm (fun w => if canB p w = true then UW rs k w else 0) W8 := by
  rw [← thr_sum (h := k) (by rw [List.length_set]; exact hk)]
  exact sm_congr fun w _ => thr_set hk p w
end
end Go.Proofs.YtodhcoakjlmcdaaGreat.Bk
