/- Layer 1: HearBest. -/
import Derived.Test.YtejkgppikpkkpaaGreatZFHM
namespace Go.Proofs.YtejkgppikpkkpaaGreat
open Go.PL Go.Hear
section
variable {wide : Int} {ps : List Int} {w v : Int}
theorem many_l1 : ∀ (l : List Int) (n : Int), 0 ≤ n → n + l.length ≤ 1000000 → oyezlaw01_many_l1 l n = some (n + ((l.countP fun x => decide (x = 0) : Nat) : Int))
  | [], n, _, _ => by unfold oyezlaw01_many_l1; simp
  | x :: l, n, h0, h => by
    simp only [List.length_cons] at h
    unfold oyezlaw01_many_l1
    rw [List.countP_cons]
    by_cases hx : x = 0
    · rw [if_pos hx, gd_t (r64_small (by omega)), many_l1 l (n + 1) (by omega) (by omega), if_pos (decide_eq_true hx)]
      congr 1; omega
    · rw [if_neg hx, many_l1 l n h0 (by omega), if_neg (fun h' => hx (of_decide_eq_true h'))]
      rfl
theorem stN_count : ∀ ps : List Int, (stN ps).length = ps.countP fun x => decide (x = 0) := fun ps => by
  unfold stN
  rw [← List.countP_eq_length_filter]
  have : ps = (List.range ps.length).map fun s => ps.getD s 0 := by
    apply List.ext_getElem
    · simp
    · intro i h1 h2
      simp [List.getD_eq_getElem?_getD, h1]
  conv => rhs; rw [this]
  rw [List.countP_map]
  rfl
end
section
variable {wide : Int} {ps : List Int} {w v : Int} {H : List Int} {stands : Int}
end
end Go.Proofs.YtejkgppikpkkpaaGreat
