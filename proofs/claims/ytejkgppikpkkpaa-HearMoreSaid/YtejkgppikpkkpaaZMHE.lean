/- Layer 1: tables that are tried; copies; HearNeeds. -/
import Derived.Test.YtejkgppikpkkpaaZMHD
namespace Go.Proofs.Ytejkgppikpkkpaa
open Go.PL Go.Hear
open Classical
theorem equal_l2 (f : List Int → Int → Option Bool) (b : List Int) (hf : ∀ l k, f l k = match l with | [] => some true | x :: tl => ix b k fun y => if x ≠ y then some false else f tl (k + 1)) :
    ∀ (l pre : List Int) (k : Int), k = pre.length → pre.length + l.length = b.length → f l k = some (decide (l = b.drop pre.length))
  | [], pre, k, _, h => by
    rw [hf, List.drop_eq_nil_of_le (by simp at h; omega)]; rfl
  | x :: l, pre, k, hk, h => by
    simp only [List.length_cons] at h
    have hd : b.drop pre.length = b.getD pre.length 0 :: b.drop (pre.length + 1) := by
      rw [List.drop_eq_getElem_cons (by omega), List.getD_eq_getElem?_getD, List.getElem?_eq_getElem (by omega)]; rfl
    have hkn : k.toNat = pre.length := by omega
    rw [hf, hd]
    show ix b k _ = _
    rw [ix_get _ (by omega) (by omega), hkn]
    by_cases hx : x = b.getD pre.length 0
    · rw [if_neg (not_not_intro hx), equal_l2 f b hf l (pre ++ [x]) (k + 1) (by simp; omega) (by simp; omega)]
      simp only [List.length_append, List.length_singleton]
      congr 1; rw [decide_eq_decide]
      constructor
      · intro h; rw [h, hx]
      · intro h; exact (List.cons.inj h).2
    · rw [if_pos hx]
      congr 1; symm; rw [decide_eq_false_iff_not]
      intro h; exact hx (List.cons.inj h).1
theorem like_eq (a b : List Int) : oyezkit_Like_int a b = some (decide (a = b)) := by
  unfold oyezkit_Like_int slices_Equal_int_int
  by_cases h : (a.length : Int) = b.length
  · rw [if_neg (not_not_intro h), equal_l2 (slices_Equal_int_int_l2 b) b (fun l k => by cases l <;> rfl) a [] 0 rfl (by simp; omega), b1_some]
    simp
  · rw [if_pos h, b1_some]
    congr 1; symm; rw [decide_eq_false_iff_not]
    rintro rfl; exact h rfl
section
variable {wide : Int} {ps : List Int} {w : Int} {t : List Int}
end
theorem awake_t : oyezlaw01_awake = some true := by decide +kernel
end Go.Proofs.Ytejkgppikpkkpaa
