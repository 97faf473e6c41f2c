/- Layer 1: tables that are tried; copies; HearNeeds. -/
import Derived.Test.YtejkgppikpkkpaaGreatZFHD
namespace Go.Proofs.YtejkgppikpkkpaaGreat
open Go.PL Go.Hear
open Classical
theorem cpy_self {α : Type} {l : List α} {z : α} : cpy (List.replicate l.length z) l = l := by simp [cpy]
theorem copyP_eq {l : List Int} (h : l.length ≤ 1000000) : oyezkit_Copy_Plot l = some l := by
  unfold oyezkit_Copy_Plot
  rw [gd_t (by omega), bvE, Int.toNat_natCast, cpy_self, bvE]
theorem copy_eq {l : List Int} (h : l.length ≤ 1000000) : oyezkit_Copy_int l = some l := by
  unfold oyezkit_Copy_int
  rw [gd_t (by omega), bvE, Int.toNat_natCast, cpy_self, bvE]
theorem own_eq {wide : Int} {ps : List Int} (h : ps.length ≤ 1000) : oyezlaw01_Own wide ps = some (wide, ps) := by
  unfold oyezlaw01_Own
  rw [copyP_eq (by omega), b1_some]
theorem theirs_l1 : ∀ (l acc : List Int), acc.length + l.length ≤ 1000000 → oyezlaw01_theirs_l1 l acc = some (acc ++ l)
  | [], acc, _ => by simp [oyezlaw01_theirs_l1]
  | x :: l, acc, h => by
    unfold oyezlaw01_theirs_l1
    simp only [List.length_cons] at h
    rw [ap_t (by simp; omega), theirs_l1 l (acc ++ [x]) (by simp; omega)]
    simp
theorem theirs_eq {wide : Int} {ps : List Int} (h : ps.length ≤ 1000) : oyezlaw01_theirs wide ps = some (wide, ps) := by
  unfold oyezlaw01_theirs
  rw [theirs_l1 ps [] (by simp; omega), b1_some]; rfl
theorem equal_l2 (f : List Int → Int → Option Bool) (b : List Int) (hf : ∀ l k, f l k = match l with | [] => some true | x :: tl => ix b k fun y => if x ≠ y then some false else f tl (k + 1)) :
    ∀ (l pre : List Int) (k : Int), k = pre.length → pre.length + l.length = b.length → f l k = some (decide (l = b.drop pre.length))
  | [], pre, k, _, h => by
    rw [hf, List.drop_eq_nil_of_le (by simp at h; omega)]; rfl
  | x :: l, pre, k, hk, h => by
    simp only [List.length_cons] at h
    have hd : b.drop pre.length = b.getD pre.length 0 :: b.drop (pre.length + 1) := by
      rw [List.drop_eq_getElem_cons (by omega), List.getD_eq_getElem?_getD, List.getElem?_eq_getElem (by omega)]; rfl
    have hkn : k.toNat = pre.length := by omega
    rw [hf, hd]
    show ix b k _ = _
    rw [ix_get _ (by omega) (by omega), hkn]
    by_cases hx : x = b.getD pre.length 0
    · rw [if_neg (not_not_intro hx), equal_l2 f b hf l (pre ++ [x]) (k + 1) (by simp; omega) (by simp; omega)]
      simp only [List.length_append, List.length_singleton]
      congr 1; rw [decide_eq_decide]
      constructor
      · intro h; rw [h, hx]
      · intro h; exact (List.cons.inj h).2
    · rw [if_pos hx]
      congr 1; symm; rw [decide_eq_false_iff_not]
      intro h; exact hx (List.cons.inj h).1
theorem like_eq (a b : List Int) : oyezkit_Like_int a b = some (decide (a = b)) := by
  unfold oyezkit_Like_int slices_Equal_int_int
  by_cases h : (a.length : Int) = b.length
  · rw [if_neg (not_not_intro h), equal_l2 (slices_Equal_int_int_l2 b) b (fun l k => by cases l <;> rfl) a [] 0 rfl (by simp; omega), b1_some]
    simp
  · rw [if_pos h, b1_some]
    congr 1; symm; rw [decide_eq_false_iff_not]
    rintro rfl; exact h rfl
theorem likeP_eq (a b : List Int) : oyezkit_Like_Plot a b = some (decide (a = b)) := by
  unfold oyezkit_Like_Plot slices_Equal_hear_Plot_hear_Plot
  by_cases h : (a.length : Int) = b.length
  · rw [if_neg (not_not_intro h), equal_l2 (slices_Equal_hear_Plot_hear_Plot_l2 b) b (fun l k => by cases l <;> rfl) a [] 0 rfl (by simp; omega), b1_some]
    simp
  · rw [if_pos h, b1_some]
    congr 1; symm; rw [decide_eq_false_iff_not]
    rintro rfl; exact h rfl
theorem same_eq (wide : Int) (ps : List Int) : oyezlaw01_same wide ps wide ps = some true := by
  unfold oyezlaw01_same
  rw [if_pos rfl, likeP_eq, b1_some]; simp
theorem great_eq (wide : Int) (ps : List Int) : oyezlaw01_great wide ps = some (decide (40 < (ps.length : Int))) := rfl
section
variable {wide : Int} {ps : List Int} {w : Int} {t : List Int}
end
theorem awake_t : oyezlaw01_awake = some true := by decide +kernel
end Go.Proofs.YtejkgppikpkkpaaGreat
