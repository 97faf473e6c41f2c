/- Layer 7: how many courses fit; in plain Lean. -/
import Derived.Test.YtodhcoakjlmcdaaGreatZAKD
import Derived.Test.YtodhcoakjlmcdaaGreatZARv
namespace Go.Proofs.YtodhcoakjlmcdaaGreat.Bk
open Go.PL
def sm (f : Int → Nat) : List Int → Nat
  | [] => 0
  | x :: l => f x + sm f l
theorem sm_cons (f : Int → Nat) (x : Int) (l : List Int) : sm f (x :: l) = f x + sm f l := rfl
theorem sm_congr {f g : Int → Nat} : ∀ {l : List Int}, (∀ x ∈ l, f x = g x) → sm f l = sm g l
  | [], _ => rfl
  | x :: l, h => by
    unfold sm
    rw [h x (by simp), sm_congr fun y hy => h y (by simp [hy])]
theorem sm_add (f g : Int → Nat) : ∀ l : List Int, sm (fun x => f x + g x) l = sm f l + sm g l
  | [] => rfl
  | x :: l => by unfold sm; rw [sm_add f g l]; omega
theorem sm_mul (c : Nat) (f : Int → Nat) : ∀ l : List Int, sm (fun x => c * f x) l = c * sm f l
  | [] => rfl
  | x :: l => by unfold sm; rw [sm_mul c f l, Nat.mul_add]
theorem sm_zero : ∀ l : List Int, sm (fun _ => 0) l = 0
  | [] => rfl
  | x :: l => by unfold sm; rw [sm_zero l]
theorem sm_swap (f : Int → Int → Nat) : ∀ l m : List Int, sm (fun x => sm (f x) m) l = sm (fun y => sm (fun x => f x y) l) m
  | [], m => by
    show 0 = sm (fun _ => 0) m
    rw [sm_zero]
  | x :: l, m => by
    show sm (f x) m + sm (fun x => sm (f x) m) l = sm (fun y => f x y + sm (fun x => f x y) l) m
    rw [sm_swap f l m, sm_add]
theorem sm_filter (f : Int → Nat) (p : Int → Bool) : ∀ l : List Int, sm f (l.filter p) = sm (fun x => if p x = true then f x else 0) l
  | [] => rfl
  | x :: l => by
    by_cases h : p x = true
    · rw [List.filter_cons_of_pos h, sm_cons, sm_cons, sm_filter f p l, if_pos h]
    · rw [List.filter_cons_of_neg h, sm_cons, sm_filter f p l, if_neg h, Nat.zero_add]
def G : List Int → Int → Nat
  | [], _ => 1
  | r :: X, w => if canB r w = true then (match X with | [] => 1 | _ :: _ => sm (G X) (nearL w)) else 0
def S (X : List Int) (w : Int) : Nat := match X with | [] => 1 | _ :: _ => sm (G X) (nearL w)
theorem G_cons (r : Int) (X : List Int) (w : Int) : G (r :: X) w = if canB r w = true then S X w else 0 := by cases X <;> rfl
theorem S_cons (r : Int) (X : List Int) (w : Int) : S (r :: X) w = sm (G (r :: X)) (nearL w) := rfl
/-- How many courses fit that have a wind in an hour. -/
def thr (rs : List Int) (h : Nat) (w : Int) : Nat := G ((rs.take (h + 1)).reverse) w * G (rs.drop h) w
theorem take_rev {rs : List Int} {h : Nat} (hh : h < rs.length) : (rs.take (h + 1)).reverse = rs.getD h 0 :: (rs.take h).reverse := by
  rw [List.take_add_one, getD_of (d := 0) hh]; simp
theorem drop_at {rs : List Int} {h : Nat} (hh : h < rs.length) : rs.drop h = rs.getD h 0 :: rs.drop (h + 1) := by
  rw [List.drop_eq_getElem_cons hh, List.getD_eq_getElem?_getD, List.getElem?_eq_getElem hh]; rfl
theorem thr_eq {rs : List Int} {h : Nat} (hh : h < rs.length) (w : Int) : thr rs h w = if canB (rs.getD h 0) w = true then S ((rs.take h).reverse) w * S (rs.drop (h + 1)) w else 0 := by
  unfold thr
  rw [take_rev hh, drop_at hh, G_cons, G_cons]
  split <;> simp
/-- How many courses fit. -/
def cntR (rs : List Int) : Nat := sm (G rs) W8
theorem near_sum (f : Int → Nat) (w : Int) : sm f (nearL w) = sm (fun v => if nearB v w = true then f v else 0) W8 := sm_filter f _ _
theorem thr_next {rs : List Int} {h : Nat} (hh : h + 1 < rs.length) : sm (thr rs h) W8 = sm (thr rs (h + 1)) W8 := by
  have e1 : ∀ w, thr rs h w = sm (fun v => if nearB v w = true ∧ canB (rs.getD h 0) w = true ∧ canB (rs.getD (h + 1) 0) v = true then S ((rs.take h).reverse) w * S (rs.drop (h + 2)) v else 0) W8 := fun w => by
    rw [thr_eq (by omega), drop_at hh, S_cons, near_sum]
    by_cases h1 : canB (rs.getD h 0) w = true
    · rw [if_pos h1, ← sm_mul]
      refine sm_congr fun v _ => ?_
      by_cases h2 : nearB v w = true
      · rw [if_pos h2, G_cons]
        by_cases h3 : canB (rs.getD (h + 1) 0) v = true
        · rw [if_pos h3, if_pos ⟨h2, h1, h3⟩]
        · rw [if_neg h3, if_neg (fun h => h3 h.2.2), Nat.mul_zero]
      · rw [if_neg h2, if_neg (fun h => h2 h.1), Nat.mul_zero]
    · rw [if_neg h1]
      rw [show (fun v => if nearB v w = true ∧ canB (rs.getD h 0) w = true ∧ canB (rs.getD (h + 1) 0) v = true then S ((rs.take h).reverse) w * S (rs.drop (h + 2)) v else 0) = fun _ => 0 from funext fun v => if_neg (fun h => h1 h.2.1), sm_zero]
  have e2 : ∀ v, thr rs (h + 1) v = sm (fun w => if nearB v w = true ∧ canB (rs.getD h 0) w = true ∧ canB (rs.getD (h + 1) 0) v = true then S ((rs.take h).reverse) w * S (rs.drop (h + 2)) v else 0) W8 := fun v => by
    rw [thr_eq hh, take_rev (by omega), S_cons, near_sum]
    by_cases h1 : canB (rs.getD (h + 1) 0) v = true
    · rw [if_pos h1, Nat.mul_comm, ← sm_mul]
      refine sm_congr fun w _ => ?_
      by_cases h2 : nearB w v = true
      · rw [if_pos h2, G_cons]
        by_cases h3 : canB (rs.getD h 0) w = true
        · rw [if_pos h3, if_pos ⟨by rw [near_comm]; exact h2, h3, h1⟩, Nat.mul_comm]
        · rw [if_neg h3, if_neg (fun h => h3 h.2.1), Nat.mul_zero]
      · rw [if_neg h2, if_neg (fun h => h2 (by rw [near_comm]; exact h.1)), Nat.mul_zero]
    · rw [if_neg h1]
      rw [show (fun w => if nearB v w = true ∧ canB (rs.getD h 0) w = true ∧ canB (rs.getD (h + 1) 0) v = true then S ((rs.take h).reverse) w * S (rs.drop (h + 2)) v else 0) = fun _ => 0 from funext fun v => if_neg (fun h => h1 h.2.2), sm_zero]
  rw [sm_congr (f := thr rs h) fun w _ => e1 w, sm_congr (f := thr rs (h + 1)) fun w _ => e2 w]
  exact sm_swap _ _ _
theorem thr_zero {rs : List Int} (hr : 0 < rs.length) : sm (thr rs 0) W8 = cntR rs := by
  refine sm_congr fun w _ => ?_
  rw [thr_eq hr, List.take_zero]
  have : rs = rs.getD 0 0 :: rs.drop 1 := by rw [← drop_at hr]; rfl
  conv => rhs; rw [this]
  rw [G_cons]
  show (if _ then 1 * S (rs.drop 1) w else 0) = _
  rw [Nat.one_mul]
theorem thr_sum {rs : List Int} : ∀ {h : Nat}, h < rs.length → sm (thr rs h) W8 = cntR rs
  | 0, hh => thr_zero hh
  | h + 1, hh => by rw [← thr_next hh]; exact thr_sum (by omega)
theorem FitF.take : ∀ {p : Option Int} {rs c : List Int} (k : Nat), FitF p rs c → FitF p (rs.take k) (c.take k)
  | _, [], [], 0, _ => trivial
  | _, [], [], _ + 1, _ => trivial
  | _, _ :: _, _ :: _, 0, _ => trivial
  | _, _ :: _, _ :: _, k + 1, ⟨h1, h2, h3, h4⟩ => ⟨h1, h2, h3, FitF.take k h4⟩
  | _, [], _ :: _, _, h => h.elim
  | _, _ :: _, [], _, h => h.elim
theorem FitF.none_of {p : Option Int} : ∀ {rs c : List Int}, FitF p rs c → FitF none rs c
  | [], [], _ => trivial
  | _ :: _, _ :: _, ⟨h1, h2, _, h4⟩ => ⟨h1, h2, (fun _ h => nomatch h), h4⟩
  | [], _ :: _, h => h.elim
  | _ :: _, [], h => h.elim
theorem FitF.drop : ∀ {p : Option Int} {rs c : List Int} (k : Nat), FitF p rs c → FitF none (rs.drop k) (c.drop k)
  | _, [], [], 0, _ => trivial
  | _, [], [], _ + 1, _ => trivial
  | _, _ :: _, _ :: _, 0, h => h.none_of
  | _, _ :: _, _ :: _, k + 1, ⟨_, _, _, h4⟩ => FitF.drop k h4
  | _, [], _ :: _, _, h => h.elim
  | _, _ :: _, [], _, h => h.elim
section
variable {n n2 : Int} {hs : List (List (List Int))} {rs : List Int} {cs : List (Int × Int × Int)}
end
end Go.Proofs.YtodhcoakjlmcdaaGreat.Bk
