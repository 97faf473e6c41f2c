/- Layer 7: how many courses fit; in plain Lean. -/
import Derived.Test.YtodhcoakjlmcdaaZEKD
import Derived.Test.YtodhcoakjlmcdaaZERv
namespace Go.Proofs.Ytodhcoakjlmcdaa.Bk
open Go.PL
def sm (f : Int → Nat) : List Int → Nat
  | [] => 0
  | x :: l => f x + sm f l
theorem sm_cons (f : Int → Nat) (x : Int) (l : List Int) : sm f (x :: l) = f x + sm f l := rfl
theorem sm_congr {f g : Int → Nat} : ∀ {l : List Int}, (∀ x ∈ l, f x = g x) → sm f l = sm g l
  | [], _ => rfl
  | x :: l, h => by
    unfold sm
    rw [h x (by simp), sm_congr fun y hy => h y (by simp [hy])]
theorem sm_le {f g : Int → Nat} : ∀ {l : List Int}, (∀ x ∈ l, f x ≤ g x) → sm f l ≤ sm g l
  | [], _ => Nat.le_refl _
  | x :: l, h => by
    unfold sm
    exact Nat.add_le_add (h x (by simp)) (sm_le fun y hy => h y (by simp [hy]))
theorem sm_add (f g : Int → Nat) : ∀ l : List Int, sm (fun x => f x + g x) l = sm f l + sm g l
  | [] => rfl
  | x :: l => by unfold sm; rw [sm_add f g l]; omega
theorem sm_mul (c : Nat) (f : Int → Nat) : ∀ l : List Int, sm (fun x => c * f x) l = c * sm f l
  | [] => rfl
  | x :: l => by unfold sm; rw [sm_mul c f l, Nat.mul_add]
theorem sm_zero : ∀ l : List Int, sm (fun _ => 0) l = 0
  | [] => rfl
  | x :: l => by unfold sm; rw [sm_zero l]
theorem sm_swap (f : Int → Int → Nat) : ∀ l m : List Int, sm (fun x => sm (f x) m) l = sm (fun y => sm (fun x => f x y) l) m
  | [], m => by
    show 0 = sm (fun _ => 0) m
    rw [sm_zero]
  | x :: l, m => by
    show sm (f x) m + sm (fun x => sm (f x) m) l = sm (fun y => f x y + sm (fun x => f x y) l) m
    rw [sm_swap f l m, sm_add]
theorem sm_filter (f : Int → Nat) (p : Int → Bool) : ∀ l : List Int, sm f (l.filter p) = sm (fun x => if p x = true then f x else 0) l
  | [] => rfl
  | x :: l => by
    by_cases h : p x = true
    · rw [List.filter_cons_of_pos h, sm_cons, sm_cons, sm_filter f p l, if_pos h]
    · rw [List.filter_cons_of_neg h, sm_cons, sm_filter f p l, if_neg h, Nat.zero_add]
theorem sm_const (c : Nat) : ∀ l : List Int, sm (fun _ => c) l = l.length * c
  | [] => by simp [sm]
  | x :: l => by unfold sm; rw [sm_const c l, List.length_cons, Nat.add_mul]; omega
def G : List Int → Int → Nat
  | [], _ => 1
  | r :: X, w => if canB r w = true then (match X with | [] => 1 | _ :: _ => sm (G X) (nearL w)) else 0
def S (X : List Int) (w : Int) : Nat := match X with | [] => 1 | _ :: _ => sm (G X) (nearL w)
theorem G_cons (r : Int) (X : List Int) (w : Int) : G (r :: X) w = if canB r w = true then S X w else 0 := by cases X <;> rfl
theorem S_cons (r : Int) (X : List Int) (w : Int) : S (r :: X) w = sm (G (r :: X)) (nearL w) := rfl
theorem G_le : ∀ (X : List Int) (w : Int), (0 ≤ w ∧ w ≤ 7) → G X w ≤ 3 ^ (X.length - 1)
  | [], _, _ => Nat.le_refl _
  | [r], w, _ => by rw [G_cons]; show (if _ then 1 else 0) ≤ 1; split <;> omega
  | r :: r2 :: X, w, hw => by
    rw [G_cons]
    have h1 : S (r2 :: X) w ≤ 3 ^ ((r :: r2 :: X).length - 1) := by
      rw [S_cons]
      have h2 : sm (G (r2 :: X)) (nearL w) ≤ sm (fun _ => 3 ^ ((r2 :: X).length - 1)) (nearL w) := sm_le fun v hv => G_le (r2 :: X) v (mem_nearL.1 hv).1
      rw [sm_const, nearL_len hw] at h2
      have e : 3 ^ ((r :: r2 :: X).length - 1) = 3 * 3 ^ ((r2 :: X).length - 1) := by
        simp only [List.length_cons, Nat.add_sub_cancel]
        rw [Nat.pow_succ]; omega
      omega
    split
    · exact h1
    · exact Nat.zero_le _
/-- How many courses fit that have a wind in an hour. -/
def thr (rs : List Int) (h : Nat) (w : Int) : Nat := G ((rs.take (h + 1)).reverse) w * G (rs.drop h) w
theorem take_rev {rs : List Int} {h : Nat} (hh : h < rs.length) : (rs.take (h + 1)).reverse = rs.getD h 0 :: (rs.take h).reverse := by
  rw [List.take_add_one, getD_of (d := 0) hh]; simp
theorem drop_at {rs : List Int} {h : Nat} (hh : h < rs.length) : rs.drop h = rs.getD h 0 :: rs.drop (h + 1) := by
  rw [List.drop_eq_getElem_cons hh, List.getD_eq_getElem?_getD, List.getElem?_eq_getElem hh]; rfl
theorem thr_eq {rs : List Int} {h : Nat} (hh : h < rs.length) (w : Int) : thr rs h w = if canB (rs.getD h 0) w = true then S ((rs.take h).reverse) w * S (rs.drop (h + 1)) w else 0 := by
  unfold thr
  rw [take_rev hh, drop_at hh, G_cons, G_cons]
  split <;> simp
/-- How many courses fit. -/
def cntR (rs : List Int) : Nat := sm (G rs) W8
theorem near_sum (f : Int → Nat) (w : Int) : sm f (nearL w) = sm (fun v => if nearB v w = true then f v else 0) W8 := sm_filter f _ _
theorem thr_next {rs : List Int} {h : Nat} (hh : h + 1 < rs.length) : sm (thr rs h) W8 = sm (thr rs (h + 1)) W8 := by
  have e1 : ∀ w, thr rs h w = sm (fun v => if nearB v w = true ∧ canB (rs.getD h 0) w = true ∧ canB (rs.getD (h + 1) 0) v = true then S ((rs.take h).reverse) w * S (rs.drop (h + 2)) v else 0) W8 := fun w => by
    rw [thr_eq (by omega), drop_at hh, S_cons, near_sum]
    by_cases h1 : canB (rs.getD h 0) w = true
    · rw [if_pos h1, ← sm_mul]
      refine sm_congr fun v _ => ?_
      by_cases h2 : nearB v w = true
      · rw [if_pos h2, G_cons]
        by_cases h3 : canB (rs.getD (h + 1) 0) v = true
        · rw [if_pos h3, if_pos ⟨h2, h1, h3⟩]
        · rw [if_neg h3, if_neg (fun h => h3 h.2.2), Nat.mul_zero]
      · rw [if_neg h2, if_neg (fun h => h2 h.1), Nat.mul_zero]
    · rw [if_neg h1]
      rw [show (fun v => if nearB v w = true ∧ canB (rs.getD h 0) w = true ∧ canB (rs.getD (h + 1) 0) v = true then S ((rs.take h).reverse) w * S (rs.drop (h + 2)) v else 0) = fun _ => 0 from funext fun v => if_neg (fun h => h1 h.2.1), sm_zero]
  have e2 : ∀ v, thr rs (h + 1) v = sm (fun w => if nearB v w = true ∧ canB (rs.getD h 0) w = true ∧ canB (rs.getD (h + 1) 0) v = true then S ((rs.take h).reverse) w * S (rs.drop (h + 2)) v else 0) W8 := fun v => by
    rw [thr_eq hh, take_rev (by omega), S_cons, near_sum]
    by_cases h1 : canB (rs.getD (h + 1) 0) v = true
    · rw [if_pos h1, Nat.mul_comm, ← sm_mul]
      refine sm_congr fun w _ => ?_
      by_cases h2 : nearB w v = true
      · rw [if_pos h2, G_cons]
        by_cases h3 : canB (rs.getD h 0) w = true
        · rw [if_pos h3, if_pos ⟨by rw [near_comm]; exact h2, h3, h1⟩, Nat.mul_comm]
        · rw [if_neg h3, if_neg (fun h => h3 h.2.1), Nat.mul_zero]
      · rw [if_neg h2, if_neg (fun h => h2 (by rw [near_comm]; exact h.1)), Nat.mul_zero]
    · rw [if_neg h1]
      rw [show (fun w => if nearB v w = true ∧ canB (rs.getD h 0) w = true ∧ canB (rs.getD (h + 1) 0) v = true then S ((rs.take h).reverse) w * S (rs.drop (h + 2)) v else 0) = fun _ => 0 from funext fun v => if_neg (fun h => h1 h.2.2), sm_zero]
  rw [sm_congr (f := thr rs h) fun w _ => e1 w, sm_congr (f := thr rs (h + 1)) fun w _ => e2 w]
  exact sm_swap _ _ _
theorem thr_zero {rs : List Int} (hr : 0 < rs.length) : sm (thr rs 0) W8 = cntR rs := by
  refine sm_congr fun w _ => ?_
  rw [thr_eq hr, List.take_zero]
  have : rs = rs.getD 0 0 :: rs.drop 1 := by rw [← drop_at hr]; rfl
  conv => rhs; rw [this]
  rw [G_cons]
  show (if _ then 1 * S (rs.drop 1) w else 0) = _
  rw [Nat.one_mul]
theorem thr_sum {rs : List Int} : ∀ {h : Nat}, h < rs.length → sm (thr rs h) W8 = cntR rs
  | 0, hh => thr_zero hh
  | h + 1, hh => by rw [← thr_next hh]; exact thr_sum (by omega)
theorem FitF.take : ∀ {p : Option Int} {rs c : List Int} (k : Nat), FitF p rs c → FitF p (rs.take k) (c.take k)
  | _, [], [], 0, _ => trivial
  | _, [], [], _ + 1, _ => trivial
  | _, _ :: _, _ :: _, 0, _ => trivial
  | _, _ :: _, _ :: _, k + 1, ⟨h1, h2, h3, h4⟩ => ⟨h1, h2, h3, FitF.take k h4⟩
  | _, [], _ :: _, _, h => h.elim
  | _, _ :: _, [], _, h => h.elim
theorem FitF.none_of {p : Option Int} : ∀ {rs c : List Int}, FitF p rs c → FitF none rs c
  | [], [], _ => trivial
  | _ :: _, _ :: _, ⟨h1, h2, _, h4⟩ => ⟨h1, h2, (fun _ h => nomatch h), h4⟩
  | [], _ :: _, h => h.elim
  | _ :: _, [], h => h.elim
theorem FitF.drop : ∀ {p : Option Int} {rs c : List Int} (k : Nat), FitF p rs c → FitF none (rs.drop k) (c.drop k)
  | _, [], [], 0, _ => trivial
  | _, [], [], _ + 1, _ => trivial
  | _, _ :: _, _ :: _, 0, h => h.none_of
  | _, _ :: _, _ :: _, k + 1, ⟨_, _, _, h4⟩ => FitF.drop k h4
  | _, [], _ :: _, _, h => h.elim
  | _, _ :: _, [], _, h => h.elim
/-- A table of numbers for each hour and wind. -/
def Tab (T : List (List Int)) (f : Nat → Nat → Int) (R : Nat) : Prop := T.length = R ∧ ∀ j, j < R → (T.getD j []).length = 8 ∧ ∀ w, w < 8 → (T.getD j []).getD w 0 = f j w
theorem reverse_l1 (xs : List Int) (hx : xs.length ≤ 100000) : ∀ (fu k : Nat), k ≤ xs.length → xs.length - k < fu → slices_Reverse_int_int_l1 fu (Rv.revK 0 xs k) (k : Int) ((xs.length : Int) - 1 - k) = some xs.reverse
  | 0, k, hk, hf => by omega
  | fu + 1, k, hk, hf => by
    unfold slices_Reverse_int_int_l1
    by_cases h : (k : Int) < (xs.length : Int) - 1 - k
    · have hj : (xs.length : Int) - 1 - k = ((xs.length - 1 - k : Nat) : Int) := by omega
      rw [if_pos h, hj, ixI _ (by rw [Rv.revK_len]; omega), ixI _ (by rw [Rv.revK_len]; omega), bvE, Int.toNat_natCast, ixI _ (by rw [List.length_set, Rv.revK_len]; omega), bvE, Int.toNat_natCast, gd_t (r64_small (by omega)), gd_t (r64_small (by omega)), Rv.revK_step rfl (by omega)]
      have := reverse_l1 xs hx fu (k + 1) (by omega) (by omega)
      rw [show (k : Int) + 1 = ((k + 1 : Nat) : Int) by omega, show ((xs.length - 1 - k : Nat) : Int) - 1 = (xs.length : Int) - 1 - ((k + 1 : Nat) : Int) by omega]
      exact this
    · rw [if_neg h, Rv.revK_end (by omega)]
theorem reverse_eq (xs : List Int) (hx : xs.length ≤ 100000) : slices_Reverse_int_int xs = some xs.reverse := by
  unfold slices_Reverse_int_int
  have := reverse_l1 xs hx FU 0 (Nat.zero_le _) (by unfold FU; omega)
  rw [Rv.revK_zero] at this
  have this' : slices_Reverse_int_int_l1 FU xs 0 ((xs.length : Int) - 1) = some xs.reverse := by
    rw [show (xs.length : Int) - 1 = (xs.length : Int) - 1 - ((0 : Nat) : Int) by omega]; exact this
  rw [gd_t (r64_small (by omega)), this']
section
variable {n n2 : Int} {hs : List (List (List Int))} {rs : List Int} {cs : List (Int × Int × Int)}
theorem ways_l3 {k w : Nat} (hw : w < 8) (hk1 : 1 ≤ k) (hk9 : k ≤ 100) : ∀ (y : List Int) (out : List (List Int)), (∀ v ∈ y, 0 ≤ v ∧ v ≤ 7) → k < out.length → (out.getD k []).length = 8 → (out.getD (k - 1) []).length = 8 → (∀ v, v < 8 → 0 ≤ (out.getD (k - 1) []).getD v 0 ∧ (out.getD (k - 1) []).getD v 0 ≤ 5000) → 0 ≤ (out.getD k []).getD w 0 → (out.getD k []).getD w 0 + 5000 * y.length ≤ 1000000 →
    ∃ R, book_desk_ways_l3 (k : Int) (w : Int) y out = some R ∧ R.length = out.length ∧ (∀ j, j ≠ k → R.getD j [] = out.getD j []) ∧ (R.getD k []).length = 8 ∧ (∀ v, v ≠ w → (R.getD k []).getD v 0 = (out.getD k []).getD v 0) ∧ (R.getD k []).getD w 0 = (out.getD k []).getD w 0 + (sm (fun v => ((out.getD (k - 1) []).getD v.toNat 0).toNat) y : Int)
  | [], out, _, _, h8, _, _, _, _ => ⟨out, rfl, rfl, fun _ _ => rfl, h8, fun _ _ => rfl, by simp [sm]⟩
  | v :: y, out, hy, hk, h8, h8', hb, h0, hB => by
    have hv := hy v (by simp)
    rw [List.length_cons] at hB
    have hb1 := hb v.toNat (by omega)
    have e1 : ((out.set k ((out.getD k []).set w ((out.getD k []).getD w 0 + (out.getD (k - 1) []).getD v.toNat 0))).getD k []) = (out.getD k []).set w ((out.getD k []).getD w 0 + (out.getD (k - 1) []).getD v.toNat 0) := by rw [getD_setI hk, if_pos rfl]
    have e2 : ((out.set k ((out.getD k []).set w ((out.getD k []).getD w 0 + (out.getD (k - 1) []).getD v.toNat 0))).getD (k - 1) []) = out.getD (k - 1) [] := by rw [getD_setI hk, if_neg (by omega)]
    obtain ⟨R, g1, g2, g3, g4, g5, g6⟩ := ways_l3 hw hk1 hk9 y (out.set k ((out.getD k []).set w ((out.getD k []).getD w 0 + (out.getD (k - 1) []).getD v.toNat 0))) (fun x hx => hy x (by simp [hx])) (by rw [List.length_set]; exact hk) (by rw [e1, List.length_set]; exact h8) (by rw [e2]; exact h8') (by rw [e2]; exact hb) (by rw [e1, getD_setI (by omega), if_pos rfl]; omega) (by rw [e1, getD_setI (by omega), if_pos rfl]; omega)
    refine ⟨R, ?_, by rw [g2, List.length_set], fun j hj => by rw [g3 j hj, getD_setI hk, if_neg (fun e => hj e.symm)], g4, fun u hu => by rw [g5 u hu, e1, getD_setI (by omega), if_neg (fun e => hu e.symm)], ?_⟩
    · unfold book_desk_ways_l3
      rw [ixN [] _ hk, ixI _ (by omega), gd_t (r64_small (by omega)), show (k : Int) - 1 = ((k - 1 : Nat) : Int) by omega, ixN [] _ (by omega), ixD 0 _ hv.1 (by omega), gd_t (r64_small (by omega)), bvE, Int.toNat_natCast, Int.toNat_natCast]
      exact g1
    · rw [g6, e1, e2, getD_setI (by omega), if_pos rfl]
      rw [sm_cons]
      omega
end
end Go.Proofs.Ytodhcoakjlmcdaa.Bk
