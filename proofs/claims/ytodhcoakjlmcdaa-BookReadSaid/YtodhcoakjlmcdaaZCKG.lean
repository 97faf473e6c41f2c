/- Layer 7: a reading more; BookRead; in plain Lean. -/
import Derived.Test.YtodhcoakjlmcdaaZCKF
namespace Go.Proofs.Ytodhcoakjlmcdaa.Bk
open Go.PL
section
variable {n n2 : Int} {hs : List (List (List Int))} {rs : List Int} {cs : List (Int × Int × Int)}
theorem Read_l2 : ∀ (l acc : List (List Int)), (∀ x ∈ l, x.length ≤ 1000) → acc.length + l.length ≤ 100000 → book_Read_l2 l acc = some (acc ++ l)
  | [], acc, _, _ => by unfold book_Read_l2; rw [List.append_nil]
  | x :: l, acc, hx, hl => by
    rw [List.length_cons] at hl
    have := hx x (by simp)
    unfold book_Read_l2
    rw [clone_eq (by omega), b1_some, ap_t (by simp; omega), Read_l2 l _ (fun y hy => hx y (by simp [hy])) (by simp; omega), List.append_assoc]; rfl
theorem Read_l1 : ∀ (l acc : List (List (List Int))), (∀ w ∈ l, w.length = 8 ∧ ∀ x ∈ w, x.length ≤ 1000) → acc.length + l.length ≤ 100000 → book_Read_l1 l acc = some (acc ++ l)
  | [], acc, _, _ => by unfold book_Read_l1; rw [List.append_nil]
  | w :: l, acc, hw, hl => by
    rw [List.length_cons] at hl
    obtain ⟨h1, h2⟩ := hw w (by simp)
    unfold book_Read_l1
    rw [Read_l2 w [] h2 (by simp; omega), b1_some, List.nil_append, ap_t (by simp; omega), b1_some, Read_l1 l _ (fun y hy => hw y (by simp [hy])) (by simp; omega), List.append_assoc]; rfl
theorem hears_small (h : BOK n n2 hs rs cs) : ∀ w ∈ hs, w.length = 8 ∧ ∀ x ∈ w, x.length ≤ 1000 := fun w hw => ⟨h.h8 w hw, fun x hx => by
  have h1 := h.hl w hw x hx
  have := nodup_len h1.1 h1.2
  have := h.hn; omega⟩
theorem Read_eq (h : BOK n n2 hs rs cs) {k : Nat} (hk : k < rs.length) {p : Int} (hp : -1 ≤ p ∧ p ≤ 7) : book_Read n n2 hs rs cs (k : Int) p = some (n, n2, hs, rs.set k p, cs, 0) := by
  have hr := h.hr; have hc := h.hc; have hh := h.hh
  have e1 : (List.replicate (Int.toNat ((rs.length : Int))) (0 : Int)) = List.replicate ((rs.length : Int)).toNat 0 := rfl
  unfold book_Read
  rw [Check_eq h, b1_some, if_neg (by decide), hour_eq h, b1_some, decide_eq_true (by omega), if_neg (by decide), read_eq, b1_some, decide_eq_true hp, if_neg (by decide), gd_t (by omega), clone_cry (by omega), b1_some, bvE, Read_l1 hs [] (hears_small h) (by simp; omega), b1_some, bvE, cpy_rep, ixI _ hk, bvE, Int.toNat_natCast, List.nil_append]
theorem BOK.set (h : BOK n n2 hs rs cs) (k : Nat) {p : Int} (hp : -1 ≤ p ∧ p ≤ 7) : BOK n n2 hs (rs.set k p) cs :=
  ⟨h.hn, h.hn2, h.hh, by rw [List.length_set]; exact h.hr, h.hc, h.h8, h.hl, fun r hr => (List.mem_or_eq_of_mem_set hr).elim (h.rr r) (fun e => e ▸ hp), by rw [List.length_set]; exact h.cc⟩
/-- How many go through a wind, whatever is read in its hour. -/
def UW (rs : List Int) (k : Nat) (w : Int) : Nat := S ((rs.take k).reverse) w * S (rs.drop (k + 1)) w
theorem thr_set {k : Nat} (hk : k < rs.length) (p w : Int) : thr (rs.set k p) k w = if canB p w = true then UW rs k w else 0 := by
  rw [thr_eq (by rw [List.length_set]; exact hk), getD_setI hk, if_pos rfl]
  unfold UW
  rw [List.take_set_of_le (Nat.le_refl _), List.drop_set_of_lt (by omega)]
theorem cnt_set {k : Nat} (hk : k < rs.length) (p : Int) : cntR (rs.set k p) = sm (fun w => if canB p w = true then UW rs k w else 0) W8 := by
  rw [← thr_sum (h := k) (by rw [List.length_set]; exact hk)]
  exact sm_congr fun w _ => thr_set hk p w
theorem cnt_open {k : Nat} (hk : k < rs.length) : cntR (rs.set k (-1)) = sm (UW rs k) W8 := by
  rw [cnt_set hk]
  exact sm_congr fun w _ => if_pos rfl
theorem three_all : (W8.all fun w => decide (sm (fun p => if canB p w = true then 1 else 0) W8 = 3)) = true := by decide
theorem cnt_three {k : Nat} (hk : k < rs.length) : sm (fun p => cntR (rs.set k p)) W8 = 3 * cntR (rs.set k (-1)) := by
  rw [cnt_open hk, ← sm_mul, sm_congr (f := fun p => cntR (rs.set k p)) fun p _ => cnt_set hk p, sm_swap]
  refine sm_congr fun w hw => ?_
  have e : (fun p => if canB p w = true then UW rs k w else 0) = fun p => UW rs k w * (if canB p w = true then 1 else 0) := funext fun p => by
    split <;> simp
  show sm (fun p => if canB p w = true then UW rs k w else 0) W8 = _
  rw [e, sm_mul, of_decide_eq_true (List.all_eq_true.1 three_all w hw), Nat.mul_comm]
theorem cnt_le {k : Nat} (hk : k < rs.length) (p : Int) : cntR (rs.set k p) ≤ cntR (rs.set k (-1)) := by
  rw [cnt_open hk, cnt_set hk]
  exact sm_le fun w _ => by split <;> omega
theorem cntR_le (h8 : 1 ≤ rs.length ∧ rs.length ≤ 8) : cntR rs ≤ 17496 := by
  unfold cntR
  have h1 : sm (G rs) W8 ≤ sm (fun _ => 2187) W8 := sm_le fun w hw => by
    have h2 := G_le rs w (mem_W8.1 hw)
    have := pow8 (show rs.length - 1 ≤ 7 by omega)
    omega
  rw [sm_const] at h1
  exact h1
theorem fit_set {p : Option Int} : ∀ {rs c : List Int} (k : Nat) (q : Int), FitF p (rs.set k q) c → FitF p (rs.set k (-1)) c
  | [], _, _, _, h => h
  | _r :: _rs, _w :: _c, 0, _q, ⟨h1, _, h3, h4⟩ => ⟨h1, rfl, h3, h4⟩
  | _r :: _rs, _w :: _c, k + 1, q, ⟨h1, h2, h3, h4⟩ => ⟨h1, h2, h3, fit_set k q h4⟩
  | _r :: _rs, [], 0, _, h => h.elim
  | _r :: _rs, [], _ + 1, _, h => h.elim
/-- More readings: what is sure stays sure. -/
theorem verd_set {k : Nat} {q x y v v2 : Int} (hex : ∃ c, FitF none (rs.set k q) c) (h1 : VerdP hs (rs.set k (-1)) cs x y v) (h2 : VerdP hs (rs.set k q) cs x y v2) (hv : v ≠ 0) : v2 = v := by
  obtain ⟨c, hc⟩ := hex
  have hc1 := fit_set k q hc
  rcases h1 with ⟨rfl, g1⟩ | ⟨rfl, g1⟩ | ⟨rfl, _⟩
  · rcases h2 with ⟨rfl, _⟩ | ⟨rfl, f1⟩ | ⟨rfl, _, d, hd, f2⟩
    · rfl
    · have := f1 c hc; rw [g1 c hc1] at this; cases this
    · rw [g1 d (fit_set k q hd)] at f2; cases f2
  · rcases h2 with ⟨rfl, f1⟩ | ⟨rfl, _⟩ | ⟨rfl, ⟨d, hd, f2⟩, _⟩
    · have := f1 c hc; rw [g1 c hc1] at this; cases this
    · rfl
    · rw [g1 d (fit_set k q hd)] at f2; cases f2
  · exact absurd rfl hv
theorem read_l6 {T : List (List Int)} {x : Nat} (hx : x < T.length) {row : List Int} (hrow : row.length ≤ (T.getD x []).length) (h4 : row.length ≤ 100) (hv : ∀ q, q < row.length → row.getD q 0 ≠ 0 → (T.getD x []).getD q 0 = row.getD q 0) {rec4 : Int → Option Bool} : ∀ (tl : List Int) (q : Nat), row.drop q = tl → oyezlaw07_BookRead_l6 T (x : Int) rec4 tl (q : Int) = rec4 ((x : Int) + 1)
  | [], _, _ => rfl
  | v :: tl, q, hd => by
    obtain ⟨hq, he, hd2⟩ := drop_cons 0 hd
    unfold oyezlaw07_BookRead_l6
    have e : (if v ≠ 0 then ix T (x : Int) fun x4 => ix x4 (q : Int) fun x5 => some (decide (x5 ≠ v)) else some false) = some false := by
      by_cases e : v ≠ 0
      · rw [if_pos e, ixN [] _ hx, ixI _ (by omega)]
        have := hv q hq (by rw [he]; exact e)
        rw [this, he]; simp
      · rw [if_neg e]
    rw [e, b1_some, if_neg (by decide), show (q : Int) + 1 = ((q + 1 : Nat) : Int) by omega]
    exact read_l6 hx hrow h4 hv tl (q + 1) hd2
theorem read_l4 (h : BOK n n2 hs rs cs) {k : Nat} {p : Int} (hex : ∃ c, FitF none (rs.set k p) c) {V T : List (List Int)} (hV : VTab n n2 hs (rs.set k (-1)) cs V) (hT : VTab n n2 hs (rs.set k p) cs T) {m k2 m2 : Int} {rec2 : Int → Int → Option Bool} : ∀ (tl : List (List Int)) (x : Nat), V.drop x = tl → oyezlaw07_BookRead_l4 n2 m k2 m2 T rec2 tl (x : Int) = rec2 (k2 + 1) (m + m2)
  | [], _, _ => rfl
  | row :: tl, x, hd => by
    obtain ⟨hx, he, hd2⟩ := drop_cons [] hd
    have hVl := hV.len; have hTl := hT.len
    have h1 := hV.row row (by rw [← he]; exact getD_mem hx)
    have h2 := hT.row (T.getD x []) (getD_mem (by omega))
    have hn2 := h.hn2
    unfold oyezlaw07_BookRead_l4
    rw [if_neg (by rw [h1]; simp), ixN [] _ (by omega), decide_eq_false (by rw [h2]; simp), b1_some, if_neg (by decide)]
    have e := read_l6 (T := T) (x := x) (by omega) (row := row) (by omega) (by omega) (fun q hq hne => by
      have g1 := hV.get (x : Int) (q : Int) (by omega) (by omega)
      have g2 := hT.get (x : Int) (q : Int) (by omega) (by omega)
      rw [Int.toNat_natCast, Int.toNat_natCast] at g1 g2
      rw [he] at g1
      exact verd_set hex g1 g2 hne) (rec4 := oyezlaw07_BookRead_l4 n2 m k2 m2 T rec2 tl) row 0 rfl
    have e' : oyezlaw07_BookRead_l6 T (x : Int) (oyezlaw07_BookRead_l4 n2 m k2 m2 T rec2 tl) row 0 = _ := e
    rw [e', show (x : Int) + 1 = ((x + 1 : Nat) : Int) by omega]
    exact read_l4 h hex hV hT tl (x + 1) hd2
theorem read_l2 (h : BOK n n2 hs rs cs) {k : Nat} (hk : k < rs.length) {V : List (List Int)} (hV : VTab n n2 hs (rs.set k (-1)) cs V) : ∀ (fu p : Nat) (m : Nat), p + fu = 8 → m ≤ 17496 * p → m + sm (fun p => cntR (rs.set k p)) (W8f p) = 3 * cntR (rs.set k (-1)) → oyezlaw07_BookRead_l2 n n2 (k : Int) n n2 hs (rs.set k (-1)) cs (cntR (rs.set k (-1)) : Int) V fu (p : Int) (m : Int) = some true
  | 0, p, m, hp, hm, hsum => by
    have : p = 8 := by omega
    subst this
    have e : m = 3 * cntR (rs.set k (-1)) := by
      have : sm (fun p => cntR (rs.set k p)) (W8f 8) = 0 := rfl
      omega
    have hle := cntR_le (rs := rs.set k (-1)) (by rw [List.length_set]; exact h.hr)
    unfold oyezlaw07_BookRead_l2 oyezlaw07_BookRead_j1
    rw [gd_t (r64_small (by omega)), if_pos (by omega), awake_true, b1_some]
  | fu + 1, p, m, hp, hm, hsum => by
    have hr := h.hr
    have ef := of_decide_eq_true (List.all_eq_true.1 W8f_all p (List.mem_range.2 (by omega)))
    rw [ef, sm_cons] at hsum
    have hp7 : -1 ≤ (p : Int) ∧ (p : Int) ≤ 7 := by omega
    have h0 := h.set k (p := -1) (by omega)
    have h1 := h.set k hp7
    have hle := cntR_le (rs := rs.set k (p : Int)) (by rw [List.length_set]; exact h.hr)
    have hmono := cnt_le hk (p : Int)
    have ih := read_l2 h hk hV fu (p + 1) (m + cntR (rs.set k (p : Int))) (by omega) (by omega) (by omega)
    have e1 : book_Read n n2 hs (rs.set k (-1)) cs (k : Int) (p : Int) = some (n, n2, hs, rs.set k (p : Int), cs, 0) := by
      rw [Read_eq h0 (by rw [List.length_set]; exact hk) hp7, List.set_set]
    have hne : rs.set k (p : Int) ≠ [] := by
      intro e
      have : (rs.set k (p : Int)).length = 0 := by rw [e]; rfl
      rw [List.length_set] at this; omega
    unfold oyezlaw07_BookRead_l2
    rw [e1, b6_some, Count_eq h1, b2_some]
    by_cases hc : 0 < cntR (rs.set k (p : Int))
    · have hex := (cntR_pos hne).1 hc
      obtain ⟨T, e2, hT⟩ := Verdicts_eq h1 hex
      rw [e2, b2_some, if_neg (by decide), if_neg (by decide), if_neg (by omega), if_neg (by omega), if_neg (by simp; omega), if_neg (by decide), b1_some, if_neg (by decide), gd_t (r64_small (by omega)), if_neg (by decide), if_neg (by rw [hT.len]; simp)]
      have e3 := read_l4 h hex hV hT (m := (m : Int)) (k2 := (p : Int)) (m2 := (cntR (rs.set k (p : Int)) : Int)) (rec2 := oyezlaw07_BookRead_l2 n n2 (k : Int) n n2 hs (rs.set k (-1)) cs (cntR (rs.set k (-1)) : Int) V fu) V 0 rfl
      refine Eq.trans e3 ?_
      rw [show (p : Int) + 1 = ((p + 1 : Nat) : Int) by omega, show (m : Int) + (cntR (rs.set k (p : Int)) : Int) = ((m + cntR (rs.set k (p : Int)) : Nat) : Int) by omega]
      exact ih
    · have hno : ∀ c, ¬ FitF none (rs.set k (p : Int)) c := fun c hcc => hc ((cntR_pos hne).2 ⟨c, hcc⟩)
      rw [Verdicts_none h1 hno, b2_some, if_neg (by decide), if_neg (by decide), if_neg (by omega), if_neg (by omega), if_neg (by simp; omega), if_pos (by decide), b1_some, if_neg (by decide), gd_t (r64_small (by omega)), if_pos (by decide)]
      unfold oyezlaw07_BookRead_j3
      rw [show (p : Int) + 1 = ((p + 1 : Nat) : Int) by omega, show (m : Int) + (cntR (rs.set k (p : Int)) : Int) = ((m + cntR (rs.set k (p : Int)) : Nat) : Int) by omega]
      exact ih
end
/-- BookRead. -/
theorem read_true {numbers : List Int} {which : Int} (h1 : (numbers.length : Int) ≤ 9223372036854775807) (hw : 0 ≤ which ∧ which ≤ 255) : oyezlaw07_BookRead numbers which = some true := by
  unfold oyezlaw07_BookRead oyezkit_Hang
  obtain ⟨n, n2, hs, rs, cs, real, a, t, e1, hM, _⟩ := made_ok (metal := numbers) (t := 0) (a := 0) (H := 3) (N := 2) (S := 2) (R := 6) ⟨by omega, by omega⟩ h1 (by omega) (by omega) (by omega) (by omega)
  have hr := hM.ok.hr
  have hpos : (0 : Int) < (rs.length : Int) := by omega
  have hmod : Int.tmod which (rs.length : Int) = which % (rs.length : Int) := Int.tmod_eq_emod_of_nonneg hw.1
  have h2 := Int.emod_lt_of_pos which hpos
  have h3 := Int.emod_nonneg which (Int.ne_of_gt hpos)
  rw [b3_some, e1, b8_some, gd_t (r64_small (by omega)), gd_t (by omega), bvE, hmod]
  obtain ⟨k, hk⟩ := Int.eq_ofNat_of_zero_le h3
  rw [hk]
  have hkr : k < rs.length := by omega
  have h0 := hM.ok.set k (p := -1) (by omega)
  have hex : ∃ c, FitF none (rs.set k (-1)) c := ⟨real, fit_set k (rs.getD k 0) (by
    have : rs.set k (rs.getD k 0) = rs := by
      refine getD_ext (d := 0) List.length_set fun t ht => ?_
      rw [getD_setI hkr]
      split
      · rename_i e; rw [e]
      · rfl
    rw [this]; exact hM.fit)⟩
  obtain ⟨V, e2, hV⟩ := Verdicts_eq h0 hex
  rw [Read_eq hM.ok hkr (by omega), b6_some, Count_eq h0, b2_some, e2, b2_some, if_neg (by decide), if_neg (by decide), if_neg (by decide), decide_eq_false (by rw [hV.len]; simp), b1_some, if_neg (by decide), gd_t ⟨r64_small (by omega), r64_small (by omega)⟩]
  exact read_l2 hM.ok hkr hV 8 0 0 rfl (by omega) (by rw [Nat.zero_add]; exact cnt_three hkr)
end Go.Proofs.Ytodhcoakjlmcdaa.Bk
