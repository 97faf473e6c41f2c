/- Layer 7: winds that are turned, or seen in a mirror; BookTurned; in plain Lean. -/
import Derived.Test.YtodhcoakjlmcdaaZEKH
namespace Go.Proofs.Ytodhcoakjlmcdaa.Bk
open Go.PL
def sg (m : Bool) (b w : Int) : Int := ((if m = true then -w else w) + b) % 8
def sgi (m : Bool) (b v : Int) : Int := (if m = true then b - v else v - b) % 8
theorem windE_all : ((List.range 300).all fun k : Nat => decide (oyezkit_Wind ((k : Int) - 10) 8 = some (((k : Int) - 10) % 8))) = true := by decide +kernel
theorem windE {v : Int} (hv : -10 ≤ v ∧ v < 290) : oyezkit_Wind v 8 = some (v % 8) := by
  obtain ⟨k, hk⟩ := Int.eq_ofNat_of_zero_le (show 0 ≤ v + 10 by omega)
  have := of_decide_eq_true (List.all_eq_true.1 windE_all k (List.mem_range.2 (by omega)))
  rwa [show (k : Int) - 10 = v by omega] at this
theorem sg_rng (m : Bool) (b w : Int) : 0 ≤ sg m b w ∧ sg m b w ≤ 7 := by unfold sg; omega
theorem sgi_rng (m : Bool) (b w : Int) : 0 ≤ sgi m b w ∧ sgi m b w ≤ 7 := by unfold sgi; omega
theorem sg_sgi {m : Bool} {b v : Int} (hv : 0 ≤ v ∧ v ≤ 7) : sg m b (sgi m b v) = v := by
  unfold sg sgi; cases m <;> simp only [if_true, if_false, Bool.false_eq_true] <;> omega
theorem sgi_sg {m : Bool} {b v : Int} (hv : 0 ≤ v ∧ v ≤ 7) : sgi m b (sg m b v) = v := by
  unfold sg sgi; cases m <;> simp only [if_true, if_false, Bool.false_eq_true] <;> omega
theorem sg_near {m : Bool} {b x y : Int} (hx : 0 ≤ x ∧ x ≤ 7) (hy : 0 ≤ y ∧ y ≤ 7) : nearB (sg m b x) (sg m b y) = nearB x y := by
  unfold nearB sg
  refine decide_eq_decide.2 ?_
  cases m <;> simp only [if_true, if_false, Bool.false_eq_true] <;> omega
theorem turn1_eq {m : Bool} {b w : Int} (hb : 0 ≤ b ∧ b ≤ 255) (hw : 0 ≤ w ∧ w ≤ 7) : oyezlaw07_BookTurned_1 w m b = some (sg m b w) := by
  unfold oyezlaw07_BookTurned_1 sg
  cases m with
  | true => rw [if_pos rfl, gd_t (r64_small (by omega)), b1_some, gd_t (r64_small (by omega)), gd_t (r64_small (by omega)), windE (by omega), b1_some, if_pos rfl]
  | false => rw [if_neg (by decide), b1_some, gd_t (r64_small (by omega)), gd_t (r64_small (by omega)), windE (by omega), b1_some, if_neg (by decide)]
theorem perm_all : (([true, false] : List Bool).all fun m => (List.range 8).all fun r : Nat => (W8.map (sg m (r : Int))).isPerm W8) = true := by decide
theorem sg_mod (m : Bool) (b w : Int) : sg m (b % 8) w = sg m b w := by unfold sg; omega
theorem sg_perm (m : Bool) (b : Int) : (W8.map (sg m b)).Perm W8 := by
  obtain ⟨r, hr⟩ := Int.eq_ofNat_of_zero_le (show 0 ≤ b % 8 by omega)
  have h := List.all_eq_true.1 (List.all_eq_true.1 perm_all m (by cases m <;> simp)) r (List.mem_range.2 (by omega))
  have h2 := List.isPerm_iff.1 h
  rw [← hr] at h2
  rwa [show sg m (b % 8) = sg m b from funext (sg_mod m b)] at h2
theorem sm_perm {f : Int → Nat} {l l' : List Int} (h : l.Perm l') : sm f l = sm f l' := by
  induction h with
  | nil => rfl
  | cons x _ ih => rw [sm_cons, sm_cons, ih]
  | swap x y l => rw [sm_cons, sm_cons, sm_cons, sm_cons]; omega
  | trans _ _ h1 h2 => exact h1.trans h2
theorem sm_map (f : Int → Nat) (g : Int → Int) : ∀ l : List Int, sm f (l.map g) = sm (fun x => f (g x)) l
  | [] => rfl
  | x :: l => by rw [List.map_cons, sm_cons, sm_cons, sm_map f g l]
def sgR (m : Bool) (b r : Int) : Int := if r = -1 then -1 else sg m b r
theorem can_sg {m : Bool} {b r w : Int} (hr : -1 ≤ r ∧ r ≤ 7) (hw : 0 ≤ w ∧ w ≤ 7) : canB (sgR m b r) (sg m b w) = canB r w := by
  unfold canB sgR
  by_cases e : r = -1
  · rw [if_pos e, e]; rfl
  · rw [if_neg e, sg_near hw (by omega)]
    have := sg_rng m b r
    rw [decide_eq_false (show ¬ sg m b r = -1 by omega), decide_eq_false e]
theorem G_sg {m : Bool} {b : Int} : ∀ (X : List Int) (w : Int), (∀ r ∈ X, -1 ≤ r ∧ r ≤ 7) → (0 ≤ w ∧ w ≤ 7) → G (X.map (sgR m b)) (sg m b w) = G X w
  | [], _, _, _ => rfl
  | r :: X, w, hX, hw => by
    rw [List.map_cons, G_cons, G_cons, can_sg (hX r (by simp)) hw]
    have hS : S (X.map (sgR m b)) (sg m b w) = S X w := by
      cases X with
      | nil => rfl
      | cons r2 X =>
        have e1 : S ((r2 :: X).map (sgR m b)) (sg m b w) = sm (G ((r2 :: X).map (sgR m b))) (nearL (sg m b w)) := rfl
        rw [e1, S_cons, near_sum, near_sum, ← sm_perm (sg_perm m b), sm_map]
        refine sm_congr fun v hv => ?_
        have hv7 := mem_W8.1 hv
        rw [sg_near hv7 hw, G_sg (r2 :: X) v (fun r hr => hX r (by simp at hr ⊢; exact .inr hr)) hv7]
    rw [hS]
theorem cnt_sg {m : Bool} {b : Int} {rs : List Int} (hr : ∀ r ∈ rs, -1 ≤ r ∧ r ≤ 7) : cntR (rs.map (sgR m b)) = cntR rs := by
  unfold cntR
  rw [← sm_perm (sg_perm m b), sm_map]
  exact sm_congr fun w hw => G_sg rs w hr (mem_W8.1 hw)
theorem fit_sg {m : Bool} {b : Int} : ∀ {rs c : List Int} {p : Option Int}, (∀ r ∈ rs, -1 ≤ r ∧ r ≤ 7) → (∀ v, p = some v → 0 ≤ v ∧ v ≤ 7) → FitF p rs c → FitF (p.map (sg m b)) (rs.map (sgR m b)) (c.map (sg m b))
  | [], [], _, _, _, _ => trivial
  | r :: rs, w :: c, p, hr, hp, ⟨h1, h2, h3, h4⟩ => by
    refine ⟨sg_rng m b w, by rw [can_sg (hr r (by simp)) h1]; exact h2, fun v hv => ?_, fit_sg (p := some w) (fun r h => hr r (by simp [h])) (fun v hv => by cases hv; exact h1) h4⟩
    cases p with
    | none => cases hv
    | some u =>
      cases hv
      rw [sg_near h1 (hp u rfl)]; exact h3 u rfl
  | [], _ :: _, _, _, _, h => h.elim
  | _ :: _, [], _, _, _, h => h.elim
theorem fit_sgi {m : Bool} {b : Int} : ∀ {rs d : List Int} {p : Option Int}, (∀ r ∈ rs, -1 ≤ r ∧ r ≤ 7) → (∀ v, p = some v → 0 ≤ v ∧ v ≤ 7) → FitF (p.map (sg m b)) (rs.map (sgR m b)) d → FitF p rs (d.map (sgi m b)) ∧ (d.map (sgi m b)).map (sg m b) = d
  | [], [], _, _, _, _ => ⟨trivial, rfl⟩
  | r :: rs, w :: c, p, hr, hp, ⟨h1, h2, h3, h4⟩ => by
    have e := sg_sgi (m := m) (b := b) h1
    have h5 := sgi_rng m b w
    obtain ⟨g1, g2⟩ := fit_sgi (m := m) (b := b) (rs := rs) (d := c) (p := some (sgi m b w)) (fun r h => hr r (by simp [h])) (fun v hv => by cases hv; exact h5) (by
      show FitF (some (sg m b (sgi m b w))) _ _
      rw [e]; exact h4)
    refine ⟨⟨h5, ?_, fun v hv => ?_, g1⟩, by rw [List.map_cons, List.map_cons, e, g2]⟩
    · rw [← can_sg (m := m) (b := b) (hr r (by simp)) h5, e]; exact h2
    · subst hv
      have := h3 (sg m b v) rfl
      rw [← e, sg_near h5 (hp v rfl)] at this
      exact this
  | [], _ :: _, _, _, _, h => h.elim
  | _ :: _, [], _, _, _, h => h.elim
section
variable {n n2 : Int} {hs : List (List (List Int))} {rs : List Int} {cs : List (Int × Int × Int)}
/-- What a turned row has. -/
structure TRow (m : Bool) (b : Int) (row row2 : List (List Int)) (k : Nat) : Prop where
  len : row2.length = 8
  mem : ∀ l ∈ row2, l ∈ row
  get : ∀ w : Nat, w < k → row2.getD (sg m b (w : Int)).toNat [] = row.getD w []
theorem sg_inj {m : Bool} {b x y : Int} (hx : 0 ≤ x ∧ x ≤ 7) (hy : 0 ≤ y ∧ y ≤ 7) (h : sg m b x = sg m b y) : x = y := by
  rw [← sgi_sg (m := m) (b := b) hx, h, sgi_sg hy]
theorem turn_l2 {m : Bool} {b : Int} (hb : 0 ≤ b ∧ b ≤ 255) {row : List (List Int)} (h8 : row.length = 8) (hl : ∀ l ∈ row, l.length ≤ 1000) {k : Nat} : ∀ (tl : List (List Int)) (w : Nat) (u : List (List (List Int))), row.drop w = tl → k < u.length → TRow m b row (u.getD k []) w →
    ∃ R, oyezlaw07_BookTurned_l2 b m (k : Int) tl (w : Int) u = some R ∧ R.length = u.length ∧ (∀ j, j ≠ k → R.getD j [] = u.getD j []) ∧ TRow m b row (R.getD k []) 8
  | [], w, u, hd, hk, hT => by
    have : row.length ≤ w := by have := congrArg List.length hd; simp at this; omega
    exact ⟨u, rfl, rfl, fun _ _ => rfl, hT.len, hT.mem, fun v hv => hT.get v (by omega)⟩
  | x :: tl, w, u, hd, hk, hT => by
    obtain ⟨hw, hx, hd2⟩ := drop_cons [] hd
    have hs := sg_rng m b (w : Int)
    have hm : x ∈ row := by rw [← hx]; exact getD_mem hw
    have hT2 : TRow m b row ((u.set k ((u.getD k []).set (sg m b (w : Int)).toNat x)).getD k []) (w + 1) := by
      rw [getD_setI hk, if_pos rfl]
      refine ⟨by rw [List.length_set]; exact hT.len, fun l hl => (List.mem_or_eq_of_mem_set hl).elim (hT.mem l) (fun e => e ▸ hm), fun v hv => ?_⟩
      rw [getD_setI (by rw [hT.len]; omega)]
      have hs2 := sg_rng m b (v : Int)
      by_cases e : v = w
      · subst e; rw [if_pos rfl, hx]
      · rw [if_neg (fun e2 => e (by
          have := sg_inj (m := m) (b := b) (x := (v : Int)) (y := (w : Int)) (by omega) (by omega) (by omega)
          omega))]
        exact hT.get v (by omega)
    obtain ⟨R, g1, g2, g3, g4⟩ := turn_l2 hb h8 hl (k := k) tl (w + 1) (u.set k ((u.getD k []).set (sg m b (w : Int)).toNat x)) hd2 (by rw [List.length_set]; exact hk) hT2
    refine ⟨R, ?_, by rw [g2, List.length_set], fun j hj => by rw [g3 j hj, getD_setI hk, if_neg (fun e => hj e.symm)], g4⟩
    unfold oyezlaw07_BookTurned_l2
    rw [ixN [] _ hk, turn1_eq hb (by omega), b1_some, copy_eq (by have := hl x hm; omega), b1_some, ixD [] _ hs.1 (by rw [hT.len]; omega), bvE, bvE, Int.toNat_natCast, show (w : Int) + 1 = ((w + 1 : Nat) : Int) by omega]
    exact g1
theorem turn_l1 {m : Bool} {b : Int} (hb : 0 ≤ b ∧ b ≤ 255) (hH : ∀ w ∈ hs, w.length = 8 ∧ ∀ x ∈ w, x.length ≤ 1000) : ∀ (tl : List (List (List Int))) (k : Nat) (u : List (List (List Int))), hs.drop k = tl → k + tl.length = hs.length → u.length = hs.length → (∀ j, j < k → TRow m b (hs.getD j []) (u.getD j []) 8) → (∀ j, k ≤ j → u.getD j [] = hs.getD j []) →
    ∃ R, oyezlaw07_BookTurned_l1 b m tl (k : Int) u = some R ∧ R.length = hs.length ∧ ∀ j, j < hs.length → TRow m b (hs.getD j []) (R.getD j []) 8
  | [], k, u, _, hk, hu, h1, _ => ⟨u, rfl, hu, fun j hj => h1 j (by simp at hk; omega)⟩
  | row :: tl, k, u, hd, hkl, hu, h1, h2 => by
    rw [List.length_cons] at hkl
    obtain ⟨hk, hx, hd2⟩ := drop_cons [] hd
    obtain ⟨r1, r2⟩ := hH row (by rw [← hx]; exact getD_mem hk)
    obtain ⟨R1, g1, g2, g3, g4⟩ := turn_l2 (m := m) hb r1 r2 (k := k) row 0 u rfl (by omega) (by
      rw [h2 k (Nat.le_refl _), hx]
      exact ⟨r1, fun l hl => hl, fun w hw => by omega⟩)
    obtain ⟨R, f1, f2, f3⟩ := turn_l1 hb hH tl (k + 1) R1 hd2 (by omega) (by omega) (fun j hj => by
      by_cases e : j = k
      · subst e; rw [hx]; exact g4
      · rw [g3 j e]; exact h1 j (by omega)) (fun j hj => by rw [g3 j (by omega)]; exact h2 j (by omega))
    refine ⟨R, ?_, f2, f3⟩
    unfold oyezlaw07_BookTurned_l1
    have g1' : oyezlaw07_BookTurned_l2 b m (k : Int) row 0 u = some R1 := g1
    rw [g1', b1_some, show (k : Int) + 1 = ((k + 1 : Nat) : Int) by omega]
    exact f1
theorem turn_l3 {m : Bool} {b : Int} (hb : 0 ≤ b ∧ b ≤ 255) (hr : ∀ r ∈ rs, -1 ≤ r ∧ r ≤ 7) : ∀ (tl pre : List Int), rs = pre ++ tl → oyezlaw07_BookTurned_l3 b m tl (pre.length : Int) (pre.map (sgR m b) ++ tl) = some (rs.map (sgR m b))
  | [], pre, he => by unfold oyezlaw07_BookTurned_l3; rw [he]; simp
  | r :: tl, pre, he => by
    have hr1 := hr r (by rw [he]; simp)
    have ih := turn_l3 (m := m) hb hr tl (pre ++ [r]) (by rw [he]; simp)
    unfold oyezlaw07_BookTurned_l3
    by_cases e : r = -1
    · rw [if_neg (by simp [e]), show (pre.length : Int) + 1 = ((pre ++ [r]).length : Int) by simp]
      have e2 : pre.map (sgR m b) ++ r :: tl = (pre ++ [r]).map (sgR m b) ++ tl := by rw [List.map_append, List.append_assoc, e]; rfl
      rw [e2]; exact ih
    · have e3 : sgR m b r = sg m b r := if_neg e
      have e2 : (pre.map (sgR m b) ++ r :: tl).set pre.length (sg m b r) = (pre ++ [r]).map (sgR m b) ++ tl := by
        rw [List.set_append_right _ _ (by simp), List.length_map, Nat.sub_self, List.set_cons_zero, List.map_append, List.append_assoc, ← e3]; rfl
      rw [if_pos e, turn1_eq hb (by omega), b1_some, ixN 0 _ (by simp), bvE, Int.toNat_natCast, e2, show (pre.length : Int) + 1 = ((pre ++ [r]).length : Int) by simp]
      exact ih
theorem turn_l4 {m : Bool} {b : Int} (hb : 0 ≤ b ∧ b ≤ 255) : ∀ (tl acc : List Int), (∀ w ∈ tl, 0 ≤ w ∧ w ≤ 7) → acc.length + tl.length ≤ 1000 → oyezlaw07_BookTurned_l4 b m tl acc = some (acc ++ tl.map (sg m b))
  | [], acc, _, _ => by unfold oyezlaw07_BookTurned_l4; simp
  | w :: tl, acc, hw, hl => by
    rw [List.length_cons] at hl
    unfold oyezlaw07_BookTurned_l4
    rw [turn1_eq hb (hw w (by simp)), b1_some, ap_t (by simp; omega), turn_l4 hb tl _ (fun x hx => hw x (by simp [hx])) (by simp; omega), List.append_assoc]; rfl
theorem heard_sg {m : Bool} {b : Int} (h : BOK n n2 hs rs cs) {u : List (List (List Int))} (hT : ∀ j, j < hs.length → TRow m b (hs.getD j []) (u.getD j []) 8) {c : List Int} (hc : FitF none rs c) (x q : Int) : heardB u cs (c.map (sg m b)) x q = heardB hs cs c x q := by
  unfold heardB
  refine any_congr fun y hy => ?_
  obtain ⟨h1, h2, _⟩ := h.cc y hy
  have hl := hc.len
  have hk : y.1.toNat < c.length := by omega
  have hw := hc.rng _ (getD_mem (d := 0) hk)
  have e1 : (c.map (sg m b)).getD y.1.toNat 0 = sg m b (c.getD y.1.toNat 0) := by
    rw [List.getD_eq_getElem?_getD, List.getElem?_map, getD_of (d := 0) hk]; rfl
  have e2 : cell u y.2.1 (sg m b (c.getD y.1.toNat 0)) = cell hs y.2.1 (c.getD y.1.toNat 0) := by
    have := (hT y.2.1.toNat (by omega)).get (c.getD y.1.toNat 0).toNat (by omega)
    rw [show (((c.getD y.1.toNat 0).toNat : Nat) : Int) = c.getD y.1.toNat 0 by omega] at this
    exact this
  rw [e1, e2]
theorem verd_sg {m : Bool} {b : Int} (h : BOK n n2 hs rs cs) {u : List (List (List Int))} (hT : ∀ j, j < hs.length → TRow m b (hs.getD j []) (u.getD j []) 8) {x q v v2 : Int} (hex : ∃ c, FitF none rs c) (h1 : VerdP hs rs cs x q v) (h2 : VerdP u (rs.map (sgR m b)) cs x q v2) : v2 = v := by
  have to : ∀ c, FitF none rs c → FitF none (rs.map (sgR m b)) (c.map (sg m b)) := fun c hc => fit_sg (p := none) h.rr (fun _ h => nomatch h) hc
  have back : ∀ d, FitF none (rs.map (sgR m b)) d → ∃ c, FitF none rs c ∧ c.map (sg m b) = d := fun d hd => ⟨_, fit_sgi (p := none) h.rr (fun _ h => nomatch h) hd⟩
  have hh := fun c hc => heard_sg (m := m) (b := b) h hT (c := c) hc x q
  have h3 : VerdP hs rs cs x q v2 := by
    rcases h2 with ⟨e, g⟩ | ⟨e, g⟩ | ⟨e, ⟨d, hd, g⟩, d2, hd2, g2⟩
    · exact .inl ⟨e, fun c hc => by rw [← hh c hc]; exact g _ (to c hc)⟩
    · exact .inr (.inl ⟨e, fun c hc => by rw [← hh c hc]; exact g _ (to c hc)⟩)
    · obtain ⟨c, hc, rfl⟩ := back d hd
      obtain ⟨c2, hc2, rfl⟩ := back d2 hd2
      exact .inr (.inr ⟨e, ⟨c, hc, by rw [← hh c hc]; exact g⟩, ⟨c2, hc2, by rw [← hh c2 hc2]; exact g2⟩⟩)
  exact verd_uniq hex h1 h3 (fun _ _ => rfl)
theorem eqV_l2 (s : List Int) : ∀ (tl : List Int) (k : Nat), s.drop k = tl → slices_Equal_book_Verdict_book_Verdict_l2 s tl (k : Int) = some true
  | [], _, _ => rfl
  | x :: tl, k, hd => by
    obtain ⟨hk, hx, hd2⟩ := drop_cons 0 hd
    unfold slices_Equal_book_Verdict_book_Verdict_l2
    rw [ixI _ hk, hx, if_neg (by simp), show (k : Int) + 1 = ((k + 1 : Nat) : Int) by omega]
    exact eqV_l2 s tl (k + 1) hd2
theorem likeV_l2 (s : List (List Int)) : ∀ (tl : List (List Int)) (k : Nat), s.drop k = tl → slices_EqualFunc_book_Verdict_book_Verdict_book_Verdict_book_Verdict_l2 s (fun xx_ : List Int × List Int => slices_Equal_book_Verdict_book_Verdict xx_.1 xx_.2) tl (k : Int) = some true
  | [], _, _ => rfl
  | x :: tl, k, hd => by
    obtain ⟨hk, hx, hd2⟩ := drop_cons [] hd
    have e : slices_Equal_book_Verdict_book_Verdict x x = some true := by
      unfold slices_Equal_book_Verdict_book_Verdict
      rw [if_neg (by simp)]; exact eqV_l2 x x 0 rfl
    unfold slices_EqualFunc_book_Verdict_book_Verdict_book_Verdict_book_Verdict_l2
    rw [ixN [] _ hk, hx]
    show (b1 (slices_Equal_book_Verdict_book_Verdict x x) fun ok => _) = some true
    rw [e, b1_some, if_neg (by decide), show (k : Int) + 1 = ((k + 1 : Nat) : Int) by omega]
    exact likeV_l2 s tl (k + 1) hd2
theorem likeV_refl (s : List (List Int)) : oyezkit_LikeRows_Verdict s s = some true := by
  unfold oyezkit_LikeRows_Verdict slices_EqualFunc_book_Verdict_book_Verdict_book_Verdict_book_Verdict
  rw [if_neg (by simp), show ((0 : Int)) = ((0 : Nat) : Int) from rfl, likeV_l2 s s 0 rfl, b1_some]
end
/-- BookTurned. -/
theorem turned_true {numbers : List Int} {b : Int} {m : Bool} (h1 : (numbers.length : Int) ≤ 9223372036854775807) (hb : 0 ≤ b ∧ b ≤ 255) : oyezlaw07_BookTurned numbers b m = some true := by
  unfold oyezlaw07_BookTurned oyezkit_Hang
  obtain ⟨n, n2, hs, rs, cs, real, a, t, e1, hM, _⟩ := made_ok (metal := numbers) (t := 0) (a := 0) (H := 4) (N := 3) (S := 3) (R := 6) ⟨by omega, by omega⟩ h1 (by omega) (by omega) (by omega) (by omega)
  have h := hM.ok
  have hr := h.hr; have hn := h.hn
  have hex : ∃ c, FitF none rs c := ⟨real, hM.fit⟩
  obtain ⟨u, e2, hu, hT⟩ := turn_l1 (m := m) hb (hears_small h) hs 0 hs rfl (by omega) rfl (fun j hj => by omega) (fun _ _ => rfl)
  have e2' : oyezlaw07_BookTurned_l1 b m hs 0 hs = some u := e2
  have e3 : oyezlaw07_BookTurned_l3 b m rs 0 rs = some (rs.map (sgR m b)) := turn_l3 hb h.rr rs [] rfl
  have e4 := turn_l4 (m := m) hb real [] hM.fit.rng (by have := hM.fit.len; simp; omega)
  rw [List.nil_append] at e4
  have hfit : FitF none (rs.map (sgR m b)) (real.map (sg m b)) := fit_sg (p := none) h.rr (fun _ h => nomatch h) hM.fit
  have hU : BOK n n2 u (rs.map (sgR m b)) cs := by
    refine ⟨h.hn, h.hn2, by rw [hu]; exact h.hh, by rw [List.length_map]; exact h.hr, h.hc, fun w hw => ?_, fun w hw l hl => ?_, fun r hr => ?_, by rw [List.length_map, hu]; exact h.cc⟩
    · obtain ⟨j, hj, rfl⟩ := List.mem_iff_getElem.1 hw
      have := (hT j (by omega)).len
      rwa [List.getD_eq_getElem?_getD, List.getElem?_eq_getElem hj] at this
    · obtain ⟨j, hj, rfl⟩ := List.mem_iff_getElem.1 hw
      have h2 := hT j (by omega)
      rw [List.getD_eq_getElem?_getD, List.getD_eq_getElem?_getD, List.getElem?_eq_getElem hj, List.getElem?_eq_getElem (show j < hs.length by omega)] at h2
      exact h.hl _ (List.getElem_mem (show j < hs.length by omega)) l (h2.mem l hl)
    · obtain ⟨r0, h0, rfl⟩ := List.mem_map.1 hr
      unfold sgR
      split
      · omega
      · have := sg_rng m b r0; omega
  obtain ⟨V, e5, hV⟩ := Verdicts_eq h hex
  obtain ⟨W, e6, hW⟩ := Verdicts_eq hU ⟨_, hfit⟩
  have hVl := hV.len; have hWl := hW.len
  have hVW : V = W := by
    refine getD_ext (d := []) (by omega) fun x hx => ?_
    have r1 := hV.row (V.getD x []) (getD_mem hx)
    have r2 := hW.row (W.getD x []) (getD_mem (by omega))
    refine getD_ext (d := 0) (by omega) fun q hq => ?_
    have g1 := hV.get (x : Int) (q : Int) (by omega) (by omega)
    have g2 := hW.get (x : Int) (q : Int) (by omega) (by omega)
    rw [Int.toNat_natCast, Int.toNat_natCast] at g1 g2
    exact (verd_sg h hT hex g1 g2).symm
  subst hVW
  rw [b3_some, e1, b8_some, Own_eq h, b5_some, e2', b1_some, e3, b1_some, e4, b1_some, Count_eq h, b2_some, Count_eq hU, b2_some, e5, b2_some, e6, b2_some, Fits_eq hU hfit, b2_some, if_pos rfl, if_pos rfl, if_pos rfl, if_pos rfl, if_pos rfl, if_pos (by rw [cnt_sg h.rr]), if_pos rfl, likeV_refl, b1_some, if_pos rfl, awake_true, b1_some]
end Go.Proofs.Ytodhcoakjlmcdaa.Bk
