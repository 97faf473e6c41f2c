/- Layer 7: a cry more; BookCried; in plain Lean. -/
import Derived.Test.YtodhcoakjlmcdaaZDKG
namespace Go.Proofs.Ytodhcoakjlmcdaa.Bk
open Go.PL
theorem CopyRows_l1 {l : List (List Int)} (hl : ∀ x ∈ l, x.length ≤ 1000) : ∀ (tl pre : List (List Int)), l = pre ++ tl → l.length ≤ 100000 → oyezkit_CopyRows_int_l1 tl (pre.length : Int) (pre ++ List.replicate tl.length []) = some l
  | [], pre, he, _ => by
    unfold oyezkit_CopyRows_int_l1
    rw [he]; simp
  | x :: tl, pre, he, hn => by
    have hx := hl x (by rw [he]; simp)
    have hlen : (pre ++ List.replicate (x :: tl).length ([] : List Int)).length = l.length := by rw [he]; simp
    have hp : pre.length < (pre ++ List.replicate (x :: tl).length ([] : List Int)).length := by simp
    unfold oyezkit_CopyRows_int_l1
    rw [copy_eq (by omega), b1_some, ixN [] _ hp, bvE, Int.toNat_natCast, show (pre.length : Int) + 1 = ((pre ++ [x]).length : Int) by simp]
    have e : (pre ++ List.replicate (x :: tl).length ([] : List Int)).set pre.length x = (pre ++ [x]) ++ List.replicate tl.length [] := by
      rw [List.set_append_right _ _ (Nat.le_refl _), Nat.sub_self, List.length_cons, List.replicate_succ, List.set_cons_zero, List.append_assoc]; rfl
    rw [e]
    exact CopyRows_l1 hl tl (pre ++ [x]) (by rw [he]; simp) hn
theorem CopyRows_eq {l : List (List Int)} (hl : ∀ x ∈ l, x.length ≤ 1000) (hn : l.length ≤ 100000) : oyezkit_CopyRows_int l = some l := by
  have := CopyRows_l1 hl l [] rfl hn
  have this' : oyezkit_CopyRows_int_l1 l 0 (List.replicate ((l.length : Int)).toNat []) = some l := by
    rw [Int.toNat_natCast]; exact this
  unfold oyezkit_CopyRows_int
  rw [gd_t (by omega), bvE, this', b1_some]
theorem Own_l1 {l : List (List (List Int))} (hl : ∀ w ∈ l, w.length = 8 ∧ ∀ x ∈ w, x.length ≤ 1000) : ∀ (tl pre : List (List (List Int))), l = pre ++ tl → l.length ≤ 100000 → oyezlaw07_Own_l1 tl (pre.length : Int) (pre ++ List.replicate tl.length []) = some l
  | [], pre, he, _ => by
    unfold oyezlaw07_Own_l1
    rw [he]; simp
  | x :: tl, pre, he, hn => by
    have hx := hl x (by rw [he]; simp)
    have hp : pre.length < (pre ++ List.replicate (x :: tl).length ([] : List (List Int))).length := by simp
    unfold oyezlaw07_Own_l1
    rw [CopyRows_eq hx.2 (by omega), b1_some, ixN [] _ hp, bvE, Int.toNat_natCast, show (pre.length : Int) + 1 = ((pre ++ [x]).length : Int) by simp]
    have e : (pre ++ List.replicate (x :: tl).length ([] : List (List Int))).set pre.length x = (pre ++ [x]) ++ List.replicate tl.length [] := by
      rw [List.set_append_right _ _ (Nat.le_refl _), Nat.sub_self, List.length_cons, List.replicate_succ, List.set_cons_zero, List.append_assoc]; rfl
    rw [e]
    exact Own_l1 hl tl (pre ++ [x]) (by rw [he]; simp) hn
section
variable {n n2 : Int} {hs : List (List (List Int))} {rs : List Int} {cs : List (Int × Int × Int)}
theorem Own_eq (h : BOK n n2 hs rs cs) : oyezlaw07_Own n n2 hs rs cs = some (n, n2, hs, rs, cs) := by
  have h1 := h.hh; have h2 := h.hr; have h3 := h.hc
  have := Own_l1 (hears_small h) hs [] rfl (by omega)
  have this' : oyezlaw07_Own_l1 hs 0 (List.replicate ((hs.length : Int)).toNat []) = some hs := by
    rw [Int.toNat_natCast]; exact this
  unfold oyezlaw07_Own
  rw [gd_t (by omega), bvE, this', b1_some, copy_eq (by omega), b1_some, copy_cry (by omega), b1_some]
theorem BOK.more (h : BOK n n2 hs rs cs) {xs : List (Int × Int × Int)} (hl : cs.length + xs.length ≤ 12) (hx : ∀ c ∈ xs, (0 ≤ c.1 ∧ c.1 < (rs.length : Int)) ∧ (0 ≤ c.2.1 ∧ c.2.1 < (hs.length : Int)) ∧ (0 ≤ c.2.2 ∧ c.2.2 < n2)) : BOK n n2 hs rs (cs ++ xs) :=
  ⟨h.hn, h.hn2, h.hh, h.hr, by rw [List.length_append]; exact hl, h.h8, h.hl, h.rr, fun c hc => (List.mem_append.1 hc).elim (h.cc c) (hx c)⟩
theorem heardB_app (cs xs : List (Int × Int × Int)) (c : List Int) (x q : Int) : heardB hs (cs ++ xs) c x q = (heardB hs cs c x q || heardB hs xs c x q) := by unfold heardB; rw [List.any_append]
theorem verd_rng {x q v : Int} (h : VerdP hs rs cs x q v) : v = 0 ∨ v = 1 ∨ v = 2 := by
  rcases h with ⟨h, _⟩ | ⟨h, _⟩ | ⟨h, _⟩ <;> omega
theorem verd_uniq {x q v v2 : Int} {cs2 : List (Int × Int × Int)} (hex : ∃ c, FitF none rs c) (h1 : VerdP hs rs cs x q v) (h2 : VerdP hs rs cs2 x q v2) (he : ∀ c, FitF none rs c → heardB hs cs2 c x q = heardB hs cs c x q) : v2 = v := by
  obtain ⟨c, hc⟩ := hex
  rcases h1 with ⟨rfl, g1⟩ | ⟨rfl, g1⟩ | ⟨rfl, ⟨d, hd, g1⟩, d2, hd2, g2⟩
  · rcases h2 with ⟨rfl, _⟩ | ⟨rfl, f1⟩ | ⟨rfl, _, d, hd, f2⟩
    · rfl
    · have := f1 c hc; rw [he c hc, g1 c hc] at this; cases this
    · rw [he d hd, g1 d hd] at f2; cases f2
  · rcases h2 with ⟨rfl, f1⟩ | ⟨rfl, _⟩ | ⟨rfl, ⟨d, hd, f2⟩, _⟩
    · have := f1 c hc; rw [he c hc, g1 c hc] at this; cases this
    · rfl
    · rw [he d hd, g1 d hd] at f2; cases f2
  · rcases h2 with ⟨rfl, f1⟩ | ⟨rfl, f1⟩ | ⟨rfl, _⟩
    · have := f1 d2 hd2; rw [he d2 hd2, g2] at this; cases this
    · have := f1 d hd; rw [he d hd, g1] at this; cases this
    · rfl
theorem verd_one {x q v : Int} (h : VerdP hs rs cs x q v) : v = 1 ↔ ((∀ c, FitF none rs c → heardB hs cs c x q = true) ∧ v = 1) := by
  rcases h with ⟨rfl, h1⟩ | ⟨rfl, _⟩ | ⟨rfl, _⟩
  · exact ⟨fun _ => ⟨h1, rfl⟩, fun _ => rfl⟩
  · exact ⟨(fun h => by omega), fun h => h.2⟩
  · exact ⟨(fun h => by omega), fun h => h.2⟩
theorem verd_one_of {x q v : Int} (hex : ∃ c, FitF none rs c) (h : VerdP hs rs cs x q v) (ha : ∀ c, FitF none rs c → heardB hs cs c x q = true) : v = 1 := by
  obtain ⟨c, hc⟩ := hex
  rcases h with ⟨rfl, _⟩ | ⟨_, h1⟩ | ⟨_, _, d, hd, h1⟩
  · rfl
  · have := h1 c hc; rw [ha c hc] at this; cases this
  · rw [ha d hd] at h1; cases h1
theorem verd_not2 {x q v : Int} (h : VerdP hs rs cs x q v) {c : List Int} (hc : FitF none rs c) (ha : heardB hs cs c x q = true) : v ≠ 2 := by
  rcases h with ⟨rfl, _⟩ | ⟨_, h1⟩ | ⟨rfl, _⟩
  · decide
  · have := h1 c hc; rw [ha] at this; cases this
  · decide
theorem cried_l4 {rec2 : List (Int × Bool) → List (Int × Int) → Option Bool} : ∀ (l : List Int) (can : List (Int × Bool)) (must : List (Int × Int)) (B : Int), l.Nodup → (∀ x, 0 ≤ (mget must x).getD 0 ∧ (mget must x).getD 0 ≤ B) → B + l.length ≤ 1000 →
    ∃ can' must', oyezlaw07_BookCried_l4 rec2 l can must = rec2 can' must' ∧ ∀ x, ((mget can' x).getD false = true ↔ (mget can x).getD false = true ∨ x ∈ l) ∧ (mget must' x).getD 0 = (mget must x).getD 0 + if x ∈ l then 1 else 0
  | [], can, must, _, _, _, _ => ⟨can, must, rfl, fun x => by simp⟩
  | a :: l, can, must, B, hd, hm, hB => by
    rw [List.nodup_cons] at hd
    rw [List.length_cons] at hB
    have ha := hm a
    obtain ⟨can', must', e1, g1⟩ := cried_l4 l (mput can a true) (mput must a ((mget must a).getD 0 + 1)) (B + 1) (rec2 := rec2) hd.2 (fun x => by
      rw [mget_mput]
      by_cases e : a = x
      · rw [if_pos e]; show 0 ≤ (mget must a).getD 0 + 1 ∧ (mget must a).getD 0 + 1 ≤ B + 1; omega
      · rw [if_neg e]; have := hm x; omega) (by omega)
    refine ⟨can', must', ?_, fun x => ?_⟩
    · unfold oyezlaw07_BookCried_l4
      rw [bvE, gd_t (r64_small (by omega)), bvE]
      exact e1
    · obtain ⟨g2, g3⟩ := g1 x
      rw [mget_mput] at g2 g3
      by_cases e : a = x
      · subst e
        rw [if_pos rfl] at g2 g3
        rw [if_neg hd.1] at g3
        refine ⟨⟨fun _ => .inr (List.mem_cons_self ..), fun _ => g2.2 (.inl rfl)⟩, ?_⟩
        rw [g3, if_pos (List.mem_cons_self ..)]
        show (mget must a).getD 0 + 1 + 0 = _
        omega
      · rw [if_neg e] at g2 g3
        have hx : x ∈ a :: l ↔ x ∈ l := by rw [List.mem_cons]; exact ⟨fun h => h.resolve_left (fun h => e h.symm), .inr⟩
        refine ⟨by rw [g2, hx], ?_⟩
        rw [g3]
        simp only [hx]
theorem cried_l2 (h : BOK n n2 hs rs cs) {k s q : Int} (hs2 : 0 ≤ s ∧ s < (hs.length : Int)) {V W T : List (List Int)} : ∀ (ws : List Int) (can : List (Int × Bool)) (must : List (Int × Int)) (B : Int), (∀ w ∈ ws, 0 ≤ w ∧ w ≤ 7) → (∀ x, 0 ≤ (mget must x).getD 0 ∧ (mget must x).getD 0 ≤ B) → B + ws.length ≤ 100 →
    ∃ can' must', oyezlaw07_BookCried_l2 n2 hs k s q V W T ws can must = oyezlaw07_BookCried_j1 n2 k q V W T can' must' ∧ ∀ x, ((mget can' x).getD false = true ↔ (mget can x).getD false = true ∨ ∃ w ∈ ws, x ∈ cell hs s w) ∧ (mget must' x).getD 0 = (mget must x).getD 0 + (ws.countP fun w => decide (x ∈ cell hs s w) : Nat)
  | [], can, must, _, _, _, _ => ⟨can, must, rfl, fun x => by simp⟩
  | w :: ws, can, must, B, hw, hm, hB => by
    rw [List.length_cons] at hB
    have hw1 := hw w (by simp)
    have hn := h.hn
    obtain ⟨g1, g2⟩ := cell_rng h hs2 hw1
    obtain ⟨_, g3, _⟩ := cell_mem h hs2 hw1
    have hlen := nodup_len g1 g2
    obtain ⟨can1, must1, e1, f1⟩ := cried_l4 (rec2 := oyezlaw07_BookCried_l2 n2 hs k s q V W T ws) (cell hs s w) can must B g1 hm (by omega)
    obtain ⟨can2, must2, e2, f2⟩ := cried_l2 h hs2 (k := k) (q := q) (V := V) (W := W) (T := T) ws can1 must1 (B + 1) (fun x hx => hw x (by simp [hx])) (fun x => by
      have h5 := (f1 x).2; have h6 := hm x
      split at h5 <;> omega) (by omega)
    refine ⟨can2, must2, ?_, fun x => ?_⟩
    · unfold oyezlaw07_BookCried_l2
      rw [if_neg (by omega), decide_eq_false (by omega), b1_some, if_neg (by decide), ixD [] _ hs2.1 hs2.2, ixD [] _ hw1.1 (by omega)]
      exact e1.trans e2
    · obtain ⟨p1, p2⟩ := f1 x
      obtain ⟨p3, p4⟩ := f2 x
      refine ⟨?_, ?_⟩
      · rw [p3, p1]
        constructor
        · rintro ((h | h) | ⟨v, hv, h⟩)
          · exact .inl h
          · exact .inr ⟨w, by simp, h⟩
          · exact .inr ⟨v, by simp [hv], h⟩
        · rintro (h | ⟨v, hv, h⟩)
          · exact .inl (.inl h)
          · rcases List.mem_cons.1 hv with rfl | hv
            · exact .inl (.inr h)
            · exact .inr ⟨v, hv, h⟩
      · rw [p4, p2, List.countP_cons]
        by_cases e : x ∈ cell hs s w
        · rw [if_pos e, decide_eq_true e, if_pos rfl]; omega
        · rw [if_neg e, decide_eq_false e, if_neg (by decide)]; omega
theorem k8_ok {k7 n5 y z : Int} {b : Bool} (hy : y = 0 ∨ y = 1 ∨ y = 2) (h1 : k7 ≠ n5 ∨ b = false → z = y) (h2 : y = 1 → z = 1) (h3 : y = 0 → z ≠ 2) : (if k7 ≠ n5 then
    (if z ≠ y then (some true) else (if y = 1 then (if y = 0 then (some (decide (z = 2))) else (some false)) else (if y = 0 then (some (decide (z = 2))) else (some false))))
    else
    (if (!b) = true then
    (if z ≠ y then (some true) else (if y = 1 then (if y = 0 then (some (decide (z = 2))) else (some false)) else (if y = 0 then (some (decide (z = 2))) else (some false))))
    else
    (if y = 1 then (if z ≠ y then (some true) else (if y = 0 then (some (decide (z = 2))) else (some false))) else (if y = 0 then (some (decide (z = 2))) else (some false))))) = some false := by
  have key : z = y → (if z ≠ y then (some true) else (if y = 1 then (if y = 0 then (some (decide (z = 2))) else (some false)) else (if y = 0 then (some (decide (z = 2))) else (some false)))) = some false := fun e => by
    subst e
    rw [if_neg (by simp)]
    rcases hy with rfl | rfl | rfl <;> rfl
  by_cases e : k7 = n5
  · rw [if_neg (by simp [e])]
    cases b with
    | false => exact (if_pos (by decide)).trans (key (h1 (.inr rfl)))
    | true =>
      rw [if_neg (by decide)]
      rcases hy with rfl | rfl | rfl
      · rw [if_neg (by decide), if_pos rfl, decide_eq_false (h3 rfl)]
      · rw [if_pos rfl, h2 rfl]; rfl
      · rfl
  · rw [if_pos e]; exact key (h1 (.inl e))
theorem cried_l8 {k q : Int} {x : Nat} {W T : List (List Int)} {can : List (Int × Bool)} {must : List (Int × Int)} (hk : 0 ≤ k ∧ k < (T.length : Int)) (hx : x < W.length) {row : List Int} (hrow : (W.getD x []).length = row.length) (h100 : row.length ≤ 100)
    (hF : ∀ p : Nat, p < row.length → (row.getD p 0 = 0 ∨ row.getD p 0 = 1 ∨ row.getD p 0 = 2) ∧ ((p : Int) ≠ q ∨ (mget can (x : Int)).getD false = false → (W.getD x []).getD p 0 = row.getD p 0) ∧ (row.getD p 0 = 1 → (W.getD x []).getD p 0 = 1) ∧ (row.getD p 0 = 0 → (W.getD x []).getD p 0 ≠ 2) ∧
      ((p : Int) = q → (mget must (x : Int)).getD 0 = ((T.getD k.toNat []).length : Int) → (W.getD x []).getD p 0 = 1) ∧ ((p : Int) = q → (mget can (x : Int)).getD false = true → (W.getD x []).getD p 0 ≠ 2)) {rec6 : Int → Option Bool} : ∀ (tl : List Int) (p : Nat), row.drop p = tl → oyezlaw07_BookCried_l8 k q W T can must (x : Int) rec6 tl (p : Int) = rec6 ((x : Int) + 1)
  | [], _, _ => rfl
  | y :: tl, p, hd => by
    obtain ⟨hp, he, hd2⟩ := drop_cons 0 hd
    obtain ⟨f0, f1, f2, f3, f4, f5⟩ := hF p hp
    rw [he] at f0 f1 f2 f3
    have ih := cried_l8 hk hx hrow h100 hF (rec6 := rec6) tl (p + 1) hd2
    unfold oyezlaw07_BookCried_l8
    rw [ixN [] _ hx, ixI _ (by omega)]
    generalize (W.getD x []).getD p 0 = z at f1 f2 f3 f4 f5
    rw [k8_ok f0 f1 f2 f3, b1_some, if_neg (by decide), ixD [] _ hk.1 hk.2]
    generalize (mget must (x : Int)).getD 0 = mu at f4
    generalize (mget can (x : Int)).getD false = b at f5
    have e : (if (p : Int) = q then (if mu = ((T.getD k.toNat []).length : Int) then (if z ≠ 1 then some true else if b = true then some (decide (z = 2)) else some false) else (if b = true then some (decide (z = 2)) else some false)) else some false) = some false := by
      by_cases e1 : (p : Int) = q
      · rw [if_pos e1]
        have e3 : (if b = true then some (decide (z = 2)) else some false) = some false := by
          by_cases e3 : b = true
          · rw [if_pos e3, decide_eq_false (f5 e1 e3)]
          · rw [if_neg e3]
        by_cases e2 : mu = ((T.getD k.toNat []).length : Int)
        · rw [if_pos e2, if_neg (by rw [f4 e1 e2]; simp), e3]
        · rw [if_neg e2, e3]
      · rw [if_neg e1]
    rw [e, b1_some, if_neg (by decide), show (p : Int) + 1 = ((p + 1 : Nat) : Int) by omega]
    exact ih
theorem cried_l6 (h : BOK n n2 hs rs cs) (hex : ∃ c, FitF none rs c) {k : Nat} (hk : k < rs.length) {s q : Int} (hs2 : 0 ≤ s ∧ s < (hs.length : Int)) (hq : 0 ≤ q ∧ q < n2) {V W : List (List Int)} (hV : VTab n n2 hs rs cs V) (hW : VTab n n2 hs rs (cs ++ [((k : Int), s, q)]) W) {can : List (Int × Bool)} {must : List (Int × Int)}
    (hcan : ∀ x, (mget can x).getD false = true ↔ ∃ w ∈ WL rs k, x ∈ cell hs s w) (hmust : ∀ x, (mget must x).getD 0 = ((WL rs k).countP fun w => decide (x ∈ cell hs s w) : Nat)) : ∀ (tl : List (List Int)) (x : Nat), V.drop x = tl → oyezlaw07_BookCried_l6 n2 (k : Int) q W (WT rs) can must tl (x : Int) = some true
  | [], _, _ => by
    unfold oyezlaw07_BookCried_l6 oyezlaw07_BookCried_j5
    rw [awake_true, b1_some]
  | row :: tl, x, hd => by
    obtain ⟨hx, he, hd2⟩ := drop_cons [] hd
    have hVl := hV.len; have hWl := hW.len; have hn2 := h.hn2; have hr := h.hr
    have h1 := hV.row row (by rw [← he]; exact getD_mem hx)
    have h2 := hW.row (W.getD x []) (getD_mem (by omega))
    have ih := cried_l6 h hex hk hs2 hq hV hW hcan hmust tl (x + 1) hd2
    unfold oyezlaw07_BookCried_l6
    rw [if_neg (by rw [h1]; simp), ixN [] _ (by omega), decide_eq_false (by rw [h2]; simp), b1_some, if_neg (by decide)]
    have hh : ∀ c, FitF none rs c → ∀ p : Int, heardB hs (cs ++ [((k : Int), s, q)]) c (x : Int) p = (heardB hs cs c (x : Int) p || (decide (q = p) && decide ((x : Int) ∈ cell hs s (c.getD k 0)))) := fun c _ p => by
      rw [heardB_app]
      congr 1
      show (([((k : Int), s, q)] : List (Int × Int × Int)).any fun y => decide (y.2.2 = p) && decide ((x : Int) ∈ cell hs y.2.1 (c.getD y.1.toNat 0))) = _
      rw [List.any_cons, List.any_nil, Bool.or_false, Int.toNat_natCast]
    have e := cried_l8 (k := (k : Int)) (q := q) (x := x) (W := W) (T := WT rs) (can := can) (must := must) (by rw [WT_len]; omega) (by omega) (row := row) (by omega) (by omega) (fun p hp => by
      have g1 := hV.get (x : Int) (p : Int) (by omega) (by omega)
      have g2 := hW.get (x : Int) (p : Int) (by omega) (by omega)
      rw [Int.toNat_natCast, Int.toNat_natCast] at g1 g2
      rw [he] at g1
      have hsame : ((p : Int) ≠ q ∨ (mget can (x : Int)).getD false = false) → ∀ c, FitF none rs c → heardB hs (cs ++ [((k : Int), s, q)]) c (x : Int) (p : Int) = heardB hs cs c (x : Int) (p : Int) := fun hor c hc => by
        rw [hh c hc]
        have : (decide (q = (p : Int)) && decide ((x : Int) ∈ cell hs s (c.getD k 0))) = false := by
          rcases hor with h3 | h3
          · rw [decide_eq_false (fun e => h3 e.symm)]; rfl
          · have h4 : ¬ (x : Int) ∈ cell hs s (c.getD k 0) := fun h5 => by
              have := (hcan (x : Int)).2 ⟨_, (mem_WL hk).2 ⟨c, hc, rfl⟩, h5⟩
              rw [h3] at this; cases this
            rw [decide_eq_false h4, Bool.and_false]
        rw [this, Bool.or_false]
      refine ⟨verd_rng g1, fun hor => verd_uniq hex g1 g2 (hsame hor), fun e1 => ?_, fun e0 => ?_, fun epq em => ?_, fun epq ec => ?_⟩
      · have h3 := ((verd_one g1).1 e1).1
        exact verd_one_of hex g2 fun c hc => by rw [hh c hc, h3 c hc]; rfl
      · rcases g1 with ⟨h3, _⟩ | ⟨h3, _⟩ | ⟨_, ⟨c, hc, h3⟩, _⟩
        · omega
        · omega
        · exact verd_not2 g2 hc (by rw [hh c hc, h3]; rfl)
      · rw [Int.toNat_natCast, WT_get hk, hmust] at em
        have h3 : (WL rs k).countP (fun w => decide ((x : Int) ∈ cell hs s w)) = (WL rs k).length := by omega
        have h4 := List.countP_eq_length.1 h3
        exact verd_one_of hex g2 fun c hc => by
          have h5 := h4 _ ((mem_WL hk).2 ⟨c, hc, rfl⟩)
          rw [hh c hc, h5, decide_eq_true epq.symm]; simp
      · obtain ⟨w, hw, h3⟩ := (hcan (x : Int)).1 ec
        obtain ⟨c, hc, rfl⟩ := (mem_WL hk).1 hw
        exact verd_not2 g2 hc (by rw [hh c hc, decide_eq_true h3, decide_eq_true epq.symm]; simp)) (rec6 := oyezlaw07_BookCried_l6 n2 (k : Int) q W (WT rs) can must tl) row 0 rfl
    refine Eq.trans e ?_
    rw [show (x : Int) + 1 = ((x + 1 : Nat) : Int) by omega]
    exact ih
end
/-- BookCried. -/
theorem cried_true {numbers more : List Int} (h1 : (numbers.length : Int) ≤ 9223372036854775807) (h2 : (more.length : Int) ≤ 9223372036854775807) : oyezlaw07_BookCried numbers more = some true := by
  unfold oyezlaw07_BookCried oyezkit_Hang
  obtain ⟨n, n2, hs, rs, cs, real, a, t, e1, hM, _⟩ := made_ok (metal := numbers) (t := 0) (a := 0) (H := 4) (N := 2) (S := 3) (R := 5) ⟨by omega, by omega⟩ h1 (by omega) (by omega) (by omega) (by omega)
  have h := hM.ok
  have hr := h.hr; have hh := h.hh; have hn2 := h.hn2; have hn := h.hn
  have hex : ∃ c, FitF none rs c := ⟨real, hM.fit⟩
  obtain ⟨k, a1, t1, e2, f1, f2, ha1⟩ := stroke_ok (metal := more) (a := 0) (t := 0) (n := (rs.length : Int) - 1) ⟨by omega, by omega⟩ h2 (by omega)
  obtain ⟨s, a2, t2, e3, f3, f4, ha2⟩ := stroke_ok (t := t1) (n := (hs.length : Int) - 1) ha1 h2 (by omega)
  obtain ⟨q, a3, t3, e4, f5, f6, ha3⟩ := stroke_ok (t := t2) (n := n2 - 1) ha2 h2 (by omega)
  obtain ⟨k, rfl⟩ := Int.eq_ofNat_of_zero_le f1
  have hk : k < rs.length := by omega
  have hu := h.more (xs := [((k : Int), s, q)]) (by have := hM.few; simp; omega) (fun c hc => by
    rw [List.mem_singleton] at hc; subst hc
    exact ⟨⟨by show 0 ≤ (k : Int); omega, by show (k : Int) < _; omega⟩, ⟨f3, by show s < _; omega⟩, f5, by show q < _; omega⟩)
  obtain ⟨V, e5, hV⟩ := Verdicts_eq h hex
  obtain ⟨W, e6, hW⟩ := Verdicts_eq hu hex
  have hVl := hV.len; have hWl := hW.len
  rw [b3_some, e1, b8_some, b3_some, gd_t (r64_small (by omega)), gd_t (r64_small (by omega)), gd_t (r64_small (by omega)), e2, b3_some, e3, b3_some, e4, b3_some, Own_eq h, b5_some, ap_t (by have := hM.few; simp; omega), e5, b2_some, e6, b2_some, Count_eq h, b2_some, Count_eq hu, b2_some, Winds_eq h hex, b2_some, if_neg (by decide), if_neg (by decide), if_neg (by decide), if_neg (by decide), if_neg (by decide), if_neg (by simp), if_neg (by rw [hVl]; simp), if_neg (by rw [hWl]; simp), decide_eq_false (by rw [WT_len]; simp), b1_some, if_neg (by decide), ixN [] _ (by rw [WT_len]; omega), WT_get hk]
  obtain ⟨can, must, g1, g2⟩ := cried_l2 h (k := (k : Int)) (s := s) (q := q) (by omega) (V := V) (W := W) (T := WT rs) (WL rs k) [] [] 0 (fun w hw => WL_rng hw) (fun x => by rw [mget_nil]; show (0 : Int) ≤ 0 ∧ (0 : Int) ≤ 0; omega) (by
    have : (WL rs k).length ≤ 8 := Nat.le_trans (List.length_filter_le _ _) (by decide)
    omega)
  rw [g1]
  unfold oyezlaw07_BookCried_j1
  exact cried_l6 h hex hk (by omega) (by omega) hV hW (fun x => by
    rw [(g2 x).1, mget_nil]; simp) (fun x => by
    rw [(g2 x).2, mget_nil]
    show (0 : Int) + _ = _
    omega) V 0 rfl
end Go.Proofs.Ytodhcoakjlmcdaa.Bk
