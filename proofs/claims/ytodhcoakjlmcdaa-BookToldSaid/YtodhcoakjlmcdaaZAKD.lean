/- Layer 7: books that are made of numbers, courses that are tried; BookTold; in plain Lean. -/
import Derived.Test.YtodhcoakjlmcdaaZAKC
namespace Go.Proofs.Ytodhcoakjlmcdaa.Bk
open Go.PL
theorem wind_all : (W8.all fun w => ([-1, 0, 1] : List Int).all fun d => match oyezkit_Wind (w + d) 8 with | some v => W8.contains v && nearB v w | none => false) = true := by decide +kernel
theorem wind_ok {w d : Int} (hw : 0 ≤ w ∧ w ≤ 7) (hd : -1 ≤ d ∧ d ≤ 1) : ∃ v, oyezkit_Wind (w + d) 8 = some v ∧ (0 ≤ v ∧ v ≤ 7) ∧ nearB v w = true := by
  have h := List.all_eq_true.1 (List.all_eq_true.1 wind_all w (mem_W8.2 hw)) d (by
    have : d = -1 ∨ d = 0 ∨ d = 1 := by omega
    rcases this with rfl | rfl | rfl <;> simp)
  revert h
  cases oyezkit_Wind (w + d) 8 with
  | none => intro h; cases h
  | some v =>
    intro h
    rw [Bool.and_eq_true] at h
    exact ⟨v, rfl, mem_W8.1 (by simpa using h.1), h.2⟩
section
variable {metal : List Int}
theorem made_l2 (hm : (metal.length : Int) ≤ 9223372036854775807) {N : Nat} (hN : N ≤ 6) : ∀ (fu : Nat) (a t : Int) (ws : List (List Int)), BellA metal a → ws.length + fu ≤ 100 → (∀ l ∈ ws, l.Nodup ∧ ∀ x ∈ l, 0 ≤ x ∧ x < (N : Int)) →
    ∃ a' t' ws', oyezlaw07_Made_l2 metal (N : Int) fu a t ws = some (a', t', ws') ∧ BellA metal a' ∧ ws'.length = ws.length + fu ∧ ∀ l ∈ ws', l.Nodup ∧ ∀ x ∈ l, 0 ≤ x ∧ x < (N : Int)
  | 0, a, t, ws, ha, _, hw => ⟨a, t, ws, rfl, ha, rfl, hw⟩
  | fu + 1, a, t, ws, ha, hl, hw => by
    obtain ⟨r, a1, t1, e1, ⟨h1, h2, h3⟩, ha1⟩ := rung_ok hm (t := t) ha (n := N) (by omega)
    obtain ⟨v, a2, t2, e2, h4, h5, ha2⟩ := stroke_ok (t := t1) (n := (r.length : Int)) ha1 hm (by omega)
    obtain ⟨a3, t3, ws3, e3, ha3, g1, g2⟩ := made_l2 hm hN fu a2 t2 (ws ++ [r.take v.toNat]) ha2 (by simp; omega) (fun l hl2 => by
      rcases List.mem_append.1 hl2 with h | h
      · exact hw l h
      · rw [List.mem_singleton] at h; subst h
        exact ⟨h2.sublist (List.take_sublist _ _), fun x hx => h3 x (List.mem_of_mem_take hx)⟩)
    refine ⟨a3, t3, ws3, ?_, ha3, by rw [g1]; simp; omega, g2⟩
    unfold oyezlaw07_Made_l2
    rw [e1, b3_some, e2, b3_some, gd_t ⟨⟨by omega, by omega⟩, by omega⟩, bvE, sl_take, ap_t (by simp; omega)]
    exact e3
theorem made_l1 (hm : (metal.length : Int) ≤ 9223372036854775807) {N : Nat} (hN : N ≤ 6) : ∀ (fu : Nat) (a t : Int) (hs : List (List (List Int))), BellA metal a → hs.length + fu ≤ 100 → (∀ w ∈ hs, w.length = 8 ∧ ∀ l ∈ w, l.Nodup ∧ ∀ x ∈ l, 0 ≤ x ∧ x < (N : Int)) →
    ∃ a' t' hs', oyezlaw07_Made_l1 metal (N : Int) fu a t hs = some (a', t', hs') ∧ BellA metal a' ∧ hs'.length = hs.length + fu ∧ ∀ w ∈ hs', w.length = 8 ∧ ∀ l ∈ w, l.Nodup ∧ ∀ x ∈ l, 0 ≤ x ∧ x < (N : Int)
  | 0, a, t, hs, ha, _, hw => ⟨a, t, hs, rfl, ha, rfl, hw⟩
  | fu + 1, a, t, hs, ha, hl, hw => by
    obtain ⟨a1, t1, ws, e1, ha1, h1, h2⟩ := made_l2 hm hN 8 a t [] ha (by simp) (fun _ h => nomatch h)
    obtain ⟨a3, t3, hs3, e3, ha3, g1, g2⟩ := made_l1 hm hN fu a1 t1 (hs ++ [ws]) ha1 (by simp; omega) (fun w hw2 => by
      rcases List.mem_append.1 hw2 with h | h
      · exact hw w h
      · rw [List.mem_singleton] at h; subst h
        exact ⟨by simpa using h1, h2⟩)
    refine ⟨a3, t3, hs3, ?_, ha3, by rw [g1]; simp; omega, g2⟩
    unfold oyezlaw07_Made_l1
    have e1' : oyezlaw07_Made_l2 metal (N : Int) (Int.toNat (8 - 0)) a t [] = some (a1, t1, ws) := e1
    rw [gd_t ⟨r64_small (by omega), r64_small (by omega)⟩, e1', b3_some, ap_t (by simp; omega), b3_some]
    exact e3
theorem made_l3 (hm : (metal.length : Int) ≤ 9223372036854775807) : ∀ (fu : Nat) (a t : Int) (rs : List Int) (w : Int) (real : List Int), BellA metal a → (0 ≤ w ∧ w ≤ 7) → rs.length + fu ≤ 100 → FitF none rs real → (∀ v, lstO none real = some v → v = w) → (∀ r ∈ rs, -1 ≤ r ∧ r ≤ 7) →
    ∃ a' t' rs' real', oyezlaw07_Made_l3 metal fu a t rs w real = some (a', t', rs', real') ∧ BellA metal a' ∧ rs'.length = rs.length + fu ∧ FitF none rs' real' ∧ ∀ r ∈ rs', -1 ≤ r ∧ r ≤ 7
  | 0, a, t, rs, w, real, ha, _, _, hF, _, hr => ⟨a, t, rs, real, rfl, ha, rfl, hF, hr⟩
  | fu + 1, a, t, rs, w, real, ha, hw, hl, hF, hlast, hr => by
    obtain ⟨d1, a1, t1, e1, h1, h2, ha1⟩ := strike_ok (t := t) (lo := -1) (hi := 1) ha hm (by omega) (by omega)
    obtain ⟨w1, e2, h3, h4⟩ := wind_ok hw (d := d1) (by omega)
    obtain ⟨d2, a2, t2, e3, h5, h6, ha2⟩ := strike_ok (t := t1) (lo := -1) (hi := 1) ha1 hm (by omega) (by omega)
    obtain ⟨p, e4, h7, h8⟩ := wind_ok h3 (d := d2) (by omega)
    obtain ⟨b, a3, t3, e5, ha3⟩ := seldom_ok (t := t2) (n := 3) ha2 hm (by omega)
    have hrl := hF.len
    have key : ∀ q : Int, (q = -1 ∨ q = p) → ∃ a' t' rs' real', oyezlaw07_Made_l3 metal fu a3 t3 (rs ++ [q]) w1 (real ++ [w1]) = some (a', t', rs', real') ∧ BellA metal a' ∧ rs'.length = rs.length + (fu + 1) ∧ FitF none rs' real' ∧ ∀ r ∈ rs', -1 ≤ r ∧ r ≤ 7 := fun q hq => by
      have hcan : canB q w1 = true := by
        unfold canB
        rcases hq with rfl | rfl
        · rfl
        · rw [near_comm, h8]; simp
      obtain ⟨a4, t4, rs4, real4, e6, ha4, g1, g2, g3⟩ := made_l3 hm fu a3 t3 (rs ++ [q]) w1 (real ++ [w1]) ha3 h3 (by simp; omega) (hF.snoc h3 hcan (fun v hv => by rw [hlast v hv]; exact h4)) (fun v hv => by rw [lstO_snoc] at hv; cases hv; rfl) (fun r hr2 => by
        rcases List.mem_append.1 hr2 with h | h
        · exact hr r h
        · rw [List.mem_singleton] at h; omega)
      exact ⟨a4, t4, rs4, real4, e6, ha4, by rw [g1]; simp; omega, g2, g3⟩
    unfold oyezlaw07_Made_l3
    rw [e1, b3_some, gd_t (r64_small (by omega)), e2, b1_some, e3, b3_some, gd_t (r64_small (by omega)), e4, b1_some, e5, b3_some]
    cases b with
    | true => rw [if_pos rfl, b3_some, ap_t (by simp; omega), ap_t (by simp; omega)]; exact key (-1) (.inl rfl)
    | false => rw [if_neg (by decide), b3_some, ap_t (by simp; omega), ap_t (by simp; omega)]; exact key p (.inr rfl)
theorem made_l4 (hm : (metal.length : Int) ≤ 9223372036854775807) {n2 : Int} (hn2 : 1 ≤ n2 ∧ n2 ≤ 4) {hs : List (List (List Int))} (hh : 1 ≤ hs.length ∧ hs.length ≤ 4) {real : List Int} (hr : 1 ≤ real.length ∧ real.length ≤ 8) : ∀ (fu : Nat) (a t : Int) (cs : List (Int × Int × Int)), BellA metal a → cs.length + fu ≤ 100 → (∀ c ∈ cs, (0 ≤ c.1 ∧ c.1 < (real.length : Int)) ∧ (0 ≤ c.2.1 ∧ c.2.1 < (hs.length : Int)) ∧ (0 ≤ c.2.2 ∧ c.2.2 < n2)) →
    ∃ cs' a' t', oyezlaw07_Made_l4 metal n2 hs real fu a t cs = some (cs', a', t') ∧ BellA metal a' ∧ cs'.length = cs.length + fu ∧ ∀ c ∈ cs', (0 ≤ c.1 ∧ c.1 < (real.length : Int)) ∧ (0 ≤ c.2.1 ∧ c.2.1 < (hs.length : Int)) ∧ (0 ≤ c.2.2 ∧ c.2.2 < n2)
  | 0, a, t, cs, ha, _, hw => ⟨cs, a, t, rfl, ha, rfl, hw⟩
  | fu + 1, a, t, cs, ha, hl, hw => by
    obtain ⟨v1, a1, t1, e1, h1, h2, ha1⟩ := stroke_ok (t := t) (n := (real.length : Int) - 1) ha hm (by omega)
    obtain ⟨v2, a2, t2, e2, h3, h4, ha2⟩ := stroke_ok (t := t1) (n := (hs.length : Int) - 1) ha1 hm (by omega)
    obtain ⟨v3, a3, t3, e3, h5, h6, ha3⟩ := stroke_ok (t := t2) (n := n2 - 1) ha2 hm (by omega)
    obtain ⟨cs4, a4, t4, e4, ha4, g1, g2⟩ := made_l4 hm hn2 hh hr fu a3 t3 (cs ++ [(v1, v2, v3)]) ha3 (by simp; omega) (fun c hc => by
      rcases List.mem_append.1 hc with h | h
      · exact hw c h
      · rw [List.mem_singleton] at h; subst h
        exact ⟨⟨h1, by show v1 < _; omega⟩, ⟨h3, by show v2 < _; omega⟩, h5, by show v3 < _; omega⟩)
    refine ⟨cs4, a4, t4, ?_, ha4, by rw [g1]; simp; omega, g2⟩
    unfold oyezlaw07_Made_l4
    rw [gd_t (r64_small (by omega)), gd_t (r64_small (by omega)), gd_t (r64_small (by omega)), e1, b3_some, e2, b3_some, e3, b3_some, ap_t (by simp; omega)]
    exact e4
/-- A book that is made, and what the wind really did. -/
structure MadeP (n n2 : Int) (hs : List (List (List Int))) (rs : List Int) (cs : List (Int × Int × Int)) (real : List Int) : Prop where
  ok : BOK n n2 hs rs cs
  fit : FitF none rs real
  few : cs.length ≤ 6
theorem made_ok {a t H N S R : Int} (ha : BellA metal a) (hm : (metal.length : Int) ≤ 9223372036854775807) (hH : 1 ≤ H ∧ H ≤ 6) (hN : 1 ≤ N ∧ N ≤ 4) (hS : 1 ≤ S ∧ S ≤ 4) (hR : 1 ≤ R ∧ R ≤ 8) : ∃ n n2 hs rs cs real a' t', oyezlaw07_Made metal a t H N S R = some (n, n2, hs, rs, cs, real, a', t') ∧ MadeP n n2 hs rs cs real ∧ BellA metal a' := by
  obtain ⟨n, a1, t1, e1, h1, h2, ha1⟩ := strike_ok (t := t) (lo := 1) (hi := H) ha hm (by omega) (by omega)
  obtain ⟨n2, a2, t2, e2, h3, h4, ha2⟩ := strike_ok (t := t1) (lo := 1) (hi := N) ha1 hm (by omega) (by omega)
  obtain ⟨s, a3, t3, e3, h5, h6, ha3⟩ := strike_ok (t := t2) (lo := 1) (hi := S) ha2 hm (by omega) (by omega)
  obtain ⟨n', rfl⟩ := Int.eq_ofNat_of_zero_le (show 0 ≤ n by omega)
  obtain ⟨s', rfl⟩ := Int.eq_ofNat_of_zero_le (show 0 ≤ s by omega)
  obtain ⟨a4, t4, hs, e4, ha4, h7, h8⟩ := made_l1 hm (N := n') (by omega) s' a3 t3 [] ha3 (by simp; omega) (fun _ h => nomatch h)
  obtain ⟨w, a5, t5, e5, h9, h10, ha5⟩ := stroke_ok (t := t4) (n := 7) ha4 hm (by omega)
  obtain ⟨k, a6, t6, e6, h11, h12, ha6⟩ := strike_ok (t := t5) (lo := 1) (hi := R) ha5 hm (by omega) (by omega)
  obtain ⟨k', rfl⟩ := Int.eq_ofNat_of_zero_le (show 0 ≤ k by omega)
  obtain ⟨a7, t7, rs, real, e7, ha7, h13, h14, h15⟩ := made_l3 hm k' a6 t6 [] w [] ha6 (by omega) (by simp; omega) trivial (fun _ h => nomatch h) (fun _ h => nomatch h)
  obtain ⟨m, a8, t8, e8, h16, h17, ha8⟩ := stroke_ok (t := t7) (n := 6) ha7 hm (by omega)
  obtain ⟨m', rfl⟩ := Int.eq_ofNat_of_zero_le h16
  have hrl := h14.len
  rw [List.length_nil, Nat.zero_add] at h7 h13
  obtain ⟨cs, a9, t9, e9, ha9, h18, h19⟩ := made_l4 hm (n2 := n2) (by omega) (hs := hs) (by omega) (real := real) (by omega) m' a8 t8 [] ha8 (by simp; omega) (fun _ h => nomatch h)
  rw [List.length_nil, Nat.zero_add] at h18
  refine ⟨n', n2, hs, rs, cs, real, a9, t9, ?_, ⟨⟨by omega, by omega, by omega, by omega, by omega, fun w hw => (h8 w hw).1, fun w hw => (h8 w hw).2, h15, fun c hc => by rw [← hrl]; exact h19 c hc⟩, h14, by omega⟩, ha9⟩
  unfold oyezlaw07_Made
  have e4' : oyezlaw07_Made_l1 metal (n' : Int) (Int.toNat ((s' : Int) - 0)) a3 t3 [] = some (a4, t4, hs) := by
    rw [show Int.toNat ((s' : Int) - 0) = s' by omega]; exact e4
  have e7' : oyezlaw07_Made_l3 metal (Int.toNat ((k' : Int) - 0)) a6 t6 [] w [] = some (a7, t7, rs, real) := by
    rw [show Int.toNat ((k' : Int) - 0) = k' by omega]; exact e7
  have e9' : oyezlaw07_Made_l4 metal n2 hs real (Int.toNat ((m' : Int) - 0)) a8 t8 [] = some (cs, a9, t9) := by
    rw [show Int.toNat ((m' : Int) - 0) = m' by omega]; exact e9
  rw [e1, b3_some, e2, b3_some, e3, b3_some, gd_t ⟨r64_small (by omega), r64_small (by omega)⟩, e4', b3_some, e5, b3_some, e6, b3_some, gd_t ⟨r64_small (by omega), r64_small (by omega)⟩, e7', b4_some, e8, b3_some, gd_t ⟨r64_small (by omega), r64_small (by omega)⟩, e9', b3_some]
theorem windA_all : ((List.range 10).all fun w => match oyezkit_Wind ((w : Int) - 1) 8 with | some v => W8.contains v | none => false) = true := by decide +kernel
theorem windA_ok {w : Int} (hw : -1 ≤ w ∧ w ≤ 8) : ∃ v, oyezkit_Wind w 8 = some v ∧ (0 ≤ v ∧ v ≤ 7) := by
  obtain ⟨k, hk⟩ := Int.eq_ofNat_of_zero_le (show 0 ≤ w + 1 by omega)
  have h := List.all_eq_true.1 windA_all k (List.mem_range.2 (by omega))
  have hk2 : (k : Int) - 1 = w := by omega
  rw [hk2] at h
  revert h
  cases oyezkit_Wind w 8 with
  | none => intro h; cases h
  | some v => intro h; exact ⟨v, rfl, mem_W8.1 (by simpa using h)⟩
theorem tried_l3 {x y d a t : Int} (hd : -1 ≤ d ∧ d ≤ 1) : ∀ (m fu : Nat) (own : List Int) (h : Int), ((if y > x then y else x) + 1 - h).toNat ≤ m → m < fu → 0 ≤ h → (if y > x then y else x) < (own.length : Int) → own.length ≤ 8 → (∀ w ∈ own, 0 ≤ w ∧ w ≤ 7) →
    ∃ own', oyezlaw07_tried_l3 x y d a t fu own h = some (a, t, own') ∧ own'.length = own.length ∧ ∀ w ∈ own', 0 ≤ w ∧ w ≤ 7
  | m, 0, _, _, _, hf, _, _, _, _ => by omega
  | m, fu + 1, own, h, hm, hf, h0, hlt, h8, hw => by
    unfold oyezlaw07_tried_l3
    by_cases e : h ≤ (if y > x then y else x)
    · have hk : h < (own.length : Int) := by omega
      have hx := hw _ (getD_mem (d := 0) (show h.toNat < own.length by omega))
      obtain ⟨v, e1, h1⟩ := windA_ok (w := own.getD h.toNat 0 + d) (by omega)
      obtain ⟨own', g1, g2, g3⟩ := tried_l3 (x := x) (y := y) (a := a) (t := t) hd (m - 1) fu (own.set h.toNat v) (h + 1) (by omega) (by omega) (by omega) (by rw [List.length_set]; exact hlt) (by rw [List.length_set]; exact h8) (fun w hw2 => by
        rcases List.mem_or_eq_of_mem_set hw2 with h | rfl
        · exact hw w h
        · exact h1)
      rw [if_pos e, ixD 0 _ h0 hk, gd_t (r64_small (by omega)), e1, b1_some, bvE, gd_t (r64_small (by omega))]
      exact ⟨own', g1, by rw [g2, List.length_set], g3⟩
    · rw [if_neg e]
      exact ⟨own, rfl, rfl, hw⟩
theorem tried_l2 (hm : (metal.length : Int) ≤ 9223372036854775807) : ∀ (fu : Nat) (a t : Int) (own : List Int), BellA metal a → 1 ≤ own.length → own.length ≤ 8 → (∀ w ∈ own, 0 ≤ w ∧ w ≤ 7) →
    ∃ a' t' own', oyezlaw07_tried_l2 metal fu a t own = some (a', t', own') ∧ BellA metal a' ∧ own'.length = own.length ∧ ∀ w ∈ own', 0 ≤ w ∧ w ≤ 7
  | 0, a, t, own, ha, _, _, hw => ⟨a, t, own, rfl, ha, rfl, hw⟩
  | fu + 1, a, t, own, ha, h1, h8, hw => by
    obtain ⟨x, a1, t1, e1, f1, f2, ha1⟩ := stroke_ok (t := t) (n := (own.length : Int) - 1) ha hm (by omega)
    obtain ⟨y, a2, t2, e2, f3, f4, ha2⟩ := stroke_ok (t := t1) (n := (own.length : Int) - 1) ha1 hm (by omega)
    obtain ⟨d, a3, t3, e3, f5, f6, ha3⟩ := strike_ok (t := t2) (lo := -1) (hi := 1) ha2 hm (by omega) (by omega)
    obtain ⟨own2, e4, g1, g2⟩ := tried_l3 (x := x) (y := y) (d := d) (a := a3) (t := t3) (by omega) 20 FU own (if y < x then y else x) (by split <;> split <;> omega) (by unfold FU; omega) (by split <;> omega) (by split <;> omega) h8 hw
    obtain ⟨a5, t5, own3, e5, ha5, g3, g4⟩ := tried_l2 hm fu a3 t3 own2 ha3 (by omega) (by omega) g2
    refine ⟨a5, t5, own3, ?_, ha5, by omega, g4⟩
    unfold oyezlaw07_tried_l2
    rw [gd_t (r64_small (by omega)), e1, b3_some, gd_t (r64_small (by omega)), e2, b3_some, e3, b3_some, e4, b3_some]
    exact e5
variable {n n2 : Int} {hs : List (List (List Int))} {rs : List Int} {cs : List (Int × Int × Int)}
theorem tried_l1 (h : BOK n n2 hs rs cs) (hm : (metal.length : Int) ≤ 9223372036854775807) {real : List Int} (hreal : FitF none rs real) : ∀ (fu : Nat) (a t : Int) (out : List (List Int)), BellA metal a → out.length + fu ≤ 100 → (∀ c ∈ out, FitF none rs c) →
    ∃ out' a' t', oyezlaw07_tried_l1 metal n n2 hs rs cs real fu a t out = some (out', a', t') ∧ BellA metal a' ∧ out'.length ≤ out.length + fu ∧ ∀ c ∈ out', FitF none rs c
  | 0, a, t, out, ha, _, hw => ⟨out, a, t, rfl, ha, Nat.le_refl _, hw⟩
  | fu + 1, a, t, out, ha, hl, hw => by
    have hr := h.hr
    have hrl := hreal.len
    obtain ⟨k, a1, t1, e1, f1, f2, ha1⟩ := strike_ok (t := t) (lo := 1) (hi := 4) ha hm (by omega) (by omega)
    obtain ⟨a2, t2, own, e2, ha2, g1, g2⟩ := tried_l2 hm (Int.toNat (k - 0)) a1 t1 real ha1 (by omega) (by omega) hreal.rng
    have e3 := lfit_eq h (c := own) (by omega) g2
    unfold oyezlaw07_tried_l1
    rw [copy_eq (by omega), b1_some, e1, b3_some, gd_t ⟨r64_small (by omega), r64_small (by omega)⟩, e2, b3_some, e3, b1_some]
    by_cases e : fitB none rs own = true
    · obtain ⟨out3, a3, t3, e4, ha3, g3, g4⟩ := tried_l1 h hm hreal fu a2 t2 (out ++ [own]) ha2 (by simp; omega) (fun c hc => by
        rcases List.mem_append.1 hc with hc | hc
        · exact hw c hc
        · rw [List.mem_singleton] at hc; subst hc; exact (fitB_iff g2).1 e)
      rw [if_pos e, ap_t (by simp; omega), b3_some]
      exact ⟨out3, a3, t3, e4, ha3, by simp at g3; omega, g4⟩
    · obtain ⟨out3, a3, t3, e4, ha3, g3, g4⟩ := tried_l1 h hm hreal fu a2 t2 out ha2 (by omega) hw
      rw [if_neg e, b3_some]
      exact ⟨out3, a3, t3, e4, ha3, by omega, g4⟩
theorem tried_ok (h : BOK n n2 hs rs cs) (hm : (metal.length : Int) ≤ 9223372036854775807) {real : List Int} (hreal : FitF none rs real) {a t many : Int} (ha : BellA metal a) (hmany : 0 ≤ many ∧ many ≤ 20) : ∃ all a' t', oyezlaw07_tried metal a t n n2 hs rs cs real many = some (all, a', t') ∧ BellA metal a' ∧ all.length ≤ 30 ∧ ∀ c ∈ all, FitF none rs c := by
  obtain ⟨all, a', t', e1, ha', h1, h2⟩ := tried_l1 h hm hreal (Int.toNat (many - 0)) a t [real] ha (by simp; omega) (fun c hc => by rw [List.mem_singleton] at hc; subst hc; exact hreal)
  refine ⟨all, a', t', ?_, ha', by simp at h1; omega, h2⟩
  unfold oyezlaw07_tried
  rw [gd_t ⟨r64_small (by omega), r64_small (by omega)⟩, e1, b3_some]
end
theorem awake_true : oyezlaw07_awake = some true := by decide +kernel
section
variable {n n2 : Int} {hs : List (List (List Int))} {rs : List Int} {cs : List (Int × Int × Int)}
theorem told_l14 (h : BOK n n2 hs rs cs) {c : List Int} (hc : FitF none rs c) {x : Int} {row : List Int} (hrow : ∀ q : Int, (0 ≤ q ∧ q < n2) → (q ∈ row ↔ heardB hs cs c x q = true)) {rec12 : Int → Option Bool} : ∀ (fu : Nat) (q : Int), 0 ≤ q → q + fu = n2 → oyezlaw07_BookTold_l14 n n2 hs rs cs c x row rec12 fu q = rec12 (x + 1)
  | 0, _, _, _ => rfl
  | fu + 1, q, h0, hq => by
    unfold oyezlaw07_BookTold_l14
    have e := hrow q (by omega)
    rw [contains_eq, b1_some, lheard_eq h hc.len hc.rng, b1_some]
    have e2 : decide (q ∈ row) = heardB hs cs c x q := by
      cases hb : heardB hs cs c x q with
      | true => exact decide_eq_true (e.2 hb)
      | false => exact decide_eq_false fun hm => by rw [e.1 hm] at hb; cases hb
    rw [e2, if_neg (by simp)]
    exact told_l14 h hc hrow fu (q + 1) (by omega) (by omega)
theorem told_l12 (h : BOK n n2 hs rs cs) {c : List Int} (hc : FitF none rs c) {T : List (List Int)} (hT : (T.length : Int) = n) (hget : ∀ x : Int, (0 ≤ x ∧ x < n) → ∀ q : Int, (0 ≤ q ∧ q < n2) → (q ∈ T.getD x.toNat [] ↔ heardB hs cs c x q = true)) {rec10 : Option Bool} : ∀ (tl : List (List Int)) (k : Nat), T.drop k = tl → oyezlaw07_BookTold_l12 n n2 hs rs cs c rec10 tl (k : Int) = rec10
  | [], _, _ => rfl
  | r :: tl, k, hd => by
    obtain ⟨hk, hr, hd2⟩ := drop_cons [] hd
    have hn2 := h.hn2
    unfold oyezlaw07_BookTold_l12
    rw [gd_t ⟨r64_small (by omega), r64_small (by omega)⟩, told_l14 h hc (row := r) (x := (k : Int)) (fun q hq => by
      have := hget (k : Int) (by omega) q hq
      rw [Int.toNat_natCast, hr] at this; exact this) _ 0 (by omega) (by omega), show (k : Int) + 1 = ((k + 1 : Nat) : Int) by omega]
    exact told_l12 h hc hT hget tl (k + 1) hd2
theorem told_l10 (h : BOK n n2 hs rs cs) : ∀ (all : List (List Int)), (∀ c ∈ all, FitF none rs c) → oyezlaw07_BookTold_l10 n n2 hs rs cs all = some true
  | [], _ => by
    unfold oyezlaw07_BookTold_l10 oyezlaw07_BookTold_j9
    rw [awake_true, b1_some]
  | c :: all, hall => by
    have hc := hall c (by simp)
    obtain ⟨T, e1, h1, h2⟩ := Heard_eq h hc.len hc.rng
    have h3 := h.hn
    unfold oyezlaw07_BookTold_l10
    rw [e1, b2_some, Fits_eq h hc, b2_some, if_neg (by decide), if_neg (by decide), if_neg (by decide), decide_eq_false (by simp [h1]), b1_some, if_neg (by decide)]
    exact (told_l12 h hc h1 h2 T 0 rfl).trans (told_l10 h all fun c hc => hall c (by simp [hc]))
theorem told_l7 (h : BOK n n2 hs rs cs) {x q v : Int} (hv : VerdP hs rs cs x q v) {rec4 : Int → Option Bool} : ∀ (all : List (List Int)), (∀ c ∈ all, FitF none rs c) → oyezlaw07_BookTold_l7 n n2 hs rs cs x q v rec4 all = oyezlaw07_BookTold_j6 n n2 hs rs cs x q v rec4
  | [], _ => rfl
  | c :: all, hall => by
    have hc := hall c (by simp)
    unfold oyezlaw07_BookTold_l7
    rw [lheard_eq h hc.len hc.rng, b1_some]
    have e : (if v = 1 then (if (!heardB hs cs c x q) = true then some true else if v = 2 then some (heardB hs cs c x q) else some false) else if v = 2 then some (heardB hs cs c x q) else some false) = some false := by
      rcases hv with ⟨rfl, h1⟩ | ⟨rfl, h1⟩ | ⟨rfl, _, _⟩
      · rw [h1 c hc]; rfl
      · rw [h1 c hc]; rfl
      · rfl
    rw [e, b1_some, if_neg (by decide)]
    exact told_l7 h hv all fun c hc => hall c (by simp [hc])
theorem told_l8 (h : BOK n n2 hs rs cs) (hex : ∃ c, FitF none rs c) {x q v : Int} (hx : 0 ≤ x ∧ x < n) (hq : 0 ≤ q ∧ q < n2) (hv : VerdP hs rs cs x q v) {rec4 : Int → Option Bool} : ∀ (fu k : Nat), k + fu = 2 → oyezlaw07_BookTold_l8 n n2 hs rs cs x q v rec4 fu (k : Int) = rec4 (q + 1)
  | 0, _, _ => rfl
  | fu + 1, k, hk => by
    have ih := told_l8 h hex hx hq hv (rec4 := rec4) fu (k + 1) (by omega)
    unfold oyezlaw07_BookTold_l8
    rw [ixN false _ (by simp; omega)]
    generalize [true, false].getD k false = b
    have ew : ∃ want : Bool, (if v = 2 then (if b = true then some true else if v = 1 then some (!b) else some false) else if v = 1 then some (!b) else some false) = some want ∧ (want = true ↔ (v = 2 ∧ b = true) ∨ (v = 1 ∧ b = false)) := by
      rcases hv with ⟨rfl, _⟩ | ⟨rfl, _⟩ | ⟨rfl, _, _⟩ <;> cases b <;> exact ⟨_, rfl, by decide⟩
    obtain ⟨want, ew1, ew2⟩ := ew
    have hcases := Witness_eq h hex hx hq b
    have hwant : (want = true ↔ ∀ c, FitF none rs c → heardB hs cs c x q ≠ b) := by
      rw [ew2]
      constructor
      · rintro (⟨h1, h2⟩ | ⟨h1, h2⟩)
        · intro c hc
          rcases hv with ⟨rfl, _⟩ | ⟨_, h3⟩ | ⟨rfl, _, _⟩
          · cases h1
          · rw [h3 c hc, h2]; decide
          · cases h1
        · intro c hc
          rcases hv with ⟨_, h3⟩ | ⟨rfl, _⟩ | ⟨rfl, _, _⟩
          · rw [h3 c hc, h2]; decide
          · cases h1
          · cases h1
      · intro hall
        rcases hv with ⟨rfl, h3⟩ | ⟨rfl, h3⟩ | ⟨_, ⟨c1, g1, g2⟩, c2, g3, g4⟩
        · obtain ⟨c, hc⟩ := hex
          have := hall c hc
          rw [h3 c hc] at this
          exact .inr ⟨rfl, by cases b with | true => exact absurd rfl this | false => rfl⟩
        · obtain ⟨c, hc⟩ := hex
          have := hall c hc
          rw [h3 c hc] at this
          exact .inl ⟨rfl, by cases b with | false => exact absurd rfl this | true => rfl⟩
        · have h5 := hall c1 g1
          have h6 := hall c2 g3
          rw [g2] at h5; rw [g4] at h6
          cases b with
          | true => exact absurd rfl h5
          | false => exact absurd rfl h6
    rcases hcases with ⟨c, h1, h2, h3, h4⟩ | ⟨h1, h3, h4⟩
    · have hw : want = false := by
        cases want with
        | false => rfl
        | true => exact absurd h2 (hwant.1 rfl c h1)
      subst hw
      rw [h4, b2_some, h3, b2_some, ew1, b1_some, if_neg (by decide), if_neg (by decide), if_neg (by decide), if_pos (by decide), if_neg (by decide), right_eq h h1, b1_some, if_neg (by decide), lheard_eq h h1.len h1.rng, b1_some, h2, decide_eq_false (by simp), b1_some, if_neg (by decide), show (k : Int) + 1 = ((k + 1 : Nat) : Int) by omega]
      exact ih
    · have hw : want = true := hwant.2 h1
      subst hw
      rw [h4, b2_some, h3, b2_some, ew1, b1_some, if_neg (by decide), if_neg (by decide), if_pos rfl, if_neg (by decide), if_neg (by decide), b1_some, if_neg (by decide), show (k : Int) + 1 = ((k + 1 : Nat) : Int) by omega]
      exact ih
theorem told_l4 (h : BOK n n2 hs rs cs) (hex : ∃ c, FitF none rs c) {all : List (List Int)} (hall : ∀ c ∈ all, FitF none rs c) {x : Int} (hx : 0 ≤ x ∧ x < n) {row : List Int} (hrow : (row.length : Int) = n2) (hv : ∀ q : Int, (0 ≤ q ∧ q < n2) → VerdP hs rs cs x q (row.getD q.toNat 0)) {rec2 : Int → Option Bool} : ∀ (tl : List Int) (k : Nat), row.drop k = tl → oyezlaw07_BookTold_l4 n n2 hs rs cs all x rec2 tl (k : Int) = rec2 (x + 1)
  | [], _, _ => rfl
  | v :: tl, k, hd => by
    obtain ⟨hk, hr, hd2⟩ := drop_cons 0 hd
    have hv1 := hv (k : Int) (by omega)
    rw [Int.toNat_natCast, hr] at hv1
    unfold oyezlaw07_BookTold_l4
    rw [told_l7 h hv1 all hall]
    unfold oyezlaw07_BookTold_j6
    have e : oyezlaw07_BookTold_l8 n n2 hs rs cs x (k : Int) v (oyezlaw07_BookTold_l4 n n2 hs rs cs all x rec2 tl) (Int.toNat (2 - 0)) 0 = _ := told_l8 h hex hx (by omega) hv1 (rec4 := oyezlaw07_BookTold_l4 n n2 hs rs cs all x rec2 tl) 2 0 rfl
    rw [gd_t ⟨r64_small (by omega), r64_small (by omega)⟩, e, show (k : Int) + 1 = ((k + 1 : Nat) : Int) by omega]
    exact told_l4 h hex hall hx hrow hv tl (k + 1) hd2
theorem told_l2 (h : BOK n n2 hs rs cs) (hex : ∃ c, FitF none rs c) {all : List (List Int)} (hall : ∀ c ∈ all, FitF none rs c) {T : List (List Int)} (hT : VTab n n2 hs rs cs T) : ∀ (tl : List (List Int)) (k : Nat), T.drop k = tl → oyezlaw07_BookTold_l2 n n2 hs rs cs all tl (k : Int) = some true
  | [], _, _ => by
    unfold oyezlaw07_BookTold_l2 oyezlaw07_BookTold_j1
    exact told_l10 h all hall
  | r :: tl, k, hd => by
    obtain ⟨hk, hr, hd2⟩ := drop_cons [] hd
    have h1 := hT.len
    have h2 := hT.row r (by rw [← hr]; exact getD_mem hk)
    unfold oyezlaw07_BookTold_l2
    have e : oyezlaw07_BookTold_l4 n n2 hs rs cs all (k : Int) (oyezlaw07_BookTold_l2 n n2 hs rs cs all tl) r 0 = _ := told_l4 h hex hall (x := (k : Int)) (by omega) h2 (fun q hq => by
      have := hT.get (k : Int) q (by omega) hq
      rw [Int.toNat_natCast, hr] at this; exact this) (rec2 := oyezlaw07_BookTold_l2 n n2 hs rs cs all tl) r 0 rfl
    rw [if_neg (by rw [h2]; simp), e, show (k : Int) + 1 = ((k + 1 : Nat) : Int) by omega]
    exact told_l2 h hex hall hT tl (k + 1) hd2
end
/-- BookTold. -/
theorem told_true {numbers tries : List Int} (h1 : (numbers.length : Int) ≤ 9223372036854775807) (h2 : (tries.length : Int) ≤ 9223372036854775807) : oyezlaw07_BookTold numbers tries = some true := by
  unfold oyezlaw07_BookTold oyezkit_Hang
  obtain ⟨n, n2, hs, rs, cs, real, a, t, e1, hM, _⟩ := made_ok (metal := numbers) (t := 0) (a := 0) (H := 4) (N := 3) (S := 3) (R := 6) ⟨by omega, by omega⟩ h1 (by omega) (by omega) (by omega) (by omega)
  obtain ⟨T, e2, hT⟩ := Verdicts_eq hM.ok ⟨real, hM.fit⟩
  obtain ⟨all, a2, t2, e3, _, _, hall⟩ := tried_ok hM.ok h2 hM.fit (a := 0) (t := 0) (many := 6) ⟨by omega, by omega⟩ (by omega)
  rw [b3_some, e1, b8_some, e2, b2_some, if_neg (by decide), decide_eq_false (by rw [hT.len]; simp), b1_some, if_neg (by decide), b3_some, e3, b3_some]
  exact told_l2 hM.ok ⟨real, hM.fit⟩ hall hT T 0 rfl
end Go.Proofs.Ytodhcoakjlmcdaa.Bk
