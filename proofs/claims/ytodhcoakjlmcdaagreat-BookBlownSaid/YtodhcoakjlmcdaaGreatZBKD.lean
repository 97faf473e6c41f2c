/- Layer 7: books that are made of numbers, courses that are tried; BookTold; in plain Lean. -/
import Derived.Test.YtodhcoakjlmcdaaGreatZBKC
namespace Go.Proofs.YtodhcoakjlmcdaaGreat.Bk
open Go.PL
theorem wind_all : (W8.all fun w => ([-1, 0, 1] : List Int).all fun d => match oyezkit_Wind (w + d) 8 with | some v => W8.contains v && nearB v w | none => false) = true := by decide +kernel
theorem wind_ok {w d : Int} (hw : 0 ≤ w ∧ w ≤ 7) (hd : -1 ≤ d ∧ d ≤ 1) : ∃ v, oyezkit_Wind (w + d) 8 = some v ∧ (0 ≤ v ∧ v ≤ 7) ∧ nearB v w = true := by
  have h := List.all_eq_true.1 (List.all_eq_true.1 wind_all w (mem_W8.2 hw)) d (by
    have : d = -1 ∨ d = 0 ∨ d = 1 := by omega
    rcases this with rfl | rfl | rfl <;> simp)
  revert h
  cases oyezkit_Wind (w + d) 8 with
  | none => intro h; cases h
  | some v =>
    intro h
    rw [Bool.and_eq_true] at h
    exact ⟨v, rfl, mem_W8.1 (by simpa using h.1), h.2⟩
section
variable {metal : List Int}
theorem made_l2 (hm : (metal.length : Int) ≤ 9223372036854775807) {N : Nat} (hN : N ≤ 6) : ∀ (fu : Nat) (a t : Int) (ws : List (List Int)), BellA metal a → ws.length + fu ≤ 100 → (∀ l ∈ ws, l.Nodup ∧ ∀ x ∈ l, 0 ≤ x ∧ x < (N : Int)) →
    ∃ a' t' ws', oyezlaw07_Made_l2 metal (N : Int) fu a t ws = some (a', t', ws') ∧ BellA metal a' ∧ ws'.length = ws.length + fu ∧ ∀ l ∈ ws', l.Nodup ∧ ∀ x ∈ l, 0 ≤ x ∧ x < (N : Int)
  | 0, a, t, ws, ha, _, hw => ⟨a, t, ws, rfl, ha, rfl, hw⟩
  | fu + 1, a, t, ws, ha, hl, hw => by
    obtain ⟨r, a1, t1, e1, ⟨h1, h2, h3⟩, ha1⟩ := rung_ok hm (t := t) ha (n := N) (by omega)
    obtain ⟨v, a2, t2, e2, h4, h5, ha2⟩ := stroke_ok (t := t1) (n := (r.length : Int)) ha1 hm (by omega)
    obtain ⟨a3, t3, ws3, e3, ha3, g1, g2⟩ := made_l2 hm hN fu a2 t2 (ws ++ [r.take v.toNat]) ha2 (by simp; omega) (fun l hl2 => by
      rcases List.mem_append.1 hl2 with h | h
      · exact hw l h
      · rw [List.mem_singleton] at h; subst h
        exact ⟨h2.sublist (List.take_sublist _ _), fun x hx => h3 x (List.mem_of_mem_take hx)⟩)
    refine ⟨a3, t3, ws3, ?_, ha3, by rw [g1]; simp; omega, g2⟩
    unfold oyezlaw07_Made_l2
    rw [e1, b3_some, e2, b3_some, gd_t ⟨⟨by omega, by omega⟩, by omega⟩, bvE, sl_take, ap_t (by simp; omega)]
    exact e3
theorem made_l1 (hm : (metal.length : Int) ≤ 9223372036854775807) {N : Nat} (hN : N ≤ 6) : ∀ (fu : Nat) (a t : Int) (hs : List (List (List Int))), BellA metal a → hs.length + fu ≤ 100 → (∀ w ∈ hs, w.length = 8 ∧ ∀ l ∈ w, l.Nodup ∧ ∀ x ∈ l, 0 ≤ x ∧ x < (N : Int)) →
    ∃ a' t' hs', oyezlaw07_Made_l1 metal (N : Int) fu a t hs = some (a', t', hs') ∧ BellA metal a' ∧ hs'.length = hs.length + fu ∧ ∀ w ∈ hs', w.length = 8 ∧ ∀ l ∈ w, l.Nodup ∧ ∀ x ∈ l, 0 ≤ x ∧ x < (N : Int)
  | 0, a, t, hs, ha, _, hw => ⟨a, t, hs, rfl, ha, rfl, hw⟩
  | fu + 1, a, t, hs, ha, hl, hw => by
    obtain ⟨a1, t1, ws, e1, ha1, h1, h2⟩ := made_l2 hm hN 8 a t [] ha (by simp) (fun _ h => nomatch h)
    obtain ⟨a3, t3, hs3, e3, ha3, g1, g2⟩ := made_l1 hm hN fu a1 t1 (hs ++ [ws]) ha1 (by simp; omega) (fun w hw2 => by
      rcases List.mem_append.1 hw2 with h | h
      · exact hw w h
      · rw [List.mem_singleton] at h; subst h
        exact ⟨by simpa using h1, h2⟩)
    refine ⟨a3, t3, hs3, ?_, ha3, by rw [g1]; simp; omega, g2⟩
    unfold oyezlaw07_Made_l1
    have e1' : oyezlaw07_Made_l2 metal (N : Int) (Int.toNat (8 - 0)) a t [] = some (a1, t1, ws) := e1
    rw [gd_t ⟨r64_small (by omega), r64_small (by omega)⟩, e1', b3_some, ap_t (by simp; omega), b3_some]
    exact e3
theorem made_l3 (hm : (metal.length : Int) ≤ 9223372036854775807) : ∀ (fu : Nat) (a t : Int) (rs : List Int) (w : Int) (real : List Int), BellA metal a → (0 ≤ w ∧ w ≤ 7) → rs.length + fu ≤ 100 → FitF none rs real → (∀ v, lstO none real = some v → v = w) → (∀ r ∈ rs, -1 ≤ r ∧ r ≤ 7) →
    ∃ a' t' rs' real', oyezlaw07_Made_l3 metal fu a t rs w real = some (a', t', rs', real') ∧ BellA metal a' ∧ rs'.length = rs.length + fu ∧ FitF none rs' real' ∧ ∀ r ∈ rs', -1 ≤ r ∧ r ≤ 7
  | 0, a, t, rs, w, real, ha, _, _, hF, _, hr => ⟨a, t, rs, real, rfl, ha, rfl, hF, hr⟩
  | fu + 1, a, t, rs, w, real, ha, hw, hl, hF, hlast, hr => by
    obtain ⟨d1, a1, t1, e1, h1, h2, ha1⟩ := strike_ok (t := t) (lo := -1) (hi := 1) ha hm (by omega) (by omega)
    obtain ⟨w1, e2, h3, h4⟩ := wind_ok hw (d := d1) (by omega)
    obtain ⟨d2, a2, t2, e3, h5, h6, ha2⟩ := strike_ok (t := t1) (lo := -1) (hi := 1) ha1 hm (by omega) (by omega)
    obtain ⟨p, e4, h7, h8⟩ := wind_ok h3 (d := d2) (by omega)
    obtain ⟨b, a3, t3, e5, ha3⟩ := seldom_ok (t := t2) (n := 3) ha2 hm (by omega)
    have hrl := hF.len
    have key : ∀ q : Int, (q = -1 ∨ q = p) → ∃ a' t' rs' real', oyezlaw07_Made_l3 metal fu a3 t3 (rs ++ [q]) w1 (real ++ [w1]) = some (a', t', rs', real') ∧ BellA metal a' ∧ rs'.length = rs.length + (fu + 1) ∧ FitF none rs' real' ∧ ∀ r ∈ rs', -1 ≤ r ∧ r ≤ 7 := fun q hq => by
      have hcan : canB q w1 = true := by
        unfold canB
        rcases hq with rfl | rfl
        · rfl
        · rw [near_comm, h8]; simp
      obtain ⟨a4, t4, rs4, real4, e6, ha4, g1, g2, g3⟩ := made_l3 hm fu a3 t3 (rs ++ [q]) w1 (real ++ [w1]) ha3 h3 (by simp; omega) (hF.snoc h3 hcan (fun v hv => by rw [hlast v hv]; exact h4)) (fun v hv => by rw [lstO_snoc] at hv; cases hv; rfl) (fun r hr2 => by
        rcases List.mem_append.1 hr2 with h | h
        · exact hr r h
        · rw [List.mem_singleton] at h; omega)
      exact ⟨a4, t4, rs4, real4, e6, ha4, by rw [g1]; simp; omega, g2, g3⟩
    unfold oyezlaw07_Made_l3
    rw [e1, b3_some, gd_t (r64_small (by omega)), e2, b1_some, e3, b3_some, gd_t (r64_small (by omega)), e4, b1_some, e5, b3_some]
    cases b with
    | true => rw [if_pos rfl, b3_some, ap_t (by simp; omega), ap_t (by simp; omega)]; exact key (-1) (.inl rfl)
    | false => rw [if_neg (by decide), b3_some, ap_t (by simp; omega), ap_t (by simp; omega)]; exact key p (.inr rfl)
theorem made_l4 (hm : (metal.length : Int) ≤ 9223372036854775807) {n2 : Int} (hn2 : 1 ≤ n2 ∧ n2 ≤ 4) {hs : List (List (List Int))} (hh : 1 ≤ hs.length ∧ hs.length ≤ 4) {real : List Int} (hr : 1 ≤ real.length ∧ real.length ≤ 8) : ∀ (fu : Nat) (a t : Int) (cs : List (Int × Int × Int)), BellA metal a → cs.length + fu ≤ 100 → (∀ c ∈ cs, (0 ≤ c.1 ∧ c.1 < (real.length : Int)) ∧ (0 ≤ c.2.1 ∧ c.2.1 < (hs.length : Int)) ∧ (0 ≤ c.2.2 ∧ c.2.2 < n2)) →
    ∃ cs' a' t', oyezlaw07_Made_l4 metal n2 hs real fu a t cs = some (cs', a', t') ∧ BellA metal a' ∧ cs'.length = cs.length + fu ∧ ∀ c ∈ cs', (0 ≤ c.1 ∧ c.1 < (real.length : Int)) ∧ (0 ≤ c.2.1 ∧ c.2.1 < (hs.length : Int)) ∧ (0 ≤ c.2.2 ∧ c.2.2 < n2)
  | 0, a, t, cs, ha, _, hw => ⟨cs, a, t, rfl, ha, rfl, hw⟩
  | fu + 1, a, t, cs, ha, hl, hw => by
    obtain ⟨v1, a1, t1, e1, h1, h2, ha1⟩ := stroke_ok (t := t) (n := (real.length : Int) - 1) ha hm (by omega)
    obtain ⟨v2, a2, t2, e2, h3, h4, ha2⟩ := stroke_ok (t := t1) (n := (hs.length : Int) - 1) ha1 hm (by omega)
    obtain ⟨v3, a3, t3, e3, h5, h6, ha3⟩ := stroke_ok (t := t2) (n := n2 - 1) ha2 hm (by omega)
    obtain ⟨cs4, a4, t4, e4, ha4, g1, g2⟩ := made_l4 hm hn2 hh hr fu a3 t3 (cs ++ [(v1, v2, v3)]) ha3 (by simp; omega) (fun c hc => by
      rcases List.mem_append.1 hc with h | h
      · exact hw c h
      · rw [List.mem_singleton] at h; subst h
        exact ⟨⟨h1, by show v1 < _; omega⟩, ⟨h3, by show v2 < _; omega⟩, h5, by show v3 < _; omega⟩)
    refine ⟨cs4, a4, t4, ?_, ha4, by rw [g1]; simp; omega, g2⟩
    unfold oyezlaw07_Made_l4
    rw [gd_t (r64_small (by omega)), gd_t (r64_small (by omega)), gd_t (r64_small (by omega)), e1, b3_some, e2, b3_some, e3, b3_some, ap_t (by simp; omega)]
    exact e4
/-- A book that is made, and what the wind really did. -/
structure MadeP (n n2 : Int) (hs : List (List (List Int))) (rs : List Int) (cs : List (Int × Int × Int)) (real : List Int) : Prop where
  ok : BOK n n2 hs rs cs
  fit : FitF none rs real
  few : cs.length ≤ 6
theorem made_ok {a t H N S R : Int} (ha : BellA metal a) (hm : (metal.length : Int) ≤ 9223372036854775807) (hH : 1 ≤ H ∧ H ≤ 6) (hN : 1 ≤ N ∧ N ≤ 4) (hS : 1 ≤ S ∧ S ≤ 4) (hR : 1 ≤ R ∧ R ≤ 8) : ∃ n n2 hs rs cs real a' t', oyezlaw07_Made metal a t H N S R = some (n, n2, hs, rs, cs, real, a', t') ∧ MadeP n n2 hs rs cs real ∧ BellA metal a' := by
  obtain ⟨n, a1, t1, e1, h1, h2, ha1⟩ := strike_ok (t := t) (lo := 1) (hi := H) ha hm (by omega) (by omega)
  obtain ⟨n2, a2, t2, e2, h3, h4, ha2⟩ := strike_ok (t := t1) (lo := 1) (hi := N) ha1 hm (by omega) (by omega)
  obtain ⟨s, a3, t3, e3, h5, h6, ha3⟩ := strike_ok (t := t2) (lo := 1) (hi := S) ha2 hm (by omega) (by omega)
  obtain ⟨n', rfl⟩ := Int.eq_ofNat_of_zero_le (show 0 ≤ n by omega)
  obtain ⟨s', rfl⟩ := Int.eq_ofNat_of_zero_le (show 0 ≤ s by omega)
  obtain ⟨a4, t4, hs, e4, ha4, h7, h8⟩ := made_l1 hm (N := n') (by omega) s' a3 t3 [] ha3 (by simp; omega) (fun _ h => nomatch h)
  obtain ⟨w, a5, t5, e5, h9, h10, ha5⟩ := stroke_ok (t := t4) (n := 7) ha4 hm (by omega)
  obtain ⟨k, a6, t6, e6, h11, h12, ha6⟩ := strike_ok (t := t5) (lo := 1) (hi := R) ha5 hm (by omega) (by omega)
  obtain ⟨k', rfl⟩ := Int.eq_ofNat_of_zero_le (show 0 ≤ k by omega)
  obtain ⟨a7, t7, rs, real, e7, ha7, h13, h14, h15⟩ := made_l3 hm k' a6 t6 [] w [] ha6 (by omega) (by simp; omega) trivial (fun _ h => nomatch h) (fun _ h => nomatch h)
  obtain ⟨m, a8, t8, e8, h16, h17, ha8⟩ := stroke_ok (t := t7) (n := 6) ha7 hm (by omega)
  obtain ⟨m', rfl⟩ := Int.eq_ofNat_of_zero_le h16
  have hrl := h14.len
  rw [List.length_nil, Nat.zero_add] at h7 h13
  obtain ⟨cs, a9, t9, e9, ha9, h18, h19⟩ := made_l4 hm (n2 := n2) (by omega) (hs := hs) (by omega) (real := real) (by omega) m' a8 t8 [] ha8 (by simp; omega) (fun _ h => nomatch h)
  rw [List.length_nil, Nat.zero_add] at h18
  refine ⟨n', n2, hs, rs, cs, real, a9, t9, ?_, ⟨⟨by omega, by omega, by omega, by omega, by omega, fun w hw => (h8 w hw).1, fun w hw => (h8 w hw).2, h15, fun c hc => by rw [← hrl]; exact h19 c hc⟩, h14, by omega⟩, ha9⟩
  unfold oyezlaw07_Made
  have e4' : oyezlaw07_Made_l1 metal (n' : Int) (Int.toNat ((s' : Int) - 0)) a3 t3 [] = some (a4, t4, hs) := by
    rw [show Int.toNat ((s' : Int) - 0) = s' by omega]; exact e4
  have e7' : oyezlaw07_Made_l3 metal (Int.toNat ((k' : Int) - 0)) a6 t6 [] w [] = some (a7, t7, rs, real) := by
    rw [show Int.toNat ((k' : Int) - 0) = k' by omega]; exact e7
  have e9' : oyezlaw07_Made_l4 metal n2 hs real (Int.toNat ((m' : Int) - 0)) a8 t8 [] = some (cs, a9, t9) := by
    rw [show Int.toNat ((m' : Int) - 0) = m' by omega]; exact e9
  rw [e1, b3_some, e2, b3_some, e3, b3_some, gd_t ⟨r64_small (by omega), r64_small (by omega)⟩, e4', b3_some, e5, b3_some, e6, b3_some, gd_t ⟨r64_small (by omega), r64_small (by omega)⟩, e7', b4_some, e8, b3_some, gd_t ⟨r64_small (by omega), r64_small (by omega)⟩, e9', b3_some]
variable {n n2 : Int} {hs : List (List (List Int))} {rs : List Int} {cs : List (Int × Int × Int)}
end
theorem awake_true : oyezlaw07_awake = some true := by decide +kernel
section
variable {n n2 : Int} {hs : List (List (List Int))} {rs : List Int} {cs : List (Int × Int × Int)}
end
end Go.Proofs.YtodhcoakjlmcdaaGreat.Bk
