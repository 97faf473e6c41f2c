/- Layer 1: tables that hold, and ways that are tried; HearProved. -/
import Derived.Test.YtdnmaodkdhdacaaHI
namespace Go.Proofs.Ytdnmaodkdhdacaa
open Go.PL Go.Hear

section
variable {wide : Int} {ps : List Int} {w : Int} {s : Int}
theorem next_sym (ho : openE wide ps w = 0) {p q m : Int} (hp : 0 ≤ p ∧ p < ps.length) (hw : ps.getD p.toNat 0 ≠ 2) (hx : (q, m) ∈ nextL wide ps w p) : ∃ m', (p, m') ∈ nextL wide ps w q := by
  obtain ⟨m', h, _⟩ := next_back ho hp hw hx
  obtain ⟨s, hs, e1, e2, e3, e4, _⟩ := mem_nextL.1 h
  exact ⟨_, mem_nextL.2 ⟨s, hs, e1, e2, e3, e4, rfl⟩⟩
open Classical in
theorem tb_holds (ho : openE wide ps w = 0) (hs : 0 ≤ s ∧ s < ps.length) (hk : ps.getD s.toNat 0 = 0) : hldB wide ps w s (tb wide ps w s) = true ∧ hldE wide ps w s (tb wide ps w s) = 0 := by
  have hT := tb_ok ho hs
  have hst := standE_of ho hs hk
  constructor
  · unfold hldB
    refine decide_eq_true ⟨hst, by rw [hT.len], hT.start, fun p _ hp => ?_⟩
    unfold rowB
    rw [Bool.or_eq_true, decide_eq_true_eq, List.all_eq_true]
    by_cases hw : ps.getD p 0 = 2
    · exact .inl hw
    refine .inr fun x hx => decide_eq_true ?_
    have hE := nextL_ok ho _ _ _ hx
    have hpr : 0 ≤ (p : Int) ∧ (p : Int) < ps.length := by omega
    by_cases h1 : (tb wide ps w s).getD p 0 = -1
    · have h2 : (tb wide ps w s).getD x.1.toNat 0 = -1 := by
        apply Classical.byContradiction
        intro h3
        obtain ⟨m', h4⟩ := next_sym ho hpr hw hx
        have := (hT.closed x.1 hE.1.1 hE.1.2 h3 _ h4).1
        exact this h1
      rw [h1, h2]; omega
    · have h3 := (hT.closed p hpr.1 hpr.2 h1 x hx).2
      have h4 : (tb wide ps w s).getD x.1.toNat 0 ≤ (tb wide ps w s).getD p 0 + x.2 := h3
      omega
  · unfold hldE
    rw [if_neg (not_not_intro hst), if_neg (by rw [hT.len]; simp)]
open Classical in
theorem hld_le (ho : openE wide ps w = 0) (hs : 0 ≤ s ∧ s < ps.length) (hk : ps.getD s.toNat 0 = 0) {t : List Int} (h : hldB wide ps w s t = true) {p d : Int} (hW : Walk (nextL wide ps w) s p d) : t.getD p.toNat 0 ≤ d := by
  unfold hldB at h
  obtain ⟨_, hl, h0, hr⟩ := of_decide_eq_true h
  induction hW with
  | here => rw [h0]; exact Int.le_refl _
  | step h1 h2 ih =>
    rename_i p d q m
    have hp := (h1.rng (nextL_ok ho) hs).1
    have hnw := Walk.open' (by rw [hk]; decide) h1
    have := (row_iff ho (t := t) (p := p.toNat)).1 (hr p.toNat (Nat.zero_le _) (by omega)) q.toNat (Nat.zero_le _)
    have hq := nextL_ok ho _ _ _ h2
    have h3 := this (by omega) m (by rw [Int.toNat_of_nonneg hq.1.1, Int.toNat_of_nonneg hp.1]; exact h2) hnw
    omega
theorem tkL_snoc {E : Int → List (Int × Int)} {k : Int} : ∀ (r : List Int) (p sum v : Int), tkL E r p sum = (v, 0) → tkL E (r ++ [k]) p sum = if lastN (E ((p :: r).getD r.length 0)) k = -1 then (0, 8) else (v + lastN (E ((p :: r).getD r.length 0)) k, 0)
  | [], p, sum, v, h => by
    unfold tkL at h
    obtain rfl := (Prod.mk.inj h).1
    rfl
  | x :: r, p, sum, v, h => by
    unfold tkL at h
    by_cases hc : lastN (E p) x = -1
    · rw [if_pos hc] at h; cases h
    · rw [if_neg hc] at h
      have ih := tkL_snoc (k := k) r x _ v h
      rw [List.cons_append]
      conv => lhs; unfold tkL
      rw [if_neg hc, ih]; rfl

theorem proved_l6 {metal : List Int} (hm : (metal.length : Int) ≤ 9223372036854775807) {n : Nat} (hn : 1 ≤ n ∧ n ≤ 30) : ∀ (fu : Nat) (a t : Int) (T : List Int), (0 ≤ a ∧ a ≤ metal.length) → T.length = n → (∀ x ∈ T, -10000 + 4 * (fu : Int) ≤ x ∧ x ≤ 10000 - 4 * (fu : Int)) → ∃ a' t' T', oyezlaw01_HearProved_l6 metal fu a t T = some (a', t', T') ∧ (0 ≤ a' ∧ a' ≤ metal.length) ∧ T'.length = n ∧ ∀ x ∈ T', -10000 ≤ x ∧ x ≤ 10000
  | 0, a, t, T, ha, hl, hT => ⟨a, t, T, rfl, ha, hl, fun x hx => by have := hT x hx; omega⟩
  | fu + 1, a, t, T, ha, hl, hT => by
    unfold oyezlaw01_HearProved_l6
    obtain ⟨i, a1, t1, h1, h2, h3, h4⟩ := stroke_ok (t := t) (n := (T.length : Int) - 1) ha hm (by omega)
    obtain ⟨v, a2, t2, g1, g2, g3, g4⟩ := strike_ok (t := t1) (lo := -4) (hi := 4) h4 hm (by omega) (by omega)
    have hi : i < T.length := by omega
    have hx : T.getD i.toNat 0 ∈ T := by
      rw [List.getD_eq_getElem?_getD, List.getElem?_eq_getElem (by omega)]; exact List.getElem_mem _
    have hxr := hT _ hx
    rw [gd_t (r64_small (by omega)), h1, b3_some, ix_get _ h2 hi, g1, b3_some, gd_t (r64_small (by omega)), bvE]
    refine proved_l6 hm hn fu a2 t2 _ g4 (by rw [List.length_set]; exact hl) fun x hx' => ?_
    rcases List.mem_or_eq_of_mem_set hx' with h | h
    · have := hT x h; omega
    · rw [h]; omega

/-- A way that is tried, so far. -/
def Wy (wide : Int) (ps : List Int) (w s : Int) (way : List Int) : Prop := ∃ r sum, way = s :: r ∧ tkL (nextL wide ps w) r s 0 = (sum, 0) ∧ Walk (nextL wide ps w) s (way.getD r.length 0) sum
theorem proved_l9 {metal : List Int} (hm : (metal.length : Int) ≤ 9223372036854775807) (ho : openE wide ps w = 0) (hs : 0 ≤ s ∧ s < ps.length) (hk : ps.getD s.toNat 0 = 0) (rec4 : Int → Int → Option Bool) (hrec : ∀ a t : Int, 0 ≤ a ∧ a ≤ metal.length → rec4 a t = some true) :
    ∀ (fu : Nat) (a t : Int) (way : List Int), (0 ≤ a ∧ a ≤ metal.length) → Wy wide ps w s way → way.length + fu ≤ 100 → oyezlaw01_HearProved_l9 metal wide ps w (tb wide ps w s) rec4 fu a t way = some true
  | 0, a, t, way, ha, _, _ => hrec a t ha
  | fu + 1, a, t, way, ha, hW, hl => by
    obtain ⟨o1, o2, _⟩ := openE_ok ho
    have hn := o2
    have hT := tb_ok ho hs
    have hE := nextL_ok ho
    obtain ⟨r, sum, rfl, h1, h2⟩ := hW
    have hp := h2.rng hE hs
    simp only [List.length_cons] at hl
    have hlen : (s :: r).length = r.length + 1 := rfl
    unfold oyezlaw01_HearProved_l9
    obtain ⟨v, a1, t1, g1, g2, g3, g4⟩ := stroke_ok (t := t) (n := 3) ha hm (by omega)
    have e1 : (((s :: r).length : Int) - 1).toNat = r.length := by rw [hlen]; omega
    rw [gd_t (r64_small (by rw [hlen]; omega)), ix_get _ (by rw [hlen]; omega) (by omega), e1, gd_t (r64_small (by omega)), g1, b3_some]
    generalize hpd : (s :: r).getD r.length 0 = p at h2 hp
    obtain ⟨x, hx, hxr⟩ : ∃ x : Int, ([-1, 1, -wide, wide] : List Int)[v.toNat]? = some x ∧ -6 ≤ x ∧ x ≤ 6 := by
      have : v = 0 ∨ v = 1 ∨ v = 2 ∨ v = 3 := by omega
      rcases this with rfl | rfl | rfl | rfl
      · exact ⟨_, rfl, by omega⟩
      · exact ⟨_, rfl, by omega⟩
      · exact ⟨_, rfl, by omega⟩
      · exact ⟨_, rfl, by omega⟩
    rw [ix_t g2 hx, gd_t (r64_small (by omega))]
    generalize p + x = k
    have ec : (if k < 0 then some true else some (decide ((ps.length : Int) ≤ k))) = some (decide (¬ (0 ≤ k ∧ k < ps.length))) := by
      by_cases hc : k < 0
      · rw [if_pos hc]; congr 1; symm; rw [decide_eq_true_eq]; omega
      · rw [if_neg hc]; congr 1; rw [decide_eq_decide]; omega
    have hw0 : Wy wide ps w s (s :: r) := ⟨r, sum, rfl, h1, by rw [hpd]; exact h2⟩
    rw [ec, b1_some]
    by_cases hkr : 0 ≤ k ∧ k < ps.length
    · rw [if_neg (by simp [hkr]), copy_eq (by rw [hlen]; omega), b1_some, ap_t (by simp; omega), Takes_eq (by omega) (by simp; omega)]
      have htk : tksR wide ps w (s :: r ++ [k]) = if lastN (nextL wide ps w p) k = -1 then (0, 8) else (sum + lastN (nextL wide ps w p) k, 0) := by
        unfold tksR
        rw [if_neg (not_not_intro ho), if_neg (by simp; omega)]
        have : ((s :: r ++ [k]).getD 0 0) = s := rfl
        rw [this, if_neg (not_not_intro (isE_of hs hk))]
        have e2 : (s :: r ++ [k]).drop 1 = r ++ [k] := rfl
        rw [e2, tkL_snoc r s 0 sum h1, hpd]
      rw [htk]
      by_cases hz : lastN (nextL wide ps w p) k = -1
      · rw [if_pos hz, b2_some, if_pos (by decide), if_neg (by decide)]
        exact proved_l9 hm ho hs hk rec4 hrec fu a1 t1 _ g4 hw0 (by rw [hlen]; omega)
      · rw [if_neg hz, b2_some, if_neg (by decide)]
        have hst := (last_step ho p k).resolve_left hz
        have hW2 : Walk (nextL wide ps w) s k (sum + lastN (nextL wide ps w p) k) := .step h2 hst.2.2.2
        obtain ⟨b1', b2'⟩ := hT.below hE hs hW2
        have b1'' : (tb wide ps w s).getD k.toNat 0 ≠ -1 := b1'
        have b2'' : (tb wide ps w s).getD k.toNat 0 ≤ sum + lastN (nextL wide ps w p) k := b2'
        rw [ap_t (by simp; omega), ix_get _ hkr.1 (by rw [hT.len]; exact hkr.2), if_neg (by omega), b1_some, if_neg (by simp only [decide_eq_true_eq]; exact b1'')]
        refine proved_l9 hm ho hs hk rec4 hrec fu a1 t1 _ g4 ⟨r ++ [k], sum + lastN (nextL wide ps w p) k, rfl, ?_, ?_⟩ (by simp; omega)
        · rw [tkL_snoc r s 0 sum h1, hpd, if_neg hz]
        · have : (s :: r ++ [k]).getD (r ++ [k]).length 0 = k := by simp [List.getD_eq_getElem?_getD]
          rw [this]; exact hW2
    · rw [if_pos (decide_eq_true hkr)]
      exact proved_l9 hm ho hs hk rec4 hrec fu a1 t1 _ g4 hw0 (by rw [hlen]; omega)

theorem proved_l8 {metal : List Int} {T : List Int} {ok2 : Bool} (q_at q_turn : Int) (rec4 : Int → Int → Option Bool) (hj : oyezlaw01_HearProved_j7 metal wide ps w s T q_at q_turn rec4 = some true) (t : List Int) (hl : t.length = T.length) (ht : ok2 = true → ∀ p : Nat, p < T.length → T.getD p 0 ≠ -1 → t.getD p 0 ≤ T.getD p 0) :
    ∀ (r : List Int) (k : Nat), t.drop k = r → oyezlaw01_HearProved_l8 metal wide ps w s T q_at q_turn ok2 rec4 r (k : Int) = some true
  | [], k, _ => hj
  | x :: r, k, hr => by
    obtain ⟨hk1, hx, hr'⟩ := drop_get hr
    unfold oyezlaw01_HearProved_l8
    have ih := proved_l8 q_at q_turn rec4 hj t hl ht r (k + 1) hr'
    rw [ix_get _ (by omega) (by omega), Int.toNat_natCast]
    have e : (if ok2 = true then if T.getD k 0 ≠ -1 then some (decide (T.getD k 0 < x)) else some false else some false) = some false := by
      by_cases h1 : ok2 = true
      · rw [if_pos h1]
        by_cases h2 : T.getD k 0 = -1
        · rw [if_neg (not_not_intro h2)]
        · have := ht h1 k (by omega) h2
          rw [if_pos h2, decide_eq_false (by omega)]
      · rw [if_neg h1]
    rw [e, b1_some, if_neg (by decide), show ((k : Int) + 1) = ((k + 1 : Nat) : Int) from rfl, ih]
theorem proved_l4 {metal : List Int} (hm : (metal.length : Int) ≤ 9223372036854775807) (ho : openE wide ps w = 0) (hs : 0 ≤ s ∧ s < ps.length) (hk : ps.getD s.toNat 0 = 0) : ∀ (fu : Nat) (a t : Int), (0 ≤ a ∧ a ≤ metal.length) → oyezlaw01_HearProved_l4 metal wide ps w s (tb wide ps w s) fu a t = some true
  | 0, a, t, _ => by
    unfold oyezlaw01_HearProved_l4 oyezlaw01_HearProved_j3
    rw [awake_t, b1_some]
  | fu + 1, a, t, ha => by
    have hn := (openE_ok ho).2.1
    have hT := tb_ok ho hs
    have hE := nextL_ok ho
    have hlen := hT.len
    unfold oyezlaw01_HearProved_l4
    obtain ⟨v, a1, t1, g1, g2, g3, g4⟩ := strike_ok (t := t) (lo := 1) (hi := 4) ha hm (by omega) (by omega)
    obtain ⟨a2, t2, T', f1, f2, f3, f4⟩ := proved_l6 hm hn (Int.toNat (v - 0)) a1 t1 (tb wide ps w s) g4 hlen (fun x hx => by
      obtain ⟨i, hi, rfl⟩ := List.getElem_of_mem hx
      have := hT.rng (q := i) (by omega)
      rw [Int.toNat_natCast, List.getD_eq_getElem?_getD, List.getElem?_eq_getElem hi] at this
      have h2 : -1 ≤ (tb wide ps w s)[i] ∧ (tb wide ps w s)[i] ≤ 5 * (ps.length : Int) := this
      omega)
    rw [copy_eq (by omega), b1_some, g1, b3_some, gd_t ⟨r64_small (by omega), r64_small (by omega)⟩, f1, b3_some, Holds_eq (by omega) (fun x hx => r64_small (by have := f4 x hx; omega)), b2_some]
    have hE0 : hldE wide ps w s T' = 0 := by
      unfold hldE
      rw [if_neg (not_not_intro (standE_of ho hs hk)), if_neg (by rw [f3]; simp)]
    rw [hE0, if_neg (by decide)]
    have hj : oyezlaw01_HearProved_j7 metal wide ps w s (tb wide ps w s) a2 t2 (oyezlaw01_HearProved_l4 metal wide ps w s (tb wide ps w s) fu) = some true := by
      unfold oyezlaw01_HearProved_j7
      obtain ⟨v', a3, t3, e1, e2, e3, e4⟩ := stroke_ok (t := t2) (n := 8) f2 hm (by omega)
      rw [e1, b3_some, gd_t ⟨r64_small (by omega), r64_small (by omega)⟩]
      exact proved_l9 hm ho hs hk _ (fun a t h => proved_l4 hm ho hs hk fu a t h) _ a3 t3 [s] e4 ⟨[], 0, rfl, rfl, .here⟩ (by simp; omega)
    exact proved_l8 a2 t2 _ hj T' (by rw [f3, hlen]) (fun hb p hp h1 => by
      rcases hT.sound p (by omega) (by omega) with h2 | ⟨_, _, h2⟩
      · exact absurd h2 h1
      · have := hld_le ho hs hk hb h2
        rw [Int.toNat_natCast] at this
        exact this) T' 0 rfl
theorem proved_l2 {metal : List Int} (hm : (metal.length : Int) ≤ 9223372036854775807) {a t : Int} (ha : 0 ≤ a ∧ a ≤ metal.length) (ho : openE wide ps w = 0) (hs : 0 ≤ s ∧ s < ps.length) (hk : ps.getD s.toNat 0 = 0) : ∀ (r : List Int) (k : Nat), (tb wide ps w s).drop k = r → oyezlaw01_HearProved_l2 metal a t wide ps w s (tb wide ps w s) r (k : Int) = some true
  | [], k, _ => by
    unfold oyezlaw01_HearProved_l2 oyezlaw01_HearProved_j1
    rw [gd_t ⟨r64_small (by omega), r64_small (by omega)⟩]
    exact proved_l4 hm ho hs hk _ a t ha
  | x :: r, k, hr => by
    have hn := (openE_ok ho).2.1
    have hT := tb_ok ho hs
    obtain ⟨hk1, hx, hr'⟩ := drop_get hr
    rw [hT.len] at hk1
    have hkr : 0 ≤ (k : Int) ∧ (k : Int) < ps.length := by omega
    have ih := proved_l2 hm (t := t) ha ho hs hk r (k + 1) hr'
    have hne := needE_st (standE_of ho hs hk) hkr
    rw [Int.toNat_natCast, hx] at hne
    unfold oyezlaw01_HearProved_l2
    have ek : ((k : Int) + 1) = ((k + 1 : Nat) : Int) := rfl
    by_cases h1 : x = -1
    · rw [if_pos h1] at hne
      rw [Way_err (by omega) (by rw [hne]; decide), b2_some, hne, if_pos (by decide), if_neg (by decide), b1_some, if_neg (by simp [h1]), ek, ih]
    · rw [if_neg h1] at hne
      obtain ⟨l, l1, l2, l3, l4, l5, l6⟩ := Way_ok (show ps.length ≤ 1000 by omega) hne
      have hv : needV wide ps w s k = x := by unfold needV; rw [hne, if_pos rfl, Int.toNat_natCast, hx]
      rw [l1, b2_some, if_neg (by decide), Takes_eq (by omega) l2, l4, hv, b2_some, if_neg (by decide), if_neg (by simp), if_neg (by omega), ix_get _ (by omega) (by omega), show (0 : Int).toNat = 0 from rfl, l5, if_neg (by simp), gd_t (r64_small (by omega)), ix_get _ (by omega) (by omega), show ((l.length : Int) - 1).toNat = l.length - 1 by omega, l6, b1_some, if_neg (by simp), ek, ih]
end
theorem proved_true {metal tries : List Int} (hm : (metal.length : Int) ≤ 9223372036854775807) (hm2 : (tries.length : Int) ≤ 9223372036854775807) : oyezlaw01_HearProved metal tries = some true := by
  unfold oyezlaw01_HearProved oyezkit_Hang
  obtain ⟨wide, ps, a1, t1, h1, h2, h3, ⟨s0, h4, h4'⟩, h5⟩ := made_ok (t := 0) (plots := 24) (show 0 ≤ (0 : Int) ∧ (0 : Int) ≤ metal.length by omega) hm (by omega)
  obtain ⟨w, v, a2, t2, g1, g2, g3, g4⟩ := aired_ok (t := t1) h5 hm
  have ho := openE_of h2 g2
  have hn := (openE_ok ho).2.1
  have hmem : (s0 : Int) ∈ kindL 0 ps 0 := by
    rw [kindL_mem, Int.sub_zero, Int.toNat_natCast]; exact ⟨by omega, by omega, h4'⟩
  have hpos : 0 < (kindL 0 ps 0).length := List.length_pos_of_mem hmem
  have hle : ∀ (l : List Int) (k : Int), (kindL 0 l k).length ≤ l.length := by
    intro l
    induction l with
    | nil => intro k; exact Nat.le_refl _
    | cons x l ih =>
      intro k
      unfold kindL
      split
      · rw [List.length_cons, List.length_cons]; exact Nat.succ_le_succ (ih _)
      · rw [List.length_cons]; exact Nat.le_succ_of_le (ih _)
  have hle' := hle ps 0
  obtain ⟨i, a3, t3, f1, f2, f3, f4⟩ := stroke_ok (t := t2) (n := ((kindL 0 ps 0).length : Int) - 1) g4 hm (by omega)
  rw [b3_some, b3_some, h1, b4_some, g1, b4_some, streets_eq (by omega), b1_some, gd_t (r64_small (by omega)), f1, b3_some, ix_get _ f2 (by omega)]
  have hsm : (kindL 0 ps 0).getD i.toNat 0 ∈ kindL 0 ps 0 := by
    rw [List.getD_eq_getElem?_getD, List.getElem?_eq_getElem (by omega)]; exact List.getElem_mem _
  generalize (kindL 0 ps 0).getD i.toNat 0 = s at hsm
  rw [kindL_mem, Int.sub_zero] at hsm
  have hs : 0 ≤ s ∧ s < ps.length := by omega
  have hk := hsm.2.2
  have hT := tb_ok ho hs
  obtain ⟨q1, q2⟩ := tb_holds ho hs hk
  rw [Needs_eq (by omega), standE_of ho hs hk, if_pos rfl, b2_some, Holds_eq (by omega) (fun x hx => by
    obtain ⟨i, hi, rfl⟩ := List.getElem_of_mem hx
    rw [hT.len] at hi
    have := hT.rng (q := i) (by omega)
    rw [Int.toNat_natCast, List.getD_eq_getElem?_getD, List.getElem?_eq_getElem (by rw [hT.len]; exact hi)] at this
    have h2 : -1 ≤ (tb wide ps w s)[i] ∧ (tb wide ps w s)[i] ≤ 5 * (ps.length : Int) := this
    exact r64_small (by omega)), b2_some, q1, q2, if_neg (by decide), if_neg (by decide), if_neg (by decide), hT.len, b1_some, if_neg (by simp)]
  exact proved_l2 hm2 (by omega) ho hs hk _ 0 rfl
end Go.Proofs.Ytdnmaodkdhdacaa
