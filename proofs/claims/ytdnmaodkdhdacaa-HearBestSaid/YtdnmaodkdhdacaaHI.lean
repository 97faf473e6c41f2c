/- Layer 1: cries back, and the calm; HearBack. -/
import Derived.Test.YtdnmaodkdhdacaaBl
import Derived.Test.YtdnmaodkdhdacaaHG
namespace Go.Proofs.Ytdnmaodkdhdacaa
open Go.PL Go.Hear

/-! ### The wind that blows the other way -/
def bkW (w : Int) : Int := if w ≠ 0 then 1 + Int.tmod (w + 1) 4 else 0
theorem bkW_all : ((List.range 5).all fun w => decide (okW (bkW (w : Int))) && (bkW (bkW (w : Int)) == (w : Int)) && stepsL.all fun s => decide ((-s.1, -s.2) ∈ stepsL) && (List.range 2).all fun k => (List.range 2).all fun j => needN (w : Int) s.1 s.2 (k : Int) + (j : Int) == needN (bkW (w : Int)) (-s.1) (-s.2) (j : Int) + (k : Int)) = true := by decide +kernel
theorem bkW_ok {w : Int} (hw : okW w) : okW (bkW w) ∧ bkW (bkW w) = w ∧ ∀ s ∈ stepsL, (-s.1, -s.2) ∈ stepsL ∧ ∀ k j : Int, (0 ≤ k ∧ k < 2) → (0 ≤ j ∧ j < 2) → needN w s.1 s.2 k + j = needN (bkW w) (-s.1) (-s.2) j + k := by
  have h1 := List.all_eq_true.1 bkW_all w.toNat (List.mem_range.2 (by unfold okW at hw; omega))
  rw [Int.toNat_of_nonneg hw.1, Bool.and_eq_true, Bool.and_eq_true, List.all_eq_true] at h1
  obtain ⟨⟨a, b⟩, c⟩ := h1
  refine ⟨of_decide_eq_true a, by simpa using b, fun s hs => ?_⟩
  have c1 := c s hs
  rw [Bool.and_eq_true, List.all_eq_true] at c1
  refine ⟨of_decide_eq_true c1.1, fun k j hk hj => ?_⟩
  have c2 := List.all_eq_true.1 (c1.2 k.toNat (List.mem_range.2 (by omega))) j.toNat (List.mem_range.2 (by omega))
  rw [Int.toNat_of_nonneg hk.1, Int.toNat_of_nonneg hj.1, beq_iff_eq] at c2
  exact c2
theorem needN_calm (w sd sr k : Int) : needN 0 sd sr k ≤ 2 * needN w sd sr k ∧ needN w sd sr k ≤ 2 * needN 0 sd sr k := by
  have h0 : needN 0 sd sr k = 2 + if k = 1 then 1 else 0 := by unfold needN; rw [if_pos (by decide)]
  rw [h0]
  unfold needN
  by_cases h1 : ¬ windB w = true
  · rw [if_pos h1]; split <;> omega
  · rw [if_neg h1]
    by_cases h2 : sd = windD w ∧ sr = windR w
    · rw [if_pos h2]; split <;> omega
    · rw [if_neg h2]; split <;> split <;> omega

section
variable {E E' : Int → List (Int × Int)} {s : Int} {n : Nat}
theorem walk_front {p q m d : Int} (hx : (p, m) ∈ E q) (h : Walk E p s d) : Walk E q s (m + d) := by
  induction h with
  | here =>
    have : Walk E q p (0 + m) := .step .here hx
    rw [Int.zero_add] at this
    rw [Int.add_zero]; exact this
  | step _ h2 ih => rw [← Int.add_assoc]; exact .step ih h2
theorem walk_twice (hE : ∀ p q m, (q, m) ∈ E p → ∃ m', (q, m') ∈ E' p ∧ m' ≤ 2 * m) {p d : Int} (h : Walk E s p d) : ∃ d', Walk E' s p d' ∧ d' ≤ 2 * d := by
  induction h with
  | here => exact ⟨0, .here, by omega⟩
  | step _ h2 ih =>
    obtain ⟨d', h3, h4⟩ := ih
    obtain ⟨m', h5, h6⟩ := hE _ _ _ h2
    exact ⟨d' + m', .step h3 h5, by omega⟩
theorem tab_twice (hE' : EOK n E') (hs : 0 ≤ s ∧ s < n) (hE : ∀ p q m, (q, m) ∈ E p → ∃ m', (q, m') ∈ E' p ∧ m' ≤ 2 * m) {t t' : List Int} (hT : Tab n E s t) (hT' : Tab n E' s t') {p : Int} (hp : 0 ≤ p ∧ p < n) (h : t.getD p.toNat 0 ≠ -1) : t'.getD p.toNat 0 ≠ -1 ∧ t'.getD p.toNat 0 ≤ 2 * t.getD p.toNat 0 ∧ 0 ≤ t.getD p.toNat 0 := by
  rcases hT.sound p hp.1 hp.2 with h1 | ⟨h1, _, h2⟩
  · exact absurd h1 h
  · obtain ⟨d', h3, h4⟩ := walk_twice hE h2
    obtain ⟨h5, h6⟩ := hT'.below hE' hs h3
    exact ⟨h5, by show at' t' p ≤ 2 * at' t p; omega, h1⟩
end

section
variable {wide : Int} {ps : List Int} {w : Int}
theorem openE_wind (ho : openE wide ps w = 0) {w' : Int} (hw : okW w') : openE wide ps w' = 0 := by
  unfold openE at ho ⊢
  by_cases h : chk wide ps = 0
  · rw [if_neg (not_not_intro h), if_neg (not_not_intro hw)]
  · rw [if_pos h] at ho; exact absurd ho h
theorem openE_of (hc : chk wide ps = 0) (hw : okW w) : openE wide ps w = 0 := by
  unfold openE; rw [if_neg (not_not_intro hc), if_neg (not_not_intro hw)]
theorem next_calm {w' : Int} (h : ∀ sd sr k, needN w' sd sr k ≤ 2 * needN w sd sr k) (p q m : Int) (hx : (q, m) ∈ nextL wide ps w p) : ∃ m', (q, m') ∈ nextL wide ps w' p ∧ m' ≤ 2 * m := by
  obtain ⟨s, hs, e1, e2, e3, e4, e5⟩ := mem_nextL.1 hx
  exact ⟨_, mem_nextL.2 ⟨s, hs, e1, e2, e3, e4, rfl⟩, by rw [e5]; exact h ..⟩
theorem kind_rng (ho : openE wide ps w = 0) {p : Int} (hp : 0 ≤ p ∧ p < ps.length) : 0 ≤ ps.getD p.toNat 0 ∧ ps.getD p.toNat 0 ≤ 2 := by
  obtain ⟨_, _, _, h, _⟩ := openE_ok ho
  refine h _ ?_
  rw [List.getD_eq_getElem?_getD, List.getElem?_eq_getElem (by omega)]
  exact List.getElem_mem _
theorem next_back (ho : openE wide ps w = 0) {p q m : Int} (hp : 0 ≤ p ∧ p < ps.length) (hw : ps.getD p.toNat 0 ≠ 2) (hx : (q, m) ∈ nextL wide ps w p) : ∃ m', (p, m') ∈ nextL wide ps (bkW w) q ∧ m' + ps.getD q.toNat 0 = m + ps.getD p.toNat 0 := by
  obtain ⟨s, hs, e1, e2, e3, e4, e5⟩ := mem_nextL.1 hx
  obtain ⟨_, _, hb⟩ := bkW_ok (openE_ok ho).2.2.2.2.1
  obtain ⟨b1, b2⟩ := hb s hs
  have hkp := kind_rng ho hp
  have hkq := kind_rng ho (p := q) (by omega)
  refine ⟨_, mem_nextL.2 ⟨_, b1, ?_, by omega, fun h => ?_, hw, rfl⟩, ?_⟩
  · rw [e1, Int.neg_mul]; omega
  · exact (e3 (by simpa using h)).symm
  · have := b2 (ps.getD q.toNat 0) (ps.getD p.toNat 0) (by omega) (by omega)
    rw [e5]; dsimp only; omega
theorem walk_turn (ho : openE wide ps w = 0) {s : Int} (hs : 0 ≤ s ∧ s < ps.length) (hk : ps.getD s.toNat 0 = 0) {p d : Int} (h : Walk (nextL wide ps w) s p d) : ∃ d', Walk (nextL wide ps (bkW w)) p s d' ∧ d' + ps.getD p.toNat 0 = d := by
  induction h with
  | here => exact ⟨0, .here, by rw [hk]; rfl⟩
  | step h1 h2 ih =>
    obtain ⟨d', h3, h4⟩ := ih
    obtain ⟨m', h5, h6⟩ := next_back ho (h1.rng (nextL_ok ho) hs).1 (Walk.open' (by rw [hk]; decide) h1) h2
    exact ⟨m' + d', walk_front h5 h3, by omega⟩
theorem turn_le (ho : openE wide ps w = 0) {s p : Int} (hs : 0 ≤ s ∧ s < ps.length) (hk : ps.getD s.toNat 0 = 0) (hp : 0 ≤ p ∧ p < ps.length) (hkp : ps.getD p.toNat 0 = 0) (h : (tb wide ps w s).getD p.toNat 0 ≠ -1) : (tb wide ps (bkW w) p).getD s.toNat 0 ≠ -1 ∧ (tb wide ps (bkW w) p).getD s.toNat 0 ≤ (tb wide ps w s).getD p.toNat 0 := by
  have ho' := openE_wind ho (bkW_ok (openE_ok ho).2.2.2.2.1).1
  rcases (tb_ok ho hs).sound p hp.1 hp.2 with h1 | ⟨_, _, h1⟩
  · exact absurd h1 h
  · obtain ⟨d', h2, h3⟩ := walk_turn ho hs hk h1
    obtain ⟨h4, h5⟩ := (tb_ok ho' hp).below (nextL_ok ho') hp h2
    refine ⟨h4, ?_⟩
    rw [hkp] at h3
    show at' _ _ ≤ at' _ _
    omega
theorem turn_eq (ho : openE wide ps w = 0) {s p : Int} (hs : 0 ≤ s ∧ s < ps.length) (hk : ps.getD s.toNat 0 = 0) (hp : 0 ≤ p ∧ p < ps.length) (hkp : ps.getD p.toNat 0 = 0) : (tb wide ps (bkW w) p).getD s.toNat 0 = (tb wide ps w s).getD p.toNat 0 := by
  obtain ⟨b1, b2, _⟩ := bkW_ok (openE_ok ho).2.2.2.2.1
  have ho' := openE_wind ho b1
  by_cases h : (tb wide ps w s).getD p.toNat 0 = -1
  · by_cases h' : (tb wide ps (bkW w) p).getD s.toNat 0 = -1
    · rw [h, h']
    · have := turn_le ho' hp hkp hs hk h'
      rw [b2] at this
      exact absurd h this.1
  · obtain ⟨h1, h2⟩ := turn_le ho hs hk hp hkp h
    have := turn_le ho' hp hkp hs hk h1
    rw [b2] at this
    omega

/-! ### The winds in which a house hears -/
def wndP (wide : Int) (ps : List Int) (voice stand house w : Int) : Bool := decide (needE wide ps w stand house = 0) && decide (needV wide ps w stand house ≤ voice)
def wndF (P : Int → Bool) : Nat → Int → List Int
  | 0, _ => []
  | m + 1, w => if P w = true then w :: wndF P m (w + 1) else wndF P m (w + 1)
theorem wndF_mem {P : Int → Bool} : ∀ (m : Nat) (w x : Int), x ∈ wndF P m w ↔ (w ≤ x ∧ x < w + m) ∧ P x = true
  | 0, w, x => by unfold wndF; simp; omega
  | m + 1, w, x => by
    unfold wndF
    have ih := wndF_mem (P := P) m (w + 1) x
    by_cases h : P w = true
    · rw [if_pos h, List.mem_cons, ih]
      constructor
      · rintro (h1 | ⟨h1, h2⟩)
        · exact ⟨by omega, by rw [h1]; exact h⟩
        · exact ⟨by omega, h2⟩
      · rintro ⟨h1, h2⟩
        by_cases he : x = w
        · exact .inl he
        · exact .inr ⟨by omega, h2⟩
    · rw [if_neg h, ih]
      constructor
      · rintro ⟨h1, h2⟩; exact ⟨by omega, h2⟩
      · rintro ⟨h1, h2⟩
        by_cases he : x = w
        · rw [he] at h2; exact absurd h2 h
        · exact ⟨by omega, h2⟩
theorem winds_l3 (hn : ps.length ≤ 1000) (voice stand house : Int) : ∀ (fu m : Nat) (w : Int) (acc : List Int), 0 ≤ w → w + m = 5 → m < fu → acc.length ≤ 100 + w.toNat → hear_Winds_l3 wide ps voice stand house fu acc w = some (acc ++ wndF (wndP wide ps voice stand house) m w)
  | 0, m, w, acc, _, _, h, _ => by omega
  | fu + 1, 0, w, acc, h0, h1, _, _ => by
    unfold hear_Winds_l3 wndF
    rw [if_neg (by omega), List.append_nil]
  | fu + 1, m + 1, w, acc, h0, h1, h2, h3 => by
    unfold hear_Winds_l3 wndF
    rw [if_pos (by omega), Need_eq hn, b2_some, gd_t (r64_small (by omega))]
    have e : (if needE wide ps w stand house = 0 then some (decide (needV wide ps w stand house ≤ voice)) else some false) = some (wndP wide ps voice stand house w) := by
      unfold wndP
      by_cases h : needE wide ps w stand house = 0
      · rw [if_pos h, decide_eq_true h, Bool.true_and]
      · rw [if_neg h, decide_eq_false h, Bool.false_and]
    rw [e, b1_some]
    by_cases hp : wndP wide ps voice stand house w = true
    · rw [if_pos hp, if_pos hp, ap_t (by simp; omega), gd_t (r64_small (by omega)), winds_l3 hn voice stand house fu m (w + 1) (acc ++ [w]) (by omega) (by omega) (by omega) (by simp; omega)]
      simp
    · rw [if_neg hp, if_neg hp, winds_l3 hn voice stand house fu m (w + 1) acc (by omega) (by omega) (by omega) (by omega)]
def wndE (wide : Int) (ps : List Int) (voice stand house : Int) : Int := if chk wide ps ≠ 0 then chk wide ps else if chkA 0 voice ≠ 0 then chkA 0 voice else if isE ps stand 0 ≠ 0 then isE ps stand 0 else isE ps house 1
theorem Winds_eq (hn : ps.length ≤ 1000) (voice stand house : Int) : hear_Winds wide ps voice stand house = some (if wndE wide ps voice stand house = 0 then wndF (wndP wide ps voice stand house) 5 0 else [], wndE wide ps voice stand house) := by
  unfold hear_Winds wndE
  rw [check_eq hn, b1_some]
  by_cases h1 : chk wide ps = 0
  · rw [if_neg (not_not_intro h1), if_neg (not_not_intro h1), checkAir_eq, b1_some]
    by_cases h2 : chkA 0 voice = 0
    · rw [if_neg (not_not_intro h2), if_neg (not_not_intro h2), is_eq hn, b1_some, is_eq hn, b1_some, gd_t ⟨by decide, by decide⟩]
      have e2 : Int.toNat (2 - 0) = 2 := by decide
      rw [e2]
      unfold hear_Winds_l2
      rw [ix_t (x := isE ps stand 0) (Int.le_refl 0) rfl]
      by_cases h3 : isE ps stand 0 = 0
      · rw [if_neg (not_not_intro h3), if_neg (not_not_intro h3)]
        unfold hear_Winds_l2
        rw [ix_t (x := isE ps house 1) (by decide) rfl]
        by_cases h4 : isE ps house 1 = 0
        · rw [if_neg (not_not_intro h4), if_pos h4, h4]
          unfold hear_Winds_l2 hear_Winds_j1
          rw [winds_l3 hn voice stand house FU 5 0 [] (by omega) (by omega) (by unfold FU; omega) (by simp), b1_some, List.nil_append]
        · rw [if_pos h4, if_neg h4]
      · rw [if_pos h3, if_pos h3, if_neg h3]
    · rw [if_pos h2, if_pos h2, if_neg h2]
  · rw [if_pos h1, if_pos h1, if_neg h1]
theorem idxD_l2 (v : Int) : ∀ (l : List Int) (k : Int), 0 ≤ k → ∃ n, slices_Index_hear_Dir_hear_Dir_l2 v l k = some n ∧ (0 ≤ n ↔ v ∈ l)
  | [], k, _ => ⟨-1, rfl, by simp⟩
  | x :: l, k, hk => by
    unfold slices_Index_hear_Dir_hear_Dir_l2
    by_cases h : v = x
    · exact ⟨k, if_pos h, by simp [h, hk]⟩
    · obtain ⟨n, h1, h2⟩ := idxD_l2 v l (k + 1) (by omega)
      exact ⟨n, by rw [if_neg h]; exact h1, by rw [h2]; simp [h]⟩
theorem containsD_eq (l : List Int) (v : Int) : slices_Contains_hear_Dir_hear_Dir l v = some (decide (v ∈ l)) := by
  unfold slices_Contains_hear_Dir_hear_Dir slices_Index_hear_Dir_hear_Dir
  obtain ⟨n, h1, h2⟩ := idxD_l2 v l 0 (Int.le_refl _)
  rw [h1, b1_some]; congr 1; rw [decide_eq_decide]; exact h2

theorem isE_of {p kind : Int} (hp : 0 ≤ p ∧ p < ps.length) (h : ps.getD p.toNat 0 = kind) : isE ps p kind = 0 := by
  unfold isE; rw [if_neg (not_not_intro ⟨hp.1, by omega⟩), if_neg (not_not_intro h)]
theorem standE_of (ho : openE wide ps w = 0) {p : Int} (hp : 0 ≤ p ∧ p < ps.length) (h : ps.getD p.toNat 0 = 0) : standE wide ps w p = 0 := by
  unfold standE; rw [if_neg (not_not_intro ho), isE_of hp h]
theorem needE_st {stand plot : Int} (h : standE wide ps w stand = 0) (hp : 0 ≤ plot ∧ plot < ps.length) : needE wide ps w stand plot = if (tb wide ps w stand).getD plot.toNat 0 = -1 then 6 else 0 := by
  unfold needE; rw [if_neg (not_not_intro h), if_neg (not_not_intro ⟨hp.1, by omega⟩)]
theorem wndP_iff (ho : openE wide ps w = 0) {voice stand house : Int} (hs : 0 ≤ stand ∧ stand < ps.length) (hk : ps.getD stand.toNat 0 = 0) (hp : 0 ≤ house ∧ house < ps.length) : wndP wide ps voice stand house w = decide (0 ≤ (tb wide ps w stand).getD house.toNat 0 ∧ (tb wide ps w stand).getD house.toNat 0 ≤ voice) := by
  have hr := (tb_ok ho hs).rng hp
  unfold wndP needV
  rw [needE_st (standE_of ho hs hk) hp]
  by_cases h : (tb wide ps w stand).getD house.toNat 0 = -1
  · rw [if_pos h, decide_eq_false (by decide), Bool.false_and]; symm; rw [decide_eq_false_iff_not]; omega
  · rw [if_neg h, if_pos rfl, decide_eq_true rfl, Bool.true_and, decide_eq_decide]; omega

/-! ### The law -/
theorem back_l4 (hc : chk wide ps = 0) (hw : okW w) {voice : Int} (hv : 1 ≤ voice ∧ voice ≤ 16) {s : Int} (hs : 0 ≤ s ∧ s < ps.length) (hk : ps.getD s.toNat 0 = 0) {X Y : List Int} (hX : X = tb wide ps w s) (hY : Y = tb wide ps 0 s) (rec2 : Option Bool) :
    ∀ (r : List Int) (k : Nat), X.drop k = r → oyezlaw01_HearBack_l4 wide ps w voice (bkW w) s Y rec2 r (k : Int) = rec2
  | [], k, _ => rfl
  | x :: r, k, hr => by
    have ho := openE_of hc hw
    have h0 : okW 0 := by decide
    have ho0 := openE_of hc h0
    have hn := (openE_ok ho).2.1
    have hTX : Tab ps.length (nextL wide ps w) s X := by rw [hX]; exact tb_ok ho hs
    have hTY : Tab ps.length (nextL wide ps 0) s Y := by rw [hY]; exact tb_ok ho0 hs
    obtain ⟨hk1, hx, hr'⟩ := drop_get hr
    rw [hTX.len] at hk1
    have hkr : 0 ≤ (k : Int) ∧ (k : Int) < ps.length := by omega
    have ih := back_l4 hc hw hv hs hk hX hY rec2 r (k + 1) hr'
    have rx := hTX.rng hkr
    have ry := hTY.rng hkr
    have t1 := tab_twice (nextL_ok ho0) hs (next_calm (w := w) (w' := 0) fun a b c => (needN_calm w a b c).1) hTX hTY hkr
    have t2 := tab_twice (nextL_ok ho) hs (next_calm (w := 0) (w' := w) fun a b c => (needN_calm w a b c).2) hTY hTX hkr
    rw [Int.toNat_natCast, hx] at t1 t2 rx
    rw [Int.toNat_natCast] at ry
    unfold oyezlaw01_HearBack_l4
    rw [ix_get _ hkr.1 (by rw [hTY.len]; exact hkr.2), Int.toNat_natCast]
    have first : (if decide (x = -1) ≠ decide (Y.getD k 0 = -1) then some true
        else gd (R64 (2 * Y.getD k 0)) <| if 2 * Y.getD k 0 < x then (if 0 ≤ Y.getD k 0 then some true
          else gd (R64 (2 * x)) <| if 2 * x < Y.getD k 0 then some (decide (0 ≤ x)) else some false)
        else gd (R64 (2 * x)) <| if 2 * x < Y.getD k 0 then some (decide (0 ≤ x)) else some false) = some false := by
      generalize Y.getD k 0 = y at t1 t2 ry
      rw [if_neg, gd_t (r64_small (by omega)), gd_t (r64_small (by omega))]
      · by_cases hx1 : x = -1
        · have hy1 : y = -1 := Classical.byContradiction fun h => (t2 h).1 hx1
          subst hx1 hy1; rfl
        · have h1 := t1 hx1
          have h2 := t2 h1.1
          rw [if_neg (by omega), if_neg (by omega)]
      · refine not_not_intro ?_
        rw [decide_eq_decide]
        exact ⟨fun h => Classical.byContradiction fun h' => (t2 h').1 h, fun h => Classical.byContradiction fun h' => (t1 h').1 h⟩
    rw [first, b1_some, if_neg (by decide), ix_get _ hkr.1 hkr.2, Int.toNat_natCast]
    have ek : ((k : Int) + 1) = ((k + 1 : Nat) : Int) := rfl
    by_cases c0 : ps.getD k 0 = 0
    · rw [if_pos c0, Need_eq (by omega), b2_some]
      have hw' := (bkW_ok hw).1
      have hob := openE_of hc hw'
      have hkk : ps.getD (k : Int).toNat 0 = 0 := c0
      have hne := needE_st (standE_of hob hkr hkk) hs
      have hte := turn_eq ho hs hk hkr hkk
      rw [← hX, Int.toNat_natCast, hx] at hte
      rw [hte] at hne
      have hsec : (if x = -1 then (if needE wide ps (bkW w) k s ≠ 6 then some true else if x ≠ -1 then (if needE wide ps (bkW w) k s ≠ 0 then some true else some (decide (needV wide ps (bkW w) k s ≠ x))) else some false) else (if x ≠ -1 then (if needE wide ps (bkW w) k s ≠ 0 then some true else some (decide (needV wide ps (bkW w) k s ≠ x))) else some false)) = some false := by
        by_cases hx1 : x = -1
        · rw [if_pos hx1] at hne
          rw [if_pos hx1, hne, if_neg (by decide), if_neg (not_not_intro hx1)]
        · rw [if_neg hx1] at hne
          rw [if_neg hx1, if_pos hx1, hne, if_neg (by decide)]
          unfold needV
          rw [hne, if_pos rfl, hte]; simp
      rw [hsec, b1_some, if_neg (by decide), ek, ih]
    · rw [if_neg c0]
      by_cases c1 : ps.getD k 0 = 1
      · have hkk : ps.getD (k : Int).toNat 0 = 1 := c1
        have he : wndE wide ps voice s k = 0 := by
          unfold wndE
          rw [if_neg (not_not_intro hc), if_neg, isE_of hs hk, if_neg (by decide), isE_of hkr hkk]
          unfold chkA
          rw [if_neg]; · decide
          rintro (h | h)
          · exact h h0
          · omega
        have m1 : (w ∈ wndF (wndP wide ps voice s k) 5 0) ↔ (0 ≤ x ∧ x ≤ voice) := by
          rw [wndF_mem, wndP_iff ho hs hk hkr, ← hX, Int.toNat_natCast, hx, decide_eq_true_iff]
          exact ⟨fun h => h.2, fun h => ⟨⟨hw.1, by have := hw.2; omega⟩, h⟩⟩
        have m2 : ((0 : Int) ∈ wndF (wndP wide ps voice s k) 5 0) ↔ (0 ≤ Y.getD k 0 ∧ Y.getD k 0 ≤ voice) := by
          rw [wndF_mem, wndP_iff ho0 hs hk hkr, ← hY, Int.toNat_natCast, decide_eq_true_iff]
          exact ⟨fun h => h.2, fun h => ⟨⟨by omega, by omega⟩, h⟩⟩
        rw [if_pos c1, Winds_eq (by omega), b2_some, he, if_pos rfl, if_neg (not_not_intro rfl), containsD_eq, b1_some, containsD_eq, b1_some, ix_get _ hkr.1 (by rw [hTY.len]; exact hkr.2), Int.toNat_natCast]
        simp only [m1, m2]
        generalize Y.getD k 0 = y
        have e1 : (if 0 ≤ y then some (decide (decide (0 ≤ y ∧ y ≤ voice) ≠ decide (y ≤ voice))) else some (decide (decide (0 ≤ y ∧ y ≤ voice) ≠ false))) = some false := by
          by_cases hy : 0 ≤ y <;> simp [hy]
        have e2 : (if 0 ≤ x then (if decide (0 ≤ x ∧ x ≤ voice) ≠ decide (x ≤ voice) then some true else some false) else (if decide (0 ≤ x ∧ x ≤ voice) ≠ false then some true else some false)) = some false := by
          by_cases hx1 : 0 ≤ x <;> simp [hx1]
        rw [e1, e2, b1_some, if_neg (by decide), ek, ih]
      · rw [if_neg c1, ek, ih]
theorem back_l2 (hc : chk wide ps = 0) (hw : okW w) {voice : Int} (hv : 1 ≤ voice ∧ voice ≤ 16) : ∀ (l : List Int), (∀ s ∈ l, (0 ≤ s ∧ s < ps.length) ∧ ps.getD s.toNat 0 = 0) → oyezlaw01_HearBack_l2 wide ps w voice (bkW w) l = some true
  | [], _ => by
    unfold oyezlaw01_HearBack_l2 oyezlaw01_HearBack_j1
    rw [awake_t, b1_some]
  | s :: l, h => by
    obtain ⟨hs, hk⟩ := h s (List.mem_cons_self ..)
    have ho := openE_of hc hw
    have ho0 := openE_of hc (show okW 0 by decide)
    have hn := (openE_ok ho).2.1
    unfold oyezlaw01_HearBack_l2
    rw [Needs_eq (by omega), standE_of ho hs hk, if_pos rfl, b2_some, Needs_eq (by omega), standE_of ho0 hs hk, if_pos rfl, b2_some, if_neg (by decide), if_neg (by decide), if_neg (by rw [(tb_ok ho hs).len]; simp), (tb_ok ho0 hs).len, b1_some, if_neg (by simp)]
    have ih := back_l2 hc hw hv l (fun x hx => h x (List.mem_cons_of_mem _ hx))
    have h4 := back_l4 hc hw hv hs hk rfl rfl (oyezlaw01_HearBack_l2 wide ps w voice (bkW w) l) (tb wide ps w s) 0 rfl
    exact h4.trans ih
end
theorem back_true {metal : List Int} (hm : (metal.length : Int) ≤ 9223372036854775807) : oyezlaw01_HearBack metal = some true := by
  unfold oyezlaw01_HearBack oyezkit_Hang
  obtain ⟨wide, ps, a1, t1, h1, h2, h3, _, h5⟩ := made_ok (t := 0) (plots := 24) (show 0 ≤ (0 : Int) ∧ (0 : Int) ≤ metal.length by omega) hm (by omega)
  obtain ⟨w, v, a2, t2, g1, g2, g3, _⟩ := aired_ok (t := t1) h5 hm
  rw [b3_some, h1, b4_some, g1, b4_some]
  have hb : (if w ≠ 0 then gd (R64 (w + 1)) <| gd (R64 (1 + Int.tmod (w + 1) 4)) <| some (1 + Int.tmod (w + 1) 4) else some 0) = some (bkW w) := by
    unfold bkW
    have h4 : 0 ≤ Int.tmod (w + 1) 4 := Int.tmod_nonneg _ (by have := g2.1; omega)
    have h5 : Int.tmod (w + 1) 4 < 4 := Int.tmod_lt_of_pos _ (by decide)
    have h6 := g2.2
    have h7 := g2.1
    rw [gd_t (r64_small (by omega)), gd_t (r64_small (by omega))]
    split <;> rfl
  rw [hb, b1_some, streets_eq (by omega), b1_some]
  refine back_l2 h2 g2 g3 _ fun s hs => ?_
  rw [kindL_mem, Int.sub_zero] at hs
  exact ⟨by omega, hs.2.2⟩
end Go.Proofs.Ytdnmaodkdhdacaa
