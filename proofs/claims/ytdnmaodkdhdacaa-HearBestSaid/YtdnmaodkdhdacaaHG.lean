/- Layer 1: what ways need, and the way that is told; HearWays. -/
import Derived.Test.YtdnmaodkdhdacaaHE
namespace Go.Proofs.Ytdnmaodkdhdacaa
open Go.PL Go.Hear

/-! ### What a way needs -/
def tkL (E : Int → List (Int × Int)) : List Int → Int → Int → Int × Int
  | [], _, sum => (sum, 0)
  | x :: r, p, sum => if lastN (E p) x = -1 then (0, 8) else tkL E r x (sum + lastN (E p) x)
theorem lastN_ne {l : List (Int × Int)} {q m : Int} (hl : ∀ x ∈ l, 1 ≤ x.2) (h : (q, m) ∈ l) : lastN l q ≠ -1 := by
  have : ∀ (l : List (Int × Int)) (a : Int), (∀ x ∈ l, 1 ≤ x.2) → (a ≠ -1 ∨ ∃ m, (q, m) ∈ l) → l.foldl (fun a x => if x.1 = q then x.2 else a) a ≠ -1 := by
    intro l
    induction l with
    | nil => intro a _ h; rcases h with h | ⟨m, h⟩
             · exact h
             · simp at h
    | cons x l ih =>
      intro a hl h
      rw [List.foldl_cons]
      refine ih _ (fun y hy => hl y (List.mem_cons_of_mem _ hy)) ?_
      have hx := hl x (List.mem_cons_self ..)
      split
      · exact .inl (by omega)
      · rename_i hne
        rcases h with h | ⟨m, h⟩
        · exact .inl h
        · rcases List.mem_cons.1 h with h | h
          · rw [← h] at hne; exact absurd rfl hne
          · exact .inr ⟨m, h⟩
  exact this l (-1) hl (.inr ⟨m, h⟩)
theorem takes_l4 (q : Int) : ∀ (l : List (Int × Int)) (a : Int), hear_Takes_l4 q l a = some (l.foldl (fun a x => if x.1 = q then x.2 else a) a)
  | [], a => rfl
  | x :: l, a => by
    unfold hear_Takes_l4
    rw [List.foldl_cons]
    split <;> exact takes_l4 q l _

section
variable {wide : Int} {ps : List Int} {w : Int} {way : List Int}
theorem last_step (ho : openE wide ps w = 0) (p q : Int) : lastN (nextL wide ps w p) q = -1 ∨ ((0 ≤ q ∧ q < ps.length) ∧ 1 ≤ lastN (nextL wide ps w p) q ∧ lastN (nextL wide ps w p) q ≤ 5 ∧ (q, lastN (nextL wide ps w p) q) ∈ nextL wide ps w p) := by
  rcases lastN_mem (nextL wide ps w p) q with h | h
  · exact .inl h
  · have := nextL_ok ho _ _ _ h
    exact .inr ⟨this.1, this.2.1, this.2.2, h⟩
theorem drop_get {l r : List Int} {x : Int} {k : Nat} (h : l.drop k = x :: r) : k < l.length ∧ l.getD k 0 = x ∧ l.drop (k + 1) = r := by
  have hk : k < l.length := by
    by_cases hk : k < l.length
    · exact hk
    · rw [List.drop_eq_nil_of_le (by omega)] at h; cases h
  rw [List.drop_eq_getElem_cons hk] at h
  refine ⟨hk, ?_, (List.cons.inj h).2⟩
  rw [List.getD_eq_getElem?_getD, List.getElem?_eq_getElem hk]
  exact (List.cons.inj h).1
theorem takes_l2 (ho : openE wide ps w = 0) (hw : way.length ≤ 1000) : ∀ (r : List Int) (k : Nat) (sum : Int), way.drop (k + 1) = r → k < way.length → (0 ≤ way.getD k 0 ∧ way.getD k 0 < ps.length) → 0 ≤ sum → sum ≤ 5 * (k : Int) → hear_Takes_l2 way (some (dsk wide ps w)) r (k : Int) sum = some (tkL (nextL wide ps w) r (way.getD k 0) sum)
  | [], k, sum, _, _, _, _, _ => rfl
  | x :: r, k, sum, hr, hk, hp, h0, h5 => by
    unfold hear_Takes_l2 dsk tkL
    rw [ix_get _ (by omega) (by omega), b5_some, next_eq ho (by simpa using hp.1) (by simpa using hp.2), b1_some, takes_l4, b1_some]
    have e : (nextL wide ps w (way.getD (k : Int).toNat 0)).foldl (fun a x' => if x'.1 = x then x'.2 else a) (-1) = lastN (nextL wide ps w (way.getD k 0)) x := rfl
    rw [e]
    obtain ⟨hk1, hx, hr'⟩ := drop_get hr
    by_cases hl : lastN (nextL wide ps w (way.getD k 0)) x = -1
    · rw [if_pos hl, if_pos hl]
    · rw [if_neg hl, if_neg hl]
      have hs := (last_step ho (way.getD k 0) x).resolve_left hl
      rw [gd_t (r64_small (by omega))]
      unfold hear_Takes_j3
      have ih := takes_l2 ho hw r (k + 1) (sum + lastN (nextL wide ps w (way.getD k 0)) x) hr' hk1 (by rw [hx]; exact hs.1) (by omega) (by omega)
      unfold dsk at ih
      rw [show ((k : Int) + 1) = ((k + 1 : Nat) : Int) from rfl, ih, hx]
def tksR (wide : Int) (ps : List Int) (w : Int) (way : List Int) : Int × Int :=
  if openE wide ps w ≠ 0 then (0, openE wide ps w) else if (way.length : Int) = 0 then (0, 2) else if isE ps (way.getD 0 0) 0 ≠ 0 then (0, 8) else tkL (nextL wide ps w) (way.drop 1) (way.getD 0 0) 0
theorem isE_ok' {ps : List Int} {p kind : Int} (h : isE ps p kind = 0) : (0 ≤ p ∧ p < ps.length) ∧ ps.getD p.toNat 0 = kind := by
  unfold isE at h
  split at h
  · cases h
  · rename_i h1
    split at h
    · cases h
    · rename_i h2
      have h1' := Classical.not_not.1 h1
      exact ⟨⟨h1'.1, by omega⟩, Classical.not_not.1 h2⟩
theorem Takes_eq (hn : ps.length ≤ 1000) (hw : way.length ≤ 1000) : hear_Takes wide ps w way = some (tksR wide ps w way) := by
  unfold hear_Takes tksR
  rw [opened_eq hn, b2_some]
  by_cases ho : openE wide ps w = 0
  · rw [if_neg (not_not_intro ho), if_neg (not_not_intro ho), if_pos ho]
    by_cases hz : (way.length : Int) = 0
    · rw [if_pos hz, if_pos hz]
    · rw [if_neg hz, if_neg hz, ix_get _ (by omega) (by omega), is_eq hn, b1_some]
      by_cases hs : isE ps (way.getD 0 0) 0 = 0
      · obtain ⟨hp, _⟩ := isE_ok' hs
        have hs' : isE ps (way.getD (0 : Int).toNat 0) 0 = 0 := hs
        rw [if_neg (not_not_intro hs'), if_neg (not_not_intro hs), gd_t (by omega), bvE]
        have hsl : sl way 1 (way.length : Int) = way.drop 1 := by
          unfold sl; rw [Int.toNat_natCast, List.take_length]; rfl
        rw [hsl]
        exact takes_l2 ho hw _ 0 0 rfl (by omega) hp (by omega) (by omega)
      · have hs' : isE ps (way.getD (0 : Int).toNat 0) 0 ≠ 0 := hs
        rw [if_pos hs', if_pos hs]
  · rw [if_pos ho, if_pos ho]

/-! ### The reference's -/
theorem step_off {p q : Int} (hn : ps.length ≤ 1000) (hq : ¬ (0 ≤ q ∧ q < ps.length)) : oyezref01_Step wide ps w p q = some 0 := by
  unfold oyezref01_Step
  simp only [off_eq, b1_some]
  rw [gd_t (r64_small (by omega)), if_pos (decide_eq_true (by omega)), b1_some, if_pos rfl]
theorem step_last (ho : openE wide ps w = 0) {p q : Int} (hp : 0 ≤ p ∧ p < ps.length) (hw : ps.getD p.toNat 0 ≠ 2) : oyezref01_Step wide ps w p q = some (if lastN (nextL wide ps w p) q = -1 then 0 else lastN (nextL wide ps w p) q) := by
  have hn := (openE_ok ho).2.1
  by_cases hq : 0 ≤ q ∧ q < ps.length
  · obtain ⟨v, hv, h1, h2⟩ := step_spec ho hp hq
    rw [hv]
    congr 1
    rcases last_step ho p q with h | h
    · rw [if_pos h]
      rcases h1 with h1 | h1
      · exact h1
      · exact absurd h (lastN_ne (fun x hx => (nextL_ok ho p x.1 x.2 hx).2.1) h1.2.2.2)
    · rw [if_neg (by omega)]
      exact h2 _ h.2.2.2 hw
  · rw [step_off (by omega) hq]
    rcases last_step ho p q with h | h
    · rw [if_pos h]
    · exact absurd h.1 hq
theorem rtakes_l2 (ho : openE wide ps w = 0) (hw : way.length ≤ 1000) : ∀ (fu k : Nat) (sum : Int), k + 1 + fu = way.length → (0 ≤ way.getD k 0 ∧ way.getD k 0 < ps.length) → ps.getD (way.getD k 0).toNat 0 ≠ 2 → 0 ≤ sum → sum ≤ 5 * (k : Int) → oyezref01_Takes_l2 wide ps w way fu ((k : Int) + 1) sum = some (tkL (nextL wide ps w) (way.drop (k + 1)) (way.getD k 0) sum)
  | 0, k, sum, hk, _, _, _, _ => by
    unfold oyezref01_Takes_l2 oyezref01_Takes_j1
    rw [List.drop_eq_nil_of_le (by omega)]; rfl
  | fu + 1, k, sum, hk, hp, hpw, h0, h5 => by
    unfold oyezref01_Takes_l2
    have e1 : ((k : Int) + 1 - 1) = (k : Int) := by omega
    have e2 : ((k : Int) + 1) = ((k + 1 : Nat) : Int) := rfl
    rw [e1, gd_t (r64_small (by omega)), ix_get _ (by omega) (by omega), e2, ix_get _ (by omega) (by omega), Int.toNat_natCast, Int.toNat_natCast, step_last ho hp hpw, b1_some]
    have hd : way.drop (k + 1) = way.getD (k + 1) 0 :: way.drop (k + 2) := by
      rw [List.drop_eq_getElem_cons (by omega)]
      congr 1
      rw [List.getD_eq_getElem?_getD, List.getElem?_eq_getElem (by omega)]; rfl
    rw [hd]
    unfold tkL
    by_cases hl : lastN (nextL wide ps w (way.getD k 0)) (way.getD (k + 1) 0) = -1
    · rw [if_pos hl, if_pos hl, if_pos rfl]
    · rw [if_neg hl, if_neg hl]
      have hs := (last_step ho (way.getD k 0) (way.getD (k + 1) 0)).resolve_left hl
      rw [if_neg (by omega), gd_t (r64_small (by omega))]
      obtain ⟨_, _, _, _, _, h2, _⟩ := mem_nextL.1 hs.2.2.2
      exact rtakes_l2 ho hw fu (k + 1) _ (by omega) hs.1 h2 (by omega) (by omega)
theorem rTakes_eq (hn : ps.length ≤ 1000) (hw : way.length ≤ 1000) : oyezref01_Takes wide ps w way = some (tksR wide ps w way) := by
  unfold oyezref01_Takes tksR openE
  rw [rcheck_eq hn, b1_some]
  by_cases h1 : chk wide ps = 0
  · rw [if_neg (not_not_intro h1), if_neg (not_not_intro h1), off_eq, b1_some]
    by_cases h2 : 0 ≤ w ∧ w ≤ 4
    · have h2' : okW w := h2
      have ho : openE wide ps w = 0 := by unfold openE; rw [if_neg (not_not_intro h1), if_neg (not_not_intro h2')]
      rw [if_neg (dnf h2), if_neg (not_not_intro h2'), if_neg (show ¬ ((0 : Int) ≠ 0) by decide)]
      by_cases hz : (way.length : Int) = 0
      · rw [if_pos hz, if_pos hz]
      · rw [if_neg hz, if_neg hz, ix_get _ (by omega) (by omega), ris_eq hn, b1_some]
        by_cases hs : isE ps (way.getD 0 0) 0 = 0
        · obtain ⟨hp, hpw⟩ := isE_ok' hs
          have hs' : isE ps (way.getD (0 : Int).toNat 0) 0 = 0 := hs
          rw [if_neg (not_not_intro hs'), if_neg (not_not_intro hs), gd_t ⟨r64_small (by omega), r64_small (by omega)⟩]
          exact rtakes_l2 ho hw _ 0 0 (by omega) hp (by rw [hpw]; decide) (by omega) (by omega)
        · have hs' : isE ps (way.getD (0 : Int).toNat 0) 0 ≠ 0 := hs
          rw [if_pos hs', if_pos hs]
    · have h2' : ¬ okW w := h2
      rw [if_pos (decide_eq_true h2), if_pos h2', if_pos (show (3 : Int) ≠ 0 by decide)]
  · rw [if_pos h1, if_pos h1, if_pos h1]

/-! ### The way that is told -/
theorem next_uniq (ho : openE wide ps w = 0) {p q m m' : Int} (hp : 0 ≤ p ∧ p < ps.length) (h : (q, m) ∈ nextL wide ps w p) (h' : (q, m') ∈ nextL wide ps w p) : m = m' := by
  obtain ⟨o1, o2, _⟩ := openE_ok ho
  obtain ⟨s, hs, e1, r1, e2, _, e3⟩ := mem_nextL.1 h
  obtain ⟨s', hs', e1', _, e2', _, e3'⟩ := mem_nextL.1 h'
  obtain ⟨a, b⟩ := (adj o1 (by omega) (by omega) hs).1 ⟨e1, e2⟩
  obtain ⟨a', b'⟩ := (adj o1 (by omega) (by omega) hs').1 ⟨e1', e2'⟩
  rw [e3, e3', ← a, ← b, ← a', ← b']
open Classical in
theorem way_l3 (ho : openE wide ps w = 0) {l : List Int} (hl : l.length = ps.length) (hr : ∀ q : Int, 0 ≤ q → q < ps.length → -1 ≤ l.getD q.toNat 0 ∧ l.getD q.toNat 0 ≤ 1000) {p k : Int} (hp : 0 ≤ p ∧ p < ps.length) (hk : 0 ≤ k ∧ k < ps.length) : ∀ (y : List (Int × Int)) (b : Int), (∀ x ∈ y, x ∈ nextL wide ps w k) → hear_Way_l3 l p k y b = some (if ∃ m, (p, m) ∈ y ∧ l.getD k.toNat 0 ≠ -1 ∧ l.getD k.toNat 0 + m = l.getD p.toNat 0 then k else b)
  | [], b, _ => by
    unfold hear_Way_l3
    rw [if_neg (by rintro ⟨m, h, _⟩; simp at h)]
  | x :: y, b, hy => by
    have hx := nextL_ok ho k x.1 x.2 (hy x (List.mem_cons_self ..))
    have hkr := hr k hk.1 hk.2
    have ih := fun b => way_l3 ho hl hr hp hk y b (fun z hz => hy z (List.mem_cons_of_mem _ hz))
    unfold hear_Way_l3
    rw [ix_get _ hk.1 (by omega), ix_get _ hp.1 (by omega), gd_t (r64_small (by omega)), ih, ih]
    by_cases hc : x.1 = p ∧ l.getD k.toNat 0 ≠ -1 ∧ l.getD k.toNat 0 + x.2 = l.getD p.toNat 0
    · rw [if_pos hc.1, if_pos hc.2.1, b1_some, if_pos (decide_eq_true hc.2.2), ite_self, if_pos]
      exact ⟨x.2, by rw [← hc.1]; exact List.mem_cons_self .., hc.2.1, hc.2.2⟩
    · have e : (if x.1 = p then if l.getD k.toNat 0 ≠ -1 then some (decide (l.getD k.toNat 0 + x.2 = l.getD p.toNat 0)) else some false else some false) = some false := by
        by_cases h1 : x.1 = p
        · by_cases h2 : l.getD k.toNat 0 ≠ -1
          · rw [if_pos h1, if_pos h2, decide_eq_false (fun h3 => hc ⟨h1, h2, h3⟩)]
          · rw [if_pos h1, if_neg h2]
        · rw [if_neg h1]
      rw [e, b1_some, if_neg (by decide)]
      congr 1
      by_cases h1 : ∃ m, (p, m) ∈ y ∧ l.getD k.toNat 0 ≠ -1 ∧ l.getD k.toNat 0 + m = l.getD p.toNat 0
      · obtain ⟨m, h2, h3⟩ := h1
        rw [if_pos ⟨m, h2, h3⟩, if_pos ⟨m, List.mem_cons_of_mem _ h2, h3⟩]
      · rw [if_neg h1, if_neg]
        rintro ⟨m, h2, h3⟩
        rcases List.mem_cons.1 h2 with h2 | h2
        · rw [← h2] at hc; exact hc ⟨rfl, h3⟩
        · exact h1 ⟨m, h2, h3⟩
open Classical in
theorem way_l2 (ho : openE wide ps w = 0) {l : List Int} (hl : l.length = ps.length) (hr : ∀ q : Int, 0 ≤ q → q < ps.length → -1 ≤ l.getD q.toNat 0 ∧ l.getD q.toNat 0 ≤ 1000) {p : Int} (hp : 0 ≤ p ∧ p < ps.length) : ∀ (r : List Int) (k : Nat) (b : Int), k + r.length = ps.length → ∃ b', hear_Way_l2 wide ps (windD w) (windR w) (windB w) l p r (k : Int) b = some b' ∧ (((0 ≤ b' ∧ b' < ps.length) ∧ Tight (nextL wide ps w) l b' p) ∨ (b' = b ∧ ∀ q : Int, (k : Int) ≤ q → q < ps.length → ¬ Tight (nextL wide ps w) l q p))
  | [], k, b, hk => ⟨b, rfl, .inr ⟨rfl, fun q h1 h2 => by simp at hk; omega⟩⟩
  | x :: r, k, b, hk => by
    simp only [List.length_cons] at hk
    unfold hear_Way_l2
    rw [next_eq ho (by omega) (by omega), b1_some, way_l3 ho hl hr hp (by omega) _ _ (fun x hx => hx), b1_some]
    generalize hb : (if ∃ m, (p, m) ∈ nextL wide ps w (k : Int) ∧ l.getD (k : Int).toNat 0 ≠ -1 ∧ l.getD (k : Int).toNat 0 + m = l.getD p.toNat 0 then (k : Int) else b) = b2
    obtain ⟨b', h1, h2⟩ := way_l2 ho hl hr hp r (k + 1) b2 (by omega)
    refine ⟨b', h1, ?_⟩
    rcases h2 with h2 | ⟨h2, h3⟩
    · exact .inl h2
    · by_cases hc : ∃ m, (p, m) ∈ nextL wide ps w (k : Int) ∧ l.getD (k : Int).toNat 0 ≠ -1 ∧ l.getD (k : Int).toNat 0 + m = l.getD p.toNat 0
      · rw [if_pos hc] at hb
        rw [h2, ← hb]
        exact .inl ⟨by omega, hc⟩
      · rw [if_neg hc] at hb
        refine .inr ⟨by rw [h2, hb], fun q h4 h5 => ?_⟩
        by_cases he : q = k
        · rw [he]; exact hc
        · exact h3 q (by omega) h5
theorem way_l1 (ho : openE wide ps w = 0) {stand plot : Int} (hs : 0 ≤ stand ∧ stand < ps.length) {l : List Int} (hT : Tab ps.length (nextL wide ps w) stand l) : ∀ (fu : Nat) (out : List Int) (p : Int), BackW (nextL wide ps w) l plot out p → (∀ x ∈ out, 0 ≤ x ∧ x < ps.length) → (0 ≤ p ∧ p < ps.length) → l.getD p.toNat 0 ≠ -1 → (l.getD p.toNat 0).toNat < fu → l.getD plot.toNat 0 ≤ 1000 → ∃ out', hear_Way_l1 ps stand wide ps (windD w) (windR w) (windB w) l fu out p = some out' ∧ BackW (nextL wide ps w) l plot out' stand ∧ (∀ x ∈ out', 0 ≤ x ∧ x < ps.length)
  | 0, _, _, _, _, _, _, h, _ => by omega
  | fu + 1, out, p, hB, hR, hp, h1, h2, h3 => by
    have hE := nextL_ok ho
    have hn := (openE_ok ho).2.1
    unfold hear_Way_l1
    by_cases he : p = stand
    · rw [if_neg (not_not_intro he)]
      exact ⟨out, rfl, by rw [← he]; exact hB, hR⟩
    · rw [if_pos he]
      obtain ⟨b, hb, hb2⟩ := way_l2 ho hT.len (fun q h0 h1 => by have := hT.rng ⟨h0, h1⟩; omega) hp ps 0 (-1) (by omega)
      have hb' : hear_Way_l2 wide ps (windD w) (windR w) (windB w) l p ps 0 (-1) = some b := hb
      obtain ⟨hb3, hb4⟩ := hb2.resolve_right (fun h => by
        obtain ⟨q, h5, h6⟩ := tight_ex hE hs hT hp h1 he
        exact h.2 q (by omega) h5.2 h6)
      obtain ⟨m, m1, m2, m3⟩ := hb4
      have hm := hE _ _ _ m1
      have hlen := hB.len hE
      have hbr := hT.rng hb3
      have hpr := hT.rng hp
      rw [hb', b1_some, ap_t (by simp; omega), b2_some]
      exact way_l1 ho hs hT fu _ b (.snoc hB ⟨m, m1, m2, m3⟩) (fun x hx => (List.mem_append.1 hx).elim (hR x) (fun hx => by rw [List.mem_singleton.1 hx]; exact hb3)) hb3 m2 (by omega) h3
theorem reverse_l1 (xs : List Int) (hx : xs.length ≤ 100000) : ∀ (fu k : Nat), k ≤ xs.length → xs.length - k < fu → slices_Reverse_int_int_l1 fu (revK xs k) (k : Int) ((xs.length : Int) - 1 - k) = some xs.reverse
  | 0, _, _, h => by omega
  | fu + 1, k, hk, h => by
    unfold slices_Reverse_int_int_l1
    by_cases hc : (k : Int) < (xs.length : Int) - 1 - k
    · rw [if_pos hc, ix_get _ (by omega) (by rw [revK_len]; omega), ix_get _ (by omega) (by rw [revK_len]; omega), bvE, ix_get _ (by omega) (by rw [List.length_set, revK_len]; omega), bvE, gd_t (r64_small (by omega)), gd_t (r64_small (by omega))]
      have e : ((xs.length : Int) - 1 - k).toNat = xs.length - 1 - k := by omega
      rw [e, Int.toNat_natCast, revK_step rfl (by omega), show ((k : Int) + 1) = ((k + 1 : Nat) : Int) from rfl, show ((xs.length : Int) - 1 - k - 1) = (xs.length : Int) - 1 - ((k + 1 : Nat) : Int) by omega]
      exact reverse_l1 xs hx fu (k + 1) (by omega) (by omega)
    · rw [if_neg hc, revK_end (by omega)]
theorem reverse_eq (xs : List Int) (hx : xs.length ≤ 100000) : slices_Reverse_int_int xs = some xs.reverse := by
  unfold slices_Reverse_int_int
  rw [gd_t (r64_small (by omega))]
  have := reverse_l1 xs hx FU 0 (by omega) (by unfold FU; omega)
  rw [revK_zero] at this
  rw [← this]
  congr 1; omega
theorem tkL_back (ho : openE wide ps w = 0) {plot : Int} {l : List Int} {out : List Int} {p : Int} (hB : BackW (nextL wide ps w) l plot out p) (hR : ∀ x ∈ out, 0 ≤ x ∧ x < ps.length) : ∃ r, out.reverse = p :: r ∧ ∀ sum, tkL (nextL wide ps w) r p sum = (sum + (l.getD plot.toNat 0 - l.getD p.toNat 0), 0) := by
  induction hB with
  | one => exact ⟨[], rfl, fun sum => by unfold tkL; congr 1; omega⟩
  | snoc h1 h2 ih =>
    rename_i out p q
    obtain ⟨r, e, h3⟩ := ih (fun x hx => hR x (List.mem_append_left _ hx))
    obtain ⟨m, m1, m2, m3⟩ := h2
    have hq := hR q (by simp)
    have hl : lastN (nextL wide ps w q) p = m := by
      rcases last_step ho q p with h | h
      · exact absurd h (lastN_ne (fun x hx => (nextL_ok ho q x.1 x.2 hx).2.1) m1)
      · exact next_uniq ho hq h.2.2.2 m1
    have hm := nextL_ok ho _ _ _ m1
    refine ⟨p :: r, by rw [List.reverse_append, e]; rfl, fun sum => ?_⟩
    unfold tkL
    rw [hl, if_neg (by omega), h3]
    congr 1; omega
theorem needE_ok {stand plot : Int} (h : needE wide ps w stand plot = 0) : standE wide ps w stand = 0 ∧ (0 ≤ plot ∧ plot < ps.length) ∧ (tb wide ps w stand).getD plot.toNat 0 ≠ -1 := by
  unfold needE at h
  by_cases h1 : standE wide ps w stand = 0
  · rw [if_neg (not_not_intro h1)] at h
    split at h
    · cases h
    · rename_i h2
      split at h
      · cases h
      · rename_i h3
        have h2' := Classical.not_not.1 h2
        exact ⟨h1, ⟨h2'.1, by omega⟩, h3⟩
  · rw [if_pos h1] at h; exact absurd h h1
theorem Way_err (hn : ps.length ≤ 1000) {stand plot : Int} (h : needE wide ps w stand plot ≠ 0) : hear_Way wide ps w stand plot = some ([], needE wide ps w stand plot) := by
  unfold hear_Way
  rw [Need_eq hn, b2_some, if_pos h]
theorem Way_ok (hn : ps.length ≤ 1000) {stand plot : Int} (h : needE wide ps w stand plot = 0) : ∃ l : List Int, hear_Way wide ps w stand plot = some (l, 0) ∧ l.length ≤ 1000 ∧ 0 < l.length ∧ tksR wide ps w l = (needV wide ps w stand plot, 0) ∧ l.getD 0 0 = stand ∧ l.getD (l.length - 1) 0 = plot := by
  obtain ⟨h1, hp, h2⟩ := needE_ok h
  obtain ⟨ho, hs, hk⟩ := standE_ok h1
  have hT := tb_ok ho hs
  have hE := nextL_ok ho
  have h30 := (openE_ok ho).2.1
  have hpr := hT.rng hp
  have hst : (tb wide ps w stand).getD stand.toNat 0 = 0 := hT.start
  obtain ⟨out, ho1, hB, hR⟩ := way_l1 ho hs hT FU [plot] plot .one (fun x hx => by rw [List.mem_singleton.1 hx]; exact hp) hp h2 (by unfold FU; omega) (by omega)
  have hlen := hB.len hE
  rw [hst] at hlen
  obtain ⟨r, e, ht⟩ := tkL_back ho hB hR
  refine ⟨out.reverse, ?_, by rw [List.length_reverse]; omega, ?_, ?_, ?_, ?_⟩
  · unfold hear_Way
    rw [Need_eq hn, b2_some, h, if_neg (by decide), opened_eq hn, ho, b2_some, if_pos rfl]
    unfold dsk
    rw [b5_some, from_eq ho hs, b1_some, ho1, b1_some, reverse_eq _ (by omega), b1_some]
  · rw [e]; simp
  · unfold tksR
    rw [if_neg (not_not_intro ho), e, if_neg (by simp only [List.length_cons]; omega), List.getD_cons_zero, List.drop_one, List.tail_cons, ht, if_neg]
    · unfold needV
      rw [h, if_pos rfl, hst]
      congr 1; omega
    · unfold isE
      rw [if_neg (not_not_intro ⟨hs.1, by omega⟩), if_neg (not_not_intro hk)]
      decide
  · rw [e]; rfl
  · have hh := hB.mem.2
    have h0 : 0 < out.length := List.length_pos_iff.2 hB.ne
    rw [List.head?_eq_getElem?] at hh
    rw [List.getD_eq_getElem?_getD, List.length_reverse, List.getElem?_reverse (by omega), show out.length - 1 - (out.length - 1) = 0 by omega, hh]; rfl
end

theorem ways_true {wide : Int} {ps : List Int} {w stand plot : Int} {way : List Int} : oyezlaw01_HearWays wide ps w stand plot way = some true := by
  unfold oyezlaw01_HearWays
  rw [great_eq, b1_some, awake_t, b1_some]
  by_cases h1 : 40 < (ps.length : Int)
  · rw [if_pos (decide_eq_true h1), b1_some, if_pos rfl]
  rw [if_neg (fun h => h1 (of_decide_eq_true h)), b1_some]
  by_cases h2 : 60 < (way.length : Int)
  · rw [if_pos (decide_eq_true h2)]
  rw [if_neg (fun h => h2 (of_decide_eq_true h)), own_eq (by omega), b2_some, copy_eq (by omega), b1_some, theirs_eq (by omega), b2_some]
  rw [Takes_eq (by omega) (by omega), rTakes_eq (by omega) (by omega)]
  generalize tksR wide ps w way = tk
  obtain ⟨tv, te⟩ := tk
  rw [b2_some, b2_some, if_neg (not_not_intro rfl), b1_some, if_neg (by simp), rNeed_eq (by omega)]
  have hj : oyezlaw01_HearWays_j1 wide ps way wide ps way = some true := by
    unfold oyezlaw01_HearWays_j1
    rw [same_eq, b1_some, if_pos rfl, like_eq, b1_some, if_pos (by simp), awake_t, b1_some]
  by_cases he : needE wide ps w stand plot = 0
  · obtain ⟨l, l1, l2, l3, l4, l5, l6⟩ := Way_ok (show ps.length ≤ 1000 by omega) he
    rw [l1, b2_some, b2_some, he, if_neg (not_not_intro rfl), if_neg (not_not_intro rfl), b1_some, if_neg (by decide), if_pos rfl, rTakes_eq (by omega) l2, l4, b2_some, if_neg (not_not_intro rfl), if_neg (not_not_intro rfl)]
    rw [ix_get _ (by omega) (by omega), show (0 : Int).toNat = 0 from rfl, l5, if_neg (not_not_intro rfl), gd_t (r64_small (by omega)), ix_get _ (by omega) (by omega), show ((l.length : Int) - 1).toNat = l.length - 1 by omega, l6, b1_some, if_neg (by simp), hj]
  · rw [Way_err (by omega) he, b2_some, b2_some, if_neg (not_not_intro rfl), if_pos he, b1_some, if_neg (by simp), if_neg he, hj]
end Go.Proofs.Ytdnmaodkdhdacaa
