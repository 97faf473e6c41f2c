/- The table of the quickest walks; in plain Lean. -/
import Derived.Test.YtfmapnhfamoecaaZFMA
namespace Go.Proofs.Ytfmapnhfamoecaa.Rd
open Go.PL
def sm (F : Int → Nat) (w : List Int) : Nat := (w.map F).sum
theorem sm_le {F : Int → Nat} : ∀ (w w' : List Int), w'.length = w.length → (∀ q, q < w.length → F (w'.getD q 0) ≤ F (w.getD q 0)) → sm F w' ≤ sm F w
  | [], [], _, _ => Nat.le_refl _
  | [], _ :: _, h, _ => by simp at h
  | _ :: _, [], h, _ => by simp at h
  | a :: w, b :: w', h, hq => by
    have h0 := hq 0 (by simp)
    have ih := sm_le w w' (by simpa using h) fun q hq' => by
      have := hq (q + 1) (by simpa using hq')
      simpa using this
    unfold sm at *
    simp only [List.map_cons, List.sum_cons]
    have h0' : F b ≤ F a := by simpa using h0
    omega
theorem sm_lt {F : Int → Nat} : ∀ (w w' : List Int), w'.length = w.length → (∀ q, q < w.length → F (w'.getD q 0) ≤ F (w.getD q 0)) → (∃ q, q < w.length ∧ F (w'.getD q 0) < F (w.getD q 0)) → sm F w' < sm F w
  | [], _, _, _, ⟨q, hq, _⟩ => by simp at hq
  | _ :: _, [], h, _, _ => by simp at h
  | a :: w, b :: w', h, hq, ⟨q, hq1, hq2⟩ => by
    have h0 : F b ≤ F a := by simpa using hq 0 (by simp)
    have hr : ∀ q, q < w.length → F (w'.getD q 0) ≤ F (w.getD q 0) := fun q hq' => by
      have := hq (q + 1) (by simpa using hq')
      simpa using this
    have hl : w'.length = w.length := by simpa using h
    have hle := sm_le w w' hl hr
    unfold sm at *
    simp only [List.map_cons, List.sum_cons]
    cases q with
    | zero =>
      have : F b < F a := by simpa using hq2
      omega
    | succ q =>
      have := sm_lt w w' hl hr ⟨q, by simpa using hq1, by simpa using hq2⟩
      unfold sm at this
      omega
def fW (e : Int) : Nat := if e = -1 then 1000000000000 else e.toNat
def gW (e : Int) : Nat := if e = -1 then 1 else 0
theorem sm_bd {F : Int → Nat} {M : Nat} : ∀ (w : List Int), (∀ e ∈ w, F e ≤ M) → sm F w ≤ w.length * M
  | [], _ => by simp [sm]
  | a :: w, h => by
    have ih := sm_bd w fun e he => h e (by simp [he])
    have h0 := h a (by simp)
    unfold sm at *
    simp only [List.map_cons, List.sum_cons, List.length_cons, Nat.succ_mul]
    omega
structure Shp (S : Nat) (w : List Int) : Prop where
  diag : ∀ i, i < S → i < 5 → en w i i = 0
  out : ∀ i k, i < 5 → k < 5 → ¬ (i < S ∧ k < S) → en w i k = -1
  pos : ∀ i k, i < 5 → k < 5 → i ≠ k → en w i k = -1 ∨ 1 ≤ en w i k
theorem en_div {w : List Int} {q : Nat} : en w (q / 5) (q % 5) = w.getD q 0 := by
  unfold en; congr 1; omega
theorem Shp.thr {S : Nat} {w w' : List Int} {B : Int} (h : Shp S w) (hw : TOK w B) (ht : ∀ i k, i < 5 → k < 5 → ThrP w B i k 5 (en w' i k)) : Shp S w' where
  diag := fun i h1 h2 => by
    have h3 := ht i i h2 h2
    have h4 := h.diag i h1 h2
    have h5 := h3.old (by omega)
    have h6 := h3.rng
    omega
  out := fun i k h1 h2 h3 => by
    rcases (ht i k h1 h2).from_ with h4 | ⟨j, h4, h5, h6, _⟩
    · rw [h4]; exact h.out i k h1 h2 h3
    · by_cases c : i < S
      · have : ¬ (j < S ∧ k < S) := fun c2 => h3 ⟨c, c2.2⟩
        exact absurd (h.out j k h4 h2 this) h6
      · exact absurd (h.out i j h1 h4 (fun c2 => c c2.1)) h5
  pos := fun i k h1 h2 h3 => by
    rcases (ht i k h1 h2).from_ with h4 | ⟨j, h4, h5, h6, h7⟩
    · rw [h4]; exact h.pos i k h1 h2 h3
    · have r1 := hw.2 i j h1 h4
      have r2 := hw.2 j k h4 h2
      by_cases c : i = j
      · have := h.pos j k h4 h2 (by omega)
        omega
      · have := h.pos i j h1 h4 c
        omega
structure Fin5 (S : Nat) (w : List Int) : Prop where
  len : w.length = 25
  shp : Shp S w
  rng : ∀ i k, i < 5 → k < 5 → en w i k = -1 ∨ (0 ≤ en w i k ∧ en w i k ≤ 1000000000)
  tri : ∀ i j k, i < 5 → j < 5 → k < 5 → en w i j ≠ -1 → en w j k ≠ -1 → en w i k ≠ -1 ∧ en w i k ≤ en w i j + en w j k
theorem TOK.r64 {w : List Int} {B : Int} (h : TOK w B) (hB : B ≤ 4000000000) : ∀ x ∈ w, R64 x := fun x hx => by
  obtain ⟨q, hq, rfl⟩ := List.getElem_of_mem hx
  have h1 := h.1
  have h2 := h.2 (q / 5) (q % 5) (by omega) (by omega)
  rw [en_div, List.getD_eq_getElem?_getD, List.getElem?_eq_getElem hq, Option.getD_some] at h2
  exact r64_small' (by omega)
theorem fix_ok {S : Nat} {Q : List Int → Prop} (hQ : ∀ (w w' : List Int) (B : Int), Q w → (∀ i k, i < 5 → k < 5 → ThrP w B i k 5 (en w' i k)) → Q w') : ∀ (fu : Nat) (w w' : List Int) (B : Nat), Q w → TOK w (B : Int) → B ≤ 20 * 2 ^ (25 - sm gW w) → sm gW w ≤ 25 → Shp S w → w'.length = 25 → (∀ i k, i < 5 → k < 5 → ThrP w (B : Int) i k 5 (en w' i k)) → sm fW w < fu →
    ∃ r, round_opened_l3 fu w w' = some r ∧ Fin5 S r ∧ Q r
  | 0, _, _, _, _, _, _, _, _, _, _, h => by omega
  | fu + 1, w, w', B, hq, hw, hB, hc, hs, hl, ht, hf => by
    have hp : (2 : Nat) ^ (25 - sm gW w) ≤ 2 ^ 25 := Nat.pow_le_pow_right (by decide) (by omega)
    have hB2 : B ≤ 671088640 := by
      have : (20 : Nat) * 2 ^ 25 = 671088640 := by decide
      omega
    have hw2 : TOK w' (2 * (B : Int)) := ⟨hl, fun i k h1 h2 => (ht i k h1 h2).rng⟩
    have hwl := hw.1
    unfold round_opened_l3
    rw [gd_t (hw2.r64 (by omega)), gd_t (hw.r64 (by omega))]
    by_cases he : w' = w
    · rw [if_neg (not_not_intro he)]
      subst he
      refine ⟨w', rfl, ⟨hl, hs, fun i k h1 h2 => ?_, fun i j k h1 h2 h3 h4 h5 => (ht i k h1 h3).by_ j h2 h4 h5⟩, hq⟩
      have := hw.2 i k h1 h2
      omega
    · rw [if_pos he]
      have hen : ∀ q, q < 25 → ThrP w (B : Int) (q / 5) (q % 5) 5 (w'.getD q 0) := fun q hq => by
        have := ht (q / 5) (q % 5) (by omega) (by omega)
        rwa [en_div] at this
      have hq0 : ∀ q, q < 25 → w.getD q 0 = -1 ∨ (0 ≤ w.getD q 0 ∧ w.getD q 0 ≤ (B : Int)) := fun q hq => by
        have := hw.2 (q / 5) (q % 5) (by omega) (by omega)
        rwa [en_div] at this
      have hfle : ∀ q, q < w.length → fW (w'.getD q 0) ≤ fW (w.getD q 0) := fun q hq => by
        have t := hen q (by omega)
        have o := t.old; have rg := t.rng; have z := hq0 q (by omega)
        rw [en_div] at o
        unfold fW
        by_cases c : w.getD q 0 = -1
        · rw [if_pos c]; split <;> omega
        · rw [if_neg c, if_neg (o c).1]
          have := (o c).2
          omega
      have hne : ∃ q, q < w.length ∧ w'.getD q 0 ≠ w.getD q 0 := Classical.byContradiction fun hn => he (getD_ext (d := 0) (by omega) fun t ht' => Classical.byContradiction fun hne => hn ⟨t, by omega, hne⟩)
      have hflt : sm fW w' < sm fW w := by
        refine sm_lt w w' (by omega) hfle ?_
        obtain ⟨q, hq, hd⟩ := hne
        refine ⟨q, hq, ?_⟩
        have t := hen q (by omega)
        have o := t.old; have rg := t.rng; have z := hq0 q (by omega)
        rw [en_div] at o
        unfold fW
        by_cases c : w.getD q 0 = -1
        · rw [if_pos c, if_neg (by omega)]; omega
        · rw [if_neg c, if_neg (o c).1]
          have := (o c).2
          omega
      have hgle : ∀ q, q < w.length → gW (w'.getD q 0) ≤ gW (w.getD q 0) := fun q hq => by
        have o := (hen q (by omega)).old
        rw [en_div] at o
        unfold gW
        by_cases c : w.getD q 0 = -1
        · rw [if_pos c]; split <;> omega
        · rw [if_neg c, if_neg (o c).1]; exact Nat.le_refl _
      have hgle' := sm_le w w' (by omega) hgle
      have key : ∃ B' : Nat, TOK w' (B' : Int) ∧ B' ≤ 20 * 2 ^ (25 - sm gW w') := by
        by_cases c : ∃ q, q < w.length ∧ w.getD q 0 = -1 ∧ w'.getD q 0 ≠ -1
        · obtain ⟨q, hq, d1, d2⟩ := c
          have hlt : sm gW w' < sm gW w := sm_lt w w' (by omega) hgle ⟨q, hq, by unfold gW; rw [if_neg d2, if_pos d1]; decide⟩
          refine ⟨2 * B, by simpa using hw2, ?_⟩
          have hpw : (2 : Nat) ^ (25 - sm gW w') = 2 ^ (25 - sm gW w) * 2 ^ (sm gW w - sm gW w') := by rw [← Nat.pow_add]; congr 1; omega
          have h2 : 2 ≤ (2 : Nat) ^ (sm gW w - sm gW w') := by
            have := Nat.pow_le_pow_right (n := 2) (by decide) (show 1 ≤ sm gW w - sm gW w' by omega)
            simpa using this
          have h3 : 2 ^ (25 - sm gW w) * 2 ≤ 2 ^ (25 - sm gW w) * 2 ^ (sm gW w - sm gW w') := Nat.mul_le_mul_left _ h2
          rw [hpw]
          omega
        · refine ⟨B, ⟨hl, fun i k h1 h2 => ?_⟩, ?_⟩
          · have t := ht i k h1 h2
            have z := hw.2 i k h1 h2
            by_cases d : en w i k = -1
            · left
              refine Classical.byContradiction fun hn => c ⟨i * 5 + k, by omega, d, hn⟩
            · have := t.old d
              have := t.rng
              omega
          · have hpw : (2 : Nat) ^ (25 - sm gW w) ≤ 2 ^ (25 - sm gW w') := Nat.pow_le_pow_right (by decide) (by omega)
            omega
      obtain ⟨B', hB'1, hB'2⟩ := key
      have hp' : (2 : Nat) ^ (25 - sm gW w') ≤ 2 ^ 25 := Nat.pow_le_pow_right (by decide) (by omega)
      have hB3 : B' ≤ 671088640 := by
        have : (20 : Nat) * 2 ^ 25 = 671088640 := by decide
        omega
      obtain ⟨w2, e2, g1, g2⟩ := through_ok hB'1 (by omega)
      rw [e2, b1_some]
      exact fix_ok hQ fu w' w2 B' (hQ w w' B hq ht) hB'1 hB'2 (by omega) (hs.thr hw ht) g1 g2 (by omega)
end Go.Proofs.Ytfmapnhfamoecaa.Rd
namespace Go.Proofs.Ytfmapnhfamoecaa.Rd
open Go.PL
def E0 (ws : List (List Int)) (i k : Nat) : Int := if i < ws.length ∧ k < ws.length then (ws.getD i []).getD k 0 else -1
section
variable {ws hs : List (List Int)} {H st : Int} {ns : List (List Int × Int × Int)}
theorem open_l2 (h : BtOK ws hs H st ns) {i : Nat} (hi : i < 5) : ∀ (fu k : Nat) (out : List Int), k + fu = 5 → out.length = 25 → (∀ i' k', i' < 5 → k' < 5 → i' < i ∨ (i' = i ∧ k' < k) → en out i' k' = E0 ws i' k') →
    ∃ out', round_opened_l2 ws (i : Int) fu (k : Int) out = some out' ∧ out'.length = 25 ∧ ∀ i' k', i' < 5 → k' < 5 → i' < i + 1 → en out' i' k' = E0 ws i' k'
  | 0, k, out, hk, ho, he => ⟨out, rfl, ho, fun i' k' h1 h2 h3 => he i' k' h1 h2 (by omega)⟩
  | fu + 1, k, out, hk, ho, he => by
    have hk5 : k < 5 := by omega
    have hw := h.hw
    have e2 : (i : Int) * 5 + (k : Int) = ((i * 5 + k : Nat) : Int) := by omega
    have hol : (out.set (i * 5 + k) (-1)).length = 25 := by rw [List.length_set]; exact ho
    unfold round_opened_l2
    rw [gd_t (by omega), gd_t (by omega), ixE ho hi hk5, bvE, e2, Int.toNat_natCast]
    have step : ∀ out2 : List Int, out2.length = 25 → (∀ i' k', i' < 5 → k' < 5 → en out2 i' k' = if i = i' ∧ k = k' then E0 ws i k else en out i' k') →
        ∃ out', round_opened_l2 ws (i : Int) fu ((k : Int) + 1) out2 = some out' ∧ out'.length = 25 ∧ ∀ i' k', i' < 5 → k' < 5 → i' < i + 1 → en out' i' k' = E0 ws i' k' := by
      intro out2 hl hv
      refine open_l2 h hi fu (k + 1) out2 (by omega) hl fun i' k' h1 h2 h3 => ?_
      rw [hv i' k' h1 h2]
      by_cases c : i = i' ∧ k = k'
      · rw [if_pos c, c.1, c.2]
      · rw [if_neg c]; exact he i' k' h1 h2 (by omega)
    by_cases c : i < ws.length ∧ k < ws.length
    · have hr := (h.row i c.1).1
      rw [if_pos (by omega), decide_eq_true (by omega), b1_some, if_pos rfl, ixN [] _ c.1, ixN 0 _ (by omega), gd_t (by omega), gd_t (by omega), ← e2, ixE hol hi hk5, bvE, List.set_set]
      refine step _ (by rw [List.length_set]; exact ho) fun i' k' h1 h2 => ?_
      rw [en_set ho hi hk5 h1 h2]
      unfold E0
      rw [if_pos c]
    · have e3 : (if (i : Int) < (ws.length : Int) then some (decide ((k : Int) < (ws.length : Int))) else some false) = some false := by
        by_cases d : i < ws.length
        · rw [if_pos (by omega), decide_eq_false (by omega)]
        · rw [if_neg (by omega)]
      rw [e3, b1_some, if_neg (by decide)]
      refine step _ hol fun i' k' h1 h2 => ?_
      rw [en_set ho hi hk5 h1 h2]
      unfold E0
      rw [if_neg c]
theorem open_l1 (h : BtOK ws hs H st ns) : ∀ (fu i : Nat) (out : List Int), i + fu = 5 → out.length = 25 → (∀ i' k', i' < 5 → k' < 5 → i' < i → en out i' k' = E0 ws i' k') →
    ∃ out', round_opened_l1 ws fu (i : Int) out = some out' ∧ out'.length = 25 ∧ ∀ i' k', i' < 5 → k' < 5 → en out' i' k' = E0 ws i' k'
  | 0, i, out, hi, ho, he => ⟨out, rfl, ho, fun i' k' h1 h2 => he i' k' h1 h2 (by omega)⟩
  | fu + 1, i, out, hi, ho, he => by
    unfold round_opened_l1
    obtain ⟨out', e1, h1, h2⟩ := open_l2 h (i := i) (by omega) 5 0 out rfl ho (fun i' k' d1 d2 d3 => he i' k' d1 d2 (by omega))
    have e1' : round_opened_l2 ws (i : Int) (Int.toNat (5 - 0)) 0 out = some out' := e1
    rw [gd_t ⟨r64_small (by omega), r64_small (by omega)⟩, e1', b1_some]
    exact open_l1 h fu (i + 1) out' (by omega) h1 h2
theorem walks_gen (h : BtOK ws hs H st ns) {Q : List Int → Prop} (hQ : ∀ (w w' : List Int) (B : Int), Q w → (∀ i k, i < 5 → k < 5 → ThrP w B i k 5 (en w' i k)) → Q w') (hQ0 : ∀ w, (∀ i k, i < 5 → k < 5 → en w i k = E0 ws i k) → Q w) : ∃ c0 a c, round_opened_l1 ws (Int.toNat (5 - 0)) 0 (List.replicate 25 0) = some c0 ∧ round_walks_through c0 = some a ∧ round_opened_l3 FU c0 a = some c ∧ Fin5 hs.length c ∧ Q c := by
  obtain ⟨c0, e1, h1, h2⟩ := open_l1 h 5 0 (List.replicate 25 0) rfl (by simp) (fun i' k' _ _ d => absurd d (by omega))
  have e1' : round_opened_l1 ws (Int.toNat (5 - 0)) 0 (List.replicate 25 0) = some c0 := e1
  have hw := h.hw
  have hv : ∀ i k, i < 5 → k < 5 → (i < hs.length ∧ k < hs.length → WOK i k (en c0 i k)) ∧ (¬ (i < hs.length ∧ k < hs.length) → en c0 i k = -1) := fun i k d1 d2 => by
    rw [h2 i k d1 d2]
    unfold E0
    rw [hw]
    refine ⟨fun c => ?_, fun c => by rw [if_neg c]⟩
    rw [if_pos c]
    exact (h.row i (by omega)).2 k c.2
  have hT : TOK c0 ((20 : Nat) : Int) := ⟨h1, fun i k d1 d2 => by
    by_cases c : i < hs.length ∧ k < hs.length
    · have := (hv i k d1 d2).1 c
      by_cases e : i = k
      · have := this.1 e; omega
      · have := this.2 e; omega
    · exact .inl ((hv i k d1 d2).2 c)⟩
  have hS : Shp hs.length c0 := ⟨fun i d1 d2 => ((hv i i d2 d2).1 ⟨d1, d1⟩).1 rfl, fun i k d1 d2 d3 => (hv i k d1 d2).2 d3, fun i k d1 d2 d3 => by
    by_cases c : i < hs.length ∧ k < hs.length
    · have := ((hv i k d1 d2).1 c).2 d3; omega
    · exact .inl ((hv i k d1 d2).2 c)⟩
  have hg : sm gW c0 ≤ 25 := by
    have := sm_bd (F := gW) (M := 1) c0 fun e _ => by unfold gW; split <;> omega
    omega
  have hf : sm fW c0 < FU := by
    have : sm fW c0 ≤ c0.length * 1000000000000 := sm_bd (F := fW) (M := 1000000000000) c0 fun e he => by
      obtain ⟨q, hq, rfl⟩ := List.getElem_of_mem he
      have := hT.2 (q / 5) (q % 5) (by omega) (by omega)
      rw [en_div, List.getD_eq_getElem?_getD, List.getElem?_eq_getElem hq, Option.getD_some] at this
      unfold fW; split <;> omega
    rw [h1] at this
    have hF : FU = 18446744073709551616 := rfl
    omega
  have h2p : 20 ≤ 20 * 2 ^ (25 - sm gW c0) := by
    have : 1 ≤ (2 : Nat) ^ (25 - sm gW c0) := Nat.one_le_two_pow
    omega
  obtain ⟨a, e2, g1, g2⟩ := through_ok hT (by omega)
  obtain ⟨r, e3, hr, hq⟩ := fix_ok hQ FU c0 a 20 (hQ0 c0 h2) hT h2p hg hS g1 g2 hf
  exact ⟨c0, a, r, e1', e2, e3, hr, hq⟩
theorem walks_ok (h : BtOK ws hs H st ns) : ∃ c0 a c, round_opened_l1 ws (Int.toNat (5 - 0)) 0 (List.replicate 25 0) = some c0 ∧ round_walks_through c0 = some a ∧ round_opened_l3 FU c0 a = some c ∧ Fin5 hs.length c := by
  obtain ⟨c0, a, c, h1, h2, h3, h4, _⟩ := walks_gen h (Q := fun _ => True) (fun _ _ _ _ _ => trivial) (fun _ _ => trivial)
  exact ⟨c0, a, c, h1, h2, h3, h4⟩
end
end Go.Proofs.Ytfmapnhfamoecaa.Rd
namespace Go.Proofs.Ytfmapnhfamoecaa.Rd
open Go.PL
theorem lessI_eq (x y : Int) : cmp_Less_int x y = some (decide (x < y)) := by
  unfold cmp_Less_int cmp_isNaN_int
  simp
theorem getA {a : List Int} {x : Int} {tl : List Int} : (a ++ x :: tl).getD a.length 0 = x := by
  rw [List.getD_eq_getElem?_getD, List.getElem?_append_right (Nat.le_refl _), Nat.sub_self]; rfl
theorem setA {a : List Int} {x y : Int} {tl : List Int} : (a ++ x :: tl).set a.length y = a ++ y :: tl := by
  rw [List.set_append_right (h := Nat.le_refl _), Nat.sub_self, List.set_cons_zero]
theorem ins_l2 {x : Int} {tl : List Int} : ∀ (n fu : Nat) (A B : List Int), A.length = n → n < fu → n + B.length + tl.length ≤ 100000 → (A ++ B).Pairwise (· ≤ ·) → (∀ b ∈ B, x ≤ b) → ∃ R, slices_insertionSortOrdered_int_l2 0 fu (A ++ x :: (B ++ tl)) (n : Int) = some (R ++ tl) ∧ R.Perm (A ++ x :: B) ∧ R.Pairwise (· ≤ ·)
  | _, 0, _, _, _, h, _, _, _ => absurd h (Nat.not_lt_zero _)
  | 0, fu + 1, A, B, hA, _, _, hs, hB => by
    have : A = [] := List.eq_nil_of_length_eq_zero hA
    subst this
    refine ⟨x :: B, ?_, .refl _, List.pairwise_cons.2 ⟨hB, hs⟩⟩
    unfold slices_insertionSortOrdered_int_l2
    rw [if_neg (by omega), b1_some, if_neg (by decide)]; rfl
  | n + 1, fu + 1, A, B, hA, hf, hl, hs, hB => by
    have hne : A ≠ [] := fun h => by rw [h] at hA; simp at hA
    obtain ⟨A0, y, rfl⟩ : ∃ A0 y, A = A0 ++ [y] := ⟨A.dropLast, A.getLast hne, (List.dropLast_concat_getLast hne).symm⟩
    have hA0 : A0.length = n := by simpa using hA
    have e1 : A0 ++ [y] ++ x :: (B ++ tl) = A0 ++ y :: x :: (B ++ tl) := by simp
    have g1 : (A0 ++ [y] ++ x :: (B ++ tl)).getD (n + 1) 0 = x := by
      have := getA (a := A0 ++ [y]) (x := x) (tl := B ++ tl)
      rw [List.length_append, List.length_singleton, hA0] at this
      exact this
    have g2 : (A0 ++ [y] ++ x :: (B ++ tl)).getD n 0 = y := by
      rw [e1, ← hA0]; exact getA
    have hlen : (A0 ++ [y] ++ x :: (B ++ tl)).length = n + 1 + 1 + B.length + tl.length := by simp [hA0]; omega
    have s1 : (A0 ++ [y] ++ x :: (B ++ tl)).set (n + 1) y = A0 ++ y :: y :: (B ++ tl) := by
      have := setA (a := A0 ++ [y]) (x := x) (y := y) (tl := B ++ tl)
      rw [List.length_append, List.length_singleton, hA0] at this
      rw [this]; simp
    have s2 : (A0 ++ y :: y :: (B ++ tl)).set n x = A0 ++ x :: ((y :: B) ++ tl) := by
      rw [← hA0]; exact setA
    have hs1 := List.pairwise_append.1 hs
    have hs2 := List.pairwise_append.1 hs1.1
    unfold slices_insertionSortOrdered_int_l2
    rw [if_pos (by omega), ixI _ (by omega), g1, gd_t (r64_small (by omega)), show ((n + 1 : Nat) : Int) - 1 = (n : Int) by omega, ixI _ (by omega), g2, lessI_eq, b1_some, b1_some]
    by_cases hc : x < y
    · have hs' : (A0 ++ (y :: B)).Pairwise (· ≤ ·) := by
        have : A0 ++ (y :: B) = A0 ++ [y] ++ B := by simp
        rw [this]; exact hs
      obtain ⟨R, r1, r2, r3⟩ := ins_l2 (x := x) (tl := tl) n fu A0 (y :: B) hA0 (by omega) (by rw [List.length_cons]; omega) hs' (fun b hb => by
        rcases List.mem_cons.1 hb with rfl | hb
        · omega
        · exact hB b hb)
      refine ⟨R, ?_, r2.trans ?_, r3⟩
      · rw [if_pos (decide_eq_true hc), gd_t (r64_small (by omega)), gd_t (r64_small (by omega)), ixI _ (by omega), g2, ixI _ (by omega), g1, bvE, Int.toNat_natCast, s1, ixI _ (by simp [hA0]), bvE, Int.toNat_natCast, s2, gd_t (r64_small (by omega)), r1]
      · rw [List.append_assoc]
        exact (List.Perm.swap y x B).append_left A0
    · refine ⟨A0 ++ [y] ++ x :: B, ?_, .refl _, ?_⟩
      · rw [if_neg (by rw [decide_eq_true_iff]; exact hc)]
        simp
      · refine List.pairwise_append.2 ⟨hs1.1, List.pairwise_cons.2 ⟨hB, hs1.2.1⟩, fun a ha b hb => ?_⟩
        rcases List.mem_cons.1 hb with rfl | hb
        · have : a ≤ y := by
            rcases List.mem_append.1 ha with h | h
            · exact hs2.2.2 a h y (List.mem_singleton.2 rfl)
            · rw [List.mem_singleton] at h; omega
          omega
        · exact hs1.2.2 a ha b hb
theorem ins_l1 : ∀ (tl P : List Int), P.length + tl.length ≤ 10000 → P.Pairwise (· ≤ ·) → ∃ R, slices_insertionSortOrdered_int_l1 0 tl.length (P.length : Int) (P ++ tl) = some R ∧ R.Perm (P ++ tl) ∧ R.Pairwise (· ≤ ·)
  | [], P, _, hs => ⟨P, by rw [List.append_nil]; rfl, by rw [List.append_nil], hs⟩
  | x :: tl, P, hl, hs => by
    rw [List.length_cons] at hl
    obtain ⟨R, r1, r2, r3⟩ := ins_l2 (x := x) (tl := tl) P.length FU P [] rfl (by unfold FU; omega) (by simp; omega) (by rw [List.append_nil]; exact hs) (fun _ h => nomatch h)
    rw [List.nil_append] at r1
    have hRl : R.length = P.length + 1 := by rw [r2.length_eq]; simp
    obtain ⟨S, q1, q2, q3⟩ := ins_l1 tl R (by omega) r3
    refine ⟨S, ?_, q2.trans ?_, q3⟩
    · rw [List.length_cons]; unfold slices_insertionSortOrdered_int_l1
      rw [r1, b1_some, show (P.length : Int) + 1 = (R.length : Int) by omega]
      exact q1
    · have := r2.append_right tl
      rw [List.append_assoc] at this
      exact this
theorem ins_eq {s : List Int} (hl : s.length ≤ 10000) : ∃ R, slices_insertionSortOrdered_int s 0 (s.length : Int) = some R ∧ R.Perm s ∧ R.Pairwise (· ≤ ·) := by
  unfold slices_insertionSortOrdered_int
  rw [gd_t (r64_small (by omega)), gd_t ⟨r64_small (by omega), r64_small (by omega)⟩]
  match s, hl with
  | [], _ => exact ⟨[], rfl, .refl _, List.Pairwise.nil⟩
  | x :: tl, hl =>
    rw [List.length_cons] at hl
    obtain ⟨R, r1, r2, r3⟩ := ins_l1 tl [x] (by simp; omega) (by simp)
    refine ⟨R, ?_, r2, r3⟩
    rw [show Int.toNat (((x :: tl).length : Int) - (0 + 1)) = tl.length by rw [List.length_cons]; omega]
    exact r1
theorem pdq_eq {s : List Int} (hl : s.length ≤ 12) (fu : Nat) (limit : Int) : ∃ R, slices_pdqsortOrdered_int (fu + 1) s 0 (s.length : Int) limit = some R ∧ R.Perm s ∧ R.Pairwise (· ≤ ·) := by
  obtain ⟨R, r1, r2, r3⟩ := ins_eq (s := s) (by omega)
  refine ⟨R, ?_, r2, r3⟩
  unfold slices_pdqsortOrdered_int slices_pdqsortOrdered_intB
  show slices_pdqsortOrdered_intB_l1 s 0 (s.length : Int) (18446744073709551615 + 1) = some R
  unfold slices_pdqsortOrdered_intB_l1
  rw [gd_t (r64_small (by omega)), gd_t (by omega), r1, b1_some]
theorem bits_all : ((List.range 256).all fun k : Nat => (math_bits_Len ((k : Int) % 18446744073709551616)).isSome) = true := by decide +kernel
theorem bits_ok {k : Nat} (h : k < 256) : ∃ n, math_bits_Len ((k : Int) % 18446744073709551616) = some n := by
  have := (List.all_eq_true.1 bits_all) k (List.mem_range.2 h)
  exact Option.isSome_iff_exists.1 this
theorem sort_eq {s : List Int} (hl : s.length ≤ 12) : ∃ R, slices_Sort_int_int s = some R ∧ R.Perm s ∧ R.Pairwise (· ≤ ·) := by
  obtain ⟨n, hn⟩ := bits_ok (k := s.length) (by omega)
  obtain ⟨R, h1, h2⟩ := pdq_eq hl 18446744073709551615 n
  refine ⟨R, ?_, h2⟩
  have h1' : slices_pdqsortOrdered_int FU s 0 (s.length : Int) n = some R := h1
  unfold slices_Sort_int_int
  rw [hn, b1_some, h1', b1_some]
theorem values_eq : ∀ l : List Int, slices_Values_int_int l = some l := fun l => by
  have key : ∀ l : List Int, slices_Values_int_int_1_l1 l = some l := fun l => by
    induction l with
    | nil => rfl
    | cons x l ih => unfold slices_Values_int_int_1_l1; rw [ih]; rfl
  unfold slices_Values_int_int slices_Values_int_int_1
  rw [key, b1_some]
theorem appSeq_l1 : ∀ (l acc : List Int), acc.length + l.length ≤ 100000 → slices_AppendSeq_int_int_l1 l acc = some (acc ++ l)
  | [], acc, _ => by simp [slices_AppendSeq_int_int_l1]
  | x :: l, acc, h => by
    rw [List.length_cons] at h
    unfold slices_AppendSeq_int_int_l1
    rw [ap_t (by simp; omega), appSeq_l1 l (acc ++ [x]) (by simp; omega)]
    simp
theorem sortedS_eq {s : List Int} (hl : s.length ≤ 12) : ∃ R, (b1 (slices_Values_int_int s) fun y => slices_Sorted_int y) = some R ∧ R.Perm s ∧ R.Pairwise (· ≤ ·) := by
  obtain ⟨R, h1, h2⟩ := sort_eq hl
  refine ⟨R, ?_, h2⟩
  unfold slices_Sorted_int slices_Collect_int slices_AppendSeq_int_int
  rw [values_eq, b1_some, appSeq_l1 s [] (by simp; omega), b1_some, b1_some, List.nil_append, b1_some, h1, b1_some]
end Go.Proofs.Ytfmapnhfamoecaa.Rd
namespace Go.Proofs.Ytfmapnhfamoecaa.Rd
open Go.PL
theorem band_nat {x y : Nat} (hx : x < 9223372036854775808) (hy : y < 9223372036854775808) : band (x : Int) (y : Int) = ((x &&& y : Nat) : Int) := by
  have ho : x &&& y ≤ x := Nat.and_le_left
  unfold band
  rw [BitVec.ofInt_natCast, BitVec.ofInt_natCast]
  have e : (BitVec.ofNat 64 x &&& BitVec.ofNat 64 y).toNat = x &&& y := by
    rw [BitVec.toNat_and, BitVec.toNat_ofNat, BitVec.toNat_ofNat, Nat.mod_eq_of_lt (by omega), Nat.mod_eq_of_lt (by omega)]
  rw [BitVec.toInt_eq_toNat_of_lt (by rw [e]; omega), e]
theorem bor_nat {x y : Nat} (hx : x < 9223372036854775808) (hy : y < 9223372036854775808) : bor (x : Int) (y : Int) = ((x ||| y : Nat) : Int) := by
  have ho : x ||| y < 2 ^ 63 := Nat.or_lt_two_pow hx hy
  unfold bor
  rw [BitVec.ofInt_natCast, BitVec.ofInt_natCast]
  have e : (BitVec.ofNat 64 x ||| BitVec.ofNat 64 y).toNat = x ||| y := by
    rw [BitVec.toNat_or, BitVec.toNat_ofNat, BitVec.toNat_ofNat, Nat.mod_eq_of_lt (by omega), Nat.mod_eq_of_lt (by omega)]
  rw [BitVec.toInt_eq_toNat_of_lt (by rw [e]; omega), e]
def dif (x y : Nat) : Nat := x ^^^ (x &&& y)
theorem bit_dif (x y i : Nat) : (dif x y).testBit i = (x.testBit i && !y.testBit i) := by
  unfold dif
  rw [Nat.testBit_xor, Nat.testBit_and]
  cases x.testBit i <;> cases y.testBit i <;> rfl
theorem dif_lt {x y n : Nat} (h : x < 2 ^ n) : dif x y < 2 ^ n := Nat.xor_lt_two_pow h (Nat.lt_of_le_of_lt Nat.and_le_left h)
theorem bandn_nat {x y : Nat} (hx : x < 9223372036854775808) (_hy : y < 9223372036854775808) : bandn (x : Int) (y : Int) = (dif x y : Int) := by
  have ho : dif x y < 2 ^ 63 := dif_lt hx
  unfold bandn
  rw [BitVec.ofInt_natCast, BitVec.ofInt_natCast]
  have e0 : (BitVec.ofNat 64 x &&& ~~~ BitVec.ofNat 64 y) = BitVec.ofNat 64 (dif x y) := by
    apply BitVec.eq_of_getLsbD_eq
    intro i hi
    rw [BitVec.getLsbD_and, BitVec.getLsbD_not, BitVec.getLsbD_ofNat, BitVec.getLsbD_ofNat, BitVec.getLsbD_ofNat, bit_dif]
    simp [hi]
  have e : (BitVec.ofNat 64 (dif x y)).toNat = dif x y := by rw [BitVec.toNat_ofNat, Nat.mod_eq_of_lt (by omega)]
  rw [e0, BitVec.toInt_eq_toNat_of_lt (by rw [e]; omega), e]
theorem shl_nat (k : Nat) : shl 1 (k : Int) = ((2 ^ k : Nat) : Int) := by
  unfold shl
  rw [Int.one_mul, Int.toNat_natCast]; simp
theorem shl_r {k : Nat} (h : k < 60) : (0 ≤ (k : Int) ∧ (k : Int) < 64) ∧ R64 (shl 1 (k : Int)) := by
  have h1 : 2 ^ k < 2 ^ 60 := Nat.pow_lt_pow_right (by decide) h
  have h2 : (0 : Nat) < 2 ^ k := Nat.pow_pos (by decide)
  rw [shl_nat]
  unfold R64
  omega
def Hit (hit : List Int) (Q : Nat → Nat → Nat → Bool) : Prop := hit.length = 15 ∧ ∀ s n, s < 5 → n < 3 → ∃ v : Nat, hit.getD (s * 3 + n) 0 = (v : Int) ∧ v < 512 ∧ ∀ p, v.testBit p = Q s n p
theorem Hit.congr {hit : List Int} {Q Q' : Nat → Nat → Nat → Bool} (h : Hit hit Q) (he : ∀ s n p, s < 5 → n < 3 → Q s n p = Q' s n p) : Hit hit Q' :=
  ⟨h.1, fun s n hs hn => by
    obtain ⟨v, h1, h2, h3⟩ := h.2 s n hs hn
    exact ⟨v, h1, h2, fun p => by rw [h3, he s n p hs hn]⟩⟩
theorem Hit.zero : Hit (List.replicate 15 0) fun _ _ _ => false := ⟨by simp, fun s n hs hn => ⟨0, by
  rw [List.getD_eq_getElem?_getD, List.getElem?_replicate, if_pos (by omega)]; rfl, by decide, fun p => by simp⟩⟩
theorem hit_l6 {hears : List (List Int)} (h5 : hears.length ≤ 5) {k4 : Nat} (hk : k4 < 3) {ps : List (Int × Int)} (hp : ps.length < 9) {x6 : Int} : ∀ (tl : List (List Int)) (j : Nat) (hit : List Int) (Q : Nat → Nat → Nat → Bool), hears.drop j = tl → Hit hit Q →
    ∃ hit', round_opened_l6 (k4 : Int) ps x6 tl (j : Int) hit = some hit' ∧ Hit hit' fun s n p => Q s n p || (decide (j ≤ s) && decide (s < hears.length) && decide (n = k4) && decide (p = ps.length) && decide (x6 ∈ hears.getD s []))
  | [], j, hit, Q, hd, h => ⟨hit, rfl, h.congr fun s n p hs hn => by
      have hl : hears.length ≤ j := by
        have := congrArg List.length hd
        rw [List.length_drop, List.length_nil] at this; omega
      by_cases c : j ≤ s
      · rw [decide_eq_false (show ¬ s < hears.length by omega)]; simp
      · rw [decide_eq_false c]; simp⟩
  | x7 :: tl, j, hit, Q, hd, h => by
    obtain ⟨hj, hx, hd2⟩ := drop_cons [] hd
    unfold round_opened_l6
    rw [contains_eq, b1_some]
    by_cases c : x6 ∈ x7
    · rw [if_pos (decide_eq_true c)]
      obtain ⟨v, e1, e2, e3⟩ := h.2 j k4 (by omega) hk
      have ei : (j : Int) * 3 + (k4 : Int) = ((j * 3 + k4 : Nat) : Int) := by omega
      have hl := h.1
      have hpow : (2 : Nat) ^ ps.length ≤ 2 ^ 8 := Nat.pow_le_pow_right (by decide) (by omega)
      have hpow' : (2 : Nat) ^ 8 = 256 := by decide
      rw [gd_t (by omega), gd_t (by omega), ei, ixN 0 _ (by omega), gd_t (shl_r (by omega)), gd_t (by omega), gd_t (by omega), bvE, Int.toNat_natCast, e1, shl_nat, bor_nat (by omega) (by omega)]
      have hH : Hit (hit.set (j * 3 + k4) ((v ||| 2 ^ ps.length : Nat) : Int)) fun s n p => Q s n p || (decide (s = j) && decide (n = k4) && decide (p = ps.length)) := by
        refine ⟨by rw [List.length_set]; exact hl, fun s n hs hn => ?_⟩
        rw [getD_setI (by omega)]
        by_cases d : j * 3 + k4 = s * 3 + n
        · obtain ⟨rfl, rfl⟩ : s = j ∧ n = k4 := by omega
          rw [if_pos rfl]
          refine ⟨_, rfl, ?_, fun p => ?_⟩
          · have : v ||| 2 ^ ps.length < 2 ^ 9 := Nat.or_lt_two_pow (by omega) (by omega)
            omega
          · rw [Nat.testBit_or, e3, Nat.testBit_two_pow]
            simp [eq_comm]
        · rw [if_neg d]
          obtain ⟨u, f1, f2, f3⟩ := h.2 s n hs hn
          refine ⟨u, f1, f2, fun p => ?_⟩
          rw [f3]
          by_cases c1 : s = j
          · have : n ≠ k4 := fun c2 => d (by rw [c1, c2])
            show Q s n p = (Q s n p || (decide (s = j) && decide (n = k4) && decide (p = ps.length)))
            rw [decide_eq_false this]; simp
          · show Q s n p = (Q s n p || (decide (s = j) && decide (n = k4) && decide (p = ps.length)))
            rw [decide_eq_false c1]; simp
      obtain ⟨hit', g1, g2⟩ := hit_l6 h5 hk hp tl (j + 1) _ _ hd2 hH
      refine ⟨hit', g1, g2.congr fun s n p hs hn => ?_⟩
      by_cases c1 : s = j
      · subst c1
        rw [hx, decide_eq_true c, decide_eq_true hj, decide_eq_false (show ¬ s + 1 ≤ s by omega)]
        simp
      · have e4 : decide (j ≤ s) = decide (j + 1 ≤ s) := decide_eq_decide.2 (by omega)
        rw [decide_eq_false c1, e4]; simp
    · rw [if_neg (by simpa using c)]
      obtain ⟨hit', g1, g2⟩ := hit_l6 h5 hk hp tl (j + 1) _ _ hd2 h
      refine ⟨hit', g1, g2.congr fun s n p hs hn => ?_⟩
      by_cases c1 : s = j
      · subst c1
        rw [hx, decide_eq_false c, decide_eq_false (show ¬ s + 1 ≤ s by omega)]
        simp
      · have e4 : decide (j ≤ s) = decide (j + 1 ≤ s) := decide_eq_decide.2 (by omega)
        rw [e4]
def QP (hs : List (List Int)) (ps : List (Int × Int)) (s n p : Nat) : Bool := decide (p < ps.length) && decide ((ps.getD p (0, 0)).1 = (n : Int)) && decide (s < hs.length) && decide ((ps.getD p (0, 0)).2 ∈ hs.getD s [])
theorem QP_snoc {hs : List (List Int)} {ps : List (Int × Int)} {k4 : Nat} {x : Int} (s n p : Nat) : QP hs (ps ++ [((k4 : Int), x)]) s n p = (QP hs ps s n p || (decide (s < hs.length) && decide (n = k4) && decide (p = ps.length) && decide (x ∈ hs.getD s []))) := by
  unfold QP
  rw [getD_snoc, List.length_append, List.length_singleton]
  by_cases c : p < ps.length
  · rw [if_pos c, decide_eq_true c, decide_eq_true (show p < ps.length + 1 by omega), decide_eq_false (show ¬ p = ps.length by omega)]; simp
  · rw [if_neg c, decide_eq_false c]
    by_cases c2 : p = ps.length
    · subst c2
      have e : decide ((k4 : Int) = (n : Int)) = decide (n = k4) := decide_eq_decide.2 (by omega)
      rw [if_pos rfl, decide_eq_true (show ps.length < ps.length + 1 by omega), e]
      cases decide (s < hs.length) <;> cases decide (n = k4) <;> simp
    · rw [decide_eq_false (show ¬ p < ps.length + 1 by omega), decide_eq_false c2]; simp
theorem hit_l5 {hears : List (List Int)} (h5 : hears.length ≤ 5) {k4 : Nat} (hk : k4 < 3) : ∀ (tl : List Int) (ps : List (Int × Int)) (hit : List Int), ps.length + tl.length ≤ 9 → Hit hit (QP hears ps) →
    ∃ hit', round_opened_l5 hears (k4 : Int) tl ps hit = some (ps ++ tl.map fun x => ((k4 : Int), x), hit') ∧ Hit hit' (QP hears (ps ++ tl.map fun x => ((k4 : Int), x)))
  | [], ps, hit, _, h => ⟨hit, by unfold round_opened_l5; simp, by simpa using h⟩
  | x :: tl, ps, hit, hl, h => by
    rw [List.length_cons] at hl
    unfold round_opened_l5
    obtain ⟨hit1, e1, h1⟩ := hit_l6 h5 hk (ps := ps) (x6 := x) (by omega) hears 0 hit _ rfl h
    have e1' : round_opened_l6 (k4 : Int) ps x hears 0 hit = some hit1 := e1
    have h2 : Hit hit1 (QP hears (ps ++ [((k4 : Int), x)])) := h1.congr fun s n p hs hn => by
      rw [QP_snoc, decide_eq_true (Nat.zero_le s), Bool.true_and]
    obtain ⟨hit', e2, h3⟩ := hit_l5 h5 hk tl (ps ++ [((k4 : Int), x)]) hit1 (by simp; omega) h2
    rw [e1', b1_some, ap_t (by simp; omega), b2_some, e2]
    simp only [List.append_assoc, List.singleton_append] at h3 ⊢
    exact ⟨hit', rfl, h3⟩
end Go.Proofs.Ytfmapnhfamoecaa.Rd
namespace Go.Proofs.Ytfmapnhfamoecaa.Rd
open Go.PL
structure PrsOK (ns : List (List Int × Int × Int)) (j : Nat) (ps : List (Int × Int)) : Prop where
  len : ps.length = total (ns.take j)
  nodup : ps.Nodup
  mem : ∀ q : Int × Int, q ∈ ps ↔ (0 ≤ q.1 ∧ q.1 < (j : Int)) ∧ q.2 ∈ (ns.getD q.1.toNat ([], 0, 0)).1
theorem total_app (a b : List (List Int × Int × Int)) : total (a ++ b) = total a + total b := by unfold total; simp
theorem total_take (ns : List (List Int × Int × Int)) (j : Nat) : total (ns.take j) ≤ total ns := by
  have := total_app (ns.take j) (ns.drop j)
  rw [List.take_append_drop] at this; omega
section
variable {ws hs : List (List Int)} {H st : Int} {ns : List (List Int × Int × Int)}
theorem open_l4 (h : BtOK ws hs H st ns) : ∀ (tl : List (List Int × Int × Int)) (j : Nat) (ps : List (Int × Int)) (hit : List Int), ns.drop j = tl → PrsOK ns j ps → j ≤ ns.length → Hit hit (QP hs ps) →
    ∃ ps' hit', round_opened_l4 hs tl (j : Int) ps hit = some (ps', hit') ∧ PrsOK ns ns.length ps' ∧ Hit hit' (QP hs ps')
  | [], j, ps, hit, hd, hp, hj, hh => by
    have : ns.length = j := by
      have := congrArg List.length hd
      rw [List.length_drop, List.length_nil] at this; omega
    exact ⟨ps, hit, rfl, by rw [this]; exact hp, hh⟩
  | x :: tl, j, ps, hit, hd, hp, _, hh => by
    obtain ⟨hj, hx, hd2⟩ := drop_cons ([], 0, 0) hd
    have hn := h.hn
    have htot := h.tot
    have hx' := h.note x (by rw [← hx]; exact getD_mem hj)
    have e0 : ns.take (j + 1) = ns.take j ++ [x] := by rw [List.take_add_one, getD_of (d := ([], 0, 0)) hj, hx]; rfl
    have e1 : total (ns.take (j + 1)) = total (ns.take j) + x.1.length := by rw [e0, total_snoc]
    have e2 := total_take ns (j + 1)
    have hpl := hp.len
    obtain ⟨R, r1, r2, _⟩ := sortedS_eq (s := x.1) (by omega)
    rw [values_eq, b1_some] at r1
    have hRl : R.length = x.1.length := r2.length_eq
    obtain ⟨hit', g1, g2⟩ := hit_l5 h.hs1.2 (k4 := j) (by omega) R ps hit (by omega) hh
    unfold round_opened_l4
    rw [values_eq, b1_some, r1, b1_some, g1, b2_some]
    refine open_l4 h tl (j + 1) _ hit' hd2 ⟨?_, ?_, fun q => ?_⟩ hj g2
    · rw [List.length_append, List.length_map, hRl, e1, hpl]
    · rw [List.nodup_append]
      refine ⟨hp.nodup, ?_, fun a ha b hb he => ?_⟩
      · refine List.Pairwise.map _ (fun a b hab he => hab (Prod.mk.inj he).2) (r2.symm.nodup hx'.1.2.1)
      · obtain ⟨y, _, rfl⟩ := List.mem_map.1 hb
        have := ((hp.mem a).1 ha).1
        rw [he] at this
        exact absurd this.2 (by show ¬ (j : Int) < (j : Int); omega)
    · rw [List.mem_append, hp.mem, List.mem_map]
      constructor
      · rintro (⟨h1, h2⟩ | ⟨y, h1, rfl⟩)
        · exact ⟨⟨h1.1, by omega⟩, h2⟩
        · refine ⟨⟨by show 0 ≤ (j : Int); omega, by show (j : Int) < ((j + 1 : Nat) : Int); omega⟩, ?_⟩
          show y ∈ (ns.getD (j : Int).toNat ([], 0, 0)).1
          rw [Int.toNat_natCast, hx]; exact r2.subset h1
      · rintro ⟨h1, h2⟩
        by_cases c : q.1 < (j : Int)
        · exact .inl ⟨⟨h1.1, c⟩, h2⟩
        · have e : q.1 = (j : Int) := by omega
          rw [e, Int.toNat_natCast, hx] at h2
          exact .inr ⟨q.2, r2.symm.subset h2, by rw [← e]⟩
structure CrOK (hs : List (List Int)) (ns : List (List Int × Int × Int)) (c : List Int) (ps : List (Int × Int)) (hit : List Int) : Prop where
  fin : Fin5 hs.length c
  prs : PrsOK ns ns.length ps
  hit : Hit hit (QP hs ps)
theorem opened_eq (h : BtOK ws hs H st ns) : ∃ c ps hit, round_opened ws hs H st ns = some (some (ws, hs, H, st, ns, c, ps, hit), 0) ∧ CrOK hs ns c ps hit := by
  obtain ⟨c0, a, c, e1, e2, e3, hc⟩ := walks_ok h
  have h0 : PrsOK ns 0 [] := ⟨rfl, List.nodup_nil, fun q => ⟨fun hq => (nomatch hq), fun hq => absurd hq.1 (by omega)⟩⟩
  have hz : Hit (List.replicate 15 0) (QP hs []) := Hit.zero.congr fun s n p _ _ => by unfold QP; simp
  obtain ⟨ps, hit, e4, hp, hh⟩ := open_l4 h ns 0 [] (List.replicate 15 0) rfl h0 (Nat.zero_le _) hz
  have e4' : round_opened_l4 hs ns 0 [] (List.replicate 15 0) = some (ps, hit) := e4
  refine ⟨c, ps, hit, ?_, hc, hp, hh⟩
  unfold round_opened
  rw [Check_eq h, b1_some, if_neg (by decide), gd_t ⟨r64_small (by omega), r64_small (by omega)⟩, e1, b1_some, e2, b1_some, e3, b1_some, e4', b2_some]
end
end Go.Proofs.Ytfmapnhfamoecaa.Rd
namespace Go.Proofs.Ytfmapnhfamoecaa.Rd
open Go.PL
def hb (hit : List Int) (s n : Nat) : Nat := (hit.getD (s * 3 + n) 0).toNat
theorem Hit.hb {hit : List Int} {Q : Nat → Nat → Nat → Bool} (h : Hit hit Q) {s n : Nat} (hs : s < 5) (hn : n < 3) : hit.getD (s * 3 + n) 0 = (hb hit s n : Int) ∧ hb hit s n < 512 ∧ ∀ p, (hb hit s n).testBit p = Q s n p := by
  obtain ⟨v, h1, h2, h3⟩ := h.2 s n hs hn
  unfold Rd.hb
  rw [h1, Int.toNat_natCast]
  exact ⟨rfl, h2, h3⟩
def srvA (hit : List Int) (v s : Nat) : Nat → Nat → List ((Int × Int) × Int)
  | 0, _ => []
  | fu + 1, n => if dif v (hb hit s n) = v then srvA hit v s fu (n + 1) else (((s : Int), (n : Int)), (dif v (hb hit s n) : Int)) :: srvA hit v s fu (n + 1)
def srvB (hit : List Int) (v N : Nat) : Nat → Nat → List ((Int × Int) × Int)
  | 0, _ => []
  | fu + 1, s => srvA hit v s N 0 ++ srvB hit v N fu (s + 1)
theorem mem_srvA {hit : List Int} {v s : Nat} {x : (Int × Int) × Int} : ∀ (fu n : Nat), x ∈ srvA hit v s fu n ↔ ∃ m : Nat, n ≤ m ∧ m < n + fu ∧ dif v (hb hit s m) ≠ v ∧ x = (((s : Int), (m : Int)), (dif v (hb hit s m) : Int))
  | 0, n => ⟨fun h => (nomatch h), fun ⟨m, h1, h2, _⟩ => by omega⟩
  | fu + 1, n => by
    unfold srvA
    have ih := mem_srvA (hit := hit) (v := v) (s := s) (x := x) fu (n + 1)
    by_cases c : dif v (hb hit s n) = v
    · rw [if_pos c, ih]
      constructor
      · rintro ⟨m, h1, h2, h3⟩; exact ⟨m, by omega, by omega, h3⟩
      · rintro ⟨m, h1, h2, h3, h4⟩
        by_cases e : m = n
        · rw [e] at h3; exact absurd c h3
        · exact ⟨m, by omega, by omega, h3, h4⟩
    · rw [if_neg c, List.mem_cons, ih]
      constructor
      · rintro (h | ⟨m, h1, h2, h3⟩)
        · exact ⟨n, Nat.le_refl _, by omega, c, h⟩
        · exact ⟨m, by omega, by omega, h3⟩
      · rintro ⟨m, h1, h2, h3, h4⟩
        by_cases e : m = n
        · left; rw [h4, e]
        · right; exact ⟨m, by omega, by omega, h3, h4⟩
theorem mem_srvB {hit : List Int} {v N : Nat} {x : (Int × Int) × Int} : ∀ (fu s : Nat), x ∈ srvB hit v N fu s ↔ ∃ r m : Nat, s ≤ r ∧ r < s + fu ∧ m < N ∧ dif v (hb hit r m) ≠ v ∧ x = (((r : Int), (m : Int)), (dif v (hb hit r m) : Int))
  | 0, s => ⟨fun h => (nomatch h), fun ⟨r, m, h1, h2, _⟩ => by omega⟩
  | fu + 1, s => by
    unfold srvB
    rw [List.mem_append, mem_srvA, mem_srvB fu (s + 1)]
    constructor
    · rintro (⟨m, h1, h2, h3⟩ | ⟨r, m, h1, h2, h3⟩)
      · exact ⟨s, m, Nat.le_refl _, by omega, by omega, h3⟩
      · exact ⟨r, m, by omega, by omega, h3⟩
    · rintro ⟨r, m, h1, h2, h3, h4⟩
      by_cases e : r = s
      · subst e; exact .inl ⟨m, Nat.zero_le _, by omega, h4⟩
      · exact .inr ⟨r, m, by omega, by omega, h3, h4⟩
section
variable {ws hs : List (List Int)} {H st : Int} {ns : List (List Int × Int × Int)} {c : List Int} {ps : List (Int × Int)} {hit : List Int}
theorem served_l3 {Q : Nat → Nat → Nat → Bool} (hh : Hit hit Q) (hn : ns.length ≤ 3) {v : Nat} (hv : v < 512) {s : Nat} (hs5 : s < 5) {rec1 : Int → Option (List ((Int × Int) × Int))} {R : List ((Int × Int) × Int)} (hr : rec1 ((s : Int) + 1) = some R) : ∀ (tl : List (List Int × Int × Int)) (n : Nat), ns.drop n = tl →
    round_crier_served_1_l3 hit (v : Int) (s : Int) rec1 tl (n : Int) = some (srvA hit v s tl.length n ++ R)
  | [], n, _ => by
    unfold round_crier_served_1_l3 round_crier_served_1_j2
    rw [hr]; rfl
  | x :: tl, n, hd => by
    obtain ⟨hj, hx, hd2⟩ := drop_cons ([], 0, 0) hd
    have ih := served_l3 hh hn hv hs5 hr tl (n + 1) hd2
    obtain ⟨b1, b2, _⟩ := hh.hb hs5 (n := n) (by omega)
    have hl := hh.1
    unfold round_crier_served_1_l3
    rw [gd_t (by omega), gd_t (by omega), show (s : Int) * 3 + (n : Int) = ((s * 3 + n : Nat) : Int) by omega, ixN 0 _ (by omega), b1, bandn_nat (by omega) (by omega), List.length_cons]
    unfold srvA
    rw [show ((n + 1 : Nat) : Int) = (n : Int) + 1 from rfl] at ih
    by_cases e : dif v (hb hit s n) = v
    · rw [if_neg (not_not_intro (by rw [e])), if_pos e]; exact ih
    · rw [if_pos (fun e2 => e (by omega)), if_neg e, ih]; rfl
theorem served_l1 {Q : Nat → Nat → Nat → Bool} (hh : Hit hit Q) (h5 : hs.length ≤ 5) (hn : ns.length ≤ 3) {v : Nat} (hv : v < 512) : ∀ (tl : List (List Int)) (s : Nat), hs.drop s = tl →
    round_crier_served_1_l1 ns hit (v : Int) tl (s : Int) = some (srvB hit v ns.length tl.length s)
  | [], s, _ => rfl
  | x :: tl, s, hd => by
    obtain ⟨hj, hx, hd2⟩ := drop_cons [] hd
    have ih := served_l1 hh h5 hn hv tl (s + 1) hd2
    unfold round_crier_served_1_l1
    have e := served_l3 hh hn hv (s := s) (by omega) (rec1 := round_crier_served_1_l1 ns hit (v : Int) tl) ih ns 0 rfl
    rw [List.length_cons]
    exact e
theorem served_eq (h : BtOK ws hs H st ns) (hc : CrOK hs ns c ps hit) {v : Nat} (hv : v < 512) : round_crier_served ws hs H st ns c ps hit (v : Int) = some (srvB hit v ns.length hs.length 0) := by
  unfold round_crier_served round_crier_served_1
  have e : round_crier_served_1_l1 ns hit (v : Int) hs 0 = _ := served_l1 hc.hit h.hs1.2 h.hn hv hs 0 rfl
  rw [e, b1_some]
end
end Go.Proofs.Ytfmapnhfamoecaa.Rd
