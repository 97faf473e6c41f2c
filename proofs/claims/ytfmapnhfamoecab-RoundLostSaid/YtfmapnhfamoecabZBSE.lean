/- The table of the quickest walks; in plain Lean. -/
import Derived.Test.YtfmapnhfamoecabZBSD
namespace Go.Proofs.Ytfmapnhfamoecab.Rd
open Go.PL
def sm (F : Int → Nat) (w : List Int) : Nat := (w.map F).sum
theorem sm_le {F : Int → Nat} : ∀ (w w' : List Int), w'.length = w.length → (∀ q, q < w.length → F (w'.getD q 0) ≤ F (w.getD q 0)) → sm F w' ≤ sm F w
  | [], [], _, _ => Nat.le_refl _
  | [], _ :: _, h, _ => by simp at h
  | _ :: _, [], h, _ => by simp at h
  | a :: w, b :: w', h, hq => by
    have h0 := hq 0 (by simp)
    have ih := sm_le w w' (by simpa using h) fun q hq' => by
      have := hq (q + 1) (by simpa using hq')
      simpa using this
    unfold sm at *
    simp only [List.map_cons, List.sum_cons]
    have h0' : F b ≤ F a := by simpa using h0
    omega
theorem sm_lt {F : Int → Nat} : ∀ (w w' : List Int), w'.length = w.length → (∀ q, q < w.length → F (w'.getD q 0) ≤ F (w.getD q 0)) → (∃ q, q < w.length ∧ F (w'.getD q 0) < F (w.getD q 0)) → sm F w' < sm F w
  | [], _, _, _, ⟨q, hq, _⟩ => by simp at hq
  | _ :: _, [], h, _, _ => by simp at h
  | a :: w, b :: w', h, hq, ⟨q, hq1, hq2⟩ => by
    have h0 : F b ≤ F a := by simpa using hq 0 (by simp)
    have hr : ∀ q, q < w.length → F (w'.getD q 0) ≤ F (w.getD q 0) := fun q hq' => by
      have := hq (q + 1) (by simpa using hq')
      simpa using this
    have hl : w'.length = w.length := by simpa using h
    have hle := sm_le w w' hl hr
    unfold sm at *
    simp only [List.map_cons, List.sum_cons]
    cases q with
    | zero =>
      have : F b < F a := by simpa using hq2
      omega
    | succ q =>
      have := sm_lt w w' hl hr ⟨q, by simpa using hq1, by simpa using hq2⟩
      unfold sm at this
      omega
def fW (e : Int) : Nat := if e = -1 then 1000000000000 else e.toNat
def gW (e : Int) : Nat := if e = -1 then 1 else 0
theorem sm_bd {F : Int → Nat} {M : Nat} : ∀ (w : List Int), (∀ e ∈ w, F e ≤ M) → sm F w ≤ w.length * M
  | [], _ => by simp [sm]
  | a :: w, h => by
    have ih := sm_bd w fun e he => h e (by simp [he])
    have h0 := h a (by simp)
    unfold sm at *
    simp only [List.map_cons, List.sum_cons, List.length_cons, Nat.succ_mul]
    omega
/-- What walks there are between so many stands. -/
structure Shp (S : Nat) (w : List Int) : Prop where
  diag : ∀ i, i < S → i < 5 → en w i i = 0
  out : ∀ i k, i < 5 → k < 5 → ¬ (i < S ∧ k < S) → en w i k = -1
  pos : ∀ i k, i < 5 → k < 5 → i ≠ k → en w i k = -1 ∨ 1 ≤ en w i k
theorem en_div {w : List Int} {q : Nat} : en w (q / 5) (q % 5) = w.getD q 0 := by
  unfold en; congr 1; omega
theorem Shp.thr {S : Nat} {w w' : List Int} {B : Int} (h : Shp S w) (hw : TOK w B) (ht : ∀ i k, i < 5 → k < 5 → ThrP w B i k 5 (en w' i k)) : Shp S w' where
  diag := fun i h1 h2 => by
    have h3 := ht i i h2 h2
    have h4 := h.diag i h1 h2
    have h5 := h3.old (by omega)
    have h6 := h3.rng
    omega
  out := fun i k h1 h2 h3 => by
    rcases (ht i k h1 h2).from_ with h4 | ⟨j, h4, h5, h6, _⟩
    · rw [h4]; exact h.out i k h1 h2 h3
    · by_cases c : i < S
      · have : ¬ (j < S ∧ k < S) := fun c2 => h3 ⟨c, c2.2⟩
        exact absurd (h.out j k h4 h2 this) h6
      · exact absurd (h.out i j h1 h4 (fun c2 => c c2.1)) h5
  pos := fun i k h1 h2 h3 => by
    rcases (ht i k h1 h2).from_ with h4 | ⟨j, h4, h5, h6, h7⟩
    · rw [h4]; exact h.pos i k h1 h2 h3
    · have r1 := hw.2 i j h1 h4
      have r2 := hw.2 j k h4 h2
      by_cases c : i = j
      · have := h.pos j k h4 h2 (by omega)
        omega
      · have := h.pos i j h1 h4 c
        omega
/-- The table that no stand between betters. -/
structure Fin5 (S : Nat) (w : List Int) : Prop where
  len : w.length = 25
  shp : Shp S w
  rng : ∀ i k, i < 5 → k < 5 → en w i k = -1 ∨ (0 ≤ en w i k ∧ en w i k ≤ 1000000000)
  tri : ∀ i j k, i < 5 → j < 5 → k < 5 → en w i j ≠ -1 → en w j k ≠ -1 → en w i k ≠ -1 ∧ en w i k ≤ en w i j + en w j k
theorem TOK.r64 {w : List Int} {B : Int} (h : TOK w B) (hB : B ≤ 4000000000) : ∀ x ∈ w, R64 x := fun x hx => by
  obtain ⟨q, hq, rfl⟩ := List.getElem_of_mem hx
  have h1 := h.1
  have h2 := h.2 (q / 5) (q % 5) (by omega) (by omega)
  rw [en_div, List.getD_eq_getElem?_getD, List.getElem?_eq_getElem hq, Option.getD_some] at h2
  exact r64_small' (by omega)
theorem fix_ok {S : Nat} : ∀ (fu : Nat) (w w' : List Int) (B : Nat), TOK w (B : Int) → B ≤ 20 * 2 ^ (25 - sm gW w) → sm gW w ≤ 25 → Shp S w → w'.length = 25 → (∀ i k, i < 5 → k < 5 → ThrP w (B : Int) i k 5 (en w' i k)) → sm fW w < fu →
    ∃ r, round_opened_l3 fu w w' = some r ∧ Fin5 S r
  | 0, _, _, _, _, _, _, _, _, _, h => by omega
  | fu + 1, w, w', B, hw, hB, hc, hs, hl, ht, hf => by
    have hp : (2 : Nat) ^ (25 - sm gW w) ≤ 2 ^ 25 := Nat.pow_le_pow_right (by decide) (by omega)
    have hB2 : B ≤ 671088640 := by
      have : (20 : Nat) * 2 ^ 25 = 671088640 := by decide
      omega
    have hw2 : TOK w' (2 * (B : Int)) := ⟨hl, fun i k h1 h2 => (ht i k h1 h2).rng⟩
    have hwl := hw.1
    unfold round_opened_l3
    rw [gd_t (hw2.r64 (by omega)), gd_t (hw.r64 (by omega))]
    by_cases he : w' = w
    · rw [if_neg (not_not_intro he)]
      subst he
      refine ⟨w', rfl, hl, hs, fun i k h1 h2 => ?_, fun i j k h1 h2 h3 h4 h5 => (ht i k h1 h3).by_ j h2 h4 h5⟩
      have := hw.2 i k h1 h2
      omega
    · rw [if_pos he]
      have hen : ∀ q, q < 25 → ThrP w (B : Int) (q / 5) (q % 5) 5 (w'.getD q 0) := fun q hq => by
        have := ht (q / 5) (q % 5) (by omega) (by omega)
        rwa [en_div] at this
      have hq0 : ∀ q, q < 25 → w.getD q 0 = -1 ∨ (0 ≤ w.getD q 0 ∧ w.getD q 0 ≤ (B : Int)) := fun q hq => by
        have := hw.2 (q / 5) (q % 5) (by omega) (by omega)
        rwa [en_div] at this
      have hfle : ∀ q, q < w.length → fW (w'.getD q 0) ≤ fW (w.getD q 0) := fun q hq => by
        have t := hen q (by omega)
        have o := t.old; have rg := t.rng; have z := hq0 q (by omega)
        rw [en_div] at o
        unfold fW
        by_cases c : w.getD q 0 = -1
        · rw [if_pos c]; split <;> omega
        · rw [if_neg c, if_neg (o c).1]
          have := (o c).2
          omega
      have hne : ∃ q, q < w.length ∧ w'.getD q 0 ≠ w.getD q 0 := Classical.byContradiction fun hn => he (getD_ext (d := 0) (by omega) fun t ht' => Classical.byContradiction fun hne => hn ⟨t, by omega, hne⟩)
      have hflt : sm fW w' < sm fW w := by
        refine sm_lt w w' (by omega) hfle ?_
        obtain ⟨q, hq, hd⟩ := hne
        refine ⟨q, hq, ?_⟩
        have t := hen q (by omega)
        have o := t.old; have rg := t.rng; have z := hq0 q (by omega)
        rw [en_div] at o
        unfold fW
        by_cases c : w.getD q 0 = -1
        · rw [if_pos c, if_neg (by omega)]; omega
        · rw [if_neg c, if_neg (o c).1]
          have := (o c).2
          omega
      have hgle : ∀ q, q < w.length → gW (w'.getD q 0) ≤ gW (w.getD q 0) := fun q hq => by
        have o := (hen q (by omega)).old
        rw [en_div] at o
        unfold gW
        by_cases c : w.getD q 0 = -1
        · rw [if_pos c]; split <;> omega
        · rw [if_neg c, if_neg (o c).1]; exact Nat.le_refl _
      have hgle' := sm_le w w' (by omega) hgle
      have key : ∃ B' : Nat, TOK w' (B' : Int) ∧ B' ≤ 20 * 2 ^ (25 - sm gW w') := by
        by_cases c : ∃ q, q < w.length ∧ w.getD q 0 = -1 ∧ w'.getD q 0 ≠ -1
        · obtain ⟨q, hq, d1, d2⟩ := c
          have hlt : sm gW w' < sm gW w := sm_lt w w' (by omega) hgle ⟨q, hq, by unfold gW; rw [if_neg d2, if_pos d1]; decide⟩
          refine ⟨2 * B, by simpa using hw2, ?_⟩
          have hpw : (2 : Nat) ^ (25 - sm gW w') = 2 ^ (25 - sm gW w) * 2 ^ (sm gW w - sm gW w') := by rw [← Nat.pow_add]; congr 1; omega
          have h2 : 2 ≤ (2 : Nat) ^ (sm gW w - sm gW w') := by
            have := Nat.pow_le_pow_right (n := 2) (by decide) (show 1 ≤ sm gW w - sm gW w' by omega)
            simpa using this
          have h3 : 2 ^ (25 - sm gW w) * 2 ≤ 2 ^ (25 - sm gW w) * 2 ^ (sm gW w - sm gW w') := Nat.mul_le_mul_left _ h2
          rw [hpw]
          omega
        · refine ⟨B, ⟨hl, fun i k h1 h2 => ?_⟩, ?_⟩
          · have t := ht i k h1 h2
            have z := hw.2 i k h1 h2
            by_cases d : en w i k = -1
            · left
              refine Classical.byContradiction fun hn => c ⟨i * 5 + k, by omega, d, hn⟩
            · have := t.old d
              have := t.rng
              omega
          · have hpw : (2 : Nat) ^ (25 - sm gW w) ≤ 2 ^ (25 - sm gW w') := Nat.pow_le_pow_right (by decide) (by omega)
            omega
      obtain ⟨B', hB'1, hB'2⟩ := key
      have hp' : (2 : Nat) ^ (25 - sm gW w') ≤ 2 ^ 25 := Nat.pow_le_pow_right (by decide) (by omega)
      have hB3 : B' ≤ 671088640 := by
        have : (20 : Nat) * 2 ^ 25 = 671088640 := by decide
        omega
      obtain ⟨w2, e2, g1, g2⟩ := through_ok hB'1 (by omega)
      rw [e2, b1_some]
      exact fix_ok fu w' w2 B' hB'1 hB'2 (by omega) (hs.thr hw ht) g1 g2 (by omega)
end Go.Proofs.Ytfmapnhfamoecab.Rd
