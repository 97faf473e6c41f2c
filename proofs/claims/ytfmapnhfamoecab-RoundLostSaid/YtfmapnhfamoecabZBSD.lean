/- Walks that lead through one stand more; in plain Lean. -/
import Derived.Test.YtfmapnhfamoecabZBSC
namespace Go.Proofs.Ytfmapnhfamoecab.Rd
open Go.PL
/-- An entry of a table of walks. -/
def en (w : List Int) (i k : Nat) : Int := w.getD (i * 5 + k) 0
/-- What is known of an entry when some stands between were tried. -/
structure ThrP (w : List Int) (B : Int) (i k b : Nat) (v : Int) : Prop where
  rng : v = -1 ∨ (0 ≤ v ∧ v ≤ 2 * B)
  old : en w i k ≠ -1 → v ≠ -1 ∧ v ≤ en w i k
  by_ : ∀ j, j < b → en w i j ≠ -1 → en w j k ≠ -1 → v ≠ -1 ∧ v ≤ en w i j + en w j k
  from_ : v = en w i k ∨ ∃ j, j < 5 ∧ en w i j ≠ -1 ∧ en w j k ≠ -1 ∧ v = en w i j + en w j k
/-- A table of walks. -/
def TOK (w : List Int) (B : Int) : Prop := w.length = 25 ∧ ∀ i k, i < 5 → k < 5 → en w i k = -1 ∨ (0 ≤ en w i k ∧ en w i k ≤ B)
theorem r64_small' {x : Int} (h : -4000000000 ≤ x ∧ x ≤ 4000000000) : R64 x := by unfold R64; omega
theorem soonest2 (x y : Int) (hy : 0 ≤ y) : round_soonest [x, y] = some (if x = -1 then y else if y < x then y else x) := by
  unfold round_soonest round_soonest_l1
  by_cases hx : x = -1
  · subst hx
    rw [if_neg (by decide), b1_some, if_neg (by decide)]
    unfold round_soonest_l1
    rw [if_pos (by omega), if_pos rfl, b1_some, if_pos rfl, if_pos rfl]
    unfold round_soonest_l1
    rw [b1_some]
  · rw [if_pos hx, if_pos rfl, b1_some, if_pos rfl, if_neg hx]
    unfold round_soonest_l1
    rw [if_pos (by omega), if_neg hx, b1_some]
    by_cases h : y < x
    · rw [if_pos (decide_eq_true h), if_pos h]
      unfold round_soonest_l1
      rw [b1_some]
    · rw [if_neg (by simpa using h), if_neg h]
      unfold round_soonest_l1
      rw [b1_some]
theorem ixE {β : Type} {w : List Int} (hl : w.length = 25) {i k : Nat} (hi : i < 5) (hk : k < 5) (f : Int → Option β) : ix w ((i : Int) * 5 + (k : Int)) f = f (en w i k) := by
  have h := ixN (xs := w) (i := i * 5 + k) 0 f (by omega)
  rwa [show ((i * 5 + k : Nat) : Int) = (i : Int) * 5 + (k : Int) by omega] at h
theorem en_set {w : List Int} (hl : w.length = 25) {i k i' k' : Nat} (hi : i < 5) (hk : k < 5) (_hi' : i' < 5) (hk' : k' < 5) (v : Int) : en (w.set (i * 5 + k) v) i' k' = if i = i' ∧ k = k' then v else en w i' k' := by
  unfold en
  rw [getD_setI (by omega)]
  by_cases h : i = i' ∧ k = k'
  · rw [if_pos (by rw [h.1, h.2]), if_pos h]
  · rw [if_neg (by omega), if_neg h]
section
variable {w : List Int} {B : Int}
theorem thr_l3 (hw : TOK w B) (hB : 0 ≤ B ∧ B ≤ 1000000000) {i k : Nat} (hi : i < 5) (hk : k < 5) {out : List Int} (ho : out.length = 25) : ∀ (fu b : Nat) (v : Int), b + fu = 5 → ThrP w B i k b v →
    ∃ v', round_walks_through_l3 w (i : Int) (k : Int) fu (b : Int) (out.set (i * 5 + k) v) = some (out.set (i * 5 + k) v') ∧ ThrP w B i k 5 v'
  | 0, b, v, hb, h => ⟨v, rfl, by rwa [show b = 5 by omega] at h⟩
  | fu + 1, b, v, hb, h => by
    have hb5 : b < 5 := by omega
    have hol : (out.set (i * 5 + k) v).length = 25 := by rw [List.length_set]; exact ho
    unfold round_walks_through_l3
    rw [gd_t (by omega), gd_t (by omega), ixE hw.1 hi hb5]
    have r1 := hw.2 i b hi hb5
    have r2 := hw.2 b k hb5 hk
    by_cases c1 : en w i b ≠ -1 ∧ en w b k ≠ -1
    · obtain ⟨c1, c2⟩ := c1
      have e1 : (if en w i b ≠ -1 then gd (0 ≤ (b : Int) ∧ (b : Int) < 5) (gd (0 ≤ (k : Int) ∧ (k : Int) < 5) (ix w ((b : Int) * 5 + (k : Int)) fun x2 => some (decide (x2 ≠ -1)))) else some false) = some true := by
        rw [if_pos c1, gd_t (by omega), gd_t (by omega), ixE hw.1 hb5 hk, decide_eq_true c2]
      have e2 : (i : Int) * 5 + (k : Int) = ((i * 5 + k : Nat) : Int) := by omega
      have e3 : en (out.set (i * 5 + k) v) i k = v := by rw [en_set ho hi hk hi hk, if_pos ⟨rfl, rfl⟩]
      rw [e1, b1_some, if_pos rfl, gd_t (by omega), gd_t (by omega), ixE hol hi hk, e3, gd_t (by omega), gd_t (by omega), ixE hw.1 hi hb5, gd_t (by omega), gd_t (by omega), ixE hw.1 hb5 hk, gd_t (r64_small' (by omega)), gd_t (by omega), soonest2 _ _ (by omega), b1_some, gd_t (by omega), bvE, e2, Int.toNat_natCast, List.set_set]
      refine thr_l3 hw hB hi hk ho fu (b + 1) _ (by omega) ⟨?_, ?_, ?_, ?_⟩
      · have := h.rng
        split
        · omega
        · split <;> omega
      · intro h1
        have := h.old h1
        rw [if_neg this.1]
        split <;> omega
      · intro j hj d1 d2
        by_cases hjb : j = b
        · subst hjb
          split
          · omega
          · split <;> omega
        · have := h.by_ j (by omega) d1 d2
          rw [if_neg this.1]
          split <;> omega
      · split
        · exact .inr ⟨b, hb5, c1, c2, rfl⟩
        · split
          · exact .inr ⟨b, hb5, c1, c2, rfl⟩
          · exact h.from_
    · have e1 : (if en w i b ≠ -1 then gd (0 ≤ (b : Int) ∧ (b : Int) < 5) (gd (0 ≤ (k : Int) ∧ (k : Int) < 5) (ix w ((b : Int) * 5 + (k : Int)) fun x2 => some (decide (x2 ≠ -1)))) else some false) = some false := by
        by_cases d : en w i b ≠ -1
        · rw [if_pos d, gd_t (by omega), gd_t (by omega), ixE hw.1 hb5 hk, decide_eq_false (fun d2 => c1 ⟨d, d2⟩)]
        · rw [if_neg d]
      rw [e1, b1_some, if_neg (by decide)]
      refine thr_l3 hw hB hi hk ho fu (b + 1) v (by omega) ⟨h.rng, h.old, fun j hj d1 d2 => ?_, h.from_⟩
      by_cases hjb : j = b
      · subst hjb; exact absurd ⟨d1, d2⟩ c1
      · exact h.by_ j (by omega) d1 d2
theorem thr_l2 (hw : TOK w B) (hB : 0 ≤ B ∧ B ≤ 1000000000) {i : Nat} (hi : i < 5) : ∀ (fu k : Nat) (out : List Int), k + fu = 5 → out.length = 25 →
    (∀ i' k', i' < 5 → k' < 5 → if i' < i ∨ (i' = i ∧ k' < k) then ThrP w B i' k' 5 (en out i' k') else en out i' k' = en w i' k') →
    ∃ out', round_walks_through_l2 w (i : Int) fu (k : Int) out = some out' ∧ out'.length = 25 ∧ ∀ i' k', i' < 5 → k' < 5 → if i' < i + 1 then ThrP w B i' k' 5 (en out' i' k') else en out' i' k' = en w i' k'
  | 0, k, out, hk, ho, h => ⟨out, rfl, ho, fun i' k' h1 h2 => by
      have := h i' k' h1 h2
      by_cases c : i' < i + 1
      · rw [if_pos c]; rwa [if_pos (by omega)] at this
      · rw [if_neg c]; rwa [if_neg (by omega)] at this⟩
  | fu + 1, k, out, hk, ho, h => by
    have hk5 : k < 5 := by omega
    unfold round_walks_through_l2
    have h0 := h i k hi hk5
    rw [if_neg (by omega)] at h0
    have hv : out.set (i * 5 + k) (en w i k) = out := by
      rw [← h0]; unfold en
      have hlt : i * 5 + k < out.length := by omega
      rw [List.getD_eq_getElem?_getD, List.getElem?_eq_getElem hlt, Option.getD_some, List.set_getElem_self]
    have r := hw.2 i k hi hk5
    obtain ⟨v', e1, h1⟩ := thr_l3 hw hB hi hk5 ho 5 0 (en w i k) rfl ⟨by omega, fun h => ⟨h, Int.le_refl _⟩, fun j hj => absurd hj (by omega), .inl rfl⟩
    rw [hv] at e1
    have e1' : round_walks_through_l3 w (i : Int) (k : Int) (Int.toNat (5 - 0)) 0 out = some (out.set (i * 5 + k) v') := e1
    rw [gd_t ⟨r64_small (by omega), r64_small (by omega)⟩, e1', b1_some]
    refine thr_l2 hw hB hi fu (k + 1) _ (by omega) (by rw [List.length_set]; exact ho) fun i' k' d1 d2 => ?_
    rw [en_set ho hi hk5 d1 d2]
    have h2 := h i' k' d1 d2
    by_cases c : i = i' ∧ k = k'
    · rw [if_pos c, if_pos (by omega)]
      obtain ⟨rfl, rfl⟩ := c
      exact h1
    · rw [if_neg c]
      by_cases c2 : i' < i ∨ (i' = i ∧ k' < k)
      · rw [if_pos c2] at h2; rw [if_pos (by omega)]; exact h2
      · rw [if_neg c2] at h2; rw [if_neg (by omega)]; exact h2
theorem thr_l1 (hw : TOK w B) (hB : 0 ≤ B ∧ B ≤ 1000000000) : ∀ (fu i : Nat) (out : List Int), i + fu = 5 → out.length = 25 →
    (∀ i' k', i' < 5 → k' < 5 → if i' < i then ThrP w B i' k' 5 (en out i' k') else en out i' k' = en w i' k') →
    ∃ out', round_walks_through_l1 w fu (i : Int) out = some out' ∧ out'.length = 25 ∧ ∀ i' k', i' < 5 → k' < 5 → ThrP w B i' k' 5 (en out' i' k')
  | 0, i, out, hi, ho, h => ⟨out, rfl, ho, fun i' k' h1 h2 => by
      have := h i' k' h1 h2
      rwa [if_pos (by omega)] at this⟩
  | fu + 1, i, out, hi, ho, h => by
    unfold round_walks_through_l1
    obtain ⟨out', e1, h1, h2⟩ := thr_l2 hw hB (i := i) (by omega) 5 0 out rfl ho (fun i' k' d1 d2 => by
      have := h i' k' d1 d2
      by_cases c : i' < i
      · rw [if_pos c] at this; rw [if_pos (.inl c)]; exact this
      · rw [if_neg c] at this; rw [if_neg (by omega)]; exact this)
    have e1' : round_walks_through_l2 w (i : Int) (Int.toNat (5 - 0)) 0 out = some out' := e1
    rw [gd_t ⟨r64_small (by omega), r64_small (by omega)⟩, e1', b1_some]
    exact thr_l1 hw hB fu (i + 1) out' (by omega) h1 h2
theorem through_ok (hw : TOK w B) (hB : 0 ≤ B ∧ B ≤ 1000000000) : ∃ w', round_walks_through w = some w' ∧ w'.length = 25 ∧ ∀ i k, i < 5 → k < 5 → ThrP w B i k 5 (en w' i k) := by
  unfold round_walks_through
  obtain ⟨w', e1, h1, h2⟩ := thr_l1 hw hB 5 0 w rfl hw.1 (fun i' k' _ _ => by rw [if_neg (by omega)])
  have e1' : round_walks_through_l1 w (Int.toNat (5 - 0)) 0 w = some w' := e1
  rw [gd_t ⟨r64_small (by omega), r64_small (by omega)⟩, e1', b1_some]
  exact ⟨w', rfl, h1, h2⟩
end
end Go.Proofs.Ytfmapnhfamoecab.Rd
