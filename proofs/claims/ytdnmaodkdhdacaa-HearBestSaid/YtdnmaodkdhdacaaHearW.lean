/- Layer 1: a way that needs as little as any, in plain Lean. No program is in sight. -/
import Derived.Test.YtdnmaodkdhdacaaHearR
namespace Go.Hear

/-- From q the plot p is reached with just what that needs. -/
def Tight (E : Int → List (Int × Int)) (tb : List Int) (q p : Int) : Prop := ∃ m, (p, m) ∈ E q ∧ tb.getD q.toNat 0 ≠ -1 ∧ tb.getD q.toNat 0 + m = tb.getD p.toNat 0

/-- A way back from a plot. -/
inductive BackW (E : Int → List (Int × Int)) (tb : List Int) (plot : Int) : List Int → Int → Prop
  | one : BackW E tb plot [plot] plot
  | snoc {l : List Int} {p q : Int} : BackW E tb plot l p → Tight E tb q p → BackW E tb plot (l ++ [q]) q

theorem tight_ex {n : Nat} {E : Int → List (Int × Int)} {s : Int} (hE : EOK n E) (hs : 0 ≤ s ∧ s < n) {tb : List Int} (hT : Tab n E s tb) {p : Int} (hp : 0 ≤ p ∧ p < n) (h1 : tb.getD p.toNat 0 ≠ -1) (hne : p ≠ s) : ∃ q : Int, (0 ≤ q ∧ q < n) ∧ Tight E tb q p := by
  rcases hT.sound p hp.1 hp.2 with h | ⟨_, _, h⟩
  · exact absurd h h1
  · generalize hd : at' tb p = d at h
    cases h with
    | here => exact absurd rfl hne
    | step h2 h3 =>
      rename_i q d m
      have hq := h2.rng hE hs
      obtain ⟨h4, h5⟩ := hT.below hE hs h2
      obtain ⟨_, h6⟩ := hT.closed q hq.1.1 hq.1.2 h4 _ h3
      have h6' : at' tb p ≤ at' tb q + m := h6
      refine ⟨q, hq.1, m, h3, h4, ?_⟩
      show at' tb q + m = at' tb p
      omega

theorem BackW.mem {E : Int → List (Int × Int)} {tb : List Int} {plot : Int} {l : List Int} {p : Int} (h : BackW E tb plot l p) : l.getLast? = some p ∧ l.head? = some plot := by
  induction h with
  | one => exact ⟨rfl, rfl⟩
  | snoc h1 _ ih =>
    refine ⟨by simp, ?_⟩
    rw [List.head?_append, ih.2]; rfl
theorem BackW.ne {E : Int → List (Int × Int)} {tb : List Int} {plot : Int} {l : List Int} {p : Int} (h : BackW E tb plot l p) : l ≠ [] := by
  intro he; have := h.mem.1; rw [he] at this; cases this

/-- Each step back lowers the table's number: the way is not longer than that. -/
theorem BackW.len {n : Nat} {E : Int → List (Int × Int)} (hE : EOK n E) {tb : List Int} {plot : Int} {l : List Int} {p : Int} (h : BackW E tb plot l p) : (l.length : Int) + tb.getD p.toNat 0 ≤ tb.getD plot.toNat 0 + 1 := by
  induction h with
  | one => simp; omega
  | snoc h1 h2 ih =>
    obtain ⟨m, h3, h4, h5⟩ := h2
    have := (hE _ _ _ h3).2.1
    rw [List.length_append]; simp only [List.length_singleton]; omega

/-- The list half turned round. -/
def revK (xs : List Int) (k : Nat) : List Int := (List.range xs.length).map fun t => if t < k ∨ xs.length - 1 - t < k then xs.getD (xs.length - 1 - t) 0 else xs.getD t 0
theorem revK_len (xs : List Int) (k : Nat) : (revK xs k).length = xs.length := by simp [revK]
theorem revK_get {xs : List Int} {k t : Nat} (h : t < xs.length) : (revK xs k).getD t 0 = if t < k ∨ xs.length - 1 - t < k then xs.getD (xs.length - 1 - t) 0 else xs.getD t 0 := by
  simp only [revK, List.getD_eq_getElem?_getD, List.getElem?_map, List.getElem?_range h]
  rfl
theorem getD_ext {xs ys : List Int} (hl : xs.length = ys.length) (h : ∀ t, t < xs.length → xs.getD t 0 = ys.getD t 0) : xs = ys := by
  apply List.ext_getElem hl
  intro t h1 h2
  have := h t h1
  simpa [List.getD_eq_getElem?_getD, h1, h2] using this
theorem revK_zero (xs : List Int) : revK xs 0 = xs := by
  refine getD_ext (revK_len ..) fun t ht => ?_
  rw [revK_len] at ht
  rw [revK_get ht, if_neg (by omega)]
theorem revK_step {xs : List Int} {k j : Nat} (hj : j = xs.length - 1 - k) (h : k < j) : ((revK xs k).set k ((revK xs k).getD j 0)).set j ((revK xs k).getD k 0) = revK xs (k + 1) := by
  refine getD_ext (by simp [revK_len]) fun t ht => ?_
  simp only [List.length_set, revK_len] at ht
  rw [getD_set (by simp [revK_len]; omega), getD_set (by rw [revK_len]; omega), revK_get ht, revK_get (k := k + 1) ht]
  by_cases h1 : j = t
  · rw [if_pos h1, revK_get (by omega), if_neg (by omega), if_pos (by omega)]; congr 1; omega
  · rw [if_neg h1]
    by_cases h2 : k = t
    · rw [if_pos h2, revK_get (by omega), if_neg (by omega), if_pos (by omega)]; congr 1; omega
    · rw [if_neg h2]
      by_cases h3 : t < k ∨ xs.length - 1 - t < k
      · rw [if_pos h3, if_pos (by omega)]
      · rw [if_neg h3, if_neg (by omega)]
theorem revK_end {xs : List Int} {k : Nat} (h : xs.length ≤ 2 * k + 1) : revK xs k = xs.reverse := by
  refine getD_ext (by simp [revK_len]) fun t ht => ?_
  rw [revK_len] at ht
  rw [revK_get ht]
  have hr : xs.reverse.getD t 0 = xs.getD (xs.length - 1 - t) 0 := by
    simp [List.getD_eq_getElem?_getD, List.getElem?_reverse ht]
  rw [hr]
  split
  · rfl
  · congr 1; omega
theorem Tab.rng {n : Nat} {E : Int → List (Int × Int)} {s : Int} {out : List Int} (h : Tab n E s out) {q : Int} (h0 : 0 ≤ q ∧ q < n) : -1 ≤ out.getD q.toNat 0 ∧ out.getD q.toNat 0 ≤ 5 * n := by
  rcases h.sound q h0.1 h0.2 with h1 | ⟨h1, h2, _⟩
  · have : out.getD q.toNat 0 = -1 := h1
    omega
  · have h3 : 0 ≤ out.getD q.toNat 0 := h1
    exact ⟨by omega, h2⟩
end Go.Hear
