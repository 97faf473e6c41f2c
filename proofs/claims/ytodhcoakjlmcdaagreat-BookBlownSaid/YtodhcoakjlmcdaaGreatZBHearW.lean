/- Layer 1: a way that needs as little as any, in plain Lean. No program is in sight. -/
import Derived.Test.YtodhcoakjlmcdaaGreatZBHearR
namespace Go.Hear
/-- From q the plot p is reached with just what that needs. -/
def Tight (E : Int → List (Int × Int)) (tb : List Int) (q p : Int) : Prop := ∃ m, (p, m) ∈ E q ∧ tb.getD q.toNat 0 ≠ -1 ∧ tb.getD q.toNat 0 + m = tb.getD p.toNat 0
/-- A way back from a plot. -/
inductive BackW (E : Int → List (Int × Int)) (tb : List Int) (plot : Int) : List Int → Int → Prop
  | one : BackW E tb plot [plot] plot
  | snoc {l : List Int} {p q : Int} : BackW E tb plot l p → Tight E tb q p → BackW E tb plot (l ++ [q]) q
theorem BackW.mem {E : Int → List (Int × Int)} {tb : List Int} {plot : Int} {l : List Int} {p : Int} (h : BackW E tb plot l p) : l.getLast? = some p ∧ l.head? = some plot := by
  induction h with
  | one => exact ⟨rfl, rfl⟩
  | snoc h1 _ ih =>
    refine ⟨by simp, ?_⟩
    rw [List.head?_append, ih.2]; rfl
theorem BackW.ne {E : Int → List (Int × Int)} {tb : List Int} {plot : Int} {l : List Int} {p : Int} (h : BackW E tb plot l p) : l ≠ [] := by
  intro he; have := h.mem.1; rw [he] at this; cases this
/-- Each step back lowers the table's number: the way is not longer than that. -/
theorem BackW.len {n : Nat} {E : Int → List (Int × Int)} (hE : EOK n E) {tb : List Int} {plot : Int} {l : List Int} {p : Int} (h : BackW E tb plot l p) : (l.length : Int) + tb.getD p.toNat 0 ≤ tb.getD plot.toNat 0 + 1 := by
  induction h with
  | one => simp; omega
  | snoc h1 h2 ih =>
    obtain ⟨m, h3, h4, h5⟩ := h2
    have := (hE _ _ _ h3).2.1
    rw [List.length_append]; simp only [List.length_singleton]; omega
theorem Tab.rng {n : Nat} {E : Int → List (Int × Int)} {s : Int} {out : List Int} (h : Tab n E s out) {q : Int} (h0 : 0 ≤ q ∧ q < n) : -1 ≤ out.getD q.toNat 0 ∧ out.getD q.toNat 0 ≤ 5 * n := by
  rcases h.sound q h0.1 h0.2 with h1 | ⟨h1, h2, _⟩
  · have : out.getD q.toNat 0 = -1 := h1
    omega
  · have h3 : 0 ≤ out.getD q.toNat 0 := h1
    exact ⟨by omega, h2⟩
end Go.Hear
