/- Layer 1 as plain functions: what the functions of package hear compute. No program is in sight. -/
namespace Go.Hear
def cntH (ps : List Int) : Nat := (ps.filter (· = 1)).length
/-- The error of a town. -/
def okP (p : Int) : Bool := decide (0 ≤ p ∧ p ≤ 2)
def chk (wide : Int) (ps : List Int) : Int :=
  if ((¬ (1 ≤ wide ∧ wide ≤ 6)) ∨ ¬ (1 ≤ (ps.length : Int) ∧ (ps.length : Int) ≤ 30)) ∨ (ps.length : Int) % wide ≠ 0 then 2
  else if ¬ ps.all okP = true then 3
  else if 10 < (cntH ps : Int) then 2 else 0
def okW (w : Int) : Prop := 0 ≤ w ∧ w ≤ 4
instance (w : Int) : Decidable (okW w) := inferInstanceAs (Decidable (_ ∧ _))
def chkA (w v : Int) : Int := if (¬ okW w) ∨ ¬ (1 ≤ v ∧ v ≤ 40) then 3 else 0
/-- The error of a plot that must be of a kind. -/
def isE (ps : List Int) (p kind : Int) : Int := if ¬ (0 ≤ p ∧ p ≤ (ps.length : Int) - 1) then 1 else if ps.getD p.toNat 0 ≠ kind then 8 else 0
def openE (wide : Int) (ps : List Int) (w : Int) : Int := if chk wide ps ≠ 0 then chk wide ps else if ¬ okW w then 3 else 0
def standE (wide : Int) (ps : List Int) (w stand : Int) : Int := if openE wide ps w ≠ 0 then openE wide ps w else isE ps stand 0
/-- The step of a wind; whether it blows. -/
def windD (w : Int) : Int := if w = 1 then -1 else if w = 3 then 1 else 0
def windR (w : Int) : Int := if w = 2 then 1 else if w = 4 then -1 else 0
def windB (w : Int) : Bool := decide (1 ≤ w ∧ w ≤ 4)
/-- What a step to a plot of a kind needs. -/
def needN (w sd sr kind : Int) : Int := (if ¬ windB w = true then 2 else if sd = windD w ∧ sr = windR w then 1 else if sd = - windD w ∧ sr = - windR w then 4 else 2) + if kind = 1 then 1 else 0
theorem okW_cases {w : Int} (h : okW w) : w = 0 ∨ w = 1 ∨ w = 2 ∨ w = 3 ∨ w = 4 := by unfold okW at h; omega
def stepsL : List (Int × Int) := [(-1, 0), (0, -1), (0, 1), (1, 0)]
def nextOf (wide : Int) (ps : List Int) (w p : Int) (s : Int × Int) : Option (Int × Int) :=
  if (¬ (0 ≤ p + s.1 * wide + s.2 ∧ p + s.1 * wide + s.2 ≤ (ps.length : Int) - 1) ∨ (s.1 = 0 ∧ (p + s.1 * wide + s.2) / wide ≠ p / wide)) ∨ ps.getD (p + s.1 * wide + s.2).toNat 0 = 2 then none
  else some (p + s.1 * wide + s.2, needN w s.1 s.2 (ps.getD (p + s.1 * wide + s.2).toNat 0))
/-- The neighbours of a plot that are no walls, with what the step needs. -/
def nextL (wide : Int) (ps : List Int) (w p : Int) : List (Int × Int) := stepsL.filterMap (nextOf wide ps w p)
theorem openE_ok {wide : Int} {ps : List Int} {w : Int} (h : openE wide ps w = 0) : (1 ≤ wide ∧ wide ≤ 6) ∧ (1 ≤ ps.length ∧ ps.length ≤ 30) ∧ (ps.length : Int) % wide = 0 ∧ (∀ x ∈ ps, 0 ≤ x ∧ x ≤ 2) ∧ okW w ∧ cntH ps ≤ 10 := by
  unfold openE chk at h
  by_cases h1 : (¬ (1 ≤ wide ∧ wide ≤ 6) ∨ ¬ (1 ≤ (ps.length : Int) ∧ (ps.length : Int) ≤ 30)) ∨ (ps.length : Int) % wide ≠ 0
  · rw [if_pos h1] at h; simp at h
  rw [if_neg h1] at h
  by_cases h2 : ¬ ps.all okP = true
  · rw [if_pos h2] at h; simp at h
  rw [if_neg h2] at h
  by_cases h3 : 10 < (cntH ps : Int)
  · rw [if_pos h3] at h; simp at h
  rw [if_neg h3] at h
  by_cases h4 : ¬ okW w
  · rw [if_pos h4] at h; simp at h
  have h2' := Decidable.of_not_not h2
  rw [List.all_eq_true] at h2'
  refine ⟨by omega, by omega, by omega, fun x hx => ?_, Decidable.of_not_not h4, by omega⟩
  simpa [okP] using h2' x hx
theorem step_mul {x wide : Int} (hx : -1 ≤ x ∧ x ≤ 1) (hw : 1 ≤ wide ∧ wide ≤ 6) : -6 ≤ x * wide ∧ x * wide ≤ 6 := by
  have : x = -1 ∨ x = 0 ∨ x = 1 := by omega
  rcases this with rfl | rfl | rfl <;> omega
theorem needN_rng (w sd sr kind : Int) : 1 ≤ needN w sd sr kind ∧ needN w sd sr kind ≤ 5 := by
  unfold needN; split <;> split <;> (try split) <;> (try split) <;> omega
end Go.Hear
