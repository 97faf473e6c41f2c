/- Layer 1 as plain functions: what the functions of package hear compute. No program is in sight. -/
namespace Go.Hear

def cntH (ps : List Int) : Nat := (ps.filter (· = 1)).length
theorem cntH_snoc (ps : List Int) (k : Nat) (h : k < ps.length) : cntH (ps.take (k+1)) = cntH (ps.take k) + if ps.getD k 0 = 1 then 1 else 0 := by
  unfold cntH
  rw [List.take_succ_eq_append_getElem h, List.filter_append, List.length_append]
  simp [List.getD_eq_getElem?_getD, h, List.filter_cons]
  split <;> simp
theorem cntH_le (ps : List Int) : cntH ps ≤ ps.length := List.length_filter_le ..

/-- The first place of which p is so; -1 if there is none. -/
def idxF (p : Int → Bool) (xs : List Int) : Int := match xs.findIdx? p with | some i => i | none => -1
theorem idxF_hit {p : Int → Bool} {xs : List Int} {i : Nat} (hi : i < xs.length) (hp : p (xs.getD i 0) = true) (hno : ∀ j, j < i → p (xs.getD j 0) = false) : idxF p xs = i := by
  have h : xs.findIdx? p = some i := by
    rw [List.findIdx?_eq_some_iff_getElem]
    refine ⟨hi, by simpa [List.getD_eq_getElem?_getD, hi] using hp, fun j hj => ?_⟩
    have := hno j hj
    simpa [List.getD_eq_getElem?_getD, show j < xs.length by omega] using this
  simp [idxF, h]
theorem idxF_miss {p : Int → Bool} {xs : List Int} (hno : ∀ j, j < xs.length → p (xs.getD j 0) = false) : idxF p xs = -1 := by
  have h : xs.findIdx? p = none := by
    rw [List.findIdx?_eq_none_iff]
    intro x hx
    obtain ⟨j, hj, rfl⟩ := List.getElem_of_mem hx
    simpa [List.getD_eq_getElem?_getD, hj] using hno j hj
  simp [idxF, h]
theorem idxF_nonneg (p : Int → Bool) (xs : List Int) : (0 ≤ idxF p xs) ↔ xs.any p = true := by
  unfold idxF
  cases h : xs.findIdx? p with
  | none =>
    simp only [List.findIdx?_eq_none_iff] at h
    simp; intro x hx; simpa using h x hx
  | some i =>
    obtain ⟨hi, hp, _⟩ := List.findIdx?_eq_some_iff_getElem.1 h
    simp; exact ⟨xs[i], List.getElem_mem hi, hp⟩

/-- The error of a town. -/
def okP (p : Int) : Bool := decide (0 ≤ p ∧ p ≤ 2)
def chk (wide : Int) (ps : List Int) : Int :=
  if ((¬ (1 ≤ wide ∧ wide ≤ 6)) ∨ ¬ (1 ≤ (ps.length : Int) ∧ (ps.length : Int) ≤ 30)) ∨ (ps.length : Int) % wide ≠ 0 then 2
  else if ¬ ps.all okP = true then 3
  else if 10 < (cntH ps : Int) then 2 else 0
def okW (w : Int) : Prop := 0 ≤ w ∧ w ≤ 4
instance (w : Int) : Decidable (okW w) := inferInstanceAs (Decidable (_ ∧ _))
def chkA (w v : Int) : Int := if (¬ okW w) ∨ ¬ (1 ≤ v ∧ v ≤ 40) then 3 else 0
/-- The error of a plot that must be of a kind. -/
def isE (ps : List Int) (p kind : Int) : Int := if ¬ (0 ≤ p ∧ p ≤ (ps.length : Int) - 1) then 1 else if ps.getD p.toNat 0 ≠ kind then 8 else 0
def openE (wide : Int) (ps : List Int) (w : Int) : Int := if chk wide ps ≠ 0 then chk wide ps else if ¬ okW w then 3 else 0
def standE (wide : Int) (ps : List Int) (w stand : Int) : Int := if openE wide ps w ≠ 0 then openE wide ps w else isE ps stand 0

/-- The step of a wind; whether it blows. -/
def windD (w : Int) : Int := if w = 1 then -1 else if w = 3 then 1 else 0
def windR (w : Int) : Int := if w = 2 then 1 else if w = 4 then -1 else 0
def windB (w : Int) : Bool := decide (1 ≤ w ∧ w ≤ 4)
/-- What a step to a plot of a kind needs. -/
def needN (w sd sr kind : Int) : Int := (if ¬ windB w = true then 2 else if sd = windD w ∧ sr = windR w then 1 else if sd = - windD w ∧ sr = - windR w then 4 else 2) + if kind = 1 then 1 else 0

theorem okW_cases {w : Int} (h : okW w) : w = 0 ∨ w = 1 ∨ w = 2 ∨ w = 3 ∨ w = 4 := by unfold okW at h; omega

def stepsL : List (Int × Int) := [(-1, 0), (0, -1), (0, 1), (1, 0)]
def nextOf (wide : Int) (ps : List Int) (w p : Int) (s : Int × Int) : Option (Int × Int) :=
  if (¬ (0 ≤ p + s.1 * wide + s.2 ∧ p + s.1 * wide + s.2 ≤ (ps.length : Int) - 1) ∨ (s.1 = 0 ∧ (p + s.1 * wide + s.2) / wide ≠ p / wide)) ∨ ps.getD (p + s.1 * wide + s.2).toNat 0 = 2 then none
  else some (p + s.1 * wide + s.2, needN w s.1 s.2 (ps.getD (p + s.1 * wide + s.2).toNat 0))
/-- The neighbours of a plot that are no walls, with what the step needs. -/
def nextL (wide : Int) (ps : List Int) (w p : Int) : List (Int × Int) := stepsL.filterMap (nextOf wide ps w p)

/-! ### Steps -/
theorem openE_ok {wide : Int} {ps : List Int} {w : Int} (h : openE wide ps w = 0) : (1 ≤ wide ∧ wide ≤ 6) ∧ (1 ≤ ps.length ∧ ps.length ≤ 30) ∧ (ps.length : Int) % wide = 0 ∧ (∀ x ∈ ps, 0 ≤ x ∧ x ≤ 2) ∧ okW w ∧ cntH ps ≤ 10 := by
  unfold openE chk at h
  by_cases h1 : (¬ (1 ≤ wide ∧ wide ≤ 6) ∨ ¬ (1 ≤ (ps.length : Int) ∧ (ps.length : Int) ≤ 30)) ∨ (ps.length : Int) % wide ≠ 0
  · rw [if_pos h1] at h; simp at h
  rw [if_neg h1] at h
  by_cases h2 : ¬ ps.all okP = true
  · rw [if_pos h2] at h; simp at h
  rw [if_neg h2] at h
  by_cases h3 : 10 < (cntH ps : Int)
  · rw [if_pos h3] at h; simp at h
  rw [if_neg h3] at h
  by_cases h4 : ¬ okW w
  · rw [if_pos h4] at h; simp at h
  have h2' := Decidable.of_not_not h2
  rw [List.all_eq_true] at h2'
  refine ⟨by omega, by omega, by omega, fun x hx => ?_, Decidable.of_not_not h4, by omega⟩
  simpa [okP] using h2' x hx

theorem stepsL_rng (i : Nat) : (-1 ≤ (stepsL.getD i (0, 0)).1 ∧ (stepsL.getD i (0, 0)).1 ≤ 1) ∧ (-1 ≤ (stepsL.getD i (0, 0)).2 ∧ (stepsL.getD i (0, 0)).2 ≤ 1) := by
  rcases i with _ | _ | _ | _ | i <;> simp [stepsL]
theorem step_mul {x wide : Int} (hx : -1 ≤ x ∧ x ≤ 1) (hw : 1 ≤ wide ∧ wide ≤ 6) : -6 ≤ x * wide ∧ x * wide ≤ 6 := by
  have : x = -1 ∨ x = 0 ∨ x = 1 := by omega
  rcases this with rfl | rfl | rfl <;> omega
theorem needN_rng (w sd sr kind : Int) : 1 ≤ needN w sd sr kind ∧ needN w sd sr kind ≤ 5 := by
  unfold needN; split <;> split <;> (try split) <;> (try split) <;> omega

def nextPre (wide : Int) (ps : List Int) (w p : Int) (k : Nat) : List (Int × Int) := (stepsL.take k).filterMap (nextOf wide ps w p)
theorem nextPre_zero (wide : Int) (ps : List Int) (w p : Int) : nextPre wide ps w p 0 = [] := rfl
theorem nextPre_four (wide : Int) (ps : List Int) (w p : Int) : nextPre wide ps w p 4 = nextL wide ps w p := rfl
theorem stepsL_split {k : Nat} (hk : k < 4) : stepsL = stepsL.take k ++ stepsL.getD k (0, 0) :: stepsL.drop (k + 1) := by
  rcases k with _ | _ | _ | _ | k <;> simp [stepsL] at * <;> omega
theorem nextPre_none {wide : Int} {ps : List Int} {w p : Int} {k : Nat} (hk : k < 4) (h : nextOf wide ps w p (stepsL.getD k (0, 0)) = none) : nextPre wide ps w p (k + 1) = nextPre wide ps w p k := by
  have hk' : k < stepsL.length := hk
  unfold nextPre
  rw [List.take_succ_eq_append_getElem hk', List.filterMap_append]
  have : stepsL[k] = stepsL.getD k (0, 0) := by simp [List.getD_eq_getElem?_getD, hk']
  rw [this, List.filterMap_cons, h]; simp
theorem nextPre_some {wide : Int} {ps : List Int} {w p : Int} {k : Nat} {x : Int × Int} (hk : k < 4) (h : nextOf wide ps w p (stepsL.getD k (0, 0)) = some x) : nextPre wide ps w p (k + 1) = nextPre wide ps w p k ++ [x] := by
  have hk' : k < stepsL.length := hk
  unfold nextPre
  rw [List.take_succ_eq_append_getElem hk', List.filterMap_append]
  have : stepsL[k] = stepsL.getD k (0, 0) := by simp [List.getD_eq_getElem?_getD, hk']
  rw [this, List.filterMap_cons, h]; rfl
theorem next_split {wide : Int} {ps : List Int} {w p : Int} {k : Nat} {x : Int × Int} (hk : k < 4) (h : nextOf wide ps w p (stepsL.getD k (0, 0)) = some x) : nextL wide ps w p = nextPre wide ps w p k ++ x :: (stepsL.drop (k + 1)).filterMap (nextOf wide ps w p) := by
  unfold nextL nextPre
  conv => lhs; rw [stepsL_split hk]
  rw [List.filterMap_append, List.filterMap_cons, h]
end Go.Hear
