/- Choosing stands, in plain Lean: sets of houses as lists of Bools, the most that can be served, the first one of the shortest lists. No program is in sight. -/
namespace Go.Hear
def cntT (u : List Bool) : Nat := u.countP id
def orL (a b : List Bool) : List Bool := List.zipWith (· || ·) a b
/-- Lists of stands, increasing, from one on. -/
def Inc : Nat → List Nat → Prop
  | _, [] => True
  | a, s :: L => (a ≤ s ∧ s < 30) ∧ Inc (s + 1) L
theorem Inc.weak : ∀ {a b : Nat} {L : List Nat}, a ≤ b → Inc b L → Inc a L
  | _, _, [], _, _ => trivial
  | _, _, _ :: _, h, ⟨⟨h1, h2⟩, h3⟩ => ⟨⟨Nat.le_trans h h1, h2⟩, h3⟩
theorem Inc.mem : ∀ {a : Nat} {L : List Nat}, Inc a L → ∀ s ∈ L, a ≤ s ∧ s < 30
  | _, [], _, s, hs => by simp at hs
  | a, t :: L, ⟨h1, h2⟩, s, hs => by
    rcases List.mem_cons.1 hs with rfl | hs
    · exact h1
    · have := h2.mem s hs; omega
theorem Inc.filter {p : Nat → Bool} : ∀ {a : Nat} {L : List Nat}, Inc a L → Inc a (L.filter p)
  | _, [], _ => trivial
  | a, t :: L, ⟨h1, h2⟩ => by
    rw [List.filter_cons]
    split
    · exact ⟨h1, h2.filter⟩
    · exact (Inc.weak (by omega) h2.filter)
theorem Inc.len : ∀ {a : Nat} {L : List Nat}, a ≤ 30 → Inc a L → L.length + a ≤ 30
  | _, [], h, _ => by simpa using h
  | a, t :: L, _, ⟨h1, h2⟩ => by
    have := h2.len (by omega)
    rw [List.length_cons]; omega
section
variable {S : Nat → List Bool}
/-- What is served by a list, behind what was. -/
def cov (S : Nat → List Bool) : List Bool → List Nat → List Bool
  | u, [] => u
  | u, s :: L => cov S (orL u (S s)) L
/-- The most that can be served by so many stands more, of the last d. -/
def onV (S : Nat → List Bool) : Nat → Nat → List Bool → Nat
  | 0, _, u => cntT u
  | _ + 1, 0, u => cntT u
  | d + 1, l + 1, u => max (onV S d (l + 1) u) (onV S d l (orL u (S (29 - d))))
theorem onV_ge : ∀ (d l : Nat) (u : List Bool) (L : List Nat), d ≤ 30 → Inc (30 - d) L → L.length ≤ l → cntT (cov S u L) ≤ onV S d l u
  | 0, l, u, [], _, _, _ => Nat.le_refl _
  | 0, l, u, s :: L, _, ⟨h, _⟩, _ => by omega
  | d + 1, 0, u, [], _, _, _ => Nat.le_refl _
  | d + 1, 0, u, s :: L, _, _, h => by simp at h
  | d + 1, l + 1, u, [], hd, _, _ => by
    unfold onV
    exact Nat.le_trans (onV_ge d (l + 1) u [] (by omega) trivial (by simp)) (Nat.le_max_left ..)
  | d + 1, l + 1, u, s :: L, hd, ⟨h1, h2⟩, h3 => by
    unfold onV
    by_cases hs : s = 29 - d
    · subst hs
      have h4 : 29 - d + 1 = 30 - d := by omega
      rw [h4] at h2
      exact Nat.le_trans (onV_ge d l _ L (by omega) h2 (by simpa using h3)) (Nat.le_max_right ..)
    · exact Nat.le_trans (onV_ge d (l + 1) u (s :: L) (by omega) ⟨by omega, h2⟩ h3) (Nat.le_max_left ..)
/-- The first one of the lists of just so many stands that serve as many as told. -/
inductive Grd (S : Nat → List Bool) (all : Nat) : Nat → Nat → List Bool → List Nat → Prop
  | nil {a : Nat} {u : List Bool} : Grd S all a 0 u []
  | cons {a l s : Nat} {u : List Bool} {L : List Nat} : a ≤ s → s < 30 → (∀ t, a ≤ t → t < s → onV S (30 - (t + 1)) l (orL u (S t)) < all) → all ≤ onV S (30 - (s + 1)) l (orL u (S s)) → Grd S all (s + 1) l (orL u (S s)) L → Grd S all a (l + 1) u (s :: L)
/-- The order of lists of one length. -/
def lexLe : List Nat → List Nat → Prop
  | [], _ => True
  | _ :: _, [] => False
  | a :: l, b :: l' => a < b ∨ (a = b ∧ lexLe l l')
theorem Grd.first {all : Nat} : ∀ {a l : Nat} {u : List Bool} {L : List Nat}, Grd S all a l u L → ∀ {L' : List Nat}, Inc a L' → L'.length = l → all ≤ cntT (cov S u L') → lexLe L L'
  | a, _, u, _, .nil, _, _, _, _ => trivial
  | a, _, u, _, .cons (s := s) (l := l) h1 h2 h3 h4 h5, [], _, h, _ => by simp at h
  | a, _, u, _, .cons (s := s) (l := l) h1 h2 h3 h4 h5, t :: L', ⟨g1, g2⟩, h, hc => by
    by_cases hlt : t < s
    · exfalso
      have := h3 t g1.1 hlt
      have e2 : 30 - (30 - (t + 1)) = t + 1 := by omega
      have h6 := onV_ge (S := S) (30 - (t + 1)) l (orL u (S t)) L' (by omega) (by rw [e2]; exact g2) (by simp at h; omega)
      have h7 : all ≤ cntT (cov S (orL u (S t)) L') := hc
      omega
    · by_cases he : s = t
      · subst he
        exact .inr ⟨rfl, h5.first g2 (by simpa using h) hc⟩
      · exact .inl (by omega)
/-- A list of at most so many stands that serves the most; a shortest one; the first one of these. -/
structure IsBest (S : Nat → List Bool) (ok : Nat → Bool) (u : List Bool) (most : Nat) (L : List Nat) (n : Nat) : Prop where
  inc : Inc 0 L
  sto : ∀ s ∈ L, ok s = true
  len : L.length ≤ most
  val : cntT (cov S u L) = n
  max : ∀ L', Inc 0 L' → (∀ s ∈ L', ok s = true) → L'.length ≤ most → cntT (cov S u L') ≤ n
  short : ∀ L', Inc 0 L' → (∀ s ∈ L', ok s = true) → cntT (cov S u L') = n → L.length ≤ L'.length
  fst : ∀ L', Inc 0 L' → (∀ s ∈ L', ok s = true) → cntT (cov S u L') = n → L'.length = L.length → lexLe L L'
end
end Go.Hear
