/- Choosing stands, in plain Lean: sets of houses as lists of Bools, the most that can be served, the first one of the shortest lists. No program is in sight. -/
namespace Go.Hear
def cntT (u : List Bool) : Nat := u.countP id
def orL (a b : List Bool) : List Bool := List.zipWith (· || ·) a b
theorem orL_len {a b : List Bool} (h : a.length = b.length) : (orL a b).length = a.length := by
  unfold orL; rw [List.length_zipWith, h]; exact Nat.min_self _
theorem orL_false : ∀ (u : List Bool), orL u (List.replicate u.length false) = u
  | [] => rfl
  | b :: u => by
    have := orL_false u
    unfold orL at *
    rw [List.length_cons, List.replicate_succ, List.zipWith_cons_cons, this, Bool.or_false]
theorem cntT_le : ∀ (u : List Bool), cntT u ≤ u.length := fun _u => List.countP_le_length
/-- Lists of stands, increasing, from one on. -/
def Inc : Nat → List Nat → Prop
  | _, [] => True
  | a, s :: L => (a ≤ s ∧ s < 30) ∧ Inc (s + 1) L
theorem Inc.weak : ∀ {a b : Nat} {L : List Nat}, a ≤ b → Inc b L → Inc a L
  | _, _, [], _, _ => trivial
  | _, _, _ :: _, h, ⟨⟨h1, h2⟩, h3⟩ => ⟨⟨Nat.le_trans h h1, h2⟩, h3⟩
theorem Inc.mem : ∀ {a : Nat} {L : List Nat}, Inc a L → ∀ s ∈ L, a ≤ s ∧ s < 30
  | _, [], _, s, hs => by simp at hs
  | a, t :: L, ⟨h1, h2⟩, s, hs => by
    rcases List.mem_cons.1 hs with rfl | hs
    · exact h1
    · have := h2.mem s hs; omega
theorem Inc.filter {p : Nat → Bool} : ∀ {a : Nat} {L : List Nat}, Inc a L → Inc a (L.filter p)
  | _, [], _ => trivial
  | a, t :: L, ⟨h1, h2⟩ => by
    rw [List.filter_cons]
    split
    · exact ⟨h1, h2.filter⟩
    · exact (Inc.weak (by omega) h2.filter)
theorem Inc.len : ∀ {a : Nat} {L : List Nat}, a ≤ 30 → Inc a L → L.length + a ≤ 30
  | _, [], h, _ => by simpa using h
  | a, t :: L, _, ⟨h1, h2⟩ => by
    have := h2.len (by omega)
    rw [List.length_cons]; omega
section
variable {S : Nat → List Bool}
/-- What is served by a list, behind what was. -/
def cov (S : Nat → List Bool) : List Bool → List Nat → List Bool
  | u, [] => u
  | u, s :: L => cov S (orL u (S s)) L
/-- The most that can be served by so many stands more, of the last d. -/
def onV (S : Nat → List Bool) : Nat → Nat → List Bool → Nat
  | 0, _, u => cntT u
  | _ + 1, 0, u => cntT u
  | d + 1, l + 1, u => max (onV S d (l + 1) u) (onV S d l (orL u (S (29 - d))))
theorem onV_zero (d : Nat) (u : List Bool) : onV S d 0 u = cntT u := by cases d <;> rfl
theorem onV_ge : ∀ (d l : Nat) (u : List Bool) (L : List Nat), d ≤ 30 → Inc (30 - d) L → L.length ≤ l → cntT (cov S u L) ≤ onV S d l u
  | 0, l, u, [], _, _, _ => Nat.le_refl _
  | 0, l, u, s :: L, _, ⟨h, _⟩, _ => by omega
  | d + 1, 0, u, [], _, _, _ => Nat.le_refl _
  | d + 1, 0, u, s :: L, _, _, h => by simp at h
  | d + 1, l + 1, u, [], hd, _, _ => by
    unfold onV
    exact Nat.le_trans (onV_ge d (l + 1) u [] (by omega) trivial (by simp)) (Nat.le_max_left ..)
  | d + 1, l + 1, u, s :: L, hd, ⟨h1, h2⟩, h3 => by
    unfold onV
    by_cases hs : s = 29 - d
    · subst hs
      have h4 : 29 - d + 1 = 30 - d := by omega
      rw [h4] at h2
      exact Nat.le_trans (onV_ge d l _ L (by omega) h2 (by simpa using h3)) (Nat.le_max_right ..)
    · exact Nat.le_trans (onV_ge d (l + 1) u (s :: L) (by omega) ⟨by omega, h2⟩ h3) (Nat.le_max_left ..)
theorem onV_ex : ∀ (d l : Nat) (u : List Bool), d ≤ 30 → ∃ L, Inc (30 - d) L ∧ L.length ≤ l ∧ cntT (cov S u L) = onV S d l u
  | 0, l, u, _ => ⟨[], trivial, Nat.zero_le _, rfl⟩
  | d + 1, 0, u, _ => ⟨[], trivial, Nat.zero_le _, rfl⟩
  | d + 1, l + 1, u, hd => by
    obtain ⟨L1, a1, a2, a3⟩ := onV_ex d (l + 1) u (by omega)
    obtain ⟨L2, b1, b2, b3⟩ := onV_ex d l (orL u (S (29 - d))) (by omega)
    unfold onV
    by_cases h : onV S d l (orL u (S (29 - d))) ≤ onV S d (l + 1) u
    · exact ⟨L1, Inc.weak (by omega) a1, a2, by rw [a3, Nat.max_eq_left h]⟩
    · refine ⟨(29 - d) :: L2, ⟨by omega, ?_⟩, by simpa using b2, ?_⟩
      · have h4 : 29 - d + 1 = 30 - d := by omega
        rw [h4]; exact b1
      · show cntT (cov S (orL u (S (29 - d))) L2) = _
        rw [b3, Nat.max_eq_right (by omega)]
theorem onV_mono {d l l' : Nat} (hd : d ≤ 30) (h : l ≤ l') (u : List Bool) : onV S d l u ≤ onV S d l' u := by
  obtain ⟨L, h1, h2, h3⟩ := onV_ex (S := S) d l u hd
  rw [← h3]; exact onV_ge d l' u L hd h1 (Nat.le_trans h2 h)
/-- The first one of the lists of just so many stands that serve as many as told. -/
inductive Grd (S : Nat → List Bool) (all : Nat) : Nat → Nat → List Bool → List Nat → Prop
  | nil {a : Nat} {u : List Bool} : Grd S all a 0 u []
  | cons {a l s : Nat} {u : List Bool} {L : List Nat} : a ≤ s → s < 30 → (∀ t, a ≤ t → t < s → onV S (30 - (t + 1)) l (orL u (S t)) < all) → all ≤ onV S (30 - (s + 1)) l (orL u (S s)) → Grd S all (s + 1) l (orL u (S s)) L → Grd S all a (l + 1) u (s :: L)
theorem first_ex {all a l : Nat} {u : List Bool} (ha : a ≤ 30) (hmin : onV S (30 - a) l u < all) (hall : all ≤ onV S (30 - a) (l + 1) u) : ∃ s, a ≤ s ∧ s < 30 ∧ all ≤ onV S (30 - (s + 1)) l (orL u (S s)) := by
  obtain ⟨L, h1, h2, h3⟩ := onV_ex (S := S) (30 - a) (l + 1) u (by omega)
  have e : 30 - (30 - a) = a := by omega
  rw [e] at h1
  cases L with
  | nil =>
    have := onV_ge (S := S) (30 - a) l u [] (by omega) trivial (Nat.zero_le _)
    have h4 : cntT (cov S u []) = onV S (30 - a) (l + 1) u := h3
    omega
  | cons s L =>
    obtain ⟨h5, h6⟩ := h1
    refine ⟨s, h5.1, h5.2, ?_⟩
    have e2 : 30 - (30 - (s + 1)) = s + 1 := by omega
    have := onV_ge (S := S) (30 - (s + 1)) l (orL u (S s)) L (by omega) (by rw [e2]; exact h6) (by simpa using h2)
    have h7 : cntT (cov S (orL u (S s)) L) = onV S (30 - a) (l + 1) u := h3
    omega
/-- With one less it is not enough: nor behind a choice. -/
theorem min_next {all a l s : Nat} {u : List Bool} (ha : a ≤ s) (hs : s < 30) (hmin : onV S (30 - a) (l + 1) u < all) : onV S (30 - (s + 1)) l (orL u (S s)) < all := by
  obtain ⟨L, h1, h2, h3⟩ := onV_ex (S := S) (30 - (s + 1)) l (orL u (S s)) (by omega)
  have e2 : 30 - (30 - (s + 1)) = s + 1 := by omega
  rw [e2] at h1
  have := onV_ge (S := S) (30 - a) (l + 1) u (s :: L) (by omega) ⟨by omega, h1⟩ (by simpa using h2)
  have h4 : cntT (cov S u (s :: L)) = onV S (30 - (s + 1)) l (orL u (S s)) := h3
  omega
theorem Grd.spec {all : Nat} : ∀ {a l : Nat} {u : List Bool} {L : List Nat}, Grd S all a l u L → all ≤ onV S (30 - a) l u → L.length = l ∧ Inc a L ∧ all ≤ cntT (cov S u L)
  | a, _, u, _, .nil, h => ⟨rfl, trivial, by rw [onV_zero] at h; exact h⟩
  | a, _, u, _, .cons h1 h2 _ h4 h5, _ => by
    obtain ⟨e1, e2, e3⟩ := h5.spec h4
    exact ⟨by simp [e1], ⟨⟨h1, h2⟩, e2⟩, e3⟩
/-- The order of lists of one length. -/
def lexLe : List Nat → List Nat → Prop
  | [], _ => True
  | _ :: _, [] => False
  | a :: l, b :: l' => a < b ∨ (a = b ∧ lexLe l l')
theorem lexLe_refl : ∀ L, lexLe L L
  | [] => trivial
  | _ :: L => .inr ⟨rfl, lexLe_refl L⟩
theorem lexLe_anti : ∀ {L L' : List Nat}, L.length = L'.length → lexLe L L' → lexLe L' L → L = L'
  | [], [], _, _, _ => rfl
  | [], _ :: _, h, _, _ => by simp at h
  | _ :: _, [], h, _, _ => by simp at h
  | a :: L, b :: L', h, h1, h2 => by
    rcases h1 with h1 | ⟨rfl, h1⟩
    · rcases h2 with h2 | ⟨rfl, _⟩ <;> omega
    · rcases h2 with h2 | ⟨_, h2⟩
      · omega
      · rw [lexLe_anti (by simpa using h) h1 h2]
theorem Grd.first {all : Nat} : ∀ {a l : Nat} {u : List Bool} {L : List Nat}, Grd S all a l u L → ∀ {L' : List Nat}, Inc a L' → L'.length = l → all ≤ cntT (cov S u L') → lexLe L L'
  | a, _, u, _, .nil, _, _, _, _ => trivial
  | a, _, u, _, .cons (s := s) (l := l) h1 h2 h3 h4 h5, [], _, h, _ => by simp at h
  | a, _, u, _, .cons (s := s) (l := l) h1 h2 h3 h4 h5, t :: L', ⟨g1, g2⟩, h, hc => by
    by_cases hlt : t < s
    · exfalso
      have := h3 t g1.1 hlt
      have e2 : 30 - (30 - (t + 1)) = t + 1 := by omega
      have h6 := onV_ge (S := S) (30 - (t + 1)) l (orL u (S t)) L' (by omega) (by rw [e2]; exact g2) (by simp at h; omega)
      have h7 : all ≤ cntT (cov S (orL u (S t)) L') := hc
      omega
    · by_cases he : s = t
      · subst he
        exact .inr ⟨rfl, h5.first g2 (by simpa using h) hc⟩
      · exact .inl (by omega)
/-- Stands that nobody hears may be left out. -/
theorem cov_filter {m : Nat} (hS : ∀ s, (S s).length = m) {p : Nat → Bool} (hp : ∀ s, p s = false → S s = List.replicate m false) : ∀ (L : List Nat) (u : List Bool), u.length = m → cov S u (L.filter p) = cov S u L
  | [], _, _ => rfl
  | s :: L, u, hu => by
    rw [List.filter_cons]
    cases h : p s with
    | true => exact cov_filter hS hp L _ (by rw [orL_len (by rw [hu, hS]), hu])
    | false =>
      rw [if_neg (by decide), cov_filter hS hp L u hu]
      show _ = cov S (orL u (S s)) L
      have := orL_false u
      rw [hu] at this
      rw [hp s h, this]
/-- A list of at most so many stands that serves the most; a shortest one; the first one of these. -/
structure IsBest (S : Nat → List Bool) (ok : Nat → Bool) (u : List Bool) (most : Nat) (L : List Nat) (n : Nat) : Prop where
  inc : Inc 0 L
  sto : ∀ s ∈ L, ok s = true
  len : L.length ≤ most
  val : cntT (cov S u L) = n
  max : ∀ L', Inc 0 L' → (∀ s ∈ L', ok s = true) → L'.length ≤ most → cntT (cov S u L') ≤ n
  short : ∀ L', Inc 0 L' → (∀ s ∈ L', ok s = true) → cntT (cov S u L') = n → L.length ≤ L'.length
  fst : ∀ L', Inc 0 L' → (∀ s ∈ L', ok s = true) → cntT (cov S u L') = n → L'.length = L.length → lexLe L L'
/-- What the greedy choice finds is best, and has no stand that nobody hears. -/
theorem Grd.best {m most l : Nat} {u : List Bool} {L : List Nat} (hS : ∀ s, (S s).length = m) (hu : u.length = m) {p : Nat → Bool} (hp : ∀ s, p s = false → S s = List.replicate m false)
    (hl : l ≤ most) (hall : onV S 30 most u ≤ onV S 30 l u) (hmin : ∀ l', l' < l → onV S 30 l' u < onV S 30 most u) (h : Grd S (onV S 30 most u) 0 l u L) : IsBest S p u most L (onV S 30 most u) := by
  obtain ⟨h1, h2, h3⟩ := h.spec hall
  have hmx : ∀ L', Inc 0 L' → L'.length ≤ most → cntT (cov S u L') ≤ onV S 30 most u := fun L' i hl' => onV_ge 30 most u L' (Nat.le_refl _) i hl'
  have hval : cntT (cov S u L) = onV S 30 most u := Nat.le_antisymm (hmx L h2 (by omega)) h3
  have hsh : ∀ L', Inc 0 L' → cntT (cov S u L') = onV S 30 most u → l ≤ L'.length := fun L' i hc => by
    apply Classical.byContradiction
    intro hn
    have := hmin L'.length (by omega)
    have h5 := onV_ge (S := S) 30 L'.length u L' (Nat.le_refl _) i (Nat.le_refl _)
    omega
  refine ⟨h2, fun s hs => ?_, by omega, hval, fun L' i _ hl' => hmx L' i hl', fun L' i _ hc => by rw [h1]; exact hsh L' i hc, fun L' i _ hc hl' => h.first i (by omega) (by omega)⟩
  -- a stand that nobody hears would be one too many
  apply Classical.byContradiction
  intro hf
  have hf' : p s = false := by simpa using hf
  have e := cov_filter hS hp L u hu
  have h5 := hsh (L.filter p) h2.filter (by rw [e]; exact hval)
  have h6 : (L.filter p).length < L.length := by
    rcases Nat.lt_or_ge (L.filter p).length L.length with h | h
    · exact h
    · exfalso
      have h7 := List.length_filter_le p L
      have h8 : (L.filter p).length = L.length := by omega
      have := (List.length_filter_eq_length_iff.1 h8) s hs
      rw [hf'] at this; cases this
  omega
def subs : List Nat → Nat → List (List Nat)
  | _, 0 => [[]]
  | [], _ + 1 => []
  | x :: l, k + 1 => (subs l k).map (x :: ·) ++ subs l (k + 1)
theorem subs_nil (k : Nat) : subs [] (k + 1) = [] := rfl
theorem mem_subs : ∀ {l : List Nat} {k : Nat} {L : List Nat}, L ∈ subs l k ↔ L.Sublist l ∧ L.length = k
  | l, 0, L => by
    have : subs l 0 = [[]] := by cases l <;> rfl
    rw [this, List.mem_singleton]
    constructor
    · rintro rfl; exact ⟨List.nil_sublist _, rfl⟩
    · rintro ⟨_, h⟩; exact List.length_eq_zero_iff.1 h
  | [], k + 1, L => by
    rw [subs_nil]
    constructor
    · intro h; simp at h
    · rintro ⟨h1, h2⟩
      rw [List.sublist_nil.1 h1] at h2; simp at h2
  | x :: l, k + 1, L => by
    unfold subs
    rw [List.mem_append, List.mem_map, mem_subs (l := l) (k := k + 1)]
    constructor
    · rintro (⟨L', h, rfl⟩ | ⟨h1, h2⟩)
      · obtain ⟨h1, h2⟩ := mem_subs.1 h
        exact ⟨h1.cons_cons x, by simp [h2]⟩
      · exact ⟨h1.cons x, h2⟩
    · rintro ⟨h1, h2⟩
      cases h1 with
      | cons _ h => exact .inr ⟨h, h2⟩
      | cons_cons _ h => exact .inl ⟨_, mem_subs.2 ⟨h, by simpa using h2⟩, rfl⟩
theorem subs_sorted : ∀ {l : List Nat} {k : Nat}, l.Pairwise (· < ·) → (subs l k).Pairwise lexLe
  | l, 0, _ => by
    have : subs l 0 = [[]] := by cases l <;> rfl
    rw [this]; exact List.pairwise_singleton ..
  | [], k + 1, _ => .nil
  | x :: l, k + 1, h => by
    unfold subs
    obtain ⟨h1, h2⟩ := List.pairwise_cons.1 h
    rw [List.pairwise_append]
    refine ⟨?_, subs_sorted h2, fun a ha b hb => ?_⟩
    · rw [List.pairwise_map]
      exact (subs_sorted h2).imp fun h => .inr ⟨rfl, h⟩
    · obtain ⟨a', _, rfl⟩ := List.mem_map.1 ha
      obtain ⟨g1, g2⟩ := mem_subs.1 hb
      cases b with
      | nil => simp at g2
      | cons y b =>
        have : y ∈ l := g1.subset (List.mem_cons_self ..)
        exact .inl (h1 y this)
theorem subs_len_le : ∀ (l : List Nat) (k : Nat), (subs l k).length ≤ 2 ^ l.length
  | l, 0 => by
    have : subs l 0 = [[]] := by cases l <;> rfl
    rw [this]; exact Nat.one_le_two_pow
  | [], k + 1 => by rw [subs_nil]; exact Nat.zero_le _
  | x :: l, k + 1 => by
    unfold subs
    have h1 := subs_len_le l k
    have h2 := subs_len_le l (k + 1)
    rw [List.length_append, List.length_map, List.length_cons, Nat.pow_succ]; omega
end
end Go.Hear
