/- Choosing stands, in plain Lean: sets of houses as lists of Bools, the most that can be served, the first one of the shortest lists. No program is in sight. -/
import Derived.Test.YtkfbbjiniapooaaGreatZSMB
import Derived.Test.YtkfbbjiniapooaaGreatZSMA
namespace Go.Hear
def G8 (u : List Bool) : Nat := u.countP id
def JF (a b : List Bool) : List Bool := List.zipWith (· || ·) a b
theorem Oo {a b : List Bool} (h : a.length = b.length) : (JF a b).length = a.length := by
  unfold JF; rw [List.length_zipWith, h]; exact Nat.min_self _
theorem P1 : ∀ (u : List Bool), JF u (List.replicate u.length false) = u
  | [] => rfl
  | b :: u => by
    have := P1 u
    unfold JF at *
    rw [List.length_cons, List.replicate_succ, List.zipWith_cons_cons, this, Bool.or_false]
theorem VV : ∀ (u : List Bool), G8 u ≤ u.length := fun _u => List.countP_le_length
def Mb : Nat → List Nat → Prop
  | _, [] => True
  | a, s :: L => (a ≤ s ∧ s < 30) ∧ Mb (s + 1) L
theorem Mb.TV : ∀ {a b : Nat} {L : List Nat}, a ≤ b → Mb b L → Mb a L
  | _, _, [], _, _ => trivial
  | _, _, _ :: _, h, ⟨⟨h1, h2⟩, h3⟩ => ⟨⟨Nat.le_trans h h1, h2⟩, h3⟩
theorem Mb.mem : ∀ {a : Nat} {L : List Nat}, Mb a L → ∀ s ∈ L, a ≤ s ∧ s < 30
  | _, [], _, s, hs => by simp at hs
  | a, t :: L, ⟨h1, h2⟩, s, hs => by
    rcases List.mem_cons.1 hs with rfl | hs
    · exact h1
    · have := h2.mem s hs; omega
theorem Mb.filter {p : Nat → Bool} : ∀ {a : Nat} {L : List Nat}, Mb a L → Mb a (L.filter p)
  | _, [], _ => trivial
  | a, t :: L, ⟨h1, h2⟩ => by
    rw [List.filter_cons]
    split
    · exact ⟨h1, h2.filter⟩
    · exact (Mb.TV (by omega) h2.filter)
theorem Mb.len : ∀ {a : Nat} {L : List Nat}, a ≤ 30 → Mb a L → L.length + a ≤ 30
  | _, [], h, _ => by simpa using h
  | a, t :: L, _, ⟨h1, h2⟩ => by
    have := h2.len (by omega)
    rw [List.length_cons]; omega
section
variable {S : Nat → List Bool}
def NM (S : Nat → List Bool) : List Bool → List Nat → List Bool
  | u, [] => u
  | u, s :: L => NM S (JF u (S s)) L
def Ir (S : Nat → List Bool) : Nat → Nat → List Bool → Nat
  | 0, _, u => G8 u
  | _ + 1, 0, u => G8 u
  | d + 1, l + 1, u => max (Ir S d (l + 1) u) (Ir S d l (JF u (S (29 - d))))
theorem R1 (d : Nat) (u : List Bool) : Ir S d 0 u = G8 u := by cases d <;> rfl
theorem Ko : ∀ (d l : Nat) (u : List Bool) (L : List Nat), d ≤ 30 → Mb (30 - d) L → L.length ≤ l → G8 (NM S u L) ≤ Ir S d l u
  | 0, l, u, [], _, _, _ => Nat.le_refl _
  | 0, l, u, s :: L, _, ⟨h, _⟩, _ => by omega
  | d + 1, 0, u, [], _, _, _ => Nat.le_refl _
  | d + 1, 0, u, s :: L, _, _, h => by simp at h
  | d + 1, l + 1, u, [], hd, _, _ => by
    unfold Ir
    exact Nat.le_trans (Ko d (l + 1) u [] (by omega) trivial (by simp)) (Nat.le_max_left ..)
  | d + 1, l + 1, u, s :: L, hd, ⟨h1, h2⟩, h3 => by
    unfold Ir
    by_cases hs : s = 29 - d
    · subst hs
      have h4 : 29 - d + 1 = 30 - d := by omega
      rw [h4] at h2
      exact Nat.le_trans (Ko d l _ L (by omega) h2 (by simpa using h3)) (Nat.le_max_right ..)
    · exact Nat.le_trans (Ko d (l + 1) u (s :: L) (by omega) ⟨by omega, h2⟩ h3) (Nat.le_max_left ..)
theorem OF : ∀ (d l : Nat) (u : List Bool), d ≤ 30 → ∃ L, Mb (30 - d) L ∧ L.length ≤ l ∧ G8 (NM S u L) = Ir S d l u
  | 0, l, u, _ => ⟨[], trivial, Nat.zero_le _, rfl⟩
  | d + 1, 0, u, _ => ⟨[], trivial, Nat.zero_le _, rfl⟩
  | d + 1, l + 1, u, hd => by
    obtain ⟨L1, a1, a2, a3⟩ := OF d (l + 1) u (by omega)
    obtain ⟨L2, b1, b2, b3⟩ := OF d l (JF u (S (29 - d))) (by omega)
    unfold Ir
    by_cases h : Ir S d l (JF u (S (29 - d))) ≤ Ir S d (l + 1) u
    · exact ⟨L1, Mb.TV (by omega) a1, a2, by rw [a3, Nat.max_eq_left h]⟩
    · refine ⟨(29 - d) :: L2, ⟨by omega, ?_⟩, by simpa using b2, ?_⟩
      · have h4 : 29 - d + 1 = 30 - d := by omega
        rw [h4]; exact b1
      · show G8 (NM S (JF u (S (29 - d))) L2) = _
        rw [b3, Nat.max_eq_right (by omega)]
theorem T8 {d l l' : Nat} (hd : d ≤ 30) (h : l ≤ l') (u : List Bool) : Ir S d l u ≤ Ir S d l' u := by
  obtain ⟨L, h1, h2, h3⟩ := OF (S := S) d l u hd
  rw [← h3]; exact Ko d l' u L hd h1 (Nat.le_trans h2 h)
inductive Vh (S : Nat → List Bool) (all : Nat) : Nat → Nat → List Bool → List Nat → Prop
  | nil {a : Nat} {u : List Bool} : Vh S all a 0 u []
  | cons {a l s : Nat} {u : List Bool} {L : List Nat} : a ≤ s → s < 30 → (∀ t, a ≤ t → t < s → Ir S (30 - (t + 1)) l (JF u (S t)) < all) → all ≤ Ir S (30 - (s + 1)) l (JF u (S s)) → Vh S all (s + 1) l (JF u (S s)) L → Vh S all a (l + 1) u (s :: L)
theorem Vg {all a l : Nat} {u : List Bool} (ha : a ≤ 30) (aa : Ir S (30 - a) l u < all) (ab : all ≤ Ir S (30 - a) (l + 1) u) : ∃ s, a ≤ s ∧ s < 30 ∧ all ≤ Ir S (30 - (s + 1)) l (JF u (S s)) := by
  obtain ⟨L, h1, h2, h3⟩ := OF (S := S) (30 - a) (l + 1) u (by omega)
  have e : 30 - (30 - a) = a := by omega
  rw [e] at h1
  cases L with
  | nil =>
    have := Ko (S := S) (30 - a) l u [] (by omega) trivial (Nat.zero_le _)
    have h4 : G8 (NM S u []) = Ir S (30 - a) (l + 1) u := h3
    omega
  | cons s L =>
    obtain ⟨h5, h6⟩ := h1
    refine ⟨s, h5.1, h5.2, ?_⟩
    have e2 : 30 - (30 - (s + 1)) = s + 1 := by omega
    have := Ko (S := S) (30 - (s + 1)) l (JF u (S s)) L (by omega) (by rw [e2]; exact h6) (by simpa using h2)
    have h7 : G8 (NM S (JF u (S s)) L) = Ir S (30 - a) (l + 1) u := h3
    omega
theorem UY {all a l s : Nat} {u : List Bool} (ha : a ≤ s) (hs : s < 30) (aa : Ir S (30 - a) (l + 1) u < all) : Ir S (30 - (s + 1)) l (JF u (S s)) < all := by
  obtain ⟨L, h1, h2, h3⟩ := OF (S := S) (30 - (s + 1)) l (JF u (S s)) (by omega)
  have e2 : 30 - (30 - (s + 1)) = s + 1 := by omega
  rw [e2] at h1
  have := Ko (S := S) (30 - a) (l + 1) u (s :: L) (by omega) ⟨by omega, h1⟩ (by simpa using h2)
  have h4 : G8 (NM S u (s :: L)) = Ir S (30 - (s + 1)) l (JF u (S s)) := h3
  omega
theorem Vh.spec {all : Nat} : ∀ {a l : Nat} {u : List Bool} {L : List Nat}, Vh S all a l u L → all ≤ Ir S (30 - a) l u → L.length = l ∧ Mb a L ∧ all ≤ G8 (NM S u L)
  | a, _, u, _, .nil, h => ⟨rfl, trivial, by rw [R1] at h; exact h⟩
  | a, _, u, _, .cons h1 h2 _ h4 h5, _ => by
    obtain ⟨e1, e2, e3⟩ := h5.spec h4
    exact ⟨by simp [e1], ⟨⟨h1, h2⟩, e2⟩, e3⟩
def HN : List Nat → List Nat → Prop
  | [], _ => True
  | _ :: _, [] => False
  | a :: l, b :: l' => a < b ∨ (a = b ∧ HN l l')
theorem Pc : ∀ L, HN L L
  | [] => trivial
  | _ :: L => .inr ⟨rfl, Pc L⟩
theorem MI : ∀ {L L' : List Nat}, L.length = L'.length → HN L L' → HN L' L → L = L'
  | [], [], _, _, _ => rfl
  | [], _ :: _, h, _, _ => by simp at h
  | _ :: _, [], h, _, _ => by simp at h
  | a :: L, b :: L', h, h1, h2 => by
    rcases h1 with h1 | ⟨rfl, h1⟩
    · rcases h2 with h2 | ⟨rfl, _⟩ <;> omega
    · rcases h2 with h2 | ⟨_, h2⟩
      · omega
      · rw [MI (by simpa using h) h1 h2]
theorem Vh.first {all : Nat} : ∀ {a l : Nat} {u : List Bool} {L : List Nat}, Vh S all a l u L → ∀ {L' : List Nat}, Mb a L' → L'.length = l → all ≤ G8 (NM S u L') → HN L L'
  | a, _, u, _, .nil, _, _, _, _ => trivial
  | a, _, u, _, .cons (s := s) (l := l) h1 h2 h3 h4 h5, [], _, h, _ => by simp at h
  | a, _, u, _, .cons (s := s) (l := l) h1 h2 h3 h4 h5, t :: L', ⟨g1, g2⟩, h, hc => by
    by_cases aa : t < s
    · exfalso
      have := h3 t g1.1 aa
      have e2 : 30 - (30 - (t + 1)) = t + 1 := by omega
      have h6 := Ko (S := S) (30 - (t + 1)) l (JF u (S t)) L' (by omega) (by rw [e2]; exact g2) (by simp at h; omega)
      have h7 : all ≤ G8 (NM S (JF u (S t)) L') := hc
      omega
    · by_cases he : s = t
      · subst he
        exact .inr ⟨rfl, h5.first g2 (by simpa using h) hc⟩
      · exact .inl (by omega)
theorem ML {m : Nat} (hS : ∀ s, (S s).length = m) {p : Nat → Bool} (hp : ∀ s, p s = false → S s = List.replicate m false) : ∀ (L : List Nat) (u : List Bool), u.length = m → NM S u (L.filter p) = NM S u L
  | [], _, _ => rfl
  | s :: L, u, hu => by
    rw [List.filter_cons]
    cases h : p s with
    | true => exact ML hS hp L _ (by rw [Oo (by rw [hu, hS]), hu])
    | false =>
      rw [if_neg (by decide), ML hS hp L u hu]
      show _ = NM S (JF u (S s)) L
      have := P1 u
      rw [hu] at this
      rw [hp s h, this]
structure Su (S : Nat → List Bool) (ok : Nat → Bool) (u : List Bool) (most : Nat) (L : List Nat) (n : Nat) : Prop where
  inc : Mb 0 L
  YL : ∀ s ∈ L, ok s = true
  len : L.length ≤ most
  val : G8 (NM S u L) = n
  max : ∀ L', Mb 0 L' → (∀ s ∈ L', ok s = true) → L'.length ≤ most → G8 (NM S u L') ≤ n
  short : ∀ L', Mb 0 L' → (∀ s ∈ L', ok s = true) → G8 (NM S u L') = n → L.length ≤ L'.length
  fst : ∀ L', Mb 0 L' → (∀ s ∈ L', ok s = true) → G8 (NM S u L') = n → L'.length = L.length → HN L L'
theorem Vh.NU {m most l : Nat} {u : List Bool} {L : List Nat} (hS : ∀ s, (S s).length = m) (hu : u.length = m) {p : Nat → Bool} (hp : ∀ s, p s = false → S s = List.replicate m false)
    (hl : l ≤ most) (ad : Ir S 30 most u ≤ Ir S 30 l u) (ae : ∀ l', l' < l → Ir S 30 l' u < Ir S 30 most u) (h : Vh S (Ir S 30 most u) 0 l u L) : Su S p u most L (Ir S 30 most u) := by
  obtain ⟨h1, h2, h3⟩ := h.spec ad
  have af : ∀ L', Mb 0 L' → L'.length ≤ most → G8 (NM S u L') ≤ Ir S 30 most u := fun L' i ab => Ko 30 most u L' (Nat.le_refl _) i ab
  have aa : G8 (NM S u L) = Ir S 30 most u := Nat.le_antisymm (af L h2 (by omega)) h3
  have ah : ∀ L', Mb 0 L' → G8 (NM S u L') = Ir S 30 most u → l ≤ L'.length := fun L' i hc => by
    apply Classical.byContradiction
    intro hn
    have := ae L'.length (by omega)
    have h5 := Ko (S := S) 30 L'.length u L' (Nat.le_refl _) i (Nat.le_refl _)
    omega
  refine ⟨h2, fun s hs => ?_, by omega, aa, fun L' i _ ab => af L' i ab, fun L' i _ hc => by rw [h1]; exact ah L' i hc, fun L' i _ hc ab => h.first i (by omega) (by omega)⟩
  -- a stand that nobody hears would be one too many
  apply Classical.byContradiction
  intro hf
  have ai : p s = false := by simpa using hf
  have e := ML hS hp L u hu
  have h5 := ah (L.filter p) h2.filter (by rw [e]; exact aa)
  have h6 : (L.filter p).length < L.length := by
    rcases Nat.lt_or_ge (L.filter p).length L.length with h | h
    · exact h
    · exfalso
      have h7 := List.length_filter_le p L
      have h8 : (L.filter p).length = L.length := by omega
      have := (List.length_filter_eq_length_iff.1 h8) s hs
      rw [ai] at this; cases this
  omega
def JV : List Nat → Nat → List (List Nat)
  | _, 0 => [[]]
  | [], _ + 1 => []
  | x :: l, k + 1 => (JV l k).map (x :: ·) ++ JV l (k + 1)
theorem Pa (k : Nat) : JV [] (k + 1) = [] := rfl
theorem Hp : ∀ {l : List Nat} {k : Nat} {L : List Nat}, L ∈ JV l k ↔ L.Sublist l ∧ L.length = k
  | l, 0, L => by
    have : JV l 0 = [[]] := by cases l <;> rfl
    rw [this, List.mem_singleton]
    constructor
    · rintro rfl; exact ⟨List.nil_sublist _, rfl⟩
    · rintro ⟨_, h⟩; exact List.length_eq_zero_iff.1 h
  | [], k + 1, L => by
    rw [Pa]
    constructor
    · intro h; simp at h
    · rintro ⟨h1, h2⟩
      rw [List.sublist_nil.1 h1] at h2; simp at h2
  | x :: l, k + 1, L => by
    unfold JV
    rw [List.mem_append, List.mem_map, Hp (l := l) (k := k + 1)]
    constructor
    · rintro (⟨L', h, rfl⟩ | ⟨h1, h2⟩)
      · obtain ⟨h1, h2⟩ := Hp.1 h
        exact ⟨h1.cons_cons x, by simp [h2]⟩
      · exact ⟨h1.cons x, h2⟩
    · rintro ⟨h1, h2⟩
      cases h1 with
      | cons _ h => exact .inr ⟨h, h2⟩
      | cons_cons _ h => exact .inl ⟨_, Hp.2 ⟨h, by simpa using h2⟩, rfl⟩
theorem J7 : ∀ {l : List Nat} {k : Nat}, l.Pairwise (· < ·) → (JV l k).Pairwise HN
  | l, 0, _ => by
    have : JV l 0 = [[]] := by cases l <;> rfl
    rw [this]; exact List.pairwise_singleton ..
  | [], k + 1, _ => .nil
  | x :: l, k + 1, h => by
    unfold JV
    obtain ⟨h1, h2⟩ := List.pairwise_cons.1 h
    rw [List.pairwise_append]
    refine ⟨?_, J7 h2, fun a ha b hb => ?_⟩
    · rw [List.pairwise_map]
      exact (J7 h2).imp fun h => .inr ⟨rfl, h⟩
    · obtain ⟨a', _, rfl⟩ := List.mem_map.1 ha
      obtain ⟨g1, g2⟩ := Hp.1 hb
      cases b with
      | nil => simp at g2
      | cons y b =>
        have : y ∈ l := g1.subset (List.mem_cons_self ..)
        exact .inl (h1 y this)
theorem LQ : ∀ (l : List Nat) (k : Nat), (JV l k).length ≤ 2 ^ l.length
  | l, 0 => by
    have : JV l 0 = [[]] := by cases l <;> rfl
    rw [this]; exact Nat.one_le_two_pow
  | [], k + 1 => by rw [Pa]; exact Nat.zero_le _
  | x :: l, k + 1 => by
    unfold JV
    have h1 := LQ l k
    have h2 := LQ l (k + 1)
    rw [List.length_append, List.length_map, List.length_cons, Nat.pow_succ]; omega
end
end Go.Hear
namespace Go.Proofs.YtkfbbjiniapooaaGreat
open Go.PL Go.Hear
def Hc : List Bool → Nat
  | [] => 0
  | b :: u => (if b = true then 1 else 0) + 2 * Hc u
theorem UI : ∀ u : List Bool, Hc u < 2 ^ u.length
  | [] => by decide
  | b :: u => by
    have := UI u
    unfold Hc
    rw [List.length_cons, Nat.pow_succ]
    split <;> omega
theorem L4 {u : List Bool} (h : u.length ≤ 60) : Hc u < 9223372036854775808 :=
  Nat.lt_of_lt_of_le (UI u) (Nat.le_trans (Nat.pow_le_pow_right (by decide) h) (by decide))
theorem Qs : ∀ {u v : List Bool}, u.length = v.length → Hc u = Hc v → u = v
  | [], [], _, _ => rfl
  | [], _ :: _, h, _ => by simp at h
  | _ :: _, [], h, _ => by simp at h
  | a :: u, b :: v, h, he => by
    unfold Hc at he
    have h1 : Hc u = Hc v := by split at he <;> split at he <;> omega
    have h2 : a = b := by
      cases a <;> cases b <;> simp at he <;> first | rfl | omega
    rw [h2, Qs (by simpa using h) h1]
theorem OC : ∀ (u : List Bool) (i : Nat), (Hc u).testBit i = u.getD i false
  | [], i => by unfold Hc; simp
  | b :: u, 0 => by
    unfold Hc
    rw [Nat.testBit_zero, List.getD_cons_zero]
    cases b <;> simp
  | b :: u, i + 1 => by
    unfold Hc
    rw [Nat.testBit_succ, List.getD_cons_succ, ← OC u i]
    congr 1
    split <;> omega
theorem S5 : ∀ {a b : List Bool} (i : Nat), a.length = b.length → (JF a b).getD i false = (a.getD i false || b.getD i false)
  | [], [], i, _ => by simp [JF]
  | [], _ :: _, _, h => by simp at h
  | _ :: _, [], _, h => by simp at h
  | x :: a, y :: b, 0, _ => by simp [JF]
  | x :: a, y :: b, i + 1, h => by
    have := S5 (a := a) (b := b) i (by simpa using h)
    unfold JF at *
    rw [List.zipWith_cons_cons, List.getD_cons_succ, List.getD_cons_succ, List.getD_cons_succ, this]
theorem WD {a b : List Bool} (h : a.length = b.length) : Hc a ||| Hc b = Hc (JF a b) := by
  apply Nat.eq_of_testBit_eq
  intro i
  rw [Nat.testBit_or, OC, OC, OC, S5 i h]
theorem Vk {x y : Nat} (hx : x < 9223372036854775808) (hy : y < 9223372036854775808) : Ps (x : Int) (y : Int) = ((x ||| y : Nat) : Int) := by
  have ho : x ||| y < 2 ^ 63 := Nat.or_lt_two_pow hx hy
  unfold Ps
  rw [BitVec.ofInt_natCast, BitVec.ofInt_natCast]
  have e : (BitVec.ofNat 64 x ||| BitVec.ofNat 64 y).toNat = x ||| y := by
    rw [BitVec.toNat_or, BitVec.toNat_ofNat, BitVec.toNat_ofNat, Nat.mod_eq_of_lt (by omega), Nat.mod_eq_of_lt (by omega)]
  rw [BitVec.toInt_eq_toNat_of_lt (by rw [e]; omega), e]
theorem QU {a b : List Bool} (h : a.length = b.length) (aa : a.length ≤ 60) : Ps (Hc a : Int) (Hc b : Int) = (Hc (JF a b) : Int) := by
  rw [Vk (L4 aa) (L4 (by omega)), WD h]
theorem Ov : ∀ (u v : List Bool), Hc (u ++ v) = Hc u + 2 ^ u.length * Hc v
  | [], v => by simp [Hc]
  | b :: u, v => by
    have e1 : Hc (b :: u ++ v) = (if b = true then 1 else 0) + 2 * Hc (u ++ v) := rfl
    have e2 : Hc (b :: u) = (if b = true then 1 else 0) + 2 * Hc u := rfl
    rw [e1, e2, Ov u v, List.length_cons, Nat.pow_succ, Nat.mul_comm (2 ^ u.length) 2, Nat.mul_assoc]
    generalize 2 ^ u.length * Hc v = z
    omega
theorem LS : ∀ k : Nat, Hc (List.replicate k false) = 0
  | 0 => rfl
  | k + 1 => by
    rw [List.replicate_succ]; unfold Hc; rw [LS k]; rfl
theorem Rl : ∀ (u : List Bool), JF (u ++ [false]) (List.replicate u.length false ++ [true]) = u ++ [true]
  | [] => rfl
  | b :: u => by
    have := Rl u
    unfold JF at *
    rw [List.cons_append, List.length_cons, List.replicate_succ, List.cons_append, List.zipWith_cons_cons, this, Bool.or_false]; rfl
theorem VI (u : List Bool) (h : u.length ≤ 59) : Ps (Hc u : Int) ((2 ^ u.length : Nat) : Int) = (Hc (u ++ [true]) : Int) := by
  have h1 : Hc u = Hc (u ++ [false]) := by rw [Ov]; simp [Hc]
  have h2 : 2 ^ u.length = Hc (List.replicate u.length false ++ [true]) := by rw [Ov, LS]; simp [Hc]
  rw [h2, h1, QU (by simp) (by simp; omega), Rl]
def Dp (rows : List (List Bool)) (s : Nat) : List Bool := rows.map (·.getD s false)
theorem JO (rows : List (List Bool)) (s : Nat) : (Dp rows s).length = rows.length := by simp [Dp]
theorem V3 {stand : Int} (h0 : 0 ≤ stand) (h1 : stand < 30) : ∀ (rows : List (List Bool)) (pre : List Bool), (∀ r ∈ rows, r.length = 30) → pre.length + rows.length ≤ 50 → Cn stand rows (pre.length : Int) (Hc pre : Int) = some (Hc (pre ++ Dp rows stand.toNat) : Int)
  | [], pre, _, _ => by
    unfold Cn Dp; simp
  | x :: rows, pre, hr, hl => by
    simp only [List.length_cons] at hl
    have hx := hr x (List.mem_cons_self ..)
    have aa : x[stand.toNat]? = some (x.getD stand.toNat false) := Oz (by omega)
    have hc : Dp (x :: rows) stand.toNat = x.getD stand.toNat false :: Dp rows stand.toNat := rfl
    unfold Cn
    rw [Na h0 aa, hc]
    have ih := fun b => V3 h0 h1 rows (pre ++ [b]) (fun r ab => hr r (List.mem_cons_of_mem _ ab)) (by simp; omega)
    cases hb : x.getD stand.toNat false with
    | true =>
      have e : shl 1 (pre.length : Int) = ((2 ^ pre.length : Nat) : Int) := by unfold shl; simp
      have hp : (2 ^ pre.length : Nat) ≤ 1125899906842624 := Nat.le_trans (Nat.pow_le_pow_right (by decide) (show pre.length ≤ 50 by omega)) (by decide)
      have ad : Cm ((2 ^ pre.length : Nat) : Int) := by
        generalize 2 ^ pre.length = z at hp
        unfold Cm; omega
      rw [if_pos rfl, e, BF ⟨by omega, ad⟩, VI pre (by omega)]
      have := ih true
      rw [List.length_append, List.length_singleton, List.append_assoc] at this
      exact this
    | false =>
      rw [if_neg (by decide)]
      have := ih false
      have h2 : Hc (pre ++ [false]) = Hc pre := by rw [Ov]; simp [Hc]
      rw [List.length_append, List.length_singleton, List.append_assoc, h2] at this
      exact this
theorem UO {rows : List (List Bool)} {count : Int → Option Int} (hr : ∀ r ∈ rows, r.length = 30) (hl : rows.length ≤ 50) {s : Nat} (hs : s < 30) : EO rows count (s : Int) = some (Hc (Dp rows s) : Int) := by
  unfold EO
  have := V3 (stand := (s : Int)) (by omega) (by omega) rows [] hr (by simpa using hl)
  have h1 : Cn (s : Int) rows 0 0 = _ := this
  rw [h1, Ax]; rfl
theorem Ry : ∀ {u : List Bool}, Hc u = 0 → G8 u = 0
  | [], _ => rfl
  | b :: u, h => by
    unfold Hc at h
    have h1 : Hc u = 0 := by split at h <;> omega
    have h2 : b = false := by cases b <;> simp at h <;> rfl
    have := Ry h1
    unfold G8 at *
    rw [List.countP_cons, this, h2]; rfl
theorem S0 : ∀ (fu : Nat) (u : List Bool) (n : Int), u.length < fu → u.length ≤ 60 → 0 ≤ n → n + (u.length : Int) ≤ 1000 → FX fu (Hc u : Int) n = some (n + (G8 u : Int))
  | 0, u, _, h, _, _, _ => absurd h (Nat.not_lt_zero _)
  | fu + 1, [], n, _, _, _, _ => by
    have e0 : ((Hc [] : Nat) : Int) = 0 := rfl
    have e1 : (n + (G8 [] : Int)) = n := Int.add_zero n
    rw [e0, e1]
    unfold FX
    rw [if_neg (Int.lt_irrefl 0)]
  | fu + 1, b :: u, n, h, aa, h0, hn => by
    simp only [List.length_cons] at h aa hn
    unfold FX
    by_cases hz : Hc (b :: u) = 0
    · have := Ry hz
      rw [hz, this, if_neg (by decide)]; simp
    · have ab := L4 (u := b :: u) (by simpa using aa)
      have ec : Hc (b :: u) = (if b = true then 1 else 0) + 2 * Hc u := rfl
      have e1 : Int.tmod (Hc (b :: u) : Int) 2 = (if b = true then 1 else 0) := by
        rw [Int.tmod_eq_emod_of_nonneg (by omega), ec]; split <;> omega
      have e2 : Int.tdiv (Hc (b :: u) : Int) 2 = (Hc u : Int) := by
        rw [Int.tdiv_eq_ediv_of_nonneg (by omega), ec]; split <;> omega
      have ad := L4 (u := u) (by omega)
      rw [if_pos (by omega), e1, e2, BF (AT (by split <;> omega)), BF ⟨by decide, by unfold Cm; omega⟩]
      rw [S0 fu u _ (by omega) (by omega) (by split <;> omega) (by split <;> omega)]
      congr 1
      unfold G8
      rw [List.countP_cons]
      cases b <;> simp <;> omega
theorem VK {u : List Bool} (h : u.length ≤ 60) : Dw (Hc u : Int) = some (G8 u : Int) := by
  unfold Dw
  rw [S0 FU u 0 (by unfold FU; omega) h (by omega) (by omega), Ax, Int.zero_add]
section
variable {rows : List (List Bool)} {count : Int → Option Int}
abbrev Xu := List ((Int × Int × Int) × Int)
def Vn (rows : List (List Bool)) (met : Xu) : Prop := ∀ (a l : Nat) (u : List Bool) (n : Int), a ≤ 30 → u.length = rows.length → Gi met ((a : Int), (l : Int), (Hc u : Int)) = some n → n = (Ir (Dp rows) (30 - a) l u : Int)
theorem Nj (hr : ∀ r ∈ rows, r.length = 30) (hl : rows.length ≤ 50) (hc : ∀ u : List Bool, u.length = rows.length → count (Hc u : Int) = some (G8 u : Int)) : ∀ (fu d l : Nat) (u : List Bool) (met : Xu), d ≤ 30 → d < fu → l ≤ 1000 → u.length = rows.length → Vn rows met →
    ∃ aa, BB fu ((30 - d : Nat) : Int) (l : Int) (Hc u : Int) rows count met = some ((Ir (Dp rows) d l u : Int), aa) ∧ Vn rows aa
  | 0, _, _, _, _, _, h, _, _, _ => by omega
  | fu + 1, d, l, u, met, hd, ao, ak, hu, hm => by
    unfold BB E5
    by_cases h0 : l = 0 ∨ d = 0
    · have e : (if (l : Int) = 0 then some true else some (decide (((30 - d : Nat) : Int) = 30))) = some true := by
        by_cases hz : l = 0
        · rw [if_pos (by omega)]
        · rw [if_neg (by omega), decide_eq_true (by omega)]
      refine ⟨met, ?_, hm⟩
      rw [e, Ax, if_pos rfl, hc u hu, Ax]
      have : Ir (Dp rows) d l u = G8 u := by
        rcases h0 with rfl | rfl
        · exact R1 d u
        · rfl
      rw [this]
    · have aq : l ≠ 0 := fun h => h0 (.inl h)
      have ar : d ≠ 0 := fun h => h0 (.inr h)
      obtain ⟨l', rfl⟩ : ∃ l', l = l' + 1 := ⟨l - 1, by omega⟩
      obtain ⟨d', rfl⟩ : ∃ d', d = d' + 1 := ⟨d - 1, by omega⟩
      have e : (if ((l' + 1 : Nat) : Int) = 0 then some true else some (decide (((30 - (d' + 1) : Nat) : Int) = 30))) = some false := by
        rw [if_neg (by omega), decide_eq_false (by omega)]
      rw [e, Ax, if_neg (by decide), Nx]
      cases hg : Gi met (((30 - (d' + 1) : Nat) : Int), ((l' + 1 : Nat) : Int), (Hc u : Int)) with
      | some n =>
        have := hm (30 - (d' + 1)) (l' + 1) u n (by omega) hu hg
        rw [show 30 - (30 - (d' + 1)) = d' + 1 by omega] at this
        exact ⟨met, by rw [if_pos (show (some n).isSome = true from rfl), this]; rfl, hm⟩
      | none =>
        have ef : ((30 - (d' + 1) : Nat) : Int) + 1 = ((30 - d' : Nat) : Int) := by omega
        have el : ((l' + 1 : Nat) : Int) - 1 = (l' : Int) := by omega
        rw [if_neg (by decide), BF (AT (by omega)), ef]
        obtain ⟨m2, g1, g2⟩ := Nj hr hl hc fu d' (l' + 1) u met (by omega) (by omega) ak hu hm
        rw [g1, Dt, UO hr hl (by omega), Ax, QU (by rw [hu, JO]) (by omega)]
        have af : (JF u (Dp rows (30 - (d' + 1)))).length = rows.length := by rw [Oo (by rw [hu, JO]), hu]
        have key : ∃ m3, (if ((Hc (JF u (Dp rows (30 - (d' + 1)))) : Nat) : Int) ≠ (Hc u : Int) then
            gd (Cm ((30 - d' : Nat) : Int)) <| gd (Cm (((l' + 1 : Nat) : Int) - 1)) <|
              b2 (BB fu ((30 - d' : Nat) : Int) (((l' + 1 : Nat) : Int) - 1) (Hc (JF u (Dp rows (30 - (d' + 1)))) : Int) rows count m2) fun n6 ae => some (ae, if n6 > (Ir (Dp rows) d' (l' + 1) u : Int) then n6 else (Ir (Dp rows) d' (l' + 1) u : Int))
            else some (m2, (Ir (Dp rows) d' (l' + 1) u : Int))) = some (m3, (Ir (Dp rows) (d' + 1) (l' + 1) u : Int)) ∧ Vn rows m3 := by
          have ev : Ir (Dp rows) (d' + 1) (l' + 1) u = max (Ir (Dp rows) d' (l' + 1) u) (Ir (Dp rows) d' l' (JF u (Dp rows (29 - d')))) := rfl
          have ah : 30 - (d' + 1) = 29 - d' := by omega
          by_cases hs : Hc (JF u (Dp rows (30 - (d' + 1)))) = Hc u
          · have ab := Qs (by rw [af, hu]) hs
            refine ⟨m2, ?_, g2⟩
            rw [if_neg (by rw [hs]; exact fun h => h rfl), ev, ← ah, ab, Nat.max_eq_left (T8 (by omega) (Nat.le_succ _) u)]
          · obtain ⟨m3, g3, g4⟩ := Nj hr hl hc fu d' l' (JF u (Dp rows (30 - (d' + 1)))) m2 (by omega) (by omega) (by omega) af g2
            refine ⟨m3, ?_, g4⟩
            rw [if_pos (fun h => hs (by omega)), BF (AT (by omega)), BF (AT (by omega)), el, g3, Dt, ev, ← ah]
            congr 2
            by_cases ai : (Ir (Dp rows) d' l' (JF u (Dp rows (30 - (d' + 1)))) : Int) > (Ir (Dp rows) d' (l' + 1) u : Int)
            · rw [if_pos ai, Nat.max_eq_right (by omega)]
            · rw [if_neg ai, Nat.max_eq_left (by omega)]
        obtain ⟨m3, k1, k2⟩ := key
        rw [k1, Dt, Nx]
        refine ⟨_, rfl, fun a l u' n ha aj ad => ?_⟩
        rw [TO] at ad
        by_cases hk : (((30 - (d' + 1) : Nat) : Int), ((l' + 1 : Nat) : Int), (Hc u : Int)) = ((a : Int), (l : Int), (Hc u' : Int))
        · rw [if_pos hk] at ad
          rw [Prod.mk.injEq, Prod.mk.injEq] at hk
          obtain ⟨k3, k4, k5⟩ := hk
          have e1 : a = 30 - (d' + 1) := by omega
          have e2 : l = l' + 1 := by omega
          have e3 : u' = u := (Qs (by rw [hu, aj]) (by omega)).symm
          subst e1 e2 e3
          rw [← Option.some.inj ad, show 30 - (30 - (d' + 1)) = d' + 1 by omega]
        · rw [if_neg hk] at ad
          exact k2 a l u' n ha aj ad
theorem Qg (hr : ∀ r ∈ rows, r.length = 30) (hl : rows.length ≤ 50) (hc : ∀ u : List Bool, u.length = rows.length → count (Hc u : Int) = some (G8 u : Int)) {all most : Nat} (ae : all ≤ Ir (Dp rows) 30 most (List.replicate rows.length false)) (aa : most ≤ 100) :
    ∀ (fu l : Nat) (met : Xu), l ≤ most → most - l < fu → Vn rows met → (∀ l', l' < l → Ir (Dp rows) 30 l' (List.replicate rows.length false) < all) →
      ∃ ab l2, Ci rows count (all : Int) fu met (l : Int) = some (ab, ((l2 : Nat) : Int)) ∧ Vn rows ab ∧ l2 ≤ most ∧ all ≤ Ir (Dp rows) 30 l2 (List.replicate rows.length false) ∧ ∀ l', l' < l2 → Ir (Dp rows) 30 l' (List.replicate rows.length false) < all
  | 0, _, _, _, h, _, _ => by omega
  | fu + 1, l, met, h1, h2, hm, ad => by
    unfold Ci
    obtain ⟨m2, g1, g2⟩ := Nj hr hl hc FU 30 l (List.replicate rows.length false) met (Nat.le_refl _) (by unfold FU; omega) (by omega) (by simp) hm
    rw [LS] at g1
    have af : BB FU 0 (l : Int) 0 rows count met = some ((Ir (Dp rows) 30 l (List.replicate rows.length false) : Int), m2) := g1
    rw [af, Dt]
    by_cases ah : Ir (Dp rows) 30 l (List.replicate rows.length false) < all
    · have ai : l ≠ most := fun h => by subst h; omega
      rw [if_pos (by omega), BF (AT (by omega)), show ((l : Int) + 1) = ((l + 1 : Nat) : Int) from rfl]
      exact Qg hr hl hc ae aa fu (l + 1) m2 (by omega) (by omega) g2 fun l' aj => by
        by_cases he : l' = l
        · rw [he]; exact ah
        · exact ad l' (by omega)
    · rw [if_neg (by omega)]
      exact ⟨m2, l, rfl, g2, h1, by omega, ad⟩
theorem Qi (hr : ∀ r ∈ rows, r.length = 30) (hl : rows.length ≤ 50) (hc : ∀ u : List Bool, u.length = rows.length → count (Hc u : Int) = some (G8 u : Int)) {all l s : Nat} {u : List Bool} (hu : u.length = rows.length) (ad : l ≤ 100) (hs : s < 30) (ae : all ≤ Ir (Dp rows) (30 - (s + 1)) l (JF u (Dp rows s))) {a0 : Nat} :
    ∀ (fu a : Nat) (met : Xu), a0 ≤ a → a ≤ s → s - a < fu → Vn rows met → (∀ t, a0 ≤ t → t < a → Ir (Dp rows) (30 - (t + 1)) l (JF u (Dp rows t)) < all) →
      ∃ aa s2, CL rows count (all : Int) ((l + 1 : Nat) : Int) (Hc u : Int) fu met (a : Int) = some (aa, ((s2 : Nat) : Int)) ∧ Vn rows aa ∧ a0 ≤ s2 ∧ s2 < 30 ∧ all ≤ Ir (Dp rows) (30 - (s2 + 1)) l (JF u (Dp rows s2)) ∧ ∀ t, a0 ≤ t → t < s2 → Ir (Dp rows) (30 - (t + 1)) l (JF u (Dp rows t)) < all
  | 0, _, _, _, _, h, _, _ => by omega
  | fu + 1, a, met, h0, h1, h2, hm, ab => by
    unfold CL
    have el : ((l + 1 : Nat) : Int) - 1 = (l : Int) := by omega
    have af : (JF u (Dp rows a)).length = rows.length := by rw [Oo (by rw [hu, JO]), hu]
    obtain ⟨m2, g1, g2⟩ := Nj hr hl hc FU (30 - (a + 1)) l (JF u (Dp rows a)) met (by omega) (by unfold FU; omega) (by omega) af hm
    have ea : ((30 - (30 - (a + 1)) : Nat) : Int) = (a : Int) + 1 := by omega
    rw [ea] at g1
    rw [BF (AT (by omega)), BF (AT (by omega)), UO hr hl (by omega), Ax, QU (by rw [hu, JO]) (by omega), el, g1, Dt]
    by_cases ah : Ir (Dp rows) (30 - (a + 1)) l (JF u (Dp rows a)) < all
    · have aj : a ≠ s := fun h => by subst h; omega
      rw [if_pos (by omega), BF (AT (by omega)), show ((a : Int) + 1) = ((a + 1 : Nat) : Int) from rfl]
      exact Qi hr hl hc hu ad hs ae fu (a + 1) m2 (by omega) (by omega) (by omega) g2 fun t ai ak => by
        by_cases he : t = a
        · rw [he]; exact ah
        · exact ab t ai (by omega)
    · rw [if_neg (by omega)]
      exact ⟨m2, a, rfl, g2, h0, by omega, by omega, ab⟩
theorem P3 (hr : ∀ r ∈ rows, r.length = 30) (hl : rows.length ≤ 50) (hc : ∀ u : List Bool, u.length = rows.length → count (Hc u : Int) = some (G8 u : Int)) {all : Nat} :
    ∀ (fu l a : Nat) (u : List Bool) (met : Xu) (acc : List Int), l < fu → l ≤ 100 → a ≤ 30 → u.length = rows.length → Vn rows met → acc.length + l ≤ 1000 → all ≤ Ir (Dp rows) (30 - a) l u → (∀ l', l = l' + 1 → Ir (Dp rows) (30 - a) l' u < all) →
      ∃ L, B0 rows count (all : Int) fu met (a : Int) (l : Int) (Hc u : Int) acc = some (acc ++ L.map Int.ofNat) ∧ Vh (Dp rows) all a l u L
  | 0, _, _, _, _, _, h, _, _, _, _, _, _, _ => by omega
  | fu + 1, 0, a, u, met, acc, _, _, _, _, _, _, _, _ => by
    unfold B0
    rw [if_neg (by omega)]
    exact ⟨[], by simp, .nil⟩
  | fu + 1, l + 1, a, u, met, acc, af, ah, ha, hu, hm, ai, ab, aa => by
    unfold B0
    obtain ⟨s, s1, s2, s3⟩ := Vg ha (aa l rfl) ab
    obtain ⟨m2, t, g1, g2, g3, g4, g5, g6⟩ := Qi hr hl hc hu (by omega) s2 s3 FU a met (Nat.le_refl _) s1 (by unfold FU; omega) hm (fun t h1 h2 => by omega)
    have ad : (JF u (Dp rows t)).length = rows.length := by rw [Oo (by rw [hu, JO]), hu]
    have el : ((l + 1 : Nat) : Int) - 1 = (l : Int) := by omega
    rw [if_pos (by omega), g1, Dt, Lp (by simp; omega), BF (AT (by omega)), BF (AT (by omega)), UO hr hl g4, Ax, QU (by rw [hu, JO]) (by omega), el, show ((t : Int) + 1) = ((t + 1 : Nat) : Int) from rfl]
    obtain ⟨L, k1, k2⟩ := P3 hr hl hc fu l (t + 1) (JF u (Dp rows t)) m2 (acc ++ [(t : Int)]) (by omega) (by omega) (by omega) ad g2 (by simp; omega) g5 (fun l' ae => by
      subst ae; exact UY g3 g4 (aa _ rfl))
    exact ⟨t :: L, by rw [k1]; simp, .cons g3 g4 g6 g5 k2⟩
theorem Tv (hr : ∀ r ∈ rows, r.length = 30) (hl : rows.length ≤ 50) (hc : ∀ u : List Bool, u.length = rows.length → count (Hc u : Int) = some (G8 u : Int)) {most : Nat} (hm : most ≤ 100) :
    ∃ L n, Dr rows count (most : Int) = some (L.map Int.ofNat, ((n : Nat) : Int)) ∧ ∀ p : Nat → Bool, (∀ s, p s = false → Dp rows s = List.replicate rows.length false) → Su (Dp rows) p (List.replicate rows.length false) (min most rows.length) L n := by
  have hM : Vn rows [] := fun a l u n _ _ h => by rw [Uz] at h; cases h
  have aa : JX (most : Int) [(rows.length : Int)] = some ((min most rows.length : Nat) : Int) := by
    unfold JX Ge Ge
    rw [Ax]
    congr 1
    by_cases h : (rows.length : Int) < (most : Int)
    · rw [if_pos h, Nat.min_eq_right (by omega)]
    · rw [if_neg h, Nat.min_eq_left (by omega)]
  have ab : min most rows.length ≤ 100 := Nat.le_trans (Nat.min_le_left ..) hm
  generalize hq : min most rows.length = q at *
  unfold Dr
  obtain ⟨m1, g1, g2⟩ := Nj hr hl hc FU 30 q (List.replicate rows.length false) [] (Nat.le_refl _) (by unfold FU; omega) (by omega) (by simp) hM
  rw [LS] at g1
  have ad : BB FU 0 (q : Int) 0 rows count [] = some ((Ir (Dp rows) 30 q (List.replicate rows.length false) : Int), m1) := g1
  rw [aa, Ax, ad, Dt]
  obtain ⟨m2, l, k1, k2, k3, k4, k5⟩ := Qg hr hl hc (Nat.le_refl (Ir (Dp rows) 30 q (List.replicate rows.length false))) ab FU 0 m1 (Nat.zero_le _) (by unfold FU; omega) g2 (fun l' h => by omega)
  have ae : Ci rows count (Ir (Dp rows) 30 q (List.replicate rows.length false) : Int) FU m1 0 = some (m2, (l : Int)) := k1
  rw [ae, Dt]
  obtain ⟨L, j1, j2⟩ := P3 (all := Ir (Dp rows) 30 q (List.replicate rows.length false)) hr hl hc FU l 0 (List.replicate rows.length false) m2 [] (by unfold FU; omega) (by omega) (by omega) (by simp) k2 (by simp; omega) k4 (fun l' h => k5 l' (by omega))
  rw [LS] at j1
  have af : B0 rows count (Ir (Dp rows) 30 q (List.replicate rows.length false) : Int) FU m2 0 (l : Int) 0 [] = some ([] ++ L.map Int.ofNat) := j1
  rw [af, Ax, List.nil_append]
  exact ⟨L, _, rfl, fun p hp => j2.NU (JO rows) (by simp) hp k3 k4 k5⟩
end
end Go.Proofs.YtkfbbjiniapooaaGreat
namespace Go.Hear
theorem QP : ∀ {l L : List Nat} {a : Nat}, l.Pairwise (· < ·) → (∀ s ∈ l, a ≤ s ∧ s < 30) → L.Sublist l → Mb a L
  | [], L, a, _, _, h => by rw [List.sublist_nil.1 h]; trivial
  | x :: l, L, a, hp, hr, h => by
    obtain ⟨h1, h2⟩ := List.pairwise_cons.1 hp
    have hx := hr x (List.mem_cons_self ..)
    have aa : ∀ s ∈ l, x + 1 ≤ s ∧ s < 30 := fun s hs => ⟨h1 s hs, (hr s (List.mem_cons_of_mem _ hs)).2⟩
    cases h with
    | cons _ h => exact Mb.TV (by omega) (QP h2 aa h)
    | cons_cons _ h => exact ⟨hx, QP h2 aa h⟩
theorem Ou : ∀ {l L : List Nat} {a : Nat}, l.Pairwise (· < ·) → Mb a L → (∀ s ∈ L, s ∈ l) → L.Sublist l
  | [], [], _, _, _, _ => .slnil
  | [], s :: L, _, _, _, h => by have := h s (List.mem_cons_self ..); simp at this
  | x :: l, [], _, _, _, _ => List.nil_sublist _
  | x :: l, s :: L, a, hp, hi, h => by
    obtain ⟨h1, h2⟩ := List.pairwise_cons.1 hp
    obtain ⟨i1, i2⟩ := hi
    have ab := i2.mem
    rcases List.mem_cons.1 (h s (List.mem_cons_self ..)) with rfl | hs
    · refine .cons_cons _ (Ou h2 i2 fun t ht => ?_)
      rcases List.mem_cons.1 (h t (List.mem_cons_of_mem _ ht)) with rfl | aa
      · have := ab t ht; omega
      · exact aa
    · refine .cons _ (Ou h2 ⟨i1, i2⟩ fun t ht => ?_)
      have ad := h1 s hs
      rcases List.mem_cons.1 ht with rfl | aa
      · exact hs
      · rcases List.mem_cons.1 (h t ht) with rfl | h3
        · have := ab t aa; omega
        · exact h3
theorem SQ {α : Type} (g f : α → Bool) : ∀ H : List α, JF (H.map g) (H.map f) = H.map fun h => g h || f h
  | [] => rfl
  | h :: H => by
    have := SQ g f H
    unfold JF at *
    rw [List.map_cons, List.map_cons, List.zipWith_cons_cons, this]; rfl
theorem MZ {α : Type} {f : Nat → α → Bool} {H : List α} : ∀ (L : List Nat) (g : α → Bool), NM (fun s => H.map (f s)) (H.map g) L = H.map fun h => g h || L.any fun s => f s h
  | [], g => by simp [NM]
  | s :: L, g => by
    show NM _ (JF (H.map g) (H.map (f s))) L = _
    rw [SQ, MZ L]
    congr 1
    funext h
    rw [List.any_cons, Bool.or_assoc]
theorem Oy {α : Type} (g : α → Bool) (H : List α) : G8 (H.map g) = H.countP g := by
  unfold G8
  rw [List.countP_map]; rfl
end Go.Hear
namespace Go.Proofs.YtkfbbjiniapooaaGreat
open Go.PL Go.Hear
section
variable {wide : Int} {ps : List Int} {w v : Int}
def SM (ps : List Int) : List Int → List Int → Int
  | _, [] => 0
  | pre, x :: r => if PZ ps x 1 ≠ 0 then PZ ps x 1 else if x ∈ pre then 5 else SM ps (pre ++ [x]) r
theorem SY (v : Int) : ∀ (l : List Int) (k : Int), 0 ≤ k → ∃ n, CD v l k = some n ∧ (0 ≤ n ↔ v ∈ l)
  | [], k, _ => ⟨-1, rfl, by simp⟩
  | x :: l, k, hk => by
    unfold CD
    by_cases h : v = x
    · exact ⟨k, if_pos h, by simp [h, hk]⟩
    · obtain ⟨n, h1, h2⟩ := SY v l (k + 1) (by omega)
      exact ⟨n, by rw [if_neg h]; exact h1, by rw [h2]; simp [h]⟩
theorem QA (l : List Int) (v : Int) : DN l v = some (decide (v ∈ l)) := by
  unfold DN FQ
  obtain ⟨n, h1, h2⟩ := SY v l 0 (Int.le_refl _)
  rw [h1, Ax]; congr 1; rw [decide_eq_decide]; exact h2
theorem has_eq (v : Int) : ∀ l : List Int, Eu l v = some (decide (v ∈ l))
  | [] => by unfold Eu Em Hu; simp
  | x :: l => by
    have := has_eq v l
    unfold Eu at this ⊢
    unfold Em
    by_cases h : x = v
    · rw [if_pos h]; simp [h]
    · rw [if_neg h, this]; congr 1; rw [decide_eq_decide, List.mem_cons]
      exact ⟨.inr, fun h' => h'.resolve_left (fun h' => h h'.symm)⟩
theorem Q1 (l : List Int) (k : Nat) : sl l 0 (k : Int) = l.take k := by
  unfold sl; rw [Int.toNat_natCast]; rfl
theorem R0 (hn : ps.length ≤ 1000) (H : List Int) : ∀ (r pre : List Int), H = pre ++ r → DL wide ps H r (pre.length : Int) = some (SM ps pre r)
  | [], pre, _ => rfl
  | x :: r, pre, h => by
    unfold DL SM
    have ih := R0 hn H r (pre ++ [x]) (by rw [h]; simp)
    rw [List.length_append, List.length_singleton] at ih
    have e : ((pre.length : Int) + 1) = ((pre.length + 1 : Nat) : Int) := rfl
    rw [W6 hn, Ax]
    by_cases h1 : PZ ps x 1 = 0
    · rw [if_neg (not_not_intro h1), if_neg (not_not_intro h1), BF ⟨by omega, by rw [h, List.length_append]; omega⟩, Nx, Q1, h, List.take_left, ← h, QA, Ax, e, ih]
      by_cases h2 : x ∈ pre
      · rw [if_pos (decide_eq_true h2), if_pos h2]
      · rw [if_neg (fun h => h2 (of_decide_eq_true h)), if_neg h2]
    · rw [if_pos h1, if_pos h1]
theorem P6 (hn : ps.length ≤ 1000) (H : List Int) : ∀ (r pre : List Int), H = pre ++ r → Db wide ps H r (pre.length : Int) = some (SM ps pre r)
  | [], pre, _ => rfl
  | x :: r, pre, h => by
    unfold Db SM
    have ih := P6 hn H r (pre ++ [x]) (by rw [h]; simp)
    rw [List.length_append, List.length_singleton] at ih
    have e : ((pre.length : Int) + 1) = ((pre.length + 1 : Nat) : Int) := rfl
    rw [UZ hn, Ax]
    by_cases h1 : PZ ps x 1 = 0
    · rw [if_neg (not_not_intro h1), if_neg (not_not_intro h1), BF ⟨by omega, by rw [h, List.length_append]; omega⟩, Nx, Q1, h, List.take_left, ← h, has_eq, Ax, e, ih]
      by_cases h2 : x ∈ pre
      · rw [if_pos (decide_eq_true h2), if_pos h2]
      · rw [if_neg (fun h => h2 (of_decide_eq_true h)), if_neg h2]
    · rw [if_pos h1, if_pos h1]
theorem UD : ∀ {r pre : List Int}, SM ps pre r = 0 → ∀ x ∈ r, (0 ≤ x ∧ x < ps.length) ∧ ps.getD x.toNat 0 = 1
  | [], _, _, x, hx => by simp at hx
  | y :: r, pre, h, x, hx => by
    unfold SM at h
    by_cases h1 : PZ ps y 1 = 0
    · rw [if_neg (not_not_intro h1)] at h
      by_cases h2 : y ∈ pre
      · rw [if_pos h2] at h; cases h
      · rw [if_neg h2] at h
        rcases List.mem_cons.1 hx with rfl | hx
        · exact SE h1
        · exact UD h x hx
    · rw [if_pos h1] at h; exact absurd h h1
def Kz (wide : Int) (ps : List Int) (w v : Int) (H : List Int) : Int := if KX wide ps w v ≠ 0 then KX wide ps w v else SM ps [] H
def EP (wide : Int) (ps : List Int) (w v : Int) (H : List Int) : List (List Bool) := H.map fun h => Is wide ps w v ps.length h.toNat
theorem Q9 : ∀ (r : List Int) (acc : List (List Bool)), (∀ x ∈ r, 0 ≤ x ∧ x < ps.length) → acc.length + r.length ≤ 100000 → E7 (T4 wide ps w v) r acc = some (acc ++ EP wide ps w v r)
  | [], acc, _, _ => by unfold E7 EP; simp
  | x :: r, acc, h, hl => by
    simp only [List.length_cons] at hl
    have hx := h x (List.mem_cons_self ..)
    unfold E7 T4
    rw [Na (x := Is wide ps w v ps.length x.toNat) hx.1 (Hk _ (by omega)), Lp (by simp; omega)]
    have := Q9 r (acc ++ [Is wide ps w v ps.length x.toNat]) (fun y hy => h y (List.mem_cons_of_mem _ hy)) (by simp; omega)
    unfold T4 at this
    rw [this]
    unfold EP
    simp
theorem JT (hn : ps.length ≤ 1000) (H : List Int) (hH : H.length ≤ 1000) : Ft wide ps w v H = some (if Kz wide ps w v H = 0 then EP wide ps w v H else [], decide (Kz wide ps w v H = 0), Kz wide ps w v H) := by
  unfold Ft
  rw [U2 hn, Dt]
  by_cases h : KX wide ps w v = 0
  · have e : Kz wide ps w v H = SM ps [] H := by unfold Kz; rw [if_neg (not_not_intro h)]
    have aa : H2 wide ps H = some (SM ps [] H) := R0 hn H H [] rfl
    rw [if_neg (not_not_intro h), if_pos h, aa, Ax, e]
    by_cases h2 : SM ps [] H = 0
    · rw [if_neg (not_not_intro h2), if_pos h2, Q9 H [] (fun x hx => (UD h2 x hx).1) (by simpa using Nat.le_trans hH (by decide)), Ax, decide_eq_true h2, h2]; rfl
    · rw [if_pos h2, if_neg h2, decide_eq_false h2]
  · have e : Kz wide ps w v H = KX wide ps w v := by unfold Kz; rw [if_pos h]
    rw [if_pos h, e, if_neg h, decide_eq_false h]
theorem JC (hn : ps.length ≤ 1000) (H : List Int) : DG wide ps w v H = some (Kz wide ps w v H) := by
  unfold DG Kz KX
  have aa : Db wide ps H H 0 = some (SM ps [] H) := P6 hn H H [] rfl
  rw [Qb hn, Ax]
  by_cases h1 : PU wide ps = 0
  · rw [if_neg (not_not_intro h1), if_neg (not_not_intro h1), Ql, Ax]
    by_cases h2 : PJ w v = 0
    · rw [if_neg (not_not_intro h2), if_neg (not_not_intro h2), aa]
    · rw [if_pos h2, if_pos h2]
  · rw [if_pos h1, if_pos h1, if_pos h1]
def WX (wide : Int) (ps : List Int) (w v : Int) (H : List Int) (s : Nat) : List Bool := H.map fun h => decide (s < ps.length) && MQ wide ps w v s h.toNat
theorem Qm (hn : ps.length ≤ 30) (H : List Int) : Dp (EP wide ps w v H) = WX wide ps w v H := by
  funext s
  unfold Dp EP WX
  rw [List.map_map]
  congr 1
  funext h
  show (Is wide ps w v ps.length h.toNat).getD s false = _
  unfold Is
  by_cases hs : s < 30
  · rw [List.getD_eq_getElem?_getD, Hk _ hs]; rfl
  · rw [List.getD_eq_getElem?_getD, List.getElem?_eq_none (by rw [IN]; omega), decide_eq_false (by omega), Bool.false_and]; rfl
def Lj (ps : List Int) : List Nat := (List.range ps.length).filter fun s => decide (ps.getD s 0 = 0)
theorem M6 {s : Nat} : s ∈ Lj ps ↔ s < ps.length ∧ ps.getD s 0 = 0 := by
  unfold Lj; rw [List.mem_filter, List.mem_range, decide_eq_true_iff]
theorem JJ : (Lj ps).Pairwise (· < ·) := List.pairwise_lt_range.filter _
def WC (ps : List Int) (s : Nat) : Bool := decide (s < ps.length) && decide (ps.getD s 0 = 0)
theorem WY {H : List Int} {s : Nat} (h : WC ps s = false) : WX wide ps w v H s = List.replicate H.length false := by
  unfold WX
  rw [List.eq_replicate_iff]
  refine ⟨by simp, fun b hb => ?_⟩
  obtain ⟨x, _, rfl⟩ := List.mem_map.1 hb
  unfold WC at h
  by_cases h1 : s < ps.length
  · rw [decide_eq_true h1, Bool.true_and] at h
    rw [Sg (of_decide_eq_false h), Bool.and_false]
  · rw [decide_eq_false h1, Bool.false_and]
theorem N5 : ∀ (r : List Int) (k : Nat), ps.drop k = r → k ≤ ps.length → ps.length ≤ 1000 → Cj r (k : Int) (IP (fun s => decide (ps.getD s 0 = 0)) k) = some (IP (fun s => decide (ps.getD s 0 = 0)) ps.length)
  | [], k, hr, hk, _ => by
    have h := congrArg List.length hr
    rw [List.length_drop, List.length_nil] at h
    have : k = ps.length := by omega
    subst this; rfl
  | x :: r, k, hr, _, hn => by
    obtain ⟨hk, hx, aa⟩ := KK hr
    have ih := N5 r (k + 1) aa (by omega) hn
    have hlen := LM (fun s => decide (ps.getD s 0 = 0)) k
    unfold Cj
    rw [show ((k : Int) + 1) = ((k + 1 : Nat) : Int) from rfl, ← ih, IY, hx]
    by_cases h : x = 0
    · rw [if_pos h, if_pos (decide_eq_true h), Lp (by rw [List.length_append, List.length_singleton]; omega)]
    · rw [if_neg h, if_neg (fun h' => h (of_decide_eq_true h')), List.append_nil]
theorem N9 (hn : ps.length ≤ 1000) : D3 wide ps = some ((Lj ps).map Int.ofNat) := by
  unfold D3
  have := N5 (ps := ps) ps 0 rfl (Nat.zero_le _) hn
  have h1 : Cj ps 0 [] = _ := this
  rw [h1, Ax]; rfl
theorem Rn (x : Int) : ∀ (Q acc : List (List Int)), (∀ l ∈ Q, l.length ≤ 1000) → acc.length + Q.length ≤ 1000000 → CU x Q acc = some (acc ++ Q.map (x :: ·))
  | [], acc, _, _ => by unfold CU; simp
  | l :: Q, acc, h, hl => by
    simp only [List.length_cons] at hl
    have := h l (List.mem_cons_self ..)
    unfold CU
    rw [Lp (by simp; omega), Lp (by simp; omega), Rn x Q _ (fun l hl => h l (List.mem_cons_of_mem _ hl)) (by simp; omega)]
    simp
theorem Ra {k : Nat} {rec_ : List Int → Int → Option (List (List Int))} (full : List Nat) (hf : full.length ≤ 12) (aa : ∀ l : List Nat, l.length ≤ 12 → rec_ (l.map Int.ofNat) (k : Int) = some ((JV l k).map (·.map Int.ofNat))) (hk : k ≤ 100) : ∀ (r pre : List Nat) (acc : List (List Int)), full = pre ++ r → acc.length + r.length * 8192 ≤ 900000 →
    CB (full.map Int.ofNat) ((k + 1 : Nat) : Int) rec_ (r.map Int.ofNat) (pre.length : Int) acc = some (acc ++ (JV r (k + 1)).map (·.map Int.ofNat))
  | [], pre, acc, _, _ => by
    unfold CB
    simp [Pa]
  | x :: r, pre, acc, h, hl => by
    simp only [List.length_cons] at hl
    have ad : full.length = pre.length + (r.length + 1) := by rw [h]; simp
    have hs := LQ r k
    have hp : 2 ^ r.length ≤ 4096 := Nat.le_trans (Nat.pow_le_pow_right (by decide) (show r.length ≤ 12 by omega)) (by decide)
    have ab : sl (full.map Int.ofNat) ((pre.length : Int) + 1) ((full.map Int.ofNat).length : Int) = r.map Int.ofNat := by
      unfold sl
      rw [Int.toNat_natCast, List.take_length, show ((pre.length : Int) + 1).toNat = pre.length + 1 by omega, ← List.map_drop, h]
      congr 1
      rw [show pre ++ x :: r = (pre ++ [x]) ++ r by simp, show pre.length + 1 = (pre ++ [x]).length by simp, List.drop_left]
    unfold CB
    rw [List.map_cons]
    dsimp only
    rw [BF ⟨by rw [List.length_map]; omega, Int.le_refl _⟩, Nx, ab, BF (AT (by omega)), show ((k + 1 : Nat) : Int) - 1 = (k : Int) by omega, aa r (by omega), Ax]
    rw [Rn _ _ acc (fun l hl => by
      obtain ⟨L, h1, rfl⟩ := List.mem_map.1 hl
      have := (Hp.1 h1).2
      rw [List.length_map]; omega) (by rw [List.length_map]; omega), Ax]
    have ih := Ra (k := k) (rec_ := rec_) full hf aa hk r (pre ++ [x]) (acc ++ ((JV r k).map (·.map Int.ofNat)).map (Int.ofNat x :: ·)) (by rw [h]; simp) (by rw [List.length_append, List.length_map, List.length_map]; omega)
    rw [List.length_append, List.length_singleton] at ih
    rw [show ((pre.length : Int) + 1) = ((pre.length + 1 : Nat) : Int) from rfl, ih]
    congr 1
    have es : JV (x :: r) (k + 1) = (JV r k).map (x :: ·) ++ JV r (k + 1) := rfl
    rw [es, List.map_append, List.append_assoc, List.map_map, List.map_map]
    rfl
theorem OY : ∀ (fu k : Nat) (l : List Nat), k < fu → k ≤ 100 → l.length ≤ 12 → CC fu (l.map Int.ofNat) (k : Int) = some ((JV l k).map (·.map Int.ofNat))
  | 0, _, _, h, _, _ => absurd h (Nat.not_lt_zero _)
  | fu + 1, 0, l, _, _, _ => by
    unfold CC Gk
    rw [if_pos (show ((0 : Nat) : Int) = 0 from rfl)]
    have : JV l 0 = [[]] := by cases l <;> rfl
    rw [this]; rfl
  | fu + 1, k + 1, l, h, hk, hl => by
    unfold CC Gk
    rw [if_neg (by omega)]
    have := Ra (k := k) (rec_ := CC fu) l hl (fun l' aa => OY fu k l' (by omega) (by omega) aa) (by omega) l [] [] rfl (by rw [List.length_nil]; omega)
    have h1 : CB (l.map Int.ofNat) ((k + 1 : Nat) : Int) (CC fu) (l.map Int.ofNat) 0 [] = _ := this
    rw [h1, Ax]; rfl
theorem NX {p : Nat} (hp : p < ps.length) : ∀ (L : List Nat) (b : Bool), CA (Im wide ps w v) (p : Int) (L.map Int.ofNat) b = some (b || L.any fun s => decide (s < ps.length) && MQ wide ps w v s p)
  | [], b => by unfold CA; simp
  | s :: L, b => by
    rw [List.map_cons]
    unfold CA
    rw [List.any_cons]
    cases b with
    | true => rw [if_pos rfl, NX hp L true]; simp
    | false =>
      have e : decide ((Int.ofNat s) ∈ LV wide ps w v ps.length p) = (decide (s < ps.length) && MQ wide ps w v s p) := by
        unfold LV
        rw [Bool.eq_iff_iff, decide_eq_true_iff, OU, Bool.and_eq_true, decide_eq_true_iff]
        have e2 : (Int.ofNat s).toNat = s := rfl
        rw [e2]
        constructor
        · rintro ⟨⟨_, h1⟩, h2⟩
          exact ⟨by have : (s : Int) < ps.length := h1; omega, h2⟩
        · rintro ⟨h1, h2⟩
          exact ⟨⟨Int.natCast_nonneg s, by show (s : Int) < _; omega⟩, h2⟩
      unfold Im
      rw [if_neg (by decide), Na (x := LV wide ps w v ps.length p) (by omega) (Hk _ (by omega)), has_eq, Ax, e]
      have := NX hp L (decide (s < ps.length) && MQ wide ps w v s p)
      unfold Im at this
      rw [this, Bool.false_or]
theorem Qe (L : List Nat) : ∀ (H : List Int) (n : Int), (∀ x ∈ H, 0 ≤ x ∧ x < ps.length) → 0 ≤ n → n + H.length ≤ 100000 → CT (Im wide ps w v) (L.map Int.ofNat) H n = some (n + ((H.countP fun h => L.any fun s => decide (s < ps.length) && MQ wide ps w v s h.toNat : Nat) : Int))
  | [], n, _, _, _ => by unfold CT; simp
  | x :: H, n, h, h0, hn => by
    simp only [List.length_cons] at hn
    have hx := h x (List.mem_cons_self ..)
    have hs := NX (wide := wide) (ps := ps) (w := w) (v := v) (p := x.toNat) (by omega) L false
    rw [Int.toNat_of_nonneg hx.1, Bool.false_or] at hs
    unfold CT
    rw [hs, Ax, List.countP_cons]
    have ih := fun m => Qe L H m (fun y hy => h y (List.mem_cons_of_mem _ hy))
    cases hb : L.any fun s => decide (s < ps.length) && MQ wide ps w v s x.toNat with
    | true =>
      rw [if_pos rfl, BF (AT (by omega)), Ax, ih (n + 1) (by omega) (by omega), if_pos rfl]
      congr 1; omega
    | false =>
      rw [if_neg (by decide), Ax, ih n h0 (by omega), if_neg (by decide)]
      rfl
theorem TW {H : List Int} (hH : ∀ x ∈ H, 0 ≤ x ∧ x < ps.length) (hl : H.length ≤ 1000) (L : List Nat) : DV (Im wide ps w v) H (L.map Int.ofNat) = some ((G8 (NM (WX wide ps w v H) (List.replicate H.length false) L) : Nat) : Int) := by
  unfold DV
  rw [Qe L H 0 hH (by omega) (by omega), Ax, Int.zero_add]
  have e : List.replicate H.length false = H.map fun _ => false := by
    induction H with
    | nil => rfl
    | cons x H ih => rw [List.length_cons, List.replicate_succ, List.map_cons]; congr 1; exact ih (fun y hy => hH y (List.mem_cons_of_mem _ hy)) (by simp only [List.length_cons] at hl; omega)
  have e2 : WX wide ps w v H = fun s => H.map ((fun (s : Nat) (h : Int) => decide (s < ps.length) && MQ wide ps w v s h.toNat) s) := rfl
  rw [e, e2, MZ, Oy]
  simp only [Bool.false_or]
end
end Go.Proofs.YtkfbbjiniapooaaGreat
namespace Go.Proofs.YtkfbbjiniapooaaGreat
open Go.PL Go.Hear
section
variable {wide : Int} {ps : List Int} {w v : Int}
theorem Qo : ∀ (l : List Int) (n : Int), 0 ≤ n → n + l.length ≤ 1000000 → B3 l n = some (n + ((l.countP fun x => decide (x = 0) : Nat) : Int))
  | [], n, _, _ => by unfold B3; simp
  | x :: l, n, h0, h => by
    simp only [List.length_cons] at h
    unfold B3
    rw [List.countP_cons]
    by_cases hx : x = 0
    · rw [if_pos hx, BF (AT (by omega)), Qo l (n + 1) (by omega) (by omega), if_pos (decide_eq_true hx)]
      congr 1; omega
    · rw [if_neg hx, Qo l n h0 (by omega), if_neg (fun h' => hx (of_decide_eq_true h'))]
      rfl
theorem TX : ∀ ps : List Int, (Lj ps).length = ps.countP fun x => decide (x = 0) := fun ps => by
  unfold Lj
  rw [← List.countP_eq_length_filter]
  have : ps = (List.range ps.length).map fun s => ps.getD s 0 := by
    apply List.ext_getElem
    · simp
    · intro i h1 h2
      simp [List.getD_eq_getElem?_getD, h1]
  conv => rhs; rw [this]
  rw [List.countP_map]
  rfl
end
section
variable {wide : Int} {ps : List Int} {w v : Int} {H : List Int} {BC : Int}
end
end Go.Proofs.YtkfbbjiniapooaaGreat
namespace Go.Proofs.YtkfbbjiniapooaaGreat
open Go.PL Go.Hear
def JY (p : List Bool) : List (List Bool) → List (List Bool)
  | [] => []
  | y :: l => if y = p then JY p l else y :: JY y l
def R2 : List (List Bool) → List (List Bool)
  | [] => []
  | x :: l => x :: JY x l
theorem O3 {z : List Bool} : ∀ {p : List Bool} {l : List (List Bool)}, (z ∈ JY p l ∨ z = p) ↔ (z ∈ l ∨ z = p)
  | p, [] => by simp [JY]
  | p, y :: l => by
    unfold JY
    by_cases h : y = p
    · rw [if_pos h, O3, List.mem_cons]
      constructor
      · rintro (h1 | h1)
        · exact .inl (.inr h1)
        · exact .inr h1
      · rintro ((h1 | h1) | h1)
        · exact .inr (h1.trans h)
        · exact .inl h1
        · exact .inr h1
    · have ih := O3 (z := z) (p := y) (l := l)
      rw [if_neg h, List.mem_cons, List.mem_cons]
      constructor
      · rintro ((h1 | h1) | h1)
        · exact .inl (.inl h1)
        · rcases ih.1 (.inl h1) with h2 | h2
          · exact .inl (.inr h2)
          · exact .inl (.inl h2)
        · exact .inr h1
      · rintro ((h1 | h1) | h1)
        · exact .inl (.inl h1)
        · rcases ih.2 (.inl h1) with h2 | h2
          · exact .inl (.inr h2)
          · exact .inl (.inl h2)
        · exact .inr h1
theorem Nc {z : List Bool} : ∀ {l : List (List Bool)}, z ∈ R2 l ↔ z ∈ l
  | [] => Iff.rfl
  | x :: l => by
    have h := O3 (z := z) (p := x) (l := l)
    unfold R2
    rw [List.mem_cons, List.mem_cons, or_comm, h, or_comm]
theorem Pe : ∀ (p : List Bool) (l : List (List Bool)), (JY p l).length ≤ l.length
  | _, [] => Nat.le_refl _
  | p, y :: l => by
    unfold JY
    split
    · have := Pe p l; rw [List.length_cons]; omega
    · have := Pe y l; rw [List.length_cons, List.length_cons]; omega
theorem SW : ∀ l : List (List Bool), (R2 l).length ≤ l.length
  | [] => Nat.le_refl _
  | x :: l => by have := Pe x l; unfold R2; rw [List.length_cons, List.length_cons]; omega
theorem X0 {l : List (List Bool)} {i : Nat} (h : i < l.length) : l[i]? = some (l.getD i []) := Oz h
theorem Wm {β : Type} {xs : List (List Bool)} {i : Nat} (f : List Bool → Option β) (h : i < xs.length) : ix xs (i : Int) f = f (xs.getD i []) := Na (by omega) (by rw [Int.toNat_natCast]; exact X0 h)
theorem Pf {o : List (List Bool)} {k : Nat} (hk : k < o.length) (hn : o.length ≤ 100000) : ∀ (rest : List (List Bool)) (fu j : Nat) (s A : List (List Bool)), rest.length < fu → o.drop (k + j) = rest → 1 ≤ j → s.length = o.length → s.take A.length = A → s.drop A.length = o.drop A.length → A.length + 1 ≤ k + j → k ≤ A.length →
    ∃ s' B, A8 (k : Int) fu s (A.length : Int) (j : Int) = some (s', (B.length : Int)) ∧ B = A ++ JY (o.getD (k + j - 1) []) rest ∧ s'.length = o.length ∧ s'.take B.length = B ∧ B.length ≤ o.length
  | _, 0, _, _, _, h, _, _, _, _, _, _, _ => absurd h (Nat.not_lt_zero _)
  | [], fu + 1, j, s, A, _, hd, hj, hs, h1, h2, h3, h4 => by
    have hle : o.length ≤ k + j := List.drop_eq_nil_iff.1 hd
    have hA : A.length ≤ s.length := by
      have := congrArg List.length h1
      rw [List.length_take] at this; omega
    refine ⟨s, A, ?_, by simp [JY], hs, h1, by omega⟩
    unfold A8
    rw [Int.toNat_natCast, if_neg (by omega)]
  | x :: rest, fu + 1, j, s, A, hf, hd, hj, hs, h1, h2, h3, h4 => by
    rw [List.length_cons] at hf
    have aa : k + j < o.length := by
      rcases Nat.lt_or_ge (k + j) o.length with h' | h'
      · exact h'
      · rw [List.drop_eq_nil_of_le h'] at hd; cases hd
    have hg : o.getD (k + j) [] = x := by
      rw [List.drop_eq_getElem_cons aa] at hd
      rw [List.getD_eq_getElem?_getD, List.getElem?_eq_getElem aa]
      exact (List.cons.inj hd).1
    have ab : o.drop (k + (j + 1)) = rest := by
      rw [List.drop_eq_getElem_cons aa] at hd
      rw [show k + (j + 1) = k + j + 1 by omega]
      exact (List.cons.inj hd).2
    have hA : A.length ≤ s.length := by
      have := congrArg List.length h1
      rw [List.length_take] at this; omega
    have rd : ∀ i, A.length ≤ i → s.getD i [] = o.getD i [] := fun i hi => by
      have e1 : s.getD i [] = (s.drop A.length).getD (i - A.length) [] := by
        rw [List.getD_eq_getElem?_getD, List.getD_eq_getElem?_getD, List.getElem?_drop, show A.length + (i - A.length) = i by omega]
      have e2 : o.getD i [] = (o.drop A.length).getD (i - A.length) [] := by
        rw [List.getD_eq_getElem?_getD, List.getD_eq_getElem?_getD, List.getElem?_drop, show A.length + (i - A.length) = i by omega]
      rw [e1, e2, h2]
    have ad : ∀ i, A.length ≤ k + i → (s.drop k).getD i [] = o.getD (k + i) [] := fun i hi => by
      rw [List.getD_eq_getElem?_getD, List.getElem?_drop, ← List.getD_eq_getElem?_getD, rd _ hi]
    have hlen : (s.drop k).length = o.length - k := by rw [List.length_drop, hs]
    have ih := Pf hk hn rest fu (j + 1)
    unfold A8
    rw [Int.toNat_natCast, if_pos (by rw [hs]; omega), Wm _ (by omega), BF (AT (by omega)), show (j : Int) - 1 = ((j - 1 : Nat) : Int) by omega, Wm _ (by omega), ad j (by omega), ad (j - 1) (by omega), hg, show k + (j - 1) = k + j - 1 by omega]
    by_cases hx : x = o.getD (k + j - 1) []
    · have e : JY (o.getD (k + j - 1) []) (x :: rest) = JY (o.getD (k + (j + 1) - 1) []) rest := by
        rw [show k + (j + 1) - 1 = k + j by omega, hg]
        show (if x = _ then _ else _) = _
        rw [if_pos hx, ← hx]
      obtain ⟨s', B, q1, q2, q3⟩ := ih s A (by omega) ab (by omega) hs h1 h2 (by omega) h4
      rw [if_neg (fun h => h hx), BF (AT (by omega)), show (j : Int) + 1 = ((j + 1 : Nat) : Int) by omega]
      exact ⟨s', B, q1, by rw [q2, e], q3⟩
    · have e : JY (o.getD (k + j - 1) []) (x :: rest) = x :: JY (o.getD (k + (j + 1) - 1) []) rest := by
        rw [show k + (j + 1) - 1 = k + j by omega, hg]
        show (if x = _ then _ else _) = _
        rw [if_neg hx]
      have ae : A.length < s.length := by omega
      obtain ⟨s', B, q1, q2, q3⟩ := ih (s.set A.length x) (A ++ [x]) (by omega) ab (by omega) (by rw [List.length_set]; exact hs) (by
        rw [List.length_append, List.length_singleton, List.take_add_one, List.getElem?_set_self ae, List.take_set_of_le (Nat.le_refl _), h1]; rfl) (by
        rw [List.length_append, List.length_singleton, List.drop_set_of_lt (by omega)]
        have := congrArg (List.drop 1) h2
        rw [List.drop_drop, List.drop_drop] at this
        exact this) (by simp; omega) (by simp; omega)
      rw [List.length_append, List.length_singleton] at q1
      rw [if_pos hx, Wm _ ae, Nx, Int.toNat_natCast, BF (AT (by omega)), BF (AT (by omega)), show (j : Int) + 1 = ((j + 1 : Nat) : Int) by omega, show (A.length : Int) + 1 = ((A.length + 1 : Nat) : Int) by omega]
      exact ⟨s', B, q1, by rw [q2, e, List.append_assoc]; rfl, q3⟩
theorem OW {o : List (List Bool)} (hn : o.length ≤ 100000) : ∀ (fu k : Nat), 1 ≤ k → k + fu = o.length → Bd o fu (k : Int) = some (o.take k ++ JY (o.getD (k - 1) []) (o.drop k))
  | 0, k, _, hf => by
    unfold Bd Cs
    rw [List.drop_eq_nil_of_le (by omega), List.take_of_length_le (by omega)]
    simp [JY]
  | fu + 1, k, h1, hf => by
    have hk : k < o.length := by omega
    have hd : o.drop k = o.getD k [] :: o.drop (k + 1) := by
      rw [List.drop_eq_getElem_cons hk, List.getD_eq_getElem?_getD, List.getElem?_eq_getElem hk]; rfl
    unfold Bd
    rw [Wm _ hk, BF (AT (by omega)), show (k : Int) - 1 = ((k - 1 : Nat) : Int) by omega, Wm _ (by omega)]
    by_cases hx : o.getD k [] = o.getD (k - 1) []
    · obtain ⟨s', B, q1, q2, q3, q4, q5⟩ := Pf hk hn (o.drop (k + 1)) FU 1 o (o.take k) (by rw [List.length_drop]; unfold FU; omega) rfl (Nat.le_refl _) rfl (by rw [List.length_take, Nat.min_eq_left (by omega)]) (by rw [List.length_take, Nat.min_eq_left (by omega)]) (by rw [List.length_take]; omega) (by rw [List.length_take]; omega)
      rw [List.length_take, Nat.min_eq_left (by omega)] at q1
      have aa : A8 (k : Int) FU o (k : Int) 1 = some (s', (B.length : Int)) := q1
      have e : JY (o.getD (k - 1) []) (o.drop k) = JY (o.getD (k + 1 - 1) []) (o.drop (k + 1)) := by
        rw [hd, show k + 1 - 1 = k by omega]
        show (if _ = _ then _ else _) = _
        rw [if_pos hx, hx]
      rw [if_pos hx, BF ⟨by omega, by omega⟩, aa, Dt, BF ⟨by omega, by omega⟩, Nx, Int.toNat_natCast, BF ⟨⟨Int.le_refl _, by omega⟩, by rw [List.length_append, List.length_take, List.length_replicate]; omega⟩, Nx, q4]
      have ab : sl (B ++ List.replicate (s'.length - B.length) (List.replicate 30 false)) 0 (B.length : Int) = B := by
        unfold sl
        rw [Int.toNat_natCast, List.take_left]; rfl
      rw [ab, q2, e]
    · have e : o.take k ++ JY (o.getD (k - 1) []) (o.drop k) = o.take (k + 1) ++ JY (o.getD (k + 1 - 1) []) (o.drop (k + 1)) := by
        rw [hd, show k + 1 - 1 = k by omega, List.take_add_one, List.getElem?_eq_getElem hk]
        have e2 : JY (o.getD (k - 1) []) (o.getD k [] :: o.drop (k + 1)) = o.getD k [] :: JY (o.getD k []) (o.drop (k + 1)) := by
          show (if _ = _ then _ else _) = _
          rw [if_neg hx]
        rw [e2, List.append_assoc]
        have e3 : o.getD k [] = o[k] := by rw [List.getD_eq_getElem?_getD, List.getElem?_eq_getElem hk]; rfl
        rw [e3]; rfl
      rw [if_neg hx]
      unfold Ct
      rw [show (((k : Nat) : Int) + 1) = ((k + 1 : Nat) : Int) by omega, e]
      exact OW hn fu (k + 1) (by omega) (by omega)
theorem So {o : List (List Bool)} (hn : o.length ≤ 100000) : B4 o = some (R2 o) := by
  unfold B4
  by_cases h : (o.length : Int) < 2
  · rw [if_pos h]
    match o, h with
    | [], _ => rfl
    | [x], _ => rfl
    | _ :: _ :: _, h => simp at h; omega
  · rw [if_neg h, BF ⟨AT (by omega), AT (by omega)⟩, show Int.toNat ((o.length : Int) - 1) = o.length - 1 by omega, show (1 : Int) = ((1 : Nat) : Int) from rfl, OW hn (o.length - 1) 1 (Nat.le_refl _) (by omega)]
    match o, h with
    | x :: l, _ => rfl
    | [], h => simp at h
theorem Tp {xs : List (List Bool)} (h : xs.length ≤ 1000000) : Ch xs = some xs := by
  unfold Ch Oe
  rw [Lp (by simp; omega), List.nil_append]
  by_cases h1 : xs = []
  · rw [if_pos h1, h1]; rfl
  · rw [if_neg h1]
def PS (R : List (List Bool)) (L : List Nat) : Prop := ∀ r ∈ R, ∃ s ∈ L, r.getD s false = true
theorem OA (R : List (List Bool)) (L : List Nat) : G8 (NM (Dp R) (List.replicate R.length false) L) = R.length ↔ PS R L := by
  have e0 : List.replicate R.length false = R.map fun _ => false := by
    rw [List.map_const']
  have e1 : Dp R = fun s => R.map fun r => r.getD s false := rfl
  rw [e0, e1, MZ, Oy]
  simp only [Bool.false_or]
  rw [List.countP_eq_length]
  constructor
  · intro h r hr
    have := h r hr
    rw [List.any_eq_true] at this
    exact this
  · intro h r hr
    rw [List.any_eq_true]
    exact h r hr
theorem PS.R2 {R : List (List Bool)} {L : List Nat} : PS (R2 R) L ↔ PS R L :=
  ⟨fun h r hr => h r (Nc.2 hr), fun h r hr => h r (Nc.1 hr)⟩
structure Ng (R : List (List Bool)) (L : List Nat) : Prop where
  inc : Mb 0 L
  all : PS R L
  len : L.length ≤ R.length
  min : ∀ L', Mb 0 L' → PS R L' → L.length < L'.length ∨ (L.length = L'.length ∧ HN L L')
  use : ∀ p : Nat → Bool, (∀ s, p s = false → Dp R s = List.replicate R.length false) → ∀ s ∈ L, p s = true
theorem Se {p : Nat → Bool} : ∀ (n a : Nat), a + n ≤ 30 → Mb a ((List.range' a n).filter p)
  | 0, _, _ => trivial
  | n + 1, a, h => by
    have ih := Se (p := p) n (a + 1) (by omega)
    rw [List.range'_succ]
    cases hp : p a with
    | true => rw [List.filter_cons_of_pos hp]; exact ⟨⟨Nat.le_refl _, by omega⟩, ih⟩
    | false => rw [List.filter_cons_of_neg (by rw [hp]; decide)]; exact ih.TV (by omega)
theorem Wr {R : List (List Bool)} (h : ∀ r ∈ R, ∃ s, s < 30 ∧ r.getD s false = true) : ∃ L, Mb 0 L ∧ L.length ≤ R.length ∧ PS R L := by
  have key : ∀ R : List (List Bool), (∀ r ∈ R, ∃ s, s < 30 ∧ r.getD s false = true) → ∃ C : List Nat, C.length = R.length ∧ (∀ s ∈ C, s < 30) ∧ PS R C := by
    intro R
    induction R with
    | nil => intro _; exact ⟨[], rfl, (fun _ h => nomatch h), fun _ h => nomatch h⟩
    | cons r R ih =>
      intro h
      obtain ⟨C, h1, h2, h3⟩ := ih fun x hx => h x (List.mem_cons_of_mem _ hx)
      obtain ⟨s, h4, h5⟩ := h r (List.mem_cons_self ..)
      refine ⟨s :: C, by rw [List.length_cons, h1, List.length_cons], fun x hx => ?_, fun x hx => ?_⟩
      · rcases List.mem_cons.1 hx with rfl | hx
        · exact h4
        · exact h2 x hx
      · rcases List.mem_cons.1 hx with rfl | hx
        · exact ⟨s, List.mem_cons_self .., h5⟩
        · obtain ⟨t, ht, h6⟩ := h3 x hx
          exact ⟨t, List.mem_cons_of_mem _ ht, h6⟩
  obtain ⟨C, h1, h2, h3⟩ := key R h
  refine ⟨(List.range' 0 30).filter fun s => decide (s ∈ C), Se 30 0 (by omega), ?_, fun r hr => ?_⟩
  · rw [← h1]
    have aa : ((List.range' 0 30).filter fun s => decide (s ∈ C)).Nodup := List.Pairwise.filter _ (List.nodup_range' ..)
    exact aa.length_le_of_subset fun s hs => by
      rw [List.mem_filter] at hs
      exact of_decide_eq_true hs.2
  · obtain ⟨s, hs, h4⟩ := h3 r hr
    refine ⟨s, ?_, h4⟩
    rw [List.mem_filter]
    refine ⟨?_, decide_eq_true hs⟩
    rw [List.mem_range']
    exact ⟨s, h2 s hs, by omega⟩
theorem WJ {R : List (List Bool)} {L : List Nat} {n : Nat} (h : ∀ r ∈ R, ∃ s, s < 30 ∧ r.getD s false = true) (hb : ∀ p : Nat → Bool, (∀ s, p s = false → Dp R s = List.replicate R.length false) → Su (Dp R) p (List.replicate R.length false) (min R.length R.length) L n) : n = R.length ∧ Ng R L := by
  have b := hb (fun _ => true) (fun _ h => nomatch h)
  obtain ⟨L0, k1, k2, k3⟩ := Wr h
  have ab := (OA R L0).2 k3
  have h1 := b.max L0 k1 (fun _ _ => rfl) (by omega)
  have h2 := b.val
  have h3 : G8 (NM (Dp R) (List.replicate R.length false) L) ≤ R.length := by
    have e0 : List.replicate R.length false = R.map fun _ => false := by rw [List.map_const']
    have e1 : Dp R = fun s => R.map fun r => r.getD s false := rfl
    rw [e0, e1, MZ, Oy]
    exact List.countP_le_length
  have hn : n = R.length := by omega
  refine ⟨hn, b.inc, (OA R L).1 (by omega), by have := b.len; omega, fun L' i aa => ?_, fun p hp => (hb p hp).YL⟩
  have hc := (OA R L').2 aa
  have h4 := b.short L' i (fun _ _ => rfl) (by omega)
  rcases Nat.lt_or_ge L.length L'.length with h5 | h5
  · exact .inl h5
  · exact .inr ⟨by omega, b.fst L' i (fun _ _ => rfl) (by omega) (by omega)⟩
theorem Ng.R2 {R : List (List Bool)} {L : List Nat} (h : Ng (R2 R) L) : Ng R L := by
  refine ⟨h.inc, PS.R2.1 h.all, Nat.le_trans h.len (SW R), fun L' i aa => h.min L' i (PS.R2.2 aa), fun p hp => h.use p fun s hs => ?_⟩
  have h1 := hp s hs
  unfold Dp at h1 ⊢
  rw [List.eq_replicate_iff]
  refine ⟨List.length_map .., fun b hb => ?_⟩
  obtain ⟨r, hr, rfl⟩ := List.mem_map.1 hb
  exact (List.eq_replicate_iff.1 h1).2 _ (List.mem_map.2 ⟨r, Nc.1 hr, rfl⟩)
section
variable {wide : Int} {ps : List Int} {w v : Int}
theorem Ly (wide : Int) (ps : List Int) (w v : Int) (H : List Int) : (EP wide ps w v H).length = H.length := by unfold EP; rw [List.length_map]
theorem S3 (H : List Int) : ∀ r ∈ EP wide ps w v H, r.length = 30 := fun r hr => by
  unfold EP at hr
  obtain ⟨h, _, rfl⟩ := List.mem_map.1 hr
  exact IN ..
theorem Te {v : List Bool} : ∀ (l : List (List Bool)) (k : Int), 0 ≤ k → ∃ n, Bx v l k = some n ∧ (0 ≤ n ↔ v ∈ l)
  | [], k, _ => ⟨-1, rfl, by simp⟩
  | x :: l, k, hk => by
    unfold Bx
    by_cases hx : v = x
    · exact ⟨k, by rw [if_pos hx], by simp [hx, hk]⟩
    · obtain ⟨n, h1, h2⟩ := Te (v := v) l (k + 1) (by omega)
      refine ⟨n, by rw [if_neg hx]; exact h1, ?_⟩
      rw [h2, List.mem_cons]; simp [hx]
theorem Rg (R : List (List Bool)) (f : Int → Option Int) : EH R f = some (decide (List.replicate 30 false ∈ R)) := by
  unfold EH CH CZ
  obtain ⟨n, h1, h2⟩ := Te (v := List.replicate 30 false) R 0 (Int.le_refl _)
  rw [h1, Ax, Ax]
  congr 1
  rw [decide_eq_decide]
  exact h2
theorem Ux {r : List Bool} (hl : r.length = 30) (h : r ≠ List.replicate 30 false) : ∃ s, s < 30 ∧ r.getD s false = true := by
  apply Classical.byContradiction
  intro hn
  apply h
  rw [List.eq_replicate_iff]
  refine ⟨hl, fun b hb => ?_⟩
  obtain ⟨i, hi, rfl⟩ := List.getElem_of_mem hb
  cases hc : r[i] with
  | false => rfl
  | true => exact absurd ⟨i, by omega, by rw [List.getD_eq_getElem?_getD, List.getElem?_eq_getElem hi]; exact hc⟩ hn
theorem TY (hn : ps.length ≤ 1000) {H : List Int} (hH : H.length ≤ 40) (ha : Kz wide ps w v H = 0) :
    (List.replicate 30 false ∈ EP wide ps w v H ∧ DQ wide ps w v H = some ([], 6)) ∨ ((¬ List.replicate 30 false ∈ EP wide ps w v H) ∧ ∃ L, DQ wide ps w v H = some (L.map Int.ofNat, 0) ∧ Ng (EP wide ps w v H) L) := by
  have hl := Ly wide ps w v H
  have ab := S3 (wide := wide) (ps := ps) (w := w) (v := v) H
  unfold DQ
  rw [JT hn H (by omega), ha, Le, if_neg (fun h => h rfl), BF (decide_eq_true rfl), if_pos rfl, Rg, Ax]
  by_cases hd : List.replicate 30 false ∈ EP wide ps w v H
  · exact .inl ⟨hd, by rw [if_pos (decide_eq_true hd)]⟩
  · refine .inr ⟨hd, ?_⟩
    have ad := SW (EP wide ps w v H)
    have aa : ∀ r ∈ R2 (EP wide ps w v H), r.length = 30 := fun r hr => ab r (Nc.1 hr)
    obtain ⟨L, n, h1, h2⟩ := Tv (rows := R2 (EP wide ps w v H)) (count := fun x : Int => Dw x) aa (by omega) (fun u hu => VK (by omega)) (most := (R2 (EP wide ps w v H)).length) (by omega)
    obtain ⟨_, h3⟩ := WJ (R := R2 (EP wide ps w v H)) (fun r hr => Ux (aa r hr) fun he => hd (by rw [← he]; exact Nc.1 hr)) h2
    refine ⟨L, ?_, h3.R2⟩
    rw [if_neg (by rw [decide_eq_true_iff]; exact hd), Tp (by omega), Ax, So (by omega), Ax, h1, Dt]
theorem Vy (_hn : ps.length ≤ 30) {s : Nat} (hs : s < 30) (p : Nat) : (Is wide ps w v ps.length p).getD s false = (decide (s < ps.length) && MQ wide ps w v s p) := by
  unfold Is
  rw [List.getD_eq_getElem?_getD, Hk _ hs]; rfl
end
end Go.Proofs.YtkfbbjiniapooaaGreat
namespace Go.Proofs.YtkfbbjiniapooaaGreat
open Go.PL Go.Hear
theorem Um (x y : Int) : Iz x y = some (decide (x < y)) := by
  unfold Iz HM
  simp
theorem Vc {a : List Int} {x : Int} {tl : List Int} : (a ++ x :: tl).getD a.length 0 = x := by
  rw [List.getD_eq_getElem?_getD, List.getElem?_append_right (Nat.le_refl _), Nat.sub_self]; rfl
theorem WB {a : List Int} {x y : Int} {tl : List Int} : (a ++ x :: tl).set a.length y = a ++ y :: tl := by
  rw [List.set_append_right (h := Nat.le_refl _), Nat.sub_self, List.set_cons_zero]
theorem Sv {β : Type} {xs : List Int} {i : Nat} (f : Int → Option β) (h : i < xs.length) : ix xs (i : Int) f = f (xs.getD i 0) := Na (by omega) (by rw [Int.toNat_natCast]; exact Oz h)
theorem UJ {x : Int} {tl : List Int} : ∀ (n fu : Nat) (A B : List Int), A.length = n → n < fu → n + B.length + tl.length ≤ 100000 → (A ++ B).Pairwise (· ≤ ·) → (∀ b ∈ B, x ≤ b) → ∃ R, Bp 0 fu (A ++ x :: (B ++ tl)) (n : Int) = some (R ++ tl) ∧ R.Perm (A ++ x :: B) ∧ R.Pairwise (· ≤ ·)
  | _, 0, _, _, _, h, _, _, _ => absurd h (Nat.not_lt_zero _)
  | 0, fu + 1, A, B, hA, _, _, hs, hB => by
    have : A = [] := List.eq_nil_of_length_eq_zero hA
    subst this
    refine ⟨x :: B, ?_, .refl _, List.pairwise_cons.2 ⟨hB, hs⟩⟩
    unfold Bp
    rw [if_neg (by omega), Ax, if_neg (by decide)]; rfl
  | n + 1, fu + 1, A, B, hA, hf, hl, hs, hB => by
    have ad : A ≠ [] := fun h => by rw [h] at hA; simp at hA
    obtain ⟨A0, y, rfl⟩ : ∃ A0 y, A = A0 ++ [y] := ⟨A.dropLast, A.getLast ad, (List.dropLast_concat_getLast ad).symm⟩
    have aa : A0.length = n := by simpa using hA
    have e1 : A0 ++ [y] ++ x :: (B ++ tl) = A0 ++ y :: x :: (B ++ tl) := by simp
    have g1 : (A0 ++ [y] ++ x :: (B ++ tl)).getD (n + 1) 0 = x := by
      have := Vc (a := A0 ++ [y]) (x := x) (tl := B ++ tl)
      rw [List.length_append, List.length_singleton, aa] at this
      exact this
    have g2 : (A0 ++ [y] ++ x :: (B ++ tl)).getD n 0 = y := by
      rw [e1, ← aa]; exact Vc
    have hlen : (A0 ++ [y] ++ x :: (B ++ tl)).length = n + 1 + 1 + B.length + tl.length := by simp [aa]; omega
    have s1 : (A0 ++ [y] ++ x :: (B ++ tl)).set (n + 1) y = A0 ++ y :: y :: (B ++ tl) := by
      have := WB (a := A0 ++ [y]) (x := x) (y := y) (tl := B ++ tl)
      rw [List.length_append, List.length_singleton, aa] at this
      rw [this]; simp
    have s2 : (A0 ++ y :: y :: (B ++ tl)).set n x = A0 ++ x :: ((y :: B) ++ tl) := by
      rw [← aa]; exact WB
    have ab := List.pairwise_append.1 hs
    have ae := List.pairwise_append.1 ab.1
    unfold Bp
    rw [if_pos (by omega), Sv _ (by omega), g1, BF (AT (by omega)), show ((n + 1 : Nat) : Int) - 1 = (n : Int) by omega, Sv _ (by omega), g2, Um, Ax, Ax]
    by_cases hc : x < y
    · have af : (A0 ++ (y :: B)).Pairwise (· ≤ ·) := by
        have : A0 ++ (y :: B) = A0 ++ [y] ++ B := by simp
        rw [this]; exact hs
      obtain ⟨R, r1, r2, r3⟩ := UJ (x := x) (tl := tl) n fu A0 (y :: B) aa (by omega) (by rw [List.length_cons]; omega) af (fun b hb => by
        rcases List.mem_cons.1 hb with rfl | hb
        · omega
        · exact hB b hb)
      refine ⟨R, ?_, r2.trans ?_, r3⟩
      · rw [if_pos (decide_eq_true hc), BF (AT (by omega)), BF (AT (by omega)), Sv _ (by omega), g2, Sv _ (by omega), g1, Nx, Int.toNat_natCast, s1, Sv _ (by simp [aa]), Nx, Int.toNat_natCast, s2, BF (AT (by omega)), r1]
      · rw [List.append_assoc]
        exact (List.Perm.swap y x B).append_left A0
    · refine ⟨A0 ++ [y] ++ x :: B, ?_, .refl _, ?_⟩
      · rw [if_neg (by rw [decide_eq_true_iff]; exact hc)]
        simp
      · refine List.pairwise_append.2 ⟨ab.1, List.pairwise_cons.2 ⟨hB, ab.2.1⟩, fun a ha b hb => ?_⟩
        rcases List.mem_cons.1 hb with rfl | hb
        · have : a ≤ y := by
            rcases List.mem_append.1 ha with h | h
            · exact ae.2.2 a h y (List.mem_singleton.2 rfl)
            · rw [List.mem_singleton] at h; omega
          omega
        · exact ab.2.2 a ha b hb
theorem T3 : ∀ (tl P : List Int), P.length + tl.length ≤ 10000 → P.Pairwise (· ≤ ·) → ∃ R, By 0 tl.length (P.length : Int) (P ++ tl) = some R ∧ R.Perm (P ++ tl) ∧ R.Pairwise (· ≤ ·)
  | [], P, _, hs => ⟨P, by rw [List.append_nil]; rfl, by rw [List.append_nil], hs⟩
  | x :: tl, P, hl, hs => by
    rw [List.length_cons] at hl
    obtain ⟨R, r1, r2, r3⟩ := UJ (x := x) (tl := tl) P.length FU P [] rfl (by unfold FU; omega) (by simp; omega) (by rw [List.append_nil]; exact hs) (fun _ h => nomatch h)
    rw [List.nil_append] at r1
    have aa : R.length = P.length + 1 := by rw [r2.length_eq]; simp
    obtain ⟨S, q1, q2, q3⟩ := T3 tl R (by omega) r3
    refine ⟨S, ?_, q2.trans ?_, q3⟩
    · rw [List.length_cons]; unfold By
      rw [r1, Ax, show (P.length : Int) + 1 = (R.length : Int) by omega]
      exact q1
    · have := r2.append_right tl
      rw [List.append_assoc] at this
      exact this
theorem WI {s : List Int} (hl : s.length ≤ 10000) : ∃ R, Cu s 0 (s.length : Int) = some R ∧ R.Perm s ∧ R.Pairwise (· ≤ ·) := by
  unfold Cu
  rw [BF (AT (by omega)), BF ⟨AT (by omega), AT (by omega)⟩]
  match s, hl with
  | [], _ => exact ⟨[], rfl, .refl _, List.Pairwise.nil⟩
  | x :: tl, hl =>
    rw [List.length_cons] at hl
    obtain ⟨R, r1, r2, r3⟩ := T3 tl [x] (by simp; omega) (by simp)
    refine ⟨R, ?_, r2, r3⟩
    rw [show Int.toNat (((x :: tl).length : Int) - (0 + 1)) = tl.length by rw [List.length_cons]; omega]
    exact r1
theorem Wv {s : List Int} (hl : s.length ≤ 12) (fu : Nat) (aa : Int) : ∃ R, BV (fu + 1) s 0 (s.length : Int) aa = some R ∧ R.Perm s ∧ R.Pairwise (· ≤ ·) := by
  obtain ⟨R, r1, r2, r3⟩ := WI (s := s) (by omega)
  refine ⟨R, ?_, r2, r3⟩
  unfold BV Ea
  show B7 s 0 (s.length : Int) (18446744073709551615 + 1) = some R
  unfold B7
  rw [BF (AT (by omega)), BF (by omega), r1, Ax]
section
variable {V8 : List Int}
end
section
variable {wide : Int} {ps : List Int} {w v : Int}
end
end Go.Proofs.YtkfbbjiniapooaaGreat
namespace Go.Proofs.YtkfbbjiniapooaaGreat
open Go.PL Go.Hear
section
variable {n : Nat} {E E' : Int → List (Int × Int)} {s : Int} {to : Int → Int}
end
section
variable {down : Bool} {wide rows w : Int} {ps : List Int}
end
end Go.Proofs.YtkfbbjiniapooaaGreat
