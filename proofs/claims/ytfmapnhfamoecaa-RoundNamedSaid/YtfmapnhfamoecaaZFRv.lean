/- Lists that are turned round by exchanges; lists of numbers in order; in plain Lean. -/
import Derived.Test.YtfmapnhfamoecaaZFPl
namespace Go.Proofs.Ytfmapnhfamoecaa.Rv
section
variable {α : Type}
def revK (d : α) (xs : List α) (k : Nat) : List α := (List.range xs.length).map fun t => if t < k ∨ xs.length - 1 - t < k then xs.getD (xs.length - 1 - t) d else xs.getD t d
theorem revK_len (d : α) (xs : List α) (k : Nat) : (revK d xs k).length = xs.length := by simp [revK]
theorem revK_get {d : α} {xs : List α} {k t : Nat} (h : t < xs.length) : (revK d xs k).getD t d = if t < k ∨ xs.length - 1 - t < k then xs.getD (xs.length - 1 - t) d else xs.getD t d := by
  simp only [revK, List.getD_eq_getElem?_getD, List.getElem?_map, List.getElem?_range h]
  rfl
theorem getD_ext {d : α} {xs ys : List α} (hl : xs.length = ys.length) (h : ∀ t, t < xs.length → xs.getD t d = ys.getD t d) : xs = ys := by
  apply List.ext_getElem hl
  intro t h1 h2
  have := h t h1
  simpa [List.getD_eq_getElem?_getD, h1, h2] using this
theorem getD_set {d : α} {xs : List α} {i t : Nat} {x : α} (h : i < xs.length) : (xs.set i x).getD t d = if i = t then x else xs.getD t d := by
  rw [List.getD_eq_getElem?_getD, List.getElem?_set]
  by_cases hi : i = t
  · rw [if_pos hi, if_pos hi, if_pos h]; rfl
  · rw [if_neg hi, if_neg hi, List.getD_eq_getElem?_getD]
theorem revK_zero (d : α) (xs : List α) : revK d xs 0 = xs := by
  refine getD_ext (d := d) (revK_len ..) fun t ht => ?_
  rw [revK_len] at ht
  rw [revK_get ht, if_neg (by omega)]
theorem revK_step {d : α} {xs : List α} {k j : Nat} (hj : j = xs.length - 1 - k) (h : k < j) : ((revK d xs k).set k ((revK d xs k).getD j d)).set j ((revK d xs k).getD k d) = revK d xs (k + 1) := by
  refine getD_ext (d := d) (by simp [revK_len]) fun t ht => ?_
  simp only [List.length_set, revK_len] at ht
  rw [getD_set (by simp [revK_len]; omega), getD_set (by rw [revK_len]; omega), revK_get ht, revK_get (k := k + 1) ht]
  by_cases h1 : j = t
  · rw [if_pos h1, revK_get (by omega), if_neg (by omega), if_pos (by omega)]; congr 1; omega
  · rw [if_neg h1]
    by_cases h2 : k = t
    · rw [if_pos h2, revK_get (by omega), if_neg (by omega), if_pos (by omega)]; congr 1; omega
    · rw [if_neg h2]
      by_cases h3 : t < k ∨ xs.length - 1 - t < k
      · rw [if_pos h3, if_pos (by omega)]
      · rw [if_neg h3, if_neg (by omega)]
theorem revK_end {d : α} {xs : List α} {k : Nat} (h : xs.length ≤ 2 * k + 1) : revK d xs k = xs.reverse := by
  refine getD_ext (d := d) (by simp [revK_len]) fun t ht => ?_
  rw [revK_len] at ht
  rw [revK_get ht]
  have hr : xs.reverse.getD t d = xs.getD (xs.length - 1 - t) d := by
    simp [List.getD_eq_getElem?_getD, List.getElem?_reverse ht]
  rw [hr]
  split
  · rfl
  · congr 1; omega
end
def combs (n : Nat) : Nat → Nat → List (List Nat)
  | 0, _ => [[]]
  | k + 1, f => (List.range' f (n - f)).flatMap fun i => (combs n k (i + 1)).map (i :: ·)
def Up (n f : Nat) (c : List Nat) : Prop := c.Pairwise (· < ·) ∧ ∀ i ∈ c, f ≤ i ∧ i < n
theorem Up.nil (n f : Nat) : Up n f [] := ⟨List.Pairwise.nil, fun _ h => nomatch h⟩
theorem Up.cons {n f i : Nat} {c : List Nat} : Up n f (i :: c) ↔ (f ≤ i ∧ i < n) ∧ Up n (i + 1) c := by
  constructor
  · intro h
    have h1 := List.pairwise_cons.1 h.1
    exact ⟨h.2 i (List.mem_cons_self ..), h1.2, fun j hj => ⟨h1.1 j hj, (h.2 j (List.mem_cons_of_mem _ hj)).2⟩⟩
  · rintro ⟨h1, h2⟩
    refine ⟨List.pairwise_cons.2 ⟨fun j hj => (h2.2 j hj).1, h2.1⟩, fun j hj => ?_⟩
    rcases List.mem_cons.1 hj with rfl | hj
    · exact h1
    · have := h2.2 j hj
      omega
theorem mem_combs {n : Nat} : ∀ {k f : Nat} {c : List Nat}, c ∈ combs n k f ↔ c.length = k ∧ Up n f c
  | 0, f, c => by
    unfold combs
    rw [List.mem_singleton]
    constructor
    · rintro rfl; exact ⟨rfl, Up.nil ..⟩
    · rintro ⟨h, _⟩; exact List.eq_nil_of_length_eq_zero h
  | k + 1, f, c => by
    unfold combs
    rw [List.mem_flatMap]
    constructor
    · rintro ⟨i, hi, h⟩
      rw [List.mem_range'] at hi
      rw [List.mem_map] at h
      obtain ⟨j, hj, rfl⟩ := hi
      obtain ⟨t, ht, rfl⟩ := h
      obtain ⟨h1, h2⟩ := mem_combs.1 ht
      exact ⟨by rw [List.length_cons, h1], Up.cons.2 ⟨by omega, h2⟩⟩
    · rintro ⟨h1, h2⟩
      cases c with
      | nil => simp at h1
      | cons i c =>
        obtain ⟨h3, h4⟩ := Up.cons.1 h2
        refine ⟨i, ?_, List.mem_map.2 ⟨c, mem_combs.2 ⟨by simpa using h1, h4⟩, rfl⟩⟩
        rw [List.mem_range']
        exact ⟨i - f, by omega, by omega⟩
def lex : List Nat → List Nat → Prop
  | [], _ => True
  | _ :: _, [] => False
  | a :: s, b :: t => a < b ∨ (a = b ∧ lex s t)
theorem lex_refl : ∀ s : List Nat, lex s s
  | [] => trivial
  | _ :: s => .inr ⟨rfl, lex_refl s⟩
theorem sorted_combs {n : Nat} : ∀ k f : Nat, (combs n k f).Pairwise lex
  | 0, f => by simp [combs]
  | k + 1, f => by
    unfold combs
    rw [List.pairwise_flatMap]
    refine ⟨fun i _ => ?_, ?_⟩
    · rw [List.pairwise_map]
      exact (sorted_combs k (i + 1)).imp fun h => .inr ⟨rfl, h⟩
    · refine (List.pairwise_lt_range' (s := f) (n := n - f)).imp fun hab x hx y hy => ?_
      rw [List.mem_map] at hx hy
      obtain ⟨_, _, rfl⟩ := hx
      obtain ⟨_, _, rfl⟩ := hy
      exact .inl hab
theorem find_first {α : Type} {R : α → α → Prop} (hr : ∀ x, R x x) {p : α → Bool} : ∀ {l : List α} {x : α}, l.Pairwise R → l.find? p = some x → ∀ y ∈ l, p y = true → R x y
  | [], _, _, h, _, _, _ => nomatch h
  | z :: l, x, hs, h, y, hy, hp => by
    rw [List.find?_cons] at h
    have h1 := List.pairwise_cons.1 hs
    cases hz : p z with
    | true =>
      rw [hz] at h
      obtain rfl := Option.some.inj h
      rcases List.mem_cons.1 hy with rfl | hy
      · exact hr _
      · exact h1.1 y hy
    | false =>
      rw [hz] at h
      rcases List.mem_cons.1 hy with rfl | hy
      · rw [hz] at hp; cases hp
      · exact find_first hr h1.2 h y hy hp
def firstL (n : Nat) (P : List Nat → Bool) : Nat → Nat → Option (List Nat)
  | 0, _ => none
  | fu + 1, k => match (combs n k 0).find? P with
    | some c => some c
    | none => firstL n P fu (k + 1)
theorem firstL_none {n : Nat} {P : List Nat → Bool} : ∀ {fu k : Nat}, firstL n P fu k = none → ∀ c, Up n 0 c → k ≤ c.length → c.length < k + fu → P c = false
  | 0, _, _, _, _, _, _ => by omega
  | fu + 1, k, h, c, hc, h1, h2 => by
    unfold firstL at h
    split at h
    · cases h
    · rename_i h3
      by_cases he : c.length = k
      · have := List.find?_eq_none.1 h3 c (mem_combs.2 ⟨he, hc⟩)
        simpa using this
      · exact firstL_none h c hc (by omega) (by omega)
theorem firstL_some {n : Nat} {P : List Nat → Bool} : ∀ {fu k : Nat} {d : List Nat}, firstL n P fu k = some d → Up n 0 d ∧ P d = true ∧ k ≤ d.length ∧ ∀ c, Up n 0 c → k ≤ c.length → P c = true → d.length < c.length ∨ (d.length = c.length ∧ lex d c)
  | 0, _, _, h => nomatch h
  | fu + 1, k, d, h => by
    unfold firstL at h
    split at h
    · rename_i e h3
      obtain rfl := Option.some.inj h
      obtain ⟨h4, h5⟩ := mem_combs.1 (List.mem_of_find?_eq_some h3)
      refine ⟨h5, List.find?_some h3, by omega, fun c hc h1 h2 => ?_⟩
      by_cases he : c.length = k
      · exact .inr ⟨by omega, find_first lex_refl (sorted_combs k 0) h3 c (mem_combs.2 ⟨he, hc⟩) h2⟩
      · exact .inl (by omega)
    · rename_i h3
      obtain ⟨h4, h5, h6, h7⟩ := firstL_some h
      refine ⟨h4, h5, by omega, fun c hc h1 h2 => ?_⟩
      by_cases he : c.length = k
      · have := List.find?_eq_none.1 h3 c (mem_combs.2 ⟨he, hc⟩)
        exact absurd h2 this
      · exact h7 c hc (by omega) h2
theorem Up.len {n : Nat} : ∀ {c : List Nat} {f : Nat}, Up n f c → c.length ≤ n - f
  | [], _, _ => Nat.zero_le _
  | i :: c, f, h => by
    obtain ⟨h1, h2⟩ := Up.cons.1 h
    have := Up.len h2
    rw [List.length_cons]; omega
def setL (c : List Nat) (s : Nat) : Nat := c.foldl (fun s i => s ||| 2 ^ i) s
theorem setL_bit : ∀ (c : List Nat) (s i : Nat), (setL c s).testBit i = (s.testBit i || decide (i ∈ c))
  | [], s, i => by simp [setL]
  | j :: c, s, i => by
    show (setL c (s ||| 2 ^ j)).testBit i = _
    rw [setL_bit c, Nat.testBit_or, Nat.testBit_two_pow, Bool.or_assoc]
    congr 1
    by_cases h : j = i
    · subst h; simp
    · have h2 : ¬ i = j := fun e => h e.symm
      simp [h, h2]
theorem setL_lt {n : Nat} : ∀ (c : List Nat) (s : Nat), s < 2 ^ n → (∀ i ∈ c, i < n) → setL c s < 2 ^ n
  | [], _, h, _ => h
  | j :: c, s, h, hc => by
    show setL c (s ||| 2 ^ j) < 2 ^ n
    exact setL_lt c _ (Nat.or_lt_two_pow h (Nat.pow_lt_pow_right (by decide) (hc j (List.mem_cons_self ..)))) fun i hi => hc i (List.mem_cons_of_mem _ hi)
end Go.Proofs.Ytfmapnhfamoecaa.Rv
