/- Lists that are turned round by exchanges; lists of numbers in order; in plain Lean. -/
import Derived.Test.YtggpjocmoelpbaaGreatZAPl
namespace Go.Proofs.YtggpjocmoelpbaaGreat.Rv
section
variable {α : Type}
def revK (d : α) (xs : List α) (k : Nat) : List α := (List.range xs.length).map fun t => if t < k ∨ xs.length - 1 - t < k then xs.getD (xs.length - 1 - t) d else xs.getD t d
theorem revK_len (d : α) (xs : List α) (k : Nat) : (revK d xs k).length = xs.length := by simp [revK]
theorem revK_get {d : α} {xs : List α} {k t : Nat} (h : t < xs.length) : (revK d xs k).getD t d = if t < k ∨ xs.length - 1 - t < k then xs.getD (xs.length - 1 - t) d else xs.getD t d := by
  simp only [revK, List.getD_eq_getElem?_getD, List.getElem?_map, List.getElem?_range h]
  rfl
theorem getD_ext {d : α} {xs ys : List α} (hl : xs.length = ys.length) (h : ∀ t, t < xs.length → xs.getD t d = ys.getD t d) : xs = ys := by
  apply List.ext_getElem hl
  intro t h1 h2
  have := h t h1
  simpa [List.getD_eq_getElem?_getD, h1, h2] using this
theorem getD_set {d : α} {xs : List α} {i t : Nat} {x : α} (h : i < xs.length) : (xs.set i x).getD t d = if i = t then x else xs.getD t d := by
  rw [List.getD_eq_getElem?_getD, List.getElem?_set]
  by_cases hi : i = t
  · rw [if_pos hi, if_pos hi, if_pos h]; rfl
  · rw [if_neg hi, if_neg hi, List.getD_eq_getElem?_getD]
theorem revK_zero (d : α) (xs : List α) : revK d xs 0 = xs := by
  refine getD_ext (d := d) (revK_len ..) fun t ht => ?_
  rw [revK_len] at ht
  rw [revK_get ht, if_neg (by omega)]
theorem revK_step {d : α} {xs : List α} {k j : Nat} (hj : j = xs.length - 1 - k) (h : k < j) : ((revK d xs k).set k ((revK d xs k).getD j d)).set j ((revK d xs k).getD k d) = revK d xs (k + 1) := by
  refine getD_ext (d := d) (by simp [revK_len]) fun t ht => ?_
  simp only [List.length_set, revK_len] at ht
  rw [getD_set (by simp [revK_len]; omega), getD_set (by rw [revK_len]; omega), revK_get ht, revK_get (k := k + 1) ht]
  by_cases h1 : j = t
  · rw [if_pos h1, revK_get (by omega), if_neg (by omega), if_pos (by omega)]; congr 1; omega
  · rw [if_neg h1]
    by_cases h2 : k = t
    · rw [if_pos h2, revK_get (by omega), if_neg (by omega), if_pos (by omega)]; congr 1; omega
    · rw [if_neg h2]
      by_cases h3 : t < k ∨ xs.length - 1 - t < k
      · rw [if_pos h3, if_pos (by omega)]
      · rw [if_neg h3, if_neg (by omega)]
theorem revK_end {d : α} {xs : List α} {k : Nat} (h : xs.length ≤ 2 * k + 1) : revK d xs k = xs.reverse := by
  refine getD_ext (d := d) (by simp [revK_len]) fun t ht => ?_
  rw [revK_len] at ht
  rw [revK_get ht]
  have hr : xs.reverse.getD t d = xs.getD (xs.length - 1 - t) d := by
    simp [List.getD_eq_getElem?_getD, List.getElem?_reverse ht]
  rw [hr]
  split
  · rfl
  · congr 1; omega
end
def Up (n f : Nat) (c : List Nat) : Prop := c.Pairwise (· < ·) ∧ ∀ i ∈ c, f ≤ i ∧ i < n
theorem Up.nil (n f : Nat) : Up n f [] := ⟨List.Pairwise.nil, fun _ h => nomatch h⟩
theorem Up.cons {n f i : Nat} {c : List Nat} : Up n f (i :: c) ↔ (f ≤ i ∧ i < n) ∧ Up n (i + 1) c := by
  constructor
  · intro h
    have h1 := List.pairwise_cons.1 h.1
    exact ⟨h.2 i (List.mem_cons_self ..), h1.2, fun j hj => ⟨h1.1 j hj, (h.2 j (List.mem_cons_of_mem _ hj)).2⟩⟩
  · rintro ⟨h1, h2⟩
    refine ⟨List.pairwise_cons.2 ⟨fun j hj => (h2.2 j hj).1, h2.1⟩, fun j hj => ?_⟩
    rcases List.mem_cons.1 hj with rfl | hj
    · exact h1
    · have := h2.2 j hj
      omega
theorem Up.len {n : Nat} : ∀ {c : List Nat} {f : Nat}, Up n f c → c.length ≤ n - f
  | [], _, _ => Nat.zero_le _
  | i :: c, f, h => by
    obtain ⟨h1, h2⟩ := Up.cons.1 h
    have := Up.len h2
    rw [List.length_cons]; omega
end Go.Proofs.YtggpjocmoelpbaaGreat.Rv
