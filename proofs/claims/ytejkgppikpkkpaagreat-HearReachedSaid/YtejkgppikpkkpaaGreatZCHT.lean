/- Layer 1: towns seen in a mirror, towns with a wall more, louder voices; the order of lists; in plain Lean. -/
import Derived.Test.YtejkgppikpkkpaaGreatZCHI
import Derived.Test.YtejkgppikpkkpaaGreatZCHS
namespace Go.Proofs.YtejkgppikpkkpaaGreat
open Go.PL Go.Hear
section
variable {n : Nat} {E E' : Int → List (Int × Int)} {s : Int} {to : Int → Int}
end
section
variable {down : Bool} {wide rows w : Int} {ps : List Int}
end
theorem cmpI_eq (x y : Int) : cmp_Compare_int x y = some (if x < y then -1 else if y < x then 1 else 0) := by
  unfold cmp_Compare_int cmp_isNaN_int
  rw [b1_some, b1_some, if_neg (by simp), if_neg (by simp)]
  split
  · rfl
  · split <;> rfl
theorem cmpL_l2 {s1 s2 : List Nat} (hl : s1.length = s2.length) : ∀ (tl u : List Nat) (k : Nat), s2.drop k = u → tl.length = u.length → lexLe u tl → ∃ n : Int, 0 ≤ n ∧ slices_Compare_int_int_l2 (s1.map Int.ofNat) (s2.map Int.ofNat) (tl.map Int.ofNat) (k : Int) = some n
  | [], u, k, _, _, _ => by
    refine ⟨0, Int.le_refl _, ?_⟩
    rw [List.map_nil]
    unfold slices_Compare_int_int_l2 slices_Compare_int_int_j1
    rw [if_neg (by simp; omega)]
  | x :: tl, [], k, _, h, _ => by simp at h
  | x :: tl, y :: u, k, hd, hu, hx => by
    have hk : k < s2.length := by
      rcases Nat.lt_or_ge k s2.length with h' | h'
      · exact h'
      · rw [List.drop_eq_nil_of_le h'] at hd; cases hd
    have hg : (s2.map Int.ofNat)[k]? = some (y : Int) := by
      rw [List.drop_eq_getElem_cons hk] at hd
      rw [List.getElem?_map, List.getElem?_eq_getElem hk, (List.cons.inj hd).1]; rfl
    have hd2 : s2.drop (k + 1) = u := by
      rw [List.drop_eq_getElem_cons hk] at hd
      exact (List.cons.inj hd).2
    rw [List.map_cons]; unfold slices_Compare_int_int_l2
    rw [if_neg (by simp; omega), ix_t (by omega) (by rw [Int.toNat_natCast]; exact hg), cmpI_eq, b1_some]
    rcases hx with h | ⟨h, h2⟩
    · refine ⟨1, by omega, ?_⟩
      have ev : (if Int.ofNat x < (y : Int) then (-1 : Int) else if (y : Int) < Int.ofNat x then 1 else 0) = 1 := by rw [if_neg (by simp; omega), if_pos (by simp; omega)]
      rw [ev, if_pos (by decide)]
    · obtain ⟨n, h3, h4⟩ := cmpL_l2 hl tl u (k + 1) hd2 (by simpa using hu) h2
      refine ⟨n, h3, ?_⟩
      have ev : (if Int.ofNat x < (y : Int) then (-1 : Int) else if (y : Int) < Int.ofNat x then 1 else 0) = 0 := by rw [if_neg (by simp; omega), if_neg (by simp; omega)]
      rw [ev, if_neg (by decide), show (k : Int) + 1 = ((k + 1 : Nat) : Int) by omega]
      exact h4
theorem cmpL_ge {s t : List Nat} (hl : s.length = t.length) (h : lexLe t s) : ∃ n : Int, 0 ≤ n ∧ slices_Compare_int_int (s.map Int.ofNat) (t.map Int.ofNat) = some n := by
  unfold slices_Compare_int_int
  exact cmpL_l2 hl s t 0 rfl hl h
theorem sortedI_l2 {l : List Int} (hs : l.Pairwise (· ≤ ·)) (hl : l.length ≤ 1000) : ∀ (k fu : Nat), k < fu → k < l.length ∨ k = 0 → slices_IsSorted_int_int_l2 l fu (k : Int) = some true
  | _, 0, h, _ => absurd h (Nat.not_lt_zero _)
  | 0, fu + 1, _, _ => by
    unfold slices_IsSorted_int_int_l2
    rw [if_neg (by omega)]; rfl
  | k + 1, fu + 1, h, hk => by
    have hk1 : k + 1 < l.length := by omega
    have e : ∀ j (hj : j < l.length), l.getD j 0 = l[j] := fun j hj => by
      rw [List.getD_eq_getElem?_getD, List.getElem?_eq_getElem hj]; rfl
    have hlt := List.pairwise_iff_getElem.1 hs k (k + 1) (by omega) hk1 (by omega)
    unfold slices_IsSorted_int_int_l2
    rw [if_pos (by omega), ixI _ hk1, gd_t (r64_small (by omega)), show ((k + 1 : Nat) : Int) - 1 = (k : Int) by omega, ixI _ (by omega), lessI_eq, b1_some, e _ hk1, e _ (by omega), if_neg (by rw [decide_eq_true_iff]; omega), gd_t (r64_small (by omega))]
    exact sortedI_l2 hs hl k fu (by omega) (by omega)
theorem sortedI_ok {l : List Int} (hs : l.Pairwise (· ≤ ·)) (hl : l.length ≤ 1000) : slices_IsSorted_int_int l = some true := by
  unfold slices_IsSorted_int_int
  rw [gd_t (r64_small (by omega))]
  by_cases h0 : l.length = 0
  · rw [h0]
    show slices_IsSorted_int_int_l2 l (18446744073709551615 + 1) (-1) = some true
    unfold slices_IsSorted_int_int_l2
    rw [if_neg (by decide)]; rfl
  · rw [show (l.length : Int) - 1 = ((l.length - 1 : Nat) : Int) by omega]
    exact sortedI_l2 hs hl (l.length - 1) FU (by unfold FU; omega) (by omega)
/-- Stands that go up, as numbers. -/
theorem inc_pair : ∀ {a : Nat} {L : List Nat}, Inc a L → (L.map Int.ofNat).Pairwise (· ≤ ·)
  | _, [], _ => List.Pairwise.nil
  | a, s :: L, h => by
    rw [List.map_cons, List.pairwise_cons]
    refine ⟨fun x hx => ?_, inc_pair h.2⟩
    obtain ⟨t, ht, rfl⟩ := List.mem_map.1 hx
    have := h.2.mem t ht
    show (s : Int) ≤ (t : Int)
    omega
/-- A sorted list of numbers without twins goes up. -/
theorem pair_inc : ∀ {l : List Int} {a : Nat}, l.Pairwise (· ≤ ·) → l.Nodup → (∀ x ∈ l, (a : Int) ≤ x ∧ x < 30) → Inc a (l.map Int.toNat)
  | [], _, _, _, _ => trivial
  | x :: l, a, hs, hn, hr => by
    have h1 := List.pairwise_cons.1 hs
    have h2 := List.nodup_cons.1 hn
    have hx := hr x (List.mem_cons_self ..)
    refine ⟨by omega, pair_inc h1.2 h2.2 fun y hy => ?_⟩
    have h3 := h1.1 y hy
    have h4 := hr y (List.mem_cons_of_mem _ hy)
    have h5 : x ≠ y := fun e => h2.1 (e ▸ hy)
    omega
theorem toNat_back {l : List Int} (h : ∀ x ∈ l, 0 ≤ x) : (l.map Int.toNat).map Int.ofNat = l := by
  rw [List.map_map]
  conv => rhs; rw [← List.map_id l]
  apply List.map_congr_left
  intro x hx
  exact Int.toNat_of_nonneg (h x hx)
end Go.Proofs.YtejkgppikpkkpaaGreat
