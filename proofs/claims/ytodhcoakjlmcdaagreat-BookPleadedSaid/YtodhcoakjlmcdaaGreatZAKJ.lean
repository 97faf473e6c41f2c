/- Layer 7: where a notice must be cried again; BookRepeated; in plain Lean. -/
import Derived.Test.YtodhcoakjlmcdaaGreatZAKH
namespace Go.Proofs.YtodhcoakjlmcdaaGreat.Bk
open Go.PL Rv
theorem lessI_eq (x y : Int) : cmp_Less_int x y = some (decide (x < y)) := by
  unfold cmp_Less_int cmp_isNaN_int
  simp
theorem sortedI_l2 {l : List Int} (hs : l.Pairwise (· ≤ ·)) (hl : l.length ≤ 1000) : ∀ (k fu : Nat), k < fu → k < l.length ∨ k = 0 → slices_IsSorted_int_int_l2 l fu (k : Int) = some true
  | _, 0, h, _ => absurd h (Nat.not_lt_zero _)
  | 0, fu + 1, _, _ => by
    unfold slices_IsSorted_int_int_l2
    rw [if_neg (by omega)]; rfl
  | k + 1, fu + 1, h, hk => by
    have hk1 : k + 1 < l.length := by omega
    have e : ∀ j (hj : j < l.length), l.getD j 0 = l[j] := fun j hj => by
      rw [List.getD_eq_getElem?_getD, List.getElem?_eq_getElem hj]; rfl
    have hlt := List.pairwise_iff_getElem.1 hs k (k + 1) (by omega) hk1 (by omega)
    unfold slices_IsSorted_int_int_l2
    rw [if_pos (by omega), ixI _ hk1, gd_t (r64_small (by omega)), show ((k + 1 : Nat) : Int) - 1 = (k : Int) by omega, ixI _ (by omega), lessI_eq, b1_some, e _ hk1, e _ (by omega), if_neg (by rw [decide_eq_true_iff]; omega), gd_t (r64_small (by omega))]
    exact sortedI_l2 hs hl k fu (by omega) (by omega)
theorem sortedI_ok {l : List Int} (hs : l.Pairwise (· ≤ ·)) (hl : l.length ≤ 1000) : slices_IsSorted_int_int l = some true := by
  unfold slices_IsSorted_int_int
  rw [gd_t (r64_small (by omega))]
  by_cases h0 : l.length = 0
  · rw [h0]
    show slices_IsSorted_int_int_l2 l (18446744073709551615 + 1) (-1) = some true
    unfold slices_IsSorted_int_int_l2
    rw [if_neg (by decide)]; rfl
  · rw [show (l.length : Int) - 1 = ((l.length - 1 : Nat) : Int) by omega]
    exact sortedI_l2 hs hl (l.length - 1) FU (by unfold FU; omega) (by omega)
def cryOf (k q : Int) (l : List Int) : List (Int × Int × Int) := l.map fun s => (k, s, q)
/-- What is heard surely by all of some houses. -/
def Enough (hs : List (List (List Int))) (rs : List Int) (cs : List (Int × Int × Int)) (k q : Int) (H : List Int) (l : List Int) : Prop := ∀ c, FitF none rs c → ∀ x ∈ H, heardB hs (cs ++ cryOf k q l) c x q = true
theorem Enough.mono {hs : List (List (List Int))} {rs : List Int} {cs : List (Int × Int × Int)} {k q : Int} {H l l2 : List Int} (h : Enough hs rs cs k q H l) (hl : ∀ s ∈ l, s ∈ l2) : Enough hs rs cs k q H l2 := fun c hc x hx => by
  have h1 := h c hc x hx
  rw [heardB_app] at h1 ⊢
  rw [Bool.or_eq_true] at h1 ⊢
  refine h1.imp id fun h2 => ?_
  unfold heardB cryOf at h2 ⊢
  rw [List.any_eq_true] at h2 ⊢
  obtain ⟨y, hy, h3⟩ := h2
  obtain ⟨s, hs, rfl⟩ := List.mem_map.1 hy
  exact ⟨_, List.mem_map.2 ⟨s, hl s hs, rfl⟩, h3⟩
section
variable {n n2 : Int} {hs : List (List (List Int))} {rs : List Int} {cs : List (Int × Int × Int)} {k q : Int} {H : List Int}
theorem BOK.cryOf (h : BOK n n2 hs rs cs) (hk : 0 ≤ k ∧ k < (rs.length : Int)) (hq : 0 ≤ q ∧ q < n2) {l : List Int} (hl : cs.length + l.length ≤ 12) (hs2 : ∀ s ∈ l, 0 ≤ s ∧ s < (hs.length : Int)) : BOK n n2 hs rs (cs ++ cryOf k q l) :=
  h.more (by rw [show (Bk.cryOf k q l).length = l.length from List.length_map ..]; exact hl) fun c hc => by
    obtain ⟨s, hs, rfl⟩ := List.mem_map.1 hc
    exact ⟨hk, hs2 s hs, hq⟩
def toI (l : List Nat) : List Int := l.map Int.ofNat
theorem up_sorted {S f : Nat} {c : List Nat} (h : Up S f c) : (toI c).Pairwise (· ≤ ·) := by
  unfold toI
  rw [List.pairwise_map]
  refine h.1.imp fun {a b} hab => ?_
  show (a : Int) ≤ (b : Int)
  omega
section
variable {metal : List Int}
/-- What is told of the lists that are enough. -/
structure Told (S : Nat) (P : List Nat → Bool) (l : List Int) (e : Int) : Prop where
  two : (e = 0 ∨ e = 6)
  some : e = 0 → ∃ d, l = toI d ∧ Up S 0 d ∧ P d = true ∧ ∀ c, Up S 0 c → P c = true → d.length < c.length ∨ (d.length = c.length ∧ lex d c)
  none : e = 6 → l = [] ∧ ∀ c, Up S 0 c → P c = false
end
end
end Go.Proofs.YtodhcoakjlmcdaaGreat.Bk
