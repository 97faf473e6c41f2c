/- Lists that are sorted; in plain Lean. -/
import Derived.Test.YtfmapnhfamoecabZBSF
namespace Go.Proofs.Ytfmapnhfamoecab.Rd
open Go.PL
theorem lessI_eq (x y : Int) : cmp_Less_int x y = some (decide (x < y)) := by
  unfold cmp_Less_int cmp_isNaN_int
  simp
theorem getA {a : List Int} {x : Int} {tl : List Int} : (a ++ x :: tl).getD a.length 0 = x := by
  rw [List.getD_eq_getElem?_getD, List.getElem?_append_right (Nat.le_refl _), Nat.sub_self]; rfl
theorem setA {a : List Int} {x y : Int} {tl : List Int} : (a ++ x :: tl).set a.length y = a ++ y :: tl := by
  rw [List.set_append_right (h := Nat.le_refl _), Nat.sub_self, List.set_cons_zero]
theorem ins_l2 {x : Int} {tl : List Int} : ∀ (n fu : Nat) (A B : List Int), A.length = n → n < fu → n + B.length + tl.length ≤ 100000 → (A ++ B).Pairwise (· ≤ ·) → (∀ b ∈ B, x ≤ b) → ∃ R, slices_insertionSortOrdered_int_l2 0 fu (A ++ x :: (B ++ tl)) (n : Int) = some (R ++ tl) ∧ R.Perm (A ++ x :: B) ∧ R.Pairwise (· ≤ ·)
  | _, 0, _, _, _, h, _, _, _ => absurd h (Nat.not_lt_zero _)
  | 0, fu + 1, A, B, hA, _, _, hs, hB => by
    have : A = [] := List.eq_nil_of_length_eq_zero hA
    subst this
    refine ⟨x :: B, ?_, .refl _, List.pairwise_cons.2 ⟨hB, hs⟩⟩
    unfold slices_insertionSortOrdered_int_l2
    rw [if_neg (by omega), b1_some, if_neg (by decide)]; rfl
  | n + 1, fu + 1, A, B, hA, hf, hl, hs, hB => by
    have hne : A ≠ [] := fun h => by rw [h] at hA; simp at hA
    obtain ⟨A0, y, rfl⟩ : ∃ A0 y, A = A0 ++ [y] := ⟨A.dropLast, A.getLast hne, (List.dropLast_concat_getLast hne).symm⟩
    have hA0 : A0.length = n := by simpa using hA
    have e1 : A0 ++ [y] ++ x :: (B ++ tl) = A0 ++ y :: x :: (B ++ tl) := by simp
    have g1 : (A0 ++ [y] ++ x :: (B ++ tl)).getD (n + 1) 0 = x := by
      have := getA (a := A0 ++ [y]) (x := x) (tl := B ++ tl)
      rw [List.length_append, List.length_singleton, hA0] at this
      exact this
    have g2 : (A0 ++ [y] ++ x :: (B ++ tl)).getD n 0 = y := by
      rw [e1, ← hA0]; exact getA
    have hlen : (A0 ++ [y] ++ x :: (B ++ tl)).length = n + 1 + 1 + B.length + tl.length := by simp [hA0]; omega
    have s1 : (A0 ++ [y] ++ x :: (B ++ tl)).set (n + 1) y = A0 ++ y :: y :: (B ++ tl) := by
      have := setA (a := A0 ++ [y]) (x := x) (y := y) (tl := B ++ tl)
      rw [List.length_append, List.length_singleton, hA0] at this
      rw [this]; simp
    have s2 : (A0 ++ y :: y :: (B ++ tl)).set n x = A0 ++ x :: ((y :: B) ++ tl) := by
      rw [← hA0]; exact setA
    have hs1 := List.pairwise_append.1 hs
    have hs2 := List.pairwise_append.1 hs1.1
    unfold slices_insertionSortOrdered_int_l2
    rw [if_pos (by omega), ixI _ (by omega), g1, gd_t (r64_small (by omega)), show ((n + 1 : Nat) : Int) - 1 = (n : Int) by omega, ixI _ (by omega), g2, lessI_eq, b1_some, b1_some]
    by_cases hc : x < y
    · have hs' : (A0 ++ (y :: B)).Pairwise (· ≤ ·) := by
        have : A0 ++ (y :: B) = A0 ++ [y] ++ B := by simp
        rw [this]; exact hs
      obtain ⟨R, r1, r2, r3⟩ := ins_l2 (x := x) (tl := tl) n fu A0 (y :: B) hA0 (by omega) (by rw [List.length_cons]; omega) hs' (fun b hb => by
        rcases List.mem_cons.1 hb with rfl | hb
        · omega
        · exact hB b hb)
      refine ⟨R, ?_, r2.trans ?_, r3⟩
      · rw [if_pos (decide_eq_true hc), gd_t (r64_small (by omega)), gd_t (r64_small (by omega)), ixI _ (by omega), g2, ixI _ (by omega), g1, bvE, Int.toNat_natCast, s1, ixI _ (by simp [hA0]), bvE, Int.toNat_natCast, s2, gd_t (r64_small (by omega)), r1]
      · rw [List.append_assoc]
        exact (List.Perm.swap y x B).append_left A0
    · refine ⟨A0 ++ [y] ++ x :: B, ?_, .refl _, ?_⟩
      · rw [if_neg (by rw [decide_eq_true_iff]; exact hc)]
        simp
      · refine List.pairwise_append.2 ⟨hs1.1, List.pairwise_cons.2 ⟨hB, hs1.2.1⟩, fun a ha b hb => ?_⟩
        rcases List.mem_cons.1 hb with rfl | hb
        · have : a ≤ y := by
            rcases List.mem_append.1 ha with h | h
            · exact hs2.2.2 a h y (List.mem_singleton.2 rfl)
            · rw [List.mem_singleton] at h; omega
          omega
        · exact hs1.2.2 a ha b hb
theorem ins_l1 : ∀ (tl P : List Int), P.length + tl.length ≤ 10000 → P.Pairwise (· ≤ ·) → ∃ R, slices_insertionSortOrdered_int_l1 0 tl.length (P.length : Int) (P ++ tl) = some R ∧ R.Perm (P ++ tl) ∧ R.Pairwise (· ≤ ·)
  | [], P, _, hs => ⟨P, by rw [List.append_nil]; rfl, by rw [List.append_nil], hs⟩
  | x :: tl, P, hl, hs => by
    rw [List.length_cons] at hl
    obtain ⟨R, r1, r2, r3⟩ := ins_l2 (x := x) (tl := tl) P.length FU P [] rfl (by unfold FU; omega) (by simp; omega) (by rw [List.append_nil]; exact hs) (fun _ h => nomatch h)
    rw [List.nil_append] at r1
    have hRl : R.length = P.length + 1 := by rw [r2.length_eq]; simp
    obtain ⟨S, q1, q2, q3⟩ := ins_l1 tl R (by omega) r3
    refine ⟨S, ?_, q2.trans ?_, q3⟩
    · rw [List.length_cons]; unfold slices_insertionSortOrdered_int_l1
      rw [r1, b1_some, show (P.length : Int) + 1 = (R.length : Int) by omega]
      exact q1
    · have := r2.append_right tl
      rw [List.append_assoc] at this
      exact this
theorem ins_eq {s : List Int} (hl : s.length ≤ 10000) : ∃ R, slices_insertionSortOrdered_int s 0 (s.length : Int) = some R ∧ R.Perm s ∧ R.Pairwise (· ≤ ·) := by
  unfold slices_insertionSortOrdered_int
  rw [gd_t (r64_small (by omega)), gd_t ⟨r64_small (by omega), r64_small (by omega)⟩]
  match s, hl with
  | [], _ => exact ⟨[], rfl, .refl _, List.Pairwise.nil⟩
  | x :: tl, hl =>
    rw [List.length_cons] at hl
    obtain ⟨R, r1, r2, r3⟩ := ins_l1 tl [x] (by simp; omega) (by simp)
    refine ⟨R, ?_, r2, r3⟩
    rw [show Int.toNat (((x :: tl).length : Int) - (0 + 1)) = tl.length by rw [List.length_cons]; omega]
    exact r1
theorem pdq_eq {s : List Int} (hl : s.length ≤ 12) (fu : Nat) (limit : Int) : ∃ R, slices_pdqsortOrdered_int (fu + 1) s 0 (s.length : Int) limit = some R ∧ R.Perm s ∧ R.Pairwise (· ≤ ·) := by
  obtain ⟨R, r1, r2, r3⟩ := ins_eq (s := s) (by omega)
  refine ⟨R, ?_, r2, r3⟩
  unfold slices_pdqsortOrdered_int slices_pdqsortOrdered_intB
  show slices_pdqsortOrdered_intB_l1 s 0 (s.length : Int) (18446744073709551615 + 1) = some R
  unfold slices_pdqsortOrdered_intB_l1
  rw [gd_t (r64_small (by omega)), gd_t (by omega), r1, b1_some]
theorem bits_all : ((List.range 256).all fun k : Nat => (math_bits_Len ((k : Int) % 18446744073709551616)).isSome) = true := by decide +kernel
theorem bits_ok {k : Nat} (h : k < 256) : ∃ n, math_bits_Len ((k : Int) % 18446744073709551616) = some n := by
  have := (List.all_eq_true.1 bits_all) k (List.mem_range.2 h)
  exact Option.isSome_iff_exists.1 this
theorem sort_eq {s : List Int} (hl : s.length ≤ 12) : ∃ R, slices_Sort_int_int s = some R ∧ R.Perm s ∧ R.Pairwise (· ≤ ·) := by
  obtain ⟨n, hn⟩ := bits_ok (k := s.length) (by omega)
  obtain ⟨R, h1, h2⟩ := pdq_eq hl 18446744073709551615 n
  refine ⟨R, ?_, h2⟩
  have h1' : slices_pdqsortOrdered_int FU s 0 (s.length : Int) n = some R := h1
  unfold slices_Sort_int_int
  rw [hn, b1_some, h1', b1_some]
theorem values_eq : ∀ l : List Int, slices_Values_int_int l = some l := fun l => by
  have key : ∀ l : List Int, slices_Values_int_int_1_l1 l = some l := fun l => by
    induction l with
    | nil => rfl
    | cons x l ih => unfold slices_Values_int_int_1_l1; rw [ih]; rfl
  unfold slices_Values_int_int slices_Values_int_int_1
  rw [key, b1_some]
theorem appSeq_l1 : ∀ (l acc : List Int), acc.length + l.length ≤ 100000 → slices_AppendSeq_int_int_l1 l acc = some (acc ++ l)
  | [], acc, _ => by simp [slices_AppendSeq_int_int_l1]
  | x :: l, acc, h => by
    rw [List.length_cons] at h
    unfold slices_AppendSeq_int_int_l1
    rw [ap_t (by simp; omega), appSeq_l1 l (acc ++ [x]) (by simp; omega)]
    simp
theorem sortedS_eq {s : List Int} (hl : s.length ≤ 12) : ∃ R, (b1 (slices_Values_int_int s) fun y => slices_Sorted_int y) = some R ∧ R.Perm s ∧ R.Pairwise (· ≤ ·) := by
  obtain ⟨R, h1, h2⟩ := sort_eq hl
  refine ⟨R, ?_, h2⟩
  unfold slices_Sorted_int slices_Collect_int slices_AppendSeq_int_int
  rw [values_eq, b1_some, appSeq_l1 s [] (by simp; omega), b1_some, b1_some, List.nil_append, b1_some, h1, b1_some]
end Go.Proofs.Ytfmapnhfamoecab.Rd
