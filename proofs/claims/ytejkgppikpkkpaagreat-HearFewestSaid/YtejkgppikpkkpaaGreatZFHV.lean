/- Layer 1: what Sort, Clone, Compact, DeleteFunc, Apart, Must and some answer; in plain Lean. -/
import Derived.Test.YtejkgppikpkkpaaGreatZFHU
namespace Go.Proofs.YtejkgppikpkkpaaGreat
open Go.PL Go.Hear
def cptGI (p : Int) : List Int → List Int
  | [] => []
  | y :: l => if y = p then cptGI p l else y :: cptGI y l
def cptI : List Int → List Int
  | [] => []
  | x :: l => x :: cptGI x l
theorem mem_cptGI {z : Int} : ∀ {p : Int} {l : List Int}, (z ∈ cptGI p l ∨ z = p) ↔ (z ∈ l ∨ z = p)
  | p, [] => by simp [cptGI]
  | p, y :: l => by
    unfold cptGI
    by_cases h : y = p
    · rw [if_pos h, mem_cptGI, List.mem_cons]
      constructor
      · rintro (h1 | h1)
        · exact .inl (.inr h1)
        · exact .inr h1
      · rintro ((h1 | h1) | h1)
        · exact .inr (h1.trans h)
        · exact .inl h1
        · exact .inr h1
    · have ih := mem_cptGI (z := z) (p := y) (l := l)
      rw [if_neg h, List.mem_cons, List.mem_cons]
      constructor
      · rintro ((h1 | h1) | h1)
        · exact .inl (.inl h1)
        · rcases ih.1 (.inl h1) with h2 | h2
          · exact .inl (.inr h2)
          · exact .inl (.inl h2)
        · exact .inr h1
      · rintro ((h1 | h1) | h1)
        · exact .inl (.inl h1)
        · rcases ih.2 (.inl h1) with h2 | h2
          · exact .inl (.inr h2)
          · exact .inl (.inl h2)
        · exact .inr h1
theorem mem_cptI {z : Int} : ∀ {l : List Int}, z ∈ cptI l ↔ z ∈ l
  | [] => Iff.rfl
  | x :: l => by
    have h := mem_cptGI (z := z) (p := x) (l := l)
    unfold cptI
    rw [List.mem_cons, List.mem_cons, or_comm, h, or_comm]
theorem compactI_l4 {o : List Int} {k : Nat} (hk : k < o.length) (hn : o.length ≤ 100000) : ∀ (rest : List Int) (fu j : Nat) (s A : List Int), rest.length < fu → o.drop (k + j) = rest → 1 ≤ j → s.length = o.length → s.take A.length = A → s.drop A.length = o.drop A.length → A.length + 1 ≤ k + j → k ≤ A.length →
    ∃ s' B, slices_Compact_int_int_l4 (k : Int) fu s (A.length : Int) (j : Int) = some (s', (B.length : Int)) ∧ B = A ++ cptGI (o.getD (k + j - 1) 0) rest ∧ s'.length = o.length ∧ s'.take B.length = B ∧ B.length ≤ o.length
  | _, 0, _, _, _, h, _, _, _, _, _, _, _ => absurd h (Nat.not_lt_zero _)
  | [], fu + 1, j, s, A, _, hd, hj, hs, h1, h2, h3, h4 => by
    have hle : o.length ≤ k + j := List.drop_eq_nil_iff.1 hd
    have hA : A.length ≤ s.length := by
      have := congrArg List.length h1
      rw [List.length_take] at this; omega
    refine ⟨s, A, ?_, by simp [cptGI], hs, h1, by omega⟩
    unfold slices_Compact_int_int_l4
    rw [Int.toNat_natCast, if_neg (by omega)]
  | x :: rest, fu + 1, j, s, A, hf, hd, hj, hs, h1, h2, h3, h4 => by
    rw [List.length_cons] at hf
    have hk2 : k + j < o.length := by
      rcases Nat.lt_or_ge (k + j) o.length with h' | h'
      · exact h'
      · rw [List.drop_eq_nil_of_le h'] at hd; cases hd
    have hg : o.getD (k + j) 0 = x := by
      rw [List.drop_eq_getElem_cons hk2] at hd
      rw [List.getD_eq_getElem?_getD, List.getElem?_eq_getElem hk2]
      exact (List.cons.inj hd).1
    have hd2 : o.drop (k + (j + 1)) = rest := by
      rw [List.drop_eq_getElem_cons hk2] at hd
      rw [show k + (j + 1) = k + j + 1 by omega]
      exact (List.cons.inj hd).2
    have hA : A.length ≤ s.length := by
      have := congrArg List.length h1
      rw [List.length_take] at this; omega
    have rd : ∀ i, A.length ≤ i → s.getD i 0 = o.getD i 0 := fun i hi => by
      have e1 : s.getD i 0 = (s.drop A.length).getD (i - A.length) 0 := by
        rw [List.getD_eq_getElem?_getD, List.getD_eq_getElem?_getD, List.getElem?_drop, show A.length + (i - A.length) = i by omega]
      have e2 : o.getD i 0 = (o.drop A.length).getD (i - A.length) 0 := by
        rw [List.getD_eq_getElem?_getD, List.getD_eq_getElem?_getD, List.getElem?_drop, show A.length + (i - A.length) = i by omega]
      rw [e1, e2, h2]
    have rdk : ∀ i, A.length ≤ k + i → (s.drop k).getD i 0 = o.getD (k + i) 0 := fun i hi => by
      rw [List.getD_eq_getElem?_getD, List.getElem?_drop, ← List.getD_eq_getElem?_getD, rd _ hi]
    have hlen : (s.drop k).length = o.length - k := by rw [List.length_drop, hs]
    have ih := compactI_l4 hk hn rest fu (j + 1)
    unfold slices_Compact_int_int_l4
    rw [Int.toNat_natCast, if_pos (by rw [hs]; omega), ixI _ (by omega), gd_t (r64_small (by omega)), show (j : Int) - 1 = ((j - 1 : Nat) : Int) by omega, ixI _ (by omega), rdk j (by omega), rdk (j - 1) (by omega), hg, show k + (j - 1) = k + j - 1 by omega]
    by_cases hx : x = o.getD (k + j - 1) 0
    · have e : cptGI (o.getD (k + j - 1) 0) (x :: rest) = cptGI (o.getD (k + (j + 1) - 1) 0) rest := by
        rw [show k + (j + 1) - 1 = k + j by omega, hg]
        show (if x = _ then _ else _) = _
        rw [if_pos hx, ← hx]
      obtain ⟨s', B, q1, q2, q3⟩ := ih s A (by omega) hd2 (by omega) hs h1 h2 (by omega) h4
      rw [if_neg (fun h => h hx), gd_t (r64_small (by omega)), show (j : Int) + 1 = ((j + 1 : Nat) : Int) by omega]
      exact ⟨s', B, q1, by rw [q2, e], q3⟩
    · have e : cptGI (o.getD (k + j - 1) 0) (x :: rest) = x :: cptGI (o.getD (k + (j + 1) - 1) 0) rest := by
        rw [show k + (j + 1) - 1 = k + j by omega, hg]
        show (if x = _ then _ else _) = _
        rw [if_neg hx]
      have hAl : A.length < s.length := by omega
      obtain ⟨s', B, q1, q2, q3⟩ := ih (s.set A.length x) (A ++ [x]) (by omega) hd2 (by omega) (by rw [List.length_set]; exact hs) (by
        rw [List.length_append, List.length_singleton, List.take_add_one, List.getElem?_set_self hAl, List.take_set_of_le (Nat.le_refl _), h1]; rfl) (by
        rw [List.length_append, List.length_singleton, List.drop_set_of_lt (by omega)]
        have := congrArg (List.drop 1) h2
        rw [List.drop_drop, List.drop_drop] at this
        exact this) (by simp; omega) (by simp; omega)
      rw [List.length_append, List.length_singleton] at q1
      rw [if_pos hx, ixI _ hAl, bvE, Int.toNat_natCast, gd_t (r64_small (by omega)), gd_t (r64_small (by omega)), show (j : Int) + 1 = ((j + 1 : Nat) : Int) by omega, show (A.length : Int) + 1 = ((A.length + 1 : Nat) : Int) by omega]
      exact ⟨s', B, q1, by rw [q2, e, List.append_assoc]; rfl, q3⟩
theorem compactI_l2 {o : List Int} (hn : o.length ≤ 100000) : ∀ (fu k : Nat), 1 ≤ k → k + fu = o.length → slices_Compact_int_int_l2 o fu (k : Int) = some (o.take k ++ cptGI (o.getD (k - 1) 0) (o.drop k))
  | 0, k, _, hf => by
    unfold slices_Compact_int_int_l2 slices_Compact_int_int_j1
    rw [List.drop_eq_nil_of_le (by omega), List.take_of_length_le (by omega)]
    simp [cptGI]
  | fu + 1, k, h1, hf => by
    have hk : k < o.length := by omega
    have hd : o.drop k = o.getD k 0 :: o.drop (k + 1) := by
      rw [List.drop_eq_getElem_cons hk, List.getD_eq_getElem?_getD, List.getElem?_eq_getElem hk]; rfl
    unfold slices_Compact_int_int_l2
    rw [ixI _ hk, gd_t (r64_small (by omega)), show (k : Int) - 1 = ((k - 1 : Nat) : Int) by omega, ixI _ (by omega)]
    by_cases hx : o.getD k 0 = o.getD (k - 1) 0
    · obtain ⟨s', B, q1, q2, q3, q4, q5⟩ := compactI_l4 hk hn (o.drop (k + 1)) FU 1 o (o.take k) (by rw [List.length_drop]; unfold FU; omega) rfl (Nat.le_refl _) rfl (by rw [List.length_take, Nat.min_eq_left (by omega)]) (by rw [List.length_take, Nat.min_eq_left (by omega)]) (by rw [List.length_take]; omega) (by rw [List.length_take]; omega)
      rw [List.length_take, Nat.min_eq_left (by omega)] at q1
      have q1' : slices_Compact_int_int_l4 (k : Int) FU o (k : Int) 1 = some (s', (B.length : Int)) := q1
      have e : cptGI (o.getD (k - 1) 0) (o.drop k) = cptGI (o.getD (k + 1 - 1) 0) (o.drop (k + 1)) := by
        rw [hd, show k + 1 - 1 = k by omega]
        show (if _ = _ then _ else _) = _
        rw [if_pos hx, hx]
      rw [if_pos hx, gd_t ⟨by omega, by omega⟩, q1', b2_some, gd_t ⟨by omega, by omega⟩, bvE, Int.toNat_natCast, gd_t ⟨⟨Int.le_refl _, by omega⟩, by rw [List.length_append, List.length_take, List.length_replicate]; omega⟩, bvE, q4]
      have esl : sl (B ++ List.replicate (s'.length - B.length) 0) 0 (B.length : Int) = B := by
        unfold sl
        rw [Int.toNat_natCast, List.take_left]; rfl
      rw [esl, q2, e]
    · have e : o.take k ++ cptGI (o.getD (k - 1) 0) (o.drop k) = o.take (k + 1) ++ cptGI (o.getD (k + 1 - 1) 0) (o.drop (k + 1)) := by
        rw [hd, show k + 1 - 1 = k by omega, List.take_add_one, List.getElem?_eq_getElem hk]
        have e2 : cptGI (o.getD (k - 1) 0) (o.getD k 0 :: o.drop (k + 1)) = o.getD k 0 :: cptGI (o.getD k 0) (o.drop (k + 1)) := by
          show (if _ = _ then _ else _) = _
          rw [if_neg hx]
        rw [e2, List.append_assoc]
        have e3 : o.getD k 0 = o[k] := by rw [List.getD_eq_getElem?_getD, List.getElem?_eq_getElem hk]; rfl
        rw [e3]; rfl
      rw [if_neg hx]
      unfold slices_Compact_int_int_j3
      rw [show (((k : Nat) : Int) + 1) = ((k + 1 : Nat) : Int) by omega, e]
      exact compactI_l2 hn fu (k + 1) (by omega) (by omega)
theorem compactI_eq {o : List Int} (hn : o.length ≤ 100000) : slices_Compact_int_int o = some (cptI o) := by
  unfold slices_Compact_int_int
  by_cases h : (o.length : Int) < 2
  · rw [if_pos h]
    match o, h with
    | [], _ => rfl
    | [x], _ => rfl
    | _ :: _ :: _, h => simp at h; omega
  · rw [if_neg h, gd_t ⟨r64_small (by omega), r64_small (by omega)⟩, show Int.toNat ((o.length : Int) - 1) = o.length - 1 by omega, show (1 : Int) = ((1 : Nat) : Int) from rfl, compactI_l2 hn (o.length - 1) 1 (Nat.le_refl _) (by omega)]
    match o, h with
    | x :: l, _ => rfl
    | [], h => simp at h
theorem bits_all : ((List.range 256).all fun k : Nat => (math_bits_Len ((k : Int) % 18446744073709551616)).isSome) = true := by decide +kernel
theorem bits_ok {k : Nat} (h : k < 256) : ∃ n, math_bits_Len ((k : Int) % 18446744073709551616) = some n := by
  have := (List.all_eq_true.1 bits_all) k (List.mem_range.2 h)
  exact Option.isSome_iff_exists.1 this
theorem sort_eq {s : List Int} (hl : s.length ≤ 12) : ∃ R, slices_Sort_int_int s = some R ∧ R.Perm s ∧ R.Pairwise (· ≤ ·) := by
  obtain ⟨n, hn⟩ := bits_ok (k := s.length) (by omega)
  obtain ⟨R, h1, h2⟩ := pdq_eq hl 18446744073709551615 n
  refine ⟨R, ?_, h2⟩
  have h1' : slices_pdqsortOrdered_int FU s 0 (s.length : Int) n = some R := h1
  unfold slices_Sort_int_int
  rw [hn, b1_some, h1', b1_some]
theorem sorted_uniq : ∀ {l l' : List Int}, l.Perm l' → l.Pairwise (· ≤ ·) → l'.Pairwise (· ≤ ·) → l = l'
  | [], l', h, _, _ => (List.nil_perm.1 h).symm
  | x :: l, [], h, _, _ => by have := h.length_eq; simp at this
  | x :: l, y :: l', h, h1, h2 => by
    have p1 := List.pairwise_cons.1 h1
    have p2 := List.pairwise_cons.1 h2
    have hxy : x = y := by
      have m1 : x ∈ y :: l' := h.subset (List.mem_cons_self ..)
      have m2 : y ∈ x :: l := h.symm.subset (List.mem_cons_self ..)
      rcases List.mem_cons.1 m1 with e | m1
      · exact e
      · rcases List.mem_cons.1 m2 with e | m2
        · exact e.symm
        · have := p1.1 y m2
          have := p2.1 x m1
          omega
    subst hxy
    rw [sorted_uniq (List.Perm.cons_inv h) p1.2 p2.2]
theorem values_eq : ∀ l : List Int, slices_Values_int_int l = some l := fun l => by
  have key : ∀ l : List Int, slices_Values_int_int_1_l1 l = some l := fun l => by
    induction l with
    | nil => rfl
    | cons x l ih => unfold slices_Values_int_int_1_l1; rw [ih]; rfl
  unfold slices_Values_int_int slices_Values_int_int_1
  rw [key, b1_some]
theorem appSeq_l1 : ∀ (l acc : List Int), acc.length + l.length ≤ 100000 → slices_AppendSeq_int_int_l1 l acc = some (acc ++ l)
  | [], acc, _ => by simp [slices_AppendSeq_int_int_l1]
  | x :: l, acc, h => by
    rw [List.length_cons] at h
    unfold slices_AppendSeq_int_int_l1
    rw [ap_t (by simp; omega), appSeq_l1 l (acc ++ [x]) (by simp; omega)]
    simp
theorem sortedS_eq {s : List Int} (hl : s.length ≤ 12) : ∃ R, (b1 (slices_Values_int_int s) fun y => slices_Sorted_int y) = some R ∧ R.Perm s ∧ R.Pairwise (· ≤ ·) := by
  obtain ⟨R, h1, h2⟩ := sort_eq hl
  refine ⟨R, ?_, h2⟩
  unfold slices_Sorted_int slices_Collect_int slices_AppendSeq_int_int
  rw [values_eq, b1_some, appSeq_l1 s [] (by simp; omega), b1_some, b1_some, List.nil_append, b1_some, h1, b1_some]
theorem cloneI_eq {l : List Int} (h : l.length ≤ 100000) : slices_Clone_int_int l = some l := by
  unfold slices_Clone_int_int nilIf
  rw [ap_t (by simp; omega), List.nil_append]
  by_cases h1 : l = []
  · rw [if_pos h1, h1]; rfl
  · rw [if_neg h1]
theorem idxF_l2 {f : Int → Option Bool} {p : Int → Bool} : ∀ (l : List Int) (k : Int), (∀ x ∈ l, f x = some (p x)) → 0 ≤ k → ∃ n, slices_IndexFunc_int_int_l2 f l k = some n ∧ (0 ≤ n ↔ l.any p = true)
  | [], k, _, _ => ⟨-1, rfl, by simp⟩
  | x :: l, k, h, hk => by
    obtain ⟨n, h1, h2⟩ := idxF_l2 l (k + 1) (fun y hy => h y (List.mem_cons_of_mem _ hy)) (by omega)
    unfold slices_IndexFunc_int_int_l2
    rw [h x (List.mem_cons_self ..), b1_some]
    cases hp : p x with
    | true => exact ⟨k, by rw [if_pos rfl], by simp [hp, hk]⟩
    | false => exact ⟨n, by rw [if_neg (by decide)]; exact h1, by rw [h2]; simp [hp]⟩
theorem contF_eq {f : Int → Option Bool} {p : Int → Bool} {l : List Int} (h : ∀ x ∈ l, f x = some (p x)) : slices_ContainsFunc_int_int l f = some (l.any p) := by
  obtain ⟨n, h1, h2⟩ := idxF_l2 l 0 h (Int.le_refl _)
  unfold slices_ContainsFunc_int_int slices_IndexFunc_int_int
  rw [h1, b1_some]
  congr 1
  rw [Bool.eq_iff_iff, decide_eq_true_iff]
  exact h2
theorem everyI_eq {f : Int → Option Bool} {p : Int → Bool} {l : List Int} (h : ∀ x ∈ l, f x = some (p x)) : hear_every_int l f = some (l.all p) := by
  unfold hear_every_int
  rw [contF_eq (p := fun x => !p x) (fun x hx => by unfold hear_every_int_1; rw [h x hx, b1_some]), b1_some]
  congr 1
  rw [List.all_eq_not_any_not]
end Go.Proofs.YtejkgppikpkkpaaGreat
