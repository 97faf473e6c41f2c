/- The table of walks that a beat opens with; in plain Lean. -/
import Derived.Test.YtggpjocmoelpbaaGreatZAMA
namespace Go.Proofs.YtggpjocmoelpbaaGreat.Rd
open Go.PL
def E0 (ws : List (List Int)) (i k : Nat) : Int := if i < ws.length ∧ k < ws.length then (ws.getD i []).getD k 0 else -1
section
variable {ws hs : List (List Int)} {H st : Int} {ns : List (List Int × Int × Int)}
theorem open_l2 (h : BtOK ws hs H st ns) {i : Nat} (hi : i < 5) : ∀ (fu k : Nat) (out : List Int), k + fu = 5 → out.length = 25 → (∀ i' k', i' < 5 → k' < 5 → i' < i ∨ (i' = i ∧ k' < k) → en out i' k' = E0 ws i' k') →
    ∃ out', round_opened_l2 ws (i : Int) fu (k : Int) out = some out' ∧ out'.length = 25 ∧ ∀ i' k', i' < 5 → k' < 5 → i' < i + 1 → en out' i' k' = E0 ws i' k'
  | 0, k, out, hk, ho, he => ⟨out, rfl, ho, fun i' k' h1 h2 h3 => he i' k' h1 h2 (by omega)⟩
  | fu + 1, k, out, hk, ho, he => by
    have hk5 : k < 5 := by omega
    have hw := h.hw
    have e2 : (i : Int) * 5 + (k : Int) = ((i * 5 + k : Nat) : Int) := by omega
    have hol : (out.set (i * 5 + k) (-1)).length = 25 := by rw [List.length_set]; exact ho
    unfold round_opened_l2
    rw [gd_t (by omega), gd_t (by omega), ixE ho hi hk5, bvE, e2, Int.toNat_natCast]
    have step : ∀ out2 : List Int, out2.length = 25 → (∀ i' k', i' < 5 → k' < 5 → en out2 i' k' = if i = i' ∧ k = k' then E0 ws i k else en out i' k') →
        ∃ out', round_opened_l2 ws (i : Int) fu ((k : Int) + 1) out2 = some out' ∧ out'.length = 25 ∧ ∀ i' k', i' < 5 → k' < 5 → i' < i + 1 → en out' i' k' = E0 ws i' k' := by
      intro out2 hl hv
      refine open_l2 h hi fu (k + 1) out2 (by omega) hl fun i' k' h1 h2 h3 => ?_
      rw [hv i' k' h1 h2]
      by_cases c : i = i' ∧ k = k'
      · rw [if_pos c, c.1, c.2]
      · rw [if_neg c]; exact he i' k' h1 h2 (by omega)
    by_cases c : i < ws.length ∧ k < ws.length
    · have hr := (h.row i c.1).1
      rw [if_pos (by omega), decide_eq_true (by omega), b1_some, if_pos rfl, ixN [] _ c.1, ixN 0 _ (by omega), gd_t (by omega), gd_t (by omega), ← e2, ixE hol hi hk5, bvE, List.set_set]
      refine step _ (by rw [List.length_set]; exact ho) fun i' k' h1 h2 => ?_
      rw [en_set ho hi hk5 h1 h2]
      unfold E0
      rw [if_pos c]
    · have e3 : (if (i : Int) < (ws.length : Int) then some (decide ((k : Int) < (ws.length : Int))) else some false) = some false := by
        by_cases d : i < ws.length
        · rw [if_pos (by omega), decide_eq_false (by omega)]
        · rw [if_neg (by omega)]
      rw [e3, b1_some, if_neg (by decide)]
      refine step _ hol fun i' k' h1 h2 => ?_
      rw [en_set ho hi hk5 h1 h2]
      unfold E0
      rw [if_neg c]
theorem open_l1 (h : BtOK ws hs H st ns) : ∀ (fu i : Nat) (out : List Int), i + fu = 5 → out.length = 25 → (∀ i' k', i' < 5 → k' < 5 → i' < i → en out i' k' = E0 ws i' k') →
    ∃ out', round_opened_l1 ws fu (i : Int) out = some out' ∧ out'.length = 25 ∧ ∀ i' k', i' < 5 → k' < 5 → en out' i' k' = E0 ws i' k'
  | 0, i, out, hi, ho, he => ⟨out, rfl, ho, fun i' k' h1 h2 => he i' k' h1 h2 (by omega)⟩
  | fu + 1, i, out, hi, ho, he => by
    unfold round_opened_l1
    obtain ⟨out', e1, h1, h2⟩ := open_l2 h (i := i) (by omega) 5 0 out rfl ho (fun i' k' d1 d2 d3 => he i' k' d1 d2 (by omega))
    have e1' : round_opened_l2 ws (i : Int) (Int.toNat (5 - 0)) 0 out = some out' := e1
    rw [gd_t ⟨r64_small (by omega), r64_small (by omega)⟩, e1', b1_some]
    exact open_l1 h fu (i + 1) out' (by omega) h1 h2
theorem walks_gen (h : BtOK ws hs H st ns) {Q : List Int → Prop} (hQ : ∀ (w w' : List Int) (B : Int), Q w → (∀ i k, i < 5 → k < 5 → ThrP w B i k 5 (en w' i k)) → Q w') (hQ0 : ∀ w, (∀ i k, i < 5 → k < 5 → en w i k = E0 ws i k) → Q w) : ∃ c0 a c, round_opened_l1 ws (Int.toNat (5 - 0)) 0 (List.replicate 25 0) = some c0 ∧ round_walks_through c0 = some a ∧ round_opened_l3 FU c0 a = some c ∧ Fin5 hs.length c ∧ Q c := by
  obtain ⟨c0, e1, h1, h2⟩ := open_l1 h 5 0 (List.replicate 25 0) rfl (by simp) (fun i' k' _ _ d => absurd d (by omega))
  have e1' : round_opened_l1 ws (Int.toNat (5 - 0)) 0 (List.replicate 25 0) = some c0 := e1
  have hw := h.hw
  have hv : ∀ i k, i < 5 → k < 5 → (i < hs.length ∧ k < hs.length → WOK i k (en c0 i k)) ∧ (¬ (i < hs.length ∧ k < hs.length) → en c0 i k = -1) := fun i k d1 d2 => by
    rw [h2 i k d1 d2]
    unfold E0
    rw [hw]
    refine ⟨fun c => ?_, fun c => by rw [if_neg c]⟩
    rw [if_pos c]
    exact (h.row i (by omega)).2 k c.2
  have hT : TOK c0 ((20 : Nat) : Int) := ⟨h1, fun i k d1 d2 => by
    by_cases c : i < hs.length ∧ k < hs.length
    · have := (hv i k d1 d2).1 c
      by_cases e : i = k
      · have := this.1 e; omega
      · have := this.2 e; omega
    · exact .inl ((hv i k d1 d2).2 c)⟩
  have hS : Shp hs.length c0 := ⟨fun i d1 d2 => ((hv i i d2 d2).1 ⟨d1, d1⟩).1 rfl, fun i k d1 d2 d3 => (hv i k d1 d2).2 d3, fun i k d1 d2 d3 => by
    by_cases c : i < hs.length ∧ k < hs.length
    · have := ((hv i k d1 d2).1 c).2 d3; omega
    · exact .inl ((hv i k d1 d2).2 c)⟩
  have hg : sm gW c0 ≤ 25 := by
    have := sm_bd (F := gW) (M := 1) c0 fun e _ => by unfold gW; split <;> omega
    omega
  have hf : sm fW c0 < FU := by
    have : sm fW c0 ≤ c0.length * 1000000000000 := sm_bd (F := fW) (M := 1000000000000) c0 fun e he => by
      obtain ⟨q, hq, rfl⟩ := List.getElem_of_mem he
      have := hT.2 (q / 5) (q % 5) (by omega) (by omega)
      rw [en_div, List.getD_eq_getElem?_getD, List.getElem?_eq_getElem hq, Option.getD_some] at this
      unfold fW; split <;> omega
    rw [h1] at this
    have hF : FU = 18446744073709551616 := rfl
    omega
  have h2p : 20 ≤ 20 * 2 ^ (25 - sm gW c0) := by
    have : 1 ≤ (2 : Nat) ^ (25 - sm gW c0) := Nat.one_le_two_pow
    omega
  obtain ⟨a, e2, g1, g2⟩ := through_ok hT (by omega)
  obtain ⟨r, e3, hr, hq⟩ := fix_ok hQ FU c0 a 20 (hQ0 c0 h2) hT h2p hg hS g1 g2 hf
  exact ⟨c0, a, r, e1', e2, e3, hr, hq⟩
theorem walks_ok (h : BtOK ws hs H st ns) : ∃ c0 a c, round_opened_l1 ws (Int.toNat (5 - 0)) 0 (List.replicate 25 0) = some c0 ∧ round_walks_through c0 = some a ∧ round_opened_l3 FU c0 a = some c ∧ Fin5 hs.length c := by
  obtain ⟨c0, a, c, h1, h2, h3, h4, _⟩ := walks_gen h (Q := fun _ => True) (fun _ _ _ _ _ => trivial) (fun _ _ => trivial)
  exact ⟨c0, a, c, h1, h2, h3, h4⟩
end
end Go.Proofs.YtggpjocmoelpbaaGreat.Rd
namespace Go.Proofs.YtggpjocmoelpbaaGreat.Rd
open Go.PL
theorem lessI_eq (x y : Int) : cmp_Less_int x y = some (decide (x < y)) := by
  unfold cmp_Less_int cmp_isNaN_int
  simp
theorem getA {a : List Int} {x : Int} {tl : List Int} : (a ++ x :: tl).getD a.length 0 = x := by
  rw [List.getD_eq_getElem?_getD, List.getElem?_append_right (Nat.le_refl _), Nat.sub_self]; rfl
theorem setA {a : List Int} {x y : Int} {tl : List Int} : (a ++ x :: tl).set a.length y = a ++ y :: tl := by
  rw [List.set_append_right (h := Nat.le_refl _), Nat.sub_self, List.set_cons_zero]
theorem ins_l2 {x : Int} {tl : List Int} : ∀ (n fu : Nat) (A B : List Int), A.length = n → n < fu → n + B.length + tl.length ≤ 100000 → (A ++ B).Pairwise (· ≤ ·) → (∀ b ∈ B, x ≤ b) → ∃ R, slices_insertionSortOrdered_int_l2 0 fu (A ++ x :: (B ++ tl)) (n : Int) = some (R ++ tl) ∧ R.Perm (A ++ x :: B) ∧ R.Pairwise (· ≤ ·)
  | _, 0, _, _, _, h, _, _, _ => absurd h (Nat.not_lt_zero _)
  | 0, fu + 1, A, B, hA, _, _, hs, hB => by
    have : A = [] := List.eq_nil_of_length_eq_zero hA
    subst this
    refine ⟨x :: B, ?_, .refl _, List.pairwise_cons.2 ⟨hB, hs⟩⟩
    unfold slices_insertionSortOrdered_int_l2
    rw [if_neg (by omega), b1_some, if_neg (by decide)]; rfl
  | n + 1, fu + 1, A, B, hA, hf, hl, hs, hB => by
    have hne : A ≠ [] := fun h => by rw [h] at hA; simp at hA
    obtain ⟨A0, y, rfl⟩ : ∃ A0 y, A = A0 ++ [y] := ⟨A.dropLast, A.getLast hne, (List.dropLast_concat_getLast hne).symm⟩
    have hA0 : A0.length = n := by simpa using hA
    have e1 : A0 ++ [y] ++ x :: (B ++ tl) = A0 ++ y :: x :: (B ++ tl) := by simp
    have g1 : (A0 ++ [y] ++ x :: (B ++ tl)).getD (n + 1) 0 = x := by
      have := getA (a := A0 ++ [y]) (x := x) (tl := B ++ tl)
      rw [List.length_append, List.length_singleton, hA0] at this
      exact this
    have g2 : (A0 ++ [y] ++ x :: (B ++ tl)).getD n 0 = y := by
      rw [e1, ← hA0]; exact getA
    have hlen : (A0 ++ [y] ++ x :: (B ++ tl)).length = n + 1 + 1 + B.length + tl.length := by simp [hA0]; omega
    have s1 : (A0 ++ [y] ++ x :: (B ++ tl)).set (n + 1) y = A0 ++ y :: y :: (B ++ tl) := by
      have := setA (a := A0 ++ [y]) (x := x) (y := y) (tl := B ++ tl)
      rw [List.length_append, List.length_singleton, hA0] at this
      rw [this]; simp
    have s2 : (A0 ++ y :: y :: (B ++ tl)).set n x = A0 ++ x :: ((y :: B) ++ tl) := by
      rw [← hA0]; exact setA
    have hs1 := List.pairwise_append.1 hs
    have hs2 := List.pairwise_append.1 hs1.1
    unfold slices_insertionSortOrdered_int_l2
    rw [if_pos (by omega), ixI _ (by omega), g1, gd_t (r64_small (by omega)), show ((n + 1 : Nat) : Int) - 1 = (n : Int) by omega, ixI _ (by omega), g2, lessI_eq, b1_some, b1_some]
    by_cases hc : x < y
    · have hs' : (A0 ++ (y :: B)).Pairwise (· ≤ ·) := by
        have : A0 ++ (y :: B) = A0 ++ [y] ++ B := by simp
        rw [this]; exact hs
      obtain ⟨R, r1, r2, r3⟩ := ins_l2 (x := x) (tl := tl) n fu A0 (y :: B) hA0 (by omega) (by rw [List.length_cons]; omega) hs' (fun b hb => by
        rcases List.mem_cons.1 hb with rfl | hb
        · omega
        · exact hB b hb)
      refine ⟨R, ?_, r2.trans ?_, r3⟩
      · rw [if_pos (decide_eq_true hc), gd_t (r64_small (by omega)), gd_t (r64_small (by omega)), ixI _ (by omega), g2, ixI _ (by omega), g1, bvE, Int.toNat_natCast, s1, ixI _ (by simp [hA0]), bvE, Int.toNat_natCast, s2, gd_t (r64_small (by omega)), r1]
      · rw [List.append_assoc]
        exact (List.Perm.swap y x B).append_left A0
    · refine ⟨A0 ++ [y] ++ x :: B, ?_, .refl _, ?_⟩
      · rw [if_neg (by rw [decide_eq_true_iff]; exact hc)]
        simp
      · refine List.pairwise_append.2 ⟨hs1.1, List.pairwise_cons.2 ⟨hB, hs1.2.1⟩, fun a ha b hb => ?_⟩
        rcases List.mem_cons.1 hb with rfl | hb
        · have : a ≤ y := by
            rcases List.mem_append.1 ha with h | h
            · exact hs2.2.2 a h y (List.mem_singleton.2 rfl)
            · rw [List.mem_singleton] at h; omega
          omega
        · exact hs1.2.2 a ha b hb
theorem ins_l1 : ∀ (tl P : List Int), P.length + tl.length ≤ 10000 → P.Pairwise (· ≤ ·) → ∃ R, slices_insertionSortOrdered_int_l1 0 tl.length (P.length : Int) (P ++ tl) = some R ∧ R.Perm (P ++ tl) ∧ R.Pairwise (· ≤ ·)
  | [], P, _, hs => ⟨P, by rw [List.append_nil]; rfl, by rw [List.append_nil], hs⟩
  | x :: tl, P, hl, hs => by
    rw [List.length_cons] at hl
    obtain ⟨R, r1, r2, r3⟩ := ins_l2 (x := x) (tl := tl) P.length FU P [] rfl (by unfold FU; omega) (by simp; omega) (by rw [List.append_nil]; exact hs) (fun _ h => nomatch h)
    rw [List.nil_append] at r1
    have hRl : R.length = P.length + 1 := by rw [r2.length_eq]; simp
    obtain ⟨S, q1, q2, q3⟩ := ins_l1 tl R (by omega) r3
    refine ⟨S, ?_, q2.trans ?_, q3⟩
    · rw [List.length_cons]; unfold slices_insertionSortOrdered_int_l1
      rw [r1, b1_some, show (P.length : Int) + 1 = (R.length : Int) by omega]
      exact q1
    · have := r2.append_right tl
      rw [List.append_assoc] at this
      exact this
theorem ins_eq {s : List Int} (hl : s.length ≤ 10000) : ∃ R, slices_insertionSortOrdered_int s 0 (s.length : Int) = some R ∧ R.Perm s ∧ R.Pairwise (· ≤ ·) := by
  unfold slices_insertionSortOrdered_int
  rw [gd_t (r64_small (by omega)), gd_t ⟨r64_small (by omega), r64_small (by omega)⟩]
  match s, hl with
  | [], _ => exact ⟨[], rfl, .refl _, List.Pairwise.nil⟩
  | x :: tl, hl =>
    rw [List.length_cons] at hl
    obtain ⟨R, r1, r2, r3⟩ := ins_l1 tl [x] (by simp; omega) (by simp)
    refine ⟨R, ?_, r2, r3⟩
    rw [show Int.toNat (((x :: tl).length : Int) - (0 + 1)) = tl.length by rw [List.length_cons]; omega]
    exact r1
theorem pdq_eq {s : List Int} (hl : s.length ≤ 12) (fu : Nat) (limit : Int) : ∃ R, slices_pdqsortOrdered_int (fu + 1) s 0 (s.length : Int) limit = some R ∧ R.Perm s ∧ R.Pairwise (· ≤ ·) := by
  obtain ⟨R, r1, r2, r3⟩ := ins_eq (s := s) (by omega)
  refine ⟨R, ?_, r2, r3⟩
  unfold slices_pdqsortOrdered_int slices_pdqsortOrdered_intB
  show slices_pdqsortOrdered_intB_l1 s 0 (s.length : Int) (18446744073709551615 + 1) = some R
  unfold slices_pdqsortOrdered_intB_l1
  rw [gd_t (r64_small (by omega)), gd_t (by omega), r1, b1_some]
theorem bits_all : ((List.range 256).all fun k : Nat => (math_bits_Len ((k : Int) % 18446744073709551616)).isSome) = true := by decide +kernel
theorem bits_ok {k : Nat} (h : k < 256) : ∃ n, math_bits_Len ((k : Int) % 18446744073709551616) = some n := by
  have := (List.all_eq_true.1 bits_all) k (List.mem_range.2 h)
  exact Option.isSome_iff_exists.1 this
theorem sort_eq {s : List Int} (hl : s.length ≤ 12) : ∃ R, slices_Sort_int_int s = some R ∧ R.Perm s ∧ R.Pairwise (· ≤ ·) := by
  obtain ⟨n, hn⟩ := bits_ok (k := s.length) (by omega)
  obtain ⟨R, h1, h2⟩ := pdq_eq hl 18446744073709551615 n
  refine ⟨R, ?_, h2⟩
  have h1' : slices_pdqsortOrdered_int FU s 0 (s.length : Int) n = some R := h1
  unfold slices_Sort_int_int
  rw [hn, b1_some, h1', b1_some]
theorem values_eq : ∀ l : List Int, slices_Values_int_int l = some l := fun l => by
  have key : ∀ l : List Int, slices_Values_int_int_1_l1 l = some l := fun l => by
    induction l with
    | nil => rfl
    | cons x l ih => unfold slices_Values_int_int_1_l1; rw [ih]; rfl
  unfold slices_Values_int_int slices_Values_int_int_1
  rw [key, b1_some]
theorem appSeq_l1 : ∀ (l acc : List Int), acc.length + l.length ≤ 100000 → slices_AppendSeq_int_int_l1 l acc = some (acc ++ l)
  | [], acc, _ => by simp [slices_AppendSeq_int_int_l1]
  | x :: l, acc, h => by
    rw [List.length_cons] at h
    unfold slices_AppendSeq_int_int_l1
    rw [ap_t (by simp; omega), appSeq_l1 l (acc ++ [x]) (by simp; omega)]
    simp
theorem sortedS_eq {s : List Int} (hl : s.length ≤ 12) : ∃ R, (b1 (slices_Values_int_int s) fun y => slices_Sorted_int y) = some R ∧ R.Perm s ∧ R.Pairwise (· ≤ ·) := by
  obtain ⟨R, h1, h2⟩ := sort_eq hl
  refine ⟨R, ?_, h2⟩
  unfold slices_Sorted_int slices_Collect_int slices_AppendSeq_int_int
  rw [values_eq, b1_some, appSeq_l1 s [] (by simp; omega), b1_some, b1_some, List.nil_append, b1_some, h1, b1_some]
end Go.Proofs.YtggpjocmoelpbaaGreat.Rd
namespace Go.Proofs.YtggpjocmoelpbaaGreat.Rd
open Go.PL
theorem bor_nat {x y : Nat} (hx : x < 9223372036854775808) (hy : y < 9223372036854775808) : bor (x : Int) (y : Int) = ((x ||| y : Nat) : Int) := by
  have ho : x ||| y < 2 ^ 63 := Nat.or_lt_two_pow hx hy
  unfold bor
  rw [BitVec.ofInt_natCast, BitVec.ofInt_natCast]
  have e : (BitVec.ofNat 64 x ||| BitVec.ofNat 64 y).toNat = x ||| y := by
    rw [BitVec.toNat_or, BitVec.toNat_ofNat, BitVec.toNat_ofNat, Nat.mod_eq_of_lt (by omega), Nat.mod_eq_of_lt (by omega)]
  rw [BitVec.toInt_eq_toNat_of_lt (by rw [e]; omega), e]
def dif (x y : Nat) : Nat := x ^^^ (x &&& y)
theorem bit_dif (x y i : Nat) : (dif x y).testBit i = (x.testBit i && !y.testBit i) := by
  unfold dif
  rw [Nat.testBit_xor, Nat.testBit_and]
  cases x.testBit i <;> cases y.testBit i <;> rfl
theorem dif_lt {x y n : Nat} (h : x < 2 ^ n) : dif x y < 2 ^ n := Nat.xor_lt_two_pow h (Nat.lt_of_le_of_lt Nat.and_le_left h)
theorem bandn_nat {x y : Nat} (hx : x < 9223372036854775808) (_hy : y < 9223372036854775808) : bandn (x : Int) (y : Int) = (dif x y : Int) := by
  have ho : dif x y < 2 ^ 63 := dif_lt hx
  unfold bandn
  rw [BitVec.ofInt_natCast, BitVec.ofInt_natCast]
  have e0 : (BitVec.ofNat 64 x &&& ~~~ BitVec.ofNat 64 y) = BitVec.ofNat 64 (dif x y) := by
    apply BitVec.eq_of_getLsbD_eq
    intro i hi
    rw [BitVec.getLsbD_and, BitVec.getLsbD_not, BitVec.getLsbD_ofNat, BitVec.getLsbD_ofNat, BitVec.getLsbD_ofNat, bit_dif]
    simp [hi]
  have e : (BitVec.ofNat 64 (dif x y)).toNat = dif x y := by rw [BitVec.toNat_ofNat, Nat.mod_eq_of_lt (by omega)]
  rw [e0, BitVec.toInt_eq_toNat_of_lt (by rw [e]; omega), e]
theorem shl_nat (k : Nat) : shl 1 (k : Int) = ((2 ^ k : Nat) : Int) := by
  unfold shl
  rw [Int.one_mul, Int.toNat_natCast]; simp
theorem shl_r {k : Nat} (h : k < 60) : (0 ≤ (k : Int) ∧ (k : Int) < 64) ∧ R64 (shl 1 (k : Int)) := by
  have h1 : 2 ^ k < 2 ^ 60 := Nat.pow_lt_pow_right (by decide) h
  have h2 : (0 : Nat) < 2 ^ k := Nat.pow_pos (by decide)
  rw [shl_nat]
  unfold R64
  omega
def Hit (hit : List Int) (Q : Nat → Nat → Nat → Bool) : Prop := hit.length = 15 ∧ ∀ s n, s < 5 → n < 3 → ∃ v : Nat, hit.getD (s * 3 + n) 0 = (v : Int) ∧ v < 512 ∧ ∀ p, v.testBit p = Q s n p
theorem Hit.congr {hit : List Int} {Q Q' : Nat → Nat → Nat → Bool} (h : Hit hit Q) (he : ∀ s n p, s < 5 → n < 3 → Q s n p = Q' s n p) : Hit hit Q' :=
  ⟨h.1, fun s n hs hn => by
    obtain ⟨v, h1, h2, h3⟩ := h.2 s n hs hn
    exact ⟨v, h1, h2, fun p => by rw [h3, he s n p hs hn]⟩⟩
theorem Hit.zero : Hit (List.replicate 15 0) fun _ _ _ => false := ⟨by simp, fun s n hs hn => ⟨0, by
  rw [List.getD_eq_getElem?_getD, List.getElem?_replicate, if_pos (by omega)]; rfl, by decide, fun p => by simp⟩⟩
theorem hit_l6 {hears : List (List Int)} (h5 : hears.length ≤ 5) {k4 : Nat} (hk : k4 < 3) {ps : List (Int × Int)} (hp : ps.length < 9) {x6 : Int} : ∀ (tl : List (List Int)) (j : Nat) (hit : List Int) (Q : Nat → Nat → Nat → Bool), hears.drop j = tl → Hit hit Q →
    ∃ hit', round_opened_l6 (k4 : Int) ps x6 tl (j : Int) hit = some hit' ∧ Hit hit' fun s n p => Q s n p || (decide (j ≤ s) && decide (s < hears.length) && decide (n = k4) && decide (p = ps.length) && decide (x6 ∈ hears.getD s []))
  | [], j, hit, Q, hd, h => ⟨hit, rfl, h.congr fun s n p hs hn => by
      have hl : hears.length ≤ j := by
        have := congrArg List.length hd
        rw [List.length_drop, List.length_nil] at this; omega
      by_cases c : j ≤ s
      · rw [decide_eq_false (show ¬ s < hears.length by omega)]; simp
      · rw [decide_eq_false c]; simp⟩
  | x7 :: tl, j, hit, Q, hd, h => by
    obtain ⟨hj, hx, hd2⟩ := drop_cons [] hd
    unfold round_opened_l6
    rw [contains_eq, b1_some]
    by_cases c : x6 ∈ x7
    · rw [if_pos (decide_eq_true c)]
      obtain ⟨v, e1, e2, e3⟩ := h.2 j k4 (by omega) hk
      have ei : (j : Int) * 3 + (k4 : Int) = ((j * 3 + k4 : Nat) : Int) := by omega
      have hl := h.1
      have hpow : (2 : Nat) ^ ps.length ≤ 2 ^ 8 := Nat.pow_le_pow_right (by decide) (by omega)
      have hpow' : (2 : Nat) ^ 8 = 256 := by decide
      rw [gd_t (by omega), gd_t (by omega), ei, ixN 0 _ (by omega), gd_t (shl_r (by omega)), gd_t (by omega), gd_t (by omega), bvE, Int.toNat_natCast, e1, shl_nat, bor_nat (by omega) (by omega)]
      have hH : Hit (hit.set (j * 3 + k4) ((v ||| 2 ^ ps.length : Nat) : Int)) fun s n p => Q s n p || (decide (s = j) && decide (n = k4) && decide (p = ps.length)) := by
        refine ⟨by rw [List.length_set]; exact hl, fun s n hs hn => ?_⟩
        rw [getD_setI (by omega)]
        by_cases d : j * 3 + k4 = s * 3 + n
        · obtain ⟨rfl, rfl⟩ : s = j ∧ n = k4 := by omega
          rw [if_pos rfl]
          refine ⟨_, rfl, ?_, fun p => ?_⟩
          · have : v ||| 2 ^ ps.length < 2 ^ 9 := Nat.or_lt_two_pow (by omega) (by omega)
            omega
          · rw [Nat.testBit_or, e3, Nat.testBit_two_pow]
            simp [eq_comm]
        · rw [if_neg d]
          obtain ⟨u, f1, f2, f3⟩ := h.2 s n hs hn
          refine ⟨u, f1, f2, fun p => ?_⟩
          rw [f3]
          by_cases c1 : s = j
          · have : n ≠ k4 := fun c2 => d (by rw [c1, c2])
            show Q s n p = (Q s n p || (decide (s = j) && decide (n = k4) && decide (p = ps.length)))
            rw [decide_eq_false this]; simp
          · show Q s n p = (Q s n p || (decide (s = j) && decide (n = k4) && decide (p = ps.length)))
            rw [decide_eq_false c1]; simp
      obtain ⟨hit', g1, g2⟩ := hit_l6 h5 hk hp tl (j + 1) _ _ hd2 hH
      refine ⟨hit', g1, g2.congr fun s n p hs hn => ?_⟩
      by_cases c1 : s = j
      · subst c1
        rw [hx, decide_eq_true c, decide_eq_true hj, decide_eq_false (show ¬ s + 1 ≤ s by omega)]
        simp
      · have e4 : decide (j ≤ s) = decide (j + 1 ≤ s) := decide_eq_decide.2 (by omega)
        rw [decide_eq_false c1, e4]; simp
    · rw [if_neg (by simpa using c)]
      obtain ⟨hit', g1, g2⟩ := hit_l6 h5 hk hp tl (j + 1) _ _ hd2 h
      refine ⟨hit', g1, g2.congr fun s n p hs hn => ?_⟩
      by_cases c1 : s = j
      · subst c1
        rw [hx, decide_eq_false c, decide_eq_false (show ¬ s + 1 ≤ s by omega)]
        simp
      · have e4 : decide (j ≤ s) = decide (j + 1 ≤ s) := decide_eq_decide.2 (by omega)
        rw [e4]
def QP (hs : List (List Int)) (ps : List (Int × Int)) (s n p : Nat) : Bool := decide (p < ps.length) && decide ((ps.getD p (0, 0)).1 = (n : Int)) && decide (s < hs.length) && decide ((ps.getD p (0, 0)).2 ∈ hs.getD s [])
theorem QP_snoc {hs : List (List Int)} {ps : List (Int × Int)} {k4 : Nat} {x : Int} (s n p : Nat) : QP hs (ps ++ [((k4 : Int), x)]) s n p = (QP hs ps s n p || (decide (s < hs.length) && decide (n = k4) && decide (p = ps.length) && decide (x ∈ hs.getD s []))) := by
  unfold QP
  rw [getD_snoc, List.length_append, List.length_singleton]
  by_cases c : p < ps.length
  · rw [if_pos c, decide_eq_true c, decide_eq_true (show p < ps.length + 1 by omega), decide_eq_false (show ¬ p = ps.length by omega)]; simp
  · rw [if_neg c, decide_eq_false c]
    by_cases c2 : p = ps.length
    · subst c2
      have e : decide ((k4 : Int) = (n : Int)) = decide (n = k4) := decide_eq_decide.2 (by omega)
      rw [if_pos rfl, decide_eq_true (show ps.length < ps.length + 1 by omega), e]
      cases decide (s < hs.length) <;> cases decide (n = k4) <;> simp
    · rw [decide_eq_false (show ¬ p < ps.length + 1 by omega), decide_eq_false c2]; simp
theorem hit_l5 {hears : List (List Int)} (h5 : hears.length ≤ 5) {k4 : Nat} (hk : k4 < 3) : ∀ (tl : List Int) (ps : List (Int × Int)) (hit : List Int), ps.length + tl.length ≤ 9 → Hit hit (QP hears ps) →
    ∃ hit', round_opened_l5 hears (k4 : Int) tl ps hit = some (ps ++ tl.map fun x => ((k4 : Int), x), hit') ∧ Hit hit' (QP hears (ps ++ tl.map fun x => ((k4 : Int), x)))
  | [], ps, hit, _, h => ⟨hit, by unfold round_opened_l5; simp, by simpa using h⟩
  | x :: tl, ps, hit, hl, h => by
    rw [List.length_cons] at hl
    unfold round_opened_l5
    obtain ⟨hit1, e1, h1⟩ := hit_l6 h5 hk (ps := ps) (x6 := x) (by omega) hears 0 hit _ rfl h
    have e1' : round_opened_l6 (k4 : Int) ps x hears 0 hit = some hit1 := e1
    have h2 : Hit hit1 (QP hears (ps ++ [((k4 : Int), x)])) := h1.congr fun s n p hs hn => by
      rw [QP_snoc, decide_eq_true (Nat.zero_le s), Bool.true_and]
    obtain ⟨hit', e2, h3⟩ := hit_l5 h5 hk tl (ps ++ [((k4 : Int), x)]) hit1 (by simp; omega) h2
    rw [e1', b1_some, ap_t (by simp; omega), b2_some, e2]
    simp only [List.append_assoc, List.singleton_append] at h3 ⊢
    exact ⟨hit', rfl, h3⟩
end Go.Proofs.YtggpjocmoelpbaaGreat.Rd
namespace Go.Proofs.YtggpjocmoelpbaaGreat.Rd
open Go.PL
structure PrsOK (ns : List (List Int × Int × Int)) (j : Nat) (ps : List (Int × Int)) : Prop where
  len : ps.length = total (ns.take j)
  nodup : ps.Nodup
  mem : ∀ q : Int × Int, q ∈ ps ↔ (0 ≤ q.1 ∧ q.1 < (j : Int)) ∧ q.2 ∈ (ns.getD q.1.toNat ([], 0, 0)).1
theorem total_app (a b : List (List Int × Int × Int)) : total (a ++ b) = total a + total b := by unfold total; simp
theorem total_take (ns : List (List Int × Int × Int)) (j : Nat) : total (ns.take j) ≤ total ns := by
  have := total_app (ns.take j) (ns.drop j)
  rw [List.take_append_drop] at this; omega
section
variable {ws hs : List (List Int)} {H st : Int} {ns : List (List Int × Int × Int)}
theorem open_l4 (h : BtOK ws hs H st ns) : ∀ (tl : List (List Int × Int × Int)) (j : Nat) (ps : List (Int × Int)) (hit : List Int), ns.drop j = tl → PrsOK ns j ps → j ≤ ns.length → Hit hit (QP hs ps) →
    ∃ ps' hit', round_opened_l4 hs tl (j : Int) ps hit = some (ps', hit') ∧ PrsOK ns ns.length ps' ∧ Hit hit' (QP hs ps')
  | [], j, ps, hit, hd, hp, hj, hh => by
    have : ns.length = j := by
      have := congrArg List.length hd
      rw [List.length_drop, List.length_nil] at this; omega
    exact ⟨ps, hit, rfl, by rw [this]; exact hp, hh⟩
  | x :: tl, j, ps, hit, hd, hp, _, hh => by
    obtain ⟨hj, hx, hd2⟩ := drop_cons ([], 0, 0) hd
    have hn := h.hn
    have htot := h.tot
    have hx' := h.note x (by rw [← hx]; exact getD_mem hj)
    have e0 : ns.take (j + 1) = ns.take j ++ [x] := by rw [List.take_add_one, getD_of (d := ([], 0, 0)) hj, hx]; rfl
    have e1 : total (ns.take (j + 1)) = total (ns.take j) + x.1.length := by rw [e0, total_snoc]
    have e2 := total_take ns (j + 1)
    have hpl := hp.len
    obtain ⟨R, r1, r2, _⟩ := sortedS_eq (s := x.1) (by omega)
    rw [values_eq, b1_some] at r1
    have hRl : R.length = x.1.length := r2.length_eq
    obtain ⟨hit', g1, g2⟩ := hit_l5 h.hs1.2 (k4 := j) (by omega) R ps hit (by omega) hh
    unfold round_opened_l4
    rw [values_eq, b1_some, r1, b1_some, g1, b2_some]
    refine open_l4 h tl (j + 1) _ hit' hd2 ⟨?_, ?_, fun q => ?_⟩ hj g2
    · rw [List.length_append, List.length_map, hRl, e1, hpl]
    · rw [List.nodup_append]
      refine ⟨hp.nodup, ?_, fun a ha b hb he => ?_⟩
      · refine List.Pairwise.map _ (fun a b hab he => hab (Prod.mk.inj he).2) (r2.symm.nodup hx'.1.2.1)
      · obtain ⟨y, _, rfl⟩ := List.mem_map.1 hb
        have := ((hp.mem a).1 ha).1
        rw [he] at this
        exact absurd this.2 (by show ¬ (j : Int) < (j : Int); omega)
    · rw [List.mem_append, hp.mem, List.mem_map]
      constructor
      · rintro (⟨h1, h2⟩ | ⟨y, h1, rfl⟩)
        · exact ⟨⟨h1.1, by omega⟩, h2⟩
        · refine ⟨⟨by show 0 ≤ (j : Int); omega, by show (j : Int) < ((j + 1 : Nat) : Int); omega⟩, ?_⟩
          show y ∈ (ns.getD (j : Int).toNat ([], 0, 0)).1
          rw [Int.toNat_natCast, hx]; exact r2.subset h1
      · rintro ⟨h1, h2⟩
        by_cases c : q.1 < (j : Int)
        · exact .inl ⟨⟨h1.1, c⟩, h2⟩
        · have e : q.1 = (j : Int) := by omega
          rw [e, Int.toNat_natCast, hx] at h2
          exact .inr ⟨q.2, r2.symm.subset h2, by rw [← e]⟩
structure CrOK (hs : List (List Int)) (ns : List (List Int × Int × Int)) (c : List Int) (ps : List (Int × Int)) (hit : List Int) : Prop where
  fin : Fin5 hs.length c
  prs : PrsOK ns ns.length ps
  hit : Hit hit (QP hs ps)
theorem opened_eq (h : BtOK ws hs H st ns) : ∃ c ps hit, round_opened ws hs H st ns = some (some (ws, hs, H, st, ns, c, ps, hit), 0) ∧ CrOK hs ns c ps hit := by
  obtain ⟨c0, a, c, e1, e2, e3, hc⟩ := walks_ok h
  have h0 : PrsOK ns 0 [] := ⟨rfl, List.nodup_nil, fun q => ⟨fun hq => (nomatch hq), fun hq => absurd hq.1 (by omega)⟩⟩
  have hz : Hit (List.replicate 15 0) (QP hs []) := Hit.zero.congr fun s n p _ _ => by unfold QP; simp
  obtain ⟨ps, hit, e4, hp, hh⟩ := open_l4 h ns 0 [] (List.replicate 15 0) rfl h0 (Nat.zero_le _) hz
  have e4' : round_opened_l4 hs ns 0 [] (List.replicate 15 0) = some (ps, hit) := e4
  refine ⟨c, ps, hit, ?_, hc, hp, hh⟩
  unfold round_opened
  rw [Check_eq h, b1_some, if_neg (by decide), gd_t ⟨r64_small (by omega), r64_small (by omega)⟩, e1, b1_some, e2, b1_some, e3, b1_some, e4', b2_some]
end
end Go.Proofs.YtggpjocmoelpbaaGreat.Rd
namespace Go.Proofs.YtggpjocmoelpbaaGreat.Rd
open Go.PL
def hb (hit : List Int) (s n : Nat) : Nat := (hit.getD (s * 3 + n) 0).toNat
theorem Hit.hb {hit : List Int} {Q : Nat → Nat → Nat → Bool} (h : Hit hit Q) {s n : Nat} (hs : s < 5) (hn : n < 3) : hit.getD (s * 3 + n) 0 = (hb hit s n : Int) ∧ hb hit s n < 512 ∧ ∀ p, (hb hit s n).testBit p = Q s n p := by
  obtain ⟨v, h1, h2, h3⟩ := h.2 s n hs hn
  unfold Rd.hb
  rw [h1, Int.toNat_natCast]
  exact ⟨rfl, h2, h3⟩
def srvA (hit : List Int) (v s : Nat) : Nat → Nat → List ((Int × Int) × Int)
  | 0, _ => []
  | fu + 1, n => if dif v (hb hit s n) = v then srvA hit v s fu (n + 1) else (((s : Int), (n : Int)), (dif v (hb hit s n) : Int)) :: srvA hit v s fu (n + 1)
def srvB (hit : List Int) (v N : Nat) : Nat → Nat → List ((Int × Int) × Int)
  | 0, _ => []
  | fu + 1, s => srvA hit v s N 0 ++ srvB hit v N fu (s + 1)
theorem mem_srvA {hit : List Int} {v s : Nat} {x : (Int × Int) × Int} : ∀ (fu n : Nat), x ∈ srvA hit v s fu n ↔ ∃ m : Nat, n ≤ m ∧ m < n + fu ∧ dif v (hb hit s m) ≠ v ∧ x = (((s : Int), (m : Int)), (dif v (hb hit s m) : Int))
  | 0, n => ⟨fun h => (nomatch h), fun ⟨m, h1, h2, _⟩ => by omega⟩
  | fu + 1, n => by
    unfold srvA
    have ih := mem_srvA (hit := hit) (v := v) (s := s) (x := x) fu (n + 1)
    by_cases c : dif v (hb hit s n) = v
    · rw [if_pos c, ih]
      constructor
      · rintro ⟨m, h1, h2, h3⟩; exact ⟨m, by omega, by omega, h3⟩
      · rintro ⟨m, h1, h2, h3, h4⟩
        by_cases e : m = n
        · rw [e] at h3; exact absurd c h3
        · exact ⟨m, by omega, by omega, h3, h4⟩
    · rw [if_neg c, List.mem_cons, ih]
      constructor
      · rintro (h | ⟨m, h1, h2, h3⟩)
        · exact ⟨n, Nat.le_refl _, by omega, c, h⟩
        · exact ⟨m, by omega, by omega, h3⟩
      · rintro ⟨m, h1, h2, h3, h4⟩
        by_cases e : m = n
        · left; rw [h4, e]
        · right; exact ⟨m, by omega, by omega, h3, h4⟩
theorem mem_srvB {hit : List Int} {v N : Nat} {x : (Int × Int) × Int} : ∀ (fu s : Nat), x ∈ srvB hit v N fu s ↔ ∃ r m : Nat, s ≤ r ∧ r < s + fu ∧ m < N ∧ dif v (hb hit r m) ≠ v ∧ x = (((r : Int), (m : Int)), (dif v (hb hit r m) : Int))
  | 0, s => ⟨fun h => (nomatch h), fun ⟨r, m, h1, h2, _⟩ => by omega⟩
  | fu + 1, s => by
    unfold srvB
    rw [List.mem_append, mem_srvA, mem_srvB fu (s + 1)]
    constructor
    · rintro (⟨m, h1, h2, h3⟩ | ⟨r, m, h1, h2, h3⟩)
      · exact ⟨s, m, Nat.le_refl _, by omega, by omega, h3⟩
      · exact ⟨r, m, by omega, by omega, h3⟩
    · rintro ⟨r, m, h1, h2, h3, h4⟩
      by_cases e : r = s
      · subst e; exact .inl ⟨m, Nat.zero_le _, by omega, h4⟩
      · exact .inr ⟨r, m, by omega, by omega, h3, h4⟩
section
variable {ws hs : List (List Int)} {H st : Int} {ns : List (List Int × Int × Int)} {c : List Int} {ps : List (Int × Int)} {hit : List Int}
theorem served_l3 {Q : Nat → Nat → Nat → Bool} (hh : Hit hit Q) (hn : ns.length ≤ 3) {v : Nat} (hv : v < 512) {s : Nat} (hs5 : s < 5) {rec1 : Int → Option (List ((Int × Int) × Int))} {R : List ((Int × Int) × Int)} (hr : rec1 ((s : Int) + 1) = some R) : ∀ (tl : List (List Int × Int × Int)) (n : Nat), ns.drop n = tl →
    round_crier_served_1_l3 hit (v : Int) (s : Int) rec1 tl (n : Int) = some (srvA hit v s tl.length n ++ R)
  | [], n, _ => by
    unfold round_crier_served_1_l3 round_crier_served_1_j2
    rw [hr]; rfl
  | x :: tl, n, hd => by
    obtain ⟨hj, hx, hd2⟩ := drop_cons ([], 0, 0) hd
    have ih := served_l3 hh hn hv hs5 hr tl (n + 1) hd2
    obtain ⟨b1, b2, _⟩ := hh.hb hs5 (n := n) (by omega)
    have hl := hh.1
    unfold round_crier_served_1_l3
    rw [gd_t (by omega), gd_t (by omega), show (s : Int) * 3 + (n : Int) = ((s * 3 + n : Nat) : Int) by omega, ixN 0 _ (by omega), b1, bandn_nat (by omega) (by omega), List.length_cons]
    unfold srvA
    rw [show ((n + 1 : Nat) : Int) = (n : Int) + 1 from rfl] at ih
    by_cases e : dif v (hb hit s n) = v
    · rw [if_neg (not_not_intro (by rw [e])), if_pos e]; exact ih
    · rw [if_pos (fun e2 => e (by omega)), if_neg e, ih]; rfl
theorem served_l1 {Q : Nat → Nat → Nat → Bool} (hh : Hit hit Q) (h5 : hs.length ≤ 5) (hn : ns.length ≤ 3) {v : Nat} (hv : v < 512) : ∀ (tl : List (List Int)) (s : Nat), hs.drop s = tl →
    round_crier_served_1_l1 ns hit (v : Int) tl (s : Int) = some (srvB hit v ns.length tl.length s)
  | [], s, _ => rfl
  | x :: tl, s, hd => by
    obtain ⟨hj, hx, hd2⟩ := drop_cons [] hd
    have ih := served_l1 hh h5 hn hv tl (s + 1) hd2
    unfold round_crier_served_1_l1
    have e := served_l3 hh hn hv (s := s) (by omega) (rec1 := round_crier_served_1_l1 ns hit (v : Int) tl) ih ns 0 rfl
    rw [List.length_cons]
    exact e
theorem served_eq (h : BtOK ws hs H st ns) (hc : CrOK hs ns c ps hit) {v : Nat} (hv : v < 512) : round_crier_served ws hs H st ns c ps hit (v : Int) = some (srvB hit v ns.length hs.length 0) := by
  unfold round_crier_served round_crier_served_1
  have e : round_crier_served_1_l1 ns hit (v : Int) hs 0 = _ := served_l1 hc.hit h.hs1.2 h.hn hv hs 0 rfl
  rw [e, b1_some]
end
end Go.Proofs.YtggpjocmoelpbaaGreat.Rd
namespace Go.Proofs.YtggpjocmoelpbaaGreat.Rd
open Go.PL
abbrev Rec := Int × Int × Int × Int × Int
abbrev Met := List ((Int × Int) × Rec)
def wrd (ns : List (List Int × Int × Int)) (n : Nat) : Int := (ns.getD n ([], 0, 0)).2.1
def Val (c : List Int) (ns : List (List Int × Int × Int)) (bd : Nat → Int) (t : Int) (k s n : Nat) : Prop := en c k s ≠ -1 ∧ t + en c k s + wrd ns n ≤ bd n
section
variable {hs : List (List Int)} {ns : List (List Int × Int × Int)} {c : List Int} {H : Int} {S : Nat} {bd : Nat → Int} {ok : Int × Int → Option Bool}
theorem serve_l3 (hc : Fin5 S c) (hw : ∀ x ∈ ns, NOK H x) (hok : ∀ (n : Nat) (m : Int), n < ns.length → ok ((n : Int), m) = some (decide (m ≤ bd n))) {left_ : Int} {met5 : Met} {k : Nat} (hk : k < 5) {y : Rec} (hy : mget met5 ((k : Int), left_) = some y) (hy0 : 0 ≤ y.1 ∧ y.1 ≤ 1000) : ∀ (tl : List ((Int × Int) × Int)) (met7 : Met), (∀ x ∈ tl, ∃ s n : Nat, s < 5 ∧ n < ns.length ∧ x.1 = ((s : Int), (n : Int))) →
    ∃ met', round_crier_serve_l3 ns c ok left_ met5 (k : Int) tl met7 = some met' ∧
      (∀ key : Int × Int, (∀ x ∈ tl, (x.1.1, x.2) ≠ key) → mget met' key = mget met7 key) ∧
      (∀ (key : Int × Int) (r : Rec), mget met' key = some r → mget met7 key = some r ∨ ∃ x ∈ tl, ∃ s n : Nat, x.1 = ((s : Int), (n : Int)) ∧ n < ns.length ∧ s < 5 ∧ Val c ns bd y.1 k s n ∧ key = ((s : Int), x.2) ∧ r = (y.1 + en c k s + wrd ns n, (s : Int), (n : Int), (k : Int), left_)) ∧
      (∀ (key : Int × Int) (r : Rec), mget met7 key = some r → ∃ r', mget met' key = some r' ∧ r'.1 ≤ r.1) ∧
      (∀ x ∈ tl, ∀ s n : Nat, x.1 = ((s : Int), (n : Int)) → Val c ns bd y.1 k s n → ∃ r', mget met' ((s : Int), x.2) = some r' ∧ r'.1 ≤ y.1 + en c k s + wrd ns n)
  | [], met7, _ => ⟨met7, rfl, fun _ _ => rfl, fun _ _ h => .inl h, fun _ r h => ⟨r, h, Int.le_refl _⟩, fun _ h => (nomatch h)⟩
  | x :: tl, met7, hx => by
    obtain ⟨s, n, hs5, hn, e⟩ := hx x (by simp)
    have hx2 : ∀ z ∈ tl, ∃ s n : Nat, s < 5 ∧ n < ns.length ∧ z.1 = ((s : Int), (n : Int)) := fun z hz => hx z (List.mem_cons_of_mem _ hz)
    have hN := hw _ (getD_mem (d := ([], 0, 0)) hn)
    have hwr : 1 ≤ wrd ns n ∧ wrd ns n ≤ 5 := hN.2.1
    have hr := hc.rng k s hk hs5
    have e1 : x.1.1 = (s : Int) := by rw [e]
    have e2 : x.1.2 = (n : Int) := by rw [e]
    have hg : ((mget met5 ((k : Int), left_)).getD (0, 0, 0, 0, 0)).1 = y.1 := by rw [hy]; rfl
    -- what follows when this cry changes nothing
    have skip : (Val c ns bd y.1 k s n → ∃ r', mget met7 ((s : Int), x.2) = some r' ∧ r'.1 ≤ y.1 + en c k s + wrd ns n) →
        ∃ met', round_crier_serve_l3 ns c ok left_ met5 (k : Int) tl met7 = some met' ∧
          (∀ key : Int × Int, (∀ z ∈ x :: tl, (z.1.1, z.2) ≠ key) → mget met' key = mget met7 key) ∧
          (∀ (key : Int × Int) (r : Rec), mget met' key = some r → mget met7 key = some r ∨ ∃ z ∈ x :: tl, ∃ s n : Nat, z.1 = ((s : Int), (n : Int)) ∧ n < ns.length ∧ s < 5 ∧ Val c ns bd y.1 k s n ∧ key = ((s : Int), z.2) ∧ r = (y.1 + en c k s + wrd ns n, (s : Int), (n : Int), (k : Int), left_)) ∧
          (∀ (key : Int × Int) (r : Rec), mget met7 key = some r → ∃ r', mget met' key = some r' ∧ r'.1 ≤ r.1) ∧
          (∀ z ∈ x :: tl, ∀ s n : Nat, z.1 = ((s : Int), (n : Int)) → Val c ns bd y.1 k s n → ∃ r', mget met' ((s : Int), z.2) = some r' ∧ r'.1 ≤ y.1 + en c k s + wrd ns n) := by
      intro hv
      obtain ⟨met', g0, g1, g2, g3, g4⟩ := serve_l3 hc hw hok hk hy hy0 tl met7 hx2
      refine ⟨met', g0, fun key h => g1 key fun z hz => h z (by simp [hz]), fun key r h => ?_, g3, fun z hz s' n' ez hval => ?_⟩
      · rcases g2 key r h with h1 | ⟨z, hz, h1⟩
        · exact .inl h1
        · exact .inr ⟨z, by simp [hz], h1⟩
      · rcases List.mem_cons.1 hz with rfl | hz
        · have ee := e.symm.trans ez
          obtain ⟨es, en'⟩ := Prod.mk.inj ee
          obtain rfl : s = s' := by omega
          obtain rfl : n = n' := by omega
          obtain ⟨r1, h1, h2⟩ := hv hval
          obtain ⟨r2, h3, h4⟩ := g3 _ _ h1
          exact ⟨r2, h3, by omega⟩
        · exact g4 z hz s' n' ez hval
    -- what follows when it is written down
    have put : Val c ns bd y.1 k s n → (∀ r0, mget met7 ((s : Int), x.2) = some r0 → y.1 + en c k s + wrd ns n ≤ r0.1) →
        ∃ met', round_crier_serve_l3 ns c ok left_ met5 (k : Int) tl (mput met7 ((s : Int), x.2) (y.1 + en c k s + wrd ns n, (s : Int), (n : Int), (k : Int), left_)) = some met' ∧
          (∀ key : Int × Int, (∀ z ∈ x :: tl, (z.1.1, z.2) ≠ key) → mget met' key = mget met7 key) ∧
          (∀ (key : Int × Int) (r : Rec), mget met' key = some r → mget met7 key = some r ∨ ∃ z ∈ x :: tl, ∃ s n : Nat, z.1 = ((s : Int), (n : Int)) ∧ n < ns.length ∧ s < 5 ∧ Val c ns bd y.1 k s n ∧ key = ((s : Int), z.2) ∧ r = (y.1 + en c k s + wrd ns n, (s : Int), (n : Int), (k : Int), left_)) ∧
          (∀ (key : Int × Int) (r : Rec), mget met7 key = some r → ∃ r', mget met' key = some r' ∧ r'.1 ≤ r.1) ∧
          (∀ z ∈ x :: tl, ∀ s n : Nat, z.1 = ((s : Int), (n : Int)) → Val c ns bd y.1 k s n → ∃ r', mget met' ((s : Int), z.2) = some r' ∧ r'.1 ≤ y.1 + en c k s + wrd ns n) := by
      intro hval hle
      obtain ⟨met', g0, g1, g2, g3, g4⟩ := serve_l3 hc hw hok hk hy hy0 tl (mput met7 ((s : Int), x.2) (y.1 + en c k s + wrd ns n, (s : Int), (n : Int), (k : Int), left_)) hx2
      have gn : ∃ r', mget met' ((s : Int), x.2) = some r' ∧ r'.1 ≤ y.1 + en c k s + wrd ns n := by
        obtain ⟨r', h1, h2⟩ := g3 ((s : Int), x.2) _ (by rw [mget_mput, if_pos rfl])
        exact ⟨r', h1, h2⟩
      refine ⟨met', g0, fun key h => ?_, fun key r h => ?_, fun key r h => ?_, fun z hz s' n' ez hv2 => ?_⟩
      · rw [g1 key fun z hz => h z (List.mem_cons_of_mem _ hz), mget_mput, if_neg]
        intro he
        exact h x (List.mem_cons_self ..) (by rw [e1]; exact he)
      · rcases g2 key r h with h1 | ⟨z, hz, h1⟩
        · rw [mget_mput] at h1
          by_cases d : ((s : Int), x.2) = key
          · rw [if_pos d] at h1
            exact .inr ⟨x, List.mem_cons_self .., s, n, e, hn, hs5, hval, d.symm, (Option.some.inj h1).symm⟩
          · rw [if_neg d] at h1; exact .inl h1
        · exact .inr ⟨z, List.mem_cons_of_mem _ hz, h1⟩
      · by_cases d : ((s : Int), x.2) = key
        · subst d
          obtain ⟨r', h1, h2⟩ := gn
          exact ⟨r', h1, Int.le_trans h2 (hle r h)⟩
        · exact g3 key r (by rw [mget_mput, if_neg d]; exact h)
      · rcases List.mem_cons.1 hz with rfl | hz
        · have ee := e.symm.trans ez
          obtain ⟨es, en'⟩ := Prod.mk.inj ee
          obtain rfl : s = s' := by omega
          obtain rfl : n = n' := by omega
          exact gn
        · exact g4 z hz s' n' ez hv2
    unfold round_crier_serve_l3
    rw [e1, e2, hg, gd_t (by omega), gd_t (by omega), ixE hc.len hk hs5]
    by_cases c1 : en c k s = -1
    · rw [if_pos c1]
      exact skip fun hval => absurd c1 hval.1
    · rw [if_neg c1, gd_t (r64_small' (by omega)), ixN ([], 0, 0) _ hn]
      show ∃ met', gd (R64 (y.1 + en c k s + wrd ns n)) _ = some met' ∧ _
      rw [gd_t (r64_small' (by omega)), bvE]
      show ∃ met', b1 (b1 (ok ((n : Int), y.1 + en c k s + wrd ns n)) _) _ = some met' ∧ _
      rw [hok n _ hn, b1_some]
      by_cases c2 : y.1 + en c k s + wrd ns n ≤ bd n
      · rw [if_pos (decide_eq_true c2)]
        cases hm : mget met7 ((s : Int), x.2) with
        | some r0 =>
          rw [if_neg (by simp), b1_some]
          by_cases c3 : y.1 + en c k s + wrd ns n < r0.1
          · have c3' : decide (y.1 + en c k s + (ns.getD n ([], 0, 0)).2.1 < ((some r0).getD (0, 0, 0, 0, 0)).1) = true := decide_eq_true c3
            rw [if_pos c3', bvE]
            exact put ⟨c1, c2⟩ fun r1 h1 => by
              rw [hm] at h1
              obtain rfl := Option.some.inj h1
              exact Int.le_of_lt c3
          · have c3' : ¬ decide (y.1 + en c k s + (ns.getD n ([], 0, 0)).2.1 < ((some r0).getD (0, 0, 0, 0, 0)).1) = true := fun hd => c3 (of_decide_eq_true hd)
            rw [if_neg c3']
            exact skip fun _ => ⟨r0, hm, by omega⟩
        | none =>
          rw [if_pos (by simp), b1_some, if_pos rfl, bvE]
          exact put ⟨c1, c2⟩ fun r1 h1 => by rw [hm] at h1; cases h1
      · rw [if_neg (by simpa using c2), b1_some, if_neg (by decide)]
        exact skip fun hval => absurd hval.2 c2
end
end Go.Proofs.YtggpjocmoelpbaaGreat.Rd
namespace Go.Proofs.YtggpjocmoelpbaaGreat.Rd
open Go.PL
theorem dif_le (x y : Nat) : dif x y ≤ x := by
  have h : dif x y &&& x = dif x y := Nat.eq_of_testBit_eq fun i => by
    rw [Nat.testBit_and, bit_dif]
    cases x.testBit i <;> simp
  rw [← h]
  exact Nat.and_le_right
section
variable {ws hs : List (List Int)} {H st : Int} {ns : List (List Int × Int × Int)} {c : List Int} {ps : List (Int × Int)} {hit : List Int} {bd : Nat → Int} {ok : Int × Int → Option Bool}
def Stp (c : List Int) (ns : List (List Int × Int × Int)) (hit : List Int) (bd : Nat → Int) (S : Nat) (met : Met) (v k s n : Nat) (y : Rec) : Prop :=
  mget met ((k : Int), (v : Int)) = some y ∧ s < S ∧ n < ns.length ∧ dif v (hb hit s n) ≠ v ∧ Val c ns bd y.1 k s n
theorem serve_l2 (h : BtOK ws hs H st ns) (hc : CrOK hs ns c ps hit) (hok : ∀ (n : Nat) (m : Int), n < ns.length → ok ((n : Int), m) = some (decide (m ≤ bd n))) {v : Nat} (hv : v < 512) : ∀ (tl : List (List Int)) (j : Nat) (met : Met), hs.drop j = tl → (∀ (k : Nat) (y : Rec), mget met ((k : Int), (v : Int)) = some y → 0 ≤ y.1 ∧ y.1 ≤ 1000) →
    ∃ met', round_crier_serve_l2 ws hs H st ns c ps hit ok (v : Int) tl (j : Int) met = some met' ∧
      (∀ key : Int × Int, (v : Int) ≤ key.2 → mget met' key = mget met key) ∧
      (∀ (key : Int × Int) (r : Rec), mget met' key = some r → mget met key = some r ∨ ∃ (k s n : Nat) (y : Rec), k < hs.length ∧ Stp c ns hit bd hs.length met v k s n y ∧ key = ((s : Int), (dif v (hb hit s n) : Int)) ∧ r = (y.1 + en c k s + wrd ns n, (s : Int), (n : Int), (k : Int), (v : Int))) ∧
      (∀ (key : Int × Int) (r : Rec), mget met key = some r → ∃ r', mget met' key = some r' ∧ r'.1 ≤ r.1) ∧
      (∀ (k s n : Nat) (y : Rec), j ≤ k → k < hs.length → Stp c ns hit bd hs.length met v k s n y → ∃ r', mget met' ((s : Int), (dif v (hb hit s n) : Int)) = some r' ∧ r'.1 ≤ y.1 + en c k s + wrd ns n)
  | [], j, met, hd, _ => ⟨met, rfl, fun _ _ => rfl, fun _ _ h => .inl h, fun _ r h => ⟨r, h, Int.le_refl _⟩, fun k s n y h1 h2 _ => by
      have := congrArg List.length hd
      rw [List.length_drop, List.length_nil] at this; omega⟩
  | x :: tl, j, met, hd, hy => by
    obtain ⟨hj, hx, hd2⟩ := drop_cons [] hd
    have h5 := h.hs1.2
    unfold round_crier_serve_l2
    cases hm : mget met ((j : Int), (v : Int)) with
    | none =>
      rw [if_pos (by simp), b1_some]
      obtain ⟨met', g0, g1, g2, g3, g4⟩ := serve_l2 h hc hok hv tl (j + 1) met hd2 hy
      refine ⟨met', g0, g1, g2, g3, fun k s n y h1 h2 h3 => ?_⟩
      by_cases e : k = j
      · rw [e] at h3; have := h3.1; rw [hm] at this; cases this
      · exact g4 k s n y (by omega) h2 h3
    | some y0 =>
      rw [if_neg (by simp), served_eq h hc hv, b1_some]
      have hmem : ∀ z ∈ srvB hit v ns.length hs.length 0, ∃ s n : Nat, s < 5 ∧ n < ns.length ∧ z.1 = ((s : Int), (n : Int)) := fun z hz => by
        obtain ⟨s, n, _, h2, h3, _, h4⟩ := (mem_srvB _ _).1 hz
        exact ⟨s, n, by omega, h3, by rw [h4]⟩
      obtain ⟨m1, f0, f1, f2, f3, f4⟩ := serve_l3 hc.fin h.note hok (k := j) (by omega) hm (hy j y0 hm) (srvB hit v ns.length hs.length 0) met hmem
      have hkeep : ∀ key : Int × Int, (v : Int) ≤ key.2 → mget m1 key = mget met key := fun key hk => f1 key fun z hz he => by
        obtain ⟨s, n, _, _, _, h3, h4⟩ := (mem_srvB _ _).1 hz
        have h5 := dif_le v (hb hit s n)
        have h6 : z.2 = (dif v (hb hit s n) : Int) := by rw [h4]
        have h7 : key.2 = z.2 := by rw [← he]
        omega
      have hs1 : ∀ k s n y, Stp c ns hit bd hs.length m1 v k s n y ↔ Stp c ns hit bd hs.length met v k s n y := fun k s n y => by
        unfold Stp
        rw [hkeep _ (Int.le_refl _)]
      obtain ⟨met', g0, g1, g2, g3, g4⟩ := serve_l2 h hc hok hv tl (j + 1) m1 hd2 (fun k y hk => hy k y (by rw [← hkeep _ (Int.le_refl _)]; exact hk))
      refine ⟨met', ?_, fun key hk => (g1 key hk).trans (hkeep key hk), fun key r hr => ?_, fun key r hr => ?_, fun k s n y h1 h2 h3 => ?_⟩
      · rw [f0, b1_some]; exact g0
      · rcases g2 key r hr with q | ⟨k, s, n, y, q1, q2, q3⟩
        · rcases f2 key r q with q | ⟨z, hz, s, n, e1, e2, e3, e4, e5, e6⟩
          · exact .inl q
          · obtain ⟨s', n', _, p2, p3, p4, p5⟩ := (mem_srvB _ _).1 hz
            have ee : ((s' : Int), (n' : Int)) = ((s : Int), (n : Int)) := by rw [← e1, p5]
            obtain ⟨ea, eb⟩ := Prod.mk.inj ee
            obtain rfl : s' = s := by omega
            obtain rfl : n' = n := by omega
            refine .inr ⟨j, s', n', y0, hj, ⟨hm, by omega, p3, p4, e4⟩, ?_, e6⟩
            rw [e5, p5]
        · exact .inr ⟨k, s, n, y, q1, (hs1 k s n y).1 q2, q3⟩
      · obtain ⟨r1, q1, q2⟩ := f3 key r hr
        obtain ⟨r2, q3, q4⟩ := g3 key r1 q1
        exact ⟨r2, q3, Int.le_trans q4 q2⟩
      · by_cases e : k = j
        · subst e
          have hyy : y0 = y := by
            have := h3.1; rw [hm] at this; exact Option.some.inj this
          subst hyy
          have hz : (((s : Int), (n : Int)), (dif v (hb hit s n) : Int)) ∈ srvB hit v ns.length hs.length 0 := (mem_srvB _ _).2 ⟨s, n, Nat.zero_le _, by have := h3.2.1; omega, h3.2.2.1, h3.2.2.2.1, rfl⟩
          obtain ⟨r1, q1, q2⟩ := f4 _ hz s n rfl h3.2.2.2.2
          obtain ⟨r2, q3, q4⟩ := g3 _ r1 q1
          exact ⟨r2, q3, Int.le_trans q4 q2⟩
        · exact g4 k s n y (by omega) h2 ((hs1 k s n y).2 h3)
end
end Go.Proofs.YtggpjocmoelpbaaGreat.Rd
