/- Lists that are sorted, numbers in some order, houses that are counted; in plain Lean. -/
import Derived.Test.YtejkgppikpkkpaaGreatZCHO
import Derived.Test.YtejkgppikpkkpaaGreatZCBl
namespace Go.Proofs.YtejkgppikpkkpaaGreat
open Go.PL Go.Hear
theorem lessI_eq (x y : Int) : cmp_Less_int x y = some (decide (x < y)) := by
  unfold cmp_Less_int cmp_isNaN_int
  simp
theorem getA {a : List Int} {x : Int} {tl : List Int} : (a ++ x :: tl).getD a.length 0 = x := by
  rw [List.getD_eq_getElem?_getD, List.getElem?_append_right (Nat.le_refl _), Nat.sub_self]; rfl
theorem setA {a : List Int} {x y : Int} {tl : List Int} : (a ++ x :: tl).set a.length y = a ++ y :: tl := by
  rw [List.set_append_right (h := Nat.le_refl _), Nat.sub_self, List.set_cons_zero]
theorem ixI {β : Type} {xs : List Int} {i : Nat} (f : Int → Option β) (h : i < xs.length) : ix xs (i : Int) f = f (xs.getD i 0) := ix_t (by omega) (by rw [Int.toNat_natCast]; exact getD_of h)
theorem ins_l2 {x : Int} {tl : List Int} : ∀ (n fu : Nat) (A B : List Int), A.length = n → n < fu → n + B.length + tl.length ≤ 100000 → (A ++ B).Pairwise (· ≤ ·) → (∀ b ∈ B, x ≤ b) → ∃ R, slices_insertionSortOrdered_int_l2 0 fu (A ++ x :: (B ++ tl)) (n : Int) = some (R ++ tl) ∧ R.Perm (A ++ x :: B) ∧ R.Pairwise (· ≤ ·)
  | _, 0, _, _, _, h, _, _, _ => absurd h (Nat.not_lt_zero _)
  | 0, fu + 1, A, B, hA, _, _, hs, hB => by
    have : A = [] := List.eq_nil_of_length_eq_zero hA
    subst this
    refine ⟨x :: B, ?_, .refl _, List.pairwise_cons.2 ⟨hB, hs⟩⟩
    unfold slices_insertionSortOrdered_int_l2
    rw [if_neg (by omega), b1_some, if_neg (by decide)]; rfl
  | n + 1, fu + 1, A, B, hA, hf, hl, hs, hB => by
    have hne : A ≠ [] := fun h => by rw [h] at hA; simp at hA
    obtain ⟨A0, y, rfl⟩ : ∃ A0 y, A = A0 ++ [y] := ⟨A.dropLast, A.getLast hne, (List.dropLast_concat_getLast hne).symm⟩
    have hA0 : A0.length = n := by simpa using hA
    have e1 : A0 ++ [y] ++ x :: (B ++ tl) = A0 ++ y :: x :: (B ++ tl) := by simp
    have g1 : (A0 ++ [y] ++ x :: (B ++ tl)).getD (n + 1) 0 = x := by
      have := getA (a := A0 ++ [y]) (x := x) (tl := B ++ tl)
      rw [List.length_append, List.length_singleton, hA0] at this
      exact this
    have g2 : (A0 ++ [y] ++ x :: (B ++ tl)).getD n 0 = y := by
      rw [e1, ← hA0]; exact getA
    have hlen : (A0 ++ [y] ++ x :: (B ++ tl)).length = n + 1 + 1 + B.length + tl.length := by simp [hA0]; omega
    have s1 : (A0 ++ [y] ++ x :: (B ++ tl)).set (n + 1) y = A0 ++ y :: y :: (B ++ tl) := by
      have := setA (a := A0 ++ [y]) (x := x) (y := y) (tl := B ++ tl)
      rw [List.length_append, List.length_singleton, hA0] at this
      rw [this]; simp
    have s2 : (A0 ++ y :: y :: (B ++ tl)).set n x = A0 ++ x :: ((y :: B) ++ tl) := by
      rw [← hA0]; exact setA
    have hs1 := List.pairwise_append.1 hs
    have hs2 := List.pairwise_append.1 hs1.1
    unfold slices_insertionSortOrdered_int_l2
    rw [if_pos (by omega), ixI _ (by omega), g1, gd_t (r64_small (by omega)), show ((n + 1 : Nat) : Int) - 1 = (n : Int) by omega, ixI _ (by omega), g2, lessI_eq, b1_some, b1_some]
    by_cases hc : x < y
    · have hs' : (A0 ++ (y :: B)).Pairwise (· ≤ ·) := by
        have : A0 ++ (y :: B) = A0 ++ [y] ++ B := by simp
        rw [this]; exact hs
      obtain ⟨R, r1, r2, r3⟩ := ins_l2 (x := x) (tl := tl) n fu A0 (y :: B) hA0 (by omega) (by rw [List.length_cons]; omega) hs' (fun b hb => by
        rcases List.mem_cons.1 hb with rfl | hb
        · omega
        · exact hB b hb)
      refine ⟨R, ?_, r2.trans ?_, r3⟩
      · rw [if_pos (decide_eq_true hc), gd_t (r64_small (by omega)), gd_t (r64_small (by omega)), ixI _ (by omega), g2, ixI _ (by omega), g1, bvE, Int.toNat_natCast, s1, ixI _ (by simp [hA0]), bvE, Int.toNat_natCast, s2, gd_t (r64_small (by omega)), r1]
      · rw [List.append_assoc]
        exact (List.Perm.swap y x B).append_left A0
    · refine ⟨A0 ++ [y] ++ x :: B, ?_, .refl _, ?_⟩
      · rw [if_neg (by rw [decide_eq_true_iff]; exact hc)]
        simp
      · refine List.pairwise_append.2 ⟨hs1.1, List.pairwise_cons.2 ⟨hB, hs1.2.1⟩, fun a ha b hb => ?_⟩
        rcases List.mem_cons.1 hb with rfl | hb
        · have : a ≤ y := by
            rcases List.mem_append.1 ha with h | h
            · exact hs2.2.2 a h y (List.mem_singleton.2 rfl)
            · rw [List.mem_singleton] at h; omega
          omega
        · exact hs1.2.2 a ha b hb
theorem ins_l1 : ∀ (tl P : List Int), P.length + tl.length ≤ 10000 → P.Pairwise (· ≤ ·) → ∃ R, slices_insertionSortOrdered_int_l1 0 tl.length (P.length : Int) (P ++ tl) = some R ∧ R.Perm (P ++ tl) ∧ R.Pairwise (· ≤ ·)
  | [], P, _, hs => ⟨P, by rw [List.append_nil]; rfl, by rw [List.append_nil], hs⟩
  | x :: tl, P, hl, hs => by
    rw [List.length_cons] at hl
    obtain ⟨R, r1, r2, r3⟩ := ins_l2 (x := x) (tl := tl) P.length FU P [] rfl (by unfold FU; omega) (by simp; omega) (by rw [List.append_nil]; exact hs) (fun _ h => nomatch h)
    rw [List.nil_append] at r1
    have hRl : R.length = P.length + 1 := by rw [r2.length_eq]; simp
    obtain ⟨S, q1, q2, q3⟩ := ins_l1 tl R (by omega) r3
    refine ⟨S, ?_, q2.trans ?_, q3⟩
    · rw [List.length_cons]; unfold slices_insertionSortOrdered_int_l1
      rw [r1, b1_some, show (P.length : Int) + 1 = (R.length : Int) by omega]
      exact q1
    · have := r2.append_right tl
      rw [List.append_assoc] at this
      exact this
theorem ins_eq {s : List Int} (hl : s.length ≤ 10000) : ∃ R, slices_insertionSortOrdered_int s 0 (s.length : Int) = some R ∧ R.Perm s ∧ R.Pairwise (· ≤ ·) := by
  unfold slices_insertionSortOrdered_int
  rw [gd_t (r64_small (by omega)), gd_t ⟨r64_small (by omega), r64_small (by omega)⟩]
  match s, hl with
  | [], _ => exact ⟨[], rfl, .refl _, List.Pairwise.nil⟩
  | x :: tl, hl =>
    rw [List.length_cons] at hl
    obtain ⟨R, r1, r2, r3⟩ := ins_l1 tl [x] (by simp; omega) (by simp)
    refine ⟨R, ?_, r2, r3⟩
    rw [show Int.toNat (((x :: tl).length : Int) - (0 + 1)) = tl.length by rw [List.length_cons]; omega]
    exact r1
theorem pdq_eq {s : List Int} (hl : s.length ≤ 12) (fu : Nat) (limit : Int) : ∃ R, slices_pdqsortOrdered_int (fu + 1) s 0 (s.length : Int) limit = some R ∧ R.Perm s ∧ R.Pairwise (· ≤ ·) := by
  obtain ⟨R, r1, r2, r3⟩ := ins_eq (s := s) (by omega)
  refine ⟨R, ?_, r2, r3⟩
  unfold slices_pdqsortOrdered_int slices_pdqsortOrdered_intB
  show slices_pdqsortOrdered_intB_l1 s 0 (s.length : Int) (18446744073709551615 + 1) = some R
  unfold slices_pdqsortOrdered_intB_l1
  rw [gd_t (r64_small (by omega)), gd_t (by omega), r1, b1_some]
/-- All numbers below n, each once. -/
def Ord (n : Nat) (l : List Int) : Prop := l.length = n ∧ l.Nodup ∧ ∀ x ∈ l, 0 ≤ x ∧ x < (n : Int)
theorem swap_nodup {l : List Int} {i j : Nat} (hi : i < l.length) (hj : j < l.length) (h : l.Nodup) : ((l.set i (l.getD j 0)).set j (l.getD i 0)).Nodup := by
  have gi : l.getD i 0 = l[i] := by rw [List.getD_eq_getElem?_getD, List.getElem?_eq_getElem hi]; rfl
  have gj : l.getD j 0 = l[j] := by rw [List.getD_eq_getElem?_getD, List.getElem?_eq_getElem hj]; rfl
  rw [gi, gj, List.Nodup, List.pairwise_iff_getElem]
  have hp := List.pairwise_iff_getElem.1 h
  have inj : ∀ a b (ha : a < l.length) (hb : b < l.length), l[a] = l[b] → a = b := fun a b ha hb he => by
    rcases Nat.lt_trichotomy a b with h1 | h1 | h1
    · exact absurd he (hp a b ha hb h1)
    · exact h1
    · exact absurd he.symm (hp b a hb ha h1)
  have val : ∀ a (ha : a < ((l.set i l[j]).set j l[i]).length), ∃ b, ∃ hb : b < l.length, ((l.set i l[j]).set j l[i])[a] = l[b] ∧ b = if a = j then i else if a = i then j else a := fun a ha => by
    simp only [List.length_set] at ha
    by_cases h1 : a = j
    · subst h1
      exact ⟨i, hi, by rw [List.getElem_set_self], by rw [if_pos rfl]⟩
    · by_cases h2 : a = i
      · subst h2
        exact ⟨j, hj, by rw [List.getElem_set_ne (fun e => h1 e.symm), List.getElem_set_self], by rw [if_neg h1, if_pos rfl]⟩
      · exact ⟨a, ha, by rw [List.getElem_set_ne (fun e => h1 e.symm), List.getElem_set_ne (fun e => h2 e.symm)], by rw [if_neg h1, if_neg h2]⟩
  intro a b ha hb hab he
  obtain ⟨a', ha', e1, e2⟩ := val a ha
  obtain ⟨b', hb', e3, e4⟩ := val b hb
  have := inj a' b' ha' hb' (by rw [← e1, ← e3]; exact he)
  rw [e2, e4] at this
  repeat (first | omega | split at this)
theorem swap_mem {l : List Int} {i j : Nat} (hi : i < l.length) (hj : j < l.length) {x : Int} (h : x ∈ (l.set i (l.getD j 0)).set j (l.getD i 0)) : x ∈ l := by
  have gi : l.getD i 0 ∈ l := by rw [List.getD_eq_getElem?_getD, List.getElem?_eq_getElem hi]; exact List.getElem_mem _
  have gj : l.getD j 0 ∈ l := by rw [List.getD_eq_getElem?_getD, List.getElem?_eq_getElem hj]; exact List.getElem_mem _
  rcases List.mem_or_eq_of_mem_set h with h | rfl
  · rcases List.mem_or_eq_of_mem_set h with h | rfl
    · exact h
    · exact gj
  · exact gi
section
variable {metal : List Int}
theorem rung_l1 (hm : (metal.length : Int) ≤ 9223372036854775807) : ∀ (fu k : Nat) (a t : Int) (out : List Int), (0 ≤ a ∧ a ≤ metal.length) → Ord k out → k + fu ≤ 100000 → ∃ r a' t', oyezkit_Bell_Rung_l1 metal fu (k : Int) a t out = some (r, a', t') ∧ Ord (k + fu) r ∧ (0 ≤ a' ∧ a' ≤ metal.length)
  | 0, k, a, t, out, ha, ho, _ => ⟨out, a, t, rfl, ho, ha⟩
  | fu + 1, k, a, t, out, ha, ho, hk => by
    obtain ⟨h1, h2, h3⟩ := ho
    obtain ⟨n, a1, t1, e1, g1, g2, g3⟩ := stroke_ok (t := t) (n := (k : Int)) ha hm (by omega)
    obtain ⟨n, rfl⟩ := Int.eq_ofNat_of_zero_le g1
    have hn : n ≤ k := by omega
    have hl : (out ++ [(k : Int)]).length = k + 1 := by simp [h1]
    have hnd : (out ++ [(k : Int)]).Nodup := by
      rw [List.nodup_append]
      refine ⟨h2, by simp, fun x hx y hy he => ?_⟩
      rw [List.mem_singleton] at hy
      have := h3 x hx
      omega
    have hmem : ∀ x ∈ out ++ [(k : Int)], 0 ≤ x ∧ x < ((k + 1 : Nat) : Int) := fun x hx => by
      rcases List.mem_append.1 hx with h | h
      · have := h3 x h; omega
      · rw [List.mem_singleton] at h; omega
    have hO : Ord (k + 1) (((out ++ [(k : Int)]).set n ((out ++ [(k : Int)]).getD k 0)).set k ((out ++ [(k : Int)]).getD n 0)) :=
      ⟨by simp [h1], swap_nodup (by omega) (by omega) hnd, fun x hx => hmem x (swap_mem (by omega) (by omega) hx)⟩
    obtain ⟨r, a2, t2, q1, q2, q3⟩ := rung_l1 hm fu (k + 1) a1 t1 _ g3 hO (by omega)
    refine ⟨r, a2, t2, ?_, by rw [show k + (fu + 1) = k + 1 + fu by omega]; exact q2, q3⟩
    unfold oyezkit_Bell_Rung_l1
    rw [e1, b3_some, ap_t (by omega), ixI _ (by omega), ixI _ (by omega), bvE, Int.toNat_natCast, ixI _ (by rw [List.length_set]; omega), bvE, Int.toNat_natCast, show (k : Int) + 1 = ((k + 1 : Nat) : Int) by omega]
    exact q1
theorem rung_ok (hm : (metal.length : Int) ≤ 9223372036854775807) {a t : Int} (ha : 0 ≤ a ∧ a ≤ metal.length) {n : Nat} (hn : n ≤ 1000) : ∃ r a' t', oyezkit_Bell_Rung metal a t (n : Int) = some (r, a', t') ∧ Ord n r ∧ (0 ≤ a' ∧ a' ≤ metal.length) := by
  obtain ⟨r, a', t', h1, h2, h3⟩ := rung_l1 hm n 0 a t [] ha ⟨rfl, List.nodup_nil, fun _ h => nomatch h⟩ (by omega)
  rw [Nat.zero_add] at h2
  refine ⟨r, a', t', ?_, h2, h3⟩
  have e : (if (n : Int) > 0 then (n : Int) else 0) = (n : Int) := by split <;> omega
  have h1' : oyezkit_Bell_Rung_l1 metal n 0 a t [] = some (r, a', t') := h1
  unfold oyezkit_Bell_Rung
  rw [e, gd_t ⟨r64_small (by omega), r64_small (by omega)⟩, show Int.toNat ((n : Int) - 0) = n by omega, h1', b3_some]
end
section
variable {wide : Int} {ps : List Int} {w v : Int}
/-- How many houses of some hear one of some stands. -/
def srvN (wide : Int) (ps : List Int) (w v : Int) (H : List Int) (S : List Int) : Nat := H.countP fun h => S.any fun s => decide (h.toNat < ps.length ∧ 0 ≤ h) && hrB wide ps w v s.toNat h.toNat
theorem servedL_l4 {rec2 : List (Int × Bool) → Option (Int × Bool)} : ∀ (l : List Int) (m : List (Int × Bool)), ∃ m', oyezlaw01_served_l4 rec2 l m = rec2 m' ∧ ∀ h, ((mget m' h).getD false = true ↔ ((mget m h).getD false = true ∨ h ∈ l))
  | [], m => ⟨m, rfl, fun h => by simp⟩
  | x :: l, m => by
    obtain ⟨m', h1, h2⟩ := servedL_l4 (rec2 := rec2) l (mput m x true)
    refine ⟨m', by unfold oyezlaw01_served_l4; rw [bvE]; exact h1, fun h => ?_⟩
    rw [h2, mget_mput, List.mem_cons]
    by_cases hx : x = h
    · subst hx; simp
    · rw [if_neg hx]
      have hx' : ¬ h = x := fun e => hx e.symm
      simp [hx']
theorem servedL_l5 {m : List (Int × Bool)} : ∀ (H : List Int) (n : Int), 0 ≤ n → n + H.length ≤ 100000 → oyezlaw01_served_l5 m H n = some (n + ((H.countP fun h => (mget m h).getD false : Nat) : Int))
  | [], n, _, _ => by simp [oyezlaw01_served_l5]
  | x :: H, n, h0, h => by
    rw [List.length_cons] at h
    unfold oyezlaw01_served_l5
    by_cases hx : (mget m x).getD false = true
    · rw [if_pos hx, gd_t (r64_small (by omega)), servedL_l5 H (n + 1) (by omega) (by omega), List.countP_cons_of_pos (p := fun h => (mget m h).getD false) hx]
      congr 1; omega
    · rw [if_neg hx, servedL_l5 H n h0 (by omega), List.countP_cons_of_neg (p := fun h => (mget m h).getD false) hx]
theorem servedL_l2 (hn : ps.length ≤ 1000) (ha : airE wide ps w v = 0) {H : List Int} (hH : H.length ≤ 1000) : ∀ (S : List Int) (m : List (Int × Bool)), (∀ s ∈ S, isE ps s 0 = 0) → ∃ m', oyezlaw01_served_l2 wide ps w v H S m = oyezlaw01_served_j1 H m' ∧ ∀ h, ((mget m' h).getD false = true ↔ ((mget m h).getD false = true ∨ ∃ s ∈ S, h ∈ lstN (hrB wide ps w v s.toNat) ps.length))
  | [], m, _ => ⟨m, rfl, fun h => by simp⟩
  | s :: S, m, hS => by
    have hs := hS s (List.mem_cons_self ..)
    have he : housE wide ps w v s = 0 := by unfold housE; rw [ha, if_neg (fun h => h rfl), hs]
    obtain ⟨m1, h1, h2⟩ := servedL_l4 (rec2 := oyezlaw01_served_l2 wide ps w v H S) (lstN (hrB wide ps w v s.toNat) ps.length) m
    obtain ⟨m2, h3, h4⟩ := servedL_l2 hn ha hH S m1 (fun x hx => hS x (List.mem_cons_of_mem _ hx))
    refine ⟨m2, ?_, fun h => ?_⟩
    · unfold oyezlaw01_served_l2
      rw [Houses_eq hn, if_pos he, he, b2_some, if_neg (fun h => h rfl), h1, h3]
    · rw [h4, h2]; simp only [List.mem_cons, exists_eq_or_imp, or_assoc]
theorem servedL_eq (hn : ps.length ≤ 1000) (ha : airE wide ps w v = 0) {H : List Int} (hH : H.length ≤ 1000) {S : List Int} (hS : ∀ s ∈ S, isE ps s 0 = 0) : oyezlaw01_served wide ps w v H S = some ((srvN wide ps w v H S : Int), true) := by
  obtain ⟨m, h1, h2⟩ := servedL_l2 hn ha hH S [] hS
  unfold oyezlaw01_served
  rw [h1]
  unfold oyezlaw01_served_j1
  rw [servedL_l5 H 0 (by omega) (by omega), b1_some, Int.zero_add]
  congr 3
  unfold srvN
  apply List.countP_congr
  intro h _
  rw [h2, mget_nil]
  simp only [Option.getD_none, Bool.false_eq_true, false_or, List.any_eq_true, Bool.and_eq_true, decide_eq_true_eq]
  constructor
  · rintro ⟨s, hs, hm⟩
    obtain ⟨k1, k2⟩ := lstN_mem.1 hm
    exact ⟨s, hs, ⟨by omega, k1.1⟩, k2⟩
  · rintro ⟨s, hs, ⟨k1, k2⟩, k3⟩
    exact ⟨s, hs, lstN_mem.2 ⟨⟨k2, by omega⟩, k3⟩⟩
end
end Go.Proofs.YtejkgppikpkkpaaGreat
