/- Layer 1: lists without what comes twice on end; the fewest stands that serve houses; in plain Lean. -/
import Derived.Test.YtejkgppikpkkpaaGreatZFHM
namespace Go.Proofs.YtejkgppikpkkpaaGreat
open Go.PL Go.Hear
def cptG (p : List Bool) : List (List Bool) → List (List Bool)
  | [] => []
  | y :: l => if y = p then cptG p l else y :: cptG y l
def cpt : List (List Bool) → List (List Bool)
  | [] => []
  | x :: l => x :: cptG x l
theorem mem_cptG {z : List Bool} : ∀ {p : List Bool} {l : List (List Bool)}, (z ∈ cptG p l ∨ z = p) ↔ (z ∈ l ∨ z = p)
  | p, [] => by simp [cptG]
  | p, y :: l => by
    unfold cptG
    by_cases h : y = p
    · rw [if_pos h, mem_cptG, List.mem_cons]
      constructor
      · rintro (h1 | h1)
        · exact .inl (.inr h1)
        · exact .inr h1
      · rintro ((h1 | h1) | h1)
        · exact .inr (h1.trans h)
        · exact .inl h1
        · exact .inr h1
    · have ih := mem_cptG (z := z) (p := y) (l := l)
      rw [if_neg h, List.mem_cons, List.mem_cons]
      constructor
      · rintro ((h1 | h1) | h1)
        · exact .inl (.inl h1)
        · rcases ih.1 (.inl h1) with h2 | h2
          · exact .inl (.inr h2)
          · exact .inl (.inl h2)
        · exact .inr h1
      · rintro ((h1 | h1) | h1)
        · exact .inl (.inl h1)
        · rcases ih.2 (.inl h1) with h2 | h2
          · exact .inl (.inr h2)
          · exact .inl (.inl h2)
        · exact .inr h1
theorem mem_cpt {z : List Bool} : ∀ {l : List (List Bool)}, z ∈ cpt l ↔ z ∈ l
  | [] => Iff.rfl
  | x :: l => by
    have h := mem_cptG (z := z) (p := x) (l := l)
    unfold cpt
    rw [List.mem_cons, List.mem_cons, or_comm, h, or_comm]
theorem cptG_len : ∀ (p : List Bool) (l : List (List Bool)), (cptG p l).length ≤ l.length
  | _, [] => Nat.le_refl _
  | p, y :: l => by
    unfold cptG
    split
    · have := cptG_len p l; rw [List.length_cons]; omega
    · have := cptG_len y l; rw [List.length_cons, List.length_cons]; omega
theorem cpt_len : ∀ l : List (List Bool), (cpt l).length ≤ l.length
  | [] => Nat.le_refl _
  | x :: l => by have := cptG_len x l; unfold cpt; rw [List.length_cons, List.length_cons]; omega
theorem getL {l : List (List Bool)} {i : Nat} (h : i < l.length) : l[i]? = some (l.getD i []) := getD_of h
theorem ixL {β : Type} {xs : List (List Bool)} {i : Nat} (f : List Bool → Option β) (h : i < xs.length) : ix xs (i : Int) f = f (xs.getD i []) := ix_t (by omega) (by rw [Int.toNat_natCast]; exact getL h)
theorem compact_l4 {o : List (List Bool)} {k : Nat} (hk : k < o.length) (hn : o.length ≤ 100000) : ∀ (rest : List (List Bool)) (fu j : Nat) (s A : List (List Bool)), rest.length < fu → o.drop (k + j) = rest → 1 ≤ j → s.length = o.length → s.take A.length = A → s.drop A.length = o.drop A.length → A.length + 1 ≤ k + j → k ≤ A.length →
    ∃ s' B, slices_Compact_hear_ears_hear_ears_l4 (k : Int) fu s (A.length : Int) (j : Int) = some (s', (B.length : Int)) ∧ B = A ++ cptG (o.getD (k + j - 1) []) rest ∧ s'.length = o.length ∧ s'.take B.length = B ∧ B.length ≤ o.length
  | _, 0, _, _, _, h, _, _, _, _, _, _, _ => absurd h (Nat.not_lt_zero _)
  | [], fu + 1, j, s, A, _, hd, hj, hs, h1, h2, h3, h4 => by
    have hle : o.length ≤ k + j := List.drop_eq_nil_iff.1 hd
    have hA : A.length ≤ s.length := by
      have := congrArg List.length h1
      rw [List.length_take] at this; omega
    refine ⟨s, A, ?_, by simp [cptG], hs, h1, by omega⟩
    unfold slices_Compact_hear_ears_hear_ears_l4
    rw [Int.toNat_natCast, if_neg (by omega)]
  | x :: rest, fu + 1, j, s, A, hf, hd, hj, hs, h1, h2, h3, h4 => by
    rw [List.length_cons] at hf
    have hk2 : k + j < o.length := by
      rcases Nat.lt_or_ge (k + j) o.length with h' | h'
      · exact h'
      · rw [List.drop_eq_nil_of_le h'] at hd; cases hd
    have hg : o.getD (k + j) [] = x := by
      rw [List.drop_eq_getElem_cons hk2] at hd
      rw [List.getD_eq_getElem?_getD, List.getElem?_eq_getElem hk2]
      exact (List.cons.inj hd).1
    have hd2 : o.drop (k + (j + 1)) = rest := by
      rw [List.drop_eq_getElem_cons hk2] at hd
      rw [show k + (j + 1) = k + j + 1 by omega]
      exact (List.cons.inj hd).2
    have hA : A.length ≤ s.length := by
      have := congrArg List.length h1
      rw [List.length_take] at this; omega
    have rd : ∀ i, A.length ≤ i → s.getD i [] = o.getD i [] := fun i hi => by
      have e1 : s.getD i [] = (s.drop A.length).getD (i - A.length) [] := by
        rw [List.getD_eq_getElem?_getD, List.getD_eq_getElem?_getD, List.getElem?_drop, show A.length + (i - A.length) = i by omega]
      have e2 : o.getD i [] = (o.drop A.length).getD (i - A.length) [] := by
        rw [List.getD_eq_getElem?_getD, List.getD_eq_getElem?_getD, List.getElem?_drop, show A.length + (i - A.length) = i by omega]
      rw [e1, e2, h2]
    have rdk : ∀ i, A.length ≤ k + i → (s.drop k).getD i [] = o.getD (k + i) [] := fun i hi => by
      rw [List.getD_eq_getElem?_getD, List.getElem?_drop, ← List.getD_eq_getElem?_getD, rd _ hi]
    have hlen : (s.drop k).length = o.length - k := by rw [List.length_drop, hs]
    have ih := compact_l4 hk hn rest fu (j + 1)
    unfold slices_Compact_hear_ears_hear_ears_l4
    rw [Int.toNat_natCast, if_pos (by rw [hs]; omega), ixL _ (by omega), gd_t (r64_small (by omega)), show (j : Int) - 1 = ((j - 1 : Nat) : Int) by omega, ixL _ (by omega), rdk j (by omega), rdk (j - 1) (by omega), hg, show k + (j - 1) = k + j - 1 by omega]
    by_cases hx : x = o.getD (k + j - 1) []
    · have e : cptG (o.getD (k + j - 1) []) (x :: rest) = cptG (o.getD (k + (j + 1) - 1) []) rest := by
        rw [show k + (j + 1) - 1 = k + j by omega, hg]
        show (if x = _ then _ else _) = _
        rw [if_pos hx, ← hx]
      obtain ⟨s', B, q1, q2, q3⟩ := ih s A (by omega) hd2 (by omega) hs h1 h2 (by omega) h4
      rw [if_neg (fun h => h hx), gd_t (r64_small (by omega)), show (j : Int) + 1 = ((j + 1 : Nat) : Int) by omega]
      exact ⟨s', B, q1, by rw [q2, e], q3⟩
    · have e : cptG (o.getD (k + j - 1) []) (x :: rest) = x :: cptG (o.getD (k + (j + 1) - 1) []) rest := by
        rw [show k + (j + 1) - 1 = k + j by omega, hg]
        show (if x = _ then _ else _) = _
        rw [if_neg hx]
      have hAl : A.length < s.length := by omega
      obtain ⟨s', B, q1, q2, q3⟩ := ih (s.set A.length x) (A ++ [x]) (by omega) hd2 (by omega) (by rw [List.length_set]; exact hs) (by
        rw [List.length_append, List.length_singleton, List.take_add_one, List.getElem?_set_self hAl, List.take_set_of_le (Nat.le_refl _), h1]; rfl) (by
        rw [List.length_append, List.length_singleton, List.drop_set_of_lt (by omega)]
        have := congrArg (List.drop 1) h2
        rw [List.drop_drop, List.drop_drop] at this
        exact this) (by simp; omega) (by simp; omega)
      rw [List.length_append, List.length_singleton] at q1
      rw [if_pos hx, ixL _ hAl, bvE, Int.toNat_natCast, gd_t (r64_small (by omega)), gd_t (r64_small (by omega)), show (j : Int) + 1 = ((j + 1 : Nat) : Int) by omega, show (A.length : Int) + 1 = ((A.length + 1 : Nat) : Int) by omega]
      exact ⟨s', B, q1, by rw [q2, e, List.append_assoc]; rfl, q3⟩
theorem compact_l2 {o : List (List Bool)} (hn : o.length ≤ 100000) : ∀ (fu k : Nat), 1 ≤ k → k + fu = o.length → slices_Compact_hear_ears_hear_ears_l2 o fu (k : Int) = some (o.take k ++ cptG (o.getD (k - 1) []) (o.drop k))
  | 0, k, _, hf => by
    unfold slices_Compact_hear_ears_hear_ears_l2 slices_Compact_hear_ears_hear_ears_j1
    rw [List.drop_eq_nil_of_le (by omega), List.take_of_length_le (by omega)]
    simp [cptG]
  | fu + 1, k, h1, hf => by
    have hk : k < o.length := by omega
    have hd : o.drop k = o.getD k [] :: o.drop (k + 1) := by
      rw [List.drop_eq_getElem_cons hk, List.getD_eq_getElem?_getD, List.getElem?_eq_getElem hk]; rfl
    unfold slices_Compact_hear_ears_hear_ears_l2
    rw [ixL _ hk, gd_t (r64_small (by omega)), show (k : Int) - 1 = ((k - 1 : Nat) : Int) by omega, ixL _ (by omega)]
    by_cases hx : o.getD k [] = o.getD (k - 1) []
    · obtain ⟨s', B, q1, q2, q3, q4, q5⟩ := compact_l4 hk hn (o.drop (k + 1)) FU 1 o (o.take k) (by rw [List.length_drop]; unfold FU; omega) rfl (Nat.le_refl _) rfl (by rw [List.length_take, Nat.min_eq_left (by omega)]) (by rw [List.length_take, Nat.min_eq_left (by omega)]) (by rw [List.length_take]; omega) (by rw [List.length_take]; omega)
      rw [List.length_take, Nat.min_eq_left (by omega)] at q1
      have q1' : slices_Compact_hear_ears_hear_ears_l4 (k : Int) FU o (k : Int) 1 = some (s', (B.length : Int)) := q1
      have e : cptG (o.getD (k - 1) []) (o.drop k) = cptG (o.getD (k + 1 - 1) []) (o.drop (k + 1)) := by
        rw [hd, show k + 1 - 1 = k by omega]
        show (if _ = _ then _ else _) = _
        rw [if_pos hx, hx]
      rw [if_pos hx, gd_t ⟨by omega, by omega⟩, q1', b2_some, gd_t ⟨by omega, by omega⟩, bvE, Int.toNat_natCast, gd_t ⟨⟨Int.le_refl _, by omega⟩, by rw [List.length_append, List.length_take, List.length_replicate]; omega⟩, bvE, q4]
      have esl : sl (B ++ List.replicate (s'.length - B.length) (List.replicate 30 false)) 0 (B.length : Int) = B := by
        unfold sl
        rw [Int.toNat_natCast, List.take_left]; rfl
      rw [esl, q2, e]
    · have e : o.take k ++ cptG (o.getD (k - 1) []) (o.drop k) = o.take (k + 1) ++ cptG (o.getD (k + 1 - 1) []) (o.drop (k + 1)) := by
        rw [hd, show k + 1 - 1 = k by omega, List.take_add_one, List.getElem?_eq_getElem hk]
        have e2 : cptG (o.getD (k - 1) []) (o.getD k [] :: o.drop (k + 1)) = o.getD k [] :: cptG (o.getD k []) (o.drop (k + 1)) := by
          show (if _ = _ then _ else _) = _
          rw [if_neg hx]
        rw [e2, List.append_assoc]
        have e3 : o.getD k [] = o[k] := by rw [List.getD_eq_getElem?_getD, List.getElem?_eq_getElem hk]; rfl
        rw [e3]; rfl
      rw [if_neg hx]
      unfold slices_Compact_hear_ears_hear_ears_j3
      rw [show (((k : Nat) : Int) + 1) = ((k + 1 : Nat) : Int) by omega, e]
      exact compact_l2 hn fu (k + 1) (by omega) (by omega)
theorem compact_eq {o : List (List Bool)} (hn : o.length ≤ 100000) : slices_Compact_hear_ears_hear_ears o = some (cpt o) := by
  unfold slices_Compact_hear_ears_hear_ears
  by_cases h : (o.length : Int) < 2
  · rw [if_pos h]
    match o, h with
    | [], _ => rfl
    | [x], _ => rfl
    | _ :: _ :: _, h => simp at h; omega
  · rw [if_neg h, gd_t ⟨r64_small (by omega), r64_small (by omega)⟩, show Int.toNat ((o.length : Int) - 1) = o.length - 1 by omega, show (1 : Int) = ((1 : Nat) : Int) from rfl, compact_l2 hn (o.length - 1) 1 (Nat.le_refl _) (by omega)]
    match o, h with
    | x :: l, _ => rfl
    | [], h => simp at h
theorem cloneE_eq {xs : List (List Bool)} (h : xs.length ≤ 1000000) : slices_Clone_hear_ears_hear_ears xs = some xs := by
  unfold slices_Clone_hear_ears_hear_ears nilIf
  rw [ap_t (by simp; omega), List.nil_append]
  by_cases h1 : xs = []
  · rw [if_pos h1, h1]; rfl
  · rw [if_neg h1]
/-- Each row has one of the stands. -/
def All (R : List (List Bool)) (L : List Nat) : Prop := ∀ r ∈ R, ∃ s ∈ L, r.getD s false = true
theorem all_cov (R : List (List Bool)) (L : List Nat) : cntT (cov (colS R) (List.replicate R.length false) L) = R.length ↔ All R L := by
  have e0 : List.replicate R.length false = R.map fun _ => false := by
    rw [List.map_const']
  have e1 : colS R = fun s => R.map fun r => r.getD s false := rfl
  rw [e0, e1, cov_map, cnt_map]
  simp only [Bool.false_or]
  rw [List.countP_eq_length]
  constructor
  · intro h r hr
    have := h r hr
    rw [List.any_eq_true] at this
    exact this
  · intro h r hr
    rw [List.any_eq_true]
    exact h r hr
theorem All.cpt {R : List (List Bool)} {L : List Nat} : All (cpt R) L ↔ All R L :=
  ⟨fun h r hr => h r (mem_cpt.2 hr), fun h r hr => h r (mem_cpt.1 hr)⟩
/-- The shortest list that serves all; the first one of these. -/
structure IsFew (R : List (List Bool)) (L : List Nat) : Prop where
  inc : Inc 0 L
  all : All R L
  len : L.length ≤ R.length
  min : ∀ L', Inc 0 L' → All R L' → L.length < L'.length ∨ (L.length = L'.length ∧ lexLe L L')
  use : ∀ p : Nat → Bool, (∀ s, p s = false → colS R s = List.replicate R.length false) → ∀ s ∈ L, p s = true
theorem inc_of {p : Nat → Bool} : ∀ (n a : Nat), a + n ≤ 30 → Inc a ((List.range' a n).filter p)
  | 0, _, _ => trivial
  | n + 1, a, h => by
    have ih := inc_of (p := p) n (a + 1) (by omega)
    rw [List.range'_succ]
    cases hp : p a with
    | true => rw [List.filter_cons_of_pos hp]; exact ⟨⟨Nat.le_refl _, by omega⟩, ih⟩
    | false => rw [List.filter_cons_of_neg (by rw [hp]; decide)]; exact ih.weak (by omega)
/-- If each row has a stand, no more stands are needed than there are rows. -/
theorem few_ex {R : List (List Bool)} (h : ∀ r ∈ R, ∃ s, s < 30 ∧ r.getD s false = true) : ∃ L, Inc 0 L ∧ L.length ≤ R.length ∧ All R L := by
  have key : ∀ R : List (List Bool), (∀ r ∈ R, ∃ s, s < 30 ∧ r.getD s false = true) → ∃ C : List Nat, C.length = R.length ∧ (∀ s ∈ C, s < 30) ∧ All R C := by
    intro R
    induction R with
    | nil => intro _; exact ⟨[], rfl, (fun _ h => nomatch h), fun _ h => nomatch h⟩
    | cons r R ih =>
      intro h
      obtain ⟨C, h1, h2, h3⟩ := ih fun x hx => h x (List.mem_cons_of_mem _ hx)
      obtain ⟨s, h4, h5⟩ := h r (List.mem_cons_self ..)
      refine ⟨s :: C, by rw [List.length_cons, h1, List.length_cons], fun x hx => ?_, fun x hx => ?_⟩
      · rcases List.mem_cons.1 hx with rfl | hx
        · exact h4
        · exact h2 x hx
      · rcases List.mem_cons.1 hx with rfl | hx
        · exact ⟨s, List.mem_cons_self .., h5⟩
        · obtain ⟨t, ht, h6⟩ := h3 x hx
          exact ⟨t, List.mem_cons_of_mem _ ht, h6⟩
  obtain ⟨C, h1, h2, h3⟩ := key R h
  refine ⟨(List.range' 0 30).filter fun s => decide (s ∈ C), inc_of 30 0 (by omega), ?_, fun r hr => ?_⟩
  · rw [← h1]
    have hnd : ((List.range' 0 30).filter fun s => decide (s ∈ C)).Nodup := List.Pairwise.filter _ (List.nodup_range' ..)
    exact hnd.length_le_of_subset fun s hs => by
      rw [List.mem_filter] at hs
      exact of_decide_eq_true hs.2
  · obtain ⟨s, hs, h4⟩ := h3 r hr
    refine ⟨s, ?_, h4⟩
    rw [List.mem_filter]
    refine ⟨?_, decide_eq_true hs⟩
    rw [List.mem_range']
    exact ⟨s, h2 s hs, by omega⟩
theorem few_of {R : List (List Bool)} {L : List Nat} {n : Nat} (h : ∀ r ∈ R, ∃ s, s < 30 ∧ r.getD s false = true) (hb : ∀ p : Nat → Bool, (∀ s, p s = false → colS R s = List.replicate R.length false) → IsBest (colS R) p (List.replicate R.length false) (min R.length R.length) L n) : n = R.length ∧ IsFew R L := by
  have b := hb (fun _ => true) (fun _ h => nomatch h)
  obtain ⟨L0, k1, k2, k3⟩ := few_ex h
  have hc0 := (all_cov R L0).2 k3
  have h1 := b.max L0 k1 (fun _ _ => rfl) (by omega)
  have h2 := b.val
  have h3 : cntT (cov (colS R) (List.replicate R.length false) L) ≤ R.length := by
    have e0 : List.replicate R.length false = R.map fun _ => false := by rw [List.map_const']
    have e1 : colS R = fun s => R.map fun r => r.getD s false := rfl
    rw [e0, e1, cov_map, cnt_map]
    exact List.countP_le_length
  have hn : n = R.length := by omega
  refine ⟨hn, b.inc, (all_cov R L).1 (by omega), by have := b.len; omega, fun L' i hL' => ?_, fun p hp => (hb p hp).sto⟩
  have hc := (all_cov R L').2 hL'
  have h4 := b.short L' i (fun _ _ => rfl) (by omega)
  rcases Nat.lt_or_ge L.length L'.length with h5 | h5
  · exact .inl h5
  · exact .inr ⟨by omega, b.fst L' i (fun _ _ => rfl) (by omega) (by omega)⟩
theorem IsFew.cpt {R : List (List Bool)} {L : List Nat} (h : IsFew (cpt R) L) : IsFew R L := by
  refine ⟨h.inc, All.cpt.1 h.all, Nat.le_trans h.len (cpt_len R), fun L' i hL' => h.min L' i (All.cpt.2 hL'), fun p hp => h.use p fun s hs => ?_⟩
  have h1 := hp s hs
  unfold colS at h1 ⊢
  rw [List.eq_replicate_iff]
  refine ⟨List.length_map .., fun b hb => ?_⟩
  obtain ⟨r, hr, rfl⟩ := List.mem_map.1 hb
  exact (List.eq_replicate_iff.1 h1).2 _ (List.mem_map.2 ⟨r, mem_cpt.1 hr, rfl⟩)
section
variable {wide : Int} {ps : List Int} {w v : Int}
theorem askR_len (wide : Int) (ps : List Int) (w v : Int) (H : List Int) : (askR wide ps w v H).length = H.length := by unfold askR; rw [List.length_map]
theorem askR_30 (H : List Int) : ∀ r ∈ askR wide ps w v H, r.length = 30 := fun r hr => by
  unfold askR at hr
  obtain ⟨h, _, rfl⟩ := List.mem_map.1 hr
  exact tabN_len ..
theorem idxE_l2 {v : List Bool} : ∀ (l : List (List Bool)) (k : Int), 0 ≤ k → ∃ n, slices_Index_hear_ears_hear_ears_l2 v l k = some n ∧ (0 ≤ n ↔ v ∈ l)
  | [], k, _ => ⟨-1, rfl, by simp⟩
  | x :: l, k, hk => by
    unfold slices_Index_hear_ears_hear_ears_l2
    by_cases hx : v = x
    · exact ⟨k, by rw [if_pos hx], by simp [hx, hk]⟩
    · obtain ⟨n, h1, h2⟩ := idxE_l2 (v := v) l (k + 1) (by omega)
      refine ⟨n, by rw [if_neg hx]; exact h1, ?_⟩
      rw [h2, List.mem_cons]; simp [hx]
theorem deafQ_eq (R : List (List Bool)) (f : Int → Option Int) : hear_quarter_deaf R f = some (decide (List.replicate 30 false ∈ R)) := by
  unfold hear_quarter_deaf slices_Contains_hear_ears_hear_ears slices_Index_hear_ears_hear_ears
  obtain ⟨n, h1, h2⟩ := idxE_l2 (v := List.replicate 30 false) R 0 (Int.le_refl _)
  rw [h1, b1_some, b1_some]
  congr 1
  rw [decide_eq_decide]
  exact h2
theorem not_deaf {r : List Bool} (hl : r.length = 30) (h : r ≠ List.replicate 30 false) : ∃ s, s < 30 ∧ r.getD s false = true := by
  apply Classical.byContradiction
  intro hn
  apply h
  rw [List.eq_replicate_iff]
  refine ⟨hl, fun b hb => ?_⟩
  obtain ⟨i, hi, rfl⟩ := List.getElem_of_mem hb
  cases hc : r[i] with
  | false => rfl
  | true => exact absurd ⟨i, by omega, by rw [List.getD_eq_getElem?_getD, List.getElem?_eq_getElem hi]; exact hc⟩ hn
/-- Fewest: the errors, or the fewest stands. -/
theorem Fewest_eq (hn : ps.length ≤ 1000) {H : List Int} (hH : H.length ≤ 40) (ha : askE wide ps w v H = 0) :
    (List.replicate 30 false ∈ askR wide ps w v H ∧ hear_Fewest wide ps w v H = some ([], 6)) ∨ ((¬ List.replicate 30 false ∈ askR wide ps w v H) ∧ ∃ L, hear_Fewest wide ps w v H = some (L.map Int.ofNat, 0) ∧ IsFew (askR wide ps w v H) L) := by
  have hl := askR_len wide ps w v H
  have h30 := askR_30 (wide := wide) (ps := ps) (w := w) (v := v) H
  unfold hear_Fewest
  rw [asked_eq hn H (by omega), ha, b3_some, if_neg (fun h => h rfl), gd_t (decide_eq_true rfl), if_pos rfl, deafQ_eq, b1_some]
  by_cases hd : List.replicate 30 false ∈ askR wide ps w v H
  · exact .inl ⟨hd, by rw [if_pos (decide_eq_true hd)]⟩
  · refine .inr ⟨hd, ?_⟩
    have hcl := cpt_len (askR wide ps w v H)
    have hc30 : ∀ r ∈ cpt (askR wide ps w v H), r.length = 30 := fun r hr => h30 r (mem_cpt.1 hr)
    obtain ⟨L, n, h1, h2⟩ := chosen_eq (rows := cpt (askR wide ps w v H)) (count := fun x : Int => hear_ones x) hc30 (by omega) (fun u hu => ones_eq (by omega)) (most := (cpt (askR wide ps w v H)).length) (by omega)
    obtain ⟨_, h3⟩ := few_of (R := cpt (askR wide ps w v H)) (fun r hr => not_deaf (hc30 r hr) fun he => hd (by rw [← he]; exact mem_cpt.1 hr)) h2
    refine ⟨L, ?_, h3.cpt⟩
    rw [if_neg (by rw [decide_eq_true_iff]; exact hd), cloneE_eq (by omega), b1_some, compact_eq (by omega), b1_some, h1, b2_some]
/-- Does a house hear a stand? -/
theorem row_get (_hn : ps.length ≤ 30) {s : Nat} (hs : s < 30) (p : Nat) : (rowP wide ps w v ps.length p).getD s false = (decide (s < ps.length) && hrB wide ps w v s p) := by
  unfold rowP
  rw [List.getD_eq_getElem?_getD, tabN_get _ hs]; rfl
end
end Go.Proofs.YtejkgppikpkkpaaGreat
