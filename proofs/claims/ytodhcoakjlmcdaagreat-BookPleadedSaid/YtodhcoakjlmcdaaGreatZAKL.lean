/- Layer 7: complaints that exclude each other; BookPleaded; in plain Lean. -/
import Derived.Test.YtodhcoakjlmcdaaGreatZAKJ
namespace Go.Proofs.YtodhcoakjlmcdaaGreat.Bk
open Go.PL Rv
theorem delF_idx {f : Int → Option Bool} {p : Int → Bool} : ∀ (l pre : List Int), (∀ x ∈ l, f x = some (p x)) → (slices_IndexFunc_int_int_l2 f l (pre.length : Int) = some (-1) ∧ ∀ x ∈ l, p x = false) ∨ (∃ a x b, l = a ++ x :: b ∧ (∀ y ∈ a, p y = false) ∧ p x = true ∧ slices_IndexFunc_int_int_l2 f l (pre.length : Int) = some ((pre.length + a.length : Nat) : Int))
  | [], pre, _ => .inl ⟨rfl, fun _ h => by cases h⟩
  | y :: l, pre, h => by
    have e : slices_IndexFunc_int_int_l2 f (y :: l) (pre.length : Int) = if p y = true then some (pre.length : Int) else slices_IndexFunc_int_int_l2 f l ((pre ++ [y]).length : Int) := by
      conv => lhs; unfold slices_IndexFunc_int_int_l2
      rw [h y (List.mem_cons_self ..), b1_some, List.length_append, List.length_singleton]; rfl
    cases hp : p y with
    | true =>
      refine .inr ⟨[], y, l, rfl, (fun _ h => by cases h), hp, ?_⟩
      rw [e, hp, if_pos rfl]; rfl
    | false =>
      rw [hp, if_neg (by decide)] at e
      rcases delF_idx l (pre ++ [y]) (fun z hz => h z (List.mem_cons_of_mem _ hz)) with ⟨h1, h2⟩ | ⟨a, x, b, h1, h2, h3, h4⟩
      · refine .inl ⟨by rw [e, h1], fun z hz => ?_⟩
        rcases List.mem_cons.1 hz with rfl | hz
        · exact hp
        · exact h2 z hz
      · refine .inr ⟨y :: a, x, b, by rw [h1]; rfl, fun z hz => ?_, h3, ?_⟩
        · rcases List.mem_cons.1 hz with rfl | hz
          · exact hp
          · exact h2 z hz
        · rw [e, h4]; simp; omega
theorem delF_l1 {f : Int → Option Bool} {p : Int → Bool} {o : List Int} (hn : o.length ≤ 100000) (hf : ∀ x ∈ o, f x = some (p x)) : ∀ (rest : List Int) (fu j : Nat) (s A : List Int), rest.length < fu → o.drop j = rest → s.length = o.length → s.take A.length = A → s.drop j = o.drop j → A.length < j → j ≤ o.length →
    ∃ s' B, slices_DeleteFunc_int_int_l1 f fu s (A.length : Int) (j : Int) = some (s', (B.length : Int)) ∧ B = A ++ rest.filter (fun x => !p x) ∧ s'.length = o.length ∧ s'.take B.length = B ∧ B.length ≤ o.length
  | _, 0, _, _, _, h, _, _, _, _, _, _ => absurd h (Nat.not_lt_zero _)
  | [], fu + 1, j, s, A, _, hd, hs, h1, h2, h3, h4 => by
    have hle : o.length ≤ j := List.drop_eq_nil_iff.1 hd
    refine ⟨s, A, ?_, by simp, hs, h1, by omega⟩
    unfold slices_DeleteFunc_int_int_l1
    rw [if_neg (by omega)]
  | x :: rest, fu + 1, j, s, A, hf', hd, hs, h1, h2, h3, h4 => by
    rw [List.length_cons] at hf'
    have hj : j < o.length := by
      rcases Nat.lt_or_ge j o.length with h' | h'
      · exact h'
      · rw [List.drop_eq_nil_of_le h'] at hd; cases hd
    have hox : o.getD j 0 = x ∧ o.drop (j + 1) = rest := by
      rw [List.drop_eq_getElem_cons hj] at hd
      rw [List.getD_eq_getElem?_getD, List.getElem?_eq_getElem hj]
      exact ⟨(List.cons.inj hd).1, (List.cons.inj hd).2⟩
    have hsx : s.getD j 0 = x := by
      have e1 : s.getD j 0 = (s.drop j).getD 0 0 := by
        rw [List.getD_eq_getElem?_getD, List.getD_eq_getElem?_getD, List.getElem?_drop, Nat.add_zero]
      rw [e1, h2, hd]; rfl
    have hm : x ∈ o := by
      rw [← hox.1, List.getD_eq_getElem?_getD, List.getElem?_eq_getElem hj]; exact List.getElem_mem _
    have h2' : s.drop (j + 1) = o.drop (j + 1) := by
      have := congrArg (List.drop 1) h2
      rw [List.drop_drop, List.drop_drop] at this
      exact this
    have ih := delF_l1 hn hf rest fu (j + 1)
    unfold slices_DeleteFunc_int_int_l1
    rw [if_pos (by omega), ixI _ (by omega), hsx, hf x hm, b1_some]
    cases hp : p x with
    | true =>
      obtain ⟨s', B, q1, q2, q3⟩ := ih s A (by omega) hox.2 hs h1 h2' (by omega) (by omega)
      rw [if_neg (by decide), gd_t (r64_small (by omega))]
      exact ⟨s', B, q1, by rw [q2, List.filter_cons_of_neg (by rw [hp]; decide)], q3⟩
    | false =>
      have hAl : A.length < s.length := by omega
      obtain ⟨s', B, q1, q2, q3⟩ := ih (s.set A.length x) (A ++ [x]) (by omega) hox.2 (by rw [List.length_set]; exact hs) (by
        rw [List.length_append, List.length_singleton, List.take_add_one, List.getElem?_set_self hAl, List.take_set_of_le (Nat.le_refl _), h1]; rfl) (by
        rw [List.drop_set_of_lt (by omega)]; exact h2') (by simp; omega) (by omega)
      rw [List.length_append, List.length_singleton] at q1
      rw [if_pos (by decide), ixI _ hAl, bvE, Int.toNat_natCast, gd_t (r64_small (by omega)), gd_t (r64_small (by omega))]
      exact ⟨s', B, q1, by rw [q2, List.filter_cons_of_pos (by rw [hp]; decide), List.append_assoc]; rfl, q3⟩
theorem delF_eq {f : Int → Option Bool} {p : Int → Bool} {o : List Int} (hn : o.length ≤ 100000) (hf : ∀ x ∈ o, f x = some (p x)) : slices_DeleteFunc_int_int o f = some (o.filter fun x => !p x) := by
  unfold slices_DeleteFunc_int_int slices_IndexFunc_int_int
  rcases delF_idx o [] hf with ⟨h1, h2⟩ | ⟨a, x, b, h1, h2, h3, h4⟩
  · have h1' : slices_IndexFunc_int_int_l2 f o 0 = some (-1) := h1
    rw [h1', b1_some, if_pos rfl]
    congr 1
    symm
    rw [List.filter_eq_self]
    intro y hy; rw [h2 y hy]; rfl
  · have h4' : slices_IndexFunc_int_int_l2 f o 0 = some ((a.length : Nat) : Int) := by rw [List.length_nil, Nat.zero_add] at h4; exact h4
    have hol : o.length = a.length + 1 + b.length := by rw [h1]; simp; omega
    have ht : o.take a.length = a := by rw [h1, List.take_left]
    have hb : o.drop (a.length + 1) = b := by
      have e : o = (a ++ [x]) ++ b := by rw [h1, List.append_assoc]; rfl
      have l : a.length + 1 = (a ++ [x]).length := by simp
      rw [l, e, List.drop_left]
    obtain ⟨s', B, q1, q2, q3, q4, q5⟩ := delF_l1 hn hf b FU (a.length + 1) o a (by unfold FU; omega) hb rfl ht rfl (by omega) (by omega)
    have q1' : slices_DeleteFunc_int_int_l1 f FU o (a.length : Int) ((a.length : Int) + 1) = some (s', (B.length : Int)) := q1
    rw [h4', b1_some, if_neg (by omega), gd_t (r64_small (by omega)), q1', b2_some, gd_t ⟨by omega, by omega⟩, bvE, Int.toNat_natCast, gd_t ⟨⟨Int.le_refl _, by omega⟩, by rw [List.length_append, List.length_take, List.length_replicate]; omega⟩, bvE, q4]
    have esl : sl (B ++ List.replicate (s'.length - B.length) 0) 0 (B.length : Int) = B := by
      unfold sl
      rw [Int.toNat_natCast, List.take_left]; rfl
    rw [esl, q2, h1, List.filter_append, List.filter_cons_of_neg (by rw [h3]; decide)]
    congr 2
    symm
    rw [List.filter_eq_self]
    intro y hy; rw [h2 y hy]; rfl
theorem lexI_trans : ∀ {a b c : List Int}, lexI a b < 0 → lexI b c < 0 → lexI a c < 0
  | [], [], _, h, _ => absurd h (show ¬ ((0 : Int) < 0) by decide)
  | [], _ :: _, [], _, h => absurd h (show ¬ ((1 : Int) < 0) by decide)
  | [], _ :: _, _ :: _, _, _ => (show ((-1 : Int) < 0) by decide)
  | _ :: _, [], _, h, _ => absurd h (show ¬ ((1 : Int) < 0) by decide)
  | _ :: _, _ :: _, [], _, h => absurd h (show ¬ ((1 : Int) < 0) by decide)
  | x :: a, y :: b, z :: c, h1, h2 => by
    unfold lexI at h1 h2 ⊢
    by_cases e1 : x < y
    · by_cases e2 : y < z
      · rw [if_pos (by omega)]; decide
      · rw [if_neg e2] at h2
        by_cases e3 : z < y
        · rw [if_pos e3] at h2; omega
        · rw [if_pos (by omega)]; decide
    · rw [if_neg e1] at h1
      by_cases e2 : y < x
      · rw [if_pos e2] at h1; omega
      · rw [if_neg e2] at h1
        by_cases e3 : y < z
        · rw [if_pos (by omega)]; decide
        · rw [if_neg e3] at h2
          by_cases e4 : z < y
          · rw [if_pos e4] at h2; omega
          · rw [if_neg e4] at h2
            rw [if_neg (by omega), if_neg (by omega)]
            exact lexI_trans h1 h2
def Bef (a b : List Int) : Prop := a.length < b.length ∨ (a.length = b.length ∧ lexI a b < 0)
theorem Bef.trans {a b c : List Int} (h1 : Bef a b) (h2 : Bef b c) : Bef a c := by
  rcases h1 with h1 | ⟨h1, g1⟩
  · rcases h2 with h2 | ⟨h2, _⟩
    · exact .inl (by omega)
    · exact .inl (by omega)
  · rcases h2 with h2 | ⟨h2, g2⟩
    · exact .inl (by omega)
    · exact .inr ⟨by omega, lexI_trans g1 g2⟩
theorem Bef.irrefl (a : List Int) : ¬ Bef a a := fun h => by
  rcases h with h | ⟨_, h⟩
  · omega
  · rw [lexI_refl] at h; omega
theorem wrF_congr {P Q : Cp → Bool} : ∀ {ps : List Cp} {k : Int}, (∀ p ∈ ps, P p = Q p) → wrF P ps k = wrF Q ps k
  | [], _, _ => rfl
  | p :: ps, k, h => by
    unfold wrF
    rw [h p (by simp), wrF_congr fun q hq => h q (by simp [hq])]
theorem mem_wrF {P : Cp → Bool} {i : Int} : ∀ {ps : List Cp} {k : Int}, i ∈ wrF P ps k ↔ k ≤ i ∧ i < k + ps.length ∧ P (ps.getD (i - k).toNat (0, 0, false)) = false
  | [], k => by unfold wrF; simp; omega
  | p :: ps, k => by
    have ih := mem_wrF (P := P) (i := i) (ps := ps) (k := k + 1)
    have hg : ∀ _ : k + 1 ≤ i, (p :: ps).getD (i - k).toNat (0, 0, false) = ps.getD (i - (k + 1)).toNat (0, 0, false) := fun h => by
      rw [show (i - k).toNat = (i - (k + 1)).toNat + 1 by omega, List.getD_cons_succ]
    have h0 : i = k → (p :: ps).getD (i - k).toNat (0, 0, false) = p := fun h => by
      rw [h, Int.sub_self]; rfl
    unfold wrF
    rw [List.length_cons]
    by_cases e : P p = true
    · rw [if_pos e, ih]
      constructor
      · rintro ⟨h1, h2, h3⟩; exact ⟨by omega, by omega, by rw [hg h1]; exact h3⟩
      · rintro ⟨h1, h2, h3⟩
        have : i ≠ k := fun e2 => by rw [h0 e2, e] at h3; cases h3
        exact ⟨by omega, by omega, by rw [← hg (by omega)]; exact h3⟩
    · rw [if_neg e, List.mem_cons, ih]
      constructor
      · rintro (h | ⟨h1, h2, h3⟩)
        · exact ⟨by omega, by omega, by rw [h0 h]; simpa using e⟩
        · exact ⟨by omega, by omega, by rw [hg h1]; exact h3⟩
      · rintro ⟨h1, h2, h3⟩
        by_cases e2 : i = k
        · exact .inl e2
        · exact .inr ⟨by omega, by omega, by rw [← hg (by omega)]; exact h3⟩
theorem wrF_sorted {P : Cp → Bool} : ∀ {ps : List Cp} {k : Int}, (wrF P ps k).Pairwise (· ≤ ·)
  | [], _ => List.Pairwise.nil
  | p :: ps, k => by
    unfold wrF
    split
    · exact wrF_sorted
    · rw [List.pairwise_cons]
      refine ⟨fun i hi => ?_, wrF_sorted⟩
      have := (mem_wrF.1 hi).1
      omega
theorem wrF_count (P : Cp → Bool) : ∀ (ps : List Cp) (k : Int), (wrF P ps k).length = ps.countP fun p => !P p
  | [], _ => rfl
  | p :: ps, k => by
    unfold wrF
    rw [List.countP_cons]
    cases e : P p with
    | true => rw [if_pos rfl, wrF_count P ps (k + 1)]; rfl
    | false => rw [if_neg (by decide), List.length_cons, wrF_count P ps (k + 1)]; rfl
section
variable {n n2 : Int} {hs : List (List (List Int))} {rs : List Int} {cs : List (Int × Int × Int)}
/-- Do complaints go together? -/
def Go (hs : List (List (List Int))) (rs : List Int) (cs : List (Int × Int × Int)) (l : List Cp) : Prop := ∃ c, FitF none rs c ∧ ∀ p ∈ l, trueC hs cs c p = true
theorem Together_go (h : BOK n n2 hs rs cs) (hex : ∃ c, FitF none rs c) {ps : List Cp} (hp : CpOK n n2 ps) : (Go hs rs cs ps ∧ ∃ c, FitF none rs c ∧ (∀ p ∈ ps, trueC hs cs c p = true) ∧ book_Together n n2 hs rs cs ps = some (c, 0)) ∨ (¬ Go hs rs cs ps ∧ book_Together n n2 hs rs cs ps = some ([], 6)) := by
  rcases Together_eq h hex hp with ⟨c, h1, h2, h3⟩ | ⟨h1, h2⟩
  · have h4 : ∀ p ∈ ps, trueC hs cs c p = true := fun p hm => decide_eq_true (h2 p hm)
    exact .inl ⟨⟨c, h1, h4⟩, c, h1, h4, h3⟩
  · refine .inr ⟨fun ⟨c, hc, hall⟩ => ?_, h2⟩
    obtain ⟨p, hm, h3⟩ := h1 c hc
    exact h3 (of_decide_eq_true (hall p hm))
/-- Which complaints are not true in a course. -/
def WC (hs : List (List (List Int))) (cs : List (Int × Int × Int)) (ps : List Cp) (c : List Int) : List Int := wrF (trueC hs cs c) ps 0
theorem wrong_end (h : BOK n n2 hs rs cs) {L : List (List Bool × List Int)} (hL : EndsOK hs rs cs L) {ps : List Cp} (hp : CpOK n n2 ps) {e : List Bool × List Int} (he : e ∈ L) : book_wrong ps e.1 = some (WC hs cs ps e.2) := by
  rw [wrong_eq (hL.len24 h e he) (hp.rng h) (by have := hp.1; omega)]
  congr 1
  exact wrF_congr (gTrue_eq h hL hp he)
theorem few_l1 (h : BOK n n2 hs rs cs) {L : List (List Bool × List Int)} (hL : EndsOK hs rs cs L) {ps : List Cp} (hp : CpOK n n2 ps) : ∀ (tl : List (List Bool × List Int)) (best : List Int), (∀ e ∈ tl, e ∈ L) → ∃ R, book_Fewest_l1 ps tl best = some R ∧ (R = best ∨ ∃ e ∈ tl, R = WC hs cs ps e.2) ∧ ∀ x, (x = best ∨ ¬ Bef x best ∨ ∃ e ∈ tl, x = WC hs cs ps e.2) → ¬ Bef x R
  | [], best, _ => ⟨best, rfl, .inl rfl, fun x hx => by
      rcases hx with rfl | hx | ⟨_, h, _⟩
      · exact Bef.irrefl _
      · exact hx
      · cases h⟩
  | e :: tl, best, ht => by
    have he := wrong_end h hL hp (ht e (by simp))
    have hb : ∃ b : Bool, (if ((WC hs cs ps e.2).length : Int) < (best.length : Int) then some true else if ((WC hs cs ps e.2).length : Int) = (best.length : Int) then b1 (slices_Compare_int_int (WC hs cs ps e.2) best) fun n2 => some (decide (n2 < 0)) else some false) = some b ∧ (b = true ↔ Bef (WC hs cs ps e.2) best) := by
      unfold Bef
      by_cases e1 : (WC hs cs ps e.2).length < best.length
      · exact ⟨true, if_pos (by omega), fun _ => .inl e1, fun _ => rfl⟩
      · by_cases e2 : (WC hs cs ps e.2).length = best.length
        · refine ⟨decide (lexI (WC hs cs ps e.2) best < 0), ?_, ?_⟩
          · rw [if_neg (by omega), if_pos (by omega), compare_eq, b1_some]
          · rw [decide_eq_true_iff]
            exact ⟨fun h => .inr ⟨e2, h⟩, fun h => h.elim (fun h => absurd h e1) (fun h => h.2)⟩
        · refine ⟨false, by rw [if_neg (by omega), if_neg (by omega)], (fun h => by cases h), fun h => ?_⟩
          rcases h with h | h
          · exact absurd h e1
          · exact absurd h.1 e2
    obtain ⟨b, hb1, hb2⟩ := hb
    unfold book_Fewest_l1
    rw [he, b1_some, hb1, b1_some]
    cases b with
    | true =>
      have hbe := hb2.1 rfl
      obtain ⟨R, g1, g2, g3⟩ := few_l1 h hL hp tl (WC hs cs ps e.2) (fun x hx => ht x (by simp [hx]))
      rw [if_pos rfl]
      refine ⟨R, g1, .inr ?_, fun x hx => ?_⟩
      · rcases g2 with g2 | ⟨f, hf, g2⟩
        · exact ⟨e, by simp, g2⟩
        · exact ⟨f, by simp [hf], g2⟩
      · rcases hx with rfl | hx | ⟨f, hf, rfl⟩
        · exact g3 x (.inr (.inl fun hB => Bef.irrefl _ (hB.trans hbe)))
        · exact g3 x (.inr (.inl fun hB => hx (hB.trans hbe)))
        · rcases List.mem_cons.1 hf with rfl | hf
          · exact g3 _ (.inl rfl)
          · exact g3 _ (.inr (.inr ⟨f, hf, rfl⟩))
    | false =>
      have hbe : ¬ Bef (WC hs cs ps e.2) best := fun hB => by have := hb2.2 hB; cases this
      obtain ⟨R, g1, g2, g3⟩ := few_l1 h hL hp tl best (fun x hx => ht x (by simp [hx]))
      rw [if_neg (by decide)]
      refine ⟨R, g1, g2.imp id (fun ⟨f, hf, g2⟩ => ⟨f, by simp [hf], g2⟩), fun x hx => ?_⟩
      rcases hx with rfl | hx | ⟨f, hf, rfl⟩
      · exact g3 _ (.inl rfl)
      · exact g3 _ (.inr (.inl hx))
      · rcases List.mem_cons.1 hf with rfl | hf
        · exact g3 _ (.inr (.inl hbe))
        · exact g3 _ (.inr (.inr ⟨f, hf, rfl⟩))
theorem WC_end (h : BOK n n2 hs rs cs) {L : List (List Bool × List Int)} (hL : EndsOK hs rs cs L) {ps : List Cp} (hp : CpOK n n2 ps) {c : List Int} (hc : FitF none rs c) : ∃ e ∈ L, WC hs cs ps e.2 = WC hs cs ps c := by
  obtain ⟨e, he, h1⟩ := hL.all c hc
  refine ⟨e, he, wrF_congr fun p hm => ?_⟩
  obtain ⟨g1, g2⟩ := hp.rng h p hm
  have e1 := along_heard h g1 g2 hc.rng hc.len
  have e2 := hL.get h g1 g2 e he
  unfold trueC
  rw [← e1, ← e2, h1]
theorem Fewest_eq (h : BOK n n2 hs rs cs) (hex : ∃ c, FitF none rs c) {ps : List Cp} (hp : CpOK n n2 ps) : ∃ c, FitF none rs c ∧ book_Fewest n n2 hs rs cs ps = some (WC hs cs ps c, 0) ∧ ∀ d, FitF none rs d → ¬ Bef (WC hs cs ps d) (WC hs cs ps c) := by
  obtain ⟨L, hL, hl, e1⟩ := bheard_eq h hex hp
  match L, hL, hl, e1 with
  | e :: tl, hL, hl, e1 =>
    have hlen := hL.len
    obtain ⟨R, g1, g2, g3⟩ := few_l1 h hL hp tl (WC hs cs ps e.2) (fun x hx => by simp [hx])
    have hR : ∃ c, FitF none rs c ∧ R = WC hs cs ps c := by
      rcases g2 with rfl | ⟨f, hf, rfl⟩
      · exact ⟨e.2, (hL.of e (by simp)).1, rfl⟩
      · exact ⟨f.2, (hL.of f (by simp [hf])).1, rfl⟩
    obtain ⟨c, hc, rfl⟩ := hR
    refine ⟨c, hc, ?_, fun d hd => ?_⟩
    · have es : sl (e :: tl) 1 (((e :: tl).length : Nat) : Int) = tl := by
        unfold sl
        rw [Int.toNat_natCast, List.take_length]; rfl
      unfold book_Fewest
      rw [e1, b2_some, if_neg (by decide)]
      have ei : ∀ f : List Bool × List Int → Option (List Int × Int), ix (e :: tl) 0 f = f e := fun f => ixN (i := 0) e f (by simp)
      rw [ei, wrong_end h hL hp (by simp), b1_some, gd_t ⟨⟨by omega, by omega⟩, by omega⟩, bvE, es, g1, b1_some]
    · obtain ⟨f, hf, h1⟩ := WC_end h hL hp hd
      rw [← h1]
      refine g3 _ ?_
      rcases List.mem_cons.1 hf with rfl | hf
      · exact .inl rfl
      · exact .inr (.inr ⟨f, hf, rfl⟩)
theorem False_eq (h : BOK n n2 hs rs cs) {ps : List Cp} (hp : CpOK n n2 ps) {c : List Int} (hc : FitF none rs c) : book_False n n2 hs rs cs ps c = some (WC hs cs ps c, 0) := by
  unfold book_False
  rw [complained_eq h hp, b1_some, if_neg (by decide), course_eq h hc.len hc.rng, b2_some, if_neg (by decide), b5_some, along_eq h hc.rng, b1_some, wrong_eq (alongF_len h c 0 zeroG hc.rng (by simp [zeroG])) (hp.rng h) (by have := hp.1; omega), b1_some]
  congr 2
  refine wrF_congr fun p hm => ?_
  obtain ⟨g1, g2⟩ := hp.rng h p hm
  unfold gTrue trueC
  rw [along_heard h g1 g2 hc.rng hc.len]
def sel (ps : List Cp) (T : List Nat) : List Cp := T.map fun i => ps.getD i (0, 0, false)
theorem Go.sub {l l2 : List Cp} (h : Go hs rs cs l) (hs2 : ∀ p ∈ l2, p ∈ l) : Go hs rs cs l2 := by
  obtain ⟨c, hc, h1⟩ := h
  exact ⟨c, hc, fun p hm => h1 p (hs2 p hm)⟩
theorem exc_leaf (h : BOK n n2 hs rs cs) {L : List (List Bool × List Int)} (hL : EndsOK hs rs cs L) {ps : List Cp} (hp : CpOK n n2 ps) {own : List Nat} (ho : ∀ i ∈ own, i < ps.length) (hne : own ≠ []) {rec_ : List Int → Int → Int → List Cp → List (List Bool × List Int) → Option (List Int)} {f : Int} :
    (Go hs rs cs (sel ps own) ∧ book_Excludes_1B rec_ (toI own) f 0 ps L = some []) ∨ (¬ Go hs rs cs (sel ps own) ∧ book_Excludes_1B rec_ (toI own) f 0 ps L = some (toI own)) := by
  have hmet : ∀ e ∈ L, (fun xx_ : List Bool => book_Excludes_1_1 xx_ (toI own) ps) e.1 = some ((toI own).all fun i => gTrue e.1 (ps.getD i.toNat (0, 0, false))) ∧ e.2 ≠ [] := fun e he => by
    refine ⟨?_, fit_ne h (hL.of e he).1⟩
    show book_Excludes_1_1 e.1 (toI own) ps = _
    unfold book_Excludes_1_1
    rw [every_eq (g := fun i => gTrue e.1 (ps.getD i.toNat (0, 0, false))) (fun i hi => by
      obtain ⟨j, hj, rfl⟩ := List.mem_map.1 hi
      have hjl := ho j hj
      unfold book_Excludes_1_1_1
      show (ix ps (j : Int) fun x2 => _) = _
      rw [ixN (0, 0, false) _ hjl, is_eq (hL.len24 h e he) (hp.rng h _ (getD_mem hjl)), b1_some]; rfl), b1_some]
  have hiff : ∀ e ∈ L, ((toI own).all (fun i => gTrue e.1 (ps.getD i.toNat (0, 0, false))) = true ↔ ∀ p ∈ sel ps own, trueC hs cs e.2 p = true) := fun e he => by
    rw [List.all_eq_true]
    constructor
    · intro h1 p hm
      obtain ⟨i, hi, rfl⟩ := List.mem_map.1 hm
      have h2 := h1 (i : Int) (List.mem_map.2 ⟨i, hi, rfl⟩)
      rw [Int.toNat_natCast, gTrue_eq h hL hp he _ (getD_mem (ho i hi))] at h2
      exact h2
    · intro h1 x hx
      obtain ⟨i, hi, rfl⟩ := List.mem_map.1 hx
      have h2 := h1 _ (List.mem_map.2 ⟨i, hi, rfl⟩)
      show gTrue e.1 (ps.getD ((i : Int)).toNat (0, 0, false)) = true
      rw [Int.toNat_natCast, gTrue_eq h hL hp he _ (getD_mem (ho i hi))]
      exact h2
  unfold book_Excludes_1B
  rw [if_pos rfl]
  unfold book_goal_find
  rcases find_l2 (met := fun xx_ : List Bool => book_Excludes_1_1 xx_ (toI own) ps) (P := fun e => (toI own).all fun i => gTrue e.1 (ps.getD i.toNat (0, 0, false))) L hmet with ⟨e, he, h3, h4⟩ | ⟨h3, h4⟩
  · refine .inl ⟨⟨e.2, (hL.of e he).1, (hiff e he).1 h3⟩, ?_⟩
    rw [h4, b1_some, if_neg (hmet e he).2]
  · refine .inr ⟨fun ⟨c, hc, hall⟩ => ?_, ?_⟩
    · obtain ⟨e, he, h5⟩ := hL.all c hc
      have h6 := h3 e he
      have h7 : (toI own).all (fun i => gTrue e.1 (ps.getD i.toNat (0, 0, false))) = true := by
        rw [List.all_eq_true]
        intro x hx
        obtain ⟨i, hi, rfl⟩ := List.mem_map.1 hx
        have hm := getD_mem (d := ((0, 0, false) : Cp)) (ho i hi)
        obtain ⟨g1, g2⟩ := hp.rng h _ hm
        have h8 := hall _ (List.mem_map.2 ⟨i, hi, rfl⟩)
        show gTrue e.1 (ps.getD ((i : Int)).toNat (0, 0, false)) = true
        rw [Int.toNat_natCast]
        unfold gTrue
        rw [h5, along_heard h g1 g2 hc.rng hc.len]
        exact h8
      rw [h7] at h6; cases h6
    · rw [h4, b1_some, if_pos rfl, gd_t (by
        intro e
        exact hne (List.map_eq_nil_iff.1 e))]
theorem idx_cp_l2 {f : Cp → Option Bool} {g : Cp → Bool} : ∀ (l : List Cp) (k : Int), 0 ≤ k → (∀ x ∈ l, f x = some (g x)) → ∃ n, slices_IndexFunc_book_Complaint_book_Complaint_l2 f l k = some n ∧ (0 ≤ n ↔ l.any g = true)
  | [], k, _, _ => ⟨-1, rfl, by simp⟩
  | x :: l, k, hk, h => by
    unfold slices_IndexFunc_book_Complaint_book_Complaint_l2
    rw [show (x.1, x.2.1, x.2.2) = x from rfl, h x (by simp), b1_some]
    by_cases hx : g x = true
    · exact ⟨k, by rw [if_pos hx], by simp [hx, hk]⟩
    · obtain ⟨n, h1, h2⟩ := idx_cp_l2 l (k + 1) (by omega) (fun y hy => h y (by simp [hy]))
      exact ⟨n, by rw [if_neg hx]; exact h1, by rw [h2]; simp [hx]⟩
theorem idx_cp {f : Cp → Option Bool} {g : Cp → Bool} {l : List Cp} (h : ∀ x ∈ l, f x = some (g x)) : slices_ContainsFunc_book_Complaint_book_Complaint l f = some (l.any g) := by
  unfold slices_ContainsFunc_book_Complaint_book_Complaint slices_IndexFunc_book_Complaint_book_Complaint
  obtain ⟨n, h1, h2⟩ := idx_cp_l2 l 0 (Int.le_refl _) h
  rw [h1, b1_some, cont_dec h2, Bool.decide_eq_true]
/-- Is a complaint one that came before? -/
def dupB (ps : List Cp) (f i : Nat) : Bool := ((ps.take i).drop f).any fun p => decide (p = ps.getD i (0, 0, false))
theorem dupB_iff {ps : List Cp} {f i : Nat} (hi : i ≤ ps.length) : dupB ps f i = true ↔ ∃ j, f ≤ j ∧ j < i ∧ ps.getD j (0, 0, false) = ps.getD i (0, 0, false) := by
  unfold dupB
  rw [List.any_eq_true]
  constructor
  · rintro ⟨p, hp, h⟩
    obtain ⟨k, hk, rfl⟩ := List.mem_iff_getElem.1 hp
    rw [List.length_drop, List.length_take] at hk
    refine ⟨f + k, by omega, by omega, ?_⟩
    have h2 := of_decide_eq_true h
    rw [List.getElem_drop, List.getElem_take] at h2
    rw [← h2, List.getD_eq_getElem?_getD, List.getElem?_eq_getElem (by omega)]; rfl
  · rintro ⟨j, h1, h2, h3⟩
    refine ⟨ps.getD j (0, 0, false), ?_, decide_eq_true h3⟩
    rw [List.mem_iff_getElem]
    refine ⟨j - f, by rw [List.length_drop, List.length_take]; omega, ?_⟩
    rw [List.getElem_drop, List.getElem_take, List.getD_eq_getElem?_getD, List.getElem?_eq_getElem (show j < ps.length by omega)]
    show ps[f + (j - f)] = ps[j]
    congr 1; omega
/-- The first place of the same complaint. -/
theorem first_dup {ps : List Cp} {f : Nat} : ∀ (d i : Nat), i ≤ f + d → f ≤ i → i < ps.length → ∃ j, f ≤ j ∧ j ≤ i ∧ ps.getD j (0, 0, false) = ps.getD i (0, 0, false) ∧ dupB ps f j = false
  | d, i, hd, hf, hi => by
    by_cases e : dupB ps f i = true
    · obtain ⟨j, h1, h2, h3⟩ := (dupB_iff (by omega)).1 e
      cases d with
      | zero => omega
      | succ d =>
        obtain ⟨j2, g1, g2, g3, g4⟩ := first_dup (ps := ps) (f := f) d j (by omega) h1 (by omega)
        exact ⟨j2, g1, by omega, g3.trans h3, g4⟩
    · exact ⟨i, hf, Nat.le_refl _, rfl, by simpa using e⟩
/-- What a search for complaints comes to. -/
def ExcP (hs : List (List (List Int))) (rs : List Int) (cs : List (Int × Int × Int)) (ps : List Cp) (own : List Nat) (f m : Nat) (R : List Int) : Prop :=
  (R = [] ∧ ∀ T, Up ps.length f T → T.length = m → Go hs rs cs (sel ps (own ++ T))) ∨ (∃ T, Up ps.length f T ∧ T.length = m ∧ R = toI (own ++ T) ∧ own ++ T ≠ [] ∧ ¬ Go hs rs cs (sel ps (own ++ T)))
theorem exc_ok (h : BOK n n2 hs rs cs) {L : List (List Bool × List Int)} (hL : EndsOK hs rs cs L) {ps : List Cp} (hp : CpOK n n2 ps) : ∀ (m fu f : Nat) (own : List Nat), m < fu → f ≤ 100 → own.length + m ≤ 100 → 1 ≤ own.length + m → (∀ i ∈ own, i < ps.length) → ∃ R, book_Excludes_1 fu (toI own) (f : Int) (m : Int) ps L = some R ∧ ExcP hs rs cs ps own f m R
  | _, 0, _, _, hf, _, _, _, _ => by omega
  | 0, fu + 1, f, own, _, _, _, h1, ho => by
    have hne : own ≠ [] := by intro e; rw [e] at h1; simp at h1
    unfold book_Excludes_1
    rcases exc_leaf h hL hp ho hne (rec_ := book_Excludes_1 fu) (f := (f : Int)) with ⟨g1, g2⟩ | ⟨g1, g2⟩
    · refine ⟨[], g2, .inl ⟨rfl, fun T _ hT => ?_⟩⟩
      rw [List.eq_nil_of_length_eq_zero hT, List.append_nil]; exact g1
    · exact ⟨_, g2, .inr ⟨[], Up.nil .., rfl, by rw [List.append_nil], by rw [List.append_nil]; exact hne, by rw [List.append_nil]; exact g1⟩⟩
  | m + 1, fu + 1, f, own, hf, hf100, h100, _, ho => by
    have h8 := hp.1
    have hol : (toI own).length = own.length := List.length_map ..
    have key : ∀ (cnt fu2 i : Nat), f ≤ i → (i + cnt = ps.length ∨ (cnt = 0 ∧ ps.length ≤ i)) → cnt < fu2 → i ≤ 1000 → ∃ R, book_Excludes_1B_l2 (toI own) (f : Int) ((m + 1 : Nat) : Int) ps L (book_Excludes_1 fu) fu2 (i : Int) = some R ∧
        ((R = [] ∧ ∀ j, i ≤ j → j < ps.length → dupB ps f j = false → ∀ T, Up ps.length (j + 1) T → T.length = m → Go hs rs cs (sel ps (own ++ j :: T))) ∨ (∃ T, Up ps.length f T ∧ T.length = m + 1 ∧ R = toI (own ++ T) ∧ own ++ T ≠ [] ∧ ¬ Go hs rs cs (sel ps (own ++ T)))) := fun cnt => by
      induction cnt with
      | zero =>
        intro fu2 i hfi hi hfu hi1000
        obtain ⟨fu3, rfl⟩ : ∃ k, fu2 = k + 1 := ⟨fu2 - 1, by omega⟩
        unfold book_Excludes_1B_l2 book_Excludes_1B_j1
        rw [if_neg (by omega)]
        exact ⟨[], rfl, .inl ⟨rfl, fun j h1 h2 => by omega⟩⟩
      | succ cnt ih =>
        intro fu2 i hfi hi hfu hi1000
        obtain ⟨fu3, rfl⟩ : ∃ k, fu2 = k + 1 := ⟨fu2 - 1, by omega⟩
        have hil : i < ps.length := by omega
        obtain ⟨R3, g1, g2⟩ := ih fu3 (i + 1) (by omega) (by omega) (by omega) (by omega)
        have hj3 : book_Excludes_1B_j3 (i : Int) (book_Excludes_1B_l2 (toI own) (f : Int) ((m + 1 : Nat) : Int) ps L (book_Excludes_1 fu) fu3) = some R3 := by
          unfold book_Excludes_1B_j3
          rw [gd_t (r64_small (by omega)), show (i : Int) + 1 = ((i + 1 : Nat) : Int) by omega]; exact g1
        have hc : slices_ContainsFunc_book_Complaint_book_Complaint (sl ps (f : Int) (i : Int)) (fun xx_ : Int × Int × Bool => book_Excludes_1_2 xx_.1 xx_.2.1 xx_.2.2 ps (i : Int)) = some (dupB ps f i) := by
          have es : sl ps (f : Int) (i : Int) = (ps.take i).drop f := by unfold sl; rw [Int.toNat_natCast, Int.toNat_natCast]
          rw [es]
          refine idx_cp fun p hpm => ?_
          have hpm2 : p ∈ ps := List.mem_of_mem_take (List.mem_of_mem_drop hpm)
          have r1 := hp.rng h p hpm2
          have r2 := hp.rng h _ (getD_mem (d := ((0, 0, false) : Cp)) hil)
          show book_Excludes_1_2 p.1 p.2.1 p.2.2 ps (i : Int) = _
          unfold book_Excludes_1_2
          rw [ixN (0, 0, false) _ hil, gd_t (r64_small (by omega)), gd_t (r64_small (by omega)), gd_t (r64_small (by omega)), gd_t (r64_small (by omega))]
        unfold book_Excludes_1B_l2
        rw [if_pos (by omega), gd_t ⟨⟨by omega, by omega⟩, by omega⟩, bvE, hc, b1_some]
        by_cases hdup : dupB ps f i = true
        · rw [if_pos hdup, hj3]
          refine ⟨R3, rfl, g2.imp (fun ⟨e, hall⟩ => ⟨e, fun j h1 h2 h3 => ?_⟩) id⟩
          by_cases e2 : j = i
          · subst e2; rw [hdup] at h3; cases h3
          · exact hall j (by omega) h2 h3
        · have et : toI own ++ [(i : Int)] = toI (own ++ [i]) := by unfold toI; rw [List.map_append]; rfl
          obtain ⟨R1, f1, f2⟩ := exc_ok h hL hp m fu (i + 1) (own ++ [i]) (by omega) (by omega) (by simp; omega) (by simp; omega) (fun t ht => by
            rcases List.mem_append.1 ht with ht | ht
            · exact ho t ht
            · rw [List.mem_singleton] at ht; omega)
          rw [if_neg hdup, gd_t (r64_small (by omega)), gd_t (r64_small (by omega)), clone_eq (by omega), b1_some, ap_t (by simp [hol]; omega), et, show (i : Int) + 1 = ((i + 1 : Nat) : Int) by omega, show ((m + 1 : Nat) : Int) - 1 = (m : Int) by omega, f1, b1_some]
          have ea : ∀ T : List Nat, (own ++ [i]) ++ T = own ++ i :: T := fun T => by rw [List.append_assoc]; rfl
          rcases f2 with ⟨rfl, hall⟩ | ⟨T, t1, t2, rfl, t4, t5⟩
          · rw [if_neg (by simp), hj3]
            refine ⟨R3, rfl, g2.imp (fun ⟨e, hall2⟩ => ⟨e, fun j h1 h2 h3 T hT hTl => ?_⟩) id⟩
            by_cases e2 : j = i
            · subst e2
              have := hall T hT hTl
              rwa [ea] at this
            · exact hall2 j (by omega) h2 h3 T hT hTl
          · rw [if_pos (by
              intro e
              exact t4 (List.map_eq_nil_iff.1 e))]
            rw [ea] at t4 t5
            exact ⟨_, rfl, .inr ⟨i :: T, Up.cons.2 ⟨by omega, t1⟩, by rw [List.length_cons, t2], by rw [ea], t4, t5⟩⟩
    obtain ⟨R, g1, g2⟩ := key (ps.length - f) FU f (Nat.le_refl _) (by omega) (by unfold FU; omega) (by omega)
    unfold book_Excludes_1 book_Excludes_1B
    rw [if_neg (by omega)]
    refine ⟨R, g1, ?_⟩
    rcases g2 with ⟨rfl, hall⟩ | hsome
    · refine .inl ⟨rfl, fun T hT hTl => ?_⟩
      match T, hT, hTl with
      | i :: T, hT, hTl =>
        obtain ⟨t1, t2⟩ := Up.cons.1 hT
        obtain ⟨j, j1, j2, j3, j4⟩ := first_dup (ps := ps) (f := f) (i - f) i (by omega) t1.1 t1.2
        have h1 := hall j j1 (by omega) j4 T ⟨t2.1, fun x hx => by have := t2.2 x hx; omega⟩ (by simpa using hTl)
        have e : sel ps (own ++ j :: T) = sel ps (own ++ i :: T) := by
          unfold sel
          rw [List.map_append, List.map_append, List.map_cons, List.map_cons, j3]
        rwa [e] at h1
      | [], _, hTl => simp at hTl
    · exact .inr hsome
theorem exc_l2 (h : BOK n n2 hs rs cs) (hex : ∃ c, FitF none rs c) {L : List (List Bool × List Int)} (hL : EndsOK hs rs cs L) {ps : List Cp} (hp : CpOK n n2 ps) : ∀ (d fu m : Nat), 1 ≤ m → m + d = ps.length + 1 → d < fu → (∀ T, Up ps.length 0 T → T.length < m → Go hs rs cs (sel ps T)) →
    (book_Excludes_l2 ps L fu (m : Int) = some ([], 6) ∧ ∀ T, Up ps.length 0 T → Go hs rs cs (sel ps T)) ∨ ∃ T, book_Excludes_l2 ps L fu (m : Int) = some (toI T, 0) ∧ Up ps.length 0 T ∧ T ≠ [] ∧ ¬ Go hs rs cs (sel ps T) ∧ ∀ T', Up ps.length 0 T' → T'.length < T.length → Go hs rs cs (sel ps T')
  | _, 0, _, _, _, hf, _ => by omega
  | 0, fu + 1, m, h1, hm, _, hall => by
    refine .inl ⟨?_, fun T hT => hall T hT (by have := hT.len; omega)⟩
    unfold book_Excludes_l2 book_Excludes_j1
    rw [if_neg (by omega)]
  | d + 1, fu + 1, m, h1, hm, hf, hall => by
    have h8 := hp.1
    obtain ⟨R, f1, f2⟩ := exc_ok h hL hp m FU 0 [] (by unfold FU; omega) (by omega) (by simp; omega) (by simp; omega) (fun _ h => nomatch h)
    have f1' : book_Excludes_1 FU [] 0 (m : Int) ps L = some R := f1
    unfold book_Excludes_l2
    rw [if_pos (by omega), f1', b1_some]
    rcases f2 with ⟨rfl, hgo⟩ | ⟨T, t1, t2, rfl, t4, t5⟩
    · rw [if_neg (by simp), gd_t (r64_small (by omega)), show (m : Int) + 1 = ((m + 1 : Nat) : Int) by omega]
      exact exc_l2 h hex hL hp d fu (m + 1) (by omega) (by omega) (by omega) fun T hT hTl => by
        by_cases e : T.length = m
        · exact hgo T hT e
        · exact hall T hT (by omega)
    · rw [if_pos (by
        intro e
        exact t4 (List.map_eq_nil_iff.1 e))]
      exact .inr ⟨T, rfl, t1, t4, t5, fun T' hT' hl => hall T' hT' (by omega)⟩
theorem Excludes_eq (h : BOK n n2 hs rs cs) (hex : ∃ c, FitF none rs c) {ps : List Cp} (hp : CpOK n n2 ps) :
    (book_Excludes n n2 hs rs cs ps = some ([], 6) ∧ Go hs rs cs ps) ∨ ∃ T, book_Excludes n n2 hs rs cs ps = some (toI T, 0) ∧ Up ps.length 0 T ∧ T ≠ [] ∧ ¬ Go hs rs cs (sel ps T) ∧ ¬ Go hs rs cs ps ∧ ∀ T', Up ps.length 0 T' → T'.length < T.length → Go hs rs cs (sel ps T') := by
  obtain ⟨L, hL, hl, e1⟩ := bheard_eq h hex hp
  unfold book_Excludes
  rw [e1, b2_some, if_neg (by decide)]
  have h8 := hp.1
  have hall : ∀ T, Up ps.length 0 T → T.length < 1 → Go hs rs cs (sel ps T) := fun T _ hT => by
    obtain ⟨c, hc⟩ := hex
    rw [List.eq_nil_of_length_eq_zero (show T.length = 0 by omega)]
    exact ⟨c, hc, fun _ h => nomatch h⟩
  rcases exc_l2 h hex hL hp ps.length FU 1 (Nat.le_refl _) (by omega) (by unfold FU; omega) hall with ⟨g1, g2⟩ | ⟨T, g1, g2, g3, g4, g5⟩
  · refine .inl ⟨g1, (g2 (List.range ps.length) ⟨List.pairwise_lt_range, fun i hi => ⟨Nat.zero_le _, List.mem_range.1 hi⟩⟩).sub fun p hm => ?_⟩
    obtain ⟨i, hi, rfl⟩ := List.mem_iff_getElem.1 hm
    exact List.mem_map.2 ⟨i, List.mem_range.2 hi, by rw [List.getD_eq_getElem?_getD, List.getElem?_eq_getElem hi]; rfl⟩
  · refine .inr ⟨T, g1, g2, g3, g4, fun hgo => g4 (hgo.sub fun p hm => ?_), g5⟩
    obtain ⟨i, hi, rfl⟩ := List.mem_map.1 hm
    exact getD_mem (g2.2 i hi).2
theorem part_l1 {ps : List Cp} {which : List Int} {b : Bool} : ∀ (tl : List Cp) (k : Nat) (out : List Cp), ps.drop k = tl → k + tl.length = ps.length → out.length + tl.length ≤ 1000 → ∃ R, oyezlaw07_BookPleaded_1_l1 which b tl (k : Int) out = some R ∧ R.length ≤ out.length + tl.length ∧ ∀ p, p ∈ R ↔ p ∈ out ∨ ∃ i, k ≤ i ∧ i < ps.length ∧ decide ((i : Int) ∈ which) = b ∧ p = ps.getD i (0, 0, false)
  | [], k, out, _, hk, _ => ⟨out, rfl, by simp, fun p => ⟨.inl, fun h => h.elim id fun ⟨i, h1, h2, _⟩ => by simp at hk; omega⟩⟩
  | x :: tl, k, out, hd, hk, hl => by
    rw [List.length_cons] at hk hl
    obtain ⟨hkl, hx, hd2⟩ := drop_cons (0, 0, false) hd
    unfold oyezlaw07_BookPleaded_1_l1
    rw [contains_eq, b1_some, show (k : Int) + 1 = ((k + 1 : Nat) : Int) by omega]
    by_cases e : decide ((k : Int) ∈ which) = b
    · obtain ⟨R, g1, g2, g3⟩ := part_l1 (which := which) (b := b) tl (k + 1) (out ++ [x]) hd2 (by omega) (by simp; omega)
      rw [if_pos e, ap_t (by simp; omega)]
      refine ⟨R, g1, by simp at g2; rw [List.length_cons]; omega, fun p => ?_⟩
      rw [g3 p, List.mem_append, List.mem_singleton]
      constructor
      · rintro ((h | rfl) | ⟨i, h1, h2, h3⟩)
        · exact .inl h
        · exact .inr ⟨k, Nat.le_refl _, hkl, e, hx.symm⟩
        · exact .inr ⟨i, by omega, h2, h3⟩
      · rintro (h | ⟨i, h1, h2, h3, h4⟩)
        · exact .inl (.inl h)
        · by_cases e2 : i = k
          · subst e2; exact .inl (.inr (h4.trans hx))
          · exact .inr ⟨i, by omega, h2, h3, h4⟩
    · obtain ⟨R, g1, g2, g3⟩ := part_l1 (which := which) (b := b) tl (k + 1) out hd2 (by omega) (by omega)
      rw [if_neg e]
      refine ⟨R, g1, by rw [List.length_cons]; omega, fun p => ?_⟩
      rw [g3 p]
      constructor
      · rintro (h | ⟨i, h1, h2, h3⟩)
        · exact .inl h
        · exact .inr ⟨i, by omega, h2, h3⟩
      · rintro (h | ⟨i, h1, h2, h3, h4⟩)
        · exact .inl h
        · by_cases e2 : i = k
          · subst e2; exact absurd h3 e
          · exact .inr ⟨i, by omega, h2, h3, h4⟩
theorem part_ok {ps : List Cp} (hp : CpOK n n2 ps) (which : List Int) (b : Bool) : ∃ R, oyezlaw07_BookPleaded_1 which b ps = some R ∧ CpOK n n2 R ∧ ∀ p, p ∈ R ↔ ∃ i, i < ps.length ∧ decide ((i : Int) ∈ which) = b ∧ p = ps.getD i (0, 0, false) := by
  have h8 := hp.1
  obtain ⟨R, g1, g2, g3⟩ := part_l1 (ps := ps) (which := which) (b := b) ps 0 [] rfl (by omega) (by simp; omega)
  have hm : ∀ p, p ∈ R ↔ ∃ i, i < ps.length ∧ decide ((i : Int) ∈ which) = b ∧ p = ps.getD i (0, 0, false) := fun p => by
    rw [g3 p]
    exact ⟨fun h => h.elim (fun h => nomatch h) fun ⟨i, _, h⟩ => ⟨i, h⟩, fun ⟨i, h⟩ => .inr ⟨i, Nat.zero_le _, h⟩⟩
  refine ⟨R, ?_, ⟨by simp at g2; omega, fun p hpm => ?_⟩, hm⟩
  · have g1' : oyezlaw07_BookPleaded_1_l1 which b ps 0 [] = some R := g1
    unfold oyezlaw07_BookPleaded_1
    rw [g1', b1_some]
  · obtain ⟨i, h1, _, rfl⟩ := (hm p).1 hpm
    exact hp.2 _ (getD_mem h1)
theorem mem_toI {T : List Nat} {i : Nat} : (i : Int) ∈ toI T ↔ i ∈ T := by
  unfold toI
  rw [List.mem_map]
  constructor
  · rintro ⟨j, hj, h⟩
    have h : (j : Int) = (i : Int) := h
    have : j = i := by omega
    rw [← this]; exact hj
  · intro h; exact ⟨i, h, rfl⟩
/-- Refuted complaints. -/
def RefP (hs : List (List (List Int))) (rs : List Int) (cs : List (Int × Int × Int)) (p : Cp) : Prop := ∀ c, FitF none rs c → trueC hs cs c p = false
theorem Refuted_eq (h : BOK n n2 hs rs cs) (hex : ∃ c, FitF none rs c) {p : Cp} (hp : (0 ≤ p.1 ∧ p.1 < n) ∧ (0 ≤ p.2.1 ∧ p.2.1 < n2)) {P : Cp → Bool} (hP : ∀ p, P p = true ↔ RefP hs rs cs p) : book_Refuted n n2 hs rs cs p.1 p.2.1 p.2.2 = some (P p, 0) := by
  rcases Witness_eq h hex hp.1 hp.2 p.2.2 with ⟨c, hc, h1, _, h3⟩ | ⟨h1, _, h3⟩
  · rw [h3]
    have : P p = false := by
      cases e : P p with
      | false => rfl
      | true =>
        have := (hP p).1 e c hc
        unfold trueC at this
        rw [decide_eq_true h1] at this; cases this
    rw [this]
  · rw [h3, (hP p).2 fun c hc => decide_eq_false (h1 c hc)]
section
variable {metal : List Int}
theorem plead_l8 (h : BOK n n2 hs rs cs) {ps : List Cp} (hp : CpOK n n2 ps) {c : List Int} (hmin : ∀ d, FitF none rs d → ¬ Bef (WC hs cs ps d) (WC hs cs ps c)) (hc : FitF none rs c) {r : Nat} (hr : ∀ d, FitF none rs d → r ≤ (WC hs cs ps d).length) : ∀ (all : List (List Int)), (∀ d ∈ all, FitF none rs d) → oyezlaw07_BookPleaded_l8 n n2 hs rs cs ps (WC hs cs ps c) (r : Int) all = some true
  | [], _ => by
    have := hr c hc
    unfold oyezlaw07_BookPleaded_l8 oyezlaw07_BookPleaded_j7
    rw [if_pos (by omega), awake_true, b1_some]
  | d :: all, hall => by
    have hd := hall d (by simp)
    have ih := plead_l8 h hp hmin hc hr all (fun d hd => hall d (by simp [hd]))
    have h1 := hmin d hd
    have h2 := hr d hd
    unfold Bef at h1
    unfold oyezlaw07_BookPleaded_l8
    rw [False_eq h hp hd, b2_some, if_neg (by decide), if_neg (by omega)]
    have e : (if ((WC hs cs ps d).length : Int) = ((WC hs cs ps c).length : Int) then b1 (slices_Compare_int_int (WC hs cs ps d) (WC hs cs ps c)) fun n15 => if n15 < 0 then some true else some (decide (((WC hs cs ps d).length : Int) < (r : Int))) else some (decide (((WC hs cs ps d).length : Int) < (r : Int)))) = some false := by
      have e0 : decide (((WC hs cs ps d).length : Int) < (r : Int)) = false := decide_eq_false (by omega)
      rw [e0]
      by_cases e1 : (WC hs cs ps d).length = (WC hs cs ps c).length
      · rw [if_pos (by omega), compare_eq, b1_some, if_neg (fun h3 => h1 (.inr ⟨e1, h3⟩))]
      · rw [if_neg (by omega)]
    rw [e, b1_some, if_neg (by decide)]
    exact ih
theorem plead_l6 (h : BOK n n2 hs rs cs) (hex : ∃ c, FitF none rs c) {real few : List Int} {a t : Int} {ps : List Cp} (hp : CpOK n n2 ps) {P : Cp → Bool} (hP : ∀ p, P p = true ↔ RefP hs rs cs p) : ∀ (tl : List Cp) (r : Nat), (∀ p ∈ tl, p ∈ ps) → r + tl.length ≤ 1000 → oyezlaw07_BookPleaded_l6 n n2 hs rs cs real metal a t ps few tl (r : Int) = oyezlaw07_BookPleaded_j5 n n2 hs rs cs real metal a t ps few ((r + tl.countP P : Nat) : Int)
  | [], r, _, _ => rfl
  | p :: tl, r, ht, hl => by
    rw [List.length_cons] at hl
    unfold oyezlaw07_BookPleaded_l6
    rw [Refuted_eq h hex (hp.2 p (ht p (by simp))) hP, b2_some, if_neg (by decide), List.countP_cons]
    cases e : P p with
    | true =>
      rw [if_pos rfl, gd_t (r64_small (by omega)), show (r : Int) + 1 = ((r + 1 : Nat) : Int) by omega, plead_l6 h hex hp hP tl (r + 1) (fun q hq => ht q (by simp [hq])) (by omega)]
      congr 2
      rw [if_pos rfl]; omega
    | false =>
      rw [if_neg (by decide), plead_l6 h hex hp hP tl r (fun q hq => ht q (by simp [hq])) (by omega)]
      congr 2
theorem plead_j3 (h : BOK n n2 hs rs cs) (hm : (metal.length : Int) ≤ 9223372036854775807) {real : List Int} (hreal : FitF none rs real) {a t : Int} (ha : BellA metal a) {ps : List Cp} (hp : CpOK n n2 ps) {c : List Int} (hmin : ∀ d, FitF none rs d → ¬ Bef (WC hs cs ps d) (WC hs cs ps c)) (hc : FitF none rs c) : oyezlaw07_BookPleaded_j3 n n2 hs rs cs real metal a t ps (WC hs cs ps c) = some true := by
  have hex : ∃ c, FitF none rs c := ⟨c, hc⟩
  obtain ⟨P, hP⟩ : ∃ P : Cp → Bool, ∀ p, P p = true ↔ RefP hs rs cs p := ⟨fun p => @decide _ (Classical.propDecidable (RefP hs rs cs p)), fun p => @decide_eq_true_iff _ (Classical.propDecidable _)⟩
  have h8 := hp.1
  have e := plead_l6 h hex (real := real) (few := WC hs cs ps c) (metal := metal) (a := a) (t := t) hp hP ps 0 (fun _ h => h) (by omega)
  unfold oyezlaw07_BookPleaded_j3
  refine Eq.trans e ?_
  rw [Nat.zero_add]
  unfold oyezlaw07_BookPleaded_j5
  obtain ⟨all, a2, t2, e3, _, _, hall⟩ := tried_ok h hm hreal (a := a) (t := t) (many := 6) ha (by omega)
  rw [e3, b3_some]
  refine plead_l8 h hp hmin hc (fun d hd => ?_) all hall
  unfold WC
  rw [wrF_count]
  refine List.countP_mono_left fun p _ hpp => ?_
  rw [(hP p).1 hpp d hd]; rfl
theorem plead_l4 (h : BOK n n2 hs rs cs) (hm : (metal.length : Int) ≤ 9223372036854775807) {real : List Int} (hreal : FitF none rs real) {a t : Int} (ha : BellA metal a) {ps : List Cp} (hp : CpOK n n2 ps) {c : List Int} (hmin : ∀ d, FitF none rs d → ¬ Bef (WC hs cs ps d) (WC hs cs ps c)) (hc : FitF none rs c) {T : List Nat} (hT : Up ps.length 0 T) (hless : ∀ T', Up ps.length 0 T' → T'.length < T.length → Go hs rs cs (sel ps T')) : ∀ (tl : List Nat), (∀ i ∈ tl, i ∈ T) → oyezlaw07_BookPleaded_l4 n n2 hs rs cs real metal a t ps (WC hs cs ps c) (toI T) (toI tl) = some true
  | [], _ => by
    unfold oyezlaw07_BookPleaded_l4 toI
    exact plead_j3 h hm hreal ha hp hmin hc
  | i :: tl, ht => by
    have hex : ∃ c, FitF none rs c := ⟨c, hc⟩
    have hiT := ht i (by simp)
    have hTl := hT.len
    have h8 := hp.1
    have hlen : (toI T).length = T.length := List.length_map ..
    obtain ⟨R, e1, hR, hmem⟩ := part_ok hp ((toI T).filter fun x => !decide (x = (i : Int))) true
    have hT2 : Up ps.length 0 (T.filter fun j => !decide (j = i)) := ⟨hT.1.filter _, fun j hj => hT.2 j (List.mem_filter.1 hj).1⟩
    have hlt : (T.filter fun j => !decide (j = i)).length < T.length := by
      rcases Nat.lt_or_ge (T.filter fun j => !decide (j = i)).length T.length with h1 | h1
      · exact h1
      · have := List.length_filter_eq_length_iff.1 (Nat.le_antisymm (List.length_filter_le ..) h1) i hiT
        simp at this
    have hgo : Go hs rs cs R := (hless _ hT2 hlt).sub fun p hpm => by
      obtain ⟨j, hj, h1, rfl⟩ := (hmem p).1 hpm
      have h2 := List.mem_filter.1 (of_decide_eq_true h1)
      refine List.mem_map.2 ⟨j, List.mem_filter.2 ⟨mem_toI.1 h2.1, ?_⟩, rfl⟩
      have h3 : ¬ ((j : Int) = (i : Int)) := by simpa using h2.2
      simp; omega
    have e0 : toI (i :: tl) = (i : Int) :: toI tl := rfl
    rw [e0]
    unfold oyezlaw07_BookPleaded_l4
    rw [copy_eq (by omega), b1_some, delF_eq (f := fun xx_ : Int => oyezlaw07_BookPleaded_2 xx_ (i : Int)) (p := fun x => decide (x = (i : Int))) (by omega) (fun _ _ => rfl), b1_some, e1, b1_some]
    rcases Together_go h hex hR with ⟨_, d, _, _, e2⟩ | ⟨h1, _⟩
    · rw [e2, b2_some, if_neg (by decide)]
      exact plead_l4 h hm hreal ha hp hmin hc hT hless tl (fun j hj => ht j (by simp [hj]))
    · exact absurd hgo h1
theorem plead_j2 (h : BOK n n2 hs rs cs) (hm : (metal.length : Int) ≤ 9223372036854775807) {real : List Int} (hreal : FitF none rs real) {a t : Int} (ha : BellA metal a) {ps : List Cp} (hp : CpOK n n2 ps) {c : List Int} (hmin : ∀ d, FitF none rs d → ¬ Bef (WC hs cs ps d) (WC hs cs ps c)) (hc : FitF none rs c) {some_ : List Int} {e : Int}
    (he : (some_ = [] ∧ e = 6) ∨ ∃ T, some_ = toI T ∧ e = 0 ∧ Up ps.length 0 T ∧ T ≠ [] ∧ ¬ Go hs rs cs (sel ps T) ∧ ∀ T', Up ps.length 0 T' → T'.length < T.length → Go hs rs cs (sel ps T')) : oyezlaw07_BookPleaded_j2 n n2 hs rs cs real metal a t ps (WC hs cs ps c) some_ e = some true := by
  have hex : ∃ c, FitF none rs c := ⟨c, hc⟩
  obtain ⟨R, e1, hR, hmem⟩ := part_ok hp (WC hs cs ps c) false
  have hgo : Go hs rs cs R := ⟨c, hc, fun p hpm => by
    obtain ⟨j, hj, h1, rfl⟩ := (hmem p).1 hpm
    have h2 := of_decide_eq_false h1
    unfold WC at h2
    rw [mem_wrF] at h2
    cases h3 : trueC hs cs c (ps.getD j (0, 0, false)) with
    | true => rfl
    | false => exact absurd ⟨by omega, by omega, by rw [Int.sub_zero, Int.toNat_natCast]; exact h3⟩ h2⟩
  unfold oyezlaw07_BookPleaded_j2
  rw [e1, b1_some]
  rcases Together_go h hex hR with ⟨_, d, _, _, e2⟩ | ⟨h1, _⟩
  · rw [e2, b2_some, if_neg (by decide)]
    rcases he with ⟨rfl, rfl⟩ | ⟨T, rfl, rfl, t1, t2, t3, t4⟩
    · rw [if_neg (by decide)]
      exact plead_j3 h hm hreal ha hp hmin hc
    · obtain ⟨R2, e3, hR2, hmem2⟩ := part_ok hp (toI T) true
      have hno : ¬ Go hs rs cs R2 := fun hg => t3 (hg.sub fun p hpm => by
        obtain ⟨i, hi, rfl⟩ := List.mem_map.1 hpm
        exact (hmem2 _).2 ⟨i, (t1.2 i hi).2, decide_eq_true (mem_toI.2 hi), rfl⟩)
      have hTl : (toI T).length = T.length := List.length_map ..
      have hTn : T.length ≠ 0 := fun h => t2 (List.eq_nil_of_length_eq_zero h)
      rw [if_pos rfl, e3, b1_some]
      rcases Together_go h hex hR2 with ⟨h1, _⟩ | ⟨_, e4⟩
      · exact absurd h1 hno
      · rw [e4, b2_some, if_neg (by decide), decide_eq_false (by omega), b1_some, if_neg (by decide)]
        exact plead_l4 h hm hreal ha hp hmin hc t1 t4 T (fun _ h => h)
  · exact absurd hgo h1
theorem plead_l1 (hm : (metal.length : Int) ≤ 9223372036854775807) (hn : 1 ≤ n ∧ n ≤ 6) (hn2 : 1 ≤ n2 ∧ n2 ≤ 4) : ∀ (fu : Nat) (a t : Int) (ps : List Cp), BellA metal a → ps.length + fu ≤ 8 → (∀ p ∈ ps, (0 ≤ p.1 ∧ p.1 < n) ∧ (0 ≤ p.2.1 ∧ p.2.1 < n2)) → ∃ a' t' ps', oyezlaw07_BookPleaded_l1 n n2 metal fu a t ps = some (a', t', ps') ∧ BellA metal a' ∧ CpOK n n2 ps'
  | 0, a, t, ps, ha, hl, hp => ⟨a, t, ps, rfl, ha, by omega, hp⟩
  | fu + 1, a, t, ps, ha, hl, hp => by
    obtain ⟨v1, a1, t1, e1, f1, f2, ha1⟩ := stroke_ok (t := t) (n := n - 1) ha hm (by omega)
    obtain ⟨v2, a2, t2, e2, f3, f4, ha2⟩ := stroke_ok (t := t1) (n := n2 - 1) ha1 hm (by omega)
    obtain ⟨b, a3, t3, e3, ha3⟩ := seldom_ok (t := t2) (n := 2) ha2 hm (by omega)
    obtain ⟨a4, t4, ps4, e4, ha4, h4⟩ := plead_l1 hm hn hn2 fu a3 t3 (ps ++ [(v1, v2, b)]) ha3 (by simp; omega) (fun p hpm => by
      rcases List.mem_append.1 hpm with h | h
      · exact hp p h
      · rw [List.mem_singleton] at h; subst h
        exact ⟨⟨f1, by show v1 < _; omega⟩, f3, by show v2 < _; omega⟩)
    refine ⟨a4, t4, ps4, ?_, ha4, h4⟩
    unfold oyezlaw07_BookPleaded_l1
    rw [gd_t (r64_small (by omega)), gd_t (r64_small (by omega)), e1, b3_some, e2, b3_some, e3, b3_some, ap_t (by simp; omega)]
    exact e4
end
end
/-- BookPleaded. -/
theorem pleaded_true {numbers pleas : List Int} (h1 : (numbers.length : Int) ≤ 9223372036854775807) (h2 : (pleas.length : Int) ≤ 9223372036854775807) : oyezlaw07_BookPleaded numbers pleas = some true := by
  unfold oyezlaw07_BookPleaded oyezkit_Hang
  obtain ⟨n, n2, hs, rs, cs, real, a, t, e1, hM, _⟩ := made_ok (metal := numbers) (t := 0) (a := 0) (H := 3) (N := 2) (S := 3) (R := 5) ⟨by omega, by omega⟩ h1 (by omega) (by omega) (by omega) (by omega)
  have h := hM.ok
  have hex : ∃ c, FitF none rs c := ⟨real, hM.fit⟩
  obtain ⟨k, a1, t1, e2, f1, f2, ha1⟩ := stroke_ok (metal := pleas) (a := 0) (t := 0) (n := 6) ⟨by omega, by omega⟩ h2 (by omega)
  obtain ⟨a2, t2, ps, e3, ha2, hp⟩ := plead_l1 h2 h.hn h.hn2 (Int.toNat (k - 0)) a1 t1 [] ha1 (by simp; omega) (fun _ h => nomatch h)
  have h8 := hp.1
  obtain ⟨c, hc, e4, hmin⟩ := Fewest_eq h hex hp
  have hWl : (WC hs cs ps c).length ≤ 8 := Nat.le_trans (wrF_len _ _ _) h8
  have hs1 : slices_IsSorted_int_int (WC hs cs ps c) = some true := sortedI_ok wrF_sorted (by omega)
  have hW0 : (WC hs cs ps c).length = 0 ↔ Go hs rs cs ps := by
    constructor
    · intro h0
      exact ⟨c, hc, (wrF_nil _ _ _).1 (List.eq_nil_of_length_eq_zero h0)⟩
    · rintro ⟨d, hd, hall⟩
      have h3 : WC hs cs ps d = [] := (wrF_nil _ _ _).2 hall
      have h4 := hmin d hd
      unfold Bef at h4
      rw [h3] at h4
      rw [List.length_nil] at h4
      omega
  rw [b3_some, e1, b8_some, b3_some, e2, b3_some, gd_t ⟨r64_small (by omega), r64_small (by omega)⟩, e3, b3_some, e4, b2_some]
  rcases Together_go h hex hp with ⟨hgo, d, hd, hdall, e6⟩ | ⟨hno, e6⟩
  · have hz := hW0.2 hgo
    rcases Excludes_eq h hex hp with ⟨e5, _⟩ | ⟨T, e5, _, _, _, hno, _⟩
    · have hWd : WC hs cs ps d = [] := (wrF_nil _ _ _).2 hdall
      rw [e5, b2_some, e6, b2_some, if_neg (by decide), if_neg (by rw [decide_eq_false (by decide), decide_eq_false (by omega)]; simp), if_neg (by rw [decide_eq_true rfl, decide_eq_true (by omega)]; simp), if_pos (by decide), if_neg (by decide), if_neg (by decide), hs1, b1_some, if_neg (by decide), sortedI_ok List.Pairwise.nil (by simp), b1_some, b1_some, if_neg (by decide), if_pos rfl, False_eq h hp hd, b2_some, right_eq h hd, b1_some, if_neg (by decide), if_neg (by decide), hWd, decide_eq_false (by simp), b1_some, if_neg (by decide)]
      exact plead_j2 h h2 hM.fit ha2 hp hmin hc (.inl ⟨rfl, rfl⟩)
    · exact absurd hgo hno
  · have hz : (WC hs cs ps c).length ≠ 0 := fun e => hno (hW0.1 e)
    rcases Excludes_eq h hex hp with ⟨_, hgo⟩ | ⟨T, e5, t1, t2, t3, _, t5⟩
    · exact absurd hgo hno
    · have hTl : (toI T).length = T.length := List.length_map ..
      have hTn := t1.len
      rw [e5, b2_some, e6, b2_some, if_neg (by decide), if_neg (by rw [decide_eq_true rfl, decide_eq_true (by omega)]; simp), if_neg (by rw [decide_eq_false (by decide), decide_eq_false (by omega)]; simp), if_neg (by decide), if_pos (by decide), if_neg (by decide), hs1, b1_some, if_neg (by decide), sortedI_ok (up_sorted t1) (by omega), b1_some, b1_some, if_neg (by decide), if_neg (by decide)]
      exact plead_j2 h h2 hM.fit ha2 hp hmin hc (.inr ⟨T, rfl, rfl, t1, t2, t3, t5⟩)
end Go.Proofs.YtodhcoakjlmcdaaGreat.Bk
