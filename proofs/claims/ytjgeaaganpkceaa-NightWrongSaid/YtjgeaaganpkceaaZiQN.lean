/- Layer 5: reports that cannot be true (NightWrong); in plain Lean. -/
import Derived.Test.YtjgeaaganpkceaaZiQM
namespace Go.Proofs.Ytjgeaaganpkceaa.Nt
open Go.PL Rv
theorem lexLe_refl : ∀ s : List Nat, lexLe s s
  | [] => trivial
  | _ :: s => .inr ⟨rfl, lexLe_refl s⟩
theorem lexLe_trans : ∀ {s t u : List Nat}, lexLe s t → lexLe t u → lexLe s u
  | [], _, _, _, _ => trivial
  | _ :: _, [], _, h, _ => h.elim
  | _ :: _, _ :: _, [], _, h => h.elim
  | a :: s, b :: t, c :: u, h1, h2 => by
    rcases h1 with h1 | ⟨h1, h3⟩ <;> rcases h2 with h2 | ⟨h2, h4⟩
    · exact .inl (by omega)
    · exact .inl (by omega)
    · exact .inl (by omega)
    · exact .inr ⟨by omega, lexLe_trans h3 h4⟩
theorem lexLe_total : ∀ {s t : List Nat}, s.length = t.length → ¬ lexLe s t → lexLe t s
  | [], _, _, h => absurd trivial h
  | _ :: _, [], h, _ => by simp at h
  | a :: s, b :: t, hl, h => by
    rcases Nat.lt_trichotomy a b with h1 | h1 | h1
    · exact absurd (.inl h1) h
    · exact .inr ⟨h1.symm, lexLe_total (by simpa using hl) fun h2 => h (.inr ⟨h1, h2⟩)⟩
    · exact .inl h1
def le2 (s t : List Nat) : Prop := s.length < t.length ∨ (s.length = t.length ∧ lexLe s t)
theorem le2_refl (s : List Nat) : le2 s s := .inr ⟨rfl, lexLe_refl s⟩
theorem le2_trans {s t u : List Nat} (h1 : le2 s t) (h2 : le2 t u) : le2 s u := by
  rcases h1 with h1 | ⟨h1, h3⟩ <;> rcases h2 with h2 | ⟨h2, h4⟩
  · exact .inl (by omega)
  · exact .inl (by omega)
  · exact .inl (by omega)
  · exact .inr ⟨by omega, lexLe_trans h3 h4⟩
theorem compare_lt2 {s1 s2 : List Nat} (hl : s1.length = s2.length) : ∀ (tl u : List Nat) (k : Nat), s2.drop k = u → tl.length = u.length → ¬ lexLe u tl → ∃ n : Int, n < 0 ∧ slices_Compare_int_int_l2 (natL s1) (natL s2) (natL tl) (k : Int) = some n
  | [], [], _, _, _, h => absurd trivial h
  | [], _ :: _, _, _, h, _ => by simp at h
  | x :: tl, [], k, _, h, _ => by simp at h
  | x :: tl, y :: u, k, hd, hu, hx => by
    have hk : k < s2.length := by
      rcases Nat.lt_or_ge k s2.length with h' | h'
      · exact h'
      · rw [List.drop_eq_nil_of_le h'] at hd; cases hd
    have hg : (natL s2)[k]? = some (y : Int) := by
      rw [List.drop_eq_getElem_cons hk] at hd
      unfold natL
      rw [List.getElem?_map, List.getElem?_eq_getElem hk, (List.cons.inj hd).1]; rfl
    have hd2 : s2.drop (k + 1) = u := by
      rw [List.drop_eq_getElem_cons hk] at hd
      exact (List.cons.inj hd).2
    rw [natL_cons]; unfold slices_Compare_int_int_l2
    rw [if_neg (by simp [natL]; omega), ix_t (by omega) (by rw [Int.toNat_natCast]; exact hg), cmp_eq, b1_some]
    rcases Nat.lt_trichotomy x y with h1 | h1 | h1
    · have ev : (if (x : Int) < (y : Int) then (-1 : Int) else if (y : Int) < (x : Int) then 1 else 0) = -1 := by rw [if_pos (by omega)]
      exact ⟨-1, by decide, by rw [ev, if_pos (by decide)]⟩
    · obtain ⟨n, h3, h4⟩ := compare_lt2 hl tl u (k + 1) hd2 (by simpa using hu) fun h2 => hx (.inr ⟨h1.symm, h2⟩)
      refine ⟨n, h3, ?_⟩
      have ev : (if (x : Int) < (y : Int) then (-1 : Int) else if (y : Int) < (x : Int) then 1 else 0) = 0 := by rw [if_neg (by omega), if_neg (by omega)]
      rw [ev, if_neg (by decide), show (k : Int) + 1 = ((k + 1 : Nat) : Int) by omega]
      exact h4
    · exact absurd (.inl h1) hx
theorem compare_lt {s t : List Nat} (hl : s.length = t.length) (h : ¬ lexLe t s) : ∃ n : Int, n < 0 ∧ slices_Compare_int_int (natL s) (natL t) = some n := by
  unfold slices_Compare_int_int
  exact compare_lt2 hl s t 0 rfl hl h
theorem compare_dec {s t : List Nat} (hl : s.length = t.length) : ∃ n : Int, slices_Compare_int_int (natL s) (natL t) = some n ∧ (n < 0 ↔ ¬ lexLe t s) := by
  by_cases h : lexLe t s
  · obtain ⟨n, h1, h2⟩ := compare_ge hl h
    exact ⟨n, h2, by simp only [h, not_true_eq_false, iff_false]; omega⟩
  · obtain ⟨n, h1, h2⟩ := compare_lt hl h
    exact ⟨n, h2, by simp only [h, not_false_eq_true, iff_true]; omega⟩
def wl (ls : List (List Int)) (ms : List Int) (a : Nat) : List Nat := (List.range ms.length).filter fun i => !markB (cryS ls a) (ms.getD i 0) i
theorem wrongF_bit (c : Nat) : ∀ (ms : List Int) (k w i : Nat), (wrongF c ms k w).testBit i = (w.testBit i || decide (k ≤ i ∧ i < k + ms.length) && !markB c (ms.getD (i - k) 0) i)
  | [], k, w, i => by
    show w.testBit i = _
    rw [decide_eq_false (by rw [List.length_nil]; omega), Bool.false_and, Bool.or_false]
  | m :: ms, k, w, i => by
    unfold wrongF
    rw [wrongF_bit c ms (k + 1)]
    by_cases hk : k = i
    · subst hk
      have h1 : ¬ (k + 1 ≤ k ∧ k < k + 1 + ms.length) := by omega
      have h2 : k ≤ k ∧ k < k + (m :: ms).length := by rw [List.length_cons]; omega
      rw [decide_eq_false h1, decide_eq_true h2, Nat.sub_self]
      show _ = (w.testBit k || (true && !markB c m k))
      cases hm : markB c m k with
      | true => simp
      | false => simp [or_two]
    · have h1 : (k + 1 ≤ i ∧ i < k + 1 + ms.length) ↔ (k ≤ i ∧ i < k + (m :: ms).length) := by rw [List.length_cons]; omega
      have h2 : (if markB c m k = true then w else w ||| 2 ^ k).testBit i = w.testBit i := by
        split
        · rfl
        · rw [or_two]; simp [hk]
      rw [h2]
      congr 1
      by_cases h3 : k + 1 ≤ i ∧ i < k + 1 + ms.length
      · have e : (m :: ms).getD (i - k) 0 = ms.getD (i - (k + 1)) 0 := by
          rw [show i - k = (i - (k + 1)) + 1 by omega]; rfl
        rw [decide_eq_true h3, decide_eq_true (h1.1 h3), e]
      · rw [decide_eq_false h3, decide_eq_false fun h => h3 (h1.2 h)]; rfl
theorem wl_bits (ls : List (List Int)) (ms : List Int) (a : Nat) {n : Nat} (hn : n = ms.length) : (List.range n).filter (fun i => (wrongF (cryS ls a) ms 0 0).testBit i) = wl ls ms a := by
  unfold wl
  rw [← hn]
  apply List.filter_congr
  intro i hi
  have hi2 := List.mem_range.1 hi
  rw [wrongF_bit, Nat.zero_testBit, Bool.false_or, decide_eq_true (by omega), Bool.true_and, Nat.sub_zero]
theorem wl_up (ls : List (List Int)) (ms : List Int) (a : Nat) : Up ms.length 0 (wl ls ms a) :=
  ⟨List.Pairwise.filter _ List.pairwise_lt_range, fun i hi => ⟨Nat.zero_le _, by
    unfold wl at hi
    rw [List.mem_filter, List.mem_range] at hi
    exact hi.1⟩⟩
theorem mem_wl {ls : List (List Int)} {ms : List Int} {a i : Nat} : i ∈ wl ls ms a ↔ i < ms.length ∧ markB (cryS ls a) (ms.getD i 0) i = false := by
  unfold wl
  rw [List.mem_filter, List.mem_range]; simp
/-- The bits of a number, as a list. -/
theorem wrongs_l3 {cried : List (Int × Int)} : ∀ (k fu w i : Nat) (l : List Nat), k < fu → w < 2 ^ k → k ≤ 60 → l.length + k ≤ 1000 → i + k ≤ 1000 → night_Wrong_l3 cried fu (natL l) (i : Int) (w : Int) = some (cried, natL (l ++ (List.range' i k).filter fun j => w.testBit (j - i)))
  | _, 0, _, _, _, h, _, _, _, _ => absurd h (Nat.not_lt_zero _)
  | 0, fu + 1, w, i, l, _, hw, _, _, _ => by
    have : w = 0 := by simp at hw; exact hw
    subst this
    unfold night_Wrong_l3
    rw [if_neg (by decide)]
    simp
  | k + 1, fu + 1, w, i, l, hf, hw, hk, hl, hi => by
    unfold night_Wrong_l3
    have hw63 : w < 9223372036854775808 := Nat.lt_trans hw (pow63 (by omega))
    have hbit := bit_nat hw63 0
    have hs0 : shr (w : Int) ((0 : Nat) : Int) = (w : Int) := by unfold shr; simp
    rw [hs0] at hbit
    have hs1 : shr (w : Int) 1 = ((w / 2 : Nat) : Int) := by unfold shr; simp
    have hw2 : w / 2 < 2 ^ k := by rw [Nat.pow_succ] at hw; omega
    have hbits : ∀ j, (w / 2).testBit (j - (i + 1)) = w.testBit (j - (i + 1) + 1) := fun j => (Nat.testBit_succ w (j - (i + 1))).symm
    have hfil : (List.range' (i + 1) k).filter (fun j => (w / 2).testBit (j - (i + 1))) = (List.range' (i + 1) k).filter (fun j => w.testBit (j - i)) := by
      apply List.filter_congr
      intro j hj
      rw [List.mem_range'] at hj
      obtain ⟨t, _, rfl⟩ := hj
      rw [hbits]
      congr 1
      omega
    by_cases h0 : 0 < w
    · rw [if_pos (by omega), hs1, hbit, List.range'_succ]
      by_cases hb : w.testBit 0 = true
      · have e : natL l ++ [(i : Int)] = natL (l ++ [i]) := natL_app l [i]
        rw [if_pos hb, if_pos rfl, ap_t (by rw [List.length_append, natL_len]; simp; omega), b1_some, gd_t (r64_small (by omega)), e, show (i : Int) + 1 = ((i + 1 : Nat) : Int) by omega, wrongs_l3 k fu (w / 2) (i + 1) (l ++ [i]) (by omega) hw2 (by omega) (by simp; omega) (by omega), hfil, List.filter_cons_of_pos (by simpa using hb), List.append_assoc]; rfl
      · rw [if_neg hb, if_neg (by decide), b1_some, gd_t (r64_small (by omega)), show (i : Int) + 1 = ((i + 1 : Nat) : Int) by omega, wrongs_l3 k fu (w / 2) (i + 1) l (by omega) hw2 (by omega) (by omega) (by omega), hfil, List.filter_cons_of_neg (by simpa using hb)]
    · have : w = 0 := by omega
      subst this
      rw [if_neg (by decide)]
      have : (List.range' i (k + 1)).filter (fun j => (0 : Nat).testBit (j - i)) = [] := by
        rw [List.filter_eq_nil_iff]; intro j _; rw [Nat.zero_testBit]; decide
      rw [this, List.append_nil]
section
variable {ls hs : List (List Int)}
theorem wrongF_lt (c : Nat) : ∀ (ms : List Int) (k w : Nat), w < 2 ^ k → wrongF c ms k w < 2 ^ (k + ms.length)
  | [], k, w, h => h
  | m :: ms, k, w, h => by
    unfold wrongF
    have := wrongF_lt c ms (k + 1) (if markB c m k = true then w else w ||| 2 ^ k) (by
      split
      · exact Nat.lt_of_lt_of_le h (Nat.pow_le_pow_right (by decide) (by omega))
      · exact or_bit h)
    rw [List.length_cons, show k + (ms.length + 1) = k + 1 + ms.length by omega]
    exact this
/-- The best of the sets up to one. -/
def BestI (ls : List (List Int)) (ms : List Int) (k : Nat) (best : List Nat) (found : Bool) : Prop :=
  (found = false ∧ k = 0 ∧ best = []) ∨ (found = true ∧ (∃ a, a < 2 ^ ls.length ∧ best = wl ls ms a) ∧ ∀ a, a < k → le2 best (wl ls ms a))
theorem wrongs_l2 (g : GoodW ls hs) {h : Nat} (hh : h < hs.length) : ∀ (fu k : Nat) (cried : List (Int × Int)) (best : List Nat) (found : Bool), k + fu = 2 ^ ls.length → MOK ls cried → BestI ls (hs.getD h []) k best found →
    ∃ cried' best' found', night_Wrong_l2 ls hs (h : Int) fu (k : Int) cried (natL best) found = some (cried', natL best') ∧ MOK ls cried' ∧ BestI ls (hs.getD h []) (2 ^ ls.length) best' found'
  | 0, k, cried, best, found, hk, hm, hI => ⟨cried, best, found, rfl, hm, by rw [← hk]; exact hI⟩
  | fu + 1, k, cried, best, found, hk, hm, hI => by
    have h6 := g.n6
    have hp := pow_le64 h6
    have hw := g.wid _ (getD_mem hh)
    obtain ⟨c2, e1, hm2⟩ := wrong_eq (a := k) (by omega) g.small (by omega) hm hh g.le50
    have hlt : wrongF (cryS ls k) (hs.getD h []) 0 0 < 2 ^ ls.length := by
      have := wrongF_lt (cryS ls k) (hs.getD h []) 0 0 (by decide)
      rwa [Nat.zero_add, hw] at this
    have h3 := wrongs_l3 (cried := c2) ls.length FU (wrongF (cryS ls k) (hs.getD h []) 0 0) 0 [] (by unfold FU; omega) hlt (by omega) (by simp; omega) (by omega)
    have e3 : (List.range' 0 ls.length).filter (fun j => (wrongF (cryS ls k) (hs.getD h []) 0 0).testBit (j - 0)) = wl ls (hs.getD h []) k := by
      rw [← List.range_eq_range']
      exact wl_bits ls _ k hw.symm
    rw [List.nil_append, e3] at h3
    have h3' : night_Wrong_l3 c2 FU [] 0 ((wrongF (cryS ls k) (hs.getD h []) 0 0 : Nat) : Int) = some (c2, natL (wl ls (hs.getD h []) k)) := h3
    have ih := wrongs_l2 g hh fu (k + 1) c2
    unfold night_Wrong_l2
    rw [e1, b2_some, h3', b2_some, show (k : Int) + 1 = ((k + 1 : Nat) : Int) by omega]
    have take : (∀ a, a < k → le2 (wl ls (hs.getD h []) k) (wl ls (hs.getD h []) a)) → BestI ls (hs.getD h []) (k + 1) (wl ls (hs.getD h []) k) true := fun hall => by
      refine .inr ⟨rfl, ⟨k, by omega, rfl⟩, fun a ha => ?_⟩
      by_cases he : a = k
      · rw [he]; exact le2_refl _
      · exact hall a (by omega)
    rcases hI with ⟨q1, q2, q3⟩ | ⟨q1, q2, q3⟩
    · subst q1
      rw [if_pos (by decide), b1_some, if_pos rfl, b3_some]
      exact ih _ _ (by omega) hm2 (take fun a ha => by omega)
    · subst q1
      have keep : le2 best (wl ls (hs.getD h []) k) → BestI ls (hs.getD h []) (k + 1) best true := fun hle => by
        refine .inr ⟨rfl, q2, fun a ha => ?_⟩
        by_cases he : a = k
        · rw [he]; exact hle
        · exact q3 a (by omega)
      rw [if_neg (by decide), natL_len, natL_len]
      by_cases c1 : (wl ls (hs.getD h []) k).length < best.length
      · rw [if_pos (by omega), b1_some, if_pos rfl, b3_some]
        exact ih _ _ (by omega) hm2 (take fun a ha => le2_trans (.inl c1) (q3 a ha))
      · rw [if_neg (by omega)]
        by_cases c2 : (wl ls (hs.getD h []) k).length = best.length
        · obtain ⟨n, h4, h5⟩ := compare_dec c2
          rw [if_pos (by omega), h4, b1_some, b1_some]
          by_cases c3 : lexLe best (wl ls (hs.getD h []) k)
          · rw [if_neg (by rw [decide_eq_true_iff, h5]; exact fun h => h c3), b3_some]
            exact ih _ _ (by omega) hm2 (keep (.inr ⟨c2.symm, c3⟩))
          · rw [if_pos (by rw [decide_eq_true_iff, h5]; exact c3), b3_some]
            exact ih _ _ (by omega) hm2 (take fun a ha => le2_trans (.inr ⟨c2, lexLe_total c2.symm c3⟩) (q3 a ha))
        · rw [if_neg (by omega), b1_some, if_neg (by decide), b3_some]
          exact ih _ _ (by omega) hm2 (keep (.inl (by omega)))
/-- Places, hour by hour. -/
def prs : Nat → List (List Nat) → List (Int × Int)
  | _, [] => []
  | k, o :: os => o.map (fun i : Nat => ((k : Int), (i : Int))) ++ prs (k + 1) os
theorem wrongs_l4 {k : Nat} {m3 : List (Int × Int)} : ∀ (l : List Nat) (out : List (Int × Int)), out.length + l.length ≤ 100000 → night_Wrong_l4 (k : Int) m3 (natL l) out = some (m3, out ++ l.map fun i : Nat => ((k : Int), (i : Int)))
  | [], out, _ => by simp [natL, night_Wrong_l4]
  | x :: l, out, h => by
    rw [List.length_cons] at h
    rw [natL_cons]; unfold night_Wrong_l4
    rw [ap_t (by simp; omega), wrongs_l4 l _ (by simp; omega), List.map_cons, List.append_assoc]; rfl
/-- The best lists of hours. -/
def BestL (ls : List (List Int)) : List (List Int) → List (List Nat) → Prop
  | [], [] => True
  | ms :: hs, b :: B => ((∃ a, a < 2 ^ ls.length ∧ b = wl ls ms a) ∧ ∀ a, a < 2 ^ ls.length → le2 b (wl ls ms a)) ∧ BestL ls hs B
  | _, _ => False
theorem wrongs_l1 (g : GoodW ls hs) : ∀ (tl : List (List Int)) (k : Nat) (cried : List (Int × Int)) (out : List (Int × Int)), hs.drop k = tl → MOK ls cried → out.length ≤ 100 * k → ∃ B, night_Wrong_l1 ls hs tl.length (k : Int) cried out = some (out ++ prs k B) ∧ BestL ls tl B
  | [], k, cried, out, _, _, _ => ⟨[], by
    show some out = some (out ++ [])
    rw [List.append_nil], trivial⟩
  | ms :: tl, k, cried, out, hd, hm, ho => by
    have h6 := g.n6; have h8 := g.h8
    have hp := pow_le64 h6
    have hk : k < hs.length := by
      rcases Nat.lt_or_ge k hs.length with h' | h'
      · exact h'
      · rw [List.drop_eq_nil_of_le h'] at hd; cases hd
    have hg : hs.getD k [] = ms := by
      rw [List.drop_eq_getElem_cons hk] at hd
      rw [List.getD_eq_getElem?_getD, List.getElem?_eq_getElem hk]
      exact (List.cons.inj hd).1
    have hd2 : hs.drop (k + 1) = tl := by
      rw [List.drop_eq_getElem_cons hk] at hd
      exact (List.cons.inj hd).2
    have hp0 : 0 < 2 ^ ls.length := Nat.pow_pos (by decide)
    obtain ⟨c2, best, found, e1, hm2, hI⟩ := wrongs_l2 g hk (2 ^ ls.length) 0 cried [] false (by omega) hm (.inl ⟨rfl, rfl, rfl⟩)
    have e1' : night_Wrong_l2 ls hs (k : Int) (2 ^ ls.length) 0 cried [] false = some (c2, natL best) := e1
    rcases hI with ⟨_, q, _⟩ | ⟨_, ⟨a, ha, hb⟩, q3⟩
    · omega
    · rw [hg] at hb q3
      have hbl : best.length ≤ 50 := by
        rw [hb]
        have h1 : (wl ls ms a).length ≤ (List.range ms.length).length := List.length_filter_le ..
        have h2 := g.le50 ms (by rw [← hg]; exact getD_mem hk)
        simp at h1; omega
      obtain ⟨B, e2, hB⟩ := wrongs_l1 g tl (k + 1) c2 (out ++ best.map fun i : Nat => ((k : Int), (i : Int))) hd2 hm2 (by simp; omega)
      refine ⟨best :: B, ?_, ⟨⟨a, ha, hb⟩, q3⟩, hB⟩
      rw [List.length_cons]; unfold night_Wrong_l1
      rw [sets_eq (by omega), b1_some, gd_t ⟨r64_small (by omega), r64_nat (by omega)⟩, toNat_sub00, e1', b2_some, wrongs_l4 _ _ (by omega), b2_some, show (k : Int) + 1 = ((k + 1 : Nat) : Int) by omega, e2, List.append_assoc]; rfl
theorem Wrong_ok (g : GoodW ls hs) : ∃ B, night_Wrong ls hs = some (prs 0 B, 0) ∧ BestL ls hs B := by
  obtain ⟨c, h1, hm⟩ := opened_ok g
  have h8 := g.h8
  obtain ⟨B, e, hB⟩ := wrongs_l1 g hs 0 c [] rfl hm (by simp)
  have e' : night_Wrong_l1 ls hs hs.length 0 c [] = some (prs 0 B) := e
  refine ⟨B, ?_, hB⟩
  unfold night_Wrong
  rw [h1, b2_some, if_neg (fun h => h rfl), b4_some, gd_t ⟨r64_small (by omega), r64_small (by omega)⟩, toNat_sub00, e', b1_some]
def clrM (o : List Nat) (ms : List Int) : List Int := o.foldl (fun ms i => ms.set i 0) ms
theorem clrM_len : ∀ (o : List Nat) (ms : List Int), (clrM o ms).length = ms.length
  | [], _ => rfl
  | i :: o, ms => by
    show (clrM o (ms.set i 0)).length = _
    rw [clrM_len o, List.length_set]
theorem clrM_get : ∀ (o : List Nat) (ms : List Int) (i : Nat), i < ms.length → (clrM o ms).getD i 0 = if i ∈ o then 0 else ms.getD i 0
  | [], ms, i, _ => by simp [clrM]
  | j :: o, ms, i, hi => by
    show (clrM o (ms.set j 0)).getD i 0 = _
    rw [clrM_get o _ i (by rw [List.length_set]; exact hi)]
    by_cases h1 : i ∈ o
    · rw [if_pos h1, if_pos (List.mem_cons_of_mem _ h1)]
    · rw [if_neg h1]
      by_cases h2 : j = i
      · subst h2
        rw [getD_set_same hi, if_pos (List.mem_cons_self ..)]
      · rw [getD_set_ne h2, if_neg fun h => by
          rcases List.mem_cons.1 h with h | h
          · exact h2 h.symm
          · exact h1 h]
theorem fitB_wl {ms : List Int} {a : Nat} : fitB ls ms a = true ↔ wl ls ms a = [] := by
  rw [fitB_iff]
  constructor
  · intro h
    rw [List.eq_nil_iff_forall_not_mem]
    intro i hi
    obtain ⟨h1, h2⟩ := mem_wl.1 hi
    have := h i (ms.getD i 0) (getD_of h1)
    rw [h2] at this; cases this
  · intro h i m hi
    have hl := (List.getElem?_eq_some_iff.1 hi).1
    cases hm : markB (cryS ls a) m i with
    | true => rfl
    | false =>
      have : i ∈ wl ls ms a := mem_wl.2 ⟨hl, by rw [List.getD_eq_getElem?_getD, hi]; exact hm⟩
      rw [h] at this; cases this
theorem fitB_clrM {ms : List Int} {a : Nat} {o : List Nat} : fitB ls (clrM o ms) a = true ↔ ∀ i ∈ wl ls ms a, i ∈ o := by
  rw [fitB_wl, List.eq_nil_iff_forall_not_mem]
  constructor
  · intro h i hi
    apply Classical.byContradiction
    intro hno
    obtain ⟨h1, h2⟩ := mem_wl.1 hi
    exact h i (mem_wl.2 ⟨by rw [clrM_len]; exact h1, by rw [clrM_get o ms i h1, if_neg hno]; exact h2⟩)
  · intro h i hi
    obtain ⟨h1, h2⟩ := mem_wl.1 hi
    rw [clrM_len] at h1
    rw [clrM_get o ms i h1] at h2
    by_cases ho : i ∈ o
    · rw [if_pos ho] at h2
      unfold markB at h2
      simp at h2
    · rw [if_neg ho] at h2
      exact ho (h i (mem_wl.2 ⟨h1, h2⟩))
/-- Hours without the marks of places. -/
def clrH : List (List Nat) → List (List Int) → List (List Int)
  | o :: os, ms :: hs => clrM o ms :: clrH os hs
  | _, hs => hs
theorem withM_app (pre : List (List Int)) (ms : List Int) (tl : List (List Int)) (i : Nat) (m : Int) : withM (pre ++ ms :: tl) pre.length i m = pre ++ ms.set i m :: tl := by
  unfold withM
  rw [app_get, app_set]
theorem without_o (ls : List (List Int)) {pre tl : List (List Int)} {rest : List (Int × Int)} : ∀ (o : List Nat) (ms : List Int), GoodW ls (pre ++ ms :: tl) → (∀ i ∈ o, i < ls.length) → oyezlaw05_NightWrong_1_l2 (o.map (fun i : Nat => ((pre.length : Int), (i : Int))) ++ rest) ls (pre ++ ms :: tl) = oyezlaw05_NightWrong_1_l2 rest ls (pre ++ clrM o ms :: tl) ∧ GoodW ls (pre ++ clrM o ms :: tl)
  | [], ms, g, _ => ⟨rfl, g⟩
  | i :: o, ms, g, h => by
    have hi := h i (List.mem_cons_self ..)
    have hh : pre.length < (pre ++ ms :: tl).length := by simp
    have g2 := g.withM hh i (m := 0) (by omega)
    rw [withM_app] at g2
    obtain ⟨e, g3⟩ := without_o ls o (ms.set i 0) g2 (fun j hj => h j (List.mem_cons_of_mem _ hj)) (rest := rest)
    refine ⟨?_, g3⟩
    rw [List.map_cons, List.cons_append]
    rw [oyezlaw05_NightWrong_1_l2]
    rw [With_ok g hh hi (by omega), b3_some, if_neg (fun h => h rfl), withM_app, e]
    rfl
theorem without_l2 (ls : List (List Int)) : ∀ (os : List (List Nat)) (tl pre : List (List Int)), os.length = tl.length → GoodW ls (pre ++ tl) → (∀ o ∈ os, ∀ i ∈ o, i < ls.length) → oyezlaw05_NightWrong_1_l2 (prs pre.length os) ls (pre ++ tl) = oyezlaw05_NightWrong_1_j1 ls (pre ++ clrH os tl) ∧ GoodW ls (pre ++ clrH os tl)
  | [], [], pre, _, g, _ => ⟨rfl, g⟩
  | [], _ :: _, _, h, _, _ => by simp at h
  | _ :: _, [], _, h, _, _ => by simp at h
  | o :: os, ms :: tl, pre, hl, g, h => by
    obtain ⟨e1, g1⟩ := without_o ls (pre := pre) (tl := tl) (rest := prs (pre.length + 1) os) o ms g (h o (List.mem_cons_self ..))
    have e0 : pre ++ clrM o ms :: tl = (pre ++ [clrM o ms]) ++ tl := by simp
    rw [e0] at e1 g1
    obtain ⟨e2, g2⟩ := without_l2 ls os tl (pre ++ [clrM o ms]) (by simpa using hl) g1 (fun o' ho => h o' (List.mem_cons_of_mem _ ho))
    have e3 : (pre ++ [clrM o ms]) ++ clrH os tl = pre ++ clrH (o :: os) (ms :: tl) := by
      rw [List.append_assoc]; rfl
    rw [e3] at e2 g2
    have e4 : (pre ++ [clrM o ms]).length = pre.length + 1 := by simp
    rw [e4] at e2
    exact ⟨by show oyezlaw05_NightWrong_1_l2 (o.map _ ++ prs (pre.length + 1) os) ls (pre ++ ms :: tl) = _; rw [e1, e2], g2⟩
theorem without_ok (g : GoodW ls hs) {os : List (List Nat)} (hl : os.length = hs.length) (h : ∀ o ∈ os, ∀ i ∈ o, i < ls.length) : oyezlaw05_NightWrong_1 (prs 0 os) ls hs = some (decide (0 < (allX ls (clrH os hs)).length), true) := by
  obtain ⟨e, g2⟩ := without_l2 ls os hs [] hl g h
  rw [List.nil_append, List.nil_append] at e
  rw [List.nil_append] at g2
  unfold oyezlaw05_NightWrong_1
  rw [show prs 0 os = prs ([] : List (List Int)).length os from rfl, e]
  unfold oyezlaw05_NightWrong_1_j1
  rw [Count_ok g2, b2_some]
  congr 2
  rw [decide_eq_decide]
  omega
theorem BestL.len : ∀ {hs : List (List Int)} {B : List (List Nat)}, BestL ls hs B → B.length = hs.length
  | [], [], _ => rfl
  | _ :: _, _ :: _, h => by rw [List.length_cons, List.length_cons, BestL.len h.2]
  | [], _ :: _, h => h.elim
  | _ :: _, [], h => h.elim
theorem BestL.up {n : Nat} : ∀ {hs : List (List Int)} {B : List (List Nat)}, (∀ ms ∈ hs, ms.length = n) → BestL ls hs B → ∀ b ∈ B, Up n 0 b
  | [], [], _, _, _, hb => nomatch hb
  | ms :: hs, b :: B, hw, h, x, hx => by
    rcases List.mem_cons.1 hx with rfl | hx
    · obtain ⟨a, _, hb⟩ := h.1.1
      rw [hb, ← hw ms (List.mem_cons_self ..)]
      exact wl_up ..
    · exact BestL.up (fun m hm => hw m (List.mem_cons_of_mem _ hm)) h.2 x hx
  | [], _ :: _, _, h, _, _ => h.elim
  | _ :: _, [], _, h, _, _ => h.elim
theorem BestL.expl : ∀ {hs : List (List Int)} {B : List (List Nat)}, BestL ls hs B → ∃ s, Expl ls (clrH B hs) s
  | [], [], _ => ⟨[], trivial⟩
  | ms :: hs, b :: B, h => by
    obtain ⟨a, ha, hb⟩ := h.1.1
    obtain ⟨s, hs2⟩ := BestL.expl h.2
    exact ⟨a :: s, ⟨ha, fitB_clrM.2 fun i hi => by rw [hb]; exact hi⟩, hs2⟩
  | [], _ :: _, h => h.elim
  | _ :: _, [], h => h.elim
theorem BestL.nil_iff : ∀ {hs : List (List Int)} {B : List (List Nat)} (k : Nat), BestL ls hs B → (prs k B = [] ↔ ∃ s, Expl ls hs s)
  | [], [], _, _ => ⟨fun _ => ⟨[], trivial⟩, fun _ => rfl⟩
  | ms :: hs, b :: B, k, h => by
    have ih := BestL.nil_iff (k + 1) h.2
    have e : prs k (b :: B) = b.map (fun i : Nat => ((k : Int), (i : Int))) ++ prs (k + 1) B := rfl
    rw [e, List.append_eq_nil_iff, List.map_eq_nil_iff, ih]
    obtain ⟨a, ha, hb⟩ := h.1.1
    constructor
    · rintro ⟨h1, s, h2⟩
      exact ⟨a :: s, ⟨ha, fitB_wl.2 (by rw [← hb]; exact h1)⟩, h2⟩
    · rintro ⟨s, h2⟩
      cases s with
      | nil => exact h2.elim
      | cons x s =>
        have h3 := h.1.2 x h2.1.1
        rw [fitB_wl.1 h2.1.2] at h3
        refine ⟨?_, s, h2.2⟩
        rcases h3 with h3 | ⟨h3, _⟩
        · simp at h3
        · exact List.eq_nil_of_length_eq_zero h3
  | [], _ :: _, _, h => h.elim
  | _ :: _, [], _, h => h.elim
theorem up_sub_eq {n : Nat} : ∀ {s t : List Nat} {f : Nat}, Up n f s → Up n f t → (∀ i ∈ s, i ∈ t) → s.length = t.length → s = t
  | [], t, _, _, _, _, h => (List.eq_nil_of_length_eq_zero h.symm).symm
  | x :: s, [], _, _, _, _, h => by simp at h
  | x :: s, y :: t, f, hs, ht, hsub, hl => by
    obtain ⟨h1, h2⟩ := Up.cons.1 hs
    obtain ⟨h3, h4⟩ := Up.cons.1 ht
    have hxy : x = y := by
      rcases List.mem_cons.1 (hsub x (List.mem_cons_self ..)) with h | h
      · exact h
      · have hx := (h4.2 x h).1
        have hsub2 : ∀ i ∈ x :: s, i ∈ t := fun i hi => by
          have hi2 := hsub i hi
          rcases List.mem_cons.1 hi2 with h5 | h5
          · exfalso
            rcases List.mem_cons.1 hi with h6 | h6
            · omega
            · have := (h2.2 i h6).1
              omega
          · exact h5
        have hnd : (x :: s).Nodup := hs.1.imp fun h => Nat.ne_of_lt h
        have := hnd.length_le_of_subset fun i hi => hsub2 i hi
        rw [List.length_cons, List.length_cons] at *
        omega
    subst hxy
    congr 1
    refine up_sub_eq h2 h4 (fun i hi => ?_) (by simpa using hl)
    rcases List.mem_cons.1 (hsub i (List.mem_cons_of_mem _ hi)) with h | h
    · have := (h2.2 i hi).1
      omega
    · exact h
/-- Each hour has a list that comes no later, of as many. -/
def LeL : List (List Nat) → List (List Nat) → Prop
  | b :: B, o :: os => (b.length = o.length ∧ lexLe b o) ∧ LeL B os
  | [], [] => True
  | _, _ => False
theorem prs_len (k : Nat) (o : List Nat) (os : List (List Nat)) : (prs k (o :: os)).length = o.length + (prs (k + 1) os).length := by
  show (o.map _ ++ prs (k + 1) os).length = _
  rw [List.length_append, List.length_map]
theorem BestL.best {n : Nat} : ∀ {hs : List (List Int)} {B os : List (List Nat)} {s : List Nat} (k : Nat), (∀ ms ∈ hs, ms.length = n) → BestL ls hs B → os.length = hs.length → (∀ o ∈ os, Up n 0 o) → Expl ls (clrH os hs) s → (prs k B).length ≤ (prs k os).length ∧ ((prs k os).length ≤ (prs k B).length → LeL B os)
  | [], [], [], _, _, _, _, _, _, _ => ⟨Nat.le_refl _, fun _ => trivial⟩
  | ms :: hs, b :: B, o :: os, s, k, hw, h, hl, hu, he => by
    cases s with
    | nil => exact he.elim
    | cons a s =>
      have he1 : a < 2 ^ ls.length ∧ fitB ls (clrM o ms) a = true := he.1
      have ih := BestL.best (k + 1) (fun m hm => hw m (List.mem_cons_of_mem _ hm)) h.2 (by simpa using hl) (fun o' ho => hu o' (List.mem_cons_of_mem _ ho)) he.2
      have hsub := fitB_clrM.1 he1.2
      have hwu := wl_up ls ms a
      rw [hw ms (List.mem_cons_self ..)] at hwu
      have hou := hu o (List.mem_cons_self ..)
      have hnd : (wl ls ms a).Nodup := hwu.1.imp fun h => Nat.ne_of_lt h
      have hlen := hnd.length_le_of_subset fun i hi => hsub i hi
      have hb := h.1.2 a he1.1
      rw [prs_len, prs_len]
      have hbl : b.length ≤ (wl ls ms a).length := by
        rcases hb with hb | ⟨hb, _⟩ <;> omega
      refine ⟨by omega, fun hle => ⟨⟨by omega, ?_⟩, ih.2 (by omega)⟩⟩
      have heq := up_sub_eq hwu hou hsub (by omega)
      rw [heq] at hb
      rcases hb with hb | ⟨_, hb⟩
      · omega
      · exact hb
  | [], [], _ :: _, _, _, _, _, h, _, _ => by simp at h
  | [], _ :: _, _, _, _, _, h, _, _, _ => h.elim
  | _ :: _, [], _, _, _, _, h, _, _, _ => h.elim
  | _ :: _, _ :: _, [], _, _, _, _, h, _, _ => by simp at h
def pLe : List (Int × Int) → List (Int × Int) → Prop
  | [], _ => True
  | _ :: _, [] => False
  | a :: s, b :: t => (a.1 < b.1 ∨ (a.1 = b.1 ∧ a.2 < b.2)) ∨ (a = b ∧ pLe s t)
theorem pLe_app {k : Nat} {X Y : List (Int × Int)} (hXY : pLe X Y) : ∀ {b o : List Nat}, b.length = o.length → lexLe b o → pLe (b.map (fun i : Nat => ((k : Int), (i : Int))) ++ X) (o.map (fun i : Nat => ((k : Int), (i : Int))) ++ Y)
  | [], [], _, _ => hXY
  | [], _ :: _, h, _ => by simp at h
  | _ :: _, [], h, _ => by simp at h
  | x :: b, y :: o, hl, h => by
    rcases h with h | ⟨h, h2⟩
    · exact .inl (.inr ⟨rfl, by show (x : Int) < (y : Int); omega⟩)
    · exact .inr ⟨by rw [h], pLe_app hXY (by simpa using hl) h2⟩
theorem LeL.pLe : ∀ {B os : List (List Nat)} (k : Nat), LeL B os → pLe (prs k B) (prs k os)
  | [], [], _, _ => trivial
  | _b :: _B, _o :: _os, k, h => pLe_app (LeL.pLe (k + 1) h.2) h.1.1 h.1.2
  | [], _ :: _, _, h => h.elim
  | _ :: _, [], _, h => h.elim
def Sm (l : List (Int × Int)) : Prop := ∀ p ∈ l, (0 ≤ p.1 ∧ p.1 ≤ 1000) ∧ 0 ≤ p.2 ∧ p.2 ≤ 1000
theorem comparePl_l2 {s1 s2 : List (Int × Int)} (hl : s1.length = s2.length) (hs1 : Sm s1) (hs2 : Sm s2) : ∀ (tl u : List (Int × Int)) (k : Nat), s1.drop k = tl → s2.drop k = u → pLe u tl → ∃ n : Int, 0 ≤ n ∧ slices_CompareFunc_night_Place_night_Place_night_Place_night_Place_l2 s1 s2 (fun xx_ : (Int × Int) × (Int × Int) => oyezlaw05_NightWrong_2 xx_.1.1 xx_.1.2 xx_.2.1 xx_.2.2) tl (k : Int) = some n
  | [], u, k, _, _, _ => by
    refine ⟨0, Int.le_refl _, ?_⟩
    show slices_CompareFunc_night_Place_night_Place_night_Place_night_Place_l2 s1 s2 _ [] (k : Int) = some 0
    unfold slices_CompareFunc_night_Place_night_Place_night_Place_night_Place_l2 slices_CompareFunc_night_Place_night_Place_night_Place_night_Place_j1
    rw [if_neg (by omega)]
  | x :: tl, u, k, hd1, hd, hx => by
    have hk1 : k < s1.length := by
      rcases Nat.lt_or_ge k s1.length with h' | h'
      · exact h'
      · rw [List.drop_eq_nil_of_le h'] at hd1; cases hd1
    have hk : k < s2.length := by omega
    have hd1' := hd1
    rw [List.drop_eq_getElem_cons hk1] at hd1'
    obtain ⟨hx1, hd12⟩ := List.cons.inj hd1'
    have hmx : x ∈ s1 := by rw [← hx1]; exact List.getElem_mem _
    rw [List.drop_eq_getElem_cons hk] at hd
    subst hd
    have hmy : s2[k] ∈ s2 := List.getElem_mem _
    have hg : s2[k]? = some s2[k] := List.getElem?_eq_getElem hk
    have hsx := hs1 x hmx
    have hsy := hs2 _ hmy
    unfold slices_CompareFunc_night_Place_night_Place_night_Place_night_Place_l2
    rw [if_neg (by omega), ix_t (by omega) (by rw [Int.toNat_natCast]; exact hg)]
    show ∃ n : Int, 0 ≤ n ∧ b1 (oyezlaw05_NightWrong_2 x.1 x.2 s2[k].1 s2[k].2) _ = some n
    unfold oyezlaw05_NightWrong_2
    rcases hx with (h | ⟨h, h2⟩) | ⟨h, h2⟩
    · refine ⟨x.1 - s2[k].1, by omega, ?_⟩
      rw [if_pos (by omega), gd_t (r64_small (by omega)), b1_some, if_pos (by omega)]
    · refine ⟨x.2 - s2[k].2, by omega, ?_⟩
      rw [if_neg (by omega), gd_t (r64_small (by omega)), b1_some, if_pos (by omega)]
    · obtain ⟨n, h3, h4⟩ := comparePl_l2 hl hs1 hs2 tl (s2.drop (k + 1)) (k + 1) hd12 rfl h2
      refine ⟨n, h3, ?_⟩
      rw [if_neg (by rw [h]; omega), gd_t (r64_small (by omega)), b1_some, if_neg (by rw [h]; omega), show (k : Int) + 1 = ((k + 1 : Nat) : Int) by omega]
      exact h4
theorem prs_small {n : Nat} (hn : n ≤ 100) : ∀ (os : List (List Nat)) (k : Nat), k + os.length ≤ 100 → (∀ o ∈ os, Up n 0 o) → Sm (prs k os)
  | [], _, _, _ => fun _ h => nomatch h
  | o :: os, k, hk, hu => by
    rw [List.length_cons] at hk
    intro p hp
    rcases List.mem_append.1 hp with h | h
    · obtain ⟨i, hi, rfl⟩ := List.mem_map.1 h
      have := (hu o (List.mem_cons_self ..)).2 i hi
      refine ⟨⟨?_, ?_⟩, ?_, ?_⟩ <;> simp <;> omega
    · exact prs_small hn os (k + 1) (by omega) (fun o' ho => hu o' (List.mem_cons_of_mem _ ho)) p h
variable {metal : List Int}
theorem wrongN_l7 (hm : (metal.length : Int) ≤ 9223372036854775807) {l6 : List (Int × Int)} (hl6 : l6.length ≤ 1000) {k : Nat} {acc : List (Int × Int)} : ∀ (fu i : Nat) (a t : Int) (o : List Nat), BellA metal a → Up i 0 o → acc.length + o.length ≤ l6.length →
    ∃ a' t' o', oyezlaw05_NightWrong_l7 metal l6 (k : Int) fu (i : Int) a t (acc ++ o.map fun i : Nat => ((k : Int), (i : Int))) = some (a', t', acc ++ o'.map fun i : Nat => ((k : Int), (i : Int))) ∧ BellA metal a' ∧ Up (i + fu) 0 o' ∧ acc.length + o'.length ≤ l6.length
  | 0, i, a, t, o, ha, hu, hl => ⟨a, t, o, rfl, ha, hu, hl⟩
  | fu + 1, i, a, t, o, ha, hu, hl => by
    have hnext : Up (i + 1) 0 o := ⟨hu.1, fun j hj => by have := hu.2 j hj; omega⟩
    have hadd : Up (i + 1) 0 (o ++ [i]) := by
      refine ⟨List.pairwise_append.2 ⟨hu.1, by simp, fun x hx y hy => ?_⟩, fun j hj => ?_⟩
      · rw [List.mem_singleton] at hy
        have := hu.2 x hx
        omega
      · rcases List.mem_append.1 hj with h | h
        · have := hu.2 j h; omega
        · rw [List.mem_singleton] at h; omega
    have ih := wrongN_l7 hm hl6 (k := k) (acc := acc) fu (i + 1)
    unfold oyezlaw05_NightWrong_l7
    rw [show (i : Int) + 1 = ((i + 1 : Nat) : Int) by omega, show i + (fu + 1) = i + 1 + fu by omega]
    have key : ∃ a1 t1 b, (if ((acc ++ o.map fun i : Nat => ((k : Int), (i : Int))).length : Int) < (l6.length : Int) then (b3 (oyezkit_Bell_Seldom metal a t 3) fun ok4 at_5 turn5 => some (at_5, turn5, ok4)) else some (a, t, false)) = some (a1, t1, b) ∧ BellA metal a1 ∧ (b = true → acc.length + o.length < l6.length) := by
      by_cases hc : ((acc ++ o.map fun i : Nat => ((k : Int), (i : Int))).length : Int) < (l6.length : Int)
      · obtain ⟨b, a1, t1, e1, g1⟩ := seldom_ok (t := t) (n := 3) ha hm (by omega)
        refine ⟨a1, t1, b, by rw [if_pos hc, e1, b3_some], g1, fun _ => ?_⟩
        rw [List.length_append, List.length_map] at hc; omega
      · exact ⟨a, t, false, if_neg hc, ha, fun h => nomatch h⟩
    obtain ⟨a1, t1, b, e1, g1, g2⟩ := key
    rw [e1, b3_some]
    cases b with
    | true =>
      have e2 : (acc ++ o.map fun i : Nat => ((k : Int), (i : Int))) ++ [((k : Int), (i : Int))] = acc ++ (o ++ [i]).map fun i : Nat => ((k : Int), (i : Int)) := by simp
      have := g2 rfl
      rw [if_pos rfl, ap_t (by simp; omega), e2]
      exact ih a1 t1 (o ++ [i]) g1 hadd (by simp; omega)
    | false =>
      rw [if_neg (by decide)]
      exact ih a1 t1 o g1 hnext hl
theorem wrongN_l6 (hm : (metal.length : Int) ≤ 9223372036854775807) {l6 : List (Int × Int)} (hl6 : l6.length ≤ 1000) {n : Nat} (hn : n ≤ 100) : ∀ (tl : List (List Int)) (k : Nat) (a t : Int) (acc : List (Int × Int)), BellA metal a → (∀ ms ∈ tl, ms.length = n) → acc.length ≤ l6.length →
    ∃ a' t' os, oyezlaw05_NightWrong_l6 metal l6 tl (k : Int) a t acc = some (a', t', acc ++ prs k os) ∧ BellA metal a' ∧ os.length = tl.length ∧ (∀ o ∈ os, Up n 0 o) ∧ (acc ++ prs k os).length ≤ l6.length
  | [], k, a, t, acc, ha, _, hl => ⟨a, t, [], by show some (a, t, acc) = some (a, t, acc ++ []); rw [List.append_nil], ha, rfl, (fun _ h => nomatch h), by show (acc ++ []).length ≤ _; rw [List.append_nil]; exact hl⟩
  | ms :: tl, k, a, t, acc, ha, hw, hl => by
    have hms := hw ms (List.mem_cons_self ..)
    obtain ⟨a1, t1, o, e1, g1, g2, g3⟩ := wrongN_l7 hm hl6 (k := k) (acc := acc) n 0 a t [] ha (Up.nil ..) (by simpa using hl)
    rw [List.map_nil, List.append_nil] at e1
    rw [Nat.zero_add] at g2
    have e1' : oyezlaw05_NightWrong_l7 metal l6 (k : Int) n 0 a t acc = _ := e1
    obtain ⟨a2, t2, os, e2, k1, k2, k3, k4⟩ := wrongN_l6 hm hl6 hn tl (k + 1) a1 t1 (acc ++ o.map fun i : Nat => ((k : Int), (i : Int))) g1 (fun m hmm => hw m (List.mem_cons_of_mem _ hmm)) (by rw [List.length_append, List.length_map]; exact g3)
    have e3 : (acc ++ o.map fun i : Nat => ((k : Int), (i : Int))) ++ prs (k + 1) os = acc ++ prs k (o :: os) := by rw [List.append_assoc]; rfl
    rw [e3] at e2 k4
    refine ⟨a2, t2, o :: os, ?_, k1, by rw [List.length_cons, k2, List.length_cons], fun x hx => ?_, k4⟩
    · unfold oyezlaw05_NightWrong_l6
      rw [hms, gd_t ⟨r64_small (by omega), r64_small (by omega)⟩, toNat_sub00, e1', b3_some, show (k : Int) + 1 = ((k + 1 : Nat) : Int) by omega, e2]
    · rcases List.mem_cons.1 hx with rfl | hx
      · exact g2
      · exact k3 x hx
theorem wrongN_l4 (g : GoodW ls hs) (hm : (metal.length : Int) ≤ 9223372036854775807) {B : List (List Nat)} (hB : BestL ls hs B) (hl6 : (prs 0 B).length ≤ 1000) : ∀ (fu : Nat) (a t : Int), BellA metal a → oyezlaw05_NightWrong_l4 ls metal hs (prs 0 B) fu a t = some true
  | 0, a, t, _ => by
    unfold oyezlaw05_NightWrong_l4 oyezlaw05_NightWrong_j3
    rw [awake_true]; rfl
  | fu + 1, a, t, ha => by
    have h6 := g.n6; have h8 := g.h8
    obtain ⟨a1, t1, os, e1, g1, k2, k3, k4⟩ := wrongN_l6 hm hl6 (n := ls.length) (by omega) hs 0 a t [] ha g.wid (Nat.zero_le _)
    rw [List.nil_append] at e1 k4
    have e1' : oyezlaw05_NightWrong_l6 metal (prs 0 B) hs 0 a t [] = some (a1, t1, prs 0 os) := e1
    have ih := wrongN_l4 g hm hB hl6 fu a1 t1 g1
    unfold oyezlaw05_NightWrong_l4
    rw [e1', b3_some, without_ok g k2 (fun o ho i hi => ((k3 o ho).2 i hi).2), b2_some, if_neg (by decide)]
    by_cases hpos : 0 < (allX ls (clrH os hs)).length
    · obtain ⟨s, hs2⟩ := expl_pos.1 hpos
      obtain ⟨q1, q2⟩ := hB.best 0 g.wid k2 k3 hs2
      have hlen : (prs 0 os).length = (prs 0 B).length := by omega
      obtain ⟨n, h3, h4⟩ := comparePl_l2 hlen (prs_small (n := ls.length) (by omega) os 0 (by omega) k3) (prs_small (n := ls.length) (by omega) B 0 (by rw [hB.len]; omega) (hB.up g.wid)) (prs 0 os) (prs 0 B) 0 rfl rfl ((q2 k4).pLe 0)
      have h4' : slices_CompareFunc_night_Place_night_Place_night_Place_night_Place (prs 0 os) (prs 0 B) (fun xx_ : (Int × Int) × (Int × Int) => oyezlaw05_NightWrong_2 xx_.1.1 xx_.1.2 xx_.2.1 xx_.2.2) = some n := h4
      rw [if_pos (decide_eq_true hpos), if_neg (by omega), h4', b1_some, b1_some, if_neg (by rw [decide_eq_true_iff]; omega)]
      exact ih
    · rw [if_neg (by rw [decide_eq_true_iff]; exact hpos), b1_some, if_neg (by decide)]
      exact ih
/-- A row of marks is right. -/
def RowG (n : Nat) (ms : List Int) : Prop := ms.length = n ∧ ∀ m ∈ ms, 0 ≤ m ∧ m ≤ 2
theorem GoodW.setR (g : GoodW ls hs) {h : Nat} {ms : List Int} (hm : RowG ls.length ms) : GoodW ls (hs.set h ms) := by
  refine ⟨g.n1, g.n6, by rw [List.length_set]; exact g.h1, by rw [List.length_set]; exact g.h8, fun r hr => ?_, fun r hr x hx => ?_, g.lis, g.nd⟩
  · rcases List.mem_or_eq_of_mem_set hr with h2 | rfl
    · exact g.wid r h2
    · exact hm.1
  · rcases List.mem_or_eq_of_mem_set hr with h2 | rfl
    · exact g.mks r h2 x hx
    · exact hm.2 x hx
theorem wrongN_l2 (hm : (metal.length : Int) ≤ 9223372036854775807) {U : List (List Int)} {h n : Nat} : ∀ (fu k : Nat) (ms : List Int) (a t : Int), BellA metal a → RowG n ms → k + fu = n → ∃ a' t' ms', oyezlaw05_NightWrong_l2 metal U (h : Int) fu (k : Int) ms a t = some (U.set h ms', a', t') ∧ BellA metal a' ∧ RowG n ms'
  | 0, k, ms, a, t, ha, hr, _ => ⟨a, t, ms, by
    show bv (U.set (h : Int).toNat ms) _ = _
    rw [Int.toNat_natCast]; rfl, ha, hr⟩
  | fu + 1, k, ms, a, t, ha, hr, hk => by
    have hl := hr.1
    have hmem : ms.getD k 0 ∈ ms := by rw [List.getD_eq_getElem?_getD, List.getElem?_eq_getElem (by omega)]; exact List.getElem_mem _
    have hv := hr.2 _ hmem
    have ih := wrongN_l2 hm (U := U) (h := h) (n := n) fu (k + 1)
    unfold oyezlaw05_NightWrong_l2
    rw [ixN 0 _ (by omega), show (k : Int) + 1 = ((k + 1 : Nat) : Int) by omega]
    have key : ∃ a1 t1 b, (if ms.getD k 0 ≠ 0 then (b3 (oyezkit_Bell_Seldom metal a t 4) fun ok at_4 turn4 => some (at_4, turn4, ok)) else some (a, t, false)) = some (a1, t1, b) ∧ BellA metal a1 ∧ (b = true → ms.getD k 0 ≠ 0) := by
      by_cases hc : ms.getD k 0 ≠ 0
      · obtain ⟨b, a1, t1, e1, g1⟩ := seldom_ok (t := t) (n := 4) ha hm (by omega)
        exact ⟨a1, t1, b, by rw [if_pos hc, e1, b3_some], g1, fun _ => hc⟩
      · exact ⟨a, t, false, if_neg hc, ha, fun h => nomatch h⟩
    obtain ⟨a1, t1, b, e1, g1, g2⟩ := key
    rw [e1, b3_some]
    cases b with
    | true =>
      have := g2 rfl
      rw [if_pos rfl, gd_t (r64_small (by omega)), bvE, Int.toNat_natCast]
      refine ih _ a1 t1 g1 ⟨by rw [List.length_set]; exact hl, fun x hx => ?_⟩ (by omega)
      rcases List.mem_or_eq_of_mem_set hx with h3 | rfl
      · exact hr.2 x h3
      · omega
    | false =>
      rw [if_neg (by decide)]
      exact ih ms a1 t1 g1 hr (by omega)
theorem wrongN_l1 (hm : (metal.length : Int) ≤ 9223372036854775807) : ∀ (fu k : Nat) (hs : List (List Int)) (a t : Int), BellA metal a → GoodW ls hs → k + fu = hs.length → ∃ hs' a' t', oyezlaw05_NightWrong_l1 metal fu (k : Int) hs a t = some (hs', a', t') ∧ BellA metal a' ∧ GoodW ls hs'
  | 0, k, hs, a, t, ha, g, _ => ⟨hs, a, t, rfl, ha, g⟩
  | fu + 1, k, hs, a, t, ha, g, hk => by
    have h6 := g.n6
    have hkl : k < hs.length := by omega
    have hw := g.wid _ (getD_mem hkl)
    obtain ⟨a1, t1, ms', e1, g1, g2⟩ := wrongN_l2 hm (U := hs) (h := k) (n := ls.length) ls.length 0 (hs.getD k []) a t ha ⟨hw, g.mks _ (getD_mem hkl)⟩ (by omega)
    have e1' : oyezlaw05_NightWrong_l2 metal hs (k : Int) ls.length 0 (hs.getD k []) a t = some (hs.set k ms', a1, t1) := e1
    unfold oyezlaw05_NightWrong_l1
    rw [ixN [] _ hkl, hw, gd_t ⟨r64_small (by omega), r64_small (by omega)⟩, toNat_sub00, e1', b3_some, show (k : Int) + 1 = ((k + 1 : Nat) : Int) by omega]
    exact wrongN_l1 hm fu (k + 1) _ a1 t1 g1 (g.setR g2) (by rw [List.length_set]; omega)
end
/-- NightWrong. -/
theorem wrong_true {numbers tries : List Int} (h1 : (numbers.length : Int) ≤ 9223372036854775807) (h2 : (tries.length : Int) ≤ 9223372036854775807) : oyezlaw05_NightWrong numbers tries = some true := by
  unfold oyezlaw05_NightWrong oyezkit_Hang
  obtain ⟨ls, hs0, real, a, t, e, g0, he0, _⟩ := made_ok (metal := numbers) (t := 0) (a := 0) (men := 4) (hours := 5) ⟨by omega, by omega⟩ h1 (by omega) (by omega)
  have h8 := g0.h8
  obtain ⟨hs, a1, t1, e1, k1, g⟩ := wrongN_l1 h2 hs0.length 0 hs0 0 0 ⟨by omega, by omega⟩ g0 (by omega)
  have e1' : oyezlaw05_NightWrong_l1 tries hs0.length 0 hs0 0 0 = some (hs, a1, t1) := e1
  obtain ⟨B, e2, hB⟩ := Wrong_ok g
  have h8' := g.h8; have h6 := g.n6
  have hlen : ∀ (B : List (List Nat)) (k : Nat), (∀ b ∈ B, Up ls.length 0 b) → (prs k B).length ≤ 6 * B.length := fun B => by
    induction B with
    | nil => intro k _; exact Nat.le_refl _
    | cons b B ih =>
      intro k h
      have h3 := ih (k + 1) (fun x hx => h x (List.mem_cons_of_mem _ hx))
      have h4 := (h b (List.mem_cons_self ..)).len
      rw [prs_len, List.length_cons]; omega
  have hl6 := hlen B 0 (hB.up g.wid)
  rw [hB.len] at hl6
  have hwo := without_ok g (os := B) hB.len (fun o ho i hi => ((hB.up g.wid o ho).2 i hi).2)
  rw [decide_eq_true (expl_pos.2 hB.expl)] at hwo
  have hnil := hB.nil_iff 0
  have fin : (∃ l n5, night_Fewest ls hs = some (l, n5) ∧ (if (0 : Int) ≠ 0 then some true else (if (0 : Int) ≠ 0 then some true else (if (decide (0 < ((allX ls hs).length : Int))) ≠ (decide (((prs 0 B).length : Int) = 0)) then some true else (if (decide (0 < ((allX ls hs).length : Int))) ≠ (decide (n5.2 = 0)) then some true else (if n5.2 ≠ 0 then some (decide (n5.2 ≠ 7)) else some false))))) = some false) := by
    by_cases hp : 0 < (allX ls hs).length
    · obtain ⟨s, hs2⟩ := expl_pos.1 hp
      obtain ⟨l, hl⟩ := Fewest_n g hs2
      have h3 : prs 0 B = [] := hnil.2 ⟨s, hs2⟩
      refine ⟨l, _, hl, ?_⟩
      rw [h3, decide_eq_true (by omega)]; rfl
    · have h3 : ¬ prs 0 B = [] := fun h => hp (expl_pos.2 (hnil.1 h))
      have h4 : ¬ ((prs 0 B).length : Int) = 0 := fun h => h3 (List.eq_nil_of_length_eq_zero (by omega))
      refine ⟨[], _, Fewest_clash g (by omega), ?_⟩
      rw [decide_eq_false (by omega), decide_eq_false h4]; rfl
  obtain ⟨l, ⟨n4, n5⟩, e3, e4⟩ := fin
  rw [b3_some, e, b5_some, b3_some, gd_t ⟨r64_small (by omega), r64_small (by omega)⟩, toNat_sub00, e1', b3_some, e2, b2_some, Count_ok g, b2_some, e3, b3_some, e4, b1_some, if_neg (by decide), hwo, b2_some, if_neg (by decide), b1_some, if_neg (by decide), gd_t ⟨by unfold R64; omega, by unfold R64; omega⟩]
  exact wrongN_l4 g h2 hB (by omega) _ a1 t1 k1
end Go.Proofs.Ytjgeaaganpkceaa.Nt
