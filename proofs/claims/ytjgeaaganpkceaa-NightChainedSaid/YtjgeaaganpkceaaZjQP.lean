/- Layer 5 with layer 1: chains of bellmen who hear one another (NightChained); in plain Lean. -/
import Derived.Test.YtjgeaaganpkceaaZjQC
import Derived.Test.YtjgeaaganpkceaaZjBl
namespace Go.Proofs.Ytjgeaaganpkceaa.Nt
open Go.PL Go.Hear
theorem cryF_low (a : Nat) : ∀ (ls : List (List Int)) (k c i : Nat), i < k → (cryF a ls k c).testBit i = c.testBit i
  | [], _, _, _, _ => rfl
  | l :: ls, k, c, i, h => by
    unfold cryF
    rw [cryF_low a ls (k + 1) _ i (by omega)]
    split
    · rw [or_two]
      have : ¬ k = i := by omega
      simp [this]
    · rfl
theorem has_same {l : List Int} {c c' : Nat} (h : ∀ m ∈ l, c.testBit m.toNat = c'.testBit m.toNat) : has l c = has l c' := by
  unfold has
  induction l with
  | nil => rfl
  | cons m l ih =>
    rw [List.any_cons, List.any_cons, h m (List.mem_cons_self ..), ih fun x hx => h x (List.mem_cons_of_mem _ hx)]
theorem cryF_fix (a : Nat) : ∀ (ls : List (List Int)) (k c : Nat), c < 2 ^ k → (∀ (i : Nat) l, ls[i]? = some l → ∀ m ∈ l, 0 ≤ m ∧ m < ((k + i : Nat) : Int)) → ∀ (j : Nat) l, ls[j]? = some l → (cryF a ls k c).testBit (k + j) = (!a.testBit (k + j) && (l.isEmpty || has l (cryF a ls k c)))
  | [], _, _, _, _, _, _, h => by simp at h
  | l :: ls, k, c, hc, hl, 0, l', h => by
    simp at h; subst h
    have e : cryF a (l :: ls) k c = cryF a ls (k + 1) (if (!a.testBit k && (l.isEmpty || has l c)) = true then c ||| 2 ^ k else c) := rfl
    rw [Nat.add_zero, e]
    generalize hc' : (if (!a.testBit k && (l.isEmpty || has l c)) = true then c ||| 2 ^ k else c) = c'
    have hk : c.testBit k = false := Nat.testBit_lt_two_pow hc
    have hh : has l (cryF a ls (k + 1) c') = has l c := has_same fun m hm => by
      obtain ⟨h0, h1⟩ := hl 0 l rfl m hm
      have hlt : m.toNat < k := by omega
      rw [cryF_low a ls (k + 1) c' _ (by omega), ← hc']
      split
      · rw [or_two]
        have : ¬ k = m.toNat := by omega
        simp [this]
      · rfl
    rw [hh, cryF_low a ls (k + 1) c' k (by omega), ← hc']
    by_cases hb : (!a.testBit k && (l.isEmpty || has l c)) = true
    · rw [if_pos hb, or_two, hk, hb]; simp
    · rw [if_neg hb, hk]
      simp only [Bool.not_eq_true] at hb
      rw [hb]
  | l :: ls, k, c, hc, hl, j + 1, l', h => by
    have ih := cryF_fix a ls (k + 1) (if (!a.testBit k && (l.isEmpty || has l c)) = true then c ||| 2 ^ k else c) (by
      split
      · exact or_bit hc
      · exact Nat.lt_of_lt_of_le hc (Nat.pow_le_pow_right (by decide) (by omega))) (fun i l' hi m hm => by
      have := hl (i + 1) l' (by simpa using hi) m hm
      rwa [show k + (i + 1) = k + 1 + i by omega] at this) j l' (by simpa using h)
    rw [show k + (j + 1) = k + 1 + j by omega]
    exact ih
theorem cryF_stay (a C : Nat) : ∀ (ls : List (List Int)) (k : Nat), (∀ (j : Nat) l, ls[j]? = some l → C.testBit (k + j) = (!a.testBit (k + j) && (l.isEmpty || has l C))) → cryF a ls k C = C
  | [], _, _ => rfl
  | l :: ls, k, h => by
    have h0 := h 0 l rfl
    rw [Nat.add_zero] at h0
    unfold cryF
    have e : (if (!a.testBit k && (l.isEmpty || has l C)) = true then C ||| 2 ^ k else C) = C := by
      split
      · rename_i hb
        apply Nat.eq_of_testBit_eq
        intro i
        rw [or_two]
        by_cases hk : k = i
        · subst hk
          rw [h0, hb]; rfl
        · simp [hk]
      · rfl
    rw [e]
    exact cryF_stay a C ls (k + 1) fun j l' hj => by
      have := h (j + 1) l' (by simpa using hj)
      rwa [show k + (j + 1) = k + 1 + j by omega] at this
theorem chas_eq {l : List Int} {c : Nat} (hl : ∀ m ∈ l, 0 ≤ m ∧ m < 60) (hc : c < 9223372036854775808) : slices_ContainsFunc_int_int l (fun xx_ : Int => oyezlaw05_NightChained_1 xx_ (c : Int)) = some (has l c) := by
  refine contains_eq (g := fun m => c.testBit m.toNat) fun x hx => ?_
  obtain ⟨h0, h1⟩ := hl x hx
  show oyezlaw05_NightChained_1 x (c : Int) = _
  unfold oyezlaw05_NightChained_1
  rw [gd_t ⟨h0, by omega⟩]
  obtain ⟨k, rfl⟩ := Int.eq_ofNat_of_zero_le h0
  rw [Int.toNat_natCast]
  congr 1
  cases h : c.testBit k with
  | true => exact decide_eq_true ((bit_one hc k).2 h)
  | false => exact decide_eq_false fun h2 => by rw [(bit_one hc k).1 h2] at h; cases h
theorem chained_l8 {a : Nat} (ha : a < 9223372036854775808) : ∀ (ls : List (List Int)) (k c : Nat), Small ls → k + ls.length ≤ 50 → c < 2 ^ 50 → oyezlaw05_NightChained_l8 (a : Int) ls (k : Int) (c : Int) = some (cryF a ls k c : Int)
  | [], k, c, _, _, _ => rfl
  | l :: ls, k, c, hs, hk, hc => by
    have hk' : k + 1 + ls.length ≤ 50 := by rw [List.length_cons] at hk; omega
    have hc63 : c < 9223372036854775808 := Nat.lt_trans hc (by decide)
    have hs' : Small ls := fun l' hl => hs l' (List.mem_cons_of_mem _ hl)
    have ek : (k : Int) + 1 = ((k + 1 : Nat) : Int) := by omega
    have h2k : 2 ^ k < 2 ^ 50 := Nat.pow_lt_pow_right (by decide) (by omega)
    unfold oyezlaw05_NightChained_l8 cryF
    have key : (gd (0 ≤ (k : Int) ∧ (k : Int) < 64) <| if band (shr (a : Int) (k : Int)) 1 = 0 then (if (l.length : Int) = 0 then some true else (b1 (slices_ContainsFunc_int_int l (fun xx_ : Int => oyezlaw05_NightChained_1 xx_ (c : Int))) fun ok => some ok)) else some false) = some (!a.testBit k && (l.isEmpty || has l c)) := by
      rw [gd_t ⟨by omega, by omega⟩]
      by_cases h1 : a.testBit k = true
      · rw [if_neg (fun h => (bit_zero ha k).1 h h1), h1]; rfl
      · rw [if_pos ((bit_zero ha k).2 h1)]
        simp only [Bool.not_eq_true] at h1
        rw [h1]
        by_cases h2 : (l.length : Int) = 0
        · have h3 : l = [] := List.eq_nil_of_length_eq_zero (by omega)
          rw [if_pos h2, h3]; rfl
        · have h3 : l.isEmpty = false := by cases l with
            | nil => simp at h2
            | cons _ _ => rfl
          rw [if_neg h2, chas_eq (hs l (List.mem_cons_self ..)) hc63, b1_some, h3]; rfl
    rw [key, b1_some]
    by_cases hb : (!a.testBit k && (l.isEmpty || has l c)) = true
    · rw [if_pos hb, if_pos hb, gd_t (shl_r (by omega)), shl_nat, bor_nat hc63 (Nat.lt_trans h2k (by decide)), ek]
      exact chained_l8 ha ls (k + 1) _ hs' hk' (Nat.or_lt_two_pow hc h2k)
    · rw [if_neg hb, if_neg hb, ek]
      exact chained_l8 ha ls (k + 1) c hs' hk' hc
section
variable {ls hs : List (List Int)}
theorem chained_l7 (g : GoodW ls hs) {a : Nat} (ha : a < 9223372036854775808) : ∀ fu : Nat, oyezlaw05_NightChained_l7 ls (a : Int) fu (cryS ls a : Int) = some (cryS ls a : Int)
  | 0 => rfl
  | fu + 1 => by
    have h6 := g.n6
    have hlt : cryS ls a < 2 ^ 50 := Nat.lt_of_lt_of_le (cryS_lt ls a) (Nat.pow_le_pow_right (by decide) (by omega))
    have hst : cryF a ls 0 (cryS ls a) = cryS ls a := cryF_stay a (cryS ls a) ls 0 fun j l hj => cryF_fix a ls 0 0 (by decide) (fun i l hi m hm => by rw [Nat.zero_add]; exact g.lis i l hi m hm) j l hj
    have h8 := chained_l8 ha ls 0 (cryS ls a) g.small (by omega) hlt
    rw [hst] at h8
    have h8' : oyezlaw05_NightChained_l8 (a : Int) ls 0 (cryS ls a : Int) = some (cryS ls a : Int) := h8
    unfold oyezlaw05_NightChained_l7
    rw [h8', b1_some]
    exact chained_l7 g ha fu
theorem chained_j2 {at_ : List Int} {l2 : List Int} (g : GoodW ls [l2]) (hl : at_.length = ls.length) {set_ : Int} (hset : 0 ≤ set_ ∧ set_ ≤ 255) : oyezlaw05_NightChained_j2 set_ l2 at_ ls = some true := by
  have h1 := g.n1; have h6 := g.n6
  have hp := pow_le64 g.n6
  obtain ⟨w, rfl⟩ := Int.eq_ofNat_of_zero_le hset.1
  have hp0 : 0 < 2 ^ ls.length := Nat.pow_pos (by decide)
  have hmod : Int.tmod (w : Int) ((2 ^ ls.length : Nat) : Int) = ((w % 2 ^ ls.length : Nat) : Int) := by
    rw [Int.tmod_eq_emod_of_nonneg (Int.natCast_nonneg _), ← Int.natCast_emod]
  have ha : w % 2 ^ ls.length < 2 ^ ls.length := Nat.mod_lt _ hp0
  generalize w % 2 ^ ls.length = a at hmod ha
  have hc := cryS_lt ls a
  have h8 := chained_l8 (lt63 ha h6) ls 0 0 g.small (by omega) (by decide)
  have h8' : oyezlaw05_NightChained_l8 (a : Int) ls 0 0 = some (cryS ls a : Int) := h8
  unfold oyezlaw05_NightChained_j2
  rw [hl, gd_t (by unfold R64; omega), gd_t (shl_r (by omega)), shl_nat, gd_t (by omega), bvE, hmod, Cries_ok g ha, b2_some, if_neg (fun h => h rfl), if_neg (by omega), gd_t ⟨⟨by omega, by omega⟩, r64_nat (by omega)⟩, b1_some, if_neg (by rw [decide_eq_true_iff]; omega), gd_t ⟨r64_small (by omega), r64_small (by omega)⟩, show Int.toNat ((ls.length : Int) - 0) = (ls.length - 1) + 1 by omega]
  rw [oyezlaw05_NightChained_l7, h8', b1_some, chained_l7 g (lt63 ha h6), b1_some, if_pos rfl, awake_true]; rfl
end
/-- A street of a town. -/
def IsSt (ps : List Int) (p : Int) : Prop := (0 ≤ p ∧ p < ps.length) ∧ ps.getD p.toNat 0 = 0
theorem chained_l1 {ps : List Int} : ∀ (tl : List Int) (k : Nat) (acc : List Int), ps.drop k = tl → (∀ p ∈ acc, IsSt ps p) → acc.length ≤ 6 → ∃ r, oyezlaw05_NightChained_l1 tl (k : Int) acc = some r ∧ (∀ p ∈ r, IsSt ps p) ∧ r.length ≤ 6 ∧ ((0 < acc.length ∨ ∃ x ∈ tl, x = 0) → 0 < r.length)
  | [], k, acc, _, h1, h2 => ⟨acc, rfl, h1, h2, fun h => h.elim id fun ⟨_, hx, _⟩ => nomatch hx⟩
  | x :: tl, k, acc, hd, h1, h2 => by
    have hk : k < ps.length := by
      rcases Nat.lt_or_ge k ps.length with h' | h'
      · exact h'
      · rw [List.drop_eq_nil_of_le h'] at hd; cases hd
    have hg : ps.getD k 0 = x := by
      rw [List.drop_eq_getElem_cons hk] at hd
      rw [List.getD_eq_getElem?_getD, List.getElem?_eq_getElem hk]
      exact (List.cons.inj hd).1
    have hd2 : ps.drop (k + 1) = tl := by
      rw [List.drop_eq_getElem_cons hk] at hd
      exact (List.cons.inj hd).2
    unfold oyezlaw05_NightChained_l1
    rw [show (k : Int) + 1 = ((k + 1 : Nat) : Int) by omega]
    by_cases hx : x = 0
    · rw [if_pos hx, b1_some]
      by_cases hc : (acc.length : Int) < 6
      · obtain ⟨r, e, q1, q2, q3⟩ := chained_l1 tl (k + 1) (acc ++ [(k : Int)]) hd2 (fun p hp => by
          rcases List.mem_append.1 hp with h | h
          · exact h1 p h
          · rw [List.mem_singleton] at h
            rw [h]
            exact ⟨by omega, by rw [Int.toNat_natCast, hg, hx]⟩) (by simp; omega)
        refine ⟨r, ?_, q1, q2, fun _ => q3 (.inl (by simp))⟩
        rw [if_pos (decide_eq_true hc), ap_t (by simp; omega)]; exact e
      · obtain ⟨r, e, q1, q2, q3⟩ := chained_l1 tl (k + 1) acc hd2 h1 h2
        refine ⟨r, ?_, q1, q2, fun _ => q3 (.inl (by omega))⟩
        rw [if_neg (by rw [decide_eq_true_iff]; exact hc)]; exact e
    · obtain ⟨r, e, q1, q2, q3⟩ := chained_l1 tl (k + 1) acc hd2 h1 h2
      refine ⟨r, ?_, q1, q2, fun h => q3 (h.imp id fun ⟨y, hy, hy0⟩ => ?_)⟩
      · rw [if_neg hx, b1_some, if_neg (by decide)]; exact e
      · rcases List.mem_cons.1 hy with rfl | hy
        · exact absurd hy0 hx
        · exact ⟨y, hy, hy0⟩
section
variable {wide w v : Int} {ps : List Int}
theorem need_st (hk : chk wide ps = 0) (hw : okW w) {s p : Int} (hs : IsSt ps s) (hp : IsSt ps p) : needE wide ps w s p = 0 ∨ needE wide ps w s p = 6 := by
  have ho : openE wide ps w = 0 := by unfold openE; rw [hk, if_neg (fun h => h rfl), if_neg (fun h => h hw)]
  have hse : standE wide ps w s = 0 := by
    unfold standE
    rw [ho, if_neg (fun h => h rfl)]
    unfold isE
    obtain ⟨h1, h2⟩ := hs
    rw [if_neg (fun h => h ⟨h1.1, by omega⟩), if_neg (fun h => h h2)]
  obtain ⟨h1, h2⟩ := hp
  unfold needE
  rw [hse, if_neg (fun h => h rfl), if_neg (fun h => h ⟨h1.1, by omega⟩)]
  split
  · exact .inr rfl
  · exact .inl rfl
theorem chained_l6 (hk : chk wide ps = 0) (hn : ps.length ≤ 1000) (hw : okW w) {W : List (List Int)} {k3 : Nat} {p : Int} (hp : IsSt ps p) {rec3 : Int → List (List Int) → Option Bool} : ∀ (tl : List Int) (k : Nat) (acc : List Int), (∀ s ∈ tl, IsSt ps s) → k + tl.length ≤ 100 → acc.length ≤ k → acc.Nodup → (∀ m ∈ acc, 0 ≤ m ∧ m < (k : Int)) →
    ∃ l', oyezlaw05_NightChained_l6 wide ps w v W (k3 : Int) p rec3 tl (k : Int) acc = oyezlaw05_NightChained_j5 W (k3 : Int) rec3 l' ∧ l'.Nodup ∧ (∀ m ∈ l', 0 ≤ m ∧ m < ((k + tl.length : Nat) : Int))
  | [], k, acc, _, _, _, h2, h3 => ⟨acc, rfl, h2, h3⟩
  | s :: tl, k, acc, hs, hl, h1, h2, h3 => by
    rw [List.length_cons] at hl ⊢
    have hs0 := hs s (List.mem_cons_self ..)
    have hne := need_st (w := w) hk hw hs0 hp
    have ih := chained_l6 hk hn hw (W := W) (k3 := k3) hp (rec3 := rec3) tl (k + 1)
    rw [show k + 1 + tl.length = k + (tl.length + 1) by omega] at ih
    have hs' : ∀ x ∈ tl, IsSt ps x := fun x hx => hs x (List.mem_cons_of_mem _ hx)
    unfold oyezlaw05_NightChained_l6
    rw [Need_eq hn, b2_some, show (k : Int) + 1 = ((k + 1 : Nat) : Int) by omega]
    have e1 : (if needE wide ps w s p ≠ 0 then some (decide (needE wide ps w s p ≠ 6)) else some false) = some false := by
      rcases hne with h | h <;> rw [h] <;> rfl
    rw [e1, b1_some, if_neg (by decide)]
    have take : ∃ l', (ap acc [(k : Int)] fun l5 => oyezlaw05_NightChained_l6 wide ps w v W (k3 : Int) p rec3 tl ((k + 1 : Nat) : Int) l5) = oyezlaw05_NightChained_j5 W (k3 : Int) rec3 l' ∧ l'.Nodup ∧ (∀ m ∈ l', 0 ≤ m ∧ m < ((k + (tl.length + 1) : Nat) : Int)) := by
      rw [ap_t (by simp; omega)]
      refine ih (acc ++ [(k : Int)]) hs' (by omega) (by simp; omega) ?_ fun m hm => ?_
      · rw [List.nodup_append]
        refine ⟨h2, by simp, fun x hx y hy he => ?_⟩
        rw [List.mem_singleton] at hy
        have := h3 x hx
        omega
      · rcases List.mem_append.1 hm with h | h
        · have := h3 m h; omega
        · rw [List.mem_singleton] at h; omega
    have skip := ih acc hs' (by omega) (by omega) h2 (fun m hm => by have := h3 m hm; omega)
    by_cases h0 : needE wide ps w s p = 0
    · rw [if_pos h0, b1_some]
      by_cases hc : needV wide ps w s p ≤ v
      · rw [if_pos (decide_eq_true hc)]; exact take
      · rw [if_neg (by rw [decide_eq_true_iff]; exact hc)]; exact skip
    · rw [if_neg h0, b1_some, if_neg (by decide)]; exact skip
theorem chained_l3 (hk : chk wide ps = 0) (hn : ps.length ≤ 1000) (hw : okW w) {at_ : List Int} (hat : ∀ p ∈ at_, IsSt ps p) (h1 : 1 ≤ at_.length) (h6 : at_.length ≤ 6) {set_ : Int} (hset : 0 ≤ set_ ∧ set_ ≤ 255) : ∀ (tl : List Int) (k : Nat) (W : List (List Int)), at_.drop k = tl → W.length = k → k ≤ at_.length → (∀ (i : Nat) l, W[i]? = some l → ∀ m ∈ l, 0 ≤ m ∧ m < (i : Int)) → (∀ l ∈ W, l.Nodup) → oyezlaw05_NightChained_l3 set_ wide ps w v at_ (List.replicate at_.length 0) tl (k : Int) W = some true
  | [], k, W, hd, hW, hka, q1, q2 => by
    have hle : at_.length ≤ k := List.drop_eq_nil_iff.1 hd
    have hk2 : W.length = at_.length := by omega
    unfold oyezlaw05_NightChained_l3
    refine chained_j2 ⟨by omega, by omega, by simp, by simp, fun ms hm => ?_, fun ms hm x hx => ?_, q1, q2⟩ hk2.symm hset
    · rw [List.mem_singleton] at hm
      rw [hm, List.length_replicate, hk2]
    · rw [List.mem_singleton] at hm
      rw [hm] at hx
      have := List.eq_of_mem_replicate hx
      omega
  | p :: tl, k, W, hd, hW, _, q1, q2 => by
    have hkl : k < at_.length := by
      rcases Nat.lt_or_ge k at_.length with h' | h'
      · exact h'
      · rw [List.drop_eq_nil_of_le h'] at hd; cases hd
    have hd' := hd
    rw [List.drop_eq_getElem_cons hkl] at hd'
    obtain ⟨hp0, hd2⟩ := List.cons.inj hd'
    have hp : IsSt ps p := hat p (by rw [← hp0]; exact List.getElem_mem _)
    have hsl : sl at_ 0 (k : Int) = at_.take k := by unfold sl; simp
    have hlen : (at_.take k).length = k := by rw [List.length_take]; omega
    obtain ⟨l', e, r1, r2⟩ := chained_l6 (v := v) hk hn hw (W := W) (k3 := k) hp (rec3 := oyezlaw05_NightChained_l3 set_ wide ps w v at_ (List.replicate at_.length 0) tl) (at_.take k) 0 [] (fun s hs => hat s (List.mem_of_mem_take hs)) (by omega) (Nat.le_refl _) List.nodup_nil (fun _ h => nomatch h)
    have e' : oyezlaw05_NightChained_l6 wide ps w v W (k : Int) p (oyezlaw05_NightChained_l3 set_ wide ps w v at_ (List.replicate at_.length 0) tl) (at_.take k) 0 [] = _ := e
    unfold oyezlaw05_NightChained_l3
    rw [gd_t ⟨⟨Int.le_refl _, by omega⟩, by omega⟩, bvE, hsl, e']
    unfold oyezlaw05_NightChained_j5 oyezlaw05_NightChained_j4
    rw [ap_t (by simp; omega), show (k : Int) + 1 = ((k + 1 : Nat) : Int) by omega]
    rw [hlen, Nat.zero_add] at r2
    refine chained_l3 hk hn hw hat h1 h6 hset tl (k + 1) (W ++ [l']) hd2 (by simp; omega) (by omega) (fun i l hi m hm => ?_) (fun l hl => ?_)
    · rw [List.getElem?_append] at hi
      split at hi
      · exact q1 i l hi m hm
      · rename_i hge
        have h0 : i - W.length = 0 := by
          rcases Nat.eq_zero_or_pos (i - W.length) with h | h
          · exact h
          · rw [List.getElem?_eq_none (by simp; omega)] at hi; cases hi
        rw [h0] at hi
        simp at hi; subst hi
        have := r2 m hm
        omega
    · rcases List.mem_append.1 hl with h | h
      · exact q2 l h
      · rw [List.mem_singleton] at h; rw [h]; exact r1
end
/-- NightChained. -/
theorem chained_true {numbers : List Int} {set_ : Int} (h1 : (numbers.length : Int) ≤ 9223372036854775807) (hset : 0 ≤ set_ ∧ set_ ≤ 255) : oyezlaw05_NightChained numbers set_ = some true := by
  unfold oyezlaw05_NightChained oyezkit_Hang
  obtain ⟨wide, ps, a1, t1, e1, hk, hl, ⟨s, hs1, hs2⟩, f1⟩ := Go.Proofs.Ytjgeaaganpkceaa.made_ok (metal := numbers) (a := 0) (t := 0) (plots := 16) ⟨by omega, by omega⟩ h1 (by omega)
  obtain ⟨w, v, a2, t2, e2, hw, hv, f2⟩ := Go.Proofs.Ytjgeaaganpkceaa.aired_ok (metal := numbers) (a := a1) (t := t1) f1 h1
  obtain ⟨r, e3, q1, q2, q3⟩ := chained_l1 (ps := ps) ps 0 [] rfl (fun _ h => nomatch h) (by simp)
  have e3' : oyezlaw05_NightChained_l1 ps 0 [] = some r := e3
  have hr := q3 (.inr ⟨ps.getD s 0, by rw [List.getD_eq_getElem?_getD, List.getElem?_eq_getElem hs1]; exact List.getElem_mem _, hs2⟩)
  have h3 := chained_l3 (v := v) hk (by omega) hw q1 hr q2 hset r 0 [] rfl rfl (Nat.zero_le _) (by simp) (by simp)
  rw [b3_some, e1, b4_some, e2, b4_some, e3', b1_some, gd_t ⟨by omega, by omega⟩, bvE, Int.toNat_natCast]
  exact h3
end Go.Proofs.Ytjgeaaganpkceaa.Nt
