/- Layer 5: the examples of the chapter; a man more who sleeps (NightFallen), in plain Lean. -/
import Derived.Test.YtjgeaaganpkceaaQB
namespace Go.Proofs.Ytjgeaaganpkceaa.Nt
open Go.PL

theorem awake_true : oyezlaw05_awake = some true := by decide +kernel

/-! ### Cries, Fits -/
theorem in_set {a p : Nat} (h : a < p) : ¬ ((!decide (0 ≤ (a : Int) ∧ (a : Int) ≤ (p : Int) - 1)) = true) := by simp; omega
theorem pow_le64 {n : Nat} (h : n ≤ 6) : 2 ^ n ≤ 64 := Nat.pow_le_pow_right (n := 2) (by decide) h
theorem lt63 {a n : Nat} (ha : a < 2 ^ n) (hn : n ≤ 6) : a < 9223372036854775808 := by have := pow_le64 hn; omega
theorem Cries_ok {ls hs : List (List Int)} (g : GoodW ls hs) {a : Nat} (ha : a < 2 ^ ls.length) : night_Cries ls hs (a : Int) = some ((cryS ls a : Int), 0) := by
  obtain ⟨c, h1, h2⟩ := opened_ok g
  have hp := pow_le64 g.n6
  have h6 := g.n6
  obtain ⟨c2, h3, _⟩ := cries_eq (hs := hs) (lt63 ha g.n6) g.small (by omega) h2
  unfold night_Cries
  rw [h1, b2_some, if_neg (by decide), b4_some, sets_eq (by omega), b1_some, gd_t (r64_nat1 (by omega)), in_eq, b1_some, if_neg (in_set ha), h3, b2_some]
theorem row_get {ls hs : List (List Int)} (g : GoodW ls hs) {h a : Nat} (hh : h < hs.length) (ha : a < 2 ^ ls.length) : ((hs.map (rowOf ls)).getD h []).getD a false = fitB ls (hs.getD h []) a := by
  have hp := pow_le64 g.n6
  have e : (hs.map (rowOf ls)).getD h [] = rowOf ls (hs.getD h []) := by
    rw [List.getD_eq_getElem?_getD, List.getElem?_map, List.getElem?_eq_getElem hh, List.getD_eq_getElem?_getD, List.getElem?_eq_getElem hh]; rfl
  rw [e]
  unfold rowOf rowP
  rw [List.getD_eq_getElem?_getD, List.getElem?_map, List.getElem?_range (by omega)]
  simp [ha]
theorem desk_fits {ls hs : List (List Int)} (g : GoodW ls hs) {h a : Nat} (hh : h < hs.length) (ha : a < 2 ^ ls.length) : night_desk_fits ls hs (hs.map (rowOf ls)) (h : Int) (a : Int) = some (fitB ls (hs.getD h []) a) := by
  have hp := pow_le64 g.n6
  have e : (hs.map (rowOf ls)).getD h [] = rowOf ls (hs.getD h []) := by
    rw [List.getD_eq_getElem?_getD, List.getElem?_map, List.getElem?_eq_getElem hh, List.getD_eq_getElem?_getD, List.getElem?_eq_getElem hh]; rfl
  unfold night_desk_fits
  rw [ixN [] _ (by simpa using hh), ixN false _ (by rw [e]; unfold rowOf; rw [rowP_len]; omega), row_get g hh ha]
theorem Fits_ok {ls hs : List (List Int)} (g : GoodW ls hs) {h a : Nat} (hh : h < hs.length) (ha : a < 2 ^ ls.length) : night_Fits ls hs (h : Int) (a : Int) = some (fitB ls (hs.getD h []) a, 0) := by
  obtain ⟨c, h1, h2⟩ := opened_ok g
  have hp := pow_le64 g.n6
  have h6 := g.n6
  have h8 := g.h8
  unfold night_Fits
  rw [h1, b2_some, if_neg (by decide), gd_t (r64_nat1 (by omega)), in_eq, b1_some, if_neg (in_set hh), b4_some, sets_eq (by omega), b1_some, gd_t (r64_nat1 (by omega)), in_eq, b1_some, if_neg (in_set ha), desk_fits g hh ha, b1_some]

/-! ### More who sleep -/
def Sub (x y : Nat) : Prop := ∀ i, x.testBit i = true → y.testBit i = true
theorem has_mono {l : List Int} {c c' : Nat} (h : Sub c c') (h1 : has l c = true) : has l c' = true := by
  unfold has at *
  rw [List.any_eq_true] at *
  obtain ⟨m, hm, h2⟩ := h1
  exact ⟨m, hm, h _ h2⟩
theorem or_two {c k i : Nat} : (c ||| 2 ^ k).testBit i = (c.testBit i || decide (k = i)) := by rw [Nat.testBit_or, Nat.testBit_two_pow]
theorem cryF_anti {a a' : Nat} (h : Sub a a') : ∀ (ls : List (List Int)) (k c c' : Nat), Sub c' c → Sub (cryF a' ls k c') (cryF a ls k c)
  | [], _, _, _, hc => hc
  | l :: ls, k, c, c', hc => by
    unfold cryF
    refine cryF_anti h ls (k + 1) _ _ fun i hi => ?_
    by_cases h1 : (!a'.testBit k && (l.isEmpty || has l c')) = true
    · rw [if_pos h1, or_two, Bool.or_eq_true] at hi
      have h2 : (!a.testBit k && (l.isEmpty || has l c)) = true := by
        rw [Bool.and_eq_true] at h1 ⊢
        obtain ⟨p, q⟩ := h1
        refine ⟨?_, ?_⟩
        · cases hb : a.testBit k with
          | false => rfl
          | true => rw [h k hb] at p; cases p
        · rw [Bool.or_eq_true] at q ⊢
          exact q.imp id (has_mono hc)
      rw [if_pos h2, or_two, Bool.or_eq_true]
      exact hi.imp (hc i) id
    · rw [if_neg h1] at hi
      split
      · rw [or_two, hc i hi]; rfl
      · exact hc i hi
theorem cryF_disj {a : Nat} : ∀ (ls : List (List Int)) (k c : Nat), (∀ i, c.testBit i = true → ¬ a.testBit i = true) → ∀ i, (cryF a ls k c).testBit i = true → ¬ a.testBit i = true
  | [], _, _, hc => hc
  | l :: ls, k, c, hc => by
    unfold cryF
    refine cryF_disj ls (k + 1) _ fun i hi => ?_
    split at hi
    · rename_i h1
      rw [or_two, Bool.or_eq_true] at hi
      rcases hi with h2 | h2
      · exact hc i h2
      · have : k = i := of_decide_eq_true h2
        subst this
        rw [Bool.and_eq_true] at h1
        intro h3; rw [h3] at h1; cases h1.1
    · exact hc i hi
theorem dif_zero {x y : Nat} (h : Sub x y) : dif x y = 0 := by
  apply Nat.eq_of_testBit_eq
  intro i
  rw [bit_dif, Nat.zero_testBit]
  cases hx : x.testBit i with
  | false => rfl
  | true => rw [h i hx]; rfl
theorem and_zero {x y : Nat} (h : ∀ i, x.testBit i = true → ¬ y.testBit i = true) : x &&& y = 0 := by
  apply Nat.eq_of_testBit_eq
  intro i
  rw [Nat.testBit_and, Nat.zero_testBit]
  cases hx : x.testBit i with
  | false => rfl
  | true =>
    have := h i hx
    simp only [Bool.not_eq_true] at this
    rw [this]; rfl
section
variable {metal : List Int}
theorem fallen_l4 {ls hs : List (List Int)} (g : GoodW ls hs) {a : Nat} (ha : a < 2 ^ ls.length) {at5 t5 : Int} {rec2 : Int → Int → Option Bool} : ∀ (tl : List (List Int)) (k : Nat), hs.drop k = tl → oyezlaw05_NightFallen_l4 ls hs (a : Int) at5 t5 rec2 tl (k : Int) = rec2 at5 t5
  | [], k, _ => rfl
  | ms :: tl, k, hd => by
    have hk : k < hs.length := by
      rcases Nat.lt_or_ge k hs.length with h | h
      · exact h
      · rw [List.drop_eq_nil_of_le h] at hd; cases hd
    have hg : hs.getD k [] = ms := by
      rw [List.drop_eq_getElem_cons hk] at hd
      rw [List.getD_eq_getElem?_getD, List.getElem?_eq_getElem hk]
      exact (List.cons.inj hd).1
    have hd2 : hs.drop (k + 1) = tl := by
      rw [List.drop_eq_getElem_cons hk] at hd
      exact (List.cons.inj hd).2
    have hmem : ms ∈ hs := by rw [← hg, List.getD_eq_getElem?_getD, List.getElem?_eq_getElem hk]; exact List.getElem_mem hk
    have h6 := g.n6
    unfold oyezlaw05_NightFallen_l4
    rw [Fits_ok g hk ha, b2_some, if_neg (by decide), lfits_eq (lt63 ha g.n6) g.small (by omega) (g.le50 ms hmem), b1_some, hg, b1_some, if_neg (by simp), show (k : Int) + 1 = ((k + 1 : Nat) : Int) by omega]
    exact fallen_l4 g ha tl (k + 1) hd2
theorem fallen_l2 (hm : (metal.length : Int) ≤ 9223372036854775807) {ls hs : List (List Int)} (g : GoodW ls hs) : ∀ (fu : Nat) (a t : Int), BellA metal a → oyezlaw05_NightFallen_l2 ls hs metal fu a t = some true
  | 0, a, t, _ => by
    unfold oyezlaw05_NightFallen_l2 oyezlaw05_NightFallen_j1
    rw [awake_true]; rfl
  | fu + 1, a, t, ha => by
    have h6 := g.n6
    have h1 := g.n1
    have hp := pow_le64 g.n6
    have hp0 : 0 < 2 ^ ls.length := Nat.pow_pos (by decide)
    unfold oyezlaw05_NightFallen_l2
    rw [gd_t (shl_r (by omega)), shl_nat, gd_t (r64_nat1 (by omega)), gd_t (r64_small (by omega))]
    obtain ⟨n, a1, t1, e1, f1, f2, f3⟩ := stroke_ok (t := t) (n := ((2 ^ ls.length : Nat) : Int) - 1) ha hm (by omega)
    obtain ⟨n, rfl⟩ := Int.eq_ofNat_of_zero_le f1
    obtain ⟨m, a2, t2, e2, k1, k2, k3⟩ := stroke_ok (t := t1) (n := (ls.length : Int) - 1) f3 hm (by omega)
    obtain ⟨m, rfl⟩ := Int.eq_ofNat_of_zero_le k1
    have hn : n < 2 ^ ls.length := by omega
    have hmn : m < ls.length := by omega
    have hn2 : n ||| 2 ^ m < 2 ^ ls.length := Nat.or_lt_two_pow hn (Nat.pow_lt_pow_right (by decide) hmn)
    have hc1 := cryS_lt ls n
    have hc2 := cryS_lt ls (n ||| 2 ^ m)
    rw [e1, b3_some, e2, b3_some, Cries_ok g hn, b2_some, gd_t (shl_r (by omega)), shl_nat, bor_nat (lt63 hn h6) (lt63 (Nat.pow_lt_pow_right (by decide) hmn) h6), Cries_ok g hn2, b2_some, if_neg (by decide), if_neg (by decide), cry_eq (lt63 hn h6) g.small (by omega), b1_some, if_neg (by simp)]
    have hsub : Sub (cryS ls (n ||| 2 ^ m)) (cryS ls n) := cryF_anti (fun i hi => by rw [or_two, hi]; rfl) ls 0 0 0 (fun i hi => hi)
    rw [bandn_nat (lt63 hc2 h6) (lt63 hc1 h6), dif_zero hsub, if_neg (by decide), band_nat (lt63 hc1 h6) (lt63 hn h6), show cryS ls n &&& n = 0 from and_zero (cryF_disj ls 0 0 (fun i hi => by rw [Nat.zero_testBit] at hi; cases hi)), if_neg (by decide), gd_t ⟨by omega, by omega⟩, b1_some]
    have hlast : ¬ (cryS ls (n ||| 2 ^ m)).testBit m = true := fun h => cryF_disj ls 0 0 (fun i hi => by rw [Nat.zero_testBit] at hi; cases hi) m h (by rw [or_two]; simp)
    rw [if_neg (by
      rw [decide_eq_true_iff, bit_one (lt63 hc2 h6)]
      exact hlast), show (0 : Int) = ((0 : Nat) : Int) from rfl, fallen_l4 g hn hs 0 rfl]
    exact fallen_l2 hm g fu a2 t2 k3
end
/-- NightFallen. -/
theorem fallen_true {numbers sets : List Int} (h1 : (numbers.length : Int) ≤ 9223372036854775807) (h2 : (sets.length : Int) ≤ 9223372036854775807) : oyezlaw05_NightFallen numbers sets = some true := by
  unfold oyezlaw05_NightFallen oyezkit_Hang
  obtain ⟨ls, hs, real, a, t, e, g, _⟩ := made_ok (metal := numbers) (t := 0) (a := 0) (men := 6) (hours := 5) ⟨by omega, by omega⟩ h1 (by omega) (by omega)
  rw [b3_some, e, b5_some, b3_some, gd_t ⟨by unfold R64; omega, by unfold R64; omega⟩]
  exact fallen_l2 h2 g _ 0 0 ⟨by omega, by omega⟩
end Go.Proofs.Ytjgeaaganpkceaa.Nt
