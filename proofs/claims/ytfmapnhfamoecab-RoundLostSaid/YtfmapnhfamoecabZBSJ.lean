/- The pairs of a beat, and which of them a cry serves; in plain Lean. -/
import Derived.Test.YtfmapnhfamoecabZBSG
namespace Go.Proofs.Ytfmapnhfamoecab.Rd
open Go.PL
theorem band_nat {x y : Nat} (hx : x < 9223372036854775808) (hy : y < 9223372036854775808) : band (x : Int) (y : Int) = ((x &&& y : Nat) : Int) := by
  have ho : x &&& y ≤ x := Nat.and_le_left
  unfold band
  rw [BitVec.ofInt_natCast, BitVec.ofInt_natCast]
  have e : (BitVec.ofNat 64 x &&& BitVec.ofNat 64 y).toNat = x &&& y := by
    rw [BitVec.toNat_and, BitVec.toNat_ofNat, BitVec.toNat_ofNat, Nat.mod_eq_of_lt (by omega), Nat.mod_eq_of_lt (by omega)]
  rw [BitVec.toInt_eq_toNat_of_lt (by rw [e]; omega), e]
theorem bor_nat {x y : Nat} (hx : x < 9223372036854775808) (hy : y < 9223372036854775808) : bor (x : Int) (y : Int) = ((x ||| y : Nat) : Int) := by
  have ho : x ||| y < 2 ^ 63 := Nat.or_lt_two_pow hx hy
  unfold bor
  rw [BitVec.ofInt_natCast, BitVec.ofInt_natCast]
  have e : (BitVec.ofNat 64 x ||| BitVec.ofNat 64 y).toNat = x ||| y := by
    rw [BitVec.toNat_or, BitVec.toNat_ofNat, BitVec.toNat_ofNat, Nat.mod_eq_of_lt (by omega), Nat.mod_eq_of_lt (by omega)]
  rw [BitVec.toInt_eq_toNat_of_lt (by rw [e]; omega), e]
/-- Who is in the one, and not in the other. -/
def dif (x y : Nat) : Nat := x ^^^ (x &&& y)
theorem bit_dif (x y i : Nat) : (dif x y).testBit i = (x.testBit i && !y.testBit i) := by
  unfold dif
  rw [Nat.testBit_xor, Nat.testBit_and]
  cases x.testBit i <;> cases y.testBit i <;> rfl
theorem dif_lt {x y n : Nat} (h : x < 2 ^ n) : dif x y < 2 ^ n := Nat.xor_lt_two_pow h (Nat.lt_of_le_of_lt Nat.and_le_left h)
theorem bandn_nat {x y : Nat} (hx : x < 9223372036854775808) (_hy : y < 9223372036854775808) : bandn (x : Int) (y : Int) = (dif x y : Int) := by
  have ho : dif x y < 2 ^ 63 := dif_lt hx
  unfold bandn
  rw [BitVec.ofInt_natCast, BitVec.ofInt_natCast]
  have e0 : (BitVec.ofNat 64 x &&& ~~~ BitVec.ofNat 64 y) = BitVec.ofNat 64 (dif x y) := by
    apply BitVec.eq_of_getLsbD_eq
    intro i hi
    rw [BitVec.getLsbD_and, BitVec.getLsbD_not, BitVec.getLsbD_ofNat, BitVec.getLsbD_ofNat, BitVec.getLsbD_ofNat, bit_dif]
    simp [hi]
  have e : (BitVec.ofNat 64 (dif x y)).toNat = dif x y := by rw [BitVec.toNat_ofNat, Nat.mod_eq_of_lt (by omega)]
  rw [e0, BitVec.toInt_eq_toNat_of_lt (by rw [e]; omega), e]
theorem shl_nat (k : Nat) : shl 1 (k : Int) = ((2 ^ k : Nat) : Int) := by
  unfold shl
  rw [Int.one_mul, Int.toNat_natCast]; simp
theorem shl_r {k : Nat} (h : k < 60) : (0 ≤ (k : Int) ∧ (k : Int) < 64) ∧ R64 (shl 1 (k : Int)) := by
  have h1 : 2 ^ k < 2 ^ 60 := Nat.pow_lt_pow_right (by decide) h
  have h2 : (0 : Nat) < 2 ^ k := Nat.pow_pos (by decide)
  rw [shl_nat]
  unfold R64
  omega
/-- A table of sets. -/
def Hit (hit : List Int) (Q : Nat → Nat → Nat → Bool) : Prop := hit.length = 15 ∧ ∀ s n, s < 5 → n < 3 → ∃ v : Nat, hit.getD (s * 3 + n) 0 = (v : Int) ∧ v < 512 ∧ ∀ p, v.testBit p = Q s n p
theorem Hit.congr {hit : List Int} {Q Q' : Nat → Nat → Nat → Bool} (h : Hit hit Q) (he : ∀ s n p, s < 5 → n < 3 → Q s n p = Q' s n p) : Hit hit Q' :=
  ⟨h.1, fun s n hs hn => by
    obtain ⟨v, h1, h2, h3⟩ := h.2 s n hs hn
    exact ⟨v, h1, h2, fun p => by rw [h3, he s n p hs hn]⟩⟩
theorem Hit.zero : Hit (List.replicate 15 0) fun _ _ _ => false := ⟨by simp, fun s n hs hn => ⟨0, by
  rw [List.getD_eq_getElem?_getD, List.getElem?_replicate, if_pos (by omega)]; rfl, by decide, fun p => by simp⟩⟩
theorem hit_l6 {hears : List (List Int)} (h5 : hears.length ≤ 5) {k4 : Nat} (hk : k4 < 3) {ps : List (Int × Int)} (hp : ps.length < 9) {x6 : Int} : ∀ (tl : List (List Int)) (j : Nat) (hit : List Int) (Q : Nat → Nat → Nat → Bool), hears.drop j = tl → Hit hit Q →
    ∃ hit', round_opened_l6 (k4 : Int) ps x6 tl (j : Int) hit = some hit' ∧ Hit hit' fun s n p => Q s n p || (decide (j ≤ s) && decide (s < hears.length) && decide (n = k4) && decide (p = ps.length) && decide (x6 ∈ hears.getD s []))
  | [], j, hit, Q, hd, h => ⟨hit, rfl, h.congr fun s n p hs hn => by
      have hl : hears.length ≤ j := by
        have := congrArg List.length hd
        rw [List.length_drop, List.length_nil] at this; omega
      by_cases c : j ≤ s
      · rw [decide_eq_false (show ¬ s < hears.length by omega)]; simp
      · rw [decide_eq_false c]; simp⟩
  | x7 :: tl, j, hit, Q, hd, h => by
    obtain ⟨hj, hx, hd2⟩ := drop_cons [] hd
    unfold round_opened_l6
    rw [contains_eq, b1_some]
    by_cases c : x6 ∈ x7
    · rw [if_pos (decide_eq_true c)]
      obtain ⟨v, e1, e2, e3⟩ := h.2 j k4 (by omega) hk
      have ei : (j : Int) * 3 + (k4 : Int) = ((j * 3 + k4 : Nat) : Int) := by omega
      have hl := h.1
      have hpow : (2 : Nat) ^ ps.length ≤ 2 ^ 8 := Nat.pow_le_pow_right (by decide) (by omega)
      have hpow' : (2 : Nat) ^ 8 = 256 := by decide
      rw [gd_t (by omega), gd_t (by omega), ei, ixN 0 _ (by omega), gd_t (shl_r (by omega)), gd_t (by omega), gd_t (by omega), bvE, Int.toNat_natCast, e1, shl_nat, bor_nat (by omega) (by omega)]
      have hH : Hit (hit.set (j * 3 + k4) ((v ||| 2 ^ ps.length : Nat) : Int)) fun s n p => Q s n p || (decide (s = j) && decide (n = k4) && decide (p = ps.length)) := by
        refine ⟨by rw [List.length_set]; exact hl, fun s n hs hn => ?_⟩
        rw [getD_setI (by omega)]
        by_cases d : j * 3 + k4 = s * 3 + n
        · obtain ⟨rfl, rfl⟩ : s = j ∧ n = k4 := by omega
          rw [if_pos rfl]
          refine ⟨_, rfl, ?_, fun p => ?_⟩
          · have : v ||| 2 ^ ps.length < 2 ^ 9 := Nat.or_lt_two_pow (by omega) (by omega)
            omega
          · rw [Nat.testBit_or, e3, Nat.testBit_two_pow]
            simp [eq_comm]
        · rw [if_neg d]
          obtain ⟨u, f1, f2, f3⟩ := h.2 s n hs hn
          refine ⟨u, f1, f2, fun p => ?_⟩
          rw [f3]
          by_cases c1 : s = j
          · have : n ≠ k4 := fun c2 => d (by rw [c1, c2])
            show Q s n p = (Q s n p || (decide (s = j) && decide (n = k4) && decide (p = ps.length)))
            rw [decide_eq_false this]; simp
          · show Q s n p = (Q s n p || (decide (s = j) && decide (n = k4) && decide (p = ps.length)))
            rw [decide_eq_false c1]; simp
      obtain ⟨hit', g1, g2⟩ := hit_l6 h5 hk hp tl (j + 1) _ _ hd2 hH
      refine ⟨hit', g1, g2.congr fun s n p hs hn => ?_⟩
      by_cases c1 : s = j
      · subst c1
        rw [hx, decide_eq_true c, decide_eq_true hj, decide_eq_false (show ¬ s + 1 ≤ s by omega)]
        simp
      · have e4 : decide (j ≤ s) = decide (j + 1 ≤ s) := decide_eq_decide.2 (by omega)
        rw [decide_eq_false c1, e4]; simp
    · rw [if_neg (by simpa using c)]
      obtain ⟨hit', g1, g2⟩ := hit_l6 h5 hk hp tl (j + 1) _ _ hd2 h
      refine ⟨hit', g1, g2.congr fun s n p hs hn => ?_⟩
      by_cases c1 : s = j
      · subst c1
        rw [hx, decide_eq_false c, decide_eq_false (show ¬ s + 1 ≤ s by omega)]
        simp
      · have e4 : decide (j ≤ s) = decide (j + 1 ≤ s) := decide_eq_decide.2 (by omega)
        rw [e4]
/-- Which pairs a cry serves. -/
def QP (hs : List (List Int)) (ps : List (Int × Int)) (s n p : Nat) : Bool := decide (p < ps.length) && decide ((ps.getD p (0, 0)).1 = (n : Int)) && decide (s < hs.length) && decide ((ps.getD p (0, 0)).2 ∈ hs.getD s [])
theorem QP_snoc {hs : List (List Int)} {ps : List (Int × Int)} {k4 : Nat} {x : Int} (s n p : Nat) : QP hs (ps ++ [((k4 : Int), x)]) s n p = (QP hs ps s n p || (decide (s < hs.length) && decide (n = k4) && decide (p = ps.length) && decide (x ∈ hs.getD s []))) := by
  unfold QP
  rw [getD_snoc, List.length_append, List.length_singleton]
  by_cases c : p < ps.length
  · rw [if_pos c, decide_eq_true c, decide_eq_true (show p < ps.length + 1 by omega), decide_eq_false (show ¬ p = ps.length by omega)]; simp
  · rw [if_neg c, decide_eq_false c]
    by_cases c2 : p = ps.length
    · subst c2
      have e : decide ((k4 : Int) = (n : Int)) = decide (n = k4) := decide_eq_decide.2 (by omega)
      rw [if_pos rfl, decide_eq_true (show ps.length < ps.length + 1 by omega), e]
      cases decide (s < hs.length) <;> cases decide (n = k4) <;> simp
    · rw [decide_eq_false (show ¬ p < ps.length + 1 by omega), decide_eq_false c2]; simp
theorem hit_l5 {hears : List (List Int)} (h5 : hears.length ≤ 5) {k4 : Nat} (hk : k4 < 3) : ∀ (tl : List Int) (ps : List (Int × Int)) (hit : List Int), ps.length + tl.length ≤ 9 → Hit hit (QP hears ps) →
    ∃ hit', round_opened_l5 hears (k4 : Int) tl ps hit = some (ps ++ tl.map fun x => ((k4 : Int), x), hit') ∧ Hit hit' (QP hears (ps ++ tl.map fun x => ((k4 : Int), x)))
  | [], ps, hit, _, h => ⟨hit, by unfold round_opened_l5; simp, by simpa using h⟩
  | x :: tl, ps, hit, hl, h => by
    rw [List.length_cons] at hl
    unfold round_opened_l5
    obtain ⟨hit1, e1, h1⟩ := hit_l6 h5 hk (ps := ps) (x6 := x) (by omega) hears 0 hit _ rfl h
    have e1' : round_opened_l6 (k4 : Int) ps x hears 0 hit = some hit1 := e1
    have h2 : Hit hit1 (QP hears (ps ++ [((k4 : Int), x)])) := h1.congr fun s n p hs hn => by
      rw [QP_snoc, decide_eq_true (Nat.zero_le s), Bool.true_and]
    obtain ⟨hit', e2, h3⟩ := hit_l5 h5 hk tl (ps ++ [((k4 : Int), x)]) hit1 (by simp; omega) h2
    rw [e1', b1_some, ap_t (by simp; omega), b2_some, e2]
    simp only [List.append_assoc, List.singleton_append] at h3 ⊢
    exact ⟨hit', rfl, h3⟩
end Go.Proofs.Ytfmapnhfamoecab.Rd
