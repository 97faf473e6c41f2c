/- Layer 5: the examples of the chapter; a man more who sleeps (NightFallen), in plain Lean. -/
import Derived.Test.YtjgeaaganpkceaaZeQB
namespace Go.Proofs.Ytjgeaaganpkceaa.Nt
open Go.PL
theorem awake_true : oyezlaw05_awake = some true := by decide +kernel
theorem pow_le64 {n : Nat} (h : n ≤ 6) : 2 ^ n ≤ 64 := Nat.pow_le_pow_right (n := 2) (by decide) h
theorem lt63 {a n : Nat} (ha : a < 2 ^ n) (hn : n ≤ 6) : a < 9223372036854775808 := by have := pow_le64 hn; omega
theorem row_get {ls hs : List (List Int)} (g : GoodW ls hs) {h a : Nat} (hh : h < hs.length) (ha : a < 2 ^ ls.length) : ((hs.map (rowOf ls)).getD h []).getD a false = fitB ls (hs.getD h []) a := by
  have hp := pow_le64 g.n6
  have e : (hs.map (rowOf ls)).getD h [] = rowOf ls (hs.getD h []) := by
    rw [List.getD_eq_getElem?_getD, List.getElem?_map, List.getElem?_eq_getElem hh, List.getD_eq_getElem?_getD, List.getElem?_eq_getElem hh]; rfl
  rw [e]
  unfold rowOf rowP
  rw [List.getD_eq_getElem?_getD, List.getElem?_map, List.getElem?_range (by omega)]
  simp [ha]
def Sub (x y : Nat) : Prop := ∀ i, x.testBit i = true → y.testBit i = true
theorem or_two {c k i : Nat} : (c ||| 2 ^ k).testBit i = (c.testBit i || decide (k = i)) := by rw [Nat.testBit_or, Nat.testBit_two_pow]
theorem cryF_disj {a : Nat} : ∀ (ls : List (List Int)) (k c : Nat), (∀ i, c.testBit i = true → ¬ a.testBit i = true) → ∀ i, (cryF a ls k c).testBit i = true → ¬ a.testBit i = true
  | [], _, _, hc => hc
  | l :: ls, k, c, hc => by
    unfold cryF
    refine cryF_disj ls (k + 1) _ fun i hi => ?_
    split at hi
    · rename_i h1
      rw [or_two, Bool.or_eq_true] at hi
      rcases hi with h2 | h2
      · exact hc i h2
      · have : k = i := of_decide_eq_true h2
        subst this
        rw [Bool.and_eq_true] at h1
        intro h3; rw [h3] at h1; cases h1.1
    · exact hc i hi
theorem dif_zero {x y : Nat} (h : Sub x y) : dif x y = 0 := by
  apply Nat.eq_of_testBit_eq
  intro i
  rw [bit_dif, Nat.zero_testBit]
  cases hx : x.testBit i with
  | false => rfl
  | true => rw [h i hx]; rfl
section
variable {metal : List Int}
end
end Go.Proofs.Ytjgeaaganpkceaa.Nt
