/- Layer 5: the examples of the chapter; a man more who sleeps (NightFallen), in plain Lean. -/
import Derived.Test.YtjgeaaganpkceaaZjQB
namespace Go.Proofs.Ytjgeaaganpkceaa.Nt
open Go.PL
theorem awake_true : oyezlaw05_awake = some true := by decide +kernel
theorem in_set {a p : Nat} (h : a < p) : ¬ ((!decide (0 ≤ (a : Int) ∧ (a : Int) ≤ (p : Int) - 1)) = true) := by simp; omega
theorem pow_le64 {n : Nat} (h : n ≤ 6) : 2 ^ n ≤ 64 := Nat.pow_le_pow_right (n := 2) (by decide) h
theorem lt63 {a n : Nat} (ha : a < 2 ^ n) (hn : n ≤ 6) : a < 9223372036854775808 := by have := pow_le64 hn; omega
theorem Cries_ok {ls hs : List (List Int)} (g : GoodW ls hs) {a : Nat} (ha : a < 2 ^ ls.length) : night_Cries ls hs (a : Int) = some ((cryS ls a : Int), 0) := by
  obtain ⟨c, h1, h2⟩ := opened_ok g
  have hp := pow_le64 g.n6
  have h6 := g.n6
  obtain ⟨c2, h3, _⟩ := cries_eq (hs := hs) (lt63 ha g.n6) g.small (by omega) h2
  unfold night_Cries
  rw [h1, b2_some, if_neg (by decide), b4_some, sets_eq (by omega), b1_some, gd_t (r64_nat1 (by omega)), in_eq, b1_some, if_neg (in_set ha), h3, b2_some]
theorem or_two {c k i : Nat} : (c ||| 2 ^ k).testBit i = (c.testBit i || decide (k = i)) := by rw [Nat.testBit_or, Nat.testBit_two_pow]
section
variable {metal : List Int}
end
end Go.Proofs.Ytjgeaaganpkceaa.Nt
