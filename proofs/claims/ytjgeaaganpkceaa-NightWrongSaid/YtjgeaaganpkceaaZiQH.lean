/- Layer 5: the naps of one man in the explanations with the fewest; in plain Lean. -/
import Derived.Test.YtjgeaaganpkceaaZiQG
namespace Go.Proofs.Ytjgeaaganpkceaa.Nt
open Go.PL
def bitN (man x : Nat) : Nat := if x.testBit man = true then 1 else 0
theorem bitN_le (man x : Nat) : bitN man x ≤ 1 := by unfold bitN; split <;> omega
theorem bitN_zero (man a : Nat) : bitN man (dif a 0) = bitN man a := by
  unfold bitN
  rw [bit_dif, Nat.zero_testBit]; simp
def ownF (man : Nat) : Nat → List Nat → Nat
  | _, [] => 0
  | b, a :: s => bitN man (dif a b) + ownF man a s
def ownR (man : Nat) : List Nat → Nat
  | [] => 0
  | a :: r => bitN man (dif a (r.headD 0)) + ownR man r
theorem ownR_le (man : Nat) : ∀ s : List Nat, ownR man s ≤ s.length
  | [] => Nat.le_refl _
  | a :: r => by
    have := ownR_le man r
    have := bitN_le man (dif a (r.headD 0))
    unfold ownR; rw [List.length_cons]; omega
section
variable {c : Nat → Bool} {f : Nat → Nat}
end
section
variable {ls hs : List (List Int)} {man : Nat}
/-- x and y are the least and the greatest number of his naps up to an hour, if a set sleeps in it and there are as few naps as can be. -/
structure MM (ls : List (List Int)) (man : Nat) (m0 : List Int) (r : List (List Int)) (a x y : Nat) : Prop where
  lo : ∃ s, Expl ls r s ∧ napsR (a :: s) = tabV ls (m0 :: r) a ∧ ownR man (a :: s) = x
  hi : ∃ s, Expl ls r s ∧ napsR (a :: s) = tabV ls (m0 :: r) a ∧ ownR man (a :: s) = y
  all : ∀ s, Expl ls r s → napsR (a :: s) = tabV ls (m0 :: r) a → x ≤ ownR man (a :: s) ∧ ownR man (a :: s) ≤ y
theorem MM.le {m0 : List Int} {r : List (List Int)} {a x y : Nat} (h : MM ls man m0 r a x y) : x ≤ r.length + 1 ∧ y ≤ r.length + 1 := by
  obtain ⟨s, h1, _, h2⟩ := h.lo
  obtain ⟨t, h3, _, h4⟩ := h.hi
  have a1 := ownR_le man (a :: s)
  have a2 := ownR_le man (a :: t)
  rw [List.length_cons, h1.len] at a1
  rw [List.length_cons, h3.len] at a2
  omega
theorem MM.first (m0 : List Int) (a : Nat) : MM ls man m0 [] a (bitN man a) (bitN man a) := by
  have e : napsR [a] = tabV ls [m0] a := by show fal 0 a + 0 = pop a; rw [pop_fal]; omega
  have e2 : ownR man [a] = bitN man a := by show bitN man (dif a 0) + 0 = _; rw [bitN_zero]; omega
  refine ⟨⟨[], trivial, e, e2⟩, ⟨[], trivial, e, e2⟩, fun s hs _ => ?_⟩
  cases s with
  | nil => omega
  | cons _ _ => exact hs.elim
/-- lo and hi are the least and the greatest number of his naps in the explanations with the fewest naps. -/
structure MostOK (ls hs : List (List Int)) (man x y : Nat) : Prop where
  lo : ∃ s, Expl ls hs s ∧ napsF 0 s = restV ls allB hs 0 ∧ ownF man 0 s = x
  hi : ∃ s, Expl ls hs s ∧ napsF 0 s = restV ls allB hs 0 ∧ ownF man 0 s = y
  all : ∀ s, Expl ls hs s → napsF 0 s = restV ls allB hs 0 → x ≤ ownF man 0 s ∧ ownF man 0 s ≤ y
end
end Go.Proofs.Ytjgeaaganpkceaa.Nt
