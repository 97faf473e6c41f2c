/- Lists that are turned round by exchanges; lists of numbers in order; in plain Lean. -/
import Derived.Test.YtjgeaaganpkceaaZgPl
namespace Go.Proofs.Ytjgeaaganpkceaa.Rv
section
variable {α : Type}
end
/-- Lists of k numbers that go up, from f on, below n, the first ones first. -/
def combs (n : Nat) : Nat → Nat → List (List Nat)
  | 0, _ => [[]]
  | k + 1, f => (List.range' f (n - f)).flatMap fun i => (combs n k (i + 1)).map (i :: ·)
/-- A list that goes up, from f on, below n. -/
def Up (n f : Nat) (c : List Nat) : Prop := c.Pairwise (· < ·) ∧ ∀ i ∈ c, f ≤ i ∧ i < n
theorem Up.nil (n f : Nat) : Up n f [] := ⟨List.Pairwise.nil, fun _ h => nomatch h⟩
theorem Up.cons {n f i : Nat} {c : List Nat} : Up n f (i :: c) ↔ (f ≤ i ∧ i < n) ∧ Up n (i + 1) c := by
  constructor
  · intro h
    have h1 := List.pairwise_cons.1 h.1
    exact ⟨h.2 i (List.mem_cons_self ..), h1.2, fun j hj => ⟨h1.1 j hj, (h.2 j (List.mem_cons_of_mem _ hj)).2⟩⟩
  · rintro ⟨h1, h2⟩
    refine ⟨List.pairwise_cons.2 ⟨fun j hj => (h2.2 j hj).1, h2.1⟩, fun j hj => ?_⟩
    rcases List.mem_cons.1 hj with rfl | hj
    · exact h1
    · have := h2.2 j hj
      omega
/-- One list comes before another one, or is it. -/
def lex : List Nat → List Nat → Prop
  | [], _ => True
  | _ :: _, [] => False
  | a :: s, b :: t => a < b ∨ (a = b ∧ lex s t)
/-- The first list of the shortest that will do, if one does. -/
def firstL (n : Nat) (P : List Nat → Bool) : Nat → Nat → Option (List Nat)
  | 0, _ => none
  | fu + 1, k => match (combs n k 0).find? P with
    | some c => some c
    | none => firstL n P fu (k + 1)
/-- Numbers that go up are no more than there are. -/
theorem Up.len {n : Nat} : ∀ {c : List Nat} {f : Nat}, Up n f c → c.length ≤ n - f
  | [], _, _ => Nat.zero_le _
  | i :: c, f, h => by
    obtain ⟨h1, h2⟩ := Up.cons.1 h
    have := Up.len h2
    rw [List.length_cons]; omega
/-- The numbers of a list as a set. -/
def setL (c : List Nat) (s : Nat) : Nat := c.foldl (fun s i => s ||| 2 ^ i) s
end Go.Proofs.Ytjgeaaganpkceaa.Rv
