/- Lists that are turned round by exchanges; lists of numbers in order; in plain Lean. -/
import Derived.Test.YtodhcoakjlmcdaaGreatZAPl
namespace Go.Proofs.YtodhcoakjlmcdaaGreat.Rv
section
variable {α : Type}
end
/-- A list that goes up, from f on, below n. -/
def Up (n f : Nat) (c : List Nat) : Prop := c.Pairwise (· < ·) ∧ ∀ i ∈ c, f ≤ i ∧ i < n
theorem Up.nil (n f : Nat) : Up n f [] := ⟨List.Pairwise.nil, fun _ h => nomatch h⟩
theorem Up.cons {n f i : Nat} {c : List Nat} : Up n f (i :: c) ↔ (f ≤ i ∧ i < n) ∧ Up n (i + 1) c := by
  constructor
  · intro h
    have h1 := List.pairwise_cons.1 h.1
    exact ⟨h.2 i (List.mem_cons_self ..), h1.2, fun j hj => ⟨h1.1 j hj, (h.2 j (List.mem_cons_of_mem _ hj)).2⟩⟩
  · rintro ⟨h1, h2⟩
    refine ⟨List.pairwise_cons.2 ⟨fun j hj => (h2.2 j hj).1, h2.1⟩, fun j hj => ?_⟩
    rcases List.mem_cons.1 hj with rfl | hj
    · exact h1
    · have := h2.2 j hj
      omega
/-- One list comes before another one, or is it. -/
def lex : List Nat → List Nat → Prop
  | [], _ => True
  | _ :: _, [] => False
  | a :: s, b :: t => a < b ∨ (a = b ∧ lex s t)
/-- Numbers that go up are no more than there are. -/
theorem Up.len {n : Nat} : ∀ {c : List Nat} {f : Nat}, Up n f c → c.length ≤ n - f
  | [], _, _ => Nat.zero_le _
  | i :: c, f, h => by
    obtain ⟨h1, h2⟩ := Up.cons.1 h
    have := Up.len h2
    rw [List.length_cons]; omega
end Go.Proofs.YtodhcoakjlmcdaaGreat.Rv
