/- Layer 1: what Apart, Must, Fewest, Best and Louder answer, in terms of who hears whom; in plain Lean. -/
import Derived.Test.YtejkgppikpkkpaaZLHV
namespace Go.Proofs.Ytejkgppikpkkpaa
open Go.PL Go.Hear
section
variable {wide : Int} {ps : List Int} {w v : Int}
theorem nmE_iff : ∀ {r pre : List Int}, nmE ps pre r = 0 ↔ (∀ x ∈ r, isE ps x 1 = 0) ∧ (∀ x ∈ r, x ∉ pre) ∧ r.Nodup
  | [], pre => by
    constructor
    · intro _; exact ⟨(fun _ h => by cases h), (fun _ h => by cases h), List.Pairwise.nil⟩
    · intro _; rfl
  | y :: r, pre => by
    have ih := nmE_iff (r := r) (pre := pre ++ [y])
    unfold nmE
    by_cases h1 : isE ps y 1 = 0
    · rw [if_neg (not_not_intro h1)]
      by_cases h2 : y ∈ pre
      · rw [if_pos h2]
        constructor
        · intro h; cases h
        · rintro ⟨_, h, _⟩; exact absurd h2 (h y (List.mem_cons_self ..))
      · rw [if_neg h2, ih, List.nodup_cons]
        constructor
        · rintro ⟨a, b, c⟩
          refine ⟨fun x hx => ?_, fun x hx => ?_, fun hy => ?_, c⟩
          · rcases List.mem_cons.1 hx with rfl | hx
            · exact h1
            · exact a x hx
          · rcases List.mem_cons.1 hx with rfl | hx
            · exact h2
            · exact fun hp => b x hx (List.mem_append.2 (.inl hp))
          · exact b y hy (List.mem_append.2 (.inr (List.mem_singleton.2 rfl)))
        · rintro ⟨a, b, c, d⟩
          refine ⟨fun x hx => a x (List.mem_cons_of_mem _ hx), fun x hx hp => ?_, d⟩
          rcases List.mem_append.1 hp with hp | hp
          · exact b x (List.mem_cons_of_mem _ hx) hp
          · rw [List.mem_singleton] at hp; subst hp; exact c hx
    · rw [if_pos h1]
      constructor
      · intro h; exact absurd h h1
      · rintro ⟨h, _, _⟩; exact absurd (h y (List.mem_cons_self ..)) h1
theorem askE_iff {H : List Int} : askE wide ps w v H = 0 ↔ airE wide ps w v = 0 ∧ (∀ x ∈ H, isE ps x 1 = 0) ∧ H.Nodup := by
  unfold askE
  by_cases h : airE wide ps w v = 0
  · rw [if_neg (not_not_intro h), nmE_iff]
    constructor
    · rintro ⟨a, _, b⟩; exact ⟨h, a, b⟩
    · rintro ⟨_, a, b⟩; exact ⟨a, (fun _ _ h => by cases h), b⟩
  · rw [if_pos h]
    constructor
    · intro h'; exact absurd h' h
    · rintro ⟨h', _⟩; exact absurd h' h
/-- What a house hears. -/
def rowH (wide : Int) (ps : List Int) (w v : Int) (h : Int) : List Bool := rowP wide ps w v ps.length h.toNat
theorem askR_eq (H : List Int) : askR wide ps w v H = H.map (rowH wide ps w v) := rfl
section
variable {R : List (List Bool)} {own : List Int} {count : Int → Option Int}
end
end
end Go.Proofs.Ytejkgppikpkkpaa
