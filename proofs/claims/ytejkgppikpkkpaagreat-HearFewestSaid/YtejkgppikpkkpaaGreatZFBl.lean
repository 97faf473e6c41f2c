/- Numbers out of a bell, and towns that are made of them, in plain Lean. -/
import Derived.Test.YtejkgppikpkkpaaGreatZFHB
namespace Go.Proofs.YtejkgppikpkkpaaGreat
open Go.PL Go.Hear
section
variable {metal : List Int}
/-- The plots of a kind. -/
def kindL (kind : Int) : List Int → Int → List Int
  | [], _ => []
  | x :: l, k => if x = kind then k :: kindL kind l (k + 1) else kindL kind l (k + 1)
theorem kindL_mem {kind : Int} : ∀ (l : List Int) (k x : Int), x ∈ kindL kind l k ↔ k ≤ x ∧ x < k + l.length ∧ l.getD (x - k).toNat 0 = kind
  | [], k, x => by
    unfold kindL
    simp; omega
  | y :: l, k, x => by
    unfold kindL
    have ih := kindL_mem (kind := kind) l (k + 1) x
    have hs : ∀ h : k + 1 ≤ x, (y :: l).getD (x - k).toNat 0 = l.getD (x - (k + 1)).toNat 0 := fun h => by
      have : (x - k).toNat = (x - (k + 1)).toNat + 1 := by omega
      rw [this, List.getD_cons_succ]
    have h0 : x = k → (y :: l).getD (x - k).toNat 0 = y := fun h => by
      have : (x - k).toNat = 0 := by omega
      rw [this, List.getD_cons_zero]
    rw [List.length_cons]
    by_cases hy : y = kind
    · rw [if_pos hy, List.mem_cons, ih]
      constructor
      · rintro (h | ⟨h1, h2, h3⟩)
        · exact ⟨by omega, by omega, by rw [h0 h]; exact hy⟩
        · exact ⟨by omega, by omega, by rw [hs h1]; exact h3⟩
      · rintro ⟨h1, h2, h3⟩
        by_cases he : x = k
        · exact .inl he
        · exact .inr ⟨by omega, by omega, by rw [← hs (by omega)]; exact h3⟩
    · rw [if_neg hy, ih]
      constructor
      · rintro ⟨h1, h2, h3⟩
        exact ⟨by omega, by omega, by rw [hs h1]; exact h3⟩
      · rintro ⟨h1, h2, h3⟩
        by_cases he : x = k
        · rw [h0 he] at h3; exact absurd h3 hy
        · exact ⟨by omega, by omega, by rw [← hs (by omega)]; exact h3⟩
end
end Go.Proofs.YtejkgppikpkkpaaGreat
