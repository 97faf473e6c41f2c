/- Layer 1: stands that are tried against the best ones; HearLouder; in plain Lean. -/
import Derived.Test.YtejkgppikpkkpaaGreatZFHY
namespace Go.Proofs.YtejkgppikpkkpaaGreat
open Go.PL Go.Hear
section
variable {metal : List Int} {wide : Int} {ps : List Int}
end
section
variable {wide : Int} {ps : List Int} {w v : Int}
theorem stP_iff {s : Nat} : stP ps s = true ↔ s < ps.length ∧ ps.getD s 0 = 0 := by
  unfold stP
  rw [Bool.and_eq_true, decide_eq_true_iff, decide_eq_true_iff]
theorem col_no (hn : ps.length ≤ 30) (H : List Int) : ∀ s, stP ps s = false → colS (askR wide ps w v H) s = List.replicate (askR wide ps w v H).length false := fun s hs => by
  rw [colS_eq hn, askR_len]; exact hrS_no hs
/-- A list that is tried. -/
structure Tried (ps : List Int) (k : Nat) (out : List Int) : Prop where
  le : out.Pairwise (· ≤ ·)
  nd : out.Nodup
  st : ∀ x ∈ out, x ∈ kindL 0 ps 0
  len : out.length ≤ k
end
end Go.Proofs.YtejkgppikpkkpaaGreat
