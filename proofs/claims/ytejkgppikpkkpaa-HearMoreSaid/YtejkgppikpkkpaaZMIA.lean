/- Layer 1: stands that are tried against the best ones; HearLouder; in plain Lean. -/
import Derived.Test.YtejkgppikpkkpaaZMHY
namespace Go.Proofs.Ytejkgppikpkkpaa
open Go.PL Go.Hear
section
variable {metal : List Int} {wide : Int} {ps : List Int}
end
section
variable {wide : Int} {ps : List Int} {w v : Int}
/-- A list that is tried. -/
structure Tried (ps : List Int) (k : Nat) (out : List Int) : Prop where
  le : out.Pairwise (· ≤ ·)
  nd : out.Nodup
  st : ∀ x ∈ out, x ∈ kindL 0 ps 0
  len : out.length ≤ k
end
end Go.Proofs.Ytejkgppikpkkpaa
