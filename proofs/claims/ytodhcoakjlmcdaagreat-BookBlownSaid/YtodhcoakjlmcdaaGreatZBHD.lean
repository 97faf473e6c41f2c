/- Layer 1: the reference's tables. -/
import Derived.Test.YtodhcoakjlmcdaaGreatZBHC
namespace Go.Proofs.YtodhcoakjlmcdaaGreat
open Go.PL Go.Hear
section
variable {n : Nat} {E : Int → List (Int × Int)} {s : Int}
end
section
variable {wide : Int} {ps : List Int} {w s : Int}
end
theorem tab_ge {n : Nat} {E : Int → List (Int × Int)} {s : Int} {out : List Int} (h : Tab n E s out) {q : Int} (hq : 0 ≤ q ∧ q < n) : out.getD q.toNat 0 < 0 ↔ out.getD q.toNat 0 = -1 := by
  have := h.rng hq; omega
end Go.Proofs.YtodhcoakjlmcdaaGreat
