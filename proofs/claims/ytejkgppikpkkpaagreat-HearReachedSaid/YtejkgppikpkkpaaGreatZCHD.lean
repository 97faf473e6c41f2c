/- Layer 1: the reference's tables. -/
import Derived.Test.YtejkgppikpkkpaaGreatZCHC
namespace Go.Proofs.YtejkgppikpkkpaaGreat
open Go.PL Go.Hear
section
variable {n : Nat} {E : Int → List (Int × Int)} {s : Int}
end
section
variable {wide : Int} {ps : List Int} {w s : Int}
end
end Go.Proofs.YtejkgppikpkkpaaGreat
