/- Layer 1: sets of houses as numbers, and the stands that are chosen. -/
import Derived.Test.YtejkgppikpkkpaaZWHK
import Derived.Test.YtejkgppikpkkpaaZWHearC
namespace Go.Proofs.Ytejkgppikpkkpaa
open Go.PL Go.Hear
/-- The houses that hear a stand. -/
def colS (rows : List (List Bool)) (s : Nat) : List Bool := rows.map (·.getD s false)
section
variable {rows : List (List Bool)} {count : Int → Option Int}
end
end Go.Proofs.Ytejkgppikpkkpaa
