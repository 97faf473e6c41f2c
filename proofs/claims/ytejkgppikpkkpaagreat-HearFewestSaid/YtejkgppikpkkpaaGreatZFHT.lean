/- Layer 1: towns seen in a mirror, towns with a wall more, louder voices; the order of lists; in plain Lean. -/
import Derived.Test.YtejkgppikpkkpaaGreatZFHI
import Derived.Test.YtejkgppikpkkpaaGreatZFHS
namespace Go.Proofs.YtejkgppikpkkpaaGreat
open Go.PL Go.Hear
section
variable {n : Nat} {E E' : Int → List (Int × Int)} {s : Int} {to : Int → Int}
end
section
variable {down : Bool} {wide rows w : Int} {ps : List Int}
end
end Go.Proofs.YtejkgppikpkkpaaGreat
