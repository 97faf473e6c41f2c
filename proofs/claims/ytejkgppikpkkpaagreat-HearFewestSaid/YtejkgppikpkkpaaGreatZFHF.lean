/- Layer 1: towns with a wall more; HearTowns. -/
import Derived.Test.YtejkgppikpkkpaaGreatZFHE
namespace Go.Proofs.YtejkgppikpkkpaaGreat
open Go.PL Go.Hear
end Go.Proofs.YtejkgppikpkkpaaGreat
