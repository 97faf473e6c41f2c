/- Layer 1: towns with a wall more; HearTowns. -/
import Derived.Test.YtejkgppikpkkpaaZMHE
namespace Go.Proofs.Ytejkgppikpkkpaa
open Go.PL Go.Hear
end Go.Proofs.Ytejkgppikpkkpaa
