/- Layer 1: what the printed functions of the reference compute. -/
import Derived.Test.YtejkgppikpkkpaaGreatZCHB
namespace Go.Proofs.YtejkgppikpkkpaaGreat
open Go.PL Go.Hear
end Go.Proofs.YtejkgppikpkkpaaGreat
