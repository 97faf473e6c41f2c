/- Layer 1: what the printed functions of the reference compute. -/
import Derived.Test.YtejkgppikpkkpaaZMHB
namespace Go.Proofs.Ytejkgppikpkkpaa
open Go.PL Go.Hear
end Go.Proofs.Ytejkgppikpkkpaa
