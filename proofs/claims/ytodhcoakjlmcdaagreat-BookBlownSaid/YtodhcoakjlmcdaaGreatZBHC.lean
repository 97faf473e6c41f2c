/- Layer 1: what the printed functions of the reference compute. -/
import Derived.Test.YtodhcoakjlmcdaaGreatZBHB
namespace Go.Proofs.YtodhcoakjlmcdaaGreat
open Go.PL Go.Hear
end Go.Proofs.YtodhcoakjlmcdaaGreat
