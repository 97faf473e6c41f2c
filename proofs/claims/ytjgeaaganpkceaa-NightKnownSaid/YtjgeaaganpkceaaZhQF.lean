/- Layer 5: explanations that are tried; the fewest naps are told (NightExplained); in plain Lean. -/
import Derived.Test.YtjgeaaganpkceaaZhQE
namespace Go.Proofs.Ytjgeaaganpkceaa.Nt
open Go.PL
section
variable {ls hs : List (List Int)}
variable {metal : List Int}
end
section
variable {ls hs : List (List Int)} {metal : List Int}
end
end Go.Proofs.Ytjgeaaganpkceaa.Nt
