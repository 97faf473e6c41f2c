/- Layer 1: tables that are tried; copies; HearNeeds. -/
import Derived.Test.YtodhcoakjlmcdaaGreatZBHD
namespace Go.Proofs.YtodhcoakjlmcdaaGreat
open Go.PL Go.Hear
open Classical
section
variable {wide : Int} {ps : List Int} {w : Int} {t : List Int}
end
end Go.Proofs.YtodhcoakjlmcdaaGreat
