/- Layer 1: tables that are tried; copies; HearNeeds. -/
import Derived.Test.YtejkgppikpkkpaaGreatZCHD
namespace Go.Proofs.YtejkgppikpkkpaaGreat
open Go.PL Go.Hear
open Classical
section
variable {wide : Int} {ps : List Int} {w : Int} {t : List Int}
end
theorem awake_t : oyezlaw01_awake = some true := by decide +kernel
end Go.Proofs.YtejkgppikpkkpaaGreat
