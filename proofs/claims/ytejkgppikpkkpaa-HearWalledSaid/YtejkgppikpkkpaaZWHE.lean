/- Layer 1: tables that are tried; copies; HearNeeds. -/
import Derived.Test.YtejkgppikpkkpaaZWHD
namespace Go.Proofs.Ytejkgppikpkkpaa
open Go.PL Go.Hear
open Classical
theorem cpy_self {α : Type} {l : List α} {z : α} : cpy (List.replicate l.length z) l = l := by simp [cpy]
theorem copy_eq {l : List Int} (h : l.length ≤ 1000000) : oyezkit_Copy_int l = some l := by
  unfold oyezkit_Copy_int
  rw [gd_t (by omega), bvE, Int.toNat_natCast, cpy_self, bvE]
section
variable {wide : Int} {ps : List Int} {w : Int} {t : List Int}
end
theorem awake_t : oyezlaw01_awake = some true := by decide +kernel
end Go.Proofs.Ytejkgppikpkkpaa
