/- Layer 1: tables that are tried; copies; HearNeeds. -/
import Derived.Test.YtejkgppikpkkpaaZRHD
namespace Go.Proofs.Ytejkgppikpkkpaa
open Go.PL Go.Hear
open Classical
theorem cpy_self {α : Type} {l : List α} {z : α} : cpy (List.replicate l.length z) l = l := by simp [cpy]
theorem copyP_eq {l : List Int} (h : l.length ≤ 1000000) : oyezkit_Copy_Plot l = some l := by
  unfold oyezkit_Copy_Plot
  rw [gd_t (by omega), bvE, Int.toNat_natCast, cpy_self, bvE]
theorem own_eq {wide : Int} {ps : List Int} (h : ps.length ≤ 1000) : oyezlaw01_Own wide ps = some (wide, ps) := by
  unfold oyezlaw01_Own
  rw [copyP_eq (by omega), b1_some]
section
variable {wide : Int} {ps : List Int} {w : Int} {t : List Int}
end
theorem awake_t : oyezlaw01_awake = some true := by decide +kernel
end Go.Proofs.Ytejkgppikpkkpaa
