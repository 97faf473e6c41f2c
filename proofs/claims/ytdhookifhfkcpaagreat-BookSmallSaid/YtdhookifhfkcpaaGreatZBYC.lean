/- The calculus, part YC: one of a few lists, chosen by a number. -/
import Derived.Test.YtdhookifhfkcpaaGreatZBYA
namespace Go.SH
theorem Oy {P : Program} {N : Nat} {ops : Array Oper} {l : List (Kd × Nat)} (h : (l.all fun y => !y.1.Dr) = true) : OV P N ops l := by
  induction l with
  | nil => trivial
  | cons x l ih =>
    obtain ⟨kd, i⟩ := x
    simp only [List.all_cons, Bool.and_eq_true] at h
    cases kd with
    | alloc => cases h.1
    | still | seq | pre => exact ih h.2
theorem KL.eq {L L2 L3 : LH} (h : KL L L2) (he : L3 = L2) : KL L L3 := he ▸ h
section
variable {P : Program} {N : Nat} {r : Option Nat} {K : Ctx} {Q : GI} {c : Code} {e : Env} {F : FS} {L Lr : LH}
end
end Go.SH
