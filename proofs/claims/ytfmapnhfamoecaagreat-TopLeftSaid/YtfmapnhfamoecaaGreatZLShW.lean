/- The calculus, part W: a list that is copied onto its own end. -/
import Derived.Test.YtfmapnhfamoecaaGreatZLShV
namespace Go.SH
section
variable {α : Type} {R : JC α} {P : Program} {N : Nat} {r : Option Nat} {K : Ctx} {ops : Array Oper} {Q : Env → FS → LH → Prop} {rest : List Oper} {e : Env} {F : FS} {L Lb : LH} {C : LH → LH}
variable {ty : TypeId} {pos : String} {after : Array Edge} {d : Option Nat} {a : Option Addr} {cap : Nat} {xs zs : List α}
theorem PU.one {T : TypeId} {v : Value} {x : Option α} (h : PU T R F v x) : v.oneCell' = true := by
  cases x with
  | none => rw [show v = .pointer none from h]; rfl
  | some x => obtain ⟨b, c, m, rfl, _⟩ := h; rfl
end
section
variable {P : Program} {N : Nat} {K : Ctx} {e : Env} {F : FS} {L : LH} {ty : TypeId} {κ δ : Type} {ek : κ → Value} {ed : δ → Value}
end
section
variable {κ δ : Type}
def Za (G : κ → Prop) (ek : κ → Value) (ed : δ → Value) : JC (List (κ × δ)) := fun F vs m => ∃ b es cl, vs = [.map (some b)] ∧ F b = some (.map es cl) ∧ FK G ek ed es m
end
end Go.SH
