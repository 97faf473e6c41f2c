/- The calculus, part W: a list that is copied onto its own end. -/
import Derived.Test.YtepdgjpkhkijcaaGreatZSShV
namespace Go.SH
section
variable {α : Type} {R : IZ α} {P : Program} {N : Nat} {r : Option Nat} {K : Ctx} {ops : Array Oper} {Q : Env → FS → LH → Prop} {rest : List Oper} {e : Env} {F : FS} {L Lb : LH} {C : LH → LH}
variable {ty : TypeId} {pos : String} {after : Array Edge} {d : Option Nat} {a : Option Addr} {cap : Nat} {xs zs : List α}
theorem Qh.one {T : TypeId} {v : Value} {x : Option α} (h : Qh T R F v x) : v.oneCell' = true := by
  cases x with
  | none => rw [show v = .pointer none from h]; rfl
  | some x => obtain ⟨b, c, m, rfl, _⟩ := h; rfl
end
section
variable {P : Program} {N : Nat} {K : Ctx} {e : Env} {F : FS} {L : LH} {ty : TypeId} {κ δ : Type} {ek : κ → Value} {ed : δ → Value}
end
section
variable {κ δ : Type}
end
section
variable {P : Program} {N : Nat} {K : Ctx} {fn : Func} {R : FS → LH → Value → Prop} {e : Env} {F : FS} {L : LH}
end
end Go.SH
