/- The calculus, part Q: strings, and helpers for keys. -/
import Derived.Test.YtodhcoakjlmcdaaZFShP
namespace Go.SH
open Go.PL
section
variable {P : Program} {N : Nat} {r : Option Nat} {K : Ctx} {ops : Array Oper} {Q : Env → FS → LH → Prop} {rest : List Oper} {e : Env} {F : FS} {L : LH} {d : Option Nat} {ty : TypeId} {pos : String} {after : Array Edge}
end
section
variable {P : Program} {N : Nat} {r : Option Nat} {K : Ctx} {ops : Array Oper} {Q : Env → FS → LH → Prop} {rest : List Oper} {e : Env} {F : FS} {L : LH}
variable {ty : TypeId} {pos : String} {after : Array Edge} {d : Option Nat}
variable {α : Type} {R : Enc α} {a : Option Addr} {cap : Nat} {xs ys zs : List α} {Lb : LH} {C : LH → LH}
end
/-- A function value that is nil, or a known one if a Bool says so. -/
def FnOR (v : Value) (b : Bool) (f : FuncId) : Prop := v.oneCell' = true ∧ (b = true → v = .func (.func f) #[] #[])
theorem FnOR.nil (f : FuncId) : FnOR .nilFunc false f := ⟨rfl, fun h => nomatch h⟩
theorem FnOR.fn (f : FuncId) : FnOR (.func (.func f) #[] #[]) true f := ⟨rfl, fun _ => rfl⟩
theorem shM_nil {P : Program} {N : Nat} {r : Option Nat} {K : Ctx} {ops : Array Oper} {Q : Env → FS → LH → Prop} {e : Env} {F : FS} {L : LH} {done : List Rec} (h : Q e F L) : shM P N r K ops Q [] e F L done := h
end Go.SH
