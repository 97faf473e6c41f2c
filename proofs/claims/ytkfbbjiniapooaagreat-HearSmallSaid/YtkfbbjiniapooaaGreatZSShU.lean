/- The calculus, part U: arrays of arrays, structs that hold arrays, keys that hold arrays. -/
import Derived.Test.YtkfbbjiniapooaaGreatZSShT
import Derived.DeepKeys3
namespace Go.SH
open Go.PL
section
variable {P : Program} {N : Nat} {r : Option Nat} {K : Ctx} {ops : Array Oper} {Q : Env → FS → LH → Prop} {rest : List Oper} {e : Env} {F : FS} {L : LH}
variable {ty : TypeId} {pos : String} {after : Array Edge} {d : Option Nat}
def Wb {κ δ : Type} (G : κ → Prop) (ek : κ → Value) (ed : δ → Value) (es : Array MapEntry) (m : List (κ × δ)) : Prop :=
  ∃ m' : List ({k : κ // G k} × δ), Hh (fun k => ek k.1) ed es m' ∧ m = m'.map fun p => (p.1.1, p.2)
theorem Wb.nil {κ δ : Type} {G : κ → Prop} {ek : κ → Value} {ed : δ → Value} : Wb G ek ed #[] [] := ⟨[], Hh.nil, rfl⟩
variable {κ δ : Type} [DecidableEq κ] {G : κ → Prop} {ek : κ → Value} {ed : δ → Value}
end
end Go.SH
