/- The calculus, part U: arrays of arrays, structs that hold arrays, keys that hold arrays. -/
import Derived.Test.YtepdgjpkhkijcaaGreatZSShT
import Derived.DeepKeys3
namespace Go.SH
open Go.PL
section
variable {P : Program} {N : Nat} {r : Option Nat} {K : Ctx} {ops : Array Oper} {Q : Env → FS → LH → Prop} {rest : List Oper} {e : Env} {F : FS} {L : LH}
variable {ty : TypeId} {pos : String} {after : Array Edge} {d : Option Nat}
def QJ {κ δ : Type} (G : κ → Prop) (ek : κ → Value) (ed : δ → Value) (es : Array MapEntry) (m : List (κ × δ)) : Prop :=
  ∃ m' : List ({k : κ // G k} × δ), HO (fun k => ek k.1) ed es m' ∧ m = m'.map fun p => (p.1.1, p.2)
theorem QJ.nil {κ δ : Type} {G : κ → Prop} {ek : κ → Value} {ed : δ → Value} : QJ G ek ed #[] [] := ⟨[], HO.nil, rfl⟩
variable {κ δ : Type} [DecidableEq κ] {G : κ → Prop} {ek : κ → Value} {ed : δ → Value}
end
theorem Au.nn {α : Type} {sz : Nat} {R : IZ α} {F : FS} {a : Option Addr} {cap : Nat} {xs : List α} (h : Au sz R F a cap xs) (g : xs ≠ []) : a = none ↔ xs = [] := by
  obtain ⟨_, _, h2⟩ := h
  refine ⟨fun ha => ?_, fun he => absurd he g⟩
  rcases h2.cells with h3 | ⟨b, o, c, E, m, h4, _⟩
  · exact List.eq_nil_of_length_eq_zero h3
  · rw [ha] at h4; cases h4
end Go.SH
