/- The calculus, part Q: strings, and helpers for keys. -/
import Derived.Test.YtdhookifhfkcpaaGreatZBShP
namespace Go.SH
open Go.PL
theorem OO {P : Program} {T : TypeId} {x y : Array Value} {p : Bool} {w : World} (h : (binOp .eql T (.agg x) (.agg y)).run P w = .ok (.bool p) w) : (Op.equal T (.agg x) (.agg y)).run P w = .ok p w := by
  simp only [binOp, Sem.run_bind] at h
  cases hq : (Op.equal T (.agg x) (.agg y)).run P w <;> rw [hq] at h <;> simp [Result.andThen] at h ⊢
  exact h
theorem Rl {P : Program} {T : TypeId} {x y : Array Value} {p : Prop} [Decidable p] {w : World} (h : (binOp .eql T (.agg x) (.agg y)).run P w = .ok (.bool (decide p)) w) : (binOp .neq T (.agg x) (.agg y)).run P w = .ok (.bool (decide (¬ p))) w := by
  have h2 := OO h
  simp only [binOp]
  simp [h2]
section
variable {P : Program} {N : Nat} {r : Option Nat} {K : Ctx} {ops : Array Oper} {Q : Env → FS → LH → Prop} {rest : List Oper} {e : Env} {F : FS} {L : LH} {d : Option Nat} {ty : TypeId} {pos : String} {after : Array Edge}
end
section
variable {P : Program} {N : Nat} {r : Option Nat} {K : Ctx} {ops : Array Oper} {Q : Env → FS → LH → Prop} {rest : List Oper} {e : Env} {F : FS} {L : LH}
variable {ty : TypeId} {pos : String} {after : Array Edge} {d : Option Nat}
variable {α : Type} {R : Hf α} {a : Option Addr} {cap : Nat} {xs ys zs : List α} {Lb : LH} {C : LH → LH}
def Sv (a : Option Addr) (cap l sz : Nat) : Option Addr := if cap = l then a else a.map (·.add (l * sz))
theorem AI.gV {nb E sz n : Nat} (h : AI nb E sz R F a n cap xs Lb) {l : Int} (g : 0 ≤ l ∧ l ≤ (xs.length : Int)) : 0 ≤ l ∧ l ≤ (n : Int) := by rw [h.A1.1]; exact g
theorem AI.Tb {nb E sz n : Nat} (h : AI nb E sz R F a n cap xs Lb) {l : Int} (g : 0 ≤ l ∧ l ≤ (n : Int)) : 0 ≤ l ∧ l ≤ ((n : Nat) : Int) ∧ ((n : Nat) : Int) ≤ (cap : Int) := by have := h.A1; omega
end
def RH (v : Value) (b : Bool) (f : FuncId) : Prop := v.oneCell' = true ∧ (b = true → v = .func (.func f) #[] #[])
theorem RH.nil (f : FuncId) : RH .nilFunc false f := ⟨rfl, fun h => nomatch h⟩
theorem RH.fn (f : FuncId) : RH (.func (.func f) #[] #[]) true f := ⟨rfl, fun _ => rfl⟩
theorem Ce {P : Program} {N : Nat} {r : Option Nat} {K : Ctx} {ops : Array Oper} {Q : Env → FS → LH → Prop} {e : Env} {F : FS} {L : LH} {done : List Rec} (h : Q e F L) : Nx P N r K ops Q [] e F L done := h
end Go.SH
