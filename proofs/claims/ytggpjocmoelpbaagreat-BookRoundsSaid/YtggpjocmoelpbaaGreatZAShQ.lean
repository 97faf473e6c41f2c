/- The calculus, part Q: strings, and helpers for keys. -/
import Derived.Test.YtggpjocmoelpbaaGreatZAShP
namespace Go.SH
open Go.PL
def sB (l : List Int) : ByteArray := ⟨(l.map fun i => UInt8.ofNat i.toNat).toArray⟩
theorem sB_size (l : List Int) : (sB l).size = l.length := by simp [sB, ByteArray.size]
theorem equal_of_bin {P : Program} {T : TypeId} {x y : Array Value} {p : Bool} {w : World} (h : (binOp .eql T (.agg x) (.agg y)).run P w = .ok (.bool p) w) : (Op.equal T (.agg x) (.agg y)).run P w = .ok p w := by
  simp only [binOp, Sem.run_bind] at h
  cases hq : (Op.equal T (.agg x) (.agg y)).run P w <;> rw [hq] at h <;> simp [Result.andThen] at h ⊢
  exact h
section
variable {P : Program} {N : Nat} {r : Option Nat} {K : Ctx} {ops : Array Oper} {Q : Env → FS → LH → Prop} {rest : List Oper} {e : Env} {F : FS} {L : LH} {d : Option Nat} {ty : TypeId} {pos : String} {after : Array Edge}
end
section
variable {P : Program} {N : Nat} {r : Option Nat} {K : Ctx} {ops : Array Oper} {Q : Env → FS → LH → Prop} {rest : List Oper} {e : Env} {F : FS} {L : LH}
variable {ty : TypeId} {pos : String} {after : Array Edge} {d : Option Nat}
variable {α : Type} {R : Enc α} {a : Option Addr} {cap : Nat} {xs ys zs : List α} {Lb : LH} {C : LH → LH}
def vwA (a : Option Addr) (cap l sz : Nat) : Option Addr := if cap = l then a else a.map (·.add (l * sz))
theorem SlR.gV {nb E sz n : Nat} (h : SlR nb E sz R F a n cap xs Lb) {l : Int} (g : 0 ≤ l ∧ l ≤ (xs.length : Int)) : 0 ≤ l ∧ l ≤ (n : Int) := by rw [h.caps.1]; exact g
theorem SlR.capV {nb E sz n : Nat} (h : SlR nb E sz R F a n cap xs Lb) {l : Int} (g : 0 ≤ l ∧ l ≤ (n : Int)) : 0 ≤ l ∧ l ≤ ((n : Nat) : Int) ∧ ((n : Nat) : Int) ≤ (cap : Int) := by have := h.caps; omega
end
def FnOR (v : Value) (b : Bool) (f : FuncId) : Prop := v.oneCell' = true ∧ (b = true → v = .func (.func f) #[] #[])
theorem FnOR.nil (f : FuncId) : FnOR .nilFunc false f := ⟨rfl, fun h => nomatch h⟩
theorem FnOR.fn (f : FuncId) : FnOR (.func (.func f) #[] #[]) true f := ⟨rfl, fun _ => rfl⟩
theorem shM_nil {P : Program} {N : Nat} {r : Option Nat} {K : Ctx} {ops : Array Oper} {Q : Env → FS → LH → Prop} {e : Env} {F : FS} {L : LH} {done : List Rec} (h : Q e F L) : shM P N r K ops Q [] e F L done := h
end Go.SH
