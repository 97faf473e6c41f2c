/- The calculus, part Q: strings, and helpers for keys. -/
import Derived.Test.YtjgeaaganpkceaaZjShP
namespace Go.SH
open Go.PL
section
variable {P : Program} {N : Nat} {r : Option Nat} {K : Ctx} {ops : Array Oper} {Q : Env → FS → LH → Prop} {rest : List Oper} {e : Env} {F : FS} {L : LH} {d : Option Nat} {ty : TypeId} {pos : String} {after : Array Edge}
end
section
variable {P : Program} {N : Nat} {r : Option Nat} {K : Ctx} {ops : Array Oper} {Q : Env → FS → LH → Prop} {rest : List Oper} {e : Env} {F : FS} {L : LH}
variable {ty : TypeId} {pos : String} {after : Array Edge} {d : Option Nat}
variable {α : Type} {R : Enc α} {a : Option Addr} {cap : Nat} {xs ys zs : List α} {Lb : LH} {C : LH → LH}
end
/-- A function value that is nil, or a known one if a Bool says so. -/
def FnOR (v : Value) (b : Bool) (f : FuncId) : Prop := v.oneCell' = true ∧ (b = true → v = .func (.func f) #[] #[])
theorem FnOR.nil (f : FuncId) : FnOR .nilFunc false f := ⟨rfl, fun h => nomatch h⟩
theorem FnOR.fn (f : FuncId) : FnOR (.func (.func f) #[] #[]) true f := ⟨rfl, fun _ => rfl⟩
theorem shM_nil {P : Program} {N : Nat} {r : Option Nat} {K : Ctx} {ops : Array Oper} {Q : Env → FS → LH → Prop} {e : Env} {F : FS} {L : LH} {done : List Rec} (h : Q e F L) : shM P N r K ops Q [] e F L done := h
theorem arr_list {α : Type} {f : α → List Value} {xs : List α} {n : Nat} (_ : xs.length = n) : ([Value.agg (arr f xs)].flatMap fun v => v.cells.toList).toArray = arr f xs := by simp [Value.cells]
theorem buildSlice_arr {P : Program} {α : Type} {T E sz bytes n s0 : Nat} {z : Value} {f : α → List Value} (hT : SlTy P T E sz z bytes) (hf : FOK s0 f) {xs : List α} (hn : xs.length = n) (hs : n * s0 = sz) (hl : sz ≤ 16777216) (w : World) :
    (Instr.buildSlice T 1 #[(0, .agg (arr f xs))]).run P w = .ok (.slice (some ⟨w.heap.size, 0, none⟩) 1 1) (w.alloc (.cells (arr f xs) E)) := by
  have := buildSlice_all hT [.agg (arr f xs)] rfl (Nat.zero_lt_one) (fun v hv => by
    simp only [List.mem_singleton] at hv; subst hv; simp only [Value.cells]; rw [arr_sz hf hn, hs]) (by simp; omega) w
  rw [arr_list hn] at this
  exact this
end Go.SH
