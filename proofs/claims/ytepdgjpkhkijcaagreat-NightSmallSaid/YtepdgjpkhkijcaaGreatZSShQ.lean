/- The calculus, part Q: strings, and helpers for keys. -/
import Derived.Test.YtepdgjpkhkijcaaGreatZSShP
namespace Go.SH
open Go.PL
theorem N6 {P : Program} {T : TypeId} {x y : Array Value} {p : Bool} {w : World} (h : (binOp .eql T (.agg x) (.agg y)).run P w = .ok (.bool p) w) : (Op.equal T (.agg x) (.agg y)).run P w = .ok p w := by
  simp only [binOp, Sem.run_bind] at h
  cases hq : (Op.equal T (.agg x) (.agg y)).run P w <;> rw [hq] at h <;> simp [Result.andThen] at h ⊢
  exact h
theorem Qo {P : Program} {T : TypeId} {x y : Array Value} {p : Prop} [Decidable p] {w : World} (h : (binOp .eql T (.agg x) (.agg y)).run P w = .ok (.bool (decide p)) w) : (binOp .neq T (.agg x) (.agg y)).run P w = .ok (.bool (decide (¬ p))) w := by
  have h2 := N6 h
  simp only [binOp]
  simp [h2]
section
variable {P : Program} {N : Nat} {r : Option Nat} {K : Ctx} {ops : Array Oper} {Q : Env → FS → LH → Prop} {rest : List Oper} {e : Env} {F : FS} {L : LH} {d : Option Nat} {ty : TypeId} {pos : String} {after : Array Edge}
end
section
variable {P : Program} {N : Nat} {r : Option Nat} {K : Ctx} {ops : Array Oper} {Q : Env → FS → LH → Prop} {rest : List Oper} {e : Env} {F : FS} {L : LH}
variable {ty : TypeId} {pos : String} {after : Array Edge} {d : Option Nat}
variable {α : Type} {R : IZ α} {a : Option Addr} {cap : Nat} {xs ys zs : List α} {Lb : LH} {C : LH → LH}
end
def PM (v : Value) (b : Bool) (f : FuncId) : Prop := v.oneCell' = true ∧ (b = true → v = .func (.func f) #[] #[])
theorem PM.nil (f : FuncId) : PM .nilFunc false f := ⟨rfl, fun h => nomatch h⟩
theorem PM.fn (f : FuncId) : PM (.func (.func f) #[] #[]) true f := ⟨rfl, fun _ => rfl⟩
theorem BC {P : Program} {N : Nat} {r : Option Nat} {K : Ctx} {ops : Array Oper} {Q : Env → FS → LH → Prop} {e : Env} {F : FS} {L : LH} {done : List Rec} (h : Q e F L) : Nd P N r K ops Q [] e F L done := h
theorem P5 {α : Type} {f : α → List Value} {xs : List α} {n : Nat} (_ : xs.length = n) : ([Value.agg (arr f xs)].flatMap fun v => v.cells.toList).toArray = arr f xs := by simp [Value.cells]
theorem Np {P : Program} {α : Type} {T E sz bytes n s0 : Nat} {z : Value} {f : α → List Value} (hT : FR P T E sz z bytes) (hf : PN s0 f) {xs : List α} (hn : xs.length = n) (hs : n * s0 = sz) (hl : sz ≤ 16777216) (w : World) :
    (Instr.buildSlice T 1 #[(0, .agg (arr f xs))]).run P w = .ok (.slice (some ⟨w.heap.size, 0, none⟩) 1 1) (w.alloc (.cells (arr f xs) E)) := by
  have := IE hT [.agg (arr f xs)] rfl (Nat.zero_lt_one) (fun v hv => by
    simp only [List.mem_singleton] at hv; subst hv; simp only [Value.cells]; rw [H8 hf hn, hs]) (by simp; omega) w
  rw [P5 hn] at this
  exact this
end Go.SH
