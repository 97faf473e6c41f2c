/- The calculus, part Q: strings, and helpers for keys. -/
import Derived.Test.YtfmapnhfamoecaaGreatZWShP
namespace Go.SH
open Go.PL
def sB (l : List Int) : ByteArray := ⟨(l.map fun i => UInt8.ofNat i.toNat).toArray⟩
def sE : IN (List Int) := fun _ vs x => vs = [.string (sB x)]
theorem WG : DP 1 sE := ⟨fun _ h => h, fun h => by rw [h]; rfl, fun h v hv => by rw [h] at hv; simp at hv; subst hv; rfl⟩
theorem PT (l : List Int) : (sB l).size = l.length := by simp [sB, ByteArray.size]
theorem Xu {l : List Int} {p : Nat} {c : Int} (hc : l[p]? = some c) (g : 0 ≤ c ∧ c < 128) : ((sB l).get! p).toNat = c.toNat := by
  have : (sB l).get! p = UInt8.ofNat c.toNat := by
    show ((l.map fun i => UInt8.ofNat i.toNat).toArray)[p]! = _
    rw [getElem!_def]
    simp [hc]
  rw [this]
  have : c.toNat < 128 := by omega
  simp only [UInt8.toNat_ofNat']
  omega
theorem Og {P : Program} {T : TypeId} {x y : Array Value} {p : Bool} {w : World} (h : (binOp .eql T (.agg x) (.agg y)).run P w = .ok (.bool p) w) : (Op.equal T (.agg x) (.agg y)).run P w = .ok p w := by
  simp only [binOp, Sem.run_bind] at h
  cases hq : (Op.equal T (.agg x) (.agg y)).run P w <;> rw [hq] at h <;> simp [Result.andThen] at h ⊢
  exact h
section
variable {P : Program} {N : Nat} {r : Option Nat} {K : Ctx} {ops : Array Oper} {Q : Env → FS → LH → Prop} {rest : List Oper} {e : Env} {F : FS} {L : LH} {d : Option Nat} {ty : TypeId} {pos : String} {after : Array Edge}
theorem Vu {T : TypeId} {x : Operand} {s : List Int} (hT : P.underlying T = some .string) (hx : ev e x = some (.string (sB s))) : Ft P N K e F L (.call ⟨.builtin .len, #[x], #[T]⟩) ty (.int .i64 (s.length : Int)) := fun M a w d pos after g ha hs => by
  simp [execOp, resolve, invoke, builtin, Builtin.len_, run_underlying hT, ha.ev hx, goInt, PT]
theorem Tq {T : TypeId} {x : Operand} {s : List Int} (hd : DQ N d = true) (hT : P.underlying T = some .string) (hx : ev e x = some (.string (sB s))) (k : ∀ b, K.w0.heap.size ≤ b → Df P N r K ops Q rest (e.put d (.pointer (some ⟨b, 0, none⟩))) F ((b, .stringIter (sB s) 0) :: L)) :
    Df P N r K ops Q (⟨d, .range T x, ty, pos, after, none⟩ :: rest) e F L :=
  Jz hd (by intros; simp) fun M a w ha hs => by
    obtain ⟨h1, h2⟩ := hs.push (.stringIter (sB s) 0)
    exact ⟨_, F, _, _, by simp [execOp, Instr.range, run_underlying hT, ha.ev hx, newObj, Sem.run], h1, k _ h2⟩
theorem Ux {x : Operand} {b i p : Nat} {s : List Int} {c : Int} (hd : DQ N d = true) (hx : ev e x = some (.pointer (some ⟨b, 0, none⟩))) (hi : L[i]? = some (b, .stringIter (sB s) p)) (hc : s[p]? = some c) (g : 0 ≤ c ∧ c < 128)
    (k : Df P N r K ops Q rest (e.put d (.tuple #[.bool true, .int .i64 (p : Int), .int .i32 c])) F (L.set i (b, .stringIter (sB s) (p + 1)))) :
    Df P N r K ops Q (⟨d, .next x true, ty, pos, after, none⟩ :: rest) e F L :=
  Jz hd (by intros; simp) fun M a w ha hs => by
    have hh := hs.own.cell _ (List.mem_of_getElem? hi)
    have ae : p < (sB s).size := by rw [PT]; exact (List.getElem?_eq_some_iff.1 hc).1
    have aa : Utf8.decode (sB s) p = (c.toNat, 1) := by
      unfold Utf8.decode
      have := Xu hc g
      simp only [Nat.add_zero, this]
      rw [if_pos (by omega)]
    have af : St K M F (L.set i (b, .stringIter (sB s) (p + 1))) (w.putObj b (.stringIter (sB s) (p + 1))) := hs.GK hi rfl rfl rfl (by simp) (World.putObj_heap_same (Array.getElem?_eq_some_iff.1 hh).1) (fun j hj => World.putObj_heap_other hj)
    have ab : (setObj b (.stringIter (sB s) (p + 1))).run P w = .ok () (w.putObj b (.stringIter (sB s) (p + 1))) := by simp [setObj, Sem.run, hh, World.putObj]
    have ad : (getObj b).run P w = .ok (.stringIter (sB s) p) w := by simp [getObj, Sem.run, hh]
    have ah : ((c.toNat : Nat) : Int) = c := by omega
    refine ⟨_, F, _, _, ?_, af, k⟩
    simp [execOp, Instr.next, ha.ev hx, ad, ae, aa, ab, goInt, ah]
theorem Te {x : Operand} {b i p : Nat} {s : List Int} (hd : DQ N d = true) (hx : ev e x = some (.pointer (some ⟨b, 0, none⟩))) (hi : L[i]? = some (b, .stringIter (sB s) p)) (hp : ¬ p < s.length)
    (k : Df P N r K ops Q rest (e.put d (.tuple #[.bool false])) F L) :
    Df P N r K ops Q (⟨d, .next x true, ty, pos, after, none⟩ :: rest) e F L :=
  Jz hd (by intros; simp) fun M a w ha hs => by
    have hh := hs.own.cell _ (List.mem_of_getElem? hi)
    have aa : (getObj b).run P w = .ok (.stringIter (sB s) p) w := by simp [getObj, Sem.run, hh]
    have ab : ¬ p < (sB s).size := by rw [PT]; exact hp
    refine ⟨_, F, _, _, ?_, hs, k⟩
    simp [execOp, Instr.next, ha.ev hx, aa, ab]
end
section
variable {P : Program} {N : Nat} {r : Option Nat} {K : Ctx} {ops : Array Oper} {Q : Env → FS → LH → Prop} {rest : List Oper} {e : Env} {F : FS} {L : LH}
variable {ty : TypeId} {pos : String} {after : Array Edge} {d : Option Nat}
variable {α : Type} {R : IN α} {a : Option Addr} {cap : Nat} {xs ys zs : List α} {Lb : LH} {C : LH → LH}
end
def V0 (v : Value) (b : Bool) (f : FuncId) : Prop := v.oneCell' = true ∧ (b = true → v = .func (.func f) #[] #[])
theorem V0.nil (f : FuncId) : V0 .nilFunc false f := ⟨rfl, fun h => nomatch h⟩
theorem V0.fn (f : FuncId) : V0 (.func (.func f) #[] #[]) true f := ⟨rfl, fun _ => rfl⟩
theorem D1 {P : Program} {N : Nat} {r : Option Nat} {K : Ctx} {ops : Array Oper} {Q : Env → FS → LH → Prop} {e : Env} {F : FS} {L : LH} {done : List Rec} (h : Q e F L) : PG P N r K ops Q [] e F L done := h
theorem U7 {α : Type} {f : α → List Value} {xs : List α} {n : Nat} (_ : xs.length = n) : ([Value.agg (arr f xs)].flatMap fun v => v.cells.toList).toArray = arr f xs := by simp [Value.cells]
theorem Qx {P : Program} {α : Type} {T E sz bytes n s0 : Nat} {z : Value} {f : α → List Value} (hT : Ef P T E sz z bytes) (hf : Tb s0 f) {xs : List α} (hn : xs.length = n) (hs : n * s0 = sz) (hl : sz ≤ 16777216) (w : World) :
    (Instr.buildSlice T 1 #[(0, .agg (arr f xs))]).run P w = .ok (.slice (some ⟨w.heap.size, 0, none⟩) 1 1) (w.alloc (.cells (arr f xs) E)) := by
  have := G3 hT [.agg (arr f xs)] rfl (Nat.zero_lt_one) (fun v hv => by
    simp only [List.mem_singleton] at hv; subst hv; simp only [Value.cells]; rw [EP hf hn, hs]) (by simp; omega) w
  rw [U7 hn] at this
  exact this
end Go.SH
