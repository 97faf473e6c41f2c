/- The calculus, part Q: strings, and helpers for keys. -/
import Derived.Test.YtodhcoakjlmcdaaGreatZBShP
namespace Go.SH
open Go.PL
section
variable {P : Program} {N : Nat} {r : Option Nat} {K : Ctx} {ops : Array Oper} {Q : Env → FS → LH → Prop} {rest : List Oper} {e : Env} {F : FS} {L : LH} {d : Option Nat} {ty : TypeId} {pos : String} {after : Array Edge}
end
section
variable {P : Program} {N : Nat} {r : Option Nat} {K : Ctx} {ops : Array Oper} {Q : Env → FS → LH → Prop} {rest : List Oper} {e : Env} {F : FS} {L : LH}
variable {ty : TypeId} {pos : String} {after : Array Edge} {d : Option Nat}
variable {α : Type} {R : Enc α} {a : Option Addr} {cap : Nat} {xs ys zs : List α} {Lb : LH} {C : LH → LH}
def vwA (a : Option Addr) (cap l sz : Nat) : Option Addr := if cap = l then a else a.map (·.add (l * sz))
theorem SlR.gV {nb E sz n : Nat} (h : SlR nb E sz R F a n cap xs Lb) {l : Int} (g : 0 ≤ l ∧ l ≤ (xs.length : Int)) : 0 ≤ l ∧ l ≤ (n : Int) := by rw [h.caps.1]; exact g
theorem SlR.capV {nb E sz n : Nat} (h : SlR nb E sz R F a n cap xs Lb) {l : Int} (g : 0 ≤ l ∧ l ≤ (n : Int)) : 0 ≤ l ∧ l ≤ ((n : Nat) : Int) ∧ ((n : Nat) : Int) ≤ (cap : Int) := by have := h.caps; omega
/-- clear(s[l:]). -/
theorem o_clearV {T E : TypeId} {x : Operand} {nb sz bytes n : Nat} {z : Value} {z0 : α} {l : Int} (hd : okDst N d = true) (hT : SlTy P T E sz z bytes) (_hbb : bytes ≤ 134217728) (hR : EncOK sz R) (hz0 : ∀ F, R F z.cells.toList z0) (hx : ev e x = some (.slice (vwA a cap l.toNat sz) (n - l.toNat) (cap - l.toNat)))
    (hZ : ∀ X, Zip L Lb (C X) X) (hown : SlR nb E sz R F a n cap xs Lb) (hl : 0 ≤ l ∧ l ≤ (n : Int)) (hz : zs = xs.take l.toNat ++ List.replicate (xs.length - l.toNat) z0)
    (k : ∀ Lb', SlR nb E sz R F a n cap zs Lb' → shO P N r K ops Q rest (e.put d (.tuple #[])) F (C Lb')) :
    shO P N r K ops Q (⟨d, .call ⟨.builtin .clear, #[x], #[T]⟩, ty, pos, after, none⟩ :: rest) e F L := by
  obtain rfl := hown.caps.1
  obtain ⟨Lr, hp, _⟩ := Zip.one hZ []
  refine shO_perm hp ?_
  generalize hlN : l.toNat = m at *
  have hm : m ≤ xs.length := by omega
  have hzl : zs.length = xs.length := by rw [hz, List.length_append, List.length_take, List.length_replicate]; omega
  obtain ⟨i', hi1, hi2, hi3, hi4⟩ := hT.info
  have hall : ∀ n, All2 (R F) (List.replicate n z.cells.toList) (List.replicate n z0) := fun n => by
    induction n with
    | zero => exact .nil
    | succ n ih => exact .cons (hz0 F) ih
  by_cases h0 : xs.length - m = 0
  · refine shO_op hd (by intros; simp) fun M act w hag hs => ?_
    have hzz : zs = xs := by rw [hz, h0, List.replicate_zero, List.append_nil, List.take_of_length_le (by omega)]
    refine ⟨.tuple #[], F, _, w, ?_, hs, shO_to hZ hp (k Lb (by rw [hzz]; exact hown))⟩
    generalize vwA a cap m sz = a1 at hx
    cases a1 <;> simp [execOp, resolve, invoke, builtin, Builtin.clear_, run_underlying hT.und, hag.ev hx, h0]
  obtain ⟨h3, _, vss, h4, h5, h6, h7⟩ := hown
  rcases h7 with ⟨a', hv, hn, rfl⟩ | ⟨g', cap', pre, sp, hv, h8, h9, h10, rfl⟩
  · omega
  · cases hv
    have hlens := h4.lens hR
    have hsplit : vss.flatten = (vss.take m).flatten ++ (vss.drop m).flatten := by rw [← List.flatten_append, List.take_append_drop]
    have hl1 : (vss.take m).flatten.length = m * sz := by
      have := flatten_len (fun v hv => hlens v (List.mem_of_mem_take hv) : ∀ v ∈ vss.take m, v.length = sz)
      rw [this, List.length_take, h4.length]; congr 1; omega
    have hl2 : (vss.drop m).flatten.length = (xs.length - m) * sz := by
      have := flatten_len (fun v hv => hlens v (List.mem_of_mem_drop hv) : ∀ v ∈ vss.drop m, v.length = sz)
      rw [this, List.length_drop, h4.length]
    have hcm : ¬ cap = m := by omega
    have hvw : vwA (some ⟨g', pre.length, none⟩) cap m sz = some ⟨g', pre.length + m * sz, none⟩ := by simp [vwA, hcm, Addr.add]
    rw [hvw] at hx
    refine shO_op hd (by intros; simp) fun M act w hag hs => ?_
    have hcl : z.cells.size = sz := hT.zero
    have hzc : (Builtin.zeroCells z.cells (xs.length - m)).toList = (List.replicate (xs.length - m) z.cells.toList).flatten := by
      generalize xs.length - m = n
      have : Builtin.zeroCells z.cells n = madeCells z.cells (n * sz) := by
        apply Array.ext'
        apply List.ext_getElem?
        intro j
        simp [Builtin.zeroCells, madeCells, hcl]
      rw [this, madeCells_zero sz n z.cells hcl hT.pos]
    have hlen : (Builtin.zeroCells z.cells (xs.length - m)).toList.length = (xs.length - m) * sz := by simp only [Array.length_toList, size_zeroCells, hcl]
    have hcells : (pre ++ vss.flatten ++ sp) = ((pre ++ (vss.take m).flatten) ++ (vss.drop m).flatten ++ sp) := by rw [hsplit]; simp only [List.append_assoc]
    rw [hcells] at hs
    have hpl : (pre ++ (vss.take m).flatten).length = pre.length + m * sz := by rw [List.length_append, hl1]
    obtain ⟨w', hr, hs'⟩ := run_storeCells (P := P) (i := 0) (Builtin.zeroCells z.cells (xs.length - m)).toList w _ _ (pre ++ (vss.take m).flatten).length 0 hs rfl (by
      simp only [List.size_toArray, List.length_append, hl1, hl2, hlen]; omega) (by rw [hzc]; exact (hall _).ones hR)
    have hfold : ((Builtin.zeroCells z.cells (xs.length - m)).toList.zipIdx ((pre ++ (vss.take m).flatten).length + 0)).foldl (fun (c : Array Value) p => c.setIfInBounds p.2 p.1) ((pre ++ (vss.take m).flatten) ++ (vss.drop m).flatten ++ sp).toArray = ((pre ++ (vss.take m).flatten) ++ (List.replicate (xs.length - m) z.cells.toList).flatten ++ sp).toArray := by
      rw [Nat.add_zero, foldl_set_seg _ _ _ _ (by rw [hlen, hl2]), hzc]
    rw [hfold] at hs'
    rw [hpl] at hr
    have hnew : All2 (R F) (vss.take m ++ List.replicate (xs.length - m) z.cells.toList) zs := by rw [hz]; exact (h4.take m).append (hall _)
    have hfl : (vss.take m ++ List.replicate (xs.length - m) z.cells.toList).flatten.length = xs.length * sz := by
      rw [flatten_len (hnew.lens hR), hnew.length, hzl]
    refine ⟨.tuple #[], F, _, w', ?_, hs', shO_to hZ hp (k [(g', .cells ((pre ++ (vss.take m).flatten) ++ (List.replicate (xs.length - m) z.cells.toList).flatten ++ sp).toArray E (0, 0))] ⟨fun p hp => ?_, hzl.symm, _, hnew, hfl, hnew.ones hR, .inr ⟨g', cap, pre, sp, rfl, h8, h9, by rw [hfl, ← h5]; exact h10, ?_⟩⟩)⟩
    · simp [execOp, resolve, invoke, builtin, Builtin.clear_, run_underlying hT.und, hag.ev hx, h0, zeroValue, typeInfo, hi1, hi2, hr]
    · rw [List.mem_singleton.1 hp]; exact h3 (g', .cells (pre ++ vss.flatten ++ sp).toArray E (0, 0)) (List.mem_cons_self ..)
    · rw [List.flatten_append]; simp only [List.append_assoc]
end
/-- A function value that is nil, or a known one if a Bool says so. -/
def FnOR (v : Value) (b : Bool) (f : FuncId) : Prop := v.oneCell' = true ∧ (b = true → v = .func (.func f) #[] #[])
theorem FnOR.nil (f : FuncId) : FnOR .nilFunc false f := ⟨rfl, fun h => nomatch h⟩
theorem FnOR.fn (f : FuncId) : FnOR (.func (.func f) #[] #[]) true f := ⟨rfl, fun _ => rfl⟩
theorem shM_nil {P : Program} {N : Nat} {r : Option Nat} {K : Ctx} {ops : Array Oper} {Q : Env → FS → LH → Prop} {e : Env} {F : FS} {L : LH} {done : List Rec} (h : Q e F L) : shM P N r K ops Q [] e F L done := h
end Go.SH
