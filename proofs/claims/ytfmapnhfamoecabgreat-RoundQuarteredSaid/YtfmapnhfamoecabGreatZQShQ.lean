/- The calculus, part Q: strings, and helpers for keys. -/
import Derived.Test.YtfmapnhfamoecabGreatZQShP
namespace Go.SH
open Go.PL
def sB (l : List Int) : ByteArray := ⟨(l.map fun i => UInt8.ofNat i.toNat).toArray⟩
theorem W4 (l : List Int) : (sB l).size = l.length := by simp [sB, ByteArray.size]
theorem Kt {P : Program} {T : TypeId} {x y : Array Value} {p : Bool} {w : World} (h : (binOp .eql T (.agg x) (.agg y)).run P w = .ok (.bool p) w) : (Op.equal T (.agg x) (.agg y)).run P w = .ok p w := by
  simp only [binOp, Sem.run_bind] at h
  cases hq : (Op.equal T (.agg x) (.agg y)).run P w <;> rw [hq] at h <;> simp [Result.andThen] at h ⊢
  exact h
theorem Vp {P : Program} {T : TypeId} {x y : Array Value} {p : Prop} [Decidable p] {w : World} (h : (binOp .eql T (.agg x) (.agg y)).run P w = .ok (.bool (decide p)) w) : (binOp .neq T (.agg x) (.agg y)).run P w = .ok (.bool (decide (¬ p))) w := by
  have h2 := Kt h
  simp only [binOp]
  simp [h2]
section
variable {P : Program} {N : Nat} {r : Option Nat} {K : Ctx} {ops : Array Oper} {Q : Env → FS → LH → Prop} {rest : List Oper} {e : Env} {F : FS} {L : LH} {d : Option Nat} {ty : TypeId} {pos : String} {after : Array Edge}
end
section
variable {P : Program} {N : Nat} {r : Option Nat} {K : Ctx} {ops : Array Oper} {Q : Env → FS → LH → Prop} {rest : List Oper} {e : Env} {F : FS} {L : LH}
variable {ty : TypeId} {pos : String} {after : Array Edge} {d : Option Nat}
variable {α : Type} {R : Ic α} {a : Option Addr} {cap : Nat} {xs ys zs : List α} {Lb : LH} {C : LH → LH}
def Tu (a : Option Addr) (cap l sz : Nat) : Option Addr := if cap = l then a else a.map (·.add (l * sz))
theorem AT.YT {nb E sz n : Nat} (hR : Dv sz R) (h : AT nb E sz R F a n cap xs Lb) {Lr : LH} (hL : L.Perm (Lb ++ Lr)) {l : Int} (hl : 0 ≤ l ∧ l ≤ (n : Int)) {i : Int} {x : α} (h0 : 0 ≤ i) (hi : (xs.drop l.toNat)[i.toNat]? = some x) :
    ∃ b o c vs, Tu a cap l.toNat sz = some ⟨b, o, none⟩ ∧ Has F L b c ∧ o + i.toNat * sz + sz ≤ c.size ∧ R F vs x ∧ vs.length = sz ∧ ∀ j, j < sz → c[o + i.toNat * sz + j]? = vs[j]? := by
  have hn := h.C4.1
  obtain ⟨Lb', aa, h'⟩ := h.from hR (l := l.toNat) (by omega)
  obtain ⟨b, o, c, vs, h1, h2, h3, h4, h5, h6⟩ := AT.at hR h' (L := Lb') (Lr := []) (by simp) h0 hi
  exact ⟨b, o, c, vs, h1, h2.ext (AW.refl F) (fun p hp => hL.mem_iff.2 (List.mem_append_left _ (aa.subset hp))), h3, h4, h5, h6⟩
theorem AT.YQ {nb E sz n : Nat} (h : AT nb E sz R F a n cap xs Lb) {l : Int} : ((n - l.toNat : Nat) : Int) = ((xs.length - l.toNat : Nat) : Int) := by rw [h.C4.1]
theorem AT.Xu {nb E sz n : Nat} (h : AT nb E sz R F a n cap xs Lb) {l i : Int} (g : 0 ≤ i ∧ i < ((xs.drop l.toNat).length : Int)) : 0 ≤ i ∧ i < ((n - l.toNat : Nat) : Int) := by rw [h.C4.1]; simpa using g
theorem AT.gV {nb E sz n : Nat} (h : AT nb E sz R F a n cap xs Lb) {l : Int} (g : 0 ≤ l ∧ l ≤ (xs.length : Int)) : 0 ≤ l ∧ l ≤ (n : Int) := by rw [h.C4.1]; exact g
theorem AT.XC {nb E sz n : Nat} (h : AT nb E sz R F a n cap xs Lb) {l : Int} (g : 0 ≤ l ∧ l ≤ (n : Int)) : 0 ≤ l ∧ l ≤ ((n : Nat) : Int) ∧ ((n : Nat) : Int) ≤ (cap : Int) := by have := h.C4; omega
theorem U7 {T E : TypeId} {x : Operand} {nb sz bytes n : Nat} {z : Value} {z0 : α} {l : Int} (hd : DX N d = true) (hT : Gw P T E sz z bytes) (_hbb : bytes ≤ 134217728) (hR : Dv sz R) (aw : ∀ F, R F z.cells.toList z0) (hx : ev e x = some (.slice (Tu a cap l.toNat sz) (n - l.toNat) (cap - l.toNat)))
    (hZ : ∀ X, Zip L Lb (C X) X) (ad : AT nb E sz R F a n cap xs Lb) (hl : 0 ≤ l ∧ l ≤ (n : Int)) (hz : zs = xs.take l.toNat ++ List.replicate (xs.length - l.toNat) z0)
    (k : ∀ Lb', AT nb E sz R F a n cap zs Lb' → Ds P N r K ops Q rest (e.put d (.tuple #[])) F (C Lb')) :
    Ds P N r K ops Q (⟨d, .call ⟨.builtin .clear, #[x], #[T]⟩, ty, pos, after, none⟩ :: rest) e F L := by
  obtain rfl := ad.C4.1
  obtain ⟨Lr, hp, _⟩ := Zip.one hZ []
  refine Dl hp ?_
  generalize bj : l.toNat = m at *
  have hm : m ≤ xs.length := by omega
  have al : zs.length = xs.length := by rw [hz, List.length_append, List.length_take, List.length_replicate]; omega
  obtain ⟨i', ax, ay, bk, bl⟩ := hT.info
  have ah : ∀ n, Ew (R F) (List.replicate n z.cells.toList) (List.replicate n z0) := fun n => by
    induction n with
    | zero => exact .nil
    | succ n ih => exact .cons (aw F) ih
  by_cases h0 : xs.length - m = 0
  · refine Ja hd (by intros; simp) fun M act w aj hs => ?_
    have az : zs = xs := by rw [hz, h0, List.replicate_zero, List.append_nil, List.take_of_length_le (by omega)]
    refine ⟨.tuple #[], F, _, w, ?_, hs, Md hZ hp (k Lb (by rw [az]; exact ad))⟩
    generalize Tu a cap m sz = a1 at hx
    cases a1 <;> simp [execOp, resolve, invoke, builtin, Builtin.clear_, run_underlying hT.VW, aj.ev hx, h0]
  obtain ⟨h3, _, vss, h4, h5, h6, h7⟩ := ad
  rcases h7 with ⟨a', hv, hn, rfl⟩ | ⟨g', ba, pre, sp, hv, h8, h9, bb, rfl⟩
  · omega
  · cases hv
    have ab := h4.lens hR
    have ae : vss.flatten = (vss.take m).flatten ++ (vss.drop m).flatten := by rw [← List.flatten_append, List.take_append_drop]
    have ao : (vss.take m).flatten.length = m * sz := by
      have := C6 (fun v hv => ab v (List.mem_of_mem_take hv) : ∀ v ∈ vss.take m, v.length = sz)
      rw [this, List.length_take, h4.length]; congr 1; omega
    have aq : (vss.drop m).flatten.length = (xs.length - m) * sz := by
      have := C6 (fun v hv => ab v (List.mem_of_mem_drop hv) : ∀ v ∈ vss.drop m, v.length = sz)
      rw [this, List.length_drop, h4.length]
    have bc : ¬ cap = m := by omega
    have bg : Tu (some ⟨g', pre.length, none⟩) cap m sz = some ⟨g', pre.length + m * sz, none⟩ := by simp [Tu, bc, Addr.add]
    rw [bg] at hx
    refine Ja hd (by intros; simp) fun M act w aj hs => ?_
    have ak : z.cells.size = sz := hT.zero
    have ar : (Builtin.zeroCells z.cells (xs.length - m)).toList = (List.replicate (xs.length - m) z.cells.toList).flatten := by
      generalize xs.length - m = n
      have : Builtin.zeroCells z.cells n = madeCells z.cells (n * sz) := by
        apply Array.ext'
        apply List.ext_getElem?
        intro j
        simp [Builtin.zeroCells, madeCells, ak]
      rw [this, Le sz n z.cells ak hT.pos]
    have hlen : (Builtin.zeroCells z.cells (xs.length - m)).toList.length = (xs.length - m) * sz := by simp only [Array.length_toList, size_zeroCells, ak]
    have af : (pre ++ vss.flatten ++ sp) = ((pre ++ (vss.take m).flatten) ++ (vss.drop m).flatten ++ sp) := by rw [ae]; simp only [List.append_assoc]
    rw [af] at hs
    have bh : (pre ++ (vss.take m).flatten).length = pre.length + m * sz := by rw [List.length_append, ao]
    obtain ⟨w', hr, au⟩ := Ey (P := P) (i := 0) (Builtin.zeroCells z.cells (xs.length - m)).toList w _ _ (pre ++ (vss.take m).flatten).length 0 hs rfl (by
      simp only [List.size_toArray, List.length_append, ao, aq, hlen]; omega) (by rw [ar]; exact (ah _).PK hR)
    have ai : ((Builtin.zeroCells z.cells (xs.length - m)).toList.zipIdx ((pre ++ (vss.take m).flatten).length + 0)).foldl (fun (c : Array Value) p => c.setIfInBounds p.2 p.1) ((pre ++ (vss.take m).flatten) ++ (vss.drop m).flatten ++ sp).toArray = ((pre ++ (vss.take m).flatten) ++ (List.replicate (xs.length - m) z.cells.toList).flatten ++ sp).toArray := by
      rw [Nat.add_zero, L4 _ _ _ _ (by rw [hlen, aq]), ar]
    rw [ai] at au
    rw [bh] at hr
    have aa : Ew (R F) (vss.take m ++ List.replicate (xs.length - m) z.cells.toList) zs := by rw [hz]; exact (h4.take m).append (ah _)
    have av : (vss.take m ++ List.replicate (xs.length - m) z.cells.toList).flatten.length = xs.length * sz := by
      rw [C6 (aa.lens hR), aa.length, al]
    refine ⟨.tuple #[], F, _, w', ?_, au, Md hZ hp (k [(g', .cells ((pre ++ (vss.take m).flatten) ++ (List.replicate (xs.length - m) z.cells.toList).flatten ++ sp).toArray E (0, 0))] ⟨fun p hp => ?_, al.symm, _, aa, av, aa.PK hR, .inr ⟨g', cap, pre, sp, rfl, h8, h9, by rw [av, ← h5]; exact bb, ?_⟩⟩)⟩
    · simp [execOp, resolve, invoke, builtin, Builtin.clear_, run_underlying hT.VW, aj.ev hx, h0, zeroValue, typeInfo, ax, ay, hr]
    · rw [List.mem_singleton.1 hp]; exact h3 (g', .cells (pre ++ vss.flatten ++ sp).toArray E (0, 0)) (List.mem_cons_self ..)
    · rw [List.flatten_append]; simp only [List.append_assoc]
end
def Sb (v : Value) (b : Bool) (f : FuncId) : Prop := v.oneCell' = true ∧ (b = true → v = .func (.func f) #[] #[])
theorem Sb.nil (f : FuncId) : Sb .nilFunc false f := ⟨rfl, fun h => nomatch h⟩
theorem Sb.fn (f : FuncId) : Sb (.func (.func f) #[] #[]) true f := ⟨rfl, fun _ => rfl⟩
theorem Ef {P : Program} {N : Nat} {r : Option Nat} {K : Ctx} {ops : Array Oper} {Q : Env → FS → LH → Prop} {e : Env} {F : FS} {L : LH} {done : List Rec} (h : Q e F L) : Rh P N r K ops Q [] e F L done := h
theorem U5 {α : Type} {f : α → List Value} {xs : List α} {n : Nat} (_ : xs.length = n) : ([Value.agg (arr f xs)].flatMap fun v => v.cells.toList).toArray = arr f xs := by simp [Value.cells]
theorem Ps {P : Program} {α : Type} {T E sz bytes n s0 : Nat} {z : Value} {f : α → List Value} (hT : Gw P T E sz z bytes) (hf : S8 s0 f) {xs : List α} (hn : xs.length = n) (hs : n * s0 = sz) (hl : sz ≤ 16777216) (w : World) :
    (Instr.buildSlice T 1 #[(0, .agg (arr f xs))]).run P w = .ok (.slice (some ⟨w.heap.size, 0, none⟩) 1 1) (w.alloc (.cells (arr f xs) E)) := by
  have := H6 hT [.agg (arr f xs)] rfl (Nat.zero_lt_one) (fun v hv => by
    simp only [List.mem_singleton] at hv; subst hv; simp only [Value.cells]; rw [ES hf hn, hs]) (by simp; omega) w
  rw [U5 hn] at this
  exact this
end Go.SH
