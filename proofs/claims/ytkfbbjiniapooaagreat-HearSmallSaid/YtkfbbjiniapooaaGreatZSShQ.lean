/- The calculus, part Q: strings, and helpers for keys. -/
import Derived.Test.YtkfbbjiniapooaaGreatZSShP
namespace Go.SH
open Go.PL
def sB (l : List Int) : ByteArray := ⟨(l.map fun i => UInt8.ofNat i.toNat).toArray⟩
def sE : Jc (List Int) := fun _ vs x => vs = [.string (sB x)]
theorem Pn : De 1 sE := ⟨fun _ h => h, fun h => by rw [h]; rfl, fun h v hv => by rw [h] at hv; simp at hv; subst hv; rfl⟩
theorem On (l : List Int) : (sB l).size = l.length := by simp [sB, ByteArray.size]
theorem Wn {l : List Int} {p : Nat} {c : Int} (hc : l[p]? = some c) (g : 0 ≤ c ∧ c < 128) : ((sB l).get! p).toNat = c.toNat := by
  have : (sB l).get! p = UInt8.ofNat c.toNat := by
    show ((l.map fun i => UInt8.ofNat i.toNat).toArray)[p]! = _
    rw [getElem!_def]
    simp [hc]
  rw [this]
  have : c.toNat < 128 := by omega
  simp only [UInt8.toNat_ofNat']
  omega
theorem QT {P : Program} {T : TypeId} {x y : Array Value} {p : Bool} {w : World} (h : (binOp .eql T (.agg x) (.agg y)).run P w = .ok (.bool p) w) : (Op.equal T (.agg x) (.agg y)).run P w = .ok p w := by
  simp only [binOp, Sem.run_bind] at h
  cases hq : (Op.equal T (.agg x) (.agg y)).run P w <;> rw [hq] at h <;> simp [Result.andThen] at h ⊢
  exact h
section
variable {P : Program} {N : Nat} {r : Option Nat} {K : Ctx} {ops : Array Oper} {Q : Env → FS → LH → Prop} {rest : List Oper} {e : Env} {F : FS} {L : LH} {d : Option Nat} {ty : TypeId} {pos : String} {after : Array Edge}
theorem T6 {T : TypeId} {x : Operand} {s : List Int} (hT : P.underlying T = some .string) (hx : ev e x = some (.string (sB s))) : FC P N K e F L (.call ⟨.builtin .len, #[x], #[T]⟩) ty (.int .i64 (s.length : Int)) := fun M a w d pos after g ha hs => by
  simp [execOp, resolve, invoke, builtin, Builtin.len_, run_underlying hT, ha.ev hx, goInt, On]
theorem Sd {T : TypeId} {x : Operand} {s : List Int} (hd : Dq N d = true) (hT : P.underlying T = some .string) (hx : ev e x = some (.string (sB s))) (k : ∀ b, K.w0.heap.size ≤ b → C7 P N r K ops Q rest (e.put d (.pointer (some ⟨b, 0, none⟩))) F ((b, .stringIter (sB s) 0) :: L)) :
    C7 P N r K ops Q (⟨d, .range T x, ty, pos, after, none⟩ :: rest) e F L :=
  Hg hd (by intros; simp) fun M a w ha hs => by
    obtain ⟨h1, h2⟩ := hs.push (.stringIter (sB s) 0)
    exact ⟨_, F, _, _, by simp [execOp, Instr.range, run_underlying hT, ha.ev hx, newObj, Sem.run], h1, k _ h2⟩
theorem Tm {x : Operand} {b i p : Nat} {s : List Int} {c : Int} (hd : Dq N d = true) (hx : ev e x = some (.pointer (some ⟨b, 0, none⟩))) (hi : L[i]? = some (b, .stringIter (sB s) p)) (hc : s[p]? = some c) (g : 0 ≤ c ∧ c < 128)
    (k : C7 P N r K ops Q rest (e.put d (.tuple #[.bool true, .int .i64 (p : Int), .int .i32 c])) F (L.set i (b, .stringIter (sB s) (p + 1)))) :
    C7 P N r K ops Q (⟨d, .next x true, ty, pos, after, none⟩ :: rest) e F L :=
  Hg hd (by intros; simp) fun M a w ha hs => by
    have hh := hs.own.cell _ (List.mem_of_getElem? hi)
    have ae : p < (sB s).size := by rw [On]; exact (List.getElem?_eq_some_iff.1 hc).1
    have aa : Utf8.decode (sB s) p = (c.toNat, 1) := by
      unfold Utf8.decode
      have := Wn hc g
      simp only [Nat.add_zero, this]
      rw [if_pos (by omega)]
    have af : St K M F (L.set i (b, .stringIter (sB s) (p + 1))) (w.putObj b (.stringIter (sB s) (p + 1))) := hs.PA hi rfl rfl rfl (by simp) (World.putObj_heap_same (Array.getElem?_eq_some_iff.1 hh).1) (fun j hj => World.putObj_heap_other hj)
    have ab : (setObj b (.stringIter (sB s) (p + 1))).run P w = .ok () (w.putObj b (.stringIter (sB s) (p + 1))) := by simp [setObj, Sem.run, hh, World.putObj]
    have ad : (getObj b).run P w = .ok (.stringIter (sB s) p) w := by simp [getObj, Sem.run, hh]
    have ah : ((c.toNat : Nat) : Int) = c := by omega
    refine ⟨_, F, _, _, ?_, af, k⟩
    simp [execOp, Instr.next, ha.ev hx, ad, ae, aa, ab, goInt, ah]
theorem Sn {x : Operand} {b i p : Nat} {s : List Int} (hd : Dq N d = true) (hx : ev e x = some (.pointer (some ⟨b, 0, none⟩))) (hi : L[i]? = some (b, .stringIter (sB s) p)) (hp : ¬ p < s.length)
    (k : C7 P N r K ops Q rest (e.put d (.tuple #[.bool false])) F L) :
    C7 P N r K ops Q (⟨d, .next x true, ty, pos, after, none⟩ :: rest) e F L :=
  Hg hd (by intros; simp) fun M a w ha hs => by
    have hh := hs.own.cell _ (List.mem_of_getElem? hi)
    have aa : (getObj b).run P w = .ok (.stringIter (sB s) p) w := by simp [getObj, Sem.run, hh]
    have ab : ¬ p < (sB s).size := by rw [On]; exact hp
    refine ⟨_, F, _, _, ?_, hs, k⟩
    simp [execOp, Instr.next, ha.ev hx, aa, ab]
end
section
variable {P : Program} {N : Nat} {r : Option Nat} {K : Ctx} {ops : Array Oper} {Q : Env → FS → LH → Prop} {rest : List Oper} {e : Env} {F : FS} {L : LH}
variable {ty : TypeId} {pos : String} {after : Array Edge} {d : Option Nat}
variable {α : Type} {R : Jc α} {a : Option Addr} {cap : Nat} {xs ys zs : List α} {Lb : LH} {C : LH → LH}
def UR (a : Option Addr) (cap l sz : Nat) : Option Addr := if cap = l then a else a.map (·.add (l * sz))
theorem AN.W3 {nb E sz n : Nat} (hR : De sz R) (h : AN nb E sz R F a n cap xs Lb) {Lr : LH} (hL : L.Perm (Lb ++ Lr)) {l : Int} (hl : 0 ≤ l ∧ l ≤ (n : Int)) {i : Int} {x : α} (h0 : 0 ≤ i) (hi : (xs.drop l.toNat)[i.toNat]? = some x) :
    ∃ b o c vs, UR a cap l.toNat sz = some ⟨b, o, none⟩ ∧ Has F L b c ∧ o + i.toNat * sz + sz ≤ c.size ∧ R F vs x ∧ vs.length = sz ∧ ∀ j, j < sz → c[o + i.toNat * sz + j]? = vs[j]? := by
  have hn := h.Bm.1
  obtain ⟨Lb', aa, h'⟩ := h.from hR (l := l.toNat) (by omega)
  obtain ⟨b, o, c, vs, h1, h2, h3, h4, h5, h6⟩ := AN.at hR h' (L := Lb') (Lr := []) (by simp) h0 hi
  exact ⟨b, o, c, vs, h1, h2.ext (AY.refl F) (fun p hp => hL.mem_iff.2 (List.mem_append_left _ (aa.subset hp))), h3, h4, h5, h6⟩
theorem AN.Xa {nb E sz n : Nat} (h : AN nb E sz R F a n cap xs Lb) {l : Int} : ((n - l.toNat : Nat) : Int) = ((xs.length - l.toNat : Nat) : Int) := by rw [h.Bm.1]
theorem AN.Tw {nb E sz n : Nat} (h : AN nb E sz R F a n cap xs Lb) {l i : Int} (g : 0 ≤ i ∧ i < ((xs.drop l.toNat).length : Int)) : 0 ≤ i ∧ i < ((n - l.toNat : Nat) : Int) := by rw [h.Bm.1]; simpa using g
theorem AN.gV {nb E sz n : Nat} (h : AN nb E sz R F a n cap xs Lb) {l : Int} (g : 0 ≤ l ∧ l ≤ (xs.length : Int)) : 0 ≤ l ∧ l ≤ (n : Int) := by rw [h.Bm.1]; exact g
theorem AN.VA {nb E sz n : Nat} (h : AN nb E sz R F a n cap xs Lb) {l : Int} (g : 0 ≤ l ∧ l ≤ (n : Int)) : 0 ≤ l ∧ l ≤ ((n : Nat) : Int) ∧ ((n : Nat) : Int) ≤ (cap : Int) := by have := h.Bm; omega
theorem Rd {T E : TypeId} {x : Operand} {nb sz bytes n : Nat} {z : Value} {z0 : α} {l : Int} (hd : Dq N d = true) (hT : GL P T E sz z bytes) (_hbb : bytes ≤ 134217728) (hR : De sz R) (ax : ∀ F, R F z.cells.toList z0) (hx : ev e x = some (.slice (UR a cap l.toNat sz) (n - l.toNat) (cap - l.toNat)))
    (hZ : ∀ X, Zip L Lb (C X) X) (ad : AN nb E sz R F a n cap xs Lb) (hl : 0 ≤ l ∧ l ≤ (n : Int)) (hz : zs = xs.take l.toNat ++ List.replicate (xs.length - l.toNat) z0)
    (k : ∀ Lb', AN nb E sz R F a n cap zs Lb' → C7 P N r K ops Q rest (e.put d (.tuple #[])) F (C Lb')) :
    C7 P N r K ops Q (⟨d, .call ⟨.builtin .clear, #[x], #[T]⟩, ty, pos, after, none⟩ :: rest) e F L := by
  obtain rfl := ad.Bm.1
  obtain ⟨Lr, hp, _⟩ := Zip.one hZ []
  refine AV hp ?_
  generalize bk : l.toNat = m at *
  have hm : m ≤ xs.length := by omega
  have ao : zs.length = xs.length := by rw [hz, List.length_append, List.length_take, List.length_replicate]; omega
  obtain ⟨i', ay, az, bl, bm⟩ := hT.info
  have ah : ∀ n, ES (R F) (List.replicate n z.cells.toList) (List.replicate n z0) := fun n => by
    induction n with
    | zero => exact .nil
    | succ n ih => exact .cons (ax F) ih
  by_cases h0 : xs.length - m = 0
  · refine Hg hd (by intros; simp) fun M act w aj hs => ?_
    have ba : zs = xs := by rw [hz, h0, List.replicate_zero, List.append_nil, List.take_of_length_le (by omega)]
    refine ⟨.tuple #[], F, _, w, ?_, hs, LF hZ hp (k Lb (by rw [ba]; exact ad))⟩
    generalize UR a cap m sz = a1 at hx
    cases a1 <;> simp [execOp, resolve, invoke, builtin, Builtin.clear_, run_underlying hT.R7, aj.ev hx, h0]
  obtain ⟨h3, _, vss, h4, h5, h6, h7⟩ := ad
  rcases h7 with ⟨a', hv, hn, rfl⟩ | ⟨g', bb, pre, sp, hv, h8, h9, bc, rfl⟩
  · omega
  · cases hv
    have ab := h4.lens hR
    have ae : vss.flatten = (vss.take m).flatten ++ (vss.drop m).flatten := by rw [← List.flatten_append, List.take_append_drop]
    have aq : (vss.take m).flatten.length = m * sz := by
      have := DU (fun v hv => ab v (List.mem_of_mem_take hv) : ∀ v ∈ vss.take m, v.length = sz)
      rw [this, List.length_take, h4.length]; congr 1; omega
    have ar : (vss.drop m).flatten.length = (xs.length - m) * sz := by
      have := DU (fun v hv => ab v (List.mem_of_mem_drop hv) : ∀ v ∈ vss.drop m, v.length = sz)
      rw [this, List.length_drop, h4.length]
    have bg : ¬ cap = m := by omega
    have bh : UR (some ⟨g', pre.length, none⟩) cap m sz = some ⟨g', pre.length + m * sz, none⟩ := by simp [UR, bg, Addr.add]
    rw [bh] at hx
    refine Hg hd (by intros; simp) fun M act w aj hs => ?_
    have ak : z.cells.size = sz := hT.zero
    have au : (Builtin.zeroCells z.cells (xs.length - m)).toList = (List.replicate (xs.length - m) z.cells.toList).flatten := by
      generalize xs.length - m = n
      have : Builtin.zeroCells z.cells n = madeCells z.cells (n * sz) := by
        apply Array.ext'
        apply List.ext_getElem?
        intro j
        simp [Builtin.zeroCells, madeCells, ak]
      rw [this, JS sz n z.cells ak hT.pos]
    have hlen : (Builtin.zeroCells z.cells (xs.length - m)).toList.length = (xs.length - m) * sz := by simp only [Array.length_toList, size_zeroCells, ak]
    have af : (pre ++ vss.flatten ++ sp) = ((pre ++ (vss.take m).flatten) ++ (vss.drop m).flatten ++ sp) := by rw [ae]; simp only [List.append_assoc]
    rw [af] at hs
    have bj : (pre ++ (vss.take m).flatten).length = pre.length + m * sz := by rw [List.length_append, aq]
    obtain ⟨w', hr, av⟩ := D7 (P := P) (i := 0) (Builtin.zeroCells z.cells (xs.length - m)).toList w _ _ (pre ++ (vss.take m).flatten).length 0 hs rfl (by
      simp only [List.size_toArray, List.length_append, aq, ar, hlen]; omega) (by rw [au]; exact (ah _).PD hR)
    have ai : ((Builtin.zeroCells z.cells (xs.length - m)).toList.zipIdx ((pre ++ (vss.take m).flatten).length + 0)).foldl (fun (c : Array Value) p => c.setIfInBounds p.2 p.1) ((pre ++ (vss.take m).flatten) ++ (vss.drop m).flatten ++ sp).toArray = ((pre ++ (vss.take m).flatten) ++ (List.replicate (xs.length - m) z.cells.toList).flatten ++ sp).toArray := by
      rw [Nat.add_zero, Kh _ _ _ _ (by rw [hlen, ar]), au]
    rw [ai] at av
    rw [bj] at hr
    have aa : ES (R F) (vss.take m ++ List.replicate (xs.length - m) z.cells.toList) zs := by rw [hz]; exact (h4.take m).append (ah _)
    have aw : (vss.take m ++ List.replicate (xs.length - m) z.cells.toList).flatten.length = xs.length * sz := by
      rw [DU (aa.lens hR), aa.length, ao]
    refine ⟨.tuple #[], F, _, w', ?_, av, LF hZ hp (k [(g', .cells ((pre ++ (vss.take m).flatten) ++ (List.replicate (xs.length - m) z.cells.toList).flatten ++ sp).toArray E (0, 0))] ⟨fun p hp => ?_, ao.symm, _, aa, aw, aa.PD hR, .inr ⟨g', cap, pre, sp, rfl, h8, h9, by rw [aw, ← h5]; exact bc, ?_⟩⟩)⟩
    · simp [execOp, resolve, invoke, builtin, Builtin.clear_, run_underlying hT.R7, aj.ev hx, h0, zeroValue, typeInfo, ay, az, hr]
    · rw [List.mem_singleton.1 hp]; exact h3 (g', .cells (pre ++ vss.flatten ++ sp).toArray E (0, 0)) (List.mem_cons_self ..)
    · rw [List.flatten_append]; simp only [List.append_assoc]
end
def RT (v : Value) (b : Bool) (f : FuncId) : Prop := v.oneCell' = true ∧ (b = true → v = .func (.func f) #[] #[])
theorem RT.nil (f : FuncId) : RT .nilFunc false f := ⟨rfl, fun h => nomatch h⟩
theorem RT.fn (f : FuncId) : RT (.func (.func f) #[] #[]) true f := ⟨rfl, fun _ => rfl⟩
theorem DI {P : Program} {N : Nat} {r : Option Nat} {K : Ctx} {ops : Array Oper} {Q : Env → FS → LH → Prop} {e : Env} {F : FS} {L : LH} {done : List Rec} (h : Q e F L) : Oq P N r K ops Q [] e F L done := h
theorem U3 {α : Type} {f : α → List Value} {xs : List α} {n : Nat} (_ : xs.length = n) : ([Value.agg (arr f xs)].flatMap fun v => v.cells.toList).toArray = arr f xs := by simp [Value.cells]
theorem OJ {P : Program} {α : Type} {T E sz bytes n s0 : Nat} {z : Value} {f : α → List Value} (hT : GL P T E sz z bytes) (hf : Vi s0 f) {xs : List α} (hn : xs.length = n) (hs : n * s0 = sz) (hl : sz ≤ 16777216) (w : World) :
    (Instr.buildSlice T 1 #[(0, .agg (arr f xs))]).run P w = .ok (.slice (some ⟨w.heap.size, 0, none⟩) 1 1) (w.alloc (.cells (arr f xs) E)) := by
  have := JL hT [.agg (arr f xs)] rfl (Nat.zero_lt_one) (fun v hv => by
    simp only [List.mem_singleton] at hv; subst hv; simp only [Value.cells]; rw [Kw hf hn, hs]) (by simp; omega) w
  rw [U3 hn] at this
  exact this
end Go.SH
