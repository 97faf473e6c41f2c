/- The calculus, part Q: strings, and helpers for keys. -/
import Derived.Test.YtfmapnhfamoecaaGreatZLShP
namespace Go.SH
open Go.PL
def sB (l : List Int) : ByteArray := ⟨(l.map fun i => UInt8.ofNat i.toNat).toArray⟩
def sE : JC (List Int) := fun _ vs x => vs = [.string (sB x)]
theorem XT : Dz 1 sE := ⟨fun _ h => h, fun h => by rw [h]; rfl, fun h v hv => by rw [h] at hv; simp at hv; subst hv; rfl⟩
theorem Qz (l : List Int) : (sB l).size = l.length := by simp [sB, ByteArray.size]
theorem Yy {l : List Int} {p : Nat} {c : Int} (hc : l[p]? = some c) (g : 0 ≤ c ∧ c < 128) : ((sB l).get! p).toNat = c.toNat := by
  have : (sB l).get! p = UInt8.ofNat c.toNat := by
    show ((l.map fun i => UInt8.ofNat i.toNat).toArray)[p]! = _
    rw [getElem!_def]
    simp [hc]
  rw [this]
  have : c.toNat < 128 := by omega
  simp only [UInt8.toNat_ofNat']
  omega
theorem SK {P : Program} {T : TypeId} {x y : Array Value} {p : Bool} {w : World} (h : (binOp .eql T (.agg x) (.agg y)).run P w = .ok (.bool p) w) : (Op.equal T (.agg x) (.agg y)).run P w = .ok p w := by
  simp only [binOp, Sem.run_bind] at h
  cases hq : (Op.equal T (.agg x) (.agg y)).run P w <;> rw [hq] at h <;> simp [Result.andThen] at h ⊢
  exact h
section
variable {P : Program} {N : Nat} {r : Option Nat} {K : Ctx} {ops : Array Oper} {Q : Env → FS → LH → Prop} {rest : List Oper} {e : Env} {F : FS} {L : LH} {d : Option Nat} {ty : TypeId} {pos : String} {after : Array Edge}
theorem WM {T : TypeId} {x : Operand} {s : List Int} (hT : P.underlying T = some .string) (hx : ev e x = some (.string (sB s))) : Gs P N K e F L (.call ⟨.builtin .len, #[x], #[T]⟩) ty (.int .i64 (s.length : Int)) := fun M a w d pos after g ha hs => by
  simp [execOp, resolve, invoke, builtin, Builtin.len_, run_underlying hT, ha.ev hx, goInt, Qz]
theorem Uf {T : TypeId} {x : Operand} {s : List Int} (hd : D3 N d = true) (hT : P.underlying T = some .string) (hx : ev e x = some (.string (sB s))) (k : ∀ b, K.w0.heap.size ≤ b → Dl P N r K ops Q rest (e.put d (.pointer (some ⟨b, 0, none⟩))) F ((b, .stringIter (sB s) 0) :: L)) :
    Dl P N r K ops Q (⟨d, .range T x, ty, pos, after, none⟩ :: rest) e F L :=
  JA hd (by intros; simp) fun M a w ha hs => by
    obtain ⟨h1, h2⟩ := hs.push (.stringIter (sB s) 0)
    exact ⟨_, F, _, _, by simp [execOp, Instr.range, run_underlying hT, ha.ev hx, newObj, Sem.run], h1, k _ h2⟩
theorem Vx {x : Operand} {b i p : Nat} {s : List Int} {c : Int} (hd : D3 N d = true) (hx : ev e x = some (.pointer (some ⟨b, 0, none⟩))) (hi : L[i]? = some (b, .stringIter (sB s) p)) (hc : s[p]? = some c) (g : 0 ≤ c ∧ c < 128)
    (k : Dl P N r K ops Q rest (e.put d (.tuple #[.bool true, .int .i64 (p : Int), .int .i32 c])) F (L.set i (b, .stringIter (sB s) (p + 1)))) :
    Dl P N r K ops Q (⟨d, .next x true, ty, pos, after, none⟩ :: rest) e F L :=
  JA hd (by intros; simp) fun M a w ha hs => by
    have hh := hs.own.cell _ (List.mem_of_getElem? hi)
    have ae : p < (sB s).size := by rw [Qz]; exact (List.getElem?_eq_some_iff.1 hc).1
    have aa : Utf8.decode (sB s) p = (c.toNat, 1) := by
      unfold Utf8.decode
      have := Yy hc g
      simp only [Nat.add_zero, this]
      rw [if_pos (by omega)]
    have af : St K M F (L.set i (b, .stringIter (sB s) (p + 1))) (w.putObj b (.stringIter (sB s) (p + 1))) := hs.GB hi rfl rfl rfl (by simp) (World.putObj_heap_same (Array.getElem?_eq_some_iff.1 hh).1) (fun j hj => World.putObj_heap_other hj)
    have ab : (setObj b (.stringIter (sB s) (p + 1))).run P w = .ok () (w.putObj b (.stringIter (sB s) (p + 1))) := by simp [setObj, Sem.run, hh, World.putObj]
    have ad : (getObj b).run P w = .ok (.stringIter (sB s) p) w := by simp [getObj, Sem.run, hh]
    have ah : ((c.toNat : Nat) : Int) = c := by omega
    refine ⟨_, F, _, _, ?_, af, k⟩
    simp [execOp, Instr.next, ha.ev hx, ad, ae, aa, ab, goInt, ah]
theorem Ut {x : Operand} {b i p : Nat} {s : List Int} (hd : D3 N d = true) (hx : ev e x = some (.pointer (some ⟨b, 0, none⟩))) (hi : L[i]? = some (b, .stringIter (sB s) p)) (hp : ¬ p < s.length)
    (k : Dl P N r K ops Q rest (e.put d (.tuple #[.bool false])) F L) :
    Dl P N r K ops Q (⟨d, .next x true, ty, pos, after, none⟩ :: rest) e F L :=
  JA hd (by intros; simp) fun M a w ha hs => by
    have hh := hs.own.cell _ (List.mem_of_getElem? hi)
    have aa : (getObj b).run P w = .ok (.stringIter (sB s) p) w := by simp [getObj, Sem.run, hh]
    have ab : ¬ p < (sB s).size := by rw [Qz]; exact hp
    refine ⟨_, F, _, _, ?_, hs, k⟩
    simp [execOp, Instr.next, ha.ev hx, aa, ab]
end
section
variable {P : Program} {N : Nat} {r : Option Nat} {K : Ctx} {ops : Array Oper} {Q : Env → FS → LH → Prop} {rest : List Oper} {e : Env} {F : FS} {L : LH}
variable {ty : TypeId} {pos : String} {after : Array Edge} {d : Option Nat}
variable {α : Type} {R : JC α} {a : Option Addr} {cap : Nat} {xs ys zs : List α} {Lb : LH} {C : LH → LH}
def XQ (a : Option Addr) (cap l sz : Nat) : Option Addr := if cap = l then a else a.map (·.add (l * sz))
theorem Be.Zx {nb E sz n : Nat} (hR : Dz sz R) (h : Be nb E sz R F a n cap xs Lb) {Lr : LH} (hL : L.Perm (Lb ++ Lr)) {l : Int} (hl : 0 ≤ l ∧ l ≤ (n : Int)) {i : Int} {x : α} (h0 : 0 ≤ i) (hi : (xs.drop l.toNat)[i.toNat]? = some x) :
    ∃ b o c vs, XQ a cap l.toNat sz = some ⟨b, o, none⟩ ∧ Has F L b c ∧ o + i.toNat * sz + sz ≤ c.size ∧ R F vs x ∧ vs.length = sz ∧ ∀ j, j < sz → c[o + i.toNat * sz + j]? = vs[j]? := by
  have hn := h.Eu.1
  obtain ⟨Lb', aa, h'⟩ := h.from hR (l := l.toNat) (by omega)
  obtain ⟨b, o, c, vs, h1, h2, h3, h4, h5, h6⟩ := Be.at hR h' (L := Lb') (Lr := []) (by simp) h0 hi
  exact ⟨b, o, c, vs, h1, h2.ext (A3.refl F) (fun p hp => hL.mem_iff.2 (List.mem_append_left _ (aa.subset hp))), h3, h4, h5, h6⟩
theorem Be.Zu {nb E sz n : Nat} (h : Be nb E sz R F a n cap xs Lb) {l : Int} : ((n - l.toNat : Nat) : Int) = ((xs.length - l.toNat : Nat) : Int) := by rw [h.Eu.1]
theorem Be.YF {nb E sz n : Nat} (h : Be nb E sz R F a n cap xs Lb) {l i : Int} (g : 0 ≤ i ∧ i < ((xs.drop l.toNat).length : Int)) : 0 ≤ i ∧ i < ((n - l.toNat : Nat) : Int) := by rw [h.Eu.1]; simpa using g
theorem Be.gV {nb E sz n : Nat} (h : Be nb E sz R F a n cap xs Lb) {l : Int} (g : 0 ≤ l ∧ l ≤ (xs.length : Int)) : 0 ≤ l ∧ l ≤ (n : Int) := by rw [h.Eu.1]; exact g
theorem Be.Y7 {nb E sz n : Nat} (h : Be nb E sz R F a n cap xs Lb) {l : Int} (g : 0 ≤ l ∧ l ≤ (n : Int)) : 0 ≤ l ∧ l ≤ ((n : Nat) : Int) ∧ ((n : Nat) : Int) ≤ (cap : Int) := by have := h.Eu; omega
theorem V9 {T E : TypeId} {x : Operand} {nb sz bytes n : Nat} {z : Value} {z0 : α} {l : Int} (hd : D3 N d = true) (hT : EJ P T E sz z bytes) (_hbb : bytes ≤ 134217728) (hR : Dz sz R) (aw : ∀ F, R F z.cells.toList z0) (hx : ev e x = some (.slice (XQ a cap l.toNat sz) (n - l.toNat) (cap - l.toNat)))
    (hZ : ∀ X, Zip L Lb (C X) X) (ad : Be nb E sz R F a n cap xs Lb) (hl : 0 ≤ l ∧ l ≤ (n : Int)) (hz : zs = xs.take l.toNat ++ List.replicate (xs.length - l.toNat) z0)
    (k : ∀ Lb', Be nb E sz R F a n cap zs Lb' → Dl P N r K ops Q rest (e.put d (.tuple #[])) F (C Lb')) :
    Dl P N r K ops Q (⟨d, .call ⟨.builtin .clear, #[x], #[T]⟩, ty, pos, after, none⟩ :: rest) e F L := by
  obtain rfl := ad.Eu.1
  obtain ⟨Lr, hp, _⟩ := Zip.one hZ []
  refine Cz hp ?_
  generalize bh : l.toNat = m at *
  have hm : m ≤ xs.length := by omega
  have al : zs.length = xs.length := by rw [hz, List.length_append, List.length_take, List.length_replicate]; omega
  obtain ⟨i', ax, ay, bj, bk⟩ := hT.info
  have ah : ∀ n, E6 (R F) (List.replicate n z.cells.toList) (List.replicate n z0) := fun n => by
    induction n with
    | zero => exact .nil
    | succ n ih => exact .cons (aw F) ih
  by_cases h0 : xs.length - m = 0
  · refine JA hd (by intros; simp) fun M act w aj hs => ?_
    have az : zs = xs := by rw [hz, h0, List.replicate_zero, List.append_nil, List.take_of_length_le (by omega)]
    refine ⟨.tuple #[], F, _, w, ?_, hs, RB hZ hp (k Lb (by rw [az]; exact ad))⟩
    generalize XQ a cap m sz = a1 at hx
    cases a1 <;> simp [execOp, resolve, invoke, builtin, Builtin.clear_, run_underlying hT.VY, aj.ev hx, h0]
  obtain ⟨h3, _, vss, h4, h5, h6, h7⟩ := ad
  rcases h7 with ⟨a', hv, hn, rfl⟩ | ⟨g', ba, pre, sp, hv, h8, h9, bb, rfl⟩
  · omega
  · cases hv
    have ab := h4.lens hR
    have ae : vss.flatten = (vss.take m).flatten ++ (vss.drop m).flatten := by rw [← List.flatten_append, List.take_append_drop]
    have ao : (vss.take m).flatten.length = m * sz := by
      have := Ed (fun v hv => ab v (List.mem_of_mem_take hv) : ∀ v ∈ vss.take m, v.length = sz)
      rw [this, List.length_take, h4.length]; congr 1; omega
    have aq : (vss.drop m).flatten.length = (xs.length - m) * sz := by
      have := Ed (fun v hv => ab v (List.mem_of_mem_drop hv) : ∀ v ∈ vss.drop m, v.length = sz)
      rw [this, List.length_drop, h4.length]
    have bc : ¬ cap = m := by omega
    have bd : XQ (some ⟨g', pre.length, none⟩) cap m sz = some ⟨g', pre.length + m * sz, none⟩ := by simp [XQ, bc, Addr.add]
    rw [bd] at hx
    refine JA hd (by intros; simp) fun M act w aj hs => ?_
    have ak : z.cells.size = sz := hT.zero
    have ar : (Builtin.zeroCells z.cells (xs.length - m)).toList = (List.replicate (xs.length - m) z.cells.toList).flatten := by
      generalize xs.length - m = n
      have : Builtin.zeroCells z.cells n = madeCells z.cells (n * sz) := by
        apply Array.ext'
        apply List.ext_getElem?
        intro j
        simp [Builtin.zeroCells, madeCells, ak]
      rw [this, Np sz n z.cells ak hT.pos]
    have hlen : (Builtin.zeroCells z.cells (xs.length - m)).toList.length = (xs.length - m) * sz := by simp only [Array.length_toList, size_zeroCells, ak]
    have af : (pre ++ vss.flatten ++ sp) = ((pre ++ (vss.take m).flatten) ++ (vss.drop m).flatten ++ sp) := by rw [ae]; simp only [List.append_assoc]
    rw [af] at hs
    have bg : (pre ++ (vss.take m).flatten).length = pre.length + m * sz := by rw [List.length_append, ao]
    obtain ⟨w', hr, au⟩ := FP (P := P) (i := 0) (Builtin.zeroCells z.cells (xs.length - m)).toList w _ _ (pre ++ (vss.take m).flatten).length 0 hs rfl (by
      simp only [List.size_toArray, List.length_append, ao, aq, hlen]; omega) (by rw [ar]; exact (ah _).TF hR)
    have ai : ((Builtin.zeroCells z.cells (xs.length - m)).toList.zipIdx ((pre ++ (vss.take m).flatten).length + 0)).foldl (fun (c : Array Value) p => c.setIfInBounds p.2 p.1) ((pre ++ (vss.take m).flatten) ++ (vss.drop m).flatten ++ sp).toArray = ((pre ++ (vss.take m).flatten) ++ (List.replicate (xs.length - m) z.cells.toList).flatten ++ sp).toArray := by
      rw [Nat.add_zero, NZ _ _ _ _ (by rw [hlen, aq]), ar]
    rw [ai] at au
    rw [bg] at hr
    have aa : E6 (R F) (vss.take m ++ List.replicate (xs.length - m) z.cells.toList) zs := by rw [hz]; exact (h4.take m).append (ah _)
    have av : (vss.take m ++ List.replicate (xs.length - m) z.cells.toList).flatten.length = xs.length * sz := by
      rw [Ed (aa.lens hR), aa.length, al]
    refine ⟨.tuple #[], F, _, w', ?_, au, RB hZ hp (k [(g', .cells ((pre ++ (vss.take m).flatten) ++ (List.replicate (xs.length - m) z.cells.toList).flatten ++ sp).toArray E (0, 0))] ⟨fun p hp => ?_, al.symm, _, aa, av, aa.TF hR, .inr ⟨g', cap, pre, sp, rfl, h8, h9, by rw [av, ← h5]; exact bb, ?_⟩⟩)⟩
    · simp [execOp, resolve, invoke, builtin, Builtin.clear_, run_underlying hT.VY, aj.ev hx, h0, zeroValue, typeInfo, ax, ay, hr]
    · rw [List.mem_singleton.1 hp]; exact h3 (g', .cells (pre ++ vss.flatten ++ sp).toArray E (0, 0)) (List.mem_cons_self ..)
    · rw [List.flatten_append]; simp only [List.append_assoc]
end
def Xf (v : Value) (b : Bool) (f : FuncId) : Prop := v.oneCell' = true ∧ (b = true → v = .func (.func f) #[] #[])
theorem Xf.nil (f : FuncId) : Xf .nilFunc false f := ⟨rfl, fun h => nomatch h⟩
theorem Xf.fn (f : FuncId) : Xf (.func (.func f) #[] #[]) true f := ⟨rfl, fun _ => rfl⟩
theorem Ff {P : Program} {N : Nat} {r : Option Nat} {K : Ctx} {ops : Array Oper} {Q : Env → FS → LH → Prop} {e : Env} {F : FS} {L : LH} {done : List Rec} (h : Q e F L) : SZ P N r K ops Q [] e F L done := h
end Go.SH
