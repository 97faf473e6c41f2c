/- The calculus, part O: parts of lists, stores to elements, copies, arrays in variables. -/
import Derived.Test.YtdhookifhfkcpaaGreatZBShN
import Derived.Laws.Cover3
import Derived.Laws.Small
namespace Go.SH
open Go.PL
section
variable {α : Type} {R : Hf α} {sz : Nat} {F : FS}
theorem Qb {vss : List (List Value)} {l h : Nat} (hv : ∀ vs ∈ vss, vs.length = sz) (_hlh : l ≤ h) : ((vss.take h).drop l).flatten = (vss.flatten.drop (l * sz)).take ((h - l) * sz) := by
  have e1 : (vss.take h).drop l = (vss.drop l).take (h - l) := by rw [List.drop_take]
  rw [e1, FA _ _ (fun vs hm => hv vs (List.mem_of_mem_drop hm)), Jr _ _ hv]
theorem At.slice (hR : Ck sz R) {a : Option Addr} {c : Nat} {xs ys : List α} (h : At sz R F a c xs) {l hh : Int} (g : (0 ≤ l ∧ l ≤ hh) ∧ hh ≤ xs.length) (he : ys = sl xs l hh) :
    ∃ a' c', At sz R F a' c' ys ∧ (0 ≤ l ∧ l ≤ hh ∧ hh ≤ c) ∧ Value.slice a' ys.length c' = .slice (if c = l.toNat then a else a.map (·.add (l.toNat * sz))) (hh.toNat - l.toNat) (c - l.toNat) := by
  obtain ⟨vss, h1, h2⟩ := h
  have hle := h2.le
  have hlen : ys.length = hh.toNat - l.toNat := by rw [he]; unfold sl; rw [List.length_drop, List.length_take]; omega
  refine ⟨_, _, ⟨(vss.take hh.toNat).drop l.toNat, ?_, ?_⟩, ⟨g.1.1, g.1.2, by omega⟩, by rw [hlen]⟩
  · rw [he]; exact (h1.take _).drop _
  · rw [hlen, Qb (h1.lens hR) (by omega)]
    exact h2.slice (by omega) (by omega)
variable {nb E n cap : Nat} {a : Option Addr} {xs ys : List α} {Lb : LH}
theorem AI.upto (h : AI nb E sz R F a n cap xs Lb) (hR : Ck sz R) {k : Nat} (hk : k ≤ n) : AI nb E sz R F a k cap (xs.take k) Lb := by
  obtain ⟨h0, rfl, vss, h1, h2, h3, h4⟩ := h
  have hv := h1.lens hR
  have aa : (vss.take k).flatten = vss.flatten.take (k * sz) := FA _ _ hv
  have ae : k * sz ≤ xs.length * sz := Nat.mul_le_mul_right _ hk
  refine ⟨h0, by rw [List.length_take]; omega, vss.take k, h1.take k, ?_, fun v hm => h3 v (by rw [aa] at hm; exact List.mem_of_mem_take hm), ?_⟩
  · rw [aa, List.length_take, h2]; omega
  · rcases h4 with ⟨a', ab, hn, rfl⟩ | ⟨g, ad, pre, sp, ab, h5, h6, h7, rfl⟩
    · injection ab with e1 e2 e3
      subst e1; subst e3
      obtain rfl : k = 0 := by omega
      exact .inl ⟨a, rfl, rfl, rfl⟩
    · cases ab
      refine .inr ⟨g, cap, pre, vss.flatten.drop (k * sz) ++ sp, rfl, by omega, h6, ?_, ?_⟩
      · rw [aa, List.length_append, List.length_take, List.length_drop, h2]; omega
      · rw [aa]; simp only [List.append_assoc]
        rw [← List.append_assoc (List.take _ _), List.take_append_drop]
end
section
variable {P : Program} {N : Nat} {r : Option Nat} {K : Ctx} {ops : Array Oper} {Q : Env → FS → LH → Prop} {rest : List Oper} {e : Env} {F : FS} {L : LH}
variable {ty : TypeId} {pos : String} {after : Array Edge} {d : Option Nat}
variable {α : Type} {R : Hf α} {a : Option Addr} {cap : Nat} {xs ys zs : List α} {Lb : LH} {C : LH → LH}
theorem Mk {l : List Oper} {Lr Lb' : LH} (hZ : ∀ X, Zip L Lb (C X) X) (hL : L.Perm (Lb ++ Lr)) (k : Ct P N r K ops Q l e F (C Lb')) : Ct P N r K ops Q l e F (Lb' ++ Lr) := by
  obtain ⟨aa, h2, h3⟩ := Zip.one hZ Lb'
  exact Bc (((List.perm_append_left_iff Lb).1 (hL.symm.trans h2)).append_left Lb' |>.trans h3.symm) k
theorem N1 {T E : TypeId} {x : Operand} {lo hi : Option Operand} {nb sz bytes n : Nat} {z : Value} {l h : Int} (hd : CW N d = true) (hT : EN P T E sz z bytes) (hR : Ck sz R) (hx : ev e x = some (.slice a n cap))
    (ad : (lo = none ∧ l = 0) ∨ ∃ y, lo = some y ∧ ev e y = some (.int .i64 l)) (ae : (hi = none ∧ h = (xs.length : Int)) ∨ ∃ y, hi = some y ∧ ev e y = some (.int .i64 h)) (hZ : ∀ X, Zip L Lb (C X) X) (aa : AI nb E sz R F a n cap xs Lb)
    (g : (0 ≤ l ∧ l ≤ h) ∧ h ≤ xs.length) (he : zs = sl xs l h)
    (k : ∀ a' n' c' Lb', AI nb E sz R F a' n' c' zs Lb' → Ct P N r K ops Q rest (e.put d (.slice a' n' c')) F (C Lb')) :
    Ct P N r K ops Q (⟨d, .slice T x lo hi none, ty, pos, after, none⟩ :: rest) e F L := by
  have hc := aa.A1
  have h1 := (aa.upto hR (k := h.toNat) (by omega)).from hR (l := l.toNat) (by omega)
  obtain ⟨Lb', ab, h2⟩ := h1
  refine ov (I3 hT.Qw hT.size hx ad (ae.imp (fun h => ⟨h.1, by rw [h.2, hc.1]⟩) id) ⟨g.1.1, g.1.2, by omega⟩) (by simp [Pd, hd, Op.E0]) ?_
  obtain ⟨Lr, h3, _⟩ := Zip.one hZ []
  refine Bc h3 (Ro (ab.append_right Lr) (Mk hZ h3 ?_))
  refine k _ _ _ Lb' ?_
  rw [he]; exact h2
theorem Dq {T E : TypeId} {x y : Operand} {nb sz b o n : Nat} {i : Int} {v : Value} {u : α} (hT : ∀ w, (sizeOf T).run P w = .ok sz w) (hR : Ck sz R) (hx : ev e x = some (.pointer (some ⟨b, o + i.toNat * sz, none⟩))) (ha : a = some ⟨b, o, none⟩) (hy : ev e y = some v) (hu : R F v.cells.toList u)
    (hZ : ∀ X, Zip L Lb (C X) X) (aa : AI nb E sz R F a n cap xs Lb) (hz : zs = xs.set i.toNat u) (g : 0 ≤ i ∧ i < (xs.length : Int))
    (k : ∀ Lb', AI nb E sz R F a n cap zs Lb' → Ct P N r K ops Q rest e F (C Lb')) :
    Ct P N r K ops Q (⟨none, .store T x y, ty, pos, after, none⟩ :: rest) e F L := by
  obtain ⟨Lr, h1, _⟩ := Zip.one hZ []
  have hn := aa.A1.1
  refine Rf hT hR hx ha hy hu h1 aa g.1 (by rw [hn]; exact g.2) fun Lb' h => Mk hZ h1 (k Lb' ?_)
  rw [hz]; exact h
theorem JC {T E : TypeId} {x y : Operand} {nb sz b o off n : Nat} {i : Int} {v : Value} {x0 u : α} (hT : ∀ w, (sizeOf T).run P w = .ok 1 w) (hR : Ck sz R) (hx : ev e x = some (.pointer (some ⟨b, o + i.toNat * sz + off, none⟩))) (ha : a = some ⟨b, o, none⟩) (hy : ev e y = some v) (h1 : v.oneCell' = true) (au : off < sz)
    (av : xs[i.toNat]? = some x0) (hu : ∀ vs, R F vs x0 → R F (vs.set off v) u)
    (hZ : ∀ X, Zip L Lb (C X) X) (ab : AI nb E sz R F a n cap xs Lb) (hz : zs = xs.set i.toNat u) (g : 0 ≤ i ∧ i < (xs.length : Int))
    (k : ∀ Lb', AI nb E sz R F a n cap zs Lb' → Ct P N r K ops Q rest e F (C Lb')) :
    Ct P N r K ops Q (⟨none, .store T x y, ty, pos, after, none⟩ :: rest) e F L := by
  obtain rfl := ab.A1.1
  obtain ⟨Lr, hp, _⟩ := Zip.one hZ []
  refine Bc hp ?_
  subst ha
  obtain ⟨h3, _, vss, h4, h5, h6, h7⟩ := ab
  rcases h7 with ⟨_, _, hv, _⟩ | ⟨g', aw, pre, sp, hv, h8, h9, ax, rfl⟩
  · omega
  · cases hv
    obtain ⟨vs, ak, al⟩ := h4.get av
    have hlen := h4.lens hR
    have ae : i.toNat < vss.length := by rw [h4.length]; omega
    have ba : vs.length = sz := hR.len al
    have ay : v.cells = #[v] := by cases v <;> simp_all [Value.cells, Value.oneCell']
    have hbound : i.toNat * sz + sz ≤ xs.length * sz := by have := Nat.mul_le_mul_right sz (show i.toNat + 1 ≤ xs.length by omega); rwa [Nat.add_mul, Nat.one_mul] at this
    have az : zs.length = xs.length := by rw [hz, List.length_set]
    have ao : DT (R F) (vss.set i.toNat (vs.set off v)) zs := by rw [hz]; exact h4.set (hu vs al) i.toNat
    have ah : (vss.set i.toNat (vs.set off v)).flatten = vss.flatten.set (i.toNat * sz + off) v := by
      have aa : vss = vss.take i.toNat ++ (vs :: vss.drop (i.toNat + 1)) := by
        have : vss[i.toNat] = vs := by rw [List.getElem?_eq_getElem ae] at ak; exact Option.some.inj ak
        rw [← this, ← List.drop_eq_getElem_cons ae, List.take_append_drop]
      have ai : (vss.take i.toNat).flatten.length = i.toNat * sz := by
        rw [DB (fun u hu => hlen u (List.mem_of_mem_take hu)), List.length_take, Nat.min_eq_left (Nat.le_of_lt ae)]
      have aj : vss.set i.toNat (vs.set off v) = vss.take i.toNat ++ (vs.set off v :: vss.drop (i.toNat + 1)) := by rw [List.set_eq_take_append_cons_drop, if_pos ae]
      rw [aj, List.flatten_append, List.flatten_cons]
      conv => rhs; rw [aa, List.flatten_append, List.flatten_cons]
      rw [List.set_append_right _ _ (by omega), ai, Nat.add_sub_cancel_left, List.set_append_left _ _ (by omega)]
    refine MV (by intros; simp) fun M act w aq hs => ?_
    obtain ⟨w', hr, ar⟩ := DV (P := P) (i := 0) [v] w _ _ (pre.length + i.toNat * sz + off) 0 hs rfl (by
      simp only [List.size_toArray, List.length_append, h5, List.length_singleton]; omega) (by simpa using h1)
    have ad : (([v] : List Value).zipIdx (pre.length + i.toNat * sz + off + 0)).foldl (fun c p => c.setIfInBounds p.2 p.1) (pre ++ vss.flatten ++ sp).toArray = (pre ++ (vss.set i.toNat (vs.set off v)).flatten ++ sp).toArray := by
      apply Array.ext'
      rw [ah]
      simp only [List.zipIdx_cons, List.zipIdx_nil, List.foldl_cons, List.foldl_nil, Array.toList_setIfInBounds, Nat.add_zero]
      rw [List.append_assoc, List.set_append_right _ _ (by omega), List.append_assoc, show pre.length + i.toNat * sz + off - pre.length = i.toNat * sz + off by omega, List.set_append_left _ _ (by rw [h5]; omega)]
    rw [ad] at ar
    refine ⟨F, _, w', ?_, ar, Mk hZ hp (k [(b, .cells (pre ++ (vss.set i.toNat (vs.set off v)).flatten ++ sp).toArray E (0, 0))] ⟨fun p hp => ?_, az.symm, _, ao, ?_⟩)⟩
    · simp [execOp, Instr.storeAt, Instr.sureAddr, storeVar, aq.ev hx, aq.ev hy, hT, ay, hr]
    · rw [List.mem_singleton.1 hp]; exact h3 (b, .cells (pre ++ vss.flatten ++ sp).toArray E (0, 0)) (List.mem_cons_self ..)
    · exact ⟨by rw [ah, List.length_set, h5], ao.OE hR, .inr ⟨b, cap, pre, sp, rfl, h8, h9, by rw [ah, List.length_set]; exact ax, rfl⟩⟩
theorem NS {α : Type} {n : Nat} {f : α → List Value} (hf : QI 1 f) {F : FS} {vs : List Value} {x : List α} (h : J4 n f F vs x) {j : Nat} {y : α} {v : Value} (_hj : j < n) (hv : f y = [v]) : J4 n f F (vs.set (j * 1) v) (x.set j y) := by
  obtain ⟨rfl, h2⟩ := h
  refine ⟨?_, by rw [List.length_set, h2]⟩
  rw [Nat.mul_one]
  clear h2 _hj
  induction x generalizing j with
  | nil => simp
  | cons z x ih =>
    have hz := hf.len z
    cases j with
    | zero =>
      simp only [List.set_cons_zero, List.flatMap_cons, hv]
      match aa : f z, hz with
      | [w], _ => rfl
    | succ j =>
      simp only [List.set_cons_succ, List.flatMap_cons, ← ih]
      rw [List.set_append_right _ _ (by omega), hz]; rfl
theorem MT {T T2 E : TypeId} {x y : Operand} {nb sz bytes c2 n m : Nat} {z : Value} {a2 : Option Addr} (hd : CW N d = true) (hT : EN P T E sz z bytes) (hR : Ck sz R) (hx : ev e x = some (.slice a n cap)) (hy : ev e y = some (.slice a2 m c2))
    (hZ : ∀ X, Zip L Lb (C X) X) (aa : AI nb E sz R F a n cap xs Lb) (ab : FL sz R F L a2 m ys) (hz : zs = Sw xs ys)
    (k : ∀ Lb', AI nb E sz R F a n cap zs Lb' → Ct P N r K ops Q rest (e.put d (.int .i64 (Nat.min ys.length xs.length : Nat))) F (C Lb')) :
    Ct P N r K ops Q (⟨d, .call ⟨.builtin .copy, #[x, y], #[T, T2]⟩, ty, pos, after, none⟩ :: rest) e F L := by
  obtain rfl := aa.A1.1
  obtain rfl := ab.1
  obtain ⟨Lr, h1, _⟩ := Zip.one hZ []
  refine RI hd hT hR hx hy h1 aa ab fun Lb' h => Mk hZ h1 (k Lb' ?_)
  rw [hz]; exact h
theorem N5 {T E : TypeId} {x : Operand} {nb sz bytes n : Nat} {z : Value} {z0 : α} (hd : CW N d = true) (hT : EN P T E sz z bytes) (_hbb : bytes ≤ 134217728) (hR : Ck sz R) (ao : ∀ F, R F z.cells.toList z0) (hx : ev e x = some (.slice a n cap))
    (hZ : ∀ X, Zip L Lb (C X) X) (ab : AI nb E sz R F a n cap xs Lb) (hz : zs = List.replicate xs.length z0)
    (k : ∀ Lb', AI nb E sz R F a n cap zs Lb' → Ct P N r K ops Q rest (e.put d (.tuple #[])) F (C Lb')) :
    Ct P N r K ops Q (⟨d, .call ⟨.builtin .clear, #[x], #[T]⟩, ty, pos, after, none⟩ :: rest) e F L := by
  obtain rfl := ab.A1.1
  obtain ⟨Lr, hp, _⟩ := Zip.one hZ []
  refine Bc hp ?_
  have aj : zs.length = xs.length := by rw [hz, List.length_replicate]
  obtain ⟨i', aq, ar, aw, ax⟩ := hT.info
  obtain ⟨h3, _, vss, h4, h5, h6, h7⟩ := ab
  rcases h7 with ⟨a', hv, hn, rfl⟩ | ⟨g', au, pre, sp, hv, h8, h9, av, rfl⟩
  · injection hv with e1 e2 e3
    subst e1; subst e3
    refine Jl hd (by intros; simp) fun M act w ae hs => ?_
    refine ⟨.tuple #[], F, _, w, ?_, hs, Mk hZ hp (k [] ⟨fun p hp => by simp at hp, aj.symm, [], ?_, ?_⟩)⟩
    · cases a <;> simp [execOp, resolve, invoke, builtin, Builtin.clear_, run_underlying hT.Qw, ae.ev hx, hn]
    · have : zs = [] := List.eq_nil_of_length_eq_zero (by omega)
      subst this; exact .nil
    · exact ⟨by rw [hn]; simp, fun v h => by simp at h, .inl ⟨a, by rw [hn], hn, rfl⟩⟩
  · cases hv
    refine Jl hd (by intros; simp) fun M act w ae hs => ?_
    have ah : z.cells.size = sz := hT.zero
    have aa : ∀ n, DT (R F) (List.replicate n z.cells.toList) (List.replicate n z0) := fun n => by
      induction n with
      | zero => exact .nil
      | succ n ih => exact .cons (ao F) ih
    have ai : (Builtin.zeroCells z.cells xs.length).toList = (List.replicate xs.length z.cells.toList).flatten := by
      generalize xs.length = n
      have : Builtin.zeroCells z.cells n = madeCells z.cells (n * sz) := by
        apply Array.ext'
        apply List.ext_getElem?
        intro j
        simp [Builtin.zeroCells, madeCells, ah]
      rw [this, LL sz n z.cells ah hT.pos]
    have hlen : (Builtin.zeroCells z.cells xs.length).toList.length = xs.length * sz := by simp only [Array.length_toList, size_zeroCells, ah]
    obtain ⟨w', hr, ak⟩ := DV (P := P) (i := 0) (Builtin.zeroCells z.cells xs.length).toList w _ _ pre.length 0 hs rfl (by
      simp only [List.size_toArray, List.length_append, h5, hlen]; omega) (by rw [ai]; exact (aa _).OE hR)
    have ad : ((Builtin.zeroCells z.cells xs.length).toList.zipIdx (pre.length + 0)).foldl (fun (c : Array Value) p => c.setIfInBounds p.2 p.1) (pre ++ vss.flatten ++ sp).toArray = (pre ++ (List.replicate xs.length z.cells.toList).flatten ++ sp).toArray := by
      rw [Nat.add_zero, Md _ _ _ _ (by rw [hlen, h5]), ai]
    rw [ad] at ak
    refine ⟨.tuple #[], F, _, w', ?_, ak, Mk hZ hp (k [(g', .cells (pre ++ (List.replicate xs.length z.cells.toList).flatten ++ sp).toArray E (0, 0))] ⟨fun p hp => ?_, aj.symm, List.replicate xs.length z.cells.toList, ?_, ?_⟩)⟩
    · by_cases h0 : xs.length = 0
      · have e1 : (Builtin.zeroCells z.cells xs.length).toList = [] := List.eq_nil_of_length_eq_zero (by rw [hlen, h0]; simp)
        rw [e1] at hr
        have hw : w' = w := by simpa [storeCells] using hr.symm
        subst hw
        simp [execOp, resolve, invoke, builtin, Builtin.clear_, run_underlying hT.Qw, ae.ev hx, h0]
      · simp [execOp, resolve, invoke, builtin, Builtin.clear_, run_underlying hT.Qw, ae.ev hx, h0, zeroValue, typeInfo, aq, ar, hr]
    · rw [List.mem_singleton.1 hp]; exact h3 (g', .cells (pre ++ vss.flatten ++ sp).toArray E (0, 0)) (List.mem_cons_self ..)
    · rw [hz]; exact aa _
    · have al : ((List.replicate xs.length z.cells.toList).flatten).length = xs.length * sz := by rw [← ai]; exact hlen
      exact ⟨al, (aa _).OE hR, .inr ⟨g', cap, pre, sp, rfl, h8, h9, by rw [al, ← h5]; exact av, rfl⟩⟩
theorem K9 {T : TypeId} {x : Operand} {b n : Nat} {c : Array Value} (hT : ∀ w, (isAgg T).run P w = .ok true w) (hn : ∀ w, (sizeOf T).run P w = .ok n w) (hx : ev e x = some (.pointer (some ⟨b, 0, none⟩))) (hc : Has F L b c) (hs : c.size = n) : Fb P N K e F L (.load T x) ty (.agg c) :=
  Bn hT hn hx hc (by omega) (by rw [Nat.zero_add, ← hs]; simp)
theorem GF {T : TypeId} {x y : Operand} {b i n : Nat} {c cs : Array Value} {E : TypeId} (hT : ∀ w, (sizeOf T).run P w = .ok n w) (hx : ev e x = some (.pointer (some ⟨b, 0, none⟩))) (hy : ev e y = some (.agg cs)) (hi : L[i]? = some (b, .cells c E (0, 0))) (hc : c.size = n) (hn : cs.size = n) (h1 : ∀ v ∈ cs.toList, v.oneCell' = true)
    (k : Ct P N r K ops Q rest e F (L.set i (b, .cells cs E (0, 0)))) : Ct P N r K ops Q (⟨none, .store T x y, ty, pos, after, none⟩ :: rest) e F L := by
  refine BD (i := i) hT hx hy hn h1 hi (by omega) ?_
  have : (cs.toList.zipIdx 0).foldl (fun (c : Array Value) p => c.setIfInBounds p.2 p.1) c = cs := by
    apply Array.ext'
    rw [IE _ _ _ (by simp; omega)]
    simp only [List.take_zero, List.nil_append, Nat.zero_add, Array.length_toList]
    rw [List.drop_eq_nil_of_le (by simp; omega), List.append_nil]
  rw [this]; exact k
theorem HR {P : Program} {T E sz bytes : Nat} {z : Value} (hT : EN P T E sz z bytes) (w : World) : (Instr.buildSlice T 0 #[]).run P w = .ok (.slice (some ⟨w.heap.size, 0, none⟩) 0 0) (w.alloc (.cells #[] E)) := by
  obtain ⟨i, aa, ab, ad, ae⟩ := hT.info
  simp [Instr.buildSlice, run_underlying hT.Qw, sizeOf, typeInfo, aa, Instr.fill, newRow]
  exact congrArg (fun c => w.alloc (Obj.cells c E)) (Array.ext' (by simp))
theorem Ly {T E T' : TypeId} {x : Operand} {n c : Nat} {a : Option Addr} (hT : P.underlying T = some (.slice E)) (hx : ev e x = some (.slice a n c)) : Fb P N K e F L (.binOp .eql T x (.const (.slice none 0 0)) T') ty (.bool a.isNone) := fun M act w d pos after g ha hs => by
  have h : (binOp .eql T (.slice a n c) (.slice none 0 0)).run P w = .ok (.bool a.isNone) w := by
    simp only [binOp]
    simp [run_equal_slice_nil w T E a n c hT]
  have he : act.eval (.const (.slice none 0 0)) = .slice none 0 0 := rfl
  simp [execOp, eqGuard, ha.ev hx, he, h]
theorem At.isNone {α : Type} {sz : Nat} {R : Hf α} {F : FS} {a : Option Addr} {c : Nat} {xs : List α} (h : At sz R F a c xs) (hn : a.isNone = true) : xs = [] := by
  obtain ⟨vss, h1, h2⟩ := h
  rcases h2.cells with h3 | ⟨b, o, c, E, m, h3, _⟩
  · exact List.eq_nil_of_length_eq_zero h3
  · rw [h3] at hn; cases hn
theorem R9 {T T' : TypeId} {x y : Operand} {p q : Bool} (hT : P.underlying T = some .bool) (hx : ev e x = some (.bool p)) (hy : ev e y = some (.bool q)) : Fb P N K e F L (.binOp .eql T x y T') ty (.bool (decide (p = q))) := fun M a w d pos after g ha hs => by
  have h : (binOp .eql T (.bool p) (.bool q)).run P w = .ok (.bool (decide (p = q))) w := by
    rw [run_eql_bool w T p q hT]; cases p <;> cases q <;> rfl
  simp [execOp, eqGuard, ha.ev hx, ha.ev hy, h]
theorem JG {T T' : TypeId} {x y : Operand} {p q : Bool} (hT : P.underlying T = some .bool) (hx : ev e x = some (.bool p)) (hy : ev e y = some (.bool q)) : Fb P N K e F L (.binOp .neq T x y T') ty (.bool (decide (p ≠ q))) := fun M a w d pos after g ha hs => by
  have h : (binOp .neq T (.bool p) (.bool q)).run P w = .ok (.bool (decide (p ≠ q))) w := by
    simp only [binOp]
    simp [run_equal_bool w T p q hT]
    cases p <;> cases q <;> rfl
  simp [execOp, eqGuard, ha.ev hx, ha.ev hy, h]
theorem RW {T T' : TypeId} {x y : Operand} {a b : Value} {p : Prop} [Decidable p] (hg : ∀ w, (eqGuard .neq T x y a b).run P w = .ok () w) (hq : ∀ w, (binOp .neq T a b).run P w = .ok (.bool (decide (¬ p))) w) (hx : ev e x = some a) (hy : ev e y = some b) : Fb P N K e F L (.binOp .neq T x y T') ty (.bool (decide (¬ p))) := fun M act w d pos after g ha hs => by
  simp [execOp, ha.ev hx, ha.ev hy, hg, hq]
section
variable {κ δ : Type} [DecidableEq κ] {ek : κ → Value} {ed : δ → Value}
theorem Rc {T TK TE : TypeId} {x y : Operand} {b : Nat} {es : Array MapEntry} {m : List (κ × δ)} {k : κ} {z : Value} {z0 : δ} (aa : z = ed z0) (hT : P.underlying T = some (.map TK TE)) (hk : Od P TK ek) (hz : ∀ w, (zeroValue TE).run P w = .ok z w) (hx : ev e x = some (.map (some b))) (hy : ev e y = some (ek k))
    (hm : Og F L b es) (hR : N0 ek ed es m) : Fb P N K e F L (.lookup T x y false) ty (ed ((LU m k).getD z0)) := by
  have h := QP (ty := ty) (N := N) (K := K) hT hk hz hx hy hm hR
  have : ((LU m k).map ed).getD z = ed ((LU m k).getD z0) := by rw [aa]; cases LU m k <;> rfl
  rw [this] at h; exact h
end
end
end Go.SH
