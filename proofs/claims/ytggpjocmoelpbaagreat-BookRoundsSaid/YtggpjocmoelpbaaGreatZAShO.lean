/- The calculus, part O: parts of lists, stores to elements, copies, arrays in variables. -/
import Derived.Test.YtggpjocmoelpbaaGreatZAShN
import Derived.Laws.Cover3
import Derived.Laws.Small
namespace Go.SH
open Go.PL
section
variable {α : Type} {R : Enc α} {sz : Nat} {F : FS}
theorem flatten_sl {vss : List (List Value)} {l h : Nat} (hv : ∀ vs ∈ vss, vs.length = sz) (_hlh : l ≤ h) : ((vss.take h).drop l).flatten = (vss.flatten.drop (l * sz)).take ((h - l) * sz) := by
  have e1 : (vss.take h).drop l = (vss.drop l).take (h - l) := by rw [List.drop_take]
  rw [e1, flatten_take _ _ (fun vs hm => hv vs (List.mem_of_mem_drop hm)), flatten_drop _ _ hv]
theorem RowR.slice (hR : EncOK sz R) {a : Option Addr} {c : Nat} {xs ys : List α} (h : RowR sz R F a c xs) {l hh : Int} (g : (0 ≤ l ∧ l ≤ hh) ∧ hh ≤ xs.length) (he : ys = sl xs l hh) :
    ∃ a' c', RowR sz R F a' c' ys ∧ (0 ≤ l ∧ l ≤ hh ∧ hh ≤ c) ∧ Value.slice a' ys.length c' = .slice (if c = l.toNat then a else a.map (·.add (l.toNat * sz))) (hh.toNat - l.toNat) (c - l.toNat) := by
  obtain ⟨vss, h1, h2⟩ := h
  have hle := h2.le
  have hlen : ys.length = hh.toNat - l.toNat := by rw [he]; unfold sl; rw [List.length_drop, List.length_take]; omega
  refine ⟨_, _, ⟨(vss.take hh.toNat).drop l.toNat, ?_, ?_⟩, ⟨g.1.1, g.1.2, by omega⟩, by rw [hlen]⟩
  · rw [he]; exact (h1.take _).drop _
  · rw [hlen, flatten_sl (h1.lens hR) (by omega)]
    exact h2.slice (by omega) (by omega)
variable {nb E n cap : Nat} {a : Option Addr} {xs ys : List α} {Lb : LH}
theorem SlR.upto (h : SlR nb E sz R F a n cap xs Lb) (hR : EncOK sz R) {k : Nat} (hk : k ≤ n) : SlR nb E sz R F a k cap (xs.take k) Lb := by
  obtain ⟨h0, rfl, vss, h1, h2, h3, h4⟩ := h
  have hv := h1.lens hR
  have hfl : (vss.take k).flatten = vss.flatten.take (k * sz) := flatten_take _ _ hv
  have hkl : k * sz ≤ xs.length * sz := Nat.mul_le_mul_right _ hk
  refine ⟨h0, by rw [List.length_take]; omega, vss.take k, h1.take k, ?_, fun v hm => h3 v (by rw [hfl] at hm; exact List.mem_of_mem_take hm), ?_⟩
  · rw [hfl, List.length_take, h2]; omega
  · rcases h4 with ⟨a', hv', hn, rfl⟩ | ⟨g, cap', pre, sp, hv', h5, h6, h7, rfl⟩
    · injection hv' with e1 e2 e3
      subst e1; subst e3
      obtain rfl : k = 0 := by omega
      exact .inl ⟨a, rfl, rfl, rfl⟩
    · cases hv'
      refine .inr ⟨g, cap, pre, vss.flatten.drop (k * sz) ++ sp, rfl, by omega, h6, ?_, ?_⟩
      · rw [hfl, List.length_append, List.length_take, List.length_drop, h2]; omega
      · rw [hfl]; simp only [List.append_assoc]
        rw [← List.append_assoc (List.take _ _), List.take_append_drop]
end
section
variable {P : Program} {N : Nat} {r : Option Nat} {K : Ctx} {ops : Array Oper} {Q : Env → FS → LH → Prop} {rest : List Oper} {e : Env} {F : FS} {L : LH}
variable {ty : TypeId} {pos : String} {after : Array Edge} {d : Option Nat}
variable {α : Type} {R : Enc α} {a : Option Addr} {cap : Nat} {xs ys zs : List α} {Lb : LH} {C : LH → LH}
theorem shO_to {l : List Oper} {Lr Lb' : LH} (hZ : ∀ X, Zip L Lb (C X) X) (hL : L.Perm (Lb ++ Lr)) (k : shO P N r K ops Q l e F (C Lb')) : shO P N r K ops Q l e F (Lb' ++ Lr) := by
  obtain ⟨Lr', h2, h3⟩ := Zip.one hZ Lb'
  exact shO_perm (((List.perm_append_left_iff Lb).1 (hL.symm.trans h2)).append_left Lb' |>.trans h3.symm) k
theorem o_sliceZ {T E : TypeId} {x : Operand} {lo hi : Option Operand} {nb sz bytes n : Nat} {z : Value} {l h : Int} (hd : okDst N d = true) (hT : SlTy P T E sz z bytes) (hR : EncOK sz R) (hx : ev e x = some (.slice a n cap))
    (hlo : (lo = none ∧ l = 0) ∨ ∃ y, lo = some y ∧ ev e y = some (.int .i64 l)) (hhi : (hi = none ∧ h = (xs.length : Int)) ∨ ∃ y, hi = some y ∧ ev e y = some (.int .i64 h)) (hZ : ∀ X, Zip L Lb (C X) X) (hown : SlR nb E sz R F a n cap xs Lb)
    (g : (0 ≤ l ∧ l ≤ h) ∧ h ≤ xs.length) (he : zs = sl xs l h)
    (k : ∀ a' n' c' Lb', SlR nb E sz R F a' n' c' zs Lb' → shO P N r K ops Q rest (e.put d (.slice a' n' c')) F (C Lb')) :
    shO P N r K ops Q (⟨d, .slice T x lo hi none, ty, pos, after, none⟩ :: rest) e F L := by
  have hc := hown.caps
  have h1 := (hown.upto hR (k := h.toNat) (by omega)).from hR (l := l.toNat) (by omega)
  obtain ⟨Lb', hsub, h2⟩ := h1
  refine ov (v_slice hT.und hT.size hx hlo (hhi.imp (fun h => ⟨h.1, by rw [h.2, hc.1]⟩) id) ⟨g.1.1, g.1.2, by omega⟩) (by simp [okO, hd, Op.isDefer]) ?_
  obtain ⟨Lr, h3, _⟩ := Zip.one hZ []
  refine shO_perm h3 (shO_drop (hsub.append_right Lr) (shO_to hZ h3 ?_))
  refine k _ _ _ Lb' ?_
  rw [he]; exact h2
theorem o_storeZ {T E : TypeId} {x y : Operand} {nb sz b o n : Nat} {i : Int} {v : Value} {u : α} (hT : ∀ w, (sizeOf T).run P w = .ok sz w) (hR : EncOK sz R) (hx : ev e x = some (.pointer (some ⟨b, o + i.toNat * sz, none⟩))) (ha : a = some ⟨b, o, none⟩) (hy : ev e y = some v) (hu : R F v.cells.toList u)
    (hZ : ∀ X, Zip L Lb (C X) X) (hown : SlR nb E sz R F a n cap xs Lb) (hz : zs = xs.set i.toNat u) (g : 0 ≤ i ∧ i < (xs.length : Int))
    (k : ∀ Lb', SlR nb E sz R F a n cap zs Lb' → shO P N r K ops Q rest e F (C Lb')) :
    shO P N r K ops Q (⟨none, .store T x y, ty, pos, after, none⟩ :: rest) e F L := by
  obtain ⟨Lr, h1, _⟩ := Zip.one hZ []
  have hn := hown.caps.1
  refine o_storeR hT hR hx ha hy hu h1 hown g.1 (by rw [hn]; exact g.2) fun Lb' h => shO_to hZ h1 (k Lb' ?_)
  rw [hz]; exact h
theorem o_storeZP {T E : TypeId} {x y : Operand} {nb sz b o off n : Nat} {i : Int} {v : Value} {x0 u : α} (hT : ∀ w, (sizeOf T).run P w = .ok 1 w) (hR : EncOK sz R) (hx : ev e x = some (.pointer (some ⟨b, o + i.toNat * sz + off, none⟩))) (ha : a = some ⟨b, o, none⟩) (hy : ev e y = some v) (h1 : v.oneCell' = true) (hoff : off < sz)
    (hx0 : xs[i.toNat]? = some x0) (hu : ∀ vs, R F vs x0 → R F (vs.set off v) u)
    (hZ : ∀ X, Zip L Lb (C X) X) (hown : SlR nb E sz R F a n cap xs Lb) (hz : zs = xs.set i.toNat u) (g : 0 ≤ i ∧ i < (xs.length : Int))
    (k : ∀ Lb', SlR nb E sz R F a n cap zs Lb' → shO P N r K ops Q rest e F (C Lb')) :
    shO P N r K ops Q (⟨none, .store T x y, ty, pos, after, none⟩ :: rest) e F L := by
  obtain rfl := hown.caps.1
  obtain ⟨Lr, hp, _⟩ := Zip.one hZ []
  refine shO_perm hp ?_
  subst ha
  obtain ⟨h3, _, vss, h4, h5, h6, h7⟩ := hown
  rcases h7 with ⟨_, _, hv, _⟩ | ⟨g', cap', pre, sp, hv, h8, h9, h10, rfl⟩
  · omega
  · cases hv
    obtain ⟨vs, hvs, hR0⟩ := h4.get hx0
    have hlen := h4.lens hR
    have hlt : i.toNat < vss.length := by rw [h4.length]; omega
    have hvl : vs.length = sz := hR.len hR0
    have hcs : v.cells = #[v] := by cases v <;> simp_all [Value.cells, Value.oneCell']
    have hbound : i.toNat * sz + sz ≤ xs.length * sz := by have := Nat.mul_le_mul_right sz (show i.toNat + 1 ≤ xs.length by omega); rwa [Nat.add_mul, Nat.one_mul] at this
    have hzl : zs.length = xs.length := by rw [hz, List.length_set]
    have h11 : All2 (R F) (vss.set i.toNat (vs.set off v)) zs := by rw [hz]; exact h4.set (hu vs hR0) i.toNat
    have hfl : (vss.set i.toNat (vs.set off v)).flatten = vss.flatten.set (i.toNat * sz + off) v := by
      have hsplit : vss = vss.take i.toNat ++ (vs :: vss.drop (i.toNat + 1)) := by
        have : vss[i.toNat] = vs := by rw [List.getElem?_eq_getElem hlt] at hvs; exact Option.some.inj hvs
        rw [← this, ← List.drop_eq_getElem_cons hlt, List.take_append_drop]
      have hpre : (vss.take i.toNat).flatten.length = i.toNat * sz := by
        rw [flatten_len (fun u hu => hlen u (List.mem_of_mem_take hu)), List.length_take, Nat.min_eq_left (Nat.le_of_lt hlt)]
      have hset : vss.set i.toNat (vs.set off v) = vss.take i.toNat ++ (vs.set off v :: vss.drop (i.toNat + 1)) := by rw [List.set_eq_take_append_cons_drop, if_pos hlt]
      rw [hset, List.flatten_append, List.flatten_cons]
      conv => rhs; rw [hsplit, List.flatten_append, List.flatten_cons]
      rw [List.set_append_right _ _ (by omega), hpre, Nat.add_sub_cancel_left, List.set_append_left _ _ (by omega)]
    refine shO_op0 (by intros; simp) fun M act w hag hs => ?_
    obtain ⟨w', hr, hs'⟩ := run_storeCells (P := P) (i := 0) [v] w _ _ (pre.length + i.toNat * sz + off) 0 hs rfl (by
      simp only [List.size_toArray, List.length_append, h5, List.length_singleton]; omega) (by simpa using h1)
    have hfold : (([v] : List Value).zipIdx (pre.length + i.toNat * sz + off + 0)).foldl (fun c p => c.setIfInBounds p.2 p.1) (pre ++ vss.flatten ++ sp).toArray = (pre ++ (vss.set i.toNat (vs.set off v)).flatten ++ sp).toArray := by
      apply Array.ext'
      rw [hfl]
      simp only [List.zipIdx_cons, List.zipIdx_nil, List.foldl_cons, List.foldl_nil, Array.toList_setIfInBounds, Nat.add_zero]
      rw [List.append_assoc, List.set_append_right _ _ (by omega), List.append_assoc, show pre.length + i.toNat * sz + off - pre.length = i.toNat * sz + off by omega, List.set_append_left _ _ (by rw [h5]; omega)]
    rw [hfold] at hs'
    refine ⟨F, _, w', ?_, hs', shO_to hZ hp (k [(b, .cells (pre ++ (vss.set i.toNat (vs.set off v)).flatten ++ sp).toArray E (0, 0))] ⟨fun p hp => ?_, hzl.symm, _, h11, ?_⟩)⟩
    · simp [execOp, Instr.storeAt, Instr.sureAddr, storeVar, hag.ev hx, hag.ev hy, hT, hcs, hr]
    · rw [List.mem_singleton.1 hp]; exact h3 (b, .cells (pre ++ vss.flatten ++ sp).toArray E (0, 0)) (List.mem_cons_self ..)
    · exact ⟨by rw [hfl, List.length_set, h5], h11.ones hR, .inr ⟨b, cap, pre, sp, rfl, h8, h9, by rw [hfl, List.length_set]; exact h10, rfl⟩⟩
theorem arE_set {α : Type} {n : Nat} {f : α → List Value} (hf : FOK 1 f) {F : FS} {vs : List Value} {x : List α} (h : arE n f F vs x) {j : Nat} {y : α} {v : Value} (_hj : j < n) (hv : f y = [v]) : arE n f F (vs.set (j * 1) v) (x.set j y) := by
  obtain ⟨rfl, h2⟩ := h
  refine ⟨?_, by rw [List.length_set, h2]⟩
  rw [Nat.mul_one]
  clear h2 _hj
  induction x generalizing j with
  | nil => simp
  | cons z x ih =>
    have hz := hf.len z
    cases j with
    | zero =>
      simp only [List.set_cons_zero, List.flatMap_cons, hv]
      match hfz : f z, hz with
      | [w], _ => rfl
    | succ j =>
      simp only [List.set_cons_succ, List.flatMap_cons, ← ih]
      rw [List.set_append_right _ _ (by omega), hz]; rfl
theorem o_copyZ {T T2 E : TypeId} {x y : Operand} {nb sz bytes c2 n m : Nat} {z : Value} {a2 : Option Addr} (hd : okDst N d = true) (hT : SlTy P T E sz z bytes) (hR : EncOK sz R) (hx : ev e x = some (.slice a n cap)) (hy : ev e y = some (.slice a2 m c2))
    (hZ : ∀ X, Zip L Lb (C X) X) (hown : SlR nb E sz R F a n cap xs Lb) (hsrc : SrcR sz R F L a2 m ys) (hz : zs = cpy xs ys)
    (k : ∀ Lb', SlR nb E sz R F a n cap zs Lb' → shO P N r K ops Q rest (e.put d (.int .i64 (Nat.min ys.length xs.length : Nat))) F (C Lb')) :
    shO P N r K ops Q (⟨d, .call ⟨.builtin .copy, #[x, y], #[T, T2]⟩, ty, pos, after, none⟩ :: rest) e F L := by
  obtain rfl := hown.caps.1
  obtain rfl := hsrc.1
  obtain ⟨Lr, h1, _⟩ := Zip.one hZ []
  refine o_copyR hd hT hR hx hy h1 hown hsrc fun Lb' h => shO_to hZ h1 (k Lb' ?_)
  rw [hz]; exact h
theorem v_loadW {T : TypeId} {x : Operand} {b n : Nat} {c : Array Value} (hT : ∀ w, (isAgg T).run P w = .ok true w) (hn : ∀ w, (sizeOf T).run P w = .ok n w) (hx : ev e x = some (.pointer (some ⟨b, 0, none⟩))) (hc : Has F L b c) (hs : c.size = n) : OpV P N K e F L (.load T x) ty (.agg c) :=
  v_loadA hT hn hx hc (by omega) (by rw [Nat.zero_add, ← hs]; simp)
theorem o_storeW {T : TypeId} {x y : Operand} {b i n : Nat} {c cs : Array Value} {E : TypeId} (hT : ∀ w, (sizeOf T).run P w = .ok n w) (hx : ev e x = some (.pointer (some ⟨b, 0, none⟩))) (hy : ev e y = some (.agg cs)) (hi : L[i]? = some (b, .cells c E (0, 0))) (hc : c.size = n) (hn : cs.size = n) (h1 : ∀ v ∈ cs.toList, v.oneCell' = true)
    (k : shO P N r K ops Q rest e F (L.set i (b, .cells cs E (0, 0)))) : shO P N r K ops Q (⟨none, .store T x y, ty, pos, after, none⟩ :: rest) e F L := by
  refine o_storeA (i := i) hT hx hy hn h1 hi (by omega) ?_
  have : (cs.toList.zipIdx 0).foldl (fun (c : Array Value) p => c.setIfInBounds p.2 p.1) c = cs := by
    apply Array.ext'
    rw [foldl_set_eq _ _ _ (by simp; omega)]
    simp only [List.take_zero, List.nil_append, Nat.zero_add, Array.length_toList]
    rw [List.drop_eq_nil_of_le (by simp; omega), List.append_nil]
  rw [this]; exact k
theorem buildSlice_none {P : Program} {T E sz bytes : Nat} {z : Value} (hT : SlTy P T E sz z bytes) (w : World) : (Instr.buildSlice T 0 #[]).run P w = .ok (.slice (some ⟨w.heap.size, 0, none⟩) 0 0) (w.alloc (.cells #[] E)) := by
  obtain ⟨i, hi1, hi2, hi3, hi4⟩ := hT.info
  simp [Instr.buildSlice, run_underlying hT.und, sizeOf, typeInfo, hi1, Instr.fill, newRow]
  exact congrArg (fun c => w.alloc (Obj.cells c E)) (Array.ext' (by simp))
theorem v_eqlNil {T E T' : TypeId} {x : Operand} {n c : Nat} {a : Option Addr} (hT : P.underlying T = some (.slice E)) (hx : ev e x = some (.slice a n c)) : OpV P N K e F L (.binOp .eql T x (.const (.slice none 0 0)) T') ty (.bool a.isNone) := fun M act w d pos after g ha hs => by
  have h : (binOp .eql T (.slice a n c) (.slice none 0 0)).run P w = .ok (.bool a.isNone) w := by
    simp only [binOp]
    simp [run_equal_slice_nil w T E a n c hT]
  have he : act.eval (.const (.slice none 0 0)) = .slice none 0 0 := rfl
  simp [execOp, eqGuard, ha.ev hx, he, h]
theorem RowR.isNone {α : Type} {sz : Nat} {R : Enc α} {F : FS} {a : Option Addr} {c : Nat} {xs : List α} (h : RowR sz R F a c xs) (hn : a.isNone = true) : xs = [] := by
  obtain ⟨vss, h1, h2⟩ := h
  rcases h2.cells with h3 | ⟨b, o, c, E, m, h3, _⟩
  · exact List.eq_nil_of_length_eq_zero h3
  · rw [h3] at hn; cases hn
theorem v_eqlB {T T' : TypeId} {x y : Operand} {p q : Bool} (hT : P.underlying T = some .bool) (hx : ev e x = some (.bool p)) (hy : ev e y = some (.bool q)) : OpV P N K e F L (.binOp .eql T x y T') ty (.bool (decide (p = q))) := fun M a w d pos after g ha hs => by
  have h : (binOp .eql T (.bool p) (.bool q)).run P w = .ok (.bool (decide (p = q))) w := by
    rw [run_eql_bool w T p q hT]; cases p <;> cases q <;> rfl
  simp [execOp, eqGuard, ha.ev hx, ha.ev hy, h]
theorem v_neA {T T' : TypeId} {x y : Operand} {a b : Value} {p : Prop} [Decidable p] (hg : ∀ w, (eqGuard .neq T x y a b).run P w = .ok () w) (hq : ∀ w, (binOp .neq T a b).run P w = .ok (.bool (decide (¬ p))) w) (hx : ev e x = some a) (hy : ev e y = some b) : OpV P N K e F L (.binOp .neq T x y T') ty (.bool (decide (¬ p))) := fun M act w d pos after g ha hs => by
  simp [execOp, ha.ev hx, ha.ev hy, hg, hq]
section
variable {κ δ : Type} [DecidableEq κ] {ek : κ → Value} {ed : δ → Value}
theorem v_lookS2 {T TK TE : TypeId} {x y : Operand} {b : Nat} {es : Array MapEntry} {m : List (κ × δ)} {k : κ} {z : Value} {z0 : δ} (hz0 : z = ed z0) (hT : P.underlying T = some (.map TK TE)) (hk : KeyOK P TK ek) (hz : ∀ w, (zeroValue TE).run P w = .ok z w) (hx : ev e x = some (.map (some b))) (hy : ev e y = some (ek k))
    (hm : HasM F L b es) (hR : MapR ek ed es m) : OpV P N K e F L (.lookup T x y true) ty (.tuple #[ed ((mget m k).getD z0), .bool (mget m k).isSome]) := by
  have h := v_lookup2 (ty := ty) (N := N) (K := K) hT hk hz hx hy hm hR
  have : ((mget m k).map ed).getD z = ed ((mget m k).getD z0) := by rw [hz0]; cases mget m k <;> rfl
  rw [this] at h; exact h
theorem v_lookS1 {T TK TE : TypeId} {x y : Operand} {b : Nat} {es : Array MapEntry} {m : List (κ × δ)} {k : κ} {z : Value} {z0 : δ} (hz0 : z = ed z0) (hT : P.underlying T = some (.map TK TE)) (hk : KeyOK P TK ek) (hz : ∀ w, (zeroValue TE).run P w = .ok z w) (hx : ev e x = some (.map (some b))) (hy : ev e y = some (ek k))
    (hm : HasM F L b es) (hR : MapR ek ed es m) : OpV P N K e F L (.lookup T x y false) ty (ed ((mget m k).getD z0)) := by
  have h := v_lookup1 (ty := ty) (N := N) (K := K) hT hk hz hx hy hm hR
  have : ((mget m k).map ed).getD z = ed ((mget m k).getD z0) := by rw [hz0]; cases mget m k <;> rfl
  rw [this] at h; exact h
end
end
end Go.SH
