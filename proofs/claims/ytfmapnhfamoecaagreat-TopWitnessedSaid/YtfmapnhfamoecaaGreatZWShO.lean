/- The calculus, part O: parts of lists, stores to elements, copies, arrays in variables. -/
import Derived.Test.YtfmapnhfamoecaaGreatZWShN
import Derived.Laws.Cover3
import Derived.Laws.Small
namespace Go.SH
open Go.PL
section
variable {α : Type} {R : IN α} {sz : Nat} {F : FS}
theorem Tm {vss : List (List Value)} {l h : Nat} (hv : ∀ vs ∈ vss, vs.length = sz) (_hlh : l ≤ h) : ((vss.take h).drop l).flatten = (vss.flatten.drop (l * sz)).take ((h - l) * sz) := by
  have e1 : (vss.take h).drop l = (vss.drop l).take (h - l) := by rw [List.drop_take]
  rw [e1, IC _ _ (fun vs hm => hv vs (List.mem_of_mem_drop hm)), Lu _ _ hv]
theorem As.slice (hR : DP sz R) {a : Option Addr} {c : Nat} {xs ys : List α} (h : As sz R F a c xs) {l hh : Int} (g : (0 ≤ l ∧ l ≤ hh) ∧ hh ≤ xs.length) (he : ys = sl xs l hh) :
    ∃ a' c', As sz R F a' c' ys ∧ (0 ≤ l ∧ l ≤ hh ∧ hh ≤ c) ∧ Value.slice a' ys.length c' = .slice (if c = l.toNat then a else a.map (·.add (l.toNat * sz))) (hh.toNat - l.toNat) (c - l.toNat) := by
  obtain ⟨vss, h1, h2⟩ := h
  have hle := h2.le
  have hlen : ys.length = hh.toNat - l.toNat := by rw [he]; unfold sl; rw [List.length_drop, List.length_take]; omega
  refine ⟨_, _, ⟨(vss.take hh.toNat).drop l.toNat, ?_, ?_⟩, ⟨g.1.1, g.1.2, by omega⟩, by rw [hlen]⟩
  · rw [he]; exact (h1.take _).drop _
  · rw [hlen, Tm (h1.lens hR) (by omega)]
    exact h2.slice (by omega) (by omega)
variable {nb E n cap : Nat} {a : Option Addr} {xs ys : List α} {Lb : LH}
theorem Bd.upto (h : Bd nb E sz R F a n cap xs Lb) (hR : DP sz R) {k : Nat} (hk : k ≤ n) : Bd nb E sz R F a k cap (xs.take k) Lb := by
  obtain ⟨h0, rfl, vss, h1, h2, h3, h4⟩ := h
  have hv := h1.lens hR
  have aa : (vss.take k).flatten = vss.flatten.take (k * sz) := IC _ _ hv
  have ae : k * sz ≤ xs.length * sz := Nat.mul_le_mul_right _ hk
  refine ⟨h0, by rw [List.length_take]; omega, vss.take k, h1.take k, ?_, fun v hm => h3 v (by rw [aa] at hm; exact List.mem_of_mem_take hm), ?_⟩
  · rw [aa, List.length_take, h2]; omega
  · rcases h4 with ⟨a', ab, hn, rfl⟩ | ⟨g, ad, pre, sp, ab, h5, h6, h7, rfl⟩
    · injection ab with e1 e2 e3
      subst e1; subst e3
      obtain rfl : k = 0 := by omega
      exact .inl ⟨a, rfl, rfl, rfl⟩
    · cases ab
      refine .inr ⟨g, cap, pre, vss.flatten.drop (k * sz) ++ sp, rfl, by omega, h6, ?_, ?_⟩
      · rw [aa, List.length_append, List.length_take, List.length_drop, h2]; omega
      · rw [aa]; simp only [List.append_assoc]
        rw [← List.append_assoc (List.take _ _), List.take_append_drop]
end
section
variable {P : Program} {N : Nat} {r : Option Nat} {K : Ctx} {ops : Array Oper} {Q : Env → FS → LH → Prop} {rest : List Oper} {e : Env} {F : FS} {L : LH}
variable {ty : TypeId} {pos : String} {after : Array Edge} {d : Option Nat}
variable {α : Type} {R : IN α} {a : Option Addr} {cap : Nat} {xs ys zs : List α} {Lb : LH} {C : LH → LH}
theorem TB {l : List Oper} {Lr Lb' : LH} (hZ : ∀ X, Zip L Lb (C X) X) (hL : L.Perm (Lb ++ Lr)) (k : Df P N r K ops Q l e F (C Lb')) : Df P N r K ops Q l e F (Lb' ++ Lr) := by
  obtain ⟨aa, h2, h3⟩ := Zip.one hZ Lb'
  exact B2 (((List.perm_append_left_iff Lb).1 (hL.symm.trans h2)).append_left Lb' |>.trans h3.symm) k
theorem VL {T E : TypeId} {x : Operand} {lo hi : Option Operand} {nb sz bytes n : Nat} {z : Value} {l h : Int} (hd : DQ N d = true) (hT : Ef P T E sz z bytes) (hR : DP sz R) (hx : ev e x = some (.slice a n cap))
    (ad : (lo = none ∧ l = 0) ∨ ∃ y, lo = some y ∧ ev e y = some (.int .i64 l)) (ae : (hi = none ∧ h = (xs.length : Int)) ∨ ∃ y, hi = some y ∧ ev e y = some (.int .i64 h)) (hZ : ∀ X, Zip L Lb (C X) X) (aa : Bd nb E sz R F a n cap xs Lb)
    (g : (0 ≤ l ∧ l ≤ h) ∧ h ≤ xs.length) (he : zs = sl xs l h)
    (k : ∀ a' n' c' Lb', Bd nb E sz R F a' n' c' zs Lb' → Df P N r K ops Q rest (e.put d (.slice a' n' c')) F (C Lb')) :
    Df P N r K ops Q (⟨d, .slice T x lo hi none, ty, pos, after, none⟩ :: rest) e F L := by
  have hc := aa.Dx
  have h1 := (aa.upto hR (k := h.toNat) (by omega)).from hR (l := l.toNat) (by omega)
  obtain ⟨Lb', ab, h2⟩ := h1
  refine ov (PU hT.VA hT.size hx ad (ae.imp (fun h => ⟨h.1, by rw [h.2, hc.1]⟩) id) ⟨g.1.1, g.1.2, by omega⟩) (by simp [Se, hd, Op.EX]) ?_
  obtain ⟨Lr, h3, _⟩ := Zip.one hZ []
  refine B2 h3 (VM (ab.append_right Lr) (TB hZ h3 ?_))
  refine k _ _ _ Lb' ?_
  rw [he]; exact h2
theorem G5 {T E : TypeId} {x y : Operand} {nb sz b o n : Nat} {i : Int} {v : Value} {u : α} (hT : ∀ w, (sizeOf T).run P w = .ok sz w) (hR : DP sz R) (hx : ev e x = some (.pointer (some ⟨b, o + i.toNat * sz, none⟩))) (ha : a = some ⟨b, o, none⟩) (hy : ev e y = some v) (hu : R F v.cells.toList u)
    (hZ : ∀ X, Zip L Lb (C X) X) (aa : Bd nb E sz R F a n cap xs Lb) (hz : zs = xs.set i.toNat u) (g : 0 ≤ i ∧ i < (xs.length : Int))
    (k : ∀ Lb', Bd nb E sz R F a n cap zs Lb' → Df P N r K ops Q rest e F (C Lb')) :
    Df P N r K ops Q (⟨none, .store T x y, ty, pos, after, none⟩ :: rest) e F L := by
  obtain ⟨Lr, h1, _⟩ := Zip.one hZ []
  have hn := aa.Dx.1
  refine Vj hT hR hx ha hy hu h1 aa g.1 (by rw [hn]; exact g.2) fun Lb' h => TB hZ h1 (k Lb' ?_)
  rw [hz]; exact h
theorem R3 {α : Type} {n : Nat} {f : α → List Value} (hf : Tb 1 f) {F : FS} {vs : List Value} {x : List α} (h : Ll n f F vs x) {j : Nat} {y : α} {v : Value} (_hj : j < n) (hv : f y = [v]) : Ll n f F (vs.set (j * 1) v) (x.set j y) := by
  obtain ⟨rfl, h2⟩ := h
  refine ⟨?_, by rw [List.length_set, h2]⟩
  rw [Nat.mul_one]
  clear h2 _hj
  induction x generalizing j with
  | nil => simp
  | cons z x ih =>
    have hz := hf.len z
    cases j with
    | zero =>
      simp only [List.set_cons_zero, List.flatMap_cons, hv]
      match aa : f z, hz with
      | [w], _ => rfl
    | succ j =>
      simp only [List.set_cons_succ, List.flatMap_cons, ← ih]
      rw [List.set_append_right _ _ (by omega), hz]; rfl
theorem V3 {T T2 E : TypeId} {x y : Operand} {nb sz bytes c2 n m : Nat} {z : Value} {a2 : Option Addr} (hd : DQ N d = true) (hT : Ef P T E sz z bytes) (hR : DP sz R) (hx : ev e x = some (.slice a n cap)) (hy : ev e y = some (.slice a2 m c2))
    (hZ : ∀ X, Zip L Lb (C X) X) (aa : Bd nb E sz R F a n cap xs Lb) (ab : GJ sz R F L a2 m ys) (hz : zs = X4 xs ys)
    (k : ∀ Lb', Bd nb E sz R F a n cap zs Lb' → Df P N r K ops Q rest (e.put d (.int .i64 (Nat.min ys.length xs.length : Nat))) F (C Lb')) :
    Df P N r K ops Q (⟨d, .call ⟨.builtin .copy, #[x, y], #[T, T2]⟩, ty, pos, after, none⟩ :: rest) e F L := by
  obtain rfl := aa.Dx.1
  obtain rfl := ab.1
  obtain ⟨Lr, h1, _⟩ := Zip.one hZ []
  refine V2 hd hT hR hx hy h1 aa ab fun Lb' h => TB hZ h1 (k Lb' ?_)
  rw [hz]; exact h
theorem Jc {T : TypeId} {x : Operand} {b n : Nat} {c : Array Value} (hT : ∀ w, (isAgg T).run P w = .ok true w) (hn : ∀ w, (sizeOf T).run P w = .ok n w) (hx : ev e x = some (.pointer (some ⟨b, 0, none⟩))) (hc : Has F L b c) (hs : c.size = n) : Ft P N K e F L (.load T x) ty (.agg c) :=
  A1 hT hn hx hc (by omega) (by rw [Nat.zero_add, ← hs]; simp)
theorem HP {T : TypeId} {x y : Operand} {b i n : Nat} {c cs : Array Value} {E : TypeId} (hT : ∀ w, (sizeOf T).run P w = .ok n w) (hx : ev e x = some (.pointer (some ⟨b, 0, none⟩))) (hy : ev e y = some (.agg cs)) (hi : L[i]? = some (b, .cells c E (0, 0))) (hc : c.size = n) (hn : cs.size = n) (h1 : ∀ v ∈ cs.toList, v.oneCell' = true)
    (k : Df P N r K ops Q rest e F (L.set i (b, .cells cs E (0, 0)))) : Df P N r K ops Q (⟨none, .store T x y, ty, pos, after, none⟩ :: rest) e F L := by
  refine BP (i := i) hT hx hy hn h1 hi (by omega) ?_
  have : (cs.toList.zipIdx 0).foldl (fun (c : Array Value) p => c.setIfInBounds p.2 p.1) c = cs := by
    apply Array.ext'
    rw [Hv _ _ _ (by simp; omega)]
    simp only [List.take_zero, List.nil_append, Nat.zero_add, Array.length_toList]
    rw [List.drop_eq_nil_of_le (by simp; omega), List.append_nil]
  rw [this]; exact k
theorem Tj {β : Type} {T : TypeId} {x y : Operand} {b i : Nat} {j : Int} {f : β → List Value} {xs : List β} {u : β} {v : Value} {n : Nat} {E : TypeId} (hT : ∀ w, (sizeOf T).run P w = .ok 1 w) (hf : Tb 1 f) (hx : ev e x = some (.pointer (some ⟨b, 0 + j.toNat * 1, none⟩))) (hy : ev e y = some v) (hv : f u = [v]) (hi : L[i]? = some (b, .cells (arr f xs) E (0, 0)))
    (g : 0 ≤ j ∧ j < (n : Int)) (hn : xs.length = n) (k : Df P N r K ops Q rest e F (L.set i (b, .cells (arr f (xs.set j.toNat u)) E (0, 0)))) : Df P N r K ops Q (⟨none, .store T x y, ty, pos, after, none⟩ :: rest) e F L := by
  have h1 : v.oneCell' = true := hf.one u v (by rw [hv]; simp)
  have ab := EP hf hn
  refine B4 (i := i) hT hx hy h1 hi (by rw [ab]; omega) ?_
  have aa := (R3 (n := n) (F := F) hf (vs := xs.flatMap f) ⟨rfl, hn⟩ (j := j.toNat) (y := u) (v := v) (by omega) hv).1
  have : (arr f xs).setIfInBounds (0 + j.toNat * 1) v = arr f (xs.set j.toNat u) := by
    apply Array.ext'
    simp only [arr, Array.toList_setIfInBounds, Nat.zero_add]
    exact aa
  rw [this]; exact k
theorem LR {P : Program} {T E sz bytes : Nat} {z : Value} (hT : Ef P T E sz z bytes) (w : World) : (Instr.buildSlice T 0 #[]).run P w = .ok (.slice (some ⟨w.heap.size, 0, none⟩) 0 0) (w.alloc (.cells #[] E)) := by
  obtain ⟨i, aa, ab, ad, ae⟩ := hT.info
  simp [Instr.buildSlice, run_underlying hT.VA, sizeOf, typeInfo, aa, Instr.fill, newRow]
  exact congrArg (fun c => w.alloc (Obj.cells c E)) (Array.ext' (by simp))
theorem S9 {T E T' : TypeId} {x : Operand} {n c : Nat} {a : Option Addr} (hT : P.underlying T = some (.slice E)) (hx : ev e x = some (.slice a n c)) : Ft P N K e F L (.binOp .eql T x (.const (.slice none 0 0)) T') ty (.bool a.isNone) := fun M act w d pos after g ha hs => by
  have h : (binOp .eql T (.slice a n c) (.slice none 0 0)).run P w = .ok (.bool a.isNone) w := by
    simp only [binOp]
    simp [run_equal_slice_nil w T E a n c hT]
  have he : act.eval (.const (.slice none 0 0)) = .slice none 0 0 := rfl
  simp [execOp, eqGuard, ha.ev hx, he, h]
theorem As.isNone {α : Type} {sz : Nat} {R : IN α} {F : FS} {a : Option Addr} {c : Nat} {xs : List α} (h : As sz R F a c xs) (hn : a.isNone = true) : xs = [] := by
  obtain ⟨vss, h1, h2⟩ := h
  rcases h2.cells with h3 | ⟨b, o, c, E, m, h3, _⟩
  · exact List.eq_nil_of_length_eq_zero h3
  · rw [h3] at hn; cases hn
theorem Xg {T T' : TypeId} {x y : Operand} {p q : Bool} (hT : P.underlying T = some .bool) (hx : ev e x = some (.bool p)) (hy : ev e y = some (.bool q)) : Ft P N K e F L (.binOp .neq T x y T') ty (.bool (decide (p ≠ q))) := fun M a w d pos after g ha hs => by
  have h : (binOp .neq T (.bool p) (.bool q)).run P w = .ok (.bool (decide (p ≠ q))) w := by
    simp only [binOp]
    simp [run_equal_bool w T p q hT]
    cases p <;> cases q <;> rfl
  simp [execOp, eqGuard, ha.ev hx, ha.ev hy, h]
theorem XP {T T' : TypeId} {x y : Operand} {a b : Value} {p : Prop} [Decidable p] (hg : ∀ w, (eqGuard .neq T x y a b).run P w = .ok () w) (hq : ∀ w, (binOp .neq T a b).run P w = .ok (.bool (decide (¬ p))) w) (hx : ev e x = some a) (hy : ev e y = some b) : Ft P N K e F L (.binOp .neq T x y T') ty (.bool (decide (¬ p))) := fun M act w d pos after g ha hs => by
  simp [execOp, ha.ev hx, ha.ev hy, hg, hq]
section
variable {κ δ : Type} [DecidableEq κ] {ek : κ → Value} {ed : δ → Value}
theorem JZ {T TK TE : TypeId} {x y : Operand} {b : Nat} {es : Array MapEntry} {m : List (κ × δ)} {k : κ} {z : Value} {z0 : δ} (aa : z = ed z0) (hT : P.underlying T = some (.map TK TE)) (hk : Le P TK ek) (hz : ∀ w, (zeroValue TE).run P w = .ok z w) (hx : ev e x = some (.map (some b))) (hy : ev e y = some (ek k))
    (hm : KO F L b es) (hR : Dr ek ed es m) : Ft P N K e F L (.lookup T x y true) ty (.tuple #[ed ((Bm m k).getD z0), .bool (Bm m k).isSome]) := by
  have h := UM (ty := ty) (N := N) (K := K) hT hk hz hx hy hm hR
  have : ((Bm m k).map ed).getD z = ed ((Bm m k).getD z0) := by rw [aa]; cases Bm m k <;> rfl
  rw [this] at h; exact h
theorem P2 {T TK TE : TypeId} {x y : Operand} {b : Nat} {es : Array MapEntry} {m : List (κ × δ)} {k : κ} {z : Value} {z0 : δ} (aa : z = ed z0) (hT : P.underlying T = some (.map TK TE)) (hk : Le P TK ek) (hz : ∀ w, (zeroValue TE).run P w = .ok z w) (hx : ev e x = some (.map (some b))) (hy : ev e y = some (ek k))
    (hm : KO F L b es) (hR : Dr ek ed es m) : Ft P N K e F L (.lookup T x y false) ty (ed ((Bm m k).getD z0)) := by
  have h := US (ty := ty) (N := N) (K := K) hT hk hz hx hy hm hR
  have : ((Bm m k).map ed).getD z = ed ((Bm m k).getD z0) := by rw [aa]; cases Bm m k <;> rfl
  rw [this] at h; exact h
end
end
end Go.SH
