/- The calculus, part G: slices, more. -/
import Derived.Test.YtdhookifhfkcpaaGreatZBShF
import Derived.Laws.OwnMore
namespace Go.SH
abbrev Sy (x : Int) : Prop := -9223372036854775808 ≤ x ∧ x ≤ 9223372036854775807
abbrev ints (xs : List Int) : List Value := xs.map (Value.int .i64)
theorem O0 (xs : List Int) : OneCell (ints xs) := fun v h => by
  obtain ⟨x, _, rfl⟩ := List.mem_map.1 h; rfl
structure Lk (F : FS) (a : Option Addr) (cap : Nat) (xs : List Int) : Prop where
  row : Row F 1 a xs.length cap (ints xs)
  S6 : ∀ x ∈ xs, Sy x
theorem Lk.mono {F F' : FS} {a : Option Addr} {cap : Nat} {xs : List Int} (h : Lk F a cap xs) (hF : AQ F F') : Lk F' a cap xs := ⟨h.row.mono hF, h.S6⟩
theorem Lk.nil (F : FS) (a : Option Addr) (cap : Nat) (hc : cap ≤ maxLen) : Lk F a cap [] := ⟨Row.nil F 1 a cap hc, by simp⟩
theorem Lk.lt {F : FS} {a : Option Addr} {cap : Nat} {xs : List Int} (h : Lk F a cap xs) : (xs.length : Int) ≤ 9223372036854775807 := by
  have h1 := h.row.le; have h2 := h.row.cm; simp only [maxLen] at h2; omega
theorem Lk.at {F : FS} {a : Option Addr} {cap : Nat} {xs : List Int} (h : Lk F a cap xs) (L : LH) {i : Int} (h0 : 0 ≤ i) (hi : i < xs.length) :
    ∃ b o c, a = some ⟨b, o, none⟩ ∧ Has F L b c ∧ c[o + i.toNat * 1]? = some (.int .i64 (xs.getD i.toNat 0)) := by
  obtain ⟨b, o, c, h1, h2, h3, h4⟩ := h.row.at (L := L) (i := i.toNat) (by omega)
  refine ⟨b, o, c, h1, h2, ?_⟩
  have h5 := h4 0 (by omega)
  simp only [Nat.add_zero, Nat.mul_one] at h5 ⊢
  rw [h5]
  have aa : i.toNat < xs.length := by omega
  simp [aa, List.getD_eq_getElem?_getD]
section
variable {P : Program} {N : Nat} {r : Option Nat} {K : Ctx} {ops : Array Oper} {Q : Env → FS → LH → Prop} {rest : List Oper} {e : Env} {F : FS} {L : LH}
variable {ty : TypeId} {pos : String} {after : Array Edge} {d : Option Nat}
theorem BZ {T E : TypeId} {x y : Operand} {b o n c sz : Nat} {a0 : Option Addr} {i : Int} (hT : P.underlying T = some (.slice E)) (hE : ∀ w, (sizeOf E).run P w = .ok sz w) (hx : ev e x = some (.slice a0 n c)) (aa : a0 = some ⟨b, o, none⟩) (hy : ev e y = some (.int .i64 i)) (hi : 0 ≤ i ∧ i < n) :
    Fb P N K e F L (.indexAddr T x y) ty (.pointer (some ⟨b, o + i.toNat * sz, none⟩)) := GG hT hE (by rw [← aa]; exact hx) hy hi
theorem R6 {T E : TypeId} {x : Operand} {sz bytes : Nat} {z : Value} {n : Int} (hd : CW N d = true) (hT : EN P T E sz z bytes) (hx : ev e x = some (.int .i64 n)) (h0 : 0 ≤ n) (hb : (bytes : Int) * n ≤ 281474976710656) (hn : n ≤ 9223372036854775807)
    (k : ∀ b, K.w0.heap.size ≤ b → Ct P N r K ops Q rest (e.put d (.slice (some ⟨b, 0, none⟩) n.toNat n.toNat)) F ((b, .cells (madeCells z.cells (n.toNat * sz)) E (0, 0)) :: L)) :
    Ct P N r K ops Q (⟨d, .makeSlice T x x, ty, pos, after, none⟩ :: rest) e F L :=
  Jl hd (by intros; simp) fun M a w ha hs => by
    obtain ⟨i, aa, ab, ad, ae⟩ := hT.info
    subst ad; subst ae
    have hr := run_make (P := P) w T E i z hT.Qw aa ab .i64 .i64 n n h0 (Int.le_refl _) hb hn
    obtain ⟨h1, h2⟩ := hs.push (.cells (madeCells z.cells (n.toNat * i.size)) E)
    exact ⟨_, F, _, _, by simp [execOp, ha.ev hx, hr], h1, k _ h2⟩
theorem Gy {T E : TypeId} {n : Nat} {parts : Array (Nat × Operand)} {vs : List (Nat × Value)} {cs : Array Value} (hd : CW N d = true) (hp : parts.toList.mapM (fun p => (ev e p.2).map fun v => (p.1, v)) = some vs)
    (hb : ∀ w, (Instr.buildSlice T n vs.toArray).run P w = .ok (.slice (some ⟨w.heap.size, 0, none⟩) n n) (w.alloc (.cells cs E)))
    (k : ∀ b, K.w0.heap.size ≤ b → Ct P N r K ops Q rest (e.put d (.slice (some ⟨b, 0, none⟩) n n)) F ((b, .cells cs E (0, 0)) :: L)) :
    Ct P N r K ops Q (⟨d, .buildSlice T n parts, ty, pos, after, none⟩ :: rest) e F L :=
  Jl hd (by intros; simp) fun M a w ha hs => by
    have key : ∀ (l : List (Nat × Operand)) (vs : List (Nat × Value)), l.mapM (fun p => (ev e p.2).map fun v => (p.1, v)) = some vs → l.map (fun p => (p.1, a.eval p.2)) = vs := by
      intro l
      induction l with
      | nil => intro vs h; simpa using h
      | cons x l ih =>
        intro vs h
        simp only [List.mapM_cons, Option.bind_eq_bind, Option.bind_eq_some_iff, Option.pure_def, Option.some.injEq, Option.map_eq_some_iff] at h
        obtain ⟨p, ⟨v, hv, rfl⟩, aa, ab, rfl⟩ := h
        simp [ha.ev hv, ih aa ab]
    have e1 : parts.map (fun p => (p.1, a.eval p.2)) = vs.toArray := Array.ext' (by rw [Array.toList_map]; exact key _ _ hp)
    have e2 : (parts.map fun (i, x) => (i, a.eval x)) = vs.toArray := e1
    obtain ⟨h1, h2⟩ := hs.push (.cells cs E)
    exact ⟨_, F, _, _, by simp [execOp, e2, hb], h1, k _ h2⟩
theorem LB {T E sz bytes : Nat} {z : Value} (hT : EN P T E sz z bytes) (v : Value) (hv : v.cells.size = sz) (hs : sz ≤ 16777216) (w : World) : (Instr.buildSlice T 1 #[(0, v)]).run P w = .ok (.slice (some ⟨w.heap.size, 0, none⟩) 1 1) (w.alloc (.cells v.cells E)) := by
  obtain ⟨i, ad, ae, ah, ai⟩ := hT.info
  have hp := hT.pos
  have h1 : ¬ (16777216 < sz) := by omega
  have h2 : sz ≠ 0 := by omega
  have ab : ∀ (vs : List Value) (c : Array Value), vs.length = c.size → ((vs.zipIdx 0).foldl (fun c p => c.setIfInBounds (0 + p.2) p.1) c) = vs.toArray := by
    intro vs c h
    apply Array.ext'
    have := IE vs c 0 (by omega)
    simp only [Nat.zero_add] at this ⊢
    rw [this]; simp; omega
  have aa : ∀ (c : Array Value), c.size = sz → v.cells.zipIdx.foldl (fun cs (p : Value × Nat) => cs.setIfInBounds (0 + p.2) p.1) c = v.cells := by
    intro c hc
    rw [← Array.foldl_toList, Array.toList_zipIdx]
    have := ab v.cells.toList c (by simp [hv, hc])
    simpa using this
  have hf : Instr.fill (fun i => some (i * sz, sz)) ((Array.range sz).map (z.cells[· % z.cells.size]!)) [(0, v)] = some v.cells := by
    simp only [Instr.fill, Nat.zero_mul, hv, Nat.zero_add, Array.size_map, Array.size_range, ne_eq, not_true, gt_iff_lt, Nat.lt_irrefl]
    have := aa ((Array.range sz).map (z.cells[· % z.cells.size]!)) (by simp)
    simpa using this
  simp [Instr.buildSlice, run_underlying hT.Qw, sizeOf, typeInfo, zeroValue, ad, ae, ah, h1, h2, hf, newRow]
theorem I3 {T E : TypeId} {x : Operand} {lo hi : Option Operand} {sz n c : Nat} {a0 : Option Addr} {l h : Int} (hT : P.underlying T = some (.slice E)) (hE : ∀ w, (sizeOf E).run P w = .ok sz w) (hx : ev e x = some (.slice a0 n c))
    (ab : (lo = none ∧ l = 0) ∨ ∃ y, lo = some y ∧ ev e y = some (.int .i64 l)) (ad : (hi = none ∧ h = n) ∨ ∃ y, hi = some y ∧ ev e y = some (.int .i64 h)) (h0 : 0 ≤ l ∧ l ≤ h ∧ h ≤ c) :
    Fb P N K e F L (.slice T x lo hi none) ty (.slice (if c = l.toNat then a0 else a0.map (·.add (l.toNat * sz))) (h.toNat - l.toNat) (c - l.toNat)) := fun M a w d pos after g ha hs => by
  have ae : (Instr.sliceBounds true n c (lo.map a.eval) (hi.map a.eval) none).run P w = .ok (l.toNat, h.toNat, c) w := by
    rcases ab with ⟨rfl, rfl⟩ | ⟨y, rfl, hy⟩ <;> rcases ad with ⟨rfl, rfl⟩ | ⟨y', rfl, aa⟩
    · simp [Instr.sliceBounds]
    · simp [Instr.sliceBounds, Instr.sliceBound, asIntOf, ha.ev aa, show 0 ≤ h ∧ h ≤ (c : Int) by omega]
    · have : l ≤ (n : Int) := by omega
      simp [Instr.sliceBounds, Instr.sliceBound, asIntOf, ha.ev hy, h0.1, this]
    · have h1 : 0 ≤ h ∧ h ≤ (c : Int) := by omega
      simp [Instr.sliceBounds, Instr.sliceBound, asIntOf, ha.ev hy, ha.ev aa, h1, h0.1]
      intro hc; omega
  simp [execOp, Instr.sliceAt, Instr.slice, run_underlying hT, ha.ev hx, ae, hE]
theorem Row.slice {sz : Nat} {a : Option Addr} {n cap : Nat} {xs : List Value} (h : Row F sz a n cap xs) {l hh : Nat} (h1 : l ≤ hh) (h2 : hh ≤ n) :
    Row F sz (if cap = l then a else a.map (·.add (l * sz))) (hh - l) (cap - l) ((xs.drop (l * sz)).take ((hh - l) * sz)) := by
  have hc := h.le
  have hle : hh * sz ≤ n * sz := Nat.mul_le_mul_right _ h2
  have aa : (hh - l) * sz = hh * sz - l * sz := by rw [Nat.sub_mul]
  have ab : l * sz ≤ hh * sz := Nat.mul_le_mul_right _ h1
  have hm := h.cm
  refine ⟨?_, by omega, by omega, fun v hv => h.one v (List.mem_of_mem_drop (List.mem_of_mem_take hv)), ?_⟩
  · rw [List.length_take, List.length_drop, h.len]; omega
  · by_cases h0 : hh - l = 0
    · exact .inl h0
    · right
      rcases h.cells with h3 | ⟨b, o, c, E, m, h3, h4, h5, h6⟩
      · omega
      · refine ⟨b, o + l * sz, c, E, m, ?_, h4, by omega, fun j hj => ?_⟩
        · rw [if_neg (by omega), h3]; simp [add_lit]
        · rw [Nat.add_assoc, h6 _ (by omega), List.getElem?_take, if_pos hj, List.getElem?_drop]
theorem Lk.slice {a : Option Addr} {cap : Nat} {xs : List Int} (h : Lk F a cap xs) {l hh : Nat} (h1 : l ≤ hh) (h2 : hh ≤ xs.length) :
    Lk F (if cap = l then a else a.map (·.add (l * 1))) (cap - l) ((xs.drop l).take (hh - l)) ∧ hh - l = ((xs.drop l).take (hh - l)).length := by
  have hlen : hh - l = ((xs.drop l).take (hh - l)).length := by rw [List.length_take, List.length_drop]; omega
  refine ⟨⟨?_, fun x hx => h.S6 x (List.mem_of_mem_drop (List.mem_of_mem_take hx))⟩, hlen⟩
  have := h.row.slice h1 h2
  rw [← hlen]
  simpa [ints, List.map_take, List.map_drop] using this
theorem RB {S T : TypeId} {ds : TypeDesc} {x : Operand} {kd k2 : IntKind} {n : Int} (hS : P.underlying S = some ds) (hT : P.underlying T = some (.int k2)) (hx : ev e x = some (.int kd n)) (hn : k2.wrap n = n) :
    Fb P N K e F L (.convert S T x) ty (.int k2 n) := fun M a w d pos after g ha hs => by
  simp [execOp, convert, run_underlying hS, run_underlying hT, ha.ev hx, Conv.intToInt, hn]
theorem Qt {T : TypeId} {x y : Operand} {v u i : Value} (hf : ∀ w, (Instr.index T v i).run P w = .ok u w) (hx : ev e x = some v) (hy : ev e y = some i) : Fb P N K e F L (.index T x y) ty u := fun M a w d pos after g ha hs => by
  simp [execOp, ha.ev hx, ha.ev hy, hf]
theorem Sn {x y : Operand} {MZ : Array TypeId} {p q : Int} (hx : ev e x = some (.int .i64 p)) (hy : ev e y = some (.int .i64 q)) : Fb P N K e F L (.call ⟨.builtin .min, #[x, y], MZ⟩) ty (.int .i64 (if q < p then q else p)) := fun M a w d pos after g ha hs => by
  simp [execOp, resolve, invoke, builtin, Builtin.min_, Builtin.min2, ha.ev hx, ha.ev hy]
theorem Rg {T T2 E : TypeId} {x y : Operand} {sz bytes n m c1 c2 b i o : Nat} {z : Value} {cs : Array Value} {ys : List Value} {a2 : Option Addr} {E' : TypeId} (hd : CW N d = true) (hT : EN P T E sz z bytes) (hx : ev e x = some (.slice (some ⟨b, o, none⟩) n c1)) (hy : ev e y = some (.slice a2 m c2))
    (hi : L[i]? = some (b, .cells cs E' (0, 0))) (ho : o + n * sz ≤ cs.size) (aa : Src F L sz a2 (Nat.min m n) ys)
    (k : Ct P N r K ops Q rest (e.put d (.int .i64 (Nat.min m n))) F (L.set i (b, .cells (cs.toList.take o ++ ys ++ cs.toList.drop (o + ys.length)).toArray E' (0, 0)))) :
    Ct P N r K ops Q (⟨d, .call ⟨.builtin .copy, #[x, y], #[T, T2]⟩, ty, pos, after, none⟩ :: rest) e F L :=
  Jl hd (by intros; simp) fun M a w ha hs => by
    obtain ⟨i', ae, ak, ah, al⟩ := hT.info
    subst ah
    have hle : Nat.min m n * i'.size ≤ n * i'.size := Nat.mul_le_mul_right _ (Nat.min_le_right _ _)
    have ai : o + ys.length ≤ cs.size := by rw [aa.1]; omega
    obtain ⟨w', hr, ad⟩ := DV (P := P) ys w L cs o 0 hs hi (by omega) aa.2.1
    have hf := aa.run (P := P) (cap := c2) hs rfl
    have aj : (Builtin.firstCells i'.size (Nat.min m n) (.slice a2 m c2)).run P w = .ok ys.toArray w := by
      cases a2 <;> simpa [Builtin.firstCells] using hf
    have ab : (ys.zipIdx (o + 0)).foldl (fun c p => c.setIfInBounds p.2 p.1) cs = (cs.toList.take o ++ ys ++ cs.toList.drop (o + ys.length)).toArray := by
      apply Array.ext'
      rw [Nat.add_zero, IE _ _ _ ai]
    rw [ab] at ad
    exact ⟨_, F, _, w', by simp [execOp, resolve, invoke, builtin, Builtin.copy_, run_underlying hT.Qw, Builtin.lenOf, sizeOf, typeInfo, ae, ha.ev hx, ha.ev hy, aj, hr, goInt], ad, k⟩
end
section
variable {P : Program} {N : Nat} {r : Option Nat} {K : Ctx} {Q : GI} {e : Env} {F : FS} {L : LH}
theorem Ba {x : Operand} {p : Prop} [Decidable p] (h : ev e x = some (.bool (decide p))) (hp : p) : ev e x = some (.bool true) := by rw [h, decide_eq_true hp]
theorem AR {x : Operand} {p : Prop} [Decidable p] (h : ev e x = some (.bool (decide p))) (hp : ¬ p) : ev e x = some (.bool false) := by rw [h, decide_eq_false hp]
theorem Env.Gr {t : Nat} {p : Prop} [Decidable p] (h : e.get t = some (.bool (decide p))) (hp : p) : e.get t = some (.bool true) := by rw [h, decide_eq_true hp]
theorem Env.Fs {t : Nat} {p : Prop} [Decidable p] (h : e.get t = some (.bool (decide p))) (hp : ¬ p) : e.get t = some (.bool false) := by rw [h, decide_eq_false hp]
theorem AB {ops : Array Oper} {Q : Env → FS → LH → Prop} {l : List Oper} {L' : LH} (h : L = L') (k : Ct P N r K ops Q l e F L') : Ct P N r K ops Q l e F L := h ▸ k
theorem E5 {c : Code} {L' : LH} (h : L = L') (k : Gg P N r K c Q e F L') : Gg P N r K c Q e F L := h ▸ k
end
end Go.SH
