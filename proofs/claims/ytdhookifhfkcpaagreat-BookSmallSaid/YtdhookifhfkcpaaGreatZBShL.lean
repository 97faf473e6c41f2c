/- The calculus, part L: results; lists that are handed over. -/
import Derived.Test.YtdhookifhfkcpaaGreatZBShK
namespace Go.SH
section
variable {P : Program} {N : Nat} {K : Ctx} {fn : Func} {R : FS → LH → Value → Prop} {e : Env} {F : FS} {L : LH}
def Oj (P : Program) (N : Nat) (K : Ctx) (e : Env) (F : FS) (L : LH) (r : ResultVar) (v : Value) : Prop :=
  ∀ M a w, Ag N M e a → St K M F L w → (match r with
    | .tmp t => (pure (a.tmps.getD t undef) : Sem Value)
    | .cell x t => do loadVar t (← asAddr (a.tmps.getD x undef))).run P w = .ok v w
theorem AT {t : Nat} {v : Value} (h : e.get t = some v) : Oj P N K e F L (.tmp t) v := fun M a w ha hs => by
  have := ha.get _ _ h
  simp [Array.getD_eq_getD_getElem?, this]
theorem GJ {t n b o : Nat} {T : TypeId} {c cs : Array Value} (hT : ∀ w, (isAgg T).run P w = .ok true w) (hn : ∀ w, (sizeOf T).run P w = .ok n w) (ht : e.get t = some (.pointer (some ⟨b, o, none⟩))) (hc : Has F L b c) (hle : o + n ≤ c.size) (hv : c.extract o (o + n) = cs) :
    Oj P N K e F L (.cell t T) (.agg cs) := fun M a w ha hs => by
  obtain ⟨E, m, hh⟩ := hc.heap hs
  have h1 := ha.get _ _ ht
  have h2 := run_loadCells (P := P) hh hle
  simp [Array.getD_eq_getD_getElem?, h1, asAddr, loadVar, hT, hn, h2, hv]
def Q5 (tmps : Array Value) : ResultVar → Sem Value := fun
    | .tmp t => pure (tmps.getD t undef)
    | .cell a t => do loadVar t (← asAddr (tmps.getD a undef))
theorem Oj.run {r : ResultVar} {v : Value} (h : Oj P N K e F L r v) {M : List Nat} {a : Act} {w : World} (ha : Ag N M e a) (hs : St K M F L w) : (Q5 a.tmps r).run P w = .ok v w := by
  have := h M a w ha hs
  cases r <;> exact this
theorem Mp (fn : Func) (tmps : Array Value) : results fn tmps = (do
  let vs ← fn.results.mapM (Q5 tmps)
  pure (if h : vs.size = 1 then vs[0] else .tuple vs)) := rfl
theorem Mr {r : ResultVar} {v : Value} (hr : fn.results = #[r]) (h1 : Oj P N K e F L r v) {L2 : LH} (aa : L2.Sublist L) (h : R F L2 v) : Ny N K P fn R .ret e F L :=
  ⟨.inl rfl, v, L2, ⟨L, .refl _, aa⟩, fun M a w ha hs => by
    have h3 := h1.run ha hs
    rw [Mp, hr]
    simp [h3], h⟩
theorem BM {r s : ResultVar} {v x : Value} (hr : fn.results = #[r, s]) (h1 : Oj P N K e F L r v) (h2 : Oj P N K e F L s x) {L2 : LH} (aa : L2.Sublist L) (h : R F L2 (.tuple #[v, x])) : Ny N K P fn R .ret e F L :=
  ⟨.inl rfl, _, L2, ⟨L, .refl _, aa⟩, fun M a w ha hs => by
    have h3 := h1.run ha hs
    have h4 := h2.run ha hs
    rw [Mp, hr]
    simp [h3, h4], h⟩
theorem PY {r s q : ResultVar} {v x y : Value} (hr : fn.results = #[r, s, q]) (h1 : Oj P N K e F L r v) (h2 : Oj P N K e F L s x) (h5 : Oj P N K e F L q y) {L2 : LH} (aa : L2.Sublist L) (h : R F L2 (.tuple #[v, x, y])) : Ny N K P fn R .ret e F L :=
  ⟨.inl rfl, _, L2, ⟨L, .refl _, aa⟩, fun M a w ha hs => by
    have h3 := h1.run ha hs
    have h4 := h2.run ha hs
    have h6 := h5.run ha hs
    rw [Mp, hr]
    simp [h3, h4, h6], h⟩
end
def Tc (F : FS) (v : Value) (xs : List Int) : Prop := ∃ a c, v = .slice a xs.length c ∧ Lk F a c xs
theorem Tc.mono {F F' : FS} {v : Value} {xs : List Int} (h : Tc F v xs) (hF : AQ F F') : Tc F' v xs := h.imp fun _ h => h.imp fun _ h => ⟨h.1, h.2.mono hF⟩
theorem AI.zero {α : Type} {nb E sz : Nat} {R : Hf α} {F : FS} {a : Option Addr} {n cap : Nat} {xs : List α} {Lb : LH} (h : AI nb E sz R F a n cap xs Lb) : AI 0 E sz R F a n cap xs (Lb ++ []) := by
  rw [List.append_nil]; exact ⟨fun _ _ => Nat.zero_le _, h.2⟩
theorem AI.new {α : Type} {nb E sz : Nat} {R : Hf α} {F : FS} {a : Option Addr} {n cap : Nat} {xs : List α} {Lb : LH} (h : AI 0 E sz R F a n cap xs Lb) (hn : ∀ p ∈ Lb, nb ≤ p.1) : AI nb E sz R F a n cap xs Lb := ⟨hn, h.2⟩
section
variable {P : Program} {N : Nat} {r : Option Nat} {K : Ctx} {ops : Array Oper} {Q : Env → FS → LH → Prop} {rest : List Oper} {e : Env} {F : FS} {L : LH}
variable {ty : TypeId} {pos : String} {after : Array Edge} {d : Option Nat}
variable {α : Type} {R : Hf α} {a : Option Addr} {n cap : Nat} {xs : List α} {Lb Lr : LH}
theorem FA {sz : Nat} : ∀ (vss : List (List Value)) (k : Nat), (∀ vs ∈ vss, vs.length = sz) → (vss.take k).flatten = vss.flatten.take (k * sz)
  | [], k, _ => by simp
  | v :: vss, 0, _ => by simp
  | v :: vss, k + 1, h => by
    have h0 := h v (by simp)
    rw [List.take_succ_cons, List.flatten_cons, List.flatten_cons, FA vss k (fun u hu => h u (by simp [hu])), Nat.succ_mul, List.take_append, List.take_of_length_le (l := v) (by omega), show k * sz + sz - v.length = k * sz by omega]
theorem Jr {sz : Nat} : ∀ (vss : List (List Value)) (k : Nat), (∀ vs ∈ vss, vs.length = sz) → (vss.drop k).flatten = vss.flatten.drop (k * sz)
  | [], k, _ => by simp
  | v :: vss, 0, _ => by simp
  | v :: vss, k + 1, h => by
    have h0 := h v (by simp)
    rw [List.drop_succ_cons, List.flatten_cons, Jr vss k (fun u hu => h u (by simp [hu])), Nat.succ_mul, List.drop_append, List.drop_eq_nil_of_le (as := v) (by omega), show k * sz + sz - v.length = k * sz by omega]
    simp
theorem RI {T T2 E : TypeId} {x y : Operand} {nb sz bytes m c2 : Nat} {z : Value} {ys : List α} {a2 : Option Addr} (hd : CW N d = true) (hT : EN P T E sz z bytes) (hR : Ck sz R) (hx : ev e x = some (.slice a n cap)) (hy : ev e y = some (.slice a2 m c2))
    (hL : L.Perm (Lb ++ Lr)) (aj : AI nb E sz R F a n cap xs Lb) (ak : FL sz R F L a2 m ys)
    (k : ∀ Lb', AI nb E sz R F a n cap (ys.take n ++ xs.drop m) Lb' → Ct P N r K ops Q rest (e.put d (.int .i64 (Nat.min m n))) F (Lb' ++ Lr)) :
    Ct P N r K ops Q (⟨d, .call ⟨.builtin .copy, #[x, y], #[T, T2]⟩, ty, pos, after, none⟩ :: rest) e F L := by
  refine Bc hL ?_
  obtain ⟨h0, hn, vss, h1, h2, h3, h4⟩ := aj
  obtain ⟨hm, aa, h5, h6⟩ := ak.perm hL
  have al := h5.lens hR
  have ar := h1.lens hR
  have ab : Src F (Lb ++ Lr) sz a2 (Nat.min m n) (aa.take n).flatten := by
    obtain ⟨g1, g2, g3⟩ := h6
    have hlen : (aa.take n).length = Nat.min m n := by rw [List.length_take, h5.length, ← hm]; exact Nat.min_comm ..
    have au : (aa.take n).flatten.length = Nat.min m n * sz := by rw [DB (fun vs hv => al vs (List.mem_of_mem_take hv)), hlen]
    refine ⟨au, ?_, ?_⟩
    · rw [FA _ _ al]; exact fun v hv => g2 v (List.mem_of_mem_take hv)
    · by_cases av : Nat.min m n = 0
      · exact .inl av
      · rcases g3 with g3 | ⟨b, o, c, g3, g4, g5, g6⟩
        · exact .inl (by rw [g3]; exact Nat.zero_min _)
        · have hle : Nat.min m n * sz ≤ m * sz := Nat.mul_le_mul_right _ (Nat.min_le_left _ _)
          have ao : Nat.min m n * sz ≤ n * sz := Nat.mul_le_mul_right _ (Nat.min_le_right _ _)
          refine .inr ⟨b, o, c, g3, g4, by omega, fun j hj => ?_⟩
          rw [g6 j (by omega), FA _ _ al, List.getElem?_take, if_pos (by omega)]
  rcases h4 with ⟨a', hv, rfl, rfl⟩ | ⟨g, aw, pre, sp, hv, h7, h8, h9, rfl⟩
  · cases hv
    refine Jl hd (by intros; simp) fun M act w ha hs => ?_
    obtain ⟨i', ax, bc, ay, bd⟩ := hT.info
    subst ay
    have hf := ab.run (P := P) (cap := c2) hs rfl
    have aq : (Builtin.firstCells i'.size (Nat.min m 0) (.slice a2 m c2)).run P w = .ok (aa.take 0).flatten.toArray w := by
      cases a2 with
      | none => first | (simp [Builtin.firstCells]; done) | exact (by simpa [Builtin.firstCells] using hf)
      | some _ => exact (by simpa [Builtin.firstCells] using hf)
    have ai : Nat.min m 0 = 0 := Nat.min_eq_right (Nat.zero_le _)
    rw [ai] at aq
    have az : (aa.take 0).flatten.toArray = #[] := by simp
    rw [az] at aq
    refine ⟨_, F, _, w, by cases a <;> simp [execOp, resolve, invoke, builtin, Builtin.copy_, run_underlying hT.Qw, Builtin.lenOf, sizeOf, typeInfo, ax, ha.ev hx, ha.ev hy, ai, aq, goInt, storeCells], hs, k [] ⟨fun p hp => by simp at hp, by simp [← hn], [], ?_, by simp, fun v h => by simp at h, .inl ⟨a, rfl, rfl, rfl⟩⟩⟩
    have : xs = [] := List.eq_nil_of_length_eq_zero hn.symm
    subst this; simp; exact .nil
  · cases hv
    have ao : Nat.min m n * sz ≤ n * sz := Nat.mul_le_mul_right _ (Nat.min_le_right _ _)
    refine Rg (i := 0) (cs := (pre ++ vss.flatten ++ sp).toArray) hd hT hx hy rfl (by simp only [List.size_toArray, List.length_append]; omega) ab ?_
    have ad : DT (R F) (aa.take n ++ vss.drop m) (ys.take n ++ xs.drop m) := (h5.take n).append (h1.drop m)
    have ah : (pre ++ vss.flatten ++ sp).take pre.length ++ (aa.take n).flatten ++ (pre ++ vss.flatten ++ sp).drop (pre.length + (aa.take n).flatten.length) = pre ++ (aa.take n ++ vss.drop m).flatten ++ sp := by
      have hl := ab.1
      rw [List.append_assoc pre, List.take_left, List.drop_append, List.drop_eq_nil_of_le (by omega), hl]
      rw [List.flatten_append, Jr _ _ ar]
      simp only [List.nil_append, List.append_assoc]
      congr 2
      rw [show pre.length + Nat.min m n * sz - pre.length = Nat.min m n * sz by omega, List.drop_append]
      rw [show Nat.min m n * sz - vss.flatten.length = 0 by omega]
      simp only [List.drop_zero]
      congr 1
      by_cases ba : m ≤ n
      · rw [show Nat.min m n = m from Nat.min_eq_left ba]
      · rw [show Nat.min m n = n from Nat.min_eq_right (by omega), List.drop_eq_nil_of_le (by omega), List.drop_eq_nil_of_le]
        have : n * sz ≤ m * sz := Nat.mul_le_mul_right _ (by omega)
        omega
    have ae : (aa.take n ++ vss.drop m).flatten.length = n * sz := by
      rw [DB (ad.lens hR), ad.length, List.length_append, List.length_take, List.length_drop, ← hm, ← hn]
      congr 1; omega
    have := k [(g, .cells (pre ++ (aa.take n ++ vss.drop m).flatten ++ sp).toArray E (0, 0))] ⟨fun p hp => by rw [List.mem_singleton.1 hp]; exact h0 (g, .cells (pre ++ vss.flatten ++ sp).toArray E (0, 0)) (List.mem_cons_self ..), by rw [List.length_append, List.length_take, List.length_drop, ← hm, ← hn]; omega, _, ad, ae, ad.OE hR, .inr ⟨g, cap, pre, sp, rfl, h7, h8, by rw [ae]; omega, rfl⟩⟩
    have bb : (List.set ([(g, Obj.cells (pre ++ vss.flatten ++ sp).toArray E (0, 0))] ++ Lr) 0 (g, Obj.cells ((pre ++ vss.flatten ++ sp).toArray.toList.take pre.length ++ (aa.take n).flatten ++ (pre ++ vss.flatten ++ sp).toArray.toList.drop (pre.length + (aa.take n).flatten.length)).toArray E (0, 0))) = [(g, .cells (pre ++ (aa.take n ++ vss.drop m).flatten ++ sp).toArray E (0, 0))] ++ Lr := by
      simp only [List.singleton_append, List.set_cons_zero]
      rw [ah]
    rw [bb]; exact this
end
section
variable {P : Program} {N : Nat} {K : Ctx} {e : Env} {F : FS} {L : LH} {ty T T' S : TypeId} {x y : Operand} {p q : Int} {kd : IntKind}
theorem AY (hx : ev e x = some (.int kd p)) (hy : ev e y = some (.int kd q)) : Fb P N K e F L (.binOp .lss T x y T') ty (.bool (decide (p < q))) := fun M a w d pos after g ha hs => by simp [execOp, eqGuard, binOp, Op.intCmp, ha.ev hx, ha.ev hy]
theorem Pc (hx : ev e x = some (.int kd p)) (hy : ev e y = some (.int kd q)) : Fb P N K e F L (.binOp .leq T x y T') ty (.bool (decide (p ≤ q))) := fun M a w d pos after g ha hs => by simp [execOp, eqGuard, binOp, Op.intCmp, ha.ev hx, ha.ev hy]
theorem C2 (hx : ev e x = some (.int kd p)) (hy : ev e y = some (.int kd q)) : Fb P N K e F L (.binOp .gtr T x y T') ty (.bool (decide (q < p))) := fun M a w d pos after g ha hs => by simp [execOp, eqGuard, binOp, Op.intCmp, ha.ev hx, ha.ev hy]
theorem Hu (hx : ev e x = some (.int kd p)) (hy : ev e y = some (.int kd q)) : Fb P N K e F L (.binOp .geq T x y T') ty (.bool (decide (q ≤ p))) := fun M a w d pos after g ha hs => by simp [execOp, eqGuard, binOp, Op.intCmp, ha.ev hx, ha.ev hy]
end
section
variable {P : Program} {N : Nat} {r : Option Nat} {K : Ctx} {Q : GI} {e : Env} {F : FS} {L : LH}
theorem Ok {c : Code} {σ : Type} (I : σ → Env → FS → LH → Prop) (μ : σ → Nat) (s0 : σ) (h0 : I s0 e F L)
    (round : ∀ s e F L, I s e F L → Gg P N r K c (andThen (fun e' F' L' => ∃ s' L2 L3, L'.Perm L3 ∧ L2.Sublist L3 ∧ I s' e' F' L2 ∧ μ s' < μ s) Q) e F L) : Gg P N r K (.loop c) Q e F L := fun M a w ha hs => by
  refine Ma (fun s a w => ∃ M e F L, Ag N M e a ∧ St K M F L w ∧ I s e F L) μ s0 ⟨M, e, F, L, ha, hs, h0⟩ ?_
  rintro s a w ⟨M, e, F, L, ha, hs, hI⟩
  refine wpIn_mono (round s e F L hI M a w ha hs) ?_
  rintro ex a' w' ⟨M', e', F', L', h1, h2, h3⟩
  cases ex with
  | normal =>
    obtain ⟨s', L2, L3, hp, h6, h4, h5⟩ := h3
    exact ⟨s', ⟨M', e', F', L2, h1, (h2.perm hp).drop h6, h4⟩, h5⟩
  | _ => exact ⟨M', e', F', L', h1, h2, h3⟩
end
end Go.SH
