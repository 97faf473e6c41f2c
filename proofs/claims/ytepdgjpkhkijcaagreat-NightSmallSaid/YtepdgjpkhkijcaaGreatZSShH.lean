/- The calculus, part H: function values that are called, iterators, loops over a function. -/
import Derived.Test.YtepdgjpkhkijcaaGreatZSShG
namespace Go.SH
def OZ (w : World) (F0 : FS) (L0 : LH) (R : FS → LH → Value → Prop) (e : Ending) (w' : World) : Prop :=
  ∃ v F' L', e = .returned v ∧ KJ (keys L0) w w' ∧ O7 F' w' ∧ (∀ b, b < w.heap.size → F' b = F0 b) ∧ KU F' L' w' ∧ (∀ p ∈ L', p.1 ∈ keys L0 ∨ w.heap.size ≤ p.1) ∧ R F' L' v
def N0 (g : Value) (args : Array Value) : Sem Next := do
  let d ← Deferred.ofValue g args
  invoke d.target d.args
def OW (P : Program) (g : Value) (args : Array Value) (F0 : FS) (L0 : LH) (R : FS → LH → Value → Prop) : Prop :=
  ∀ w, O7 F0 w → KU F0 L0 w → (∃ f as, (N0 g args).run P w = .ok (.enter f as) w ∧ Calls P f as w (OZ w F0 L0 R)) ∨
    (∃ l f tmps a6 body, (N0 g args).run P w = .ok (.round l f tmps a6 body) w ∧ RoundIn (GQ none) 0 P l f tmps a6 body w (OZ w F0 L0 R))
theorem OW.mono {P : Program} {g : Value} {args : Array Value} {F0 : FS} {L0 : LH} {R R' : FS → LH → Value → Prop} (h : OW P g args F0 L0 R) (hr : ∀ F L v, R F L v → R' F L v) : OW P g args F0 L0 R' := fun w hF hL => by
  have hb : ∀ e w', OZ w F0 L0 R e w' → OZ w F0 L0 R' e w' := fun e w' ⟨v, F', L', h1, h2, h3, h4, h5, h6, h7⟩ => ⟨v, F', L', h1, h2, h3, h4, h5, h6, hr _ _ _ h7⟩
  rcases h w hF hL with ⟨f, as, h1, h2⟩ | ⟨l, f, tmps, a6, body, h1, h2⟩
  · exact .inl ⟨f, as, h1, h2.mono hb⟩
  · exact .inr ⟨l, f, tmps, a6, body, h1, h2.mono hb⟩
section
variable {P : Program} {N : Nat} {r : Option Nat} {K : Ctx} {ops : Array Oper} {Q : Env → FS → LH → Prop} {rest : List Oper} {e : Env} {F : FS} {L : LH}
variable {ty : TypeId} {pos : String} {after : Array Edge} {d : Option Nat}
theorem Qy {x : Operand} {xs : Array Operand} {ab : Array TypeId} {g : Value} {vs : List Value} {Lb Lr : LH} {R : FS → LH → Value → Prop} (hd : De N d = true)
    (hx : ev e x = some g) (ad : xs.toList.mapM (ev e) = some vs) (hL : L.Perm (Lb ++ Lr)) (aa : OW P g vs.toArray F Lb R)
    (k : ∀ v F' L', AN F F' → R F' L' v → Cr P N r K ops Q rest (e.put d v) F' (L' ++ Lr)) :
    Cr P N r K ops Q (⟨d, .call ⟨.value x, xs, ab⟩, ty, pos, after, none⟩ :: rest) e F L := fun M a w ha ae => by
  have hs := ae.perm hL
  have e1 : xs.map a.eval = vs.toArray := Array.ext' (by rw [Array.toList_map]; exact Qs ha _ _ ad)
  have hex : ∀ nx, (N0 g vs.toArray).run P w = .ok nx w → (execOp a.eval ⟨d, .call ⟨.value x, xs, ab⟩, ty, pos, after, none⟩).run P w = .ok nx w := fun nx h => by
    simpa [execOp, resolve, ha.ev hx, e1, N0] using h
  refine wpListIn_plain rfl fun Kn hK => ⟨fun _ _ => trivial, ?_⟩
  rw [Oper.semAt_eq _ _ _ (by intro c h; cases h)]
  have hO : KU F Lb w := ⟨(List.nodup_append.1 (by have := hs.own.nodup; rwa [List.map_append] at this)).1, fun p hp => hs.own.cell p (List.mem_append_left _ hp), fun p hp => hs.own.free p (List.mem_append_left _ hp)⟩
  have a6 : ∀ e' w', OZ w F Lb R e' w' → ∃ v, e' = .returned v ∧ Kn (a.put d v) w' := by
    rintro ee w' ⟨v, F', L', rfl, h1, h2, h3, h4, h5, h6⟩
    obtain ⟨h7, h8⟩ := hs.Hf h1 h2 h3 h4 h5
    exact ⟨v, rfl, hK _ _ (k v F' L' h8 h6 _ _ _ (ha.MG hd v) h7)⟩
  rcases aa w hs.LL hO with ⟨f, as, h1, h2⟩ | ⟨l, f, tmps, ah, body, h1, h2⟩
  · rw [hex _ h1]
    refine ⟨by simp, DP (h2.mono ?_)⟩
    intro e' w' hb
    obtain ⟨v, rfl, h3⟩ := a6 e' w' hb
    exact h3
  · rw [hex _ h1]
    refine ⟨by simp, ?_⟩
    have ai : RoundIn (GQ r) (0 - 1) P l f tmps ah body w (OZ w F Lb R) := h2
    refine ai.mono ?_
    intro e' w' hb
    obtain ⟨v, rfl, h3⟩ := a6 e' w' hb
    exact h3
end
def K8 (P : Program) (gf : FuncId) (first cap : Array Value) (F0 : FS) {α : Type} (encs : α → Array Value) (xs : List α) : Prop :=
  ∀ (G0 : FS), AN F0 G0 → ∀ (yv : Value) (J : List α → FS → LH → Prop) (Jx : FS → LH → Prop),
    (∀ pre F F' L, J pre F L → AN F F' → J pre F' L) → (∀ F F' L, Jx F L → AN F F' → Jx F' L) →
    (∀ pre x a6, xs = pre ++ x :: a6 → ∀ F L, AN G0 F → J pre F L → OW P yv (encs x) F L fun F' L' v => (v = .bool true ∧ J (pre ++ [x]) F' L') ∨ (v = .bool false ∧ Jx F' L')) →
    ∀ F L, AN G0 F → J [] F L → Spec P gf (first ++ #[yv] ++ cap) F L fun F' L' _ => J xs F' L' ∨ Jx F' L'
def Jc (ps : List Tmp) (vs : List Value) (e : Env) : Env := (ps.zip vs).foldl (fun e p => p :: e) e
theorem Ag.round {N : Nat} {M : List Nat} {e : Env} {a : Act} (h : Ag N M e a) : ∀ (ps : List Tmp) (vs : List Value), (ps.all fun t => Nat.ble (t + 1) N) = true → ∀ (tmps : Array Value) (e' : Env), (∀ t v, e'.get t = some v → tmps[t]? = some v) → tmps.size = N →
    (∀ t v, (Jc ps vs e').get t = some v → ((ps.zip vs).foldl (fun tmps (p : Tmp × Value) => tmps.setIfInBounds p.1 p.2) tmps)[t]? = some v) ∧ ((ps.zip vs).foldl (fun tmps (p : Tmp × Value) => tmps.setIfInBounds p.1 p.2) tmps).size = N
  | [], _, _, tmps, e', h1, h2 => by simpa [Jc] using ⟨h1, h2⟩
  | _ :: _, [], _, tmps, e', h1, h2 => by simpa [Jc] using ⟨h1, h2⟩
  | p :: ps, v :: vs, hp, tmps, e', h1, h2 => by
    simp only [List.all_cons, Bool.and_eq_true] at hp
    have a6 := Ag.put (M := M) (e := e') (a := ⟨tmps, M.map NF⟩) ⟨rfl, h2, h1⟩ hp.1 v
    have ih := Ag.round h ps vs hp.2 (tmps.setIfInBounds p v) ((p, v) :: e') (fun t u ht => a6.get t u ht) (by simpa using h2)
    simpa [Jc] using ih
section
variable {P : Program} {N : Nat} {K : Ctx} {Q : GK} {e : Env} {F : FS} {L : LH}
def Qv (I : FS → LH → Prop) (Ix : Code → FS → LH → Prop) : GK
  | .normal, _, F, L => ∃ L2, (∃ L3, L.Perm L3 ∧ L2.Sublist L3) ∧ I F L2
  | .ret, _, F, L => ∃ L2, (∃ L3, L.Perm L3 ∧ L2.Sublist L3) ∧ Ix .ret F L2
  | .exit id, _, F, L => ∃ L2, (∃ L3, L.Perm L3 ∧ L2.Sublist L3) ∧ Ix (.exit id) F L2
  | _, _, _, _ => False
theorem Cu {g : Operand} {ps : Array Tmp} {assign body : Code} {gf : FuncId} {first cap : Array Value} {α : Type} {encs : α → Array Value} {xs : List α} (hg : ev e g = some (.func (.func gf) first cap))
    (bb : ∀ args w, (callFunc gf args).run P w = .ok (.enter gf args) w) (bc : (ps.toList.all fun t => Nat.ble (t + 1) N) = true) (bd : ∀ x, (encs x).size = ps.size)
    (aj : K8 P gf first cap F encs xs) (I : List α → FS → LH → Prop) (Ix : Code → FS → LH → Prop)
    (hI : ∀ pre F F' L, I pre F L → AN F F' → I pre F' L) (bg : ∀ c F F' L, Ix c F L → AN F F' → Ix c F' L) (h0 : I [] F L)
    (round : ∀ (l : Nat) (wr : World) (Fr : FS) (Xr : List Nat) (Ha Hb : LH), K.w0.heap.size ≤ wr.heap.size → (∃ r, (l, Obj.loop r) ∈ Hb) → ∀ pre x ar, xs = pre ++ x :: ar → ∀ F1 L1, AN F F1 → I pre F1 L1 →
      EO P N (some l) ⟨wr, Fr, Xr, Ha⟩ assign (fun ex e2 F2 L2 => ex = .normal ∧ EO P N (some l) ⟨wr, Fr, Xr, Hb⟩ body (Qv (I (pre ++ [x])) Ix) e2 F2 L2) (Jc ps.toList (encs x).toList e) F1 L1)
    (done : ∀ F' L', AN F F' → I xs F' L' → Q .normal e F' L')
    (stop : ∀ c F' L', AN F F' → Ix c F' L' → EO P N none K c Q e F' L') :
    EO P N none K (.rangeFunc g ps assign body) Q e F L := fun M a w ha hs => by
  refine wpIn_rangeFunc fun fn _ => ?_
  have ab := run_enterLoop_outer (P := P) (w := w) fn a.tmps ps assign body
  -- the record
  let a6 : Loop := { state := .ready, pending := none, fn, tmps := a.tmps, params := ps, assign, body, defers := w.heap.size }
  let l := w.heap.size + 1
  let w1 := (w.alloc (.deferred (some []))).alloc (.loop a6)
  have au : Gm K F ((l, .loop a6) :: (w.heap.size, .deferred (some [])) :: (L ++ (M.map Bn ++ K.H0))) w1 := by
    have := (Gm.push (Gm.push hs (.deferred (some []))).1 (.loop a6)).1
    simpa [l, w1] using this
  have ad : St K (w.heap.size :: M) F ((l, .loop a6) :: L) w1 := by
    refine Gm.perm au ?_
    simp only [List.cons_append, List.map_cons]
    exact List.Perm.cons _ List.perm_middle.symm
  refine ⟨l, [{ target := .collected w.heap.size, args := #[] }], w1, { target := .fn (.func gf) cap, args := first ++ #[.func (.yield l) #[] #[]] }, w1, gf, first ++ #[.func (.yield l) #[] #[]] ++ cap, w1, ab, ?_, ?_, ?_, by simp, ?_⟩
  · have hc : a.eval (.const (.func (.yield l) #[] #[])) = .func (.yield l) #[] #[] := rfl
    simp [resolve, Deferred.ofValue, ha.ev hg, hc]
  · intro f' _; trivial
  · simp [invoke, bb]
  -- the iterator's call
  let J : List α → FS → LH → Prop := fun pre F L => ∃ Lr, L = (l, .loop a6) :: Lr ∧ I pre F Lr
  let Jx : FS → LH → Prop := fun F L => ∃ Lr c, L = (l, .loop { a6 with state := .done, pending := some c }) :: Lr ∧ Ix c F Lr
  have ak := aj F (AN.refl F) (.func (.yield l) #[] #[]) J Jx (fun pre F F' L ⟨Lr, h1, h2⟩ hx => ⟨Lr, h1, hI _ _ _ _ h2 hx⟩) (fun F F' L ⟨Lr, c, h1, h2⟩ hx => ⟨Lr, c, h1, bg _ _ _ _ h2 hx⟩) ?_ F ((l, .loop a6) :: L) (AN.refl F) ⟨L, rfl, h0⟩
  · -- behind the iterator
    have hO : KU F ((l, .loop a6) :: L) w1 := ad.own
    refine DP ((ak w1 ad.LL hO).mono ?_)
    rintro ee w' ⟨v, F', L', rfl, h1, h2, h3, h4, h5, h6⟩
    obtain ⟨h7, h8⟩ := Gm.Hf (Lb := (l, .loop a6) :: L) (Lr := (w.heap.size :: M).map Bn ++ K.H0) ad h1 h2 h3 h4 h5
    rcases h6 with ⟨Lr, rfl, h6⟩ | ⟨Lr, c, rfl, h6⟩
    · have hl := h7.own.cell (l, .loop a6) (by simp)
      refine ⟨none, w'.putObj l (.loop { a6 with state := .exhausted }), ?_, ?_⟩
      · have := run_endLoop (P := P) hl (by simp [a6]); simpa [a6] using this
      · have ht := Gm.Mz (i := 0) h7 rfl (w' := w'.putObj l (.loop { a6 with state := .exhausted })) (o' := .loop { a6 with state := .exhausted }) rfl rfl rfl (by simp) (World.putObj_heap_same (Array.getElem?_eq_some_iff.1 hl).1) (fun k hk => World.putObj_heap_other hk)
        exact ⟨w.heap.size :: M, e, F', Lr, ⟨by simp [ha.ds, NF], ha.size, ha.get⟩, Gm.drop ht (List.sublist_cons_self _ _), done F' Lr h8 h6⟩
    · have hl := h7.own.cell (l, .loop { a6 with state := .done, pending := some c }) (by simp)
      refine ⟨some c, w'.putObj l (.loop { a6 with state := .exhausted, pending := some c }), ?_, ?_⟩
      · have := run_endLoop (P := P) hl (by simp); simpa [a6] using this
      · have ht := Gm.Mz (i := 0) h7 rfl (w' := w'.putObj l (.loop { a6 with state := .exhausted, pending := some c })) (o' := .loop { a6 with state := .exhausted, pending := some c }) rfl rfl rfl (by simp) (World.putObj_heap_same (Array.getElem?_eq_some_iff.1 hl).1) (fun k hk => World.putObj_heap_other hk)
        exact stop c F' Lr h8 h6 (w.heap.size :: M) _ _ ⟨by simp [ha.ds, NF], ha.size, ha.get⟩ (Gm.drop ht (List.sublist_cons_self _ _))
  · -- a round
    rintro pre x ar bh F1 L1 bj ⟨Lr, rfl, bk⟩ w2 bl av
    have hl := av.cell (l, .loop a6) (by simp)
    refine .inr ⟨l, fn, (ps.zip (encs x)).foldl (fun tmps (p : Tmp × Value) => tmps.setIfInBounds p.1 p.2) a.tmps, assign, body, ?_, roundIn_of_wpIn trivial ?_⟩
    · have := run_yield (P := P) hl (args := encs x) (by simpa [a6] using bd x)
      simpa [N0, Deferred.ofValue, invoke, a6] using this
    let Ka : Ctx := ⟨w2, F1, keys ((l, Obj.loop a6) :: Lr), [(l, .loop a6)]⟩
    let Kb : Ctx := ⟨w2, F1, keys ((l, Obj.loop a6) :: Lr), [(l, .loop { a6 with state := .busy })]⟩
    have bm : St Ka [] F1 Lr w2 := by
      show Gm Ka F1 (Lr ++ ([] ++ [(l, .loop a6)])) w2
      simp only [List.nil_append]
      exact ⟨KJ.refl _ _, bl, fun _ _ => rfl, av.perm (by simpa using (List.perm_append_comm (l₁ := [(l, Obj.loop a6)]) (l₂ := Lr))), fun p hp => .inl (List.mem_map.2 ⟨p, by simp at hp ⊢; exact hp.symm, rfl⟩)⟩
    have bn : Ag N [] (Jc ps.toList (encs x).toList e) { tmps := (ps.zip (encs x)).foldl (fun tmps (p : Tmp × Value) => tmps.setIfInBounds p.1 p.2) a.tmps, defers := [] } := by
      have := Ag.round ha ps.toList (encs x).toList bc a.tmps e ha.get ha.size
      have e1 : (ps.zip (encs x)).foldl (fun tmps (p : Tmp × Value) => tmps.setIfInBounds p.1 p.2) a.tmps = (ps.toList.zip (encs x).toList).foldl (fun tmps (p : Tmp × Value) => tmps.setIfInBounds p.1 p.2) a.tmps := by
        rw [← Array.foldl_toList, Array.toList_zip]
      rw [e1]
      exact ⟨rfl, this.2, this.1⟩
    have al : K.w0.heap.size ≤ w2.heap.size := Nat.le_trans (Gm.EL hs).size (Nat.le_of_lt (Nat.lt_trans (Nat.lt_succ_self _) (Array.getElem?_eq_some_iff.1 hl).1))
    refine wpIn_mono (round l w2 F1 (keys ((l, Obj.loop a6) :: Lr)) [(l, .loop a6)] [(l, .loop { a6 with state := .busy })] al ⟨_, List.mem_singleton.2 rfl⟩ pre x ar bh F1 Lr bj bk [] _ w2 bn bm) ?_
    rintro ex a3 w3 ⟨M3, e3, F3, L3, bo, aw, rfl, ao⟩
    -- the record becomes busy
    have bp : (L3 ++ (M3.map Bn ++ [(l, Obj.loop a6)]))[(L3 ++ M3.map Bn).length]? = some (l, .loop a6) := by rw [← List.append_assoc]; simp
    have ax := (Gm.own aw).cell (l, .loop a6) (by simp)
    refine ⟨w3.putObj l (.loop { a6 with state := .busy }), run_beginRound ax rfl, ?_⟩
    have ai := Gm.Mz aw (i := (L3 ++ M3.map Bn).length) bp (w' := w3.putObj l (.loop { a6 with state := .busy })) (o' := .loop { a6 with state := .busy }) rfl rfl rfl (by simp) (World.putObj_heap_same (Array.getElem?_eq_some_iff.1 ax).1) (fun k hk => World.putObj_heap_other hk)
    have bq : St Kb M3 F3 L3 (w3.putObj l (.loop { a6 with state := .busy })) := by
      have e2 : (L3 ++ (M3.map Bn ++ Ka.H0)).set (L3 ++ M3.map Bn).length (l, Obj.loop { a6 with state := .busy }) = L3 ++ (M3.map Bn ++ Kb.H0) := by
        rw [← List.append_assoc, ← List.append_assoc]
        rw [List.set_append_right _ _ (Nat.le_refl _), Nat.sub_self]; rfl
      rw [e2] at ai
      exact ⟨ai.EL, ai.LL, ai.fold, ai.own, ai.J5⟩
    refine wpIn_mono (ao M3 a3 _ bo bq) ?_
    rintro ex a5 w5 ⟨M5, e5, F5, L5, bu, ay, hq⟩
    have az := (Gm.own ay).cell (l, .loop { a6 with state := .busy }) (by simp)
    have br : (L5 ++ (M5.map Bn ++ [(l, Obj.loop { a6 with state := .busy })]))[(L5 ++ M5.map Bn).length]? = some (l, .loop { a6 with state := .busy }) := by rw [← List.append_assoc]; simp
    have ae : ∀ (jump : Option Code), ∃ w6, (Instr.endRound l jump).run P w5 = .ok (.bool jump.isNone) w6 ∧ Gm Kb F5 ((l, .loop { a6 with state := if jump.isNone then .ready else .done, pending := jump }) :: L5) w6 := fun jump => by
      refine ⟨_, run_endRound jump az, ?_⟩
      have ba := Gm.Mz ay (i := (L5 ++ M5.map Bn).length) br (w' := w5.putObj l (.loop { a6 with state := if jump.isNone then .ready else .done, pending := jump })) (o' := .loop { a6 with state := if jump.isNone then .ready else .done, pending := jump }) rfl rfl rfl (by simp) (World.putObj_heap_same (Array.getElem?_eq_some_iff.1 az).1) (fun k hk => World.putObj_heap_other hk)
      have e3 : (L5 ++ (M5.map Bn ++ Kb.H0)).set (L5 ++ M5.map Bn).length (l, Obj.loop { a6 with state := if jump.isNone then .ready else .done, pending := jump }) = (L5 ++ M5.map Bn) ++ [(l, Obj.loop { a6 with state := if jump.isNone then .ready else .done, pending := jump })] := by
        rw [← List.append_assoc]
        rw [List.set_append_right _ _ (Nat.le_refl _), Nat.sub_self]; rfl
      rw [e3] at ba
      refine (ba.perm List.perm_append_comm).drop ?_
      simp
    have ah : ∀ (jump : Option Code) (w6 : World) (L5 : LH), Gm Kb F5 ((l, .loop { a6 with state := if jump.isNone then .ready else .done, pending := jump }) :: L5) w6 →
        (((Value.bool jump.isNone) = .bool true ∧ J (pre ++ [x]) F5 ((l, .loop { a6 with state := if jump.isNone then .ready else .done, pending := jump }) :: L5)) ∨ ((Value.bool jump.isNone) = .bool false ∧ Jx F5 ((l, .loop { a6 with state := if jump.isNone then .ready else .done, pending := jump }) :: L5))) →
        OZ w2 F1 ((l, .loop a6) :: Lr) (fun F' L' v => (v = .bool true ∧ J (pre ++ [x]) F' L') ∨ (v = .bool false ∧ Jx F' L')) (.returned (.bool jump.isNone)) w6 := fun jump w6 L5 h6 h7 =>
      ⟨_, F5, _, rfl, h6.EL, h6.LL, h6.fold, h6.own, h6.J5, h7⟩
    cases ex with
    | normal =>
      obtain ⟨w6, h6, h7⟩ := ae none
      obtain ⟨L6, ⟨L7, aq, aa⟩, hq⟩ := hq
      exact ⟨_, w6, h6, ah none w6 L6 ((h7.perm (aq.cons _)).drop (aa.cons_cons _)) (.inl ⟨rfl, L6, rfl, hq⟩)⟩
    | ret =>
      obtain ⟨w6, h6, h7⟩ := ae (some .ret)
      obtain ⟨L6, ⟨L7, aq, aa⟩, hq⟩ := hq
      exact ⟨_, w6, h6, ah (some .ret) w6 L6 ((h7.perm (aq.cons _)).drop (aa.cons_cons _)) (.inr ⟨rfl, L6, .ret, rfl, hq⟩)⟩
    | exit id =>
      obtain ⟨w6, h6, h7⟩ := ae (some (.exit id))
      obtain ⟨L6, ⟨L7, aq, aa⟩, hq⟩ := hq
      exact ⟨_, w6, h6, ah (some (.exit id)) w6 L6 ((h7.perm (aq.cons _)).drop (aa.cons_cons _)) (.inr ⟨rfl, L6, .exit id, rfl, hq⟩)⟩
    | goto t => exact hq.elim
    | panic c => exact hq.elim
    | outgrown => exact hq.elim
theorem HV {l0 : Nat} (hH : ∃ r, (l0, Obj.loop r) ∈ K.H0) {g : Operand} {ps : Array Tmp} {assign body : Code} {gf : FuncId} {first cap : Array Value} {α : Type} {encs : α → Array Value} {xs : List α} (hg : ev e g = some (.func (.func gf) first cap))
    (ba : ∀ args w, (callFunc gf args).run P w = .ok (.enter gf args) w) (bb : (ps.toList.all fun t => Nat.ble (t + 1) N) = true) (bc : ∀ x, (encs x).size = ps.size)
    (aj : K8 P gf first cap F encs xs) (I : List α → FS → LH → Prop) (Ix : Code → FS → LH → Prop)
    (hI : ∀ pre F F' L, I pre F L → AN F F' → I pre F' L) (bd : ∀ c F F' L, Ix c F L → AN F F' → Ix c F' L) (h0 : I [] F L)
    (round : ∀ (l : Nat) (wr : World) (Fr : FS) (Xr : List Nat) (Ha Hb : LH), K.w0.heap.size ≤ wr.heap.size → (∃ r, (l, Obj.loop r) ∈ Hb) → ∀ pre x ar, xs = pre ++ x :: ar → ∀ F1 L1, AN F F1 → I pre F1 L1 →
      EO P N (some l) ⟨wr, Fr, Xr, Ha⟩ assign (fun ex e2 F2 L2 => ex = .normal ∧ EO P N (some l) ⟨wr, Fr, Xr, Hb⟩ body (Qv (I (pre ++ [x])) Ix) e2 F2 L2) (Jc ps.toList (encs x).toList e) F1 L1)
    (done : ∀ F' L', AN F F' → I xs F' L' → Q .normal e F' L')
    (stop : ∀ c F' L', AN F F' → Ix c F' L' → EO P N (some l0) K c Q e F' L') :
    EO P N (some l0) K (.rangeFunc g ps assign body) Q e F L := fun M a w ha hs => by
  obtain ⟨r0, bg⟩ := hH
  have bh : w.heap[l0]? = some (.loop r0) := (Gm.own hs).cell (l0, .loop r0) (by simp [bg])
  refine wpIn_rangeFunc fun fn _ => ?_
  have ab : (Instr.enterLoop fn a.tmps ps assign body (some l0)).run P w = .ok (w.heap.size, []) (w.alloc (.loop { state := .ready, pending := none, fn, tmps := a.tmps, params := ps, assign, body, defers := r0.defers })) := by
    unfold Instr.enterLoop
    simp only [Sem.run_bind, run_getLoop bh, run_newObj_alloc, Result.andThen, Sem.run_pure]
  -- the record
  let a6 : Loop := { state := .ready, pending := none, fn, tmps := a.tmps, params := ps, assign, body, defers := r0.defers }
  let l := w.heap.size
  let w1 := w.alloc (.loop a6)
  have ad : St K M F ((l, .loop a6) :: L) w1 := (Gm.push hs (.loop a6)).1
  refine ⟨l, [], w1, { target := .fn (.func gf) cap, args := first ++ #[.func (.yield l) #[] #[]] }, w1, gf, first ++ #[.func (.yield l) #[] #[]] ++ cap, w1, ab, ?_, ?_, ?_, by simp, ?_⟩
  · have hc : a.eval (.const (.func (.yield l) #[] #[])) = .func (.yield l) #[] #[] := rfl
    simp [resolve, Deferred.ofValue, ha.ev hg, hc]
  · intro f' _; trivial
  · simp [invoke, ba]
  -- the iterator's call
  let J : List α → FS → LH → Prop := fun pre F L => ∃ Lr, L = (l, .loop a6) :: Lr ∧ I pre F Lr
  let Jx : FS → LH → Prop := fun F L => ∃ Lr c, L = (l, .loop { a6 with state := .done, pending := some c }) :: Lr ∧ Ix c F Lr
  have ak := aj F (AN.refl F) (.func (.yield l) #[] #[]) J Jx (fun pre F F' L ⟨Lr, h1, h2⟩ hx => ⟨Lr, h1, hI _ _ _ _ h2 hx⟩) (fun F F' L ⟨Lr, c, h1, h2⟩ hx => ⟨Lr, c, h1, bd _ _ _ _ h2 hx⟩) ?_ F ((l, .loop a6) :: L) (AN.refl F) ⟨L, rfl, h0⟩
  · -- behind the iterator
    have hO : KU F ((l, .loop a6) :: L) w1 := ad.own
    refine DP ((ak w1 ad.LL hO).mono ?_)
    rintro ee w' ⟨v, F', L', rfl, h1, h2, h3, h4, h5, h6⟩
    obtain ⟨h7, h8⟩ := Gm.Hf (Lb := (l, .loop a6) :: L) (Lr := M.map Bn ++ K.H0) ad h1 h2 h3 h4 h5
    rcases h6 with ⟨Lr, rfl, h6⟩ | ⟨Lr, c, rfl, h6⟩
    · have hl := h7.own.cell (l, .loop a6) (by simp)
      refine ⟨none, w'.putObj l (.loop { a6 with state := .exhausted }), ?_, ?_⟩
      · have := run_endLoop (P := P) hl (by simp [a6]); simpa [a6] using this
      · have ht := Gm.Mz (i := 0) h7 rfl (w' := w'.putObj l (.loop { a6 with state := .exhausted })) (o' := .loop { a6 with state := .exhausted }) rfl rfl rfl (by simp) (World.putObj_heap_same (Array.getElem?_eq_some_iff.1 hl).1) (fun k hk => World.putObj_heap_other hk)
        exact ⟨M, e, F', Lr, ⟨by simp [ha.ds], ha.size, ha.get⟩, Gm.drop ht (List.sublist_cons_self _ _), done F' Lr h8 h6⟩
    · have hl := h7.own.cell (l, .loop { a6 with state := .done, pending := some c }) (by simp)
      refine ⟨some c, w'.putObj l (.loop { a6 with state := .exhausted, pending := some c }), ?_, ?_⟩
      · have := run_endLoop (P := P) hl (by simp); simpa [a6] using this
      · have ht := Gm.Mz (i := 0) h7 rfl (w' := w'.putObj l (.loop { a6 with state := .exhausted, pending := some c })) (o' := .loop { a6 with state := .exhausted, pending := some c }) rfl rfl rfl (by simp) (World.putObj_heap_same (Array.getElem?_eq_some_iff.1 hl).1) (fun k hk => World.putObj_heap_other hk)
        exact stop c F' Lr h8 h6 M _ _ ⟨by simp [ha.ds], ha.size, ha.get⟩ (Gm.drop ht (List.sublist_cons_self _ _))
  · -- a round
    rintro pre x ar bj F1 L1 bk ⟨Lr, rfl, bl⟩ w2 bm au
    have hl := au.cell (l, .loop a6) (by simp)
    refine .inr ⟨l, fn, (ps.zip (encs x)).foldl (fun tmps (p : Tmp × Value) => tmps.setIfInBounds p.1 p.2) a.tmps, assign, body, ?_, roundIn_of_wpIn trivial ?_⟩
    · have := run_yield (P := P) hl (args := encs x) (by simpa [a6] using bc x)
      simpa [N0, Deferred.ofValue, invoke, a6] using this
    let Ka : Ctx := ⟨w2, F1, keys ((l, Obj.loop a6) :: Lr), [(l, .loop a6)]⟩
    let Kb : Ctx := ⟨w2, F1, keys ((l, Obj.loop a6) :: Lr), [(l, .loop { a6 with state := .busy })]⟩
    have bn : St Ka [] F1 Lr w2 := by
      show Gm Ka F1 (Lr ++ ([] ++ [(l, .loop a6)])) w2
      simp only [List.nil_append]
      exact ⟨KJ.refl _ _, bm, fun _ _ => rfl, au.perm (by simpa using (List.perm_append_comm (l₁ := [(l, Obj.loop a6)]) (l₂ := Lr))), fun p hp => .inl (List.mem_map.2 ⟨p, by simp at hp ⊢; exact hp.symm, rfl⟩)⟩
    have bo : Ag N [] (Jc ps.toList (encs x).toList e) { tmps := (ps.zip (encs x)).foldl (fun tmps (p : Tmp × Value) => tmps.setIfInBounds p.1 p.2) a.tmps, defers := [] } := by
      have := Ag.round ha ps.toList (encs x).toList bb a.tmps e ha.get ha.size
      have e1 : (ps.zip (encs x)).foldl (fun tmps (p : Tmp × Value) => tmps.setIfInBounds p.1 p.2) a.tmps = (ps.toList.zip (encs x).toList).foldl (fun tmps (p : Tmp × Value) => tmps.setIfInBounds p.1 p.2) a.tmps := by
        rw [← Array.foldl_toList, Array.toList_zip]
      rw [e1]
      exact ⟨rfl, this.2, this.1⟩
    have al : K.w0.heap.size ≤ w2.heap.size := Nat.le_trans (Gm.EL hs).size (Nat.le_of_lt (Array.getElem?_eq_some_iff.1 hl).1)
    refine wpIn_mono (round l w2 F1 (keys ((l, Obj.loop a6) :: Lr)) [(l, .loop a6)] [(l, .loop { a6 with state := .busy })] al ⟨_, List.mem_singleton.2 rfl⟩ pre x ar bj F1 Lr bk bl [] _ w2 bo bn) ?_
    rintro ex a3 w3 ⟨M3, e3, F3, L3, bp, av, rfl, ao⟩
    -- the record becomes busy
    have bq : (L3 ++ (M3.map Bn ++ [(l, Obj.loop a6)]))[(L3 ++ M3.map Bn).length]? = some (l, .loop a6) := by rw [← List.append_assoc]; simp
    have aw := (Gm.own av).cell (l, .loop a6) (by simp)
    refine ⟨w3.putObj l (.loop { a6 with state := .busy }), run_beginRound aw rfl, ?_⟩
    have ai := Gm.Mz av (i := (L3 ++ M3.map Bn).length) bq (w' := w3.putObj l (.loop { a6 with state := .busy })) (o' := .loop { a6 with state := .busy }) rfl rfl rfl (by simp) (World.putObj_heap_same (Array.getElem?_eq_some_iff.1 aw).1) (fun k hk => World.putObj_heap_other hk)
    have br : St Kb M3 F3 L3 (w3.putObj l (.loop { a6 with state := .busy })) := by
      have e2 : (L3 ++ (M3.map Bn ++ Ka.H0)).set (L3 ++ M3.map Bn).length (l, Obj.loop { a6 with state := .busy }) = L3 ++ (M3.map Bn ++ Kb.H0) := by
        rw [← List.append_assoc, ← List.append_assoc]
        rw [List.set_append_right _ _ (Nat.le_refl _), Nat.sub_self]; rfl
      rw [e2] at ai
      exact ⟨ai.EL, ai.LL, ai.fold, ai.own, ai.J5⟩
    refine wpIn_mono (ao M3 a3 _ bp br) ?_
    rintro ex a5 w5 ⟨M5, e5, F5, L5, bw, ax, hq⟩
    have ay := (Gm.own ax).cell (l, .loop { a6 with state := .busy }) (by simp)
    have bu : (L5 ++ (M5.map Bn ++ [(l, Obj.loop { a6 with state := .busy })]))[(L5 ++ M5.map Bn).length]? = some (l, .loop { a6 with state := .busy }) := by rw [← List.append_assoc]; simp
    have ae : ∀ (jump : Option Code), ∃ w6, (Instr.endRound l jump).run P w5 = .ok (.bool jump.isNone) w6 ∧ Gm Kb F5 ((l, .loop { a6 with state := if jump.isNone then .ready else .done, pending := jump }) :: L5) w6 := fun jump => by
      refine ⟨_, run_endRound jump ay, ?_⟩
      have az := Gm.Mz ax (i := (L5 ++ M5.map Bn).length) bu (w' := w5.putObj l (.loop { a6 with state := if jump.isNone then .ready else .done, pending := jump })) (o' := .loop { a6 with state := if jump.isNone then .ready else .done, pending := jump }) rfl rfl rfl (by simp) (World.putObj_heap_same (Array.getElem?_eq_some_iff.1 ay).1) (fun k hk => World.putObj_heap_other hk)
      have e3 : (L5 ++ (M5.map Bn ++ Kb.H0)).set (L5 ++ M5.map Bn).length (l, Obj.loop { a6 with state := if jump.isNone then .ready else .done, pending := jump }) = (L5 ++ M5.map Bn) ++ [(l, Obj.loop { a6 with state := if jump.isNone then .ready else .done, pending := jump })] := by
        rw [← List.append_assoc]
        rw [List.set_append_right _ _ (Nat.le_refl _), Nat.sub_self]; rfl
      rw [e3] at az
      refine (az.perm List.perm_append_comm).drop ?_
      simp
    have ah : ∀ (jump : Option Code) (w6 : World) (L5 : LH), Gm Kb F5 ((l, .loop { a6 with state := if jump.isNone then .ready else .done, pending := jump }) :: L5) w6 →
        (((Value.bool jump.isNone) = .bool true ∧ J (pre ++ [x]) F5 ((l, .loop { a6 with state := if jump.isNone then .ready else .done, pending := jump }) :: L5)) ∨ ((Value.bool jump.isNone) = .bool false ∧ Jx F5 ((l, .loop { a6 with state := if jump.isNone then .ready else .done, pending := jump }) :: L5))) →
        OZ w2 F1 ((l, .loop a6) :: Lr) (fun F' L' v => (v = .bool true ∧ J (pre ++ [x]) F' L') ∨ (v = .bool false ∧ Jx F' L')) (.returned (.bool jump.isNone)) w6 := fun jump w6 L5 h6 h7 =>
      ⟨_, F5, _, rfl, h6.EL, h6.LL, h6.fold, h6.own, h6.J5, h7⟩
    cases ex with
    | normal =>
      obtain ⟨w6, h6, h7⟩ := ae none
      obtain ⟨L6, ⟨L7, aq, aa⟩, hq⟩ := hq
      exact ⟨_, w6, h6, ah none w6 L6 ((h7.perm (aq.cons _)).drop (aa.cons_cons _)) (.inl ⟨rfl, L6, rfl, hq⟩)⟩
    | ret =>
      obtain ⟨w6, h6, h7⟩ := ae (some .ret)
      obtain ⟨L6, ⟨L7, aq, aa⟩, hq⟩ := hq
      exact ⟨_, w6, h6, ah (some .ret) w6 L6 ((h7.perm (aq.cons _)).drop (aa.cons_cons _)) (.inr ⟨rfl, L6, .ret, rfl, hq⟩)⟩
    | exit id =>
      obtain ⟨w6, h6, h7⟩ := ae (some (.exit id))
      obtain ⟨L6, ⟨L7, aq, aa⟩, hq⟩ := hq
      exact ⟨_, w6, h6, ah (some (.exit id)) w6 L6 ((h7.perm (aq.cons _)).drop (aa.cons_cons _)) (.inr ⟨rfl, L6, .exit id, rfl, hq⟩)⟩
    | goto t => exact hq.elim
    | panic c => exact hq.elim
    | outgrown => exact hq.elim
end
end Go.SH
