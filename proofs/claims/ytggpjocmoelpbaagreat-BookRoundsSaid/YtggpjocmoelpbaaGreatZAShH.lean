/- The calculus, part H: function values that are called, iterators, loops over a function. -/
import Derived.Test.YtggpjocmoelpbaaGreatZAShG
namespace Go.SH
def Back (w : World) (F0 : FS) (L0 : LH) (R : FS → LH → Value → Prop) (e : Ending) (w' : World) : Prop :=
  ∃ v F' L', e = .returned v ∧ Keep (keys L0) w w' ∧ FLe F' w' ∧ (∀ b, b < w.heap.size → F' b = F0 b) ∧ Owns F' L' w' ∧ (∀ p ∈ L', p.1 ∈ keys L0 ∨ w.heap.size ≤ p.1) ∧ R F' L' v
def callV (g : Value) (args : Array Value) : Sem Next := do
  let d ← Deferred.ofValue g args
  invoke d.target d.args
def CSpec (P : Program) (g : Value) (args : Array Value) (F0 : FS) (L0 : LH) (R : FS → LH → Value → Prop) : Prop :=
  ∀ w, FLe F0 w → Owns F0 L0 w → (∃ f as, (callV g args).run P w = .ok (.enter f as) w ∧ Calls P f as w (Back w F0 L0 R)) ∨
    (∃ l f tmps asg body, (callV g args).run P w = .ok (.round l f tmps asg body) w ∧ RoundIn (fence none) 0 P l f tmps asg body w (Back w F0 L0 R))
theorem CSpec.mono {P : Program} {g : Value} {args : Array Value} {F0 : FS} {L0 : LH} {R R' : FS → LH → Value → Prop} (h : CSpec P g args F0 L0 R) (hr : ∀ F L v, R F L v → R' F L v) : CSpec P g args F0 L0 R' := fun w hF hL => by
  have hb : ∀ e w', Back w F0 L0 R e w' → Back w F0 L0 R' e w' := fun e w' ⟨v, F', L', h1, h2, h3, h4, h5, h6, h7⟩ => ⟨v, F', L', h1, h2, h3, h4, h5, h6, hr _ _ _ h7⟩
  rcases h w hF hL with ⟨f, as, h1, h2⟩ | ⟨l, f, tmps, asg, body, h1, h2⟩
  · exact .inl ⟨f, as, h1, h2.mono hb⟩
  · exact .inr ⟨l, f, tmps, asg, body, h1, h2.mono hb⟩
section
variable {P : Program} {N : Nat} {r : Option Nat} {K : Ctx} {ops : Array Oper} {Q : Env → FS → LH → Prop} {rest : List Oper} {e : Env} {F : FS} {L : LH}
variable {ty : TypeId} {pos : String} {after : Array Edge} {d : Option Nat}
theorem o_callC {x : Operand} {xs : Array Operand} {tys : Array TypeId} {g : Value} {vs : List Value} {Lb Lr : LH} {R : FS → LH → Value → Prop} (hd : okDst N d = true)
    (hx : ev e x = some g) (hxs : xs.toList.mapM (ev e) = some vs) (hL : L.Perm (Lb ++ Lr)) (hspec : CSpec P g vs.toArray F Lb R)
    (k : ∀ v F' L', FExt F F' → R F' L' v → shO P N r K ops Q rest (e.put d v) F' (L' ++ Lr)) :
    shO P N r K ops Q (⟨d, .call ⟨.value x, xs, tys⟩, ty, pos, after, none⟩ :: rest) e F L := fun M a w ha hs0 => by
  have hs := hs0.perm hL
  have e1 : xs.map a.eval = vs.toArray := Array.ext' (by rw [Array.toList_map]; exact evals ha _ _ hxs)
  have hex : ∀ nx, (callV g vs.toArray).run P w = .ok nx w → (execOp a.eval ⟨d, .call ⟨.value x, xs, tys⟩, ty, pos, after, none⟩).run P w = .ok nx w := fun nx h => by
    simpa [execOp, resolve, ha.ev hx, e1, callV] using h
  refine wpListIn_plain rfl fun Kn hK => ⟨fun _ _ => trivial, ?_⟩
  rw [Oper.semAt_eq _ _ _ (by intro c h; cases h)]
  have hO : Owns F Lb w := ⟨(List.nodup_append.1 (by have := hs.own.nodup; rwa [List.map_append] at this)).1, fun p hp => hs.own.cell p (List.mem_append_left _ hp), fun p hp => hs.own.free p (List.mem_append_left _ hp)⟩
  have hback : ∀ e' w', Back w F Lb R e' w' → ∃ v, e' = .returned v ∧ Kn (a.put d v) w' := by
    rintro ee w' ⟨v, F', L', rfl, h1, h2, h3, h4, h5, h6⟩
    obtain ⟨h7, h8⟩ := hs.after_call h1 h2 h3 h4 h5
    exact ⟨v, rfl, hK _ _ (k v F' L' h8 h6 _ _ _ (ha.putD hd v) h7)⟩
  rcases hspec w hs.fle hO with ⟨f, as, h1, h2⟩ | ⟨l, f, tmps, asg, body, h1, h2⟩
  · rw [hex _ h1]
    refine ⟨by simp, callsIn_fence (h2.mono ?_)⟩
    intro e' w' hb
    obtain ⟨v, rfl, h3⟩ := hback e' w' hb
    exact h3
  · rw [hex _ h1]
    refine ⟨by simp, ?_⟩
    have h2' : RoundIn (fence r) (0 - 1) P l f tmps asg body w (Back w F Lb R) := h2
    refine h2'.mono ?_
    intro e' w' hb
    obtain ⟨v, rfl, h3⟩ := hback e' w' hb
    exact h3
end
def IterOK (P : Program) (gf : FuncId) (first cap : Array Value) (F0 : FS) {α : Type} (encs : α → Array Value) (xs : List α) : Prop :=
  ∀ (G0 : FS), FExt F0 G0 → ∀ (yv : Value) (J : List α → FS → LH → Prop) (Jx : FS → LH → Prop),
    (∀ pre F F' L, J pre F L → FExt F F' → J pre F' L) → (∀ F F' L, Jx F L → FExt F F' → Jx F' L) →
    (∀ pre x suf, xs = pre ++ x :: suf → ∀ F L, FExt G0 F → J pre F L → CSpec P yv (encs x) F L fun F' L' v => (v = .bool true ∧ J (pre ++ [x]) F' L') ∨ (v = .bool false ∧ Jx F' L')) →
    ∀ F L, FExt G0 F → J [] F L → Spec P gf (first ++ #[yv] ++ cap) F L fun F' L' _ => J xs F' L' ∨ Jx F' L'
def roundEnv (ps : List Tmp) (vs : List Value) (e : Env) : Env := (ps.zip vs).foldl (fun e p => p :: e) e
theorem Ag.round {N : Nat} {M : List Nat} {e : Env} {a : Act} (h : Ag N M e a) : ∀ (ps : List Tmp) (vs : List Value), (ps.all fun t => Nat.ble (t + 1) N) = true → ∀ (tmps : Array Value) (e' : Env), (∀ t v, e'.get t = some v → tmps[t]? = some v) → tmps.size = N →
    (∀ t v, (roundEnv ps vs e').get t = some v → ((ps.zip vs).foldl (fun tmps (p : Tmp × Value) => tmps.setIfInBounds p.1 p.2) tmps)[t]? = some v) ∧ ((ps.zip vs).foldl (fun tmps (p : Tmp × Value) => tmps.setIfInBounds p.1 p.2) tmps).size = N
  | [], _, _, tmps, e', h1, h2 => by simpa [roundEnv] using ⟨h1, h2⟩
  | _ :: _, [], _, tmps, e', h1, h2 => by simpa [roundEnv] using ⟨h1, h2⟩
  | p :: ps, v :: vs, hp, tmps, e', h1, h2 => by
    simp only [List.all_cons, Bool.and_eq_true] at hp
    have hput := Ag.put (M := M) (e := e') (a := ⟨tmps, M.map markOf⟩) ⟨rfl, h2, h1⟩ hp.1 v
    have ih := Ag.round h ps vs hp.2 (tmps.setIfInBounds p v) ((p, v) :: e') (fun t u ht => hput.get t u ht) (by simpa using h2)
    simpa [roundEnv] using ih
section
variable {P : Program} {N : Nat} {K : Ctx} {Q : Post} {e : Env} {F : FS} {L : LH}
def roundQ (I : FS → LH → Prop) (Ix : Code → FS → LH → Prop) : Post
  | .normal, _, F, L => ∃ L2, (∃ L3, L.Perm L3 ∧ L2.Sublist L3) ∧ I F L2
  | .ret, _, F, L => ∃ L2, (∃ L3, L.Perm L3 ∧ L2.Sublist L3) ∧ Ix .ret F L2
  | .exit id, _, F, L => ∃ L2, (∃ L3, L.Perm L3 ∧ L2.Sublist L3) ∧ Ix (.exit id) F L2
  | _, _, _, _ => False
theorem shW_rangeFunc {g : Operand} {ps : Array Tmp} {assign body : Code} {gf : FuncId} {first cap : Array Value} {α : Type} {encs : α → Array Value} {xs : List α} (hg : ev e g = some (.func (.func gf) first cap))
    (hgf : ∀ args w, (callFunc gf args).run P w = .ok (.enter gf args) w) (hps : (ps.toList.all fun t => Nat.ble (t + 1) N) = true) (hsz : ∀ x, (encs x).size = ps.size)
    (hiter : IterOK P gf first cap F encs xs) (I : List α → FS → LH → Prop) (Ix : Code → FS → LH → Prop)
    (hI : ∀ pre F F' L, I pre F L → FExt F F' → I pre F' L) (hIx : ∀ c F F' L, Ix c F L → FExt F F' → Ix c F' L) (h0 : I [] F L)
    (round : ∀ (l : Nat) (wr : World) (Fr : FS) (Xr : List Nat) (Ha Hb : LH), K.w0.heap.size ≤ wr.heap.size → (∃ r, (l, Obj.loop r) ∈ Hb) → ∀ pre x suf, xs = pre ++ x :: suf → ∀ F1 L1, FExt F F1 → I pre F1 L1 →
      shW P N (some l) ⟨wr, Fr, Xr, Ha⟩ assign (fun ex e2 F2 L2 => ex = .normal ∧ shW P N (some l) ⟨wr, Fr, Xr, Hb⟩ body (roundQ (I (pre ++ [x])) Ix) e2 F2 L2) (roundEnv ps.toList (encs x).toList e) F1 L1)
    (done : ∀ F' L', FExt F F' → I xs F' L' → Q .normal e F' L')
    (stop : ∀ c F' L', FExt F F' → Ix c F' L' → shW P N none K c Q e F' L') :
    shW P N none K (.rangeFunc g ps assign body) Q e F L := fun M a w ha hs => by
  refine wpIn_rangeFunc fun fn _ => ?_
  have henter := run_enterLoop_outer (P := P) (w := w) fn a.tmps ps assign body
  -- the record
  let rec0 : Loop := { state := .ready, pending := none, fn, tmps := a.tmps, params := ps, assign, body, defers := w.heap.size }
  let l := w.heap.size + 1
  let w1 := (w.alloc (.deferred (some []))).alloc (.loop rec0)
  have hst0 : St0 K F ((l, .loop rec0) :: (w.heap.size, .deferred (some [])) :: (L ++ (M.map markBlk ++ K.H0))) w1 := by
    have := (St0.push (St0.push hs (.deferred (some []))).1 (.loop rec0)).1
    simpa [l, w1] using this
  have hst1 : St K (w.heap.size :: M) F ((l, .loop rec0) :: L) w1 := by
    refine St0.perm hst0 ?_
    simp only [List.cons_append, List.map_cons]
    exact List.Perm.cons _ List.perm_middle.symm
  refine ⟨l, [{ target := .collected w.heap.size, args := #[] }], w1, { target := .fn (.func gf) cap, args := first ++ #[.func (.yield l) #[] #[]] }, w1, gf, first ++ #[.func (.yield l) #[] #[]] ++ cap, w1, henter, ?_, ?_, ?_, by simp, ?_⟩
  · have hc : a.eval (.const (.func (.yield l) #[] #[])) = .func (.yield l) #[] #[] := rfl
    simp [resolve, Deferred.ofValue, ha.ev hg, hc]
  · intro f' _; trivial
  · simp [invoke, hgf]
  -- the iterator's call
  let J : List α → FS → LH → Prop := fun pre F L => ∃ Lr, L = (l, .loop rec0) :: Lr ∧ I pre F Lr
  let Jx : FS → LH → Prop := fun F L => ∃ Lr c, L = (l, .loop { rec0 with state := .done, pending := some c }) :: Lr ∧ Ix c F Lr
  have hcall := hiter F (FExt.refl F) (.func (.yield l) #[] #[]) J Jx (fun pre F F' L ⟨Lr, h1, h2⟩ hx => ⟨Lr, h1, hI _ _ _ _ h2 hx⟩) (fun F F' L ⟨Lr, c, h1, h2⟩ hx => ⟨Lr, c, h1, hIx _ _ _ _ h2 hx⟩) ?_ F ((l, .loop rec0) :: L) (FExt.refl F) ⟨L, rfl, h0⟩
  · -- behind the iterator
    have hO : Owns F ((l, .loop rec0) :: L) w1 := hst1.own
    refine callsIn_fence ((hcall w1 hst1.fle hO).mono ?_)
    rintro ee w' ⟨v, F', L', rfl, h1, h2, h3, h4, h5, h6⟩
    obtain ⟨h7, h8⟩ := St0.after_call (Lb := (l, .loop rec0) :: L) (Lr := (w.heap.size :: M).map markBlk ++ K.H0) hst1 h1 h2 h3 h4 h5
    rcases h6 with ⟨Lr, rfl, h6⟩ | ⟨Lr, c, rfl, h6⟩
    · have hl := h7.own.cell (l, .loop rec0) (by simp)
      refine ⟨none, w'.putObj l (.loop { rec0 with state := .exhausted }), ?_, ?_⟩
      · have := run_endLoop (P := P) hl (by simp [rec0]); simpa [rec0] using this
      · have ht := St0.turn (i := 0) h7 rfl (w' := w'.putObj l (.loop { rec0 with state := .exhausted })) (o' := .loop { rec0 with state := .exhausted }) rfl rfl rfl (by simp) (World.putObj_heap_same (Array.getElem?_eq_some_iff.1 hl).1) (fun k hk => World.putObj_heap_other hk)
        exact ⟨w.heap.size :: M, e, F', Lr, ⟨by simp [ha.ds, markOf], ha.size, ha.get⟩, St0.drop ht (List.sublist_cons_self _ _), done F' Lr h8 h6⟩
    · have hl := h7.own.cell (l, .loop { rec0 with state := .done, pending := some c }) (by simp)
      refine ⟨some c, w'.putObj l (.loop { rec0 with state := .exhausted, pending := some c }), ?_, ?_⟩
      · have := run_endLoop (P := P) hl (by simp); simpa [rec0] using this
      · have ht := St0.turn (i := 0) h7 rfl (w' := w'.putObj l (.loop { rec0 with state := .exhausted, pending := some c })) (o' := .loop { rec0 with state := .exhausted, pending := some c }) rfl rfl rfl (by simp) (World.putObj_heap_same (Array.getElem?_eq_some_iff.1 hl).1) (fun k hk => World.putObj_heap_other hk)
        exact stop c F' Lr h8 h6 (w.heap.size :: M) _ _ ⟨by simp [ha.ds, markOf], ha.size, ha.get⟩ (St0.drop ht (List.sublist_cons_self _ _))
  · -- a round
    rintro pre x suf hxs F1 L1 hF1 ⟨Lr, rfl, hIp⟩ w2 hF2 hO2
    have hl := hO2.cell (l, .loop rec0) (by simp)
    refine .inr ⟨l, fn, (ps.zip (encs x)).foldl (fun tmps (p : Tmp × Value) => tmps.setIfInBounds p.1 p.2) a.tmps, assign, body, ?_, roundIn_of_wpIn trivial ?_⟩
    · have := run_yield (P := P) hl (args := encs x) (by simpa [rec0] using hsz x)
      simpa [callV, Deferred.ofValue, invoke, rec0] using this
    let Ka : Ctx := ⟨w2, F1, keys ((l, Obj.loop rec0) :: Lr), [(l, .loop rec0)]⟩
    let Kb : Ctx := ⟨w2, F1, keys ((l, Obj.loop rec0) :: Lr), [(l, .loop { rec0 with state := .busy })]⟩
    have hsa : St Ka [] F1 Lr w2 := by
      show St0 Ka F1 (Lr ++ ([] ++ [(l, .loop rec0)])) w2
      simp only [List.nil_append]
      exact ⟨Keep.refl _ _, hF2, fun _ _ => rfl, hO2.perm (by simpa using (List.perm_append_comm (l₁ := [(l, Obj.loop rec0)]) (l₂ := Lr))), fun p hp => .inl (List.mem_map.2 ⟨p, by simp at hp ⊢; exact hp.symm, rfl⟩)⟩
    have hga : Ag N [] (roundEnv ps.toList (encs x).toList e) { tmps := (ps.zip (encs x)).foldl (fun tmps (p : Tmp × Value) => tmps.setIfInBounds p.1 p.2) a.tmps, defers := [] } := by
      have := Ag.round ha ps.toList (encs x).toList hps a.tmps e ha.get ha.size
      have e1 : (ps.zip (encs x)).foldl (fun tmps (p : Tmp × Value) => tmps.setIfInBounds p.1 p.2) a.tmps = (ps.toList.zip (encs x).toList).foldl (fun tmps (p : Tmp × Value) => tmps.setIfInBounds p.1 p.2) a.tmps := by
        rw [← Array.foldl_toList, Array.toList_zip]
      rw [e1]
      exact ⟨rfl, this.2, this.1⟩
    have hsize : K.w0.heap.size ≤ w2.heap.size := Nat.le_trans (St0.keep hs).size (Nat.le_of_lt (Nat.lt_trans (Nat.lt_succ_self _) (Array.getElem?_eq_some_iff.1 hl).1))
    refine wpIn_mono (round l w2 F1 (keys ((l, Obj.loop rec0) :: Lr)) [(l, .loop rec0)] [(l, .loop { rec0 with state := .busy })] hsize ⟨_, List.mem_singleton.2 rfl⟩ pre x suf hxs F1 Lr hF1 hIp [] _ w2 hga hsa) ?_
    rintro ex a3 w3 ⟨M3, e3, F3, L3, ha3, hs3, rfl, hbody⟩
    -- the record becomes busy
    have hi3 : (L3 ++ (M3.map markBlk ++ [(l, Obj.loop rec0)]))[(L3 ++ M3.map markBlk).length]? = some (l, .loop rec0) := by rw [← List.append_assoc]; simp
    have hl3 := (St0.own hs3).cell (l, .loop rec0) (by simp)
    refine ⟨w3.putObj l (.loop { rec0 with state := .busy }), run_beginRound hl3 rfl, ?_⟩
    have ht3 := St0.turn hs3 (i := (L3 ++ M3.map markBlk).length) hi3 (w' := w3.putObj l (.loop { rec0 with state := .busy })) (o' := .loop { rec0 with state := .busy }) rfl rfl rfl (by simp) (World.putObj_heap_same (Array.getElem?_eq_some_iff.1 hl3).1) (fun k hk => World.putObj_heap_other hk)
    have hs4 : St Kb M3 F3 L3 (w3.putObj l (.loop { rec0 with state := .busy })) := by
      have e2 : (L3 ++ (M3.map markBlk ++ Ka.H0)).set (L3 ++ M3.map markBlk).length (l, Obj.loop { rec0 with state := .busy }) = L3 ++ (M3.map markBlk ++ Kb.H0) := by
        rw [← List.append_assoc, ← List.append_assoc]
        rw [List.set_append_right _ _ (Nat.le_refl _), Nat.sub_self]; rfl
      rw [e2] at ht3
      exact ⟨ht3.keep, ht3.fle, ht3.fold, ht3.own, ht3.lnew⟩
    refine wpIn_mono (hbody M3 a3 _ ha3 hs4) ?_
    rintro ex a5 w5 ⟨M5, e5, F5, L5, ha5, hs5, hq⟩
    have hl5 := (St0.own hs5).cell (l, .loop { rec0 with state := .busy }) (by simp)
    have hi5 : (L5 ++ (M5.map markBlk ++ [(l, Obj.loop { rec0 with state := .busy })]))[(L5 ++ M5.map markBlk).length]? = some (l, .loop { rec0 with state := .busy }) := by rw [← List.append_assoc]; simp
    have hend : ∀ (jump : Option Code), ∃ w6, (Instr.endRound l jump).run P w5 = .ok (.bool jump.isNone) w6 ∧ St0 Kb F5 ((l, .loop { rec0 with state := if jump.isNone then .ready else .done, pending := jump }) :: L5) w6 := fun jump => by
      refine ⟨_, run_endRound jump hl5, ?_⟩
      have ht5 := St0.turn hs5 (i := (L5 ++ M5.map markBlk).length) hi5 (w' := w5.putObj l (.loop { rec0 with state := if jump.isNone then .ready else .done, pending := jump })) (o' := .loop { rec0 with state := if jump.isNone then .ready else .done, pending := jump }) rfl rfl rfl (by simp) (World.putObj_heap_same (Array.getElem?_eq_some_iff.1 hl5).1) (fun k hk => World.putObj_heap_other hk)
      have e3 : (L5 ++ (M5.map markBlk ++ Kb.H0)).set (L5 ++ M5.map markBlk).length (l, Obj.loop { rec0 with state := if jump.isNone then .ready else .done, pending := jump }) = (L5 ++ M5.map markBlk) ++ [(l, Obj.loop { rec0 with state := if jump.isNone then .ready else .done, pending := jump })] := by
        rw [← List.append_assoc]
        rw [List.set_append_right _ _ (Nat.le_refl _), Nat.sub_self]; rfl
      rw [e3] at ht5
      refine (ht5.perm List.perm_append_comm).drop ?_
      simp
    have hfin : ∀ (jump : Option Code) (w6 : World) (L5 : LH), St0 Kb F5 ((l, .loop { rec0 with state := if jump.isNone then .ready else .done, pending := jump }) :: L5) w6 →
        (((Value.bool jump.isNone) = .bool true ∧ J (pre ++ [x]) F5 ((l, .loop { rec0 with state := if jump.isNone then .ready else .done, pending := jump }) :: L5)) ∨ ((Value.bool jump.isNone) = .bool false ∧ Jx F5 ((l, .loop { rec0 with state := if jump.isNone then .ready else .done, pending := jump }) :: L5))) →
        Back w2 F1 ((l, .loop rec0) :: Lr) (fun F' L' v => (v = .bool true ∧ J (pre ++ [x]) F' L') ∨ (v = .bool false ∧ Jx F' L')) (.returned (.bool jump.isNone)) w6 := fun jump w6 L5 h6 h7 =>
      ⟨_, F5, _, rfl, h6.keep, h6.fle, h6.fold, h6.own, h6.lnew, h7⟩
    cases ex with
    | normal =>
      obtain ⟨w6, h6, h7⟩ := hend none
      obtain ⟨L6, ⟨L7, hpm, hsub⟩, hq⟩ := hq
      exact ⟨_, w6, h6, hfin none w6 L6 ((h7.perm (hpm.cons _)).drop (hsub.cons_cons _)) (.inl ⟨rfl, L6, rfl, hq⟩)⟩
    | ret =>
      obtain ⟨w6, h6, h7⟩ := hend (some .ret)
      obtain ⟨L6, ⟨L7, hpm, hsub⟩, hq⟩ := hq
      exact ⟨_, w6, h6, hfin (some .ret) w6 L6 ((h7.perm (hpm.cons _)).drop (hsub.cons_cons _)) (.inr ⟨rfl, L6, .ret, rfl, hq⟩)⟩
    | exit id =>
      obtain ⟨w6, h6, h7⟩ := hend (some (.exit id))
      obtain ⟨L6, ⟨L7, hpm, hsub⟩, hq⟩ := hq
      exact ⟨_, w6, h6, hfin (some (.exit id)) w6 L6 ((h7.perm (hpm.cons _)).drop (hsub.cons_cons _)) (.inr ⟨rfl, L6, .exit id, rfl, hq⟩)⟩
    | goto t => exact hq.elim
    | panic c => exact hq.elim
    | outgrown => exact hq.elim
end
end Go.SH
