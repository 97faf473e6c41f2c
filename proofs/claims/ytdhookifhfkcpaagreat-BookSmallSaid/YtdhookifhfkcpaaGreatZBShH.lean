/- The calculus, part H: function values that are called, iterators, loops over a function. -/
import Derived.Test.YtdhookifhfkcpaaGreatZBShG
namespace Go.SH
def P8 (w : World) (F0 : FS) (L0 : LH) (R : FS → LH → Value → Prop) (e : Ending) (w' : World) : Prop :=
  ∃ v F' L', e = .returned v ∧ Lp (keys L0) w w' ∧ PQ F' w' ∧ (∀ b, b < w.heap.size → F' b = F0 b) ∧ Ll F' L' w' ∧ (∀ p ∈ L', p.1 ∈ keys L0 ∨ w.heap.size ≤ p.1) ∧ R F' L' v
def Pr (g : Value) (args : Array Value) : Sem Next := do
  let d ← Deferred.ofValue g args
  invoke d.target d.args
def PB (P : Program) (g : Value) (args : Array Value) (F0 : FS) (L0 : LH) (R : FS → LH → Value → Prop) : Prop :=
  ∀ w, PQ F0 w → Ll F0 L0 w → (∃ f as, (Pr g args).run P w = .ok (.enter f as) w ∧ Calls P f as w (P8 w F0 L0 R)) ∨
    (∃ l f tmps aa body, (Pr g args).run P w = .ok (.round l f tmps aa body) w ∧ RoundIn (GW none) 0 P l f tmps aa body w (P8 w F0 L0 R))
theorem PB.mono {P : Program} {g : Value} {args : Array Value} {F0 : FS} {L0 : LH} {R R' : FS → LH → Value → Prop} (h : PB P g args F0 L0 R) (hr : ∀ F L v, R F L v → R' F L v) : PB P g args F0 L0 R' := fun w hF hL => by
  have hb : ∀ e w', P8 w F0 L0 R e w' → P8 w F0 L0 R' e w' := fun e w' ⟨v, F', L', h1, h2, h3, h4, h5, h6, h7⟩ => ⟨v, F', L', h1, h2, h3, h4, h5, h6, hr _ _ _ h7⟩
  rcases h w hF hL with ⟨f, as, h1, h2⟩ | ⟨l, f, tmps, aa, body, h1, h2⟩
  · exact .inl ⟨f, as, h1, h2.mono hb⟩
  · exact .inr ⟨l, f, tmps, aa, body, h1, h2.mono hb⟩
section
variable {P : Program} {N : Nat} {r : Option Nat} {K : Ctx} {ops : Array Oper} {Q : Env → FS → LH → Prop} {rest : List Oper} {e : Env} {F : FS} {L : LH}
variable {ty : TypeId} {pos : String} {after : Array Edge} {d : Option Nat}
theorem Rz {x : Operand} {xs : Array Operand} {MZ : Array TypeId} {g : Value} {vs : List Value} {Lb Lr : LH} {R : FS → LH → Value → Prop} (hd : CW N d = true)
    (hx : ev e x = some g) (ad : xs.toList.mapM (ev e) = some vs) (hL : L.Perm (Lb ++ Lr)) (ab : PB P g vs.toArray F Lb R)
    (k : ∀ v F' L', AQ F F' → R F' L' v → Ct P N r K ops Q rest (e.put d v) F' (L' ++ Lr)) :
    Ct P N r K ops Q (⟨d, .call ⟨.value x, xs, MZ⟩, ty, pos, after, none⟩ :: rest) e F L := fun M a w ha ae => by
  have hs := ae.perm hL
  have e1 : xs.map a.eval = vs.toArray := Array.ext' (by rw [Array.toList_map]; exact QX ha _ _ ad)
  have hex : ∀ nx, (Pr g vs.toArray).run P w = .ok nx w → (execOp a.eval ⟨d, .call ⟨.value x, xs, MZ⟩, ty, pos, after, none⟩).run P w = .ok nx w := fun nx h => by
    simpa [execOp, resolve, ha.ev hx, e1, Pr] using h
  refine wpListIn_plain rfl fun Kn hK => ⟨fun _ _ => trivial, ?_⟩
  rw [Oper.semAt_eq _ _ _ (by intro c h; cases h)]
  have hO : Ll F Lb w := ⟨(List.nodup_append.1 (by have := hs.own.nodup; rwa [List.map_append] at this)).1, fun p hp => hs.own.cell p (List.mem_append_left _ hp), fun p hp => hs.own.free p (List.mem_append_left _ hp)⟩
  have aa : ∀ e' w', P8 w F Lb R e' w' → ∃ v, e' = .returned v ∧ Kn (a.put d v) w' := by
    rintro ee w' ⟨v, F', L', rfl, h1, h2, h3, h4, h5, h6⟩
    obtain ⟨h7, h8⟩ := hs.HY h1 h2 h3 h4 h5
    exact ⟨v, rfl, hK _ _ (k v F' L' h8 h6 _ _ _ (ha.MR hd v) h7)⟩
  rcases ab w hs.MA hO with ⟨f, as, h1, h2⟩ | ⟨l, f, tmps, ah, body, h1, h2⟩
  · rw [hex _ h1]
    refine ⟨by simp, EB (h2.mono ?_)⟩
    intro e' w' hb
    obtain ⟨v, rfl, h3⟩ := aa e' w' hb
    exact h3
  · rw [hex _ h1]
    refine ⟨by simp, ?_⟩
    have ai : RoundIn (GW r) (0 - 1) P l f tmps ah body w (P8 w F Lb R) := h2
    refine ai.mono ?_
    intro e' w' hb
    obtain ⟨v, rfl, h3⟩ := aa e' w' hb
    exact h3
end
def Mh (P : Program) (gf : FuncId) (first cap : Array Value) (F0 : FS) {α : Type} (encs : α → Array Value) (xs : List α) : Prop :=
  ∀ (G0 : FS), AQ F0 G0 → ∀ (yv : Value) (J : List α → FS → LH → Prop) (Jx : FS → LH → Prop),
    (∀ pre F F' L, J pre F L → AQ F F' → J pre F' L) → (∀ F F' L, Jx F L → AQ F F' → Jx F' L) →
    (∀ pre x aa, xs = pre ++ x :: aa → ∀ F L, AQ G0 F → J pre F L → PB P yv (encs x) F L fun F' L' v => (v = .bool true ∧ J (pre ++ [x]) F' L') ∨ (v = .bool false ∧ Jx F' L')) →
    ∀ F L, AQ G0 F → J [] F L → Spec P gf (first ++ #[yv] ++ cap) F L fun F' L' _ => J xs F' L' ∨ Jx F' L'
def KM (ps : List Tmp) (vs : List Value) (e : Env) : Env := (ps.zip vs).foldl (fun e p => p :: e) e
theorem Ag.round {N : Nat} {M : List Nat} {e : Env} {a : Act} (h : Ag N M e a) : ∀ (ps : List Tmp) (vs : List Value), (ps.all fun t => Nat.ble (t + 1) N) = true → ∀ (tmps : Array Value) (e' : Env), (∀ t v, e'.get t = some v → tmps[t]? = some v) → tmps.size = N →
    (∀ t v, (KM ps vs e').get t = some v → ((ps.zip vs).foldl (fun tmps (p : Tmp × Value) => tmps.setIfInBounds p.1 p.2) tmps)[t]? = some v) ∧ ((ps.zip vs).foldl (fun tmps (p : Tmp × Value) => tmps.setIfInBounds p.1 p.2) tmps).size = N
  | [], _, _, tmps, e', h1, h2 => by simpa [KM] using ⟨h1, h2⟩
  | _ :: _, [], _, tmps, e', h1, h2 => by simpa [KM] using ⟨h1, h2⟩
  | p :: ps, v :: vs, hp, tmps, e', h1, h2 => by
    simp only [List.all_cons, Bool.and_eq_true] at hp
    have aa := Ag.put (M := M) (e := e') (a := ⟨tmps, M.map N3⟩) ⟨rfl, h2, h1⟩ hp.1 v
    have ih := Ag.round h ps vs hp.2 (tmps.setIfInBounds p v) ((p, v) :: e') (fun t u ht => aa.get t u ht) (by simpa using h2)
    simpa [KM] using ih
section
variable {P : Program} {N : Nat} {K : Ctx} {Q : GI} {e : Env} {F : FS} {L : LH}
def R7 (I : FS → LH → Prop) (Ix : Code → FS → LH → Prop) : GI
  | .normal, _, F, L => ∃ L2, (∃ L3, L.Perm L3 ∧ L2.Sublist L3) ∧ I F L2
  | .ret, _, F, L => ∃ L2, (∃ L3, L.Perm L3 ∧ L2.Sublist L3) ∧ Ix .ret F L2
  | .exit id, _, F, L => ∃ L2, (∃ L3, L.Perm L3 ∧ L2.Sublist L3) ∧ Ix (.exit id) F L2
  | _, _, _, _ => False
theorem LX {g : Operand} {ps : Array Tmp} {assign body : Code} {gf : FuncId} {first cap : Array Value} {α : Type} {encs : α → Array Value} {xs : List α} (hg : ev e g = some (.func (.func gf) first cap))
    (bc : ∀ args w, (callFunc gf args).run P w = .ok (.enter gf args) w) (bd : (ps.toList.all fun t => Nat.ble (t + 1) N) = true) (bg : ∀ x, (encs x).size = ps.size)
    (ak : Mh P gf first cap F encs xs) (I : List α → FS → LH → Prop) (Ix : Code → FS → LH → Prop)
    (hI : ∀ pre F F' L, I pre F L → AQ F F' → I pre F' L) (bh : ∀ c F F' L, Ix c F L → AQ F F' → Ix c F' L) (h0 : I [] F L)
    (round : ∀ (l : Nat) (wr : World) (Fr : FS) (Xr : List Nat) (Ha Hb : LH), K.w0.heap.size ≤ wr.heap.size → (∃ r, (l, Obj.loop r) ∈ Hb) → ∀ pre x au, xs = pre ++ x :: au → ∀ F1 L1, AQ F F1 → I pre F1 L1 →
      Gg P N (some l) ⟨wr, Fr, Xr, Ha⟩ assign (fun ex e2 F2 L2 => ex = .normal ∧ Gg P N (some l) ⟨wr, Fr, Xr, Hb⟩ body (R7 (I (pre ++ [x])) Ix) e2 F2 L2) (KM ps.toList (encs x).toList e) F1 L1)
    (done : ∀ F' L', AQ F F' → I xs F' L' → Q .normal e F' L')
    (stop : ∀ c F' L', AQ F F' → Ix c F' L' → Gg P N none K c Q e F' L') :
    Gg P N none K (.rangeFunc g ps assign body) Q e F L := fun M a w ha hs => by
  refine wpIn_rangeFunc fun fn _ => ?_
  have ad := run_enterLoop_outer (P := P) (w := w) fn a.tmps ps assign body
  -- the record
  let aa : Loop := { state := .ready, pending := none, fn, tmps := a.tmps, params := ps, assign, body, defers := w.heap.size }
  let l := w.heap.size + 1
  let w1 := (w.alloc (.deferred (some []))).alloc (.loop aa)
  have av : HQ K F ((l, .loop aa) :: (w.heap.size, .deferred (some [])) :: (L ++ (M.map B4 ++ K.H0))) w1 := by
    have := (HQ.push (HQ.push hs (.deferred (some []))).1 (.loop aa)).1
    simpa [l, w1] using this
  have ae : St K (w.heap.size :: M) F ((l, .loop aa) :: L) w1 := by
    refine HQ.perm av ?_
    simp only [List.cons_append, List.map_cons]
    exact List.Perm.cons _ List.perm_middle.symm
  refine ⟨l, [{ target := .collected w.heap.size, args := #[] }], w1, { target := .fn (.func gf) cap, args := first ++ #[.func (.yield l) #[] #[]] }, w1, gf, first ++ #[.func (.yield l) #[] #[]] ++ cap, w1, ad, ?_, ?_, ?_, by simp, ?_⟩
  · have hc : a.eval (.const (.func (.yield l) #[] #[])) = .func (.yield l) #[] #[] := rfl
    simp [resolve, Deferred.ofValue, ha.ev hg, hc]
  · intro f' _; trivial
  · simp [invoke, bc]
  -- the iterator's call
  let J : List α → FS → LH → Prop := fun pre F L => ∃ Lr, L = (l, .loop aa) :: Lr ∧ I pre F Lr
  let Jx : FS → LH → Prop := fun F L => ∃ Lr c, L = (l, .loop { aa with state := .done, pending := some c }) :: Lr ∧ Ix c F Lr
  have al := ak F (AQ.refl F) (.func (.yield l) #[] #[]) J Jx (fun pre F F' L ⟨Lr, h1, h2⟩ hx => ⟨Lr, h1, hI _ _ _ _ h2 hx⟩) (fun F F' L ⟨Lr, c, h1, h2⟩ hx => ⟨Lr, c, h1, bh _ _ _ _ h2 hx⟩) ?_ F ((l, .loop aa) :: L) (AQ.refl F) ⟨L, rfl, h0⟩
  · -- behind the iterator
    have hO : Ll F ((l, .loop aa) :: L) w1 := ae.own
    refine EB ((al w1 ae.MA hO).mono ?_)
    rintro ee w' ⟨v, F', L', rfl, h1, h2, h3, h4, h5, h6⟩
    obtain ⟨h7, h8⟩ := HQ.HY (Lb := (l, .loop aa) :: L) (Lr := (w.heap.size :: M).map B4 ++ K.H0) ae h1 h2 h3 h4 h5
    rcases h6 with ⟨Lr, rfl, h6⟩ | ⟨Lr, c, rfl, h6⟩
    · have hl := h7.own.cell (l, .loop aa) (by simp)
      refine ⟨none, w'.putObj l (.loop { aa with state := .exhausted }), ?_, ?_⟩
      · have := run_endLoop (P := P) hl (by simp [aa]); simpa [aa] using this
      · have ht := HQ.O4 (i := 0) h7 rfl (w' := w'.putObj l (.loop { aa with state := .exhausted })) (o' := .loop { aa with state := .exhausted }) rfl rfl rfl (by simp) (World.putObj_heap_same (Array.getElem?_eq_some_iff.1 hl).1) (fun k hk => World.putObj_heap_other hk)
        exact ⟨w.heap.size :: M, e, F', Lr, ⟨by simp [ha.ds, N3], ha.size, ha.get⟩, HQ.drop ht (List.sublist_cons_self _ _), done F' Lr h8 h6⟩
    · have hl := h7.own.cell (l, .loop { aa with state := .done, pending := some c }) (by simp)
      refine ⟨some c, w'.putObj l (.loop { aa with state := .exhausted, pending := some c }), ?_, ?_⟩
      · have := run_endLoop (P := P) hl (by simp); simpa [aa] using this
      · have ht := HQ.O4 (i := 0) h7 rfl (w' := w'.putObj l (.loop { aa with state := .exhausted, pending := some c })) (o' := .loop { aa with state := .exhausted, pending := some c }) rfl rfl rfl (by simp) (World.putObj_heap_same (Array.getElem?_eq_some_iff.1 hl).1) (fun k hk => World.putObj_heap_other hk)
        exact stop c F' Lr h8 h6 (w.heap.size :: M) _ _ ⟨by simp [ha.ds, N3], ha.size, ha.get⟩ (HQ.drop ht (List.sublist_cons_self _ _))
  · -- a round
    rintro pre x au bj F1 L1 bk ⟨Lr, rfl, bl⟩ w2 bm aw
    have hl := aw.cell (l, .loop aa) (by simp)
    refine .inr ⟨l, fn, (ps.zip (encs x)).foldl (fun tmps (p : Tmp × Value) => tmps.setIfInBounds p.1 p.2) a.tmps, assign, body, ?_, roundIn_of_wpIn trivial ?_⟩
    · have := run_yield (P := P) hl (args := encs x) (by simpa [aa] using bg x)
      simpa [Pr, Deferred.ofValue, invoke, aa] using this
    let Ka : Ctx := ⟨w2, F1, keys ((l, Obj.loop aa) :: Lr), [(l, .loop aa)]⟩
    let Kb : Ctx := ⟨w2, F1, keys ((l, Obj.loop aa) :: Lr), [(l, .loop { aa with state := .busy })]⟩
    have bn : St Ka [] F1 Lr w2 := by
      show HQ Ka F1 (Lr ++ ([] ++ [(l, .loop aa)])) w2
      simp only [List.nil_append]
      exact ⟨Lp.refl _ _, bm, fun _ _ => rfl, aw.perm (by simpa using (List.perm_append_comm (l₁ := [(l, Obj.loop aa)]) (l₂ := Lr))), fun p hp => .inl (List.mem_map.2 ⟨p, by simp at hp ⊢; exact hp.symm, rfl⟩)⟩
    have bo : Ag N [] (KM ps.toList (encs x).toList e) { tmps := (ps.zip (encs x)).foldl (fun tmps (p : Tmp × Value) => tmps.setIfInBounds p.1 p.2) a.tmps, defers := [] } := by
      have := Ag.round ha ps.toList (encs x).toList bd a.tmps e ha.get ha.size
      have e1 : (ps.zip (encs x)).foldl (fun tmps (p : Tmp × Value) => tmps.setIfInBounds p.1 p.2) a.tmps = (ps.toList.zip (encs x).toList).foldl (fun tmps (p : Tmp × Value) => tmps.setIfInBounds p.1 p.2) a.tmps := by
        rw [← Array.foldl_toList, Array.toList_zip]
      rw [e1]
      exact ⟨rfl, this.2, this.1⟩
    have ao : K.w0.heap.size ≤ w2.heap.size := Nat.le_trans (HQ.Fw hs).size (Nat.le_of_lt (Nat.lt_trans (Nat.lt_succ_self _) (Array.getElem?_eq_some_iff.1 hl).1))
    refine wpIn_mono (round l w2 F1 (keys ((l, Obj.loop aa) :: Lr)) [(l, .loop aa)] [(l, .loop { aa with state := .busy })] ao ⟨_, List.mem_singleton.2 rfl⟩ pre x au bj F1 Lr bk bl [] _ w2 bo bn) ?_
    rintro ex a3 w3 ⟨M3, e3, F3, L3, bp, ax, rfl, aq⟩
    -- the record becomes busy
    have bq : (L3 ++ (M3.map B4 ++ [(l, Obj.loop aa)]))[(L3 ++ M3.map B4).length]? = some (l, .loop aa) := by rw [← List.append_assoc]; simp
    have ay := (HQ.own ax).cell (l, .loop aa) (by simp)
    refine ⟨w3.putObj l (.loop { aa with state := .busy }), run_beginRound ay rfl, ?_⟩
    have aj := HQ.O4 ax (i := (L3 ++ M3.map B4).length) bq (w' := w3.putObj l (.loop { aa with state := .busy })) (o' := .loop { aa with state := .busy }) rfl rfl rfl (by simp) (World.putObj_heap_same (Array.getElem?_eq_some_iff.1 ay).1) (fun k hk => World.putObj_heap_other hk)
    have br : St Kb M3 F3 L3 (w3.putObj l (.loop { aa with state := .busy })) := by
      have e2 : (L3 ++ (M3.map B4 ++ Ka.H0)).set (L3 ++ M3.map B4).length (l, Obj.loop { aa with state := .busy }) = L3 ++ (M3.map B4 ++ Kb.H0) := by
        rw [← List.append_assoc, ← List.append_assoc]
        rw [List.set_append_right _ _ (Nat.le_refl _), Nat.sub_self]; rfl
      rw [e2] at aj
      exact ⟨aj.Fw, aj.MA, aj.fold, aj.own, aj.KO⟩
    refine wpIn_mono (aq M3 a3 _ bp br) ?_
    rintro ex a5 w5 ⟨M5, e5, F5, L5, bw, az, hq⟩
    have ba := (HQ.own az).cell (l, .loop { aa with state := .busy }) (by simp)
    have bu : (L5 ++ (M5.map B4 ++ [(l, Obj.loop { aa with state := .busy })]))[(L5 ++ M5.map B4).length]? = some (l, .loop { aa with state := .busy }) := by rw [← List.append_assoc]; simp
    have ah : ∀ (jump : Option Code), ∃ w6, (Instr.endRound l jump).run P w5 = .ok (.bool jump.isNone) w6 ∧ HQ Kb F5 ((l, .loop { aa with state := if jump.isNone then .ready else .done, pending := jump }) :: L5) w6 := fun jump => by
      refine ⟨_, run_endRound jump ba, ?_⟩
      have bb := HQ.O4 az (i := (L5 ++ M5.map B4).length) bu (w' := w5.putObj l (.loop { aa with state := if jump.isNone then .ready else .done, pending := jump })) (o' := .loop { aa with state := if jump.isNone then .ready else .done, pending := jump }) rfl rfl rfl (by simp) (World.putObj_heap_same (Array.getElem?_eq_some_iff.1 ba).1) (fun k hk => World.putObj_heap_other hk)
      have e3 : (L5 ++ (M5.map B4 ++ Kb.H0)).set (L5 ++ M5.map B4).length (l, Obj.loop { aa with state := if jump.isNone then .ready else .done, pending := jump }) = (L5 ++ M5.map B4) ++ [(l, Obj.loop { aa with state := if jump.isNone then .ready else .done, pending := jump })] := by
        rw [← List.append_assoc]
        rw [List.set_append_right _ _ (Nat.le_refl _), Nat.sub_self]; rfl
      rw [e3] at bb
      refine (bb.perm List.perm_append_comm).drop ?_
      simp
    have ai : ∀ (jump : Option Code) (w6 : World) (L5 : LH), HQ Kb F5 ((l, .loop { aa with state := if jump.isNone then .ready else .done, pending := jump }) :: L5) w6 →
        (((Value.bool jump.isNone) = .bool true ∧ J (pre ++ [x]) F5 ((l, .loop { aa with state := if jump.isNone then .ready else .done, pending := jump }) :: L5)) ∨ ((Value.bool jump.isNone) = .bool false ∧ Jx F5 ((l, .loop { aa with state := if jump.isNone then .ready else .done, pending := jump }) :: L5))) →
        P8 w2 F1 ((l, .loop aa) :: Lr) (fun F' L' v => (v = .bool true ∧ J (pre ++ [x]) F' L') ∨ (v = .bool false ∧ Jx F' L')) (.returned (.bool jump.isNone)) w6 := fun jump w6 L5 h6 h7 =>
      ⟨_, F5, _, rfl, h6.Fw, h6.MA, h6.fold, h6.own, h6.KO, h7⟩
    cases ex with
    | normal =>
      obtain ⟨w6, h6, h7⟩ := ah none
      obtain ⟨L6, ⟨L7, ar, ab⟩, hq⟩ := hq
      exact ⟨_, w6, h6, ai none w6 L6 ((h7.perm (ar.cons _)).drop (ab.cons_cons _)) (.inl ⟨rfl, L6, rfl, hq⟩)⟩
    | ret =>
      obtain ⟨w6, h6, h7⟩ := ah (some .ret)
      obtain ⟨L6, ⟨L7, ar, ab⟩, hq⟩ := hq
      exact ⟨_, w6, h6, ai (some .ret) w6 L6 ((h7.perm (ar.cons _)).drop (ab.cons_cons _)) (.inr ⟨rfl, L6, .ret, rfl, hq⟩)⟩
    | exit id =>
      obtain ⟨w6, h6, h7⟩ := ah (some (.exit id))
      obtain ⟨L6, ⟨L7, ar, ab⟩, hq⟩ := hq
      exact ⟨_, w6, h6, ai (some (.exit id)) w6 L6 ((h7.perm (ar.cons _)).drop (ab.cons_cons _)) (.inr ⟨rfl, L6, .exit id, rfl, hq⟩)⟩
    | goto t => exact hq.elim
    | panic c => exact hq.elim
    | outgrown => exact hq.elim
end
end Go.SH
