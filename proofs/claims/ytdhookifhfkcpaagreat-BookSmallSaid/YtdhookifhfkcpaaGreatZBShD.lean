/- The calculus, part D: contracts of functions, calls, regions that draw their order. -/
import Derived.Test.YtdhookifhfkcpaaGreatZBShC
import Derived.Deep.Quiet
import Derived.OrdersIn
namespace Go.SH
def keys (L : LH) : List Nat := L.map Prod.fst
def Spec (P : Program) (f : FuncId) (args : Array Value) (F0 : FS) (L0 : LH) (R : FS → LH → Value → Prop) : Prop :=
  ∀ w, PQ F0 w → Ll F0 L0 w → Calls P f args w fun e w' => ∃ v F' L', e = .returned v ∧ Lp (keys L0) w w' ∧ PQ F' w' ∧ (∀ b, b < w.heap.size → F' b = F0 b) ∧ Ll F' L' w' ∧
    (∀ p ∈ L', p.1 ∈ keys L0 ∨ w.heap.size ≤ p.1) ∧ R F' L' v
theorem Spec.mono {P : Program} {f : FuncId} {args : Array Value} {F0 : FS} {L0 : LH} {R R' : FS → LH → Value → Prop} (h : Spec P f args F0 L0 R) (hr : ∀ F L v, R F L v → R' F L v) : Spec P f args F0 L0 R' :=
  fun w h1 h2 => (h w h1 h2).mono fun _ _ ⟨v, F', L', e1, e2, e3, e4, e5, e6, e7⟩ => ⟨v, F', L', e1, e2, e3, e4, e5, e6, hr _ _ _ e7⟩
abbrev Bp (P : Program) (f : FuncId) (args : Array Value) (F0 : FS) (v : Value) : Prop := Spec P f args F0 [] fun _ _ v' => v' = v
def Ny (N : Nat) (K : Ctx) (P : Program) (fn : Func) (R : FS → LH → Value → Prop) : GI := fun ex e F L =>
  (ex = .ret ∨ ex = .normal) ∧ ∃ v L2, (∃ L3, L.Perm L3 ∧ L2.Sublist L3) ∧ (∀ M a w, Ag N M e a → St K M F L w → (results fn a.tmps).run P w = .ok v w) ∧ R F L2 v
def OL (args : List Value) : Env := args.zipIdx.map fun p => (p.2, p.1)
theorem PX {args : List Value} {t : Nat} {v : Value} (h : (OL args).get t = some v) : args[t]? = some v := by
  have key : ∀ (l : List Value) (k t : Nat) (v : Value), Env.get ((l.zipIdx k).map fun p => (p.2, p.1)) t = some v → k ≤ t ∧ l[t - k]? = some v := by
    intro l
    induction l with
    | nil => intro k t v h; simp [Env.get] at h
    | cons x l ih =>
      intro k t v h
      simp only [List.zipIdx_cons, List.map_cons, Env.get] at h
      by_cases hk : k = t
      · subst hk
        simp at h
        exact ⟨Nat.le_refl _, by simp [h]⟩
      · rw [M7 hk] at h
        obtain ⟨h1, h2⟩ := ih (k + 1) t v h
        refine ⟨by omega, ?_⟩
        have e1 : t - k = (t - (k + 1)) + 1 := by omega
        rw [e1]; simpa using h2
  simpa using (key args 0 t v h).2
theorem MJ {P : Program} {fn : Func} {tmps : Array Value} {R : Ending → World → Prop} {K : Ctx} {F : FS} {L : LH} {v : Value} (aa : ∀ w, St K [] F L w → (results fn tmps).run P w = .ok v w) (hR : ∀ w, St K [] F L w → R (.returned v) w) :
    ∀ (M : List Nat) (w : World), St K M F L w → LeavesInM (GW none) 0 P fn tmps R (M.map N3) .returning w
  | [], w, hs => by
    have h1 := aa w hs
    have h2 := hR w hs
    simp only [List.map_nil, LeavesInM, LeavesIn]
    exact ⟨v, h1, h2⟩
  | D :: M, w, hs => by
    have hm : (D, Obj.deferred (some [])) ∈ L ++ ((D :: M).map B4 ++ K.H0) := by simp [B4]
    have hb := (HQ.own hs).cell _ hm
    refine ⟨by simp, .inl ⟨D, w.putObj D (.deferred none), rfl, run_takeDeferred hb, MJ aa hR M _ ?_⟩⟩
    have hi : (L ++ ((D :: M).map B4 ++ K.H0))[L.length]? = some (D, Obj.deferred (some [])) := by simp [B4]
    have ht := HQ.O4 hs hi (w' := w.putObj D (.deferred none)) (o' := .deferred none) rfl rfl rfl (by simp) (World.putObj_heap_same (Array.getElem?_eq_some_iff.1 hb).1) (fun k hk => World.putObj_heap_other hk)
    have ab : (L ++ (M.map B4 ++ K.H0)).Sublist ((L ++ ((D :: M).map B4 ++ K.H0)).set L.length (D, Obj.deferred none)) := by
      simp only [List.map_cons, List.cons_append]
      rw [List.set_append_right _ _ (Nat.le_refl _), Nat.sub_self, List.set_cons_zero]
      exact List.Sublist.append (List.Sublist.refl _) (List.sublist_cons_self _ _)
    exact ⟨ht.Fw, ht.MA, ht.fold, ht.own.sub ab, fun p hp => ht.KO p (ab.subset hp)⟩
theorem Ll.perm {F : FS} {L L' : LH} {w : World} (h : Ll F L w) (hp : L.Perm L') : Ll F L' w :=
  ⟨(hp.map _).nodup_iff.1 h.nodup, fun p hm => h.cell p (hp.mem_iff.2 hm), fun p hm => h.free p (hp.mem_iff.2 hm)⟩
theorem HQ.perm {K : Ctx} {F : FS} {L L' : LH} {w : World} (h : HQ K F L w) (hp : L.Perm L') : HQ K F L' w :=
  ⟨h.Fw, h.MA, h.fold, h.own.perm hp, fun p hm => h.KO p (hp.mem_iff.2 hm)⟩
theorem St.perm {K : Ctx} {M : List Nat} {F : FS} {L L' : LH} {w : World} (h : St K M F L w) (hp : L.Perm L') : St K M F L' w := HQ.perm h (hp.append_right _)
theorem Py {P : Program} {f : FuncId} {fn : Func} {c : Code} {args : List Value} {F0 : FS} {L0 : LH} {R : FS → LH → Value → Prop} {N : Nat} (hf : P.funcs[f]? = some fn) (hb : fn.body = some c) (hN : fn.ntmps = N) (hle : args.length ≤ N)
    (h : ∀ K : Ctx, K.F0 = F0 → K.X = keys L0 → Gg P N none K c (Ny N K P fn R) (OL args) F0 L0) : Spec P f args.toArray F0 L0 R := fun w hF hL => by
  let K : Ctx := ⟨w, F0, keys L0, []⟩
  refine (callsIn_wide (n := 0)).1 (callsIn_of_wp_marks hf hb trivial ?_)
  have ah : St K [] F0 L0 w := by
    show HQ K F0 (L0 ++ ([] ++ [])) w
    simp only [List.append_nil]
    exact ⟨Lp.refl _ _, hF, fun _ _ => rfl, hL, fun p hp => .inl (List.mem_map.2 ⟨p, hp, rfl⟩)⟩
  have ai : Ag N [] (OL args) { tmps := args.toArray ++ Array.replicate (fn.ntmps - args.toArray.size) undef, defers := [] } := by
    refine ⟨rfl, by simp [hN]; omega, fun t v ht => ?_⟩
    have h1 := PX ht
    have aj := (List.getElem?_eq_some_iff.1 h1).1
    rw [Array.getElem?_append_left (by simpa using aj)]
    simpa using h1
  refine wpIn_mono (h K rfl rfl _ _ _ ai ah) ?_
  rintro ex a' w' ⟨M, e', F', L', h1, h2, h3, v, L2, ⟨L3, ae, ab⟩, h4, h5⟩
  have ad : LeavesInM (GW none) 0 P fn a'.tmps (fun e aa => ∃ v' F' L', e = Ending.returned v' ∧ Lp (keys L0) w aa ∧ PQ F' aa ∧ (∀ b, b < w.heap.size → F' b = F0 b) ∧ Ll F' L' aa ∧
    (∀ p ∈ L', p.1 ∈ keys L0 ∨ w.heap.size ≤ p.1) ∧ R F' L' v') a'.defers .returning w' := by
    rw [h1.ds]
    exact MJ (fun aa hs => h4 [] ⟨a'.tmps, []⟩ aa ⟨rfl, h1.size, h1.get⟩ hs) (fun aa hs => ⟨v, F', L2, rfl, hs.Fw, hs.MA, hs.fold, (hs.perm ae).own.sub ab, fun p hp => (hs.perm ae).KO p (ab.subset hp), h5⟩) M w' h2
  rcases h3 with rfl | rfl <;> exact ad
section
variable {P : Program} {N : Nat} {K : Ctx} {fn : Func} {R : FS → LH → Value → Prop} {e : Env} {F : FS} {L : LH}
theorem QY {ex : Exit} (hex : ex = .ret ∨ ex = .normal) (hr : fn.results = #[]) (h : R F L (.tuple #[])) : Ny N K P fn R ex e F L :=
  ⟨hex, _, L, ⟨L, .refl _, List.Sublist.refl _⟩, fun M a w ha hs => by simp [results, hr], h⟩
end
theorem QX {N : Nat} {M : List Nat} {e : Env} {a : Act} (ha : Ag N M e a) : ∀ (l : List Operand) (vs : List Value), l.mapM (ev e) = some vs → l.map a.eval = vs
  | [], vs, h => by simpa using h
  | x :: l, vs, h => by
    simp only [List.mapM_cons, Option.bind_eq_bind, Option.bind_eq_some_iff, Option.pure_def, Option.some.injEq] at h
    obtain ⟨v, hv, aa, ab, rfl⟩ := h
    simp [ha.ev hv, QX ha l aa ab]
theorem EB {P : Program} {f : FuncId} {args : Array Value} {w : World} {R : Ending → World → Prop} {r : Option Nat} {n : Nat} (h : Calls P f args w R) : CallsIn (GW r) n P f args w R :=
  (callsIn_wide (n := n)).2 h
theorem HQ.HY {K : Ctx} {F : FS} {Lb Lr : LH} {w w' : World} (hs : HQ K F (Lb ++ Lr) w) {F' : FS} {L' : LH} (hk : Lp (keys Lb) w w') (hF : PQ F' w') (hold : ∀ b, b < w.heap.size → F' b = F b) (hO : Ll F' L' w')
    (aa : ∀ p ∈ L', p.1 ∈ keys Lb ∨ w.heap.size ≤ p.1) : HQ K F' (L' ++ Lr) w' ∧ AQ F F' := by
  have ab : ∀ (b : Nat) (o : Obj), w.heap[b]? = some o → b < w.heap.size := fun b o h => (Array.getElem?_eq_some_iff.1 h).1
  have ad := hs.own.nodup
  rw [List.map_append, List.nodup_append] at ad
  have ae : ∀ p ∈ Lr, p.1 ∉ keys Lb := fun p hp hm => ad.2.2 _ hm _ (List.mem_map.2 ⟨p, hp, rfl⟩) rfl
  have ah : ∀ b ∈ keys Lb, b ∈ K.X ∨ K.w0.heap.size ≤ b := by
    intro b hb
    obtain ⟨p, hp, rfl⟩ := List.mem_map.1 hb
    exact hs.KO p (List.mem_append_left _ hp)
  refine ⟨⟨⟨hk.os.trans hs.Fw.os, hk.tape.trans hs.Fw.tape, hk.output.trans hs.Fw.output, Nat.le_trans hs.Fw.size hk.size, fun b hb hx => ?_⟩, hF, fun b hb => ?_, ⟨?_, ?_, ?_⟩, ?_⟩, ?_⟩
  · have ai : b < w.heap.size := Nat.lt_of_lt_of_le hb hs.Fw.size
    have aj : b ∉ keys Lb := fun hm => by
      rcases ah b hm with h | h
      · exact hx h
      · exact absurd hb (Nat.not_lt.2 h)
    rw [hk.block b ai aj]; exact hs.Fw.block b hb hx
  · rw [hold b (Nat.lt_of_lt_of_le hb hs.Fw.size)]; exact hs.fold b hb
  · rw [List.map_append, List.nodup_append]
    refine ⟨hO.nodup, ad.2.1, fun x hx y hy => ?_⟩
    rintro rfl
    obtain ⟨p, hp, rfl⟩ := List.mem_map.1 hx
    obtain ⟨q, hq, he⟩ := List.mem_map.1 hy
    rcases aa p hp with h | h
    · exact ae q hq (by rw [he]; exact h)
    · have := ab _ _ (hs.own.cell q (List.mem_append_right _ hq))
      rw [he] at this; exact absurd this (Nat.not_lt.2 h)
  · intro p hp
    rcases List.mem_append.1 hp with hp | hp
    · exact hO.cell p hp
    · have h1 := hs.own.cell p (List.mem_append_right _ hp)
      rw [hk.block p.1 (ab _ _ h1) (ae p hp)]; exact h1
  · intro p hp
    rcases List.mem_append.1 hp with hp | hp
    · exact hO.free p hp
    · have h1 := hs.own.cell p (List.mem_append_right _ hp)
      rw [hold p.1 (ab _ _ h1)]; exact hs.own.free p (List.mem_append_right _ hp)
  · intro p hp
    rcases List.mem_append.1 hp with hp | hp
    · rcases aa p hp with h | h
      · exact ah _ h
      · exact .inr (Nat.le_trans hs.Fw.size h)
    · exact hs.KO p (List.mem_append_right _ hp)
  · intro b o hb
    rw [hold b (ab _ _ (hs.MA b o hb))]; exact hb
theorem HQ.Ig {K : Ctx} {F : FS} {L : LH} {w w' : World} (hs : HQ K F L w) (hk : Lp [] w w') : HQ K F L w' := by
  have ab : ∀ (b : Nat) (o : Obj), w.heap[b]? = some o → b < w.heap.size := fun b o h => (Array.getElem?_eq_some_iff.1 h).1
  have hb : ∀ (b : Nat) (o : Obj), w.heap[b]? = some o → w'.heap[b]? = some o := fun b o h => by rw [hk.block b (ab b o h) (by simp)]; exact h
  exact ⟨⟨hk.os.trans hs.Fw.os, hk.tape.trans hs.Fw.tape, hk.output.trans hs.Fw.output, Nat.le_trans hs.Fw.size hk.size, fun b aa hx => by rw [hk.block b (Nat.lt_of_lt_of_le aa hs.Fw.size) (by simp)]; exact hs.Fw.block b aa hx⟩,
    fun b o h => hb b o (hs.MA b o h), hs.fold, ⟨hs.own.nodup, fun p hp => hb _ _ (hs.own.cell p hp), hs.own.free⟩, hs.KO⟩
theorem St.HY {K : Ctx} {M : List Nat} {F : FS} {Lb Lr : LH} {w w' : World} (hs : St K M F (Lb ++ Lr) w) {F' : FS} {L' : LH} (hk : Lp (keys Lb) w w') (hF : PQ F' w') (hold : ∀ b, b < w.heap.size → F' b = F b) (hO : Ll F' L' w')
    (aa : ∀ p ∈ L', p.1 ∈ keys Lb ∨ w.heap.size ≤ p.1) : St K M F' (L' ++ Lr) w' ∧ AQ F F' := by
  have ab : HQ K F (Lb ++ (Lr ++ (M.map B4 ++ K.H0))) w := by rw [← List.append_assoc]; exact hs
  have := ab.HY hk hF hold hO aa
  rw [← List.append_assoc] at this; exact this
theorem St.Ig {K : Ctx} {M : List Nat} {F : FS} {L : LH} {w w' : World} (hs : St K M F L w) (hk : Lp [] w w') : St K M F L w' := HQ.Ig hs hk
section
variable {P : Program} {N : Nat} {r : Option Nat} {K : Ctx} {ops : Array Oper} {Q : Env → FS → LH → Prop} {rest : List Oper} {e : Env} {F : FS} {L : LH}
variable {ty : TypeId} {pos : String} {after : Array Edge} {d : Option Nat}
theorem J0 {M : List Nat} {a : Act} {w : World} {x : Operand} {xs : Array Operand} {MZ : Array TypeId} {f : FuncId} {first cap : Array Value} {vs : List Value} {g : Option (Nat × Bool)} (ha : Ag N M e a) (hf : ∀ args w, (callFunc f args).run P w = .ok (.enter f args) w)
    (hx : ev e x = some (.func (.func f) first cap)) (aa : xs.toList.mapM (ev e) = some vs) :
    (execOp a.eval ⟨d, .call ⟨.value x, xs, MZ⟩, ty, pos, after, g⟩).run P w = .ok (.enter f (first ++ vs.toArray ++ cap)) w := by
  have e1 : xs.map a.eval = vs.toArray := Array.ext' (by rw [Array.toList_map]; exact QX ha _ _ aa)
  simp [execOp, resolve, Deferred.ofValue, ha.ev hx, e1, invoke, hf]
theorem Gx {x : Operand} {xs : Array Operand} {MZ : Array TypeId} {f : FuncId} {first cap args : Array Value} {vs : List Value} {v : Value} (hd : CW N d = true) (hf : ∀ args w, (callFunc f args).run P w = .ok (.enter f args) w)
    (hx : ev e x = some (.func (.func f) first cap)) (ad : xs.toList.mapM (ev e) = some vs) (aa : first ++ vs.toArray ++ cap = args) (ab : Bp P f args F v)
    (k : Ct P N r K ops Q rest (e.put d v) F L) :
    Ct P N r K ops Q (⟨d, .call ⟨.value x, xs, MZ⟩, ty, pos, after, none⟩ :: rest) e F L := fun M a w ha hs => by
  refine wpListIn_plain rfl fun Kn hK => ⟨fun _ _ => trivial, ?_⟩
  rw [Oper.semAt_eq _ _ _ (by intro c h; cases h), J0 ha hf hx ad, aa]
  refine ⟨by simp, EB ?_⟩
  refine (ab w hs.MA ⟨by simp, fun p hp => by simp at hp, fun p hp => by simp at hp⟩).mono ?_
  rintro ee w' ⟨v', F', L', rfl, h1, h2, h3, h4, h5, rfl⟩
  exact hK _ _ (k _ _ _ (ha.MR hd _) (hs.Ig h1))
theorem Bc {l : List Oper} {L' : LH} (hp : L.Perm L') (h : Ct P N r K ops Q l e F L') : Ct P N r K ops Q l e F L := fun M a w ha hs => h M a w ha (hs.perm hp)
theorem HQ.drop {F : FS} {L L' : LH} {w : World} (h : HQ K F L w) (hp : L'.Sublist L) : HQ K F L' w :=
  ⟨h.Fw, h.MA, h.fold, h.own.sub hp, fun p hm => h.KO p (hp.subset hm)⟩
theorem St.drop {M : List Nat} {F : FS} {L L' : LH} {w : World} (h : St K M F L w) (hp : L'.Sublist L) : St K M F L' w := HQ.drop h (hp.append_right _)
theorem Ro {l : List Oper} {L' : LH} (hp : L'.Sublist L) (h : Ct P N r K ops Q l e F L') : Ct P N r K ops Q l e F L := fun M a w ha hs => h M a w ha (hs.drop hp)
end
theorem HQ.freeze {K : Ctx} {F : FS} {L : LH} {w : World} (h : HQ K F L w) {i b : Nat} {o : Obj} (hi : L[i]? = some (b, o)) (hb : K.w0.heap.size ≤ b) : ∃ F', HQ K F' (L.eraseIdx i) w ∧ AQ F F' ∧ F' b = some o := by
  classical
  have hm : (b, o) ∈ L := List.mem_of_getElem? hi
  have ad := h.own.free _ hm
  refine ⟨fun k => if k = b then some o else F k, ⟨h.Fw, fun k o' hk => ?_, fun k hk => ?_, ⟨?_, ?_, ?_⟩, ?_⟩, fun k o' hk => ?_, by simp⟩
  · by_cases he : k = b
    · subst he; simp at hk; subst hk; exact h.own.cell _ hm
    · simp [he] at hk; exact h.MA _ _ hk
  · have he : k ≠ b := by rintro rfl; exact absurd hk (Nat.not_lt.2 hb)
    simp [he]; exact h.fold k hk
  · exact h.own.nodup.sublist ((List.eraseIdx_sublist ..).map _)
  · exact fun p hp => h.own.cell p ((List.eraseIdx_sublist ..).subset hp)
  · intro p hp
    have aa := (List.eraseIdx_sublist ..).subset hp
    have he : p.1 ≠ b := by
      intro he
      have : p = (b, o) := Nz h.own.nodup hi aa he
      subst this
      have hn := h.own.nodup
      obtain ⟨j, hj⟩ := List.getElem?_of_mem hp
      rw [List.getElem?_eraseIdx] at hj
      have ab : ∀ i' j' : Nat, L[i']? = some (b, o) → L[j']? = some (b, o) → i' = j' := fun i' j' h1 h2 => by
        have ae : (L.map Prod.fst)[i']? = some b := by simp [h1]
        have ah : (L.map Prod.fst)[j']? = some b := by simp [h2]
        obtain ⟨l1, e1⟩ := List.getElem?_eq_some_iff.1 ae
        obtain ⟨l2, e2⟩ := List.getElem?_eq_some_iff.1 ah
        exact (List.getElem_inj hn).1 (e1.trans e2.symm)
      split at hj
      · rename_i ai; have := ab _ _ hj hi; omega
      · rename_i ai; have := ab _ _ hj hi; omega
    simp [he]; exact h.own.free p aa
  · exact fun p hp => h.KO p ((List.eraseIdx_sublist ..).subset hp)
  · have he : k ≠ b := by rintro rfl; rw [ad] at hk; cases hk
    simp [he]; exact hk
theorem St.freeze {K : Ctx} {M : List Nat} {F : FS} {L : LH} {w : World} (h : St K M F L w) {i b : Nat} {o : Obj} (hi : L[i]? = some (b, o)) (hb : K.w0.heap.size ≤ b) : ∃ F', St K M F' (L.eraseIdx i) w ∧ AQ F F' ∧ F' b = some o := by
  obtain ⟨F', h1, h2, h3⟩ := HQ.freeze h (MC hi) hb
  rw [List.eraseIdx_append_of_lt_length (List.getElem?_eq_some_iff.1 hi).1] at h1
  exact ⟨F', h1, h2, h3⟩
section
variable {P : Program} {N : Nat} {r : Option Nat} {K : Ctx} {ops : Array Oper} {e : Env} {F : FS} {L : LH}
theorem Bj {Q : Env → FS → LH → Prop} {l : List Oper} (i : Nat) {b : Nat} {o : Obj} (hi : L[i]? = some (b, o)) (hb : K.w0.heap.size ≤ b) (h : ∀ F', AQ F F' → F' b = some o → Ct P N r K ops Q l e F' (L.eraseIdx i)) : Ct P N r K ops Q l e F L := fun M a w ha hs => by
  obtain ⟨F', h1, h2, h3⟩ := hs.freeze hi hb
  exact h F' h2 h3 M a w ha h1
theorem BN {Q : GI} {c : Code} (i : Nat) {b : Nat} {o : Obj} (hi : L[i]? = some (b, o)) (hb : K.w0.heap.size ≤ b) (h : ∀ F', AQ F F' → F' b = some o → Gg P N r K c Q e F' (L.eraseIdx i)) : Gg P N r K c Q e F L := fun M a w ha hs => by
  obtain ⟨F', h1, h2, h3⟩ := hs.freeze hi hb
  exact h F' h2 h3 M a w ha h1
theorem PJ {Q : GI} {c : Code} {L' : LH} (hp : L.Perm L') (h : Gg P N r K c Q e F L') : Gg P N r K c Q e F L := fun M a w ha hs => h M a w ha (hs.perm hp)
theorem Pl {Q : GI} {c : Code} {L' : LH} (hp : L'.Sublist L) (h : Gg P N r K c Q e F L') : Gg P N r K c Q e F L := fun M a w ha hs => h M a w ha (hs.drop hp)
end
end Go.SH
