/- The calculus, part S: short forms. -/
import Derived.Test.YtdhookifhfkcpaaGreatZBShR
namespace Go.SH
def KL (L L2 : LH) : Prop := ∃ L3, L.Perm L3 ∧ L2.Sublist L3
section
variable {L L2 R A : LH} {x : Nat × Obj}
theorem kr : KL L L := ⟨L, .refl _, .refl _⟩
theorem kn : KL L [] := ⟨L, .refl _, List.nil_sublist _⟩
theorem kc (h : KL L L2) : KL (x :: L) (x :: L2) := let ⟨L3, h1, h2⟩ := h; ⟨x :: L3, h1.cons x, h2.cons_cons x⟩
theorem kd (h : KL L L2) : KL (x :: L) L2 := let ⟨L3, h1, h2⟩ := h; ⟨x :: L3, h1.cons x, h2.cons x⟩
theorem ka (h : KL L L2) : KL (A ++ L) (A ++ L2) := let ⟨L3, h1, h2⟩ := h; ⟨A ++ L3, h1.append_left A, (List.Sublist.refl A).append h2⟩
theorem kx (h : KL L L2) : KL (A ++ L) L2 := let ⟨L3, h1, h2⟩ := h; ⟨A ++ L3, h1.append_left A, h2.trans (List.sublist_append_right _ _)⟩
theorem kf (hf : L.Perm ([x] ++ R)) (h : KL R L2) : KL L (x :: L2) := let ⟨L3, h1, h2⟩ := h; ⟨x :: L3, hf.trans (h1.cons x), h2.cons_cons x⟩
theorem kg (hf : L.Perm (A ++ R)) (h : KL R L2) : KL L (A ++ L2) := let ⟨L3, h1, h2⟩ := h; ⟨A ++ L3, hf.trans (h1.append_left A), (List.Sublist.refl A).append h2⟩
theorem ke (h : KL L L2) : KL L (([] : LH) ++ L2) := h
theorem lb {M : LH} (h : R ++ L = M) : (x :: R) ++ L = x :: M := by rw [List.cons_append, h]
theorem lp {M : LH} (h : R ++ L = M) : (A ++ R) ++ L = A ++ M := by rw [List.append_assoc, h]
theorem ln {M : LH} (h : L = M) : ([] : LH) ++ L = M := h
theorem pT {S M : LH} (h : L.Perm M) (he : S = M) : L.Perm S := he ▸ h
theorem fO : (x :: R).Perm ([x] ++ R) := .refl _
theorem fP : (A ++ R).Perm (A ++ R) := .refl _
theorem fC {X R' : LH} (h : R.Perm (X ++ R')) : (x :: R).Perm (X ++ (x :: R')) := P7 h
theorem fS {X R' : LH} (h : R.Perm (X ++ R')) : (A ++ R).Perm (X ++ (A ++ R')) := Qe h
theorem sr : L.Sublist L := .refl _
theorem s1 (h : L.Sublist L2) : L.Sublist (x :: L2) := h.cons x
theorem s2 (h : L.Sublist L2) : (x :: L).Sublist (x :: L2) := h.cons_cons x
theorem s3 (h : L.Sublist L2) : L.Sublist (A ++ L2) := h.trans (List.sublist_append_right _ _)
theorem s4 (h : L.Sublist L2) : (A ++ L).Sublist (A ++ L2) := (List.Sublist.refl A).append h
theorem s0 (h : L2.Sublist L) : ∀ p ∈ L2, p ∈ L := fun _ hp => h.subset hp
theorem sm : ∀ p ∈ ([] : LH), p ∈ L := fun _ h => absurd h List.not_mem_nil
theorem pC (h : R.Perm A) : (x :: R).Perm (x :: A) := h.cons x
theorem pA {X : LH} (h : R.Perm A) : (X ++ R).Perm (X ++ A) := h.append_left X
theorem pR : L.Perm L := .refl _
end
theorem c3 {e e' : Env} {t1 t2 t3 : Nat} {v1 v2 v3 : Value} (h1 : e.get t1 = some v1) (h2 : e.get t2 = some v2) (h3 : e.get t3 = some v3) (h : e.sub e') : e.sub ((t1, v1) :: (t2, v2) :: (t3, v3) :: e') := sc h1 (sc h2 (sc h3 h))
section
variable {P : Program} {N : Nat} {r : Option Nat} {K : Ctx} {ops : Array Oper} {Q : Env → FS → LH → Prop} {Qp Qq : GI} {l rest : List Oper} {e : Env} {F : FS} {L L2 : LH} {d : Option Nat} {ty : TypeId} {pos : String} {after : Array Edge} {id : Nat} {c y : Code} {v : Value}
theorem kO (h : KL L L2) (k : Ct P N r K ops Q l e F L2) : Ct P N r K ops Q l e F L := fun M a w ha hs => by
  obtain ⟨L3, h1, h2⟩ := h
  exact k M a w ha ((hs.perm h1).drop h2)
theorem kW (h : KL L L2) (k : Gg P N r K c Qp e F L2) : Gg P N r K c Qp e F L := fun M a w ha hs => by
  obtain ⟨L3, h1, h2⟩ := h
  exact k M a w ha ((hs.perm h1).drop h2)
theorem mi {KA : Env → FS → LH → Prop} (h : KL L L2) (hm : KA e F L2) : andThen (meet KA) Qp .normal e F L := let ⟨L3, h1, h2⟩ := h; ⟨L2, L3, h1, h2, hm⟩
theorem m0 {KA : Env → FS → LH → Prop} (h : KL L L2) (hm : KA e F L2) : meet KA e F L := let ⟨L3, h1, h2⟩ := h; ⟨L2, L3, h1, h2, hm⟩
theorem le {I : Nat → Env → FS → LH → Prop} {n : Nat} (h : KL L L2) (hm : I n e F L2) : andThen (fun e F L => ∃ n', n' < n + 1 ∧ meet (I n') e F L) Qp .normal e F L := ⟨n, Nat.lt_succ_self _, m0 h hm⟩
theorem AG (h : Ct P N r K l.toArray (andThen (Gg P N r K y Qp) Qp .normal) l e F L) : Gg P N r K (.seq (.region id l.toArray false) y) Qp e F L := Au (Aq h)
theorem BR (h : Ct P N r K l.toArray (andThen (Gg P N r K y Qp) Qp .normal) l e F L) : Ct P N r K ops (andThen (Gg P N r K (.seq (.region id l.toArray false) y) Qp) Qq .normal) [] e F L := Aa (AG h)
theorem Tm {L' : LH} {F' : FS} (h : Ct P N r K l.toArray (andThen (Gg P N r K y Qp) Qp .normal) l e F L) : Mi P N K ops F' L' (fun e' => andThen (Gg P N r K (.seq (.region id l.toArray false) y) Qp) Qq .normal e' F L) [] e := B6 (AG h)
theorem Ti (hm : P.follows .mixedOrders = true) (hB : Region.lexB .any l.toArray = true) (aa : Jw l.toArray = true) (h : Mi P N K l.toArray F L (fun e' => andThen (Gg P N r K y Qp) Qp .normal e' F L) l e) : Gg P N r K (.seq (.region id l.toArray true) y) Qp e F L := Au (Jb hm hB aa h)
theorem Tj (hm : P.follows .mixedOrders = true) (hB : Region.lexB .any l.toArray = true) (aa : Jw l.toArray = true) (h : Mi P N K l.toArray F L (fun e' => andThen (Gg P N r K y Qp) Qp .normal e' F L) l e) : Ct P N r K ops (andThen (Gg P N r K (.seq (.region id l.toArray true) y) Qp) Qq .normal) [] e F L := Aa (Ti hm hB aa h)
theorem om {x : Operand} (hx : ev e x = some v) (hd : Pd N d (.move x) = true) (k : Ct P N r K ops Q rest (e.put d v) F L) : Ct P N r K ops Q (⟨d, .move x, ty, pos, after, none⟩ :: rest) e F L := ov (A9 hx) hd k
theorem oa {x : Operand} (hx : ev e x = some v) (hd : Pd N d (.assign x) = true) (k : Ct P N r K ops Q rest (e.put d v) F L) : Ct P N r K ops Q (⟨d, .assign x, ty, pos, after, none⟩ :: rest) e F L := ov (Da hx) hd k
theorem qm {Q : Env → Prop} {x : Operand} (hx : ev e x = some v) (hd : Pd N d (.move x) = true) (k : Mi P N K ops F L Q rest (e.put d v)) : Mi P N K ops F L Q (⟨d, .move x, ty, pos, after, none⟩ :: rest) e := qv (A9 hx) hd k
theorem qa {Q : Env → Prop} {x : Operand} (hx : ev e x = some v) (hd : Pd N d (.assign x) = true) (k : Mi P N K ops F L Q rest (e.put d v)) : Mi P N K ops F L Q (⟨d, .assign x, ty, pos, after, none⟩ :: rest) e := qv (Da hx) hd k
theorem ox {x : Operand} {i : Nat} {vs : Array Value} (hx : ev e x = some (.tuple vs)) (hi : vs[i]? = some v) (hd : Pd N d (.extract x i) = true) (k : Ct P N r K ops Q rest (e.put d v) F L) : Ct P N r K ops Q (⟨d, .extract x i, ty, pos, after, none⟩ :: rest) e F L := ov (Nh hx hi) hd k
theorem HP {Q : Env → FS → LH → Prop} {l : List (Kd × Nat)} {done : List Rec} {i d : Nat} {z : Obj} {ek : Env} (hd : DY ops i = some d) (h : ∀ b, K.w0.heap.size ≤ b → Nx P N r K ops Q l ((d, .pointer (some ⟨b, 0, none⟩)) :: e) F ((b, z) :: L) done) :
    Nx P N r K ops Q ((.alloc z (fun b => .pointer (some ⟨b, 0, none⟩)) ek, i) :: l) e F L done := ⟨d, hd, h⟩
theorem K7 {Q : Env → FS → LH → Prop} {l : List (Kd × Nat)} {done : List Rec} {i d n : Nat} {z : Obj} {ek : Env} (hd : DY ops i = some d) (h : ∀ b, K.w0.heap.size ≤ b → Nx P N r K ops Q l ((d, .slice (some ⟨b, 0, none⟩) n n) :: e) F ((b, z) :: L) done) :
    Nx P N r K ops Q ((.alloc z (fun b => .slice (some ⟨b, 0, none⟩) n n) ek, i) :: l) e F L done := ⟨d, hd, h⟩
theorem SG {Lt Lr : LH} {M : List Nat} {w : World} (hs : St K M F (Lt ++ Lr) w) : ∃ F', AQ F F' ∧ (∀ p ∈ Lt, F' p.1 = some p.2) ∧ PQ F' w ∧ ∀ b, b ∉ keys Lt → F' b = F b := by
  have ad := hs.own.nodup
  have aa := hs.own.cell
  have ab := hs.own.free
  suffices h : ∀ (Lt : LH) (F : FS), (Lt.map Prod.fst).Nodup → (∀ p ∈ Lt, w.heap[p.1]? = some p.2) → (∀ p ∈ Lt, F p.1 = none) → PQ F w → ∃ F', AQ F F' ∧ (∀ p ∈ Lt, F' p.1 = some p.2) ∧ PQ F' w ∧ ∀ b, b ∉ keys Lt → F' b = F b by
    refine h Lt F ?_ (fun p hp => aa p (List.mem_append_left _ hp)) (fun p hp => ab p (List.mem_append_left _ hp)) hs.MA
    rw [List.map_append] at ad; exact (List.nodup_append.1 ad).1
  clear ad aa ab hs
  intro Lt
  induction Lt with
  | nil => intro F _ _ _ hF; exact ⟨F, AQ.refl F, fun p hp => by simp at hp, hF, fun _ _ => rfl⟩
  | cons q Lt ih =>
    intro F hn hc hf hF
    rw [List.map_cons, List.nodup_cons] at hn
    obtain ⟨F', h1, h2, h3, h4⟩ := ih (fun k => if k = q.1 then some q.2 else F k) hn.2 (fun p hp => hc p (List.mem_cons_of_mem _ hp)) (fun p hp => by
      have ae : p.1 ≠ q.1 := fun he => hn.1 (List.mem_map.2 ⟨p, hp, he⟩)
      simp only [ae, if_false]; exact hf p (List.mem_cons_of_mem _ hp)) (fun b o hb => by
      by_cases he : b = q.1
      · subst he; simp at hb; subst hb; exact hc q (List.mem_cons_self ..)
      · simp [he] at hb; exact hF b o hb)
    refine ⟨F', fun b o hb => h1 b o ?_, fun p hp => ?_, h3, fun b hb => ?_⟩
    · have ae : b ≠ q.1 := by
        rintro rfl; rw [hf q (List.mem_cons_self ..)] at hb; cases hb
      simpa [ae] using hb
    · rcases List.mem_cons.1 hp with rfl | hp
      · exact h1 p.1 p.2 (by simp)
      · exact h2 p hp
    · unfold keys at hb
      rw [List.map_cons, List.mem_cons, not_or] at hb
      rw [h4 b hb.2, if_neg hb.1]
theorem AI.flat {α : Type} {nb E sz : Nat} {R : Hf α} {a : Option Addr} {n cap : Nat} {xs : List α} {Lb : LH} (h : AI nb E sz R F a n cap xs Lb) {F' : FS} (hf : ∀ x y, R F x y → R F' x y) : AI nb E sz R F' a n cap xs Lb := by
  obtain ⟨h1, h2, vss, h3, h4⟩ := h
  exact ⟨h1, h2, vss, h3.mono hf, h4⟩
theorem GH {x : Operand} {xs : Array Operand} {MZ : Array TypeId} {f : FuncId} {first cap args : Array Value} {vs : List Value} {Lb Lt Lr : LH} {R : FS → LH → Value → Prop} (hd : CW N d = true) (hf : ∀ args w, (callFunc f args).run P w = .ok (.enter f args) w)
    (hx : ev e x = some (.func (.func f) first cap)) (ai : xs.toList.mapM (ev e) = some vs) (aa : first ++ vs.toArray ++ cap = args) (hL : L.Perm (Lb ++ (Lt ++ Lr))) (ab : ∀ F', AQ F F' → (∀ p ∈ Lt, F' p.1 = some p.2) → Spec P f args F' Lb R)
    (ad : ∀ F1 F2 L' v, R F1 L' v → R F2 L' v)
    (k : ∀ v F' L', AQ F F' → (L'.map Prod.fst).Nodup → (∀ p ∈ L', p.1 ∈ keys Lb ∨ K.w0.heap.size ≤ p.1) → R F' L' v → Ct P N r K ops Q rest (e.put d v) F' (L' ++ (Lt ++ Lr))) :
    Ct P N r K ops Q (⟨d, .call ⟨.value x, xs, MZ⟩, ty, pos, after, none⟩ :: rest) e F L := fun M a w ha aj => by
  have hs := aj.perm hL
  have ak : (Lb ++ (Lt ++ Lr)).Perm (Lt ++ (Lb ++ Lr)) := List.perm_append_comm_assoc ..
  obtain ⟨F2, g1, g2, g3, g4⟩ := SG (hs.perm ak)
  have ah := hs.own.nodup
  rw [List.map_append, List.nodup_append] at ah
  have ae : ∀ p ∈ Lb, F2 p.1 = none := fun p hp => by
    rw [g4 p.1 (fun hm => ?_)]
    · exact hs.own.free p (List.mem_append_left _ hp)
    · refine ah.2.2 _ (List.mem_map.2 ⟨p, hp, rfl⟩) p.1 ?_ rfl
      obtain ⟨q, hq, he⟩ := List.mem_map.1 hm
      exact List.mem_map.2 ⟨q, List.mem_append_left _ hq, he⟩
  refine wpListIn_plain rfl fun Kn hK => ⟨fun _ _ => trivial, ?_⟩
  rw [Oper.semAt_eq _ _ _ (by intro c h; cases h), J0 ha hf hx ai, aa]
  refine ⟨by simp, EB ?_⟩
  refine (ab F2 g1 g2 w g3 ⟨ah.1, fun p hp => hs.own.cell p (List.mem_append_left _ hp), ae⟩).mono ?_
  rintro ee w' ⟨v, F', L', rfl, h1, h2, h3, h4, h5, h6⟩
  have al : ∀ b o, F b = some o → b < w.heap.size := fun b o hb => (Array.getElem?_eq_some_iff.1 (hs.MA b o hb)).1
  have q1 : PQ (fun b => if b < w.heap.size then F b else F' b) w' := fun b o hb => by
    dsimp only at hb
    by_cases hc : b < w.heap.size
    · rw [if_pos hc] at hb
      exact h2 b o (by rw [h3 b hc]; exact g1 b o hb)
    · rw [if_neg hc] at hb; exact h2 b o hb
  have q2 : ∀ b, b < w.heap.size → (fun b => if b < w.heap.size then F b else F' b) b = F b := fun b hb => if_pos hb
  have q3 : Ll (fun b => if b < w.heap.size then F b else F' b) L' w' := ⟨h4.nodup, h4.cell, fun p hp => by
    by_cases hc : p.1 < w.heap.size
    · rw [if_pos hc]
      have h7 := h4.free p hp
      rw [h3 p.1 hc] at h7
      cases hF : F p.1 with
      | none => rfl
      | some o => rw [g1 _ _ hF] at h7; cases h7
    · rw [if_neg hc]; exact h4.free p hp⟩
  obtain ⟨h7, h8⟩ := hs.HY h1 q1 q2 q3 h5
  exact hK _ _ (k v _ L' h8 h4.nodup (fun p hp => (h5 p hp).imp id (Nat.le_trans hs.Fw.size)) (ad _ _ _ _ h6) _ _ _ (ha.MR hd v) h7)
end
theorem DD {a b : Nat} (h : Nat.ble a b = true) : a ≤ b := Nat.le_of_ble_eq_true h
end Go.SH
