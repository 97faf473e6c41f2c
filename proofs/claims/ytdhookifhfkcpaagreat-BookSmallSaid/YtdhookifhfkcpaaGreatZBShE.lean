/- The calculus, part E: a region that draws its order, all of whose operations leave the state as it is. -/
import Derived.Test.YtdhookifhfkcpaaGreatZBShD
namespace Go.SH
section
variable {P : Program} {ops : Array Oper} {md : Region.Mode} {C : World → Prop}
theorem Oh {r : Option Nat} {o : Oper} {a : Act} {K : Act → Prop} {K' : Act → World → Prop} {Q' : Exit → Act → World → Prop} {w : World} (aa : Op.E0 o.op = false) (hw : C w) (h : ∀ a w', C w' → K a → K' a w') (hh : o.quiet P a C K) :
    o.wpIn (GW r) 0 P a w K' Q' := by
  obtain ⟨v, h1, h2⟩ := hh
  have h3 := h1 w hw
  refine ⟨fun _ _ => trivial, ?_⟩
  rw [Oper.semAt_eq _ _ _ (Op.KR aa)]
  unfold Oper.quietAt at h3
  generalize (execOp a.eval o).run P w = x at *
  cases x with
  | ok n w' =>
    cases n <;> simp only [Oper.quietUpon] at h3 <;> simp only [Oper.uponIn]
    case value u => obtain ⟨e1, e2⟩ := h3; rw [e1, e2]; exact h _ _ hw h2
    case skip => obtain ⟨e1, e2⟩ := h3; rw [e1, ← e2]; exact h _ _ hw h2
    case enter f args =>
      obtain ⟨e1, hc⟩ := h3
      rw [e1]
      refine ⟨by simp, EB (hc.mono fun e ad ⟨he, ab⟩ => ?_)⟩
      subst he; exact h _ _ ab h2
  | halt x w' => simp only [Oper.quietUpon] at h3
def Jw (ops : Array Oper) : Bool := ops.all fun o => !Op.E0 o.op
theorem O9 (h : Jw ops = true) {i : Nat} {o : Oper} (ho : ops[i]? = some o) : Op.E0 o.op = false := by
  unfold Jw at h
  rw [Array.all_eq_true] at h
  obtain ⟨hi, he⟩ := Array.getElem?_eq_some_iff.1 ho
  have := h i hi
  rw [he] at this; simpa using this
theorem Oo {r : Option Nat} (aa : Jw ops = true) {i : Nat} {a : Act} {K : Act → Prop} {K' : Act → World → Prop} {Q' : Exit → Act → World → Prop} {w : World} (hC : C w) (h : ∀ a w', C w' → K a → K' a w') (hh : qOp P ops C i K a) :
    wpOpIn (GW r) 0 P ops Q' i K' a w := by
  unfold qOp at hh
  unfold wpOpIn
  split
  · rename_i ho; simp only [ho] at hh; exact h _ _ hC hh
  · rename_i o ho
    simp only [ho] at hh
    split
    · rename_i hw; simp only [hw, if_true] at hh; exact Oh (O9 aa ho) hC h hh
    · rename_i hw; simp only [hw] at hh; exact ⟨fun _ _ => trivial, h _ _ hC hh⟩
theorem KE {r : Option Nat} (ab : Jw ops = true) {Q : Act → Prop} {Q' : Exit → Act → World → Prop} (hQ : ∀ a w, C w → Q a → Q' .normal a w) : ∀ (fuel : Nat) (aa : Array Bool) (a : Act) (w : World), C w →
    wpAnyQ P md ops C Q fuel aa a → wpAnyIn (GW r) 0 P md ops Q' fuel aa a w
  | 0, _, _, _, hw, h => ⟨h.1, hQ _ _ hw h.2⟩
  | fuel + 1, _, _, _, hw, h => ⟨fun h0 => hQ _ _ hw (h.1 h0), fun i hi => Oo ab hw (fun a' w' ad => KE ab hQ fuel _ a' w' ad) (h.2 i hi)⟩
end
section
variable {P : Program} {N : Nat} {r : Option Nat} {K : Ctx} {ops : Array Oper} {rest : List Oper} {e : Env} {F : FS} {L : LH}
variable {ty : TypeId} {pos : String} {after : Array Edge} {d : Option Nat}
def Mi (P : Program) (N : Nat) (K : Ctx) (ops : Array Oper) (F : FS) (L : LH) (Q : Env → Prop) (l : List Oper) (e : Env) : Prop :=
  ∀ M a, Ag N M e a → wpQuiet P ops (St K M F L) (fun a' => ∃ e', Ag N M e' a' ∧ Q e') l a
theorem St.drew {M : List Nat} {w : World} (h : St K M F L w) : St K M F L { w with drawn := w.drawn + 1 } :=
  ⟨⟨h.Fw.os, h.Fw.tape, h.Fw.output, h.Fw.size, h.Fw.block⟩, h.MA, h.fold, ⟨(HQ.own h).nodup, (HQ.own h).cell, (HQ.own h).free⟩, HQ.KO h⟩
theorem Jb {Q : GI} {id : Nat} {l : List Oper} (hm : P.follows .mixedOrders = true) (hB : Region.lexB .any l.toArray = true) (aa : Jw l.toArray = true)
    (h : Mi P N K l.toArray F L (fun e' => Q .normal e' F L) l e) : Gg P N r K (.region id l.toArray true) Q e F L := fun M a w ha hs => by
  simp only [Region.lexB, Bool.and_eq_true] at hB
  have h' := h M a ha
  refine wpIn_region_any hm ?_
  refine KE (C := St K M F L) aa (Q := fun a' => ∃ e', Ag N M e' a' ∧ Q .normal e' F L) (fun a' w' ab ⟨e', h1, h2⟩ => ⟨M, e', F, L, h1, ab, h2⟩) _ _ _ _ hs.drew ?_
  have := wpAnyQ_lex (C := St K M F L) (md := .any) hB.1 l 0 (Array.replicate l.toArray.size false) a (by simp) (by simpa using hB.2) h'
  simpa using this
variable {Q : Env → Prop}
theorem B6 (h : Q e) : Mi P N K ops F L Q [] e := fun _ _ ha => ⟨e, ha, h⟩
theorem SR {op : Op} {v : Value} (h : Fb P N K e F L op ty v) (hd : CW N d = true) (_hdef : Op.E0 op = false) (k : Mi P N K ops F L Q rest (e.put d v)) : Mi P N K ops F L Q (⟨d, op, ty, pos, after, none⟩ :: rest) e := fun M a ha => by
  unfold wpQuiet
  rw [if_pos (by simp [Region.wanted])]
  refine ⟨v, fun w hw => ?_, k _ _ (ha.MR hd v)⟩
  unfold Oper.quietAt
  rw [h M a w d pos after none ha hw]
  exact ⟨rfl, rfl⟩
theorem Dy {x : Operand} {xs : Array Operand} {MZ : Array TypeId} {f : FuncId} {first cap args : Array Value} {vs : List Value} {v : Value} (hd : CW N d = true) (hf : ∀ args w, (callFunc f args).run P w = .ok (.enter f args) w)
    (hx : ev e x = some (.func (.func f) first cap)) (ad : xs.toList.mapM (ev e) = some vs) (aa : first ++ vs.toArray ++ cap = args) (ab : Bp P f args F v)
    (k : Mi P N K ops F L Q rest (e.put d v)) : Mi P N K ops F L Q (⟨d, .call ⟨.value x, xs, MZ⟩, ty, pos, after, none⟩ :: rest) e := fun M a ha => by
  unfold wpQuiet
  rw [if_pos (by simp [Region.wanted])]
  refine ⟨v, fun w hs => ?_, k _ _ (ha.MR hd v)⟩
  unfold Oper.quietAt
  rw [J0 ha hf hx ad, aa]
  refine ⟨rfl, ?_⟩
  refine (ab w hs.MA ⟨by simp, fun p hp => by simp at hp, fun p hp => by simp at hp⟩).mono ?_
  rintro ee w' ⟨v', F', L', rfl, h1, h2, h3, h4, h5, rfl⟩
  exact ⟨rfl, hs.Ig h1⟩
theorem A0 {op : Op} {j : Nat} {b : Bool} (dj : Nat) (hj : (ops[j]?).bind (·.dst) = some dj) (hb : e.get dj = some (.bool b))
    (k : Mi P N K ops F L Q (⟨d, op, ty, pos, after, none⟩ :: rest) e) : Mi P N K ops F L Q (⟨d, op, ty, pos, after, some (j, b)⟩ :: rest) e := fun M a ha => by
  have h := k M a ha
  have hw : Region.wanted ⟨d, op, ty, pos, after, some (j, b)⟩ (yielded ops a.tmps) = true := by simp [Region.wanted, yielded, hj, ha.get _ _ hb]
  unfold wpQuiet at h ⊢
  rw [if_pos hw]
  rw [if_pos (by simp [Region.wanted])] at h
  exact h
theorem AX {op : Op} {j : Nat} {b b' : Bool} (dj : Nat) (hj : (ops[j]?).bind (·.dst) = some dj) (hb : e.get dj = some (.bool b')) (aa : (b' == b) = false)
    (hd : CW N d = true) (k : Mi P N K ops F L Q rest (e.put d undef)) : Mi P N K ops F L Q (⟨d, op, ty, pos, after, some (j, b)⟩ :: rest) e := fun M a ha => by
  have hw : Region.wanted ⟨d, op, ty, pos, after, some (j, b)⟩ (yielded ops a.tmps) = false := by
    simp only [Region.wanted, yielded, hj, Option.bind_some, ha.get _ _ hb]
    cases b <;> cases b' <;> simp_all
  unfold wpQuiet
  rw [if_neg (by rw [hw]; exact Bool.false_ne_true)]
  exact k _ _ (ha.MR hd undef)
theorem He {op : Op} {j : Nat} {b : Bool} (dj : Nat) (hj : (ops[j]?).bind (·.dst) = some dj) (hb : e.get dj = some undef)
    (hd : CW N d = true) (k : Mi P N K ops F L Q rest (e.put d undef)) : Mi P N K ops F L Q (⟨d, op, ty, pos, after, some (j, b)⟩ :: rest) e := fun M a ha => by
  have hw : Region.wanted ⟨d, op, ty, pos, after, some (j, b)⟩ (yielded ops a.tmps) = false := by
    simp [Region.wanted, yielded, hj, ha.get _ _ hb, undef]
  unfold wpQuiet
  rw [if_neg (by rw [hw]; exact Bool.false_ne_true)]
  exact k _ _ (ha.MR hd undef)
end
end Go.SH
