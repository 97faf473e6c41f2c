/- The calculus, part E: a region that draws its order, all of whose operations leave the state as it is. -/
import Derived.Test.YtepdgjpkhkijcaaGreatZSShD
namespace Go.SH
section
variable {P : Program} {ops : Array Oper} {md : Region.Mode} {C : World → Prop}
theorem NH {r : Option Nat} {o : Oper} {a : Act} {K : Act → Prop} {K' : Act → World → Prop} {Q' : Exit → Act → World → Prop} {w : World} (a6 : Op.Er o.op = false) (hw : C w) (h : ∀ a w', C w' → K a → K' a w') (hh : o.quiet P a C K) :
    o.wpIn (GQ r) 0 P a w K' Q' := by
  obtain ⟨v, h1, h2⟩ := hh
  have h3 := h1 w hw
  refine ⟨fun _ _ => trivial, ?_⟩
  rw [Oper.semAt_eq _ _ _ (Op.KK a6)]
  unfold Oper.quietAt at h3
  generalize (execOp a.eval o).run P w = x at *
  cases x with
  | ok n w' =>
    cases n <;> simp only [Oper.quietUpon] at h3 <;> simp only [Oper.uponIn]
    case value u => obtain ⟨e1, e2⟩ := h3; rw [e1, e2]; exact h _ _ hw h2
    case skip => obtain ⟨e1, e2⟩ := h3; rw [e1, ← e2]; exact h _ _ hw h2
    case enter f args =>
      obtain ⟨e1, hc⟩ := h3
      rw [e1]
      refine ⟨by simp, DP (hc.mono fun e ab ⟨he, aa⟩ => ?_)⟩
      subst he; exact h _ _ aa h2
  | halt x w' => simp only [Oper.quietUpon] at h3
def Jw (ops : Array Oper) : Bool := ops.all fun o => !Op.Er o.op
theorem Oo (h : Jw ops = true) {i : Nat} {o : Oper} (ho : ops[i]? = some o) : Op.Er o.op = false := by
  unfold Jw at h
  rw [Array.all_eq_true] at h
  obtain ⟨hi, he⟩ := Array.getElem?_eq_some_iff.1 ho
  have := h i hi
  rw [he] at this; simpa using this
theorem NQ {r : Option Nat} (a6 : Jw ops = true) {i : Nat} {a : Act} {K : Act → Prop} {K' : Act → World → Prop} {Q' : Exit → Act → World → Prop} {w : World} (hC : C w) (h : ∀ a w', C w' → K a → K' a w') (hh : qOp P ops C i K a) :
    wpOpIn (GQ r) 0 P ops Q' i K' a w := by
  unfold qOp at hh
  unfold wpOpIn
  split
  · rename_i ho; simp only [ho] at hh; exact h _ _ hC hh
  · rename_i o ho
    simp only [ho] at hh
    split
    · rename_i hw; simp only [hw, if_true] at hh; exact NH (Oo a6 ho) hC h hh
    · rename_i hw; simp only [hw] at hh; exact ⟨fun _ _ => trivial, h _ _ hC hh⟩
theorem Kv {r : Option Nat} (aa : Jw ops = true) {Q : Act → Prop} {Q' : Exit → Act → World → Prop} (hQ : ∀ a w, C w → Q a → Q' .normal a w) : ∀ (fuel : Nat) (a6 : Array Bool) (a : Act) (w : World), C w →
    wpAnyQ P md ops C Q fuel a6 a → wpAnyIn (GQ r) 0 P md ops Q' fuel a6 a w
  | 0, _, _, _, hw, h => ⟨h.1, hQ _ _ hw h.2⟩
  | fuel + 1, _, _, _, hw, h => ⟨fun h0 => hQ _ _ hw (h.1 h0), fun i hi => NQ aa hw (fun a' w' ab => Kv aa hQ fuel _ a' w' ab) (h.2 i hi)⟩
end
section
variable {P : Program} {N : Nat} {r : Option Nat} {K : Ctx} {ops : Array Oper} {rest : List Oper} {e : Env} {F : FS} {L : LH}
variable {ty : TypeId} {pos : String} {after : Array Edge} {d : Option Nat}
def Mu (P : Program) (N : Nat) (K : Ctx) (ops : Array Oper) (F : FS) (L : LH) (Q : Env → Prop) (l : List Oper) (e : Env) : Prop :=
  ∀ M a, Ag N M e a → wpQuiet P ops (St K M F L) (fun a' => ∃ e', Ag N M e' a' ∧ Q e') l a
theorem St.drew {M : List Nat} {w : World} (h : St K M F L w) : St K M F L { w with drawn := w.drawn + 1 } :=
  ⟨⟨h.EL.os, h.EL.tape, h.EL.output, h.EL.size, h.EL.block⟩, h.LL, h.fold, ⟨(Gm.own h).nodup, (Gm.own h).cell, (Gm.own h).free⟩, Gm.J5 h⟩
theorem Le {Q : GK} {id : Nat} {l : List Oper} (hm : P.follows .mixedOrders = true) (hB : Region.lexB .any l.toArray = true) (a6 : Jw l.toArray = true)
    (h : Mu P N K l.toArray F L (fun e' => Q .normal e' F L) l e) : EO P N r K (.region id l.toArray true) Q e F L := fun M a w ha hs => by
  simp only [Region.lexB, Bool.and_eq_true] at hB
  have h' := h M a ha
  refine wpIn_region_any hm ?_
  refine Kv (C := St K M F L) a6 (Q := fun a' => ∃ e', Ag N M e' a' ∧ Q .normal e' F L) (fun a' w' aa ⟨e', h1, h2⟩ => ⟨M, e', F, L, h1, aa, h2⟩) _ _ _ _ hs.drew ?_
  have := wpAnyQ_lex (C := St K M F L) (md := .any) hB.1 l 0 (Array.replicate l.toArray.size false) a (by simp) (by simpa using hB.2) h'
  simpa using this
variable {Q : Env → Prop}
theorem BV (h : Q e) : Mu P N K ops F L Q [] e := fun _ _ ha => ⟨e, ha, h⟩
theorem Rb {op : Op} {v : Value} (h : FM P N K e F L op ty v) (hd : De N d = true) (_hdef : Op.Er op = false) (k : Mu P N K ops F L Q rest (e.put d v)) : Mu P N K ops F L Q (⟨d, op, ty, pos, after, none⟩ :: rest) e := fun M a ha => by
  unfold wpQuiet
  rw [if_pos (by simp [Region.wanted])]
  refine ⟨v, fun w hw => ?_, k _ _ (ha.MG hd v)⟩
  unfold Oper.quietAt
  rw [h M a w d pos after none ha hw]
  exact ⟨rfl, rfl⟩
theorem DL {x : Operand} {xs : Array Operand} {ab : Array TypeId} {f : FuncId} {first cap args : Array Value} {vs : List Value} {v : Value} (hd : De N d = true) (hf : ∀ args w, (callFunc f args).run P w = .ok (.enter f args) w)
    (hx : ev e x = some (.func (.func f) first cap)) (ad : xs.toList.mapM (ev e) = some vs) (a6 : first ++ vs.toArray ++ cap = args) (aa : Ba P f args F v)
    (k : Mu P N K ops F L Q rest (e.put d v)) : Mu P N K ops F L Q (⟨d, .call ⟨.value x, xs, ab⟩, ty, pos, after, none⟩ :: rest) e := fun M a ha => by
  unfold wpQuiet
  rw [if_pos (by simp [Region.wanted])]
  refine ⟨v, fun w hs => ?_, k _ _ (ha.MG hd v)⟩
  unfold Oper.quietAt
  rw [J1 ha hf hx ad, a6]
  refine ⟨rfl, ?_⟩
  refine (aa w hs.LL ⟨by simp, fun p hp => by simp at hp, fun p hp => by simp at hp⟩).mono ?_
  rintro ee w' ⟨v', F', L', rfl, h1, h2, h3, h4, h5, rfl⟩
  exact ⟨rfl, hs.Ip h1⟩
theorem BP {op : Op} {j : Nat} {b : Bool} (dj : Nat) (hj : (ops[j]?).bind (·.dst) = some dj) (hb : e.get dj = some (.bool b))
    (k : Mu P N K ops F L Q (⟨d, op, ty, pos, after, none⟩ :: rest) e) : Mu P N K ops F L Q (⟨d, op, ty, pos, after, some (j, b)⟩ :: rest) e := fun M a ha => by
  have h := k M a ha
  have hw : Region.wanted ⟨d, op, ty, pos, after, some (j, b)⟩ (yielded ops a.tmps) = true := by simp [Region.wanted, yielded, hj, ha.get _ _ hb]
  unfold wpQuiet at h ⊢
  rw [if_pos hw]
  rw [if_pos (by simp [Region.wanted])] at h
  exact h
theorem AU {op : Op} {j : Nat} {b b' : Bool} (dj : Nat) (hj : (ops[j]?).bind (·.dst) = some dj) (hb : e.get dj = some (.bool b')) (a6 : (b' == b) = false)
    (hd : De N d = true) (k : Mu P N K ops F L Q rest (e.put d undef)) : Mu P N K ops F L Q (⟨d, op, ty, pos, after, some (j, b)⟩ :: rest) e := fun M a ha => by
  have hw : Region.wanted ⟨d, op, ty, pos, after, some (j, b)⟩ (yielded ops a.tmps) = false := by
    simp only [Region.wanted, yielded, hj, Option.bind_some, ha.get _ _ hb]
    cases b <;> cases b' <;> simp_all
  unfold wpQuiet
  rw [if_neg (by rw [hw]; exact Bool.false_ne_true)]
  exact k _ _ (ha.MG hd undef)
end
end Go.SH
