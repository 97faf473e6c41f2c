/- The calculus, part B: one rule for each operation. -/
import Derived.Test.YtdhookifhfkcpaaGreatZBShA
import Derived.IntWalk
import Derived.WalkLawsBesides
namespace Go.SH
def Env.put (e : Env) : Option Nat → Value → Env
  | some d, v => (d, v) :: e
  | none, _ => e
def CW (N : Nat) : Option Nat → Bool
  | some d => Nat.ble (d + 1) N
  | none => true
theorem Ag.MR {N : Nat} {M : List Nat} {e : Env} {a : Act} (h : Ag N M e a) {d : Option Nat} (hd : CW N d = true) (v : Value) : Ag N M (e.put d v) (a.put d v) := by
  cases d with
  | none => exact h
  | some d => exact h.put hd v
def Fb (P : Program) (N : Nat) (K : Ctx) (e : Env) (F : FS) (L : LH) (op : Op) (ty : TypeId) (v : Value) : Prop :=
  ∀ (M : List Nat) (a : Act) (w : World) (d : Option Nat) (pos : String) (after : Array Edge) (g : Option (Nat × Bool)), Ag N M e a → St K M F L w → (execOp a.eval ⟨d, op, ty, pos, after, g⟩).run P w = .ok (.value v) w
def Op.E0 : Op → Bool
  | .defer _ => true
  | _ => false
theorem Op.KR {op : Op} (h : Op.E0 op = false) (c : Call) : op ≠ .defer c := by rintro rfl; simp [Op.E0] at h
section
variable {P : Program} {N : Nat} {r : Option Nat} {K : Ctx} {ops : Array Oper} {Q : Env → FS → LH → Prop} {rest : List Oper} {e : Env} {F : FS} {L : LH}
theorem Aa (h : Q e F L) : Ct P N r K ops Q [] e F L := fun _ _ _ ha hs => ⟨rfl, _, e, F, L, ha, hs, h⟩
theorem Ql {l : List Oper} (e' : Env) (he : e.sub e') (h : Ct P N r K ops Q l e' F L) : Ct P N r K ops Q l e F L :=
  fun M a w ha hs => h M a w (ha.weaken he) hs
theorem Jl {d : Option Nat} {op : Op} {ty : TypeId} {pos : String} {after : Array Edge} (hd : CW N d = true) (aa : ∀ c, op ≠ .defer c)
    (hx : ∀ M a w, Ag N M e a → St K M F L w → ∃ v F' L' w', (execOp a.eval ⟨d, op, ty, pos, after, none⟩).run P w = .ok (.value v) w' ∧ St K M F' L' w' ∧ Ct P N r K ops Q rest (e.put d v) F' L') :
    Ct P N r K ops Q (⟨d, op, ty, pos, after, none⟩ :: rest) e F L := fun M a w ha hs => by
  obtain ⟨v, F', L', w', hr, ab, k⟩ := hx M a w ha hs
  refine wpListIn_plain rfl fun Kn hK => ⟨fun _ _ => trivial, ?_⟩
  rw [Oper.semAt_eq _ _ _ aa, hr]
  exact hK _ _ (k _ _ _ (ha.MR hd v) ab)
theorem MV {op : Op} {ty : TypeId} {pos : String} {after : Array Edge} (aa : ∀ c, op ≠ .defer c)
    (hx : ∀ M a w, Ag N M e a → St K M F L w → ∃ F' L' w', (execOp a.eval ⟨none, op, ty, pos, after, none⟩).run P w = .ok .skip w' ∧ St K M F' L' w' ∧ Ct P N r K ops Q rest e F' L') :
    Ct P N r K ops Q (⟨none, op, ty, pos, after, none⟩ :: rest) e F L := fun M a w ha hs => by
  obtain ⟨F', L', w', hr, ab, k⟩ := hx M a w ha hs
  refine wpListIn_plain rfl fun Kn hK => ⟨fun _ _ => trivial, ?_⟩
  rw [Oper.semAt_eq _ _ _ aa, hr]
  exact hK _ _ (k _ _ _ ha ab)
theorem IY {d : Option Nat} {op : Op} {ty : TypeId} {pos : String} {after : Array Edge} {j : Nat} {b : Bool} (dj : Nat) (hj : (ops[j]?).bind (·.dst) = some dj) (hb : e.get dj = some (.bool b))
    (k : Ct P N r K ops Q (⟨d, op, ty, pos, after, none⟩ :: rest) e F L) : Ct P N r K ops Q (⟨d, op, ty, pos, after, some (j, b)⟩ :: rest) e F L := fun M a w ha hs => by
  have h := k M a w ha hs
  have hw : Region.wanted ⟨d, op, ty, pos, after, some (j, b)⟩ (yielded ops a.tmps) = true := by
    simp [Region.wanted, yielded, hj, ha.get _ _ hb]
  unfold wpListIn at h ⊢
  rw [if_pos hw]
  rw [if_pos (by simp [Region.wanted])] at h
  exact h
theorem AZ {d : Option Nat} {op : Op} {ty : TypeId} {pos : String} {after : Array Edge} {j : Nat} {b b' : Bool} (dj : Nat) (hj : (ops[j]?).bind (·.dst) = some dj) (hb : e.get dj = some (.bool b')) (aa : (b' == b) = false)
    (hd : CW N d = true) (k : Ct P N r K ops Q rest (e.put d undef) F L) : Ct P N r K ops Q (⟨d, op, ty, pos, after, some (j, b)⟩ :: rest) e F L := fun M a w ha hs => by
  have hw : Region.wanted ⟨d, op, ty, pos, after, some (j, b)⟩ (yielded ops a.tmps) = false := by
    simp only [Region.wanted, yielded, hj, Option.bind_some, ha.get _ _ hb]
    cases b <;> cases b' <;> simp_all
  unfold wpListIn
  rw [if_neg (by rw [hw]; exact Bool.false_ne_true)]
  exact ⟨fun _ _ => trivial, k _ _ _ (ha.MR hd undef) hs⟩
theorem Q0 {d : Option Nat} {op : Op} {ty : TypeId} {pos : String} {after : Array Edge} {j : Nat} {b : Bool} (dj : Nat) (hj : (ops[j]?).bind (·.dst) = some dj) (hb : e.get dj = some undef)
    (hd : CW N d = true) (k : Ct P N r K ops Q rest (e.put d undef) F L) : Ct P N r K ops Q (⟨d, op, ty, pos, after, some (j, b)⟩ :: rest) e F L := fun M a w ha hs => by
  have hw : Region.wanted ⟨d, op, ty, pos, after, some (j, b)⟩ (yielded ops a.tmps) = false := by
    simp [Region.wanted, yielded, hj, ha.get _ _ hb, undef]
  unfold wpListIn
  rw [if_neg (by rw [hw]; exact Bool.false_ne_true)]
  exact ⟨fun _ _ => trivial, k _ _ _ (ha.MR hd undef) hs⟩
theorem SC {d : Option Nat} {op : Op} {ty : TypeId} {pos : String} {after : Array Edge} {v : Value} (h : Fb P N K e F L op ty v) (hd : CW N d = true) (aa : Op.E0 op = false) (k : Ct P N r K ops Q rest (e.put d v) F L) :
    Ct P N r K ops Q (⟨d, op, ty, pos, after, none⟩ :: rest) e F L :=
  Jl hd (Op.KR aa) fun M a w ha hs => ⟨v, F, L, w, h M a w d pos after none ha hs, hs, k⟩
section plain
variable {ty : TypeId}
theorem A9 {x : Operand} {v : Value} (hx : ev e x = some v) : Fb P N K e F L (.move x) ty v := fun M a w d pos after g ha hs => by simp [execOp, ha.ev hx]
theorem Da {x : Operand} {v : Value} (hx : ev e x = some v) : Fb P N K e F L (.assign x) ty v := fun M a w d pos after g ha hs => by simp [execOp, ha.ev hx]
theorem AK {c x y : Operand} {v : Value} (hc : ev e c = some (.bool true)) (hx : ev e x = some v) : Fb P N K e F L (.pick c x y) ty v := fun M a w d pos after g ha hs => by simp [execOp, asBool, ha.ev hc, ha.ev hx]
theorem AE {c x y : Operand} {v : Value} (hc : ev e c = some (.bool false)) (hx : ev e y = some v) : Fb P N K e F L (.pick c x y) ty v := fun M a w d pos after g ha hs => by simp [execOp, asBool, ha.ev hc, ha.ev hx]
theorem Nh {x : Operand} {i : Nat} {vs : Array Value} {v : Value} (hx : ev e x = some (.tuple vs)) (hi : vs[i]? = some v) : Fb P N K e F L (.extract x i) ty v := fun M a w d pos after g ha hs => by simp [execOp, Instr.extract, ha.ev hx, hi]
theorem BQ {x : Operand} {p : Addr} (hx : ev e x = some (.pointer (some p))) : Fb P N K e F L (.nilCheck x) ty (.pointer (some p)) := fun M a w d pos after g ha hs => by simp [execOp, ha.ev hx]
theorem Bo {T : TypeId} {x : Operand} {b : Bool} (hx : ev e x = some (.bool b)) : Fb P N K e F L (.unOp .not T x) ty (.bool (!b)) := fun M a w d pos after g ha hs => by simp [execOp, Op.unary, ha.ev hx]
theorem CP {fn : Fn} {first cap : Array Operand} {v1 v2 : List Value} (h1 : first.toList.mapM (ev e) = some v1) (h2 : cap.toList.mapM (ev e) = some v2) : Fb P N K e F L (.makeFunc fn first cap) ty (.func fn v1.toArray v2.toArray) := by
  have key : ∀ (M : List Nat) (a : Act), Ag N M e a → ∀ (l : List Operand) (vs : List Value), l.mapM (ev e) = some vs → l.map a.eval = vs := by
    intro M a ha l
    induction l with
    | nil => intro vs h; simpa using h
    | cons x l ih =>
      intro vs h
      simp only [List.mapM_cons, Option.bind_eq_bind, Option.bind_eq_some_iff, Option.pure_def, Option.some.injEq] at h
      obtain ⟨v, hv, aa, ab, rfl⟩ := h
      simp [ha.ev hv, ih aa ab]
  intro M a w d pos after g ha hs
  have e1 : first.map a.eval = v1.toArray := Array.ext' (by rw [Array.toList_map]; exact key M a ha _ _ h1)
  have e2 : cap.map a.eval = v2.toArray := Array.ext' (by rw [Array.toList_map]; exact key M a ha _ _ h2)
  simp [execOp, Instr.makeFunc, e1, e2]
section ints
variable {T T' : TypeId} {x y : Operand} {p q : Int} (hx : ev e x = some (.int .i64 p)) (hy : ev e y = some (.int .i64 q))
include hx hy
theorem A4 (hr : -9223372036854775808 ≤ p + q ∧ p + q ≤ 9223372036854775807) : Fb P N K e F L (.binOp .add T x y T') ty (.int .i64 (p + q)) := fun M a w d pos after g ha hs => by simp [execOp, eqGuard, binOp, Op.intArith, ha.ev hx, ha.ev hy, IntWalk.i64_in _ hr]
theorem EU (hr : -9223372036854775808 ≤ p - q ∧ p - q ≤ 9223372036854775807) : Fb P N K e F L (.binOp .sub T x y T') ty (.int .i64 (p - q)) := fun M a w d pos after g ha hs => by simp [execOp, eqGuard, binOp, Op.intArith, ha.ev hx, ha.ev hy, IntWalk.i64_in _ hr]
theorem SJ (hr : -9223372036854775808 ≤ p * q ∧ p * q ≤ 9223372036854775807) : Fb P N K e F L (.binOp .mul T x y T') ty (.int .i64 (p * q)) := fun M a w d pos after g ha hs => by simp [execOp, eqGuard, binOp, Op.intArith, ha.ev hx, ha.ev hy, IntWalk.i64_in _ hr]
end ints
section anyInts
variable {T T' : TypeId} {x y : Operand} {p q : Int} {kd : IntKind} (hx : ev e x = some (.int kd p)) (hy : ev e y = some (.int kd q))
include hx hy
theorem Bx : Fb P N K e F L (.binOp .eql T x y T') ty (.bool (decide (p = q))) := fun M a w d pos after g ha hs => by simp [execOp, eqGuard, binOp, Op.intCmp, ha.ev hx, ha.ev hy]; rfl
theorem BU : Fb P N K e F L (.binOp .neq T x y T') ty (.bool (decide (p ≠ q))) := fun M a w d pos after g ha hs => by simp [execOp, eqGuard, binOp, Op.intCmp, ha.ev hx, ha.ev hy]; rfl
end anyInts
theorem AJ {T E : TypeId} {x : Operand} {a0 : Option Addr} {n c : Nat} (hT : P.underlying T = some (.slice E)) (hx : ev e x = some (.slice a0 n c)) : Fb P N K e F L (.call ⟨.builtin .len, #[x], #[T]⟩) ty (.int .i64 n) := fun M a w d pos after g ha hs => by simp [execOp, resolve, invoke, builtin, Builtin.len_, run_underlying hT, ha.ev hx, goInt]
end plain
end
end Go.SH
