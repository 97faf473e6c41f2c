/- The calculus, part M: plain functions in step with code: numbers, joins, loops, function values, lists with their lengths. -/
import Derived.Test.YtepdgjpkhkijcaaGreatZSShL
namespace Go.SH
open Go.PL
section
variable {P : Program} {N : Nat} {K : Ctx} {e : Env} {F : FS} {L : LH} {ty T T' S : TypeId} {x y : Operand} {p q : Int} {kd : IntKind}
theorem Nt (r : BitVec 64) : IntKind.i64.wrap (r.toNat : Int) = r.toInt := by
  rw [IntKind.wrap_i64, BitVec.toInt_eq_toNat_cond]
  have := r.isLt
  split <;> omega
theorem KA (hx : ev e x = some (.int .i64 p)) (hy : ev e y = some (.int .i64 q)) : FM P N K e F L (.binOp .and T x y T') ty (.int .i64 (Ji p q)) := fun M a w d pos after g ha hs => by
  have h : (Op.intBits .and .i64 p q).run P w = .ok (.int .i64 (Ji p q)) w := by
    show Result.ok (Value.int .i64 (IntKind.i64.wrap ((BitVec.ofInt 64 p &&& BitVec.ofInt 64 q).toNat : Int))) w = _
    rw [Nt]; rfl
  simp [execOp, eqGuard, binOp, ha.ev hx, ha.ev hy, h]
theorem QC (hx : ev e x = some (.int .i64 p)) (hy : ev e y = some (.int .i64 q)) : FM P N K e F L (.binOp .or T x y T') ty (.int .i64 (O4 p q)) := fun M a w d pos after g ha hs => by
  have h : (Op.intBits .or .i64 p q).run P w = .ok (.int .i64 (O4 p q)) w := by
    show Result.ok (Value.int .i64 (IntKind.i64.wrap ((BitVec.ofInt 64 p ||| BitVec.ofInt 64 q).toNat : Int))) w = _
    rw [Nt]; rfl
  simp [execOp, eqGuard, binOp, ha.ev hx, ha.ev hy, h]
theorem Nu (hx : ev e x = some (.int .i64 p)) (hy : ev e y = some (.int .i64 q)) : FM P N K e F L (.binOp .andNot T x y T') ty (.int .i64 (OS p q)) := fun M a w d pos after g ha hs => by
  have h : (Op.intBits .andNot .i64 p q).run P w = .ok (.int .i64 (OS p q)) w := by
    show Result.ok (Value.int .i64 (IntKind.i64.wrap ((BitVec.ofInt 64 p &&& ~~~ BitVec.ofInt 64 q).toNat : Int))) w = _
    rw [Nt]; rfl
  simp [execOp, eqGuard, binOp, ha.ev hx, ha.ev hy, h]
theorem OM {kq : IntKind} (hx : ev e x = some (.int .i64 p)) (hy : ev e y = some (.int kq q)) (h : (0 ≤ q ∧ q < 64) ∧ Cl (shl p q)) : FM P N K e F L (.binOp .shl T x y T') ty (.int .i64 (shl p q)) := fun M a w d pos after g ha hs => by
  have h1 : ¬ q < 0 := by omega
  have h2 : min q.toNat 64 = q.toNat := by omega
  have h3 : IntKind.i64.wrap (p * 2 ^ q.toNat) = p * 2 ^ q.toNat := IntWalk.i64_in _ h.2
  simp [execOp, eqGuard, binOp, ha.ev hx, ha.ev hy, shl, h3]
theorem K0 {kq : IntKind} (hx : ev e x = some (.int kd p)) (hy : ev e y = some (.int kq q)) (h : 0 ≤ q ∧ q < kd.bits) : FM P N K e F L (.binOp .shr T x y T') ty (.int kd (shr p q)) := fun M a w d pos after g ha hs => by
  have h1 : ¬ q < 0 := by omega
  have h2 : min q.toNat kd.bits = q.toNat := by omega
  have h3 : p.fdiv (2 ^ q.toNat) = p / 2 ^ q.toNat := Int.fdiv_eq_ediv_of_nonneg _ (Int.le_of_lt (Int.pow_pos (by decide)))
  simp [execOp, eqGuard, binOp, Op.shift, ha.ev hx, ha.ev hy, shr, h1, h2, h3]
theorem N3 (hx : ev e x = some (.int .i64 p)) (hy : ev e y = some (.int .i64 q)) (h : q ≠ 0 ∧ Cl (p.tdiv q)) : FM P N K e F L (.binOp .quo T x y T') ty (.int .i64 (p.tdiv q)) := fun M a w d pos after g ha hs => by
  simp [execOp, eqGuard, binOp, Op.intDiv, ha.ev hx, ha.ev hy, h.1, IntWalk.i64_in _ h.2]
theorem Fp (hx : ev e x = some (.int kd p)) (hy : ev e y = some (.int kd q)) (h : q ≠ 0) : FM P N K e F L (.binOp .rem T x y T') ty (.int kd (p.tmod q)) := fun M a w d pos after g ha hs => by
  simp [execOp, eqGuard, binOp, Op.intDiv, ha.ev hx, ha.ev hy, h]
section unsigned
variable (hk : kd.signed = false) (hx : ev e x = some (.int kd p)) (hy : ev e y = some (.int kd q))
include hk hx hy
end unsigned
theorem FM.eq {op : Op} {v v' : Value} (h : FM P N K e F L op ty v) (he : v' = v) : FM P N K e F L op ty v' := he ▸ h
theorem FM.i {op : Op} (h : FM P N K e F L op ty (.int kd p)) (he : q = p) : FM P N K e F L op ty (.int kd q) := he ▸ h
end
section
variable {P : Program} {N : Nat} {r : Option Nat} {K : Ctx} {Q : GK} {e : Env} {F : FS} {L : LH}
def meet (Ku : Env → FS → LH → Prop) : Env → FS → LH → Prop := fun e F L => ∃ L2 L3, L.Perm L3 ∧ L2.Sublist L3 ∧ Ku e F L2
theorem AK {x y : Code} (Ku : Env → FS → LH → Prop) (h : EO P N r K x (andThen (meet Ku) Q) e F L) (k : ∀ e F L, Ku e F L → EO P N r K y Q e F L) : EO P N r K (.seq x y) Q e F L :=
  MU (meet Ku) h fun e F _L ⟨_, _, hp, hs, hm⟩ M a w ha a6 => k e F _ hm M a w ha ((a6.perm hp).drop hs)
end
end Go.SH
