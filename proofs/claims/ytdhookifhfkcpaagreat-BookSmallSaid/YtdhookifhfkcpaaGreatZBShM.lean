/- The calculus, part M: plain functions in step with code: numbers, joins, loops, function values, lists with their lengths. -/
import Derived.Test.YtdhookifhfkcpaaGreatZBShL
namespace Go.SH
open Go.PL
section
variable {P : Program} {N : Nat} {K : Ctx} {e : Env} {F : FS} {L : LH} {ty T T' S : TypeId} {x y : Operand} {p q : Int} {kd : IntKind}
theorem NR (k : IntKind) (hk : k.signed = false) (n : Int) : k.wrap n = n % (2 ^ k.bits : Int) := by
  simp [IntKind.wrap, hk]
theorem RA (k : IntKind) (hk : k.signed = false) (r : BitVec k.bits) : k.wrap (r.toNat : Int) = r.toNat := by
  rw [NR k hk]
  have h := r.isLt
  have h2 : ((2 ^ k.bits : Nat) : Int) = (2 ^ k.bits : Int) := by simp
  rw [← h2]
  exact Int.emod_eq_of_lt (by omega) (by omega)
theorem RO {kq : IntKind} (hx : ev e x = some (.int .i64 p)) (hy : ev e y = some (.int kq q)) (h : (0 ≤ q ∧ q < 64) ∧ Cn (shl p q)) : Fb P N K e F L (.binOp .shl T x y T') ty (.int .i64 (shl p q)) := fun M a w d pos after g ha hs => by
  have h1 : ¬ q < 0 := by omega
  have h2 : min q.toNat 64 = q.toNat := by omega
  have h3 : IntKind.i64.wrap (p * 2 ^ q.toNat) = p * 2 ^ q.toNat := IntWalk.i64_in _ h.2
  simp [execOp, eqGuard, binOp, ha.ev hx, ha.ev hy, shl, h3]
theorem Pv {kq : IntKind} (hx : ev e x = some (.int kd p)) (hy : ev e y = some (.int kq q)) (h : 0 ≤ q ∧ q < kd.bits) : Fb P N K e F L (.binOp .shr T x y T') ty (.int kd (shr p q)) := fun M a w d pos after g ha hs => by
  have h1 : ¬ q < 0 := by omega
  have h2 : min q.toNat kd.bits = q.toNat := by omega
  have h3 : p.fdiv (2 ^ q.toNat) = p / 2 ^ q.toNat := Int.fdiv_eq_ediv_of_nonneg _ (Int.le_of_lt (Int.pow_pos (by decide)))
  simp [execOp, eqGuard, binOp, Op.shift, ha.ev hx, ha.ev hy, shr, h1, h2, h3]
theorem Mf (hx : ev e x = some (.int .i64 p)) (hy : ev e y = some (.int .i64 q)) (h : q ≠ 0 ∧ Cn (p.tdiv q)) : Fb P N K e F L (.binOp .quo T x y T') ty (.int .i64 (p.tdiv q)) := fun M a w d pos after g ha hs => by
  simp [execOp, eqGuard, binOp, Op.intDiv, ha.ev hx, ha.ev hy, h.1, IntWalk.i64_in _ h.2]
theorem Dh (hx : ev e x = some (.int kd p)) (hy : ev e y = some (.int kd q)) (h : q ≠ 0) : Fb P N K e F L (.binOp .rem T x y T') ty (.int kd (p.tmod q)) := fun M a w d pos after g ha hs => by
  simp [execOp, eqGuard, binOp, Op.intDiv, ha.ev hx, ha.ev hy, h]
section unsigned
variable (hk : kd.signed = false) (hx : ev e x = some (.int kd p)) (hy : ev e y = some (.int kd q))
include hk hx hy
theorem Qi : Fb P N K e F L (.binOp .add T x y T') ty (.int kd ((p + q) % (2 ^ kd.bits : Int))) := fun M a w d pos after g ha hs => by simp [execOp, eqGuard, binOp, Op.intArith, ha.ev hx, ha.ev hy, NR _ hk]
theorem Pk : Fb P N K e F L (.binOp .mul T x y T') ty (.int kd ((p * q) % (2 ^ kd.bits : Int))) := fun M a w d pos after g ha hs => by simp [execOp, eqGuard, binOp, Op.intArith, ha.ev hx, ha.ev hy, NR _ hk]
theorem Q3 : Fb P N K e F L (.binOp .and T x y T') ty (.int kd (N9 kd.bits p q)) := fun M a w d pos after g ha hs => by
  have h : (Op.intBits .and kd p q).run P w = .ok (.int kd (N9 kd.bits p q)) w := by
    show Result.ok (Value.int kd (kd.wrap ((BitVec.ofInt kd.bits p &&& BitVec.ofInt kd.bits q).toNat : Int))) w = _
    rw [RA kd hk]; rfl
  simp [execOp, eqGuard, binOp, ha.ev hx, ha.ev hy, h]
end unsigned
theorem Rd {ds : TypeDesc} {k k2 : IntKind} (hk : k2.signed = false) (hS : P.underlying S = some ds) (hT : P.underlying T = some (.int k2)) (hx : ev e x = some (.int k p)) : Fb P N K e F L (.convert S T x) ty (.int k2 (p % (2 ^ k2.bits : Int))) := fun M a w d pos after g ha hs => by
  simp [execOp, convert, run_underlying hS, run_underlying hT, ha.ev hx, Conv.intToInt, NR _ hk]
theorem Sm {ds : TypeDesc} {k : IntKind} (hS : P.underlying S = some ds) (hT : P.underlying T = some (.int .i64)) (hx : ev e x = some (.int k p)) (h : Cn p) : Fb P N K e F L (.convert S T x) ty (.int .i64 p) := RB hS hT hx (IntWalk.i64_in _ h)
theorem Fb.eq {op : Op} {v v' : Value} (h : Fb P N K e F L op ty v) (he : v' = v) : Fb P N K e F L op ty v' := he ▸ h
theorem Fb.i {op : Op} (h : Fb P N K e F L op ty (.int kd p)) (he : q = p) : Fb P N K e F L op ty (.int kd q) := he ▸ h
end
section
variable {P : Program} {N : Nat} {r : Option Nat} {K : Ctx} {Q : GI} {e : Env} {F : FS} {L : LH}
def meet (KA : Env → FS → LH → Prop) : Env → FS → LH → Prop := fun e F L => ∃ L2 L3, L.Perm L3 ∧ L2.Sublist L3 ∧ KA e F L2
theorem AO {x y : Code} (KA : Env → FS → LH → Prop) (h : Gg P N r K x (andThen (meet KA) Q) e F L) (k : ∀ e F L, KA e F L → Gg P N r K y Q e F L) : Gg P N r K (.seq x y) Q e F L :=
  Ns (meet KA) h fun e F _L ⟨_, _, hp, hs, hm⟩ M a w ha aa => k e F _ hm M a w ha ((aa.perm hp).drop hs)
end
end Go.SH
