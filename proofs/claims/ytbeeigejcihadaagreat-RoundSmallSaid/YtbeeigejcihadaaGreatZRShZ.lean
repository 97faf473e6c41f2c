/- The calculus, part Z: regions that draw their order, walked in all orders. -/
import Derived.Test.YtbeeigejcihadaaGreatZRShY
namespace Go.SH
section
variable {P : Program} {N : Nat} {r : Option Nat} {K : Ctx} {ops : Array Oper}
end
section
variable {P : Program} {N : Nat} {r d : Option Nat} {K : Ctx} {ops : Array Oper} {Q : Env → FS → LH → Prop} {rest : List Oper} {e : Env} {F : FS} {L : LH} {ty : TypeId} {pos : String} {after : Array Edge}
theorem R6 {T : TypeId} {x y : Operand} {z : Obj} {val : Nat → Value} (hd : DA N d = true) (hm : Ql P N ⟨d, .makeSlice T x y, ty, pos, after, none⟩ e z val)
    (k : ∀ b, K.w0.heap.size ≤ b → Cu P N r K ops Q rest (e.put d (val b)) F ((b, z) :: L)) : Cu P N r K ops Q (⟨d, .makeSlice T x y, ty, pos, after, none⟩ :: rest) e F L :=
  Jf hd (by intros; simp) fun M a w ha hs => by
    obtain ⟨h1, h2⟩ := hs.push z
    exact ⟨_, _, _, _, hm M a w ha, h1, k _ h2⟩
end
end Go.SH
