/- The calculus, part Z: regions that draw their order, walked in all orders. -/
import Derived.Test.YtdhookifhfkcpaaGreatZBShY
namespace Go.SH
section
variable {P : Program} {N : Nat} {r : Option Nat} {K : Ctx} {ops : Array Oper}
end
section
variable {P : Program} {N : Nat} {r d : Option Nat} {K : Ctx} {ops : Array Oper} {Q : Env → FS → LH → Prop} {rest : List Oper} {e : Env} {F : FS} {L : LH} {ty : TypeId} {pos : String} {after : Array Edge}
theorem RX {T : TypeId} {x y : Operand} {z : Obj} {val : Nat → Value} (hd : CW N d = true) (hm : Q9 P N ⟨d, .makeSlice T x y, ty, pos, after, none⟩ e z val)
    (k : ∀ b, K.w0.heap.size ≤ b → Ct P N r K ops Q rest (e.put d (val b)) F ((b, z) :: L)) : Ct P N r K ops Q (⟨d, .makeSlice T x y, ty, pos, after, none⟩ :: rest) e F L :=
  Jl hd (by intros; simp) fun M a w ha hs => by
    obtain ⟨h1, h2⟩ := hs.push z
    exact ⟨_, _, _, _, hm M a w ha, h1, k _ h2⟩
end
end Go.SH
