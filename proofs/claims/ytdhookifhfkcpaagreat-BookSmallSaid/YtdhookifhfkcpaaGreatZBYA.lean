/- The calculus, part YA: regions that draw their order: an operation that neither reads nor writes the heap is taken first. -/
import Derived.Test.YtdhookifhfkcpaaGreatZBShZ
namespace Go.SH
theorem Fb.pure {P : Program} {N : Nat} {e : Env} {op : Op} {ty : TypeId} {v : Value} (h : ∀ K F L, Fb P N K e F L op ty v) {M : List Nat} {a : Act} (ha : Ag N M e a) (w : World) (d : Option Nat) (pos : String) (after : Array Edge) (g : Option (Nat × Bool)) :
    (execOp a.eval ⟨d, op, ty, pos, after, g⟩).run P w = .ok (.value v) w :=
  h ⟨w, fun _ => none, [], []⟩ (fun _ => none) [] [] { a with defers := [] } w d pos after g ⟨rfl, ha.size, ha.get⟩
    ⟨Lp.refl _ _, (fun _ _ h => by cases h), (fun _ _ => rfl), ⟨List.nodup_nil, (fun _ h => nomatch h), (fun _ h => nomatch h)⟩, (fun _ h => nomatch h)⟩
section
variable {P : Program} {N : Nat} {r : Option Nat} {K : Ctx} {ops : Array Oper}
end
end Go.SH
