/- The calculus, part W: a list that is copied onto its own end. -/
import Derived.Test.YtfmapnhfamoecaaGreatZRShV
namespace Go.SH
section
variable {α : Type} {R : IP α} {P : Program} {N : Nat} {r : Option Nat} {K : Ctx} {ops : Array Oper} {Q : Env → FS → LH → Prop} {rest : List Oper} {e : Env} {F : FS} {L Lb : LH} {C : LH → LH}
variable {ty : TypeId} {pos : String} {after : Array Edge} {d : Option Nat} {a : Option Addr} {cap : Nat} {xs zs : List α}
theorem Rj.one {T : TypeId} {v : Value} {x : Option α} (h : Rj T R F v x) : v.oneCell' = true := by
  cases x with
  | none => rw [show v = .pointer none from h]; rfl
  | some x => obtain ⟨b, c, m, rfl, _⟩ := h; rfl
end
section
variable {P : Program} {N : Nat} {K : Ctx} {e : Env} {F : FS} {L : LH} {ty : TypeId} {κ δ : Type} {ek : κ → Value} {ed : δ → Value}
theorem ZN {T TK TE : TypeId} {x : Operand} {b : Nat} {es : Array MapEntry} {m : List (κ × δ)} (hT : P.underlying T = some (.map TK TE)) (hx : ev e x = some (.map (some b))) (hm : KW F L b es) (hR : Er ek ed es m) : Fw P N K e F L (.call ⟨.builtin .len, #[x], #[T]⟩) ty (.int .i64 (m.length : Int)) := fun M a w d pos after g ha hs => by
  obtain ⟨cl, hh⟩ := hm.heap hs
  have hl : es.size = m.length := by have := congrArg List.length hR.1; simpa using this
  simp [execOp, resolve, invoke, builtin, Builtin.len_, run_underlying hT, ha.ev hx, goInt, H6 hh, hl]
end
end Go.SH
