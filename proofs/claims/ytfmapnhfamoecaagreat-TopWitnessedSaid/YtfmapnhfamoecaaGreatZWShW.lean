/- The calculus, part W: a list that is copied onto its own end. -/
import Derived.Test.YtfmapnhfamoecaaGreatZWShV
namespace Go.SH
section
variable {α : Type} {R : IN α} {P : Program} {N : Nat} {r : Option Nat} {K : Ctx} {ops : Array Oper} {Q : Env → FS → LH → Prop} {rest : List Oper} {e : Env} {F : FS} {L Lb : LH} {C : LH → LH}
variable {ty : TypeId} {pos : String} {after : Array Edge} {d : Option Nat} {a : Option Addr} {cap : Nat} {xs zs : List α}
theorem Pw.one {T : TypeId} {v : Value} {x : Option α} (h : Pw T R F v x) : v.oneCell' = true := by
  cases x with
  | none => rw [show v = .pointer none from h]; rfl
  | some x => obtain ⟨b, c, m, rfl, _⟩ := h; rfl
end
section
variable {P : Program} {N : Nat} {K : Ctx} {e : Env} {F : FS} {L : LH} {ty : TypeId} {κ δ : Type} {ek : κ → Value} {ed : δ → Value}
end
section
variable {κ δ : Type}
end
section
variable {P : Program} {N : Nat} {K : Ctx} {fn : Func} {R : FS → LH → Value → Prop} {e : Env} {F : FS} {L : LH}
theorem To {r s q u : ResultVar} {v x y z : Value} (hr : fn.results = #[r, s, q, u]) (h1 : OG P N K e F L r v) (h2 : OG P N K e F L s x) (h5 : OG P N K e F L q y) (h7 : OG P N K e F L u z) {L2 : LH} (aa : L2.Sublist L) (h : R F L2 (.tuple #[v, x, y, z])) : NX N K P fn R .ret e F L :=
  ⟨.inl rfl, _, L2, ⟨L, .refl _, aa⟩, fun M a w ha hs => by
    have h3 := h1.run ha hs
    have h4 := h2.run ha hs
    have h6 := h5.run ha hs
    have h8 := h7.run ha hs
    rw [Lm, hr]
    simp [h3, h4, h6, h8], h⟩
end
end Go.SH
