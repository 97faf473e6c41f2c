/- The law RoundQuartered of layer 3 is proved: for every input it returns true, and leaves what is passed in as it was. No conditions. -/
import Derived.Test.YtfmapnhfamoecabGreatRows
import Derived.Test.YtfmapnhfamoecabGreatZQShT
import Derived.Test.YtfmapnhfamoecabGreatZQNQ3
import Derived.Test.YtfmapnhfamoecabGreatZQMF
namespace Go.Proofs.YtfmapnhfamoecabGreat
open Go.SH Go.PL Go.ChangeShapes Go.RowKit Go.WideShapes Go.ChangeAt
theorem Vj : ownKnob Tryz.prog.godebug = none := by kernel_rfl
theorem VZ : laidOutB Tryz.prog = true := by kernel_rfl
theorem Lv {a b : List Int} (_ : ∀ x ∈ a, (Lit.int .u8 x).wf = true) (_ : ∀ x ∈ b, (Lit.int .u8 x).wf = true) (h : (a.length : Int) ≤ 9223372036854775807) (h2 : (b.length : Int) ≤ 9223372036854775807) : DA a b = some true := Rd.Ph h h2
set_option maxRecDepth 100000 in
theorem KS (os : Os) (started : os.Started) (H : Type) (enc : TypeId × Value → H) :
    ReturnsInHanded {} Tryz.checked os 3 .any (Rows.roundQuarteredSpec.pre6 enc Tryz.prog Tryz.f3 Rows.roundQuarteredRow.domain false) (Rows.roundQuarteredSpec.post enc Tryz.prog Tryz.f3 false true false false) := by
  refine returnsInHanded_of_change (C := Tryz.checked) Vj started (by kernel_rfl) Tryz.func3
    (ChangeSpec.witness6 (enc := enc) (C := Tryz.checked) false ⟨#[], #[.slice none 0 0, .slice none 0 0], []⟩ 8 (by kernel_rfl) (by kernel_rfl) (by kernel_rfl) (by kernel_rfl)) ?_
  intro W base args ds gs before aa hW _ _
  have ab : ∀ (j : Nat) t v, Tryz.f3.params[j]? = some t → args[j]? = some v → Value.okWide Tryz.prog W .any base t v := aa
  have ai := hW
  obtain ⟨p, q, ae, hV, _, _, _⟩ := hW
  have hA : DataW.TrodAll enc Tryz.prog W 0 (fun _ => true) true Tryz.f3.params.toList args.toList ds p := ae
  rw [Tryz.params3] at hA ab
  obtain ⟨rfl, _⟩ := trodVars_none hV
  obtain ⟨v0, az, d0, ba, bb, bc, aj, ak, bg, h0, al⟩ := trodAll_cons hA
  obtain ⟨v1, bh, d1, bj, bk, bl, ao, aq, bm, h1, ar⟩ := trodAll_cons al
  obtain ⟨au, av, _⟩ := trodAll_nil ar
  have ad : args = #[v0, v1] := Array.ext' (by rw [aj, ao, au])
  subst ad
  have aw : ds = [d0, d1] := by rw [ak, aq, av]
  subst aw; clear hA ae aa
  obtain ⟨x0, ⟨a0, c0, ax, af⟩, o0⟩ := R4 (NO Tryz.underlying22 (by kernel_rfl) (by decide) (Ab _) (Qa Tryz.underlying5)) Tryz.underlying22 rfl (ab 0 22 v0 rfl rfl) h0
  obtain rfl := (List.cons.inj ax).1
  obtain ⟨x1, ⟨a1, c1, ay, ah⟩, o1⟩ := R4 (NO Tryz.underlying22 (by kernel_rfl) (by decide) (Ab _) (Qa Tryz.underlying5)) Tryz.underlying22 rfl (ab 1 22 v1 rfl rfl) h1
  obtain rfl := (List.cons.inj ay).1
  exact VL VZ rfl (by kernel_rfl) Tryz.underlying4 (fun t ht => (of_decide_eq_true (by kernel_rfl) : ∀ t ∈ Tryz.f3.params.toList, Tryz.prog.readableRec t = true ∧ t < Tryz.prog.types.size) t ht) ai rfl rfl rfl (Jl af ah (Lv o0 o1 af.lt ah.lt))
theorem roundQuartered_holds : Rows.RoundQuarteredSaid :=
  OpenClaim.holds_of_wide (p := Tryz.pinned) (s := Rows.roundQuarteredSpec) (c := Rows.roundQuarteredRow) 3 Tryz.f3 rfl rfl rfl rfl rfl rfl rfl ⟨rfl, rfl, rfl, rfl, rfl⟩ rfl rfl rfl rfl rfl (by kernel_rfl) Tryz.func3 (by kernel_rfl)
    (of_decide_eq_true (by kernel_rfl)) (by unfold Func.isWrapper; first | (rw [if_pos (by decide +kernel)]; kernel_rfl) | (rw [if_neg (by decide +kernel)]; exact ⟨rfl, rfl⟩))
    (fun os started H enc _ => KS os started H enc)
end Go.Proofs.YtfmapnhfamoecabGreat
