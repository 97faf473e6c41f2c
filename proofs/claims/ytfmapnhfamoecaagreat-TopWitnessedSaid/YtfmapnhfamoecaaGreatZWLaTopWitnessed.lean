/- The law TopWitnessed is proved: for every input it returns true, and leaves what is passed in as it was. No conditions. -/
import Derived.Test.YtfmapnhfamoecaaGreatRows
import Derived.Test.YtfmapnhfamoecaaGreatZWShT
import Derived.Test.YtfmapnhfamoecaaGreatZWNW4
import Derived.Test.YtfmapnhfamoecaaGreatZWMC
namespace Go.Proofs.YtfmapnhfamoecaaGreat
open Go.SH Go.PL Go.ChangeShapes Go.RowKit Go.WideShapes Go.ChangeAt
theorem U9 : ownKnob Tryz.prog.godebug = none := by kernel_rfl
theorem Vr : laidOutB Tryz.prog = true := by kernel_rfl
theorem XJ {w : Int} (h : (Lit.int .u8 w).wf = true) : 0 ≤ w ∧ w ≤ 255 := by
  unfold Lit.wf at h
  rw [Bool.and_eq_true] at h
  exact ⟨of_decide_eq_true h.1, of_decide_eq_true h.2⟩
theorem NJ {a : List Int} {w : Int} (_ : ∀ x ∈ a, (Lit.int .u8 x).wf = true) (hw : (Lit.int .u8 w).wf = true) (h : (a.length : Int) ≤ 9223372036854775807) : Eu a w = some true := Nt.Qz h (by have := XJ hw; omega)
set_option maxRecDepth 100000 in
theorem MU (os : Os) (started : os.Started) (H : Type) (enc : TypeId × Value → H) :
    ReturnsInHanded {} Tryz.checked os 4 .any (Rows.topWitnessedSpec.pre6 enc Tryz.prog Tryz.f4 Rows.topWitnessedRow.domain false) (Rows.topWitnessedSpec.post enc Tryz.prog Tryz.f4 false true false false) := by
  refine returnsInHanded_of_change (C := Tryz.checked) U9 started (by kernel_rfl) Tryz.func4
    (ChangeSpec.witness6 (enc := enc) (C := Tryz.checked) false ⟨#[], #[.slice none 0 0, .int .u8 0], []⟩ 8 (by kernel_rfl) (by kernel_rfl) (by kernel_rfl) (by kernel_rfl)) ?_
  intro W base args ds gs before aa hW _ _
  have ab : ∀ (j : Nat) t v, Tryz.f4.params[j]? = some t → args[j]? = some v → Value.okWide Tryz.prog W .any base t v := aa
  have ah := hW
  obtain ⟨p, q, ae, hV, _, _, _⟩ := hW
  have hA : DataW.TrodAll enc Tryz.prog W 0 (fun _ => true) true Tryz.f4.params.toList args.toList ds p := ae
  rw [Tryz.params4] at hA ab
  obtain ⟨rfl, _⟩ := trodVars_none hV
  obtain ⟨v0, ay, d0, az, ba, bb, ai, aj, bc, h0, ak⟩ := trodAll_cons hA
  obtain ⟨v1, bd, d1, bg, bj, bk, al, ao, bl, h1, aq⟩ := trodAll_cons ak
  obtain ⟨ar, au, _⟩ := trodAll_nil aq
  have ad : args = #[v0, v1] := Array.ext' (by rw [ai, al, ar])
  subst ad
  have av : ds = [d0, d1] := by rw [aj, ao, au]
  subst av; clear hA ae aa
  obtain ⟨x0, ⟨a0, c0, aw, af⟩, o0⟩ := S6 (Sz Tryz.underlying22 (by kernel_rfl) (by decide) (Ac _) (Rd Tryz.underlying5)) Tryz.underlying22 rfl (ab 0 22 v0 rfl rfl) h0
  obtain rfl := (List.cons.inj aw).1
  obtain ⟨x1, ax, o1⟩ := S6 (Rd Tryz.underlying5) Tryz.underlying5 rfl (ab 1 5 v1 rfl rfl) h1
  obtain rfl := (List.cons.inj ax).1
  exact Vw Vr rfl (by kernel_rfl) Tryz.underlying4 (fun t ht => (of_decide_eq_true (by kernel_rfl) : ∀ t ∈ Tryz.f4.params.toList, Tryz.prog.readableRec t = true ∧ t < Tryz.prog.types.size) t ht) ah rfl rfl rfl (LI af (NJ o0 o1 af.lt))
theorem topWitnessed_holds : Rows.TopWitnessedSaid :=
  OpenClaim.holds_of_wide (p := Tryz.pinned) (s := Rows.topWitnessedSpec) (c := Rows.topWitnessedRow) 4 Tryz.f4 rfl rfl rfl rfl rfl rfl rfl ⟨rfl, rfl, rfl, rfl, rfl⟩ rfl rfl rfl rfl rfl (by kernel_rfl) Tryz.func4 (by kernel_rfl)
    (of_decide_eq_true (by kernel_rfl)) (by unfold Func.isWrapper; first | (rw [if_pos (by decide +kernel)]; kernel_rfl) | (rw [if_neg (by decide +kernel)]; exact ⟨rfl, rfl⟩))
    (fun os started H enc _ => MU os started H enc)
end Go.Proofs.YtfmapnhfamoecaaGreat
