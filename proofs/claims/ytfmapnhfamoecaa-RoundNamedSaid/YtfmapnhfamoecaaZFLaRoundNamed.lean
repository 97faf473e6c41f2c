/- The law RoundNamed of layer 3 is proved: for every input it returns true, and leaves what is passed in as it was. No conditions. -/
import Derived.Test.YtfmapnhfamoecaaRows
import Derived.Test.YtfmapnhfamoecaaZFShT
import Derived.Test.YtfmapnhfamoecaaZFNF3
import Derived.Test.YtfmapnhfamoecaaZFMG
namespace Go.Proofs.Ytfmapnhfamoecaa
open Go.SH Go.PL Go.ChangeShapes Go.RowKit Go.WideShapes Go.ChangeAt
theorem own_knob : ownKnob Try.prog.godebug = none := by kernel_rfl
theorem laid_out : laidOutB Try.prog = true := by kernel_rfl
theorem roundNamed_plain {a b : List Int} (_ : ∀ x ∈ a, (Lit.int .u8 x).wf = true) (_ : ∀ x ∈ b, (Lit.int .u8 x).wf = true) (h : (a.length : Int) ≤ 9223372036854775807) (h2 : (b.length : Int) ≤ 9223372036854775807) : oyezlaw03_RoundNamed a b = some true := Rd.named_true h h2
set_option maxRecDepth 100000 in
theorem roundNamed_lifted (os : Os) (started : os.Started) (H : Type) (enc : TypeId × Value → H) :
    ReturnsInHanded {} Try.checked os 5 .any (Rows.roundNamedSpec.pre6 enc Try.prog Try.f5 Rows.roundNamedRow.domain false) (Rows.roundNamedSpec.post enc Try.prog Try.f5 false true false false) := by
  refine returnsInHanded_of_change (C := Try.checked) own_knob started (by kernel_rfl) Try.func5
    (ChangeSpec.witness6 (enc := enc) (C := Try.checked) false ⟨#[], #[.slice none 0 0, .slice none 0 0], []⟩ 8 (by kernel_rfl) (by kernel_rfl) (by kernel_rfl) (by kernel_rfl)) ?_
  intro W base args ds gs before hval0 hW _ _
  have hval : ∀ (j : Nat) t v, Try.f5.params[j]? = some t → args[j]? = some v → Value.okWide Try.prog W .any base t v := hval0
  have hW' := hW
  obtain ⟨p, q, hA0, hV, _, _, _⟩ := hW
  have hA : DataW.TrodAll enc Try.prog W 0 (fun _ => true) true Try.f5.params.toList args.toList ds p := hA0
  rw [Try.params5] at hA hval
  obtain ⟨rfl, _⟩ := trodVars_none hV
  obtain ⟨v0, vr0, d0, dr0, pa0, pb0, ha0, hd0, hp0, h0, hr0⟩ := trodAll_cons hA
  obtain ⟨v1, vr1, d1, dr1, pa1, pb1, ha1, hd1, hp1, h1, hr1⟩ := trodAll_cons hr0
  obtain ⟨hz1, hz2, _⟩ := trodAll_nil hr1
  have hargs : args = #[v0, v1] := Array.ext' (by rw [ha0, ha1, hz1])
  subst hargs
  have hds : ds = [d0, d1] := by rw [hd0, hd1, hz2]
  subst hds; clear hA hA0 hval0
  obtain ⟨x0, ⟨a0, c0, he0, hx0⟩, o0⟩ := open_one (opens_slice Try.underlying22 (by kernel_rfl) (by decide) (iE_ok _) (opens_int Try.underlying5)) Try.underlying22 rfl (hval 0 22 v0 rfl rfl) h0
  obtain rfl := (List.cons.inj he0).1
  obtain ⟨x1, ⟨a1, c1, he1, hx1⟩, o1⟩ := open_one (opens_slice Try.underlying22 (by kernel_rfl) (by decide) (iE_ok _) (opens_int Try.underlying5)) Try.underlying22 rfl (hval 1 22 v1 rfl rfl) h1
  obtain rfl := (List.cons.inj he1).1
  exact law_post laid_out rfl (by kernel_rfl) Try.underlying4 (fun t ht => (of_decide_eq_true (by kernel_rfl) : ∀ t ∈ Try.f5.params.toList, Try.prog.readableRec t = true ∧ t < Try.prog.types.size) t ht) hW' rfl rfl rfl (oyezlaw03_RoundNamed_w hx0 hx1 (roundNamed_plain o0 o1 hx0.lt hx1.lt))
theorem roundNamed_holds : Rows.RoundNamedSaid :=
  OpenClaim.holds_of_wide (p := Try.pinned) (s := Rows.roundNamedSpec) (c := Rows.roundNamedRow) 5 Try.f5 rfl rfl rfl rfl rfl rfl rfl ⟨rfl, rfl, rfl, rfl, rfl⟩ rfl rfl rfl rfl rfl (by kernel_rfl) Try.func5 (by kernel_rfl)
    (of_decide_eq_true (by kernel_rfl)) (by unfold Func.isWrapper; first | (rw [if_pos (by decide +kernel)]; kernel_rfl) | (rw [if_neg (by decide +kernel)]; exact ⟨rfl, rfl⟩))
    (fun os started H enc _ => roundNamed_lifted os started H enc)
end Go.Proofs.Ytfmapnhfamoecaa
