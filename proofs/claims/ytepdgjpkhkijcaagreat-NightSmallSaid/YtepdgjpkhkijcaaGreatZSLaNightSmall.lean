/- The law NightSmall of layer 5 is proved: for every input it returns true, and leaves what is passed in as it was. No conditions. -/
import Derived.Test.YtepdgjpkhkijcaaGreatRows
import Derived.Test.YtepdgjpkhkijcaaGreatZSShT
import Derived.Test.YtepdgjpkhkijcaaGreatZSNS5
import Derived.Test.YtepdgjpkhkijcaaGreatZSVD
namespace Go.Proofs.YtepdgjpkhkijcaaGreat
open Go.SH Go.PL Go.ChangeShapes Go.RowKit Go.WideShapes Go.ChangeAt
theorem Qu : ownKnob Tryz.prog.godebug = none := by kernel_rfl
theorem Qt : laidOutB Tryz.prog = true := by kernel_rfl
theorem ME : EZ = some true := Ns.Pf
set_option maxRecDepth 100000 in
theorem Mk (os : Os) (started : os.Started) (H : Type) (enc : TypeId × Value → H) :
    ReturnsInHanded {} Tryz.checked os 3 .any (Rows.nightSmallSpec.pre6 enc Tryz.prog Tryz.f3 Rows.nightSmallRow.domain false) (Rows.nightSmallSpec.post enc Tryz.prog Tryz.f3 false true false false) := by
  refine returnsInHanded_of_change (C := Tryz.checked) Qu started (by kernel_rfl) Tryz.func3
    (ChangeSpec.witness6 (enc := enc) (C := Tryz.checked) false ⟨#[], #[], []⟩ 8 (by kernel_rfl) (by kernel_rfl) (by kernel_rfl) (by kernel_rfl)) ?_
  intro W base args ds gs before a6 hW _ _
  have ab : ∀ (j : Nat) t v, Tryz.f3.params[j]? = some t → args[j]? = some v → Value.okWide Tryz.prog W .any base t v := a6
  have ae := hW
  obtain ⟨p, q, ad, hV, _, _, _⟩ := hW
  have hA : DataW.TrodAll enc Tryz.prog W 0 (fun _ => true) true Tryz.f3.params.toList args.toList ds p := ad
  rw [Tryz.params3] at hA ab
  obtain ⟨rfl, _⟩ := trodVars_none hV
  obtain ⟨ah, ai, _⟩ := trodAll_nil hA
  have aa : args = #[] := Array.ext' (by rw [ah])
  subst aa
  have aj : ds = [] := by rw [ai]
  subst aj; clear hA ad a6
  exact P6 Qt rfl (by kernel_rfl) Tryz.underlying4 (fun t ht => (of_decide_eq_true (by kernel_rfl) : ∀ t ∈ Tryz.f3.params.toList, Tryz.prog.readableRec t = true ∧ t < Tryz.prog.types.size) t ht) ae rfl rfl rfl (KQ  (ME ))
theorem nightSmall_holds : Rows.NightSmallSaid :=
  OpenClaim.holds_of_wide (p := Tryz.pinned) (s := Rows.nightSmallSpec) (c := Rows.nightSmallRow) 3 Tryz.f3 rfl rfl rfl rfl rfl rfl rfl ⟨rfl, rfl, rfl, rfl, rfl⟩ rfl rfl rfl rfl rfl (by kernel_rfl) Tryz.func3 (by kernel_rfl)
    (of_decide_eq_true (by kernel_rfl)) (by unfold Func.isWrapper; first | (rw [if_pos (by decide +kernel)]; kernel_rfl) | (rw [if_neg (by decide +kernel)]; exact ⟨rfl, rfl⟩))
    (fun os started H enc _ => Mk os started H enc)
end Go.Proofs.YtepdgjpkhkijcaaGreat
