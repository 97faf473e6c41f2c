/- The law HearSmall of layer 1 is proved: for every input it returns true, and leaves what is passed in as it was. No conditions. -/
import Derived.Test.YtkfbbjiniapooaaGreatRows
import Derived.Test.YtkfbbjiniapooaaGreatZSShT
import Derived.Test.YtkfbbjiniapooaaGreatZSNS4
import Derived.Test.YtkfbbjiniapooaaGreatZSXG
namespace Go.Proofs.YtkfbbjiniapooaaGreat
open Go.SH Go.PL Go.ChangeShapes Go.RowKit Go.WideShapes Go.ChangeAt
theorem UM : ownKnob Tryz.prog.godebug = none := by kernel_rfl
theorem UQ : laidOutB Tryz.prog = true := by kernel_rfl
theorem Ok : Gj = some true := Sm.Sr
set_option maxRecDepth 100000 in
theorem NJ (os : Os) (started : os.Started) (H : Type) (enc : TypeId × Value → H) :
    ReturnsInHanded {} Tryz.checked os 3 .any (Rows.hearSmallSpec.pre6 enc Tryz.prog Tryz.f3 Rows.hearSmallRow.domain false) (Rows.hearSmallSpec.post enc Tryz.prog Tryz.f3 false true false false) := by
  refine returnsInHanded_of_change (C := Tryz.checked) UM started (by kernel_rfl) Tryz.func3
    (ChangeSpec.witness6 (enc := enc) (C := Tryz.checked) false ⟨#[], #[], []⟩ 8 (by kernel_rfl) (by kernel_rfl) (by kernel_rfl) (by kernel_rfl)) ?_
  intro W base args ds gs before aa hW _ _
  have ad : ∀ (j : Nat) t v, Tryz.f3.params[j]? = some t → args[j]? = some v → Value.okWide Tryz.prog W .any base t v := aa
  have af := hW
  obtain ⟨p, q, ae, hV, _, _, _⟩ := hW
  have hA : DataW.TrodAll enc Tryz.prog W 0 (fun _ => true) true Tryz.f3.params.toList args.toList ds p := ae
  rw [Tryz.params3] at hA ad
  obtain ⟨rfl, _⟩ := trodVars_none hV
  obtain ⟨ah, ai, _⟩ := trodAll_nil hA
  have ab : args = #[] := Array.ext' (by rw [ah])
  subst ab
  have aj : ds = [] := by rw [ai]
  subst aj; clear hA ae aa
  exact UL UQ rfl (by kernel_rfl) Tryz.underlying4 (fun t ht => (of_decide_eq_true (by kernel_rfl) : ∀ t ∈ Tryz.f3.params.toList, Tryz.prog.readableRec t = true ∧ t < Tryz.prog.types.size) t ht) af rfl rfl rfl (Lx  (Ok ))
theorem hearSmall_holds : Rows.HearSmallSaid :=
  OpenClaim.holds_of_wide (p := Tryz.pinned) (s := Rows.hearSmallSpec) (c := Rows.hearSmallRow) 3 Tryz.f3 rfl rfl rfl rfl rfl rfl rfl ⟨rfl, rfl, rfl, rfl, rfl⟩ rfl rfl rfl rfl rfl (by kernel_rfl) Tryz.func3 (by kernel_rfl)
    (of_decide_eq_true (by kernel_rfl)) (by unfold Func.isWrapper; first | (rw [if_pos (by decide +kernel)]; kernel_rfl) | (rw [if_neg (by decide +kernel)]; exact ⟨rfl, rfl⟩))
    (fun os started H enc _ => NJ os started H enc)
end Go.Proofs.YtkfbbjiniapooaaGreat
