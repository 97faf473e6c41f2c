/- The law BookSmall of layer 7 is proved: for every input it returns true, and leaves what is passed in as it was. No conditions. -/
import Derived.Test.YtdhookifhfkcpaaGreatRows
import Derived.Test.YtdhookifhfkcpaaGreatZBShT
import Derived.Test.YtdhookifhfkcpaaGreatZBNB5
import Derived.Test.YtdhookifhfkcpaaGreatZBVI
namespace Go.Proofs.YtdhookifhfkcpaaGreat
open Go.SH Go.PL Go.ChangeShapes Go.RowKit Go.WideShapes Go.ChangeAt
theorem Q2 : ownKnob Tryz.prog.godebug = none := by kernel_rfl
theorem Re : laidOutB Tryz.prog = true := by kernel_rfl
theorem NJ : Er = some true := Bs.Qa
set_option maxRecDepth 100000 in
theorem Nk (os : Os) (started : os.Started) (H : Type) (enc : TypeId × Value → H) :
    ReturnsInHanded {} Tryz.checked os 3 .any (Rows.bookSmallSpec.pre6 enc Tryz.prog Tryz.f3 Rows.bookSmallRow.domain false) (Rows.bookSmallSpec.post enc Tryz.prog Tryz.f3 false true false false) := by
  refine returnsInHanded_of_change (C := Tryz.checked) Q2 started (by kernel_rfl) Tryz.func3
    (ChangeSpec.witness6 (enc := enc) (C := Tryz.checked) false ⟨#[], #[], []⟩ 8 (by kernel_rfl) (by kernel_rfl) (by kernel_rfl) (by kernel_rfl)) ?_
  intro W base args ds gs before aa hW _ _
  have ad : ∀ (j : Nat) t v, Tryz.f3.params[j]? = some t → args[j]? = some v → Value.okWide Tryz.prog W .any base t v := aa
  have ah := hW
  obtain ⟨p, q, ae, hV, _, _, _⟩ := hW
  have hA : DataW.TrodAll enc Tryz.prog W 0 (fun _ => true) true Tryz.f3.params.toList args.toList ds p := ae
  rw [Tryz.params3] at hA ad
  obtain ⟨rfl, _⟩ := trodVars_none hV
  obtain ⟨ai, aj, _⟩ := trodAll_nil hA
  have ab : args = #[] := Array.ext' (by rw [ai])
  subst ab
  have ak : ds = [] := by rw [aj]
  subst ak; clear hA ae aa
  exact Ri Re rfl (by kernel_rfl) Tryz.underlying4 (fun t ht => (of_decide_eq_true (by kernel_rfl) : ∀ t ∈ Tryz.f3.params.toList, Tryz.prog.readableRec t = true ∧ t < Tryz.prog.types.size) t ht) ah rfl rfl rfl (Lm  (NJ ))
theorem bookSmall_holds : Rows.BookSmallSaid :=
  OpenClaim.holds_of_wide (p := Tryz.pinned) (s := Rows.bookSmallSpec) (c := Rows.bookSmallRow) 3 Tryz.f3 rfl rfl rfl rfl rfl rfl rfl ⟨rfl, rfl, rfl, rfl, rfl⟩ rfl rfl rfl rfl rfl (by kernel_rfl) Tryz.func3 (by kernel_rfl)
    (of_decide_eq_true (by kernel_rfl)) (by unfold Func.isWrapper; first | (rw [if_pos (by decide +kernel)]; kernel_rfl) | (rw [if_neg (by decide +kernel)]; exact ⟨rfl, rfl⟩))
    (fun os started H enc _ => Nk os started H enc)
end Go.Proofs.YtdhookifhfkcpaaGreat
