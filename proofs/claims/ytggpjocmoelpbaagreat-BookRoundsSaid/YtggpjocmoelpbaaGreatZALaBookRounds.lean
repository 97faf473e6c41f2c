/- The law BookRounds of layer 7 is proved: for every input it returns true, and leaves what is passed in as it was. No conditions. -/
import Derived.Test.YtggpjocmoelpbaaGreatRows
import Derived.Test.YtggpjocmoelpbaaGreatZAShT
import Derived.Test.YtggpjocmoelpbaaGreatZANA3
import Derived.Test.YtggpjocmoelpbaaGreatZAMF
namespace Go.Proofs.YtggpjocmoelpbaaGreat
open Go.SH Go.PL Go.ChangeShapes Go.RowKit Go.WideShapes Go.ChangeAt
theorem own_knob : ownKnob Tryz.prog.godebug = none := by kernel_rfl
theorem laid_out : laidOutB Tryz.prog = true := by kernel_rfl
theorem bookRounds_plain {a b : List Int} (_ : ∀ x ∈ a, (Lit.int .u8 x).wf = true) (_ : ∀ x ∈ b, (Lit.int .u8 x).wf = true) (h : (a.length : Int) ≤ 9223372036854775807) (h2 : (b.length : Int) ≤ 9223372036854775807) : oyezlaw07_BookRounds a b = some true := Br.rounds_true h h2
set_option maxRecDepth 100000 in
theorem bookRounds_lifted (os : Os) (started : os.Started) (H : Type) (enc : TypeId × Value → H) :
    ReturnsInHanded {} Tryz.checked os 3 .any (Rows.bookRoundsSpec.pre6 enc Tryz.prog Tryz.f3 Rows.bookRoundsRow.domain false) (Rows.bookRoundsSpec.post enc Tryz.prog Tryz.f3 false true false false) := by
  refine returnsInHanded_of_change (C := Tryz.checked) own_knob started (by kernel_rfl) Tryz.func3
    (ChangeSpec.witness6 (enc := enc) (C := Tryz.checked) false ⟨#[], #[.slice none 0 0, .slice none 0 0], []⟩ 8 (by kernel_rfl) (by kernel_rfl) (by kernel_rfl) (by kernel_rfl)) ?_
  intro W base args ds gs before hval0 hW _ _
  have hval : ∀ (j : Nat) t v, Tryz.f3.params[j]? = some t → args[j]? = some v → Value.okWide Tryz.prog W .any base t v := hval0
  have hW' := hW
  obtain ⟨p, q, hA0, hV, _, _, _⟩ := hW
  have hA : DataW.TrodAll enc Tryz.prog W 0 (fun _ => true) true Tryz.f3.params.toList args.toList ds p := hA0
  rw [Tryz.params3] at hA hval
  obtain ⟨rfl, _⟩ := trodVars_none hV
  obtain ⟨v0, vr0, d0, dr0, pa0, pb0, ha0, hd0, hp0, h0, hr0⟩ := trodAll_cons hA
  obtain ⟨v1, vr1, d1, dr1, pa1, pb1, ha1, hd1, hp1, h1, hr1⟩ := trodAll_cons hr0
  obtain ⟨hz1, hz2, _⟩ := trodAll_nil hr1
  have hargs : args = #[v0, v1] := Array.ext' (by rw [ha0, ha1, hz1])
  subst hargs
  have hds : ds = [d0, d1] := by rw [hd0, hd1, hz2]
  subst hds; clear hA hA0 hval0
  obtain ⟨x0, ⟨a0, c0, he0, hx0⟩, o0⟩ := open_one (opens_slice Tryz.underlying22 (by kernel_rfl) (by decide) (iE_ok _) (opens_int Tryz.underlying5)) Tryz.underlying22 rfl (hval 0 22 v0 rfl rfl) h0
  obtain rfl := (List.cons.inj he0).1
  obtain ⟨x1, ⟨a1, c1, he1, hx1⟩, o1⟩ := open_one (opens_slice Tryz.underlying22 (by kernel_rfl) (by decide) (iE_ok _) (opens_int Tryz.underlying5)) Tryz.underlying22 rfl (hval 1 22 v1 rfl rfl) h1
  obtain rfl := (List.cons.inj he1).1
  exact law_post laid_out rfl (by kernel_rfl) Tryz.underlying4 (fun t ht => (of_decide_eq_true (by kernel_rfl) : ∀ t ∈ Tryz.f3.params.toList, Tryz.prog.readableRec t = true ∧ t < Tryz.prog.types.size) t ht) hW' rfl rfl rfl (oyezlaw07_BookRounds_w hx0 hx1 (bookRounds_plain o0 o1 hx0.lt hx1.lt))
theorem bookRounds_holds : Rows.BookRoundsSaid :=
  OpenClaim.holds_of_wide (p := Tryz.pinned) (s := Rows.bookRoundsSpec) (c := Rows.bookRoundsRow) 3 Tryz.f3 rfl rfl rfl rfl rfl rfl rfl ⟨rfl, rfl, rfl, rfl, rfl⟩ rfl rfl rfl rfl rfl (by kernel_rfl) Tryz.func3 (by kernel_rfl)
    (of_decide_eq_true (by kernel_rfl)) (by unfold Func.isWrapper; first | (rw [if_pos (by decide +kernel)]; kernel_rfl) | (rw [if_neg (by decide +kernel)]; exact ⟨rfl, rfl⟩))
    (fun os started H enc _ => bookRounds_lifted os started H enc)
end Go.Proofs.YtggpjocmoelpbaaGreat
