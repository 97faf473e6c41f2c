/- The law HearFewest of layer 1 is proved: for every input it returns true, and leaves what is passed in as it was. No conditions. -/
import Derived.Test.YtejkgppikpkkpaaGreatRows
import Derived.Test.YtejkgppikpkkpaaGreatZFShT
import Derived.Test.YtejkgppikpkkpaaGreatZFNF3
import Derived.Test.YtejkgppikpkkpaaGreatZFIE
namespace Go.Proofs.YtejkgppikpkkpaaGreat
open Go.SH Go.PL Go.ChangeShapes Go.RowKit Go.WideShapes Go.ChangeAt
theorem own_knob : ownKnob Tryz.prog.godebug = none := by kernel_rfl
theorem laid_out : laidOutB Tryz.prog = true := by kernel_rfl
theorem hearFewest_plain {a : Int} {b : List Int} {c d : Int} {e : List Int} (_ : (Lit.int .i64 a).wf = true ∧ ∀ x ∈ b, (Lit.int .i64 x).wf = true) (_ : (Lit.int .i64 c).wf = true ∧ (Lit.int .i64 d).wf = true) (_ : ∀ x ∈ e, (Lit.int .i64 x).wf = true) (h : (b.length : Int) ≤ 9223372036854775807) (_ : (e.length : Int) ≤ 9223372036854775807) : oyezlaw01_HearFewest a b c d e = some true := fewest_true h
set_option maxRecDepth 100000 in
theorem hearFewest_lifted (os : Os) (started : os.Started) (H : Type) (enc : TypeId × Value → H) :
    ReturnsInHanded {} Tryz.checked os 3 .any (Rows.hearFewestSpec.pre6 enc Tryz.prog Tryz.f3 Rows.hearFewestRow.domain false) (Rows.hearFewestSpec.post enc Tryz.prog Tryz.f3 false true false false) := by
  refine returnsInHanded_of_change (C := Tryz.checked) own_knob started (by kernel_rfl) Tryz.func3
    (ChangeSpec.witness6 (enc := enc) (C := Tryz.checked) false ⟨#[], #[.agg #[.int .i64 0, .slice none 0 0], .agg #[.int .i64 0, .int .i64 0], .slice none 0 0], []⟩ 8 (by kernel_rfl) (by kernel_rfl) (by kernel_rfl) (by kernel_rfl)) ?_
  intro W base args ds gs before hval0 hW _ _
  have hval : ∀ (j : Nat) t v, Tryz.f3.params[j]? = some t → args[j]? = some v → Value.okWide Tryz.prog W .any base t v := hval0
  have hW' := hW
  obtain ⟨p, q, hA0, hV, _, _, _⟩ := hW
  have hA : DataW.TrodAll enc Tryz.prog W 0 (fun _ => true) true Tryz.f3.params.toList args.toList ds p := hA0
  rw [Tryz.params3] at hA hval
  obtain ⟨rfl, _⟩ := trodVars_none hV
  obtain ⟨v0, vr0, d0, dr0, pa0, pb0, ha0, hd0, hp0, h0, hr0⟩ := trodAll_cons hA
  obtain ⟨v1, vr1, d1, dr1, pa1, pb1, ha1, hd1, hp1, h1, hr1⟩ := trodAll_cons hr0
  obtain ⟨v2, vr2, d2, dr2, pa2, pb2, ha2, hd2, hp2, h2, hr2⟩ := trodAll_cons hr1
  obtain ⟨hz1, hz2, _⟩ := trodAll_nil hr2
  have hargs : args = #[v0, v1, v2] := Array.ext' (by rw [ha0, ha1, ha2, hz1])
  subst hargs
  have hds : ds = [d0, d1, d2] := by rw [hd0, hd1, hd2, hz2]
  subst hds; clear hA hA0 hval0
  obtain ⟨cs0, ⟨x0_0, x0_1⟩, rfl, ⟨_, _, rfl, rfl, ⟨a0_1, c0_1, rfl, hx0_1⟩⟩, o0⟩ := open_agg (opens_struct2 (n0 := 1) (n1 := 1) Tryz.underlying24 (by kernel_rfl) rfl rfl (by kernel_rfl) (by kernel_rfl) (opens_int Tryz.underlying3) (opens_slice Tryz.underlying22 (by kernel_rfl) (by decide) (iE_ok _) (opens_int Tryz.underlying61))) Tryz.underlying24 (hval 0 24 v0 rfl rfl) h0
  obtain ⟨cs1, ⟨x1_0, x1_1⟩, rfl, ⟨_, _, rfl, rfl, rfl⟩, o1⟩ := open_agg (opens_struct2 (n0 := 1) (n1 := 1) Tryz.underlying27 (by kernel_rfl) rfl rfl (by kernel_rfl) (by kernel_rfl) (opens_int Tryz.underlying25) (opens_int Tryz.underlying3)) Tryz.underlying27 (hval 1 27 v1 rfl rfl) h1
  obtain ⟨x2, ⟨a2, c2, he2, hx2⟩, o2⟩ := open_one (opens_slice Tryz.underlying28 (by kernel_rfl) (by decide) (iE_ok _) (opens_int Tryz.underlying3)) Tryz.underlying28 rfl (hval 2 28 v2 rfl rfl) h2
  obtain rfl := (List.cons.inj he2).1
  exact law_post laid_out rfl (by kernel_rfl) Tryz.underlying4 (fun t ht => (of_decide_eq_true (by kernel_rfl) : ∀ t ∈ Tryz.f3.params.toList, Tryz.prog.readableRec t = true ∧ t < Tryz.prog.types.size) t ht) hW' rfl rfl rfl (oyezlaw01_HearFewest_w hx0_1 hx2 (hearFewest_plain o0 o1 o2 hx0_1.lt hx2.lt))
theorem hearFewest_holds : Rows.HearFewestSaid :=
  OpenClaim.holds_of_wide (p := Tryz.pinned) (s := Rows.hearFewestSpec) (c := Rows.hearFewestRow) 3 Tryz.f3 rfl rfl rfl rfl rfl rfl rfl ⟨rfl, rfl, rfl, rfl, rfl⟩ rfl rfl rfl rfl rfl (by kernel_rfl) Tryz.func3 (by kernel_rfl)
    (of_decide_eq_true (by kernel_rfl)) (by unfold Func.isWrapper; first | (rw [if_pos (by decide +kernel)]; kernel_rfl) | (rw [if_neg (by decide +kernel)]; exact ⟨rfl, rfl⟩))
    (fun os started H enc _ => hearFewest_lifted os started H enc)
end Go.Proofs.YtejkgppikpkkpaaGreat
