/- The law HearBest of layer 1 is proved: for every input it returns true, and leaves what is passed in as it was. No conditions. -/
import Derived.Test.YtdnmaodkdhdacaaRows
import Derived.Test.YtdnmaodkdhdacaaShT
import Derived.Test.YtdnmaodkdhdacaaNg3
import Derived.Test.YtdnmaodkdhdacaaHN
namespace Go.Proofs.Ytdnmaodkdhdacaa
open Go.SH Go.PL Go.ChangeShapes Go.RowKit Go.WideShapes Go.ChangeAt
theorem own_knob : ownKnob Try.prog.godebug = none := by kernel_rfl
theorem laid_out : laidOutB Try.prog = true := by kernel_rfl
/- lens -/
theorem hearBest_plain {a : Int} {b : List Int} {c d : Int} {e : List Int} {f : Int} (_ : (Lit.int .i64 a).wf = true ∧ ∀ x ∈ b, (Lit.int .i64 x).wf = true) (_ : (Lit.int .i64 c).wf = true ∧ (Lit.int .i64 d).wf = true) (_ : ∀ x ∈ e, (Lit.int .i64 x).wf = true) (_ : (Lit.int .i64 f).wf = true) (h : (b.length : Int) ≤ 9223372036854775807) (_ : (e.length : Int) ≤ 9223372036854775807) : oyezlaw01_HearBest a b c d e f = some true := best_true h
set_option maxRecDepth 100000 in
theorem hearBest_lifted (os : Os) (started : os.Started) (H : Type) (enc : TypeId × Value → H) :
    ReturnsInHanded {} Try.checked os 4 .any (Rows.hearBestSpec.pre6 enc Try.prog Try.f4 Rows.hearBestRow.domain false) (Rows.hearBestSpec.post enc Try.prog Try.f4 false true false false) := by
  refine returnsInHanded_of_change (C := Try.checked) own_knob started (by kernel_rfl) Try.func4
    (ChangeSpec.witness6 (enc := enc) (C := Try.checked) false ⟨#[], #[.agg #[.int .i64 0, .slice none 0 0], .agg #[.int .i64 0, .int .i64 0], .slice none 0 0, .int .i64 0], []⟩ 8 (by kernel_rfl) (by kernel_rfl) (by kernel_rfl) (by kernel_rfl)) ?_
  intro W base args ds gs before hval0 hW _ _
  have hval : ∀ (j : Nat) t v, Try.f4.params[j]? = some t → args[j]? = some v → Value.okWide Try.prog W .any base t v := hval0
  have hW' := hW
  obtain ⟨p, q, hA0, hV, _, _, _⟩ := hW
  have hA : DataW.TrodAll enc Try.prog W 0 (fun _ => true) true Try.f4.params.toList args.toList ds p := hA0
  rw [Try.params4] at hA hval
  obtain ⟨rfl, _⟩ := trodVars_none hV
  obtain ⟨v0, vr0, d0, dr0, pa0, pb0, ha0, hd0, hp0, h0, hr0⟩ := trodAll_cons hA
  obtain ⟨v1, vr1, d1, dr1, pa1, pb1, ha1, hd1, hp1, h1, hr1⟩ := trodAll_cons hr0
  obtain ⟨v2, vr2, d2, dr2, pa2, pb2, ha2, hd2, hp2, h2, hr2⟩ := trodAll_cons hr1
  obtain ⟨v3, vr3, d3, dr3, pa3, pb3, ha3, hd3, hp3, h3, hr3⟩ := trodAll_cons hr2
  obtain ⟨hz1, hz2, _⟩ := trodAll_nil hr3
  have hargs : args = #[v0, v1, v2, v3] := Array.ext' (by rw [ha0, ha1, ha2, ha3, hz1])
  subst hargs
  have hds : ds = [d0, d1, d2, d3] := by rw [hd0, hd1, hd2, hd3, hz2]
  subst hds; clear hA hA0 hval0
  obtain ⟨cs0, ⟨x0_0, x0_1⟩, rfl, ⟨_, _, rfl, rfl, ⟨a0_1, c0_1, rfl, hx0_1⟩⟩, o0⟩ := open_agg (opens_struct2 (n0 := 1) (n1 := 1) Try.underlying24 (by kernel_rfl) rfl rfl (by kernel_rfl) (by kernel_rfl) (opens_int Try.underlying3) (opens_slice Try.underlying22 (by kernel_rfl) (by decide) (iE_ok _) (opens_int Try.underlying73))) Try.underlying24 (hval 0 24 v0 rfl rfl) h0
  obtain ⟨cs1, ⟨x1_0, x1_1⟩, rfl, ⟨_, _, rfl, rfl, rfl⟩, o1⟩ := open_agg (opens_struct2 (n0 := 1) (n1 := 1) Try.underlying48 (by kernel_rfl) rfl rfl (by kernel_rfl) (by kernel_rfl) (opens_int Try.underlying25) (opens_int Try.underlying3)) Try.underlying48 (hval 1 48 v1 rfl rfl) h1
  obtain ⟨x2, ⟨a2, c2, he2, hx2⟩, o2⟩ := open_one (opens_slice Try.underlying26 (by kernel_rfl) (by decide) (iE_ok _) (opens_int Try.underlying3)) Try.underlying26 rfl (hval 2 26 v2 rfl rfl) h2
  obtain rfl := (List.cons.inj he2).1
  obtain ⟨x3, he3, o3⟩ := open_one (opens_int Try.underlying3) Try.underlying3 rfl (hval 3 3 v3 rfl rfl) h3
  obtain rfl := (List.cons.inj he3).1
  exact law_post laid_out rfl (by kernel_rfl) Try.underlying4 (fun t ht => (of_decide_eq_true (by kernel_rfl) : ∀ t ∈ Try.f4.params.toList, Try.prog.readableRec t = true ∧ t < Try.prog.types.size) t ht) hW' rfl rfl rfl (oyezlaw01_HearBest_w hx0_1 hx2 (hearBest_plain o0 o1 o2 o3 hx0_1.lt hx2.lt))

theorem hearBest_holds : Rows.HearBestSaid :=
  OpenClaim.holds_of_wide (p := Try.pinned) (s := Rows.hearBestSpec) (c := Rows.hearBestRow) 4 Try.f4 rfl rfl rfl rfl rfl rfl rfl ⟨rfl, rfl, rfl, rfl, rfl⟩ rfl rfl rfl rfl rfl (by kernel_rfl) Try.func4 (by kernel_rfl)
    (of_decide_eq_true (by kernel_rfl)) (by unfold Func.isWrapper; first | (rw [if_pos (by decide +kernel)]; kernel_rfl) | (rw [if_neg (by decide +kernel)]; exact ⟨rfl, rfl⟩))
    (fun os started H enc _ => hearBest_lifted os started H enc)

end Go.Proofs.Ytdnmaodkdhdacaa
