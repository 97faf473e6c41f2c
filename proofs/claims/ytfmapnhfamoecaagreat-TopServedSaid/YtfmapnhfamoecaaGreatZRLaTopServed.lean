/- The law TopServed is proved: for every input it returns true, and leaves what is passed in as it was. No conditions. -/
import Derived.Test.YtfmapnhfamoecaaGreatRows
import Derived.Test.YtfmapnhfamoecaaGreatZRShT
import Derived.Test.YtfmapnhfamoecaaGreatZRNR3
import Derived.Test.YtfmapnhfamoecaaGreatZRMF
namespace Go.Proofs.YtfmapnhfamoecaaGreat
open Go.SH Go.PL Go.ChangeShapes Go.RowKit Go.WideShapes Go.ChangeAt
theorem XV : ownKnob Tryz.prog.godebug = none := by kernel_rfl
theorem Xp : laidOutB Tryz.prog = true := by kernel_rfl
theorem WX {w : Int} (h : (Lit.int .u8 w).wf = true) : 0 ≤ w ∧ w ≤ 255 := by
  unfold Lit.wf at h
  rw [Bool.and_eq_true] at h
  exact ⟨of_decide_eq_true h.1, of_decide_eq_true h.2⟩
theorem Pz {a : List Int} {w x y : Int} (_ : ∀ x ∈ a, (Lit.int .u8 x).wf = true) (hw : (Lit.int .u8 w).wf = true) (hx : (Lit.int .u8 x).wf = true) (hy : (Lit.int .u8 y).wf = true) (h : (a.length : Int) ≤ 9223372036854775807) : FK a w x y = some true := Rd.WE h (by have := WX hw; omega) (by have := WX hx; omega) (by have := WX hy; omega)
set_option maxRecDepth 100000 in
theorem OO (os : Os) (started : os.Started) (H : Type) (enc : TypeId × Value → H) :
    ReturnsInHanded {} Tryz.checked os 3 .any (Rows.topServedSpec.pre6 enc Tryz.prog Tryz.f3 Rows.topServedRow.domain false) (Rows.topServedSpec.post enc Tryz.prog Tryz.f3 false true false false) := by
  refine returnsInHanded_of_change (C := Tryz.checked) XV started (by kernel_rfl) Tryz.func3
    (ChangeSpec.witness6 (enc := enc) (C := Tryz.checked) false ⟨#[], #[.slice none 0 0, .int .u8 0, .int .u8 0, .int .u8 0], []⟩ 8 (by kernel_rfl) (by kernel_rfl) (by kernel_rfl) (by kernel_rfl)) ?_
  intro W base args ds gs before ab hW _ _
  have aa : ∀ (j : Nat) t v, Tryz.f3.params[j]? = some t → args[j]? = some v → Value.okWide Tryz.prog W .any base t v := ab
  have ah := hW
  obtain ⟨p, q, ae, hV, _, _, _⟩ := hW
  have hA : DataW.TrodAll enc Tryz.prog W 0 (fun _ => true) true Tryz.f3.params.toList args.toList ds p := ae
  rw [Tryz.params3] at hA aa
  obtain ⟨rfl, _⟩ := trodVars_none hV
  obtain ⟨v0, bl, d0, bm, bn, bo, ai, aj, bp, h0, ak⟩ := trodAll_cons hA
  obtain ⟨v1, bq, d1, br, bu, bx, al, ao, bz, h1, aq⟩ := trodAll_cons ak
  obtain ⟨v2, ca, d2, cb, cc, cf, ar, au, cg, h2, av⟩ := trodAll_cons aq
  obtain ⟨v3, cj, d3, cn, cp, cq, aw, ax, cr, h3, ay⟩ := trodAll_cons av
  obtain ⟨az, ba, _⟩ := trodAll_nil ay
  have ad : args = #[v0, v1, v2, v3] := Array.ext' (by rw [ai, al, ar, aw, az])
  subst ad
  have bb : ds = [d0, d1, d2, d3] := by rw [aj, ao, au, ax, ba]
  subst bb; clear hA ae ab
  obtain ⟨x0, ⟨a0, c0, bc, af⟩, o0⟩ := Oh (T7 Tryz.underlying22 (by kernel_rfl) (by decide) (Ad _) (MB Tryz.underlying5)) Tryz.underlying22 rfl (aa 0 22 v0 rfl rfl) h0
  obtain rfl := (List.cons.inj bc).1
  obtain ⟨x1, bg, o1⟩ := Oh (MB Tryz.underlying5) Tryz.underlying5 rfl (aa 1 5 v1 rfl rfl) h1
  obtain rfl := (List.cons.inj bg).1
  obtain ⟨x2, bj, o2⟩ := Oh (MB Tryz.underlying5) Tryz.underlying5 rfl (aa 2 5 v2 rfl rfl) h2
  obtain rfl := (List.cons.inj bj).1
  obtain ⟨x3, bk, o3⟩ := Oh (MB Tryz.underlying5) Tryz.underlying5 rfl (aa 3 5 v3 rfl rfl) h3
  obtain rfl := (List.cons.inj bk).1
  exact Xu Xp rfl (by kernel_rfl) Tryz.underlying4 (fun t ht => (of_decide_eq_true (by kernel_rfl) : ∀ t ∈ Tryz.f3.params.toList, Tryz.prog.readableRec t = true ∧ t < Tryz.prog.types.size) t ht) ah rfl rfl rfl (MZ af (Pz o0 o1 o2 o3 af.lt))
theorem topServed_holds : Rows.TopServedSaid :=
  OpenClaim.holds_of_wide (p := Tryz.pinned) (s := Rows.topServedSpec) (c := Rows.topServedRow) 3 Tryz.f3 rfl rfl rfl rfl rfl rfl rfl ⟨rfl, rfl, rfl, rfl, rfl⟩ rfl rfl rfl rfl rfl (by kernel_rfl) Tryz.func3 (by kernel_rfl)
    (of_decide_eq_true (by kernel_rfl)) (by unfold Func.isWrapper; first | (rw [if_pos (by decide +kernel)]; kernel_rfl) | (rw [if_neg (by decide +kernel)]; exact ⟨rfl, rfl⟩))
    (fun os started H enc _ => OO os started H enc)
end Go.Proofs.YtfmapnhfamoecaaGreat
