/- Facts on types, printed by a program of mine. -/
import Derived.Test.YtfmapnhfamoecaaProg
import Derived.Test.YtfmapnhfamoecaaZFShW
import Derived.Test.YtfmapnhfamoecaaZFTd
namespace Go.Proofs.Ytfmapnhfamoecaa
open Go.SH Go.PL
theorem eq_110 : ∀ (x0 x1 y0 y1 : Int) w, (binOp .eql 110 (.agg #[.int .i64 x0, .int .i64 x1]) (.agg #[.int .i64 y0, .int .i64 y1])).run Try.prog w = .ok (.bool (decide (x0 = y0 ∧ x1 = y1))) w := by
  intro x0 x1 y0 y1 w
  have hu : Try.prog.underlying 110 = some (.struct (Try.prog.fieldsOf 110)) := by rw [Program.fieldsOf, Try.underlying110]
  have hp : Try.prog.stoodInHeld 110 = false := by kernel_rfl
  have hf : (Try.prog.fieldsOf 110).toList = [{ name := "stand", type := 3, offset := 0, embedded := false, tag := "", pkgPath := "oyez/round", byteOffset := 0 }, { name := "left", type := 3, offset := 1, embedded := false, tag := "", pkgPath := "oyez/round", byteOffset := 8 }] := by rw [Program.fieldsOf, Try.underlying110]
  simp only [binOp, Op.equal, Op.maxDepth, Sem.run_bind, run_equalIn_struct w 9999 110 _ _ hu hp, hf]
  simp (config := {decide := true}) [Op.eqFields, part, go_sem, Try.isAgg3]
  by_cases h0 : x0 = y0 <;> by_cases h1 : x1 = y1 <;> simp [h0, h1, go_sem]
theorem eqg_54 : ∀ x y a b w, (eqGuard .eql 54 x y (.agg a) (.agg b)).run Try.prog w = .ok () w := by intros; simp [eqGuard, go_sem]
theorem eqgn_54 : ∀ x y a b w, (eqGuard .neq 54 x y (.agg a) (.agg b)).run Try.prog w = .ok () w := by intros; simp [eqGuard, go_sem]
theorem eq_54 : ∀ (x0 x1 y0 y1 : Int) w, (binOp .eql 54 (.agg #[.int .i64 x0, .int .i64 x1]) (.agg #[.int .i64 y0, .int .i64 y1])).run Try.prog w = .ok (.bool (decide (x0 = y0 ∧ x1 = y1))) w := by
  intro x0 x1 y0 y1 w
  have hu : Try.prog.underlying 54 = some (.struct (Try.prog.fieldsOf 54)) := by rw [Program.fieldsOf, Try.underlying54]
  have hp : Try.prog.stoodInHeld 54 = false := by kernel_rfl
  have hf : (Try.prog.fieldsOf 54).toList = [{ name := "Notice", type := 3, offset := 0, embedded := false, tag := "", pkgPath := "", byteOffset := 0 }, { name := "House", type := 3, offset := 1, embedded := false, tag := "", pkgPath := "", byteOffset := 8 }] := by rw [Program.fieldsOf, Try.underlying54]
  simp only [binOp, Op.equal, Op.maxDepth, Sem.run_bind, run_equalIn_struct w 9999 54 _ _ hu hp, hf]
  simp (config := {decide := true}) [Op.eqFields, part, go_sem, Try.isAgg3]
  by_cases h0 : x0 = y0 <;> by_cases h1 : x1 = y1 <;> simp [h0, h1, go_sem]
def gk_98 (k : List Int) : Prop := k.length = 25 ∧ ∀ x ∈ k, R64 x
def lit_98 (k : List Int) : List Lit := k.map (Lit.int .i64)
theorem lenG_25 {α : Type} {xs : List α} (h : xs.length = 25) : ∃ a0 a1 a2 a3 a4 a5 a6 a7 a8 a9 a10 a11 a12 a13 a14 a15 a16 a17 a18 a19 a20 a21 a22 a23 a24, xs = [a0, a1, a2, a3, a4, a5, a6, a7, a8, a9, a10, a11, a12, a13, a14, a15, a16, a17, a18, a19, a20, a21, a22, a23, a24] := by
  obtain ⟨a0, xs, rfl, h0⟩ := len_s h
  obtain ⟨a1, xs, rfl, h1⟩ := len_s h0
  obtain ⟨a2, xs, rfl, h2⟩ := len_s h1
  obtain ⟨a3, xs, rfl, h3⟩ := len_s h2
  obtain ⟨a4, xs, rfl, h4⟩ := len_s h3
  obtain ⟨a5, xs, rfl, h5⟩ := len_s h4
  obtain ⟨a6, xs, rfl, h6⟩ := len_s h5
  obtain ⟨a7, xs, rfl, h7⟩ := len_s h6
  obtain ⟨a8, xs, rfl, h8⟩ := len_s h7
  obtain ⟨a9, xs, rfl, h9⟩ := len_s h8
  obtain ⟨a10, xs, rfl, h10⟩ := len_s h9
  obtain ⟨a11, xs, rfl, h11⟩ := len_s h10
  obtain ⟨a12, xs, rfl, h12⟩ := len_s h11
  obtain ⟨a13, xs, rfl, h13⟩ := len_s h12
  obtain ⟨a14, xs, rfl, h14⟩ := len_s h13
  obtain ⟨a15, xs, rfl, h15⟩ := len_s h14
  obtain ⟨a16, xs, rfl, h16⟩ := len_s h15
  obtain ⟨a17, xs, rfl, h17⟩ := len_s h16
  obtain ⟨a18, xs, rfl, h18⟩ := len_s h17
  obtain ⟨a19, xs, rfl, h19⟩ := len_s h18
  obtain ⟨a20, xs, rfl, h20⟩ := len_s h19
  obtain ⟨a21, xs, rfl, h21⟩ := len_s h20
  obtain ⟨a22, xs, rfl, h22⟩ := len_s h21
  obtain ⟨a23, xs, rfl, h23⟩ := len_s h22
  obtain ⟨a24, xs, rfl, h24⟩ := len_s h23
  obtain rfl := len_0 h24
  exact ⟨a0, a1, a2, a3, a4, a5, a6, a7, a8, a9, a10, a11, a12, a13, a14, a15, a16, a17, a18, a19, a20, a21, a22, a23, a24, rfl⟩
theorem gf_98 (k : List Int) (h : gk_98 k) : ((fun k : List Int => Value.agg (arr (cI .i64) k)) k).formed Try.prog 98 = true := by unfold gk_98 at h; obtain ⟨h, _⟩ := h; obtain ⟨a0, a1, a2, a3, a4, a5, a6, a7, a8, a9, a10, a11, a12, a13, a14, a15, a16, a17, a18, a19, a20, a21, a22, a23, a24, rfl⟩ := lenG_25 h; kernel_rfl
theorem gl_98 (k : List Int) (h : gk_98 k) : Try.prog.keyLits 10 98 ((fun k : List Int => Value.agg (arr (cI .i64) k)) k).cells.toList = some (lit_98 k) := by
  unfold gk_98 at h; unfold lit_98
  have e : (Value.agg (arr (cI .i64) k)).cells.toList = k.map (Value.int .i64) := by show (arr (cI .i64) k).toList = _; unfold arr; exact flat_cI k
  rw [e]
  exact keyLits_grid (d := 7) (n := 5) (m := 5) Try.underlying98 Try.underlying96 Try.underlying3 (by kernel_rfl) (by kernel_rfl) (by kernel_rfl) h.1 fun x hx => wf64 (h.2 x hx)
theorem gi_98 (x y : List Int) (h : lit_98 x = lit_98 y) : x = y := map_int_inj h
theorem eqd_98 (x y : List Int) (gx : gk_98 x) (gy : gk_98 y) (w : World) : (Op.equal 98 ((fun k : List Int => Value.agg (arr (cI .i64) k)) x) ((fun k : List Int => Value.agg (arr (cI .i64) k)) y)).run Try.prog w = .ok (decide (x = y)) w := eq_deep (G := gk_98) (ek := (fun k : List Int => Value.agg (arr (cI .i64) k))) (lits := lit_98) (m := 10) (D := 10) (by kernel_rfl) (by decide) gf_98 gl_98 gi_98 gx gy w
theorem eqgn_98 : ∀ x y a b w, (eqGuard .neq 98 x y (.agg a) (.agg b)).run Try.prog w = .ok () w := by intros; simp [eqGuard, go_sem]
theorem fa_102_0 : ∀ a w, (Instr.fieldAt 102 (.pointer (some a)) 0).run Try.prog w = .ok (.pointer (some (a.add 0))) w := by intro a w; simp [Instr.fieldAt, go_sem, Instr.sureAddr, fieldPlace]
theorem fa_102_1 : ∀ a w, (Instr.fieldAt 102 (.pointer (some a)) 1).run Try.prog w = .ok (.pointer (some (a.add 5))) w := by intro a w; simp [Instr.fieldAt, go_sem, Instr.sureAddr, fieldPlace]
theorem fa_102_2 : ∀ a w, (Instr.fieldAt 102 (.pointer (some a)) 2).run Try.prog w = .ok (.pointer (some (a.add 30))) w := by intro a w; simp [Instr.fieldAt, go_sem, Instr.sureAddr, fieldPlace]
theorem fa_102_3 : ∀ a w, (Instr.fieldAt 102 (.pointer (some a)) 3).run Try.prog w = .ok (.pointer (some (a.add 31))) w := by intro a w; simp [Instr.fieldAt, go_sem, Instr.sureAddr, fieldPlace]
theorem fa_110_1 : ∀ a w, (Instr.fieldAt 110 (.pointer (some a)) 1).run Try.prog w = .ok (.pointer (some (a.add 1))) w := by intro a w; simp [Instr.fieldAt, go_sem, Instr.sureAddr, fieldPlace]
theorem fa_112_0 : ∀ a w, (Instr.fieldAt 112 (.pointer (some a)) 0).run Try.prog w = .ok (.pointer (some (a.add 0))) w := by intro a w; simp [Instr.fieldAt, go_sem, Instr.sureAddr, fieldPlace]
theorem fa_112_1 : ∀ a w, (Instr.fieldAt 112 (.pointer (some a)) 1).run Try.prog w = .ok (.pointer (some (a.add 1))) w := by intro a w; simp [Instr.fieldAt, go_sem, Instr.sureAddr, fieldPlace]
theorem fa_112_2 : ∀ a w, (Instr.fieldAt 112 (.pointer (some a)) 2).run Try.prog w = .ok (.pointer (some (a.add 3))) w := by intro a w; simp [Instr.fieldAt, go_sem, Instr.sureAddr, fieldPlace]
theorem fa_26_0 : ∀ a w, (Instr.fieldAt 26 (.pointer (some a)) 0).run Try.prog w = .ok (.pointer (some (a.add 0))) w := by intro a w; simp [Instr.fieldAt, go_sem, Instr.sureAddr, fieldPlace]
theorem fa_26_1 : ∀ a w, (Instr.fieldAt 26 (.pointer (some a)) 1).run Try.prog w = .ok (.pointer (some (a.add 1))) w := by intro a w; simp [Instr.fieldAt, go_sem, Instr.sureAddr, fieldPlace]
theorem fa_26_2 : ∀ a w, (Instr.fieldAt 26 (.pointer (some a)) 2).run Try.prog w = .ok (.pointer (some (a.add 2))) w := by intro a w; simp [Instr.fieldAt, go_sem, Instr.sureAddr, fieldPlace]
theorem fa_26_3 : ∀ a w, (Instr.fieldAt 26 (.pointer (some a)) 3).run Try.prog w = .ok (.pointer (some (a.add 3))) w := by intro a w; simp [Instr.fieldAt, go_sem, Instr.sureAddr, fieldPlace]
theorem fa_26_4 : ∀ a w, (Instr.fieldAt 26 (.pointer (some a)) 4).run Try.prog w = .ok (.pointer (some (a.add 4))) w := by intro a w; simp [Instr.fieldAt, go_sem, Instr.sureAddr, fieldPlace]
theorem fa_39_0 : ∀ a w, (Instr.fieldAt 39 (.pointer (some a)) 0).run Try.prog w = .ok (.pointer (some (a.add 0))) w := by intro a w; simp [Instr.fieldAt, go_sem, Instr.sureAddr, fieldPlace]
theorem fa_39_1 : ∀ a w, (Instr.fieldAt 39 (.pointer (some a)) 1).run Try.prog w = .ok (.pointer (some (a.add 1))) w := by intro a w; simp [Instr.fieldAt, go_sem, Instr.sureAddr, fieldPlace]
theorem fa_39_2 : ∀ a w, (Instr.fieldAt 39 (.pointer (some a)) 2).run Try.prog w = .ok (.pointer (some (a.add 2))) w := by intro a w; simp [Instr.fieldAt, go_sem, Instr.sureAddr, fieldPlace]
theorem fa_54_0 : ∀ a w, (Instr.fieldAt 54 (.pointer (some a)) 0).run Try.prog w = .ok (.pointer (some (a.add 0))) w := by intro a w; simp [Instr.fieldAt, go_sem, Instr.sureAddr, fieldPlace]
theorem fa_54_1 : ∀ a w, (Instr.fieldAt 54 (.pointer (some a)) 1).run Try.prog w = .ok (.pointer (some (a.add 1))) w := by intro a w; simp [Instr.fieldAt, go_sem, Instr.sureAddr, fieldPlace]
theorem fa_66_0 : ∀ a w, (Instr.fieldAt 66 (.pointer (some a)) 0).run Try.prog w = .ok (.pointer (some (a.add 0))) w := by intro a w; simp [Instr.fieldAt, go_sem, Instr.sureAddr, fieldPlace]
theorem fa_66_1 : ∀ a w, (Instr.fieldAt 66 (.pointer (some a)) 1).run Try.prog w = .ok (.pointer (some (a.add 1))) w := by intro a w; simp [Instr.fieldAt, go_sem, Instr.sureAddr, fieldPlace]
theorem fa_66_2 : ∀ a w, (Instr.fieldAt 66 (.pointer (some a)) 2).run Try.prog w = .ok (.pointer (some (a.add 2))) w := by intro a w; simp [Instr.fieldAt, go_sem, Instr.sureAddr, fieldPlace]
theorem fa_76_0 : ∀ a w, (Instr.fieldAt 76 (.pointer (some a)) 0).run Try.prog w = .ok (.pointer (some (a.add 0))) w := by intro a w; simp [Instr.fieldAt, go_sem, Instr.sureAddr, fieldPlace]
theorem fa_93_0 : ∀ a w, (Instr.fieldAt 93 (.pointer (some a)) 0).run Try.prog w = .ok (.pointer (some (a.add 0))) w := by intro a w; simp [Instr.fieldAt, go_sem, Instr.sureAddr, fieldPlace]
theorem fa_93_1 : ∀ a w, (Instr.fieldAt 93 (.pointer (some a)) 1).run Try.prog w = .ok (.pointer (some (a.add 1))) w := by intro a w; simp [Instr.fieldAt, go_sem, Instr.sureAddr, fieldPlace]
theorem slt_23 : SlTy Try.prog 23 30 1 (.slice none 0 0) 24 := SlTy.mk' Try.underlying23 (by kernel_rfl) rfl (by decide)
theorem slt_24 : SlTy Try.prog 24 39 3 (.agg #[.slice none 0 0, .int .i64 0, .int .i64 0]) 40 := SlTy.mk' Try.underlying24 (by kernel_rfl) rfl (by decide)
theorem slt_30 : SlTy Try.prog 30 3 1 (.int .i64 0) 8 := SlTy.mk' Try.underlying30 (by kernel_rfl) rfl (by decide)
theorem slt_34 : SlTy Try.prog 34 93 2 (.agg #[.int .i64 0, .int .i64 0]) 16 := SlTy.mk' Try.underlying34 (by kernel_rfl) rfl (by decide)
theorem slt_44 : SlTy Try.prog 44 54 2 (.agg #[.int .i64 0, .int .i64 0]) 16 := SlTy.mk' Try.underlying44 (by kernel_rfl) rfl (by decide)
theorem key_110 : KeyOK Try.prog 110 (vA (cP (cI .i64) (cI .i64))) := by
  refine keyOK_struct (by kernel_rfl) (fun x y w => ?_) (fun b k w => ?_) (fun k => ?_)
  · obtain ⟨x0, x1⟩ := x; obtain ⟨y0, y1⟩ := y
    exact (equal_of_bin (eq_110 x0 x1 y0 y1 w)).trans (by simp)
  · obtain ⟨k0, k1⟩ := k
    have key : ∀ n, (Instr.checkKey b (n + 2) 110 (.agg #[.int .i64 k0, .int .i64 k1])).run Try.prog w = .ok () w := fun n => by
      simp [Instr.checkKey, run_underlying Try.underlying110, part, go_sem, Try.isAgg3, run_underlying Try.underlying3]
    exact key 9998
  · obtain ⟨k0, k1⟩ := k; simp [vA, cP, cI, Instr.sameBits]
theorem strc_strt_0 : (⟨#[0, 1, 2, 2, 3, 3, 3, 3, 4, 4, 4, 4, 4, 4, 4, 4, 5, 5, 5, 5, 5, 5, 5, 5, 5, 5, 5, 5, 5, 5, 5, 5, 6, 6, 6, 6, 6, 6, 6, 6, 6, 6, 6, 6, 6, 6, 6, 6, 6, 6, 6, 6, 6, 6, 6, 6, 6, 6, 6, 6, 6, 6, 6, 6, 7, 7, 7, 7, 7, 7, 7, 7, 7, 7, 7, 7, 7, 7, 7, 7, 7, 7, 7, 7, 7, 7, 7, 7, 7, 7, 7, 7, 7, 7, 7, 7, 7, 7, 7, 7, 7, 7, 7, 7, 7, 7, 7, 7, 7, 7, 7, 7, 7, 7, 7, 7, 7, 7, 7, 7, 7, 7, 7, 7, 7, 7, 7, 7, 8, 8, 8, 8, 8, 8, 8, 8, 8, 8, 8, 8, 8, 8, 8, 8, 8, 8, 8, 8, 8, 8, 8, 8, 8, 8, 8, 8, 8, 8, 8, 8, 8, 8, 8, 8, 8, 8, 8, 8, 8, 8, 8, 8, 8, 8, 8, 8, 8, 8, 8, 8, 8, 8, 8, 8, 8, 8, 8, 8, 8, 8, 8, 8, 8, 8, 8, 8, 8, 8, 8, 8, 8, 8, 8, 8, 8, 8, 8, 8, 8, 8, 8, 8, 8, 8, 8, 8, 8, 8, 8, 8, 8, 8, 8, 8, 8, 8, 8, 8, 8, 8, 8, 8, 8, 8, 8, 8, 8, 8, 8, 8, 8, 8, 8, 8, 8, 8, 8, 8, 8, 8, 8, 8, 8, 8, 8, 8]⟩ : ByteArray) = sB strt_0 := by kernel_rfl
theorem strr_strt_0 : ∀ x ∈ strt_0, 0 ≤ x ∧ x < 256 := by decide +kernel
end Go.Proofs.Ytfmapnhfamoecaa
