/- Facts on types, printed by a program of mine. -/
import Derived.Test.YtodhcoakjlmcdaaGreatProg
import Derived.Test.YtodhcoakjlmcdaaGreatZBShV
import Derived.Test.YtodhcoakjlmcdaaGreatZBTd
namespace Go.Proofs.YtodhcoakjlmcdaaGreat
open Go.SH Go.PL
theorem len_24 {α : Type} {xs : List α} (h : xs.length = 24) : ∃ a0 a1 a2 a3 a4 a5 a6 a7 a8 a9 a10 a11 a12 a13 a14 a15 a16 a17 a18 a19 a20 a21 a22 a23, xs = [a0, a1, a2, a3, a4, a5, a6, a7, a8, a9, a10, a11, a12, a13, a14, a15, a16, a17, a18, a19, a20, a21, a22, a23] := by
  obtain ⟨a0, xs, rfl, h0⟩ := len_s h
  obtain ⟨a1, xs, rfl, h1⟩ := len_s h0
  obtain ⟨a2, xs, rfl, h2⟩ := len_s h1
  obtain ⟨a3, xs, rfl, h3⟩ := len_s h2
  obtain ⟨a4, xs, rfl, h4⟩ := len_s h3
  obtain ⟨a5, xs, rfl, h5⟩ := len_s h4
  obtain ⟨a6, xs, rfl, h6⟩ := len_s h5
  obtain ⟨a7, xs, rfl, h7⟩ := len_s h6
  obtain ⟨a8, xs, rfl, h8⟩ := len_s h7
  obtain ⟨a9, xs, rfl, h9⟩ := len_s h8
  obtain ⟨a10, xs, rfl, h10⟩ := len_s h9
  obtain ⟨a11, xs, rfl, h11⟩ := len_s h10
  obtain ⟨a12, xs, rfl, h12⟩ := len_s h11
  obtain ⟨a13, xs, rfl, h13⟩ := len_s h12
  obtain ⟨a14, xs, rfl, h14⟩ := len_s h13
  obtain ⟨a15, xs, rfl, h15⟩ := len_s h14
  obtain ⟨a16, xs, rfl, h16⟩ := len_s h15
  obtain ⟨a17, xs, rfl, h17⟩ := len_s h16
  obtain ⟨a18, xs, rfl, h18⟩ := len_s h17
  obtain ⟨a19, xs, rfl, h19⟩ := len_s h18
  obtain ⟨a20, xs, rfl, h20⟩ := len_s h19
  obtain ⟨a21, xs, rfl, h21⟩ := len_s h20
  obtain ⟨a22, xs, rfl, h22⟩ := len_s h21
  obtain ⟨a23, xs, rfl, h23⟩ := len_s h22
  obtain rfl := len_0 h23
  exact ⟨a0, a1, a2, a3, a4, a5, a6, a7, a8, a9, a10, a11, a12, a13, a14, a15, a16, a17, a18, a19, a20, a21, a22, a23, rfl⟩
theorem eqg_227 : ∀ x y a b w, (eqGuard .eql 227 x y (.agg a) (.agg b)).run Tryz.prog w = .ok () w := by intros; simp [eqGuard, go_sem]
theorem eq_227 : ∀ (x0 x1 y0 y1 : Int) w, (binOp .eql 227 (.agg #[.int .i64 x0, .int .i64 x1]) (.agg #[.int .i64 y0, .int .i64 y1])).run Tryz.prog w = .ok (.bool (decide (x0 = y0 ∧ x1 = y1))) w := by
  intro x0 x1 y0 y1 w
  have hu : Tryz.prog.underlying 227 = some (.struct (Tryz.prog.fieldsOf 227)) := by rw [Program.fieldsOf, Tryz.underlying227]
  have hp : Tryz.prog.stoodInHeld 227 = false := by kernel_rfl
  have hf : (Tryz.prog.fieldsOf 227).toList = [{ name := "down", type := 3, offset := 0, embedded := false, tag := "", pkgPath := "oyez/hear", byteOffset := 0 }, { name := "right", type := 3, offset := 1, embedded := false, tag := "", pkgPath := "oyez/hear", byteOffset := 8 }] := by rw [Program.fieldsOf, Tryz.underlying227]
  simp only [binOp, Op.equal, Op.maxDepth, Sem.run_bind, run_equalIn_struct w 9999 227 _ _ hu hp, hf]
  simp (config := {decide := true}) [Op.eqFields, part, go_sem, Tryz.isAgg3]
  by_cases h0 : x0 = y0 <;> by_cases h1 : x1 = y1 <;> simp [h0, h1, go_sem]
def gk_103 (k : List Bool) : Prop := k.length = 24
def lit_103 (k : List Bool) : List Lit := k.map Lit.bool
theorem gf_103 (k : List Bool) (h : gk_103 k) : ((fun k : List Bool => Value.agg (arr cB k)) k).formed Tryz.prog 103 = true := by unfold gk_103 at h; obtain ⟨a0_0, a0_1, a0_2, a0_3, a0_4, a0_5, a0_6, a0_7, a0_8, a0_9, a0_10, a0_11, a0_12, a0_13, a0_14, a0_15, a0_16, a0_17, a0_18, a0_19, a0_20, a0_21, a0_22, a0_23, rfl⟩ := len_24 h; kernel_rfl
theorem gl_103 (k : List Bool) (h : gk_103 k) : Tryz.prog.keyLits 10 103 ((fun k : List Bool => Value.agg (arr cB k)) k).cells.toList = some (lit_103 k) := by unfold gk_103 at h; obtain ⟨a0_0, a0_1, a0_2, a0_3, a0_4, a0_5, a0_6, a0_7, a0_8, a0_9, a0_10, a0_11, a0_12, a0_13, a0_14, a0_15, a0_16, a0_17, a0_18, a0_19, a0_20, a0_21, a0_22, a0_23, rfl⟩ := len_24 h; kernel_rfl
theorem gi_103 (x y : List Bool) (h : lit_103 x = lit_103 y) : x = y := by
  unfold lit_103 at h
  exact map_bool_inj h
theorem eqd_103 (x y : List Bool) (gx : gk_103 x) (gy : gk_103 y) (w : World) : (Op.equal 103 ((fun k : List Bool => Value.agg (arr cB k)) x) ((fun k : List Bool => Value.agg (arr cB k)) y)).run Tryz.prog w = .ok (decide (x = y)) w := eq_deep (G := gk_103) (ek := (fun k : List Bool => Value.agg (arr cB k))) (lits := lit_103) (m := 10) (D := 10) (by kernel_rfl) (by decide) gf_103 gl_103 gi_103 gx gy w
theorem eqg_103 : ∀ x y a b w, (eqGuard .eql 103 x y (.agg a) (.agg b)).run Tryz.prog w = .ok () w := by intros; simp [eqGuard, go_sem]
theorem fa_105_0 : ∀ a w, (Instr.fieldAt 105 (.pointer (some a)) 0).run Tryz.prog w = .ok (.pointer (some (a.add 0))) w := by intro a w; simp [Instr.fieldAt, go_sem, Instr.sureAddr, fieldPlace]
theorem fa_105_1 : ∀ a w, (Instr.fieldAt 105 (.pointer (some a)) 1).run Tryz.prog w = .ok (.pointer (some (a.add 24))) w := by intro a w; simp [Instr.fieldAt, go_sem, Instr.sureAddr, fieldPlace]
theorem fa_110_0 : ∀ a w, (Instr.fieldAt 110 (.pointer (some a)) 0).run Tryz.prog w = .ok (.pointer (some (a.add 0))) w := by intro a w; simp [Instr.fieldAt, go_sem, Instr.sureAddr, fieldPlace]
theorem fa_171_0 : ∀ a w, (Instr.fieldAt 171 (.pointer (some a)) 0).run Tryz.prog w = .ok (.pointer (some (a.add 0))) w := by intro a w; simp [Instr.fieldAt, go_sem, Instr.sureAddr, fieldPlace]
theorem fa_218_0 : ∀ a w, (Instr.fieldAt 218 (.pointer (some a)) 0).run Tryz.prog w = .ok (.pointer (some (a.add 0))) w := by intro a w; simp [Instr.fieldAt, go_sem, Instr.sureAddr, fieldPlace]
theorem fa_218_1 : ∀ a w, (Instr.fieldAt 218 (.pointer (some a)) 1).run Tryz.prog w = .ok (.pointer (some (a.add 1))) w := by intro a w; simp [Instr.fieldAt, go_sem, Instr.sureAddr, fieldPlace]
theorem fa_220_0 : ∀ a w, (Instr.fieldAt 220 (.pointer (some a)) 0).run Tryz.prog w = .ok (.pointer (some (a.add 0))) w := by intro a w; simp [Instr.fieldAt, go_sem, Instr.sureAddr, fieldPlace]
theorem fa_220_1 : ∀ a w, (Instr.fieldAt 220 (.pointer (some a)) 1).run Tryz.prog w = .ok (.pointer (some (a.add 25))) w := by intro a w; simp [Instr.fieldAt, go_sem, Instr.sureAddr, fieldPlace]
theorem fa_227_0 : ∀ a w, (Instr.fieldAt 227 (.pointer (some a)) 0).run Tryz.prog w = .ok (.pointer (some (a.add 0))) w := by intro a w; simp [Instr.fieldAt, go_sem, Instr.sureAddr, fieldPlace]
theorem fa_227_1 : ∀ a w, (Instr.fieldAt 227 (.pointer (some a)) 1).run Tryz.prog w = .ok (.pointer (some (a.add 1))) w := by intro a w; simp [Instr.fieldAt, go_sem, Instr.sureAddr, fieldPlace]
theorem fa_229_0 : ∀ a w, (Instr.fieldAt 229 (.pointer (some a)) 0).run Tryz.prog w = .ok (.pointer (some (a.add 0))) w := by intro a w; simp [Instr.fieldAt, go_sem, Instr.sureAddr, fieldPlace]
theorem fa_229_1 : ∀ a w, (Instr.fieldAt 229 (.pointer (some a)) 1).run Tryz.prog w = .ok (.pointer (some (a.add 2))) w := by intro a w; simp [Instr.fieldAt, go_sem, Instr.sureAddr, fieldPlace]
theorem fa_229_2 : ∀ a w, (Instr.fieldAt 229 (.pointer (some a)) 2).run Tryz.prog w = .ok (.pointer (some (a.add 4))) w := by intro a w; simp [Instr.fieldAt, go_sem, Instr.sureAddr, fieldPlace]
theorem fa_27_0 : ∀ a w, (Instr.fieldAt 27 (.pointer (some a)) 0).run Tryz.prog w = .ok (.pointer (some (a.add 0))) w := by intro a w; simp [Instr.fieldAt, go_sem, Instr.sureAddr, fieldPlace]
theorem fa_27_1 : ∀ a w, (Instr.fieldAt 27 (.pointer (some a)) 1).run Tryz.prog w = .ok (.pointer (some (a.add 1))) w := by intro a w; simp [Instr.fieldAt, go_sem, Instr.sureAddr, fieldPlace]
theorem fa_27_2 : ∀ a w, (Instr.fieldAt 27 (.pointer (some a)) 2).run Tryz.prog w = .ok (.pointer (some (a.add 2))) w := by intro a w; simp [Instr.fieldAt, go_sem, Instr.sureAddr, fieldPlace]
theorem fa_27_3 : ∀ a w, (Instr.fieldAt 27 (.pointer (some a)) 3).run Tryz.prog w = .ok (.pointer (some (a.add 3))) w := by intro a w; simp [Instr.fieldAt, go_sem, Instr.sureAddr, fieldPlace]
theorem fa_27_4 : ∀ a w, (Instr.fieldAt 27 (.pointer (some a)) 4).run Tryz.prog w = .ok (.pointer (some (a.add 4))) w := by intro a w; simp [Instr.fieldAt, go_sem, Instr.sureAddr, fieldPlace]
theorem fa_36_0 : ∀ a w, (Instr.fieldAt 36 (.pointer (some a)) 0).run Tryz.prog w = .ok (.pointer (some (a.add 0))) w := by intro a w; simp [Instr.fieldAt, go_sem, Instr.sureAddr, fieldPlace]
theorem fa_36_1 : ∀ a w, (Instr.fieldAt 36 (.pointer (some a)) 1).run Tryz.prog w = .ok (.pointer (some (a.add 1))) w := by intro a w; simp [Instr.fieldAt, go_sem, Instr.sureAddr, fieldPlace]
theorem fa_36_2 : ∀ a w, (Instr.fieldAt 36 (.pointer (some a)) 2).run Tryz.prog w = .ok (.pointer (some (a.add 2))) w := by intro a w; simp [Instr.fieldAt, go_sem, Instr.sureAddr, fieldPlace]
theorem fa_56_0 : ∀ a w, (Instr.fieldAt 56 (.pointer (some a)) 0).run Tryz.prog w = .ok (.pointer (some (a.add 0))) w := by intro a w; simp [Instr.fieldAt, go_sem, Instr.sureAddr, fieldPlace]
theorem fa_56_1 : ∀ a w, (Instr.fieldAt 56 (.pointer (some a)) 1).run Tryz.prog w = .ok (.pointer (some (a.add 1))) w := by intro a w; simp [Instr.fieldAt, go_sem, Instr.sureAddr, fieldPlace]
theorem fa_60_0 : ∀ a w, (Instr.fieldAt 60 (.pointer (some a)) 0).run Tryz.prog w = .ok (.pointer (some (a.add 0))) w := by intro a w; simp [Instr.fieldAt, go_sem, Instr.sureAddr, fieldPlace]
theorem fa_60_1 : ∀ a w, (Instr.fieldAt 60 (.pointer (some a)) 1).run Tryz.prog w = .ok (.pointer (some (a.add 1))) w := by intro a w; simp [Instr.fieldAt, go_sem, Instr.sureAddr, fieldPlace]
theorem fa_67_0 : ∀ a w, (Instr.fieldAt 67 (.pointer (some a)) 0).run Tryz.prog w = .ok (.pointer (some (a.add 0))) w := by intro a w; simp [Instr.fieldAt, go_sem, Instr.sureAddr, fieldPlace]
theorem fa_67_1 : ∀ a w, (Instr.fieldAt 67 (.pointer (some a)) 1).run Tryz.prog w = .ok (.pointer (some (a.add 1))) w := by intro a w; simp [Instr.fieldAt, go_sem, Instr.sureAddr, fieldPlace]
theorem fa_67_2 : ∀ a w, (Instr.fieldAt 67 (.pointer (some a)) 2).run Tryz.prog w = .ok (.pointer (some (a.add 2))) w := by intro a w; simp [Instr.fieldAt, go_sem, Instr.sureAddr, fieldPlace]
theorem fa_95_0 : ∀ a w, (Instr.fieldAt 95 (.pointer (some a)) 0).run Tryz.prog w = .ok (.pointer (some (a.add 0))) w := by intro a w; simp [Instr.fieldAt, go_sem, Instr.sureAddr, fieldPlace]
theorem fa_95_1 : ∀ a w, (Instr.fieldAt 95 (.pointer (some a)) 1).run Tryz.prog w = .ok (.pointer (some (a.add 1))) w := by intro a w; simp [Instr.fieldAt, go_sem, Instr.sureAddr, fieldPlace]
theorem fa_95_2 : ∀ a w, (Instr.fieldAt 95 (.pointer (some a)) 2).run Tryz.prog w = .ok (.pointer (some (a.add 2))) w := by intro a w; simp [Instr.fieldAt, go_sem, Instr.sureAddr, fieldPlace]
theorem ixa_161 {xs : List Int} (hn : xs.length = 8) {i : Int} (g : 0 ≤ i ∧ i < (xs.length : Int)) {x : Int} (hx : xs[i.toNat]? = some x) : ∀ w, (Instr.index 161 (.agg (arr (cI .i64) xs)) (.int .i64 i)).run Tryz.prog w = .ok ((Value.int .i64) x) w := ix_arr Tryz.underlying161 (fun _ => rfl) Tryz.isAgg3 Tryz.sizeOf3 hn g hx
theorem slt_139 : SlTy Tryz.prog 139 37 1 (.int .i64 0) 8 := SlTy.mk' Tryz.underlying139 (by kernel_rfl) rfl (by decide)
theorem slt_163 : SlTy Tryz.prog 163 161 8 (.agg #[.int .i64 0, .int .i64 0, .int .i64 0, .int .i64 0, .int .i64 0, .int .i64 0, .int .i64 0, .int .i64 0]) 64 := SlTy.mk' Tryz.underlying163 (by kernel_rfl) rfl (by decide)
theorem slt_215 : SlTy Tryz.prog 215 220 26 (.agg #[.int .i64 0, .bool false, .bool false, .bool false, .bool false, .bool false, .bool false, .bool false, .bool false, .bool false, .bool false, .bool false, .bool false, .bool false, .bool false, .bool false, .bool false, .bool false, .bool false, .bool false, .bool false, .bool false, .bool false, .bool false, .bool false, .slice none 0 0]) 56 := SlTy.mk' Tryz.underlying215 (by kernel_rfl) rfl (by decide)
theorem slt_23 : SlTy Tryz.prog 23 49 1 (.slice none 0 0) 24 := SlTy.mk' Tryz.underlying23 (by kernel_rfl) rfl (by decide)
theorem slt_24 : SlTy Tryz.prog 24 3 1 (.int .i64 0) 8 := SlTy.mk' Tryz.underlying24 (by kernel_rfl) rfl (by decide)
theorem slt_242 : SlTy Tryz.prog 242 227 2 (.agg #[.int .i64 0, .int .i64 0]) 16 := SlTy.mk' Tryz.underlying242 (by kernel_rfl) rfl (by decide)
theorem slt_25 : SlTy Tryz.prog 25 67 3 (.agg #[.int .i64 0, .int .i64 0, .int .i64 0]) 24 := SlTy.mk' Tryz.underlying25 (by kernel_rfl) rfl (by decide)
theorem slt_32 : SlTy Tryz.prog 32 36 3 (.agg #[.int .i64 0, .int .i64 0, .bool false]) 24 := SlTy.mk' Tryz.underlying32 (by kernel_rfl) rfl (by decide)
theorem slt_49 : SlTy Tryz.prog 49 24 1 (.slice none 0 0) 24 := SlTy.mk' Tryz.underlying49 (by kernel_rfl) rfl (by decide)
theorem slt_54 : SlTy Tryz.prog 54 62 1 (.int .i64 0) 8 := SlTy.mk' Tryz.underlying54 (by kernel_rfl) rfl (by decide)
theorem slt_63 : SlTy Tryz.prog 63 58 1 (.int .i64 0) 8 := SlTy.mk' Tryz.underlying63 (by kernel_rfl) rfl (by decide)
theorem slt_68 : SlTy Tryz.prog 68 71 1 (.slice none 0 0) 24 := SlTy.mk' Tryz.underlying68 (by kernel_rfl) rfl (by decide)
theorem slt_71 : SlTy Tryz.prog 71 72 1 (.int .i64 0) 8 := SlTy.mk' Tryz.underlying71 (by kernel_rfl) rfl (by decide)
theorem slt_97 : SlTy Tryz.prog 97 105 25 (.agg #[.bool false, .bool false, .bool false, .bool false, .bool false, .bool false, .bool false, .bool false, .bool false, .bool false, .bool false, .bool false, .bool false, .bool false, .bool false, .bool false, .bool false, .bool false, .bool false, .bool false, .bool false, .bool false, .bool false, .bool false, .slice none 0 0]) 48 := SlTy.mk' Tryz.underlying97 (by kernel_rfl) rfl (by decide)
def gk_218 (k : Int × (List Bool)) : Prop := R64 k.1 ∧ k.2.length = 24
def lit_218 (k : Int × (List Bool)) : List Lit := [Lit.int .i64 k.1] ++ (k.2.map Lit.bool)
theorem gf_218 (k : Int × (List Bool)) (h : gk_218 k) : ((vA (cP (cI .i64) (cA cB))) k).formed Tryz.prog 218 = true := by unfold gk_218 at h; obtain ⟨h0, h1⟩ := h; obtain ⟨x0, x1⟩ := k; obtain ⟨a1_0, a1_1, a1_2, a1_3, a1_4, a1_5, a1_6, a1_7, a1_8, a1_9, a1_10, a1_11, a1_12, a1_13, a1_14, a1_15, a1_16, a1_17, a1_18, a1_19, a1_20, a1_21, a1_22, a1_23, rfl⟩ := len_24 h1; kernel_rfl
theorem gl_218 (k : Int × (List Bool)) (h : gk_218 k) : Tryz.prog.keyLits 10 218 ((vA (cP (cI .i64) (cA cB))) k).cells.toList = some (lit_218 k) := by unfold gk_218 at h; obtain ⟨h0, h1⟩ := h; obtain ⟨x0, x1⟩ := k; obtain ⟨a1_0, a1_1, a1_2, a1_3, a1_4, a1_5, a1_6, a1_7, a1_8, a1_9, a1_10, a1_11, a1_12, a1_13, a1_14, a1_15, a1_16, a1_17, a1_18, a1_19, a1_20, a1_21, a1_22, a1_23, rfl⟩ := len_24 h1; exact keyLits_struct_ok (ls := [[Lit.int .i64 x0], [Lit.bool a1_0, Lit.bool a1_1, Lit.bool a1_2, Lit.bool a1_3, Lit.bool a1_4, Lit.bool a1_5, Lit.bool a1_6, Lit.bool a1_7, Lit.bool a1_8, Lit.bool a1_9, Lit.bool a1_10, Lit.bool a1_11, Lit.bool a1_12, Lit.bool a1_13, Lit.bool a1_14, Lit.bool a1_15, Lit.bool a1_16, Lit.bool a1_17, Lit.bool a1_18, Lit.bool a1_19, Lit.bool a1_20, Lit.bool a1_21, Lit.bool a1_22, Lit.bool a1_23]]) Tryz.underlying218 (by kernel_rfl) (by kernel_rfl) (.cons (keyLits_part (l := [.int .i64 x0]) (by kernel_rfl) (keyLits_int_ok Tryz.underlying3 (wf64 h0))) (.cons (keyLits_part (l := [.bool a1_0, .bool a1_1, .bool a1_2, .bool a1_3, .bool a1_4, .bool a1_5, .bool a1_6, .bool a1_7, .bool a1_8, .bool a1_9, .bool a1_10, .bool a1_11, .bool a1_12, .bool a1_13, .bool a1_14, .bool a1_15, .bool a1_16, .bool a1_17, .bool a1_18, .bool a1_19, .bool a1_20, .bool a1_21, .bool a1_22, .bool a1_23]) (by kernel_rfl) ((by kernel_rfl))) .nil)) (by simp [lit_218])
theorem gs_218 (k : Int × (List Bool)) (h : gk_218 k) : Instr.sameBits 10000 ((vA (cP (cI .i64) (cA cB))) k) ((vA (cP (cI .i64) (cA cB))) k) = true := by unfold gk_218 at h; obtain ⟨h0, h1⟩ := h; obtain ⟨x0, x1⟩ := k; obtain ⟨a1_0, a1_1, a1_2, a1_3, a1_4, a1_5, a1_6, a1_7, a1_8, a1_9, a1_10, a1_11, a1_12, a1_13, a1_14, a1_15, a1_16, a1_17, a1_18, a1_19, a1_20, a1_21, a1_22, a1_23, rfl⟩ := len_24 h1; simp [vA, cP, cI, cB, cA, Instr.sameBits]
theorem gi_218 (x y : Int × (List Bool)) (h : lit_218 x = lit_218 y) : x = y := by
  obtain ⟨x0, x1⟩ := x; obtain ⟨y0, y1⟩ := y
  unfold lit_218 at h
  have e0 := (fun q => (Lit.int.inj q).2) (List.cons.inj h).1
  have t0 := (List.cons.inj h).2
  have e1 := map_bool_inj t0
  subst e0 e1; rfl
theorem key_218 : KeyOKP Tryz.prog 218 gk_218 (vA (cP (cI .i64) (cA cB))) := keyOKP_deep (lits := lit_218) (m := 10) (D := 10) (by kernel_rfl) (by kernel_rfl) (by decide) gf_218 gl_218 gi_218 gs_218
end Go.Proofs.YtodhcoakjlmcdaaGreat
