/- Facts on types, printed by a program of mine. -/
import Derived.Test.YtodhcoakjlmcdaaProg
import Derived.Test.YtodhcoakjlmcdaaZFShU
import Derived.Test.YtodhcoakjlmcdaaZFTd
namespace Go.Proofs.Ytodhcoakjlmcdaa
open Go.SH Go.PL
theorem len_24 {α : Type} {xs : List α} (h : xs.length = 24) : ∃ a0 a1 a2 a3 a4 a5 a6 a7 a8 a9 a10 a11 a12 a13 a14 a15 a16 a17 a18 a19 a20 a21 a22 a23, xs = [a0, a1, a2, a3, a4, a5, a6, a7, a8, a9, a10, a11, a12, a13, a14, a15, a16, a17, a18, a19, a20, a21, a22, a23] := by
  obtain ⟨a0, xs, rfl, h0⟩ := len_s h
  obtain ⟨a1, xs, rfl, h1⟩ := len_s h0
  obtain ⟨a2, xs, rfl, h2⟩ := len_s h1
  obtain ⟨a3, xs, rfl, h3⟩ := len_s h2
  obtain ⟨a4, xs, rfl, h4⟩ := len_s h3
  obtain ⟨a5, xs, rfl, h5⟩ := len_s h4
  obtain ⟨a6, xs, rfl, h6⟩ := len_s h5
  obtain ⟨a7, xs, rfl, h7⟩ := len_s h6
  obtain ⟨a8, xs, rfl, h8⟩ := len_s h7
  obtain ⟨a9, xs, rfl, h9⟩ := len_s h8
  obtain ⟨a10, xs, rfl, h10⟩ := len_s h9
  obtain ⟨a11, xs, rfl, h11⟩ := len_s h10
  obtain ⟨a12, xs, rfl, h12⟩ := len_s h11
  obtain ⟨a13, xs, rfl, h13⟩ := len_s h12
  obtain ⟨a14, xs, rfl, h14⟩ := len_s h13
  obtain ⟨a15, xs, rfl, h15⟩ := len_s h14
  obtain ⟨a16, xs, rfl, h16⟩ := len_s h15
  obtain ⟨a17, xs, rfl, h17⟩ := len_s h16
  obtain ⟨a18, xs, rfl, h18⟩ := len_s h17
  obtain ⟨a19, xs, rfl, h19⟩ := len_s h18
  obtain ⟨a20, xs, rfl, h20⟩ := len_s h19
  obtain ⟨a21, xs, rfl, h21⟩ := len_s h20
  obtain ⟨a22, xs, rfl, h22⟩ := len_s h21
  obtain ⟨a23, xs, rfl, h23⟩ := len_s h22
  obtain rfl := len_0 h23
  exact ⟨a0, a1, a2, a3, a4, a5, a6, a7, a8, a9, a10, a11, a12, a13, a14, a15, a16, a17, a18, a19, a20, a21, a22, a23, rfl⟩
def gk_93 (k : List Bool) : Prop := k.length = 24
def lit_93 (k : List Bool) : List Lit := k.map Lit.bool
theorem gf_93 (k : List Bool) (h : gk_93 k) : ((fun k : List Bool => Value.agg (arr cB k)) k).formed Try.prog 93 = true := by unfold gk_93 at h; obtain ⟨a0_0, a0_1, a0_2, a0_3, a0_4, a0_5, a0_6, a0_7, a0_8, a0_9, a0_10, a0_11, a0_12, a0_13, a0_14, a0_15, a0_16, a0_17, a0_18, a0_19, a0_20, a0_21, a0_22, a0_23, rfl⟩ := len_24 h; kernel_rfl
theorem gl_93 (k : List Bool) (h : gk_93 k) : Try.prog.keyLits 10 93 ((fun k : List Bool => Value.agg (arr cB k)) k).cells.toList = some (lit_93 k) := by unfold gk_93 at h; obtain ⟨a0_0, a0_1, a0_2, a0_3, a0_4, a0_5, a0_6, a0_7, a0_8, a0_9, a0_10, a0_11, a0_12, a0_13, a0_14, a0_15, a0_16, a0_17, a0_18, a0_19, a0_20, a0_21, a0_22, a0_23, rfl⟩ := len_24 h; kernel_rfl
theorem gi_93 (x y : List Bool) (h : lit_93 x = lit_93 y) : x = y := by
  unfold lit_93 at h
  exact map_bool_inj h
theorem eqd_93 (x y : List Bool) (gx : gk_93 x) (gy : gk_93 y) (w : World) : (Op.equal 93 ((fun k : List Bool => Value.agg (arr cB k)) x) ((fun k : List Bool => Value.agg (arr cB k)) y)).run Try.prog w = .ok (decide (x = y)) w := eq_deep (G := gk_93) (ek := (fun k : List Bool => Value.agg (arr cB k))) (lits := lit_93) (m := 10) (D := 10) (by kernel_rfl) (by decide) gf_93 gl_93 gi_93 gx gy w
theorem eqg_93 : ∀ x y a b w, (eqGuard .eql 93 x y (.agg a) (.agg b)).run Try.prog w = .ok () w := by intros; simp [eqGuard, go_sem]
theorem fa_114_0 : ∀ a w, (Instr.fieldAt 114 (.pointer (some a)) 0).run Try.prog w = .ok (.pointer (some (a.add 0))) w := by intro a w; simp [Instr.fieldAt, go_sem, Instr.sureAddr, fieldPlace]
theorem fa_117_0 : ∀ a w, (Instr.fieldAt 117 (.pointer (some a)) 0).run Try.prog w = .ok (.pointer (some (a.add 0))) w := by intro a w; simp [Instr.fieldAt, go_sem, Instr.sureAddr, fieldPlace]
theorem fa_138_0 : ∀ a w, (Instr.fieldAt 138 (.pointer (some a)) 0).run Try.prog w = .ok (.pointer (some (a.add 0))) w := by intro a w; simp [Instr.fieldAt, go_sem, Instr.sureAddr, fieldPlace]
theorem fa_138_1 : ∀ a w, (Instr.fieldAt 138 (.pointer (some a)) 1).run Try.prog w = .ok (.pointer (some (a.add 1))) w := by intro a w; simp [Instr.fieldAt, go_sem, Instr.sureAddr, fieldPlace]
theorem fa_140_0 : ∀ a w, (Instr.fieldAt 140 (.pointer (some a)) 0).run Try.prog w = .ok (.pointer (some (a.add 0))) w := by intro a w; simp [Instr.fieldAt, go_sem, Instr.sureAddr, fieldPlace]
theorem fa_140_1 : ∀ a w, (Instr.fieldAt 140 (.pointer (some a)) 1).run Try.prog w = .ok (.pointer (some (a.add 25))) w := by intro a w; simp [Instr.fieldAt, go_sem, Instr.sureAddr, fieldPlace]
theorem fa_27_0 : ∀ a w, (Instr.fieldAt 27 (.pointer (some a)) 0).run Try.prog w = .ok (.pointer (some (a.add 0))) w := by intro a w; simp [Instr.fieldAt, go_sem, Instr.sureAddr, fieldPlace]
theorem fa_27_1 : ∀ a w, (Instr.fieldAt 27 (.pointer (some a)) 1).run Try.prog w = .ok (.pointer (some (a.add 1))) w := by intro a w; simp [Instr.fieldAt, go_sem, Instr.sureAddr, fieldPlace]
theorem fa_27_2 : ∀ a w, (Instr.fieldAt 27 (.pointer (some a)) 2).run Try.prog w = .ok (.pointer (some (a.add 2))) w := by intro a w; simp [Instr.fieldAt, go_sem, Instr.sureAddr, fieldPlace]
theorem fa_27_3 : ∀ a w, (Instr.fieldAt 27 (.pointer (some a)) 3).run Try.prog w = .ok (.pointer (some (a.add 3))) w := by intro a w; simp [Instr.fieldAt, go_sem, Instr.sureAddr, fieldPlace]
theorem fa_27_4 : ∀ a w, (Instr.fieldAt 27 (.pointer (some a)) 4).run Try.prog w = .ok (.pointer (some (a.add 4))) w := by intro a w; simp [Instr.fieldAt, go_sem, Instr.sureAddr, fieldPlace]
theorem fa_34_0 : ∀ a w, (Instr.fieldAt 34 (.pointer (some a)) 0).run Try.prog w = .ok (.pointer (some (a.add 0))) w := by intro a w; simp [Instr.fieldAt, go_sem, Instr.sureAddr, fieldPlace]
theorem fa_34_1 : ∀ a w, (Instr.fieldAt 34 (.pointer (some a)) 1).run Try.prog w = .ok (.pointer (some (a.add 1))) w := by intro a w; simp [Instr.fieldAt, go_sem, Instr.sureAddr, fieldPlace]
theorem fa_34_2 : ∀ a w, (Instr.fieldAt 34 (.pointer (some a)) 2).run Try.prog w = .ok (.pointer (some (a.add 2))) w := by intro a w; simp [Instr.fieldAt, go_sem, Instr.sureAddr, fieldPlace]
theorem fa_77_0 : ∀ a w, (Instr.fieldAt 77 (.pointer (some a)) 0).run Try.prog w = .ok (.pointer (some (a.add 0))) w := by intro a w; simp [Instr.fieldAt, go_sem, Instr.sureAddr, fieldPlace]
theorem fa_77_1 : ∀ a w, (Instr.fieldAt 77 (.pointer (some a)) 1).run Try.prog w = .ok (.pointer (some (a.add 1))) w := by intro a w; simp [Instr.fieldAt, go_sem, Instr.sureAddr, fieldPlace]
theorem fa_77_2 : ∀ a w, (Instr.fieldAt 77 (.pointer (some a)) 2).run Try.prog w = .ok (.pointer (some (a.add 2))) w := by intro a w; simp [Instr.fieldAt, go_sem, Instr.sureAddr, fieldPlace]
theorem fa_83_0 : ∀ a w, (Instr.fieldAt 83 (.pointer (some a)) 0).run Try.prog w = .ok (.pointer (some (a.add 0))) w := by intro a w; simp [Instr.fieldAt, go_sem, Instr.sureAddr, fieldPlace]
theorem fa_83_1 : ∀ a w, (Instr.fieldAt 83 (.pointer (some a)) 1).run Try.prog w = .ok (.pointer (some (a.add 1))) w := by intro a w; simp [Instr.fieldAt, go_sem, Instr.sureAddr, fieldPlace]
theorem fa_83_2 : ∀ a w, (Instr.fieldAt 83 (.pointer (some a)) 2).run Try.prog w = .ok (.pointer (some (a.add 2))) w := by intro a w; simp [Instr.fieldAt, go_sem, Instr.sureAddr, fieldPlace]
theorem fa_95_0 : ∀ a w, (Instr.fieldAt 95 (.pointer (some a)) 0).run Try.prog w = .ok (.pointer (some (a.add 0))) w := by intro a w; simp [Instr.fieldAt, go_sem, Instr.sureAddr, fieldPlace]
theorem fa_95_1 : ∀ a w, (Instr.fieldAt 95 (.pointer (some a)) 1).run Try.prog w = .ok (.pointer (some (a.add 24))) w := by intro a w; simp [Instr.fieldAt, go_sem, Instr.sureAddr, fieldPlace]
theorem ixa_98 {xs : List Int} (hn : xs.length = 8) {i : Int} (g : 0 ≤ i ∧ i < (xs.length : Int)) {x : Int} (hx : xs[i.toNat]? = some x) : ∀ w, (Instr.index 98 (.agg (arr (cI .i64) xs)) (.int .i64 i)).run Try.prog w = .ok ((Value.int .i64) x) w := ix_arr Try.underlying98 (fun _ => rfl) Try.isAgg3 Try.sizeOf3 hn g hx
theorem slt_100 : SlTy Try.prog 100 98 8 (.agg #[.int .i64 0, .int .i64 0, .int .i64 0, .int .i64 0, .int .i64 0, .int .i64 0, .int .i64 0, .int .i64 0]) 64 := SlTy.mk' Try.underlying100 (by kernel_rfl) rfl (by decide)
theorem slt_105 : SlTy Try.prog 105 77 3 (.agg #[.int .i64 0, .int .i64 0, .bool false]) 24 := SlTy.mk' Try.underlying105 (by kernel_rfl) rfl (by decide)
theorem slt_135 : SlTy Try.prog 135 140 26 (.agg #[.int .i64 0, .bool false, .bool false, .bool false, .bool false, .bool false, .bool false, .bool false, .bool false, .bool false, .bool false, .bool false, .bool false, .bool false, .bool false, .bool false, .bool false, .bool false, .bool false, .bool false, .bool false, .bool false, .bool false, .bool false, .bool false, .slice none 0 0]) 56 := SlTy.mk' Try.underlying135 (by kernel_rfl) rfl (by decide)
theorem slt_23 : SlTy Try.prog 23 42 1 (.slice none 0 0) 24 := SlTy.mk' Try.underlying23 (by kernel_rfl) rfl (by decide)
theorem slt_24 : SlTy Try.prog 24 3 1 (.int .i64 0) 8 := SlTy.mk' Try.underlying24 (by kernel_rfl) rfl (by decide)
theorem slt_25 : SlTy Try.prog 25 34 3 (.agg #[.int .i64 0, .int .i64 0, .int .i64 0]) 24 := SlTy.mk' Try.underlying25 (by kernel_rfl) rfl (by decide)
theorem slt_36 : SlTy Try.prog 36 47 1 (.slice none 0 0) 24 := SlTy.mk' Try.underlying36 (by kernel_rfl) rfl (by decide)
theorem slt_42 : SlTy Try.prog 42 24 1 (.slice none 0 0) 24 := SlTy.mk' Try.underlying42 (by kernel_rfl) rfl (by decide)
theorem slt_47 : SlTy Try.prog 47 48 1 (.int .i64 0) 8 := SlTy.mk' Try.underlying47 (by kernel_rfl) rfl (by decide)
theorem slt_88 : SlTy Try.prog 88 95 25 (.agg #[.bool false, .bool false, .bool false, .bool false, .bool false, .bool false, .bool false, .bool false, .bool false, .bool false, .bool false, .bool false, .bool false, .bool false, .bool false, .bool false, .bool false, .bool false, .bool false, .bool false, .bool false, .bool false, .bool false, .bool false, .slice none 0 0]) 48 := SlTy.mk' Try.underlying88 (by kernel_rfl) rfl (by decide)
def gk_138 (k : Int × (List Bool)) : Prop := R64 k.1 ∧ k.2.length = 24
def lit_138 (k : Int × (List Bool)) : List Lit := [Lit.int .i64 k.1] ++ (k.2.map Lit.bool)
theorem gf_138 (k : Int × (List Bool)) (h : gk_138 k) : ((vA (cP (cI .i64) (cA cB))) k).formed Try.prog 138 = true := by unfold gk_138 at h; obtain ⟨h0, h1⟩ := h; obtain ⟨x0, x1⟩ := k; obtain ⟨a1_0, a1_1, a1_2, a1_3, a1_4, a1_5, a1_6, a1_7, a1_8, a1_9, a1_10, a1_11, a1_12, a1_13, a1_14, a1_15, a1_16, a1_17, a1_18, a1_19, a1_20, a1_21, a1_22, a1_23, rfl⟩ := len_24 h1; kernel_rfl
theorem gl_138 (k : Int × (List Bool)) (h : gk_138 k) : Try.prog.keyLits 10 138 ((vA (cP (cI .i64) (cA cB))) k).cells.toList = some (lit_138 k) := by unfold gk_138 at h; obtain ⟨h0, h1⟩ := h; obtain ⟨x0, x1⟩ := k; obtain ⟨a1_0, a1_1, a1_2, a1_3, a1_4, a1_5, a1_6, a1_7, a1_8, a1_9, a1_10, a1_11, a1_12, a1_13, a1_14, a1_15, a1_16, a1_17, a1_18, a1_19, a1_20, a1_21, a1_22, a1_23, rfl⟩ := len_24 h1; exact keyLits_struct_ok (ls := [[Lit.int .i64 x0], [Lit.bool a1_0, Lit.bool a1_1, Lit.bool a1_2, Lit.bool a1_3, Lit.bool a1_4, Lit.bool a1_5, Lit.bool a1_6, Lit.bool a1_7, Lit.bool a1_8, Lit.bool a1_9, Lit.bool a1_10, Lit.bool a1_11, Lit.bool a1_12, Lit.bool a1_13, Lit.bool a1_14, Lit.bool a1_15, Lit.bool a1_16, Lit.bool a1_17, Lit.bool a1_18, Lit.bool a1_19, Lit.bool a1_20, Lit.bool a1_21, Lit.bool a1_22, Lit.bool a1_23]]) Try.underlying138 (by kernel_rfl) (by kernel_rfl) (.cons (keyLits_part (l := [.int .i64 x0]) (by kernel_rfl) (keyLits_int_ok Try.underlying3 (wf64 h0))) (.cons (keyLits_part (l := [.bool a1_0, .bool a1_1, .bool a1_2, .bool a1_3, .bool a1_4, .bool a1_5, .bool a1_6, .bool a1_7, .bool a1_8, .bool a1_9, .bool a1_10, .bool a1_11, .bool a1_12, .bool a1_13, .bool a1_14, .bool a1_15, .bool a1_16, .bool a1_17, .bool a1_18, .bool a1_19, .bool a1_20, .bool a1_21, .bool a1_22, .bool a1_23]) (by kernel_rfl) ((by kernel_rfl))) .nil)) (by simp [lit_138])
theorem gs_138 (k : Int × (List Bool)) (h : gk_138 k) : Instr.sameBits 10000 ((vA (cP (cI .i64) (cA cB))) k) ((vA (cP (cI .i64) (cA cB))) k) = true := by unfold gk_138 at h; obtain ⟨h0, h1⟩ := h; obtain ⟨x0, x1⟩ := k; obtain ⟨a1_0, a1_1, a1_2, a1_3, a1_4, a1_5, a1_6, a1_7, a1_8, a1_9, a1_10, a1_11, a1_12, a1_13, a1_14, a1_15, a1_16, a1_17, a1_18, a1_19, a1_20, a1_21, a1_22, a1_23, rfl⟩ := len_24 h1; simp [vA, cP, cI, cB, cA, Instr.sameBits]
theorem gi_138 (x y : Int × (List Bool)) (h : lit_138 x = lit_138 y) : x = y := by
  obtain ⟨x0, x1⟩ := x; obtain ⟨y0, y1⟩ := y
  unfold lit_138 at h
  have e0 := (fun q => (Lit.int.inj q).2) (List.cons.inj h).1
  have t0 := (List.cons.inj h).2
  have e1 := map_bool_inj t0
  subst e0 e1; rfl
theorem key_138 : KeyOKP Try.prog 138 gk_138 (vA (cP (cI .i64) (cA cB))) := keyOKP_deep (lits := lit_138) (m := 10) (D := 10) (by kernel_rfl) (by kernel_rfl) (by decide) gf_138 gl_138 gi_138 gs_138
end Go.Proofs.Ytodhcoakjlmcdaa
