/- Facts on types, printed by a program of mine. -/
import Derived.Test.YtggpjocmoelpbaaGreatProg
import Derived.Test.YtggpjocmoelpbaaGreatZAShW
import Derived.Test.YtggpjocmoelpbaaGreatZATd
namespace Go.Proofs.YtggpjocmoelpbaaGreat
open Go.SH Go.PL
theorem len_24 {α : Type} {xs : List α} (h : xs.length = 24) : ∃ a0 a1 a2 a3 a4 a5 a6 a7 a8 a9 a10 a11 a12 a13 a14 a15 a16 a17 a18 a19 a20 a21 a22 a23, xs = [a0, a1, a2, a3, a4, a5, a6, a7, a8, a9, a10, a11, a12, a13, a14, a15, a16, a17, a18, a19, a20, a21, a22, a23] := by
  obtain ⟨a0, xs, rfl, h0⟩ := len_s h
  obtain ⟨a1, xs, rfl, h1⟩ := len_s h0
  obtain ⟨a2, xs, rfl, h2⟩ := len_s h1
  obtain ⟨a3, xs, rfl, h3⟩ := len_s h2
  obtain ⟨a4, xs, rfl, h4⟩ := len_s h3
  obtain ⟨a5, xs, rfl, h5⟩ := len_s h4
  obtain ⟨a6, xs, rfl, h6⟩ := len_s h5
  obtain ⟨a7, xs, rfl, h7⟩ := len_s h6
  obtain ⟨a8, xs, rfl, h8⟩ := len_s h7
  obtain ⟨a9, xs, rfl, h9⟩ := len_s h8
  obtain ⟨a10, xs, rfl, h10⟩ := len_s h9
  obtain ⟨a11, xs, rfl, h11⟩ := len_s h10
  obtain ⟨a12, xs, rfl, h12⟩ := len_s h11
  obtain ⟨a13, xs, rfl, h13⟩ := len_s h12
  obtain ⟨a14, xs, rfl, h14⟩ := len_s h13
  obtain ⟨a15, xs, rfl, h15⟩ := len_s h14
  obtain ⟨a16, xs, rfl, h16⟩ := len_s h15
  obtain ⟨a17, xs, rfl, h17⟩ := len_s h16
  obtain ⟨a18, xs, rfl, h18⟩ := len_s h17
  obtain ⟨a19, xs, rfl, h19⟩ := len_s h18
  obtain ⟨a20, xs, rfl, h20⟩ := len_s h19
  obtain ⟨a21, xs, rfl, h21⟩ := len_s h20
  obtain ⟨a22, xs, rfl, h22⟩ := len_s h21
  obtain ⟨a23, xs, rfl, h23⟩ := len_s h22
  obtain rfl := len_0 h23
  exact ⟨a0, a1, a2, a3, a4, a5, a6, a7, a8, a9, a10, a11, a12, a13, a14, a15, a16, a17, a18, a19, a20, a21, a22, a23, rfl⟩
theorem eq_125 : ∀ (x0 x1 y0 y1 : Int) w, (binOp .eql 125 (.agg #[.int .i64 x0, .int .i64 x1]) (.agg #[.int .i64 y0, .int .i64 y1])).run Tryz.prog w = .ok (.bool (decide (x0 = y0 ∧ x1 = y1))) w := by
  intro x0 x1 y0 y1 w
  have hu : Tryz.prog.underlying 125 = some (.struct (Tryz.prog.fieldsOf 125)) := by rw [Program.fieldsOf, Tryz.underlying125]
  have hp : Tryz.prog.stoodInHeld 125 = false := by kernel_rfl
  have hf : (Tryz.prog.fieldsOf 125).toList = [{ name := "stand", type := 3, offset := 0, embedded := false, tag := "", pkgPath := "oyez/round", byteOffset := 0 }, { name := "left", type := 3, offset := 1, embedded := false, tag := "", pkgPath := "oyez/round", byteOffset := 8 }] := by rw [Program.fieldsOf, Tryz.underlying125]
  simp only [binOp, Op.equal, Op.maxDepth, Sem.run_bind, run_equalIn_struct w 9999 125 _ _ hu hp, hf]
  simp (config := {decide := true}) [Op.eqFields, part, go_sem, Tryz.isAgg3]
  by_cases h0 : x0 = y0 <;> by_cases h1 : x1 = y1 <;> simp [h0, h1, go_sem]
def gk_104 (k : List Bool) : Prop := k.length = 24
def lit_104 (k : List Bool) : List Lit := k.map Lit.bool
theorem gf_104 (k : List Bool) (h : gk_104 k) : ((fun k : List Bool => Value.agg (arr cB k)) k).formed Tryz.prog 104 = true := by unfold gk_104 at h; obtain ⟨a0_0, a0_1, a0_2, a0_3, a0_4, a0_5, a0_6, a0_7, a0_8, a0_9, a0_10, a0_11, a0_12, a0_13, a0_14, a0_15, a0_16, a0_17, a0_18, a0_19, a0_20, a0_21, a0_22, a0_23, rfl⟩ := len_24 h; kernel_rfl
theorem gl_104 (k : List Bool) (h : gk_104 k) : Tryz.prog.keyLits 10 104 ((fun k : List Bool => Value.agg (arr cB k)) k).cells.toList = some (lit_104 k) := by unfold gk_104 at h; obtain ⟨a0_0, a0_1, a0_2, a0_3, a0_4, a0_5, a0_6, a0_7, a0_8, a0_9, a0_10, a0_11, a0_12, a0_13, a0_14, a0_15, a0_16, a0_17, a0_18, a0_19, a0_20, a0_21, a0_22, a0_23, rfl⟩ := len_24 h; kernel_rfl
theorem gi_104 (x y : List Bool) (h : lit_104 x = lit_104 y) : x = y := by
  unfold lit_104 at h
  exact map_bool_inj h
theorem eqd_104 (x y : List Bool) (gx : gk_104 x) (gy : gk_104 y) (w : World) : (Op.equal 104 ((fun k : List Bool => Value.agg (arr cB k)) x) ((fun k : List Bool => Value.agg (arr cB k)) y)).run Tryz.prog w = .ok (decide (x = y)) w := eq_deep (G := gk_104) (ek := (fun k : List Bool => Value.agg (arr cB k))) (lits := lit_104) (m := 10) (D := 10) (by kernel_rfl) (by decide) gf_104 gl_104 gi_104 gx gy w
theorem eqg_104 : ∀ x y a b w, (eqGuard .eql 104 x y (.agg a) (.agg b)).run Tryz.prog w = .ok () w := by intros; simp [eqGuard, go_sem]
def gk_111 (k : List Int) : Prop := k.length = 25 ∧ ∀ x ∈ k, R64 x
def lit_111 (k : List Int) : List Lit := k.map (Lit.int .i64)
theorem lenG_25 {α : Type} {xs : List α} (h : xs.length = 25) : ∃ a0 a1 a2 a3 a4 a5 a6 a7 a8 a9 a10 a11 a12 a13 a14 a15 a16 a17 a18 a19 a20 a21 a22 a23 a24, xs = [a0, a1, a2, a3, a4, a5, a6, a7, a8, a9, a10, a11, a12, a13, a14, a15, a16, a17, a18, a19, a20, a21, a22, a23, a24] := by
  obtain ⟨a0, xs, rfl, h0⟩ := len_s h
  obtain ⟨a1, xs, rfl, h1⟩ := len_s h0
  obtain ⟨a2, xs, rfl, h2⟩ := len_s h1
  obtain ⟨a3, xs, rfl, h3⟩ := len_s h2
  obtain ⟨a4, xs, rfl, h4⟩ := len_s h3
  obtain ⟨a5, xs, rfl, h5⟩ := len_s h4
  obtain ⟨a6, xs, rfl, h6⟩ := len_s h5
  obtain ⟨a7, xs, rfl, h7⟩ := len_s h6
  obtain ⟨a8, xs, rfl, h8⟩ := len_s h7
  obtain ⟨a9, xs, rfl, h9⟩ := len_s h8
  obtain ⟨a10, xs, rfl, h10⟩ := len_s h9
  obtain ⟨a11, xs, rfl, h11⟩ := len_s h10
  obtain ⟨a12, xs, rfl, h12⟩ := len_s h11
  obtain ⟨a13, xs, rfl, h13⟩ := len_s h12
  obtain ⟨a14, xs, rfl, h14⟩ := len_s h13
  obtain ⟨a15, xs, rfl, h15⟩ := len_s h14
  obtain ⟨a16, xs, rfl, h16⟩ := len_s h15
  obtain ⟨a17, xs, rfl, h17⟩ := len_s h16
  obtain ⟨a18, xs, rfl, h18⟩ := len_s h17
  obtain ⟨a19, xs, rfl, h19⟩ := len_s h18
  obtain ⟨a20, xs, rfl, h20⟩ := len_s h19
  obtain ⟨a21, xs, rfl, h21⟩ := len_s h20
  obtain ⟨a22, xs, rfl, h22⟩ := len_s h21
  obtain ⟨a23, xs, rfl, h23⟩ := len_s h22
  obtain ⟨a24, xs, rfl, h24⟩ := len_s h23
  obtain rfl := len_0 h24
  exact ⟨a0, a1, a2, a3, a4, a5, a6, a7, a8, a9, a10, a11, a12, a13, a14, a15, a16, a17, a18, a19, a20, a21, a22, a23, a24, rfl⟩
theorem gf_111 (k : List Int) (h : gk_111 k) : ((fun k : List Int => Value.agg (arr (cI .i64) k)) k).formed Tryz.prog 111 = true := by unfold gk_111 at h; obtain ⟨h, _⟩ := h; obtain ⟨a0, a1, a2, a3, a4, a5, a6, a7, a8, a9, a10, a11, a12, a13, a14, a15, a16, a17, a18, a19, a20, a21, a22, a23, a24, rfl⟩ := lenG_25 h; kernel_rfl
theorem gl_111 (k : List Int) (h : gk_111 k) : Tryz.prog.keyLits 10 111 ((fun k : List Int => Value.agg (arr (cI .i64) k)) k).cells.toList = some (lit_111 k) := by
  unfold gk_111 at h; unfold lit_111
  have e : (Value.agg (arr (cI .i64) k)).cells.toList = k.map (Value.int .i64) := by show (arr (cI .i64) k).toList = _; unfold arr; exact flat_cI k
  rw [e]
  exact keyLits_grid (d := 7) (n := 5) (m := 5) Tryz.underlying111 Tryz.underlying109 Tryz.underlying3 (by kernel_rfl) (by kernel_rfl) (by kernel_rfl) h.1 fun x hx => wf64 (h.2 x hx)
theorem gi_111 (x y : List Int) (h : lit_111 x = lit_111 y) : x = y := map_int_inj h
theorem eqd_111 (x y : List Int) (gx : gk_111 x) (gy : gk_111 y) (w : World) : (Op.equal 111 ((fun k : List Int => Value.agg (arr (cI .i64) k)) x) ((fun k : List Int => Value.agg (arr (cI .i64) k)) y)).run Tryz.prog w = .ok (decide (x = y)) w := eq_deep (G := gk_111) (ek := (fun k : List Int => Value.agg (arr (cI .i64) k))) (lits := lit_111) (m := 10) (D := 10) (by kernel_rfl) (by decide) gf_111 gl_111 gi_111 gx gy w
theorem eqgn_111 : ∀ x y a b w, (eqGuard .neq 111 x y (.agg a) (.agg b)).run Tryz.prog w = .ok () w := by intros; simp [eqGuard, go_sem]
theorem fa_106_0 : ∀ a w, (Instr.fieldAt 106 (.pointer (some a)) 0).run Tryz.prog w = .ok (.pointer (some (a.add 0))) w := by intro a w; simp [Instr.fieldAt, go_sem, Instr.sureAddr, fieldPlace]
theorem fa_106_1 : ∀ a w, (Instr.fieldAt 106 (.pointer (some a)) 1).run Tryz.prog w = .ok (.pointer (some (a.add 24))) w := by intro a w; simp [Instr.fieldAt, go_sem, Instr.sureAddr, fieldPlace]
theorem fa_116_0 : ∀ a w, (Instr.fieldAt 116 (.pointer (some a)) 0).run Tryz.prog w = .ok (.pointer (some (a.add 0))) w := by intro a w; simp [Instr.fieldAt, go_sem, Instr.sureAddr, fieldPlace]
theorem fa_116_1 : ∀ a w, (Instr.fieldAt 116 (.pointer (some a)) 1).run Tryz.prog w = .ok (.pointer (some (a.add 5))) w := by intro a w; simp [Instr.fieldAt, go_sem, Instr.sureAddr, fieldPlace]
theorem fa_116_2 : ∀ a w, (Instr.fieldAt 116 (.pointer (some a)) 2).run Tryz.prog w = .ok (.pointer (some (a.add 30))) w := by intro a w; simp [Instr.fieldAt, go_sem, Instr.sureAddr, fieldPlace]
theorem fa_116_3 : ∀ a w, (Instr.fieldAt 116 (.pointer (some a)) 3).run Tryz.prog w = .ok (.pointer (some (a.add 31))) w := by intro a w; simp [Instr.fieldAt, go_sem, Instr.sureAddr, fieldPlace]
theorem fa_125_1 : ∀ a w, (Instr.fieldAt 125 (.pointer (some a)) 1).run Tryz.prog w = .ok (.pointer (some (a.add 1))) w := by intro a w; simp [Instr.fieldAt, go_sem, Instr.sureAddr, fieldPlace]
theorem fa_127_0 : ∀ a w, (Instr.fieldAt 127 (.pointer (some a)) 0).run Tryz.prog w = .ok (.pointer (some (a.add 0))) w := by intro a w; simp [Instr.fieldAt, go_sem, Instr.sureAddr, fieldPlace]
theorem fa_127_1 : ∀ a w, (Instr.fieldAt 127 (.pointer (some a)) 1).run Tryz.prog w = .ok (.pointer (some (a.add 1))) w := by intro a w; simp [Instr.fieldAt, go_sem, Instr.sureAddr, fieldPlace]
theorem fa_127_2 : ∀ a w, (Instr.fieldAt 127 (.pointer (some a)) 2).run Tryz.prog w = .ok (.pointer (some (a.add 3))) w := by intro a w; simp [Instr.fieldAt, go_sem, Instr.sureAddr, fieldPlace]
theorem fa_152_0 : ∀ a w, (Instr.fieldAt 152 (.pointer (some a)) 0).run Tryz.prog w = .ok (.pointer (some (a.add 0))) w := by intro a w; simp [Instr.fieldAt, go_sem, Instr.sureAddr, fieldPlace]
theorem fa_157_0 : ∀ a w, (Instr.fieldAt 157 (.pointer (some a)) 0).run Tryz.prog w = .ok (.pointer (some (a.add 0))) w := by intro a w; simp [Instr.fieldAt, go_sem, Instr.sureAddr, fieldPlace]
theorem fa_177_0 : ∀ a w, (Instr.fieldAt 177 (.pointer (some a)) 0).run Tryz.prog w = .ok (.pointer (some (a.add 0))) w := by intro a w; simp [Instr.fieldAt, go_sem, Instr.sureAddr, fieldPlace]
theorem fa_177_1 : ∀ a w, (Instr.fieldAt 177 (.pointer (some a)) 1).run Tryz.prog w = .ok (.pointer (some (a.add 1))) w := by intro a w; simp [Instr.fieldAt, go_sem, Instr.sureAddr, fieldPlace]
theorem fa_179_0 : ∀ a w, (Instr.fieldAt 179 (.pointer (some a)) 0).run Tryz.prog w = .ok (.pointer (some (a.add 0))) w := by intro a w; simp [Instr.fieldAt, go_sem, Instr.sureAddr, fieldPlace]
theorem fa_179_1 : ∀ a w, (Instr.fieldAt 179 (.pointer (some a)) 1).run Tryz.prog w = .ok (.pointer (some (a.add 25))) w := by intro a w; simp [Instr.fieldAt, go_sem, Instr.sureAddr, fieldPlace]
theorem fa_26_0 : ∀ a w, (Instr.fieldAt 26 (.pointer (some a)) 0).run Tryz.prog w = .ok (.pointer (some (a.add 0))) w := by intro a w; simp [Instr.fieldAt, go_sem, Instr.sureAddr, fieldPlace]
theorem fa_26_1 : ∀ a w, (Instr.fieldAt 26 (.pointer (some a)) 1).run Tryz.prog w = .ok (.pointer (some (a.add 1))) w := by intro a w; simp [Instr.fieldAt, go_sem, Instr.sureAddr, fieldPlace]
theorem fa_26_2 : ∀ a w, (Instr.fieldAt 26 (.pointer (some a)) 2).run Tryz.prog w = .ok (.pointer (some (a.add 2))) w := by intro a w; simp [Instr.fieldAt, go_sem, Instr.sureAddr, fieldPlace]
theorem fa_26_3 : ∀ a w, (Instr.fieldAt 26 (.pointer (some a)) 3).run Tryz.prog w = .ok (.pointer (some (a.add 3))) w := by intro a w; simp [Instr.fieldAt, go_sem, Instr.sureAddr, fieldPlace]
theorem fa_26_4 : ∀ a w, (Instr.fieldAt 26 (.pointer (some a)) 4).run Tryz.prog w = .ok (.pointer (some (a.add 4))) w := by intro a w; simp [Instr.fieldAt, go_sem, Instr.sureAddr, fieldPlace]
theorem fa_43_0 : ∀ a w, (Instr.fieldAt 43 (.pointer (some a)) 0).run Tryz.prog w = .ok (.pointer (some (a.add 0))) w := by intro a w; simp [Instr.fieldAt, go_sem, Instr.sureAddr, fieldPlace]
theorem fa_43_1 : ∀ a w, (Instr.fieldAt 43 (.pointer (some a)) 1).run Tryz.prog w = .ok (.pointer (some (a.add 1))) w := by intro a w; simp [Instr.fieldAt, go_sem, Instr.sureAddr, fieldPlace]
theorem fa_43_2 : ∀ a w, (Instr.fieldAt 43 (.pointer (some a)) 2).run Tryz.prog w = .ok (.pointer (some (a.add 2))) w := by intro a w; simp [Instr.fieldAt, go_sem, Instr.sureAddr, fieldPlace]
theorem fa_43_3 : ∀ a w, (Instr.fieldAt 43 (.pointer (some a)) 3).run Tryz.prog w = .ok (.pointer (some (a.add 3))) w := by intro a w; simp [Instr.fieldAt, go_sem, Instr.sureAddr, fieldPlace]
theorem fa_43_4 : ∀ a w, (Instr.fieldAt 43 (.pointer (some a)) 4).run Tryz.prog w = .ok (.pointer (some (a.add 4))) w := by intro a w; simp [Instr.fieldAt, go_sem, Instr.sureAddr, fieldPlace]
theorem fa_47_0 : ∀ a w, (Instr.fieldAt 47 (.pointer (some a)) 0).run Tryz.prog w = .ok (.pointer (some (a.add 0))) w := by intro a w; simp [Instr.fieldAt, go_sem, Instr.sureAddr, fieldPlace]
theorem fa_47_1 : ∀ a w, (Instr.fieldAt 47 (.pointer (some a)) 1).run Tryz.prog w = .ok (.pointer (some (a.add 1))) w := by intro a w; simp [Instr.fieldAt, go_sem, Instr.sureAddr, fieldPlace]
theorem fa_49_0 : ∀ a w, (Instr.fieldAt 49 (.pointer (some a)) 0).run Tryz.prog w = .ok (.pointer (some (a.add 0))) w := by intro a w; simp [Instr.fieldAt, go_sem, Instr.sureAddr, fieldPlace]
theorem fa_49_1 : ∀ a w, (Instr.fieldAt 49 (.pointer (some a)) 1).run Tryz.prog w = .ok (.pointer (some (a.add 1))) w := by intro a w; simp [Instr.fieldAt, go_sem, Instr.sureAddr, fieldPlace]
theorem fa_49_2 : ∀ a w, (Instr.fieldAt 49 (.pointer (some a)) 2).run Tryz.prog w = .ok (.pointer (some (a.add 2))) w := by intro a w; simp [Instr.fieldAt, go_sem, Instr.sureAddr, fieldPlace]
theorem fa_58_0 : ∀ a w, (Instr.fieldAt 58 (.pointer (some a)) 0).run Tryz.prog w = .ok (.pointer (some (a.add 0))) w := by intro a w; simp [Instr.fieldAt, go_sem, Instr.sureAddr, fieldPlace]
theorem fa_58_1 : ∀ a w, (Instr.fieldAt 58 (.pointer (some a)) 1).run Tryz.prog w = .ok (.pointer (some (a.add 1))) w := by intro a w; simp [Instr.fieldAt, go_sem, Instr.sureAddr, fieldPlace]
theorem fa_58_2 : ∀ a w, (Instr.fieldAt 58 (.pointer (some a)) 2).run Tryz.prog w = .ok (.pointer (some (a.add 2))) w := by intro a w; simp [Instr.fieldAt, go_sem, Instr.sureAddr, fieldPlace]
theorem fa_61_0 : ∀ a w, (Instr.fieldAt 61 (.pointer (some a)) 0).run Tryz.prog w = .ok (.pointer (some (a.add 0))) w := by intro a w; simp [Instr.fieldAt, go_sem, Instr.sureAddr, fieldPlace]
theorem fa_61_1 : ∀ a w, (Instr.fieldAt 61 (.pointer (some a)) 1).run Tryz.prog w = .ok (.pointer (some (a.add 1))) w := by intro a w; simp [Instr.fieldAt, go_sem, Instr.sureAddr, fieldPlace]
theorem fa_61_2 : ∀ a w, (Instr.fieldAt 61 (.pointer (some a)) 2).run Tryz.prog w = .ok (.pointer (some (a.add 2))) w := by intro a w; simp [Instr.fieldAt, go_sem, Instr.sureAddr, fieldPlace]
theorem fa_68_0 : ∀ a w, (Instr.fieldAt 68 (.pointer (some a)) 0).run Tryz.prog w = .ok (.pointer (some (a.add 0))) w := by intro a w; simp [Instr.fieldAt, go_sem, Instr.sureAddr, fieldPlace]
theorem fa_68_1 : ∀ a w, (Instr.fieldAt 68 (.pointer (some a)) 1).run Tryz.prog w = .ok (.pointer (some (a.add 1))) w := by intro a w; simp [Instr.fieldAt, go_sem, Instr.sureAddr, fieldPlace]
theorem fa_68_2 : ∀ a w, (Instr.fieldAt 68 (.pointer (some a)) 2).run Tryz.prog w = .ok (.pointer (some (a.add 2))) w := by intro a w; simp [Instr.fieldAt, go_sem, Instr.sureAddr, fieldPlace]
theorem fa_77_0 : ∀ a w, (Instr.fieldAt 77 (.pointer (some a)) 0).run Tryz.prog w = .ok (.pointer (some (a.add 0))) w := by intro a w; simp [Instr.fieldAt, go_sem, Instr.sureAddr, fieldPlace]
theorem ixa_137 {xs : List Int} (hn : xs.length = 8) {i : Int} (g : 0 ≤ i ∧ i < (xs.length : Int)) {x : Int} (hx : xs[i.toNat]? = some x) : ∀ w, (Instr.index 137 (.agg (arr (cI .i64) xs)) (.int .i64 i)).run Tryz.prog w = .ok ((Value.int .i64) x) w := ix_arr Tryz.underlying137 (fun _ => rfl) Tryz.isAgg3 Tryz.sizeOf3 hn g hx
theorem slt_112 : SlTy Tryz.prog 112 123 2 (.agg #[.int .i64 0, .int .i64 0]) 16 := SlTy.mk' Tryz.underlying112 (by kernel_rfl) rfl (by decide)
theorem slt_139 : SlTy Tryz.prog 139 137 8 (.agg #[.int .i64 0, .int .i64 0, .int .i64 0, .int .i64 0, .int .i64 0, .int .i64 0, .int .i64 0, .int .i64 0]) 64 := SlTy.mk' Tryz.underlying139 (by kernel_rfl) rfl (by decide)
theorem slt_174 : SlTy Tryz.prog 174 179 26 (.agg #[.int .i64 0, .bool false, .bool false, .bool false, .bool false, .bool false, .bool false, .bool false, .bool false, .bool false, .bool false, .bool false, .bool false, .bool false, .bool false, .bool false, .bool false, .bool false, .bool false, .bool false, .bool false, .bool false, .bool false, .bool false, .bool false, .slice none 0 0]) 56 := SlTy.mk' Tryz.underlying174 (by kernel_rfl) rfl (by decide)
theorem slt_23 : SlTy Tryz.prog 23 35 1 (.slice none 0 0) 24 := SlTy.mk' Tryz.underlying23 (by kernel_rfl) rfl (by decide)
theorem slt_24 : SlTy Tryz.prog 24 61 3 (.agg #[.slice none 0 0, .int .i64 0, .int .i64 0]) 40 := SlTy.mk' Tryz.underlying24 (by kernel_rfl) rfl (by decide)
theorem slt_30 : SlTy Tryz.prog 30 47 2 (.agg #[.int .i64 0, .int .i64 0]) 16 := SlTy.mk' Tryz.underlying30 (by kernel_rfl) rfl (by decide)
theorem slt_35 : SlTy Tryz.prog 35 3 1 (.int .i64 0) 8 := SlTy.mk' Tryz.underlying35 (by kernel_rfl) rfl (by decide)
theorem slt_40 : SlTy Tryz.prog 40 23 1 (.slice none 0 0) 24 := SlTy.mk' Tryz.underlying40 (by kernel_rfl) rfl (by decide)
theorem slt_41 : SlTy Tryz.prog 41 49 3 (.agg #[.int .i64 0, .int .i64 0, .int .i64 0]) 24 := SlTy.mk' Tryz.underlying41 (by kernel_rfl) rfl (by decide)
theorem slt_50 : SlTy Tryz.prog 50 53 1 (.slice none 0 0) 24 := SlTy.mk' Tryz.underlying50 (by kernel_rfl) rfl (by decide)
theorem slt_53 : SlTy Tryz.prog 53 54 1 (.int .i64 0) 8 := SlTy.mk' Tryz.underlying53 (by kernel_rfl) rfl (by decide)
theorem slt_87 : SlTy Tryz.prog 87 58 3 (.agg #[.int .i64 0, .int .i64 0, .bool false]) 24 := SlTy.mk' Tryz.underlying87 (by kernel_rfl) rfl (by decide)
theorem slt_99 : SlTy Tryz.prog 99 106 25 (.agg #[.bool false, .bool false, .bool false, .bool false, .bool false, .bool false, .bool false, .bool false, .bool false, .bool false, .bool false, .bool false, .bool false, .bool false, .bool false, .bool false, .bool false, .bool false, .bool false, .bool false, .bool false, .bool false, .bool false, .bool false, .slice none 0 0]) 48 := SlTy.mk' Tryz.underlying99 (by kernel_rfl) rfl (by decide)
theorem key_125 : KeyOK Tryz.prog 125 (vA (cP (cI .i64) (cI .i64))) := by
  refine keyOK_struct (by kernel_rfl) (fun x y w => ?_) (fun b k w => ?_) (fun k => ?_)
  · obtain ⟨x0, x1⟩ := x; obtain ⟨y0, y1⟩ := y
    exact (equal_of_bin (eq_125 x0 x1 y0 y1 w)).trans (by simp)
  · obtain ⟨k0, k1⟩ := k
    have key : ∀ n, (Instr.checkKey b (n + 2) 125 (.agg #[.int .i64 k0, .int .i64 k1])).run Tryz.prog w = .ok () w := fun n => by
      simp [Instr.checkKey, run_underlying Tryz.underlying125, part, go_sem, Tryz.isAgg3, run_underlying Tryz.underlying3]
    exact key 9998
  · obtain ⟨k0, k1⟩ := k; simp [vA, cP, cI, Instr.sameBits]
def gk_177 (k : Int × (List Bool)) : Prop := R64 k.1 ∧ k.2.length = 24
def lit_177 (k : Int × (List Bool)) : List Lit := [Lit.int .i64 k.1] ++ (k.2.map Lit.bool)
theorem gf_177 (k : Int × (List Bool)) (h : gk_177 k) : ((vA (cP (cI .i64) (cA cB))) k).formed Tryz.prog 177 = true := by unfold gk_177 at h; obtain ⟨h0, h1⟩ := h; obtain ⟨x0, x1⟩ := k; obtain ⟨a1_0, a1_1, a1_2, a1_3, a1_4, a1_5, a1_6, a1_7, a1_8, a1_9, a1_10, a1_11, a1_12, a1_13, a1_14, a1_15, a1_16, a1_17, a1_18, a1_19, a1_20, a1_21, a1_22, a1_23, rfl⟩ := len_24 h1; kernel_rfl
theorem gl_177 (k : Int × (List Bool)) (h : gk_177 k) : Tryz.prog.keyLits 10 177 ((vA (cP (cI .i64) (cA cB))) k).cells.toList = some (lit_177 k) := by unfold gk_177 at h; obtain ⟨h0, h1⟩ := h; obtain ⟨x0, x1⟩ := k; obtain ⟨a1_0, a1_1, a1_2, a1_3, a1_4, a1_5, a1_6, a1_7, a1_8, a1_9, a1_10, a1_11, a1_12, a1_13, a1_14, a1_15, a1_16, a1_17, a1_18, a1_19, a1_20, a1_21, a1_22, a1_23, rfl⟩ := len_24 h1; exact keyLits_struct_ok (ls := [[Lit.int .i64 x0], [Lit.bool a1_0, Lit.bool a1_1, Lit.bool a1_2, Lit.bool a1_3, Lit.bool a1_4, Lit.bool a1_5, Lit.bool a1_6, Lit.bool a1_7, Lit.bool a1_8, Lit.bool a1_9, Lit.bool a1_10, Lit.bool a1_11, Lit.bool a1_12, Lit.bool a1_13, Lit.bool a1_14, Lit.bool a1_15, Lit.bool a1_16, Lit.bool a1_17, Lit.bool a1_18, Lit.bool a1_19, Lit.bool a1_20, Lit.bool a1_21, Lit.bool a1_22, Lit.bool a1_23]]) Tryz.underlying177 (by kernel_rfl) (by kernel_rfl) (.cons (keyLits_part (l := [.int .i64 x0]) (by kernel_rfl) (keyLits_int_ok Tryz.underlying3 (wf64 h0))) (.cons (keyLits_part (l := [.bool a1_0, .bool a1_1, .bool a1_2, .bool a1_3, .bool a1_4, .bool a1_5, .bool a1_6, .bool a1_7, .bool a1_8, .bool a1_9, .bool a1_10, .bool a1_11, .bool a1_12, .bool a1_13, .bool a1_14, .bool a1_15, .bool a1_16, .bool a1_17, .bool a1_18, .bool a1_19, .bool a1_20, .bool a1_21, .bool a1_22, .bool a1_23]) (by kernel_rfl) ((by kernel_rfl))) .nil)) (by simp [lit_177])
theorem gs_177 (k : Int × (List Bool)) (h : gk_177 k) : Instr.sameBits 10000 ((vA (cP (cI .i64) (cA cB))) k) ((vA (cP (cI .i64) (cA cB))) k) = true := by unfold gk_177 at h; obtain ⟨h0, h1⟩ := h; obtain ⟨x0, x1⟩ := k; obtain ⟨a1_0, a1_1, a1_2, a1_3, a1_4, a1_5, a1_6, a1_7, a1_8, a1_9, a1_10, a1_11, a1_12, a1_13, a1_14, a1_15, a1_16, a1_17, a1_18, a1_19, a1_20, a1_21, a1_22, a1_23, rfl⟩ := len_24 h1; simp [vA, cP, cI, cB, cA, Instr.sameBits]
theorem gi_177 (x y : Int × (List Bool)) (h : lit_177 x = lit_177 y) : x = y := by
  obtain ⟨x0, x1⟩ := x; obtain ⟨y0, y1⟩ := y
  unfold lit_177 at h
  have e0 := (fun q => (Lit.int.inj q).2) (List.cons.inj h).1
  have t0 := (List.cons.inj h).2
  have e1 := map_bool_inj t0
  subst e0 e1; rfl
theorem key_177 : KeyOKP Tryz.prog 177 gk_177 (vA (cP (cI .i64) (cA cB))) := keyOKP_deep (lits := lit_177) (m := 10) (D := 10) (by kernel_rfl) (by kernel_rfl) (by decide) gf_177 gl_177 gi_177 gs_177
theorem strc_strt_0 : (⟨#[0, 1, 2, 2, 3, 3, 3, 3, 4, 4, 4, 4, 4, 4, 4, 4, 5, 5, 5, 5, 5, 5, 5, 5, 5, 5, 5, 5, 5, 5, 5, 5, 6, 6, 6, 6, 6, 6, 6, 6, 6, 6, 6, 6, 6, 6, 6, 6, 6, 6, 6, 6, 6, 6, 6, 6, 6, 6, 6, 6, 6, 6, 6, 6, 7, 7, 7, 7, 7, 7, 7, 7, 7, 7, 7, 7, 7, 7, 7, 7, 7, 7, 7, 7, 7, 7, 7, 7, 7, 7, 7, 7, 7, 7, 7, 7, 7, 7, 7, 7, 7, 7, 7, 7, 7, 7, 7, 7, 7, 7, 7, 7, 7, 7, 7, 7, 7, 7, 7, 7, 7, 7, 7, 7, 7, 7, 7, 7, 8, 8, 8, 8, 8, 8, 8, 8, 8, 8, 8, 8, 8, 8, 8, 8, 8, 8, 8, 8, 8, 8, 8, 8, 8, 8, 8, 8, 8, 8, 8, 8, 8, 8, 8, 8, 8, 8, 8, 8, 8, 8, 8, 8, 8, 8, 8, 8, 8, 8, 8, 8, 8, 8, 8, 8, 8, 8, 8, 8, 8, 8, 8, 8, 8, 8, 8, 8, 8, 8, 8, 8, 8, 8, 8, 8, 8, 8, 8, 8, 8, 8, 8, 8, 8, 8, 8, 8, 8, 8, 8, 8, 8, 8, 8, 8, 8, 8, 8, 8, 8, 8, 8, 8, 8, 8, 8, 8, 8, 8, 8, 8, 8, 8, 8, 8, 8, 8, 8, 8, 8, 8, 8, 8, 8, 8, 8, 8]⟩ : ByteArray) = sB strt_0 := by kernel_rfl
theorem strr_strt_0 : ∀ x ∈ strt_0, 0 ≤ x ∧ x < 256 := by decide +kernel
end Go.Proofs.YtggpjocmoelpbaaGreat
