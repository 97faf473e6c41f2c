/- Facts on types, printed by a program of mine. -/
import Derived.Test.YtejkgppikpkkpaaGreatProg
import Derived.Test.YtejkgppikpkkpaaGreatZFShT
import Derived.Test.YtejkgppikpkkpaaGreatZFTd
namespace Go.Proofs.YtejkgppikpkkpaaGreat
open Go.SH Go.PL
theorem eq_129 : ∀ (x0 x1 x2 y0 y1 y2 : Int) w, (binOp .eql 129 (.agg #[.int .i64 x0, .int .i64 x1, .int .i64 x2]) (.agg #[.int .i64 y0, .int .i64 y1, .int .i64 y2])).run Tryz.prog w = .ok (.bool (decide (x0 = y0 ∧ x1 = y1 ∧ x2 = y2))) w := by
  intro x0 x1 x2 y0 y1 y2 w
  have hu : Tryz.prog.underlying 129 = some (.struct (Tryz.prog.fieldsOf 129)) := by rw [Program.fieldsOf, Tryz.underlying129]
  have hp : Tryz.prog.stoodInHeld 129 = false := by kernel_rfl
  have hf : (Tryz.prog.fieldsOf 129).toList = [{ name := "from", type := 3, offset := 0, embedded := false, tag := "", pkgPath := "oyez/hear", byteOffset := 0 }, { name := "left", type := 3, offset := 1, embedded := false, tag := "", pkgPath := "oyez/hear", byteOffset := 8 }, { name := "set", type := 3, offset := 2, embedded := false, tag := "", pkgPath := "oyez/hear", byteOffset := 16 }] := by rw [Program.fieldsOf, Tryz.underlying129]
  simp only [binOp, Op.equal, Op.maxDepth, Sem.run_bind, run_equalIn_struct w 9999 129 _ _ hu hp, hf]
  simp (config := {decide := true}) [Op.eqFields, part, go_sem, Tryz.isAgg3]
  by_cases h0 : x0 = y0 <;> by_cases h1 : x1 = y1 <;> by_cases h2 : x2 = y2 <;> simp [h0, h1, h2, go_sem]
theorem eqg_140 : ∀ x y a b w, (eqGuard .eql 140 x y (.agg a) (.agg b)).run Tryz.prog w = .ok () w := by intros; simp [eqGuard, go_sem]
theorem eq_140 : ∀ (x0 x1 y0 y1 : Int) w, (binOp .eql 140 (.agg #[.int .i64 x0, .int .i64 x1]) (.agg #[.int .i64 y0, .int .i64 y1])).run Tryz.prog w = .ok (.bool (decide (x0 = y0 ∧ x1 = y1))) w := by
  intro x0 x1 y0 y1 w
  have hu : Tryz.prog.underlying 140 = some (.struct (Tryz.prog.fieldsOf 140)) := by rw [Program.fieldsOf, Tryz.underlying140]
  have hp : Tryz.prog.stoodInHeld 140 = false := by kernel_rfl
  have hf : (Tryz.prog.fieldsOf 140).toList = [{ name := "down", type := 3, offset := 0, embedded := false, tag := "", pkgPath := "oyez/hear", byteOffset := 0 }, { name := "right", type := 3, offset := 1, embedded := false, tag := "", pkgPath := "oyez/hear", byteOffset := 8 }] := by rw [Program.fieldsOf, Tryz.underlying140]
  simp only [binOp, Op.equal, Op.maxDepth, Sem.run_bind, run_equalIn_struct w 9999 140 _ _ hu hp, hf]
  simp (config := {decide := true}) [Op.eqFields, part, go_sem, Tryz.isAgg3]
  by_cases h0 : x0 = y0 <;> by_cases h1 : x1 = y1 <;> simp [h0, h1, go_sem]
theorem eqga_80 : ∀ x y a b w, (eqGuard .eql 80 x y (.agg a) (.agg b)).run Tryz.prog w = .ok () w := by intros; simp [eqGuard, go_sem]
theorem eqgna_80 : ∀ x y a b w, (eqGuard .neq 80 x y (.agg a) (.agg b)).run Tryz.prog w = .ok () w := by intros; simp [eqGuard, go_sem]
theorem eqa_80 {xs ys : List Bool} (hx : xs.length = 30) (hy : ys.length = 30) : ∀ w, (binOp .eql 80 (.agg (arr cB xs)) (.agg (arr cB ys))).run Tryz.prog w = .ok (.bool (decide (xs = ys))) w := fun w => by
  obtain ⟨i, hi⟩ : ∃ i, Tryz.prog.info? 4 = some i := Option.isSome_iff_exists.1 (by kernel_rfl)
  exact eq_arr (g := Value.bool) Tryz.underlying80 hi (fun _ => rfl) Tryz.isAgg4 (by kernel_rfl) (fun x y w => eqB Tryz.underlying4 x y w) hx hy w
theorem nea_80 {xs ys : List Bool} (hx : xs.length = 30) (hy : ys.length = 30) : ∀ w, (binOp .neq 80 (.agg (arr cB xs)) (.agg (arr cB ys))).run Tryz.prog w = .ok (.bool (decide (¬ xs = ys))) w := fun w => by
  obtain ⟨i, hi⟩ : ∃ i, Tryz.prog.info? 4 = some i := Option.isSome_iff_exists.1 (by kernel_rfl)
  exact ne_arr (g := Value.bool) Tryz.underlying80 hi (fun _ => rfl) Tryz.isAgg4 (by kernel_rfl) (fun x y w => eqB Tryz.underlying4 x y w) hx hy w
theorem fa_129_0 : ∀ a w, (Instr.fieldAt 129 (.pointer (some a)) 0).run Tryz.prog w = .ok (.pointer (some (a.add 0))) w := by intro a w; simp [Instr.fieldAt, go_sem, Instr.sureAddr, fieldPlace]
theorem fa_129_1 : ∀ a w, (Instr.fieldAt 129 (.pointer (some a)) 1).run Tryz.prog w = .ok (.pointer (some (a.add 1))) w := by intro a w; simp [Instr.fieldAt, go_sem, Instr.sureAddr, fieldPlace]
theorem fa_129_2 : ∀ a w, (Instr.fieldAt 129 (.pointer (some a)) 2).run Tryz.prog w = .ok (.pointer (some (a.add 2))) w := by intro a w; simp [Instr.fieldAt, go_sem, Instr.sureAddr, fieldPlace]
theorem fa_140_0 : ∀ a w, (Instr.fieldAt 140 (.pointer (some a)) 0).run Tryz.prog w = .ok (.pointer (some (a.add 0))) w := by intro a w; simp [Instr.fieldAt, go_sem, Instr.sureAddr, fieldPlace]
theorem fa_140_1 : ∀ a w, (Instr.fieldAt 140 (.pointer (some a)) 1).run Tryz.prog w = .ok (.pointer (some (a.add 1))) w := by intro a w; simp [Instr.fieldAt, go_sem, Instr.sureAddr, fieldPlace]
theorem fa_142_0 : ∀ a w, (Instr.fieldAt 142 (.pointer (some a)) 0).run Tryz.prog w = .ok (.pointer (some (a.add 0))) w := by intro a w; simp [Instr.fieldAt, go_sem, Instr.sureAddr, fieldPlace]
theorem fa_142_1 : ∀ a w, (Instr.fieldAt 142 (.pointer (some a)) 1).run Tryz.prog w = .ok (.pointer (some (a.add 2))) w := by intro a w; simp [Instr.fieldAt, go_sem, Instr.sureAddr, fieldPlace]
theorem fa_142_2 : ∀ a w, (Instr.fieldAt 142 (.pointer (some a)) 2).run Tryz.prog w = .ok (.pointer (some (a.add 4))) w := by intro a w; simp [Instr.fieldAt, go_sem, Instr.sureAddr, fieldPlace]
theorem fa_24_0 : ∀ a w, (Instr.fieldAt 24 (.pointer (some a)) 0).run Tryz.prog w = .ok (.pointer (some (a.add 0))) w := by intro a w; simp [Instr.fieldAt, go_sem, Instr.sureAddr, fieldPlace]
theorem fa_24_1 : ∀ a w, (Instr.fieldAt 24 (.pointer (some a)) 1).run Tryz.prog w = .ok (.pointer (some (a.add 1))) w := by intro a w; simp [Instr.fieldAt, go_sem, Instr.sureAddr, fieldPlace]
theorem fa_27_0 : ∀ a w, (Instr.fieldAt 27 (.pointer (some a)) 0).run Tryz.prog w = .ok (.pointer (some (a.add 0))) w := by intro a w; simp [Instr.fieldAt, go_sem, Instr.sureAddr, fieldPlace]
theorem fa_27_1 : ∀ a w, (Instr.fieldAt 27 (.pointer (some a)) 1).run Tryz.prog w = .ok (.pointer (some (a.add 1))) w := by intro a w; simp [Instr.fieldAt, go_sem, Instr.sureAddr, fieldPlace]
theorem fa_34_0 : ∀ a w, (Instr.fieldAt 34 (.pointer (some a)) 0).run Tryz.prog w = .ok (.pointer (some (a.add 0))) w := by intro a w; simp [Instr.fieldAt, go_sem, Instr.sureAddr, fieldPlace]
theorem fa_34_1 : ∀ a w, (Instr.fieldAt 34 (.pointer (some a)) 1).run Tryz.prog w = .ok (.pointer (some (a.add 1))) w := by intro a w; simp [Instr.fieldAt, go_sem, Instr.sureAddr, fieldPlace]
theorem fa_75_0 : ∀ a w, (Instr.fieldAt 75 (.pointer (some a)) 0).run Tryz.prog w = .ok (.pointer (some (a.add 0))) w := by intro a w; simp [Instr.fieldAt, go_sem, Instr.sureAddr, fieldPlace]
theorem fa_75_1 : ∀ a w, (Instr.fieldAt 75 (.pointer (some a)) 1).run Tryz.prog w = .ok (.pointer (some (a.add 1))) w := by intro a w; simp [Instr.fieldAt, go_sem, Instr.sureAddr, fieldPlace]
theorem ixa_80 {xs : List Bool} (hn : xs.length = 30) {i : Int} (g : 0 ≤ i ∧ i < (xs.length : Int)) {x : Bool} (hx : xs[i.toNat]? = some x) : ∀ w, (Instr.index 80 (.agg (arr cB xs)) (.int .i64 i)).run Tryz.prog w = .ok (Value.bool x) w := ix_arr Tryz.underlying80 (fun _ => rfl) Tryz.isAgg4 Tryz.sizeOf4 hn g hx
theorem slt_115 : SlTy Tryz.prog 115 9 1 (.string ⟨#[]⟩) 16 := SlTy.mk' Tryz.underlying115 (by kernel_rfl) rfl (by decide)
theorem slt_143 : SlTy Tryz.prog 143 140 2 (.agg #[.int .i64 0, .int .i64 0]) 16 := SlTy.mk' Tryz.underlying143 (by kernel_rfl) rfl (by decide)
theorem slt_22 : SlTy Tryz.prog 22 61 1 (.int .i64 0) 8 := SlTy.mk' Tryz.underlying22 (by kernel_rfl) rfl (by decide)
theorem slt_28 : SlTy Tryz.prog 28 3 1 (.int .i64 0) 8 := SlTy.mk' Tryz.underlying28 (by kernel_rfl) rfl (by decide)
theorem slt_72 : SlTy Tryz.prog 72 80 30 (.agg #[.bool false, .bool false, .bool false, .bool false, .bool false, .bool false, .bool false, .bool false, .bool false, .bool false, .bool false, .bool false, .bool false, .bool false, .bool false, .bool false, .bool false, .bool false, .bool false, .bool false, .bool false, .bool false, .bool false, .bool false, .bool false, .bool false, .bool false, .bool false, .bool false, .bool false]) 30 := SlTy.mk' Tryz.underlying72 (by kernel_rfl) rfl (by decide)
theorem slt_84 : SlTy Tryz.prog 84 28 1 (.slice none 0 0) 24 := SlTy.mk' Tryz.underlying84 (by kernel_rfl) rfl (by decide)
theorem key_129 : KeyOK Tryz.prog 129 (vA (cP (cI .i64) (cP (cI .i64) (cI .i64)))) := by
  refine keyOK_struct (by kernel_rfl) (fun x y w => ?_) (fun b k w => ?_) (fun k => ?_)
  · obtain ⟨x0, x1, x2⟩ := x; obtain ⟨y0, y1, y2⟩ := y
    exact (equal_of_bin (eq_129 x0 x1 x2 y0 y1 y2 w)).trans (by simp)
  · obtain ⟨k0, k1, k2⟩ := k
    have key : ∀ n, (Instr.checkKey b (n + 2) 129 (.agg #[.int .i64 k0, .int .i64 k1, .int .i64 k2])).run Tryz.prog w = .ok () w := fun n => by
      simp [Instr.checkKey, run_underlying Tryz.underlying129, part, go_sem, Tryz.isAgg3, run_underlying Tryz.underlying3]
    exact key 9998
  · obtain ⟨k0, k1, k2⟩ := k; simp [vA, cP, cI, Instr.sameBits]
theorem strc_strt_0 : (⟨#[0, 1, 2, 2, 3, 3, 3, 3, 4, 4, 4, 4, 4, 4, 4, 4, 5, 5, 5, 5, 5, 5, 5, 5, 5, 5, 5, 5, 5, 5, 5, 5, 6, 6, 6, 6, 6, 6, 6, 6, 6, 6, 6, 6, 6, 6, 6, 6, 6, 6, 6, 6, 6, 6, 6, 6, 6, 6, 6, 6, 6, 6, 6, 6, 7, 7, 7, 7, 7, 7, 7, 7, 7, 7, 7, 7, 7, 7, 7, 7, 7, 7, 7, 7, 7, 7, 7, 7, 7, 7, 7, 7, 7, 7, 7, 7, 7, 7, 7, 7, 7, 7, 7, 7, 7, 7, 7, 7, 7, 7, 7, 7, 7, 7, 7, 7, 7, 7, 7, 7, 7, 7, 7, 7, 7, 7, 7, 7, 8, 8, 8, 8, 8, 8, 8, 8, 8, 8, 8, 8, 8, 8, 8, 8, 8, 8, 8, 8, 8, 8, 8, 8, 8, 8, 8, 8, 8, 8, 8, 8, 8, 8, 8, 8, 8, 8, 8, 8, 8, 8, 8, 8, 8, 8, 8, 8, 8, 8, 8, 8, 8, 8, 8, 8, 8, 8, 8, 8, 8, 8, 8, 8, 8, 8, 8, 8, 8, 8, 8, 8, 8, 8, 8, 8, 8, 8, 8, 8, 8, 8, 8, 8, 8, 8, 8, 8, 8, 8, 8, 8, 8, 8, 8, 8, 8, 8, 8, 8, 8, 8, 8, 8, 8, 8, 8, 8, 8, 8, 8, 8, 8, 8, 8, 8, 8, 8, 8, 8, 8, 8, 8, 8, 8, 8, 8, 8]⟩ : ByteArray) = sB strt_0 := by kernel_rfl
theorem strr_strt_0 : ∀ x ∈ strt_0, 0 ≤ x ∧ x < 256 := by decide +kernel
end Go.Proofs.YtejkgppikpkkpaaGreat
