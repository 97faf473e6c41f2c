/- Facts on types, printed by a program of mine. -/
import Derived.Test.YtejkgppikpkkpaaProg
import Derived.Test.YtejkgppikpkkpaaZMShT
import Derived.Test.YtejkgppikpkkpaaZMTd
namespace Go.Proofs.Ytejkgppikpkkpaa
open Go.SH Go.PL
theorem eqg_111 : ∀ x y a b w, (eqGuard .eql 111 x y (.agg a) (.agg b)).run Try.prog w = .ok () w := by intros; simp [eqGuard, go_sem]
theorem eq_111 : ∀ (x0 x1 y0 y1 : Int) w, (binOp .eql 111 (.agg #[.int .i64 x0, .int .i64 x1]) (.agg #[.int .i64 y0, .int .i64 y1])).run Try.prog w = .ok (.bool (decide (x0 = y0 ∧ x1 = y1))) w := by
  intro x0 x1 y0 y1 w
  have hu : Try.prog.underlying 111 = some (.struct (Try.prog.fieldsOf 111)) := by rw [Program.fieldsOf, Try.underlying111]
  have hp : Try.prog.stoodInHeld 111 = false := by kernel_rfl
  have hf : (Try.prog.fieldsOf 111).toList = [{ name := "down", type := 3, offset := 0, embedded := false, tag := "", pkgPath := "oyez/hear", byteOffset := 0 }, { name := "right", type := 3, offset := 1, embedded := false, tag := "", pkgPath := "oyez/hear", byteOffset := 8 }] := by rw [Program.fieldsOf, Try.underlying111]
  simp only [binOp, Op.equal, Op.maxDepth, Sem.run_bind, run_equalIn_struct w 9999 111 _ _ hu hp, hf]
  simp (config := {decide := true}) [Op.eqFields, part, go_sem, Try.isAgg3]
  by_cases h0 : x0 = y0 <;> by_cases h1 : x1 = y1 <;> simp [h0, h1, go_sem]
theorem eq_122 : ∀ (x0 x1 x2 y0 y1 y2 : Int) w, (binOp .eql 122 (.agg #[.int .i64 x0, .int .i64 x1, .int .i64 x2]) (.agg #[.int .i64 y0, .int .i64 y1, .int .i64 y2])).run Try.prog w = .ok (.bool (decide (x0 = y0 ∧ x1 = y1 ∧ x2 = y2))) w := by
  intro x0 x1 x2 y0 y1 y2 w
  have hu : Try.prog.underlying 122 = some (.struct (Try.prog.fieldsOf 122)) := by rw [Program.fieldsOf, Try.underlying122]
  have hp : Try.prog.stoodInHeld 122 = false := by kernel_rfl
  have hf : (Try.prog.fieldsOf 122).toList = [{ name := "from", type := 3, offset := 0, embedded := false, tag := "", pkgPath := "oyez/hear", byteOffset := 0 }, { name := "left", type := 3, offset := 1, embedded := false, tag := "", pkgPath := "oyez/hear", byteOffset := 8 }, { name := "set", type := 3, offset := 2, embedded := false, tag := "", pkgPath := "oyez/hear", byteOffset := 16 }] := by rw [Program.fieldsOf, Try.underlying122]
  simp only [binOp, Op.equal, Op.maxDepth, Sem.run_bind, run_equalIn_struct w 9999 122 _ _ hu hp, hf]
  simp (config := {decide := true}) [Op.eqFields, part, go_sem, Try.isAgg3]
  by_cases h0 : x0 = y0 <;> by_cases h1 : x1 = y1 <;> by_cases h2 : x2 = y2 <;> simp [h0, h1, h2, go_sem]
theorem eqga_82 : ∀ x y a b w, (eqGuard .eql 82 x y (.agg a) (.agg b)).run Try.prog w = .ok () w := by intros; simp [eqGuard, go_sem]
theorem eqgna_82 : ∀ x y a b w, (eqGuard .neq 82 x y (.agg a) (.agg b)).run Try.prog w = .ok () w := by intros; simp [eqGuard, go_sem]
theorem eqa_82 {xs ys : List Bool} (hx : xs.length = 30) (hy : ys.length = 30) : ∀ w, (binOp .eql 82 (.agg (arr cB xs)) (.agg (arr cB ys))).run Try.prog w = .ok (.bool (decide (xs = ys))) w := fun w => by
  obtain ⟨i, hi⟩ : ∃ i, Try.prog.info? 4 = some i := Option.isSome_iff_exists.1 (by kernel_rfl)
  exact eq_arr (g := Value.bool) Try.underlying82 hi (fun _ => rfl) Try.isAgg4 (by kernel_rfl) (fun x y w => eqB Try.underlying4 x y w) hx hy w
theorem nea_82 {xs ys : List Bool} (hx : xs.length = 30) (hy : ys.length = 30) : ∀ w, (binOp .neq 82 (.agg (arr cB xs)) (.agg (arr cB ys))).run Try.prog w = .ok (.bool (decide (¬ xs = ys))) w := fun w => by
  obtain ⟨i, hi⟩ : ∃ i, Try.prog.info? 4 = some i := Option.isSome_iff_exists.1 (by kernel_rfl)
  exact ne_arr (g := Value.bool) Try.underlying82 hi (fun _ => rfl) Try.isAgg4 (by kernel_rfl) (fun x y w => eqB Try.underlying4 x y w) hx hy w
theorem fa_111_0 : ∀ a w, (Instr.fieldAt 111 (.pointer (some a)) 0).run Try.prog w = .ok (.pointer (some (a.add 0))) w := by intro a w; simp [Instr.fieldAt, go_sem, Instr.sureAddr, fieldPlace]
theorem fa_111_1 : ∀ a w, (Instr.fieldAt 111 (.pointer (some a)) 1).run Try.prog w = .ok (.pointer (some (a.add 1))) w := by intro a w; simp [Instr.fieldAt, go_sem, Instr.sureAddr, fieldPlace]
theorem fa_113_0 : ∀ a w, (Instr.fieldAt 113 (.pointer (some a)) 0).run Try.prog w = .ok (.pointer (some (a.add 0))) w := by intro a w; simp [Instr.fieldAt, go_sem, Instr.sureAddr, fieldPlace]
theorem fa_113_1 : ∀ a w, (Instr.fieldAt 113 (.pointer (some a)) 1).run Try.prog w = .ok (.pointer (some (a.add 2))) w := by intro a w; simp [Instr.fieldAt, go_sem, Instr.sureAddr, fieldPlace]
theorem fa_113_2 : ∀ a w, (Instr.fieldAt 113 (.pointer (some a)) 2).run Try.prog w = .ok (.pointer (some (a.add 4))) w := by intro a w; simp [Instr.fieldAt, go_sem, Instr.sureAddr, fieldPlace]
theorem fa_122_0 : ∀ a w, (Instr.fieldAt 122 (.pointer (some a)) 0).run Try.prog w = .ok (.pointer (some (a.add 0))) w := by intro a w; simp [Instr.fieldAt, go_sem, Instr.sureAddr, fieldPlace]
theorem fa_122_1 : ∀ a w, (Instr.fieldAt 122 (.pointer (some a)) 1).run Try.prog w = .ok (.pointer (some (a.add 1))) w := by intro a w; simp [Instr.fieldAt, go_sem, Instr.sureAddr, fieldPlace]
theorem fa_122_2 : ∀ a w, (Instr.fieldAt 122 (.pointer (some a)) 2).run Try.prog w = .ok (.pointer (some (a.add 2))) w := by intro a w; simp [Instr.fieldAt, go_sem, Instr.sureAddr, fieldPlace]
theorem fa_27_0 : ∀ a w, (Instr.fieldAt 27 (.pointer (some a)) 0).run Try.prog w = .ok (.pointer (some (a.add 0))) w := by intro a w; simp [Instr.fieldAt, go_sem, Instr.sureAddr, fieldPlace]
theorem fa_27_1 : ∀ a w, (Instr.fieldAt 27 (.pointer (some a)) 1).run Try.prog w = .ok (.pointer (some (a.add 1))) w := by intro a w; simp [Instr.fieldAt, go_sem, Instr.sureAddr, fieldPlace]
theorem fa_31_0 : ∀ a w, (Instr.fieldAt 31 (.pointer (some a)) 0).run Try.prog w = .ok (.pointer (some (a.add 0))) w := by intro a w; simp [Instr.fieldAt, go_sem, Instr.sureAddr, fieldPlace]
theorem fa_31_1 : ∀ a w, (Instr.fieldAt 31 (.pointer (some a)) 1).run Try.prog w = .ok (.pointer (some (a.add 1))) w := by intro a w; simp [Instr.fieldAt, go_sem, Instr.sureAddr, fieldPlace]
theorem fa_69_0 : ∀ a w, (Instr.fieldAt 69 (.pointer (some a)) 0).run Try.prog w = .ok (.pointer (some (a.add 0))) w := by intro a w; simp [Instr.fieldAt, go_sem, Instr.sureAddr, fieldPlace]
theorem fa_69_1 : ∀ a w, (Instr.fieldAt 69 (.pointer (some a)) 1).run Try.prog w = .ok (.pointer (some (a.add 1))) w := by intro a w; simp [Instr.fieldAt, go_sem, Instr.sureAddr, fieldPlace]
theorem fa_69_2 : ∀ a w, (Instr.fieldAt 69 (.pointer (some a)) 2).run Try.prog w = .ok (.pointer (some (a.add 2))) w := by intro a w; simp [Instr.fieldAt, go_sem, Instr.sureAddr, fieldPlace]
theorem fa_77_0 : ∀ a w, (Instr.fieldAt 77 (.pointer (some a)) 0).run Try.prog w = .ok (.pointer (some (a.add 0))) w := by intro a w; simp [Instr.fieldAt, go_sem, Instr.sureAddr, fieldPlace]
theorem fa_77_1 : ∀ a w, (Instr.fieldAt 77 (.pointer (some a)) 1).run Try.prog w = .ok (.pointer (some (a.add 1))) w := by intro a w; simp [Instr.fieldAt, go_sem, Instr.sureAddr, fieldPlace]
theorem ixa_82 {xs : List Bool} (hn : xs.length = 30) {i : Int} (g : 0 ≤ i ∧ i < (xs.length : Int)) {x : Bool} (hx : xs[i.toNat]? = some x) : ∀ w, (Instr.index 82 (.agg (arr cB xs)) (.int .i64 i)).run Try.prog w = .ok (Value.bool x) w := ix_arr Try.underlying82 (fun _ => rfl) Try.isAgg4 Try.sizeOf4 hn g hx
theorem slt_124 : SlTy Try.prog 124 9 1 (.string ⟨#[]⟩) 16 := SlTy.mk' Try.underlying124 (by kernel_rfl) rfl (by decide)
theorem slt_134 : SlTy Try.prog 134 111 2 (.agg #[.int .i64 0, .int .i64 0]) 16 := SlTy.mk' Try.underlying134 (by kernel_rfl) rfl (by decide)
theorem slt_25 : SlTy Try.prog 25 35 1 (.int .i64 0) 8 := SlTy.mk' Try.underlying25 (by kernel_rfl) rfl (by decide)
theorem slt_36 : SlTy Try.prog 36 3 1 (.int .i64 0) 8 := SlTy.mk' Try.underlying36 (by kernel_rfl) rfl (by decide)
theorem slt_75 : SlTy Try.prog 75 82 30 (.agg #[.bool false, .bool false, .bool false, .bool false, .bool false, .bool false, .bool false, .bool false, .bool false, .bool false, .bool false, .bool false, .bool false, .bool false, .bool false, .bool false, .bool false, .bool false, .bool false, .bool false, .bool false, .bool false, .bool false, .bool false, .bool false, .bool false, .bool false, .bool false, .bool false, .bool false]) 30 := SlTy.mk' Try.underlying75 (by kernel_rfl) rfl (by decide)
theorem key_122 : KeyOK Try.prog 122 (vA (cP (cI .i64) (cP (cI .i64) (cI .i64)))) := by
  refine keyOK_struct (by kernel_rfl) (fun x y w => ?_) (fun b k w => ?_) (fun k => ?_)
  · obtain ⟨x0, x1, x2⟩ := x; obtain ⟨y0, y1, y2⟩ := y
    exact (equal_of_bin (eq_122 x0 x1 x2 y0 y1 y2 w)).trans (by simp)
  · obtain ⟨k0, k1, k2⟩ := k
    have key : ∀ n, (Instr.checkKey b (n + 2) 122 (.agg #[.int .i64 k0, .int .i64 k1, .int .i64 k2])).run Try.prog w = .ok () w := fun n => by
      simp [Instr.checkKey, run_underlying Try.underlying122, part, go_sem, Try.isAgg3, run_underlying Try.underlying3]
    exact key 9998
  · obtain ⟨k0, k1, k2⟩ := k; simp [vA, cP, cI, Instr.sameBits]
theorem strc_strt_0 : (⟨#[0, 1, 2, 2, 3, 3, 3, 3, 4, 4, 4, 4, 4, 4, 4, 4, 5, 5, 5, 5, 5, 5, 5, 5, 5, 5, 5, 5, 5, 5, 5, 5, 6, 6, 6, 6, 6, 6, 6, 6, 6, 6, 6, 6, 6, 6, 6, 6, 6, 6, 6, 6, 6, 6, 6, 6, 6, 6, 6, 6, 6, 6, 6, 6, 7, 7, 7, 7, 7, 7, 7, 7, 7, 7, 7, 7, 7, 7, 7, 7, 7, 7, 7, 7, 7, 7, 7, 7, 7, 7, 7, 7, 7, 7, 7, 7, 7, 7, 7, 7, 7, 7, 7, 7, 7, 7, 7, 7, 7, 7, 7, 7, 7, 7, 7, 7, 7, 7, 7, 7, 7, 7, 7, 7, 7, 7, 7, 7, 8, 8, 8, 8, 8, 8, 8, 8, 8, 8, 8, 8, 8, 8, 8, 8, 8, 8, 8, 8, 8, 8, 8, 8, 8, 8, 8, 8, 8, 8, 8, 8, 8, 8, 8, 8, 8, 8, 8, 8, 8, 8, 8, 8, 8, 8, 8, 8, 8, 8, 8, 8, 8, 8, 8, 8, 8, 8, 8, 8, 8, 8, 8, 8, 8, 8, 8, 8, 8, 8, 8, 8, 8, 8, 8, 8, 8, 8, 8, 8, 8, 8, 8, 8, 8, 8, 8, 8, 8, 8, 8, 8, 8, 8, 8, 8, 8, 8, 8, 8, 8, 8, 8, 8, 8, 8, 8, 8, 8, 8, 8, 8, 8, 8, 8, 8, 8, 8, 8, 8, 8, 8, 8, 8, 8, 8, 8, 8]⟩ : ByteArray) = sB strt_0 := by kernel_rfl
theorem strr_strt_0 : ∀ x ∈ strt_0, 0 ≤ x ∧ x < 256 := by decide +kernel
end Go.Proofs.Ytejkgppikpkkpaa
