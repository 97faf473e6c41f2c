/- Facts on types, printed by a program of mine. -/
import Derived.Test.YtdnmaodkdhdacaaProg
import Derived.Test.YtdnmaodkdhdacaaShT
namespace Go.Proofs.Ytdnmaodkdhdacaa
open Go.SH Go.PL

theorem eqg_157 : ∀ x y a b w, (eqGuard .eql 157 x y (.agg a) (.agg b)).run Try.prog w = .ok () w := by intros; simp [eqGuard, go_sem]
theorem eqgn_157 : ∀ x y a b w, (eqGuard .neq 157 x y (.agg a) (.agg b)).run Try.prog w = .ok () w := by intros; simp [eqGuard, go_sem]
theorem eq_157 : ∀ (x0 x1 y0 y1 : Int) w, (binOp .eql 157 (.agg #[.int .i64 x0, .int .i64 x1]) (.agg #[.int .i64 y0, .int .i64 y1])).run Try.prog w = .ok (.bool (decide (x0 = y0 ∧ x1 = y1))) w := by
  intro x0 x1 y0 y1 w
  have hu : Try.prog.underlying 157 = some (.struct (Try.prog.fieldsOf 157)) := by rw [Program.fieldsOf, Try.underlying157]
  have hp : Try.prog.stoodInHeld 157 = false := by kernel_rfl
  have hf : (Try.prog.fieldsOf 157).toList = [{ name := "down", type := 3, offset := 0, embedded := false, tag := "", pkgPath := "oyez/hear", byteOffset := 0 }, { name := "right", type := 3, offset := 1, embedded := false, tag := "", pkgPath := "oyez/hear", byteOffset := 8 }] := by rw [Program.fieldsOf, Try.underlying157]
  simp only [binOp, Op.equal, Op.maxDepth, Sem.run_bind, run_equalIn_struct w 9999 157 _ _ hu hp, hf]
  simp (config := {decide := true}) [Op.eqFields, part, go_sem, Try.isAgg3]
  by_cases h0 : x0 = y0 <;> by_cases h1 : x1 = y1 <;> simp [h0, h1, go_sem]
theorem eqg_166 : ∀ x y a b w, (eqGuard .eql 166 x y (.agg a) (.agg b)).run Try.prog w = .ok () w := by intros; simp [eqGuard, go_sem]
theorem eqgn_166 : ∀ x y a b w, (eqGuard .neq 166 x y (.agg a) (.agg b)).run Try.prog w = .ok () w := by intros; simp [eqGuard, go_sem]
theorem eq_166 : ∀ (x0 x1 x2 y0 y1 y2 : Int) w, (binOp .eql 166 (.agg #[.int .i64 x0, .int .i64 x1, .int .i64 x2]) (.agg #[.int .i64 y0, .int .i64 y1, .int .i64 y2])).run Try.prog w = .ok (.bool (decide (x0 = y0 ∧ x1 = y1 ∧ x2 = y2))) w := by
  intro x0 x1 x2 y0 y1 y2 w
  have hu : Try.prog.underlying 166 = some (.struct (Try.prog.fieldsOf 166)) := by rw [Program.fieldsOf, Try.underlying166]
  have hp : Try.prog.stoodInHeld 166 = false := by kernel_rfl
  have hf : (Try.prog.fieldsOf 166).toList = [{ name := "from", type := 3, offset := 0, embedded := false, tag := "", pkgPath := "oyez/hear", byteOffset := 0 }, { name := "left", type := 3, offset := 1, embedded := false, tag := "", pkgPath := "oyez/hear", byteOffset := 8 }, { name := "set", type := 3, offset := 2, embedded := false, tag := "", pkgPath := "oyez/hear", byteOffset := 16 }] := by rw [Program.fieldsOf, Try.underlying166]
  simp only [binOp, Op.equal, Op.maxDepth, Sem.run_bind, run_equalIn_struct w 9999 166 _ _ hu hp, hf]
  simp (config := {decide := true}) [Op.eqFields, part, go_sem, Try.isAgg3]
  by_cases h0 : x0 = y0 <;> by_cases h1 : x1 = y1 <;> by_cases h2 : x2 = y2 <;> simp [h0, h1, h2, go_sem]
theorem eqga_142 : ∀ x y a b w, (eqGuard .eql 142 x y (.agg a) (.agg b)).run Try.prog w = .ok () w := by intros; simp [eqGuard, go_sem]
theorem eqgna_142 : ∀ x y a b w, (eqGuard .neq 142 x y (.agg a) (.agg b)).run Try.prog w = .ok () w := by intros; simp [eqGuard, go_sem]
theorem eqa_142 {xs ys : List Bool} (hx : xs.length = 30) (hy : ys.length = 30) : ∀ w, (binOp .eql 142 (.agg (arr cB xs)) (.agg (arr cB ys))).run Try.prog w = .ok (.bool (decide (xs = ys))) w := fun w => by
  obtain ⟨i, hi⟩ : ∃ i, Try.prog.info? 4 = some i := Option.isSome_iff_exists.1 (by kernel_rfl)
  exact eq_arr (g := Value.bool) Try.underlying142 hi (fun _ => rfl) Try.isAgg4 (by kernel_rfl) (fun x y w => eqB Try.underlying4 x y w) hx hy w
theorem nea_142 {xs ys : List Bool} (hx : xs.length = 30) (hy : ys.length = 30) : ∀ w, (binOp .neq 142 (.agg (arr cB xs)) (.agg (arr cB ys))).run Try.prog w = .ok (.bool (decide (¬ xs = ys))) w := fun w => by
  obtain ⟨i, hi⟩ : ∃ i, Try.prog.info? 4 = some i := Option.isSome_iff_exists.1 (by kernel_rfl)
  exact ne_arr (g := Value.bool) Try.underlying142 hi (fun _ => rfl) Try.isAgg4 (by kernel_rfl) (fun x y w => eqB Try.underlying4 x y w) hx hy w
theorem fa_121_0 : ∀ a w, (Instr.fieldAt 121 (.pointer (some a)) 0).run Try.prog w = .ok (.pointer (some (a.add 0))) w := by intro a w; simp [Instr.fieldAt, go_sem, Instr.sureAddr, fieldPlace]
theorem fa_121_1 : ∀ a w, (Instr.fieldAt 121 (.pointer (some a)) 1).run Try.prog w = .ok (.pointer (some (a.add 1))) w := by intro a w; simp [Instr.fieldAt, go_sem, Instr.sureAddr, fieldPlace]
theorem fa_134_0 : ∀ a w, (Instr.fieldAt 134 (.pointer (some a)) 0).run Try.prog w = .ok (.pointer (some (a.add 0))) w := by intro a w; simp [Instr.fieldAt, go_sem, Instr.sureAddr, fieldPlace]
theorem fa_134_1 : ∀ a w, (Instr.fieldAt 134 (.pointer (some a)) 1).run Try.prog w = .ok (.pointer (some (a.add 1))) w := by intro a w; simp [Instr.fieldAt, go_sem, Instr.sureAddr, fieldPlace]
theorem fa_134_2 : ∀ a w, (Instr.fieldAt 134 (.pointer (some a)) 2).run Try.prog w = .ok (.pointer (some (a.add 2))) w := by intro a w; simp [Instr.fieldAt, go_sem, Instr.sureAddr, fieldPlace]
theorem fa_157_0 : ∀ a w, (Instr.fieldAt 157 (.pointer (some a)) 0).run Try.prog w = .ok (.pointer (some (a.add 0))) w := by intro a w; simp [Instr.fieldAt, go_sem, Instr.sureAddr, fieldPlace]
theorem fa_157_1 : ∀ a w, (Instr.fieldAt 157 (.pointer (some a)) 1).run Try.prog w = .ok (.pointer (some (a.add 1))) w := by intro a w; simp [Instr.fieldAt, go_sem, Instr.sureAddr, fieldPlace]
theorem fa_159_0 : ∀ a w, (Instr.fieldAt 159 (.pointer (some a)) 0).run Try.prog w = .ok (.pointer (some (a.add 0))) w := by intro a w; simp [Instr.fieldAt, go_sem, Instr.sureAddr, fieldPlace]
theorem fa_159_1 : ∀ a w, (Instr.fieldAt 159 (.pointer (some a)) 1).run Try.prog w = .ok (.pointer (some (a.add 2))) w := by intro a w; simp [Instr.fieldAt, go_sem, Instr.sureAddr, fieldPlace]
theorem fa_159_2 : ∀ a w, (Instr.fieldAt 159 (.pointer (some a)) 2).run Try.prog w = .ok (.pointer (some (a.add 4))) w := by intro a w; simp [Instr.fieldAt, go_sem, Instr.sureAddr, fieldPlace]
theorem fa_166_0 : ∀ a w, (Instr.fieldAt 166 (.pointer (some a)) 0).run Try.prog w = .ok (.pointer (some (a.add 0))) w := by intro a w; simp [Instr.fieldAt, go_sem, Instr.sureAddr, fieldPlace]
theorem fa_166_1 : ∀ a w, (Instr.fieldAt 166 (.pointer (some a)) 1).run Try.prog w = .ok (.pointer (some (a.add 1))) w := by intro a w; simp [Instr.fieldAt, go_sem, Instr.sureAddr, fieldPlace]
theorem fa_166_2 : ∀ a w, (Instr.fieldAt 166 (.pointer (some a)) 2).run Try.prog w = .ok (.pointer (some (a.add 2))) w := by intro a w; simp [Instr.fieldAt, go_sem, Instr.sureAddr, fieldPlace]
theorem fa_24_0 : ∀ a w, (Instr.fieldAt 24 (.pointer (some a)) 0).run Try.prog w = .ok (.pointer (some (a.add 0))) w := by intro a w; simp [Instr.fieldAt, go_sem, Instr.sureAddr, fieldPlace]
theorem fa_24_1 : ∀ a w, (Instr.fieldAt 24 (.pointer (some a)) 1).run Try.prog w = .ok (.pointer (some (a.add 1))) w := by intro a w; simp [Instr.fieldAt, go_sem, Instr.sureAddr, fieldPlace]
theorem fa_32_0 : ∀ a w, (Instr.fieldAt 32 (.pointer (some a)) 0).run Try.prog w = .ok (.pointer (some (a.add 0))) w := by intro a w; simp [Instr.fieldAt, go_sem, Instr.sureAddr, fieldPlace]
theorem fa_32_1 : ∀ a w, (Instr.fieldAt 32 (.pointer (some a)) 1).run Try.prog w = .ok (.pointer (some (a.add 1))) w := by intro a w; simp [Instr.fieldAt, go_sem, Instr.sureAddr, fieldPlace]
theorem fa_48_0 : ∀ a w, (Instr.fieldAt 48 (.pointer (some a)) 0).run Try.prog w = .ok (.pointer (some (a.add 0))) w := by intro a w; simp [Instr.fieldAt, go_sem, Instr.sureAddr, fieldPlace]
theorem fa_48_1 : ∀ a w, (Instr.fieldAt 48 (.pointer (some a)) 1).run Try.prog w = .ok (.pointer (some (a.add 1))) w := by intro a w; simp [Instr.fieldAt, go_sem, Instr.sureAddr, fieldPlace]
theorem ixa_142 {xs : List Bool} (hn : xs.length = 30) {i : Int} (g : 0 ≤ i ∧ i < (xs.length : Int)) {x : Bool} (hx : xs[i.toNat]? = some x) : ∀ w, (Instr.index 142 (.agg (arr cB xs)) (.int .i64 i)).run Try.prog w = .ok (Value.bool x) w := ix_arr Try.underlying142 (fun _ => rfl) Try.isAgg4 Try.sizeOf4 hn g hx
theorem slt_119 : SlTy Try.prog 119 142 30 (.agg #[.bool false, .bool false, .bool false, .bool false, .bool false, .bool false, .bool false, .bool false, .bool false, .bool false, .bool false, .bool false, .bool false, .bool false, .bool false, .bool false, .bool false, .bool false, .bool false, .bool false, .bool false, .bool false, .bool false, .bool false, .bool false, .bool false, .bool false, .bool false, .bool false, .bool false]) 30 := SlTy.mk' Try.underlying119 (by kernel_rfl) rfl (by decide)
theorem slt_135 : SlTy Try.prog 135 34 1 (.int .i64 0) 8 := SlTy.mk' Try.underlying135 (by kernel_rfl) rfl (by decide)
theorem slt_155 : SlTy Try.prog 155 9 1 (.string ⟨#[]⟩) 16 := SlTy.mk' Try.underlying155 (by kernel_rfl) rfl (by decide)
theorem slt_160 : SlTy Try.prog 160 157 2 (.agg #[.int .i64 0, .int .i64 0]) 16 := SlTy.mk' Try.underlying160 (by kernel_rfl) rfl (by decide)
theorem slt_22 : SlTy Try.prog 22 73 1 (.int .i64 0) 8 := SlTy.mk' Try.underlying22 (by kernel_rfl) rfl (by decide)
theorem slt_26 : SlTy Try.prog 26 3 1 (.int .i64 0) 8 := SlTy.mk' Try.underlying26 (by kernel_rfl) rfl (by decide)
theorem slt_74 : SlTy Try.prog 74 25 1 (.int .i64 0) 8 := SlTy.mk' Try.underlying74 (by kernel_rfl) rfl (by decide)
theorem slt_86 : SlTy Try.prog 86 26 1 (.slice none 0 0) 24 := SlTy.mk' Try.underlying86 (by kernel_rfl) rfl (by decide)
theorem key_166 : KeyOK Try.prog 166 (vA (cP (cI .i64) (cP (cI .i64) (cI .i64)))) := by
  refine keyOK_struct (by kernel_rfl) (fun x y w => ?_) (fun b k w => ?_) (fun k => ?_)
  · obtain ⟨x0, x1, x2⟩ := x; obtain ⟨y0, y1, y2⟩ := y
    exact (equal_of_bin (eq_166 x0 x1 x2 y0 y1 y2 w)).trans (by simp)
  · obtain ⟨k0, k1, k2⟩ := k
    have key : ∀ n, (Instr.checkKey b (n + 2) 166 (.agg #[.int .i64 k0, .int .i64 k1, .int .i64 k2])).run Try.prog w = .ok () w := fun n => by
      simp [Instr.checkKey, run_underlying Try.underlying166, part, go_sem, Try.isAgg3, run_underlying Try.underlying3]
    exact key 9998
  · obtain ⟨k0, k1, k2⟩ := k; simp [vA, cP, cI, Instr.sameBits]

end Go.Proofs.Ytdnmaodkdhdacaa
