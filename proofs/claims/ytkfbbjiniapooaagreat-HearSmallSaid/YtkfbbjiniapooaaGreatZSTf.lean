/- Facts on types, printed by a program of mine. -/
import Derived.Test.YtkfbbjiniapooaaGreatProg
import Derived.Test.YtkfbbjiniapooaaGreatZSShW
import Derived.Test.YtkfbbjiniapooaaGreatZSTd
namespace Go.Proofs.YtkfbbjiniapooaaGreat
open Go.SH Go.PL
theorem Tc : ∀ x y a b w, (eqGuard .eql 136 x y (.agg a) (.agg b)).run Tryz.prog w = .ok () w := by intros; simp [eqGuard, go_sem]
theorem U4 : ∀ (x0 x1 y0 y1 : Int) w, (binOp .eql 136 (.agg #[.int .i64 x0, .int .i64 x1]) (.agg #[.int .i64 y0, .int .i64 y1])).run Tryz.prog w = .ok (.bool (decide (x0 = y0 ∧ x1 = y1))) w := by
  intro x0 x1 y0 y1 w
  have hu : Tryz.prog.underlying 136 = some (.struct (Tryz.prog.fieldsOf 136)) := by rw [Program.fieldsOf, Tryz.underlying136]
  have hp : Tryz.prog.stoodInHeld 136 = false := by kernel_rfl
  have hf : (Tryz.prog.fieldsOf 136).toList = [{ name := "down", type := 3, offset := 0, embedded := false, tag := "", pkgPath := "oyez/hear", byteOffset := 0 }, { name := "right", type := 3, offset := 1, embedded := false, tag := "", pkgPath := "oyez/hear", byteOffset := 8 }] := by rw [Program.fieldsOf, Tryz.underlying136]
  simp only [binOp, Op.equal, Op.maxDepth, Sem.run_bind, run_equalIn_struct w 9999 136 _ _ hu hp, hf]
  simp (config := {decide := true}) [Op.eqFields, part, go_sem, Tryz.isAgg3]
  by_cases h0 : x0 = y0 <;> by_cases h1 : x1 = y1 <;> simp [h0, h1, go_sem]
theorem WQ : ∀ (x0 x1 x2 y0 y1 y2 : Int) w, (binOp .eql 151 (.agg #[.int .i64 x0, .int .i64 x1, .int .i64 x2]) (.agg #[.int .i64 y0, .int .i64 y1, .int .i64 y2])).run Tryz.prog w = .ok (.bool (decide (x0 = y0 ∧ x1 = y1 ∧ x2 = y2))) w := by
  intro x0 x1 x2 y0 y1 y2 w
  have hu : Tryz.prog.underlying 151 = some (.struct (Tryz.prog.fieldsOf 151)) := by rw [Program.fieldsOf, Tryz.underlying151]
  have hp : Tryz.prog.stoodInHeld 151 = false := by kernel_rfl
  have hf : (Tryz.prog.fieldsOf 151).toList = [{ name := "from", type := 3, offset := 0, embedded := false, tag := "", pkgPath := "oyez/hear", byteOffset := 0 }, { name := "left", type := 3, offset := 1, embedded := false, tag := "", pkgPath := "oyez/hear", byteOffset := 8 }, { name := "set", type := 3, offset := 2, embedded := false, tag := "", pkgPath := "oyez/hear", byteOffset := 16 }] := by rw [Program.fieldsOf, Tryz.underlying151]
  simp only [binOp, Op.equal, Op.maxDepth, Sem.run_bind, run_equalIn_struct w 9999 151 _ _ hu hp, hf]
  simp (config := {decide := true}) [Op.eqFields, part, go_sem, Tryz.isAgg3]
  by_cases h0 : x0 = y0 <;> by_cases h1 : x1 = y1 <;> by_cases h2 : x2 = y2 <;> simp [h0, h1, h2, go_sem]
theorem OO : ∀ x y a b w, (eqGuard .eql 113 x y (.agg a) (.agg b)).run Tryz.prog w = .ok () w := by intros; simp [eqGuard, go_sem]
theorem Tq : ∀ x y a b w, (eqGuard .neq 113 x y (.agg a) (.agg b)).run Tryz.prog w = .ok () w := by intros; simp [eqGuard, go_sem]
theorem QE {xs ys : List Bool} (hx : xs.length = 30) (hy : ys.length = 30) : ∀ w, (binOp .eql 113 (.agg (arr cB xs)) (.agg (arr cB ys))).run Tryz.prog w = .ok (.bool (decide (xs = ys))) w := fun w => by
  obtain ⟨i, hi⟩ : ∃ i, Tryz.prog.info? 4 = some i := Option.isSome_iff_exists.1 (by kernel_rfl)
  exact Wl (g := Value.bool) Tryz.underlying113 hi (fun _ => rfl) Tryz.isAgg4 (by kernel_rfl) (fun x y w => YD Tryz.underlying4 x y w) hx hy w
theorem V0 {xs ys : List Bool} (hx : xs.length = 30) (hy : ys.length = 30) : ∀ w, (binOp .neq 113 (.agg (arr cB xs)) (.agg (arr cB ys))).run Tryz.prog w = .ok (.bool (decide (¬ xs = ys))) w := fun w => by
  obtain ⟨i, hi⟩ : ∃ i, Tryz.prog.info? 4 = some i := Option.isSome_iff_exists.1 (by kernel_rfl)
  exact WN (g := Value.bool) Tryz.underlying113 hi (fun _ => rfl) Tryz.isAgg4 (by kernel_rfl) (fun x y w => YD Tryz.underlying4 x y w) hx hy w
theorem Hn : ∀ a w, (Instr.fieldAt 118 (.pointer (some a)) 0).run Tryz.prog w = .ok (.pointer (some (a.add 0))) w := by intro a w; simp [Instr.fieldAt, go_sem, Instr.sureAddr, fieldPlace]
theorem Va : ∀ a w, (Instr.fieldAt 118 (.pointer (some a)) 1).run Tryz.prog w = .ok (.pointer (some (a.add 1))) w := by intro a w; simp [Instr.fieldAt, go_sem, Instr.sureAddr, fieldPlace]
theorem Ph : ∀ a w, (Instr.fieldAt 136 (.pointer (some a)) 0).run Tryz.prog w = .ok (.pointer (some (a.add 0))) w := by intro a w; simp [Instr.fieldAt, go_sem, Instr.sureAddr, fieldPlace]
theorem RV : ∀ a w, (Instr.fieldAt 136 (.pointer (some a)) 1).run Tryz.prog w = .ok (.pointer (some (a.add 1))) w := by intro a w; simp [Instr.fieldAt, go_sem, Instr.sureAddr, fieldPlace]
theorem HS : ∀ a w, (Instr.fieldAt 138 (.pointer (some a)) 0).run Tryz.prog w = .ok (.pointer (some (a.add 0))) w := by intro a w; simp [Instr.fieldAt, go_sem, Instr.sureAddr, fieldPlace]
theorem RJ : ∀ a w, (Instr.fieldAt 138 (.pointer (some a)) 1).run Tryz.prog w = .ok (.pointer (some (a.add 2))) w := by intro a w; simp [Instr.fieldAt, go_sem, Instr.sureAddr, fieldPlace]
theorem U0 : ∀ a w, (Instr.fieldAt 138 (.pointer (some a)) 2).run Tryz.prog w = .ok (.pointer (some (a.add 4))) w := by intro a w; simp [Instr.fieldAt, go_sem, Instr.sureAddr, fieldPlace]
theorem Hq : ∀ a w, (Instr.fieldAt 151 (.pointer (some a)) 0).run Tryz.prog w = .ok (.pointer (some (a.add 0))) w := by intro a w; simp [Instr.fieldAt, go_sem, Instr.sureAddr, fieldPlace]
theorem Iu : ∀ a w, (Instr.fieldAt 151 (.pointer (some a)) 1).run Tryz.prog w = .ok (.pointer (some (a.add 1))) w := by intro a w; simp [Instr.fieldAt, go_sem, Instr.sureAddr, fieldPlace]
theorem KS : ∀ a w, (Instr.fieldAt 151 (.pointer (some a)) 2).run Tryz.prog w = .ok (.pointer (some (a.add 2))) w := by intro a w; simp [Instr.fieldAt, go_sem, Instr.sureAddr, fieldPlace]
theorem Hx : ∀ a w, (Instr.fieldAt 25 (.pointer (some a)) 0).run Tryz.prog w = .ok (.pointer (some (a.add 0))) w := by intro a w; simp [Instr.fieldAt, go_sem, Instr.sureAddr, fieldPlace]
theorem BN : ∀ a w, (Instr.fieldAt 25 (.pointer (some a)) 1).run Tryz.prog w = .ok (.pointer (some (a.add 1))) w := by intro a w; simp [Instr.fieldAt, go_sem, Instr.sureAddr, fieldPlace]
theorem GX : ∀ a w, (Instr.fieldAt 29 (.pointer (some a)) 0).run Tryz.prog w = .ok (.pointer (some (a.add 0))) w := by intro a w; simp [Instr.fieldAt, go_sem, Instr.sureAddr, fieldPlace]
theorem GW : ∀ a w, (Instr.fieldAt 29 (.pointer (some a)) 1).run Tryz.prog w = .ok (.pointer (some (a.add 1))) w := by intro a w; simp [Instr.fieldAt, go_sem, Instr.sureAddr, fieldPlace]
theorem Kg : ∀ a w, (Instr.fieldAt 45 (.pointer (some a)) 0).run Tryz.prog w = .ok (.pointer (some (a.add 0))) w := by intro a w; simp [Instr.fieldAt, go_sem, Instr.sureAddr, fieldPlace]
theorem C0 : ∀ a w, (Instr.fieldAt 45 (.pointer (some a)) 1).run Tryz.prog w = .ok (.pointer (some (a.add 1))) w := by intro a w; simp [Instr.fieldAt, go_sem, Instr.sureAddr, fieldPlace]
theorem VQ {xs : List Bool} (hn : xs.length = 30) {i : Int} (g : 0 ≤ i ∧ i < (xs.length : Int)) {x : Bool} (hx : xs[i.toNat]? = some x) : ∀ w, (Instr.index 113 (.agg (arr cB xs)) (.int .i64 i)).run Tryz.prog w = .ok (Value.bool x) w := Wi Tryz.underlying113 (fun _ => rfl) Tryz.isAgg4 Tryz.sizeOf4 hn g hx
theorem Lf : GL Tryz.prog 109 113 30 (.agg #[.bool false, .bool false, .bool false, .bool false, .bool false, .bool false, .bool false, .bool false, .bool false, .bool false, .bool false, .bool false, .bool false, .bool false, .bool false, .bool false, .bool false, .bool false, .bool false, .bool false, .bool false, .bool false, .bool false, .bool false, .bool false, .bool false, .bool false, .bool false, .bool false, .bool false]) 30 := GL.mk' Tryz.underlying109 (by kernel_rfl) rfl (by decide)
theorem Vl : GL Tryz.prog 115 38 1 (.int .i64 0) 8 := GL.mk' Tryz.underlying115 (by kernel_rfl) rfl (by decide)
theorem VH : GL Tryz.prog 140 136 2 (.agg #[.int .i64 0, .int .i64 0]) 16 := GL.mk' Tryz.underlying140 (by kernel_rfl) rfl (by decide)
theorem Br : GL Tryz.prog 22 3 1 (.int .i64 0) 8 := GL.mk' Tryz.underlying22 (by kernel_rfl) rfl (by decide)
theorem FF : GL Tryz.prog 23 32 1 (.int .i64 0) 8 := GL.mk' Tryz.underlying23 (by kernel_rfl) rfl (by decide)
theorem Wy : GL Tryz.prog 31 30 1 (.pointer none) 8 := GL.mk' Tryz.underlying31 (by kernel_rfl) rfl (by decide)
theorem NB : GL Tryz.prog 41 9 1 (.string ⟨#[]⟩) 16 := GL.mk' Tryz.underlying41 (by kernel_rfl) rfl (by decide)
theorem Q2 : GL Tryz.prog 70 22 1 (.slice none 0 0) 24 := GL.mk' Tryz.underlying70 (by kernel_rfl) rfl (by decide)
theorem QX : GL Tryz.prog 74 27 1 (.int .i64 0) 8 := GL.mk' Tryz.underlying74 (by kernel_rfl) rfl (by decide)
theorem SI : Nk Tryz.prog 151 (vA (cP (cI .i64) (cP (cI .i64) (cI .i64)))) := by
  refine QQ (by kernel_rfl) (fun x y w => ?_) (fun b k w => ?_) (fun k => ?_)
  · obtain ⟨x0, x1, x2⟩ := x; obtain ⟨y0, y1, y2⟩ := y
    exact (QT (WQ x0 x1 x2 y0 y1 y2 w)).trans (by simp)
  · obtain ⟨k0, k1, k2⟩ := k
    have key : ∀ n, (Instr.checkKey b (n + 2) 151 (.agg #[.int .i64 k0, .int .i64 k1, .int .i64 k2])).run Tryz.prog w = .ok () w := fun n => by
      simp [Instr.checkKey, run_underlying Tryz.underlying151, part, go_sem, Tryz.isAgg3, run_underlying Tryz.underlying3]
    exact key 9998
  · obtain ⟨k0, k1, k2⟩ := k; simp [vA, cP, cI, Instr.sameBits]
theorem Rf : (⟨#[0, 1, 2, 2, 3, 3, 3, 3, 4, 4, 4, 4, 4, 4, 4, 4, 5, 5, 5, 5, 5, 5, 5, 5, 5, 5, 5, 5, 5, 5, 5, 5, 6, 6, 6, 6, 6, 6, 6, 6, 6, 6, 6, 6, 6, 6, 6, 6, 6, 6, 6, 6, 6, 6, 6, 6, 6, 6, 6, 6, 6, 6, 6, 6, 7, 7, 7, 7, 7, 7, 7, 7, 7, 7, 7, 7, 7, 7, 7, 7, 7, 7, 7, 7, 7, 7, 7, 7, 7, 7, 7, 7, 7, 7, 7, 7, 7, 7, 7, 7, 7, 7, 7, 7, 7, 7, 7, 7, 7, 7, 7, 7, 7, 7, 7, 7, 7, 7, 7, 7, 7, 7, 7, 7, 7, 7, 7, 7, 8, 8, 8, 8, 8, 8, 8, 8, 8, 8, 8, 8, 8, 8, 8, 8, 8, 8, 8, 8, 8, 8, 8, 8, 8, 8, 8, 8, 8, 8, 8, 8, 8, 8, 8, 8, 8, 8, 8, 8, 8, 8, 8, 8, 8, 8, 8, 8, 8, 8, 8, 8, 8, 8, 8, 8, 8, 8, 8, 8, 8, 8, 8, 8, 8, 8, 8, 8, 8, 8, 8, 8, 8, 8, 8, 8, 8, 8, 8, 8, 8, 8, 8, 8, 8, 8, 8, 8, 8, 8, 8, 8, 8, 8, 8, 8, 8, 8, 8, 8, 8, 8, 8, 8, 8, 8, 8, 8, 8, 8, 8, 8, 8, 8, 8, 8, 8, 8, 8, 8, 8, 8, 8, 8, 8, 8, 8, 8]⟩ : ByteArray) = sB R4 := by kernel_rfl
theorem Q8 : ∀ x ∈ R4, 0 ≤ x ∧ x < 256 := by decide +kernel
end Go.Proofs.YtkfbbjiniapooaaGreat
