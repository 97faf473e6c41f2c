/- Facts on types, printed by a program of mine. -/
import Derived.Test.YtjgeaaganpkceaaProg
import Derived.Test.YtjgeaaganpkceaaZjShT
import Derived.Test.YtjgeaaganpkceaaZjTd
namespace Go.Proofs.Ytjgeaaganpkceaa
open Go.SH Go.PL
theorem eqg_163 : ∀ x y a b w, (eqGuard .eql 163 x y (.agg a) (.agg b)).run Try.prog w = .ok () w := by intros; simp [eqGuard, go_sem]
theorem eq_163 : ∀ (x0 x1 y0 y1 : Int) w, (binOp .eql 163 (.agg #[.int .i64 x0, .int .i64 x1]) (.agg #[.int .i64 y0, .int .i64 y1])).run Try.prog w = .ok (.bool (decide (x0 = y0 ∧ x1 = y1))) w := by
  intro x0 x1 y0 y1 w
  have hu : Try.prog.underlying 163 = some (.struct (Try.prog.fieldsOf 163)) := by rw [Program.fieldsOf, Try.underlying163]
  have hp : Try.prog.stoodInHeld 163 = false := by kernel_rfl
  have hf : (Try.prog.fieldsOf 163).toList = [{ name := "down", type := 3, offset := 0, embedded := false, tag := "", pkgPath := "oyez/hear", byteOffset := 0 }, { name := "right", type := 3, offset := 1, embedded := false, tag := "", pkgPath := "oyez/hear", byteOffset := 8 }] := by rw [Program.fieldsOf, Try.underlying163]
  simp only [binOp, Op.equal, Op.maxDepth, Sem.run_bind, run_equalIn_struct w 9999 163 _ _ hu hp, hf]
  simp (config := {decide := true}) [Op.eqFields, part, go_sem, Try.isAgg3]
  by_cases h0 : x0 = y0 <;> by_cases h1 : x1 = y1 <;> simp [h0, h1, go_sem]
theorem eqg_36 : ∀ x y a b w, (eqGuard .eql 36 x y (.agg a) (.agg b)).run Try.prog w = .ok () w := by intros; simp [eqGuard, go_sem]
theorem eq_36 : ∀ (x0 x1 y0 y1 : Int) w, (binOp .eql 36 (.agg #[.int .i64 x0, .int .i64 x1]) (.agg #[.int .i64 y0, .int .i64 y1])).run Try.prog w = .ok (.bool (decide (x0 = y0 ∧ x1 = y1))) w := by
  intro x0 x1 y0 y1 w
  have hu : Try.prog.underlying 36 = some (.struct (Try.prog.fieldsOf 36)) := by rw [Program.fieldsOf, Try.underlying36]
  have hp : Try.prog.stoodInHeld 36 = false := by kernel_rfl
  have hf : (Try.prog.fieldsOf 36).toList = [{ name := "Lo", type := 3, offset := 0, embedded := false, tag := "", pkgPath := "", byteOffset := 0 }, { name := "Hi", type := 3, offset := 1, embedded := false, tag := "", pkgPath := "", byteOffset := 8 }] := by rw [Program.fieldsOf, Try.underlying36]
  simp only [binOp, Op.equal, Op.maxDepth, Sem.run_bind, run_equalIn_struct w 9999 36 _ _ hu hp, hf]
  simp (config := {decide := true}) [Op.eqFields, part, go_sem, Try.isAgg3]
  by_cases h0 : x0 = y0 <;> by_cases h1 : x1 = y1 <;> simp [h0, h1, go_sem]
theorem eqga_135 : ∀ x y a b w, (eqGuard .eql 135 x y (.agg a) (.agg b)).run Try.prog w = .ok () w := by intros; simp [eqGuard, go_sem]
theorem eqa_135 {xs ys : List Bool} (hx : xs.length = 64) (hy : ys.length = 64) : ∀ w, (binOp .eql 135 (.agg (arr cB xs)) (.agg (arr cB ys))).run Try.prog w = .ok (.bool (decide (xs = ys))) w := fun w => by
  obtain ⟨i, hi⟩ : ∃ i, Try.prog.info? 4 = some i := Option.isSome_iff_exists.1 (by kernel_rfl)
  exact eq_arr (g := Value.bool) Try.underlying135 hi (fun _ => rfl) Try.isAgg4 (by kernel_rfl) (fun x y w => eqB Try.underlying4 x y w) hx hy w
theorem fa_104_0 : ∀ a w, (Instr.fieldAt 104 (.pointer (some a)) 0).run Try.prog w = .ok (.pointer (some (a.add 0))) w := by intro a w; simp [Instr.fieldAt, go_sem, Instr.sureAddr, fieldPlace]
theorem fa_104_1 : ∀ a w, (Instr.fieldAt 104 (.pointer (some a)) 1).run Try.prog w = .ok (.pointer (some (a.add 1))) w := by intro a w; simp [Instr.fieldAt, go_sem, Instr.sureAddr, fieldPlace]
theorem fa_104_2 : ∀ a w, (Instr.fieldAt 104 (.pointer (some a)) 2).run Try.prog w = .ok (.pointer (some (a.add 2))) w := by intro a w; simp [Instr.fieldAt, go_sem, Instr.sureAddr, fieldPlace]
theorem fa_111_0 : ∀ a w, (Instr.fieldAt 111 (.pointer (some a)) 0).run Try.prog w = .ok (.pointer (some (a.add 0))) w := by intro a w; simp [Instr.fieldAt, go_sem, Instr.sureAddr, fieldPlace]
theorem fa_139_0 : ∀ a w, (Instr.fieldAt 139 (.pointer (some a)) 0).run Try.prog w = .ok (.pointer (some (a.add 0))) w := by intro a w; simp [Instr.fieldAt, go_sem, Instr.sureAddr, fieldPlace]
theorem fa_139_1 : ∀ a w, (Instr.fieldAt 139 (.pointer (some a)) 1).run Try.prog w = .ok (.pointer (some (a.add 2))) w := by intro a w; simp [Instr.fieldAt, go_sem, Instr.sureAddr, fieldPlace]
theorem fa_139_2 : ∀ a w, (Instr.fieldAt 139 (.pointer (some a)) 2).run Try.prog w = .ok (.pointer (some (a.add 3))) w := by intro a w; simp [Instr.fieldAt, go_sem, Instr.sureAddr, fieldPlace]
theorem fa_163_0 : ∀ a w, (Instr.fieldAt 163 (.pointer (some a)) 0).run Try.prog w = .ok (.pointer (some (a.add 0))) w := by intro a w; simp [Instr.fieldAt, go_sem, Instr.sureAddr, fieldPlace]
theorem fa_163_1 : ∀ a w, (Instr.fieldAt 163 (.pointer (some a)) 1).run Try.prog w = .ok (.pointer (some (a.add 1))) w := by intro a w; simp [Instr.fieldAt, go_sem, Instr.sureAddr, fieldPlace]
theorem fa_165_0 : ∀ a w, (Instr.fieldAt 165 (.pointer (some a)) 0).run Try.prog w = .ok (.pointer (some (a.add 0))) w := by intro a w; simp [Instr.fieldAt, go_sem, Instr.sureAddr, fieldPlace]
theorem fa_165_1 : ∀ a w, (Instr.fieldAt 165 (.pointer (some a)) 1).run Try.prog w = .ok (.pointer (some (a.add 2))) w := by intro a w; simp [Instr.fieldAt, go_sem, Instr.sureAddr, fieldPlace]
theorem fa_165_2 : ∀ a w, (Instr.fieldAt 165 (.pointer (some a)) 2).run Try.prog w = .ok (.pointer (some (a.add 4))) w := by intro a w; simp [Instr.fieldAt, go_sem, Instr.sureAddr, fieldPlace]
theorem fa_26_0 : ∀ a w, (Instr.fieldAt 26 (.pointer (some a)) 0).run Try.prog w = .ok (.pointer (some (a.add 0))) w := by intro a w; simp [Instr.fieldAt, go_sem, Instr.sureAddr, fieldPlace]
theorem fa_26_1 : ∀ a w, (Instr.fieldAt 26 (.pointer (some a)) 1).run Try.prog w = .ok (.pointer (some (a.add 1))) w := by intro a w; simp [Instr.fieldAt, go_sem, Instr.sureAddr, fieldPlace]
theorem fa_36_0 : ∀ a w, (Instr.fieldAt 36 (.pointer (some a)) 0).run Try.prog w = .ok (.pointer (some (a.add 0))) w := by intro a w; simp [Instr.fieldAt, go_sem, Instr.sureAddr, fieldPlace]
theorem fa_36_1 : ∀ a w, (Instr.fieldAt 36 (.pointer (some a)) 1).run Try.prog w = .ok (.pointer (some (a.add 1))) w := by intro a w; simp [Instr.fieldAt, go_sem, Instr.sureAddr, fieldPlace]
theorem fa_59_0 : ∀ a w, (Instr.fieldAt 59 (.pointer (some a)) 0).run Try.prog w = .ok (.pointer (some (a.add 0))) w := by intro a w; simp [Instr.fieldAt, go_sem, Instr.sureAddr, fieldPlace]
theorem fa_59_1 : ∀ a w, (Instr.fieldAt 59 (.pointer (some a)) 1).run Try.prog w = .ok (.pointer (some (a.add 1))) w := by intro a w; simp [Instr.fieldAt, go_sem, Instr.sureAddr, fieldPlace]
theorem fa_94_0 : ∀ a w, (Instr.fieldAt 94 (.pointer (some a)) 0).run Try.prog w = .ok (.pointer (some (a.add 0))) w := by intro a w; simp [Instr.fieldAt, go_sem, Instr.sureAddr, fieldPlace]
theorem fa_94_1 : ∀ a w, (Instr.fieldAt 94 (.pointer (some a)) 1).run Try.prog w = .ok (.pointer (some (a.add 1))) w := by intro a w; simp [Instr.fieldAt, go_sem, Instr.sureAddr, fieldPlace]
theorem fa_98_0 : ∀ a w, (Instr.fieldAt 98 (.pointer (some a)) 0).run Try.prog w = .ok (.pointer (some (a.add 0))) w := by intro a w; simp [Instr.fieldAt, go_sem, Instr.sureAddr, fieldPlace]
theorem fa_98_1 : ∀ a w, (Instr.fieldAt 98 (.pointer (some a)) 1).run Try.prog w = .ok (.pointer (some (a.add 1))) w := by intro a w; simp [Instr.fieldAt, go_sem, Instr.sureAddr, fieldPlace]
def OB_139 (F : FS) (v : Value) (x : Option ((List (List Int)) × (List (List Int)) × (List (Int × Int)) × (List (List Bool)))) (Lb : LH) : Prop := (x = none ∧ v = .pointer none ∧ Lb = []) ∨ ∃ (x0 : List (List Int)) (x1 : List (List Int)) (x2 : List (Int × Int)) (x3 : List (List Bool)) (b : Nat) (mm : Nat × Nat) (a0 : Option Addr) (c0 : Nat) (a1 : Option Addr) (c1 : Nat) (b2 : Nat) (es2 : Array MapEntry) (cl2 : Nat) (a3 : Option Addr) (c3 : Nat), x = some (x0, x1, x2, x3) ∧ v = .pointer (some ⟨b, 0, none⟩) ∧ F b = some (.cells #[.slice a0 x0.length c0, .slice a1 x1.length c1, .map (some b2), .slice a3 x3.length c3] 139 mm) ∧ RowR 1 (slE 1 (iE .i64)) F a0 c0 x0 ∧ RowR 1 (slE 1 (iE .i64)) F a1 c1 x1 ∧ MapR (Value.int .i64) (Value.int .i64) es2 x2 ∧ RowR 64 (arE 64 cB) F a3 c3 x3 ∧ Lb = [(b2, .map es2 cl2)]
theorem ob_139_nil (F : FS) : OB_139 F (.pointer none) none [] := .inl ⟨rfl, rfl, rfl⟩
theorem ob_139_of {F : FS} {v : Value} {x0 : List (List Int)} {x1 : List (List Int)} {x2 : List (Int × Int)} {x3 : List (List Bool)} {Lb : LH} (h : OB_139 F v (some (x0, x1, x2, x3)) Lb) : ∃ (b : Nat) (mm : Nat × Nat) (a0 : Option Addr) (c0 : Nat) (a1 : Option Addr) (c1 : Nat) (b2 : Nat) (es2 : Array MapEntry) (cl2 : Nat) (a3 : Option Addr) (c3 : Nat), v = .pointer (some ⟨b, 0, none⟩) ∧ F b = some (.cells #[.slice a0 x0.length c0, .slice a1 x1.length c1, .map (some b2), .slice a3 x3.length c3] 139 mm) ∧ RowR 1 (slE 1 (iE .i64)) F a0 c0 x0 ∧ RowR 1 (slE 1 (iE .i64)) F a1 c1 x1 ∧ MapR (Value.int .i64) (Value.int .i64) es2 x2 ∧ RowR 64 (arE 64 cB) F a3 c3 x3 ∧ Lb = [(b2, .map es2 cl2)] := by
  rcases h with ⟨h, _⟩ | ⟨_, _, _, _, b, mm, a0, c0, a1, c1, b2, es2, cl2, a3, c3, h, hr⟩
  · cases h
  · cases h; exact ⟨b, mm, a0, c0, a1, c1, b2, es2, cl2, a3, c3, hr⟩
theorem ob_139_mk {F : FS} {x0 : List (List Int)} {x1 : List (List Int)} {x2 : List (Int × Int)} {x3 : List (List Bool)} {b : Nat} {mm : Nat × Nat} {a0 : Option Addr} {c0 : Nat} {a1 : Option Addr} {c1 : Nat} {b2 : Nat} {es2 : Array MapEntry} {cl2 : Nat} {a3 : Option Addr} {c3 : Nat} (h : F b = some (.cells #[.slice a0 x0.length c0, .slice a1 x1.length c1, .map (some b2), .slice a3 x3.length c3] 139 mm)) (h0 : RowR 1 (slE 1 (iE .i64)) F a0 c0 x0) (h1 : RowR 1 (slE 1 (iE .i64)) F a1 c1 x1) (h2 : MapR (Value.int .i64) (Value.int .i64) es2 x2) (h3 : RowR 64 (arE 64 cB) F a3 c3 x3) : OB_139 F (.pointer (some ⟨b, 0, none⟩)) (some (x0, x1, x2, x3)) [(b2, .map es2 cl2)] := .inr ⟨x0, x1, x2, x3, b, mm, a0, c0, a1, c1, b2, es2, cl2, a3, c3, rfl, rfl, h, h0, h1, h2, h3, rfl⟩
theorem OB_139.one {F : FS} {v : Value} {x : Option ((List (List Int)) × (List (List Int)) × (List (Int × Int)) × (List (List Bool)))} {Lb : LH} (h : OB_139 F v x Lb) : v.oneCell' = true := by
  rcases h with ⟨_, h, _⟩ | ⟨_, _, _, _, _, _, _, _, _, _, _, _, _, _, _, _, h, _⟩ <;> rw [h] <;> rfl
theorem OB_139.mono {F F' : FS} {v : Value} {x : Option ((List (List Int)) × (List (List Int)) × (List (Int × Int)) × (List (List Bool)))} {Lb : LH} (h : OB_139 F v x Lb) (hF : FExt F F') : OB_139 F' v x Lb := by
  rcases h with h | ⟨x0, x1, x2, x3, b, mm, a0, c0, a1, c1, b2, es2, cl2, a3, c3, hx, hv, hb, h0, h1, h2, h3, hL⟩
  · exact .inl h
  · exact .inr ⟨x0, x1, x2, x3, b, mm, a0, c0, a1, c1, b2, es2, cl2, a3, c3, hx, hv, hF _ _ hb, h0.mono (slE_ok (iE_ok _)) hF, h1.mono (slE_ok (iE_ok _)) hF, h2, h3.mono (arE_ok (n := 64) (sz := 1) cB_ok) hF, hL⟩
theorem slt_137 : SlTy Try.prog 137 135 64 (.agg #[.bool false, .bool false, .bool false, .bool false, .bool false, .bool false, .bool false, .bool false, .bool false, .bool false, .bool false, .bool false, .bool false, .bool false, .bool false, .bool false, .bool false, .bool false, .bool false, .bool false, .bool false, .bool false, .bool false, .bool false, .bool false, .bool false, .bool false, .bool false, .bool false, .bool false, .bool false, .bool false, .bool false, .bool false, .bool false, .bool false, .bool false, .bool false, .bool false, .bool false, .bool false, .bool false, .bool false, .bool false, .bool false, .bool false, .bool false, .bool false, .bool false, .bool false, .bool false, .bool false, .bool false, .bool false, .bool false, .bool false, .bool false, .bool false, .bool false, .bool false, .bool false, .bool false, .bool false, .bool false]) 64 := SlTy.mk' Try.underlying137 (by kernel_rfl) rfl (by decide)
theorem slt_145 : SlTy Try.prog 145 116 64 (.agg #[.int .i64 0, .int .i64 0, .int .i64 0, .int .i64 0, .int .i64 0, .int .i64 0, .int .i64 0, .int .i64 0, .int .i64 0, .int .i64 0, .int .i64 0, .int .i64 0, .int .i64 0, .int .i64 0, .int .i64 0, .int .i64 0, .int .i64 0, .int .i64 0, .int .i64 0, .int .i64 0, .int .i64 0, .int .i64 0, .int .i64 0, .int .i64 0, .int .i64 0, .int .i64 0, .int .i64 0, .int .i64 0, .int .i64 0, .int .i64 0, .int .i64 0, .int .i64 0, .int .i64 0, .int .i64 0, .int .i64 0, .int .i64 0, .int .i64 0, .int .i64 0, .int .i64 0, .int .i64 0, .int .i64 0, .int .i64 0, .int .i64 0, .int .i64 0, .int .i64 0, .int .i64 0, .int .i64 0, .int .i64 0, .int .i64 0, .int .i64 0, .int .i64 0, .int .i64 0, .int .i64 0, .int .i64 0, .int .i64 0, .int .i64 0, .int .i64 0, .int .i64 0, .int .i64 0, .int .i64 0, .int .i64 0, .int .i64 0, .int .i64 0, .int .i64 0]) 512 := SlTy.mk' Try.underlying145 (by kernel_rfl) rfl (by decide)
theorem slt_175 : SlTy Try.prog 175 163 2 (.agg #[.int .i64 0, .int .i64 0]) 16 := SlTy.mk' Try.underlying175 (by kernel_rfl) rfl (by decide)
theorem slt_23 : SlTy Try.prog 23 27 1 (.slice none 0 0) 24 := SlTy.mk' Try.underlying23 (by kernel_rfl) rfl (by decide)
theorem slt_24 : SlTy Try.prog 24 40 1 (.slice none 0 0) 24 := SlTy.mk' Try.underlying24 (by kernel_rfl) rfl (by decide)
theorem slt_27 : SlTy Try.prog 27 3 1 (.int .i64 0) 8 := SlTy.mk' Try.underlying27 (by kernel_rfl) rfl (by decide)
theorem slt_40 : SlTy Try.prog 40 41 1 (.int .i64 0) 8 := SlTy.mk' Try.underlying40 (by kernel_rfl) rfl (by decide)
theorem slt_71 : SlTy Try.prog 71 80 1 (.slice none 0 0) 24 := SlTy.mk' Try.underlying71 (by kernel_rfl) rfl (by decide)
theorem slt_80 : SlTy Try.prog 80 81 1 (.int .i64 0) 8 := SlTy.mk' Try.underlying80 (by kernel_rfl) rfl (by decide)
theorem slt_92 : SlTy Try.prog 92 100 1 (.int .i64 0) 8 := SlTy.mk' Try.underlying92 (by kernel_rfl) rfl (by decide)
end Go.Proofs.Ytjgeaaganpkceaa
