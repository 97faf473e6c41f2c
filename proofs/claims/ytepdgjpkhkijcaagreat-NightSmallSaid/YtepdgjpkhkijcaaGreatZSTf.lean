/- Facts on types, printed by a program of mine. -/
import Derived.Test.YtepdgjpkhkijcaaGreatProg
import Derived.Test.YtepdgjpkhkijcaaGreatZSShW
import Derived.Test.YtepdgjpkhkijcaaGreatZSTd
namespace Go.Proofs.YtepdgjpkhkijcaaGreat
open Go.SH Go.PL
theorem Po : ∀ x y a b w, (eqGuard .eql 29 x y (.agg a) (.agg b)).run Tryz.prog w = .ok () w := by intros; simp [eqGuard, go_sem]
theorem Qw : ∀ x y a b w, (eqGuard .neq 29 x y (.agg a) (.agg b)).run Tryz.prog w = .ok () w := by intros; simp [eqGuard, go_sem]
theorem eq_29 : ∀ (x0 x1 y0 y1 : Int) w, (binOp .eql 29 (.agg #[.int .i64 x0, .int .i64 x1]) (.agg #[.int .i64 y0, .int .i64 y1])).run Tryz.prog w = .ok (.bool (decide (x0 = y0 ∧ x1 = y1))) w := by
  intro x0 x1 y0 y1 w
  have hu : Tryz.prog.underlying 29 = some (.struct (Tryz.prog.fieldsOf 29)) := by rw [Program.fieldsOf, Tryz.underlying29]
  have hp : Tryz.prog.stoodInHeld 29 = false := by kernel_rfl
  have hf : (Tryz.prog.fieldsOf 29).toList = [{ name := "Hour", type := 3, offset := 0, embedded := false, tag := "", pkgPath := "", byteOffset := 0 }, { name := "Man", type := 3, offset := 1, embedded := false, tag := "", pkgPath := "", byteOffset := 8 }] := by rw [Program.fieldsOf, Tryz.underlying29]
  simp only [binOp, Op.equal, Op.maxDepth, Sem.run_bind, run_equalIn_struct w 9999 29 _ _ hu hp, hf]
  simp (config := {decide := true}) [Op.eqFields, part, go_sem, Tryz.isAgg3]
  by_cases h0 : x0 = y0 <;> by_cases h1 : x1 = y1 <;> simp [h0, h1, go_sem]
theorem P2 : ∀ x y a b w, (eqGuard .eql 78 x y (.agg a) (.agg b)).run Tryz.prog w = .ok () w := by intros; simp [eqGuard, go_sem]
theorem QM : ∀ (x0 x1 y0 y1 : Int) w, (binOp .eql 78 (.agg #[.int .i64 x0, .int .i64 x1]) (.agg #[.int .i64 y0, .int .i64 y1])).run Tryz.prog w = .ok (.bool (decide (x0 = y0 ∧ x1 = y1))) w := by
  intro x0 x1 y0 y1 w
  have hu : Tryz.prog.underlying 78 = some (.struct (Tryz.prog.fieldsOf 78)) := by rw [Program.fieldsOf, Tryz.underlying78]
  have hp : Tryz.prog.stoodInHeld 78 = false := by kernel_rfl
  have hf : (Tryz.prog.fieldsOf 78).toList = [{ name := "Lo", type := 3, offset := 0, embedded := false, tag := "", pkgPath := "", byteOffset := 0 }, { name := "Hi", type := 3, offset := 1, embedded := false, tag := "", pkgPath := "", byteOffset := 8 }] := by rw [Program.fieldsOf, Tryz.underlying78]
  simp only [binOp, Op.equal, Op.maxDepth, Sem.run_bind, run_equalIn_struct w 9999 78 _ _ hu hp, hf]
  simp (config := {decide := true}) [Op.eqFields, part, go_sem, Tryz.isAgg3]
  by_cases h0 : x0 = y0 <;> by_cases h1 : x1 = y1 <;> simp [h0, h1, go_sem]
theorem OD : ∀ x y a b w, (eqGuard .eql 148 x y (.agg a) (.agg b)).run Tryz.prog w = .ok () w := by intros; simp [eqGuard, go_sem]
theorem Pv {xs ys : List Bool} (hx : xs.length = 64) (hy : ys.length = 64) : ∀ w, (binOp .eql 148 (.agg (arr cB xs)) (.agg (arr cB ys))).run Tryz.prog w = .ok (.bool (decide (xs = ys))) w := fun w => by
  obtain ⟨i, hi⟩ : ∃ i, Tryz.prog.info? 4 = some i := Option.isSome_iff_exists.1 (by kernel_rfl)
  exact Q5 (g := Value.bool) Tryz.underlying148 hi (fun _ => rfl) Tryz.isAgg4 (by kernel_rfl) (fun x y w => RR Tryz.underlying4 x y w) hx hy w
theorem HP : ∀ a w, (Instr.fieldAt 113 (.pointer (some a)) 0).run Tryz.prog w = .ok (.pointer (some (a.add 0))) w := by intro a w; simp [Instr.fieldAt, go_sem, Instr.sureAddr, fieldPlace]
theorem O2 : ∀ a w, (Instr.fieldAt 113 (.pointer (some a)) 1).run Tryz.prog w = .ok (.pointer (some (a.add 2))) w := by intro a w; simp [Instr.fieldAt, go_sem, Instr.sureAddr, fieldPlace]
theorem JB : ∀ a w, (Instr.fieldAt 113 (.pointer (some a)) 2).run Tryz.prog w = .ok (.pointer (some (a.add 3))) w := by intro a w; simp [Instr.fieldAt, go_sem, Instr.sureAddr, fieldPlace]
theorem OV : ∀ a w, (Instr.fieldAt 132 (.pointer (some a)) 0).run Tryz.prog w = .ok (.pointer (some (a.add 0))) w := by intro a w; simp [Instr.fieldAt, go_sem, Instr.sureAddr, fieldPlace]
theorem Cy : ∀ a w, (Instr.fieldAt 26 (.pointer (some a)) 0).run Tryz.prog w = .ok (.pointer (some (a.add 0))) w := by intro a w; simp [Instr.fieldAt, go_sem, Instr.sureAddr, fieldPlace]
theorem Bz : ∀ a w, (Instr.fieldAt 26 (.pointer (some a)) 1).run Tryz.prog w = .ok (.pointer (some (a.add 1))) w := by intro a w; simp [Instr.fieldAt, go_sem, Instr.sureAddr, fieldPlace]
theorem GU : ∀ a w, (Instr.fieldAt 29 (.pointer (some a)) 0).run Tryz.prog w = .ok (.pointer (some (a.add 0))) w := by intro a w; simp [Instr.fieldAt, go_sem, Instr.sureAddr, fieldPlace]
theorem Hm : ∀ a w, (Instr.fieldAt 29 (.pointer (some a)) 1).run Tryz.prog w = .ok (.pointer (some (a.add 1))) w := by intro a w; simp [Instr.fieldAt, go_sem, Instr.sureAddr, fieldPlace]
theorem Hs : ∀ a w, (Instr.fieldAt 51 (.pointer (some a)) 0).run Tryz.prog w = .ok (.pointer (some (a.add 0))) w := by intro a w; simp [Instr.fieldAt, go_sem, Instr.sureAddr, fieldPlace]
theorem DQ : ∀ a w, (Instr.fieldAt 51 (.pointer (some a)) 1).run Tryz.prog w = .ok (.pointer (some (a.add 1))) w := by intro a w; simp [Instr.fieldAt, go_sem, Instr.sureAddr, fieldPlace]
theorem Ox : ∀ a w, (Instr.fieldAt 78 (.pointer (some a)) 0).run Tryz.prog w = .ok (.pointer (some (a.add 0))) w := by intro a w; simp [Instr.fieldAt, go_sem, Instr.sureAddr, fieldPlace]
theorem OA : ∀ a w, (Instr.fieldAt 78 (.pointer (some a)) 1).run Tryz.prog w = .ok (.pointer (some (a.add 1))) w := by intro a w; simp [Instr.fieldAt, go_sem, Instr.sureAddr, fieldPlace]
def Km (F : FS) (v : Value) (x : Option ((List (List Int)) × (List (List Int)) × (List (Int × Int)) × (List (List Bool)))) (Lb : LH) : Prop := (x = none ∧ v = .pointer none ∧ Lb = []) ∨ ∃ (x0 : List (List Int)) (x1 : List (List Int)) (x2 : List (Int × Int)) (x3 : List (List Bool)) (b : Nat) (mm : Nat × Nat) (a0 : Option Addr) (c0 : Nat) (a1 : Option Addr) (c1 : Nat) (b2 : Nat) (a6 : Array MapEntry) (aa : Nat) (a3 : Option Addr) (c3 : Nat), x = some (x0, x1, x2, x3) ∧ v = .pointer (some ⟨b, 0, none⟩) ∧ F b = some (.cells #[.slice a0 x0.length c0, .slice a1 x1.length c1, .map (some b2), .slice a3 x3.length c3] 113 mm) ∧ Au 1 (Bm 1 (iE .i64)) F a0 c0 x0 ∧ Au 1 (Bm 1 (iE .i64)) F a1 c1 x1 ∧ HO (Value.int .i64) (Value.int .i64) a6 x2 ∧ Au 64 (LP 64 cB) F a3 c3 x3 ∧ Lb = [(b2, .map a6 aa)]
theorem LY (F : FS) : Km F (.pointer none) none [] := .inl ⟨rfl, rfl, rfl⟩
theorem CM {F : FS} {v : Value} {x0 : List (List Int)} {x1 : List (List Int)} {x2 : List (Int × Int)} {x3 : List (List Bool)} {Lb : LH} (h : Km F v (some (x0, x1, x2, x3)) Lb) : ∃ (b : Nat) (mm : Nat × Nat) (a0 : Option Addr) (c0 : Nat) (a1 : Option Addr) (c1 : Nat) (b2 : Nat) (a6 : Array MapEntry) (aa : Nat) (a3 : Option Addr) (c3 : Nat), v = .pointer (some ⟨b, 0, none⟩) ∧ F b = some (.cells #[.slice a0 x0.length c0, .slice a1 x1.length c1, .map (some b2), .slice a3 x3.length c3] 113 mm) ∧ Au 1 (Bm 1 (iE .i64)) F a0 c0 x0 ∧ Au 1 (Bm 1 (iE .i64)) F a1 c1 x1 ∧ HO (Value.int .i64) (Value.int .i64) a6 x2 ∧ Au 64 (LP 64 cB) F a3 c3 x3 ∧ Lb = [(b2, .map a6 aa)] := by
  rcases h with ⟨h, _⟩ | ⟨_, _, _, _, b, mm, a0, c0, a1, c1, b2, a6, aa, a3, c3, h, hr⟩
  · cases h
  · cases h; exact ⟨b, mm, a0, c0, a1, c1, b2, a6, aa, a3, c3, hr⟩
theorem NX {F : FS} {x0 : List (List Int)} {x1 : List (List Int)} {x2 : List (Int × Int)} {x3 : List (List Bool)} {b : Nat} {mm : Nat × Nat} {a0 : Option Addr} {c0 : Nat} {a1 : Option Addr} {c1 : Nat} {b2 : Nat} {a6 : Array MapEntry} {aa : Nat} {a3 : Option Addr} {c3 : Nat} (h : F b = some (.cells #[.slice a0 x0.length c0, .slice a1 x1.length c1, .map (some b2), .slice a3 x3.length c3] 113 mm)) (h0 : Au 1 (Bm 1 (iE .i64)) F a0 c0 x0) (h1 : Au 1 (Bm 1 (iE .i64)) F a1 c1 x1) (h2 : HO (Value.int .i64) (Value.int .i64) a6 x2) (h3 : Au 64 (LP 64 cB) F a3 c3 x3) : Km F (.pointer (some ⟨b, 0, none⟩)) (some (x0, x1, x2, x3)) [(b2, .map a6 aa)] := .inr ⟨x0, x1, x2, x3, b, mm, a0, c0, a1, c1, b2, a6, aa, a3, c3, rfl, rfl, h, h0, h1, h2, h3, rfl⟩
theorem Km.one {F : FS} {v : Value} {x : Option ((List (List Int)) × (List (List Int)) × (List (Int × Int)) × (List (List Bool)))} {Lb : LH} (h : Km F v x Lb) : v.oneCell' = true := by
  rcases h with ⟨_, h, _⟩ | ⟨_, _, _, _, _, _, _, _, _, _, _, _, _, _, _, _, h, _⟩ <;> rw [h] <;> rfl
theorem Km.mono {F F' : FS} {v : Value} {x : Option ((List (List Int)) × (List (List Int)) × (List (Int × Int)) × (List (List Bool)))} {Lb : LH} (h : Km F v x Lb) (hF : AN F F') : Km F' v x Lb := by
  rcases h with h | ⟨x0, x1, x2, x3, b, mm, a0, c0, a1, c1, b2, a6, aa, a3, c3, hx, hv, hb, h0, h1, h2, h3, hL⟩
  · exact .inl h
  · exact .inr ⟨x0, x1, x2, x3, b, mm, a0, c0, a1, c1, b2, a6, aa, a3, c3, hx, hv, hF _ _ hb, h0.mono (Ak (Ae _)) hF, h1.mono (Ak (Ae _)) hF, h2, h3.mono (Bg (n := 64) (sz := 1) BU) hF, hL⟩
theorem Ng : FR Tryz.prog 104 107 1 (.slice none 0 0) 24 := FR.mk' Tryz.underlying104 (by kernel_rfl) rfl (by decide)
theorem Mc : FR Tryz.prog 107 108 1 (.int .i64 0) 8 := FR.mk' Tryz.underlying107 (by kernel_rfl) rfl (by decide)
theorem Px : FR Tryz.prog 111 148 64 (.agg #[.bool false, .bool false, .bool false, .bool false, .bool false, .bool false, .bool false, .bool false, .bool false, .bool false, .bool false, .bool false, .bool false, .bool false, .bool false, .bool false, .bool false, .bool false, .bool false, .bool false, .bool false, .bool false, .bool false, .bool false, .bool false, .bool false, .bool false, .bool false, .bool false, .bool false, .bool false, .bool false, .bool false, .bool false, .bool false, .bool false, .bool false, .bool false, .bool false, .bool false, .bool false, .bool false, .bool false, .bool false, .bool false, .bool false, .bool false, .bool false, .bool false, .bool false, .bool false, .bool false, .bool false, .bool false, .bool false, .bool false, .bool false, .bool false, .bool false, .bool false, .bool false, .bool false, .bool false, .bool false]) 64 := FR.mk' Tryz.underlying111 (by kernel_rfl) rfl (by decide)
theorem Qz : FR Tryz.prog 155 142 64 (.agg #[.int .i64 0, .int .i64 0, .int .i64 0, .int .i64 0, .int .i64 0, .int .i64 0, .int .i64 0, .int .i64 0, .int .i64 0, .int .i64 0, .int .i64 0, .int .i64 0, .int .i64 0, .int .i64 0, .int .i64 0, .int .i64 0, .int .i64 0, .int .i64 0, .int .i64 0, .int .i64 0, .int .i64 0, .int .i64 0, .int .i64 0, .int .i64 0, .int .i64 0, .int .i64 0, .int .i64 0, .int .i64 0, .int .i64 0, .int .i64 0, .int .i64 0, .int .i64 0, .int .i64 0, .int .i64 0, .int .i64 0, .int .i64 0, .int .i64 0, .int .i64 0, .int .i64 0, .int .i64 0, .int .i64 0, .int .i64 0, .int .i64 0, .int .i64 0, .int .i64 0, .int .i64 0, .int .i64 0, .int .i64 0, .int .i64 0, .int .i64 0, .int .i64 0, .int .i64 0, .int .i64 0, .int .i64 0, .int .i64 0, .int .i64 0, .int .i64 0, .int .i64 0, .int .i64 0, .int .i64 0, .int .i64 0, .int .i64 0, .int .i64 0, .int .i64 0]) 512 := FR.mk' Tryz.underlying155 (by kernel_rfl) rfl (by decide)
theorem BN : FR Tryz.prog 22 3 1 (.int .i64 0) 8 := FR.mk' Tryz.underlying22 (by kernel_rfl) rfl (by decide)
theorem FP : FR Tryz.prog 23 22 1 (.slice none 0 0) 24 := FR.mk' Tryz.underlying23 (by kernel_rfl) rfl (by decide)
theorem KX : FR Tryz.prog 24 36 1 (.slice none 0 0) 24 := FR.mk' Tryz.underlying24 (by kernel_rfl) rfl (by decide)
theorem QW : FR Tryz.prog 34 33 1 (.pointer none) 8 := FR.mk' Tryz.underlying34 (by kernel_rfl) rfl (by decide)
theorem Kp : FR Tryz.prog 36 35 1 (.int .i64 0) 8 := FR.mk' Tryz.underlying36 (by kernel_rfl) rfl (by decide)
theorem N4 : FR Tryz.prog 85 29 2 (.agg #[.int .i64 0, .int .i64 0]) 16 := FR.mk' Tryz.underlying85 (by kernel_rfl) rfl (by decide)
end Go.Proofs.YtepdgjpkhkijcaaGreat
