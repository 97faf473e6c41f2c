/- Facts on types, printed by a program of mine. -/
import Derived.Test.YtfmapnhfamoecabGreatProg
import Derived.Test.YtfmapnhfamoecabGreatZQShW
import Derived.Test.YtfmapnhfamoecabGreatZQTd
namespace Go.Proofs.YtfmapnhfamoecabGreat
open Go.SH Go.PL
theorem XV : ∀ (x0 x1 x2 y0 y1 y2 : Int) w, (binOp .eql 136 (.agg #[.int .i64 x0, .int .i64 x1, .int .i64 x2]) (.agg #[.int .i64 y0, .int .i64 y1, .int .i64 y2])).run Tryz.prog w = .ok (.bool (decide (x0 = y0 ∧ x1 = y1 ∧ x2 = y2))) w := by
  intro x0 x1 x2 y0 y1 y2 w
  have hu : Tryz.prog.underlying 136 = some (.struct (Tryz.prog.fieldsOf 136)) := by rw [Program.fieldsOf, Tryz.underlying136]
  have hp : Tryz.prog.stoodInHeld 136 = false := by kernel_rfl
  have hf : (Tryz.prog.fieldsOf 136).toList = [{ name := "from", type := 3, offset := 0, embedded := false, tag := "", pkgPath := "oyez/hear", byteOffset := 0 }, { name := "left", type := 3, offset := 1, embedded := false, tag := "", pkgPath := "oyez/hear", byteOffset := 8 }, { name := "set", type := 3, offset := 2, embedded := false, tag := "", pkgPath := "oyez/hear", byteOffset := 16 }] := by rw [Program.fieldsOf, Tryz.underlying136]
  simp only [binOp, Op.equal, Op.maxDepth, Sem.run_bind, run_equalIn_struct w 9999 136 _ _ hu hp, hf]
  simp (config := {decide := true}) [Op.eqFields, part, go_sem, Tryz.isAgg3]
  by_cases h0 : x0 = y0 <;> by_cases h1 : x1 = y1 <;> by_cases h2 : x2 = y2 <;> simp [h0, h1, h2, go_sem]
theorem Xv : ∀ (x0 x1 y0 y1 : Int) w, (binOp .eql 148 (.agg #[.int .i64 x0, .int .i64 x1]) (.agg #[.int .i64 y0, .int .i64 y1])).run Tryz.prog w = .ok (.bool (decide (x0 = y0 ∧ x1 = y1))) w := by
  intro x0 x1 y0 y1 w
  have hu : Tryz.prog.underlying 148 = some (.struct (Tryz.prog.fieldsOf 148)) := by rw [Program.fieldsOf, Tryz.underlying148]
  have hp : Tryz.prog.stoodInHeld 148 = false := by kernel_rfl
  have hf : (Tryz.prog.fieldsOf 148).toList = [{ name := "stand", type := 3, offset := 0, embedded := false, tag := "", pkgPath := "oyez/round", byteOffset := 0 }, { name := "left", type := 3, offset := 1, embedded := false, tag := "", pkgPath := "oyez/round", byteOffset := 8 }] := by rw [Program.fieldsOf, Tryz.underlying148]
  simp only [binOp, Op.equal, Op.maxDepth, Sem.run_bind, run_equalIn_struct w 9999 148 _ _ hu hp, hf]
  simp (config := {decide := true}) [Op.eqFields, part, go_sem, Tryz.isAgg3]
  by_cases h0 : x0 = y0 <;> by_cases h1 : x1 = y1 <;> simp [h0, h1, go_sem]
theorem Tf : ∀ x y a b w, (eqGuard .eql 165 x y (.agg a) (.agg b)).run Tryz.prog w = .ok () w := by intros; simp [eqGuard, go_sem]
theorem Vf : ∀ (x0 x1 y0 y1 : Int) w, (binOp .eql 165 (.agg #[.int .i64 x0, .int .i64 x1]) (.agg #[.int .i64 y0, .int .i64 y1])).run Tryz.prog w = .ok (.bool (decide (x0 = y0 ∧ x1 = y1))) w := by
  intro x0 x1 y0 y1 w
  have hu : Tryz.prog.underlying 165 = some (.struct (Tryz.prog.fieldsOf 165)) := by rw [Program.fieldsOf, Tryz.underlying165]
  have hp : Tryz.prog.stoodInHeld 165 = false := by kernel_rfl
  have hf : (Tryz.prog.fieldsOf 165).toList = [{ name := "down", type := 3, offset := 0, embedded := false, tag := "", pkgPath := "oyez/hear", byteOffset := 0 }, { name := "right", type := 3, offset := 1, embedded := false, tag := "", pkgPath := "oyez/hear", byteOffset := 8 }] := by rw [Program.fieldsOf, Tryz.underlying165]
  simp only [binOp, Op.equal, Op.maxDepth, Sem.run_bind, run_equalIn_struct w 9999 165 _ _ hu hp, hf]
  simp (config := {decide := true}) [Op.eqFields, part, go_sem, Tryz.isAgg3]
  by_cases h0 : x0 = y0 <;> by_cases h1 : x1 = y1 <;> simp [h0, h1, go_sem]
theorem UL : ∀ x y a b w, (eqGuard .eql 59 x y (.agg a) (.agg b)).run Tryz.prog w = .ok () w := by intros; simp [eqGuard, go_sem]
theorem WS : ∀ x y a b w, (eqGuard .neq 59 x y (.agg a) (.agg b)).run Tryz.prog w = .ok () w := by intros; simp [eqGuard, go_sem]
theorem Vw : ∀ (x0 x1 y0 y1 : Int) w, (binOp .eql 59 (.agg #[.int .i64 x0, .int .i64 x1]) (.agg #[.int .i64 y0, .int .i64 y1])).run Tryz.prog w = .ok (.bool (decide (x0 = y0 ∧ x1 = y1))) w := by
  intro x0 x1 y0 y1 w
  have hu : Tryz.prog.underlying 59 = some (.struct (Tryz.prog.fieldsOf 59)) := by rw [Program.fieldsOf, Tryz.underlying59]
  have hp : Tryz.prog.stoodInHeld 59 = false := by kernel_rfl
  have hf : (Tryz.prog.fieldsOf 59).toList = [{ name := "Notice", type := 3, offset := 0, embedded := false, tag := "", pkgPath := "", byteOffset := 0 }, { name := "House", type := 3, offset := 1, embedded := false, tag := "", pkgPath := "", byteOffset := 8 }] := by rw [Program.fieldsOf, Tryz.underlying59]
  simp only [binOp, Op.equal, Op.maxDepth, Sem.run_bind, run_equalIn_struct w 9999 59 _ _ hu hp, hf]
  simp (config := {decide := true}) [Op.eqFields, part, go_sem, Tryz.isAgg3]
  by_cases h0 : x0 = y0 <;> by_cases h1 : x1 = y1 <;> simp [h0, h1, go_sem]
def Mu (k : List Int) : Prop := k.length = 25 ∧ ∀ x ∈ k, C8 x
def Ni (k : List Int) : List Lit := k.map (Lit.int .i64)
theorem WL {α : Type} {xs : List α} (h : xs.length = 25) : ∃ a0 a1 a2 a3 a4 a5 a6 a7 a8 a9 aa ab ad ae af ah ai aj ak al ao aq ar au av, xs = [a0, a1, a2, a3, a4, a5, a6, a7, a8, a9, aa, ab, ad, ae, af, ah, ai, aj, ak, al, ao, aq, ar, au, av] := by
  obtain ⟨a0, xs, rfl, h0⟩ := Gi h
  obtain ⟨a1, xs, rfl, h1⟩ := Gi h0
  obtain ⟨a2, xs, rfl, h2⟩ := Gi h1
  obtain ⟨a3, xs, rfl, h3⟩ := Gi h2
  obtain ⟨a4, xs, rfl, h4⟩ := Gi h3
  obtain ⟨a5, xs, rfl, h5⟩ := Gi h4
  obtain ⟨a6, xs, rfl, h6⟩ := Gi h5
  obtain ⟨a7, xs, rfl, h7⟩ := Gi h6
  obtain ⟨a8, xs, rfl, h8⟩ := Gi h7
  obtain ⟨a9, xs, rfl, h9⟩ := Gi h8
  obtain ⟨aa, xs, rfl, aw⟩ := Gi h9
  obtain ⟨ab, xs, rfl, ax⟩ := Gi aw
  obtain ⟨ad, xs, rfl, ay⟩ := Gi ax
  obtain ⟨ae, xs, rfl, az⟩ := Gi ay
  obtain ⟨af, xs, rfl, ba⟩ := Gi az
  obtain ⟨ah, xs, rfl, bb⟩ := Gi ba
  obtain ⟨ai, xs, rfl, bc⟩ := Gi bb
  obtain ⟨aj, xs, rfl, bg⟩ := Gi bc
  obtain ⟨ak, xs, rfl, bh⟩ := Gi bg
  obtain ⟨al, xs, rfl, bj⟩ := Gi bh
  obtain ⟨ao, xs, rfl, bk⟩ := Gi bj
  obtain ⟨aq, xs, rfl, bl⟩ := Gi bk
  obtain ⟨ar, xs, rfl, bm⟩ := Gi bl
  obtain ⟨au, xs, rfl, bn⟩ := Gi bm
  obtain ⟨av, xs, rfl, bo⟩ := Gi bn
  obtain rfl := Yp bo
  exact ⟨a0, a1, a2, a3, a4, a5, a6, a7, a8, a9, aa, ab, ad, ae, af, ah, ai, aj, ak, al, ao, aq, ar, au, av, rfl⟩
theorem XR (k : List Int) (h : Mu k) : ((fun k : List Int => Value.agg (arr (cI .i64) k)) k).formed Tryz.prog 109 = true := by unfold Mu at h; obtain ⟨h, _⟩ := h; obtain ⟨a0, a1, a2, a3, a4, a5, a6, a7, a8, a9, aa, ab, ad, ae, af, ah, ai, aj, ak, al, ao, aq, ar, au, av, rfl⟩ := WL h; kernel_rfl
theorem XO (k : List Int) (h : Mu k) : Tryz.prog.keyLits 10 109 ((fun k : List Int => Value.agg (arr (cI .i64) k)) k).cells.toList = some (Ni k) := by
  unfold Mu at h; unfold Ni
  have e : (Value.agg (arr (cI .i64) k)).cells.toList = k.map (Value.int .i64) := by show (arr (cI .i64) k).toList = _; unfold arr; exact TT k
  rw [e]
  exact Rf (d := 7) (n := 5) (m := 5) Tryz.underlying109 Tryz.underlying107 Tryz.underlying3 (by kernel_rfl) (by kernel_rfl) (by kernel_rfl) h.1 fun x hx => YM (h.2 x hx)
theorem X2 (x y : List Int) (h : Ni x = Ni y) : x = y := NZ h
theorem WE (x y : List Int) (gx : Mu x) (gy : Mu y) (w : World) : (Op.equal 109 ((fun k : List Int => Value.agg (arr (cI .i64) k)) x) ((fun k : List Int => Value.agg (arr (cI .i64) k)) y)).run Tryz.prog w = .ok (decide (x = y)) w := WN (G := Mu) (ek := (fun k : List Int => Value.agg (arr (cI .i64) k))) (lits := Ni) (m := 10) (D := 10) (by kernel_rfl) (by decide) XR XO X2 gx gy w
theorem UT : ∀ x y a b w, (eqGuard .neq 109 x y (.agg a) (.agg b)).run Tryz.prog w = .ok () w := by intros; simp [eqGuard, go_sem]
theorem QG : ∀ x y a b w, (eqGuard .eql 92 x y (.agg a) (.agg b)).run Tryz.prog w = .ok () w := by intros; simp [eqGuard, go_sem]
theorem Vd : ∀ x y a b w, (eqGuard .neq 92 x y (.agg a) (.agg b)).run Tryz.prog w = .ok () w := by intros; simp [eqGuard, go_sem]
theorem S2 {xs ys : List Bool} (hx : xs.length = 30) (hy : ys.length = 30) : ∀ w, (binOp .eql 92 (.agg (arr cB xs)) (.agg (arr cB ys))).run Tryz.prog w = .ok (.bool (decide (xs = ys))) w := fun w => by
  obtain ⟨i, hi⟩ : ∃ i, Tryz.prog.info? 4 = some i := Option.isSome_iff_exists.1 (by kernel_rfl)
  exact Xp (g := Value.bool) Tryz.underlying92 hi (fun _ => rfl) Tryz.isAgg4 (by kernel_rfl) (fun x y w => Y6 Tryz.underlying4 x y w) hx hy w
theorem XB {xs ys : List Bool} (hx : xs.length = 30) (hy : ys.length = 30) : ∀ w, (binOp .neq 92 (.agg (arr cB xs)) (.agg (arr cB ys))).run Tryz.prog w = .ok (.bool (decide (¬ xs = ys))) w := fun w => by
  obtain ⟨i, hi⟩ : ∃ i, Tryz.prog.info? 4 = some i := Option.isSome_iff_exists.1 (by kernel_rfl)
  exact Xs (g := Value.bool) Tryz.underlying92 hi (fun _ => rfl) Tryz.isAgg4 (by kernel_rfl) (fun x y w => Y6 Tryz.underlying4 x y w) hx hy w
theorem Vr : ∀ a w, (Instr.fieldAt 105 (.pointer (some a)) 0).run Tryz.prog w = .ok (.pointer (some (a.add 0))) w := by intro a w; simp [Instr.fieldAt, go_sem, Instr.sureAddr, fieldPlace]
theorem Gc : ∀ a w, (Instr.fieldAt 113 (.pointer (some a)) 0).run Tryz.prog w = .ok (.pointer (some (a.add 0))) w := by intro a w; simp [Instr.fieldAt, go_sem, Instr.sureAddr, fieldPlace]
theorem G9 : ∀ a w, (Instr.fieldAt 113 (.pointer (some a)) 1).run Tryz.prog w = .ok (.pointer (some (a.add 5))) w := by intro a w; simp [Instr.fieldAt, go_sem, Instr.sureAddr, fieldPlace]
theorem GA : ∀ a w, (Instr.fieldAt 113 (.pointer (some a)) 2).run Tryz.prog w = .ok (.pointer (some (a.add 30))) w := by intro a w; simp [Instr.fieldAt, go_sem, Instr.sureAddr, fieldPlace]
theorem Pk : ∀ a w, (Instr.fieldAt 113 (.pointer (some a)) 3).run Tryz.prog w = .ok (.pointer (some (a.add 31))) w := by intro a w; simp [Instr.fieldAt, go_sem, Instr.sureAddr, fieldPlace]
theorem GD : ∀ a w, (Instr.fieldAt 136 (.pointer (some a)) 0).run Tryz.prog w = .ok (.pointer (some (a.add 0))) w := by intro a w; simp [Instr.fieldAt, go_sem, Instr.sureAddr, fieldPlace]
theorem H4 : ∀ a w, (Instr.fieldAt 136 (.pointer (some a)) 1).run Tryz.prog w = .ok (.pointer (some (a.add 1))) w := by intro a w; simp [Instr.fieldAt, go_sem, Instr.sureAddr, fieldPlace]
theorem J7 : ∀ a w, (Instr.fieldAt 136 (.pointer (some a)) 2).run Tryz.prog w = .ok (.pointer (some (a.add 2))) w := by intro a w; simp [Instr.fieldAt, go_sem, Instr.sureAddr, fieldPlace]
theorem VC : ∀ a w, (Instr.fieldAt 148 (.pointer (some a)) 1).run Tryz.prog w = .ok (.pointer (some (a.add 1))) w := by intro a w; simp [Instr.fieldAt, go_sem, Instr.sureAddr, fieldPlace]
theorem ME : ∀ a w, (Instr.fieldAt 150 (.pointer (some a)) 0).run Tryz.prog w = .ok (.pointer (some (a.add 0))) w := by intro a w; simp [Instr.fieldAt, go_sem, Instr.sureAddr, fieldPlace]
theorem Wb : ∀ a w, (Instr.fieldAt 150 (.pointer (some a)) 1).run Tryz.prog w = .ok (.pointer (some (a.add 1))) w := by intro a w; simp [Instr.fieldAt, go_sem, Instr.sureAddr, fieldPlace]
theorem UR : ∀ a w, (Instr.fieldAt 150 (.pointer (some a)) 2).run Tryz.prog w = .ok (.pointer (some (a.add 3))) w := by intro a w; simp [Instr.fieldAt, go_sem, Instr.sureAddr, fieldPlace]
theorem O7 : ∀ a w, (Instr.fieldAt 165 (.pointer (some a)) 0).run Tryz.prog w = .ok (.pointer (some (a.add 0))) w := by intro a w; simp [Instr.fieldAt, go_sem, Instr.sureAddr, fieldPlace]
theorem Ro : ∀ a w, (Instr.fieldAt 165 (.pointer (some a)) 1).run Tryz.prog w = .ok (.pointer (some (a.add 1))) w := by intro a w; simp [Instr.fieldAt, go_sem, Instr.sureAddr, fieldPlace]
theorem Hg : ∀ a w, (Instr.fieldAt 167 (.pointer (some a)) 0).run Tryz.prog w = .ok (.pointer (some (a.add 0))) w := by intro a w; simp [Instr.fieldAt, go_sem, Instr.sureAddr, fieldPlace]
theorem Rq : ∀ a w, (Instr.fieldAt 167 (.pointer (some a)) 1).run Tryz.prog w = .ok (.pointer (some (a.add 2))) w := by intro a w; simp [Instr.fieldAt, go_sem, Instr.sureAddr, fieldPlace]
theorem UU : ∀ a w, (Instr.fieldAt 167 (.pointer (some a)) 2).run Tryz.prog w = .ok (.pointer (some (a.add 4))) w := by intro a w; simp [Instr.fieldAt, go_sem, Instr.sureAddr, fieldPlace]
theorem KF : ∀ a w, (Instr.fieldAt 27 (.pointer (some a)) 0).run Tryz.prog w = .ok (.pointer (some (a.add 0))) w := by intro a w; simp [Instr.fieldAt, go_sem, Instr.sureAddr, fieldPlace]
theorem Em : ∀ a w, (Instr.fieldAt 27 (.pointer (some a)) 1).run Tryz.prog w = .ok (.pointer (some (a.add 1))) w := by intro a w; simp [Instr.fieldAt, go_sem, Instr.sureAddr, fieldPlace]
theorem QD : ∀ a w, (Instr.fieldAt 31 (.pointer (some a)) 0).run Tryz.prog w = .ok (.pointer (some (a.add 0))) w := by intro a w; simp [Instr.fieldAt, go_sem, Instr.sureAddr, fieldPlace]
theorem QC : ∀ a w, (Instr.fieldAt 31 (.pointer (some a)) 1).run Tryz.prog w = .ok (.pointer (some (a.add 1))) w := by intro a w; simp [Instr.fieldAt, go_sem, Instr.sureAddr, fieldPlace]
theorem Jz : ∀ a w, (Instr.fieldAt 39 (.pointer (some a)) 0).run Tryz.prog w = .ok (.pointer (some (a.add 0))) w := by intro a w; simp [Instr.fieldAt, go_sem, Instr.sureAddr, fieldPlace]
theorem H8 : ∀ a w, (Instr.fieldAt 39 (.pointer (some a)) 1).run Tryz.prog w = .ok (.pointer (some (a.add 1))) w := by intro a w; simp [Instr.fieldAt, go_sem, Instr.sureAddr, fieldPlace]
theorem Q5 : ∀ a w, (Instr.fieldAt 39 (.pointer (some a)) 2).run Tryz.prog w = .ok (.pointer (some (a.add 2))) w := by intro a w; simp [Instr.fieldAt, go_sem, Instr.sureAddr, fieldPlace]
theorem Ov : ∀ a w, (Instr.fieldAt 39 (.pointer (some a)) 3).run Tryz.prog w = .ok (.pointer (some (a.add 3))) w := by intro a w; simp [Instr.fieldAt, go_sem, Instr.sureAddr, fieldPlace]
theorem Fj : ∀ a w, (Instr.fieldAt 39 (.pointer (some a)) 4).run Tryz.prog w = .ok (.pointer (some (a.add 4))) w := by intro a w; simp [Instr.fieldAt, go_sem, Instr.sureAddr, fieldPlace]
theorem Ol : ∀ a w, (Instr.fieldAt 48 (.pointer (some a)) 0).run Tryz.prog w = .ok (.pointer (some (a.add 0))) w := by intro a w; simp [Instr.fieldAt, go_sem, Instr.sureAddr, fieldPlace]
theorem Oi : ∀ a w, (Instr.fieldAt 48 (.pointer (some a)) 1).run Tryz.prog w = .ok (.pointer (some (a.add 1))) w := by intro a w; simp [Instr.fieldAt, go_sem, Instr.sureAddr, fieldPlace]
theorem LB : ∀ a w, (Instr.fieldAt 48 (.pointer (some a)) 2).run Tryz.prog w = .ok (.pointer (some (a.add 2))) w := by intro a w; simp [Instr.fieldAt, go_sem, Instr.sureAddr, fieldPlace]
theorem Nc : ∀ a w, (Instr.fieldAt 59 (.pointer (some a)) 0).run Tryz.prog w = .ok (.pointer (some (a.add 0))) w := by intro a w; simp [Instr.fieldAt, go_sem, Instr.sureAddr, fieldPlace]
theorem TG : ∀ a w, (Instr.fieldAt 59 (.pointer (some a)) 1).run Tryz.prog w = .ok (.pointer (some (a.add 1))) w := by intro a w; simp [Instr.fieldAt, go_sem, Instr.sureAddr, fieldPlace]
theorem IV : ∀ a w, (Instr.fieldAt 62 (.pointer (some a)) 0).run Tryz.prog w = .ok (.pointer (some (a.add 0))) w := by intro a w; simp [Instr.fieldAt, go_sem, Instr.sureAddr, fieldPlace]
theorem LJ : ∀ a w, (Instr.fieldAt 62 (.pointer (some a)) 1).run Tryz.prog w = .ok (.pointer (some (a.add 1))) w := by intro a w; simp [Instr.fieldAt, go_sem, Instr.sureAddr, fieldPlace]
theorem Qo : ∀ a w, (Instr.fieldAt 68 (.pointer (some a)) 0).run Tryz.prog w = .ok (.pointer (some (a.add 0))) w := by intro a w; simp [Instr.fieldAt, go_sem, Instr.sureAddr, fieldPlace]
theorem MH : ∀ a w, (Instr.fieldAt 68 (.pointer (some a)) 1).run Tryz.prog w = .ok (.pointer (some (a.add 1))) w := by intro a w; simp [Instr.fieldAt, go_sem, Instr.sureAddr, fieldPlace]
theorem QM : ∀ a w, (Instr.fieldAt 68 (.pointer (some a)) 2).run Tryz.prog w = .ok (.pointer (some (a.add 2))) w := by intro a w; simp [Instr.fieldAt, go_sem, Instr.sureAddr, fieldPlace]
theorem JB : ∀ a w, (Instr.fieldAt 87 (.pointer (some a)) 0).run Tryz.prog w = .ok (.pointer (some (a.add 0))) w := by intro a w; simp [Instr.fieldAt, go_sem, Instr.sureAddr, fieldPlace]
theorem WQ : ∀ a w, (Instr.fieldAt 87 (.pointer (some a)) 1).run Tryz.prog w = .ok (.pointer (some (a.add 1))) w := by intro a w; simp [Instr.fieldAt, go_sem, Instr.sureAddr, fieldPlace]
theorem XF {xs : List Bool} (hn : xs.length = 30) {i : Int} (g : 0 ≤ i ∧ i < (xs.length : Int)) {x : Bool} (hx : xs[i.toNat]? = some x) : ∀ w, (Instr.index 92 (.agg (arr cB xs)) (.int .i64 i)).run Tryz.prog w = .ok (Value.bool x) w := XJ Tryz.underlying92 (fun _ => rfl) Tryz.isAgg4 Tryz.sizeOf4 hn g hx
theorem WG : Gw Tryz.prog 181 165 2 (.agg #[.int .i64 0, .int .i64 0]) 16 := Gw.mk' Tryz.underlying181 (by kernel_rfl) rfl (by decide)
theorem Vh : Gw Tryz.prog 25 34 1 (.int .i64 0) 8 := Gw.mk' Tryz.underlying25 (by kernel_rfl) rfl (by decide)
theorem BX : Gw Tryz.prog 33 3 1 (.int .i64 0) 8 := Gw.mk' Tryz.underlying33 (by kernel_rfl) rfl (by decide)
theorem Lx : Gw Tryz.prog 36 33 1 (.slice none 0 0) 24 := Gw.mk' Tryz.underlying36 (by kernel_rfl) rfl (by decide)
theorem We : Gw Tryz.prog 37 48 3 (.agg #[.slice none 0 0, .int .i64 0, .int .i64 0]) 40 := Gw.mk' Tryz.underlying37 (by kernel_rfl) rfl (by decide)
theorem VP : Gw Tryz.prog 51 62 2 (.agg #[.int .i64 0, .int .i64 0]) 16 := Gw.mk' Tryz.underlying51 (by kernel_rfl) rfl (by decide)
theorem Kx : Gw Tryz.prog 54 59 2 (.agg #[.int .i64 0, .int .i64 0]) 16 := Gw.mk' Tryz.underlying54 (by kernel_rfl) rfl (by decide)
theorem Mk : Gw Tryz.prog 85 92 30 (.agg #[.bool false, .bool false, .bool false, .bool false, .bool false, .bool false, .bool false, .bool false, .bool false, .bool false, .bool false, .bool false, .bool false, .bool false, .bool false, .bool false, .bool false, .bool false, .bool false, .bool false, .bool false, .bool false, .bool false, .bool false, .bool false, .bool false, .bool false, .bool false, .bool false, .bool false]) 30 := Gw.mk' Tryz.underlying85 (by kernel_rfl) rfl (by decide)
theorem To : KN Tryz.prog 136 (vA (cP (cI .i64) (cP (cI .i64) (cI .i64)))) := by
  refine M6 (by kernel_rfl) (fun x y w => ?_) (fun b k w => ?_) (fun k => ?_)
  · obtain ⟨x0, x1, x2⟩ := x; obtain ⟨y0, y1, y2⟩ := y
    exact (Kt (XV x0 x1 x2 y0 y1 y2 w)).trans (by simp)
  · obtain ⟨k0, k1, k2⟩ := k
    have key : ∀ n, (Instr.checkKey b (n + 2) 136 (.agg #[.int .i64 k0, .int .i64 k1, .int .i64 k2])).run Tryz.prog w = .ok () w := fun n => by
      simp [Instr.checkKey, run_underlying Tryz.underlying136, part, go_sem, Tryz.isAgg3, run_underlying Tryz.underlying3]
    exact key 9998
  · obtain ⟨k0, k1, k2⟩ := k; simp [vA, cP, cI, Instr.sameBits]
theorem LD : KN Tryz.prog 148 (vA (cP (cI .i64) (cI .i64))) := by
  refine M6 (by kernel_rfl) (fun x y w => ?_) (fun b k w => ?_) (fun k => ?_)
  · obtain ⟨x0, x1⟩ := x; obtain ⟨y0, y1⟩ := y
    exact (Kt (Xv x0 x1 y0 y1 w)).trans (by simp)
  · obtain ⟨k0, k1⟩ := k
    have key : ∀ n, (Instr.checkKey b (n + 2) 148 (.agg #[.int .i64 k0, .int .i64 k1])).run Tryz.prog w = .ok () w := fun n => by
      simp [Instr.checkKey, run_underlying Tryz.underlying148, part, go_sem, Tryz.isAgg3, run_underlying Tryz.underlying3]
    exact key 9998
  · obtain ⟨k0, k1⟩ := k; simp [vA, cP, cI, Instr.sameBits]
theorem Sk : (⟨#[0, 1, 2, 2, 3, 3, 3, 3, 4, 4, 4, 4, 4, 4, 4, 4, 5, 5, 5, 5, 5, 5, 5, 5, 5, 5, 5, 5, 5, 5, 5, 5, 6, 6, 6, 6, 6, 6, 6, 6, 6, 6, 6, 6, 6, 6, 6, 6, 6, 6, 6, 6, 6, 6, 6, 6, 6, 6, 6, 6, 6, 6, 6, 6, 7, 7, 7, 7, 7, 7, 7, 7, 7, 7, 7, 7, 7, 7, 7, 7, 7, 7, 7, 7, 7, 7, 7, 7, 7, 7, 7, 7, 7, 7, 7, 7, 7, 7, 7, 7, 7, 7, 7, 7, 7, 7, 7, 7, 7, 7, 7, 7, 7, 7, 7, 7, 7, 7, 7, 7, 7, 7, 7, 7, 7, 7, 7, 7, 8, 8, 8, 8, 8, 8, 8, 8, 8, 8, 8, 8, 8, 8, 8, 8, 8, 8, 8, 8, 8, 8, 8, 8, 8, 8, 8, 8, 8, 8, 8, 8, 8, 8, 8, 8, 8, 8, 8, 8, 8, 8, 8, 8, 8, 8, 8, 8, 8, 8, 8, 8, 8, 8, 8, 8, 8, 8, 8, 8, 8, 8, 8, 8, 8, 8, 8, 8, 8, 8, 8, 8, 8, 8, 8, 8, 8, 8, 8, 8, 8, 8, 8, 8, 8, 8, 8, 8, 8, 8, 8, 8, 8, 8, 8, 8, 8, 8, 8, 8, 8, 8, 8, 8, 8, 8, 8, 8, 8, 8, 8, 8, 8, 8, 8, 8, 8, 8, 8, 8, 8, 8, 8, 8, 8, 8, 8, 8]⟩ : ByteArray) = sB SC := by kernel_rfl
theorem RQ : ∀ x ∈ SC, 0 ≤ x ∧ x < 256 := by decide +kernel
end Go.Proofs.YtfmapnhfamoecabGreat
