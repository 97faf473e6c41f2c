/- Facts on types, printed by a program of mine. -/
import Derived.Test.YtfmapnhfamoecaaGreatProg
import Derived.Test.YtfmapnhfamoecaaGreatZRShW
import Derived.Test.YtfmapnhfamoecaaGreatZRTd
namespace Go.Proofs.YtfmapnhfamoecaaGreat
open Go.SH Go.PL
theorem Mr {α : Type} {xs : List α} (h : xs.length = 24) : ∃ a0 a1 a2 a3 a4 a5 a6 a7 a8 a9 aa ab ad ae af ah ai aj ak al ao aq ar au, xs = [a0, a1, a2, a3, a4, a5, a6, a7, a8, a9, aa, ab, ad, ae, af, ah, ai, aj, ak, al, ao, aq, ar, au] := by
  obtain ⟨a0, xs, rfl, h0⟩ := Dl h
  obtain ⟨a1, xs, rfl, h1⟩ := Dl h0
  obtain ⟨a2, xs, rfl, h2⟩ := Dl h1
  obtain ⟨a3, xs, rfl, h3⟩ := Dl h2
  obtain ⟨a4, xs, rfl, h4⟩ := Dl h3
  obtain ⟨a5, xs, rfl, h5⟩ := Dl h4
  obtain ⟨a6, xs, rfl, h6⟩ := Dl h5
  obtain ⟨a7, xs, rfl, h7⟩ := Dl h6
  obtain ⟨a8, xs, rfl, h8⟩ := Dl h7
  obtain ⟨a9, xs, rfl, h9⟩ := Dl h8
  obtain ⟨aa, xs, rfl, av⟩ := Dl h9
  obtain ⟨ab, xs, rfl, aw⟩ := Dl av
  obtain ⟨ad, xs, rfl, ax⟩ := Dl aw
  obtain ⟨ae, xs, rfl, ay⟩ := Dl ax
  obtain ⟨af, xs, rfl, az⟩ := Dl ay
  obtain ⟨ah, xs, rfl, ba⟩ := Dl az
  obtain ⟨ai, xs, rfl, bb⟩ := Dl ba
  obtain ⟨aj, xs, rfl, bc⟩ := Dl bb
  obtain ⟨ak, xs, rfl, bg⟩ := Dl bc
  obtain ⟨al, xs, rfl, bj⟩ := Dl bg
  obtain ⟨ao, xs, rfl, bk⟩ := Dl bj
  obtain ⟨aq, xs, rfl, bl⟩ := Dl bk
  obtain ⟨ar, xs, rfl, bm⟩ := Dl bl
  obtain ⟨au, xs, rfl, bn⟩ := Dl bm
  obtain rfl := Y1 bn
  exact ⟨a0, a1, a2, a3, a4, a5, a6, a7, a8, a9, aa, ab, ad, ae, af, ah, ai, aj, ak, al, ao, aq, ar, au, rfl⟩
theorem Z9 : ∀ (x0 x1 y0 y1 : Int) w, (binOp .eql 265 (.agg #[.int .i64 x0, .int .i64 x1]) (.agg #[.int .i64 y0, .int .i64 y1])).run Tryz.prog w = .ok (.bool (decide (x0 = y0 ∧ x1 = y1))) w := by
  intro x0 x1 y0 y1 w
  have hu : Tryz.prog.underlying 265 = some (.struct (Tryz.prog.fieldsOf 265)) := by rw [Program.fieldsOf, Tryz.underlying265]
  have hp : Tryz.prog.stoodInHeld 265 = false := by kernel_rfl
  have hf : (Tryz.prog.fieldsOf 265).toList = [{ name := "stand", type := 3, offset := 0, embedded := false, tag := "", pkgPath := "oyez/round", byteOffset := 0 }, { name := "left", type := 3, offset := 1, embedded := false, tag := "", pkgPath := "oyez/round", byteOffset := 8 }] := by rw [Program.fieldsOf, Tryz.underlying265]
  simp only [binOp, Op.equal, Op.maxDepth, Sem.run_bind, run_equalIn_struct w 9999 265 _ _ hu hp, hf]
  simp (config := {decide := true}) [Op.eqFields, part, go_sem, Tryz.isAgg3]
  by_cases h0 : x0 = y0 <;> by_cases h1 : x1 = y1 <;> simp [h0, h1, go_sem]
theorem ZI : ∀ (x0 x1 x2 y0 y1 y2 : Int) w, (binOp .eql 284 (.agg #[.int .i64 x0, .int .i64 x1, .int .i64 x2]) (.agg #[.int .i64 y0, .int .i64 y1, .int .i64 y2])).run Tryz.prog w = .ok (.bool (decide (x0 = y0 ∧ x1 = y1 ∧ x2 = y2))) w := by
  intro x0 x1 x2 y0 y1 y2 w
  have hu : Tryz.prog.underlying 284 = some (.struct (Tryz.prog.fieldsOf 284)) := by rw [Program.fieldsOf, Tryz.underlying284]
  have hp : Tryz.prog.stoodInHeld 284 = false := by kernel_rfl
  have hf : (Tryz.prog.fieldsOf 284).toList = [{ name := "from", type := 3, offset := 0, embedded := false, tag := "", pkgPath := "oyez/hear", byteOffset := 0 }, { name := "left", type := 3, offset := 1, embedded := false, tag := "", pkgPath := "oyez/hear", byteOffset := 8 }, { name := "set", type := 3, offset := 2, embedded := false, tag := "", pkgPath := "oyez/hear", byteOffset := 16 }] := by rw [Program.fieldsOf, Tryz.underlying284]
  simp only [binOp, Op.equal, Op.maxDepth, Sem.run_bind, run_equalIn_struct w 9999 284 _ _ hu hp, hf]
  simp (config := {decide := true}) [Op.eqFields, part, go_sem, Tryz.isAgg3]
  by_cases h0 : x0 = y0 <;> by_cases h1 : x1 = y1 <;> by_cases h2 : x2 = y2 <;> simp [h0, h1, h2, go_sem]
theorem UU : ∀ x y a b w, (eqGuard .eql 321 x y (.agg a) (.agg b)).run Tryz.prog w = .ok () w := by intros; simp [eqGuard, go_sem]
theorem Xx : ∀ (x0 x1 y0 y1 : Int) w, (binOp .eql 321 (.agg #[.int .i64 x0, .int .i64 x1]) (.agg #[.int .i64 y0, .int .i64 y1])).run Tryz.prog w = .ok (.bool (decide (x0 = y0 ∧ x1 = y1))) w := by
  intro x0 x1 y0 y1 w
  have hu : Tryz.prog.underlying 321 = some (.struct (Tryz.prog.fieldsOf 321)) := by rw [Program.fieldsOf, Tryz.underlying321]
  have hp : Tryz.prog.stoodInHeld 321 = false := by kernel_rfl
  have hf : (Tryz.prog.fieldsOf 321).toList = [{ name := "down", type := 3, offset := 0, embedded := false, tag := "", pkgPath := "oyez/hear", byteOffset := 0 }, { name := "right", type := 3, offset := 1, embedded := false, tag := "", pkgPath := "oyez/hear", byteOffset := 8 }] := by rw [Program.fieldsOf, Tryz.underlying321]
  simp only [binOp, Op.equal, Op.maxDepth, Sem.run_bind, run_equalIn_struct w 9999 321 _ _ hu hp, hf]
  simp (config := {decide := true}) [Op.eqFields, part, go_sem, Tryz.isAgg3]
  by_cases h0 : x0 = y0 <;> by_cases h1 : x1 = y1 <;> simp [h0, h1, go_sem]
theorem X2 : ∀ x y a b w, (eqGuard .eql 58 x y (.agg a) (.agg b)).run Tryz.prog w = .ok () w := by intros; simp [eqGuard, go_sem]
theorem YU : ∀ (x0 x1 y0 y1 : Int) w, (binOp .eql 58 (.agg #[.int .i64 x0, .int .i64 x1]) (.agg #[.int .i64 y0, .int .i64 y1])).run Tryz.prog w = .ok (.bool (decide (x0 = y0 ∧ x1 = y1))) w := by
  intro x0 x1 y0 y1 w
  have hu : Tryz.prog.underlying 58 = some (.struct (Tryz.prog.fieldsOf 58)) := by rw [Program.fieldsOf, Tryz.underlying58]
  have hp : Tryz.prog.stoodInHeld 58 = false := by kernel_rfl
  have hf : (Tryz.prog.fieldsOf 58).toList = [{ name := "Notice", type := 3, offset := 0, embedded := false, tag := "", pkgPath := "", byteOffset := 0 }, { name := "House", type := 3, offset := 1, embedded := false, tag := "", pkgPath := "", byteOffset := 8 }] := by rw [Program.fieldsOf, Tryz.underlying58]
  simp only [binOp, Op.equal, Op.maxDepth, Sem.run_bind, run_equalIn_struct w 9999 58 _ _ hu hp, hf]
  simp (config := {decide := true}) [Op.eqFields, part, go_sem, Tryz.isAgg3]
  by_cases h0 : x0 = y0 <;> by_cases h1 : x1 = y1 <;> simp [h0, h1, go_sem]
def Ng (k : List Int) : Prop := k.length = 25 ∧ ∀ x ∈ k, Dh x
def Oy (k : List Int) : List Lit := k.map (Lit.int .i64)
theorem YA {α : Type} {xs : List α} (h : xs.length = 25) : ∃ a0 a1 a2 a3 a4 a5 a6 a7 a8 a9 aa ab ad ae af ah ai aj ak al ao aq ar au av, xs = [a0, a1, a2, a3, a4, a5, a6, a7, a8, a9, aa, ab, ad, ae, af, ah, ai, aj, ak, al, ao, aq, ar, au, av] := by
  obtain ⟨a0, xs, rfl, h0⟩ := Dl h
  obtain ⟨a1, xs, rfl, h1⟩ := Dl h0
  obtain ⟨a2, xs, rfl, h2⟩ := Dl h1
  obtain ⟨a3, xs, rfl, h3⟩ := Dl h2
  obtain ⟨a4, xs, rfl, h4⟩ := Dl h3
  obtain ⟨a5, xs, rfl, h5⟩ := Dl h4
  obtain ⟨a6, xs, rfl, h6⟩ := Dl h5
  obtain ⟨a7, xs, rfl, h7⟩ := Dl h6
  obtain ⟨a8, xs, rfl, h8⟩ := Dl h7
  obtain ⟨a9, xs, rfl, h9⟩ := Dl h8
  obtain ⟨aa, xs, rfl, aw⟩ := Dl h9
  obtain ⟨ab, xs, rfl, ax⟩ := Dl aw
  obtain ⟨ad, xs, rfl, ay⟩ := Dl ax
  obtain ⟨ae, xs, rfl, az⟩ := Dl ay
  obtain ⟨af, xs, rfl, ba⟩ := Dl az
  obtain ⟨ah, xs, rfl, bb⟩ := Dl ba
  obtain ⟨ai, xs, rfl, bc⟩ := Dl bb
  obtain ⟨aj, xs, rfl, bg⟩ := Dl bc
  obtain ⟨ak, xs, rfl, bj⟩ := Dl bg
  obtain ⟨al, xs, rfl, bk⟩ := Dl bj
  obtain ⟨ao, xs, rfl, bl⟩ := Dl bk
  obtain ⟨aq, xs, rfl, bm⟩ := Dl bl
  obtain ⟨ar, xs, rfl, bn⟩ := Dl bm
  obtain ⟨au, xs, rfl, bo⟩ := Dl bn
  obtain ⟨av, xs, rfl, bp⟩ := Dl bo
  obtain rfl := Y1 bp
  exact ⟨a0, a1, a2, a3, a4, a5, a6, a7, a8, a9, aa, ab, ad, ae, af, ah, ai, aj, ak, al, ao, aq, ar, au, av, rfl⟩
theorem ZO (k : List Int) (h : Ng k) : ((fun k : List Int => Value.agg (arr (cI .i64) k)) k).formed Tryz.prog 152 = true := by unfold Ng at h; obtain ⟨h, _⟩ := h; obtain ⟨a0, a1, a2, a3, a4, a5, a6, a7, a8, a9, aa, ab, ad, ae, af, ah, ai, aj, ak, al, ao, aq, ar, au, av, rfl⟩ := YA h; kernel_rfl
theorem ZY (k : List Int) (h : Ng k) : Tryz.prog.keyLits 10 152 ((fun k : List Int => Value.agg (arr (cI .i64) k)) k).cells.toList = some (Oy k) := by
  unfold Ng at h; unfold Oy
  have e : (Value.agg (arr (cI .i64) k)).cells.toList = k.map (Value.int .i64) := by show (arr (cI .i64) k).toList = _; unfold arr; exact Vn k
  rw [e]
  exact SM (d := 7) (n := 5) (m := 5) Tryz.underlying152 Tryz.underlying150 Tryz.underlying3 (by kernel_rfl) (by kernel_rfl) (by kernel_rfl) h.1 fun x hx => aF (h.2 x hx)
theorem ZD (x y : List Int) (h : Oy x = Oy y) : x = y := Pl h
theorem Yu (x y : List Int) (gx : Ng x) (gy : Ng y) (w : World) : (Op.equal 152 ((fun k : List Int => Value.agg (arr (cI .i64) k)) x) ((fun k : List Int => Value.agg (arr (cI .i64) k)) y)).run Tryz.prog w = .ok (decide (x = y)) w := SL (G := Ng) (ek := (fun k : List Int => Value.agg (arr (cI .i64) k))) (lits := Oy) (m := 10) (D := 10) (by kernel_rfl) (by decide) ZO ZY ZD gx gy w
theorem XK : ∀ x y a b w, (eqGuard .neq 152 x y (.agg a) (.agg b)).run Tryz.prog w = .ok () w := by intros; simp [eqGuard, go_sem]
def Ny (k : List Bool) : Prop := k.length = 24
def Ow (k : List Bool) : List Lit := k.map Lit.bool
theorem Zv (k : List Bool) (h : Ny k) : ((fun k : List Bool => Value.agg (arr cB k)) k).formed Tryz.prog 221 = true := by unfold Ny at h; obtain ⟨av, aw, ax, ay, az, ba, bb, bc, bg, bj, aa, ab, ad, ae, af, ah, ai, aj, ak, al, ao, aq, ar, au, rfl⟩ := Mr h; kernel_rfl
theorem ZG (k : List Bool) (h : Ny k) : Tryz.prog.keyLits 10 221 ((fun k : List Bool => Value.agg (arr cB k)) k).cells.toList = some (Ow k) := by unfold Ny at h; obtain ⟨av, aw, ax, ay, az, ba, bb, bc, bg, bj, aa, ab, ad, ae, af, ah, ai, aj, ak, al, ao, aq, ar, au, rfl⟩ := Mr h; kernel_rfl
theorem Zk (x y : List Bool) (h : Ow x = Ow y) : x = y := by
  unfold Ow at h
  exact LC h
theorem Yg (x y : List Bool) (gx : Ny x) (gy : Ny y) (w : World) : (Op.equal 221 ((fun k : List Bool => Value.agg (arr cB k)) x) ((fun k : List Bool => Value.agg (arr cB k)) y)).run Tryz.prog w = .ok (decide (x = y)) w := SL (G := Ny) (ek := (fun k : List Bool => Value.agg (arr cB k))) (lits := Ow) (m := 10) (D := 10) (by kernel_rfl) (by decide) Zv ZG Zk gx gy w
theorem YO : ∀ x y a b w, (eqGuard .eql 221 x y (.agg a) (.agg b)).run Tryz.prog w = .ok () w := by intros; simp [eqGuard, go_sem]
theorem P4 : ∀ x y a b w, (eqGuard .eql 170 x y (.agg a) (.agg b)).run Tryz.prog w = .ok () w := by intros; simp [eqGuard, go_sem]
theorem Wa : ∀ x y a b w, (eqGuard .neq 170 x y (.agg a) (.agg b)).run Tryz.prog w = .ok () w := by intros; simp [eqGuard, go_sem]
theorem So {xs ys : List Bool} (hx : xs.length = 30) (hy : ys.length = 30) : ∀ w, (binOp .eql 170 (.agg (arr cB xs)) (.agg (arr cB ys))).run Tryz.prog w = .ok (.bool (decide (xs = ys))) w := fun w => by
  obtain ⟨i, hi⟩ : ∃ i, Tryz.prog.info? 4 = some i := Option.isSome_iff_exists.1 (by kernel_rfl)
  exact Zs (g := Value.bool) Tryz.underlying170 hi (fun _ => rfl) Tryz.isAgg4 (by kernel_rfl) (fun x y w => cU Tryz.underlying4 x y w) hx hy w
theorem Yt {xs ys : List Bool} (hx : xs.length = 30) (hy : ys.length = 30) : ∀ w, (binOp .neq 170 (.agg (arr cB xs)) (.agg (arr cB ys))).run Tryz.prog w = .ok (.bool (decide (¬ xs = ys))) w := fun w => by
  obtain ⟨i, hi⟩ : ∃ i, Tryz.prog.info? 4 = some i := Option.isSome_iff_exists.1 (by kernel_rfl)
  exact Z6 (g := Value.bool) Tryz.underlying170 hi (fun _ => rfl) Tryz.isAgg4 (by kernel_rfl) (fun x y w => cU Tryz.underlying4 x y w) hx hy w
theorem QA : ∀ a w, (Instr.fieldAt 100 (.pointer (some a)) 0).run Tryz.prog w = .ok (.pointer (some (a.add 0))) w := by intro a w; simp [Instr.fieldAt, go_sem, Instr.sureAddr, fieldPlace]
theorem QF : ∀ a w, (Instr.fieldAt 100 (.pointer (some a)) 1).run Tryz.prog w = .ok (.pointer (some (a.add 1))) w := by intro a w; simp [Instr.fieldAt, go_sem, Instr.sureAddr, fieldPlace]
theorem L8 : ∀ a w, (Instr.fieldAt 100 (.pointer (some a)) 2).run Tryz.prog w = .ok (.pointer (some (a.add 2))) w := by intro a w; simp [Instr.fieldAt, go_sem, Instr.sureAddr, fieldPlace]
theorem KR : ∀ a w, (Instr.fieldAt 100 (.pointer (some a)) 3).run Tryz.prog w = .ok (.pointer (some (a.add 3))) w := by intro a w; simp [Instr.fieldAt, go_sem, Instr.sureAddr, fieldPlace]
theorem Qk : ∀ a w, (Instr.fieldAt 100 (.pointer (some a)) 4).run Tryz.prog w = .ok (.pointer (some (a.add 4))) w := by intro a w; simp [Instr.fieldAt, go_sem, Instr.sureAddr, fieldPlace]
theorem TA : ∀ a w, (Instr.fieldAt 132 (.pointer (some a)) 0).run Tryz.prog w = .ok (.pointer (some (a.add 0))) w := by intro a w; simp [Instr.fieldAt, go_sem, Instr.sureAddr, fieldPlace]
theorem TR : ∀ a w, (Instr.fieldAt 132 (.pointer (some a)) 1).run Tryz.prog w = .ok (.pointer (some (a.add 1))) w := by intro a w; simp [Instr.fieldAt, go_sem, Instr.sureAddr, fieldPlace]
theorem Tk : ∀ a w, (Instr.fieldAt 132 (.pointer (some a)) 2).run Tryz.prog w = .ok (.pointer (some (a.add 2))) w := by intro a w; simp [Instr.fieldAt, go_sem, Instr.sureAddr, fieldPlace]
theorem Qb : ∀ a w, (Instr.fieldAt 137 (.pointer (some a)) 0).run Tryz.prog w = .ok (.pointer (some (a.add 0))) w := by intro a w; simp [Instr.fieldAt, go_sem, Instr.sureAddr, fieldPlace]
theorem Ms : ∀ a w, (Instr.fieldAt 137 (.pointer (some a)) 1).run Tryz.prog w = .ok (.pointer (some (a.add 1))) w := by intro a w; simp [Instr.fieldAt, go_sem, Instr.sureAddr, fieldPlace]
theorem Qa : ∀ a w, (Instr.fieldAt 137 (.pointer (some a)) 2).run Tryz.prog w = .ok (.pointer (some (a.add 2))) w := by intro a w; simp [Instr.fieldAt, go_sem, Instr.sureAddr, fieldPlace]
theorem HX : ∀ a w, (Instr.fieldAt 156 (.pointer (some a)) 0).run Tryz.prog w = .ok (.pointer (some (a.add 0))) w := by intro a w; simp [Instr.fieldAt, go_sem, Instr.sureAddr, fieldPlace]
theorem Kg : ∀ a w, (Instr.fieldAt 156 (.pointer (some a)) 1).run Tryz.prog w = .ok (.pointer (some (a.add 5))) w := by intro a w; simp [Instr.fieldAt, go_sem, Instr.sureAddr, fieldPlace]
theorem K1 : ∀ a w, (Instr.fieldAt 156 (.pointer (some a)) 2).run Tryz.prog w = .ok (.pointer (some (a.add 30))) w := by intro a w; simp [Instr.fieldAt, go_sem, Instr.sureAddr, fieldPlace]
theorem QE : ∀ a w, (Instr.fieldAt 156 (.pointer (some a)) 3).run Tryz.prog w = .ok (.pointer (some (a.add 31))) w := by intro a w; simp [Instr.fieldAt, go_sem, Instr.sureAddr, fieldPlace]
theorem W0 : ∀ a w, (Instr.fieldAt 164 (.pointer (some a)) 0).run Tryz.prog w = .ok (.pointer (some (a.add 0))) w := by intro a w; simp [Instr.fieldAt, go_sem, Instr.sureAddr, fieldPlace]
theorem Ji : ∀ a w, (Instr.fieldAt 174 (.pointer (some a)) 0).run Tryz.prog w = .ok (.pointer (some (a.add 0))) w := by intro a w; simp [Instr.fieldAt, go_sem, Instr.sureAddr, fieldPlace]
theorem Xj : ∀ a w, (Instr.fieldAt 174 (.pointer (some a)) 1).run Tryz.prog w = .ok (.pointer (some (a.add 1))) w := by intro a w; simp [Instr.fieldAt, go_sem, Instr.sureAddr, fieldPlace]
theorem TS : ∀ a w, (Instr.fieldAt 223 (.pointer (some a)) 0).run Tryz.prog w = .ok (.pointer (some (a.add 0))) w := by intro a w; simp [Instr.fieldAt, go_sem, Instr.sureAddr, fieldPlace]
theorem NP : ∀ a w, (Instr.fieldAt 247 (.pointer (some a)) 0).run Tryz.prog w = .ok (.pointer (some (a.add 0))) w := by intro a w; simp [Instr.fieldAt, go_sem, Instr.sureAddr, fieldPlace]
theorem W5 : ∀ a w, (Instr.fieldAt 265 (.pointer (some a)) 1).run Tryz.prog w = .ok (.pointer (some (a.add 1))) w := by intro a w; simp [Instr.fieldAt, go_sem, Instr.sureAddr, fieldPlace]
theorem Oo : ∀ a w, (Instr.fieldAt 267 (.pointer (some a)) 0).run Tryz.prog w = .ok (.pointer (some (a.add 0))) w := by intro a w; simp [Instr.fieldAt, go_sem, Instr.sureAddr, fieldPlace]
theorem Xg : ∀ a w, (Instr.fieldAt 267 (.pointer (some a)) 1).run Tryz.prog w = .ok (.pointer (some (a.add 1))) w := by intro a w; simp [Instr.fieldAt, go_sem, Instr.sureAddr, fieldPlace]
theorem X3 : ∀ a w, (Instr.fieldAt 267 (.pointer (some a)) 2).run Tryz.prog w = .ok (.pointer (some (a.add 3))) w := by intro a w; simp [Instr.fieldAt, go_sem, Instr.sureAddr, fieldPlace]
theorem I7 : ∀ a w, (Instr.fieldAt 27 (.pointer (some a)) 0).run Tryz.prog w = .ok (.pointer (some (a.add 0))) w := by intro a w; simp [Instr.fieldAt, go_sem, Instr.sureAddr, fieldPlace]
theorem Dd : ∀ a w, (Instr.fieldAt 27 (.pointer (some a)) 1).run Tryz.prog w = .ok (.pointer (some (a.add 1))) w := by intro a w; simp [Instr.fieldAt, go_sem, Instr.sureAddr, fieldPlace]
theorem Hk : ∀ a w, (Instr.fieldAt 284 (.pointer (some a)) 0).run Tryz.prog w = .ok (.pointer (some (a.add 0))) w := by intro a w; simp [Instr.fieldAt, go_sem, Instr.sureAddr, fieldPlace]
theorem Iq : ∀ a w, (Instr.fieldAt 284 (.pointer (some a)) 1).run Tryz.prog w = .ok (.pointer (some (a.add 1))) w := by intro a w; simp [Instr.fieldAt, go_sem, Instr.sureAddr, fieldPlace]
theorem KU : ∀ a w, (Instr.fieldAt 284 (.pointer (some a)) 2).run Tryz.prog w = .ok (.pointer (some (a.add 2))) w := by intro a w; simp [Instr.fieldAt, go_sem, Instr.sureAddr, fieldPlace]
theorem PH : ∀ a w, (Instr.fieldAt 31 (.pointer (some a)) 0).run Tryz.prog w = .ok (.pointer (some (a.add 0))) w := by intro a w; simp [Instr.fieldAt, go_sem, Instr.sureAddr, fieldPlace]
theorem PK : ∀ a w, (Instr.fieldAt 31 (.pointer (some a)) 1).run Tryz.prog w = .ok (.pointer (some (a.add 1))) w := by intro a w; simp [Instr.fieldAt, go_sem, Instr.sureAddr, fieldPlace]
theorem XO : ∀ a w, (Instr.fieldAt 313 (.pointer (some a)) 0).run Tryz.prog w = .ok (.pointer (some (a.add 0))) w := by intro a w; simp [Instr.fieldAt, go_sem, Instr.sureAddr, fieldPlace]
theorem Qv : ∀ a w, (Instr.fieldAt 313 (.pointer (some a)) 1).run Tryz.prog w = .ok (.pointer (some (a.add 1))) w := by intro a w; simp [Instr.fieldAt, go_sem, Instr.sureAddr, fieldPlace]
theorem Ob : ∀ a w, (Instr.fieldAt 315 (.pointer (some a)) 0).run Tryz.prog w = .ok (.pointer (some (a.add 0))) w := by intro a w; simp [Instr.fieldAt, go_sem, Instr.sureAddr, fieldPlace]
theorem Tu : ∀ a w, (Instr.fieldAt 315 (.pointer (some a)) 1).run Tryz.prog w = .ok (.pointer (some (a.add 25))) w := by intro a w; simp [Instr.fieldAt, go_sem, Instr.sureAddr, fieldPlace]
theorem Qz : ∀ a w, (Instr.fieldAt 321 (.pointer (some a)) 0).run Tryz.prog w = .ok (.pointer (some (a.add 0))) w := by intro a w; simp [Instr.fieldAt, go_sem, Instr.sureAddr, fieldPlace]
theorem TB : ∀ a w, (Instr.fieldAt 321 (.pointer (some a)) 1).run Tryz.prog w = .ok (.pointer (some (a.add 1))) w := by intro a w; simp [Instr.fieldAt, go_sem, Instr.sureAddr, fieldPlace]
theorem HT : ∀ a w, (Instr.fieldAt 323 (.pointer (some a)) 0).run Tryz.prog w = .ok (.pointer (some (a.add 0))) w := by intro a w; simp [Instr.fieldAt, go_sem, Instr.sureAddr, fieldPlace]
theorem S4 : ∀ a w, (Instr.fieldAt 323 (.pointer (some a)) 1).run Tryz.prog w = .ok (.pointer (some (a.add 2))) w := by intro a w; simp [Instr.fieldAt, go_sem, Instr.sureAddr, fieldPlace]
theorem XY : ∀ a w, (Instr.fieldAt 323 (.pointer (some a)) 2).run Tryz.prog w = .ok (.pointer (some (a.add 4))) w := by intro a w; simp [Instr.fieldAt, go_sem, Instr.sureAddr, fieldPlace]
theorem Kq : ∀ a w, (Instr.fieldAt 39 (.pointer (some a)) 0).run Tryz.prog w = .ok (.pointer (some (a.add 0))) w := by intro a w; simp [Instr.fieldAt, go_sem, Instr.sureAddr, fieldPlace]
theorem I9 : ∀ a w, (Instr.fieldAt 39 (.pointer (some a)) 1).run Tryz.prog w = .ok (.pointer (some (a.add 1))) w := by intro a w; simp [Instr.fieldAt, go_sem, Instr.sureAddr, fieldPlace]
theorem UX : ∀ a w, (Instr.fieldAt 39 (.pointer (some a)) 2).run Tryz.prog w = .ok (.pointer (some (a.add 2))) w := by intro a w; simp [Instr.fieldAt, go_sem, Instr.sureAddr, fieldPlace]
theorem Sc : ∀ a w, (Instr.fieldAt 39 (.pointer (some a)) 3).run Tryz.prog w = .ok (.pointer (some (a.add 3))) w := by intro a w; simp [Instr.fieldAt, go_sem, Instr.sureAddr, fieldPlace]
theorem II : ∀ a w, (Instr.fieldAt 39 (.pointer (some a)) 4).run Tryz.prog w = .ok (.pointer (some (a.add 4))) w := by intro a w; simp [Instr.fieldAt, go_sem, Instr.sureAddr, fieldPlace]
theorem MK : ∀ a w, (Instr.fieldAt 41 (.pointer (some a)) 0).run Tryz.prog w = .ok (.pointer (some (a.add 0))) w := by intro a w; simp [Instr.fieldAt, go_sem, Instr.sureAddr, fieldPlace]
theorem R0 : ∀ a w, (Instr.fieldAt 41 (.pointer (some a)) 1).run Tryz.prog w = .ok (.pointer (some (a.add 1))) w := by intro a w; simp [Instr.fieldAt, go_sem, Instr.sureAddr, fieldPlace]
theorem PI : ∀ a w, (Instr.fieldAt 41 (.pointer (some a)) 2).run Tryz.prog w = .ok (.pointer (some (a.add 2))) w := by intro a w; simp [Instr.fieldAt, go_sem, Instr.sureAddr, fieldPlace]
theorem UT : ∀ a w, (Instr.fieldAt 58 (.pointer (some a)) 0).run Tryz.prog w = .ok (.pointer (some (a.add 0))) w := by intro a w; simp [Instr.fieldAt, go_sem, Instr.sureAddr, fieldPlace]
theorem YE : ∀ a w, (Instr.fieldAt 58 (.pointer (some a)) 1).run Tryz.prog w = .ok (.pointer (some (a.add 1))) w := by intro a w; simp [Instr.fieldAt, go_sem, Instr.sureAddr, fieldPlace]
theorem Sx : ∀ a w, (Instr.fieldAt 64 (.pointer (some a)) 0).run Tryz.prog w = .ok (.pointer (some (a.add 0))) w := by intro a w; simp [Instr.fieldAt, go_sem, Instr.sureAddr, fieldPlace]
theorem Vj : ∀ a w, (Instr.fieldAt 64 (.pointer (some a)) 1).run Tryz.prog w = .ok (.pointer (some (a.add 1))) w := by intro a w; simp [Instr.fieldAt, go_sem, Instr.sureAddr, fieldPlace]
theorem Vm : ET Tryz.prog 103 123 1 (.slice none 0 0) 24 := ET.mk' Tryz.underlying103 (by kernel_rfl) rfl (by decide)
theorem PJ : ET Tryz.prog 123 124 1 (.int .i64 0) 8 := ET.mk' Tryz.underlying123 (by kernel_rfl) rfl (by decide)
theorem Lu : ET Tryz.prog 166 170 30 (.agg #[.bool false, .bool false, .bool false, .bool false, .bool false, .bool false, .bool false, .bool false, .bool false, .bool false, .bool false, .bool false, .bool false, .bool false, .bool false, .bool false, .bool false, .bool false, .bool false, .bool false, .bool false, .bool false, .bool false, .bool false, .bool false, .bool false, .bool false, .bool false, .bool false, .bool false]) 30 := ET.mk' Tryz.underlying166 (by kernel_rfl) rfl (by decide)
theorem VF : ET Tryz.prog 216 223 25 (.agg #[.bool false, .bool false, .bool false, .bool false, .bool false, .bool false, .bool false, .bool false, .bool false, .bool false, .bool false, .bool false, .bool false, .bool false, .bool false, .bool false, .bool false, .bool false, .bool false, .bool false, .bool false, .bool false, .bool false, .bool false, .slice none 0 0]) 48 := ET.mk' Tryz.underlying216 (by kernel_rfl) rfl (by decide)
theorem Mg : ET Tryz.prog 25 34 1 (.int .i64 0) 8 := ET.mk' Tryz.underlying25 (by kernel_rfl) rfl (by decide)
theorem Yx : ET Tryz.prog 256 9 1 (.string ⟨#[]⟩) 16 := ET.mk' Tryz.underlying256 (by kernel_rfl) rfl (by decide)
theorem UW : ET Tryz.prog 310 315 26 (.agg #[.int .i64 0, .bool false, .bool false, .bool false, .bool false, .bool false, .bool false, .bool false, .bool false, .bool false, .bool false, .bool false, .bool false, .bool false, .bool false, .bool false, .bool false, .bool false, .bool false, .bool false, .bool false, .bool false, .bool false, .bool false, .bool false, .slice none 0 0]) 56 := ET.mk' Tryz.underlying310 (by kernel_rfl) rfl (by decide)
theorem CD : ET Tryz.prog 33 3 1 (.int .i64 0) 8 := ET.mk' Tryz.underlying33 (by kernel_rfl) rfl (by decide)
theorem Yn : ET Tryz.prog 345 321 2 (.agg #[.int .i64 0, .int .i64 0]) 16 := ET.mk' Tryz.underlying345 (by kernel_rfl) rfl (by decide)
theorem Nx : ET Tryz.prog 36 33 1 (.slice none 0 0) 24 := ET.mk' Tryz.underlying36 (by kernel_rfl) rfl (by decide)
theorem W4 : ET Tryz.prog 37 41 3 (.agg #[.slice none 0 0, .int .i64 0, .int .i64 0]) 40 := ET.mk' Tryz.underlying37 (by kernel_rfl) rfl (by decide)
theorem R4 : ET Tryz.prog 48 58 2 (.agg #[.int .i64 0, .int .i64 0]) 16 := ET.mk' Tryz.underlying48 (by kernel_rfl) rfl (by decide)
theorem XP : ET Tryz.prog 51 64 2 (.agg #[.int .i64 0, .int .i64 0]) 16 := ET.mk' Tryz.underlying51 (by kernel_rfl) rfl (by decide)
theorem Z0 : ET Tryz.prog 97 36 1 (.slice none 0 0) 24 := ET.mk' Tryz.underlying97 (by kernel_rfl) rfl (by decide)
theorem Zq : ET Tryz.prog 98 132 3 (.agg #[.int .i64 0, .int .i64 0, .int .i64 0]) 24 := ET.mk' Tryz.underlying98 (by kernel_rfl) rfl (by decide)
theorem MA : KK Tryz.prog 265 (vA (cP (cI .i64) (cI .i64))) := by
  refine Ll (by kernel_rfl) (fun x y w => ?_) (fun b k w => ?_) (fun k => ?_)
  · obtain ⟨x0, x1⟩ := x; obtain ⟨y0, y1⟩ := y
    exact (N2 (Z9 x0 x1 y0 y1 w)).trans (by simp)
  · obtain ⟨k0, k1⟩ := k
    have key : ∀ n, (Instr.checkKey b (n + 2) 265 (.agg #[.int .i64 k0, .int .i64 k1])).run Tryz.prog w = .ok () w := fun n => by
      simp [Instr.checkKey, run_underlying Tryz.underlying265, part, go_sem, Tryz.isAgg3, run_underlying Tryz.underlying3]
    exact key 9998
  · obtain ⟨k0, k1⟩ := k; simp [vA, cP, cI, Instr.sameBits]
theorem VJ : KK Tryz.prog 284 (vA (cP (cI .i64) (cP (cI .i64) (cI .i64)))) := by
  refine Ll (by kernel_rfl) (fun x y w => ?_) (fun b k w => ?_) (fun k => ?_)
  · obtain ⟨x0, x1, x2⟩ := x; obtain ⟨y0, y1, y2⟩ := y
    exact (N2 (ZI x0 x1 x2 y0 y1 y2 w)).trans (by simp)
  · obtain ⟨k0, k1, k2⟩ := k
    have key : ∀ n, (Instr.checkKey b (n + 2) 284 (.agg #[.int .i64 k0, .int .i64 k1, .int .i64 k2])).run Tryz.prog w = .ok () w := fun n => by
      simp [Instr.checkKey, run_underlying Tryz.underlying284, part, go_sem, Tryz.isAgg3, run_underlying Tryz.underlying3]
    exact key 9998
  · obtain ⟨k0, k1, k2⟩ := k; simp [vA, cP, cI, Instr.sameBits]
def HH (k : Int × (List Bool)) : Prop := Dh k.1 ∧ k.2.length = 24
def MD (k : Int × (List Bool)) : List Lit := [Lit.int .i64 k.1] ++ (k.2.map Lit.bool)
theorem ZC (k : Int × (List Bool)) (h : HH k) : ((vA (cP (cI .i64) (cA cB))) k).formed Tryz.prog 313 = true := by unfold HH at h; obtain ⟨h0, h1⟩ := h; obtain ⟨x0, x1⟩ := k; obtain ⟨av, aw, ax, ay, az, ba, bb, bc, bg, bj, aa, ab, ad, ae, af, ah, ai, aj, ak, al, ao, aq, ar, au, rfl⟩ := Mr h1; kernel_rfl
theorem ZK (k : Int × (List Bool)) (h : HH k) : Tryz.prog.keyLits 10 313 ((vA (cP (cI .i64) (cA cB))) k).cells.toList = some (MD k) := by unfold HH at h; obtain ⟨h0, h1⟩ := h; obtain ⟨x0, x1⟩ := k; obtain ⟨av, aw, ax, ay, az, ba, bb, bc, bg, bj, aa, ab, ad, ae, af, ah, ai, aj, ak, al, ao, aq, ar, au, rfl⟩ := Mr h1; exact N8 (ls := [[Lit.int .i64 x0], [Lit.bool av, Lit.bool aw, Lit.bool ax, Lit.bool ay, Lit.bool az, Lit.bool ba, Lit.bool bb, Lit.bool bc, Lit.bool bg, Lit.bool bj, Lit.bool aa, Lit.bool ab, Lit.bool ad, Lit.bool ae, Lit.bool af, Lit.bool ah, Lit.bool ai, Lit.bool aj, Lit.bool ak, Lit.bool al, Lit.bool ao, Lit.bool aq, Lit.bool ar, Lit.bool au]]) Tryz.underlying313 (by kernel_rfl) (by kernel_rfl) (.cons (Ol (l := [.int .i64 x0]) (by kernel_rfl) (Mt Tryz.underlying3 (aF h0))) (.cons (Ol (l := [.bool av, .bool aw, .bool ax, .bool ay, .bool az, .bool ba, .bool bb, .bool bc, .bool bg, .bool bj, .bool aa, .bool ab, .bool ad, .bool ae, .bool af, .bool ah, .bool ai, .bool aj, .bool ak, .bool al, .bool ao, .bool aq, .bool ar, .bool au]) (by kernel_rfl) ((by kernel_rfl))) .nil)) (by simp [MD])
theorem Zr (k : Int × (List Bool)) (h : HH k) : Instr.sameBits 10000 ((vA (cP (cI .i64) (cA cB))) k) ((vA (cP (cI .i64) (cA cB))) k) = true := by unfold HH at h; obtain ⟨h0, h1⟩ := h; obtain ⟨x0, x1⟩ := k; obtain ⟨av, aw, ax, ay, az, ba, bb, bc, bg, bj, aa, ab, ad, ae, af, ah, ai, aj, ak, al, ao, aq, ar, au, rfl⟩ := Mr h1; simp [vA, cP, cI, cB, cA, Instr.sameBits]
theorem ZJ (x y : Int × (List Bool)) (h : MD x = MD y) : x = y := by
  obtain ⟨x0, x1⟩ := x; obtain ⟨y0, y1⟩ := y
  unfold MD at h
  have e0 := (fun q => (Lit.int.inj q).2) (List.cons.inj h).1
  have t0 := (List.cons.inj h).2
  have e1 := LC t0
  subst e0 e1; rfl
theorem U4 : SD Tryz.prog 313 HH (vA (cP (cI .i64) (cA cB))) := SX (lits := MD) (m := 10) (D := 10) (by kernel_rfl) (by kernel_rfl) (by decide) ZC ZK ZJ Zr
theorem T3 : (⟨#[0, 1, 2, 2, 3, 3, 3, 3, 4, 4, 4, 4, 4, 4, 4, 4, 5, 5, 5, 5, 5, 5, 5, 5, 5, 5, 5, 5, 5, 5, 5, 5, 6, 6, 6, 6, 6, 6, 6, 6, 6, 6, 6, 6, 6, 6, 6, 6, 6, 6, 6, 6, 6, 6, 6, 6, 6, 6, 6, 6, 6, 6, 6, 6, 7, 7, 7, 7, 7, 7, 7, 7, 7, 7, 7, 7, 7, 7, 7, 7, 7, 7, 7, 7, 7, 7, 7, 7, 7, 7, 7, 7, 7, 7, 7, 7, 7, 7, 7, 7, 7, 7, 7, 7, 7, 7, 7, 7, 7, 7, 7, 7, 7, 7, 7, 7, 7, 7, 7, 7, 7, 7, 7, 7, 7, 7, 7, 7, 8, 8, 8, 8, 8, 8, 8, 8, 8, 8, 8, 8, 8, 8, 8, 8, 8, 8, 8, 8, 8, 8, 8, 8, 8, 8, 8, 8, 8, 8, 8, 8, 8, 8, 8, 8, 8, 8, 8, 8, 8, 8, 8, 8, 8, 8, 8, 8, 8, 8, 8, 8, 8, 8, 8, 8, 8, 8, 8, 8, 8, 8, 8, 8, 8, 8, 8, 8, 8, 8, 8, 8, 8, 8, 8, 8, 8, 8, 8, 8, 8, 8, 8, 8, 8, 8, 8, 8, 8, 8, 8, 8, 8, 8, 8, 8, 8, 8, 8, 8, 8, 8, 8, 8, 8, 8, 8, 8, 8, 8, 8, 8, 8, 8, 8, 8, 8, 8, 8, 8, 8, 8, 8, 8, 8, 8, 8, 8]⟩ : ByteArray) = sB Uy := by kernel_rfl
theorem TT : ∀ x ∈ Uy, 0 ≤ x ∧ x < 256 := by decide +kernel
end Go.Proofs.YtfmapnhfamoecaaGreat
