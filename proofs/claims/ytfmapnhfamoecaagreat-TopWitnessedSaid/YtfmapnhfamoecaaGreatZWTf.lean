/- Facts on types, printed by a program of mine. -/
import Derived.Test.YtfmapnhfamoecaaGreatProg
import Derived.Test.YtfmapnhfamoecaaGreatZWShW
import Derived.Test.YtfmapnhfamoecaaGreatZWTd
namespace Go.Proofs.YtfmapnhfamoecaaGreat
open Go.SH Go.PL
theorem MC {α : Type} {xs : List α} (h : xs.length = 24) : ∃ a0 a1 a2 a3 a4 a5 a6 a7 a8 a9 aa ab ad ae af ah ai aj ak al ao aq ar au, xs = [a0, a1, a2, a3, a4, a5, a6, a7, a8, a9, aa, ab, ad, ae, af, ah, ai, aj, ak, al, ao, aq, ar, au] := by
  obtain ⟨a0, xs, rfl, h0⟩ := C8 h
  obtain ⟨a1, xs, rfl, h1⟩ := C8 h0
  obtain ⟨a2, xs, rfl, h2⟩ := C8 h1
  obtain ⟨a3, xs, rfl, h3⟩ := C8 h2
  obtain ⟨a4, xs, rfl, h4⟩ := C8 h3
  obtain ⟨a5, xs, rfl, h5⟩ := C8 h4
  obtain ⟨a6, xs, rfl, h6⟩ := C8 h5
  obtain ⟨a7, xs, rfl, h7⟩ := C8 h6
  obtain ⟨a8, xs, rfl, h8⟩ := C8 h7
  obtain ⟨a9, xs, rfl, h9⟩ := C8 h8
  obtain ⟨aa, xs, rfl, av⟩ := C8 h9
  obtain ⟨ab, xs, rfl, aw⟩ := C8 av
  obtain ⟨ad, xs, rfl, ax⟩ := C8 aw
  obtain ⟨ae, xs, rfl, ay⟩ := C8 ax
  obtain ⟨af, xs, rfl, az⟩ := C8 ay
  obtain ⟨ah, xs, rfl, ba⟩ := C8 az
  obtain ⟨ai, xs, rfl, bb⟩ := C8 ba
  obtain ⟨aj, xs, rfl, bc⟩ := C8 bb
  obtain ⟨ak, xs, rfl, bd⟩ := C8 bc
  obtain ⟨al, xs, rfl, bg⟩ := C8 bd
  obtain ⟨ao, xs, rfl, bj⟩ := C8 bg
  obtain ⟨aq, xs, rfl, bk⟩ := C8 bj
  obtain ⟨ar, xs, rfl, bl⟩ := C8 bk
  obtain ⟨au, xs, rfl, bn⟩ := C8 bl
  obtain rfl := WL bn
  exact ⟨a0, a1, a2, a3, a4, a5, a6, a7, a8, a9, aa, ab, ad, ae, af, ah, ai, aj, ak, al, ao, aq, ar, au, rfl⟩
theorem W9 : ∀ (x0 x1 y0 y1 : Int) w, (binOp .eql 265 (.agg #[.int .i64 x0, .int .i64 x1]) (.agg #[.int .i64 y0, .int .i64 y1])).run Tryz.prog w = .ok (.bool (decide (x0 = y0 ∧ x1 = y1))) w := by
  intro x0 x1 y0 y1 w
  have hu : Tryz.prog.underlying 265 = some (.struct (Tryz.prog.fieldsOf 265)) := by rw [Program.fieldsOf, Tryz.underlying265]
  have hp : Tryz.prog.stoodInHeld 265 = false := by kernel_rfl
  have hf : (Tryz.prog.fieldsOf 265).toList = [{ name := "stand", type := 3, offset := 0, embedded := false, tag := "", pkgPath := "oyez/round", byteOffset := 0 }, { name := "left", type := 3, offset := 1, embedded := false, tag := "", pkgPath := "oyez/round", byteOffset := 8 }] := by rw [Program.fieldsOf, Tryz.underlying265]
  simp only [binOp, Op.equal, Op.maxDepth, Sem.run_bind, run_equalIn_struct w 9999 265 _ _ hu hp, hf]
  simp (config := {decide := true}) [Op.eqFields, part, go_sem, Tryz.isAgg3]
  by_cases h0 : x0 = y0 <;> by_cases h1 : x1 = y1 <;> simp [h0, h1, go_sem]
theorem WQ : ∀ (x0 x1 y0 y1 : Int) w, (binOp .eql 294 (.agg #[.int .i64 x0, .int .i64 x1]) (.agg #[.int .i64 y0, .int .i64 y1])).run Tryz.prog w = .ok (.bool (decide (x0 = y0 ∧ x1 = y1))) w := by
  intro x0 x1 y0 y1 w
  have hu : Tryz.prog.underlying 294 = some (.struct (Tryz.prog.fieldsOf 294)) := by rw [Program.fieldsOf, Tryz.underlying294]
  have hp : Tryz.prog.stoodInHeld 294 = false := by kernel_rfl
  have hf : (Tryz.prog.fieldsOf 294).toList = [{ name := "lost", type := 3, offset := 0, embedded := false, tag := "", pkgPath := "oyez/find", byteOffset := 0 }, { name := "used", type := 3, offset := 1, embedded := false, tag := "", pkgPath := "oyez/find", byteOffset := 8 }] := by rw [Program.fieldsOf, Tryz.underlying294]
  simp only [binOp, Op.equal, Op.maxDepth, Sem.run_bind, run_equalIn_struct w 9999 294 _ _ hu hp, hf]
  simp (config := {decide := true}) [Op.eqFields, part, go_sem, Tryz.isAgg3]
  by_cases h0 : x0 = y0 <;> by_cases h1 : x1 = y1 <;> simp [h0, h1, go_sem]
theorem T4 : ∀ x y a b w, (eqGuard .eql 321 x y (.agg a) (.agg b)).run Tryz.prog w = .ok () w := by intros; simp [eqGuard, go_sem]
theorem Va : ∀ (x0 x1 y0 y1 : Int) w, (binOp .eql 321 (.agg #[.int .i64 x0, .int .i64 x1]) (.agg #[.int .i64 y0, .int .i64 y1])).run Tryz.prog w = .ok (.bool (decide (x0 = y0 ∧ x1 = y1))) w := by
  intro x0 x1 y0 y1 w
  have hu : Tryz.prog.underlying 321 = some (.struct (Tryz.prog.fieldsOf 321)) := by rw [Program.fieldsOf, Tryz.underlying321]
  have hp : Tryz.prog.stoodInHeld 321 = false := by kernel_rfl
  have hf : (Tryz.prog.fieldsOf 321).toList = [{ name := "down", type := 3, offset := 0, embedded := false, tag := "", pkgPath := "oyez/hear", byteOffset := 0 }, { name := "right", type := 3, offset := 1, embedded := false, tag := "", pkgPath := "oyez/hear", byteOffset := 8 }] := by rw [Program.fieldsOf, Tryz.underlying321]
  simp only [binOp, Op.equal, Op.maxDepth, Sem.run_bind, run_equalIn_struct w 9999 321 _ _ hu hp, hf]
  simp (config := {decide := true}) [Op.eqFields, part, go_sem, Tryz.isAgg3]
  by_cases h0 : x0 = y0 <;> by_cases h1 : x1 = y1 <;> simp [h0, h1, go_sem]
def NI (k : List Int) : Prop := k.length = 25 ∧ ∀ x ∈ k, C6 x
def OA (k : List Int) : List Lit := k.map (Lit.int .i64)
theorem V1 {α : Type} {xs : List α} (h : xs.length = 25) : ∃ a0 a1 a2 a3 a4 a5 a6 a7 a8 a9 aa ab ad ae af ah ai aj ak al ao aq ar au av, xs = [a0, a1, a2, a3, a4, a5, a6, a7, a8, a9, aa, ab, ad, ae, af, ah, ai, aj, ak, al, ao, aq, ar, au, av] := by
  obtain ⟨a0, xs, rfl, h0⟩ := C8 h
  obtain ⟨a1, xs, rfl, h1⟩ := C8 h0
  obtain ⟨a2, xs, rfl, h2⟩ := C8 h1
  obtain ⟨a3, xs, rfl, h3⟩ := C8 h2
  obtain ⟨a4, xs, rfl, h4⟩ := C8 h3
  obtain ⟨a5, xs, rfl, h5⟩ := C8 h4
  obtain ⟨a6, xs, rfl, h6⟩ := C8 h5
  obtain ⟨a7, xs, rfl, h7⟩ := C8 h6
  obtain ⟨a8, xs, rfl, h8⟩ := C8 h7
  obtain ⟨a9, xs, rfl, h9⟩ := C8 h8
  obtain ⟨aa, xs, rfl, aw⟩ := C8 h9
  obtain ⟨ab, xs, rfl, ax⟩ := C8 aw
  obtain ⟨ad, xs, rfl, ay⟩ := C8 ax
  obtain ⟨ae, xs, rfl, az⟩ := C8 ay
  obtain ⟨af, xs, rfl, ba⟩ := C8 az
  obtain ⟨ah, xs, rfl, bb⟩ := C8 ba
  obtain ⟨ai, xs, rfl, bc⟩ := C8 bb
  obtain ⟨aj, xs, rfl, bd⟩ := C8 bc
  obtain ⟨ak, xs, rfl, bg⟩ := C8 bd
  obtain ⟨al, xs, rfl, bj⟩ := C8 bg
  obtain ⟨ao, xs, rfl, bk⟩ := C8 bj
  obtain ⟨aq, xs, rfl, bl⟩ := C8 bk
  obtain ⟨ar, xs, rfl, bn⟩ := C8 bl
  obtain ⟨au, xs, rfl, bo⟩ := C8 bn
  obtain ⟨av, xs, rfl, bp⟩ := C8 bo
  obtain rfl := WL bp
  exact ⟨a0, a1, a2, a3, a4, a5, a6, a7, a8, a9, aa, ab, ad, ae, af, ah, ai, aj, ak, al, ao, aq, ar, au, av, rfl⟩
theorem W2 (k : List Int) (h : NI k) : ((fun k : List Int => Value.agg (arr (cI .i64) k)) k).formed Tryz.prog 152 = true := by unfold NI at h; obtain ⟨h, _⟩ := h; obtain ⟨a0, a1, a2, a3, a4, a5, a6, a7, a8, a9, aa, ab, ad, ae, af, ah, ai, aj, ak, al, ao, aq, ar, au, av, rfl⟩ := V1 h; kernel_rfl
theorem W8 (k : List Int) (h : NI k) : Tryz.prog.keyLits 10 152 ((fun k : List Int => Value.agg (arr (cI .i64) k)) k).cells.toList = some (OA k) := by
  unfold NI at h; unfold OA
  have e : (Value.agg (arr (cI .i64) k)).cells.toList = k.map (Value.int .i64) := by show (arr (cI .i64) k).toList = _; unfold arr; exact TZ k
  rw [e]
  exact Rt (d := 7) (n := 5) (m := 5) Tryz.underlying152 Tryz.underlying150 Tryz.underlying3 (by kernel_rfl) (by kernel_rfl) (by kernel_rfl) h.1 fun x hx => XH (h.2 x hx)
theorem Xe (x y : List Int) (h : OA x = OA y) : x = y := Pt h
theorem Wh (x y : List Int) (gx : NI x) (gy : NI y) (w : World) : (Op.equal 152 ((fun k : List Int => Value.agg (arr (cI .i64) k)) x) ((fun k : List Int => Value.agg (arr (cI .i64) k)) y)).run Tryz.prog w = .ok (decide (x = y)) w := Rx (G := NI) (ek := (fun k : List Int => Value.agg (arr (cI .i64) k))) (lits := OA) (m := 10) (D := 10) (by kernel_rfl) (by decide) W2 W8 Xe gx gy w
theorem VK : ∀ x y a b w, (eqGuard .neq 152 x y (.agg a) (.agg b)).run Tryz.prog w = .ok () w := by intros; simp [eqGuard, go_sem]
def Nq (k : List Bool) : Prop := k.length = 24
def Oq (k : List Bool) : List Lit := k.map Lit.bool
theorem W3 (k : List Bool) (h : Nq k) : ((fun k : List Bool => Value.agg (arr cB k)) k).formed Tryz.prog 221 = true := by unfold Nq at h; obtain ⟨av, aw, ax, ay, az, ba, bb, bc, bd, bg, aa, ab, ad, ae, af, ah, ai, aj, ak, al, ao, aq, ar, au, rfl⟩ := MC h; kernel_rfl
theorem W1 (k : List Bool) (h : Nq k) : Tryz.prog.keyLits 10 221 ((fun k : List Bool => Value.agg (arr cB k)) k).cells.toList = some (Oq k) := by unfold Nq at h; obtain ⟨av, aw, ax, ay, az, ba, bb, bc, bd, bg, aa, ab, ad, ae, af, ah, ai, aj, ak, al, ao, aq, ar, au, rfl⟩ := MC h; kernel_rfl
theorem Xa (x y : List Bool) (h : Oq x = Oq y) : x = y := by
  unfold Oq at h
  exact Lp h
theorem V4 (x y : List Bool) (gx : Nq x) (gy : Nq y) (w : World) : (Op.equal 221 ((fun k : List Bool => Value.agg (arr cB k)) x) ((fun k : List Bool => Value.agg (arr cB k)) y)).run Tryz.prog w = .ok (decide (x = y)) w := Rx (G := Nq) (ek := (fun k : List Bool => Value.agg (arr cB k))) (lits := Oq) (m := 10) (D := 10) (by kernel_rfl) (by decide) W3 W1 Xa gx gy w
theorem V8 : ∀ x y a b w, (eqGuard .eql 221 x y (.agg a) (.agg b)).run Tryz.prog w = .ok () w := by intros; simp [eqGuard, go_sem]
theorem SU : ∀ x y a b w, (eqGuard .eql 188 x y (.agg a) (.agg b)).run Tryz.prog w = .ok () w := by intros; simp [eqGuard, go_sem]
theorem T7 {xs ys : List Bool} (hx : xs.length = 64) (hy : ys.length = 64) : ∀ w, (binOp .eql 188 (.agg (arr cB xs)) (.agg (arr cB ys))).run Tryz.prog w = .ok (.bool (decide (xs = ys))) w := fun w => by
  obtain ⟨i, hi⟩ : ∃ i, Tryz.prog.info? 4 = some i := Option.isSome_iff_exists.1 (by kernel_rfl)
  exact WV (g := Value.bool) Tryz.underlying188 hi (fun _ => rfl) Tryz.isAgg4 (by kernel_rfl) (fun x y w => Yr Tryz.underlying4 x y w) hx hy w
theorem P6 : ∀ a w, (Instr.fieldAt 100 (.pointer (some a)) 0).run Tryz.prog w = .ok (.pointer (some (a.add 0))) w := by intro a w; simp [Instr.fieldAt, go_sem, Instr.sureAddr, fieldPlace]
theorem QE : ∀ a w, (Instr.fieldAt 100 (.pointer (some a)) 1).run Tryz.prog w = .ok (.pointer (some (a.add 1))) w := by intro a w; simp [Instr.fieldAt, go_sem, Instr.sureAddr, fieldPlace]
theorem Ms : ∀ a w, (Instr.fieldAt 100 (.pointer (some a)) 2).run Tryz.prog w = .ok (.pointer (some (a.add 2))) w := by intro a w; simp [Instr.fieldAt, go_sem, Instr.sureAddr, fieldPlace]
theorem KV : ∀ a w, (Instr.fieldAt 100 (.pointer (some a)) 3).run Tryz.prog w = .ok (.pointer (some (a.add 3))) w := by intro a w; simp [Instr.fieldAt, go_sem, Instr.sureAddr, fieldPlace]
theorem Qe : ∀ a w, (Instr.fieldAt 100 (.pointer (some a)) 4).run Tryz.prog w = .ok (.pointer (some (a.add 4))) w := by intro a w; simp [Instr.fieldAt, go_sem, Instr.sureAddr, fieldPlace]
theorem S4 : ∀ a w, (Instr.fieldAt 132 (.pointer (some a)) 0).run Tryz.prog w = .ok (.pointer (some (a.add 0))) w := by intro a w; simp [Instr.fieldAt, go_sem, Instr.sureAddr, fieldPlace]
theorem SG : ∀ a w, (Instr.fieldAt 132 (.pointer (some a)) 1).run Tryz.prog w = .ok (.pointer (some (a.add 1))) w := by intro a w; simp [Instr.fieldAt, go_sem, Instr.sureAddr, fieldPlace]
theorem S1 : ∀ a w, (Instr.fieldAt 132 (.pointer (some a)) 2).run Tryz.prog w = .ok (.pointer (some (a.add 2))) w := by intro a w; simp [Instr.fieldAt, go_sem, Instr.sureAddr, fieldPlace]
theorem Qd : ∀ a w, (Instr.fieldAt 137 (.pointer (some a)) 0).run Tryz.prog w = .ok (.pointer (some (a.add 0))) w := by intro a w; simp [Instr.fieldAt, go_sem, Instr.sureAddr, fieldPlace]
theorem Mt : ∀ a w, (Instr.fieldAt 137 (.pointer (some a)) 1).run Tryz.prog w = .ok (.pointer (some (a.add 1))) w := by intro a w; simp [Instr.fieldAt, go_sem, Instr.sureAddr, fieldPlace]
theorem QG : ∀ a w, (Instr.fieldAt 137 (.pointer (some a)) 2).run Tryz.prog w = .ok (.pointer (some (a.add 2))) w := by intro a w; simp [Instr.fieldAt, go_sem, Instr.sureAddr, fieldPlace]
theorem J4 : ∀ a w, (Instr.fieldAt 156 (.pointer (some a)) 0).run Tryz.prog w = .ok (.pointer (some (a.add 0))) w := by intro a w; simp [Instr.fieldAt, go_sem, Instr.sureAddr, fieldPlace]
theorem Ld : ∀ a w, (Instr.fieldAt 156 (.pointer (some a)) 1).run Tryz.prog w = .ok (.pointer (some (a.add 5))) w := by intro a w; simp [Instr.fieldAt, go_sem, Instr.sureAddr, fieldPlace]
theorem NY : ∀ a w, (Instr.fieldAt 156 (.pointer (some a)) 2).run Tryz.prog w = .ok (.pointer (some (a.add 30))) w := by intro a w; simp [Instr.fieldAt, go_sem, Instr.sureAddr, fieldPlace]
theorem Qy : ∀ a w, (Instr.fieldAt 156 (.pointer (some a)) 3).run Tryz.prog w = .ok (.pointer (some (a.add 31))) w := by intro a w; simp [Instr.fieldAt, go_sem, Instr.sureAddr, fieldPlace]
theorem U5 : ∀ a w, (Instr.fieldAt 164 (.pointer (some a)) 0).run Tryz.prog w = .ok (.pointer (some (a.add 0))) w := by intro a w; simp [Instr.fieldAt, go_sem, Instr.sureAddr, fieldPlace]
theorem Qm : ∀ a w, (Instr.fieldAt 192 (.pointer (some a)) 0).run Tryz.prog w = .ok (.pointer (some (a.add 0))) w := by intro a w; simp [Instr.fieldAt, go_sem, Instr.sureAddr, fieldPlace]
theorem SS : ∀ a w, (Instr.fieldAt 192 (.pointer (some a)) 1).run Tryz.prog w = .ok (.pointer (some (a.add 2))) w := by intro a w; simp [Instr.fieldAt, go_sem, Instr.sureAddr, fieldPlace]
theorem K6 : ∀ a w, (Instr.fieldAt 192 (.pointer (some a)) 2).run Tryz.prog w = .ok (.pointer (some (a.add 3))) w := by intro a w; simp [Instr.fieldAt, go_sem, Instr.sureAddr, fieldPlace]
theorem K4 : ∀ a w, (Instr.fieldAt 204 (.pointer (some a)) 0).run Tryz.prog w = .ok (.pointer (some (a.add 0))) w := by intro a w; simp [Instr.fieldAt, go_sem, Instr.sureAddr, fieldPlace]
theorem Lh : ∀ a w, (Instr.fieldAt 204 (.pointer (some a)) 1).run Tryz.prog w = .ok (.pointer (some (a.add 5))) w := by intro a w; simp [Instr.fieldAt, go_sem, Instr.sureAddr, fieldPlace]
theorem On : ∀ a w, (Instr.fieldAt 204 (.pointer (some a)) 2).run Tryz.prog w = .ok (.pointer (some (a.add 41))) w := by intro a w; simp [Instr.fieldAt, go_sem, Instr.sureAddr, fieldPlace]
theorem Vh : ∀ a w, (Instr.fieldAt 207 (.pointer (some a)) 0).run Tryz.prog w = .ok (.pointer (some (a.add 0))) w := by intro a w; simp [Instr.fieldAt, go_sem, Instr.sureAddr, fieldPlace]
theorem Sy : ∀ a w, (Instr.fieldAt 223 (.pointer (some a)) 0).run Tryz.prog w = .ok (.pointer (some (a.add 0))) w := by intro a w; simp [Instr.fieldAt, go_sem, Instr.sureAddr, fieldPlace]
theorem N3 : ∀ a w, (Instr.fieldAt 247 (.pointer (some a)) 0).run Tryz.prog w = .ok (.pointer (some (a.add 0))) w := by intro a w; simp [Instr.fieldAt, go_sem, Instr.sureAddr, fieldPlace]
theorem Vz : ∀ a w, (Instr.fieldAt 265 (.pointer (some a)) 1).run Tryz.prog w = .ok (.pointer (some (a.add 1))) w := by intro a w; simp [Instr.fieldAt, go_sem, Instr.sureAddr, fieldPlace]
theorem Oz : ∀ a w, (Instr.fieldAt 267 (.pointer (some a)) 0).run Tryz.prog w = .ok (.pointer (some (a.add 0))) w := by intro a w; simp [Instr.fieldAt, go_sem, Instr.sureAddr, fieldPlace]
theorem U8 : ∀ a w, (Instr.fieldAt 267 (.pointer (some a)) 1).run Tryz.prog w = .ok (.pointer (some (a.add 1))) w := by intro a w; simp [Instr.fieldAt, go_sem, Instr.sureAddr, fieldPlace]
theorem Vk : ∀ a w, (Instr.fieldAt 267 (.pointer (some a)) 2).run Tryz.prog w = .ok (.pointer (some (a.add 3))) w := by intro a w; simp [Instr.fieldAt, go_sem, Instr.sureAddr, fieldPlace]
theorem MQ : ∀ a w, (Instr.fieldAt 27 (.pointer (some a)) 0).run Tryz.prog w = .ok (.pointer (some (a.add 0))) w := by intro a w; simp [Instr.fieldAt, go_sem, Instr.sureAddr, fieldPlace]
theorem Iz : ∀ a w, (Instr.fieldAt 27 (.pointer (some a)) 1).run Tryz.prog w = .ok (.pointer (some (a.add 1))) w := by intro a w; simp [Instr.fieldAt, go_sem, Instr.sureAddr, fieldPlace]
theorem Of : ∀ a w, (Instr.fieldAt 292 (.pointer (some a)) 1).run Tryz.prog w = .ok (.pointer (some (a.add 1))) w := by intro a w; simp [Instr.fieldAt, go_sem, Instr.sureAddr, fieldPlace]
theorem MD : ∀ a w, (Instr.fieldAt 292 (.pointer (some a)) 2).run Tryz.prog w = .ok (.pointer (some (a.add 2))) w := by intro a w; simp [Instr.fieldAt, go_sem, Instr.sureAddr, fieldPlace]
theorem Mx : ∀ a w, (Instr.fieldAt 294 (.pointer (some a)) 0).run Tryz.prog w = .ok (.pointer (some (a.add 0))) w := by intro a w; simp [Instr.fieldAt, go_sem, Instr.sureAddr, fieldPlace]
theorem Qw : ∀ a w, (Instr.fieldAt 294 (.pointer (some a)) 1).run Tryz.prog w = .ok (.pointer (some (a.add 1))) w := by intro a w; simp [Instr.fieldAt, go_sem, Instr.sureAddr, fieldPlace]
theorem VH : ∀ a w, (Instr.fieldAt 313 (.pointer (some a)) 0).run Tryz.prog w = .ok (.pointer (some (a.add 0))) w := by intro a w; simp [Instr.fieldAt, go_sem, Instr.sureAddr, fieldPlace]
theorem P5 : ∀ a w, (Instr.fieldAt 313 (.pointer (some a)) 1).run Tryz.prog w = .ok (.pointer (some (a.add 1))) w := by intro a w; simp [Instr.fieldAt, go_sem, Instr.sureAddr, fieldPlace]
theorem Oj : ∀ a w, (Instr.fieldAt 315 (.pointer (some a)) 0).run Tryz.prog w = .ok (.pointer (some (a.add 0))) w := by intro a w; simp [Instr.fieldAt, go_sem, Instr.sureAddr, fieldPlace]
theorem SR : ∀ a w, (Instr.fieldAt 315 (.pointer (some a)) 1).run Tryz.prog w = .ok (.pointer (some (a.add 25))) w := by intro a w; simp [Instr.fieldAt, go_sem, Instr.sureAddr, fieldPlace]
theorem QC : ∀ a w, (Instr.fieldAt 321 (.pointer (some a)) 0).run Tryz.prog w = .ok (.pointer (some (a.add 0))) w := by intro a w; simp [Instr.fieldAt, go_sem, Instr.sureAddr, fieldPlace]
theorem SD : ∀ a w, (Instr.fieldAt 321 (.pointer (some a)) 1).run Tryz.prog w = .ok (.pointer (some (a.add 1))) w := by intro a w; simp [Instr.fieldAt, go_sem, Instr.sureAddr, fieldPlace]
theorem J5 : ∀ a w, (Instr.fieldAt 323 (.pointer (some a)) 0).run Tryz.prog w = .ok (.pointer (some (a.add 0))) w := by intro a w; simp [Instr.fieldAt, go_sem, Instr.sureAddr, fieldPlace]
theorem SA : ∀ a w, (Instr.fieldAt 323 (.pointer (some a)) 1).run Tryz.prog w = .ok (.pointer (some (a.add 2))) w := by intro a w; simp [Instr.fieldAt, go_sem, Instr.sureAddr, fieldPlace]
theorem U6 : ∀ a w, (Instr.fieldAt 323 (.pointer (some a)) 2).run Tryz.prog w = .ok (.pointer (some (a.add 4))) w := by intro a w; simp [Instr.fieldAt, go_sem, Instr.sureAddr, fieldPlace]
theorem ML : ∀ a w, (Instr.fieldAt 39 (.pointer (some a)) 0).run Tryz.prog w = .ok (.pointer (some (a.add 0))) w := by intro a w; simp [Instr.fieldAt, go_sem, Instr.sureAddr, fieldPlace]
theorem Lv : ∀ a w, (Instr.fieldAt 39 (.pointer (some a)) 1).run Tryz.prog w = .ok (.pointer (some (a.add 1))) w := by intro a w; simp [Instr.fieldAt, go_sem, Instr.sureAddr, fieldPlace]
theorem T0 : ∀ a w, (Instr.fieldAt 39 (.pointer (some a)) 2).run Tryz.prog w = .ok (.pointer (some (a.add 2))) w := by intro a w; simp [Instr.fieldAt, go_sem, Instr.sureAddr, fieldPlace]
theorem T8 : ∀ a w, (Instr.fieldAt 39 (.pointer (some a)) 3).run Tryz.prog w = .ok (.pointer (some (a.add 3))) w := by intro a w; simp [Instr.fieldAt, go_sem, Instr.sureAddr, fieldPlace]
theorem MH : ∀ a w, (Instr.fieldAt 39 (.pointer (some a)) 4).run Tryz.prog w = .ok (.pointer (some (a.add 4))) w := by intro a w; simp [Instr.fieldAt, go_sem, Instr.sureAddr, fieldPlace]
theorem PV : ∀ a w, (Instr.fieldAt 41 (.pointer (some a)) 0).run Tryz.prog w = .ok (.pointer (some (a.add 0))) w := by intro a w; simp [Instr.fieldAt, go_sem, Instr.sureAddr, fieldPlace]
theorem TS : ∀ a w, (Instr.fieldAt 41 (.pointer (some a)) 1).run Tryz.prog w = .ok (.pointer (some (a.add 1))) w := by intro a w; simp [Instr.fieldAt, go_sem, Instr.sureAddr, fieldPlace]
theorem Uc : ∀ a w, (Instr.fieldAt 41 (.pointer (some a)) 2).run Tryz.prog w = .ok (.pointer (some (a.add 2))) w := by intro a w; simp [Instr.fieldAt, go_sem, Instr.sureAddr, fieldPlace]
theorem TG : ∀ a w, (Instr.fieldAt 64 (.pointer (some a)) 0).run Tryz.prog w = .ok (.pointer (some (a.add 0))) w := by intro a w; simp [Instr.fieldAt, go_sem, Instr.sureAddr, fieldPlace]
theorem T5 : ∀ a w, (Instr.fieldAt 64 (.pointer (some a)) 1).run Tryz.prog w = .ok (.pointer (some (a.add 1))) w := by intro a w; simp [Instr.fieldAt, go_sem, Instr.sureAddr, fieldPlace]
theorem FA : ∀ a w, (Instr.fieldAt 70 (.pointer (some a)) 0).run Tryz.prog w = .ok (.pointer (some (a.add 0))) w := by intro a w; simp [Instr.fieldAt, go_sem, Instr.sureAddr, fieldPlace]
theorem Gq : ∀ a w, (Instr.fieldAt 70 (.pointer (some a)) 1).run Tryz.prog w = .ok (.pointer (some (a.add 1))) w := by intro a w; simp [Instr.fieldAt, go_sem, Instr.sureAddr, fieldPlace]
theorem MN : ∀ a w, (Instr.fieldAt 82 (.pointer (some a)) 0).run Tryz.prog w = .ok (.pointer (some (a.add 0))) w := by intro a w; simp [Instr.fieldAt, go_sem, Instr.sureAddr, fieldPlace]
theorem Uu : ∀ a w, (Instr.fieldAt 82 (.pointer (some a)) 1).run Tryz.prog w = .ok (.pointer (some (a.add 1))) w := by intro a w; simp [Instr.fieldAt, go_sem, Instr.sureAddr, fieldPlace]
theorem Jd : ∀ a w, (Instr.fieldAt 82 (.pointer (some a)) 2).run Tryz.prog w = .ok (.pointer (some (a.add 2))) w := by intro a w; simp [Instr.fieldAt, go_sem, Instr.sureAddr, fieldPlace]
theorem LP : ∀ a w, (Instr.fieldAt 82 (.pointer (some a)) 3).run Tryz.prog w = .ok (.pointer (some (a.add 3))) w := by intro a w; simp [Instr.fieldAt, go_sem, Instr.sureAddr, fieldPlace]
theorem Uq : ∀ a w, (Instr.fieldAt 82 (.pointer (some a)) 4).run Tryz.prog w = .ok (.pointer (some (a.add 4))) w := by intro a w; simp [Instr.fieldAt, go_sem, Instr.sureAddr, fieldPlace]
theorem Ud : ∀ a w, (Instr.fieldAt 95 (.pointer (some a)) 0).run Tryz.prog w = .ok (.pointer (some (a.add 0))) w := by intro a w; simp [Instr.fieldAt, go_sem, Instr.sureAddr, fieldPlace]
theorem Uj : ∀ a w, (Instr.fieldAt 95 (.pointer (some a)) 1).run Tryz.prog w = .ok (.pointer (some (a.add 1))) w := by intro a w; simp [Instr.fieldAt, go_sem, Instr.sureAddr, fieldPlace]
def KJ (F : FS) (v : Value) (x : Option ((List (List Int)) × (List (List Int)) × (List (Int × Int)) × (List (List Bool)))) (Lb : LH) : Prop := (x = none ∧ v = .pointer none ∧ Lb = []) ∨ ∃ (x0 : List (List Int)) (x1 : List (List Int)) (x2 : List (Int × Int)) (x3 : List (List Bool)) (b : Nat) (mm : Nat × Nat) (a0 : Option Addr) (c0 : Nat) (a1 : Option Addr) (c1 : Nat) (b2 : Nat) (aa : Array MapEntry) (ab : Nat) (a3 : Option Addr) (c3 : Nat), x = some (x0, x1, x2, x3) ∧ v = .pointer (some ⟨b, 0, none⟩) ∧ F b = some (.cells #[.slice a0 x0.length c0, .slice a1 x1.length c1, .map (some b2), .slice a3 x3.length c3] 192 mm) ∧ As 1 (BC 1 (iE .i64)) F a0 c0 x0 ∧ As 1 (BC 1 (iE .i64)) F a1 c1 x1 ∧ Dr (Value.int .i64) (Value.int .i64) aa x2 ∧ As 64 (Ll 64 cB) F a3 c3 x3 ∧ Lb = [(b2, .map aa ab)]
theorem Nl (F : FS) : KJ F (.pointer none) none [] := .inl ⟨rfl, rfl, rfl⟩
theorem OQ {F : FS} {v : Value} {x0 : List (List Int)} {x1 : List (List Int)} {x2 : List (Int × Int)} {x3 : List (List Bool)} {Lb : LH} (h : KJ F v (some (x0, x1, x2, x3)) Lb) : ∃ (b : Nat) (mm : Nat × Nat) (a0 : Option Addr) (c0 : Nat) (a1 : Option Addr) (c1 : Nat) (b2 : Nat) (aa : Array MapEntry) (ab : Nat) (a3 : Option Addr) (c3 : Nat), v = .pointer (some ⟨b, 0, none⟩) ∧ F b = some (.cells #[.slice a0 x0.length c0, .slice a1 x1.length c1, .map (some b2), .slice a3 x3.length c3] 192 mm) ∧ As 1 (BC 1 (iE .i64)) F a0 c0 x0 ∧ As 1 (BC 1 (iE .i64)) F a1 c1 x1 ∧ Dr (Value.int .i64) (Value.int .i64) aa x2 ∧ As 64 (Ll 64 cB) F a3 c3 x3 ∧ Lb = [(b2, .map aa ab)] := by
  rcases h with ⟨h, _⟩ | ⟨_, _, _, _, b, mm, a0, c0, a1, c1, b2, aa, ab, a3, c3, h, hr⟩
  · cases h
  · cases h; exact ⟨b, mm, a0, c0, a1, c1, b2, aa, ab, a3, c3, hr⟩
theorem Ro {F : FS} {x0 : List (List Int)} {x1 : List (List Int)} {x2 : List (Int × Int)} {x3 : List (List Bool)} {b : Nat} {mm : Nat × Nat} {a0 : Option Addr} {c0 : Nat} {a1 : Option Addr} {c1 : Nat} {b2 : Nat} {aa : Array MapEntry} {ab : Nat} {a3 : Option Addr} {c3 : Nat} (h : F b = some (.cells #[.slice a0 x0.length c0, .slice a1 x1.length c1, .map (some b2), .slice a3 x3.length c3] 192 mm)) (h0 : As 1 (BC 1 (iE .i64)) F a0 c0 x0) (h1 : As 1 (BC 1 (iE .i64)) F a1 c1 x1) (h2 : Dr (Value.int .i64) (Value.int .i64) aa x2) (h3 : As 64 (Ll 64 cB) F a3 c3 x3) : KJ F (.pointer (some ⟨b, 0, none⟩)) (some (x0, x1, x2, x3)) [(b2, .map aa ab)] := .inr ⟨x0, x1, x2, x3, b, mm, a0, c0, a1, c1, b2, aa, ab, a3, c3, rfl, rfl, h, h0, h1, h2, h3, rfl⟩
theorem KJ.one {F : FS} {v : Value} {x : Option ((List (List Int)) × (List (List Int)) × (List (Int × Int)) × (List (List Bool)))} {Lb : LH} (h : KJ F v x Lb) : v.oneCell' = true := by
  rcases h with ⟨_, h, _⟩ | ⟨_, _, _, _, _, _, _, _, _, _, _, _, _, _, _, _, h, _⟩ <;> rw [h] <;> rfl
theorem KJ.mono {F F' : FS} {v : Value} {x : Option ((List (List Int)) × (List (List Int)) × (List (Int × Int)) × (List (List Bool)))} {Lb : LH} (h : KJ F v x Lb) (hF : A4 F F') : KJ F' v x Lb := by
  rcases h with h | ⟨x0, x1, x2, x3, b, mm, a0, c0, a1, c1, b2, aa, ab, a3, c3, hx, hv, hb, h0, h1, h2, h3, hL⟩
  · exact .inl h
  · exact .inr ⟨x0, x1, x2, x3, b, mm, a0, c0, a1, c1, b2, aa, ab, a3, c3, hx, hv, hF _ _ hb, h0.mono (Am (Ac _)) hF, h1.mono (Am (Ac _)) hF, h2, h3.mono (DJ (n := 64) (sz := 1) BG) hF, hL⟩
theorem Ul : Ef Tryz.prog 103 123 1 (.slice none 0 0) 24 := Ef.mk' Tryz.underlying103 (by kernel_rfl) rfl (by decide)
theorem PY : Ef Tryz.prog 123 124 1 (.int .i64 0) 8 := Ef.mk' Tryz.underlying123 (by kernel_rfl) rfl (by decide)
theorem PW : Ef Tryz.prog 183 91 1 (.int .i64 0) 8 := Ef.mk' Tryz.underlying183 (by kernel_rfl) rfl (by decide)
theorem Uh : Ef Tryz.prog 190 188 64 (.agg #[.bool false, .bool false, .bool false, .bool false, .bool false, .bool false, .bool false, .bool false, .bool false, .bool false, .bool false, .bool false, .bool false, .bool false, .bool false, .bool false, .bool false, .bool false, .bool false, .bool false, .bool false, .bool false, .bool false, .bool false, .bool false, .bool false, .bool false, .bool false, .bool false, .bool false, .bool false, .bool false, .bool false, .bool false, .bool false, .bool false, .bool false, .bool false, .bool false, .bool false, .bool false, .bool false, .bool false, .bool false, .bool false, .bool false, .bool false, .bool false, .bool false, .bool false, .bool false, .bool false, .bool false, .bool false, .bool false, .bool false, .bool false, .bool false, .bool false, .bool false, .bool false, .bool false, .bool false, .bool false]) 64 := Ef.mk' Tryz.underlying190 (by kernel_rfl) rfl (by decide)
theorem TT : Ef Tryz.prog 216 223 25 (.agg #[.bool false, .bool false, .bool false, .bool false, .bool false, .bool false, .bool false, .bool false, .bool false, .bool false, .bool false, .bool false, .bool false, .bool false, .bool false, .bool false, .bool false, .bool false, .bool false, .bool false, .bool false, .bool false, .bool false, .bool false, .slice none 0 0]) 48 := Ef.mk' Tryz.underlying216 (by kernel_rfl) rfl (by decide)
theorem Vb : Ef Tryz.prog 25 34 1 (.int .i64 0) 8 := Ef.mk' Tryz.underlying25 (by kernel_rfl) rfl (by decide)
theorem Wd : Ef Tryz.prog 256 9 1 (.string ⟨#[]⟩) 16 := Ef.mk' Tryz.underlying256 (by kernel_rfl) rfl (by decide)
theorem TW : Ef Tryz.prog 310 315 26 (.agg #[.int .i64 0, .bool false, .bool false, .bool false, .bool false, .bool false, .bool false, .bool false, .bool false, .bool false, .bool false, .bool false, .bool false, .bool false, .bool false, .bool false, .bool false, .bool false, .bool false, .bool false, .bool false, .bool false, .bool false, .bool false, .bool false, .slice none 0 0]) 56 := Ef.mk' Tryz.underlying310 (by kernel_rfl) rfl (by decide)
theorem Ct : Ef Tryz.prog 33 3 1 (.int .i64 0) 8 := Ef.mk' Tryz.underlying33 (by kernel_rfl) rfl (by decide)
theorem Wf : Ef Tryz.prog 345 321 2 (.agg #[.int .i64 0, .int .i64 0]) 16 := Ef.mk' Tryz.underlying345 (by kernel_rfl) rfl (by decide)
theorem LF : Ef Tryz.prog 36 33 1 (.slice none 0 0) 24 := Ef.mk' Tryz.underlying36 (by kernel_rfl) rfl (by decide)
theorem W4 : Ef Tryz.prog 37 41 3 (.agg #[.slice none 0 0, .int .i64 0, .int .i64 0]) 40 := Ef.mk' Tryz.underlying37 (by kernel_rfl) rfl (by decide)
theorem Vv : Ef Tryz.prog 48 58 2 (.agg #[.int .i64 0, .int .i64 0]) 16 := Ef.mk' Tryz.underlying48 (by kernel_rfl) rfl (by decide)
theorem Ve : Ef Tryz.prog 51 64 2 (.agg #[.int .i64 0, .int .i64 0]) 16 := Ef.mk' Tryz.underlying51 (by kernel_rfl) rfl (by decide)
theorem Tu : Ef Tryz.prog 68 183 1 (.slice none 0 0) 24 := Ef.mk' Tryz.underlying68 (by kernel_rfl) rfl (by decide)
theorem RJ : Ef Tryz.prog 73 76 1 (.slice none 0 0) 24 := Ef.mk' Tryz.underlying73 (by kernel_rfl) rfl (by decide)
theorem R7 : Ef Tryz.prog 76 77 1 (.int .i64 0) 8 := Ef.mk' Tryz.underlying76 (by kernel_rfl) rfl (by decide)
theorem Xs : Ef Tryz.prog 97 36 1 (.slice none 0 0) 24 := Ef.mk' Tryz.underlying97 (by kernel_rfl) rfl (by decide)
theorem WS : Ef Tryz.prog 98 132 3 (.agg #[.int .i64 0, .int .i64 0, .int .i64 0]) 24 := Ef.mk' Tryz.underlying98 (by kernel_rfl) rfl (by decide)
theorem MK : Le Tryz.prog 265 (vA (cP (cI .i64) (cI .i64))) := by
  refine LB (by kernel_rfl) (fun x y w => ?_) (fun b k w => ?_) (fun k => ?_)
  · obtain ⟨x0, x1⟩ := x; obtain ⟨y0, y1⟩ := y
    exact (Og (W9 x0 x1 y0 y1 w)).trans (by simp)
  · obtain ⟨k0, k1⟩ := k
    have key : ∀ n, (Instr.checkKey b (n + 2) 265 (.agg #[.int .i64 k0, .int .i64 k1])).run Tryz.prog w = .ok () w := fun n => by
      simp [Instr.checkKey, run_underlying Tryz.underlying265, part, go_sem, Tryz.isAgg3, run_underlying Tryz.underlying3]
    exact key 9998
  · obtain ⟨k0, k1⟩ := k; simp [vA, cP, cI, Instr.sameBits]
theorem PN : Le Tryz.prog 294 (vA (cP (cI .i64) (cI .i64))) := by
  refine LB (by kernel_rfl) (fun x y w => ?_) (fun b k w => ?_) (fun k => ?_)
  · obtain ⟨x0, x1⟩ := x; obtain ⟨y0, y1⟩ := y
    exact (Og (WQ x0 x1 y0 y1 w)).trans (by simp)
  · obtain ⟨k0, k1⟩ := k
    have key : ∀ n, (Instr.checkKey b (n + 2) 294 (.agg #[.int .i64 k0, .int .i64 k1])).run Tryz.prog w = .ok () w := fun n => by
      simp [Instr.checkKey, run_underlying Tryz.underlying294, part, go_sem, Tryz.isAgg3, run_underlying Tryz.underlying3]
    exact key 9998
  · obtain ⟨k0, k1⟩ := k; simp [vA, cP, cI, Instr.sameBits]
def Hz (k : Int × (List Bool)) : Prop := C6 k.1 ∧ k.2.length = 24
def MP (k : Int × (List Bool)) : List Lit := [Lit.int .i64 k.1] ++ (k.2.map Lit.bool)
theorem Xk (k : Int × (List Bool)) (h : Hz k) : ((vA (cP (cI .i64) (cA cB))) k).formed Tryz.prog 313 = true := by unfold Hz at h; obtain ⟨h0, h1⟩ := h; obtain ⟨x0, x1⟩ := k; obtain ⟨av, aw, ax, ay, az, ba, bb, bc, bd, bg, aa, ab, ad, ae, af, ah, ai, aj, ak, al, ao, aq, ar, au, rfl⟩ := MC h1; kernel_rfl
theorem Xd (k : Int × (List Bool)) (h : Hz k) : Tryz.prog.keyLits 10 313 ((vA (cP (cI .i64) (cA cB))) k).cells.toList = some (MP k) := by unfold Hz at h; obtain ⟨h0, h1⟩ := h; obtain ⟨x0, x1⟩ := k; obtain ⟨av, aw, ax, ay, az, ba, bb, bc, bd, bg, aa, ab, ad, ae, af, ah, ai, aj, ak, al, ao, aq, ar, au, rfl⟩ := MC h1; exact Ow (ls := [[Lit.int .i64 x0], [Lit.bool av, Lit.bool aw, Lit.bool ax, Lit.bool ay, Lit.bool az, Lit.bool ba, Lit.bool bb, Lit.bool bc, Lit.bool bd, Lit.bool bg, Lit.bool aa, Lit.bool ab, Lit.bool ad, Lit.bool ae, Lit.bool af, Lit.bool ah, Lit.bool ai, Lit.bool aj, Lit.bool ak, Lit.bool al, Lit.bool ao, Lit.bool aq, Lit.bool ar, Lit.bool au]]) Tryz.underlying313 (by kernel_rfl) (by kernel_rfl) (.cons (NW (l := [.int .i64 x0]) (by kernel_rfl) (Me Tryz.underlying3 (XH h0))) (.cons (NW (l := [.bool av, .bool aw, .bool ax, .bool ay, .bool az, .bool ba, .bool bb, .bool bc, .bool bd, .bool bg, .bool aa, .bool ab, .bool ad, .bool ae, .bool af, .bool ah, .bool ai, .bool aj, .bool ak, .bool al, .bool ao, .bool aq, .bool ar, .bool au]) (by kernel_rfl) ((by kernel_rfl))) .nil)) (by simp [MP])
theorem WY (k : Int × (List Bool)) (h : Hz k) : Instr.sameBits 10000 ((vA (cP (cI .i64) (cA cB))) k) ((vA (cP (cI .i64) (cA cB))) k) = true := by unfold Hz at h; obtain ⟨h0, h1⟩ := h; obtain ⟨x0, x1⟩ := k; obtain ⟨av, aw, ax, ay, az, ba, bb, bc, bd, bg, aa, ab, ad, ae, af, ah, ai, aj, ak, al, ao, aq, ar, au, rfl⟩ := MC h1; simp [vA, cP, cI, cB, cA, Instr.sameBits]
theorem WZ (x y : Int × (List Bool)) (h : MP x = MP y) : x = y := by
  obtain ⟨x0, x1⟩ := x; obtain ⟨y0, y1⟩ := y
  unfold MP at h
  have e0 := (fun q => (Lit.int.inj q).2) (List.cons.inj h).1
  have t0 := (List.cons.inj h).2
  have e1 := Lp t0
  subst e0 e1; rfl
theorem Uf : RY Tryz.prog 313 Hz (vA (cP (cI .i64) (cA cB))) := SB (lits := MP) (m := 10) (D := 10) (by kernel_rfl) (by kernel_rfl) (by decide) Xk Xd WZ WY
theorem SY : (⟨#[0, 1, 2, 2, 3, 3, 3, 3, 4, 4, 4, 4, 4, 4, 4, 4, 5, 5, 5, 5, 5, 5, 5, 5, 5, 5, 5, 5, 5, 5, 5, 5, 6, 6, 6, 6, 6, 6, 6, 6, 6, 6, 6, 6, 6, 6, 6, 6, 6, 6, 6, 6, 6, 6, 6, 6, 6, 6, 6, 6, 6, 6, 6, 6, 7, 7, 7, 7, 7, 7, 7, 7, 7, 7, 7, 7, 7, 7, 7, 7, 7, 7, 7, 7, 7, 7, 7, 7, 7, 7, 7, 7, 7, 7, 7, 7, 7, 7, 7, 7, 7, 7, 7, 7, 7, 7, 7, 7, 7, 7, 7, 7, 7, 7, 7, 7, 7, 7, 7, 7, 7, 7, 7, 7, 7, 7, 7, 7, 8, 8, 8, 8, 8, 8, 8, 8, 8, 8, 8, 8, 8, 8, 8, 8, 8, 8, 8, 8, 8, 8, 8, 8, 8, 8, 8, 8, 8, 8, 8, 8, 8, 8, 8, 8, 8, 8, 8, 8, 8, 8, 8, 8, 8, 8, 8, 8, 8, 8, 8, 8, 8, 8, 8, 8, 8, 8, 8, 8, 8, 8, 8, 8, 8, 8, 8, 8, 8, 8, 8, 8, 8, 8, 8, 8, 8, 8, 8, 8, 8, 8, 8, 8, 8, 8, 8, 8, 8, 8, 8, 8, 8, 8, 8, 8, 8, 8, 8, 8, 8, 8, 8, 8, 8, 8, 8, 8, 8, 8, 8, 8, 8, 8, 8, 8, 8, 8, 8, 8, 8, 8, 8, 8, 8, 8, 8, 8]⟩ : ByteArray) = sB Tp := by kernel_rfl
theorem Sh : ∀ x ∈ Tp, 0 ≤ x ∧ x < 256 := by decide +kernel
end Go.Proofs.YtfmapnhfamoecaaGreat
