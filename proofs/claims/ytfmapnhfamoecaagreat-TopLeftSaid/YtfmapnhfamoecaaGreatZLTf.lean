/- Facts on types, printed by a program of mine. -/
import Derived.Test.YtfmapnhfamoecaaGreatProg
import Derived.Test.YtfmapnhfamoecaaGreatZLShW
import Derived.Test.YtfmapnhfamoecaaGreatZLTd
namespace Go.Proofs.YtfmapnhfamoecaaGreat
open Go.SH Go.PL
theorem XV {α : Type} {xs : List α} (h : xs.length = 2) : ∃ a0 a1, xs = [a0, a1] := by
  obtain ⟨a0, xs, rfl, h0⟩ := Da h
  obtain ⟨a1, xs, rfl, h1⟩ := Da h0
  obtain rfl := Wi h1
  exact ⟨a0, a1, rfl⟩
theorem Nx {α : Type} {xs : List α} (h : xs.length = 24) : ∃ a0 a1 a2 a3 a4 a5 a6 a7 a8 a9 aa ab ad ae af ah ai aj ak al ao aq ar au, xs = [a0, a1, a2, a3, a4, a5, a6, a7, a8, a9, aa, ab, ad, ae, af, ah, ai, aj, ak, al, ao, aq, ar, au] := by
  obtain ⟨a0, xs, rfl, h0⟩ := Da h
  obtain ⟨a1, xs, rfl, h1⟩ := Da h0
  obtain ⟨a2, xs, rfl, h2⟩ := Da h1
  obtain ⟨a3, xs, rfl, h3⟩ := Da h2
  obtain ⟨a4, xs, rfl, h4⟩ := Da h3
  obtain ⟨a5, xs, rfl, h5⟩ := Da h4
  obtain ⟨a6, xs, rfl, h6⟩ := Da h5
  obtain ⟨a7, xs, rfl, h7⟩ := Da h6
  obtain ⟨a8, xs, rfl, h8⟩ := Da h7
  obtain ⟨a9, xs, rfl, h9⟩ := Da h8
  obtain ⟨aa, xs, rfl, av⟩ := Da h9
  obtain ⟨ab, xs, rfl, aw⟩ := Da av
  obtain ⟨ad, xs, rfl, ax⟩ := Da aw
  obtain ⟨ae, xs, rfl, ay⟩ := Da ax
  obtain ⟨af, xs, rfl, az⟩ := Da ay
  obtain ⟨ah, xs, rfl, ba⟩ := Da az
  obtain ⟨ai, xs, rfl, bb⟩ := Da ba
  obtain ⟨aj, xs, rfl, bc⟩ := Da bb
  obtain ⟨ak, xs, rfl, bd⟩ := Da bc
  obtain ⟨al, xs, rfl, bg⟩ := Da bd
  obtain ⟨ao, xs, rfl, bh⟩ := Da bg
  obtain ⟨aq, xs, rfl, bj⟩ := Da bh
  obtain ⟨ar, xs, rfl, bk⟩ := Da bj
  obtain ⟨au, xs, rfl, bl⟩ := Da bk
  obtain rfl := Wi bl
  exact ⟨a0, a1, a2, a3, a4, a5, a6, a7, a8, a9, aa, ab, ad, ae, af, ah, ai, aj, ak, al, ao, aq, ar, au, rfl⟩
theorem XK : ∀ x y a b w, (eqGuard .eql 122 x y (.agg a) (.agg b)).run Tryz.prog w = .ok () w := by intros; simp [eqGuard, go_sem]
theorem YG : ∀ (x0 x1 y0 y1 : Int) w, (binOp .eql 122 (.agg #[.int .i64 x0, .int .i64 x1]) (.agg #[.int .i64 y0, .int .i64 y1])).run Tryz.prog w = .ok (.bool (decide (x0 = y0 ∧ x1 = y1))) w := by
  intro x0 x1 y0 y1 w
  have hu : Tryz.prog.underlying 122 = some (.struct (Tryz.prog.fieldsOf 122)) := by rw [Program.fieldsOf, Tryz.underlying122]
  have hp : Tryz.prog.stoodInHeld 122 = false := by kernel_rfl
  have hf : (Tryz.prog.fieldsOf 122).toList = [{ name := "House", type := 3, offset := 0, embedded := false, tag := "", pkgPath := "", byteOffset := 0 }, { name := "Notice", type := 3, offset := 1, embedded := false, tag := "", pkgPath := "", byteOffset := 8 }] := by rw [Program.fieldsOf, Tryz.underlying122]
  simp only [binOp, Op.equal, Op.maxDepth, Sem.run_bind, run_equalIn_struct w 9999 122 _ _ hu hp, hf]
  simp (config := {decide := true}) [Op.eqFields, part, go_sem, Tryz.isAgg3]
  by_cases h0 : x0 = y0 <;> by_cases h1 : x1 = y1 <;> simp [h0, h1, go_sem]
theorem YO : ∀ (x0 x1 y0 y1 : Int) w, (binOp .eql 265 (.agg #[.int .i64 x0, .int .i64 x1]) (.agg #[.int .i64 y0, .int .i64 y1])).run Tryz.prog w = .ok (.bool (decide (x0 = y0 ∧ x1 = y1))) w := by
  intro x0 x1 y0 y1 w
  have hu : Tryz.prog.underlying 265 = some (.struct (Tryz.prog.fieldsOf 265)) := by rw [Program.fieldsOf, Tryz.underlying265]
  have hp : Tryz.prog.stoodInHeld 265 = false := by kernel_rfl
  have hf : (Tryz.prog.fieldsOf 265).toList = [{ name := "stand", type := 3, offset := 0, embedded := false, tag := "", pkgPath := "oyez/round", byteOffset := 0 }, { name := "left", type := 3, offset := 1, embedded := false, tag := "", pkgPath := "oyez/round", byteOffset := 8 }] := by rw [Program.fieldsOf, Tryz.underlying265]
  simp only [binOp, Op.equal, Op.maxDepth, Sem.run_bind, run_equalIn_struct w 9999 265 _ _ hu hp, hf]
  simp (config := {decide := true}) [Op.eqFields, part, go_sem, Tryz.isAgg3]
  by_cases h0 : x0 = y0 <;> by_cases h1 : x1 = y1 <;> simp [h0, h1, go_sem]
theorem Vh : ∀ x y a b w, (eqGuard .eql 321 x y (.agg a) (.agg b)).run Tryz.prog w = .ok () w := by intros; simp [eqGuard, go_sem]
theorem Wx : ∀ (x0 x1 y0 y1 : Int) w, (binOp .eql 321 (.agg #[.int .i64 x0, .int .i64 x1]) (.agg #[.int .i64 y0, .int .i64 y1])).run Tryz.prog w = .ok (.bool (decide (x0 = y0 ∧ x1 = y1))) w := by
  intro x0 x1 y0 y1 w
  have hu : Tryz.prog.underlying 321 = some (.struct (Tryz.prog.fieldsOf 321)) := by rw [Program.fieldsOf, Tryz.underlying321]
  have hp : Tryz.prog.stoodInHeld 321 = false := by kernel_rfl
  have hf : (Tryz.prog.fieldsOf 321).toList = [{ name := "down", type := 3, offset := 0, embedded := false, tag := "", pkgPath := "oyez/hear", byteOffset := 0 }, { name := "right", type := 3, offset := 1, embedded := false, tag := "", pkgPath := "oyez/hear", byteOffset := 8 }] := by rw [Program.fieldsOf, Tryz.underlying321]
  simp only [binOp, Op.equal, Op.maxDepth, Sem.run_bind, run_equalIn_struct w 9999 321 _ _ hu hp, hf]
  simp (config := {decide := true}) [Op.eqFields, part, go_sem, Tryz.isAgg3]
  by_cases h0 : x0 = y0 <;> by_cases h1 : x1 = y1 <;> simp [h0, h1, go_sem]
def Ot (k : List Int) : Prop := k.length = 25 ∧ ∀ x ∈ k, C9 x
def OK (k : List Int) : List Lit := k.map (Lit.int .i64)
theorem Xp {α : Type} {xs : List α} (h : xs.length = 25) : ∃ a0 a1 a2 a3 a4 a5 a6 a7 a8 a9 aa ab ad ae af ah ai aj ak al ao aq ar au av, xs = [a0, a1, a2, a3, a4, a5, a6, a7, a8, a9, aa, ab, ad, ae, af, ah, ai, aj, ak, al, ao, aq, ar, au, av] := by
  obtain ⟨a0, xs, rfl, h0⟩ := Da h
  obtain ⟨a1, xs, rfl, h1⟩ := Da h0
  obtain ⟨a2, xs, rfl, h2⟩ := Da h1
  obtain ⟨a3, xs, rfl, h3⟩ := Da h2
  obtain ⟨a4, xs, rfl, h4⟩ := Da h3
  obtain ⟨a5, xs, rfl, h5⟩ := Da h4
  obtain ⟨a6, xs, rfl, h6⟩ := Da h5
  obtain ⟨a7, xs, rfl, h7⟩ := Da h6
  obtain ⟨a8, xs, rfl, h8⟩ := Da h7
  obtain ⟨a9, xs, rfl, h9⟩ := Da h8
  obtain ⟨aa, xs, rfl, aw⟩ := Da h9
  obtain ⟨ab, xs, rfl, ax⟩ := Da aw
  obtain ⟨ad, xs, rfl, ay⟩ := Da ax
  obtain ⟨ae, xs, rfl, az⟩ := Da ay
  obtain ⟨af, xs, rfl, ba⟩ := Da az
  obtain ⟨ah, xs, rfl, bb⟩ := Da ba
  obtain ⟨ai, xs, rfl, bc⟩ := Da bb
  obtain ⟨aj, xs, rfl, bd⟩ := Da bc
  obtain ⟨ak, xs, rfl, bg⟩ := Da bd
  obtain ⟨al, xs, rfl, bh⟩ := Da bg
  obtain ⟨ao, xs, rfl, bj⟩ := Da bh
  obtain ⟨aq, xs, rfl, bk⟩ := Da bj
  obtain ⟨ar, xs, rfl, bl⟩ := Da bk
  obtain ⟨au, xs, rfl, bm⟩ := Da bl
  obtain ⟨av, xs, rfl, bn⟩ := Da bm
  obtain rfl := Wi bn
  exact ⟨a0, a1, a2, a3, a4, a5, a6, a7, a8, a9, aa, ab, ad, ae, af, ah, ai, aj, ak, al, ao, aq, ar, au, av, rfl⟩
theorem Yo (k : List Int) (h : Ot k) : ((fun k : List Int => Value.agg (arr (cI .i64) k)) k).formed Tryz.prog 152 = true := by unfold Ot at h; obtain ⟨h, _⟩ := h; obtain ⟨a0, a1, a2, a3, a4, a5, a6, a7, a8, a9, aa, ab, ad, ae, af, ah, ai, aj, ak, al, ao, aq, ar, au, av, rfl⟩ := Xp h; kernel_rfl
theorem Ye (k : List Int) (h : Ot k) : Tryz.prog.keyLits 10 152 ((fun k : List Int => Value.agg (arr (cI .i64) k)) k).cells.toList = some (OK k) := by
  unfold Ot at h; unfold OK
  have e : (Value.agg (arr (cI .i64) k)).cells.toList = k.map (Value.int .i64) := by show (arr (cI .i64) k).toList = _; unfold arr; exact Sq k
  rw [e]
  exact Sv (d := 7) (n := 5) (m := 5) Tryz.underlying152 Tryz.underlying150 Tryz.underlying3 (by kernel_rfl) (by kernel_rfl) (by kernel_rfl) h.1 fun x hx => YD (h.2 x hx)
theorem Yx (x y : List Int) (h : OK x = OK y) : x = y := Nm h
theorem Xc (x y : List Int) (gx : Ot x) (gy : Ot y) (w : World) : (Op.equal 152 ((fun k : List Int => Value.agg (arr (cI .i64) k)) x) ((fun k : List Int => Value.agg (arr (cI .i64) k)) y)).run Tryz.prog w = .ok (decide (x = y)) w := Sg (G := Ot) (ek := (fun k : List Int => Value.agg (arr (cI .i64) k))) (lits := OK) (m := 10) (D := 10) (by kernel_rfl) (by decide) Yo Ye Yx gx gy w
theorem V4 : ∀ x y a b w, (eqGuard .neq 152 x y (.agg a) (.agg b)).run Tryz.prog w = .ok () w := by intros; simp [eqGuard, go_sem]
def N7 (k : List Bool) : Prop := k.length = 24
def O4 (k : List Bool) : List Lit := k.map Lit.bool
theorem YC (k : List Bool) (h : N7 k) : ((fun k : List Bool => Value.agg (arr cB k)) k).formed Tryz.prog 221 = true := by unfold N7 at h; obtain ⟨av, aw, ax, ay, az, ba, bb, bc, bd, bg, aa, ab, ad, ae, af, ah, ai, aj, ak, al, ao, aq, ar, au, rfl⟩ := Nx h; kernel_rfl
theorem Yu (k : List Bool) (h : N7 k) : Tryz.prog.keyLits 10 221 ((fun k : List Bool => Value.agg (arr cB k)) k).cells.toList = some (O4 k) := by unfold N7 at h; obtain ⟨av, aw, ax, ay, az, ba, bb, bc, bd, bg, aa, ab, ad, ae, af, ah, ai, aj, ak, al, ao, aq, ar, au, rfl⟩ := Nx h; kernel_rfl
theorem Yr (x y : List Bool) (h : O4 x = O4 y) : x = y := by
  unfold O4 at h
  exact MC h
theorem Xw (x y : List Bool) (gx : N7 x) (gy : N7 y) (w : World) : (Op.equal 221 ((fun k : List Bool => Value.agg (arr cB k)) x) ((fun k : List Bool => Value.agg (arr cB k)) y)).run Tryz.prog w = .ok (decide (x = y)) w := Sg (G := N7) (ek := (fun k : List Bool => Value.agg (arr cB k))) (lits := O4) (m := 10) (D := 10) (by kernel_rfl) (by decide) YC Yu Yr gx gy w
theorem XL : ∀ x y a b w, (eqGuard .eql 221 x y (.agg a) (.agg b)).run Tryz.prog w = .ok () w := by intros; simp [eqGuard, go_sem]
theorem Jz : ∀ a w, (Instr.fieldAt 100 (.pointer (some a)) 0).run Tryz.prog w = .ok (.pointer (some (a.add 0))) w := by intro a w; simp [Instr.fieldAt, go_sem, Instr.sureAddr, fieldPlace]
theorem LU : ∀ a w, (Instr.fieldAt 100 (.pointer (some a)) 1).run Tryz.prog w = .ok (.pointer (some (a.add 1))) w := by intro a w; simp [Instr.fieldAt, go_sem, Instr.sureAddr, fieldPlace]
theorem G4 : ∀ a w, (Instr.fieldAt 100 (.pointer (some a)) 2).run Tryz.prog w = .ok (.pointer (some (a.add 2))) w := by intro a w; simp [Instr.fieldAt, go_sem, Instr.sureAddr, fieldPlace]
theorem Hw : ∀ a w, (Instr.fieldAt 100 (.pointer (some a)) 3).run Tryz.prog w = .ok (.pointer (some (a.add 3))) w := by intro a w; simp [Instr.fieldAt, go_sem, Instr.sureAddr, fieldPlace]
theorem GS : ∀ a w, (Instr.fieldAt 100 (.pointer (some a)) 4).run Tryz.prog w = .ok (.pointer (some (a.add 4))) w := by intro a w; simp [Instr.fieldAt, go_sem, Instr.sureAddr, fieldPlace]
theorem Me : ∀ a w, (Instr.fieldAt 109 (.pointer (some a)) 0).run Tryz.prog w = .ok (.pointer (some (a.add 0))) w := by intro a w; simp [Instr.fieldAt, go_sem, Instr.sureAddr, fieldPlace]
theorem Po : ∀ a w, (Instr.fieldAt 113 (.pointer (some a)) 0).run Tryz.prog w = .ok (.pointer (some (a.add 0))) w := by intro a w; simp [Instr.fieldAt, go_sem, Instr.sureAddr, fieldPlace]
theorem Ny : ∀ a w, (Instr.fieldAt 113 (.pointer (some a)) 1).run Tryz.prog w = .ok (.pointer (some (a.add 1))) w := by intro a w; simp [Instr.fieldAt, go_sem, Instr.sureAddr, fieldPlace]
theorem Js : ∀ a w, (Instr.fieldAt 113 (.pointer (some a)) 2).run Tryz.prog w = .ok (.pointer (some (a.add 2))) w := by intro a w; simp [Instr.fieldAt, go_sem, Instr.sureAddr, fieldPlace]
theorem IQ : ∀ a w, (Instr.fieldAt 113 (.pointer (some a)) 3).run Tryz.prog w = .ok (.pointer (some (a.add 3))) w := by intro a w; simp [Instr.fieldAt, go_sem, Instr.sureAddr, fieldPlace]
theorem QW : ∀ a w, (Instr.fieldAt 116 (.pointer (some a)) 0).run Tryz.prog w = .ok (.pointer (some (a.add 0))) w := by intro a w; simp [Instr.fieldAt, go_sem, Instr.sureAddr, fieldPlace]
theorem TD : ∀ a w, (Instr.fieldAt 116 (.pointer (some a)) 1).run Tryz.prog w = .ok (.pointer (some (a.add 1))) w := by intro a w; simp [Instr.fieldAt, go_sem, Instr.sureAddr, fieldPlace]
theorem To : ∀ a w, (Instr.fieldAt 127 (.pointer (some a)) 0).run Tryz.prog w = .ok (.pointer (some (a.add 0))) w := by intro a w; simp [Instr.fieldAt, go_sem, Instr.sureAddr, fieldPlace]
theorem Tl : ∀ a w, (Instr.fieldAt 127 (.pointer (some a)) 1).run Tryz.prog w = .ok (.pointer (some (a.add 1))) w := by intro a w; simp [Instr.fieldAt, go_sem, Instr.sureAddr, fieldPlace]
theorem V3 : ∀ a w, (Instr.fieldAt 127 (.pointer (some a)) 2).run Tryz.prog w = .ok (.pointer (some (a.add 2))) w := by intro a w; simp [Instr.fieldAt, go_sem, Instr.sureAddr, fieldPlace]
theorem Te : ∀ a w, (Instr.fieldAt 132 (.pointer (some a)) 0).run Tryz.prog w = .ok (.pointer (some (a.add 0))) w := by intro a w; simp [Instr.fieldAt, go_sem, Instr.sureAddr, fieldPlace]
theorem Tf : ∀ a w, (Instr.fieldAt 132 (.pointer (some a)) 1).run Tryz.prog w = .ok (.pointer (some (a.add 1))) w := by intro a w; simp [Instr.fieldAt, go_sem, Instr.sureAddr, fieldPlace]
theorem TH : ∀ a w, (Instr.fieldAt 132 (.pointer (some a)) 2).run Tryz.prog w = .ok (.pointer (some (a.add 2))) w := by intro a w; simp [Instr.fieldAt, go_sem, Instr.sureAddr, fieldPlace]
theorem Rc : ∀ a w, (Instr.fieldAt 137 (.pointer (some a)) 0).run Tryz.prog w = .ok (.pointer (some (a.add 0))) w := by intro a w; simp [Instr.fieldAt, go_sem, Instr.sureAddr, fieldPlace]
theorem M1 : ∀ a w, (Instr.fieldAt 137 (.pointer (some a)) 1).run Tryz.prog w = .ok (.pointer (some (a.add 1))) w := by intro a w; simp [Instr.fieldAt, go_sem, Instr.sureAddr, fieldPlace]
theorem Rb : ∀ a w, (Instr.fieldAt 137 (.pointer (some a)) 2).run Tryz.prog w = .ok (.pointer (some (a.add 2))) w := by intro a w; simp [Instr.fieldAt, go_sem, Instr.sureAddr, fieldPlace]
theorem K6 : ∀ a w, (Instr.fieldAt 156 (.pointer (some a)) 0).run Tryz.prog w = .ok (.pointer (some (a.add 0))) w := by intro a w; simp [Instr.fieldAt, go_sem, Instr.sureAddr, fieldPlace]
theorem Mh : ∀ a w, (Instr.fieldAt 156 (.pointer (some a)) 1).run Tryz.prog w = .ok (.pointer (some (a.add 5))) w := by intro a w; simp [Instr.fieldAt, go_sem, Instr.sureAddr, fieldPlace]
theorem Pa : ∀ a w, (Instr.fieldAt 156 (.pointer (some a)) 2).run Tryz.prog w = .ok (.pointer (some (a.add 30))) w := by intro a w; simp [Instr.fieldAt, go_sem, Instr.sureAddr, fieldPlace]
theorem QV : ∀ a w, (Instr.fieldAt 156 (.pointer (some a)) 3).run Tryz.prog w = .ok (.pointer (some (a.add 31))) w := by intro a w; simp [Instr.fieldAt, go_sem, Instr.sureAddr, fieldPlace]
theorem Wh : ∀ a w, (Instr.fieldAt 164 (.pointer (some a)) 0).run Tryz.prog w = .ok (.pointer (some (a.add 0))) w := by intro a w; simp [Instr.fieldAt, go_sem, Instr.sureAddr, fieldPlace]
theorem QJ : ∀ a w, (Instr.fieldAt 223 (.pointer (some a)) 0).run Tryz.prog w = .ok (.pointer (some (a.add 0))) w := by intro a w; simp [Instr.fieldAt, go_sem, Instr.sureAddr, fieldPlace]
theorem W6 : ∀ a w, (Instr.fieldAt 223 (.pointer (some a)) 1).run Tryz.prog w = .ok (.pointer (some (a.add 24))) w := by intro a w; simp [Instr.fieldAt, go_sem, Instr.sureAddr, fieldPlace]
theorem WR : ∀ a w, (Instr.fieldAt 241 (.pointer (some a)) 0).run Tryz.prog w = .ok (.pointer (some (a.add 0))) w := by intro a w; simp [Instr.fieldAt, go_sem, Instr.sureAddr, fieldPlace]
theorem K4 : ∀ a w, (Instr.fieldAt 247 (.pointer (some a)) 0).run Tryz.prog w = .ok (.pointer (some (a.add 0))) w := by intro a w; simp [Instr.fieldAt, go_sem, Instr.sureAddr, fieldPlace]
theorem W1 : ∀ a w, (Instr.fieldAt 265 (.pointer (some a)) 1).run Tryz.prog w = .ok (.pointer (some (a.add 1))) w := by intro a w; simp [Instr.fieldAt, go_sem, Instr.sureAddr, fieldPlace]
theorem OP : ∀ a w, (Instr.fieldAt 267 (.pointer (some a)) 0).run Tryz.prog w = .ok (.pointer (some (a.add 0))) w := by intro a w; simp [Instr.fieldAt, go_sem, Instr.sureAddr, fieldPlace]
theorem WN : ∀ a w, (Instr.fieldAt 267 (.pointer (some a)) 1).run Tryz.prog w = .ok (.pointer (some (a.add 1))) w := by intro a w; simp [Instr.fieldAt, go_sem, Instr.sureAddr, fieldPlace]
theorem V2 : ∀ a w, (Instr.fieldAt 267 (.pointer (some a)) 2).run Tryz.prog w = .ok (.pointer (some (a.add 3))) w := by intro a w; simp [Instr.fieldAt, go_sem, Instr.sureAddr, fieldPlace]
theorem NF : ∀ a w, (Instr.fieldAt 27 (.pointer (some a)) 0).run Tryz.prog w = .ok (.pointer (some (a.add 0))) w := by intro a w; simp [Instr.fieldAt, go_sem, Instr.sureAddr, fieldPlace]
theorem Jr : ∀ a w, (Instr.fieldAt 27 (.pointer (some a)) 1).run Tryz.prog w = .ok (.pointer (some (a.add 1))) w := by intro a w; simp [Instr.fieldAt, go_sem, Instr.sureAddr, fieldPlace]
theorem LS : ∀ a w, (Instr.fieldAt 304 (.pointer (some a)) 0).run Tryz.prog w = .ok (.pointer (some (a.add 0))) w := by intro a w; simp [Instr.fieldAt, go_sem, Instr.sureAddr, fieldPlace]
theorem S3 : ∀ a w, (Instr.fieldAt 304 (.pointer (some a)) 1).run Tryz.prog w = .ok (.pointer (some (a.add 4))) w := by intro a w; simp [Instr.fieldAt, go_sem, Instr.sureAddr, fieldPlace]
theorem WZ : ∀ a w, (Instr.fieldAt 304 (.pointer (some a)) 2).run Tryz.prog w = .ok (.pointer (some (a.add 5))) w := by intro a w; simp [Instr.fieldAt, go_sem, Instr.sureAddr, fieldPlace]
theorem KR : ∀ a w, (Instr.fieldAt 304 (.pointer (some a)) 3).run Tryz.prog w = .ok (.pointer (some (a.add 6))) w := by intro a w; simp [Instr.fieldAt, go_sem, Instr.sureAddr, fieldPlace]
theorem QR : ∀ a w, (Instr.fieldAt 304 (.pointer (some a)) 4).run Tryz.prog w = .ok (.pointer (some (a.add 14))) w := by intro a w; simp [Instr.fieldAt, go_sem, Instr.sureAddr, fieldPlace]
theorem WH : ∀ a w, (Instr.fieldAt 313 (.pointer (some a)) 0).run Tryz.prog w = .ok (.pointer (some (a.add 0))) w := by intro a w; simp [Instr.fieldAt, go_sem, Instr.sureAddr, fieldPlace]
theorem Q7 : ∀ a w, (Instr.fieldAt 313 (.pointer (some a)) 1).run Tryz.prog w = .ok (.pointer (some (a.add 1))) w := by intro a w; simp [Instr.fieldAt, go_sem, Instr.sureAddr, fieldPlace]
theorem O1 : ∀ a w, (Instr.fieldAt 315 (.pointer (some a)) 0).run Tryz.prog w = .ok (.pointer (some (a.add 0))) w := by intro a w; simp [Instr.fieldAt, go_sem, Instr.sureAddr, fieldPlace]
theorem TM : ∀ a w, (Instr.fieldAt 315 (.pointer (some a)) 1).run Tryz.prog w = .ok (.pointer (some (a.add 25))) w := by intro a w; simp [Instr.fieldAt, go_sem, Instr.sureAddr, fieldPlace]
theorem QT : ∀ a w, (Instr.fieldAt 321 (.pointer (some a)) 0).run Tryz.prog w = .ok (.pointer (some (a.add 0))) w := by intro a w; simp [Instr.fieldAt, go_sem, Instr.sureAddr, fieldPlace]
theorem TR : ∀ a w, (Instr.fieldAt 321 (.pointer (some a)) 1).run Tryz.prog w = .ok (.pointer (some (a.add 1))) w := by intro a w; simp [Instr.fieldAt, go_sem, Instr.sureAddr, fieldPlace]
theorem K5 : ∀ a w, (Instr.fieldAt 323 (.pointer (some a)) 0).run Tryz.prog w = .ok (.pointer (some (a.add 0))) w := by intro a w; simp [Instr.fieldAt, go_sem, Instr.sureAddr, fieldPlace]
theorem TV : ∀ a w, (Instr.fieldAt 323 (.pointer (some a)) 1).run Tryz.prog w = .ok (.pointer (some (a.add 2))) w := by intro a w; simp [Instr.fieldAt, go_sem, Instr.sureAddr, fieldPlace]
theorem W0 : ∀ a w, (Instr.fieldAt 323 (.pointer (some a)) 2).run Tryz.prog w = .ok (.pointer (some (a.add 4))) w := by intro a w; simp [Instr.fieldAt, go_sem, Instr.sureAddr, fieldPlace]
theorem ND : ∀ a w, (Instr.fieldAt 39 (.pointer (some a)) 0).run Tryz.prog w = .ok (.pointer (some (a.add 0))) w := by intro a w; simp [Instr.fieldAt, go_sem, Instr.sureAddr, fieldPlace]
theorem Mw : ∀ a w, (Instr.fieldAt 39 (.pointer (some a)) 1).run Tryz.prog w = .ok (.pointer (some (a.add 1))) w := by intro a w; simp [Instr.fieldAt, go_sem, Instr.sureAddr, fieldPlace]
theorem U5 : ∀ a w, (Instr.fieldAt 39 (.pointer (some a)) 2).run Tryz.prog w = .ok (.pointer (some (a.add 2))) w := by intro a w; simp [Instr.fieldAt, go_sem, Instr.sureAddr, fieldPlace]
theorem Vb : ∀ a w, (Instr.fieldAt 39 (.pointer (some a)) 3).run Tryz.prog w = .ok (.pointer (some (a.add 3))) w := by intro a w; simp [Instr.fieldAt, go_sem, Instr.sureAddr, fieldPlace]
theorem Nz : ∀ a w, (Instr.fieldAt 39 (.pointer (some a)) 4).run Tryz.prog w = .ok (.pointer (some (a.add 4))) w := by intro a w; simp [Instr.fieldAt, go_sem, Instr.sureAddr, fieldPlace]
theorem Qw : ∀ a w, (Instr.fieldAt 41 (.pointer (some a)) 0).run Tryz.prog w = .ok (.pointer (some (a.add 0))) w := by intro a w; simp [Instr.fieldAt, go_sem, Instr.sureAddr, fieldPlace]
theorem UH : ∀ a w, (Instr.fieldAt 41 (.pointer (some a)) 1).run Tryz.prog w = .ok (.pointer (some (a.add 1))) w := by intro a w; simp [Instr.fieldAt, go_sem, Instr.sureAddr, fieldPlace]
theorem UY : ∀ a w, (Instr.fieldAt 41 (.pointer (some a)) 2).run Tryz.prog w = .ok (.pointer (some (a.add 2))) w := by intro a w; simp [Instr.fieldAt, go_sem, Instr.sureAddr, fieldPlace]
theorem UK : ∀ a w, (Instr.fieldAt 64 (.pointer (some a)) 0).run Tryz.prog w = .ok (.pointer (some (a.add 0))) w := by intro a w; simp [Instr.fieldAt, go_sem, Instr.sureAddr, fieldPlace]
theorem UB : ∀ a w, (Instr.fieldAt 64 (.pointer (some a)) 1).run Tryz.prog w = .ok (.pointer (some (a.add 1))) w := by intro a w; simp [Instr.fieldAt, go_sem, Instr.sureAddr, fieldPlace]
theorem Vj : EJ Tryz.prog 103 123 1 (.slice none 0 0) 24 := EJ.mk' Tryz.underlying103 (by kernel_rfl) rfl (by decide)
theorem Xk : EJ Tryz.prog 110 109 2 (.agg #[.int .i64 0, .bool false]) 16 := EJ.mk' Tryz.underlying110 (by kernel_rfl) rfl (by decide)
theorem UA : EJ Tryz.prog 114 116 2 (.agg #[.int .i64 0, .int .i64 0]) 16 := EJ.mk' Tryz.underlying114 (by kernel_rfl) rfl (by decide)
theorem UO : EJ Tryz.prog 117 122 2 (.agg #[.int .i64 0, .int .i64 0]) 16 := EJ.mk' Tryz.underlying117 (by kernel_rfl) rfl (by decide)
theorem Qx : EJ Tryz.prog 123 124 1 (.int .i64 0) 8 := EJ.mk' Tryz.underlying123 (by kernel_rfl) rfl (by decide)
theorem SV : EJ Tryz.prog 128 127 3 (.agg #[.int .i64 0, .int .i64 0, .bool false]) 24 := EJ.mk' Tryz.underlying128 (by kernel_rfl) rfl (by decide)
theorem UC : EJ Tryz.prog 216 223 25 (.agg #[.bool false, .bool false, .bool false, .bool false, .bool false, .bool false, .bool false, .bool false, .bool false, .bool false, .bool false, .bool false, .bool false, .bool false, .bool false, .bool false, .bool false, .bool false, .bool false, .bool false, .bool false, .bool false, .bool false, .bool false, .slice none 0 0]) 48 := EJ.mk' Tryz.underlying216 (by kernel_rfl) rfl (by decide)
theorem Wd : EJ Tryz.prog 25 34 1 (.int .i64 0) 8 := EJ.mk' Tryz.underlying25 (by kernel_rfl) rfl (by decide)
theorem XO : EJ Tryz.prog 256 9 1 (.string ⟨#[]⟩) 16 := EJ.mk' Tryz.underlying256 (by kernel_rfl) rfl (by decide)
theorem UN : EJ Tryz.prog 310 315 26 (.agg #[.int .i64 0, .bool false, .bool false, .bool false, .bool false, .bool false, .bool false, .bool false, .bool false, .bool false, .bool false, .bool false, .bool false, .bool false, .bool false, .bool false, .bool false, .bool false, .bool false, .bool false, .bool false, .bool false, .bool false, .bool false, .bool false, .slice none 0 0]) 56 := EJ.mk' Tryz.underlying310 (by kernel_rfl) rfl (by decide)
theorem Cm : EJ Tryz.prog 33 3 1 (.int .i64 0) 8 := EJ.mk' Tryz.underlying33 (by kernel_rfl) rfl (by decide)
theorem Xe : EJ Tryz.prog 345 321 2 (.agg #[.int .i64 0, .int .i64 0]) 16 := EJ.mk' Tryz.underlying345 (by kernel_rfl) rfl (by decide)
theorem LL : EJ Tryz.prog 36 33 1 (.slice none 0 0) 24 := EJ.mk' Tryz.underlying36 (by kernel_rfl) rfl (by decide)
theorem Ym : EJ Tryz.prog 37 41 3 (.agg #[.slice none 0 0, .int .i64 0, .int .i64 0]) 40 := EJ.mk' Tryz.underlying37 (by kernel_rfl) rfl (by decide)
theorem WI : EJ Tryz.prog 48 58 2 (.agg #[.int .i64 0, .int .i64 0]) 16 := EJ.mk' Tryz.underlying48 (by kernel_rfl) rfl (by decide)
theorem Ws : EJ Tryz.prog 51 64 2 (.agg #[.int .i64 0, .int .i64 0]) 16 := EJ.mk' Tryz.underlying51 (by kernel_rfl) rfl (by decide)
theorem SO : EJ Tryz.prog 97 36 1 (.slice none 0 0) 24 := EJ.mk' Tryz.underlying97 (by kernel_rfl) rfl (by decide)
theorem KU : EJ Tryz.prog 98 132 3 (.agg #[.int .i64 0, .int .i64 0, .int .i64 0]) 24 := EJ.mk' Tryz.underlying98 (by kernel_rfl) rfl (by decide)
theorem NB : ML Tryz.prog 265 (vA (cP (cI .i64) (cI .i64))) := by
  refine Pm (by kernel_rfl) (fun x y w => ?_) (fun b k w => ?_) (fun k => ?_)
  · obtain ⟨x0, x1⟩ := x; obtain ⟨y0, y1⟩ := y
    exact (SK (YO x0 x1 y0 y1 w)).trans (by simp)
  · obtain ⟨k0, k1⟩ := k
    have key : ∀ n, (Instr.checkKey b (n + 2) 265 (.agg #[.int .i64 k0, .int .i64 k1])).run Tryz.prog w = .ok () w := fun n => by
      simp [Instr.checkKey, run_underlying Tryz.underlying265, part, go_sem, Tryz.isAgg3, run_underlying Tryz.underlying3]
    exact key 9998
  · obtain ⟨k0, k1⟩ := k; simp [vA, cP, cI, Instr.sameBits]
def IA (k : Int × (List Bool)) : Prop := C9 k.1 ∧ k.2.length = 24
def NJ (k : Int × (List Bool)) : List Lit := [Lit.int .i64 k.1] ++ (k.2.map Lit.bool)
theorem YH (k : Int × (List Bool)) (h : IA k) : ((vA (cP (cI .i64) (cA cB))) k).formed Tryz.prog 313 = true := by unfold IA at h; obtain ⟨h0, h1⟩ := h; obtain ⟨x0, x1⟩ := k; obtain ⟨av, aw, ax, ay, az, ba, bb, bc, bd, bg, aa, ab, ad, ae, af, ah, ai, aj, ak, al, ao, aq, ar, au, rfl⟩ := Nx h1; kernel_rfl
theorem Yw (k : Int × (List Bool)) (h : IA k) : Tryz.prog.keyLits 10 313 ((vA (cP (cI .i64) (cA cB))) k).cells.toList = some (NJ k) := by unfold IA at h; obtain ⟨h0, h1⟩ := h; obtain ⟨x0, x1⟩ := k; obtain ⟨av, aw, ax, ay, az, ba, bb, bc, bd, bg, aa, ab, ad, ae, af, ah, ai, aj, ak, al, ao, aq, ar, au, rfl⟩ := Nx h1; exact OU (ls := [[Lit.int .i64 x0], [Lit.bool av, Lit.bool aw, Lit.bool ax, Lit.bool ay, Lit.bool az, Lit.bool ba, Lit.bool bb, Lit.bool bc, Lit.bool bd, Lit.bool bg, Lit.bool aa, Lit.bool ab, Lit.bool ad, Lit.bool ae, Lit.bool af, Lit.bool ah, Lit.bool ai, Lit.bool aj, Lit.bool ak, Lit.bool al, Lit.bool ao, Lit.bool aq, Lit.bool ar, Lit.bool au]]) Tryz.underlying313 (by kernel_rfl) (by kernel_rfl) (.cons (OD (l := [.int .i64 x0]) (by kernel_rfl) (MX Tryz.underlying3 (YD h0))) (.cons (OD (l := [.bool av, .bool aw, .bool ax, .bool ay, .bool az, .bool ba, .bool bb, .bool bc, .bool bd, .bool bg, .bool aa, .bool ab, .bool ad, .bool ae, .bool af, .bool ah, .bool ai, .bool aj, .bool ak, .bool al, .bool ao, .bool aq, .bool ar, .bool au]) (by kernel_rfl) ((by kernel_rfl))) .nil)) (by simp [NJ])
theorem Yv (k : Int × (List Bool)) (h : IA k) : Instr.sameBits 10000 ((vA (cP (cI .i64) (cA cB))) k) ((vA (cP (cI .i64) (cA cB))) k) = true := by unfold IA at h; obtain ⟨h0, h1⟩ := h; obtain ⟨x0, x1⟩ := k; obtain ⟨av, aw, ax, ay, az, ba, bb, bc, bd, bg, aa, ab, ad, ae, af, ah, ai, aj, ak, al, ao, aq, ar, au, rfl⟩ := Nx h1; simp [vA, cP, cI, cB, cA, Instr.sameBits]
theorem YM (x y : Int × (List Bool)) (h : NJ x = NJ y) : x = y := by
  obtain ⟨x0, x1⟩ := x; obtain ⟨y0, y1⟩ := y
  unfold NJ at h
  have e0 := (fun q => (Lit.int.inj q).2) (List.cons.inj h).1
  have t0 := (List.cons.inj h).2
  have e1 := MC t0
  subst e0 e1; rfl
theorem U7 : Rm Tryz.prog 313 IA (vA (cP (cI .i64) (cA cB))) := P3 (lits := NJ) (m := 10) (D := 10) (by kernel_rfl) (by kernel_rfl) (by decide) YH Yw YM Yv
def Gz (k : List Int) : Prop := k.length = 2 ∧ ∀ x ∈ k, C9 x
def NH (k : List Int) : List Lit := k.map (Lit.int .i64)
theorem YJ (k : List Int) (h : Gz k) : ((fun k : List Int => Value.agg (arr (cI .i64) k)) k).formed Tryz.prog 355 = true := by unfold Gz at h; obtain ⟨h, _⟩ := h; obtain ⟨aa, ab, rfl⟩ := XV h; kernel_rfl
theorem YE (k : List Int) (h : Gz k) : Tryz.prog.keyLits 10 355 ((fun k : List Int => Value.agg (arr (cI .i64) k)) k).cells.toList = some (NH k) := by
  unfold Gz at h; unfold NH
  have e : (Value.agg (arr (cI .i64) k)).cells.toList = k.map (Value.int .i64) := by show (arr (cI .i64) k).toList = _; unfold arr; exact Sq k
  rw [e]
  exact OC (d := 8) (n := 2) Tryz.underlying355 Tryz.underlying3 (by kernel_rfl) (by kernel_rfl) h.1 fun x hx => YD (h.2 x hx)
theorem YK (k : List Int) (h : Gz k) : Instr.sameBits 10000 ((fun k : List Int => Value.agg (arr (cI .i64) k)) k) ((fun k : List Int => Value.agg (arr (cI .i64) k)) k) = true := by unfold Gz at h; obtain ⟨h, _⟩ := h; obtain ⟨aa, ab, rfl⟩ := XV h; simp [cI, arr, Instr.sameBits]
theorem YB (x y : List Int) (h : NH x = NH y) : x = y := by
  unfold NH at h
  exact Nm h
theorem Ss : Rm Tryz.prog 355 Gz (fun k : List Int => Value.agg (arr (cI .i64) k)) := P3 (lits := NH) (m := 10) (D := 10) (by kernel_rfl) (by kernel_rfl) (by decide) YJ YE YB YK
theorem TT : (⟨#[0, 1, 2, 2, 3, 3, 3, 3, 4, 4, 4, 4, 4, 4, 4, 4, 5, 5, 5, 5, 5, 5, 5, 5, 5, 5, 5, 5, 5, 5, 5, 5, 6, 6, 6, 6, 6, 6, 6, 6, 6, 6, 6, 6, 6, 6, 6, 6, 6, 6, 6, 6, 6, 6, 6, 6, 6, 6, 6, 6, 6, 6, 6, 6, 7, 7, 7, 7, 7, 7, 7, 7, 7, 7, 7, 7, 7, 7, 7, 7, 7, 7, 7, 7, 7, 7, 7, 7, 7, 7, 7, 7, 7, 7, 7, 7, 7, 7, 7, 7, 7, 7, 7, 7, 7, 7, 7, 7, 7, 7, 7, 7, 7, 7, 7, 7, 7, 7, 7, 7, 7, 7, 7, 7, 7, 7, 7, 7, 8, 8, 8, 8, 8, 8, 8, 8, 8, 8, 8, 8, 8, 8, 8, 8, 8, 8, 8, 8, 8, 8, 8, 8, 8, 8, 8, 8, 8, 8, 8, 8, 8, 8, 8, 8, 8, 8, 8, 8, 8, 8, 8, 8, 8, 8, 8, 8, 8, 8, 8, 8, 8, 8, 8, 8, 8, 8, 8, 8, 8, 8, 8, 8, 8, 8, 8, 8, 8, 8, 8, 8, 8, 8, 8, 8, 8, 8, 8, 8, 8, 8, 8, 8, 8, 8, 8, 8, 8, 8, 8, 8, 8, 8, 8, 8, 8, 8, 8, 8, 8, 8, 8, 8, 8, 8, 8, 8, 8, 8, 8, 8, 8, 8, 8, 8, 8, 8, 8, 8, 8, 8, 8, 8, 8, 8, 8, 8]⟩ : ByteArray) = sB Uj := by kernel_rfl
theorem Tx : ∀ x ∈ Uj, 0 ≤ x ∧ x < 256 := by decide +kernel
end Go.Proofs.YtfmapnhfamoecaaGreat
