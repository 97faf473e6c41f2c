/- Facts on types, printed by a program of mine. -/
import Derived.Test.YtbeeigejcihadaaGreatProg
import Derived.Test.YtbeeigejcihadaaGreatZRShW
import Derived.Test.YtbeeigejcihadaaGreatZRTd
namespace Go.Proofs.YtbeeigejcihadaaGreat
open Go.SH Go.PL
theorem RS : ∀ (x0 x1 y0 y1 : Int) w, (binOp .eql 163 (.agg #[.int .i64 x0, .int .i64 x1]) (.agg #[.int .i64 y0, .int .i64 y1])).run Tryz.prog w = .ok (.bool (decide (x0 = y0 ∧ x1 = y1))) w := by
  intro x0 x1 y0 y1 w
  have hu : Tryz.prog.underlying 163 = some (.struct (Tryz.prog.fieldsOf 163)) := by rw [Program.fieldsOf, Tryz.underlying163]
  have hp : Tryz.prog.stoodInHeld 163 = false := by kernel_rfl
  have hf : (Tryz.prog.fieldsOf 163).toList = [{ name := "stand", type := 3, offset := 0, embedded := false, tag := "", pkgPath := "oyez/round", byteOffset := 0 }, { name := "left", type := 3, offset := 1, embedded := false, tag := "", pkgPath := "oyez/round", byteOffset := 8 }] := by rw [Program.fieldsOf, Tryz.underlying163]
  simp only [binOp, Op.equal, Op.maxDepth, Sem.run_bind, run_equalIn_struct w 9999 163 _ _ hu hp, hf]
  simp (config := {decide := true}) [Op.eqFields, part, go_sem, Tryz.isAgg3]
  by_cases h0 : x0 = y0 <;> by_cases h1 : x1 = y1 <;> simp [h0, h1, go_sem]
theorem Q3 : ∀ x y a b w, (eqGuard .neq 29 x y (.agg a) (.agg b)).run Tryz.prog w = .ok () w := by intros; simp [eqGuard, go_sem]
theorem eq_29 : ∀ (x0 x1 y0 y1 : Int) w, (binOp .eql 29 (.agg #[.int .i64 x0, .int .i64 x1]) (.agg #[.int .i64 y0, .int .i64 y1])).run Tryz.prog w = .ok (.bool (decide (x0 = y0 ∧ x1 = y1))) w := by
  intro x0 x1 y0 y1 w
  have hu : Tryz.prog.underlying 29 = some (.struct (Tryz.prog.fieldsOf 29)) := by rw [Program.fieldsOf, Tryz.underlying29]
  have hp : Tryz.prog.stoodInHeld 29 = false := by kernel_rfl
  have hf : (Tryz.prog.fieldsOf 29).toList = [{ name := "Stand", type := 3, offset := 0, embedded := false, tag := "", pkgPath := "", byteOffset := 0 }, { name := "Notice", type := 3, offset := 1, embedded := false, tag := "", pkgPath := "", byteOffset := 8 }] := by rw [Program.fieldsOf, Tryz.underlying29]
  simp only [binOp, Op.equal, Op.maxDepth, Sem.run_bind, run_equalIn_struct w 9999 29 _ _ hu hp, hf]
  simp (config := {decide := true}) [Op.eqFields, part, go_sem, Tryz.isAgg3]
  by_cases h0 : x0 = y0 <;> by_cases h1 : x1 = y1 <;> simp [h0, h1, go_sem]
theorem QK : ∀ x y a b w, (eqGuard .eql 32 x y (.agg a) (.agg b)).run Tryz.prog w = .ok () w := by intros; simp [eqGuard, go_sem]
theorem Rh : ∀ x y a b w, (eqGuard .neq 32 x y (.agg a) (.agg b)).run Tryz.prog w = .ok () w := by intros; simp [eqGuard, go_sem]
theorem eq_32 : ∀ (x0 x1 y0 y1 : Int) w, (binOp .eql 32 (.agg #[.int .i64 x0, .int .i64 x1]) (.agg #[.int .i64 y0, .int .i64 y1])).run Tryz.prog w = .ok (.bool (decide (x0 = y0 ∧ x1 = y1))) w := by
  intro x0 x1 y0 y1 w
  have hu : Tryz.prog.underlying 32 = some (.struct (Tryz.prog.fieldsOf 32)) := by rw [Program.fieldsOf, Tryz.underlying32]
  have hp : Tryz.prog.stoodInHeld 32 = false := by kernel_rfl
  have hf : (Tryz.prog.fieldsOf 32).toList = [{ name := "Notice", type := 3, offset := 0, embedded := false, tag := "", pkgPath := "", byteOffset := 0 }, { name := "House", type := 3, offset := 1, embedded := false, tag := "", pkgPath := "", byteOffset := 8 }] := by rw [Program.fieldsOf, Tryz.underlying32]
  simp only [binOp, Op.equal, Op.maxDepth, Sem.run_bind, run_equalIn_struct w 9999 32 _ _ hu hp, hf]
  simp (config := {decide := true}) [Op.eqFields, part, go_sem, Tryz.isAgg3]
  by_cases h0 : x0 = y0 <;> by_cases h1 : x1 = y1 <;> simp [h0, h1, go_sem]
theorem RU : ∀ x y a b w, (eqGuard .eql 56 x y (.agg a) (.agg b)).run Tryz.prog w = .ok () w := by intros; simp [eqGuard, go_sem]
theorem Q4 : ∀ x y a b w, (eqGuard .neq 56 x y (.agg a) (.agg b)).run Tryz.prog w = .ok () w := by intros; simp [eqGuard, go_sem]
theorem RA : ∀ (x0 x1 y0 y1 : Int) w, (binOp .eql 56 (.agg #[.int .i64 x0, .int .i64 x1]) (.agg #[.int .i64 y0, .int .i64 y1])).run Tryz.prog w = .ok (.bool (decide (x0 = y0 ∧ x1 = y1))) w := by
  intro x0 x1 y0 y1 w
  have hu : Tryz.prog.underlying 56 = some (.struct (Tryz.prog.fieldsOf 56)) := by rw [Program.fieldsOf, Tryz.underlying56]
  have hp : Tryz.prog.stoodInHeld 56 = false := by kernel_rfl
  have hf : (Tryz.prog.fieldsOf 56).toList = [{ name := "Notice", type := 3, offset := 0, embedded := false, tag := "", pkgPath := "", byteOffset := 0 }, { name := "House", type := 3, offset := 1, embedded := false, tag := "", pkgPath := "", byteOffset := 8 }] := by rw [Program.fieldsOf, Tryz.underlying56]
  simp only [binOp, Op.equal, Op.maxDepth, Sem.run_bind, run_equalIn_struct w 9999 56 _ _ hu hp, hf]
  simp (config := {decide := true}) [Op.eqFields, part, go_sem, Tryz.isAgg3]
  by_cases h0 : x0 = y0 <;> by_cases h1 : x1 = y1 <;> simp [h0, h1, go_sem]
def Mk (k : List Int) : Prop := k.length = 25 ∧ ∀ x ∈ k, Ca x
def MR (k : List Int) : List Lit := k.map (Lit.int .i64)
theorem Ro {α : Type} {xs : List α} (h : xs.length = 25) : ∃ a0 a1 a2 a3 a4 a5 a6 a7 a8 a9 aa ab ad ae ah ai aj ak al ao aq ar au av aw, xs = [a0, a1, a2, a3, a4, a5, a6, a7, a8, a9, aa, ab, ad, ae, ah, ai, aj, ak, al, ao, aq, ar, au, av, aw] := by
  obtain ⟨a0, xs, rfl, h0⟩ := GA h
  obtain ⟨a1, xs, rfl, h1⟩ := GA h0
  obtain ⟨a2, xs, rfl, h2⟩ := GA h1
  obtain ⟨a3, xs, rfl, h3⟩ := GA h2
  obtain ⟨a4, xs, rfl, h4⟩ := GA h3
  obtain ⟨a5, xs, rfl, h5⟩ := GA h4
  obtain ⟨a6, xs, rfl, h6⟩ := GA h5
  obtain ⟨a7, xs, rfl, h7⟩ := GA h6
  obtain ⟨a8, xs, rfl, h8⟩ := GA h7
  obtain ⟨a9, xs, rfl, h9⟩ := GA h8
  obtain ⟨aa, xs, rfl, ax⟩ := GA h9
  obtain ⟨ab, xs, rfl, ay⟩ := GA ax
  obtain ⟨ad, xs, rfl, az⟩ := GA ay
  obtain ⟨ae, xs, rfl, ba⟩ := GA az
  obtain ⟨ah, xs, rfl, bb⟩ := GA ba
  obtain ⟨ai, xs, rfl, bc⟩ := GA bb
  obtain ⟨aj, xs, rfl, bd⟩ := GA bc
  obtain ⟨ak, xs, rfl, bg⟩ := GA bd
  obtain ⟨al, xs, rfl, bh⟩ := GA bg
  obtain ⟨ao, xs, rfl, bj⟩ := GA bh
  obtain ⟨aq, xs, rfl, bk⟩ := GA bj
  obtain ⟨ar, xs, rfl, bl⟩ := GA bk
  obtain ⟨au, xs, rfl, bm⟩ := GA bl
  obtain ⟨av, xs, rfl, bn⟩ := GA bm
  obtain ⟨aw, xs, rfl, bo⟩ := GA bn
  obtain rfl := Sh bo
  exact ⟨a0, a1, a2, a3, a4, a5, a6, a7, a8, a9, aa, ab, ad, ae, ah, ai, aj, ak, al, ao, aq, ar, au, av, aw, rfl⟩
theorem RQ (k : List Int) (h : Mk k) : ((fun k : List Int => Value.agg (arr (cI .i64) k)) k).formed Tryz.prog 118 = true := by unfold Mk at h; obtain ⟨h, _⟩ := h; obtain ⟨a0, a1, a2, a3, a4, a5, a6, a7, a8, a9, aa, ab, ad, ae, ah, ai, aj, ak, al, ao, aq, ar, au, av, aw, rfl⟩ := Ro h; kernel_rfl
theorem RK (k : List Int) (h : Mk k) : Tryz.prog.keyLits 10 118 ((fun k : List Int => Value.agg (arr (cI .i64) k)) k).cells.toList = some (MR k) := by
  unfold Mk at h; unfold MR
  have e : (Value.agg (arr (cI .i64) k)).cells.toList = k.map (Value.int .i64) := by show (arr (cI .i64) k).toList = _; unfold arr; exact PO k
  rw [e]
  exact ON (d := 7) (n := 5) (m := 5) Tryz.underlying118 Tryz.underlying116 Tryz.underlying3 (by kernel_rfl) (by kernel_rfl) (by kernel_rfl) h.1 fun x hx => SB (h.2 x hx)
theorem RX (x y : List Int) (h : MR x = MR y) : x = y := NA h
theorem Ra (x y : List Int) (gx : Mk x) (gy : Mk y) (w : World) : (Op.equal 118 ((fun k : List Int => Value.agg (arr (cI .i64) k)) x) ((fun k : List Int => Value.agg (arr (cI .i64) k)) y)).run Tryz.prog w = .ok (decide (x = y)) w := Q8 (G := Mk) (ek := (fun k : List Int => Value.agg (arr (cI .i64) k))) (lits := MR) (m := 10) (D := 10) (by kernel_rfl) (by decide) RQ RK RX gx gy w
theorem Qs : ∀ x y a b w, (eqGuard .neq 118 x y (.agg a) (.agg b)).run Tryz.prog w = .ok () w := by intros; simp [eqGuard, go_sem]
theorem Mu : ∀ a w, (Instr.fieldAt 110 (.pointer (some a)) 0).run Tryz.prog w = .ok (.pointer (some (a.add 0))) w := by intro a w; simp [Instr.fieldAt, go_sem, Instr.sureAddr, fieldPlace]
theorem MM : ∀ a w, (Instr.fieldAt 110 (.pointer (some a)) 1).run Tryz.prog w = .ok (.pointer (some (a.add 1))) w := by intro a w; simp [Instr.fieldAt, go_sem, Instr.sureAddr, fieldPlace]
theorem JF : ∀ a w, (Instr.fieldAt 110 (.pointer (some a)) 2).run Tryz.prog w = .ok (.pointer (some (a.add 2))) w := by intro a w; simp [Instr.fieldAt, go_sem, Instr.sureAddr, fieldPlace]
theorem Gv : ∀ a w, (Instr.fieldAt 122 (.pointer (some a)) 0).run Tryz.prog w = .ok (.pointer (some (a.add 0))) w := by intro a w; simp [Instr.fieldAt, go_sem, Instr.sureAddr, fieldPlace]
theorem Gg : ∀ a w, (Instr.fieldAt 122 (.pointer (some a)) 1).run Tryz.prog w = .ok (.pointer (some (a.add 5))) w := by intro a w; simp [Instr.fieldAt, go_sem, Instr.sureAddr, fieldPlace]
theorem GB : ∀ a w, (Instr.fieldAt 122 (.pointer (some a)) 2).run Tryz.prog w = .ok (.pointer (some (a.add 30))) w := by intro a w; simp [Instr.fieldAt, go_sem, Instr.sureAddr, fieldPlace]
theorem N0 : ∀ a w, (Instr.fieldAt 122 (.pointer (some a)) 3).run Tryz.prog w = .ok (.pointer (some (a.add 31))) w := by intro a w; simp [Instr.fieldAt, go_sem, Instr.sureAddr, fieldPlace]
theorem Lm : ∀ a w, (Instr.fieldAt 127 (.pointer (some a)) 0).run Tryz.prog w = .ok (.pointer (some (a.add 0))) w := by intro a w; simp [Instr.fieldAt, go_sem, Instr.sureAddr, fieldPlace]
theorem N9 : ∀ a w, (Instr.fieldAt 127 (.pointer (some a)) 1).run Tryz.prog w = .ok (.pointer (some (a.add 1))) w := by intro a w; simp [Instr.fieldAt, go_sem, Instr.sureAddr, fieldPlace]
theorem Qr : ∀ a w, (Instr.fieldAt 137 (.pointer (some a)) 0).run Tryz.prog w = .ok (.pointer (some (a.add 0))) w := by intro a w; simp [Instr.fieldAt, go_sem, Instr.sureAddr, fieldPlace]
theorem QI : ∀ a w, (Instr.fieldAt 163 (.pointer (some a)) 1).run Tryz.prog w = .ok (.pointer (some (a.add 1))) w := by intro a w; simp [Instr.fieldAt, go_sem, Instr.sureAddr, fieldPlace]
theorem MU : ∀ a w, (Instr.fieldAt 165 (.pointer (some a)) 0).run Tryz.prog w = .ok (.pointer (some (a.add 0))) w := by intro a w; simp [Instr.fieldAt, go_sem, Instr.sureAddr, fieldPlace]
theorem QT : ∀ a w, (Instr.fieldAt 165 (.pointer (some a)) 1).run Tryz.prog w = .ok (.pointer (some (a.add 1))) w := by intro a w; simp [Instr.fieldAt, go_sem, Instr.sureAddr, fieldPlace]
theorem QQ : ∀ a w, (Instr.fieldAt 165 (.pointer (some a)) 2).run Tryz.prog w = .ok (.pointer (some (a.add 3))) w := by intro a w; simp [Instr.fieldAt, go_sem, Instr.sureAddr, fieldPlace]
theorem CI : ∀ a w, (Instr.fieldAt 26 (.pointer (some a)) 0).run Tryz.prog w = .ok (.pointer (some (a.add 0))) w := by intro a w; simp [Instr.fieldAt, go_sem, Instr.sureAddr, fieldPlace]
theorem Df : ∀ a w, (Instr.fieldAt 26 (.pointer (some a)) 1).run Tryz.prog w = .ok (.pointer (some (a.add 1))) w := by intro a w; simp [Instr.fieldAt, go_sem, Instr.sureAddr, fieldPlace]
theorem Ke : ∀ a w, (Instr.fieldAt 26 (.pointer (some a)) 2).run Tryz.prog w = .ok (.pointer (some (a.add 2))) w := by intro a w; simp [Instr.fieldAt, go_sem, Instr.sureAddr, fieldPlace]
theorem Jt : ∀ a w, (Instr.fieldAt 26 (.pointer (some a)) 3).run Tryz.prog w = .ok (.pointer (some (a.add 3))) w := by intro a w; simp [Instr.fieldAt, go_sem, Instr.sureAddr, fieldPlace]
theorem BF : ∀ a w, (Instr.fieldAt 26 (.pointer (some a)) 4).run Tryz.prog w = .ok (.pointer (some (a.add 4))) w := by intro a w; simp [Instr.fieldAt, go_sem, Instr.sureAddr, fieldPlace]
theorem J6 : ∀ a w, (Instr.fieldAt 29 (.pointer (some a)) 0).run Tryz.prog w = .ok (.pointer (some (a.add 0))) w := by intro a w; simp [Instr.fieldAt, go_sem, Instr.sureAddr, fieldPlace]
theorem KW : ∀ a w, (Instr.fieldAt 29 (.pointer (some a)) 1).run Tryz.prog w = .ok (.pointer (some (a.add 1))) w := by intro a w; simp [Instr.fieldAt, go_sem, Instr.sureAddr, fieldPlace]
theorem LG : ∀ a w, (Instr.fieldAt 32 (.pointer (some a)) 0).run Tryz.prog w = .ok (.pointer (some (a.add 0))) w := by intro a w; simp [Instr.fieldAt, go_sem, Instr.sureAddr, fieldPlace]
theorem OD : ∀ a w, (Instr.fieldAt 32 (.pointer (some a)) 1).run Tryz.prog w = .ok (.pointer (some (a.add 1))) w := by intro a w; simp [Instr.fieldAt, go_sem, Instr.sureAddr, fieldPlace]
theorem GX : ∀ a w, (Instr.fieldAt 35 (.pointer (some a)) 0).run Tryz.prog w = .ok (.pointer (some (a.add 0))) w := by intro a w; simp [Instr.fieldAt, go_sem, Instr.sureAddr, fieldPlace]
theorem KO : ∀ a w, (Instr.fieldAt 35 (.pointer (some a)) 1).run Tryz.prog w = .ok (.pointer (some (a.add 1))) w := by intro a w; simp [Instr.fieldAt, go_sem, Instr.sureAddr, fieldPlace]
theorem Ic : ∀ a w, (Instr.fieldAt 35 (.pointer (some a)) 2).run Tryz.prog w = .ok (.pointer (some (a.add 2))) w := by intro a w; simp [Instr.fieldAt, go_sem, Instr.sureAddr, fieldPlace]
theorem IZ : ∀ a w, (Instr.fieldAt 50 (.pointer (some a)) 0).run Tryz.prog w = .ok (.pointer (some (a.add 0))) w := by intro a w; simp [Instr.fieldAt, go_sem, Instr.sureAddr, fieldPlace]
theorem Hn : ∀ a w, (Instr.fieldAt 50 (.pointer (some a)) 1).run Tryz.prog w = .ok (.pointer (some (a.add 1))) w := by intro a w; simp [Instr.fieldAt, go_sem, Instr.sureAddr, fieldPlace]
theorem LK : ∀ a w, (Instr.fieldAt 50 (.pointer (some a)) 2).run Tryz.prog w = .ok (.pointer (some (a.add 2))) w := by intro a w; simp [Instr.fieldAt, go_sem, Instr.sureAddr, fieldPlace]
theorem MH : ∀ a w, (Instr.fieldAt 50 (.pointer (some a)) 3).run Tryz.prog w = .ok (.pointer (some (a.add 3))) w := by intro a w; simp [Instr.fieldAt, go_sem, Instr.sureAddr, fieldPlace]
theorem C9 : ∀ a w, (Instr.fieldAt 50 (.pointer (some a)) 4).run Tryz.prog w = .ok (.pointer (some (a.add 4))) w := by intro a w; simp [Instr.fieldAt, go_sem, Instr.sureAddr, fieldPlace]
theorem LJ : ∀ a w, (Instr.fieldAt 56 (.pointer (some a)) 0).run Tryz.prog w = .ok (.pointer (some (a.add 0))) w := by intro a w; simp [Instr.fieldAt, go_sem, Instr.sureAddr, fieldPlace]
theorem OI : ∀ a w, (Instr.fieldAt 56 (.pointer (some a)) 1).run Tryz.prog w = .ok (.pointer (some (a.add 1))) w := by intro a w; simp [Instr.fieldAt, go_sem, Instr.sureAddr, fieldPlace]
theorem OB : Gi Tryz.prog 140 57 1 (.slice none 0 0) 24 := Gi.mk' Tryz.underlying140 (by kernel_rfl) rfl (by decide)
theorem Bp : Gi Tryz.prog 22 3 1 (.int .i64 0) 8 := Gi.mk' Tryz.underlying22 (by kernel_rfl) rfl (by decide)
theorem Fm : Gi Tryz.prog 23 22 1 (.slice none 0 0) 24 := Gi.mk' Tryz.underlying23 (by kernel_rfl) rfl (by decide)
theorem Kj : Gi Tryz.prog 24 35 3 (.agg #[.slice none 0 0, .int .i64 0, .int .i64 0]) 40 := Gi.mk' Tryz.underlying24 (by kernel_rfl) rfl (by decide)
theorem Nj : Gi Tryz.prog 30 29 2 (.agg #[.int .i64 0, .int .i64 0]) 16 := Gi.mk' Tryz.underlying30 (by kernel_rfl) rfl (by decide)
theorem RM : Gi Tryz.prog 36 33 1 (.pointer none) 8 := Gi.mk' Tryz.underlying36 (by kernel_rfl) rfl (by decide)
theorem HR : Gi Tryz.prog 41 32 2 (.agg #[.int .i64 0, .int .i64 0]) 16 := Gi.mk' Tryz.underlying41 (by kernel_rfl) rfl (by decide)
theorem OV : Gi Tryz.prog 48 110 3 (.agg #[.slice none 0 0, .int .i64 0, .int .i64 0]) 40 := Gi.mk' Tryz.underlying48 (by kernel_rfl) rfl (by decide)
theorem Iq : Gi Tryz.prog 57 56 2 (.agg #[.int .i64 0, .int .i64 0]) 16 := Gi.mk' Tryz.underlying57 (by kernel_rfl) rfl (by decide)
theorem Qu : Gi Tryz.prog 72 127 2 (.agg #[.int .i64 0, .int .i64 0]) 16 := Gi.mk' Tryz.underlying72 (by kernel_rfl) rfl (by decide)
theorem LM : LW Tryz.prog 163 (vA (cP (cI .i64) (cI .i64))) := by
  refine Ou (by kernel_rfl) (fun x y w => ?_) (fun b k w => ?_) (fun k => ?_)
  · obtain ⟨x0, x1⟩ := x; obtain ⟨y0, y1⟩ := y
    exact (MA (RS x0 x1 y0 y1 w)).trans (by simp)
  · obtain ⟨k0, k1⟩ := k
    have key : ∀ n, (Instr.checkKey b (n + 2) 163 (.agg #[.int .i64 k0, .int .i64 k1])).run Tryz.prog w = .ok () w := fun n => by
      simp [Instr.checkKey, run_underlying Tryz.underlying163, part, go_sem, Tryz.isAgg3, run_underlying Tryz.underlying3]
    exact key 9998
  · obtain ⟨k0, k1⟩ := k; simp [vA, cP, cI, Instr.sameBits]
theorem O9 : (⟨#[0, 1, 2, 2, 3, 3, 3, 3, 4, 4, 4, 4, 4, 4, 4, 4, 5, 5, 5, 5, 5, 5, 5, 5, 5, 5, 5, 5, 5, 5, 5, 5, 6, 6, 6, 6, 6, 6, 6, 6, 6, 6, 6, 6, 6, 6, 6, 6, 6, 6, 6, 6, 6, 6, 6, 6, 6, 6, 6, 6, 6, 6, 6, 6, 7, 7, 7, 7, 7, 7, 7, 7, 7, 7, 7, 7, 7, 7, 7, 7, 7, 7, 7, 7, 7, 7, 7, 7, 7, 7, 7, 7, 7, 7, 7, 7, 7, 7, 7, 7, 7, 7, 7, 7, 7, 7, 7, 7, 7, 7, 7, 7, 7, 7, 7, 7, 7, 7, 7, 7, 7, 7, 7, 7, 7, 7, 7, 7, 8, 8, 8, 8, 8, 8, 8, 8, 8, 8, 8, 8, 8, 8, 8, 8, 8, 8, 8, 8, 8, 8, 8, 8, 8, 8, 8, 8, 8, 8, 8, 8, 8, 8, 8, 8, 8, 8, 8, 8, 8, 8, 8, 8, 8, 8, 8, 8, 8, 8, 8, 8, 8, 8, 8, 8, 8, 8, 8, 8, 8, 8, 8, 8, 8, 8, 8, 8, 8, 8, 8, 8, 8, 8, 8, 8, 8, 8, 8, 8, 8, 8, 8, 8, 8, 8, 8, 8, 8, 8, 8, 8, 8, 8, 8, 8, 8, 8, 8, 8, 8, 8, 8, 8, 8, 8, 8, 8, 8, 8, 8, 8, 8, 8, 8, 8, 8, 8, 8, 8, 8, 8, 8, 8, 8, 8, 8, 8]⟩ : ByteArray) = sB PB := by kernel_rfl
theorem Pk : ∀ x ∈ PB, 0 ≤ x ∧ x < 256 := by decide +kernel
end Go.Proofs.YtbeeigejcihadaaGreat
