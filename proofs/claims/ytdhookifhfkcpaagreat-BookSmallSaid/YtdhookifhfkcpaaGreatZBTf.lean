/- Facts on types, printed by a program of mine. -/
import Derived.Test.YtdhookifhfkcpaaGreatProg
import Derived.Test.YtdhookifhfkcpaaGreatZBShW
import Derived.Test.YtdhookifhfkcpaaGreatZBTd
namespace Go.Proofs.YtdhookifhfkcpaaGreat
open Go.SH Go.PL
theorem LF {α : Type} {xs : List α} (h : xs.length = 24) : ∃ a0 a1 a2 a3 a4 a5 a6 a7 a8 a9 aa ab ad ae ah ai aj ak al ao aq ar au av, xs = [a0, a1, a2, a3, a4, a5, a6, a7, a8, a9, aa, ab, ad, ae, ah, ai, aj, ak, al, ao, aq, ar, au, av] := by
  obtain ⟨a0, xs, rfl, h0⟩ := GV h
  obtain ⟨a1, xs, rfl, h1⟩ := GV h0
  obtain ⟨a2, xs, rfl, h2⟩ := GV h1
  obtain ⟨a3, xs, rfl, h3⟩ := GV h2
  obtain ⟨a4, xs, rfl, h4⟩ := GV h3
  obtain ⟨a5, xs, rfl, h5⟩ := GV h4
  obtain ⟨a6, xs, rfl, h6⟩ := GV h5
  obtain ⟨a7, xs, rfl, h7⟩ := GV h6
  obtain ⟨a8, xs, rfl, h8⟩ := GV h7
  obtain ⟨a9, xs, rfl, h9⟩ := GV h8
  obtain ⟨aa, xs, rfl, aw⟩ := GV h9
  obtain ⟨ab, xs, rfl, ax⟩ := GV aw
  obtain ⟨ad, xs, rfl, ay⟩ := GV ax
  obtain ⟨ae, xs, rfl, az⟩ := GV ay
  obtain ⟨ah, xs, rfl, ba⟩ := GV az
  obtain ⟨ai, xs, rfl, bb⟩ := GV ba
  obtain ⟨aj, xs, rfl, bc⟩ := GV bb
  obtain ⟨ak, xs, rfl, bd⟩ := GV bc
  obtain ⟨al, xs, rfl, bg⟩ := GV bd
  obtain ⟨ao, xs, rfl, bh⟩ := GV bg
  obtain ⟨aq, xs, rfl, bj⟩ := GV bh
  obtain ⟨ar, xs, rfl, bk⟩ := GV bj
  obtain ⟨au, xs, rfl, bl⟩ := GV bk
  obtain ⟨av, xs, rfl, bm⟩ := GV bl
  obtain rfl := SM bm
  exact ⟨a0, a1, a2, a3, a4, a5, a6, a7, a8, a9, aa, ab, ad, ae, ah, ai, aj, ak, al, ao, aq, ar, au, av, rfl⟩
theorem Ry : ∀ x y a b w, (eqGuard .neq 32 x y (.agg a) (.agg b)).run Tryz.prog w = .ok () w := by intros; simp [eqGuard, go_sem]
theorem eq_32 : ∀ (x0 x1 x2 y0 y1 y2 : Int) w, (binOp .eql 32 (.agg #[.int .i64 x0, .int .i64 x1, .int .i64 x2]) (.agg #[.int .i64 y0, .int .i64 y1, .int .i64 y2])).run Tryz.prog w = .ok (.bool (decide (x0 = y0 ∧ x1 = y1 ∧ x2 = y2))) w := by
  intro x0 x1 x2 y0 y1 y2 w
  have hu : Tryz.prog.underlying 32 = some (.struct (Tryz.prog.fieldsOf 32)) := by rw [Program.fieldsOf, Tryz.underlying32]
  have hp : Tryz.prog.stoodInHeld 32 = false := by kernel_rfl
  have hf : (Tryz.prog.fieldsOf 32).toList = [{ name := "Hour", type := 3, offset := 0, embedded := false, tag := "", pkgPath := "", byteOffset := 0 }, { name := "Stand", type := 3, offset := 1, embedded := false, tag := "", pkgPath := "", byteOffset := 8 }, { name := "Notice", type := 3, offset := 2, embedded := false, tag := "", pkgPath := "", byteOffset := 16 }] := by rw [Program.fieldsOf, Tryz.underlying32]
  simp only [binOp, Op.equal, Op.maxDepth, Sem.run_bind, run_equalIn_struct w 9999 32 _ _ hu hp, hf]
  simp (config := {decide := true}) [Op.eqFields, part, go_sem, Tryz.isAgg3]
  by_cases h0 : x0 = y0 <;> by_cases h1 : x1 = y1 <;> by_cases h2 : x2 = y2 <;> simp [h0, h1, h2, go_sem]
def Mq (k : List Bool) : Prop := k.length = 24
def MQ (k : List Bool) : List Lit := k.map Lit.bool
theorem Sf (k : List Bool) (h : Mq k) : ((fun k : List Bool => Value.agg (arr cB k)) k).formed Tryz.prog 128 = true := by unfold Mq at h; obtain ⟨aw, ax, ay, az, ba, bb, bc, bd, bg, bh, aa, ab, ad, ae, ah, ai, aj, ak, al, ao, aq, ar, au, av, rfl⟩ := LF h; kernel_rfl
theorem Se (k : List Bool) (h : Mq k) : Tryz.prog.keyLits 10 128 ((fun k : List Bool => Value.agg (arr cB k)) k).cells.toList = some (MQ k) := by unfold Mq at h; obtain ⟨aw, ax, ay, az, ba, bb, bc, bd, bg, bh, aa, ab, ad, ae, ah, ai, aj, ak, al, ao, aq, ar, au, av, rfl⟩ := LF h; kernel_rfl
theorem Sq (x y : List Bool) (h : MQ x = MQ y) : x = y := by
  unfold MQ at h
  exact K4 h
theorem RJ (x y : List Bool) (gx : Mq x) (gy : Mq y) (w : World) : (Op.equal 128 ((fun k : List Bool => Value.agg (arr cB k)) x) ((fun k : List Bool => Value.agg (arr cB k)) y)).run Tryz.prog w = .ok (decide (x = y)) w := OQ (G := Mq) (ek := (fun k : List Bool => Value.agg (arr cB k))) (lits := MQ) (m := 10) (D := 10) (by kernel_rfl) (by decide) Sf Se Sq gx gy w
theorem RC : ∀ x y a b w, (eqGuard .eql 128 x y (.agg a) (.agg b)).run Tryz.prog w = .ok () w := by intros; simp [eqGuard, go_sem]
def Oa (k : Int × Int × Bool) : Prop := Cn k.1 ∧ Cn k.2.1
def Nl (k : Int × Int × Bool) : List Lit := [Lit.int .i64 k.1] ++ ([Lit.int .i64 k.2.1] ++ ([Lit.bool k.2.2]))
theorem SO (k : Int × Int × Bool) (h : Oa k) : ((vA (cP (cI .i64) (cP (cI .i64) cB))) k).formed Tryz.prog 29 = true := by unfold Oa at h; obtain ⟨h0, h1⟩ := h; obtain ⟨x0, x1, x2⟩ := k; kernel_rfl
theorem SE (k : Int × Int × Bool) (h : Oa k) : Tryz.prog.keyLits 10 29 ((vA (cP (cI .i64) (cP (cI .i64) cB))) k).cells.toList = some (Nl k) := by unfold Oa at h; obtain ⟨h0, h1⟩ := h; obtain ⟨x0, x1, x2⟩ := k; exact J9 (ls := [[Lit.int .i64 x0], [Lit.int .i64 x1], [Lit.bool x2]]) Tryz.underlying29 (by kernel_rfl) (by kernel_rfl) (.cons (Ir (l := [.int .i64 x0]) (by kernel_rfl) (JF Tryz.underlying3 (Sk h0))) (.cons (Ir (l := [.int .i64 x1]) (by kernel_rfl) (JF Tryz.underlying3 (Sk h1))) (.cons (Ir (l := [.bool x2]) (by kernel_rfl) ((by kernel_rfl))) .nil))) (by simp [Nl])
theorem SN (x y : Int × Int × Bool) (h : Nl x = Nl y) : x = y := by
  obtain ⟨x0, x1, x2⟩ := x; obtain ⟨y0, y1, y2⟩ := y
  unfold Nl at h
  have e0 := (fun q => (Lit.int.inj q).2) (List.cons.inj h).1
  have t0 := (List.cons.inj h).2
  have e1 := (fun q => (Lit.int.inj q).2) (List.cons.inj t0).1
  have t1 := (List.cons.inj t0).2
  have e2 := Lit.bool.inj (List.cons.inj t1).1
  subst e0 e1 e2; rfl
theorem QU (x y : Int × Int × Bool) (gx : Oa x) (gy : Oa y) (w : World) : (Op.equal 29 ((vA (cP (cI .i64) (cP (cI .i64) cB))) x) ((vA (cP (cI .i64) (cP (cI .i64) cB))) y)).run Tryz.prog w = .ok (decide (x = y)) w := OQ (G := Oa) (ek := (vA (cP (cI .i64) (cP (cI .i64) cB)))) (lits := Nl) (m := 10) (D := 10) (by kernel_rfl) (by decide) SO SE SN gx gy w
theorem R3 : ∀ x y a b w, (eqGuard .eql 29 x y (.agg a) (.agg b)).run Tryz.prog w = .ok () w := by intros; simp [eqGuard, go_sem]
theorem Rw : ∀ x y a b w, (eqGuard .neq 29 x y (.agg a) (.agg b)).run Tryz.prog w = .ok () w := by intros; simp [eqGuard, go_sem]
theorem Pp : ∀ a w, (Instr.fieldAt 110 (.pointer (some a)) 0).run Tryz.prog w = .ok (.pointer (some (a.add 0))) w := by intro a w; simp [Instr.fieldAt, go_sem, Instr.sureAddr, fieldPlace]
theorem Px : ∀ a w, (Instr.fieldAt 110 (.pointer (some a)) 1).run Tryz.prog w = .ok (.pointer (some (a.add 1))) w := by intro a w; simp [Instr.fieldAt, go_sem, Instr.sureAddr, fieldPlace]
theorem Pn : ∀ a w, (Instr.fieldAt 110 (.pointer (some a)) 2).run Tryz.prog w = .ok (.pointer (some (a.add 2))) w := by intro a w; simp [Instr.fieldAt, go_sem, Instr.sureAddr, fieldPlace]
theorem GA : ∀ a w, (Instr.fieldAt 119 (.pointer (some a)) 0).run Tryz.prog w = .ok (.pointer (some (a.add 0))) w := by intro a w; simp [Instr.fieldAt, go_sem, Instr.sureAddr, fieldPlace]
theorem Lv : ∀ a w, (Instr.fieldAt 135 (.pointer (some a)) 0).run Tryz.prog w = .ok (.pointer (some (a.add 0))) w := by intro a w; simp [Instr.fieldAt, go_sem, Instr.sureAddr, fieldPlace]
theorem Rm : ∀ a w, (Instr.fieldAt 135 (.pointer (some a)) 1).run Tryz.prog w = .ok (.pointer (some (a.add 24))) w := by intro a w; simp [Instr.fieldAt, go_sem, Instr.sureAddr, fieldPlace]
theorem PC : ∀ a w, (Instr.fieldAt 136 (.pointer (some a)) 0).run Tryz.prog w = .ok (.pointer (some (a.add 0))) w := by intro a w; simp [Instr.fieldAt, go_sem, Instr.sureAddr, fieldPlace]
theorem PD : ∀ a w, (Instr.fieldAt 136 (.pointer (some a)) 1).run Tryz.prog w = .ok (.pointer (some (a.add 1))) w := by intro a w; simp [Instr.fieldAt, go_sem, Instr.sureAddr, fieldPlace]
theorem Rj : ∀ a w, (Instr.fieldAt 136 (.pointer (some a)) 2).run Tryz.prog w = .ok (.pointer (some (a.add 2))) w := by intro a w; simp [Instr.fieldAt, go_sem, Instr.sureAddr, fieldPlace]
theorem Rk : ∀ a w, (Instr.fieldAt 144 (.pointer (some a)) 0).run Tryz.prog w = .ok (.pointer (some (a.add 0))) w := by intro a w; simp [Instr.fieldAt, go_sem, Instr.sureAddr, fieldPlace]
theorem Q8 : ∀ a w, (Instr.fieldAt 172 (.pointer (some a)) 0).run Tryz.prog w = .ok (.pointer (some (a.add 0))) w := by intro a w; simp [Instr.fieldAt, go_sem, Instr.sureAddr, fieldPlace]
theorem NZ : ∀ a w, (Instr.fieldAt 172 (.pointer (some a)) 1).run Tryz.prog w = .ok (.pointer (some (a.add 1))) w := by intro a w; simp [Instr.fieldAt, go_sem, Instr.sureAddr, fieldPlace]
theorem MD : ∀ a w, (Instr.fieldAt 174 (.pointer (some a)) 0).run Tryz.prog w = .ok (.pointer (some (a.add 0))) w := by intro a w; simp [Instr.fieldAt, go_sem, Instr.sureAddr, fieldPlace]
theorem PI : ∀ a w, (Instr.fieldAt 174 (.pointer (some a)) 1).run Tryz.prog w = .ok (.pointer (some (a.add 25))) w := by intro a w; simp [Instr.fieldAt, go_sem, Instr.sureAddr, fieldPlace]
theorem Js : ∀ a w, (Instr.fieldAt 26 (.pointer (some a)) 0).run Tryz.prog w = .ok (.pointer (some (a.add 0))) w := by intro a w; simp [Instr.fieldAt, go_sem, Instr.sureAddr, fieldPlace]
theorem Iy : ∀ a w, (Instr.fieldAt 26 (.pointer (some a)) 1).run Tryz.prog w = .ok (.pointer (some (a.add 1))) w := by intro a w; simp [Instr.fieldAt, go_sem, Instr.sureAddr, fieldPlace]
theorem CC : ∀ a w, (Instr.fieldAt 26 (.pointer (some a)) 2).run Tryz.prog w = .ok (.pointer (some (a.add 2))) w := by intro a w; simp [Instr.fieldAt, go_sem, Instr.sureAddr, fieldPlace]
theorem CB : ∀ a w, (Instr.fieldAt 26 (.pointer (some a)) 3).run Tryz.prog w = .ok (.pointer (some (a.add 3))) w := by intro a w; simp [Instr.fieldAt, go_sem, Instr.sureAddr, fieldPlace]
theorem Dv : ∀ a w, (Instr.fieldAt 26 (.pointer (some a)) 4).run Tryz.prog w = .ok (.pointer (some (a.add 4))) w := by intro a w; simp [Instr.fieldAt, go_sem, Instr.sureAddr, fieldPlace]
theorem O2 : ∀ a w, (Instr.fieldAt 29 (.pointer (some a)) 0).run Tryz.prog w = .ok (.pointer (some (a.add 0))) w := by intro a w; simp [Instr.fieldAt, go_sem, Instr.sureAddr, fieldPlace]
theorem Qo : ∀ a w, (Instr.fieldAt 29 (.pointer (some a)) 1).run Tryz.prog w = .ok (.pointer (some (a.add 1))) w := by intro a w; simp [Instr.fieldAt, go_sem, Instr.sureAddr, fieldPlace]
theorem RK : ∀ a w, (Instr.fieldAt 29 (.pointer (some a)) 2).run Tryz.prog w = .ok (.pointer (some (a.add 2))) w := by intro a w; simp [Instr.fieldAt, go_sem, Instr.sureAddr, fieldPlace]
theorem O6 : ∀ a w, (Instr.fieldAt 32 (.pointer (some a)) 0).run Tryz.prog w = .ok (.pointer (some (a.add 0))) w := by intro a w; simp [Instr.fieldAt, go_sem, Instr.sureAddr, fieldPlace]
theorem OH : ∀ a w, (Instr.fieldAt 32 (.pointer (some a)) 1).run Tryz.prog w = .ok (.pointer (some (a.add 1))) w := by intro a w; simp [Instr.fieldAt, go_sem, Instr.sureAddr, fieldPlace]
theorem OI : ∀ a w, (Instr.fieldAt 32 (.pointer (some a)) 2).run Tryz.prog w = .ok (.pointer (some (a.add 2))) w := by intro a w; simp [Instr.fieldAt, go_sem, Instr.sureAddr, fieldPlace]
theorem KU : ∀ a w, (Instr.fieldAt 50 (.pointer (some a)) 0).run Tryz.prog w = .ok (.pointer (some (a.add 0))) w := by intro a w; simp [Instr.fieldAt, go_sem, Instr.sureAddr, fieldPlace]
theorem MX : ∀ a w, (Instr.fieldAt 50 (.pointer (some a)) 1).run Tryz.prog w = .ok (.pointer (some (a.add 1))) w := by intro a w; simp [Instr.fieldAt, go_sem, Instr.sureAddr, fieldPlace]
theorem Jv : ∀ a w, (Instr.fieldAt 50 (.pointer (some a)) 2).run Tryz.prog w = .ok (.pointer (some (a.add 2))) w := by intro a w; simp [Instr.fieldAt, go_sem, Instr.sureAddr, fieldPlace]
theorem Iq : ∀ a w, (Instr.fieldAt 50 (.pointer (some a)) 3).run Tryz.prog w = .ok (.pointer (some (a.add 3))) w := by intro a w; simp [Instr.fieldAt, go_sem, Instr.sureAddr, fieldPlace]
theorem IA : ∀ a w, (Instr.fieldAt 50 (.pointer (some a)) 4).run Tryz.prog w = .ok (.pointer (some (a.add 4))) w := by intro a w; simp [Instr.fieldAt, go_sem, Instr.sureAddr, fieldPlace]
theorem Qg {xs : List Int} (hn : xs.length = 8) {i : Int} (g : 0 ≤ i ∧ i < (xs.length : Int)) {x : Int} (hx : xs[i.toNat]? = some x) : ∀ w, (Instr.index 121 (.agg (arr (cI .i64) xs)) (.int .i64 i)).run Tryz.prog w = .ok ((Value.int .i64) x) w := R2 Tryz.underlying121 (fun _ => rfl) Tryz.isAgg3 Tryz.sizeOf3 hn g hx
theorem Rv : EN Tryz.prog 123 121 8 (.agg #[.int .i64 0, .int .i64 0, .int .i64 0, .int .i64 0, .int .i64 0, .int .i64 0, .int .i64 0, .int .i64 0]) 64 := EN.mk' Tryz.underlying123 (by kernel_rfl) rfl (by decide)
theorem OG : EN Tryz.prog 131 135 25 (.agg #[.bool false, .bool false, .bool false, .bool false, .bool false, .bool false, .bool false, .bool false, .bool false, .bool false, .bool false, .bool false, .bool false, .bool false, .bool false, .bool false, .bool false, .bool false, .bool false, .bool false, .bool false, .bool false, .bool false, .bool false, .slice none 0 0]) 48 := EN.mk' Tryz.underlying131 (by kernel_rfl) rfl (by decide)
theorem Qj : EN Tryz.prog 169 174 26 (.agg #[.int .i64 0, .bool false, .bool false, .bool false, .bool false, .bool false, .bool false, .bool false, .bool false, .bool false, .bool false, .bool false, .bool false, .bool false, .bool false, .bool false, .bool false, .bool false, .bool false, .bool false, .bool false, .bool false, .bool false, .bool false, .bool false, .slice none 0 0]) 56 := EN.mk' Tryz.underlying169 (by kernel_rfl) rfl (by decide)
theorem Bm : EN Tryz.prog 22 3 1 (.int .i64 0) 8 := EN.mk' Tryz.underlying22 (by kernel_rfl) rfl (by decide)
theorem LI : EN Tryz.prog 23 34 1 (.slice none 0 0) 24 := EN.mk' Tryz.underlying23 (by kernel_rfl) rfl (by decide)
theorem H7 : EN Tryz.prog 24 32 3 (.agg #[.int .i64 0, .int .i64 0, .int .i64 0]) 24 := EN.mk' Tryz.underlying24 (by kernel_rfl) rfl (by decide)
theorem K8 : EN Tryz.prog 30 29 3 (.agg #[.int .i64 0, .int .i64 0, .bool false]) 24 := EN.mk' Tryz.underlying30 (by kernel_rfl) rfl (by decide)
theorem FI : EN Tryz.prog 34 22 1 (.slice none 0 0) 24 := EN.mk' Tryz.underlying34 (by kernel_rfl) rfl (by decide)
theorem Sa : EN Tryz.prog 35 33 1 (.pointer none) 8 := EN.mk' Tryz.underlying35 (by kernel_rfl) rfl (by decide)
theorem Nq : EN Tryz.prog 48 110 3 (.agg #[.int .i64 0, .int .i64 0, .int .i64 0]) 24 := EN.mk' Tryz.underlying48 (by kernel_rfl) rfl (by decide)
theorem Rn : EN Tryz.prog 74 77 1 (.slice none 0 0) 24 := EN.mk' Tryz.underlying74 (by kernel_rfl) rfl (by decide)
theorem OY : EN Tryz.prog 77 78 1 (.int .i64 0) 8 := EN.mk' Tryz.underlying77 (by kernel_rfl) rfl (by decide)
theorem OZ : EN Tryz.prog 80 136 3 (.agg #[.int .i64 0, .int .i64 0, .bool false]) 24 := EN.mk' Tryz.underlying80 (by kernel_rfl) rfl (by decide)
def HA (k : Int × (List Bool)) : Prop := Cn k.1 ∧ k.2.length = 24
def LN (k : Int × (List Bool)) : List Lit := [Lit.int .i64 k.1] ++ (k.2.map Lit.bool)
theorem Sh (k : Int × (List Bool)) (h : HA k) : ((vA (cP (cI .i64) (cA cB))) k).formed Tryz.prog 172 = true := by unfold HA at h; obtain ⟨h0, h1⟩ := h; obtain ⟨x0, x1⟩ := k; obtain ⟨aw, ax, ay, az, ba, bb, bc, bd, bg, bh, aa, ab, ad, ae, ah, ai, aj, ak, al, ao, aq, ar, au, av, rfl⟩ := LF h1; kernel_rfl
theorem Sb (k : Int × (List Bool)) (h : HA k) : Tryz.prog.keyLits 10 172 ((vA (cP (cI .i64) (cA cB))) k).cells.toList = some (LN k) := by unfold HA at h; obtain ⟨h0, h1⟩ := h; obtain ⟨x0, x1⟩ := k; obtain ⟨aw, ax, ay, az, ba, bb, bc, bd, bg, bh, aa, ab, ad, ae, ah, ai, aj, ak, al, ao, aq, ar, au, av, rfl⟩ := LF h1; exact J9 (ls := [[Lit.int .i64 x0], [Lit.bool aw, Lit.bool ax, Lit.bool ay, Lit.bool az, Lit.bool ba, Lit.bool bb, Lit.bool bc, Lit.bool bd, Lit.bool bg, Lit.bool bh, Lit.bool aa, Lit.bool ab, Lit.bool ad, Lit.bool ae, Lit.bool ah, Lit.bool ai, Lit.bool aj, Lit.bool ak, Lit.bool al, Lit.bool ao, Lit.bool aq, Lit.bool ar, Lit.bool au, Lit.bool av]]) Tryz.underlying172 (by kernel_rfl) (by kernel_rfl) (.cons (Ir (l := [.int .i64 x0]) (by kernel_rfl) (JF Tryz.underlying3 (Sk h0))) (.cons (Ir (l := [.bool aw, .bool ax, .bool ay, .bool az, .bool ba, .bool bb, .bool bc, .bool bd, .bool bg, .bool bh, .bool aa, .bool ab, .bool ad, .bool ae, .bool ah, .bool ai, .bool aj, .bool ak, .bool al, .bool ao, .bool aq, .bool ar, .bool au, .bool av]) (by kernel_rfl) ((by kernel_rfl))) .nil)) (by simp [LN])
theorem Sc (k : Int × (List Bool)) (h : HA k) : Instr.sameBits 10000 ((vA (cP (cI .i64) (cA cB))) k) ((vA (cP (cI .i64) (cA cB))) k) = true := by unfold HA at h; obtain ⟨h0, h1⟩ := h; obtain ⟨x0, x1⟩ := k; obtain ⟨aw, ax, ay, az, ba, bb, bc, bd, bg, bh, aa, ab, ad, ae, ah, ai, aj, ak, al, ao, aq, ar, au, av, rfl⟩ := LF h1; simp [vA, cP, cI, cB, cA, Instr.sameBits]
theorem Sj (x y : Int × (List Bool)) (h : LN x = LN y) : x = y := by
  obtain ⟨x0, x1⟩ := x; obtain ⟨y0, y1⟩ := y
  unfold LN at h
  have e0 := (fun q => (Lit.int.inj q).2) (List.cons.inj h).1
  have t0 := (List.cons.inj h).2
  have e1 := K4 t0
  subst e0 e1; rfl
theorem Qs : OS Tryz.prog 172 HA (vA (cP (cI .i64) (cA cB))) := Ps (lits := LN) (m := 10) (D := 10) (by kernel_rfl) (by kernel_rfl) (by decide) Sh Sb Sj Sc
end Go.Proofs.YtdhookifhfkcpaaGreat
