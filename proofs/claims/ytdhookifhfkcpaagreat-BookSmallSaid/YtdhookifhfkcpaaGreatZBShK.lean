/- The calculus, part K: regions that draw their order, with operations that turn the state. The walk goes in one order; it serves all. -/
import Derived.Test.YtdhookifhfkcpaaGreatZBShJ
namespace Go.SH
theorem JP {Fe : Fence} {n : Nat} {P : Program} {o : Oper} {a : Act} {w : World} {next next' : Act → World → Prop} {Q Q' : Exit → Act → World → Prop}
    (hn : ∀ a' w', next a' w' → (∃ v, a'.tmps = (a.put o.dst v).tmps) → next' a' w') (hq : ∀ e a w, Q e a w → e = .normal) (h : o.wpIn Fe n P a w next Q) : o.wpIn Fe n P a w next' Q' := by
  have aa : LetsOut Q → LetsOut Q' := fun ⟨a, w, h⟩ => by cases hq _ _ _ h
  unfold Oper.wpIn at h ⊢
  refine ⟨h.1, ?_⟩
  have h2 := h.2
  unfold Oper.uponIn at h2 ⊢
  split at h2
  · exact hn _ _ h2 ⟨_, rfl⟩
  · exact hn _ _ h2 ⟨_, rfl⟩
  · exact hn _ _ h2 ⟨undef, by cases o.dst <;> rfl⟩
  · exact ⟨h2.1, h2.2.mono fun e w' hR => by cases e <;> first | exact hn _ _ hR ⟨_, rfl⟩ | cases hq _ _ _ hR | exact aa hR⟩
  · exact ⟨h2.1, h2.2.mono fun v w h => hn _ _ h ⟨_, rfl⟩⟩
  · exact ⟨h2.1, h2.2.mono fun e w' hR => by cases e <;> first | exact hn _ _ hR ⟨_, rfl⟩ | cases hq _ _ _ hR | exact aa hR⟩
  · cases hq _ _ _ h2
  · exact h2
inductive Kd
  | still
  | alloc (z : Obj) (val : Nat → Value) (ek : Env)
  | seq
  | pre
def Kd.Dr : Kd → Bool
  | .alloc _ _ _ => true
  | _ => false
def Kd.JY : Kd → Bool
  | .pre => true
  | _ => false
def Kd.RU : Kd → Bool
  | .seq => true
  | _ => false
def Kd.keys : Kd → List Nat
  | .alloc _ _ ek => ek.map Prod.fst
  | _ => []
def Kd.ON : Kd → Bool
  | .still => true
  | _ => false
def KW (ops : Array Oper) (i : Nat) : List Nat := match ops[i]? with
  | some o => (o.after.toList.filter (Region.binds .any)).map (·.on)
  | none => []
def DY (ops : Array Oper) (i : Nat) : Option Nat := (ops[i]?).bind (·.dst)
theorem mem_ready {ops : Array Oper} {A : Array Bool} {i : Nat} : i ∈ Region.ready .any ops A ↔ i < ops.size ∧ A.getD i true = false ∧ ∀ j ∈ KW ops i, A.getD j false = true := by
  unfold Region.ready KW
  simp only [List.mem_filter, List.mem_range, Bool.and_eq_true, Bool.not_eq_true']
  constructor
  · rintro ⟨h1, h2, h3⟩
    refine ⟨h1, h2, fun j hj => ?_⟩
    have ho : ops[i]? = some ops[i] := Array.getElem?_eq_getElem h1
    rw [ho] at h3 hj
    simp only [Option.map_some, Option.getD_some, Array.all_eq_true_iff_forall_mem] at h3
    simp only [List.mem_map, List.mem_filter, Array.mem_toList_iff] at hj
    obtain ⟨e, ⟨he, hb⟩, rfl⟩ := hj
    have := h3 e he
    simpa [hb] using this
  · rintro ⟨h1, h2, h3⟩
    refine ⟨h1, h2, ?_⟩
    have ho : ops[i]? = some ops[i] := Array.getElem?_eq_getElem h1
    rw [ho] at h3 ⊢
    simp only [Option.map_some, Option.getD_some, Array.all_eq_true_iff_forall_mem]
    intro e he
    cases hb : Region.binds .any e with
    | false => simp
    | true =>
      simp only [Bool.not_true, Bool.false_or]
      refine h3 _ ?_
      simp only [List.mem_map, List.mem_filter, Array.mem_toList_iff]
      exact ⟨e, ⟨he, hb⟩, rfl⟩
def JN (ops : Array Oper) : List (Kd × Nat) → List Nat → Bool
  | [], seen => (List.range ops.size).all seen.contains
  | (kd, i) :: l, seen => Nat.blt i ops.size && ((KW ops i).all seen.contains && ((!kd.RU || l.all fun y => match DY ops i with | some d => !y.1.keys.contains d | none => true) &&
    ((kd.ON || (kd.JY || l.all fun y => y.1.Dr || (KW ops y.2).any fun d => d == i || l.any fun x => !x.1.Dr && x.2 == d)) &&
    ((kd.JY || l.all (fun y => !y.1.Dr || !(DY ops y.2 == DY ops i))) && ((kd.JY || l.all (fun y => !(y.2 == i))) && JN ops l (if kd.JY then seen else i :: seen))))))
structure R4 (ops : Array Oper) (kd : Kd) (i : Nat) (l : List (Kd × Nat)) (seen : List Nat) : Prop where
  lt : i < ops.size
  KW : ∀ j ∈ KW ops i, j ∈ seen
  ks : kd.RU = true → ∀ y ∈ l, ∀ d, DY ops i = some d → d ∉ y.1.keys
  blocked : kd.ON = false → kd.JY = false → ∀ y ∈ l, y.1.Dr = false → ∃ d ∈ Go.SH.KW ops y.2, d = i ∨ ∃ x ∈ l, x.1.Dr = false ∧ x.2 = d
  dst : kd.JY = false → ∀ y ∈ l, y.1.Dr = true → DY ops y.2 ≠ DY ops i
  ne : kd.JY = false → ∀ y ∈ l, y.2 ≠ i
  next : JN ops l (if kd.JY then seen else i :: seen) = true
theorem FF {ops : Array Oper} {kd : Kd} {i : Nat} {l : List (Kd × Nat)} {seen : List Nat} (h : JN ops ((kd, i) :: l) seen = true) : R4 ops kd i l seen := by
  simp only [JN, Bool.and_eq_true] at h
  obtain ⟨h1, h2, h3, h4, h5, h7, h6⟩ := h
  refine ⟨by simpa using h1, fun j hj => ?_, fun hk y hy d hd => ?_, fun hk aa y hy ab => ?_, fun aa y hy ab => ?_, fun aa y hy => ?_, h6⟩
  · simpa using List.all_eq_true.1 h2 j hj
  · rw [hk, hd] at h3
    simp only [Bool.not_true, Bool.false_or] at h3
    simpa using List.all_eq_true.1 h3 y hy
  · rw [hk, aa] at h4
    simp only [Bool.false_or] at h4
    have := List.all_eq_true.1 h4 y hy
    rw [ab] at this
    simp only [Bool.false_or, List.any_eq_true, Bool.or_eq_true, beq_iff_eq, Bool.and_eq_true, Bool.not_eq_true'] at this
    exact this
  · rw [aa] at h5
    simp only [Bool.false_or] at h5
    have := List.all_eq_true.1 h5 y hy
    rw [ab] at this
    simpa using this
  · rw [aa] at h7
    simp only [Bool.false_or] at h7
    simpa using List.all_eq_true.1 h7 y hy
theorem I8 {A : Array Bool} {i : Nat} (h : i < A.size) : A.getD i true = A.getD i false := by simp [Array.getD, h]
theorem K6 {ops : Array Oper} {A : Array Bool} (aa : A.size = ops.size) (hr : Region.ready .any ops A = []) : ∀ (l : List (Kd × Nat)) (seen : List Nat), JN ops l seen = true → (∀ i ∈ seen, i < ops.size ∧ A.getD i true = true) → ∀ i, i < ops.size → A.getD i true = true
  | [], seen, h, hs, i, hi => by
    simp only [JN, List.all_eq_true, List.mem_range] at h
    exact (hs i (by simpa using h i hi)).2
  | (kd, i0) :: l, seen, h, hs, i, hi => by
    have ho := FF h
    cases hkp : kd.JY with
    | true => exact K6 aa hr l seen (by have := ho.next; rwa [hkp] at this) hs i hi
    | false =>
    refine K6 aa hr l (i0 :: seen) (by have := ho.next; rwa [hkp] at this) (fun j hj => ?_) i hi
    rcases List.mem_cons.1 hj with rfl | hj
    · refine ⟨ho.lt, ?_⟩
      cases hA : A.getD j true with
      | true => rfl
      | false =>
        have hm : j ∈ Region.ready .any ops A := mem_ready.2 ⟨ho.lt, hA, fun d hd => by
          obtain ⟨h1, h2⟩ := hs d (ho.KW d hd)
          rw [← I8 (by omega)]; exact h2⟩
        rw [hr] at hm; simp at hm
    · exact hs j hj
def R8 (A : Array Bool) (n : Nat) : Nat := ((List.range n).filter fun i => !A.getD i true).length
theorem KP {A : Array Bool} {i j : Nat} (hi : i < A.size) : (A.setIfInBounds i true).getD j true = if i = j then true else A.getD j true := by
  simp only [Array.getD_eq_getD_getElem?, Array.getElem?_setIfInBounds]
  split
  · simp
  · rfl
theorem OM {A : Array Bool} {n i : Nat} (hn : A.size = n) (hi : i < n) (h : A.getD i true = false) : R8 (A.setIfInBounds i true) n < R8 A n := by
  unfold R8
  have hle : ∀ l : List Nat, (l.filter fun j => !(A.setIfInBounds i true).getD j true).length ≤ (l.filter fun j => !A.getD j true).length ∧ (i ∈ l → (l.filter fun j => !(A.setIfInBounds i true).getD j true).length < (l.filter fun j => !A.getD j true).length) := by
    intro l
    induction l with
    | nil => simp
    | cons x l ih =>
      rw [List.filter_cons, List.filter_cons, KP (by omega)]
      by_cases hx : i = x
      · subst hx
        simp only [if_true, h, Bool.not_true, Bool.not_false, Bool.false_eq_true, if_false, List.length_cons]
        exact ⟨by have := ih.1; omega, fun _ => by have := ih.1; omega⟩
      · rw [if_neg hx]
        split
        · simp only [List.length_cons]
          exact ⟨by have := ih.1; omega, fun hm => by
            have := ih.2 ((List.mem_cons.1 hm).resolve_left hx); omega⟩
        · exact ⟨ih.1, fun hm => ih.2 ((List.mem_cons.1 hm).resolve_left hx)⟩
  exact (hle _).2 (List.mem_range.2 hi)
structure Rec where
  k : Nat
  o : Oper
  d : Nat
  ek : Env
  v : Value
  F : FS
  Ls : LH
def Still (P : Program) (N : Nat) (K : Ctx) (ops : Array Oper) (o : Oper) (e : Env) (F : FS) (Ls : LH) (v : Value) : Prop :=
  ∀ H M a w F' L', AQ F F' → (∀ p ∈ Ls, p ∈ L') → Ag N M e a → St ⟨K.w0, K.F0, K.X, H⟩ M F' L' w →
    (Region.wanted o (yielded ops a.tmps) = true ∧ (execOp a.eval o).run P w = .ok (.value v) w) ∨ (Region.wanted o (yielded ops a.tmps) = false ∧ v = undef)
def LY (ops : Array Oper) (i : Nat) (ek : Env) (done : List Rec) : Bool := done.all fun rc => !((ek.map Prod.fst).contains rc.d) || (KW ops i).contains rc.k
theorem Env.get_mem {e : Env} {t : Nat} {v : Value} (h : e.get t = some v) : t ∈ e.map Prod.fst := by
  induction e with
  | nil => simp [Env.get] at h
  | cons p e ih =>
    obtain ⟨k, u⟩ := p
    by_cases hk : k = t
    · simp [hk]
    · have hb : Nat.beq k t = false := M7 hk
      simp only [Env.get, hb] at h
      exact List.mem_cons_of_mem _ (ih (by simpa using h))
theorem My {ops : Array Oper} {i : Nat} {ek : Env} {done : List Rec} (h : LY ops i ek done = true) : ∀ rc ∈ done, ∀ u, ek.get rc.d = some u → rc.k ∈ KW ops i := fun rc aa u hu => by
  have := List.all_eq_true.1 h rc aa
  rw [Bool.or_eq_true] at this
  rcases this with h1 | h1
  · have h2 := Env.get_mem hu
    have h3 : (ek.map Prod.fst).contains rc.d = true := List.contains_iff_mem.2 h2
    rw [h3] at h1; cases h1
  · simpa using h1
def Sg (ops : Array Oper) : Nat → List Nat → List Nat
  | 0, l => l
  | f + 1, l => Sg ops f (l ++ l.flatMap (KW ops)).eraseDups
def So (ops : Array Oper) (i : Nat) : List Nat := Sg ops 4 (KW ops i)
theorem Nv {ops : Array Oper} {p : Nat → Prop} (hp : ∀ i, p i → ∀ j ∈ KW ops i, p j) : ∀ (f : Nat) (l : List Nat), (∀ i ∈ l, p i) → ∀ i ∈ Sg ops f l, p i
  | 0, _, h => h
  | f + 1, l, h => Nv hp f _ fun i hi => by
    rw [List.mem_eraseDups] at hi
    rcases List.mem_append.1 hi with hi | hi
    · exact h i hi
    · obtain ⟨j, hj, hi⟩ := List.mem_flatMap.1 hi
      exact hp j (h j hj) i hi
def Nb : List (Kd × Nat) → Nat → Option Env
  | [], _ => none
  | (.alloc _ _ ek, j) :: l, i => if j = i then some ek else Nb l i
  | _ :: l, i => Nb l i
def Q9 (P : Program) (N : Nat) (o : Oper) (ek : Env) (z : Obj) (val : Nat → Value) : Prop := ∀ M a w, Ag N M ek a → (execOp a.eval o).run P w = .ok (.value (val w.heap.size)) (w.alloc z)
def O8 (d : Option Nat) (l : List Rec) : Bool := match d with
  | none => true
  | some d => l.all fun rc => !Nat.beq rc.d d && !(rc.ek.map Prod.fst).contains d
theorem PK {d : Option Nat} {l : List Rec} (h : O8 d l = true) : ∀ rc ∈ l, d ≠ some rc.d ∧ ∀ t u, rc.ek.get t = some u → d ≠ some t := fun rc aa => by
  cases d with
  | none => exact ⟨by simp, by simp⟩
  | some d =>
    have := List.all_eq_true.1 h rc aa
    rw [Bool.and_eq_true] at this
    refine ⟨fun he => ?_, fun t u hu he => ?_⟩
    · cases he
      rw [Nat.beq_refl] at this; cases this.1
    · cases he
      rw [List.contains_iff_mem.2 (Env.get_mem hu)] at this; cases this.2
def Nx (P : Program) (N : Nat) (r : Option Nat) (K : Ctx) (ops : Array Oper) (Q : Env → FS → LH → Prop) : List (Kd × Nat) → Env → FS → LH → List Rec → Prop
  | [], e, F, L, _ => Q e F L
  | (.still, i) :: l, e, F, L, done => ∃ (o : Oper) (d : Nat) (ek : Env) (v : Value) (Ls : LH), ops[i]? = some o ∧ o.dst = some d ∧ Op.E0 o.op = false ∧ Nat.ble (d + 1) N = true ∧ e.get d = none ∧ e.sub ek ∧ LY ops i ek done = true ∧ (∀ p ∈ Ls, p ∈ L) ∧
      Still P N K ops o ek F Ls v ∧ Nx P N r K ops Q l ((d, v) :: e) F L (⟨i, o, d, ek, v, F, Ls⟩ :: done)
  | (.alloc z val _, i) :: l, e, F, L, done => ∃ d, DY ops i = some d ∧ ∀ b, K.w0.heap.size ≤ b → Nx P N r K ops Q l ((d, val b) :: e) F ((b, z) :: L) done
  | (.pre, i) :: l, e, F, L, done => (∃ ek, Nb l i = some ek ∧ e.sub ek ∧ LY ops i ek done = true) ∧ Nx P N r K ops Q l e F L done
  | (.seq, i) :: l, e, F, L, done => ∃ (o : Oper) (ek : Env), ops[i]? = some o ∧ CW N o.dst = true ∧ e.sub ek ∧ LY ops i ek done = true ∧
      ∀ H, Ct P N r ⟨K.w0, K.F0, K.X, H⟩ ops (fun e' F' L' => ∃ v, e' = ek.put o.dst v ∧ AQ F F' ∧ ∃ ki : List Nat, ((done.map (·.k)).all fun j => ki.contains j || (So ops i).contains j) = true ∧ ((ki = [] ∨ ∀ d, o.dst = some d → e.get d = none) ∨ O8 o.dst (done.filter fun rc => ki.contains rc.k) = true) ∧ (∀ rc ∈ done.filter fun rc => ki.contains rc.k, ∀ p ∈ rc.Ls, p ∈ L') ∧
        Nx P N r K ops Q l (e.put o.dst v) F' L' (done.filter fun rc => ki.contains rc.k)) [o] ek F L
def Tg (P : Program) (N : Nat) (ops : Array Oper) (i : Nat) (ek : Env) (z : Obj) (val : Nat → Value) : Prop := ∃ o d, ops[i]? = some o ∧ o.dst = some d ∧ o.guard = none ∧ Op.E0 o.op = false ∧ Nat.ble (d + 1) N = true ∧ Q9 P N o ek z val
def OV (P : Program) (N : Nat) (ops : Array Oper) : List (Kd × Nat) → Prop
  | [] => True
  | (.alloc z val ek, i) :: l => Tg P N ops i ek z val ∧ OV P N ops l
  | _ :: l => OV P N ops l
theorem Lx {P : Program} {N : Nat} {ops : Array Oper} : ∀ {l : List (Kd × Nat)}, OV P N ops l → ∀ {z val ek i}, (Kd.alloc z val ek, i) ∈ l → Tg P N ops i ek z val
  | [], _, _, _, _, _, hm => by simp at hm
  | (.still, _) :: l, h, _, _, _, _, hm => by
    rcases List.mem_cons.1 hm with h1 | h1
    · cases h1
    · exact Lx (l := l) h h1
  | (.seq, _) :: l, h, _, _, _, _, hm => by
    rcases List.mem_cons.1 hm with h1 | h1
    · cases h1
    · exact Lx (l := l) h h1
  | (.pre, _) :: l, h, _, _, _, _, hm => by
    rcases List.mem_cons.1 hm with h1 | h1
    · cases h1
    · exact Lx (l := l) h h1
  | (.alloc _ _ _, _) :: l, h, _, _, _, _, hm => by
    rcases List.mem_cons.1 hm with h1 | h1
    · cases h1; exact h.1
    · exact Lx (l := l) h.2 h1
theorem QL {P : Program} {N : Nat} {ops : Array Oper} {x : Kd × Nat} {l : List (Kd × Nat)} (h : OV P N ops (x :: l)) : OV P N ops l := by
  obtain ⟨kd, i⟩ := x
  cases kd <;> first | exact h | exact h.2
abbrev Sz := Nat × Nat × Nat × Obj × Value
def M0 (E : List Sz) : LH := E.map fun x => (x.2.2.1, x.2.2.2.1)
structure Oi (P : Program) (N : Nat) (K : Ctx) (ops : Array Oper) (l : List (Kd × Nat)) (seen : List Nat) (e : Env) (F : FS) (L : LH) (done : List Rec) (A : Array Bool) (M : List Nat) (a : Act) (w : World) (E : List Sz) (ea : Env) : Prop where
  size : A.size = ops.size
  MF : ∀ i ∈ seen, i < ops.size
  NB : ∀ i ∈ seen, A.getD i true = true ∨ ∃ rc ∈ done, rc.k = i
  MS : ∀ y ∈ l, y.1.Dr = false → A.getD y.2 true = false
  early : ∀ z val ek i, (Kd.alloc z val ek, i) ∈ l → A.getD i true = true → ∃ d b, (i, d, b, z, val b) ∈ E ∧ DY ops i = some d
  Sr : ∀ x ∈ E, ea.get x.2.1 = some x.2.2.2.2 ∧ K.w0.heap.size ≤ x.2.2.1 ∧ DY ops x.1 = some x.2.1
  NX : ∀ x ∈ E, ∃ z val ek, (Kd.alloc z val ek, x.1) ∈ l ∧ A.getD x.1 true = true
  pre : ∀ z val ek i, (Kd.alloc z val ek, i) ∈ l → (Kd.pre, i) ∉ l → e.sub ek ∧ ∀ rc ∈ done, ∀ u, ek.get rc.d = some u → rc.k ∈ KW ops i
  Qx : (E.map (·.1)).Nodup
  ag : Ag N M ea a
  off : ∀ t u, e.get t = some u → ea.get t = some u ∨ ∃ rc ∈ done, rc.d = t ∧ A.getD rc.k true = false
  RV : ∀ y ∈ l, y.1.Dr = true → ∀ d, DY ops y.2 = some d → e.get d = none
  Sp : ∀ y ∈ l, y.1.Dr = true → ∀ j ∈ seen, DY ops y.2 ≠ DY ops j
  QR : ∀ rc ∈ done, ops[rc.k]? = some rc.o ∧ rc.o.dst = some rc.d ∧ Op.E0 rc.o.op = false ∧ Nat.ble (rc.d + 1) N = true ∧ e.get rc.d = some rc.v ∧ e.sub rc.ek ∧ (∀ OC ∈ done, ∀ u, rc.ek.get OC.d = some u → OC.k ∈ KW ops rc.k) ∧ (∀ p ∈ rc.Ls, p ∈ L) ∧ AQ rc.F F ∧ Still P N K ops rc.o rc.ek rc.F rc.Ls rc.v ∧ rc.k ∈ seen
  sep : ∀ y ∈ l, y.2 ∉ seen
  dc : ∀ i, i < ops.size ∧ A.getD i true = true → ∀ j ∈ KW ops i, j < ops.size ∧ A.getD j true = true
  st : St ⟨K.w0, K.F0, K.X, M0 E ++ K.H0⟩ M F L w
theorem Lw {ops : Array Oper} : ∀ {l : List (Kd × Nat)} {seen : List Nat}, JN ops l seen = true → ∀ i, i < ops.size → i ∈ seen ∨ ∃ y ∈ l, y.2 = i
  | [], seen, h, i, hi => by
    simp only [JN, List.all_eq_true, List.mem_range] at h
    exact .inl (by simpa using h i hi)
  | (kd, i0) :: l, seen, h, i, hi => by
    rcases Lw (FF h).next i hi with h1 | ⟨y, h1, h2⟩
    · cases hkp : kd.JY with
      | true => rw [hkp] at h1; exact .inl h1
      | false =>
        rw [hkp] at h1
        rcases List.mem_cons.1 h1 with rfl | h1
        · exact .inr ⟨_, List.mem_cons_self .., rfl⟩
        · exact .inl h1
    · exact .inr ⟨y, List.mem_cons_of_mem _ h1, h2⟩
theorem NW {ops : Array Oper} : ∀ (l : List (Kd × Nat)) (seen : List Nat), JN ops l seen = true → ∀ x ∈ l, ∀ x' ∈ l, x.1.JY = false → x'.1.JY = false → x.2 = x'.2 → x = x'
  | [], _, _, x, hx, _, _, _, _, _ => by simp at hx
  | (kp, ip) :: l, seen, hS, x, hx, x', aa, ab, ad, he => by
    have hp := FF hS
    rcases List.mem_cons.1 hx with rfl | hx <;> rcases List.mem_cons.1 aa with rfl | aa
    · rfl
    · exact absurd he.symm (hp.ne ab _ aa)
    · exact absurd he (hp.ne ad _ hx)
    · exact NW l _ hp.next x hx x' aa ab ad he
theorem JE {ops : Array Oper} : ∀ (l : List (Kd × Nat)) (seen : List Nat), JN ops l seen = true → ∀ z val ek i, (Kd.alloc z val ek, i) ∈ l → Nb l i = some ek
  | [], _, _, _, _, _, _, h => by simp at h
  | (.alloc z' aa ab, ip) :: l, seen, hS, z, val, ek, i, h => by
    have hp := FF hS
    rcases List.mem_cons.1 h with h1 | h1
    · cases h1; simp [Nb]
    · have := hp.ne rfl _ h1
      simp only [Nb]
      rw [if_neg (fun he => this he.symm)]
      exact JE l _ hp.next z val ek i h1
  | (.still, ip) :: l, seen, hS, z, val, ek, i, h => by
    rcases List.mem_cons.1 h with h1 | h1
    · cases h1
    · exact JE l _ (FF hS).next z val ek i h1
  | (.seq, ip) :: l, seen, hS, z, val, ek, i, h => by
    rcases List.mem_cons.1 h with h1 | h1
    · cases h1
    · exact JE l _ (FF hS).next z val ek i h1
  | (.pre, ip) :: l, seen, hS, z, val, ek, i, h => by
    rcases List.mem_cons.1 h with h1 | h1
    · cases h1
    · exact JE l _ (FF hS).next z val ek i h1
section
variable {P : Program} {N : Nat} {r : Option Nat} {K : Ctx} {ops : Array Oper} {Q : Env → FS → LH → Prop}
theorem Env.O5 {e : Env} {d : Option Nat} {v u : Value} {t : Nat} (h : (e.put d v).get t = some u) : (d = some t ∧ u = v) ∨ (d ≠ some t ∧ e.get t = some u) := by
  cases d with
  | none => exact .inr ⟨by simp, h⟩
  | some d =>
    by_cases hk : d = t
    · subst hk
      have : v = u := by simpa [Env.put, Env.get] using h
      exact .inl ⟨rfl, this.symm⟩
    · have hb : Nat.beq d t = false := M7 hk
      refine .inr ⟨by simp [hk], by simpa [Env.put, Env.get, hb] using h⟩
theorem Env.JQ {e : Env} {d : Nat} {v : Value} : (e.put (some d) v).get d = some v := by simp [Env.put, Env.get]
theorem Env.Ib {e : Env} {d : Option Nat} {v : Value} {t : Nat} (h : d ≠ some t) : (e.put d v).get t = e.get t := by
  cases d with
  | none => rfl
  | some d =>
    have hb : Nat.beq d t = false := M7 (fun he => h (by rw [he]))
    simp [Env.put, Env.get, hb]
theorem PW {A : Array Bool} (ab : A.size = ops.size) {k : Nat} (hk : k < ops.size) (hr : ∀ j ∈ KW ops k, j < ops.size ∧ A.getD j true = true) (h : ∀ i, i < ops.size ∧ A.getD i true = true → ∀ j ∈ KW ops i, j < ops.size ∧ A.getD j true = true) :
    ∀ i, i < ops.size ∧ (A.setIfInBounds k true).getD i true = true → ∀ j ∈ KW ops i, j < ops.size ∧ (A.setIfInBounds k true).getD j true = true := by
  intro i hi j hj
  rw [KP (by omega)] at hi ⊢
  by_cases aa : k = i
  · subst aa
    obtain ⟨h1, h2⟩ := hr j hj
    exact ⟨h1, by split; rfl; exact h2⟩
  · rw [if_neg aa] at hi
    obtain ⟨h1, h2⟩ := h i hi j hj
    exact ⟨h1, by split; rfl; exact h2⟩
theorem ML {A : Array Bool} (ab : A.size = ops.size) {k : Nat} (hr : ∀ j ∈ KW ops k, A.getD j false = true) : ∀ j ∈ KW ops k, j < ops.size ∧ A.getD j true = true := fun j hj => by
  have h := hr j hj
  have aa : j < A.size := by
    apply Classical.byContradiction
    intro hn
    simp [Array.getD, hn] at h
  exact ⟨by omega, by rw [I8 aa]; exact h⟩
theorem Oi.sub {l : List (Kd × Nat)} {seen : List Nat} {e : Env} {F : FS} {L : LH} {done : List Rec} {A : Array Bool} {M : List Nat} {a : Act} {w : World} {E : List Sz} {ea : Env} (h : Oi P N K ops l seen e F L done A M a w E ea)
    {i : Nat} {ek : Env} (he : e.sub ek) (aa : ∀ OC ∈ done, ∀ u, ek.get OC.d = some u → OC.k ∈ KW ops i) (hr : ∀ j ∈ KW ops i, A.getD j false = true) : ea.sub ek := fun t u ht => by
  rcases h.off t u (he t u ht) with h1 | ⟨rc, h1, h2, h3⟩
  · exact h1
  · exfalso
    obtain ⟨r1, r2, _, _, _, _, _, _, _, _, r3⟩ := h.QR rc h1
    have hd : DY ops rc.k = some t := by simp [DY, r1, r2, h2]
    have := hr _ (aa rc h1 u (by rw [h2]; exact ht))
    rw [← I8 (by rw [h.size]; exact h.MF _ r3)] at this
    rw [h3] at this; cases this
theorem Oi.late {l : List (Kd × Nat)} {seen : List Nat} {e : Env} {F : FS} {L : LH} {done : List Rec} {A : Array Bool} {M : List Nat} {a : Act} {w : World} {E : List Sz} {ea : Env} (h : Oi P N K ops l seen e F L done A M a w E ea)
    {rc : Rec} (aj : rc ∈ done) (hr : ∀ j ∈ KW ops rc.k, A.getD j false = true) {Kc : Act → World → Prop} {Qc : Exit → Act → World → Prop}
    (k : Oi P N K ops l seen e F L done (A.setIfInBounds rc.k true) M (a.put (some rc.d) rc.v) w E (ea.put (some rc.d) rc.v) → Kc (a.put (some rc.d) rc.v) w) :
    wpOpIn (GW r) 0 P ops Qc rc.k Kc a w := by
  obtain ⟨r1, r2, r3, r4, r5, r6, r7, r8, r9, ak, ab⟩ := h.QR rc aj
  have ad := h.sub r6 r7 hr
  have aa := ak (M0 E ++ K.H0) M a w F L r9 r8 (h.ag.weaken ad) h.st
  have ae := h.MF _ ab
  have hA : ∀ j, (A.setIfInBounds rc.k true).getD j true = if rc.k = j then true else A.getD j true := fun j => KP (by rw [h.size]; exact ae)
  have ah : DY ops rc.k = some rc.d := by simp [DY, r1, r2]
  have hinv : Oi P N K ops l seen e F L done (A.setIfInBounds rc.k true) M (a.put (some rc.d) rc.v) w E (ea.put (some rc.d) rc.v) := by
    refine ⟨by simpa using h.size, h.MF, fun i hi => ?_, fun y hy al => ?_, fun z val ek i hi ai => ?_, fun x hx => ?_, fun x hx => ?_, h.pre, h.Qx, h.ag.put r4 rc.v, fun t u ht => ?_, h.RV, h.Sp, h.QR, h.sep, PW h.size ae (ML h.size hr) h.dc, h.st⟩
    · rw [hA]; split
      · exact .inl rfl
      · exact h.NB i hi
    · rw [hA]
      have ao : rc.k ≠ y.2 := fun he => h.sep y hy (he ▸ ab)
      rw [if_neg ao]; exact h.MS y hy al
    · rw [hA, if_neg (show ¬ (rc.k = i) from fun he => h.sep _ hi (he ▸ ab))] at ai
      exact h.early z val ek i hi ai
    · obtain ⟨h1, h2, h3⟩ := h.Sr x hx
      refine ⟨?_, h2, h3⟩
      rw [Env.Ib]; exact h1
      intro he
      obtain ⟨z, val, ek, h4, h5⟩ := h.NX x hx
      exact h.Sp _ h4 rfl _ ab (by rw [h3, ah, he])
    · obtain ⟨z, val, ek, h4, h5⟩ := h.NX x hx
      exact ⟨z, val, ek, h4, by rw [hA]; split; rfl; exact h5⟩
    · by_cases hd : rc.d = t
      · subst hd
        refine .inl ?_
        rw [Env.JQ]; rw [r5] at ht; exact ht
      · rw [Env.Ib (by simpa using hd)]
        rcases h.off t u ht with h1 | ⟨OC, h1, h2, h3⟩
        · exact .inl h1
        · refine .inr ⟨OC, h1, h2, ?_⟩
          rw [hA, if_neg ?_]; exact h3
          intro he
          obtain ⟨q1, q2, _⟩ := h.QR OC h1
          have : DY ops OC.k = some OC.d := by simp [DY, q1, q2]
          rw [← he, ah] at this
          exact hd (by rw [← h2]; exact Option.some.inj this)
  unfold wpOpIn
  simp only [r1]
  rcases aa with ⟨hw, hx⟩ | ⟨hw, hx⟩
  · rw [if_pos hw]
    refine ⟨fun _ _ => trivial, ?_⟩
    rw [Oper.semAt_eq _ _ _ (Op.KR r3), hx, Oper.uponIn_value, r2]
    exact k hinv
  · rw [if_neg (by rw [hw]; exact Bool.false_ne_true), r2, ← hx]
    exact ⟨fun _ _ => trivial, k hinv⟩
theorem Oi.Ta {l : List (Kd × Nat)} {seen : List Nat} {e : Env} {F : FS} {L : LH} {done : List Rec} {A : Array Bool} {M : List Nat} {a : Act} {w : World} {E : List Sz} {ea : Env} (h : Oi P N K ops l seen e F L done A M a w E ea) (aw : OV P N ops l)
    {z : Obj} {val : Nat → Value} {ek : Env} {i : Nat} (hi : (Kd.alloc z val ek, i) ∈ l) (aq : i < ops.size) (ax : A.getD i true = false) {Kc : Act → World → Prop} {Qc : Exit → Act → World → Prop}
    (ae : ∀ y ∈ l, y.1.Dr = true → y.2 ≠ i → DY ops y.2 ≠ DY ops i) (ad : ∀ y ∈ l, y.2 = i → y = (Kd.alloc z val ek, i)) (hr : ∀ j ∈ KW ops i, A.getD j false = true)
    (k : ∀ d w' E', Oi P N K ops l seen e F L done (A.setIfInBounds i true) M (a.put (some d) (val w.heap.size)) w' E' (ea.put (some d) (val w.heap.size)) → Kc (a.put (some d) (val w.heap.size)) w') :
    wpOpIn (GW r) 0 P ops Qc i Kc a w := by
  obtain ⟨o, d, ho, ar, ay, az, hd, hz⟩ := Lx aw hi
  have ah : (Kd.pre, i) ∉ l := fun hm => by cases ad _ hm rfl
  obtain ⟨ba, bb⟩ := h.pre _ _ _ _ hi ah
  have ak := h.sub ba bb hr
  have hA : ∀ j, (A.setIfInBounds i true).getD j true = if i = j then true else A.getD j true := fun j => KP (by rw [h.size]; exact aq)
  have aj : DY ops i = some d := by simp [DY, ho, ar]
  obtain ⟨aa, al⟩ := HQ.push h.st z
  unfold wpOpIn
  simp only [ho]
  rw [if_pos (by simp [Region.wanted, ay])]
  refine ⟨fun _ _ => trivial, ?_⟩
  rw [Oper.semAt_eq _ _ _ (Op.KR az)]
  have hex := hz M a w (h.ag.weaken ak)
  rw [hex, Oper.uponIn_value, ar]
  refine k d (w.alloc z) ((i, d, w.heap.size, z, val w.heap.size) :: E) ?_
  have au : ∀ x ∈ E, x.1 ≠ i := fun x hx he => by
    obtain ⟨z', ab, ai, h1, h2⟩ := h.NX x hx
    rw [he, ax] at h2; cases h2
  refine ⟨by simpa using h.size, h.MF, fun j hj => ?_, fun y hy ao => ?_, fun z' ab ai j hj av => ?_, fun x hx => ?_, fun x hx => ?_, h.pre, ?_, h.ag.put hd _, fun t u ht => ?_, h.RV, h.Sp, h.QR, h.sep, PW h.size aq (ML h.size hr) h.dc, ?_⟩
  · rw [hA]; split
    · exact .inl rfl
    · exact h.NB j hj
  · rw [hA, if_neg ?_]; exact h.MS y hy ao
    intro he
    have := ad y hy he.symm
    rw [this] at ao; cases ao
  · by_cases he : i = j
    · subst he
      have := ad _ hj rfl
      simp only [Prod.mk.injEq, Kd.alloc.injEq, and_true] at this
      obtain ⟨rfl, rfl, rfl⟩ := this
      exact ⟨d, w.heap.size, List.mem_cons_self .., aj⟩
    · rw [hA, if_neg he] at av
      obtain ⟨d', b', h1, h2⟩ := h.early z' ab ai j hj av
      exact ⟨d', b', List.mem_cons_of_mem _ h1, h2⟩
  · rcases List.mem_cons.1 hx with rfl | hx
    · exact ⟨Env.JQ, al, aj⟩
    · obtain ⟨h1, h2, h3⟩ := h.Sr x hx
      refine ⟨?_, h2, h3⟩
      rw [Env.Ib]; exact h1
      intro he
      obtain ⟨z', ab, ai, h4, h5⟩ := h.NX x hx
      exact ae _ h4 rfl (au x hx) (by rw [h3, aj, he])
  · rcases List.mem_cons.1 hx with rfl | hx
    · exact ⟨z, val, ek, hi, by rw [hA, if_pos rfl]⟩
    · obtain ⟨z', ab, ai, h4, h5⟩ := h.NX x hx
      exact ⟨z', ab, ai, h4, by rw [hA]; split; rfl; exact h5⟩
  · simp only [List.map_cons, List.nodup_cons]
    exact ⟨fun hm => by obtain ⟨x, hx, he⟩ := List.mem_map.1 hm; exact au x hx he, h.Qx⟩
  · have bc : d ≠ t := by
      rintro rfl
      have := h.RV _ hi rfl d aj
      rw [this] at ht; cases ht
    rcases h.off t u ht with h1 | ⟨rc, h1, h2, h3⟩
    · exact .inl (by rw [Env.Ib (by simpa using bc)]; exact h1)
    · refine .inr ⟨rc, h1, h2, ?_⟩
      rw [hA, if_neg ?_]; exact h3
      intro he
      exact h.sep _ hi (he ▸ (h.QR rc h1).2.2.2.2.2.2.2.2.2.2)
  · show HQ _ F (L ++ (M.map B4 ++ (M0 ((i, d, w.heap.size, z, val w.heap.size) :: E) ++ K.H0))) _
    refine ⟨aa.Fw, aa.MA, aa.fold, aa.own.perm ?_, fun p hp => aa.KO p ?_⟩
    · show ((w.heap.size, z) :: (L ++ (M.map B4 ++ (M0 E ++ K.H0)))).Perm _
      have : (L ++ (M.map B4 ++ (M0 ((i, d, w.heap.size, z, val w.heap.size) :: E) ++ K.H0))) = (L ++ M.map B4) ++ (w.heap.size, z) :: (M0 E ++ K.H0) := by simp [M0]
      rw [this]
      have h2 : (L ++ (M.map B4 ++ (M0 E ++ K.H0))) = (L ++ M.map B4) ++ (M0 E ++ K.H0) := by simp
      rw [h2]
      exact List.perm_middle.symm
    · have : p ∈ (w.heap.size, z) :: (L ++ (M.map B4 ++ (M0 E ++ K.H0))) := by
        simp only [M0, List.mem_append, List.mem_cons, List.map_cons] at hp ⊢
        rcases hp with h1 | h1 | (h1 | h1) | h1
        · exact .inr (.inl h1)
        · exact .inr (.inr (.inl h1))
        · exact .inl h1
        · exact .inr (.inr (.inr (.inl h1)))
        · exact .inr (.inr (.inr (.inr h1)))
      exact this
theorem PF {Qp : GI} {M : List Nat} {e : Env} {F : FS} {L : LH} {a : Act} {w : World} (ha : Ag N M e a) (hs : St K M F L w) (hq : Qp .normal e F L) : lift N K Qp .normal a w := ⟨M, e, F, L, ha, hs, hq⟩
theorem QQ {Qp : GI} {bh : List (Kd × Nat)} (cz : JN ops bh [] = true) : ∀ (fuel : Nat) (l : List (Kd × Nat)) (seen : List Nat) (e : Env) (F : FS) (L : LH) (done : List Rec) (A : Array Bool) (M : List Nat) (a : Act) (w : World) (E : List Sz) (ea : Env),
    JN ops l seen = true → OV P N ops l → Oi P N K ops l seen e F L done A M a w E ea → R8 A ops.size ≤ fuel → Nx P N r K ops (fun e F L => Qp .normal e F L) l e F L done →
    wpAnyIn (GW r) 0 P .any ops (lift N K Qp) fuel A a w := by
  intro fuel
  induction fuel using Nat.strongRecOn with
  | _ fuel ih =>
  intro l
  induction l with
  | nil =>
    intro seen e F L done A M a w E ea hS au h hc hM
    have hE : E = [] := by
      cases E with
      | nil => rfl
      | cons x E => obtain ⟨z, val, ek, h1, _⟩ := h.NX x (List.mem_cons_self ..); simp at h1
    have ax : Region.ready .any ops A = [] → lift N K Qp .normal a w := fun hr => by
      have cp := K6 h.size hr bh [] cz (by simp)
      subst hE
      refine PF (h.ag.weaken fun t u ht => ?_) h.st hM
      rcases h.off t u ht with h1 | ⟨rc, h1, _, h3⟩
      · exact h1
      · have := cp rc.k (h.MF _ (h.QR rc h1).2.2.2.2.2.2.2.2.2.2)
        rw [this] at h3; cases h3
    have bj : ∀ j ∈ Region.ready .any ops A, ∃ rc ∈ done, rc.k = j := fun j hj => by
      obtain ⟨h1, h2, h3⟩ := mem_ready.1 hj
      rcases Lw hS j h1 with h4 | ⟨y, h4, _⟩
      · rcases h.NB j h4 with h5 | h5
        · rw [h5] at h2; cases h2
        · exact h5
      · simp at h4
    cases fuel with
    | zero =>
      have hr : Region.ready .any ops A = [] := by
        rw [List.eq_nil_iff_forall_not_mem]
        intro j hj
        obtain ⟨h1, h2, _⟩ := mem_ready.1 hj
        have : j ∈ (List.range ops.size).filter fun i => !A.getD i true := by simp only [List.mem_filter, List.mem_range, h2]; exact ⟨h1, rfl⟩
        have hl : ((List.range ops.size).filter fun i => !A.getD i true).length = 0 := by unfold R8 at hc; omega
        rw [List.length_eq_zero_iff.1 hl] at this; simp at this
      exact ⟨hr, ax hr⟩
    | succ fuel =>
      refine ⟨ax, fun j hj => ?_⟩
      obtain ⟨rc, ai, rfl⟩ := bj j hj
      obtain ⟨h1, h2, h3⟩ := mem_ready.1 hj
      refine h.late ai h3 fun hi => ?_
      exact ih fuel (by omega) [] seen e F L done _ M _ w E _ hS au hi (by have := OM h.size h1 h2; omega) hM
  | cons y l cq =>
    obtain ⟨kd, i⟩ := y
    intro seen e F L done A M a w E ea hS au h hc hM
    have ho := FF hS
    have bk : i ∉ seen := h.sep _ (List.mem_cons_self ..)
    -- what is ready
    have ay : ∀ ah, fuel = ah + 1 → kd.ON = false → kd.JY = false → A.getD i true = false → ∀ j ∈ Region.ready .any ops A, (j = i → kd.Dr = true) → wpOpIn (GW r) 0 P ops (lift N K Qp) j (wpAnyIn (GW r) 0 P .any ops (lift N K Qp) ah (A.setIfInBounds j true)) a w := by
      intro ah hf bl av dg j hj bm
      obtain ⟨h1, h2, h3⟩ := mem_ready.1 hj
      have dh := OM h.size h1 h2
      rcases Lw hS j h1 with h4 | ⟨y, h4, h5⟩
      · rcases h.NB j h4 with h5 | ⟨rc, ai, rfl⟩
        · rw [h5] at h2; cases h2
        · exact h.late ai h3 fun hi => ih ah (by omega) ((kd, i) :: l) seen e F L done _ M _ w E _ hS au hi (by omega) hM
      · subst h5
        obtain ⟨ky, jy⟩ := y
        -- nothing else of the row is ready
        have cr : ∀ y ∈ l, y.1.Dr = false → y.2 = jy → False := fun y hy aa he => by
          obtain ⟨d, hd, hb⟩ := ho.blocked bl av _ hy aa
          rw [he] at hd
          have aw := h3 d hd
          have ao : A.getD d true = false → False := fun hf => by
            by_cases da : d < A.size
            · rw [I8 da, aw] at hf; cases hf
            · simp [Array.getD, da] at hf
          rcases hb with rfl | ⟨x, hx, di, rfl⟩
          · exact ao dg
          · exact ao (h.MS x (List.mem_cons_of_mem _ hx) di)
        have az : ∀ y ∈ (kd, i) :: l, y.1.Dr = false → y.2 = jy → False := fun y hy aa he => by
          rcases List.mem_cons.1 hy with rfl | hy
          · have := bm he.symm
            rw [this] at aa; cases aa
          · exact cr y hy aa he
        cases hka : ky.Dr with
        | true =>
          cases ky with
          | alloc z val ek =>
            have bq : ∀ (l : List (Kd × Nat)) (seen : List Nat), JN ops l seen = true → ∀ x ∈ l, ∀ x' ∈ l, x.1.Dr = true → x'.1.Dr = true → x.2 ≠ x'.2 → DY ops x.2 ≠ DY ops x'.2 := by
              intro l
              induction l with
              | nil => intro _ _ x hx; simp at hx
              | cons p l dk =>
                intro seen hS x hx x' cn ha br al
                obtain ⟨kp, ip⟩ := p
                have hp := FF hS
                have bu : ∀ k : Kd, k.Dr = true → k.JY = false := fun k hk => by cases k <;> first | rfl | cases hk
                rcases List.mem_cons.1 hx with rfl | hx <;> rcases List.mem_cons.1 cn with rfl | cn
                · exact absurd rfl al
                · exact (hp.dst (bu _ ha) _ cn br).symm
                · exact hp.dst (bu _ br) _ hx ha
                · exact dk _ hp.next x hx x' cn ha br al
            refine h.Ta au h4 h1 h2 (fun y hy aa dm => bq _ _ hS y hy _ h4 aa rfl dm) (fun y hy he => ?_) h3 fun d w' E' hi => ?_
            · cases aa : y.1.Dr with
              | true => exact NW _ _ hS y hy _ h4 (by cases hk : y.1 <;> rw [hk] at aa <;> first | rfl | cases aa) rfl he
              | false => exact (az y hy aa he).elim
            · exact ih ah (by omega) ((kd, i) :: l) seen e F L done _ M _ w' E' _ hS au hi (by omega) hM
          | still | seq | pre => cases hka
        | false => exact (az _ h4 hka rfl).elim
    -- one that is not listed: something is ready
    have ba : A.getD i true = false → ∃ ah, fuel = ah + 1 := fun hA => by
      cases fuel with
      | succ f => exact ⟨f, rfl⟩
      | zero =>
        exfalso
        have : i ∈ (List.range ops.size).filter fun i => !A.getD i true := by simp only [List.mem_filter, List.mem_range, hA]; exact ⟨ho.lt, rfl⟩
        have hl : ((List.range ops.size).filter fun i => !A.getD i true).length = 0 := by unfold R8 at hc; omega
        rw [List.length_eq_zero_iff.1 hl] at this; simp at this
    have bb : A.getD i true = false → Region.ready .any ops A = [] → lift N K Qp .normal a w := fun hA hr => by
      have := K6 h.size hr bh [] cz (by simp) i ho.lt
      rw [hA] at this; cases this
    cases kd with
    | still =>
      obtain ⟨o, d, ek, v, Ls, m1, m2, m3, m4, m5, m6, m7, m8, m9, dp⟩ := hM
      have hA : A.getD i true = false := h.MS _ (List.mem_cons_self ..) rfl
      have dq : DY ops i = some d := by simp [DY, m1, m2]
      have ab : ∀ t, t ≠ d → Env.get ((d, v) :: e) t = e.get t := fun t ht => Env.Ib (d := some d) (by simpa using fun h => ht h.symm)
      have bw : Env.get ((d, v) :: e) d = some v := Env.JQ
      refine cq (i :: seen) ((d, v) :: e) F L (⟨i, o, d, ek, v, F, Ls⟩ :: done) A M a w E ea ho.next au ?_ hc dp
      refine ⟨h.size, fun j hj => ?_, fun j hj => ?_, fun y hy => h.MS y (List.mem_cons_of_mem _ hy), fun z val ad j hj => h.early z val ad j (List.mem_cons_of_mem _ hj), h.Sr, fun x hx => ?_, fun z val ad j hj av => ?_, h.Qx, h.ag, fun t u ht => ?_, fun y hy aa d' bc => ?_, fun y hy aa j hj => ?_, fun rc ai => ?_, fun y hy => ?_, h.dc, h.st⟩
      · rcases List.mem_cons.1 hj with rfl | hj
        · exact ho.lt
        · exact h.MF j hj
      · rcases List.mem_cons.1 hj with rfl | hj
        · exact .inr ⟨_, List.mem_cons_self .., rfl⟩
        · exact (h.NB j hj).imp id fun ⟨rc, h1, h2⟩ => ⟨rc, List.mem_cons_of_mem _ h1, h2⟩
      · obtain ⟨z, val, ad, h1, h2⟩ := h.NX x hx
        exact ⟨z, val, ad, (List.mem_cons.1 h1).resolve_left (by simp), h2⟩
      · obtain ⟨p1, p2⟩ := h.pre z val ad j (List.mem_cons_of_mem _ hj) (fun hm => av ((List.mem_cons.1 hm).resolve_left (by simp)))
        refine ⟨fun t u ht => ?_, fun rc ai u hu => ?_⟩
        · have := p1 t u ht
          rw [ab t (fun he => by rw [he, m5] at this; cases this)]; exact this
        · rcases List.mem_cons.1 ai with rfl | ai
          · have := p1 _ _ hu; rw [m5] at this; cases this
          · exact p2 rc ai u hu
      · by_cases hd : t = d
        · subst hd
          exact .inr ⟨_, List.mem_cons_self .., rfl, hA⟩
        · rw [ab t hd] at ht
          exact (h.off t u ht).imp id fun ⟨rc, h1, h2⟩ => ⟨rc, List.mem_cons_of_mem _ h1, h2⟩
      · have al : d' ≠ d := fun he => ho.dst rfl y hy aa (by rw [bc, dq, he])
        rw [ab d' al]; exact h.RV y (List.mem_cons_of_mem _ hy) aa d' bc
      · rcases List.mem_cons.1 hj with rfl | hj
        · exact ho.dst rfl y hy aa
        · exact h.Sp y (List.mem_cons_of_mem _ hy) aa j hj
      · rcases List.mem_cons.1 ai with rfl | ai
        · refine ⟨m1, m2, m3, m4, bw, fun t u ht => ?_, fun OC ae u hu => ?_, m8, AQ.refl F, m9, List.mem_cons_self ..⟩
          rotate_left
          · rcases List.mem_cons.1 ae with rfl | ae
            · have := m6 _ _ hu; rw [m5] at this; cases this
            · exact My m7 OC ae u hu
          have := m6 t u ht
          rw [ab t (fun he => by rw [he, m5] at this; cases this)]; exact this
        · obtain ⟨q1, q2, q3, q4, q5, q6, q7, q8, q9, bx, bz⟩ := h.QR rc ai
          refine ⟨q1, q2, q3, q4, ?_, fun t u ht => ?_, fun OC ae u hu => ?_, q8, q9, bx, List.mem_cons_of_mem _ bz⟩
          rotate_right
          · rcases List.mem_cons.1 ae with rfl | ae
            · have := q6 _ _ hu; rw [m5] at this; cases this
            · exact q7 OC ae u hu
          · rw [ab _ (fun he => by rw [he, m5] at q5; cases q5)]; exact q5
          · have := q6 t u ht
            rw [ab t (fun he => by rw [he, m5] at this; cases this)]; exact this
      · intro hm
        rcases List.mem_cons.1 hm with he | hm
        · exact ho.ne rfl y hy he
        · exact h.sep y (List.mem_cons_of_mem _ hy) hm
    | pre =>
      obtain ⟨⟨ek, m1, m2, m3⟩, m4⟩ := hM
      refine cq seen e F L done A M a w E ea (by have := ho.next; exact this) au ?_ hc m4
      refine ⟨h.size, h.MF, h.NB, fun y hy => h.MS y (List.mem_cons_of_mem _ hy), fun z val ad j hj => h.early z val ad j (List.mem_cons_of_mem _ hj), h.Sr, fun x hx => ?_, fun z val ad j hj av => ?_, h.Qx, h.ag, h.off, fun y hy => h.RV y (List.mem_cons_of_mem _ hy), fun y hy => h.Sp y (List.mem_cons_of_mem _ hy), h.QR, fun y hy => h.sep y (List.mem_cons_of_mem _ hy), h.dc, h.st⟩
      · obtain ⟨z, val, ad, h1, h2⟩ := h.NX x hx
        exact ⟨z, val, ad, (List.mem_cons.1 h1).resolve_left (by simp), h2⟩
      · by_cases bm : j = i
        · subst bm
          have := JE _ _ ho.next z val ad j hj
          rw [m1] at this
          obtain rfl := Option.some.inj this
          exact ⟨m2, My m3⟩
        · exact h.pre z val ad j (List.mem_cons_of_mem _ hj) (fun hm => by
            rcases List.mem_cons.1 hm with hm | hm
            · rw [Prod.mk.injEq] at hm; exact bm hm.2
            · exact av hm)
    | alloc z val ek =>
      cases hA : A.getD i true with
      | false =>
        obtain ⟨f, rfl⟩ := ba hA
        exact ⟨bb hA, fun j hj => ay f rfl rfl rfl hA j hj fun _ => rfl⟩
      | true =>
        obtain ⟨d0, b, hE, ct⟩ := h.early z val ek i (List.mem_cons_self ..) hA
        obtain ⟨d, hd, k⟩ := hM
        have : d0 = d := by rw [ct] at hd; exact Option.some.inj hd
        subst this
        obtain ⟨e1, e2, _⟩ := h.Sr _ hE
        have bn : e.get d0 = none := h.RV _ (List.mem_cons_self ..) rfl d0 ct
        obtain ⟨E1, E2, rfl⟩ := List.append_of_mem hE
        have bp := h.Qx
        rw [List.map_append, List.map_cons, List.nodup_append] at bp
        have al : ∀ x ∈ E1 ++ E2, x.1 ≠ i := fun x hx he => by
          rcases List.mem_append.1 hx with hx | hx
          · exact bp.2.2 x.1 (List.mem_map.2 ⟨x, hx, rfl⟩) i (List.mem_cons_self ..) he
          · exact (List.nodup_cons.1 bp.2.1).1 (List.mem_map.2 ⟨x, hx, he⟩)
        have ab : ∀ t v, t ≠ d0 → Env.get ((d0, v) :: e) t = e.get t := fun t v ht => Env.Ib (d := some d0) (by simpa using fun h => ht h.symm)
        have cb : ∀ x, x ∈ E1 ++ E2 → x ∈ E1 ++ (i, d0, b, z, val b) :: E2 := fun x hx => by
          rcases List.mem_append.1 hx with hx | hx
          · exact List.mem_append_left _ hx
          · exact List.mem_append_right _ (List.mem_cons_of_mem _ hx)
        refine cq (i :: seen) ((d0, val b) :: e) F ((b, z) :: L) done A M a w (E1 ++ E2) ea ho.next (QL au) ?_ hc (k b e2)
        refine ⟨h.size, fun j hj => ?_, fun j hj => ?_, fun y hy => h.MS y (List.mem_cons_of_mem _ hy), fun z' aq ad j hj dr => ?_, fun x hx => h.Sr x (cb x hx), fun x hx => ?_, fun z' aq ad j hj av => ?_, ?_, h.ag, fun t u ht => ?_, fun y hy aa d' bc => ?_, fun y hy aa j hj => ?_, fun rc ai => ?_, fun y hy => ?_, h.dc, ?_⟩
        · rcases List.mem_cons.1 hj with rfl | hj
          · exact ho.lt
          · exact h.MF j hj
        · rcases List.mem_cons.1 hj with rfl | hj
          · exact .inl hA
          · exact h.NB j hj
        · obtain ⟨d', b', h1, h2⟩ := h.early z' aq ad j (List.mem_cons_of_mem _ hj) dr
          refine ⟨d', b', ?_, h2⟩
          rcases List.mem_append.1 h1 with h1 | h1
          · exact List.mem_append_left _ h1
          · rcases List.mem_cons.1 h1 with h1 | h1
            · exfalso; rw [Prod.mk.injEq] at h1; exact ho.ne rfl _ hj h1.1
            · exact List.mem_append_right _ h1
        · obtain ⟨z', aq, ad, h1, h2⟩ := h.NX x (cb x hx)
          exact ⟨z', aq, ad, (List.mem_cons.1 h1).resolve_left (fun he => al x hx (by rw [Prod.mk.injEq] at he; exact he.2)), h2⟩
        · obtain ⟨p1, p2⟩ := h.pre z' aq ad j (List.mem_cons_of_mem _ hj) (fun hm => av ((List.mem_cons.1 hm).resolve_left (by simp)))
          refine ⟨fun t u ht => ?_, p2⟩
          have := p1 t u ht
          rw [ab t _ (fun he => by rw [he, bn] at this; cases this)]; exact this
        · rw [List.map_append, List.nodup_append]
          exact ⟨bp.1, (List.nodup_cons.1 bp.2.1).2, fun x hx y hy => bp.2.2 x hx y (List.mem_cons_of_mem _ hy)⟩
        · by_cases db : t = d0
          · subst db
            have : Env.get ((t, val b) :: e) t = some (val b) := Env.JQ
            rw [this] at ht
            exact .inl (by rw [← ht]; exact e1)
          · rw [ab t _ db] at ht
            exact h.off t u ht
        · have cu : d' ≠ d0 := fun he => ho.dst rfl y hy aa (by rw [bc, ct, he])
          rw [ab d' _ cu]; exact h.RV y (List.mem_cons_of_mem _ hy) aa d' bc
        · rcases List.mem_cons.1 hj with rfl | hj
          · exact ho.dst rfl y hy aa
          · exact h.Sp y (List.mem_cons_of_mem _ hy) aa j hj
        · obtain ⟨q1, q2, q3, q4, q5, q6, q7, q8, q9, bx, bz⟩ := h.QR rc ai
          refine ⟨q1, q2, q3, q4, ?_, fun t u ht => ?_, q7, fun p hp => List.mem_cons_of_mem _ (q8 p hp), q9, bx, List.mem_cons_of_mem _ bz⟩
          · rw [ab _ _ (fun he => by rw [he, bn] at q5; cases q5)]; exact q5
          · have := q6 t u ht
            rw [ab t _ (fun he => by rw [he, bn] at this; cases this)]; exact this
        · intro hm
          rcases List.mem_cons.1 hm with he | hm
          · exact ho.ne rfl y hy he
          · exact h.sep y (List.mem_cons_of_mem _ hy) hm
        · have bl := h.st
          refine HQ.perm (L := L ++ (M.map B4 ++ (M0 (E1 ++ (i, d0, b, z, val b) :: E2) ++ K.H0))) ?_ ?_
          · have h5 := HQ.KO bl
            have h6 := HQ.own bl
            exact ⟨bl.Fw, bl.MA, bl.fold, h6, h5⟩
          · show (L ++ (M.map B4 ++ (M0 (E1 ++ (i, d0, b, z, val b) :: E2) ++ K.H0))).Perm ((b, z) :: (L ++ (M.map B4 ++ (M0 (E1 ++ E2) ++ K.H0))))
            have h1 : (L ++ (M.map B4 ++ (M0 (E1 ++ (i, d0, b, z, val b) :: E2) ++ K.H0))) = (L ++ M.map B4 ++ M0 E1) ++ (b, z) :: (M0 E2 ++ K.H0) := by simp [M0]
            have h2 : (L ++ (M.map B4 ++ (M0 (E1 ++ E2) ++ K.H0))) = (L ++ M.map B4 ++ M0 E1) ++ (M0 E2 ++ K.H0) := by simp [M0]
            rw [h1, h2]
            exact List.perm_middle
    | seq =>
      have hA : A.getD i true = false := h.MS _ (List.mem_cons_self ..) rfl
      obtain ⟨f, rfl⟩ := ba hA
      refine ⟨bb hA, fun j hj => ?_⟩
      by_cases bm : j = i
      · subst bm
        obtain ⟨o, ek, m1, m2, m3, m4, m5⟩ := hM
        obtain ⟨h1, h2, h3⟩ := mem_ready.1 hj
        have dh := OM h.size h1 h2
        have cv := h.sub m3 (My m4) h3
        have cc : ∀ i', (A.setIfInBounds j true).getD i' true = if j = i' then true else A.getD i' true := fun i' => KP (by rw [h.size]; exact h1)
        have hw := m5 (M0 E ++ K.H0) M a w (h.ag.weaken cv) h.st
        have cw : DY ops j = o.dst := by simp [DY, m1]
        have cf : ∀ a' w', (∃ v, a'.tmps = (a.put o.dst v).tmps) → (∃ M2 e2 F2 L2, Ag N M2 e2 a' ∧ St ⟨K.w0, K.F0, K.X, M0 E ++ K.H0⟩ M2 F2 L2 w' ∧ ∃ v, e2 = ek.put o.dst v ∧ AQ F F2 ∧ ∃ ki : List Nat, ((done.map (·.k)).all fun j' => ki.contains j' || (So ops j).contains j') = true ∧ ((ki = [] ∨ ∀ d, o.dst = some d → e.get d = none) ∨ O8 o.dst (done.filter fun rc => ki.contains rc.k) = true) ∧ (∀ rc ∈ done.filter fun rc => ki.contains rc.k, ∀ p ∈ rc.Ls, p ∈ L2) ∧
            Nx P N r K ops (fun e F L => Qp .normal e F L) l (e.put o.dst v) F2 L2 (done.filter fun rc => ki.contains rc.k)) → wpAnyIn (GW r) 0 P .any ops (lift N K Qp) f (A.setIfInBounds j true) a' w' := by
          rintro a' w' ⟨v', br⟩ ⟨M2, e2, F2, L2, bo, cx, v, rfl, hF, ki, dt, cy, bd, dd⟩
          generalize cg : (done.filter fun rc => ki.contains rc.k) = ak at bd dd
          have du : Ag N M2 (ea.put o.dst v) a' := by
            refine ⟨bo.ds, bo.size, fun t u ht => ?_⟩
            rcases Env.O5 ht with ⟨he, rfl⟩ | ⟨al, hg⟩
            · exact bo.get t u (by rw [he]; exact Env.JQ)
            · have de := h.ag.get t u hg
              rw [br]
              cases dv : o.dst with
              | none => exact de
              | some d =>
                rw [dv] at al
                simp only [Act.put]
                rw [Array.getElem?_setIfInBounds_ne (by simpa using al)]
                exact de
          refine ih f (by omega) l (j :: seen) (e.put o.dst v) F2 L2 ak _ M2 a' w' E (ea.put o.dst v) ho.next au ?_ (by omega) dd
          have dw : ∀ i' ∈ So ops j, i' < ops.size ∧ A.getD i' true = true := Nv (p := fun i' => i' < ops.size ∧ A.getD i' true = true) h.dc 4 _ (ML h.size h3)
          have bg : ∀ rc ∈ done, A.getD rc.k true = false → rc ∈ ak := fun rc ai hl => by
            have hk := List.all_eq_true.1 dt rc.k (List.mem_map.2 ⟨rc, ai, rfl⟩)
            rw [Bool.or_eq_true] at hk
            rcases hk with hk | hk
            · rw [← cg]; exact List.mem_filter.2 ⟨ai, hk⟩
            · have := (dw rc.k (by simpa using hk)).2
              rw [hl] at this; cases this
          refine ⟨by simpa using h.size, fun i' aj => ?_, fun i' aj => ?_, fun y hy aa => ?_, fun z val ad i' aj df => ?_, fun x hx => ?_, fun x hx => ?_, fun z val ad i' aj av => ?_, h.Qx, du, fun t u ht => ?_, fun y hy aa d' bc => ?_, fun y hy aa i' aj => ?_, fun rc ai => ?_, fun y hy => ?_, PW h.size h1 (ML h.size h3) h.dc, cx⟩
          · rcases List.mem_cons.1 aj with rfl | aj
            · exact ho.lt
            · exact h.MF i' aj
          · rw [cc]
            rcases List.mem_cons.1 aj with rfl | aj
            · exact .inl (if_pos rfl)
            · split
              · exact .inl rfl
              · rcases h.NB i' aj with h4 | ⟨rc, h4, h5⟩
                · exact .inl h4
                · cases hl : A.getD i' true with
                  | true => exact .inl rfl
                  | false => exact .inr ⟨rc, bg rc h4 (by rw [h5]; exact hl), h5⟩
          · rw [cc, if_neg (show ¬ (j = y.2) from fun he => ho.ne rfl y hy he.symm)]; exact h.MS y (List.mem_cons_of_mem _ hy) aa
          · rw [cc, if_neg (show ¬ (j = i') from fun he => ho.ne rfl _ aj he.symm)] at df
            exact h.early z val ad i' (List.mem_cons_of_mem _ aj) df
          · obtain ⟨g1, g2, g3⟩ := h.Sr x hx
            refine ⟨?_, g2, g3⟩
            rw [Env.Ib]; exact g1
            intro he
            obtain ⟨z, val, ad, h4, _⟩ := h.NX x hx
            have h5 := (List.mem_cons.1 h4).resolve_left (by simp)
            exact ho.dst rfl _ h5 rfl (by rw [g3, cw, he])
          · obtain ⟨z, val, ad, h4, h5⟩ := h.NX x hx
            exact ⟨z, val, ad, (List.mem_cons.1 h4).resolve_left (by simp), by rw [cc]; split; rfl; exact h5⟩
          · obtain ⟨p1, p2⟩ := h.pre z val ad i' (List.mem_cons_of_mem _ aj) (fun hm => av ((List.mem_cons.1 hm).resolve_left (by simp)))
            refine ⟨fun t u ht => ?_, fun rc ai => p2 rc (List.mem_filter.1 (cg ▸ ai : rc ∈ done.filter fun rc => ki.contains rc.k)).1⟩
            rw [Env.Ib]; exact p1 t u ht
            intro he
            refine ho.ks rfl _ aj t (by rw [cw, he]) (Env.get_mem ht)
          · rcases Env.O5 ht with ⟨he, rfl⟩ | ⟨al, hg⟩
            · exact .inl (by rw [he]; exact Env.JQ)
            · rcases h.off t u hg with h4 | ⟨rc, h4, h5, h6⟩
              · exact .inl (by rw [Env.Ib al]; exact h4)
              · refine .inr ⟨rc, bg rc h4 h6, h5, ?_⟩
                rw [cc, if_neg ?_]; exact h6
                intro he
                exact bk (he ▸ (h.QR rc h4).2.2.2.2.2.2.2.2.2.2)
          · have al : o.dst ≠ some d' := fun he => ho.dst rfl y hy aa (by rw [bc, cw, he])
            rw [Env.Ib al]; exact h.RV y (List.mem_cons_of_mem _ hy) aa d' bc
          · rcases List.mem_cons.1 aj with rfl | aj
            · exact ho.dst rfl y hy aa
            · exact h.Sp y (List.mem_cons_of_mem _ hy) aa i' aj
          · have ae := ai
            rw [← cg] at ae
            obtain ⟨dx, dy⟩ := List.mem_filter.1 ae
            obtain ⟨q1, q2, q3, q4, q5, q6, q7, q8, q9, bx, bz⟩ := h.QR rc dx
            have cj : e.get rc.d = some rc.v → (e.put o.dst v).get rc.d = some rc.v → (e.put o.dst v).sub rc.ek → ops[rc.k]? = some rc.o ∧ rc.o.dst = some rc.d ∧ Op.E0 rc.o.op = false ∧ Nat.ble (rc.d + 1) N = true ∧ (e.put o.dst v).get rc.d = some rc.v ∧ (e.put o.dst v).sub rc.ek ∧ (∀ OC ∈ ak, ∀ u, rc.ek.get OC.d = some u → OC.k ∈ KW ops rc.k) ∧ (∀ p ∈ rc.Ls, p ∈ L2) ∧ AQ rc.F F2 ∧ Still P N K ops rc.o rc.ek rc.F rc.Ls rc.v ∧ rc.k ∈ j :: seen := fun _ h5 h6 =>
              ⟨q1, q2, q3, q4, h5, h6, fun OC ae => q7 OC (List.mem_filter.1 (cg ▸ ae : OC ∈ done.filter fun rc => ki.contains rc.k)).1, bd rc ai, q9.trans hF, bx, List.mem_cons_of_mem _ bz⟩
            rcases cy with (rfl | bn) | bn
            · simp at dy
            · have ck : ∀ t u, e.get t = some u → (e.put o.dst v).get t = some u := fun t u ht => by
                rw [Env.Ib]; exact ht
                intro he
                have := bn t he
                rw [this] at ht; cases ht
              exact cj q5 (ck _ _ q5) (fun t u ht => ck t u (q6 t u ht))
            · obtain ⟨f1, f2⟩ := PK (cg ▸ bn : O8 o.dst ak = true) rc ai
              exact cj q5 (by rw [Env.Ib f1]; exact q5) (fun t u ht => by rw [Env.Ib (f2 t u ht)]; exact q6 t u ht)
          · intro hm
            rcases List.mem_cons.1 hm with he | hm
            · exact ho.ne rfl y hy he
            · exact h.sep y (List.mem_cons_of_mem _ hy) hm
        unfold wpOpIn
        simp only [m1]
        unfold wpListIn at hw
        split at hw
        · rename_i ar
          rw [if_pos ar]
          refine JP (fun a' w' hn hv => ?_) (fun _ _ _ hq => hq.1) hw
          exact cf a' w' hv hn.2
        · rename_i ar
          rw [if_neg ar]
          exact ⟨hw.1, cf _ _ ⟨undef, rfl⟩ hw.2.2⟩
      · exact ay f rfl rfl rfl hA j hj fun he => absurd he bm
def preB (ord : List (Kd × Nat)) : Bool := ord.all fun y => !y.1.Dr || ord.any fun x => x.1.JY && x.2 == y.2
theorem QK {ord : List (Kd × Nat)} (h : preB ord = true) : ∀ z val ek i, (Kd.alloc z val ek, i) ∈ ord → (Kd.pre, i) ∈ ord := fun z val ek i hi => by
  have := List.all_eq_true.1 h _ hi
  simp only [Kd.Dr, Bool.not_true, Bool.false_or, List.any_eq_true, Bool.and_eq_true, beq_iff_eq] at this
  obtain ⟨⟨k, j⟩, h1, h2, h3⟩ := this
  have h4 : k = .pre := by cases k <;> first | rfl | cases h2
  have h5 : j = i := h3
  rw [h4, h5] at h1; exact h1
theorem GC {P : Program} {N : Nat} {d : Option Nat} {ty : TypeId} {pos : String} {after : Array Edge} {ek : Env} {T : TypeId} {z : Value} (hz : ∀ w, (zeroValue T).run P w = .ok z w) : Q9 P N ⟨d, .alloc T, ty, pos, after, none⟩ ek (.cells z.cells T (0, 0)) (fun b => .pointer (some ⟨b, 0, none⟩)) := fun M a w _ => by
  simp [execOp, Instr.alloc, hz, newVar, newRow, newObj, Sem.run]
theorem JL {P : Program} {N : Nat} {d : Option Nat} {ty : TypeId} {pos : String} {after : Array Edge} {ek : Env} {T E n : Nat} {parts : Array (Nat × Operand)} {vs : List (Nat × Value)} {cs : Array Value} (hp : parts.toList.mapM (fun p => (ev ek p.2).map fun v => (p.1, v)) = some vs)
    (hb : ∀ w, (Instr.buildSlice T n vs.toArray).run P w = .ok (.slice (some ⟨w.heap.size, 0, none⟩) n n) (w.alloc (.cells cs E))) : Q9 P N ⟨d, .buildSlice T n parts, ty, pos, after, none⟩ ek (.cells cs E (0, 0)) (fun b => .slice (some ⟨b, 0, none⟩) n n) := fun M a w ha => by
  have key : ∀ (l : List (Nat × Operand)) (vs : List (Nat × Value)), l.mapM (fun p => (ev ek p.2).map fun v => (p.1, v)) = some vs → l.map (fun p => (p.1, a.eval p.2)) = vs := by
    intro l
    induction l with
    | nil => intro vs h; simpa using h
    | cons x l ih =>
      intro vs h
      simp only [List.mapM_cons, Option.bind_eq_bind, Option.bind_eq_some_iff, Option.pure_def, Option.some.injEq, Option.map_eq_some_iff] at h
      obtain ⟨p, ⟨v, hv, rfl⟩, aa, ab, rfl⟩ := h
      simp [ha.ev hv, ih aa ab]
  have e1 : parts.map (fun p => (p.1, a.eval p.2)) = vs.toArray := Array.ext' (by rw [Array.toList_map]; exact key _ _ hp)
  have e2 : (parts.map fun (i, x) => (i, a.eval x)) = vs.toArray := e1
  simp [execOp, e2, hb]
theorem NP {P : Program} {N : Nat} {d : Option Nat} {ty : TypeId} {pos : String} {after : Array Edge} {ek : Env} {T E sz bytes : Nat} {x : Operand} {z : Value} {n : Int} (hT : EN P T E sz z bytes) (ah : bytes ≤ 134217728) (hx : ev ek x = some (.int .i64 n)) (hn : 0 ≤ n ∧ n ≤ 1048576) :
    Q9 P N ⟨d, .makeSlice T x x, ty, pos, after, none⟩ ek (.cells (madeCells z.cells (n.toNat * sz)) E (0, 0)) (fun b => .slice (some ⟨b, 0, none⟩) n.toNat n.toNat) := fun M a w ha => by
  have hmul : (bytes : Int) * n ≤ 134217728 * 1048576 := Int.mul_le_mul (by omega) hn.2 hn.1 (by decide)
  obtain ⟨i, aa, ab, ad, ae⟩ := hT.info
  subst ad; subst ae
  have hr := run_make (P := P) w T E i z hT.Qw aa ab .i64 .i64 n n hn.1 (Int.le_refl _) (by omega) (by omega)
  simp [execOp, ha.ev hx, hr]
def Tf (ops : Array Oper) (e : Env) (ord : List (Kd × Nat)) : Bool := ord.all fun y => !y.1.Dr || match DY ops y.2 with | some d => (e.get d).isNone | none => true
theorem QS {e : Env} {ord : List (Kd × Nat)} (h : Tf ops e ord = true) : ∀ y ∈ ord, y.1.Dr = true → ∀ d, DY ops y.2 = some d → e.get d = none := fun y hy ha d hd => by
  have := List.all_eq_true.1 h y hy
  rw [ha, hd] at this
  simpa using this
theorem BK {Qp : GI} {id : Nat} {l : List Oper} {e : Env} {F : FS} {L : LH} (ord : List (Kd × Nat)) (hm : P.follows .mixedOrders = true) (h0 : JN l.toArray ord [] = true) (ai : OV P N l.toArray ord)
    (ab : Tf l.toArray e ord = true) (aa : preB ord = true) (h : Nx P N r K l.toArray (fun e F L => Qp .normal e F L) ord e F L []) : Gg P N r K (.region id l.toArray true) Qp e F L := fun M a w ha hs => by
  have aj := QS ab
  have ad := QK aa
  refine wpIn_region_any hm ?_
  refine QQ (Qp := Qp) h0 _ ord [] e F L [] _ M a _ [] e h0 ai ?_ (by unfold R8; exact Nat.le_trans (List.length_filter_le ..) (by simp)) h
  have hA : ∀ i, i < l.toArray.size → (Array.replicate l.toArray.size false).getD i true = false := fun i hi => by
    have : i < l.length := by simpa using hi
    simp [Array.getD, this]
  have ae : ∀ y ∈ ord, y.2 < l.toArray.size := by
    have : ∀ (ord : List (Kd × Nat)) (seen : List Nat), JN l.toArray ord seen = true → ∀ y ∈ ord, y.2 < l.toArray.size := by
      intro ord
      induction ord with
      | nil => intro _ _ y hy; simp at hy
      | cons x ord ih =>
        intro seen hS y hy
        obtain ⟨kd, i⟩ := x
        have ho := FF hS
        rcases List.mem_cons.1 hy with rfl | hy
        · exact ho.lt
        · exact ih _ ho.next y hy
    exact this ord [] h0
  refine ⟨by simp, fun i hi => by simp at hi, fun i hi => by simp at hi, fun y hy _ => hA _ (ae y hy), fun z val ek i hi ah => (by rw [hA i (ae _ hi)] at ah; cases ah), fun x hx => by simp at hx, fun x hx => by simp at hx, fun z val ek i hi ak => absurd (ad z val ek i hi) ak, by simp, ha, fun t u ht => .inl ht, aj, fun y hy _ j hj => by simp at hj, fun rc al => by simp at al, fun y hy => by simp, fun i hi => (by rw [hA i hi.1] at hi; cases hi.2), ?_⟩
  exact hs.drew
variable {l : List (Kd × Nat)} {e : Env} {F : FS} {L : LH} {done : List Rec} {i d : Nat} {op : Op} {ty : TypeId} {pos : String} {after : Array Edge} {v : Value}
theorem HK {L' : LH} (h : L = L') (k : Nx P N r K ops Q l e F L' done) : Nx P N r K ops Q l e F L done := h ▸ k
theorem Qv {ek : Env} {Ls : LH} (ho : ops[i]? = some ⟨some d, op, ty, pos, after, none⟩) (aa : Op.E0 op = false) (hd : Nat.ble (d + 1) N = true) (hf : e.get d = none) (ab : e.sub ek) (ad : LY ops i ek done = true) (ae : ∀ p ∈ Ls, p ∈ L)
    (h : ∀ H F' L', AQ F F' → (∀ p ∈ Ls, p ∈ L') → Fb P N ⟨K.w0, K.F0, K.X, H⟩ ek F' L' op ty v) (k : Nx P N r K ops Q l ((d, v) :: e) F L (⟨i, ⟨some d, op, ty, pos, after, none⟩, d, ek, v, F, Ls⟩ :: done)) :
    Nx P N r K ops Q ((.still, i) :: l) e F L done :=
  ⟨_, d, ek, v, Ls, ho, rfl, aa, hd, hf, ab, ad, ae, fun H M a w F' L' hF hL ha hs => .inl ⟨by simp [Region.wanted], h H F' L' hF hL M a w _ _ _ _ ha hs⟩, k⟩
theorem EL {ek : Env} {Ls : LH} {j : Nat} {b : Bool} (dj : Nat) (ho : ops[i]? = some ⟨some d, op, ty, pos, after, some (j, b)⟩) (hj : (ops[j]?).bind (·.dst) = some dj) (hb : ek.get dj = some (.bool b)) (aa : Op.E0 op = false) (hd : Nat.ble (d + 1) N = true) (hf : e.get d = none) (ab : e.sub ek) (ad : LY ops i ek done = true) (ae : ∀ p ∈ Ls, p ∈ L)
    (h : ∀ H F' L', AQ F F' → (∀ p ∈ Ls, p ∈ L') → Fb P N ⟨K.w0, K.F0, K.X, H⟩ ek F' L' op ty v) (k : Nx P N r K ops Q l ((d, v) :: e) F L (⟨i, ⟨some d, op, ty, pos, after, some (j, b)⟩, d, ek, v, F, Ls⟩ :: done)) :
    Nx P N r K ops Q ((.still, i) :: l) e F L done :=
  ⟨_, d, ek, v, Ls, ho, rfl, aa, hd, hf, ab, ad, ae, fun H M a w F' L' hF hL ha hs => .inl ⟨by simp [Region.wanted, yielded, hj, ha.get _ _ hb], h H F' L' hF hL M a w _ _ _ _ ha hs⟩, k⟩
theorem Has.ext {F F' : FS} {L L' : LH} {b : Nat} {c : Array Value} (h : Has F L b c) (hF : AQ F F') (hL : ∀ p ∈ L, p ∈ L') : Has F' L' b c := h.imp fun _ h => h.imp fun _ h => h.imp (hF _ _) (hL _)
end
end Go.SH
