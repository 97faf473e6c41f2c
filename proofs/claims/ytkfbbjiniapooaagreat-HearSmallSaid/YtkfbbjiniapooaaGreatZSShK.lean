/- The calculus, part K: regions that draw their order, with operations that turn the state. The walk goes in one order; it serves all. -/
import Derived.Test.YtkfbbjiniapooaaGreatZSShJ
namespace Go.SH
theorem LP {Fe : Fence} {n : Nat} {P : Program} {o : Oper} {a : Act} {w : World} {next next' : Act → World → Prop} {Q Q' : Exit → Act → World → Prop}
    (hn : ∀ a' w', next a' w' → (∃ v, a'.tmps = (a.put o.dst v).tmps) → next' a' w') (hq : ∀ e a w, Q e a w → e = .normal) (h : o.wpIn Fe n P a w next Q) : o.wpIn Fe n P a w next' Q' := by
  have aa : LetsOut Q → LetsOut Q' := fun ⟨a, w, h⟩ => by cases hq _ _ _ h
  unfold Oper.wpIn at h ⊢
  refine ⟨h.1, ?_⟩
  have h2 := h.2
  unfold Oper.uponIn at h2 ⊢
  split at h2
  · exact hn _ _ h2 ⟨_, rfl⟩
  · exact hn _ _ h2 ⟨_, rfl⟩
  · exact hn _ _ h2 ⟨undef, by cases o.dst <;> rfl⟩
  · exact ⟨h2.1, h2.2.mono fun e w' hR => by cases e <;> first | exact hn _ _ hR ⟨_, rfl⟩ | cases hq _ _ _ hR | exact aa hR⟩
  · exact ⟨h2.1, h2.2.mono fun v w h => hn _ _ h ⟨_, rfl⟩⟩
  · exact ⟨h2.1, h2.2.mono fun e w' hR => by cases e <;> first | exact hn _ _ hR ⟨_, rfl⟩ | cases hq _ _ _ hR | exact aa hR⟩
  · cases hq _ _ _ h2
  · exact h2
inductive Kd
  | still
  | alloc (z : Obj) (val : Nat → Value) (ek : Env)
  | seq
  | pre
def Kd.Ef : Kd → Bool
  | .alloc _ _ _ => true
  | _ => false
def Kd.JW : Kd → Bool
  | .pre => true
  | _ => false
def Kd.V2 : Kd → Bool
  | .seq => true
  | _ => false
def Kd.keys : Kd → List Nat
  | .alloc _ _ ek => ek.map Prod.fst
  | _ => []
def Kd.QD : Kd → Bool
  | .still => true
  | _ => false
def N7 (ops : Array Oper) (i : Nat) : List Nat := match ops[i]? with
  | some o => (o.after.toList.filter (Region.binds .any)).map (·.on)
  | none => []
def Fb (ops : Array Oper) (i : Nat) : Option Nat := (ops[i]?).bind (·.dst)
theorem mem_ready {ops : Array Oper} {A : Array Bool} {i : Nat} : i ∈ Region.ready .any ops A ↔ i < ops.size ∧ A.getD i true = false ∧ ∀ j ∈ N7 ops i, A.getD j false = true := by
  unfold Region.ready N7
  simp only [List.mem_filter, List.mem_range, Bool.and_eq_true, Bool.not_eq_true']
  constructor
  · rintro ⟨h1, h2, h3⟩
    refine ⟨h1, h2, fun j hj => ?_⟩
    have ho : ops[i]? = some ops[i] := Array.getElem?_eq_getElem h1
    rw [ho] at h3 hj
    simp only [Option.map_some, Option.getD_some, Array.all_eq_true_iff_forall_mem] at h3
    simp only [List.mem_map, List.mem_filter, Array.mem_toList_iff] at hj
    obtain ⟨e, ⟨he, hb⟩, rfl⟩ := hj
    have := h3 e he
    simpa [hb] using this
  · rintro ⟨h1, h2, h3⟩
    refine ⟨h1, h2, ?_⟩
    have ho : ops[i]? = some ops[i] := Array.getElem?_eq_getElem h1
    rw [ho] at h3 ⊢
    simp only [Option.map_some, Option.getD_some, Array.all_eq_true_iff_forall_mem]
    intro e he
    cases hb : Region.binds .any e with
    | false => simp
    | true =>
      simp only [Bool.not_true, Bool.false_or]
      refine h3 _ ?_
      simp only [List.mem_map, List.mem_filter, Array.mem_toList_iff]
      exact ⟨e, ⟨he, hb⟩, rfl⟩
def JR (ops : Array Oper) : List (Kd × Nat) → List Nat → Bool
  | [], seen => (List.range ops.size).all seen.contains
  | (kd, i) :: l, seen => Nat.blt i ops.size && ((N7 ops i).all seen.contains && ((!kd.V2 || l.all fun y => match Fb ops i with | some d => !y.1.keys.contains d | none => true) &&
    ((kd.QD || (kd.JW || l.all fun y => y.1.Ef || (N7 ops y.2).any fun d => d == i || l.any fun x => !x.1.Ef && x.2 == d)) &&
    ((kd.JW || l.all (fun y => !y.1.Ef || !(Fb ops y.2 == Fb ops i))) && ((kd.JW || l.all (fun y => !(y.2 == i))) && JR ops l (if kd.JW then seen else i :: seen))))))
structure WR (ops : Array Oper) (kd : Kd) (i : Nat) (l : List (Kd × Nat)) (seen : List Nat) : Prop where
  lt : i < ops.size
  N7 : ∀ j ∈ N7 ops i, j ∈ seen
  ks : kd.V2 = true → ∀ y ∈ l, ∀ d, Fb ops i = some d → d ∉ y.1.keys
  blocked : kd.QD = false → kd.JW = false → ∀ y ∈ l, y.1.Ef = false → ∃ d ∈ Go.SH.N7 ops y.2, d = i ∨ ∃ x ∈ l, x.1.Ef = false ∧ x.2 = d
  dst : kd.JW = false → ∀ y ∈ l, y.1.Ef = true → Fb ops y.2 ≠ Fb ops i
  ne : kd.JW = false → ∀ y ∈ l, y.2 ≠ i
  next : JR ops l (if kd.JW then seen else i :: seen) = true
theorem Gf {ops : Array Oper} {kd : Kd} {i : Nat} {l : List (Kd × Nat)} {seen : List Nat} (h : JR ops ((kd, i) :: l) seen = true) : WR ops kd i l seen := by
  simp only [JR, Bool.and_eq_true] at h
  obtain ⟨h1, h2, h3, h4, h5, h7, h6⟩ := h
  refine ⟨by simpa using h1, fun j hj => ?_, fun hk y hy d hd => ?_, fun hk aa y hy ab => ?_, fun aa y hy ab => ?_, fun aa y hy => ?_, h6⟩
  · simpa using List.all_eq_true.1 h2 j hj
  · rw [hk, hd] at h3
    simp only [Bool.not_true, Bool.false_or] at h3
    simpa using List.all_eq_true.1 h3 y hy
  · rw [hk, aa] at h4
    simp only [Bool.false_or] at h4
    have := List.all_eq_true.1 h4 y hy
    rw [ab] at this
    simp only [Bool.false_or, List.any_eq_true, Bool.or_eq_true, beq_iff_eq, Bool.and_eq_true, Bool.not_eq_true'] at this
    exact this
  · rw [aa] at h5
    simp only [Bool.false_or] at h5
    have := List.all_eq_true.1 h5 y hy
    rw [ab] at this
    simpa using this
  · rw [aa] at h7
    simp only [Bool.false_or] at h7
    simpa using List.all_eq_true.1 h7 y hy
theorem Ox {A : Array Bool} {i : Nat} (h : i < A.size) : A.getD i true = A.getD i false := by simp [Array.getD, h]
theorem K7 {ops : Array Oper} {A : Array Bool} (aa : A.size = ops.size) (hr : Region.ready .any ops A = []) : ∀ (l : List (Kd × Nat)) (seen : List Nat), JR ops l seen = true → (∀ i ∈ seen, i < ops.size ∧ A.getD i true = true) → ∀ i, i < ops.size → A.getD i true = true
  | [], seen, h, hs, i, hi => by
    simp only [JR, List.all_eq_true, List.mem_range] at h
    exact (hs i (by simpa using h i hi)).2
  | (kd, i0) :: l, seen, h, hs, i, hi => by
    have ho := Gf h
    cases hkp : kd.JW with
    | true => exact K7 aa hr l seen (by have := ho.next; rwa [hkp] at this) hs i hi
    | false =>
    refine K7 aa hr l (i0 :: seen) (by have := ho.next; rwa [hkp] at this) (fun j hj => ?_) i hi
    rcases List.mem_cons.1 hj with rfl | hj
    · refine ⟨ho.lt, ?_⟩
      cases hA : A.getD j true with
      | true => rfl
      | false =>
        have hm : j ∈ Region.ready .any ops A := mem_ready.2 ⟨ho.lt, hA, fun d hd => by
          obtain ⟨h1, h2⟩ := hs d (ho.N7 d hd)
          rw [← Ox (by omega)]; exact h2⟩
        rw [hr] at hm; simp at hm
    · exact hs j hj
def WG (A : Array Bool) (n : Nat) : Nat := ((List.range n).filter fun i => !A.getD i true).length
theorem Kx {A : Array Bool} {i j : Nat} (hi : i < A.size) : (A.setIfInBounds i true).getD j true = if i = j then true else A.getD j true := by
  simp only [Array.getD_eq_getD_getElem?, Array.getElem?_setIfInBounds]
  split
  · simp
  · rfl
theorem QR {A : Array Bool} {n i : Nat} (hn : A.size = n) (hi : i < n) (h : A.getD i true = false) : WG (A.setIfInBounds i true) n < WG A n := by
  unfold WG
  have hle : ∀ l : List Nat, (l.filter fun j => !(A.setIfInBounds i true).getD j true).length ≤ (l.filter fun j => !A.getD j true).length ∧ (i ∈ l → (l.filter fun j => !(A.setIfInBounds i true).getD j true).length < (l.filter fun j => !A.getD j true).length) := by
    intro l
    induction l with
    | nil => simp
    | cons x l ih =>
      rw [List.filter_cons, List.filter_cons, Kx (by omega)]
      by_cases hx : i = x
      · subst hx
        simp only [if_true, h, Bool.not_true, Bool.not_false, Bool.false_eq_true, if_false, List.length_cons]
        exact ⟨by have := ih.1; omega, fun _ => by have := ih.1; omega⟩
      · rw [if_neg hx]
        split
        · simp only [List.length_cons]
          exact ⟨by have := ih.1; omega, fun hm => by
            have := ih.2 ((List.mem_cons.1 hm).resolve_left hx); omega⟩
        · exact ⟨ih.1, fun hm => ih.2 ((List.mem_cons.1 hm).resolve_left hx)⟩
  exact (hle _).2 (List.mem_range.2 hi)
structure Rec where
  k : Nat
  o : Oper
  d : Nat
  ek : Env
  v : Value
  F : FS
  Ls : LH
def Still (P : Program) (N : Nat) (K : Ctx) (ops : Array Oper) (o : Oper) (e : Env) (F : FS) (Ls : LH) (v : Value) : Prop :=
  ∀ H M a w F' L', AY F F' → (∀ p ∈ Ls, p ∈ L') → Ag N M e a → St ⟨K.w0, K.F0, K.X, H⟩ M F' L' w →
    (Region.wanted o (yielded ops a.tmps) = true ∧ (execOp a.eval o).run P w = .ok (.value v) w) ∨ (Region.wanted o (yielded ops a.tmps) = false ∧ v = undef)
def MW (ops : Array Oper) (i : Nat) (ek : Env) (done : List Rec) : Bool := done.all fun rc => !((ek.map Prod.fst).contains rc.d) || (N7 ops i).contains rc.k
theorem Env.get_mem {e : Env} {t : Nat} {v : Value} (h : e.get t = some v) : t ∈ e.map Prod.fst := by
  induction e with
  | nil => simp [Env.get] at h
  | cons p e ih =>
    obtain ⟨k, u⟩ := p
    by_cases hk : k = t
    · simp [hk]
    · have hb : Nat.beq k t = false := NA hk
      simp only [Env.get, hb] at h
      exact List.mem_cons_of_mem _ (ih (by simpa using h))
theorem MN {ops : Array Oper} {i : Nat} {ek : Env} {done : List Rec} (h : MW ops i ek done = true) : ∀ rc ∈ done, ∀ u, ek.get rc.d = some u → rc.k ∈ N7 ops i := fun rc aa u hu => by
  have := List.all_eq_true.1 h rc aa
  rw [Bool.or_eq_true] at this
  rcases this with h1 | h1
  · have h2 := Env.get_mem hu
    have h3 : (ek.map Prod.fst).contains rc.d = true := List.contains_iff_mem.2 h2
    rw [h3] at h1; cases h1
  · simpa using h1
def Wt (ops : Array Oper) : Nat → List Nat → List Nat
  | 0, l => l
  | f + 1, l => Wt ops f (l ++ l.flatMap (N7 ops)).eraseDups
def WO (ops : Array Oper) (i : Nat) : List Nat := Wt ops 4 (N7 ops i)
theorem NZ {ops : Array Oper} {p : Nat → Prop} (hp : ∀ i, p i → ∀ j ∈ N7 ops i, p j) : ∀ (f : Nat) (l : List Nat), (∀ i ∈ l, p i) → ∀ i ∈ Wt ops f l, p i
  | 0, _, h => h
  | f + 1, l, h => NZ hp f _ fun i hi => by
    rw [List.mem_eraseDups] at hi
    rcases List.mem_append.1 hi with hi | hi
    · exact h i hi
    · obtain ⟨j, hj, hi⟩ := List.mem_flatMap.1 hi
      exact hp j (h j hj) i hi
def NO : List (Kd × Nat) → Nat → Option Env
  | [], _ => none
  | (.alloc _ _ ek, j) :: l, i => if j = i then some ek else NO l i
  | _ :: l, i => NO l i
def Uh (P : Program) (N : Nat) (o : Oper) (ek : Env) (z : Obj) (val : Nat → Value) : Prop := ∀ M a w, Ag N M ek a → (execOp a.eval o).run P w = .ok (.value (val w.heap.size)) (w.alloc z)
def Qy (d : Option Nat) (l : List Rec) : Bool := match d with
  | none => true
  | some d => l.all fun rc => !Nat.beq rc.d d && !(rc.ek.map Prod.fst).contains d
theorem RU {d : Option Nat} {l : List Rec} (h : Qy d l = true) : ∀ rc ∈ l, d ≠ some rc.d ∧ ∀ t u, rc.ek.get t = some u → d ≠ some t := fun rc aa => by
  cases d with
  | none => exact ⟨by simp, by simp⟩
  | some d =>
    have := List.all_eq_true.1 h rc aa
    rw [Bool.and_eq_true] at this
    refine ⟨fun he => ?_, fun t u hu he => ?_⟩
    · cases he
      rw [Nat.beq_refl] at this; cases this.1
    · cases he
      rw [List.contains_iff_mem.2 (Env.get_mem hu)] at this; cases this.2
def Oq (P : Program) (N : Nat) (r : Option Nat) (K : Ctx) (ops : Array Oper) (Q : Env → FS → LH → Prop) : List (Kd × Nat) → Env → FS → LH → List Rec → Prop
  | [], e, F, L, _ => Q e F L
  | (.still, i) :: l, e, F, L, done => ∃ (o : Oper) (d : Nat) (ek : Env) (v : Value) (Ls : LH), ops[i]? = some o ∧ o.dst = some d ∧ Op.EX o.op = false ∧ Nat.ble (d + 1) N = true ∧ e.get d = none ∧ e.sub ek ∧ MW ops i ek done = true ∧ (∀ p ∈ Ls, p ∈ L) ∧
      Still P N K ops o ek F Ls v ∧ Oq P N r K ops Q l ((d, v) :: e) F L (⟨i, o, d, ek, v, F, Ls⟩ :: done)
  | (.alloc z val _, i) :: l, e, F, L, done => ∃ d, Fb ops i = some d ∧ ∀ b, K.w0.heap.size ≤ b → Oq P N r K ops Q l ((d, val b) :: e) F ((b, z) :: L) done
  | (.pre, i) :: l, e, F, L, done => (∃ ek, NO l i = some ek ∧ e.sub ek ∧ MW ops i ek done = true) ∧ Oq P N r K ops Q l e F L done
  | (.seq, i) :: l, e, F, L, done => ∃ (o : Oper) (ek : Env), ops[i]? = some o ∧ Dq N o.dst = true ∧ e.sub ek ∧ MW ops i ek done = true ∧
      ∀ H, C7 P N r ⟨K.w0, K.F0, K.X, H⟩ ops (fun e' F' L' => ∃ v, e' = ek.put o.dst v ∧ AY F F' ∧ ∃ ki : List Nat, ((done.map (·.k)).all fun j => ki.contains j || (WO ops i).contains j) = true ∧ ((ki = [] ∨ ∀ d, o.dst = some d → e.get d = none) ∨ Qy o.dst (done.filter fun rc => ki.contains rc.k) = true) ∧ (∀ rc ∈ done.filter fun rc => ki.contains rc.k, ∀ p ∈ rc.Ls, p ∈ L') ∧
        Oq P N r K ops Q l (e.put o.dst v) F' L' (done.filter fun rc => ki.contains rc.k)) [o] ek F L
def YE (P : Program) (N : Nat) (ops : Array Oper) (i : Nat) (ek : Env) (z : Obj) (val : Nat → Value) : Prop := ∃ o d, ops[i]? = some o ∧ o.dst = some d ∧ o.guard = none ∧ Op.EX o.op = false ∧ Nat.ble (d + 1) N = true ∧ Uh P N o ek z val
def RG (P : Program) (N : Nat) (ops : Array Oper) : List (Kd × Nat) → Prop
  | [] => True
  | (.alloc z val ek, i) :: l => YE P N ops i ek z val ∧ RG P N ops l
  | _ :: l => RG P N ops l
theorem LX {P : Program} {N : Nat} {ops : Array Oper} : ∀ {l : List (Kd × Nat)}, RG P N ops l → ∀ {z val ek i}, (Kd.alloc z val ek, i) ∈ l → YE P N ops i ek z val
  | [], _, _, _, _, _, hm => by simp at hm
  | (.still, _) :: l, h, _, _, _, _, hm => by
    rcases List.mem_cons.1 hm with h1 | h1
    · cases h1
    · exact LX (l := l) h h1
  | (.seq, _) :: l, h, _, _, _, _, hm => by
    rcases List.mem_cons.1 hm with h1 | h1
    · cases h1
    · exact LX (l := l) h h1
  | (.pre, _) :: l, h, _, _, _, _, hm => by
    rcases List.mem_cons.1 hm with h1 | h1
    · cases h1
    · exact LX (l := l) h h1
  | (.alloc _ _ _, _) :: l, h, _, _, _, _, hm => by
    rcases List.mem_cons.1 hm with h1 | h1
    · cases h1; exact h.1
    · exact LX (l := l) h.2 h1
theorem Ts {P : Program} {N : Nat} {ops : Array Oper} {x : Kd × Nat} {l : List (Kd × Nat)} (h : RG P N ops (x :: l)) : RG P N ops l := by
  obtain ⟨kd, i⟩ := x
  cases kd <;> first | exact h | exact h.2
abbrev W5 := Nat × Nat × Nat × Obj × Value
def Ny (E : List W5) : LH := E.map fun x => (x.2.2.1, x.2.2.2.1)
structure PB (P : Program) (N : Nat) (K : Ctx) (ops : Array Oper) (l : List (Kd × Nat)) (seen : List Nat) (e : Env) (F : FS) (L : LH) (done : List Rec) (A : Array Bool) (M : List Nat) (a : Act) (w : World) (E : List W5) (ea : Env) : Prop where
  size : A.size = ops.size
  MU : ∀ i ∈ seen, i < ops.size
  N0 : ∀ i ∈ seen, A.getD i true = true ∨ ∃ rc ∈ done, rc.k = i
  Nn : ∀ y ∈ l, y.1.Ef = false → A.getD y.2 true = false
  early : ∀ z val ek i, (Kd.alloc z val ek, i) ∈ l → A.getD i true = true → ∃ d b, (i, d, b, z, val b) ∈ E ∧ Fb ops i = some d
  Wh : ∀ x ∈ E, ea.get x.2.1 = some x.2.2.2.2 ∧ K.w0.heap.size ≤ x.2.2.1 ∧ Fb ops x.1 = some x.2.1
  OH : ∀ x ∈ E, ∃ z val ek, (Kd.alloc z val ek, x.1) ∈ l ∧ A.getD x.1 true = true
  pre : ∀ z val ek i, (Kd.alloc z val ek, i) ∈ l → (Kd.pre, i) ∉ l → e.sub ek ∧ ∀ rc ∈ done, ∀ u, ek.get rc.d = some u → rc.k ∈ N7 ops i
  Ti : (E.map (·.1)).Nodup
  ag : Ag N M ea a
  off : ∀ t u, e.get t = some u → ea.get t = some u ∨ ∃ rc ∈ done, rc.d = t ∧ A.getD rc.k true = false
  V1 : ∀ y ∈ l, y.1.Ef = true → ∀ d, Fb ops y.2 = some d → e.get d = none
  Ww : ∀ y ∈ l, y.1.Ef = true → ∀ j ∈ seen, Fb ops y.2 ≠ Fb ops j
  T0 : ∀ rc ∈ done, ops[rc.k]? = some rc.o ∧ rc.o.dst = some rc.d ∧ Op.EX rc.o.op = false ∧ Nat.ble (rc.d + 1) N = true ∧ e.get rc.d = some rc.v ∧ e.sub rc.ek ∧ (∀ P8 ∈ done, ∀ u, rc.ek.get P8.d = some u → P8.k ∈ N7 ops rc.k) ∧ (∀ p ∈ rc.Ls, p ∈ L) ∧ AY rc.F F ∧ Still P N K ops rc.o rc.ek rc.F rc.Ls rc.v ∧ rc.k ∈ seen
  sep : ∀ y ∈ l, y.2 ∉ seen
  dc : ∀ i, i < ops.size ∧ A.getD i true = true → ∀ j ∈ N7 ops i, j < ops.size ∧ A.getD j true = true
  st : St ⟨K.w0, K.F0, K.X, Ny E ++ K.H0⟩ M F L w
theorem LG {ops : Array Oper} : ∀ {l : List (Kd × Nat)} {seen : List Nat}, JR ops l seen = true → ∀ i, i < ops.size → i ∈ seen ∨ ∃ y ∈ l, y.2 = i
  | [], seen, h, i, hi => by
    simp only [JR, List.all_eq_true, List.mem_range] at h
    exact .inl (by simpa using h i hi)
  | (kd, i0) :: l, seen, h, i, hi => by
    rcases LG (Gf h).next i hi with h1 | ⟨y, h1, h2⟩
    · cases hkp : kd.JW with
      | true => rw [hkp] at h1; exact .inl h1
      | false =>
        rw [hkp] at h1
        rcases List.mem_cons.1 h1 with rfl | h1
        · exact .inr ⟨_, List.mem_cons_self .., rfl⟩
        · exact .inl h1
    · exact .inr ⟨y, List.mem_cons_of_mem _ h1, h2⟩
theorem OT {ops : Array Oper} : ∀ (l : List (Kd × Nat)) (seen : List Nat), JR ops l seen = true → ∀ x ∈ l, ∀ x' ∈ l, x.1.JW = false → x'.1.JW = false → x.2 = x'.2 → x = x'
  | [], _, _, x, hx, _, _, _, _, _ => by simp at hx
  | (kp, ip) :: l, seen, hS, x, hx, x', aa, ab, ad, he => by
    have hp := Gf hS
    rcases List.mem_cons.1 hx with rfl | hx <;> rcases List.mem_cons.1 aa with rfl | aa
    · rfl
    · exact absurd he.symm (hp.ne ab _ aa)
    · exact absurd he (hp.ne ad _ hx)
    · exact OT l _ hp.next x hx x' aa ab ad he
theorem JU {ops : Array Oper} : ∀ (l : List (Kd × Nat)) (seen : List Nat), JR ops l seen = true → ∀ z val ek i, (Kd.alloc z val ek, i) ∈ l → NO l i = some ek
  | [], _, _, _, _, _, _, h => by simp at h
  | (.alloc z' aa ab, ip) :: l, seen, hS, z, val, ek, i, h => by
    have hp := Gf hS
    rcases List.mem_cons.1 h with h1 | h1
    · cases h1; simp [NO]
    · have := hp.ne rfl _ h1
      simp only [NO]
      rw [if_neg (fun he => this he.symm)]
      exact JU l _ hp.next z val ek i h1
  | (.still, ip) :: l, seen, hS, z, val, ek, i, h => by
    rcases List.mem_cons.1 h with h1 | h1
    · cases h1
    · exact JU l _ (Gf hS).next z val ek i h1
  | (.seq, ip) :: l, seen, hS, z, val, ek, i, h => by
    rcases List.mem_cons.1 h with h1 | h1
    · cases h1
    · exact JU l _ (Gf hS).next z val ek i h1
  | (.pre, ip) :: l, seen, hS, z, val, ek, i, h => by
    rcases List.mem_cons.1 h with h1 | h1
    · cases h1
    · exact JU l _ (Gf hS).next z val ek i h1
section
variable {P : Program} {N : Nat} {r : Option Nat} {K : Ctx} {ops : Array Oper} {Q : Env → FS → LH → Prop}
theorem Env.Tb {e : Env} {d : Option Nat} {v u : Value} {t : Nat} (h : (e.put d v).get t = some u) : (d = some t ∧ u = v) ∨ (d ≠ some t ∧ e.get t = some u) := by
  cases d with
  | none => exact .inr ⟨by simp, h⟩
  | some d =>
    by_cases hk : d = t
    · subst hk
      have : v = u := by simpa [Env.put, Env.get] using h
      exact .inl ⟨rfl, this.symm⟩
    · have hb : Nat.beq d t = false := NA hk
      refine .inr ⟨by simp [hk], by simpa [Env.put, Env.get, hb] using h⟩
theorem Env.KN {e : Env} {d : Nat} {v : Value} : (e.put (some d) v).get d = some v := by simp [Env.put, Env.get]
theorem Env.IW {e : Env} {d : Option Nat} {v : Value} {t : Nat} (h : d ≠ some t) : (e.put d v).get t = e.get t := by
  cases d with
  | none => rfl
  | some d =>
    have hb : Nat.beq d t = false := NA (fun he => h (by rw [he]))
    simp [Env.put, Env.get, hb]
theorem Sf {A : Array Bool} (ab : A.size = ops.size) {k : Nat} (hk : k < ops.size) (hr : ∀ j ∈ N7 ops k, j < ops.size ∧ A.getD j true = true) (h : ∀ i, i < ops.size ∧ A.getD i true = true → ∀ j ∈ N7 ops i, j < ops.size ∧ A.getD j true = true) :
    ∀ i, i < ops.size ∧ (A.setIfInBounds k true).getD i true = true → ∀ j ∈ N7 ops i, j < ops.size ∧ (A.setIfInBounds k true).getD j true = true := by
  intro i hi j hj
  rw [Kx (by omega)] at hi ⊢
  by_cases aa : k = i
  · subst aa
    obtain ⟨h1, h2⟩ := hr j hj
    exact ⟨h1, by split; rfl; exact h2⟩
  · rw [if_neg aa] at hi
    obtain ⟨h1, h2⟩ := h i hi j hj
    exact ⟨h1, by split; rfl; exact h2⟩
theorem Nh {A : Array Bool} (ab : A.size = ops.size) {k : Nat} (hr : ∀ j ∈ N7 ops k, A.getD j false = true) : ∀ j ∈ N7 ops k, j < ops.size ∧ A.getD j true = true := fun j hj => by
  have h := hr j hj
  have aa : j < A.size := by
    apply Classical.byContradiction
    intro hn
    simp [Array.getD, hn] at h
  exact ⟨by omega, by rw [Ox aa]; exact h⟩
theorem PB.sub {l : List (Kd × Nat)} {seen : List Nat} {e : Env} {F : FS} {L : LH} {done : List Rec} {A : Array Bool} {M : List Nat} {a : Act} {w : World} {E : List W5} {ea : Env} (h : PB P N K ops l seen e F L done A M a w E ea)
    {i : Nat} {ek : Env} (he : e.sub ek) (aa : ∀ P8 ∈ done, ∀ u, ek.get P8.d = some u → P8.k ∈ N7 ops i) (hr : ∀ j ∈ N7 ops i, A.getD j false = true) : ea.sub ek := fun t u ht => by
  rcases h.off t u (he t u ht) with h1 | ⟨rc, h1, h2, h3⟩
  · exact h1
  · exfalso
    obtain ⟨r1, r2, _, _, _, _, _, _, _, _, r3⟩ := h.T0 rc h1
    have hd : Fb ops rc.k = some t := by simp [Fb, r1, r2, h2]
    have := hr _ (aa rc h1 u (by rw [h2]; exact ht))
    rw [← Ox (by rw [h.size]; exact h.MU _ r3)] at this
    rw [h3] at this; cases this
theorem PB.late {l : List (Kd × Nat)} {seen : List Nat} {e : Env} {F : FS} {L : LH} {done : List Rec} {A : Array Bool} {M : List Nat} {a : Act} {w : World} {E : List W5} {ea : Env} (h : PB P N K ops l seen e F L done A M a w E ea)
    {rc : Rec} (ai : rc ∈ done) (hr : ∀ j ∈ N7 ops rc.k, A.getD j false = true) {Kc : Act → World → Prop} {Qc : Exit → Act → World → Prop}
    (k : PB P N K ops l seen e F L done (A.setIfInBounds rc.k true) M (a.put (some rc.d) rc.v) w E (ea.put (some rc.d) rc.v) → Kc (a.put (some rc.d) rc.v) w) :
    wpOpIn (HO r) 0 P ops Qc rc.k Kc a w := by
  obtain ⟨r1, r2, r3, r4, r5, r6, r7, r8, r9, aj, ab⟩ := h.T0 rc ai
  have ad := h.sub r6 r7 hr
  have aa := aj (Ny E ++ K.H0) M a w F L r9 r8 (h.ag.weaken ad) h.st
  have ae := h.MU _ ab
  have hA : ∀ j, (A.setIfInBounds rc.k true).getD j true = if rc.k = j then true else A.getD j true := fun j => Kx (by rw [h.size]; exact ae)
  have af : Fb ops rc.k = some rc.d := by simp [Fb, r1, r2]
  have hinv : PB P N K ops l seen e F L done (A.setIfInBounds rc.k true) M (a.put (some rc.d) rc.v) w E (ea.put (some rc.d) rc.v) := by
    refine ⟨by simpa using h.size, h.MU, fun i hi => ?_, fun y hy ak => ?_, fun z val ek i hi ah => ?_, fun x hx => ?_, fun x hx => ?_, h.pre, h.Ti, h.ag.put r4 rc.v, fun t u ht => ?_, h.V1, h.Ww, h.T0, h.sep, Sf h.size ae (Nh h.size hr) h.dc, h.st⟩
    · rw [hA]; split
      · exact .inl rfl
      · exact h.N0 i hi
    · rw [hA]
      have ao : rc.k ≠ y.2 := fun he => h.sep y hy (he ▸ ab)
      rw [if_neg ao]; exact h.Nn y hy ak
    · rw [hA, if_neg (show ¬ (rc.k = i) from fun he => h.sep _ hi (he ▸ ab))] at ah
      exact h.early z val ek i hi ah
    · obtain ⟨h1, h2, h3⟩ := h.Wh x hx
      refine ⟨?_, h2, h3⟩
      rw [Env.IW]; exact h1
      intro he
      obtain ⟨z, val, ek, h4, h5⟩ := h.OH x hx
      exact h.Ww _ h4 rfl _ ab (by rw [h3, af, he])
    · obtain ⟨z, val, ek, h4, h5⟩ := h.OH x hx
      exact ⟨z, val, ek, h4, by rw [hA]; split; rfl; exact h5⟩
    · by_cases hd : rc.d = t
      · subst hd
        refine .inl ?_
        rw [Env.KN]; rw [r5] at ht; exact ht
      · rw [Env.IW (by simpa using hd)]
        rcases h.off t u ht with h1 | ⟨P8, h1, h2, h3⟩
        · exact .inl h1
        · refine .inr ⟨P8, h1, h2, ?_⟩
          rw [hA, if_neg ?_]; exact h3
          intro he
          obtain ⟨q1, q2, _⟩ := h.T0 P8 h1
          have : Fb ops P8.k = some P8.d := by simp [Fb, q1, q2]
          rw [← he, af] at this
          exact hd (by rw [← h2]; exact Option.some.inj this)
  unfold wpOpIn
  simp only [r1]
  rcases aa with ⟨hw, hx⟩ | ⟨hw, hx⟩
  · rw [if_pos hw]
    refine ⟨fun _ _ => trivial, ?_⟩
    rw [Oper.semAt_eq _ _ _ (Op.K9 r3), hx, Oper.uponIn_value, r2]
    exact k hinv
  · rw [if_neg (by rw [hw]; exact Bool.false_ne_true), r2, ← hx]
    exact ⟨fun _ _ => trivial, k hinv⟩
theorem PB.Yn {l : List (Kd × Nat)} {seen : List Nat} {e : Env} {F : FS} {L : LH} {done : List Rec} {A : Array Bool} {M : List Nat} {a : Act} {w : World} {E : List W5} {ea : Env} (h : PB P N K ops l seen e F L done A M a w E ea) (aw : RG P N ops l)
    {z : Obj} {val : Nat → Value} {ek : Env} {i : Nat} (hi : (Kd.alloc z val ek, i) ∈ l) (aq : i < ops.size) (ax : A.getD i true = false) {Kc : Act → World → Prop} {Qc : Exit → Act → World → Prop}
    (ae : ∀ y ∈ l, y.1.Ef = true → y.2 ≠ i → Fb ops y.2 ≠ Fb ops i) (ad : ∀ y ∈ l, y.2 = i → y = (Kd.alloc z val ek, i)) (hr : ∀ j ∈ N7 ops i, A.getD j false = true)
    (k : ∀ d w' E', PB P N K ops l seen e F L done (A.setIfInBounds i true) M (a.put (some d) (val w.heap.size)) w' E' (ea.put (some d) (val w.heap.size)) → Kc (a.put (some d) (val w.heap.size)) w') :
    wpOpIn (HO r) 0 P ops Qc i Kc a w := by
  obtain ⟨o, d, ho, ar, ay, az, hd, hz⟩ := LX aw hi
  have af : (Kd.pre, i) ∉ l := fun hm => by cases ad _ hm rfl
  obtain ⟨ba, bb⟩ := h.pre _ _ _ _ hi af
  have aj := h.sub ba bb hr
  have hA : ∀ j, (A.setIfInBounds i true).getD j true = if i = j then true else A.getD j true := fun j => Kx (by rw [h.size]; exact aq)
  have ai : Fb ops i = some d := by simp [Fb, ho, ar]
  obtain ⟨aa, ak⟩ := HX.push h.st z
  unfold wpOpIn
  simp only [ho]
  rw [if_pos (by simp [Region.wanted, ay])]
  refine ⟨fun _ _ => trivial, ?_⟩
  rw [Oper.semAt_eq _ _ _ (Op.K9 az)]
  have hex := hz M a w (h.ag.weaken aj)
  rw [hex, Oper.uponIn_value, ar]
  refine k d (w.alloc z) ((i, d, w.heap.size, z, val w.heap.size) :: E) ?_
  have au : ∀ x ∈ E, x.1 ≠ i := fun x hx he => by
    obtain ⟨z', ab, ah, h1, h2⟩ := h.OH x hx
    rw [he, ax] at h2; cases h2
  refine ⟨by simpa using h.size, h.MU, fun j hj => ?_, fun y hy ao => ?_, fun z' ab ah j hj av => ?_, fun x hx => ?_, fun x hx => ?_, h.pre, ?_, h.ag.put hd _, fun t u ht => ?_, h.V1, h.Ww, h.T0, h.sep, Sf h.size aq (Nh h.size hr) h.dc, ?_⟩
  · rw [hA]; split
    · exact .inl rfl
    · exact h.N0 j hj
  · rw [hA, if_neg ?_]; exact h.Nn y hy ao
    intro he
    have := ad y hy he.symm
    rw [this] at ao; cases ao
  · by_cases he : i = j
    · subst he
      have := ad _ hj rfl
      simp only [Prod.mk.injEq, Kd.alloc.injEq, and_true] at this
      obtain ⟨rfl, rfl, rfl⟩ := this
      exact ⟨d, w.heap.size, List.mem_cons_self .., ai⟩
    · rw [hA, if_neg he] at av
      obtain ⟨d', b', h1, h2⟩ := h.early z' ab ah j hj av
      exact ⟨d', b', List.mem_cons_of_mem _ h1, h2⟩
  · rcases List.mem_cons.1 hx with rfl | hx
    · exact ⟨Env.KN, ak, ai⟩
    · obtain ⟨h1, h2, h3⟩ := h.Wh x hx
      refine ⟨?_, h2, h3⟩
      rw [Env.IW]; exact h1
      intro he
      obtain ⟨z', ab, ah, h4, h5⟩ := h.OH x hx
      exact ae _ h4 rfl (au x hx) (by rw [h3, ai, he])
  · rcases List.mem_cons.1 hx with rfl | hx
    · exact ⟨z, val, ek, hi, by rw [hA, if_pos rfl]⟩
    · obtain ⟨z', ab, ah, h4, h5⟩ := h.OH x hx
      exact ⟨z', ab, ah, h4, by rw [hA]; split; rfl; exact h5⟩
  · simp only [List.map_cons, List.nodup_cons]
    exact ⟨fun hm => by obtain ⟨x, hx, he⟩ := List.mem_map.1 hm; exact au x hx he, h.Ti⟩
  · have bc : d ≠ t := by
      rintro rfl
      have := h.V1 _ hi rfl d ai
      rw [this] at ht; cases ht
    rcases h.off t u ht with h1 | ⟨rc, h1, h2, h3⟩
    · exact .inl (by rw [Env.IW (by simpa using bc)]; exact h1)
    · refine .inr ⟨rc, h1, h2, ?_⟩
      rw [hA, if_neg ?_]; exact h3
      intro he
      exact h.sep _ hi (he ▸ (h.T0 rc h1).2.2.2.2.2.2.2.2.2.2)
  · show HX _ F (L ++ (M.map Cc ++ (Ny ((i, d, w.heap.size, z, val w.heap.size) :: E) ++ K.H0))) _
    refine ⟨aa.FP, aa.Nr, aa.fold, aa.own.perm ?_, fun p hp => aa.KG p ?_⟩
    · show ((w.heap.size, z) :: (L ++ (M.map Cc ++ (Ny E ++ K.H0)))).Perm _
      have : (L ++ (M.map Cc ++ (Ny ((i, d, w.heap.size, z, val w.heap.size) :: E) ++ K.H0))) = (L ++ M.map Cc) ++ (w.heap.size, z) :: (Ny E ++ K.H0) := by simp [Ny]
      rw [this]
      have h2 : (L ++ (M.map Cc ++ (Ny E ++ K.H0))) = (L ++ M.map Cc) ++ (Ny E ++ K.H0) := by simp
      rw [h2]
      exact List.perm_middle.symm
    · have : p ∈ (w.heap.size, z) :: (L ++ (M.map Cc ++ (Ny E ++ K.H0))) := by
        simp only [Ny, List.mem_append, List.mem_cons, List.map_cons] at hp ⊢
        rcases hp with h1 | h1 | (h1 | h1) | h1
        · exact .inr (.inl h1)
        · exact .inr (.inr (.inl h1))
        · exact .inl h1
        · exact .inr (.inr (.inr (.inl h1)))
        · exact .inr (.inr (.inr (.inr h1)))
      exact this
theorem Q6 {Qp : HE} {M : List Nat} {e : Env} {F : FS} {L : LH} {a : Act} {w : World} (ha : Ag N M e a) (hs : St K M F L w) (hq : Qp .normal e F L) : lift N K Qp .normal a w := ⟨M, e, F, L, ha, hs, hq⟩
theorem TB {Qp : HE} {bj : List (Kd × Nat)} (cy : JR ops bj [] = true) : ∀ (fuel : Nat) (l : List (Kd × Nat)) (seen : List Nat) (e : Env) (F : FS) (L : LH) (done : List Rec) (A : Array Bool) (M : List Nat) (a : Act) (w : World) (E : List W5) (ea : Env),
    JR ops l seen = true → RG P N ops l → PB P N K ops l seen e F L done A M a w E ea → WG A ops.size ≤ fuel → Oq P N r K ops (fun e F L => Qp .normal e F L) l e F L done →
    wpAnyIn (HO r) 0 P .any ops (lift N K Qp) fuel A a w := by
  intro fuel
  induction fuel using Nat.strongRecOn with
  | _ fuel ih =>
  intro l
  induction l with
  | nil =>
    intro seen e F L done A M a w E ea hS au h hc hM
    have hE : E = [] := by
      cases E with
      | nil => rfl
      | cons x E => obtain ⟨z, val, ek, h1, _⟩ := h.OH x (List.mem_cons_self ..); simp at h1
    have ax : Region.ready .any ops A = [] → lift N K Qp .normal a w := fun hr => by
      have cn := K7 h.size hr bj [] cy (by simp)
      subst hE
      refine Q6 (h.ag.weaken fun t u ht => ?_) h.st hM
      rcases h.off t u ht with h1 | ⟨rc, h1, _, h3⟩
      · exact h1
      · have := cn rc.k (h.MU _ (h.T0 rc h1).2.2.2.2.2.2.2.2.2.2)
        rw [this] at h3; cases h3
    have bk : ∀ j ∈ Region.ready .any ops A, ∃ rc ∈ done, rc.k = j := fun j hj => by
      obtain ⟨h1, h2, h3⟩ := mem_ready.1 hj
      rcases LG hS j h1 with h4 | ⟨y, h4, _⟩
      · rcases h.N0 j h4 with h5 | h5
        · rw [h5] at h2; cases h2
        · exact h5
      · simp at h4
    cases fuel with
    | zero =>
      have hr : Region.ready .any ops A = [] := by
        rw [List.eq_nil_iff_forall_not_mem]
        intro j hj
        obtain ⟨h1, h2, _⟩ := mem_ready.1 hj
        have : j ∈ (List.range ops.size).filter fun i => !A.getD i true := by simp only [List.mem_filter, List.mem_range, h2]; exact ⟨h1, rfl⟩
        have hl : ((List.range ops.size).filter fun i => !A.getD i true).length = 0 := by unfold WG at hc; omega
        rw [List.length_eq_zero_iff.1 hl] at this; simp at this
      exact ⟨hr, ax hr⟩
    | succ fuel =>
      refine ⟨ax, fun j hj => ?_⟩
      obtain ⟨rc, ah, rfl⟩ := bk j hj
      obtain ⟨h1, h2, h3⟩ := mem_ready.1 hj
      refine h.late ah h3 fun hi => ?_
      exact ih fuel (by omega) [] seen e F L done _ M _ w E _ hS au hi (by have := QR h.size h1 h2; omega) hM
  | cons y l cp =>
    obtain ⟨kd, i⟩ := y
    intro seen e F L done A M a w E ea hS au h hc hM
    have ho := Gf hS
    have bl : i ∉ seen := h.sep _ (List.mem_cons_self ..)
    -- what is ready
    have ay : ∀ af, fuel = af + 1 → kd.QD = false → kd.JW = false → A.getD i true = false → ∀ j ∈ Region.ready .any ops A, (j = i → kd.Ef = true) → wpOpIn (HO r) 0 P ops (lift N K Qp) j (wpAnyIn (HO r) 0 P .any ops (lift N K Qp) af (A.setIfInBounds j true)) a w := by
      intro af hf bm av df j hj bn
      obtain ⟨h1, h2, h3⟩ := mem_ready.1 hj
      have dg := QR h.size h1 h2
      rcases LG hS j h1 with h4 | ⟨y, h4, h5⟩
      · rcases h.N0 j h4 with h5 | ⟨rc, ah, rfl⟩
        · rw [h5] at h2; cases h2
        · exact h.late ah h3 fun hi => ih af (by omega) ((kd, i) :: l) seen e F L done _ M _ w E _ hS au hi (by omega) hM
      · subst h5
        obtain ⟨ky, jy⟩ := y
        -- nothing else of the row is ready
        have cq : ∀ y ∈ l, y.1.Ef = false → y.2 = jy → False := fun y hy aa he => by
          obtain ⟨d, hd, hb⟩ := ho.blocked bm av _ hy aa
          rw [he] at hd
          have aw := h3 d hd
          have ao : A.getD d true = false → False := fun hf => by
            by_cases cz : d < A.size
            · rw [Ox cz, aw] at hf; cases hf
            · simp [Array.getD, cz] at hf
          rcases hb with rfl | ⟨x, hx, dh, rfl⟩
          · exact ao df
          · exact ao (h.Nn x (List.mem_cons_of_mem _ hx) dh)
        have az : ∀ y ∈ (kd, i) :: l, y.1.Ef = false → y.2 = jy → False := fun y hy aa he => by
          rcases List.mem_cons.1 hy with rfl | hy
          · have := bn he.symm
            rw [this] at aa; cases aa
          · exact cq y hy aa he
        cases hka : ky.Ef with
        | true =>
          cases ky with
          | alloc z val ek =>
            have br : ∀ (l : List (Kd × Nat)) (seen : List Nat), JR ops l seen = true → ∀ x ∈ l, ∀ x' ∈ l, x.1.Ef = true → x'.1.Ef = true → x.2 ≠ x'.2 → Fb ops x.2 ≠ Fb ops x'.2 := by
              intro l
              induction l with
              | nil => intro _ _ x hx; simp at hx
              | cons p l di =>
                intro seen hS x hx x' cj ha bu ak
                obtain ⟨kp, ip⟩ := p
                have hp := Gf hS
                have bw : ∀ k : Kd, k.Ef = true → k.JW = false := fun k hk => by cases k <;> first | rfl | cases hk
                rcases List.mem_cons.1 hx with rfl | hx <;> rcases List.mem_cons.1 cj with rfl | cj
                · exact absurd rfl ak
                · exact (hp.dst (bw _ ha) _ cj bu).symm
                · exact hp.dst (bw _ bu) _ hx ha
                · exact di _ hp.next x hx x' cj ha bu ak
            refine h.Yn au h4 h1 h2 (fun y hy aa dk => br _ _ hS y hy _ h4 aa rfl dk) (fun y hy he => ?_) h3 fun d w' E' hi => ?_
            · cases aa : y.1.Ef with
              | true => exact OT _ _ hS y hy _ h4 (by cases hk : y.1 <;> rw [hk] at aa <;> first | rfl | cases aa) rfl he
              | false => exact (az y hy aa he).elim
            · exact ih af (by omega) ((kd, i) :: l) seen e F L done _ M _ w' E' _ hS au hi (by omega) hM
          | still | seq | pre => cases hka
        | false => exact (az _ h4 hka rfl).elim
    -- one that is not listed: something is ready
    have ba : A.getD i true = false → ∃ af, fuel = af + 1 := fun hA => by
      cases fuel with
      | succ f => exact ⟨f, rfl⟩
      | zero =>
        exfalso
        have : i ∈ (List.range ops.size).filter fun i => !A.getD i true := by simp only [List.mem_filter, List.mem_range, hA]; exact ⟨ho.lt, rfl⟩
        have hl : ((List.range ops.size).filter fun i => !A.getD i true).length = 0 := by unfold WG at hc; omega
        rw [List.length_eq_zero_iff.1 hl] at this; simp at this
    have bb : A.getD i true = false → Region.ready .any ops A = [] → lift N K Qp .normal a w := fun hA hr => by
      have := K7 h.size hr bj [] cy (by simp) i ho.lt
      rw [hA] at this; cases this
    cases kd with
    | still =>
      obtain ⟨o, d, ek, v, Ls, m1, m2, m3, m4, m5, m6, m7, m8, m9, dm⟩ := hM
      have hA : A.getD i true = false := h.Nn _ (List.mem_cons_self ..) rfl
      have dn : Fb ops i = some d := by simp [Fb, m1, m2]
      have ab : ∀ t, t ≠ d → Env.get ((d, v) :: e) t = e.get t := fun t ht => Env.IW (d := some d) (by simpa using fun h => ht h.symm)
      have bx : Env.get ((d, v) :: e) d = some v := Env.KN
      refine cp (i :: seen) ((d, v) :: e) F L (⟨i, o, d, ek, v, F, Ls⟩ :: done) A M a w E ea ho.next au ?_ hc dm
      refine ⟨h.size, fun j hj => ?_, fun j hj => ?_, fun y hy => h.Nn y (List.mem_cons_of_mem _ hy), fun z val ad j hj => h.early z val ad j (List.mem_cons_of_mem _ hj), h.Wh, fun x hx => ?_, fun z val ad j hj av => ?_, h.Ti, h.ag, fun t u ht => ?_, fun y hy aa d' bc => ?_, fun y hy aa j hj => ?_, fun rc ah => ?_, fun y hy => ?_, h.dc, h.st⟩
      · rcases List.mem_cons.1 hj with rfl | hj
        · exact ho.lt
        · exact h.MU j hj
      · rcases List.mem_cons.1 hj with rfl | hj
        · exact .inr ⟨_, List.mem_cons_self .., rfl⟩
        · exact (h.N0 j hj).imp id fun ⟨rc, h1, h2⟩ => ⟨rc, List.mem_cons_of_mem _ h1, h2⟩
      · obtain ⟨z, val, ad, h1, h2⟩ := h.OH x hx
        exact ⟨z, val, ad, (List.mem_cons.1 h1).resolve_left (by simp), h2⟩
      · obtain ⟨p1, p2⟩ := h.pre z val ad j (List.mem_cons_of_mem _ hj) (fun hm => av ((List.mem_cons.1 hm).resolve_left (by simp)))
        refine ⟨fun t u ht => ?_, fun rc ah u hu => ?_⟩
        · have := p1 t u ht
          rw [ab t (fun he => by rw [he, m5] at this; cases this)]; exact this
        · rcases List.mem_cons.1 ah with rfl | ah
          · have := p1 _ _ hu; rw [m5] at this; cases this
          · exact p2 rc ah u hu
      · by_cases hd : t = d
        · subst hd
          exact .inr ⟨_, List.mem_cons_self .., rfl, hA⟩
        · rw [ab t hd] at ht
          exact (h.off t u ht).imp id fun ⟨rc, h1, h2⟩ => ⟨rc, List.mem_cons_of_mem _ h1, h2⟩
      · have ak : d' ≠ d := fun he => ho.dst rfl y hy aa (by rw [bc, dn, he])
        rw [ab d' ak]; exact h.V1 y (List.mem_cons_of_mem _ hy) aa d' bc
      · rcases List.mem_cons.1 hj with rfl | hj
        · exact ho.dst rfl y hy aa
        · exact h.Ww y (List.mem_cons_of_mem _ hy) aa j hj
      · rcases List.mem_cons.1 ah with rfl | ah
        · refine ⟨m1, m2, m3, m4, bx, fun t u ht => ?_, fun P8 ae u hu => ?_, m8, AY.refl F, m9, List.mem_cons_self ..⟩
          rotate_left
          · rcases List.mem_cons.1 ae with rfl | ae
            · have := m6 _ _ hu; rw [m5] at this; cases this
            · exact MN m7 P8 ae u hu
          have := m6 t u ht
          rw [ab t (fun he => by rw [he, m5] at this; cases this)]; exact this
        · obtain ⟨q1, q2, q3, q4, q5, q6, q7, q8, q9, Wp, bz⟩ := h.T0 rc ah
          refine ⟨q1, q2, q3, q4, ?_, fun t u ht => ?_, fun P8 ae u hu => ?_, q8, q9, Wp, List.mem_cons_of_mem _ bz⟩
          rotate_right
          · rcases List.mem_cons.1 ae with rfl | ae
            · have := q6 _ _ hu; rw [m5] at this; cases this
            · exact q7 P8 ae u hu
          · rw [ab _ (fun he => by rw [he, m5] at q5; cases q5)]; exact q5
          · have := q6 t u ht
            rw [ab t (fun he => by rw [he, m5] at this; cases this)]; exact this
      · intro hm
        rcases List.mem_cons.1 hm with he | hm
        · exact ho.ne rfl y hy he
        · exact h.sep y (List.mem_cons_of_mem _ hy) hm
    | pre =>
      obtain ⟨⟨ek, m1, m2, m3⟩, m4⟩ := hM
      refine cp seen e F L done A M a w E ea (by have := ho.next; exact this) au ?_ hc m4
      refine ⟨h.size, h.MU, h.N0, fun y hy => h.Nn y (List.mem_cons_of_mem _ hy), fun z val ad j hj => h.early z val ad j (List.mem_cons_of_mem _ hj), h.Wh, fun x hx => ?_, fun z val ad j hj av => ?_, h.Ti, h.ag, h.off, fun y hy => h.V1 y (List.mem_cons_of_mem _ hy), fun y hy => h.Ww y (List.mem_cons_of_mem _ hy), h.T0, fun y hy => h.sep y (List.mem_cons_of_mem _ hy), h.dc, h.st⟩
      · obtain ⟨z, val, ad, h1, h2⟩ := h.OH x hx
        exact ⟨z, val, ad, (List.mem_cons.1 h1).resolve_left (by simp), h2⟩
      · by_cases bn : j = i
        · subst bn
          have := JU _ _ ho.next z val ad j hj
          rw [m1] at this
          obtain rfl := Option.some.inj this
          exact ⟨m2, MN m3⟩
        · exact h.pre z val ad j (List.mem_cons_of_mem _ hj) (fun hm => by
            rcases List.mem_cons.1 hm with hm | hm
            · rw [Prod.mk.injEq] at hm; exact bn hm.2
            · exact av hm)
    | alloc z val ek =>
      cases hA : A.getD i true with
      | false =>
        obtain ⟨f, rfl⟩ := ba hA
        exact ⟨bb hA, fun j hj => ay f rfl rfl rfl hA j hj fun _ => rfl⟩
      | true =>
        obtain ⟨d0, b, hE, cr⟩ := h.early z val ek i (List.mem_cons_self ..) hA
        obtain ⟨d, hd, k⟩ := hM
        have : d0 = d := by rw [cr] at hd; exact Option.some.inj hd
        subst this
        obtain ⟨e1, e2, _⟩ := h.Wh _ hE
        have bo : e.get d0 = none := h.V1 _ (List.mem_cons_self ..) rfl d0 cr
        obtain ⟨E1, E2, rfl⟩ := List.append_of_mem hE
        have bq := h.Ti
        rw [List.map_append, List.map_cons, List.nodup_append] at bq
        have ak : ∀ x ∈ E1 ++ E2, x.1 ≠ i := fun x hx he => by
          rcases List.mem_append.1 hx with hx | hx
          · exact bq.2.2 x.1 (List.mem_map.2 ⟨x, hx, rfl⟩) i (List.mem_cons_self ..) he
          · exact (List.nodup_cons.1 bq.2.1).1 (List.mem_map.2 ⟨x, hx, he⟩)
        have ab : ∀ t v, t ≠ d0 → Env.get ((d0, v) :: e) t = e.get t := fun t v ht => Env.IW (d := some d0) (by simpa using fun h => ht h.symm)
        have ca : ∀ x, x ∈ E1 ++ E2 → x ∈ E1 ++ (i, d0, b, z, val b) :: E2 := fun x hx => by
          rcases List.mem_append.1 hx with hx | hx
          · exact List.mem_append_left _ hx
          · exact List.mem_append_right _ (List.mem_cons_of_mem _ hx)
        refine cp (i :: seen) ((d0, val b) :: e) F ((b, z) :: L) done A M a w (E1 ++ E2) ea ho.next (Ts au) ?_ hc (k b e2)
        refine ⟨h.size, fun j hj => ?_, fun j hj => ?_, fun y hy => h.Nn y (List.mem_cons_of_mem _ hy), fun z' aq ad j hj dp => ?_, fun x hx => h.Wh x (ca x hx), fun x hx => ?_, fun z' aq ad j hj av => ?_, ?_, h.ag, fun t u ht => ?_, fun y hy aa d' bc => ?_, fun y hy aa j hj => ?_, fun rc ah => ?_, fun y hy => ?_, h.dc, ?_⟩
        · rcases List.mem_cons.1 hj with rfl | hj
          · exact ho.lt
          · exact h.MU j hj
        · rcases List.mem_cons.1 hj with rfl | hj
          · exact .inl hA
          · exact h.N0 j hj
        · obtain ⟨d', b', h1, h2⟩ := h.early z' aq ad j (List.mem_cons_of_mem _ hj) dp
          refine ⟨d', b', ?_, h2⟩
          rcases List.mem_append.1 h1 with h1 | h1
          · exact List.mem_append_left _ h1
          · rcases List.mem_cons.1 h1 with h1 | h1
            · exfalso; rw [Prod.mk.injEq] at h1; exact ho.ne rfl _ hj h1.1
            · exact List.mem_append_right _ h1
        · obtain ⟨z', aq, ad, h1, h2⟩ := h.OH x (ca x hx)
          exact ⟨z', aq, ad, (List.mem_cons.1 h1).resolve_left (fun he => ak x hx (by rw [Prod.mk.injEq] at he; exact he.2)), h2⟩
        · obtain ⟨p1, p2⟩ := h.pre z' aq ad j (List.mem_cons_of_mem _ hj) (fun hm => av ((List.mem_cons.1 hm).resolve_left (by simp)))
          refine ⟨fun t u ht => ?_, p2⟩
          have := p1 t u ht
          rw [ab t _ (fun he => by rw [he, bo] at this; cases this)]; exact this
        · rw [List.map_append, List.nodup_append]
          exact ⟨bq.1, (List.nodup_cons.1 bq.2.1).2, fun x hx y hy => bq.2.2 x hx y (List.mem_cons_of_mem _ hy)⟩
        · by_cases da : t = d0
          · subst da
            have : Env.get ((t, val b) :: e) t = some (val b) := Env.KN
            rw [this] at ht
            exact .inl (by rw [← ht]; exact e1)
          · rw [ab t _ da] at ht
            exact h.off t u ht
        · have ct : d' ≠ d0 := fun he => ho.dst rfl y hy aa (by rw [bc, cr, he])
          rw [ab d' _ ct]; exact h.V1 y (List.mem_cons_of_mem _ hy) aa d' bc
        · rcases List.mem_cons.1 hj with rfl | hj
          · exact ho.dst rfl y hy aa
          · exact h.Ww y (List.mem_cons_of_mem _ hy) aa j hj
        · obtain ⟨q1, q2, q3, q4, q5, q6, q7, q8, q9, Wp, bz⟩ := h.T0 rc ah
          refine ⟨q1, q2, q3, q4, ?_, fun t u ht => ?_, q7, fun p hp => List.mem_cons_of_mem _ (q8 p hp), q9, Wp, List.mem_cons_of_mem _ bz⟩
          · rw [ab _ _ (fun he => by rw [he, bo] at q5; cases q5)]; exact q5
          · have := q6 t u ht
            rw [ab t _ (fun he => by rw [he, bo] at this; cases this)]; exact this
        · intro hm
          rcases List.mem_cons.1 hm with he | hm
          · exact ho.ne rfl y hy he
          · exact h.sep y (List.mem_cons_of_mem _ hy) hm
        · have bm := h.st
          refine HX.perm (L := L ++ (M.map Cc ++ (Ny (E1 ++ (i, d0, b, z, val b) :: E2) ++ K.H0))) ?_ ?_
          · have h5 := HX.KG bm
            have h6 := HX.own bm
            exact ⟨bm.FP, bm.Nr, bm.fold, h6, h5⟩
          · show (L ++ (M.map Cc ++ (Ny (E1 ++ (i, d0, b, z, val b) :: E2) ++ K.H0))).Perm ((b, z) :: (L ++ (M.map Cc ++ (Ny (E1 ++ E2) ++ K.H0))))
            have h1 : (L ++ (M.map Cc ++ (Ny (E1 ++ (i, d0, b, z, val b) :: E2) ++ K.H0))) = (L ++ M.map Cc ++ Ny E1) ++ (b, z) :: (Ny E2 ++ K.H0) := by simp [Ny]
            have h2 : (L ++ (M.map Cc ++ (Ny (E1 ++ E2) ++ K.H0))) = (L ++ M.map Cc ++ Ny E1) ++ (Ny E2 ++ K.H0) := by simp [Ny]
            rw [h1, h2]
            exact List.perm_middle
    | seq =>
      have hA : A.getD i true = false := h.Nn _ (List.mem_cons_self ..) rfl
      obtain ⟨f, rfl⟩ := ba hA
      refine ⟨bb hA, fun j hj => ?_⟩
      by_cases bn : j = i
      · subst bn
        obtain ⟨o, ek, m1, m2, m3, m4, m5⟩ := hM
        obtain ⟨h1, h2, h3⟩ := mem_ready.1 hj
        have dg := QR h.size h1 h2
        have cu := h.sub m3 (MN m4) h3
        have cb : ∀ i', (A.setIfInBounds j true).getD i' true = if j = i' then true else A.getD i' true := fun i' => Kx (by rw [h.size]; exact h1)
        have hw := m5 (Ny E ++ K.H0) M a w (h.ag.weaken cu) h.st
        have cv : Fb ops j = o.dst := by simp [Fb, m1]
        have cc : ∀ a' w', (∃ v, a'.tmps = (a.put o.dst v).tmps) → (∃ M2 e2 F2 L2, Ag N M2 e2 a' ∧ St ⟨K.w0, K.F0, K.X, Ny E ++ K.H0⟩ M2 F2 L2 w' ∧ ∃ v, e2 = ek.put o.dst v ∧ AY F F2 ∧ ∃ ki : List Nat, ((done.map (·.k)).all fun j' => ki.contains j' || (WO ops j).contains j') = true ∧ ((ki = [] ∨ ∀ d, o.dst = some d → e.get d = none) ∨ Qy o.dst (done.filter fun rc => ki.contains rc.k) = true) ∧ (∀ rc ∈ done.filter fun rc => ki.contains rc.k, ∀ p ∈ rc.Ls, p ∈ L2) ∧
            Oq P N r K ops (fun e F L => Qp .normal e F L) l (e.put o.dst v) F2 L2 (done.filter fun rc => ki.contains rc.k)) → wpAnyIn (HO r) 0 P .any ops (lift N K Qp) f (A.setIfInBounds j true) a' w' := by
          rintro a' w' ⟨v', bu⟩ ⟨M2, e2, F2, L2, bp, cw, v, rfl, hF, ki, dq, cx, bg, db⟩
          generalize cd : (done.filter fun rc => ki.contains rc.k) = aj at bg db
          have dr : Ag N M2 (ea.put o.dst v) a' := by
            refine ⟨bp.ds, bp.size, fun t u ht => ?_⟩
            rcases Env.Tb ht with ⟨he, rfl⟩ | ⟨ak, hg⟩
            · exact bp.get t u (by rw [he]; exact Env.KN)
            · have dd := h.ag.get t u hg
              rw [bu]
              cases dt : o.dst with
              | none => exact dd
              | some d =>
                rw [dt] at ak
                simp only [Act.put]
                rw [Array.getElem?_setIfInBounds_ne (by simpa using ak)]
                exact dd
          refine ih f (by omega) l (j :: seen) (e.put o.dst v) F2 L2 aj _ M2 a' w' E (ea.put o.dst v) ho.next au ?_ (by omega) db
          have du : ∀ i' ∈ WO ops j, i' < ops.size ∧ A.getD i' true = true := NZ (p := fun i' => i' < ops.size ∧ A.getD i' true = true) h.dc 4 _ (Nh h.size h3)
          have bh : ∀ rc ∈ done, A.getD rc.k true = false → rc ∈ aj := fun rc ah hl => by
            have hk := List.all_eq_true.1 dq rc.k (List.mem_map.2 ⟨rc, ah, rfl⟩)
            rw [Bool.or_eq_true] at hk
            rcases hk with hk | hk
            · rw [← cd]; exact List.mem_filter.2 ⟨ah, hk⟩
            · have := (du rc.k (by simpa using hk)).2
              rw [hl] at this; cases this
          refine ⟨by simpa using h.size, fun i' ai => ?_, fun i' ai => ?_, fun y hy aa => ?_, fun z val ad i' ai de => ?_, fun x hx => ?_, fun x hx => ?_, fun z val ad i' ai av => ?_, h.Ti, dr, fun t u ht => ?_, fun y hy aa d' bc => ?_, fun y hy aa i' ai => ?_, fun rc ah => ?_, fun y hy => ?_, Sf h.size h1 (Nh h.size h3) h.dc, cw⟩
          · rcases List.mem_cons.1 ai with rfl | ai
            · exact ho.lt
            · exact h.MU i' ai
          · rw [cb]
            rcases List.mem_cons.1 ai with rfl | ai
            · exact .inl (if_pos rfl)
            · split
              · exact .inl rfl
              · rcases h.N0 i' ai with h4 | ⟨rc, h4, h5⟩
                · exact .inl h4
                · cases hl : A.getD i' true with
                  | true => exact .inl rfl
                  | false => exact .inr ⟨rc, bh rc h4 (by rw [h5]; exact hl), h5⟩
          · rw [cb, if_neg (show ¬ (j = y.2) from fun he => ho.ne rfl y hy he.symm)]; exact h.Nn y (List.mem_cons_of_mem _ hy) aa
          · rw [cb, if_neg (show ¬ (j = i') from fun he => ho.ne rfl _ ai he.symm)] at de
            exact h.early z val ad i' (List.mem_cons_of_mem _ ai) de
          · obtain ⟨g1, g2, g3⟩ := h.Wh x hx
            refine ⟨?_, g2, g3⟩
            rw [Env.IW]; exact g1
            intro he
            obtain ⟨z, val, ad, h4, _⟩ := h.OH x hx
            have h5 := (List.mem_cons.1 h4).resolve_left (by simp)
            exact ho.dst rfl _ h5 rfl (by rw [g3, cv, he])
          · obtain ⟨z, val, ad, h4, h5⟩ := h.OH x hx
            exact ⟨z, val, ad, (List.mem_cons.1 h4).resolve_left (by simp), by rw [cb]; split; rfl; exact h5⟩
          · obtain ⟨p1, p2⟩ := h.pre z val ad i' (List.mem_cons_of_mem _ ai) (fun hm => av ((List.mem_cons.1 hm).resolve_left (by simp)))
            refine ⟨fun t u ht => ?_, fun rc ah => p2 rc (List.mem_filter.1 (cd ▸ ah : rc ∈ done.filter fun rc => ki.contains rc.k)).1⟩
            rw [Env.IW]; exact p1 t u ht
            intro he
            refine ho.ks rfl _ ai t (by rw [cv, he]) (Env.get_mem ht)
          · rcases Env.Tb ht with ⟨he, rfl⟩ | ⟨ak, hg⟩
            · exact .inl (by rw [he]; exact Env.KN)
            · rcases h.off t u hg with h4 | ⟨rc, h4, h5, h6⟩
              · exact .inl (by rw [Env.IW ak]; exact h4)
              · refine .inr ⟨rc, bh rc h4 h6, h5, ?_⟩
                rw [cb, if_neg ?_]; exact h6
                intro he
                exact bl (he ▸ (h.T0 rc h4).2.2.2.2.2.2.2.2.2.2)
          · have ak : o.dst ≠ some d' := fun he => ho.dst rfl y hy aa (by rw [bc, cv, he])
            rw [Env.IW ak]; exact h.V1 y (List.mem_cons_of_mem _ hy) aa d' bc
          · rcases List.mem_cons.1 ai with rfl | ai
            · exact ho.dst rfl y hy aa
            · exact h.Ww y (List.mem_cons_of_mem _ hy) aa i' ai
          · have ae := ah
            rw [← cd] at ae
            obtain ⟨dv, dw⟩ := List.mem_filter.1 ae
            obtain ⟨q1, q2, q3, q4, q5, q6, q7, q8, q9, Wp, bz⟩ := h.T0 rc dv
            have cf : e.get rc.d = some rc.v → (e.put o.dst v).get rc.d = some rc.v → (e.put o.dst v).sub rc.ek → ops[rc.k]? = some rc.o ∧ rc.o.dst = some rc.d ∧ Op.EX rc.o.op = false ∧ Nat.ble (rc.d + 1) N = true ∧ (e.put o.dst v).get rc.d = some rc.v ∧ (e.put o.dst v).sub rc.ek ∧ (∀ P8 ∈ aj, ∀ u, rc.ek.get P8.d = some u → P8.k ∈ N7 ops rc.k) ∧ (∀ p ∈ rc.Ls, p ∈ L2) ∧ AY rc.F F2 ∧ Still P N K ops rc.o rc.ek rc.F rc.Ls rc.v ∧ rc.k ∈ j :: seen := fun _ h5 h6 =>
              ⟨q1, q2, q3, q4, h5, h6, fun P8 ae => q7 P8 (List.mem_filter.1 (cd ▸ ae : P8 ∈ done.filter fun rc => ki.contains rc.k)).1, bg rc ah, q9.trans hF, Wp, List.mem_cons_of_mem _ bz⟩
            rcases cx with (rfl | bo) | bo
            · simp at dw
            · have cg : ∀ t u, e.get t = some u → (e.put o.dst v).get t = some u := fun t u ht => by
                rw [Env.IW]; exact ht
                intro he
                have := bo t he
                rw [this] at ht; cases ht
              exact cf q5 (cg _ _ q5) (fun t u ht => cg t u (q6 t u ht))
            · obtain ⟨f1, f2⟩ := RU (cd ▸ bo : Qy o.dst aj = true) rc ah
              exact cf q5 (by rw [Env.IW f1]; exact q5) (fun t u ht => by rw [Env.IW (f2 t u ht)]; exact q6 t u ht)
          · intro hm
            rcases List.mem_cons.1 hm with he | hm
            · exact ho.ne rfl y hy he
            · exact h.sep y (List.mem_cons_of_mem _ hy) hm
        unfold wpOpIn
        simp only [m1]
        unfold wpListIn at hw
        split at hw
        · rename_i ar
          rw [if_pos ar]
          refine LP (fun a' w' hn hv => ?_) (fun _ _ _ hq => hq.1) hw
          exact cc a' w' hv hn.2
        · rename_i ar
          rw [if_neg ar]
          exact ⟨hw.1, cc _ _ ⟨undef, rfl⟩ hw.2.2⟩
      · exact ay f rfl rfl rfl hA j hj fun he => absurd he bn
def preB (ord : List (Kd × Nat)) : Bool := ord.all fun y => !y.1.Ef || ord.any fun x => x.1.JW && x.2 == y.2
theorem Tj {ord : List (Kd × Nat)} (h : preB ord = true) : ∀ z val ek i, (Kd.alloc z val ek, i) ∈ ord → (Kd.pre, i) ∈ ord := fun z val ek i hi => by
  have := List.all_eq_true.1 h _ hi
  simp only [Kd.Ef, Bool.not_true, Bool.false_or, List.any_eq_true, Bool.and_eq_true, beq_iff_eq] at this
  obtain ⟨⟨k, j⟩, h1, h2, h3⟩ := this
  have h4 : k = .pre := by cases k <;> first | rfl | cases h2
  have h5 : j = i := h3
  rw [h4, h5] at h1; exact h1
theorem Gb {P : Program} {N : Nat} {d : Option Nat} {ty : TypeId} {pos : String} {after : Array Edge} {ek : Env} {T : TypeId} {z : Value} (hz : ∀ w, (zeroValue T).run P w = .ok z w) : Uh P N ⟨d, .alloc T, ty, pos, after, none⟩ ek (.cells z.cells T (0, 0)) (fun b => .pointer (some ⟨b, 0, none⟩)) := fun M a w _ => by
  simp [execOp, Instr.alloc, hz, newVar, newRow, newObj, Sem.run]
theorem Ua {P : Program} {N : Nat} {d : Option Nat} {ty : TypeId} {pos : String} {after : Array Edge} {ek : Env} {T E n : Nat} {parts : Array (Nat × Operand)} {vs : List (Nat × Value)} {cs : Array Value} (hp : parts.toList.mapM (fun p => (ev ek p.2).map fun v => (p.1, v)) = some vs)
    (hb : ∀ w, (Instr.buildSlice T n vs.toArray).run P w = .ok (.slice (some ⟨w.heap.size, 0, none⟩) n n) (w.alloc (.cells cs E))) : Uh P N ⟨d, .buildSlice T n parts, ty, pos, after, none⟩ ek (.cells cs E (0, 0)) (fun b => .slice (some ⟨b, 0, none⟩) n n) := fun M a w ha => by
  have key : ∀ (l : List (Nat × Operand)) (vs : List (Nat × Value)), l.mapM (fun p => (ev ek p.2).map fun v => (p.1, v)) = some vs → l.map (fun p => (p.1, a.eval p.2)) = vs := by
    intro l
    induction l with
    | nil => intro vs h; simpa using h
    | cons x l ih =>
      intro vs h
      simp only [List.mapM_cons, Option.bind_eq_bind, Option.bind_eq_some_iff, Option.pure_def, Option.some.injEq, Option.map_eq_some_iff] at h
      obtain ⟨p, ⟨v, hv, rfl⟩, aa, ab, rfl⟩ := h
      simp [ha.ev hv, ih aa ab]
  have e1 : parts.map (fun p => (p.1, a.eval p.2)) = vs.toArray := Array.ext' (by rw [Array.toList_map]; exact key _ _ hp)
  have e2 : (parts.map fun (i, x) => (i, a.eval x)) = vs.toArray := e1
  simp [execOp, e2, hb]
theorem Jz {P : Program} {N : Nat} {d : Option Nat} {ty : TypeId} {pos : String} {after : Array Edge} {ek : Env} {T E sz bytes : Nat} {x : Operand} {z : Value} {n : Int} (hT : GL P T E sz z bytes) (af : bytes ≤ 134217728) (hx : ev ek x = some (.int .i64 n)) (hn : 0 ≤ n ∧ n ≤ 1048576) :
    Uh P N ⟨d, .makeSlice T x x, ty, pos, after, none⟩ ek (.cells (madeCells z.cells (n.toNat * sz)) E (0, 0)) (fun b => .slice (some ⟨b, 0, none⟩) n.toNat n.toNat) := fun M a w ha => by
  have hmul : (bytes : Int) * n ≤ 134217728 * 1048576 := Int.mul_le_mul (by omega) hn.2 hn.1 (by decide)
  obtain ⟨i, aa, ab, ad, ae⟩ := hT.info
  subst ad; subst ae
  have hr := run_make (P := P) w T E i z hT.R7 aa ab .i64 .i64 n n hn.1 (Int.le_refl _) (by omega) (by omega)
  simp [execOp, ha.ev hx, hr]
def YG (ops : Array Oper) (e : Env) (ord : List (Kd × Nat)) : Bool := ord.all fun y => !y.1.Ef || match Fb ops y.2 with | some d => (e.get d).isNone | none => true
theorem Un {e : Env} {ord : List (Kd × Nat)} (h : YG ops e ord = true) : ∀ y ∈ ord, y.1.Ef = true → ∀ d, Fb ops y.2 = some d → e.get d = none := fun y hy ha d hd => by
  have := List.all_eq_true.1 h y hy
  rw [ha, hd] at this
  simpa using this
theorem CF {Qp : HE} {id : Nat} {l : List Oper} {e : Env} {F : FS} {L : LH} (ord : List (Kd × Nat)) (hm : P.follows .mixedOrders = true) (h0 : JR l.toArray ord [] = true) (ah : RG P N l.toArray ord)
    (ab : YG l.toArray e ord = true) (aa : preB ord = true) (h : Oq P N r K l.toArray (fun e F L => Qp .normal e F L) ord e F L []) : Gh P N r K (.region id l.toArray true) Qp e F L := fun M a w ha hs => by
  have ai := Un ab
  have ad := Tj aa
  refine wpIn_region_any hm ?_
  refine TB (Qp := Qp) h0 _ ord [] e F L [] _ M a _ [] e h0 ah ?_ (by unfold WG; exact Nat.le_trans (List.length_filter_le ..) (by simp)) h
  have hA : ∀ i, i < l.toArray.size → (Array.replicate l.toArray.size false).getD i true = false := fun i hi => by
    have : i < l.length := by simpa using hi
    simp [Array.getD, this]
  have ae : ∀ y ∈ ord, y.2 < l.toArray.size := by
    have : ∀ (ord : List (Kd × Nat)) (seen : List Nat), JR l.toArray ord seen = true → ∀ y ∈ ord, y.2 < l.toArray.size := by
      intro ord
      induction ord with
      | nil => intro _ _ y hy; simp at hy
      | cons x ord ih =>
        intro seen hS y hy
        obtain ⟨kd, i⟩ := x
        have ho := Gf hS
        rcases List.mem_cons.1 hy with rfl | hy
        · exact ho.lt
        · exact ih _ ho.next y hy
    exact this ord [] h0
  refine ⟨by simp, fun i hi => by simp at hi, fun i hi => by simp at hi, fun y hy _ => hA _ (ae y hy), fun z val ek i hi af => (by rw [hA i (ae _ hi)] at af; cases af), fun x hx => by simp at hx, fun x hx => by simp at hx, fun z val ek i hi aj => absurd (ad z val ek i hi) aj, by simp, ha, fun t u ht => .inl ht, ai, fun y hy _ j hj => by simp at hj, fun rc ak => by simp at ak, fun y hy => by simp, fun i hi => (by rw [hA i hi.1] at hi; cases hi.2), ?_⟩
  exact hs.drew
variable {l : List (Kd × Nat)} {e : Env} {F : FS} {L : LH} {done : List Rec} {i d : Nat} {op : Op} {ty : TypeId} {pos : String} {after : Array Edge} {v : Value}
theorem JK {L' : LH} (h : L = L') (k : Oq P N r K ops Q l e F L' done) : Oq P N r K ops Q l e F L done := h ▸ k
theorem Us {ek : Env} {Ls : LH} (ho : ops[i]? = some ⟨some d, op, ty, pos, after, none⟩) (aa : Op.EX op = false) (hd : Nat.ble (d + 1) N = true) (hf : e.get d = none) (ab : e.sub ek) (ad : MW ops i ek done = true) (ae : ∀ p ∈ Ls, p ∈ L)
    (h : ∀ H F' L', AY F F' → (∀ p ∈ Ls, p ∈ L') → FC P N ⟨K.w0, K.F0, K.X, H⟩ ek F' L' op ty v) (k : Oq P N r K ops Q l ((d, v) :: e) F L (⟨i, ⟨some d, op, ty, pos, after, none⟩, d, ek, v, F, Ls⟩ :: done)) :
    Oq P N r K ops Q ((.still, i) :: l) e F L done :=
  ⟨_, d, ek, v, Ls, ho, rfl, aa, hd, hf, ab, ad, ae, fun H M a w F' L' hF hL ha hs => .inl ⟨by simp [Region.wanted], h H F' L' hF hL M a w _ _ _ _ ha hs⟩, k⟩
theorem Km {ek : Env} {Ls : LH} {j : Nat} {b : Bool} (dj : Nat) (ho : ops[i]? = some ⟨some d, op, ty, pos, after, some (j, b)⟩) (hj : (ops[j]?).bind (·.dst) = some dj) (hb : ek.get dj = some (.bool b)) (aa : Op.EX op = false) (hd : Nat.ble (d + 1) N = true) (hf : e.get d = none) (ab : e.sub ek) (ad : MW ops i ek done = true) (ae : ∀ p ∈ Ls, p ∈ L)
    (h : ∀ H F' L', AY F F' → (∀ p ∈ Ls, p ∈ L') → FC P N ⟨K.w0, K.F0, K.X, H⟩ ek F' L' op ty v) (k : Oq P N r K ops Q l ((d, v) :: e) F L (⟨i, ⟨some d, op, ty, pos, after, some (j, b)⟩, d, ek, v, F, Ls⟩ :: done)) :
    Oq P N r K ops Q ((.still, i) :: l) e F L done :=
  ⟨_, d, ek, v, Ls, ho, rfl, aa, hd, hf, ab, ad, ae, fun H M a w F' L' hF hL ha hs => .inl ⟨by simp [Region.wanted, yielded, hj, ha.get _ _ hb], h H F' L' hF hL M a w _ _ _ _ ha hs⟩, k⟩
theorem GF {ek : Env} {j : Nat} {b b' : Bool} (dj : Nat) (ho : ops[i]? = some ⟨some d, op, ty, pos, after, some (j, b)⟩) (hj : (ops[j]?).bind (·.dst) = some dj) (hb : ek.get dj = some (.bool b')) (ae : (b' == b) = false) (aa : Op.EX op = false) (hd : Nat.ble (d + 1) N = true) (hf : e.get d = none) (ab : e.sub ek) (ad : MW ops i ek done = true)
    (k : Oq P N r K ops Q l ((d, undef) :: e) F L (⟨i, ⟨some d, op, ty, pos, after, some (j, b)⟩, d, ek, undef, F, []⟩ :: done)) :
    Oq P N r K ops Q ((.still, i) :: l) e F L done :=
  ⟨_, d, ek, undef, [], ho, rfl, aa, hd, hf, ab, ad, fun p hp => by simp at hp, fun H M a w F' L' hF hL ha hs => .inr ⟨by
    simp only [Region.wanted, yielded, hj, Option.bind_some, ha.get _ _ hb]
    cases b <;> cases b' <;> simp_all, rfl⟩, k⟩
theorem Has.ext {F F' : FS} {L L' : LH} {b : Nat} {c : Array Value} (h : Has F L b c) (hF : AY F F') (hL : ∀ p ∈ L, p ∈ L') : Has F' L' b c := h.imp fun _ h => h.imp fun _ h => h.imp (hF _ _) (hL _)
end
end Go.SH
