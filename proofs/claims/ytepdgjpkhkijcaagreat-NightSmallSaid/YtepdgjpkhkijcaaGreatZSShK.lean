/- The calculus, part K: regions that draw their order, with operations that turn the state. The walk goes in one order; it serves all. -/
import Derived.Test.YtepdgjpkhkijcaaGreatZSShJ
namespace Go.SH
theorem JC {Fe : Fence} {n : Nat} {P : Program} {o : Oper} {a : Act} {w : World} {next next' : Act → World → Prop} {Q Q' : Exit → Act → World → Prop}
    (hn : ∀ a' w', next a' w' → (∃ v, a'.tmps = (a.put o.dst v).tmps) → next' a' w') (hq : ∀ e a w, Q e a w → e = .normal) (h : o.wpIn Fe n P a w next Q) : o.wpIn Fe n P a w next' Q' := by
  have a6 : LetsOut Q → LetsOut Q' := fun ⟨a, w, h⟩ => by cases hq _ _ _ h
  unfold Oper.wpIn at h ⊢
  refine ⟨h.1, ?_⟩
  have h2 := h.2
  unfold Oper.uponIn at h2 ⊢
  split at h2
  · exact hn _ _ h2 ⟨_, rfl⟩
  · exact hn _ _ h2 ⟨_, rfl⟩
  · exact hn _ _ h2 ⟨undef, by cases o.dst <;> rfl⟩
  · exact ⟨h2.1, h2.2.mono fun e w' hR => by cases e <;> first | exact hn _ _ hR ⟨_, rfl⟩ | cases hq _ _ _ hR | exact a6 hR⟩
  · exact ⟨h2.1, h2.2.mono fun v w h => hn _ _ h ⟨_, rfl⟩⟩
  · exact ⟨h2.1, h2.2.mono fun e w' hR => by cases e <;> first | exact hn _ _ hR ⟨_, rfl⟩ | cases hq _ _ _ hR | exact a6 hR⟩
  · cases hq _ _ _ h2
  · exact h2
inductive Kd
  | still
  | alloc (z : Obj) (val : Nat → Value) (ek : Env)
  | seq
  | pre
def Kd.Dy : Kd → Bool
  | .alloc _ _ _ => true
  | _ => false
def Kd.JP : Kd → Bool
  | .pre => true
  | _ => false
def Kd.QO : Kd → Bool
  | .seq => true
  | _ => false
def Kd.keys : Kd → List Nat
  | .alloc _ _ ek => ek.map Prod.fst
  | _ => []
def Kd.Og : Kd → Bool
  | .still => true
  | _ => false
def LC (ops : Array Oper) (i : Nat) : List Nat := match ops[i]? with
  | some o => (o.after.toList.filter (Region.binds .any)).map (·.on)
  | none => []
def DT (ops : Array Oper) (i : Nat) : Option Nat := (ops[i]?).bind (·.dst)
theorem mem_ready {ops : Array Oper} {A : Array Bool} {i : Nat} : i ∈ Region.ready .any ops A ↔ i < ops.size ∧ A.getD i true = false ∧ ∀ j ∈ LC ops i, A.getD j false = true := by
  unfold Region.ready LC
  simp only [List.mem_filter, List.mem_range, Bool.and_eq_true, Bool.not_eq_true']
  constructor
  · rintro ⟨h1, h2, h3⟩
    refine ⟨h1, h2, fun j hj => ?_⟩
    have ho : ops[i]? = some ops[i] := Array.getElem?_eq_getElem h1
    rw [ho] at h3 hj
    simp only [Option.map_some, Option.getD_some, Array.all_eq_true_iff_forall_mem] at h3
    simp only [List.mem_map, List.mem_filter, Array.mem_toList_iff] at hj
    obtain ⟨e, ⟨he, hb⟩, rfl⟩ := hj
    have := h3 e he
    simpa [hb] using this
  · rintro ⟨h1, h2, h3⟩
    refine ⟨h1, h2, ?_⟩
    have ho : ops[i]? = some ops[i] := Array.getElem?_eq_getElem h1
    rw [ho] at h3 ⊢
    simp only [Option.map_some, Option.getD_some, Array.all_eq_true_iff_forall_mem]
    intro e he
    cases hb : Region.binds .any e with
    | false => simp
    | true =>
      simp only [Bool.not_true, Bool.false_or]
      refine h3 _ ?_
      simp only [List.mem_map, List.mem_filter, Array.mem_toList_iff]
      exact ⟨e, ⟨he, hb⟩, rfl⟩
def JI (ops : Array Oper) : List (Kd × Nat) → List Nat → Bool
  | [], seen => (List.range ops.size).all seen.contains
  | (kd, i) :: l, seen => Nat.blt i ops.size && ((LC ops i).all seen.contains && ((!kd.QO || l.all fun y => match DT ops i with | some d => !y.1.keys.contains d | none => true) &&
    ((kd.Og || (kd.JP || l.all fun y => y.1.Dy || (LC ops y.2).any fun d => d == i || l.any fun x => !x.1.Dy && x.2 == d)) &&
    ((kd.JP || l.all (fun y => !y.1.Dy || !(DT ops y.2 == DT ops i))) && ((kd.JP || l.all (fun y => !(y.2 == i))) && JI ops l (if kd.JP then seen else i :: seen))))))
structure QU (ops : Array Oper) (kd : Kd) (i : Nat) (l : List (Kd × Nat)) (seen : List Nat) : Prop where
  lt : i < ops.size
  LC : ∀ j ∈ LC ops i, j ∈ seen
  ks : kd.QO = true → ∀ y ∈ l, ∀ d, DT ops i = some d → d ∉ y.1.keys
  blocked : kd.Og = false → kd.JP = false → ∀ y ∈ l, y.1.Dy = false → ∃ d ∈ Go.SH.LC ops y.2, d = i ∨ ∃ x ∈ l, x.1.Dy = false ∧ x.2 = d
  dst : kd.JP = false → ∀ y ∈ l, y.1.Dy = true → DT ops y.2 ≠ DT ops i
  ne : kd.JP = false → ∀ y ∈ l, y.2 ≠ i
  next : JI ops l (if kd.JP then seen else i :: seen) = true
theorem Fo {ops : Array Oper} {kd : Kd} {i : Nat} {l : List (Kd × Nat)} {seen : List Nat} (h : JI ops ((kd, i) :: l) seen = true) : QU ops kd i l seen := by
  simp only [JI, Bool.and_eq_true] at h
  obtain ⟨h1, h2, h3, h4, h5, h7, h6⟩ := h
  refine ⟨by simpa using h1, fun j hj => ?_, fun hk y hy d hd => ?_, fun hk a6 y hy aa => ?_, fun a6 y hy aa => ?_, fun a6 y hy => ?_, h6⟩
  · simpa using List.all_eq_true.1 h2 j hj
  · rw [hk, hd] at h3
    simp only [Bool.not_true, Bool.false_or] at h3
    simpa using List.all_eq_true.1 h3 y hy
  · rw [hk, a6] at h4
    simp only [Bool.false_or] at h4
    have := List.all_eq_true.1 h4 y hy
    rw [aa] at this
    simp only [Bool.false_or, List.any_eq_true, Bool.or_eq_true, beq_iff_eq, Bool.and_eq_true, Bool.not_eq_true'] at this
    exact this
  · rw [a6] at h5
    simp only [Bool.false_or] at h5
    have := List.all_eq_true.1 h5 y hy
    rw [aa] at this
    simpa using this
  · rw [a6] at h7
    simp only [Bool.false_or] at h7
    simpa using List.all_eq_true.1 h7 y hy
theorem I5 {A : Array Bool} {i : Nat} (h : i < A.size) : A.getD i true = A.getD i false := by simp [Array.getD, h]
theorem KV {ops : Array Oper} {A : Array Bool} (a6 : A.size = ops.size) (hr : Region.ready .any ops A = []) : ∀ (l : List (Kd × Nat)) (seen : List Nat), JI ops l seen = true → (∀ i ∈ seen, i < ops.size ∧ A.getD i true = true) → ∀ i, i < ops.size → A.getD i true = true
  | [], seen, h, hs, i, hi => by
    simp only [JI, List.all_eq_true, List.mem_range] at h
    exact (hs i (by simpa using h i hi)).2
  | (kd, i0) :: l, seen, h, hs, i, hi => by
    have ho := Fo h
    cases hkp : kd.JP with
    | true => exact KV a6 hr l seen (by have := ho.next; rwa [hkp] at this) hs i hi
    | false =>
    refine KV a6 hr l (i0 :: seen) (by have := ho.next; rwa [hkp] at this) (fun j hj => ?_) i hi
    rcases List.mem_cons.1 hj with rfl | hj
    · refine ⟨ho.lt, ?_⟩
      cases hA : A.getD j true with
      | true => rfl
      | false =>
        have hm : j ∈ Region.ready .any ops A := mem_ready.2 ⟨ho.lt, hA, fun d hd => by
          obtain ⟨h1, h2⟩ := hs d (ho.LC d hd)
          rw [← I5 (by omega)]; exact h2⟩
        rw [hr] at hm; simp at hm
    · exact hs j hj
def Q3 (A : Array Bool) (n : Nat) : Nat := ((List.range n).filter fun i => !A.getD i true).length
theorem KB {A : Array Bool} {i j : Nat} (hi : i < A.size) : (A.setIfInBounds i true).getD j true = if i = j then true else A.getD j true := by
  simp only [Array.getD_eq_getD_getElem?, Array.getElem?_setIfInBounds]
  split
  · simp
  · rfl
theorem Ov {A : Array Bool} {n i : Nat} (hn : A.size = n) (hi : i < n) (h : A.getD i true = false) : Q3 (A.setIfInBounds i true) n < Q3 A n := by
  unfold Q3
  have hle : ∀ l : List Nat, (l.filter fun j => !(A.setIfInBounds i true).getD j true).length ≤ (l.filter fun j => !A.getD j true).length ∧ (i ∈ l → (l.filter fun j => !(A.setIfInBounds i true).getD j true).length < (l.filter fun j => !A.getD j true).length) := by
    intro l
    induction l with
    | nil => simp
    | cons x l ih =>
      rw [List.filter_cons, List.filter_cons, KB (by omega)]
      by_cases hx : i = x
      · subst hx
        simp only [if_true, h, Bool.not_true, Bool.not_false, Bool.false_eq_true, if_false, List.length_cons]
        exact ⟨by have := ih.1; omega, fun _ => by have := ih.1; omega⟩
      · rw [if_neg hx]
        split
        · simp only [List.length_cons]
          exact ⟨by have := ih.1; omega, fun hm => by
            have := ih.2 ((List.mem_cons.1 hm).resolve_left hx); omega⟩
        · exact ⟨ih.1, fun hm => ih.2 ((List.mem_cons.1 hm).resolve_left hx)⟩
  exact (hle _).2 (List.mem_range.2 hi)
structure Rec where
  k : Nat
  o : Oper
  d : Nat
  ek : Env
  v : Value
  F : FS
  Ls : LH
def Still (P : Program) (N : Nat) (K : Ctx) (ops : Array Oper) (o : Oper) (e : Env) (F : FS) (Ls : LH) (v : Value) : Prop :=
  ∀ H M a w F' L', AN F F' → (∀ p ∈ Ls, p ∈ L') → Ag N M e a → St ⟨K.w0, K.F0, K.X, H⟩ M F' L' w →
    (Region.wanted o (yielded ops a.tmps) = true ∧ (execOp a.eval o).run P w = .ok (.value v) w) ∨ (Region.wanted o (yielded ops a.tmps) = false ∧ v = undef)
def Mr (ops : Array Oper) (i : Nat) (ek : Env) (done : List Rec) : Bool := done.all fun rc => !((ek.map Prod.fst).contains rc.d) || (LC ops i).contains rc.k
theorem Env.get_mem {e : Env} {t : Nat} {v : Value} (h : e.get t = some v) : t ∈ e.map Prod.fst := by
  induction e with
  | nil => simp [Env.get] at h
  | cons p e ih =>
    obtain ⟨k, u⟩ := p
    by_cases hk : k = t
    · simp [hk]
    · have hb : Nat.beq k t = false := ML hk
      simp only [Env.get, hb] at h
      exact List.mem_cons_of_mem _ (ih (by simpa using h))
theorem L8 {ops : Array Oper} {i : Nat} {ek : Env} {done : List Rec} (h : Mr ops i ek done = true) : ∀ rc ∈ done, ∀ u, ek.get rc.d = some u → rc.k ∈ LC ops i := fun rc a6 u hu => by
  have := List.all_eq_true.1 h rc a6
  rw [Bool.or_eq_true] at this
  rcases this with h1 | h1
  · have h2 := Env.get_mem hu
    have h3 : (ek.map Prod.fst).contains rc.d = true := List.contains_iff_mem.2 h2
    rw [h3] at h1; cases h1
  · simpa using h1
def Q7 (ops : Array Oper) : Nat → List Nat → List Nat
  | 0, l => l
  | f + 1, l => Q7 ops f (l ++ l.flatMap (LC ops)).eraseDups
def Q2 (ops : Array Oper) (i : Nat) : List Nat := Q7 ops 4 (LC ops i)
theorem MT {ops : Array Oper} {p : Nat → Prop} (hp : ∀ i, p i → ∀ j ∈ LC ops i, p j) : ∀ (f : Nat) (l : List Nat), (∀ i ∈ l, p i) → ∀ i ∈ Q7 ops f l, p i
  | 0, _, h => h
  | f + 1, l, h => MT hp f _ fun i hi => by
    rw [List.mem_eraseDups] at hi
    rcases List.mem_append.1 hi with hi | hi
    · exact h i hi
    · obtain ⟨j, hj, hi⟩ := List.mem_flatMap.1 hi
      exact hp j (h j hj) i hi
def MK : List (Kd × Nat) → Nat → Option Env
  | [], _ => none
  | (.alloc _ _ ek, j) :: l, i => if j = i then some ek else MK l i
  | _ :: l, i => MK l i
def Qa (P : Program) (N : Nat) (o : Oper) (ek : Env) (z : Obj) (val : Nat → Value) : Prop := ∀ M a w, Ag N M ek a → (execOp a.eval o).run P w = .ok (.value (val w.heap.size)) (w.alloc z)
def Ol (d : Option Nat) (l : List Rec) : Bool := match d with
  | none => true
  | some d => l.all fun rc => !Nat.beq rc.d d && !(rc.ek.map Prod.fst).contains d
theorem OT {d : Option Nat} {l : List Rec} (h : Ol d l = true) : ∀ rc ∈ l, d ≠ some rc.d ∧ ∀ t u, rc.ek.get t = some u → d ≠ some t := fun rc a6 => by
  cases d with
  | none => exact ⟨by simp, by simp⟩
  | some d =>
    have := List.all_eq_true.1 h rc a6
    rw [Bool.and_eq_true] at this
    refine ⟨fun he => ?_, fun t u hu he => ?_⟩
    · cases he
      rw [Nat.beq_refl] at this; cases this.1
    · cases he
      rw [List.contains_iff_mem.2 (Env.get_mem hu)] at this; cases this.2
def Nd (P : Program) (N : Nat) (r : Option Nat) (K : Ctx) (ops : Array Oper) (Q : Env → FS → LH → Prop) : List (Kd × Nat) → Env → FS → LH → List Rec → Prop
  | [], e, F, L, _ => Q e F L
  | (.still, i) :: l, e, F, L, done => ∃ (o : Oper) (d : Nat) (ek : Env) (v : Value) (Ls : LH), ops[i]? = some o ∧ o.dst = some d ∧ Op.Er o.op = false ∧ Nat.ble (d + 1) N = true ∧ e.get d = none ∧ e.sub ek ∧ Mr ops i ek done = true ∧ (∀ p ∈ Ls, p ∈ L) ∧
      Still P N K ops o ek F Ls v ∧ Nd P N r K ops Q l ((d, v) :: e) F L (⟨i, o, d, ek, v, F, Ls⟩ :: done)
  | (.alloc z val _, i) :: l, e, F, L, done => ∃ d, DT ops i = some d ∧ ∀ b, K.w0.heap.size ≤ b → Nd P N r K ops Q l ((d, val b) :: e) F ((b, z) :: L) done
  | (.pre, i) :: l, e, F, L, done => (∃ ek, MK l i = some ek ∧ e.sub ek ∧ Mr ops i ek done = true) ∧ Nd P N r K ops Q l e F L done
  | (.seq, i) :: l, e, F, L, done => ∃ (o : Oper) (ek : Env), ops[i]? = some o ∧ De N o.dst = true ∧ e.sub ek ∧ Mr ops i ek done = true ∧
      ∀ H, Cr P N r ⟨K.w0, K.F0, K.X, H⟩ ops (fun e' F' L' => ∃ v, e' = ek.put o.dst v ∧ AN F F' ∧ ∃ ki : List Nat, ((done.map (·.k)).all fun j => ki.contains j || (Q2 ops i).contains j) = true ∧ ((ki = [] ∨ ∀ d, o.dst = some d → e.get d = none) ∨ Ol o.dst (done.filter fun rc => ki.contains rc.k) = true) ∧ (∀ rc ∈ done.filter fun rc => ki.contains rc.k, ∀ p ∈ rc.Ls, p ∈ L') ∧
        Nd P N r K ops Q l (e.put o.dst v) F' L' (done.filter fun rc => ki.contains rc.k)) [o] ek F L
def RN (P : Program) (N : Nat) (ops : Array Oper) (i : Nat) (ek : Env) (z : Obj) (val : Nat → Value) : Prop := ∃ o d, ops[i]? = some o ∧ o.dst = some d ∧ o.guard = none ∧ Op.Er o.op = false ∧ Nat.ble (d + 1) N = true ∧ Qa P N o ek z val
def O1 (P : Program) (N : Nat) (ops : Array Oper) : List (Kd × Nat) → Prop
  | [] => True
  | (.alloc z val ek, i) :: l => RN P N ops i ek z val ∧ O1 P N ops l
  | _ :: l => O1 P N ops l
theorem Ll {P : Program} {N : Nat} {ops : Array Oper} : ∀ {l : List (Kd × Nat)}, O1 P N ops l → ∀ {z val ek i}, (Kd.alloc z val ek, i) ∈ l → RN P N ops i ek z val
  | [], _, _, _, _, _, hm => by simp at hm
  | (.still, _) :: l, h, _, _, _, _, hm => by
    rcases List.mem_cons.1 hm with h1 | h1
    · cases h1
    · exact Ll (l := l) h h1
  | (.seq, _) :: l, h, _, _, _, _, hm => by
    rcases List.mem_cons.1 hm with h1 | h1
    · cases h1
    · exact Ll (l := l) h h1
  | (.pre, _) :: l, h, _, _, _, _, hm => by
    rcases List.mem_cons.1 hm with h1 | h1
    · cases h1
    · exact Ll (l := l) h h1
  | (.alloc _ _ _, _) :: l, h, _, _, _, _, hm => by
    rcases List.mem_cons.1 hm with h1 | h1
    · cases h1; exact h.1
    · exact Ll (l := l) h.2 h1
theorem PF {P : Program} {N : Nat} {ops : Array Oper} {x : Kd × Nat} {l : List (Kd × Nat)} (h : O1 P N ops (x :: l)) : O1 P N ops l := by
  obtain ⟨kd, i⟩ := x
  cases kd <;> first | exact h | exact h.2
abbrev Q9 := Nat × Nat × Nat × Obj × Value
def Mv (E : List Q9) : LH := E.map fun x => (x.2.2.1, x.2.2.2.1)
structure NP (P : Program) (N : Nat) (K : Ctx) (ops : Array Oper) (l : List (Kd × Nat)) (seen : List Nat) (e : Env) (F : FS) (L : LH) (done : List Rec) (A : Array Bool) (M : List Nat) (a : Act) (w : World) (E : List Q9) (ea : Env) : Prop where
  size : A.size = ops.size
  Mf : ∀ i ∈ seen, i < ops.size
  MS : ∀ i ∈ seen, A.getD i true = true ∨ ∃ rc ∈ done, rc.k = i
  Mm : ∀ y ∈ l, y.1.Dy = false → A.getD y.2 true = false
  early : ∀ z val ek i, (Kd.alloc z val ek, i) ∈ l → A.getD i true = true → ∃ d b, (i, d, b, z, val b) ∈ E ∧ DT ops i = some d
  Q4 : ∀ x ∈ E, ea.get x.2.1 = some x.2.2.2.2 ∧ K.w0.heap.size ≤ x.2.2.1 ∧ DT ops x.1 = some x.2.1
  Nq : ∀ x ∈ E, ∃ z val ek, (Kd.alloc z val ek, x.1) ∈ l ∧ A.getD x.1 true = true
  pre : ∀ z val ek i, (Kd.alloc z val ek, i) ∈ l → (Kd.pre, i) ∉ l → e.sub ek ∧ ∀ rc ∈ done, ∀ u, ek.get rc.d = some u → rc.k ∈ LC ops i
  PW : (E.map (·.1)).Nodup
  ag : Ag N M ea a
  off : ∀ t u, e.get t = some u → ea.get t = some u ∨ ∃ rc ∈ done, rc.d = t ∧ A.getD rc.k true = false
  QR : ∀ y ∈ l, y.1.Dy = true → ∀ d, DT ops y.2 = some d → e.get d = none
  QX : ∀ y ∈ l, y.1.Dy = true → ∀ j ∈ seen, DT ops y.2 ≠ DT ops j
  PY : ∀ rc ∈ done, ops[rc.k]? = some rc.o ∧ rc.o.dst = some rc.d ∧ Op.Er rc.o.op = false ∧ Nat.ble (rc.d + 1) N = true ∧ e.get rc.d = some rc.v ∧ e.sub rc.ek ∧ (∀ NY ∈ done, ∀ u, rc.ek.get NY.d = some u → NY.k ∈ LC ops rc.k) ∧ (∀ p ∈ rc.Ls, p ∈ L) ∧ AN rc.F F ∧ Still P N K ops rc.o rc.ek rc.F rc.Ls rc.v ∧ rc.k ∈ seen
  sep : ∀ y ∈ l, y.2 ∉ seen
  dc : ∀ i, i < ops.size ∧ A.getD i true = true → ∀ j ∈ LC ops i, j < ops.size ∧ A.getD j true = true
  st : St ⟨K.w0, K.F0, K.X, Mv E ++ K.H0⟩ M F L w
theorem Ld {ops : Array Oper} : ∀ {l : List (Kd × Nat)} {seen : List Nat}, JI ops l seen = true → ∀ i, i < ops.size → i ∈ seen ∨ ∃ y ∈ l, y.2 = i
  | [], seen, h, i, hi => by
    simp only [JI, List.all_eq_true, List.mem_range] at h
    exact .inl (by simpa using h i hi)
  | (kd, i0) :: l, seen, h, i, hi => by
    rcases Ld (Fo h).next i hi with h1 | ⟨y, h1, h2⟩
    · cases hkp : kd.JP with
      | true => rw [hkp] at h1; exact .inl h1
      | false =>
        rw [hkp] at h1
        rcases List.mem_cons.1 h1 with rfl | h1
        · exact .inr ⟨_, List.mem_cons_self .., rfl⟩
        · exact .inl h1
    · exact .inr ⟨y, List.mem_cons_of_mem _ h1, h2⟩
theorem Nw {ops : Array Oper} : ∀ (l : List (Kd × Nat)) (seen : List Nat), JI ops l seen = true → ∀ x ∈ l, ∀ x' ∈ l, x.1.JP = false → x'.1.JP = false → x.2 = x'.2 → x = x'
  | [], _, _, x, hx, _, _, _, _, _ => by simp at hx
  | (kp, ip) :: l, seen, hS, x, hx, x', a6, aa, ab, he => by
    have hp := Fo hS
    rcases List.mem_cons.1 hx with rfl | hx <;> rcases List.mem_cons.1 a6 with rfl | a6
    · rfl
    · exact absurd he.symm (hp.ne aa _ a6)
    · exact absurd he (hp.ne ab _ hx)
    · exact Nw l _ hp.next x hx x' a6 aa ab he
theorem J3 {ops : Array Oper} : ∀ (l : List (Kd × Nat)) (seen : List Nat), JI ops l seen = true → ∀ z val ek i, (Kd.alloc z val ek, i) ∈ l → MK l i = some ek
  | [], _, _, _, _, _, _, h => by simp at h
  | (.alloc z' a6 aa, ip) :: l, seen, hS, z, val, ek, i, h => by
    have hp := Fo hS
    rcases List.mem_cons.1 h with h1 | h1
    · cases h1; simp [MK]
    · have := hp.ne rfl _ h1
      simp only [MK]
      rw [if_neg (fun he => this he.symm)]
      exact J3 l _ hp.next z val ek i h1
  | (.still, ip) :: l, seen, hS, z, val, ek, i, h => by
    rcases List.mem_cons.1 h with h1 | h1
    · cases h1
    · exact J3 l _ (Fo hS).next z val ek i h1
  | (.seq, ip) :: l, seen, hS, z, val, ek, i, h => by
    rcases List.mem_cons.1 h with h1 | h1
    · cases h1
    · exact J3 l _ (Fo hS).next z val ek i h1
  | (.pre, ip) :: l, seen, hS, z, val, ek, i, h => by
    rcases List.mem_cons.1 h with h1 | h1
    · cases h1
    · exact J3 l _ (Fo hS).next z val ek i h1
section
variable {P : Program} {N : Nat} {r : Option Nat} {K : Ctx} {ops : Array Oper} {Q : Env → FS → LH → Prop}
theorem Env.Ok {e : Env} {d : Option Nat} {v u : Value} {t : Nat} (h : (e.put d v).get t = some u) : (d = some t ∧ u = v) ∨ (d ≠ some t ∧ e.get t = some u) := by
  cases d with
  | none => exact .inr ⟨by simp, h⟩
  | some d =>
    by_cases hk : d = t
    · subst hk
      have : v = u := by simpa [Env.put, Env.get] using h
      exact .inl ⟨rfl, this.symm⟩
    · have hb : Nat.beq d t = false := ML hk
      refine .inr ⟨by simp [hk], by simpa [Env.put, Env.get, hb] using h⟩
theorem Env.JG {e : Env} {d : Nat} {v : Value} : (e.put (some d) v).get d = some v := by simp [Env.put, Env.get]
theorem Env.Im {e : Env} {d : Option Nat} {v : Value} {t : Nat} (h : d ≠ some t) : (e.put d v).get t = e.get t := by
  cases d with
  | none => rfl
  | some d =>
    have hb : Nat.beq d t = false := ML (fun he => h (by rw [he]))
    simp [Env.put, Env.get, hb]
theorem Pc {A : Array Bool} (aa : A.size = ops.size) {k : Nat} (hk : k < ops.size) (hr : ∀ j ∈ LC ops k, j < ops.size ∧ A.getD j true = true) (h : ∀ i, i < ops.size ∧ A.getD i true = true → ∀ j ∈ LC ops i, j < ops.size ∧ A.getD j true = true) :
    ∀ i, i < ops.size ∧ (A.setIfInBounds k true).getD i true = true → ∀ j ∈ LC ops i, j < ops.size ∧ (A.setIfInBounds k true).getD j true = true := by
  intro i hi j hj
  rw [KB (by omega)] at hi ⊢
  by_cases a6 : k = i
  · subst a6
    obtain ⟨h1, h2⟩ := hr j hj
    exact ⟨h1, by split; rfl; exact h2⟩
  · rw [if_neg a6] at hi
    obtain ⟨h1, h2⟩ := h i hi j hj
    exact ⟨h1, by split; rfl; exact h2⟩
theorem Mo {A : Array Bool} (aa : A.size = ops.size) {k : Nat} (hr : ∀ j ∈ LC ops k, A.getD j false = true) : ∀ j ∈ LC ops k, j < ops.size ∧ A.getD j true = true := fun j hj => by
  have h := hr j hj
  have a6 : j < A.size := by
    apply Classical.byContradiction
    intro hn
    simp [Array.getD, hn] at h
  exact ⟨by omega, by rw [I5 a6]; exact h⟩
theorem NP.sub {l : List (Kd × Nat)} {seen : List Nat} {e : Env} {F : FS} {L : LH} {done : List Rec} {A : Array Bool} {M : List Nat} {a : Act} {w : World} {E : List Q9} {ea : Env} (h : NP P N K ops l seen e F L done A M a w E ea)
    {i : Nat} {ek : Env} (he : e.sub ek) (a6 : ∀ NY ∈ done, ∀ u, ek.get NY.d = some u → NY.k ∈ LC ops i) (hr : ∀ j ∈ LC ops i, A.getD j false = true) : ea.sub ek := fun t u ht => by
  rcases h.off t u (he t u ht) with h1 | ⟨rc, h1, h2, h3⟩
  · exact h1
  · exfalso
    obtain ⟨r1, r2, _, _, _, _, _, _, _, _, r3⟩ := h.PY rc h1
    have hd : DT ops rc.k = some t := by simp [DT, r1, r2, h2]
    have := hr _ (a6 rc h1 u (by rw [h2]; exact ht))
    rw [← I5 (by rw [h.size]; exact h.Mf _ r3)] at this
    rw [h3] at this; cases this
theorem NP.late {l : List (Kd × Nat)} {seen : List Nat} {e : Env} {F : FS} {L : LH} {done : List Rec} {A : Array Bool} {M : List Nat} {a : Act} {w : World} {E : List Q9} {ea : Env} (h : NP P N K ops l seen e F L done A M a w E ea)
    {rc : Rec} (ai : rc ∈ done) (hr : ∀ j ∈ LC ops rc.k, A.getD j false = true) {Kc : Act → World → Prop} {Qc : Exit → Act → World → Prop}
    (k : NP P N K ops l seen e F L done (A.setIfInBounds rc.k true) M (a.put (some rc.d) rc.v) w E (ea.put (some rc.d) rc.v) → Kc (a.put (some rc.d) rc.v) w) :
    wpOpIn (GQ r) 0 P ops Qc rc.k Kc a w := by
  obtain ⟨r1, r2, r3, r4, r5, r6, r7, r8, r9, aj, aa⟩ := h.PY rc ai
  have ab := h.sub r6 r7 hr
  have a6 := aj (Mv E ++ K.H0) M a w F L r9 r8 (h.ag.weaken ab) h.st
  have ad := h.Mf _ aa
  have hA : ∀ j, (A.setIfInBounds rc.k true).getD j true = if rc.k = j then true else A.getD j true := fun j => KB (by rw [h.size]; exact ad)
  have ae : DT ops rc.k = some rc.d := by simp [DT, r1, r2]
  have hinv : NP P N K ops l seen e F L done (A.setIfInBounds rc.k true) M (a.put (some rc.d) rc.v) w E (ea.put (some rc.d) rc.v) := by
    refine ⟨by simpa using h.size, h.Mf, fun i hi => ?_, fun y hy ak => ?_, fun z val ek i hi ah => ?_, fun x hx => ?_, fun x hx => ?_, h.pre, h.PW, h.ag.put r4 rc.v, fun t u ht => ?_, h.QR, h.QX, h.PY, h.sep, Pc h.size ad (Mo h.size hr) h.dc, h.st⟩
    · rw [hA]; split
      · exact .inl rfl
      · exact h.MS i hi
    · rw [hA]
      have al : rc.k ≠ y.2 := fun he => h.sep y hy (he ▸ aa)
      rw [if_neg al]; exact h.Mm y hy ak
    · rw [hA, if_neg (show ¬ (rc.k = i) from fun he => h.sep _ hi (he ▸ aa))] at ah
      exact h.early z val ek i hi ah
    · obtain ⟨h1, h2, h3⟩ := h.Q4 x hx
      refine ⟨?_, h2, h3⟩
      rw [Env.Im]; exact h1
      intro he
      obtain ⟨z, val, ek, h4, h5⟩ := h.Nq x hx
      exact h.QX _ h4 rfl _ aa (by rw [h3, ae, he])
    · obtain ⟨z, val, ek, h4, h5⟩ := h.Nq x hx
      exact ⟨z, val, ek, h4, by rw [hA]; split; rfl; exact h5⟩
    · by_cases hd : rc.d = t
      · subst hd
        refine .inl ?_
        rw [Env.JG]; rw [r5] at ht; exact ht
      · rw [Env.Im (by simpa using hd)]
        rcases h.off t u ht with h1 | ⟨NY, h1, h2, h3⟩
        · exact .inl h1
        · refine .inr ⟨NY, h1, h2, ?_⟩
          rw [hA, if_neg ?_]; exact h3
          intro he
          obtain ⟨q1, q2, _⟩ := h.PY NY h1
          have : DT ops NY.k = some NY.d := by simp [DT, q1, q2]
          rw [← he, ae] at this
          exact hd (by rw [← h2]; exact Option.some.inj this)
  unfold wpOpIn
  simp only [r1]
  rcases a6 with ⟨hw, hx⟩ | ⟨hw, hx⟩
  · rw [if_pos hw]
    refine ⟨fun _ _ => trivial, ?_⟩
    rw [Oper.semAt_eq _ _ _ (Op.KK r3), hx, Oper.uponIn_value, r2]
    exact k hinv
  · rw [if_neg (by rw [hw]; exact Bool.false_ne_true), r2, ← hx]
    exact ⟨fun _ _ => trivial, k hinv⟩
theorem NP.RL {l : List (Kd × Nat)} {seen : List Nat} {e : Env} {F : FS} {L : LH} {done : List Rec} {A : Array Bool} {M : List Nat} {a : Act} {w : World} {E : List Q9} {ea : Env} (h : NP P N K ops l seen e F L done A M a w E ea) (av : O1 P N ops l)
    {z : Obj} {val : Nat → Value} {ek : Env} {i : Nat} (hi : (Kd.alloc z val ek, i) ∈ l) (ao : i < ops.size) (aw : A.getD i true = false) {Kc : Act → World → Prop} {Qc : Exit → Act → World → Prop}
    (ad : ∀ y ∈ l, y.1.Dy = true → y.2 ≠ i → DT ops y.2 ≠ DT ops i) (ab : ∀ y ∈ l, y.2 = i → y = (Kd.alloc z val ek, i)) (hr : ∀ j ∈ LC ops i, A.getD j false = true)
    (k : ∀ d w' E', NP P N K ops l seen e F L done (A.setIfInBounds i true) M (a.put (some d) (val w.heap.size)) w' E' (ea.put (some d) (val w.heap.size)) → Kc (a.put (some d) (val w.heap.size)) w') :
    wpOpIn (GQ r) 0 P ops Qc i Kc a w := by
  obtain ⟨o, d, ho, aq, ax, ay, hd, hz⟩ := Ll av hi
  have ae : (Kd.pre, i) ∉ l := fun hm => by cases ab _ hm rfl
  obtain ⟨az, ba⟩ := h.pre _ _ _ _ hi ae
  have aj := h.sub az ba hr
  have hA : ∀ j, (A.setIfInBounds i true).getD j true = if i = j then true else A.getD j true := fun j => KB (by rw [h.size]; exact ao)
  have ai : DT ops i = some d := by simp [DT, ho, aq]
  obtain ⟨a6, ak⟩ := Gm.push h.st z
  unfold wpOpIn
  simp only [ho]
  rw [if_pos (by simp [Region.wanted, ax])]
  refine ⟨fun _ _ => trivial, ?_⟩
  rw [Oper.semAt_eq _ _ _ (Op.KK ay)]
  have hex := hz M a w (h.ag.weaken aj)
  rw [hex, Oper.uponIn_value, aq]
  refine k d (w.alloc z) ((i, d, w.heap.size, z, val w.heap.size) :: E) ?_
  have ar : ∀ x ∈ E, x.1 ≠ i := fun x hx he => by
    obtain ⟨z', aa, ah, h1, h2⟩ := h.Nq x hx
    rw [he, aw] at h2; cases h2
  refine ⟨by simpa using h.size, h.Mf, fun j hj => ?_, fun y hy al => ?_, fun z' aa ah j hj au => ?_, fun x hx => ?_, fun x hx => ?_, h.pre, ?_, h.ag.put hd _, fun t u ht => ?_, h.QR, h.QX, h.PY, h.sep, Pc h.size ao (Mo h.size hr) h.dc, ?_⟩
  · rw [hA]; split
    · exact .inl rfl
    · exact h.MS j hj
  · rw [hA, if_neg ?_]; exact h.Mm y hy al
    intro he
    have := ab y hy he.symm
    rw [this] at al; cases al
  · by_cases he : i = j
    · subst he
      have := ab _ hj rfl
      simp only [Prod.mk.injEq, Kd.alloc.injEq, and_true] at this
      obtain ⟨rfl, rfl, rfl⟩ := this
      exact ⟨d, w.heap.size, List.mem_cons_self .., ai⟩
    · rw [hA, if_neg he] at au
      obtain ⟨d', b', h1, h2⟩ := h.early z' aa ah j hj au
      exact ⟨d', b', List.mem_cons_of_mem _ h1, h2⟩
  · rcases List.mem_cons.1 hx with rfl | hx
    · exact ⟨Env.JG, ak, ai⟩
    · obtain ⟨h1, h2, h3⟩ := h.Q4 x hx
      refine ⟨?_, h2, h3⟩
      rw [Env.Im]; exact h1
      intro he
      obtain ⟨z', aa, ah, h4, h5⟩ := h.Nq x hx
      exact ad _ h4 rfl (ar x hx) (by rw [h3, ai, he])
  · rcases List.mem_cons.1 hx with rfl | hx
    · exact ⟨z, val, ek, hi, by rw [hA, if_pos rfl]⟩
    · obtain ⟨z', aa, ah, h4, h5⟩ := h.Nq x hx
      exact ⟨z', aa, ah, h4, by rw [hA]; split; rfl; exact h5⟩
  · simp only [List.map_cons, List.nodup_cons]
    exact ⟨fun hm => by obtain ⟨x, hx, he⟩ := List.mem_map.1 hm; exact ar x hx he, h.PW⟩
  · have bb : d ≠ t := by
      rintro rfl
      have := h.QR _ hi rfl d ai
      rw [this] at ht; cases ht
    rcases h.off t u ht with h1 | ⟨rc, h1, h2, h3⟩
    · exact .inl (by rw [Env.Im (by simpa using bb)]; exact h1)
    · refine .inr ⟨rc, h1, h2, ?_⟩
      rw [hA, if_neg ?_]; exact h3
      intro he
      exact h.sep _ hi (he ▸ (h.PY rc h1).2.2.2.2.2.2.2.2.2.2)
  · show Gm _ F (L ++ (M.map Bn ++ (Mv ((i, d, w.heap.size, z, val w.heap.size) :: E) ++ K.H0))) _
    refine ⟨a6.EL, a6.LL, a6.fold, a6.own.perm ?_, fun p hp => a6.J5 p ?_⟩
    · show ((w.heap.size, z) :: (L ++ (M.map Bn ++ (Mv E ++ K.H0)))).Perm _
      have : (L ++ (M.map Bn ++ (Mv ((i, d, w.heap.size, z, val w.heap.size) :: E) ++ K.H0))) = (L ++ M.map Bn) ++ (w.heap.size, z) :: (Mv E ++ K.H0) := by simp [Mv]
      rw [this]
      have h2 : (L ++ (M.map Bn ++ (Mv E ++ K.H0))) = (L ++ M.map Bn) ++ (Mv E ++ K.H0) := by simp
      rw [h2]
      exact List.perm_middle.symm
    · have : p ∈ (w.heap.size, z) :: (L ++ (M.map Bn ++ (Mv E ++ K.H0))) := by
        simp only [Mv, List.mem_append, List.mem_cons, List.map_cons] at hp ⊢
        rcases hp with h1 | h1 | (h1 | h1) | h1
        · exact .inr (.inl h1)
        · exact .inr (.inr (.inl h1))
        · exact .inl h1
        · exact .inr (.inr (.inr (.inl h1)))
        · exact .inr (.inr (.inr (.inr h1)))
      exact this
theorem OQ {Qp : GK} {M : List Nat} {e : Env} {F : FS} {L : LH} {a : Act} {w : World} (ha : Ag N M e a) (hs : St K M F L w) (hq : Qp .normal e F L) : lift N K Qp .normal a w := ⟨M, e, F, L, ha, hs, hq⟩
theorem PI {Qp : GK} {bg : List (Kd × Nat)} (cw : JI ops bg [] = true) : ∀ (fuel : Nat) (l : List (Kd × Nat)) (seen : List Nat) (e : Env) (F : FS) (L : LH) (done : List Rec) (A : Array Bool) (M : List Nat) (a : Act) (w : World) (E : List Q9) (ea : Env),
    JI ops l seen = true → O1 P N ops l → NP P N K ops l seen e F L done A M a w E ea → Q3 A ops.size ≤ fuel → Nd P N r K ops (fun e F L => Qp .normal e F L) l e F L done →
    wpAnyIn (GQ r) 0 P .any ops (lift N K Qp) fuel A a w := by
  intro fuel
  induction fuel using Nat.strongRecOn with
  | _ fuel ih =>
  intro l
  induction l with
  | nil =>
    intro seen e F L done A M a w E ea hS ar h hc hM
    have hE : E = [] := by
      cases E with
      | nil => rfl
      | cons x E => obtain ⟨z, val, ek, h1, _⟩ := h.Nq x (List.mem_cons_self ..); simp at h1
    have aw : Region.ready .any ops A = [] → lift N K Qp .normal a w := fun hr => by
      have cj := KV h.size hr bg [] cw (by simp)
      subst hE
      refine OQ (h.ag.weaken fun t u ht => ?_) h.st hM
      rcases h.off t u ht with h1 | ⟨rc, h1, _, h3⟩
      · exact h1
      · have := cj rc.k (h.Mf _ (h.PY rc h1).2.2.2.2.2.2.2.2.2.2)
        rw [this] at h3; cases h3
    have bh : ∀ j ∈ Region.ready .any ops A, ∃ rc ∈ done, rc.k = j := fun j hj => by
      obtain ⟨h1, h2, h3⟩ := mem_ready.1 hj
      rcases Ld hS j h1 with h4 | ⟨y, h4, _⟩
      · rcases h.MS j h4 with h5 | h5
        · rw [h5] at h2; cases h2
        · exact h5
      · simp at h4
    cases fuel with
    | zero =>
      have hr : Region.ready .any ops A = [] := by
        rw [List.eq_nil_iff_forall_not_mem]
        intro j hj
        obtain ⟨h1, h2, _⟩ := mem_ready.1 hj
        have : j ∈ (List.range ops.size).filter fun i => !A.getD i true := by simp only [List.mem_filter, List.mem_range, h2]; exact ⟨h1, rfl⟩
        have hl : ((List.range ops.size).filter fun i => !A.getD i true).length = 0 := by unfold Q3 at hc; omega
        rw [List.length_eq_zero_iff.1 hl] at this; simp at this
      exact ⟨hr, aw hr⟩
    | succ fuel =>
      refine ⟨aw, fun j hj => ?_⟩
      obtain ⟨rc, ah, rfl⟩ := bh j hj
      obtain ⟨h1, h2, h3⟩ := mem_ready.1 hj
      refine h.late ah h3 fun hi => ?_
      exact ih fuel (by omega) [] seen e F L done _ M _ w E _ hS ar hi (by have := Ov h.size h1 h2; omega) hM
  | cons y l ck =>
    obtain ⟨kd, i⟩ := y
    intro seen e F L done A M a w E ea hS ar h hc hM
    have ho := Fo hS
    have bj : i ∉ seen := h.sep _ (List.mem_cons_self ..)
    -- what is ready
    have ax : ∀ ae, fuel = ae + 1 → kd.Og = false → kd.JP = false → A.getD i true = false → ∀ j ∈ Region.ready .any ops A, (j = i → kd.Dy = true) → wpOpIn (GQ r) 0 P ops (lift N K Qp) j (wpAnyIn (GQ r) 0 P .any ops (lift N K Qp) ae (A.setIfInBounds j true)) a w := by
      intro ae hf bk au dd j hj bl
      obtain ⟨h1, h2, h3⟩ := mem_ready.1 hj
      have de := Ov h.size h1 h2
      rcases Ld hS j h1 with h4 | ⟨y, h4, h5⟩
      · rcases h.MS j h4 with h5 | ⟨rc, ah, rfl⟩
        · rw [h5] at h2; cases h2
        · exact h.late ah h3 fun hi => ih ae (by omega) ((kd, i) :: l) seen e F L done _ M _ w E _ hS ar hi (by omega) hM
      · subst h5
        obtain ⟨ky, jy⟩ := y
        -- nothing else of the row is ready
        have cn : ∀ y ∈ l, y.1.Dy = false → y.2 = jy → False := fun y hy a6 he => by
          obtain ⟨d, hd, hb⟩ := ho.blocked bk au _ hy a6
          rw [he] at hd
          have av := h3 d hd
          have al : A.getD d true = false → False := fun hf => by
            by_cases cx : d < A.size
            · rw [I5 cx, av] at hf; cases hf
            · simp [Array.getD, cx] at hf
          rcases hb with rfl | ⟨x, hx, df, rfl⟩
          · exact al dd
          · exact al (h.Mm x (List.mem_cons_of_mem _ hx) df)
        have ay : ∀ y ∈ (kd, i) :: l, y.1.Dy = false → y.2 = jy → False := fun y hy a6 he => by
          rcases List.mem_cons.1 hy with rfl | hy
          · have := bl he.symm
            rw [this] at a6; cases a6
          · exact cn y hy a6 he
        cases hka : ky.Dy with
        | true =>
          cases ky with
          | alloc z val ek =>
            have bp : ∀ (l : List (Kd × Nat)) (seen : List Nat), JI ops l seen = true → ∀ x ∈ l, ∀ x' ∈ l, x.1.Dy = true → x'.1.Dy = true → x.2 ≠ x'.2 → DT ops x.2 ≠ DT ops x'.2 := by
              intro l
              induction l with
              | nil => intro _ _ x hx; simp at hx
              | cons p l dg =>
                intro seen hS x hx x' cg ha bq ak
                obtain ⟨kp, ip⟩ := p
                have hp := Fo hS
                have br : ∀ k : Kd, k.Dy = true → k.JP = false := fun k hk => by cases k <;> first | rfl | cases hk
                rcases List.mem_cons.1 hx with rfl | hx <;> rcases List.mem_cons.1 cg with rfl | cg
                · exact absurd rfl ak
                · exact (hp.dst (br _ ha) _ cg bq).symm
                · exact hp.dst (br _ bq) _ hx ha
                · exact dg _ hp.next x hx x' cg ha bq ak
            refine h.RL ar h4 h1 h2 (fun y hy a6 dh => bp _ _ hS y hy _ h4 a6 rfl dh) (fun y hy he => ?_) h3 fun d w' E' hi => ?_
            · cases a6 : y.1.Dy with
              | true => exact Nw _ _ hS y hy _ h4 (by cases hk : y.1 <;> rw [hk] at a6 <;> first | rfl | cases a6) rfl he
              | false => exact (ay y hy a6 he).elim
            · exact ih ae (by omega) ((kd, i) :: l) seen e F L done _ M _ w' E' _ hS ar hi (by omega) hM
          | still | seq | pre => cases hka
        | false => exact (ay _ h4 hka rfl).elim
    -- one that is not listed: something is ready
    have az : A.getD i true = false → ∃ ae, fuel = ae + 1 := fun hA => by
      cases fuel with
      | succ f => exact ⟨f, rfl⟩
      | zero =>
        exfalso
        have : i ∈ (List.range ops.size).filter fun i => !A.getD i true := by simp only [List.mem_filter, List.mem_range, hA]; exact ⟨ho.lt, rfl⟩
        have hl : ((List.range ops.size).filter fun i => !A.getD i true).length = 0 := by unfold Q3 at hc; omega
        rw [List.length_eq_zero_iff.1 hl] at this; simp at this
    have ba : A.getD i true = false → Region.ready .any ops A = [] → lift N K Qp .normal a w := fun hA hr => by
      have := KV h.size hr bg [] cw (by simp) i ho.lt
      rw [hA] at this; cases this
    cases kd with
    | still =>
      obtain ⟨o, d, ek, v, Ls, m1, m2, m3, m4, m5, m6, m7, m8, m9, di⟩ := hM
      have hA : A.getD i true = false := h.Mm _ (List.mem_cons_self ..) rfl
      have dk : DT ops i = some d := by simp [DT, m1, m2]
      have aa : ∀ t, t ≠ d → Env.get ((d, v) :: e) t = e.get t := fun t ht => Env.Im (d := some d) (by simpa using fun h => ht h.symm)
      have bu : Env.get ((d, v) :: e) d = some v := Env.JG
      refine ck (i :: seen) ((d, v) :: e) F L (⟨i, o, d, ek, v, F, Ls⟩ :: done) A M a w E ea ho.next ar ?_ hc di
      refine ⟨h.size, fun j hj => ?_, fun j hj => ?_, fun y hy => h.Mm y (List.mem_cons_of_mem _ hy), fun z val ab j hj => h.early z val ab j (List.mem_cons_of_mem _ hj), h.Q4, fun x hx => ?_, fun z val ab j hj au => ?_, h.PW, h.ag, fun t u ht => ?_, fun y hy a6 d' bb => ?_, fun y hy a6 j hj => ?_, fun rc ah => ?_, fun y hy => ?_, h.dc, h.st⟩
      · rcases List.mem_cons.1 hj with rfl | hj
        · exact ho.lt
        · exact h.Mf j hj
      · rcases List.mem_cons.1 hj with rfl | hj
        · exact .inr ⟨_, List.mem_cons_self .., rfl⟩
        · exact (h.MS j hj).imp id fun ⟨rc, h1, h2⟩ => ⟨rc, List.mem_cons_of_mem _ h1, h2⟩
      · obtain ⟨z, val, ab, h1, h2⟩ := h.Nq x hx
        exact ⟨z, val, ab, (List.mem_cons.1 h1).resolve_left (by simp), h2⟩
      · obtain ⟨p1, p2⟩ := h.pre z val ab j (List.mem_cons_of_mem _ hj) (fun hm => au ((List.mem_cons.1 hm).resolve_left (by simp)))
        refine ⟨fun t u ht => ?_, fun rc ah u hu => ?_⟩
        · have := p1 t u ht
          rw [aa t (fun he => by rw [he, m5] at this; cases this)]; exact this
        · rcases List.mem_cons.1 ah with rfl | ah
          · have := p1 _ _ hu; rw [m5] at this; cases this
          · exact p2 rc ah u hu
      · by_cases hd : t = d
        · subst hd
          exact .inr ⟨_, List.mem_cons_self .., rfl, hA⟩
        · rw [aa t hd] at ht
          exact (h.off t u ht).imp id fun ⟨rc, h1, h2⟩ => ⟨rc, List.mem_cons_of_mem _ h1, h2⟩
      · have ak : d' ≠ d := fun he => ho.dst rfl y hy a6 (by rw [bb, dk, he])
        rw [aa d' ak]; exact h.QR y (List.mem_cons_of_mem _ hy) a6 d' bb
      · rcases List.mem_cons.1 hj with rfl | hj
        · exact ho.dst rfl y hy a6
        · exact h.QX y (List.mem_cons_of_mem _ hy) a6 j hj
      · rcases List.mem_cons.1 ah with rfl | ah
        · refine ⟨m1, m2, m3, m4, bu, fun t u ht => ?_, fun NY ad u hu => ?_, m8, AN.refl F, m9, List.mem_cons_self ..⟩
          rotate_left
          · rcases List.mem_cons.1 ad with rfl | ad
            · have := m6 _ _ hu; rw [m5] at this; cases this
            · exact L8 m7 NY ad u hu
          have := m6 t u ht
          rw [aa t (fun he => by rw [he, m5] at this; cases this)]; exact this
        · obtain ⟨q1, q2, q3, q4, q5, q6, q7, q8, q9, bw, bx⟩ := h.PY rc ah
          refine ⟨q1, q2, q3, q4, ?_, fun t u ht => ?_, fun NY ad u hu => ?_, q8, q9, bw, List.mem_cons_of_mem _ bx⟩
          rotate_right
          · rcases List.mem_cons.1 ad with rfl | ad
            · have := q6 _ _ hu; rw [m5] at this; cases this
            · exact q7 NY ad u hu
          · rw [aa _ (fun he => by rw [he, m5] at q5; cases q5)]; exact q5
          · have := q6 t u ht
            rw [aa t (fun he => by rw [he, m5] at this; cases this)]; exact this
      · intro hm
        rcases List.mem_cons.1 hm with he | hm
        · exact ho.ne rfl y hy he
        · exact h.sep y (List.mem_cons_of_mem _ hy) hm
    | pre =>
      obtain ⟨⟨ek, m1, m2, m3⟩, m4⟩ := hM
      refine ck seen e F L done A M a w E ea (by have := ho.next; exact this) ar ?_ hc m4
      refine ⟨h.size, h.Mf, h.MS, fun y hy => h.Mm y (List.mem_cons_of_mem _ hy), fun z val ab j hj => h.early z val ab j (List.mem_cons_of_mem _ hj), h.Q4, fun x hx => ?_, fun z val ab j hj au => ?_, h.PW, h.ag, h.off, fun y hy => h.QR y (List.mem_cons_of_mem _ hy), fun y hy => h.QX y (List.mem_cons_of_mem _ hy), h.PY, fun y hy => h.sep y (List.mem_cons_of_mem _ hy), h.dc, h.st⟩
      · obtain ⟨z, val, ab, h1, h2⟩ := h.Nq x hx
        exact ⟨z, val, ab, (List.mem_cons.1 h1).resolve_left (by simp), h2⟩
      · by_cases bl : j = i
        · subst bl
          have := J3 _ _ ho.next z val ab j hj
          rw [m1] at this
          obtain rfl := Option.some.inj this
          exact ⟨m2, L8 m3⟩
        · exact h.pre z val ab j (List.mem_cons_of_mem _ hj) (fun hm => by
            rcases List.mem_cons.1 hm with hm | hm
            · rw [Prod.mk.injEq] at hm; exact bl hm.2
            · exact au hm)
    | alloc z val ek =>
      cases hA : A.getD i true with
      | false =>
        obtain ⟨f, rfl⟩ := az hA
        exact ⟨ba hA, fun j hj => ax f rfl rfl rfl hA j hj fun _ => rfl⟩
      | true =>
        obtain ⟨d0, b, hE, cp⟩ := h.early z val ek i (List.mem_cons_self ..) hA
        obtain ⟨d, hd, k⟩ := hM
        have : d0 = d := by rw [cp] at hd; exact Option.some.inj hd
        subst this
        obtain ⟨e1, e2, _⟩ := h.Q4 _ hE
        have bm : e.get d0 = none := h.QR _ (List.mem_cons_self ..) rfl d0 cp
        obtain ⟨E1, E2, rfl⟩ := List.append_of_mem hE
        have bo := h.PW
        rw [List.map_append, List.map_cons, List.nodup_append] at bo
        have ak : ∀ x ∈ E1 ++ E2, x.1 ≠ i := fun x hx he => by
          rcases List.mem_append.1 hx with hx | hx
          · exact bo.2.2 x.1 (List.mem_map.2 ⟨x, hx, rfl⟩) i (List.mem_cons_self ..) he
          · exact (List.nodup_cons.1 bo.2.1).1 (List.mem_map.2 ⟨x, hx, he⟩)
        have aa : ∀ t v, t ≠ d0 → Env.get ((d0, v) :: e) t = e.get t := fun t v ht => Env.Im (d := some d0) (by simpa using fun h => ht h.symm)
        have bz : ∀ x, x ∈ E1 ++ E2 → x ∈ E1 ++ (i, d0, b, z, val b) :: E2 := fun x hx => by
          rcases List.mem_append.1 hx with hx | hx
          · exact List.mem_append_left _ hx
          · exact List.mem_append_right _ (List.mem_cons_of_mem _ hx)
        refine ck (i :: seen) ((d0, val b) :: e) F ((b, z) :: L) done A M a w (E1 ++ E2) ea ho.next (PF ar) ?_ hc (k b e2)
        refine ⟨h.size, fun j hj => ?_, fun j hj => ?_, fun y hy => h.Mm y (List.mem_cons_of_mem _ hy), fun z' ao ab j hj dm => ?_, fun x hx => h.Q4 x (bz x hx), fun x hx => ?_, fun z' ao ab j hj au => ?_, ?_, h.ag, fun t u ht => ?_, fun y hy a6 d' bb => ?_, fun y hy a6 j hj => ?_, fun rc ah => ?_, fun y hy => ?_, h.dc, ?_⟩
        · rcases List.mem_cons.1 hj with rfl | hj
          · exact ho.lt
          · exact h.Mf j hj
        · rcases List.mem_cons.1 hj with rfl | hj
          · exact .inl hA
          · exact h.MS j hj
        · obtain ⟨d', b', h1, h2⟩ := h.early z' ao ab j (List.mem_cons_of_mem _ hj) dm
          refine ⟨d', b', ?_, h2⟩
          rcases List.mem_append.1 h1 with h1 | h1
          · exact List.mem_append_left _ h1
          · rcases List.mem_cons.1 h1 with h1 | h1
            · exfalso; rw [Prod.mk.injEq] at h1; exact ho.ne rfl _ hj h1.1
            · exact List.mem_append_right _ h1
        · obtain ⟨z', ao, ab, h1, h2⟩ := h.Nq x (bz x hx)
          exact ⟨z', ao, ab, (List.mem_cons.1 h1).resolve_left (fun he => ak x hx (by rw [Prod.mk.injEq] at he; exact he.2)), h2⟩
        · obtain ⟨p1, p2⟩ := h.pre z' ao ab j (List.mem_cons_of_mem _ hj) (fun hm => au ((List.mem_cons.1 hm).resolve_left (by simp)))
          refine ⟨fun t u ht => ?_, p2⟩
          have := p1 t u ht
          rw [aa t _ (fun he => by rw [he, bm] at this; cases this)]; exact this
        · rw [List.map_append, List.nodup_append]
          exact ⟨bo.1, (List.nodup_cons.1 bo.2.1).2, fun x hx y hy => bo.2.2 x hx y (List.mem_cons_of_mem _ hy)⟩
        · by_cases cy : t = d0
          · subst cy
            have : Env.get ((t, val b) :: e) t = some (val b) := Env.JG
            rw [this] at ht
            exact .inl (by rw [← ht]; exact e1)
          · rw [aa t _ cy] at ht
            exact h.off t u ht
        · have cq : d' ≠ d0 := fun he => ho.dst rfl y hy a6 (by rw [bb, cp, he])
          rw [aa d' _ cq]; exact h.QR y (List.mem_cons_of_mem _ hy) a6 d' bb
        · rcases List.mem_cons.1 hj with rfl | hj
          · exact ho.dst rfl y hy a6
          · exact h.QX y (List.mem_cons_of_mem _ hy) a6 j hj
        · obtain ⟨q1, q2, q3, q4, q5, q6, q7, q8, q9, bw, bx⟩ := h.PY rc ah
          refine ⟨q1, q2, q3, q4, ?_, fun t u ht => ?_, q7, fun p hp => List.mem_cons_of_mem _ (q8 p hp), q9, bw, List.mem_cons_of_mem _ bx⟩
          · rw [aa _ _ (fun he => by rw [he, bm] at q5; cases q5)]; exact q5
          · have := q6 t u ht
            rw [aa t _ (fun he => by rw [he, bm] at this; cases this)]; exact this
        · intro hm
          rcases List.mem_cons.1 hm with he | hm
          · exact ho.ne rfl y hy he
          · exact h.sep y (List.mem_cons_of_mem _ hy) hm
        · have bk := h.st
          refine Gm.perm (L := L ++ (M.map Bn ++ (Mv (E1 ++ (i, d0, b, z, val b) :: E2) ++ K.H0))) ?_ ?_
          · have h5 := Gm.J5 bk
            have h6 := Gm.own bk
            exact ⟨bk.EL, bk.LL, bk.fold, h6, h5⟩
          · show (L ++ (M.map Bn ++ (Mv (E1 ++ (i, d0, b, z, val b) :: E2) ++ K.H0))).Perm ((b, z) :: (L ++ (M.map Bn ++ (Mv (E1 ++ E2) ++ K.H0))))
            have h1 : (L ++ (M.map Bn ++ (Mv (E1 ++ (i, d0, b, z, val b) :: E2) ++ K.H0))) = (L ++ M.map Bn ++ Mv E1) ++ (b, z) :: (Mv E2 ++ K.H0) := by simp [Mv]
            have h2 : (L ++ (M.map Bn ++ (Mv (E1 ++ E2) ++ K.H0))) = (L ++ M.map Bn ++ Mv E1) ++ (Mv E2 ++ K.H0) := by simp [Mv]
            rw [h1, h2]
            exact List.perm_middle
    | seq =>
      have hA : A.getD i true = false := h.Mm _ (List.mem_cons_self ..) rfl
      obtain ⟨f, rfl⟩ := az hA
      refine ⟨ba hA, fun j hj => ?_⟩
      by_cases bl : j = i
      · subst bl
        obtain ⟨o, ek, m1, m2, m3, m4, m5⟩ := hM
        obtain ⟨h1, h2, h3⟩ := mem_ready.1 hj
        have de := Ov h.size h1 h2
        have cr := h.sub m3 (L8 m4) h3
        have ca : ∀ i', (A.setIfInBounds j true).getD i' true = if j = i' then true else A.getD i' true := fun i' => KB (by rw [h.size]; exact h1)
        have hw := m5 (Mv E ++ K.H0) M a w (h.ag.weaken cr) h.st
        have ct : DT ops j = o.dst := by simp [DT, m1]
        have cb : ∀ a' w', (∃ v, a'.tmps = (a.put o.dst v).tmps) → (∃ M2 e2 F2 L2, Ag N M2 e2 a' ∧ St ⟨K.w0, K.F0, K.X, Mv E ++ K.H0⟩ M2 F2 L2 w' ∧ ∃ v, e2 = ek.put o.dst v ∧ AN F F2 ∧ ∃ ki : List Nat, ((done.map (·.k)).all fun j' => ki.contains j' || (Q2 ops j).contains j') = true ∧ ((ki = [] ∨ ∀ d, o.dst = some d → e.get d = none) ∨ Ol o.dst (done.filter fun rc => ki.contains rc.k) = true) ∧ (∀ rc ∈ done.filter fun rc => ki.contains rc.k, ∀ p ∈ rc.Ls, p ∈ L2) ∧
            Nd P N r K ops (fun e F L => Qp .normal e F L) l (e.put o.dst v) F2 L2 (done.filter fun rc => ki.contains rc.k)) → wpAnyIn (GQ r) 0 P .any ops (lift N K Qp) f (A.setIfInBounds j true) a' w' := by
          rintro a' w' ⟨v', bq⟩ ⟨M2, e2, F2, L2, bn, cu, v, rfl, hF, ki, dp, cv, bc, cz⟩
          generalize cc : (done.filter fun rc => ki.contains rc.k) = aj at bc cz
          have dq : Ag N M2 (ea.put o.dst v) a' := by
            refine ⟨bn.ds, bn.size, fun t u ht => ?_⟩
            rcases Env.Ok ht with ⟨he, rfl⟩ | ⟨ak, hg⟩
            · exact bn.get t u (by rw [he]; exact Env.JG)
            · have da := h.ag.get t u hg
              rw [bq]
              cases dr : o.dst with
              | none => exact da
              | some d =>
                rw [dr] at ak
                simp only [Act.put]
                rw [Array.getElem?_setIfInBounds_ne (by simpa using ak)]
                exact da
          refine ih f (by omega) l (j :: seen) (e.put o.dst v) F2 L2 aj _ M2 a' w' E (ea.put o.dst v) ho.next ar ?_ (by omega) cz
          have dt : ∀ i' ∈ Q2 ops j, i' < ops.size ∧ A.getD i' true = true := MT (p := fun i' => i' < ops.size ∧ A.getD i' true = true) h.dc 4 _ (Mo h.size h3)
          have bd : ∀ rc ∈ done, A.getD rc.k true = false → rc ∈ aj := fun rc ah hl => by
            have hk := List.all_eq_true.1 dp rc.k (List.mem_map.2 ⟨rc, ah, rfl⟩)
            rw [Bool.or_eq_true] at hk
            rcases hk with hk | hk
            · rw [← cc]; exact List.mem_filter.2 ⟨ah, hk⟩
            · have := (dt rc.k (by simpa using hk)).2
              rw [hl] at this; cases this
          refine ⟨by simpa using h.size, fun i' ai => ?_, fun i' ai => ?_, fun y hy a6 => ?_, fun z val ab i' ai db => ?_, fun x hx => ?_, fun x hx => ?_, fun z val ab i' ai au => ?_, h.PW, dq, fun t u ht => ?_, fun y hy a6 d' bb => ?_, fun y hy a6 i' ai => ?_, fun rc ah => ?_, fun y hy => ?_, Pc h.size h1 (Mo h.size h3) h.dc, cu⟩
          · rcases List.mem_cons.1 ai with rfl | ai
            · exact ho.lt
            · exact h.Mf i' ai
          · rw [ca]
            rcases List.mem_cons.1 ai with rfl | ai
            · exact .inl (if_pos rfl)
            · split
              · exact .inl rfl
              · rcases h.MS i' ai with h4 | ⟨rc, h4, h5⟩
                · exact .inl h4
                · cases hl : A.getD i' true with
                  | true => exact .inl rfl
                  | false => exact .inr ⟨rc, bd rc h4 (by rw [h5]; exact hl), h5⟩
          · rw [ca, if_neg (show ¬ (j = y.2) from fun he => ho.ne rfl y hy he.symm)]; exact h.Mm y (List.mem_cons_of_mem _ hy) a6
          · rw [ca, if_neg (show ¬ (j = i') from fun he => ho.ne rfl _ ai he.symm)] at db
            exact h.early z val ab i' (List.mem_cons_of_mem _ ai) db
          · obtain ⟨g1, g2, g3⟩ := h.Q4 x hx
            refine ⟨?_, g2, g3⟩
            rw [Env.Im]; exact g1
            intro he
            obtain ⟨z, val, ab, h4, _⟩ := h.Nq x hx
            have h5 := (List.mem_cons.1 h4).resolve_left (by simp)
            exact ho.dst rfl _ h5 rfl (by rw [g3, ct, he])
          · obtain ⟨z, val, ab, h4, h5⟩ := h.Nq x hx
            exact ⟨z, val, ab, (List.mem_cons.1 h4).resolve_left (by simp), by rw [ca]; split; rfl; exact h5⟩
          · obtain ⟨p1, p2⟩ := h.pre z val ab i' (List.mem_cons_of_mem _ ai) (fun hm => au ((List.mem_cons.1 hm).resolve_left (by simp)))
            refine ⟨fun t u ht => ?_, fun rc ah => p2 rc (List.mem_filter.1 (cc ▸ ah : rc ∈ done.filter fun rc => ki.contains rc.k)).1⟩
            rw [Env.Im]; exact p1 t u ht
            intro he
            refine ho.ks rfl _ ai t (by rw [ct, he]) (Env.get_mem ht)
          · rcases Env.Ok ht with ⟨he, rfl⟩ | ⟨ak, hg⟩
            · exact .inl (by rw [he]; exact Env.JG)
            · rcases h.off t u hg with h4 | ⟨rc, h4, h5, h6⟩
              · exact .inl (by rw [Env.Im ak]; exact h4)
              · refine .inr ⟨rc, bd rc h4 h6, h5, ?_⟩
                rw [ca, if_neg ?_]; exact h6
                intro he
                exact bj (he ▸ (h.PY rc h4).2.2.2.2.2.2.2.2.2.2)
          · have ak : o.dst ≠ some d' := fun he => ho.dst rfl y hy a6 (by rw [bb, ct, he])
            rw [Env.Im ak]; exact h.QR y (List.mem_cons_of_mem _ hy) a6 d' bb
          · rcases List.mem_cons.1 ai with rfl | ai
            · exact ho.dst rfl y hy a6
            · exact h.QX y (List.mem_cons_of_mem _ hy) a6 i' ai
          · have ad := ah
            rw [← cc] at ad
            obtain ⟨du, dv⟩ := List.mem_filter.1 ad
            obtain ⟨q1, q2, q3, q4, q5, q6, q7, q8, q9, bw, bx⟩ := h.PY rc du
            have cd : e.get rc.d = some rc.v → (e.put o.dst v).get rc.d = some rc.v → (e.put o.dst v).sub rc.ek → ops[rc.k]? = some rc.o ∧ rc.o.dst = some rc.d ∧ Op.Er rc.o.op = false ∧ Nat.ble (rc.d + 1) N = true ∧ (e.put o.dst v).get rc.d = some rc.v ∧ (e.put o.dst v).sub rc.ek ∧ (∀ NY ∈ aj, ∀ u, rc.ek.get NY.d = some u → NY.k ∈ LC ops rc.k) ∧ (∀ p ∈ rc.Ls, p ∈ L2) ∧ AN rc.F F2 ∧ Still P N K ops rc.o rc.ek rc.F rc.Ls rc.v ∧ rc.k ∈ j :: seen := fun _ h5 h6 =>
              ⟨q1, q2, q3, q4, h5, h6, fun NY ad => q7 NY (List.mem_filter.1 (cc ▸ ad : NY ∈ done.filter fun rc => ki.contains rc.k)).1, bc rc ah, q9.trans hF, bw, List.mem_cons_of_mem _ bx⟩
            rcases cv with (rfl | bm) | bm
            · simp at dv
            · have cf : ∀ t u, e.get t = some u → (e.put o.dst v).get t = some u := fun t u ht => by
                rw [Env.Im]; exact ht
                intro he
                have := bm t he
                rw [this] at ht; cases ht
              exact cd q5 (cf _ _ q5) (fun t u ht => cf t u (q6 t u ht))
            · obtain ⟨f1, f2⟩ := OT (cc ▸ bm : Ol o.dst aj = true) rc ah
              exact cd q5 (by rw [Env.Im f1]; exact q5) (fun t u ht => by rw [Env.Im (f2 t u ht)]; exact q6 t u ht)
          · intro hm
            rcases List.mem_cons.1 hm with he | hm
            · exact ho.ne rfl y hy he
            · exact h.sep y (List.mem_cons_of_mem _ hy) hm
        unfold wpOpIn
        simp only [m1]
        unfold wpListIn at hw
        split at hw
        · rename_i aq
          rw [if_pos aq]
          refine JC (fun a' w' hn hv => ?_) (fun _ _ _ hq => hq.1) hw
          exact cb a' w' hv hn.2
        · rename_i aq
          rw [if_neg aq]
          exact ⟨hw.1, cb _ _ ⟨undef, rfl⟩ hw.2.2⟩
      · exact ax f rfl rfl rfl hA j hj fun he => absurd he bl
def preB (ord : List (Kd × Nat)) : Bool := ord.all fun y => !y.1.Dy || ord.any fun x => x.1.JP && x.2 == y.2
theorem PU {ord : List (Kd × Nat)} (h : preB ord = true) : ∀ z val ek i, (Kd.alloc z val ek, i) ∈ ord → (Kd.pre, i) ∈ ord := fun z val ek i hi => by
  have := List.all_eq_true.1 h _ hi
  simp only [Kd.Dy, Bool.not_true, Bool.false_or, List.any_eq_true, Bool.and_eq_true, beq_iff_eq] at this
  obtain ⟨⟨k, j⟩, h1, h2, h3⟩ := this
  have h4 : k = .pre := by cases k <;> first | rfl | cases h2
  have h5 : j = i := h3
  rw [h4, h5] at h1; exact h1
theorem EU {P : Program} {N : Nat} {d : Option Nat} {ty : TypeId} {pos : String} {after : Array Edge} {ek : Env} {T : TypeId} {z : Value} (hz : ∀ w, (zeroValue T).run P w = .ok z w) : Qa P N ⟨d, .alloc T, ty, pos, after, none⟩ ek (.cells z.cells T (0, 0)) (fun b => .pointer (some ⟨b, 0, none⟩)) := fun M a w _ => by
  simp [execOp, Instr.alloc, hz, newVar, newRow, newObj, Sem.run]
theorem Qg {P : Program} {N : Nat} {d : Option Nat} {ty : TypeId} {pos : String} {after : Array Edge} {ek : Env} {T E n : Nat} {parts : Array (Nat × Operand)} {vs : List (Nat × Value)} {cs : Array Value} (hp : parts.toList.mapM (fun p => (ev ek p.2).map fun v => (p.1, v)) = some vs)
    (hb : ∀ w, (Instr.buildSlice T n vs.toArray).run P w = .ok (.slice (some ⟨w.heap.size, 0, none⟩) n n) (w.alloc (.cells cs E))) : Qa P N ⟨d, .buildSlice T n parts, ty, pos, after, none⟩ ek (.cells cs E (0, 0)) (fun b => .slice (some ⟨b, 0, none⟩) n n) := fun M a w ha => by
  have key : ∀ (l : List (Nat × Operand)) (vs : List (Nat × Value)), l.mapM (fun p => (ev ek p.2).map fun v => (p.1, v)) = some vs → l.map (fun p => (p.1, a.eval p.2)) = vs := by
    intro l
    induction l with
    | nil => intro vs h; simpa using h
    | cons x l ih =>
      intro vs h
      simp only [List.mapM_cons, Option.bind_eq_bind, Option.bind_eq_some_iff, Option.pure_def, Option.some.injEq, Option.map_eq_some_iff] at h
      obtain ⟨p, ⟨v, hv, rfl⟩, a6, aa, rfl⟩ := h
      simp [ha.ev hv, ih a6 aa]
  have e1 : parts.map (fun p => (p.1, a.eval p.2)) = vs.toArray := Array.ext' (by rw [Array.toList_map]; exact key _ _ hp)
  have e2 : (parts.map fun (i, x) => (i, a.eval x)) = vs.toArray := e1
  simp [execOp, e2, hb]
theorem Ou {P : Program} {N : Nat} {d : Option Nat} {ty : TypeId} {pos : String} {after : Array Edge} {ek : Env} {T E sz bytes : Nat} {x : Operand} {z : Value} {n : Int} (hT : FR P T E sz z bytes) (ae : bytes ≤ 134217728) (hx : ev ek x = some (.int .i64 n)) (hn : 0 ≤ n ∧ n ≤ 1048576) :
    Qa P N ⟨d, .makeSlice T x x, ty, pos, after, none⟩ ek (.cells (madeCells z.cells (n.toNat * sz)) E (0, 0)) (fun b => .slice (some ⟨b, 0, none⟩) n.toNat n.toNat) := fun M a w ha => by
  have hmul : (bytes : Int) * n ≤ 134217728 * 1048576 := Int.mul_le_mul (by omega) hn.2 hn.1 (by decide)
  obtain ⟨i, a6, aa, ab, ad⟩ := hT.info
  subst ab; subst ad
  have hr := run_make (P := P) w T E i z hT.PA a6 aa .i64 .i64 n n hn.1 (Int.le_refl _) (by omega) (by omega)
  simp [execOp, ha.ev hx, hr]
def RM (ops : Array Oper) (e : Env) (ord : List (Kd × Nat)) : Bool := ord.all fun y => !y.1.Dy || match DT ops y.2 with | some d => (e.get d).isNone | none => true
theorem P4 {e : Env} {ord : List (Kd × Nat)} (h : RM ops e ord = true) : ∀ y ∈ ord, y.1.Dy = true → ∀ d, DT ops y.2 = some d → e.get d = none := fun y hy ha d hd => by
  have := List.all_eq_true.1 h y hy
  rw [ha, hd] at this
  simpa using this
theorem Bd {Qp : GK} {id : Nat} {l : List Oper} {e : Env} {F : FS} {L : LH} (ord : List (Kd × Nat)) (hm : P.follows .mixedOrders = true) (h0 : JI l.toArray ord [] = true) (ah : O1 P N l.toArray ord)
    (aa : RM l.toArray e ord = true) (a6 : preB ord = true) (h : Nd P N r K l.toArray (fun e F L => Qp .normal e F L) ord e F L []) : EO P N r K (.region id l.toArray true) Qp e F L := fun M a w ha hs => by
  have ai := P4 aa
  have ab := PU a6
  refine wpIn_region_any hm ?_
  refine PI (Qp := Qp) h0 _ ord [] e F L [] _ M a _ [] e h0 ah ?_ (by unfold Q3; exact Nat.le_trans (List.length_filter_le ..) (by simp)) h
  have hA : ∀ i, i < l.toArray.size → (Array.replicate l.toArray.size false).getD i true = false := fun i hi => by
    have : i < l.length := by simpa using hi
    simp [Array.getD, this]
  have ad : ∀ y ∈ ord, y.2 < l.toArray.size := by
    have : ∀ (ord : List (Kd × Nat)) (seen : List Nat), JI l.toArray ord seen = true → ∀ y ∈ ord, y.2 < l.toArray.size := by
      intro ord
      induction ord with
      | nil => intro _ _ y hy; simp at hy
      | cons x ord ih =>
        intro seen hS y hy
        obtain ⟨kd, i⟩ := x
        have ho := Fo hS
        rcases List.mem_cons.1 hy with rfl | hy
        · exact ho.lt
        · exact ih _ ho.next y hy
    exact this ord [] h0
  refine ⟨by simp, fun i hi => by simp at hi, fun i hi => by simp at hi, fun y hy _ => hA _ (ad y hy), fun z val ek i hi ae => (by rw [hA i (ad _ hi)] at ae; cases ae), fun x hx => by simp at hx, fun x hx => by simp at hx, fun z val ek i hi aj => absurd (ab z val ek i hi) aj, by simp, ha, fun t u ht => .inl ht, ai, fun y hy _ j hj => by simp at hj, fun rc ak => by simp at ak, fun y hy => by simp, fun i hi => (by rw [hA i hi.1] at hi; cases hi.2), ?_⟩
  exact hs.drew
variable {l : List (Kd × Nat)} {e : Env} {F : FS} {L : LH} {done : List Rec} {i d : Nat} {op : Op} {ty : TypeId} {pos : String} {after : Array Edge} {v : Value}
theorem Jp {L' : LH} (h : L = L') (k : Nd P N r K ops Q l e F L' done) : Nd P N r K ops Q l e F L done := h ▸ k
theorem QK {ek : Env} {Ls : LH} (ho : ops[i]? = some ⟨some d, op, ty, pos, after, none⟩) (a6 : Op.Er op = false) (hd : Nat.ble (d + 1) N = true) (hf : e.get d = none) (aa : e.sub ek) (ab : Mr ops i ek done = true) (ad : ∀ p ∈ Ls, p ∈ L)
    (h : ∀ H F' L', AN F F' → (∀ p ∈ Ls, p ∈ L') → FM P N ⟨K.w0, K.F0, K.X, H⟩ ek F' L' op ty v) (k : Nd P N r K ops Q l ((d, v) :: e) F L (⟨i, ⟨some d, op, ty, pos, after, none⟩, d, ek, v, F, Ls⟩ :: done)) :
    Nd P N r K ops Q ((.still, i) :: l) e F L done :=
  ⟨_, d, ek, v, Ls, ho, rfl, a6, hd, hf, aa, ab, ad, fun H M a w F' L' hF hL ha hs => .inl ⟨by simp [Region.wanted], h H F' L' hF hL M a w _ _ _ _ ha hs⟩, k⟩
theorem Pj {ek : Env} {Ls : LH} {j : Nat} {b : Bool} (dj : Nat) (ho : ops[i]? = some ⟨some d, op, ty, pos, after, some (j, b)⟩) (hj : (ops[j]?).bind (·.dst) = some dj) (hb : ek.get dj = some (.bool b)) (a6 : Op.Er op = false) (hd : Nat.ble (d + 1) N = true) (hf : e.get d = none) (aa : e.sub ek) (ab : Mr ops i ek done = true) (ad : ∀ p ∈ Ls, p ∈ L)
    (h : ∀ H F' L', AN F F' → (∀ p ∈ Ls, p ∈ L') → FM P N ⟨K.w0, K.F0, K.X, H⟩ ek F' L' op ty v) (k : Nd P N r K ops Q l ((d, v) :: e) F L (⟨i, ⟨some d, op, ty, pos, after, some (j, b)⟩, d, ek, v, F, Ls⟩ :: done)) :
    Nd P N r K ops Q ((.still, i) :: l) e F L done :=
  ⟨_, d, ek, v, Ls, ho, rfl, a6, hd, hf, aa, ab, ad, fun H M a w F' L' hF hL ha hs => .inl ⟨by simp [Region.wanted, yielded, hj, ha.get _ _ hb], h H F' L' hF hL M a w _ _ _ _ ha hs⟩, k⟩
theorem Oq {ek : Env} {j : Nat} {b b' : Bool} (dj : Nat) (ho : ops[i]? = some ⟨some d, op, ty, pos, after, some (j, b)⟩) (hj : (ops[j]?).bind (·.dst) = some dj) (hb : ek.get dj = some (.bool b')) (ad : (b' == b) = false) (a6 : Op.Er op = false) (hd : Nat.ble (d + 1) N = true) (hf : e.get d = none) (aa : e.sub ek) (ab : Mr ops i ek done = true)
    (k : Nd P N r K ops Q l ((d, undef) :: e) F L (⟨i, ⟨some d, op, ty, pos, after, some (j, b)⟩, d, ek, undef, F, []⟩ :: done)) :
    Nd P N r K ops Q ((.still, i) :: l) e F L done :=
  ⟨_, d, ek, undef, [], ho, rfl, a6, hd, hf, aa, ab, fun p hp => by simp at hp, fun H M a w F' L' hF hL ha hs => .inr ⟨by
    simp only [Region.wanted, yielded, hj, Option.bind_some, ha.get _ _ hb]
    cases b <;> cases b' <;> simp_all, rfl⟩, k⟩
theorem Has.ext {F F' : FS} {L L' : LH} {b : Nat} {c : Array Value} (h : Has F L b c) (hF : AN F F') (hL : ∀ p ∈ L, p ∈ L') : Has F' L' b c := h.imp fun _ h => h.imp fun _ h => h.imp (hF _ _) (hL _)
end
end Go.SH
