/- The calculus, part K: regions that draw their order, with operations that turn the state. The walk goes in one order; it serves all. -/
import Derived.Test.YtggpjocmoelpbaaGreatZAShJ
namespace Go.SH
theorem Oper_wpIn_conv {Fe : Fence} {n : Nat} {P : Program} {o : Oper} {a : Act} {w : World} {next next' : Act → World → Prop} {Q Q' : Exit → Act → World → Prop}
    (hn : ∀ a' w', next a' w' → (∃ v, a'.tmps = (a.put o.dst v).tmps) → next' a' w') (hq : ∀ e a w, Q e a w → e = .normal) (h : o.wpIn Fe n P a w next Q) : o.wpIn Fe n P a w next' Q' := by
  have hlet : LetsOut Q → LetsOut Q' := fun ⟨a, w, h⟩ => by cases hq _ _ _ h
  unfold Oper.wpIn at h ⊢
  refine ⟨h.1, ?_⟩
  have h2 := h.2
  unfold Oper.uponIn at h2 ⊢
  split at h2
  · exact hn _ _ h2 ⟨_, rfl⟩
  · exact hn _ _ h2 ⟨_, rfl⟩
  · exact hn _ _ h2 ⟨undef, by cases o.dst <;> rfl⟩
  · exact ⟨h2.1, h2.2.mono fun e w' hR => by cases e <;> first | exact hn _ _ hR ⟨_, rfl⟩ | cases hq _ _ _ hR | exact hlet hR⟩
  · exact ⟨h2.1, h2.2.mono fun v w h => hn _ _ h ⟨_, rfl⟩⟩
  · exact ⟨h2.1, h2.2.mono fun e w' hR => by cases e <;> first | exact hn _ _ hR ⟨_, rfl⟩ | cases hq _ _ _ hR | exact hlet hR⟩
  · cases hq _ _ _ h2
  · exact h2
inductive Kd
  | still
  | alloc (z : Obj) (val : Nat → Value) (ek : Env)
  | seq
  | pre
def Kd.isAlloc : Kd → Bool
  | .alloc _ _ _ => true
  | _ => false
def Kd.isPre : Kd → Bool
  | .pre => true
  | _ => false
def Kd.isSeq : Kd → Bool
  | .seq => true
  | _ => false
def Kd.keys : Kd → List Nat
  | .alloc _ _ ek => ek.map Prod.fst
  | _ => []
def Kd.isStill : Kd → Bool
  | .still => true
  | _ => false
def aft (ops : Array Oper) (i : Nat) : List Nat := match ops[i]? with
  | some o => (o.after.toList.filter (Region.binds .any)).map (·.on)
  | none => []
def dstOf (ops : Array Oper) (i : Nat) : Option Nat := (ops[i]?).bind (·.dst)
theorem mem_ready {ops : Array Oper} {A : Array Bool} {i : Nat} : i ∈ Region.ready .any ops A ↔ i < ops.size ∧ A.getD i true = false ∧ ∀ j ∈ aft ops i, A.getD j false = true := by
  unfold Region.ready aft
  simp only [List.mem_filter, List.mem_range, Bool.and_eq_true, Bool.not_eq_true']
  constructor
  · rintro ⟨h1, h2, h3⟩
    refine ⟨h1, h2, fun j hj => ?_⟩
    have ho : ops[i]? = some ops[i] := Array.getElem?_eq_getElem h1
    rw [ho] at h3 hj
    simp only [Option.map_some, Option.getD_some, Array.all_eq_true_iff_forall_mem] at h3
    simp only [List.mem_map, List.mem_filter, Array.mem_toList_iff] at hj
    obtain ⟨e, ⟨he, hb⟩, rfl⟩ := hj
    have := h3 e he
    simpa [hb] using this
  · rintro ⟨h1, h2, h3⟩
    refine ⟨h1, h2, ?_⟩
    have ho : ops[i]? = some ops[i] := Array.getElem?_eq_getElem h1
    rw [ho] at h3 ⊢
    simp only [Option.map_some, Option.getD_some, Array.all_eq_true_iff_forall_mem]
    intro e he
    cases hb : Region.binds .any e with
    | false => simp
    | true =>
      simp only [Bool.not_true, Bool.false_or]
      refine h3 _ ?_
      simp only [List.mem_map, List.mem_filter, Array.mem_toList_iff]
      exact ⟨e, ⟨he, hb⟩, rfl⟩
def okOrd (ops : Array Oper) : List (Kd × Nat) → List Nat → Bool
  | [], seen => (List.range ops.size).all seen.contains
  | (kd, i) :: l, seen => Nat.blt i ops.size && ((aft ops i).all seen.contains && ((!kd.isSeq || l.all fun y => match dstOf ops i with | some d => !y.1.keys.contains d | none => true) &&
    ((kd.isStill || (kd.isPre || l.all fun y => y.1.isAlloc || (aft ops y.2).any fun d => d == i || l.any fun x => !x.1.isAlloc && x.2 == d)) &&
    ((kd.isPre || l.all (fun y => !y.1.isAlloc || !(dstOf ops y.2 == dstOf ops i))) && ((kd.isPre || l.all (fun y => !(y.2 == i))) && okOrd ops l (if kd.isPre then seen else i :: seen))))))
structure OkStep (ops : Array Oper) (kd : Kd) (i : Nat) (l : List (Kd × Nat)) (seen : List Nat) : Prop where
  lt : i < ops.size
  aft : ∀ j ∈ aft ops i, j ∈ seen
  ks : kd.isSeq = true → ∀ y ∈ l, ∀ d, dstOf ops i = some d → d ∉ y.1.keys
  blocked : kd.isStill = false → kd.isPre = false → ∀ y ∈ l, y.1.isAlloc = false → ∃ d ∈ Go.SH.aft ops y.2, d = i ∨ ∃ x ∈ l, x.1.isAlloc = false ∧ x.2 = d
  dst : kd.isPre = false → ∀ y ∈ l, y.1.isAlloc = true → dstOf ops y.2 ≠ dstOf ops i
  ne : kd.isPre = false → ∀ y ∈ l, y.2 ≠ i
  next : okOrd ops l (if kd.isPre then seen else i :: seen) = true
theorem okOrd_cons {ops : Array Oper} {kd : Kd} {i : Nat} {l : List (Kd × Nat)} {seen : List Nat} (h : okOrd ops ((kd, i) :: l) seen = true) : OkStep ops kd i l seen := by
  simp only [okOrd, Bool.and_eq_true] at h
  obtain ⟨h1, h2, h3, h4, h5, h7, h6⟩ := h
  refine ⟨by simpa using h1, fun j hj => ?_, fun hk y hy d hd => ?_, fun hk hk2 y hy hya => ?_, fun hk2 y hy hya => ?_, fun hk2 y hy => ?_, h6⟩
  · simpa using List.all_eq_true.1 h2 j hj
  · rw [hk, hd] at h3
    simp only [Bool.not_true, Bool.false_or] at h3
    simpa using List.all_eq_true.1 h3 y hy
  · rw [hk, hk2] at h4
    simp only [Bool.false_or] at h4
    have := List.all_eq_true.1 h4 y hy
    rw [hya] at this
    simp only [Bool.false_or, List.any_eq_true, Bool.or_eq_true, beq_iff_eq, Bool.and_eq_true, Bool.not_eq_true'] at this
    exact this
  · rw [hk2] at h5
    simp only [Bool.false_or] at h5
    have := List.all_eq_true.1 h5 y hy
    rw [hya] at this
    simpa using this
  · rw [hk2] at h7
    simp only [Bool.false_or] at h7
    simpa using List.all_eq_true.1 h7 y hy
theorem getD_lt {A : Array Bool} {i : Nat} (h : i < A.size) : A.getD i true = A.getD i false := by simp [Array.getD, h]
theorem all_listed {ops : Array Oper} {A : Array Bool} (hsz : A.size = ops.size) (hr : Region.ready .any ops A = []) : ∀ (l : List (Kd × Nat)) (seen : List Nat), okOrd ops l seen = true → (∀ i ∈ seen, i < ops.size ∧ A.getD i true = true) → ∀ i, i < ops.size → A.getD i true = true
  | [], seen, h, hs, i, hi => by
    simp only [okOrd, List.all_eq_true, List.mem_range] at h
    exact (hs i (by simpa using h i hi)).2
  | (kd, i0) :: l, seen, h, hs, i, hi => by
    have ho := okOrd_cons h
    cases hkp : kd.isPre with
    | true => exact all_listed hsz hr l seen (by have := ho.next; rwa [hkp] at this) hs i hi
    | false =>
    refine all_listed hsz hr l (i0 :: seen) (by have := ho.next; rwa [hkp] at this) (fun j hj => ?_) i hi
    rcases List.mem_cons.1 hj with rfl | hj
    · refine ⟨ho.lt, ?_⟩
      cases hA : A.getD j true with
      | true => rfl
      | false =>
        have hm : j ∈ Region.ready .any ops A := mem_ready.2 ⟨ho.lt, hA, fun d hd => by
          obtain ⟨h1, h2⟩ := hs d (ho.aft d hd)
          rw [← getD_lt (by omega)]; exact h2⟩
        rw [hr] at hm; simp at hm
    · exact hs j hj
def cnt (A : Array Bool) (n : Nat) : Nat := ((List.range n).filter fun i => !A.getD i true).length
theorem getD_set' {A : Array Bool} {i j : Nat} (hi : i < A.size) : (A.setIfInBounds i true).getD j true = if i = j then true else A.getD j true := by
  simp only [Array.getD_eq_getD_getElem?, Array.getElem?_setIfInBounds]
  split
  · simp
  · rfl
theorem cnt_set {A : Array Bool} {n i : Nat} (hn : A.size = n) (hi : i < n) (h : A.getD i true = false) : cnt (A.setIfInBounds i true) n < cnt A n := by
  unfold cnt
  have hle : ∀ l : List Nat, (l.filter fun j => !(A.setIfInBounds i true).getD j true).length ≤ (l.filter fun j => !A.getD j true).length ∧ (i ∈ l → (l.filter fun j => !(A.setIfInBounds i true).getD j true).length < (l.filter fun j => !A.getD j true).length) := by
    intro l
    induction l with
    | nil => simp
    | cons x l ih =>
      rw [List.filter_cons, List.filter_cons, getD_set' (by omega)]
      by_cases hx : i = x
      · subst hx
        simp only [if_true, h, Bool.not_true, Bool.not_false, Bool.false_eq_true, if_false, List.length_cons]
        exact ⟨by have := ih.1; omega, fun _ => by have := ih.1; omega⟩
      · rw [if_neg hx]
        split
        · simp only [List.length_cons]
          exact ⟨by have := ih.1; omega, fun hm => by
            have := ih.2 ((List.mem_cons.1 hm).resolve_left hx); omega⟩
        · exact ⟨ih.1, fun hm => ih.2 ((List.mem_cons.1 hm).resolve_left hx)⟩
  exact (hle _).2 (List.mem_range.2 hi)
structure Rec where
  k : Nat
  o : Oper
  d : Nat
  ek : Env
  v : Value
  F : FS
  Ls : LH
def Still (P : Program) (N : Nat) (K : Ctx) (ops : Array Oper) (o : Oper) (e : Env) (F : FS) (Ls : LH) (v : Value) : Prop :=
  ∀ H M a w F' L', FExt F F' → (∀ p ∈ Ls, p ∈ L') → Ag N M e a → St ⟨K.w0, K.F0, K.X, H⟩ M F' L' w →
    (Region.wanted o (yielded ops a.tmps) = true ∧ (execOp a.eval o).run P w = .ok (.value v) w) ∨ (Region.wanted o (yielded ops a.tmps) = false ∧ v = undef)
def envOK (ops : Array Oper) (i : Nat) (ek : Env) (done : List Rec) : Bool := done.all fun rc => !((ek.map Prod.fst).contains rc.d) || (aft ops i).contains rc.k
theorem Env.get_mem {e : Env} {t : Nat} {v : Value} (h : e.get t = some v) : t ∈ e.map Prod.fst := by
  induction e with
  | nil => simp [Env.get] at h
  | cons p e ih =>
    obtain ⟨k, u⟩ := p
    by_cases hk : k = t
    · simp [hk]
    · have hb : Nat.beq k t = false := beq_ne hk
      simp only [Env.get, hb] at h
      exact List.mem_cons_of_mem _ (ih (by simpa using h))
theorem envOK_spec {ops : Array Oper} {i : Nat} {ek : Env} {done : List Rec} (h : envOK ops i ek done = true) : ∀ rc ∈ done, ∀ u, ek.get rc.d = some u → rc.k ∈ aft ops i := fun rc hrc u hu => by
  have := List.all_eq_true.1 h rc hrc
  rw [Bool.or_eq_true] at this
  rcases this with h1 | h1
  · have h2 := Env.get_mem hu
    have h3 : (ek.map Prod.fst).contains rc.d = true := List.contains_iff_mem.2 h2
    rw [h3] at h1; cases h1
  · simpa using h1
def clos (ops : Array Oper) : Nat → List Nat → List Nat
  | 0, l => l
  | f + 1, l => clos ops f (l ++ l.flatMap (aft ops)).eraseDups
def afts (ops : Array Oper) (i : Nat) : List Nat := clos ops 4 (aft ops i)
theorem clos_listed {ops : Array Oper} {p : Nat → Prop} (hp : ∀ i, p i → ∀ j ∈ aft ops i, p j) : ∀ (f : Nat) (l : List Nat), (∀ i ∈ l, p i) → ∀ i ∈ clos ops f l, p i
  | 0, _, h => h
  | f + 1, l, h => clos_listed hp f _ fun i hi => by
    rw [List.mem_eraseDups] at hi
    rcases List.mem_append.1 hi with hi | hi
    · exact h i hi
    · obtain ⟨j, hj, hi⟩ := List.mem_flatMap.1 hi
      exact hp j (h j hj) i hi
def findAl : List (Kd × Nat) → Nat → Option Env
  | [], _ => none
  | (.alloc _ _ ek, j) :: l, i => if j = i then some ek else findAl l i
  | _ :: l, i => findAl l i
def MkOK (P : Program) (N : Nat) (o : Oper) (ek : Env) (z : Obj) (val : Nat → Value) : Prop := ∀ M a w, Ag N M ek a → (execOp a.eval o).run P w = .ok (.value (val w.heap.size)) (w.alloc z)
def freshB (d : Option Nat) (l : List Rec) : Bool := match d with
  | none => true
  | some d => l.all fun rc => !Nat.beq rc.d d && !(rc.ek.map Prod.fst).contains d
theorem freshB_spec {d : Option Nat} {l : List Rec} (h : freshB d l = true) : ∀ rc ∈ l, d ≠ some rc.d ∧ ∀ t u, rc.ek.get t = some u → d ≠ some t := fun rc hrc => by
  cases d with
  | none => exact ⟨by simp, by simp⟩
  | some d =>
    have := List.all_eq_true.1 h rc hrc
    rw [Bool.and_eq_true] at this
    refine ⟨fun he => ?_, fun t u hu he => ?_⟩
    · cases he
      rw [Nat.beq_refl] at this; cases this.1
    · cases he
      rw [List.contains_iff_mem.2 (Env.get_mem hu)] at this; cases this.2
def shM (P : Program) (N : Nat) (r : Option Nat) (K : Ctx) (ops : Array Oper) (Q : Env → FS → LH → Prop) : List (Kd × Nat) → Env → FS → LH → List Rec → Prop
  | [], e, F, L, _ => Q e F L
  | (.still, i) :: l, e, F, L, done => ∃ (o : Oper) (d : Nat) (ek : Env) (v : Value) (Ls : LH), ops[i]? = some o ∧ o.dst = some d ∧ Op.isDefer o.op = false ∧ Nat.ble (d + 1) N = true ∧ e.get d = none ∧ e.sub ek ∧ envOK ops i ek done = true ∧ (∀ p ∈ Ls, p ∈ L) ∧
      Still P N K ops o ek F Ls v ∧ shM P N r K ops Q l ((d, v) :: e) F L (⟨i, o, d, ek, v, F, Ls⟩ :: done)
  | (.alloc z val _, i) :: l, e, F, L, done => ∃ d, dstOf ops i = some d ∧ ∀ b, K.w0.heap.size ≤ b → shM P N r K ops Q l ((d, val b) :: e) F ((b, z) :: L) done
  | (.pre, i) :: l, e, F, L, done => (∃ ek, findAl l i = some ek ∧ e.sub ek ∧ envOK ops i ek done = true) ∧ shM P N r K ops Q l e F L done
  | (.seq, i) :: l, e, F, L, done => ∃ (o : Oper) (ek : Env), ops[i]? = some o ∧ okDst N o.dst = true ∧ e.sub ek ∧ envOK ops i ek done = true ∧
      ∀ H, shO P N r ⟨K.w0, K.F0, K.X, H⟩ ops (fun e' F' L' => ∃ v, e' = ek.put o.dst v ∧ FExt F F' ∧ ∃ ki : List Nat, ((done.map (·.k)).all fun j => ki.contains j || (afts ops i).contains j) = true ∧ ((ki = [] ∨ ∀ d, o.dst = some d → e.get d = none) ∨ freshB o.dst (done.filter fun rc => ki.contains rc.k) = true) ∧ (∀ rc ∈ done.filter fun rc => ki.contains rc.k, ∀ p ∈ rc.Ls, p ∈ L') ∧
        shM P N r K ops Q l (e.put o.dst v) F' L' (done.filter fun rc => ki.contains rc.k)) [o] ek F L
def MkO (P : Program) (N : Nat) (ops : Array Oper) (i : Nat) (ek : Env) (z : Obj) (val : Nat → Value) : Prop := ∃ o d, ops[i]? = some o ∧ o.dst = some d ∧ o.guard = none ∧ Op.isDefer o.op = false ∧ Nat.ble (d + 1) N = true ∧ MkOK P N o ek z val
def alOK (P : Program) (N : Nat) (ops : Array Oper) : List (Kd × Nat) → Prop
  | [] => True
  | (.alloc z val ek, i) :: l => MkO P N ops i ek z val ∧ alOK P N ops l
  | _ :: l => alOK P N ops l
theorem alOK_mem {P : Program} {N : Nat} {ops : Array Oper} : ∀ {l : List (Kd × Nat)}, alOK P N ops l → ∀ {z val ek i}, (Kd.alloc z val ek, i) ∈ l → MkO P N ops i ek z val
  | [], _, _, _, _, _, hm => by simp at hm
  | (.still, _) :: l, h, _, _, _, _, hm => by
    rcases List.mem_cons.1 hm with h1 | h1
    · cases h1
    · exact alOK_mem (l := l) h h1
  | (.seq, _) :: l, h, _, _, _, _, hm => by
    rcases List.mem_cons.1 hm with h1 | h1
    · cases h1
    · exact alOK_mem (l := l) h h1
  | (.pre, _) :: l, h, _, _, _, _, hm => by
    rcases List.mem_cons.1 hm with h1 | h1
    · cases h1
    · exact alOK_mem (l := l) h h1
  | (.alloc _ _ _, _) :: l, h, _, _, _, _, hm => by
    rcases List.mem_cons.1 hm with h1 | h1
    · cases h1; exact h.1
    · exact alOK_mem (l := l) h.2 h1
theorem alOK_tail {P : Program} {N : Nat} {ops : Array Oper} {x : Kd × Nat} {l : List (Kd × Nat)} (h : alOK P N ops (x :: l)) : alOK P N ops l := by
  obtain ⟨kd, i⟩ := x
  cases kd <;> first | exact h | exact h.2
abbrev Ent := Nat × Nat × Nat × Obj × Value
def hid (E : List Ent) : LH := E.map fun x => (x.2.2.1, x.2.2.2.1)
structure MInv (P : Program) (N : Nat) (K : Ctx) (ops : Array Oper) (l : List (Kd × Nat)) (seen : List Nat) (e : Env) (F : FS) (L : LH) (done : List Rec) (A : Array Bool) (M : List Nat) (a : Act) (w : World) (E : List Ent) (ea : Env) : Prop where
  size : A.size = ops.size
  seenS : ∀ i ∈ seen, i < ops.size
  seenL : ∀ i ∈ seen, A.getD i true = true ∨ ∃ rc ∈ done, rc.k = i
  restL : ∀ y ∈ l, y.1.isAlloc = false → A.getD y.2 true = false
  early : ∀ z val ek i, (Kd.alloc z val ek, i) ∈ l → A.getD i true = true → ∃ d b, (i, d, b, z, val b) ∈ E ∧ dstOf ops i = some d
  ent : ∀ x ∈ E, ea.get x.2.1 = some x.2.2.2.2 ∧ K.w0.heap.size ≤ x.2.2.1 ∧ dstOf ops x.1 = some x.2.1
  entl : ∀ x ∈ E, ∃ z val ek, (Kd.alloc z val ek, x.1) ∈ l ∧ A.getD x.1 true = true
  pre : ∀ z val ek i, (Kd.alloc z val ek, i) ∈ l → (Kd.pre, i) ∉ l → e.sub ek ∧ ∀ rc ∈ done, ∀ u, ek.get rc.d = some u → rc.k ∈ aft ops i
  entn : (E.map (·.1)).Nodup
  ag : Ag N M ea a
  off : ∀ t u, e.get t = some u → ea.get t = some u ∨ ∃ rc ∈ done, rc.d = t ∧ A.getD rc.k true = false
  al0 : ∀ y ∈ l, y.1.isAlloc = true → ∀ d, dstOf ops y.2 = some d → e.get d = none
  ald : ∀ y ∈ l, y.1.isAlloc = true → ∀ j ∈ seen, dstOf ops y.2 ≠ dstOf ops j
  rcs : ∀ rc ∈ done, ops[rc.k]? = some rc.o ∧ rc.o.dst = some rc.d ∧ Op.isDefer rc.o.op = false ∧ Nat.ble (rc.d + 1) N = true ∧ e.get rc.d = some rc.v ∧ e.sub rc.ek ∧ (∀ rc' ∈ done, ∀ u, rc.ek.get rc'.d = some u → rc'.k ∈ aft ops rc.k) ∧ (∀ p ∈ rc.Ls, p ∈ L) ∧ FExt rc.F F ∧ Still P N K ops rc.o rc.ek rc.F rc.Ls rc.v ∧ rc.k ∈ seen
  sep : ∀ y ∈ l, y.2 ∉ seen
  dc : ∀ i, i < ops.size ∧ A.getD i true = true → ∀ j ∈ aft ops i, j < ops.size ∧ A.getD j true = true
  st : St ⟨K.w0, K.F0, K.X, hid E ++ K.H0⟩ M F L w
theorem okOrd_cover {ops : Array Oper} : ∀ {l : List (Kd × Nat)} {seen : List Nat}, okOrd ops l seen = true → ∀ i, i < ops.size → i ∈ seen ∨ ∃ y ∈ l, y.2 = i
  | [], seen, h, i, hi => by
    simp only [okOrd, List.all_eq_true, List.mem_range] at h
    exact .inl (by simpa using h i hi)
  | (kd, i0) :: l, seen, h, i, hi => by
    rcases okOrd_cover (okOrd_cons h).next i hi with h1 | ⟨y, h1, h2⟩
    · cases hkp : kd.isPre with
      | true => rw [hkp] at h1; exact .inl h1
      | false =>
        rw [hkp] at h1
        rcases List.mem_cons.1 h1 with rfl | h1
        · exact .inr ⟨_, List.mem_cons_self .., rfl⟩
        · exact .inl h1
    · exact .inr ⟨y, List.mem_cons_of_mem _ h1, h2⟩
theorem okOrd_uniq {ops : Array Oper} : ∀ (l : List (Kd × Nat)) (seen : List Nat), okOrd ops l seen = true → ∀ x ∈ l, ∀ x' ∈ l, x.1.isPre = false → x'.1.isPre = false → x.2 = x'.2 → x = x'
  | [], _, _, x, hx, _, _, _, _, _ => by simp at hx
  | (kp, ip) :: l, seen, hS, x, hx, x', hx', hp1, hp2, he => by
    have hp := okOrd_cons hS
    rcases List.mem_cons.1 hx with rfl | hx <;> rcases List.mem_cons.1 hx' with rfl | hx'
    · rfl
    · exact absurd he.symm (hp.ne hp1 _ hx')
    · exact absurd he (hp.ne hp2 _ hx)
    · exact okOrd_uniq l _ hp.next x hx x' hx' hp1 hp2 he
theorem okOrd_find {ops : Array Oper} : ∀ (l : List (Kd × Nat)) (seen : List Nat), okOrd ops l seen = true → ∀ z val ek i, (Kd.alloc z val ek, i) ∈ l → findAl l i = some ek
  | [], _, _, _, _, _, _, h => by simp at h
  | (.alloc z' val' ek', ip) :: l, seen, hS, z, val, ek, i, h => by
    have hp := okOrd_cons hS
    rcases List.mem_cons.1 h with h1 | h1
    · cases h1; simp [findAl]
    · have := hp.ne rfl _ h1
      simp only [findAl]
      rw [if_neg (fun he => this he.symm)]
      exact okOrd_find l _ hp.next z val ek i h1
  | (.still, ip) :: l, seen, hS, z, val, ek, i, h => by
    rcases List.mem_cons.1 h with h1 | h1
    · cases h1
    · exact okOrd_find l _ (okOrd_cons hS).next z val ek i h1
  | (.seq, ip) :: l, seen, hS, z, val, ek, i, h => by
    rcases List.mem_cons.1 h with h1 | h1
    · cases h1
    · exact okOrd_find l _ (okOrd_cons hS).next z val ek i h1
  | (.pre, ip) :: l, seen, hS, z, val, ek, i, h => by
    rcases List.mem_cons.1 h with h1 | h1
    · cases h1
    · exact okOrd_find l _ (okOrd_cons hS).next z val ek i h1
section
variable {P : Program} {N : Nat} {r : Option Nat} {K : Ctx} {ops : Array Oper} {Q : Env → FS → LH → Prop}
theorem Env.put_get {e : Env} {d : Option Nat} {v u : Value} {t : Nat} (h : (e.put d v).get t = some u) : (d = some t ∧ u = v) ∨ (d ≠ some t ∧ e.get t = some u) := by
  cases d with
  | none => exact .inr ⟨by simp, h⟩
  | some d =>
    by_cases hk : d = t
    · subst hk
      have : v = u := by simpa [Env.put, Env.get] using h
      exact .inl ⟨rfl, this.symm⟩
    · have hb : Nat.beq d t = false := beq_ne hk
      refine .inr ⟨by simp [hk], by simpa [Env.put, Env.get, hb] using h⟩
theorem Env.put_same {e : Env} {d : Nat} {v : Value} : (e.put (some d) v).get d = some v := by simp [Env.put, Env.get]
theorem Env.put_ne {e : Env} {d : Option Nat} {v : Value} {t : Nat} (h : d ≠ some t) : (e.put d v).get t = e.get t := by
  cases d with
  | none => rfl
  | some d =>
    have hb : Nat.beq d t = false := beq_ne (fun he => h (by rw [he]))
    simp [Env.put, Env.get, hb]
theorem dc_set {A : Array Bool} (hsz : A.size = ops.size) {k : Nat} (hk : k < ops.size) (hr : ∀ j ∈ aft ops k, j < ops.size ∧ A.getD j true = true) (h : ∀ i, i < ops.size ∧ A.getD i true = true → ∀ j ∈ aft ops i, j < ops.size ∧ A.getD j true = true) :
    ∀ i, i < ops.size ∧ (A.setIfInBounds k true).getD i true = true → ∀ j ∈ aft ops i, j < ops.size ∧ (A.setIfInBounds k true).getD j true = true := by
  intro i hi j hj
  rw [getD_set' (by omega)] at hi ⊢
  by_cases hk' : k = i
  · subst hk'
    obtain ⟨h1, h2⟩ := hr j hj
    exact ⟨h1, by split; rfl; exact h2⟩
  · rw [if_neg hk'] at hi
    obtain ⟨h1, h2⟩ := h i hi j hj
    exact ⟨h1, by split; rfl; exact h2⟩
theorem ready_lt {A : Array Bool} (hsz : A.size = ops.size) {k : Nat} (hr : ∀ j ∈ aft ops k, A.getD j false = true) : ∀ j ∈ aft ops k, j < ops.size ∧ A.getD j true = true := fun j hj => by
  have h := hr j hj
  have hlt : j < A.size := by
    apply Classical.byContradiction
    intro hn
    simp [Array.getD, hn] at h
  exact ⟨by omega, by rw [getD_lt hlt]; exact h⟩
theorem MInv.sub {l : List (Kd × Nat)} {seen : List Nat} {e : Env} {F : FS} {L : LH} {done : List Rec} {A : Array Bool} {M : List Nat} {a : Act} {w : World} {E : List Ent} {ea : Env} (h : MInv P N K ops l seen e F L done A M a w E ea)
    {i : Nat} {ek : Env} (he : e.sub ek) (hok : ∀ rc' ∈ done, ∀ u, ek.get rc'.d = some u → rc'.k ∈ aft ops i) (hr : ∀ j ∈ aft ops i, A.getD j false = true) : ea.sub ek := fun t u ht => by
  rcases h.off t u (he t u ht) with h1 | ⟨rc, h1, h2, h3⟩
  · exact h1
  · exfalso
    obtain ⟨r1, r2, _, _, _, _, _, _, _, _, r3⟩ := h.rcs rc h1
    have hd : dstOf ops rc.k = some t := by simp [dstOf, r1, r2, h2]
    have := hr _ (hok rc h1 u (by rw [h2]; exact ht))
    rw [← getD_lt (by rw [h.size]; exact h.seenS _ r3)] at this
    rw [h3] at this; cases this
theorem MInv.late {l : List (Kd × Nat)} {seen : List Nat} {e : Env} {F : FS} {L : LH} {done : List Rec} {A : Array Bool} {M : List Nat} {a : Act} {w : World} {E : List Ent} {ea : Env} (h : MInv P N K ops l seen e F L done A M a w E ea)
    {rc : Rec} (hrc : rc ∈ done) (hr : ∀ j ∈ aft ops rc.k, A.getD j false = true) {Kc : Act → World → Prop} {Qc : Exit → Act → World → Prop}
    (k : MInv P N K ops l seen e F L done (A.setIfInBounds rc.k true) M (a.put (some rc.d) rc.v) w E (ea.put (some rc.d) rc.v) → Kc (a.put (some rc.d) rc.v) w) :
    wpOpIn (fence r) 0 P ops Qc rc.k Kc a w := by
  obtain ⟨r1, r2, r3, r4, r5, r6, r7, r8, r9, r10, r11⟩ := h.rcs rc hrc
  have hsub := h.sub r6 r7 hr
  have hstill := r10 (hid E ++ K.H0) M a w F L r9 r8 (h.ag.weaken hsub) h.st
  have hlt := h.seenS _ r11
  have hA : ∀ j, (A.setIfInBounds rc.k true).getD j true = if rc.k = j then true else A.getD j true := fun j => getD_set' (by rw [h.size]; exact hlt)
  have hdk : dstOf ops rc.k = some rc.d := by simp [dstOf, r1, r2]
  have hinv : MInv P N K ops l seen e F L done (A.setIfInBounds rc.k true) M (a.put (some rc.d) rc.v) w E (ea.put (some rc.d) rc.v) := by
    refine ⟨by simpa using h.size, h.seenS, fun i hi => ?_, fun y hy hya => ?_, fun z val ek i hi hAi => ?_, fun x hx => ?_, fun x hx => ?_, h.pre, h.entn, h.ag.put r4 rc.v, fun t u ht => ?_, h.al0, h.ald, h.rcs, h.sep, dc_set h.size hlt (ready_lt h.size hr) h.dc, h.st⟩
    · rw [hA]; split
      · exact .inl rfl
      · exact h.seenL i hi
    · rw [hA]
      have hne : rc.k ≠ y.2 := fun he => h.sep y hy (he ▸ r11)
      rw [if_neg hne]; exact h.restL y hy hya
    · rw [hA, if_neg (show ¬ (rc.k = i) from fun he => h.sep _ hi (he ▸ r11))] at hAi
      exact h.early z val ek i hi hAi
    · obtain ⟨h1, h2, h3⟩ := h.ent x hx
      refine ⟨?_, h2, h3⟩
      rw [Env.put_ne]; exact h1
      intro he
      obtain ⟨z, val, ek, h4, h5⟩ := h.entl x hx
      exact h.ald _ h4 rfl _ r11 (by rw [h3, hdk, he])
    · obtain ⟨z, val, ek, h4, h5⟩ := h.entl x hx
      exact ⟨z, val, ek, h4, by rw [hA]; split; rfl; exact h5⟩
    · by_cases hd : rc.d = t
      · subst hd
        refine .inl ?_
        rw [Env.put_same]; rw [r5] at ht; exact ht
      · rw [Env.put_ne (by simpa using hd)]
        rcases h.off t u ht with h1 | ⟨rc', h1, h2, h3⟩
        · exact .inl h1
        · refine .inr ⟨rc', h1, h2, ?_⟩
          rw [hA, if_neg ?_]; exact h3
          intro he
          obtain ⟨q1, q2, _⟩ := h.rcs rc' h1
          have : dstOf ops rc'.k = some rc'.d := by simp [dstOf, q1, q2]
          rw [← he, hdk] at this
          exact hd (by rw [← h2]; exact Option.some.inj this)
  unfold wpOpIn
  simp only [r1]
  rcases hstill with ⟨hw, hx⟩ | ⟨hw, hx⟩
  · rw [if_pos hw]
    refine ⟨fun _ _ => trivial, ?_⟩
    rw [Oper.semAt_eq _ _ _ (Op.isDefer_ne r3), hx, Oper.uponIn_value, r2]
    exact k hinv
  · rw [if_neg (by rw [hw]; exact Bool.false_ne_true), r2, ← hx]
    exact ⟨fun _ _ => trivial, k hinv⟩
theorem MInv.soon {l : List (Kd × Nat)} {seen : List Nat} {e : Env} {F : FS} {L : LH} {done : List Rec} {A : Array Bool} {M : List Nat} {a : Act} {w : World} {E : List Ent} {ea : Env} (h : MInv P N K ops l seen e F L done A M a w E ea) (hal : alOK P N ops l)
    {z : Obj} {val : Nat → Value} {ek : Env} {i : Nat} (hi : (Kd.alloc z val ek, i) ∈ l) (hlt : i < ops.size) (hA0 : A.getD i true = false) {Kc : Act → World → Prop} {Qc : Exit → Act → World → Prop}
    (hsepd : ∀ y ∈ l, y.1.isAlloc = true → y.2 ≠ i → dstOf ops y.2 ≠ dstOf ops i) (hidx : ∀ y ∈ l, y.2 = i → y = (Kd.alloc z val ek, i)) (hr : ∀ j ∈ aft ops i, A.getD j false = true)
    (k : ∀ d w' E', MInv P N K ops l seen e F L done (A.setIfInBounds i true) M (a.put (some d) (val w.heap.size)) w' E' (ea.put (some d) (val w.heap.size)) → Kc (a.put (some d) (val w.heap.size)) w') :
    wpOpIn (fence r) 0 P ops Qc i Kc a w := by
  obtain ⟨o, d, ho, hod, hog, hdf, hd, hz⟩ := alOK_mem hal hi
  have hnpre : (Kd.pre, i) ∉ l := fun hm => by cases hidx _ hm rfl
  obtain ⟨hpe, hpo⟩ := h.pre _ _ _ _ hi hnpre
  have hsub := h.sub hpe hpo hr
  have hA : ∀ j, (A.setIfInBounds i true).getD j true = if i = j then true else A.getD j true := fun j => getD_set' (by rw [h.size]; exact hlt)
  have hdi : dstOf ops i = some d := by simp [dstOf, ho, hod]
  obtain ⟨hpush, hnew⟩ := St0.push h.st z
  unfold wpOpIn
  simp only [ho]
  rw [if_pos (by simp [Region.wanted, hog])]
  refine ⟨fun _ _ => trivial, ?_⟩
  rw [Oper.semAt_eq _ _ _ (Op.isDefer_ne hdf)]
  have hex := hz M a w (h.ag.weaken hsub)
  rw [hex, Oper.uponIn_value, hod]
  refine k d (w.alloc z) ((i, d, w.heap.size, z, val w.heap.size) :: E) ?_
  have hnE : ∀ x ∈ E, x.1 ≠ i := fun x hx he => by
    obtain ⟨z', val', ek', h1, h2⟩ := h.entl x hx
    rw [he, hA0] at h2; cases h2
  refine ⟨by simpa using h.size, h.seenS, fun j hj => ?_, fun y hy hya => ?_, fun z' val' ek' j hj hAj => ?_, fun x hx => ?_, fun x hx => ?_, h.pre, ?_, h.ag.put hd _, fun t u ht => ?_, h.al0, h.ald, h.rcs, h.sep, dc_set h.size hlt (ready_lt h.size hr) h.dc, ?_⟩
  · rw [hA]; split
    · exact .inl rfl
    · exact h.seenL j hj
  · rw [hA, if_neg ?_]; exact h.restL y hy hya
    intro he
    have := hidx y hy he.symm
    rw [this] at hya; cases hya
  · by_cases he : i = j
    · subst he
      have := hidx _ hj rfl
      simp only [Prod.mk.injEq, Kd.alloc.injEq, and_true] at this
      obtain ⟨rfl, rfl, rfl⟩ := this
      exact ⟨d, w.heap.size, List.mem_cons_self .., hdi⟩
    · rw [hA, if_neg he] at hAj
      obtain ⟨d', b', h1, h2⟩ := h.early z' val' ek' j hj hAj
      exact ⟨d', b', List.mem_cons_of_mem _ h1, h2⟩
  · rcases List.mem_cons.1 hx with rfl | hx
    · exact ⟨Env.put_same, hnew, hdi⟩
    · obtain ⟨h1, h2, h3⟩ := h.ent x hx
      refine ⟨?_, h2, h3⟩
      rw [Env.put_ne]; exact h1
      intro he
      obtain ⟨z', val', ek', h4, h5⟩ := h.entl x hx
      exact hsepd _ h4 rfl (hnE x hx) (by rw [h3, hdi, he])
  · rcases List.mem_cons.1 hx with rfl | hx
    · exact ⟨z, val, ek, hi, by rw [hA, if_pos rfl]⟩
    · obtain ⟨z', val', ek', h4, h5⟩ := h.entl x hx
      exact ⟨z', val', ek', h4, by rw [hA]; split; rfl; exact h5⟩
  · simp only [List.map_cons, List.nodup_cons]
    exact ⟨fun hm => by obtain ⟨x, hx, he⟩ := List.mem_map.1 hm; exact hnE x hx he, h.entn⟩
  · have hne : d ≠ t := by
      rintro rfl
      have := h.al0 _ hi rfl d hdi
      rw [this] at ht; cases ht
    rcases h.off t u ht with h1 | ⟨rc, h1, h2, h3⟩
    · exact .inl (by rw [Env.put_ne (by simpa using hne)]; exact h1)
    · refine .inr ⟨rc, h1, h2, ?_⟩
      rw [hA, if_neg ?_]; exact h3
      intro he
      exact h.sep _ hi (he ▸ (h.rcs rc h1).2.2.2.2.2.2.2.2.2.2)
  · show St0 _ F (L ++ (M.map markBlk ++ (hid ((i, d, w.heap.size, z, val w.heap.size) :: E) ++ K.H0))) _
    refine ⟨hpush.keep, hpush.fle, hpush.fold, hpush.own.perm ?_, fun p hp => hpush.lnew p ?_⟩
    · show ((w.heap.size, z) :: (L ++ (M.map markBlk ++ (hid E ++ K.H0)))).Perm _
      have : (L ++ (M.map markBlk ++ (hid ((i, d, w.heap.size, z, val w.heap.size) :: E) ++ K.H0))) = (L ++ M.map markBlk) ++ (w.heap.size, z) :: (hid E ++ K.H0) := by simp [hid]
      rw [this]
      have h2 : (L ++ (M.map markBlk ++ (hid E ++ K.H0))) = (L ++ M.map markBlk) ++ (hid E ++ K.H0) := by simp
      rw [h2]
      exact List.perm_middle.symm
    · have : p ∈ (w.heap.size, z) :: (L ++ (M.map markBlk ++ (hid E ++ K.H0))) := by
        simp only [hid, List.mem_append, List.mem_cons, List.map_cons] at hp ⊢
        rcases hp with h1 | h1 | (h1 | h1) | h1
        · exact .inr (.inl h1)
        · exact .inr (.inr (.inl h1))
        · exact .inl h1
        · exact .inr (.inr (.inr (.inl h1)))
        · exact .inr (.inr (.inr (.inr h1)))
      exact this
theorem lift_normal {Qp : Post} {M : List Nat} {e : Env} {F : FS} {L : LH} {a : Act} {w : World} (ha : Ag N M e a) (hs : St K M F L w) (hq : Qp .normal e F L) : lift N K Qp .normal a w := ⟨M, e, F, L, ha, hs, hq⟩
theorem shM_sound {Qp : Post} {ord0 : List (Kd × Nat)} (h00 : okOrd ops ord0 [] = true) : ∀ (fuel : Nat) (l : List (Kd × Nat)) (seen : List Nat) (e : Env) (F : FS) (L : LH) (done : List Rec) (A : Array Bool) (M : List Nat) (a : Act) (w : World) (E : List Ent) (ea : Env),
    okOrd ops l seen = true → alOK P N ops l → MInv P N K ops l seen e F L done A M a w E ea → cnt A ops.size ≤ fuel → shM P N r K ops (fun e F L => Qp .normal e F L) l e F L done →
    wpAnyIn (fence r) 0 P .any ops (lift N K Qp) fuel A a w := by
  intro fuel
  induction fuel using Nat.strongRecOn with
  | _ fuel ih =>
  intro l
  induction l with
  | nil =>
    intro seen e F L done A M a w E ea hS hal h hc hM
    have hE : E = [] := by
      cases E with
      | nil => rfl
      | cons x E => obtain ⟨z, val, ek, h1, _⟩ := h.entl x (List.mem_cons_self ..); simp at h1
    have hdone : Region.ready .any ops A = [] → lift N K Qp .normal a w := fun hr => by
      have hall := all_listed h.size hr ord0 [] h00 (by simp)
      subst hE
      refine lift_normal (h.ag.weaken fun t u ht => ?_) h.st hM
      rcases h.off t u ht with h1 | ⟨rc, h1, _, h3⟩
      · exact h1
      · have := hall rc.k (h.seenS _ (h.rcs rc h1).2.2.2.2.2.2.2.2.2.2)
        rw [this] at h3; cases h3
    have hready : ∀ j ∈ Region.ready .any ops A, ∃ rc ∈ done, rc.k = j := fun j hj => by
      obtain ⟨h1, h2, h3⟩ := mem_ready.1 hj
      rcases okOrd_cover hS j h1 with h4 | ⟨y, h4, _⟩
      · rcases h.seenL j h4 with h5 | h5
        · rw [h5] at h2; cases h2
        · exact h5
      · simp at h4
    cases fuel with
    | zero =>
      have hr : Region.ready .any ops A = [] := by
        rw [List.eq_nil_iff_forall_not_mem]
        intro j hj
        obtain ⟨h1, h2, _⟩ := mem_ready.1 hj
        have : j ∈ (List.range ops.size).filter fun i => !A.getD i true := by simp only [List.mem_filter, List.mem_range, h2]; exact ⟨h1, rfl⟩
        have hl : ((List.range ops.size).filter fun i => !A.getD i true).length = 0 := by unfold cnt at hc; omega
        rw [List.length_eq_zero_iff.1 hl] at this; simp at this
      exact ⟨hr, hdone hr⟩
    | succ fuel =>
      refine ⟨hdone, fun j hj => ?_⟩
      obtain ⟨rc, hrc, rfl⟩ := hready j hj
      obtain ⟨h1, h2, h3⟩ := mem_ready.1 hj
      refine h.late hrc h3 fun hi => ?_
      exact ih fuel (by omega) [] seen e F L done _ M _ w E _ hS hal hi (by have := cnt_set h.size h1 h2; omega) hM
  | cons y l ihl =>
    obtain ⟨kd, i⟩ := y
    intro seen e F L done A M a w E ea hS hal h hc hM
    have ho := okOrd_cons hS
    have hiseen : i ∉ seen := h.sep _ (List.mem_cons_self ..)
    -- what is ready
    have hstep : ∀ fuel', fuel = fuel' + 1 → kd.isStill = false → kd.isPre = false → A.getD i true = false → ∀ j ∈ Region.ready .any ops A, (j = i → kd.isAlloc = true) → wpOpIn (fence r) 0 P ops (lift N K Qp) j (wpAnyIn (fence r) 0 P .any ops (lift N K Qp) fuel' (A.setIfInBounds j true)) a w := by
      intro fuel' hf hst hnp hiA j hj hji
      obtain ⟨h1, h2, h3⟩ := mem_ready.1 hj
      have hcn := cnt_set h.size h1 h2
      rcases okOrd_cover hS j h1 with h4 | ⟨y, h4, h5⟩
      · rcases h.seenL j h4 with h5 | ⟨rc, hrc, rfl⟩
        · rw [h5] at h2; cases h2
        · exact h.late hrc h3 fun hi => ih fuel' (by omega) ((kd, i) :: l) seen e F L done _ M _ w E _ hS hal hi (by omega) hM
      · subst h5
        obtain ⟨ky, jy⟩ := y
        -- nothing else of the row is ready
        have hrow : ∀ y ∈ l, y.1.isAlloc = false → y.2 = jy → False := fun y hy hya he => by
          obtain ⟨d, hd, hb⟩ := ho.blocked hst hnp _ hy hya
          rw [he] at hd
          have hlisted := h3 d hd
          have hfalse : A.getD d true = false → False := fun hf => by
            by_cases hds : d < A.size
            · rw [getD_lt hds, hlisted] at hf; cases hf
            · simp [Array.getD, hds] at hf
          rcases hb with rfl | ⟨x, hx, hxa, rfl⟩
          · exact hfalse hiA
          · exact hfalse (h.restL x (List.mem_cons_of_mem _ hx) hxa)
        have hrow' : ∀ y ∈ (kd, i) :: l, y.1.isAlloc = false → y.2 = jy → False := fun y hy hya he => by
          rcases List.mem_cons.1 hy with rfl | hy
          · have := hji he.symm
            rw [this] at hya; cases hya
          · exact hrow y hy hya he
        cases hka : ky.isAlloc with
        | true =>
          cases ky with
          | alloc z val ek =>
            have hdsts : ∀ (l : List (Kd × Nat)) (seen : List Nat), okOrd ops l seen = true → ∀ x ∈ l, ∀ x' ∈ l, x.1.isAlloc = true → x'.1.isAlloc = true → x.2 ≠ x'.2 → dstOf ops x.2 ≠ dstOf ops x'.2 := by
              intro l
              induction l with
              | nil => intro _ _ x hx; simp at hx
              | cons p l ih2 =>
                intro seen hS x hx x' hx' ha ha' hne
                obtain ⟨kp, ip⟩ := p
                have hp := okOrd_cons hS
                have hnpa : ∀ k : Kd, k.isAlloc = true → k.isPre = false := fun k hk => by cases k <;> first | rfl | cases hk
                rcases List.mem_cons.1 hx with rfl | hx <;> rcases List.mem_cons.1 hx' with rfl | hx'
                · exact absurd rfl hne
                · exact (hp.dst (hnpa _ ha) _ hx' ha').symm
                · exact hp.dst (hnpa _ ha') _ hx ha
                · exact ih2 _ hp.next x hx x' hx' ha ha' hne
            refine h.soon hal h4 h1 h2 (fun y hy hya hyn => hdsts _ _ hS y hy _ h4 hya rfl hyn) (fun y hy he => ?_) h3 fun d w' E' hi => ?_
            · cases hya : y.1.isAlloc with
              | true => exact okOrd_uniq _ _ hS y hy _ h4 (by cases hk : y.1 <;> rw [hk] at hya <;> first | rfl | cases hya) rfl he
              | false => exact (hrow' y hy hya he).elim
            · exact ih fuel' (by omega) ((kd, i) :: l) seen e F L done _ M _ w' E' _ hS hal hi (by omega) hM
          | still | seq | pre => cases hka
        | false => exact (hrow' _ h4 hka rfl).elim
    -- one that is not listed: something is ready
    have hmore : A.getD i true = false → ∃ fuel', fuel = fuel' + 1 := fun hA => by
      cases fuel with
      | succ f => exact ⟨f, rfl⟩
      | zero =>
        exfalso
        have : i ∈ (List.range ops.size).filter fun i => !A.getD i true := by simp only [List.mem_filter, List.mem_range, hA]; exact ⟨ho.lt, rfl⟩
        have hl : ((List.range ops.size).filter fun i => !A.getD i true).length = 0 := by unfold cnt at hc; omega
        rw [List.length_eq_zero_iff.1 hl] at this; simp at this
    have hsome : A.getD i true = false → Region.ready .any ops A = [] → lift N K Qp .normal a w := fun hA hr => by
      have := all_listed h.size hr ord0 [] h00 (by simp) i ho.lt
      rw [hA] at this; cases this
    cases kd with
    | still =>
      obtain ⟨o, d, ek, v, Ls, m1, m2, m3, m4, m5, m6, m7, m8, m9, m10⟩ := hM
      have hA : A.getD i true = false := h.restL _ (List.mem_cons_self ..) rfl
      have hdi : dstOf ops i = some d := by simp [dstOf, m1, m2]
      have hget : ∀ t, t ≠ d → Env.get ((d, v) :: e) t = e.get t := fun t ht => Env.put_ne (d := some d) (by simpa using fun h => ht h.symm)
      have hsame : Env.get ((d, v) :: e) d = some v := Env.put_same
      refine ihl (i :: seen) ((d, v) :: e) F L (⟨i, o, d, ek, v, F, Ls⟩ :: done) A M a w E ea ho.next hal ?_ hc m10
      refine ⟨h.size, fun j hj => ?_, fun j hj => ?_, fun y hy => h.restL y (List.mem_cons_of_mem _ hy), fun z val ek' j hj => h.early z val ek' j (List.mem_cons_of_mem _ hj), h.ent, fun x hx => ?_, fun z val ek' j hj hnp => ?_, h.entn, h.ag, fun t u ht => ?_, fun y hy hya d' hd' => ?_, fun y hy hya j hj => ?_, fun rc hrc => ?_, fun y hy => ?_, h.dc, h.st⟩
      · rcases List.mem_cons.1 hj with rfl | hj
        · exact ho.lt
        · exact h.seenS j hj
      · rcases List.mem_cons.1 hj with rfl | hj
        · exact .inr ⟨_, List.mem_cons_self .., rfl⟩
        · exact (h.seenL j hj).imp id fun ⟨rc, h1, h2⟩ => ⟨rc, List.mem_cons_of_mem _ h1, h2⟩
      · obtain ⟨z, val, ek', h1, h2⟩ := h.entl x hx
        exact ⟨z, val, ek', (List.mem_cons.1 h1).resolve_left (by simp), h2⟩
      · obtain ⟨p1, p2⟩ := h.pre z val ek' j (List.mem_cons_of_mem _ hj) (fun hm => hnp ((List.mem_cons.1 hm).resolve_left (by simp)))
        refine ⟨fun t u ht => ?_, fun rc hrc u hu => ?_⟩
        · have := p1 t u ht
          rw [hget t (fun he => by rw [he, m5] at this; cases this)]; exact this
        · rcases List.mem_cons.1 hrc with rfl | hrc
          · have := p1 _ _ hu; rw [m5] at this; cases this
          · exact p2 rc hrc u hu
      · by_cases hd : t = d
        · subst hd
          exact .inr ⟨_, List.mem_cons_self .., rfl, hA⟩
        · rw [hget t hd] at ht
          exact (h.off t u ht).imp id fun ⟨rc, h1, h2⟩ => ⟨rc, List.mem_cons_of_mem _ h1, h2⟩
      · have hne : d' ≠ d := fun he => ho.dst rfl y hy hya (by rw [hd', hdi, he])
        rw [hget d' hne]; exact h.al0 y (List.mem_cons_of_mem _ hy) hya d' hd'
      · rcases List.mem_cons.1 hj with rfl | hj
        · exact ho.dst rfl y hy hya
        · exact h.ald y (List.mem_cons_of_mem _ hy) hya j hj
      · rcases List.mem_cons.1 hrc with rfl | hrc
        · refine ⟨m1, m2, m3, m4, hsame, fun t u ht => ?_, fun rc' hrc' u hu => ?_, m8, FExt.refl F, m9, List.mem_cons_self ..⟩
          rotate_left
          · rcases List.mem_cons.1 hrc' with rfl | hrc'
            · have := m6 _ _ hu; rw [m5] at this; cases this
            · exact envOK_spec m7 rc' hrc' u hu
          have := m6 t u ht
          rw [hget t (fun he => by rw [he, m5] at this; cases this)]; exact this
        · obtain ⟨q1, q2, q3, q4, q5, q6, q7, q8, q9, q10, q11⟩ := h.rcs rc hrc
          refine ⟨q1, q2, q3, q4, ?_, fun t u ht => ?_, fun rc' hrc' u hu => ?_, q8, q9, q10, List.mem_cons_of_mem _ q11⟩
          rotate_right
          · rcases List.mem_cons.1 hrc' with rfl | hrc'
            · have := q6 _ _ hu; rw [m5] at this; cases this
            · exact q7 rc' hrc' u hu
          · rw [hget _ (fun he => by rw [he, m5] at q5; cases q5)]; exact q5
          · have := q6 t u ht
            rw [hget t (fun he => by rw [he, m5] at this; cases this)]; exact this
      · intro hm
        rcases List.mem_cons.1 hm with he | hm
        · exact ho.ne rfl y hy he
        · exact h.sep y (List.mem_cons_of_mem _ hy) hm
    | pre =>
      obtain ⟨⟨ek, m1, m2, m3⟩, m4⟩ := hM
      refine ihl seen e F L done A M a w E ea (by have := ho.next; exact this) hal ?_ hc m4
      refine ⟨h.size, h.seenS, h.seenL, fun y hy => h.restL y (List.mem_cons_of_mem _ hy), fun z val ek' j hj => h.early z val ek' j (List.mem_cons_of_mem _ hj), h.ent, fun x hx => ?_, fun z val ek' j hj hnp => ?_, h.entn, h.ag, h.off, fun y hy => h.al0 y (List.mem_cons_of_mem _ hy), fun y hy => h.ald y (List.mem_cons_of_mem _ hy), h.rcs, fun y hy => h.sep y (List.mem_cons_of_mem _ hy), h.dc, h.st⟩
      · obtain ⟨z, val, ek', h1, h2⟩ := h.entl x hx
        exact ⟨z, val, ek', (List.mem_cons.1 h1).resolve_left (by simp), h2⟩
      · by_cases hji : j = i
        · subst hji
          have := okOrd_find _ _ ho.next z val ek' j hj
          rw [m1] at this
          obtain rfl := Option.some.inj this
          exact ⟨m2, envOK_spec m3⟩
        · exact h.pre z val ek' j (List.mem_cons_of_mem _ hj) (fun hm => by
            rcases List.mem_cons.1 hm with hm | hm
            · rw [Prod.mk.injEq] at hm; exact hji hm.2
            · exact hnp hm)
    | alloc z val ek =>
      cases hA : A.getD i true with
      | false =>
        obtain ⟨f, rfl⟩ := hmore hA
        exact ⟨hsome hA, fun j hj => hstep f rfl rfl rfl hA j hj fun _ => rfl⟩
      | true =>
        obtain ⟨d0, b, hE, hd0⟩ := h.early z val ek i (List.mem_cons_self ..) hA
        obtain ⟨d, hd, k⟩ := hM
        have : d0 = d := by rw [hd0] at hd; exact Option.some.inj hd
        subst this
        obtain ⟨e1, e2, _⟩ := h.ent _ hE
        have hfr : e.get d0 = none := h.al0 _ (List.mem_cons_self ..) rfl d0 hd0
        obtain ⟨E1, E2, rfl⟩ := List.append_of_mem hE
        have hnd := h.entn
        rw [List.map_append, List.map_cons, List.nodup_append] at hnd
        have hne : ∀ x ∈ E1 ++ E2, x.1 ≠ i := fun x hx he => by
          rcases List.mem_append.1 hx with hx | hx
          · exact hnd.2.2 x.1 (List.mem_map.2 ⟨x, hx, rfl⟩) i (List.mem_cons_self ..) he
          · exact (List.nodup_cons.1 hnd.2.1).1 (List.mem_map.2 ⟨x, hx, he⟩)
        have hget : ∀ t v, t ≠ d0 → Env.get ((d0, v) :: e) t = e.get t := fun t v ht => Env.put_ne (d := some d0) (by simpa using fun h => ht h.symm)
        have hmem : ∀ x, x ∈ E1 ++ E2 → x ∈ E1 ++ (i, d0, b, z, val b) :: E2 := fun x hx => by
          rcases List.mem_append.1 hx with hx | hx
          · exact List.mem_append_left _ hx
          · exact List.mem_append_right _ (List.mem_cons_of_mem _ hx)
        refine ihl (i :: seen) ((d0, val b) :: e) F ((b, z) :: L) done A M a w (E1 ++ E2) ea ho.next (alOK_tail hal) ?_ hc (k b e2)
        refine ⟨h.size, fun j hj => ?_, fun j hj => ?_, fun y hy => h.restL y (List.mem_cons_of_mem _ hy), fun z' val' ek' j hj hAj => ?_, fun x hx => h.ent x (hmem x hx), fun x hx => ?_, fun z' val' ek' j hj hnp => ?_, ?_, h.ag, fun t u ht => ?_, fun y hy hya d' hd' => ?_, fun y hy hya j hj => ?_, fun rc hrc => ?_, fun y hy => ?_, h.dc, ?_⟩
        · rcases List.mem_cons.1 hj with rfl | hj
          · exact ho.lt
          · exact h.seenS j hj
        · rcases List.mem_cons.1 hj with rfl | hj
          · exact .inl hA
          · exact h.seenL j hj
        · obtain ⟨d', b', h1, h2⟩ := h.early z' val' ek' j (List.mem_cons_of_mem _ hj) hAj
          refine ⟨d', b', ?_, h2⟩
          rcases List.mem_append.1 h1 with h1 | h1
          · exact List.mem_append_left _ h1
          · rcases List.mem_cons.1 h1 with h1 | h1
            · exfalso; rw [Prod.mk.injEq] at h1; exact ho.ne rfl _ hj h1.1
            · exact List.mem_append_right _ h1
        · obtain ⟨z', val', ek', h1, h2⟩ := h.entl x (hmem x hx)
          exact ⟨z', val', ek', (List.mem_cons.1 h1).resolve_left (fun he => hne x hx (by rw [Prod.mk.injEq] at he; exact he.2)), h2⟩
        · obtain ⟨p1, p2⟩ := h.pre z' val' ek' j (List.mem_cons_of_mem _ hj) (fun hm => hnp ((List.mem_cons.1 hm).resolve_left (by simp)))
          refine ⟨fun t u ht => ?_, p2⟩
          have := p1 t u ht
          rw [hget t _ (fun he => by rw [he, hfr] at this; cases this)]; exact this
        · rw [List.map_append, List.nodup_append]
          exact ⟨hnd.1, (List.nodup_cons.1 hnd.2.1).2, fun x hx y hy => hnd.2.2 x hx y (List.mem_cons_of_mem _ hy)⟩
        · by_cases hdt : t = d0
          · subst hdt
            have : Env.get ((t, val b) :: e) t = some (val b) := Env.put_same
            rw [this] at ht
            exact .inl (by rw [← ht]; exact e1)
          · rw [hget t _ hdt] at ht
            exact h.off t u ht
        · have hne' : d' ≠ d0 := fun he => ho.dst rfl y hy hya (by rw [hd', hd0, he])
          rw [hget d' _ hne']; exact h.al0 y (List.mem_cons_of_mem _ hy) hya d' hd'
        · rcases List.mem_cons.1 hj with rfl | hj
          · exact ho.dst rfl y hy hya
          · exact h.ald y (List.mem_cons_of_mem _ hy) hya j hj
        · obtain ⟨q1, q2, q3, q4, q5, q6, q7, q8, q9, q10, q11⟩ := h.rcs rc hrc
          refine ⟨q1, q2, q3, q4, ?_, fun t u ht => ?_, q7, fun p hp => List.mem_cons_of_mem _ (q8 p hp), q9, q10, List.mem_cons_of_mem _ q11⟩
          · rw [hget _ _ (fun he => by rw [he, hfr] at q5; cases q5)]; exact q5
          · have := q6 t u ht
            rw [hget t _ (fun he => by rw [he, hfr] at this; cases this)]; exact this
        · intro hm
          rcases List.mem_cons.1 hm with he | hm
          · exact ho.ne rfl y hy he
          · exact h.sep y (List.mem_cons_of_mem _ hy) hm
        · have hst := h.st
          refine St0.perm (L := L ++ (M.map markBlk ++ (hid (E1 ++ (i, d0, b, z, val b) :: E2) ++ K.H0))) ?_ ?_
          · have h5 := St0.lnew hst
            have h6 := St0.own hst
            exact ⟨hst.keep, hst.fle, hst.fold, h6, h5⟩
          · show (L ++ (M.map markBlk ++ (hid (E1 ++ (i, d0, b, z, val b) :: E2) ++ K.H0))).Perm ((b, z) :: (L ++ (M.map markBlk ++ (hid (E1 ++ E2) ++ K.H0))))
            have h1 : (L ++ (M.map markBlk ++ (hid (E1 ++ (i, d0, b, z, val b) :: E2) ++ K.H0))) = (L ++ M.map markBlk ++ hid E1) ++ (b, z) :: (hid E2 ++ K.H0) := by simp [hid]
            have h2 : (L ++ (M.map markBlk ++ (hid (E1 ++ E2) ++ K.H0))) = (L ++ M.map markBlk ++ hid E1) ++ (hid E2 ++ K.H0) := by simp [hid]
            rw [h1, h2]
            exact List.perm_middle
    | seq =>
      have hA : A.getD i true = false := h.restL _ (List.mem_cons_self ..) rfl
      obtain ⟨f, rfl⟩ := hmore hA
      refine ⟨hsome hA, fun j hj => ?_⟩
      by_cases hji : j = i
      · subst hji
        obtain ⟨o, ek, m1, m2, m3, m4, m5⟩ := hM
        obtain ⟨h1, h2, h3⟩ := mem_ready.1 hj
        have hcn := cnt_set h.size h1 h2
        have hsub := h.sub m3 (envOK_spec m4) h3
        have hAs : ∀ i', (A.setIfInBounds j true).getD i' true = if j = i' then true else A.getD i' true := fun i' => getD_set' (by rw [h.size]; exact h1)
        have hw := m5 (hid E ++ K.H0) M a w (h.ag.weaken hsub) h.st
        have hdj : dstOf ops j = o.dst := by simp [dstOf, m1]
        have hend : ∀ a' w', (∃ v, a'.tmps = (a.put o.dst v).tmps) → (∃ M2 e2 F2 L2, Ag N M2 e2 a' ∧ St ⟨K.w0, K.F0, K.X, hid E ++ K.H0⟩ M2 F2 L2 w' ∧ ∃ v, e2 = ek.put o.dst v ∧ FExt F F2 ∧ ∃ ki : List Nat, ((done.map (·.k)).all fun j' => ki.contains j' || (afts ops j).contains j') = true ∧ ((ki = [] ∨ ∀ d, o.dst = some d → e.get d = none) ∨ freshB o.dst (done.filter fun rc => ki.contains rc.k) = true) ∧ (∀ rc ∈ done.filter fun rc => ki.contains rc.k, ∀ p ∈ rc.Ls, p ∈ L2) ∧
            shM P N r K ops (fun e F L => Qp .normal e F L) l (e.put o.dst v) F2 L2 (done.filter fun rc => ki.contains rc.k)) → wpAnyIn (fence r) 0 P .any ops (lift N K Qp) f (A.setIfInBounds j true) a' w' := by
          rintro a' w' ⟨v', ha'⟩ ⟨M2, e2, F2, L2, hag2, hst2, v, rfl, hF, ki, hki, hfr0, hkeep, hM2⟩
          generalize hdd : (done.filter fun rc => ki.contains rc.k) = done' at hkeep hM2
          have hea : Ag N M2 (ea.put o.dst v) a' := by
            refine ⟨hag2.ds, hag2.size, fun t u ht => ?_⟩
            rcases Env.put_get ht with ⟨he, rfl⟩ | ⟨hne, hg⟩
            · exact hag2.get t u (by rw [he]; exact Env.put_same)
            · have hg' := h.ag.get t u hg
              rw [ha']
              cases hod : o.dst with
              | none => exact hg'
              | some d =>
                rw [hod] at hne
                simp only [Act.put]
                rw [Array.getElem?_setIfInBounds_ne (by simpa using hne)]
                exact hg'
          refine ih f (by omega) l (j :: seen) (e.put o.dst v) F2 L2 done' _ M2 a' w' E (ea.put o.dst v) ho.next hal ?_ (by omega) hM2
          have hcl : ∀ i' ∈ afts ops j, i' < ops.size ∧ A.getD i' true = true := clos_listed (p := fun i' => i' < ops.size ∧ A.getD i' true = true) h.dc 4 _ (ready_lt h.size h3)
          have hlate : ∀ rc ∈ done, A.getD rc.k true = false → rc ∈ done' := fun rc hrc hl => by
            have hk := List.all_eq_true.1 hki rc.k (List.mem_map.2 ⟨rc, hrc, rfl⟩)
            rw [Bool.or_eq_true] at hk
            rcases hk with hk | hk
            · rw [← hdd]; exact List.mem_filter.2 ⟨hrc, hk⟩
            · have := (hcl rc.k (by simpa using hk)).2
              rw [hl] at this; cases this
          refine ⟨by simpa using h.size, fun i' hi' => ?_, fun i' hi' => ?_, fun y hy hya => ?_, fun z val ek' i' hi' hAi => ?_, fun x hx => ?_, fun x hx => ?_, fun z val ek' i' hi' hnp => ?_, h.entn, hea, fun t u ht => ?_, fun y hy hya d' hd' => ?_, fun y hy hya i' hi' => ?_, fun rc hrc => ?_, fun y hy => ?_, dc_set h.size h1 (ready_lt h.size h3) h.dc, hst2⟩
          · rcases List.mem_cons.1 hi' with rfl | hi'
            · exact ho.lt
            · exact h.seenS i' hi'
          · rw [hAs]
            rcases List.mem_cons.1 hi' with rfl | hi'
            · exact .inl (if_pos rfl)
            · split
              · exact .inl rfl
              · rcases h.seenL i' hi' with h4 | ⟨rc, h4, h5⟩
                · exact .inl h4
                · cases hl : A.getD i' true with
                  | true => exact .inl rfl
                  | false => exact .inr ⟨rc, hlate rc h4 (by rw [h5]; exact hl), h5⟩
          · rw [hAs, if_neg (show ¬ (j = y.2) from fun he => ho.ne rfl y hy he.symm)]; exact h.restL y (List.mem_cons_of_mem _ hy) hya
          · rw [hAs, if_neg (show ¬ (j = i') from fun he => ho.ne rfl _ hi' he.symm)] at hAi
            exact h.early z val ek' i' (List.mem_cons_of_mem _ hi') hAi
          · obtain ⟨g1, g2, g3⟩ := h.ent x hx
            refine ⟨?_, g2, g3⟩
            rw [Env.put_ne]; exact g1
            intro he
            obtain ⟨z, val, ek', h4, _⟩ := h.entl x hx
            have h5 := (List.mem_cons.1 h4).resolve_left (by simp)
            exact ho.dst rfl _ h5 rfl (by rw [g3, hdj, he])
          · obtain ⟨z, val, ek', h4, h5⟩ := h.entl x hx
            exact ⟨z, val, ek', (List.mem_cons.1 h4).resolve_left (by simp), by rw [hAs]; split; rfl; exact h5⟩
          · obtain ⟨p1, p2⟩ := h.pre z val ek' i' (List.mem_cons_of_mem _ hi') (fun hm => hnp ((List.mem_cons.1 hm).resolve_left (by simp)))
            refine ⟨fun t u ht => ?_, fun rc hrc => p2 rc (List.mem_filter.1 (hdd ▸ hrc : rc ∈ done.filter fun rc => ki.contains rc.k)).1⟩
            rw [Env.put_ne]; exact p1 t u ht
            intro he
            refine ho.ks rfl _ hi' t (by rw [hdj, he]) (Env.get_mem ht)
          · rcases Env.put_get ht with ⟨he, rfl⟩ | ⟨hne, hg⟩
            · exact .inl (by rw [he]; exact Env.put_same)
            · rcases h.off t u hg with h4 | ⟨rc, h4, h5, h6⟩
              · exact .inl (by rw [Env.put_ne hne]; exact h4)
              · refine .inr ⟨rc, hlate rc h4 h6, h5, ?_⟩
                rw [hAs, if_neg ?_]; exact h6
                intro he
                exact hiseen (he ▸ (h.rcs rc h4).2.2.2.2.2.2.2.2.2.2)
          · have hne : o.dst ≠ some d' := fun he => ho.dst rfl y hy hya (by rw [hd', hdj, he])
            rw [Env.put_ne hne]; exact h.al0 y (List.mem_cons_of_mem _ hy) hya d' hd'
          · rcases List.mem_cons.1 hi' with rfl | hi'
            · exact ho.dst rfl y hy hya
            · exact h.ald y (List.mem_cons_of_mem _ hy) hya i' hi'
          · have hrc' := hrc
            rw [← hdd] at hrc'
            obtain ⟨hrd, hrk⟩ := List.mem_filter.1 hrc'
            obtain ⟨q1, q2, q3, q4, q5, q6, q7, q8, q9, q10, q11⟩ := h.rcs rc hrd
            have hfin : e.get rc.d = some rc.v → (e.put o.dst v).get rc.d = some rc.v → (e.put o.dst v).sub rc.ek → ops[rc.k]? = some rc.o ∧ rc.o.dst = some rc.d ∧ Op.isDefer rc.o.op = false ∧ Nat.ble (rc.d + 1) N = true ∧ (e.put o.dst v).get rc.d = some rc.v ∧ (e.put o.dst v).sub rc.ek ∧ (∀ rc' ∈ done', ∀ u, rc.ek.get rc'.d = some u → rc'.k ∈ aft ops rc.k) ∧ (∀ p ∈ rc.Ls, p ∈ L2) ∧ FExt rc.F F2 ∧ Still P N K ops rc.o rc.ek rc.F rc.Ls rc.v ∧ rc.k ∈ j :: seen := fun _ h5 h6 =>
              ⟨q1, q2, q3, q4, h5, h6, fun rc' hrc' => q7 rc' (List.mem_filter.1 (hdd ▸ hrc' : rc' ∈ done.filter fun rc => ki.contains rc.k)).1, hkeep rc hrc, q9.trans hF, q10, List.mem_cons_of_mem _ q11⟩
            rcases hfr0 with (rfl | hfr) | hfr
            · simp at hrk
            · have hput : ∀ t u, e.get t = some u → (e.put o.dst v).get t = some u := fun t u ht => by
                rw [Env.put_ne]; exact ht
                intro he
                have := hfr t he
                rw [this] at ht; cases ht
              exact hfin q5 (hput _ _ q5) (fun t u ht => hput t u (q6 t u ht))
            · obtain ⟨f1, f2⟩ := freshB_spec (hdd ▸ hfr : freshB o.dst done' = true) rc hrc
              exact hfin q5 (by rw [Env.put_ne f1]; exact q5) (fun t u ht => by rw [Env.put_ne (f2 t u ht)]; exact q6 t u ht)
          · intro hm
            rcases List.mem_cons.1 hm with he | hm
            · exact ho.ne rfl y hy he
            · exact h.sep y (List.mem_cons_of_mem _ hy) hm
        unfold wpOpIn
        simp only [m1]
        unfold wpListIn at hw
        split at hw
        · rename_i hwant
          rw [if_pos hwant]
          refine Oper_wpIn_conv (fun a' w' hn hv => ?_) (fun _ _ _ hq => hq.1) hw
          exact hend a' w' hv hn.2
        · rename_i hwant
          rw [if_neg hwant]
          exact ⟨hw.1, hend _ _ ⟨undef, rfl⟩ hw.2.2⟩
      · exact hstep f rfl rfl rfl hA j hj fun he => absurd he hji
def preB (ord : List (Kd × Nat)) : Bool := ord.all fun y => !y.1.isAlloc || ord.any fun x => x.1.isPre && x.2 == y.2
theorem preB_spec {ord : List (Kd × Nat)} (h : preB ord = true) : ∀ z val ek i, (Kd.alloc z val ek, i) ∈ ord → (Kd.pre, i) ∈ ord := fun z val ek i hi => by
  have := List.all_eq_true.1 h _ hi
  simp only [Kd.isAlloc, Bool.not_true, Bool.false_or, List.any_eq_true, Bool.and_eq_true, beq_iff_eq] at this
  obtain ⟨⟨k, j⟩, h1, h2, h3⟩ := this
  have h4 : k = .pre := by cases k <;> first | rfl | cases h2
  have h5 : j = i := h3
  rw [h4, h5] at h1; exact h1
theorem mk_build {P : Program} {N : Nat} {d : Option Nat} {ty : TypeId} {pos : String} {after : Array Edge} {ek : Env} {T E n : Nat} {parts : Array (Nat × Operand)} {vs : List (Nat × Value)} {cs : Array Value} (hp : parts.toList.mapM (fun p => (ev ek p.2).map fun v => (p.1, v)) = some vs)
    (hb : ∀ w, (Instr.buildSlice T n vs.toArray).run P w = .ok (.slice (some ⟨w.heap.size, 0, none⟩) n n) (w.alloc (.cells cs E))) : MkOK P N ⟨d, .buildSlice T n parts, ty, pos, after, none⟩ ek (.cells cs E (0, 0)) (fun b => .slice (some ⟨b, 0, none⟩) n n) := fun M a w ha => by
  have key : ∀ (l : List (Nat × Operand)) (vs : List (Nat × Value)), l.mapM (fun p => (ev ek p.2).map fun v => (p.1, v)) = some vs → l.map (fun p => (p.1, a.eval p.2)) = vs := by
    intro l
    induction l with
    | nil => intro vs h; simpa using h
    | cons x l ih =>
      intro vs h
      simp only [List.mapM_cons, Option.bind_eq_bind, Option.bind_eq_some_iff, Option.pure_def, Option.some.injEq, Option.map_eq_some_iff] at h
      obtain ⟨p, ⟨v, hv, rfl⟩, vs', hvs, rfl⟩ := h
      simp [ha.ev hv, ih vs' hvs]
  have e1 : parts.map (fun p => (p.1, a.eval p.2)) = vs.toArray := Array.ext' (by rw [Array.toList_map]; exact key _ _ hp)
  have e2 : (parts.map fun (i, x) => (i, a.eval x)) = vs.toArray := e1
  simp [execOp, e2, hb]
def frB (ops : Array Oper) (e : Env) (ord : List (Kd × Nat)) : Bool := ord.all fun y => !y.1.isAlloc || match dstOf ops y.2 with | some d => (e.get d).isNone | none => true
theorem frB_spec {e : Env} {ord : List (Kd × Nat)} (h : frB ops e ord = true) : ∀ y ∈ ord, y.1.isAlloc = true → ∀ d, dstOf ops y.2 = some d → e.get d = none := fun y hy ha d hd => by
  have := List.all_eq_true.1 h y hy
  rw [ha, hd] at this
  simpa using this
theorem shW_drawM {Qp : Post} {id : Nat} {l : List Oper} {e : Env} {F : FS} {L : LH} (ord : List (Kd × Nat)) (hm : P.follows .mixedOrders = true) (h0 : okOrd l.toArray ord [] = true) (hal : alOK P N l.toArray ord)
    (hfr0 : frB l.toArray e ord = true) (hpre0 : preB ord = true) (h : shM P N r K l.toArray (fun e F L => Qp .normal e F L) ord e F L []) : shW P N r K (.region id l.toArray true) Qp e F L := fun M a w ha hs => by
  have hfr := frB_spec hfr0
  have hpre := preB_spec hpre0
  refine wpIn_region_any hm ?_
  refine shM_sound (Qp := Qp) h0 _ ord [] e F L [] _ M a _ [] e h0 hal ?_ (by unfold cnt; exact Nat.le_trans (List.length_filter_le ..) (by simp)) h
  have hA : ∀ i, i < l.toArray.size → (Array.replicate l.toArray.size false).getD i true = false := fun i hi => by
    have : i < l.length := by simpa using hi
    simp [Array.getD, this]
  have hlt : ∀ y ∈ ord, y.2 < l.toArray.size := by
    have : ∀ (ord : List (Kd × Nat)) (seen : List Nat), okOrd l.toArray ord seen = true → ∀ y ∈ ord, y.2 < l.toArray.size := by
      intro ord
      induction ord with
      | nil => intro _ _ y hy; simp at hy
      | cons x ord ih =>
        intro seen hS y hy
        obtain ⟨kd, i⟩ := x
        have ho := okOrd_cons hS
        rcases List.mem_cons.1 hy with rfl | hy
        · exact ho.lt
        · exact ih _ ho.next y hy
    exact this ord [] h0
  refine ⟨by simp, fun i hi => by simp at hi, fun i hi => by simp at hi, fun y hy _ => hA _ (hlt y hy), fun z val ek i hi hAi => (by rw [hA i (hlt _ hi)] at hAi; cases hAi), fun x hx => by simp at hx, fun x hx => by simp at hx, fun z val ek i hi hnp => absurd (hpre z val ek i hi) hnp, by simp, ha, fun t u ht => .inl ht, hfr, fun y hy _ j hj => by simp at hj, fun rc hrc => by simp at hrc, fun y hy => by simp, fun i hi => (by rw [hA i hi.1] at hi; cases hi.2), ?_⟩
  exact hs.drew
variable {l : List (Kd × Nat)} {e : Env} {F : FS} {L : LH} {done : List Rec} {i d : Nat} {op : Op} {ty : TypeId} {pos : String} {after : Array Edge} {v : Value}
theorem shM_L {L' : LH} (h : L = L') (k : shM P N r K ops Q l e F L' done) : shM P N r K ops Q l e F L done := h ▸ k
theorem shM_v {ek : Env} {Ls : LH} (ho : ops[i]? = some ⟨some d, op, ty, pos, after, none⟩) (hdef : Op.isDefer op = false) (hd : Nat.ble (d + 1) N = true) (hf : e.get d = none) (hsub : e.sub ek) (hek : envOK ops i ek done = true) (hLs : ∀ p ∈ Ls, p ∈ L)
    (h : ∀ H F' L', FExt F F' → (∀ p ∈ Ls, p ∈ L') → OpV P N ⟨K.w0, K.F0, K.X, H⟩ ek F' L' op ty v) (k : shM P N r K ops Q l ((d, v) :: e) F L (⟨i, ⟨some d, op, ty, pos, after, none⟩, d, ek, v, F, Ls⟩ :: done)) :
    shM P N r K ops Q ((.still, i) :: l) e F L done :=
  ⟨_, d, ek, v, Ls, ho, rfl, hdef, hd, hf, hsub, hek, hLs, fun H M a w F' L' hF hL ha hs => .inl ⟨by simp [Region.wanted], h H F' L' hF hL M a w _ _ _ _ ha hs⟩, k⟩
theorem Has.ext {F F' : FS} {L L' : LH} {b : Nat} {c : Array Value} (h : Has F L b c) (hF : FExt F F') (hL : ∀ p ∈ L, p ∈ L') : Has F' L' b c := h.imp fun _ h => h.imp fun _ h => h.imp (hF _ _) (hL _)
end
end Go.SH
