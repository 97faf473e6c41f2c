/- The calculus, part J: slices whose elements are told by a relation. -/
import Derived.Test.YtdhookifhfkcpaaGreatZBShI
import Derived.Great.BuildSlice
namespace Go.SH
inductive DT {α β : Type} (R : α → β → Prop) : List α → List β → Prop
  | nil : DT R [] []
  | cons {a b as bs} : R a b → DT R as bs → DT R (a :: as) (b :: bs)
theorem DT.length {α β : Type} {R : α → β → Prop} {as : List α} {bs : List β} (h : DT R as bs) : as.length = bs.length := by
  induction h with
  | nil => rfl
  | cons _ _ ih => simp [ih]
theorem DT.mono {α β : Type} {R R' : α → β → Prop} {as : List α} {bs : List β} (h : DT R as bs) (hr : ∀ a b, R a b → R' a b) : DT R' as bs := by
  induction h with
  | nil => exact .nil
  | cons h1 _ ih => exact .cons (hr _ _ h1) ih
theorem DT.get {α β : Type} {R : α → β → Prop} {as : List α} {bs : List β} (h : DT R as bs) : ∀ {i : Nat} {b : β}, bs[i]? = some b → ∃ a, as[i]? = some a ∧ R a b := by
  induction h with
  | nil => intro i b hb; simp at hb
  | cons h1 _ ih =>
    intro i b hb
    cases i with
    | zero => simp at hb ⊢; exact hb ▸ h1
    | succ i => simpa using ih (by simpa using hb)
theorem DT.append {α β : Type} {R : α → β → Prop} {as aa : List α} {bs ab : List β} (h : DT R as bs) (h' : DT R aa ab) : DT R (as ++ aa) (bs ++ ab) := by
  induction h with
  | nil => exact h'
  | cons h1 _ ih => exact .cons h1 ih
theorem DT.take {α β : Type} {R : α → β → Prop} {as : List α} {bs : List β} (h : DT R as bs) : ∀ n, DT R (as.take n) (bs.take n) := by
  induction h with
  | nil => intro n; simp; exact .nil
  | cons h1 _ ih => intro n; cases n with
    | zero => exact .nil
    | succ n => exact .cons h1 (ih n)
theorem DT.drop {α β : Type} {R : α → β → Prop} {as : List α} {bs : List β} (h : DT R as bs) : ∀ n, DT R (as.drop n) (bs.drop n) := by
  induction h with
  | nil => intro n; simp; exact .nil
  | cons h1 h2 ih => intro n; cases n with
    | zero => exact .cons h1 h2
    | succ n => exact ih n
theorem DT.set {α β : Type} {R : α → β → Prop} {as : List α} {bs : List β} (h : DT R as bs) {x : α} {y : β} (hx : R x y) : ∀ i, DT R (as.set i x) (bs.set i y) := by
  induction h with
  | nil => intro i; simp; exact .nil
  | cons h1 h2 ih => intro i; cases i with
    | zero => exact .cons hx h2
    | succ i => exact .cons h1 (ih i)
theorem DT.map {α β : Type} {R : α → β → Prop} (f : β → α) (hf : ∀ b, R (f b) b) : ∀ bs : List β, DT R (bs.map f) bs
  | [] => .nil
  | b :: bs => .cons (hf b) (DT.map f hf bs)
theorem J7 {sz : Nat} : ∀ {vss : List (List Value)}, (∀ vs ∈ vss, vs.length = sz) → ∀ {i : Nat} {vs : List Value}, vss[i]? = some vs → ∀ j, j < sz → vss.flatten[i * sz + j]? = vs[j]?
  | [], _, i, vs, h, j, _ => by simp at h
  | v0 :: vss, hl, 0, vs, h, j, hj => by
    simp at h; subst h
    have := hl v0 (by simp)
    simp [List.getElem?_append_left (show j < v0.length by omega)]
  | v0 :: vss, hl, i + 1, vs, h, j, hj => by
    have h0 := hl v0 (by simp)
    have := J7 (vss := vss) (fun v hv => hl v (by simp [hv])) (i := i) (vs := vs) (by simpa using h) j hj
    rw [List.flatten_cons, List.getElem?_append_right (by rw [h0, Nat.add_mul]; omega), h0, ← this]
    congr 1; rw [Nat.add_mul]; omega
theorem DB {sz : Nat} : ∀ {vss : List (List Value)}, (∀ vs ∈ vss, vs.length = sz) → vss.flatten.length = vss.length * sz
  | [], _ => by simp
  | v :: vss, hl => by
    rw [List.flatten_cons, List.length_append, hl v (by simp), DB (fun v hv => hl v (by simp [hv])), List.length_cons, Nat.add_mul]; omega
abbrev Hf (α : Type) := FS → List Value → α → Prop
structure Ck {α : Type} (sz : Nat) (R : Hf α) : Prop where
  mono : ∀ {F F' vs x}, AQ F F' → R F vs x → R F' vs x
  len : ∀ {F vs x}, R F vs x → vs.length = sz
  one : ∀ {F vs x}, R F vs x → OneCell vs
def At {α : Type} (sz : Nat) (R : Hf α) (F : FS) (a : Option Addr) (cap : Nat) (xs : List α) : Prop :=
  ∃ vss, DT (R F) vss xs ∧ Row F sz a xs.length cap vss.flatten
theorem DT.lens {α : Type} {sz : Nat} {R : Hf α} (hR : Ck sz R) {F : FS} {vss : List (List Value)} {xs : List α} (h : DT (R F) vss xs) : ∀ vs ∈ vss, vs.length = sz := by
  induction h with
  | nil => intro vs h; simp at h
  | cons h1 _ ih => intro vs h; rcases List.mem_cons.1 h with rfl | h
                    · exact hR.len h1
                    · exact ih vs h
theorem DT.OE {α : Type} {sz : Nat} {R : Hf α} (hR : Ck sz R) {F : FS} {vss : List (List Value)} {xs : List α} (h : DT (R F) vss xs) : OneCell vss.flatten := by
  induction h with
  | nil => intro v h; simp at h
  | cons h1 _ ih => intro v h; rw [List.flatten_cons] at h; exact (List.mem_append.1 h).elim (hR.one h1 v) (ih v)
theorem At.mono {α : Type} {sz : Nat} {R : Hf α} (hR : Ck sz R) {F F' : FS} {a : Option Addr} {cap : Nat} {xs : List α} (h : At sz R F a cap xs) (hF : AQ F F') : At sz R F' a cap xs :=
  h.imp fun _ ⟨h1, h2⟩ => ⟨h1.mono fun _ _ => hR.mono hF, h2.mono hF⟩
theorem At.at {α : Type} {sz : Nat} {R : Hf α} (hR : Ck sz R) {F : FS} {a : Option Addr} {cap : Nat} {xs : List α} (h : At sz R F a cap xs) (L : LH) {i : Int} {x : α} (_h0 : 0 ≤ i) (hi : xs[i.toNat]? = some x) :
    ∃ b o c vs, a = some ⟨b, o, none⟩ ∧ Has F L b c ∧ o + i.toNat * sz + sz ≤ c.size ∧ R F vs x ∧ vs.length = sz ∧ ∀ j, j < sz → c[o + i.toNat * sz + j]? = vs[j]? := by
  obtain ⟨vss, h1, h2⟩ := h
  obtain ⟨vs, h3, h4⟩ := h1.get hi
  have aa : i.toNat < xs.length := by rcases List.getElem?_eq_some_iff.1 hi with ⟨h, _⟩; exact h
  obtain ⟨b, o, c, h5, h6, h7, h8⟩ := h2.at (L := L) aa
  exact ⟨b, o, c, vs, h5, h6, h7, h4, hR.len h4, fun j hj => by rw [h8 j hj, J7 (h1.lens hR) h3 j hj]⟩
theorem At.lt {α : Type} {sz : Nat} {R : Hf α} {F : FS} {a : Option Addr} {cap : Nat} {xs : List α} (h : At sz R F a cap xs) : (xs.length : Int) ≤ 9223372036854775807 := by
  obtain ⟨_, _, h2⟩ := h
  have h1 := h2.le; have h2 := h2.cm; simp only [maxLen] at h2; omega
theorem Bi {c : Array Value} {o n : Nat} {vs : List Value} (_hle : o + n ≤ c.size) (hl : vs.length = n) (h : ∀ j, j < n → c[o + j]? = vs[j]?) : c.extract o (o + n) = vs.toArray := by
  apply Array.ext'
  apply List.ext_getElem?
  intro j
  simp only [Array.toList_extract, List.extract_eq_take_drop, List.getElem?_take, List.getElem?_drop]
  by_cases hj : j < n
  · rw [if_pos (by omega)]; simpa using h j hj
  · rw [if_neg (by omega)]; simp; omega
theorem At.Bd {α : Type} {sz : Nat} {R : Hf α} (hR : Ck sz R) {F : FS} {b : Nat} {c : Array Value} {E : TypeId} {m : Nat × Nat} {vss : List (List Value)} {xs : List α} (hF : F b = some (.cells c E m)) (h : DT (R F) vss xs) (hc : c = vss.flatten.toArray) (hm : xs.length ≤ maxLen) :
    At sz R F (some ⟨b, 0, none⟩) xs.length xs := by
  have hl := DB (h.lens hR)
  rw [h.length] at hl
  refine ⟨vss, h, hl, Nat.le_refl _, hm, h.OE hR, .inr ⟨b, 0, c, E, m, rfl, hF, ?_, fun j hj => ?_⟩⟩
  · subst hc; simp [hl]
  · subst hc; simp
theorem DZ {P : Program} {T E sz bytes n : Nat} {z : Value} (hT : EN P T E sz z bytes) (vs : List Value) (hn : n = vs.length) (h0 : 0 < n) (hv : ∀ v ∈ vs, v.cells.size = sz) (hs : n * sz ≤ 16777216) (w : World) :
    (Instr.buildSlice T n ((vs.zipIdx 0).map fun x => (x.2, x.1)).toArray).run P w = .ok (.slice (some ⟨w.heap.size, 0, none⟩) n n) (w.alloc (.cells (vs.flatMap fun v => v.cells.toList).toArray E)) := by
  obtain ⟨i, ab, ad, aa, ae⟩ := hT.info
  have hp := hT.pos
  subst hn
  have hm : 0 < vs.length * sz := Nat.mul_pos h0 hp
  refine run_buildSlice w T E vs.length _ _ i z hT.Qw ab ad (by rw [aa]; omega) (by rw [aa]; omega) ?_
  rw [aa]
  exact Great.fill_whole hp vs _ hv (by simp)
def RL : Hf Int := fun _ vs x => vs = [.int .i64 x] ∧ Sy x
theorem DT.ints {F : FS} {vss : List (List Value)} {xs : List Int} (h : DT (RL F) vss xs) : vss.flatten = ints xs ∧ ∀ x ∈ xs, Sy x := by
  induction h with
  | nil => exact ⟨rfl, fun x h => by simp at h⟩
  | cons h1 _ ih =>
    obtain ⟨h1, h2⟩ := h1
    subst h1
    refine ⟨by simp [ih.1], fun x hx => ?_⟩
    rcases List.mem_cons.1 hx with rfl | hx
    · exact h2
    · exact ih.2 x hx
theorem DT.Qk {F : FS} : ∀ {xs : List Int}, (∀ x ∈ xs, Sy x) → DT (RL F) (xs.map fun x => [.int .i64 x]) xs
  | [], _ => .nil
  | x :: xs, h => .cons ⟨rfl, h x (by simp)⟩ (DT.Qk fun y hy => h y (by simp [hy]))
theorem Ob (xs : List Int) : (xs.map fun x => [Value.int .i64 x]).flatten = ints xs := by induction xs with
  | nil => rfl
  | cons x xs ih => simp [ih]
theorem At.ints {F : FS} {a : Option Addr} {cap : Nat} {xs : List Int} (h : At 1 RL F a cap xs) : Lk F a cap xs := by
  obtain ⟨vss, h1, h2⟩ := h
  rw [h1.ints.1] at h2
  exact ⟨h2, h1.ints.2⟩
theorem Lk.R {F : FS} {a : Option Addr} {cap : Nat} {xs : List Int} (h : Lk F a cap xs) : At 1 RL F a cap xs :=
  ⟨_, DT.Qk h.S6, by rw [Ob]; exact h.row⟩
def AI {α : Type} (nb E sz : Nat) (R : Hf α) (F : FS) (a : Option Addr) (n cap : Nat) (xs : List α) (Lb : LH) : Prop :=
  (∀ p ∈ Lb, nb ≤ p.1) ∧ n = xs.length ∧ ∃ vss, DT (R F) vss xs ∧ Sl E sz (.slice a n cap) n vss.flatten Lb
section
variable {α : Type} {nb E sz : Nat} {R : Hf α} {F : FS} {a : Option Addr} {n cap : Nat} {xs : List α} {Lb : LH}
theorem AI.nil (nb E sz : Nat) (R : Hf α) (F : FS) : AI nb E sz R F none 0 0 ([] : List α) [] := ⟨fun p h => by simp at h, rfl, [], .nil, Sl.nil E sz⟩
theorem AI.mono (hR : Ck sz R) {F' : FS} (h : AI nb E sz R F a n cap xs Lb) (hF : AQ F F') : AI nb E sz R F' a n cap xs Lb :=
  ⟨h.1, h.2.1, h.2.2.imp fun _ ⟨h1, h2⟩ => ⟨h1.mono fun _ _ => hR.mono hF, h2⟩⟩
theorem AI.A1 (h : AI nb E sz R F a n cap xs Lb) : n = xs.length ∧ n ≤ cap ∧ cap ≤ maxLen := by
  obtain ⟨_, hn, vss, h1, h2⟩ := h
  obtain ⟨a', aa, h3, h4, h5⟩ := h2.shape
  cases h3; exact ⟨hn, h4, h5⟩
theorem AI.lt (h : AI nb E sz R F a n cap xs Lb) : (n : Int) ≤ 9223372036854775807 := by
  have := h.A1; simp only [maxLen] at this; omega
theorem AI.Bd {b : Nat} {vss : List (List Value)} {c : Array Value} (hR : Ck sz R) (hb : nb ≤ b) (h : DT (R F) vss xs) (hc : c = vss.flatten.toArray) (hn : n = xs.length) (hm : xs.length ≤ maxLen) :
    AI nb E sz R F (some ⟨b, 0, none⟩) n n xs [(b, .cells c E (0, 0))] := by
  subst hc; subst hn
  have hl := DB (h.lens hR)
  rw [h.length] at hl
  exact ⟨fun p hp => by simp at hp; subst hp; exact hb, rfl, vss, h, Sl.whole hl (h.OE hR) hm⟩
theorem AI.at (hR : Ck sz R) (h : AI nb E sz R F a n cap xs Lb) {L Lr : LH} (hL : L.Perm (Lb ++ Lr)) {i : Int} {x : α} (_h0 : 0 ≤ i) (hi : xs[i.toNat]? = some x) :
    ∃ b o c vs, a = some ⟨b, o, none⟩ ∧ Has F L b c ∧ o + i.toNat * sz + sz ≤ c.size ∧ R F vs x ∧ vs.length = sz ∧ ∀ j, j < sz → c[o + i.toNat * sz + j]? = vs[j]? := by
  obtain ⟨_, rfl, vss, h1, h2, h3, h4⟩ := h
  obtain ⟨vs, h5, h6⟩ := h1.get hi
  have ab : i.toNat < xs.length := by rcases List.getElem?_eq_some_iff.1 hi with ⟨h, _⟩; exact h
  rcases h4 with ⟨_, _, hn, _⟩ | ⟨g, aa, pre, sp, hv, h7, h8, h9, rfl⟩
  · omega
  · cases hv
    have hmul : i.toNat * sz + sz ≤ xs.length * sz := by have := Nat.mul_le_mul_right sz (show i.toNat + 1 ≤ xs.length by omega); rwa [Nat.add_mul, Nat.one_mul] at this
    refine ⟨g, pre.length, _, vs, rfl, ⟨E, (0, 0), .inr (hL.mem_iff.2 (List.mem_append_left _ (List.mem_cons_self ..)))⟩, ?_, h6, hR.len h6, fun j hj => ?_⟩
    · simp only [List.size_toArray, List.length_append]; omega
    · rw [← J7 (h1.lens hR) h5 j hj]
      simp only [List.getElem?_toArray]
      rw [List.append_assoc, List.getElem?_append_right (by omega), List.getElem?_append_left (by rw [h2]; omega)]
      congr 1; omega
theorem AI.from (h : AI nb E sz R F a n cap xs Lb) {l : Nat} (hR : Ck sz R) (hl : l ≤ n) : ∃ Lb', Lb'.Sublist Lb ∧ AI nb E sz R F (if cap = l then a else a.map (·.add (l * sz))) (n - l) (cap - l) (xs.drop l) Lb' := by
  obtain ⟨h0, rfl, vss, h1, h2⟩ := h
  obtain ⟨Lb', h3, h4⟩ := h2.from hl
  refine ⟨Lb', h3, fun p hp => h0 p (h3.subset hp), by simp, vss.drop l, h1.drop l, ?_⟩
  have aa : ∀ (vss : List (List Value)) (l : Nat), (∀ vs ∈ vss, vs.length = sz) → vss.flatten.drop (l * sz) = (vss.drop l).flatten := by
    intro vss
    induction vss with
    | nil => intro l _; simp
    | cons v vss ih =>
      intro l hv
      cases l with
      | zero => simp
      | succ l =>
        have ab := hv v (by simp)
        rw [List.flatten_cons, Nat.succ_mul, List.drop_append, List.drop_succ_cons, ← ih l (fun u hu => hv u (by simp [hu]))]
        rw [List.drop_eq_nil_of_le (by omega)]
        simp [ab]
  rw [← aa vss l (h1.lens hR)]
  exact h4
end
theorem Qe {A X R R' : LH} (h : R.Perm (X ++ R')) : (A ++ R).Perm (X ++ (A ++ R')) := (h.append_left A).trans (List.perm_append_comm_assoc ..)
theorem P7 {b : Nat × Obj} {X R R' : LH} (h : R.Perm (X ++ R')) : (b :: R).Perm (X ++ (b :: R')) := (h.cons b).trans List.perm_middle.symm
section
variable {P : Program} {N : Nat} {r : Option Nat} {K : Ctx} {ops : Array Oper} {Q : Env → FS → LH → Prop} {rest : List Oper} {e : Env} {F : FS} {L : LH}
variable {ty : TypeId} {pos : String} {after : Array Edge} {d : Option Nat}
variable {α : Type} {R : Hf α} {a : Option Addr} {n cap : Nat} {xs : List α} {Lb Lr : LH}
def FL (sz : Nat) (R : Hf α) (F : FS) (L : LH) (a : Option Addr) (m : Nat) (ys : List α) : Prop := m = ys.length ∧ ∃ vss, DT (R F) vss ys ∧ Src F L sz a m vss.flatten
theorem FL.perm {sz m : Nat} {L L' : LH} {a : Option Addr} {ys : List α} (h : FL sz R F L a m ys) (hp : L.Perm L') : FL sz R F L' a m ys :=
  ⟨h.1, h.2.imp fun _ ⟨h1, h2, h3, h4⟩ => ⟨h1, h2, h3, h4.imp id fun ⟨b, o, c, g1, ⟨E, m, g2⟩, g3⟩ => ⟨b, o, c, g1, ⟨E, m, g2.imp id hp.mem_iff.1⟩, g3⟩⟩⟩
theorem FL.box {sz b n : Nat} {E : TypeId} {c : Array Value} {mm : Nat × Nat} {vss : List (List Value)} {L : LH} {ys : List α} (i : Nat) (hi : L[i]? = some (b, .cells c E mm)) (hR : Ck sz R) (h : DT (R F) vss ys) (hc : c = vss.flatten.toArray) (hn : n = ys.length) : FL sz R F L (some ⟨b, 0, none⟩) n ys := by
  subst hn
  have hl := DB (h.lens hR)
  rw [h.length] at hl
  refine ⟨rfl, vss, h, hl, h.OE hR, .inr ⟨b, 0, c, rfl, .own i hi, ?_, fun j hj => ?_⟩⟩
  · subst hc; simp [hl]
  · subst hc; simp
theorem FL.nil {sz : Nat} {L : LH} {a : Option Addr} : FL sz R F L a 0 ([] : List α) := ⟨rfl, [], .nil, by simp, fun v h => by simp at h, .inl rfl⟩
theorem At.src {sz : Nat} {L : LH} (h : At sz R F a cap xs) : FL sz R F L a xs.length xs := ⟨rfl, h.imp fun _ ⟨h1, h2⟩ => ⟨h1, h2.src⟩⟩
theorem AI.src {nb E sz : Nat} (h : AI nb E sz R F a n cap xs Lb) (hL : L.Perm (Lb ++ Lr)) : FL sz R F L a n xs := by
  obtain ⟨_, rfl, vss, h1, h2, h3, h4⟩ := h
  refine ⟨rfl, vss, h1, h2, h3, ?_⟩
  rcases h4 with ⟨_, _, hn, _⟩ | ⟨g, aa, pre, sp, hv, h7, h8, h9, rfl⟩
  · exact .inl hn
  · cases hv
    refine .inr ⟨g, pre.length, _, rfl, ⟨E, (0, 0), .inr (hL.mem_iff.2 (List.mem_append_left _ (List.mem_cons_self ..)))⟩, ?_, fun j hj => ?_⟩
    · simp only [List.size_toArray, List.length_append]; omega
    · simp only [List.getElem?_toArray]
      rw [List.append_assoc, List.getElem?_append_right (by omega), Nat.add_sub_cancel_left, List.getElem?_append_left (by rw [h2]; exact hj)]
theorem QB {T E : TypeId} {x y : Operand} {nb sz bytes m c2 : Nat} {z : Value} {ys : List α} {a2 : Option Addr} (hd : CW N d = true) (hT : EN P T E sz z bytes) (hx : ev e x = some (.slice a n cap)) (hy : ev e y = some (.slice a2 m c2))
    (ah : nb ≤ K.w0.heap.size) (hL : L.Perm (Lb ++ Lr)) (ab : AI nb E sz R F a n cap xs Lb) (ad : FL sz R F L a2 m ys) (hn : n + m ≤ maxLen) (hb : (n + m) * bytes ≤ 140737488355328)
    (k : ∀ a' aa Lb', AI nb E sz R F a' (n + m) aa (xs ++ ys) Lb' → Ct P N r K ops Q rest (e.put d (.slice a' (n + m) aa)) F (Lb' ++ Lr)) :
    Ct P N r K ops Q (⟨d, .call ⟨.builtin .append, #[x, y], #[T, T]⟩, ty, pos, after, none⟩ :: rest) e F L := by
  obtain ⟨h0, ai, vss, h1, h2⟩ := ab
  obtain ⟨aj, ae, h3, h4⟩ := ad.perm hL
  refine Bc hL (Ra (l1 := []) hd hT hx hy rfl h2 h4 hn hb fun v' Lb' h5 h6 => ?_)
  obtain ⟨a', aa, hv, _, _⟩ := h5.shape
  subst hv
  have h8 : vss.flatten ++ ae.flatten = (vss ++ ae).flatten := by simp
  rw [h8] at h5
  exact k a' aa Lb' ⟨fun p hp => (h6 p hp).elim (fun h => by
    obtain ⟨q, hq, he⟩ := List.mem_map.1 h
    rw [← he]; exact h0 q hq) (Nat.le_trans ah), by rw [ai, aj, List.length_append], _, h1.append h3, h5⟩
theorem Md (pre KA aa vs : List Value) (hl : vs.length = KA.length) : (vs.zipIdx pre.length).foldl (fun (c : Array Value) p => c.setIfInBounds p.2 p.1) (pre ++ KA ++ aa).toArray = (pre ++ vs ++ aa).toArray := by
  apply Array.ext'
  rw [IE _ _ _ (by simp; omega)]
  simp only [List.append_assoc, List.take_left]
  congr 1; congr 1
  rw [← List.append_assoc, show pre.length + vs.length = (pre ++ KA).length by simp [hl], List.drop_left]
theorem Rf {T E : TypeId} {x y : Operand} {nb sz b o : Nat} {i : Int} {v : Value} {u : α} (hT : ∀ w, (sizeOf T).run P w = .ok sz w) (hR : Ck sz R) (hx : ev e x = some (.pointer (some ⟨b, o + i.toNat * sz, none⟩))) (ha : a = some ⟨b, o, none⟩) (hy : ev e y = some v) (hu : R F v.cells.toList u)
    (hL : L.Perm (Lb ++ Lr)) (ai : AI nb E sz R F a n cap xs Lb) (h0 : 0 ≤ i) (hi : i < n)
    (k : ∀ Lb', AI nb E sz R F a n cap (xs.set i.toNat u) Lb' → Ct P N r K ops Q rest e F (Lb' ++ Lr)) :
    Ct P N r K ops Q (⟨none, .store T x y, ty, pos, after, none⟩ :: rest) e F L := by
  refine Bc hL ?_
  subst ha
  obtain ⟨h3, rfl, vss, h4, h5, h6, h7⟩ := ai
  rcases h7 with ⟨_, _, hv, _⟩ | ⟨g, au, pre, sp, hv, h8, h9, av, rfl⟩
  · omega
  · cases hv
    refine MV (by intros; simp) fun M act w ha hs => ?_
    have ad : i.toNat < vss.length := by rw [h4.length]; omega
    have hlen := h4.lens hR
    have aj : v.cells.toList.length = sz := hR.len hu
    have aa : vss = vss.take i.toNat ++ (vss[i.toNat] :: vss.drop (i.toNat + 1)) := by rw [← List.drop_eq_getElem_cons ad, List.take_append_drop]
    have ak : (vss[i.toNat]).length = sz := hlen _ (List.getElem_mem ad)
    have al : (vss.take i.toNat).flatten.length = i.toNat * sz := by
      rw [DB (fun vs hv => hlen vs (List.mem_of_mem_take hv)), List.length_take, Nat.min_eq_left (Nat.le_of_lt ad)]
    have hc : pre ++ vss.flatten ++ sp = (pre ++ (vss.take i.toNat).flatten) ++ vss[i.toNat] ++ ((vss.drop (i.toNat + 1)).flatten ++ sp) := by
      have ae := (congrArg List.flatten aa).trans (by rw [List.flatten_append, List.flatten_cons])
      rw [ae]; simp only [List.append_assoc]
    have ao : vss.set i.toNat v.cells.toList = vss.take i.toNat ++ (v.cells.toList :: vss.drop (i.toNat + 1)) := by rw [List.set_eq_take_append_cons_drop, if_pos ad]
    obtain ⟨w', hr, ar⟩ := DV (P := P) (i := 0) v.cells.toList w _ _ (pre.length + i.toNat * sz) 0 hs rfl (by
      have : i.toNat * sz + sz ≤ vss.length * sz := by have := Nat.mul_le_mul_right sz (show i.toNat + 1 ≤ vss.length by omega); rwa [Nat.add_mul, Nat.one_mul] at this
      rw [h4.length] at this
      simp only [List.size_toArray, List.length_append, h5, aj]; omega) (hR.one hu)
    have ab : (v.cells.toList.zipIdx (pre.length + i.toNat * sz + 0)).foldl (fun c p => c.setIfInBounds p.2 p.1) (pre ++ vss.flatten ++ sp).toArray = (pre ++ (vss.set i.toNat v.cells.toList).flatten ++ sp).toArray := by
      rw [hc, ao]
      have := Md (pre ++ (vss.take i.toNat).flatten) vss[i.toNat] ((vss.drop (i.toNat + 1)).flatten ++ sp) v.cells.toList (by rw [aj, ak])
      rw [List.length_append, al] at this
      rw [Nat.add_zero]
      refine this.trans ?_
      rw [List.flatten_append, List.flatten_cons]; simp only [List.append_assoc]
    rw [ab] at ar
    have ah := h4.set hu i.toNat
    refine ⟨F, _, w', ?_, ar, ?_⟩
    · have aq : v.cells.size = sz := by simpa using aj
      simp [execOp, Instr.storeAt, Instr.sureAddr, storeVar, ha.ev hx, ha.ev hy, hT, aq, hr]
    · have ae : (vss.set i.toNat v.cells.toList).flatten.length = vss.flatten.length := by
        rw [DB (ah.lens hR), h5, ah.length]; simp
      refine k [(b, .cells (pre ++ (vss.set i.toNat v.cells.toList).flatten ++ sp).toArray E (0, 0))] ⟨fun p hp => ?_, by simp, _, ah, ?_⟩
      · rw [List.mem_singleton.1 hp]; exact h3 (b, .cells (pre ++ vss.flatten ++ sp).toArray E (0, 0)) (List.mem_cons_self ..)
      · exact ⟨by rw [ae, h5], ah.OE hR, .inr ⟨b, cap, pre, sp, rfl, h8, h9, by rw [ae]; exact av, rfl⟩⟩
theorem AI.row {nb E sz : Nat} (h : AI nb E sz R F a n cap xs Lb) (hR : Ck sz R) {F' : FS} (hx : AQ F F') (hF : ∀ p ∈ Lb, F' p.1 = some p.2) : At sz R F' a cap xs := by
  obtain ⟨_, rfl, vss, h1, h2⟩ := h
  obtain ⟨a', c', h3, h4⟩ := h2.row hF
  cases h3
  exact ⟨vss, h1.mono fun _ _ => hR.mono hx, h4⟩
theorem A5 {nb E sz : Nat} {l : List Oper} (aa : K.w0.heap.size ≤ nb) (hR : Ck sz R) (hL : L.Perm (Lb ++ Lr)) (h : AI nb E sz R F a n cap xs Lb) (k : ∀ F', AQ F F' → At sz R F' a cap xs → Ct P N r K ops Q l e F' Lr) : Ct P N r K ops Q l e F L := fun M act w ha hs => by
  obtain ⟨F', h1, h2, h3⟩ := St.JB Lb (hs.perm hL) (fun p hp => Nat.le_trans aa (h.1 p hp))
  exact k F' h2 (h.row hR h2 h3) M act w ha h1
theorem Ih {Q : GI} {nb E sz : Nat} {c : Code} (aa : K.w0.heap.size ≤ nb) (hR : Ck sz R) (hL : L.Perm (Lb ++ Lr)) (h : AI nb E sz R F a n cap xs Lb) (k : ∀ F', AQ F F' → At sz R F' a cap xs → Gg P N r K c Q e F' Lr) : Gg P N r K c Q e F L := fun M act w ha hs => by
  obtain ⟨F', h1, h2, h3⟩ := St.JB Lb (hs.perm hL) (fun p hp => Nat.le_trans aa (h.1 p hp))
  exact k F' h2 (h.row hR h2 h3) M act w ha h1
theorem RD {x : Operand} {xs : Array Operand} {MZ : Array TypeId} {f : FuncId} {first cap args : Array Value} {vs : List Value} {Rr : FS → LH → Value → Prop} (hd : CW N d = true) (hf : ∀ args w, (callFunc f args).run P w = .ok (.enter f args) w)
    (hx : ev e x = some (.func (.func f) first cap)) (ad : xs.toList.mapM (ev e) = some vs) (aa : first ++ vs.toArray ++ cap = args) (ab : Spec P f args F [] Rr)
    (k : ∀ v F' L', AQ F F' → (∀ p ∈ L', K.w0.heap.size ≤ p.1) → Rr F' L' v → Ct P N r K ops Q rest (e.put d v) F' (L' ++ L)) :
    Ct P N r K ops Q (⟨d, .call ⟨.value x, xs, MZ⟩, ty, pos, after, none⟩ :: rest) e F L := fun M a w ha hs => by
  refine wpListIn_plain rfl fun Kn hK => ⟨fun _ _ => trivial, ?_⟩
  rw [Oper.semAt_eq _ _ _ (by intro c h; cases h), J0 ha hf hx ad, aa]
  refine ⟨by simp, EB ?_⟩
  refine (ab w hs.MA ⟨by simp, fun p hp => by simp at hp, fun p hp => by simp at hp⟩).mono ?_
  rintro ee w' ⟨v, F', L', rfl, h1, h2, h3, h4, h5, h6⟩
  obtain ⟨h7, h8⟩ := St.HY (Lb := []) (Lr := L) hs h1 h2 h3 h4 h5
  exact hK _ _ (k v F' L' h8 (fun p hp => (h5 p hp).elim (fun h => by simp [keys] at h) (Nat.le_trans hs.Fw.size)) h6 _ _ _ (ha.MR hd v) h7)
end
theorem getD_some {α : Type} {xs : List α} {i : Nat} {d : α} (h : i < xs.length) : xs[i]? = some (xs.getD i d) := by simp [List.getD_eq_getElem?_getD, h]
theorem LL (sz n : Nat) (c : Array Value) (hc : c.size = sz) (hp : 0 < sz) : madeCells c (n * sz) = ((List.replicate n c.toList).flatten).toArray := by
  apply Array.ext'
  unfold madeCells
  have hl : ∀ n, ((List.replicate n c.toList).flatten).length = n * sz := fun n => by
    rw [DB (sz := sz) (fun vs hv => by rw [List.eq_of_mem_replicate hv]; simpa using hc)]; simp
  apply List.ext_getElem?
  intro j
  by_cases hj : j < n * sz
  · have hi : j / sz < n := Nat.div_lt_of_lt_mul (by rwa [Nat.mul_comm])
    have hm : j % sz < sz := Nat.mod_lt _ hp
    have aa := J7 (sz := sz) (vss := List.replicate n c.toList) (fun vs hv => by rw [List.eq_of_mem_replicate hv]; simpa using hc) (i := j / sz) (vs := c.toList) (by simp [hi]) (j % sz) hm
    have ab : j / sz * sz + j % sz = j := by rw [Nat.mul_comm]; exact Nat.div_add_mod ..
    rw [ab] at aa
    rw [aa]
    simp [hj, hc, hm]
  · rw [List.getElem?_eq_none (by simp; omega), List.getElem?_eq_none (by rw [hl]; omega)]
theorem AI.made {α : Type} {nb E sz b n : Nat} {R : Hf α} {F : FS} {c : Array Value} {z : α} (hR : Ck sz R) (hp : 0 < sz) (hz : ∀ F, R F c.toList z) (hb : nb ≤ b) (hm : n ≤ maxLen) : AI nb E sz R F (some ⟨b, 0, none⟩) n n (List.replicate n z) [(b, .cells (madeCells c (n * sz)) E (0, 0))] := by
  have aa : ∀ n, DT (R F) (List.replicate n c.toList) (List.replicate n z) := fun n => by
    induction n with
    | zero => exact .nil
    | succ n ih => exact .cons (hz F) ih
  exact AI.Bd hR hb (aa n) (LL sz n c (by have := hR.len (hz F); simpa using this) hp) (by simp) (by simpa using hm)
theorem AQ.mono {F F' F2 : FS} (h : AQ F F') (h' : AQ F' F2) : AQ F F2 := h.trans h'
theorem P0 {A B : Prop} {v : Value} (h : (v = .bool true ∧ A) ∨ (v = .bool false ∧ B)) : ∃ b : Bool, v = .bool b ∧ (b = true → A) ∧ (b = false → B) := by
  rcases h with ⟨rfl, h⟩ | ⟨rfl, h⟩
  · exact ⟨true, rfl, fun _ => h, fun h' => (Bool.noConfusion h')⟩
  · exact ⟨false, rfl, fun h' => (Bool.noConfusion h'), fun _ => h⟩
end Go.SH
