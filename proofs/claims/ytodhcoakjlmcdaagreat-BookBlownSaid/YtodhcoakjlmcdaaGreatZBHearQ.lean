/- Layer 1: tables of loudness, in plain Lean. No program is in sight. -/
import Derived.Test.YtodhcoakjlmcdaaGreatZBHearP
namespace Go.Hear
theorem getD_set {xs : List Int} {i j : Nat} {v : Int} (hi : i < xs.length) : (xs.set i v).getD j 0 = if i = j then v else xs.getD j 0 := by
  simp only [List.getD_eq_getElem?_getD, List.getElem?_set]
  split
  · simp
  · rfl
theorem sum_set (f : Int → Nat) : ∀ (xs : List Int) (i : Nat) (v : Int), i < xs.length → ((xs.set i v).map f).sum + f (xs.getD i 0) = (xs.map f).sum + f v
  | [], i, v, h => by simp at h
  | x :: xs, 0, v, _ => by simp; omega
  | x :: xs, i + 1, v, h => by
    have := sum_set f xs i v (by simpa using h)
    simp only [List.set_cons_succ, List.map_cons, List.sum_cons, List.getD_cons_succ]; omega
/-- How a cell of a table counts towards the end of the search. -/
def cost (n : Nat) (x : Int) : Nat := if x = -1 then 5 * n + 1 else x.toNat
def mu (n : Nat) (out : List Int) : Nat := (out.map (cost n)).sum
/-- How many cells are told. -/
def told (out : List Int) : Nat := (out.map fun x => if x = -1 then 0 else 1).sum
theorem told_le (out : List Int) : told out ≤ out.length := by
  induction out with
  | nil => simp [told]
  | cons x xs ih => simp only [told, List.map_cons, List.sum_cons, List.length_cons] at *; split <;> omega
/-- A way of a cry, and what it needs. -/
inductive Walk (E : Int → List (Int × Int)) (s : Int) : Int → Int → Prop
  | here : Walk E s s 0
  | step {p d q m : Int} : Walk E s p d → (q, m) ∈ E p → Walk E s q (d + m)
def at' (out : List Int) (p : Int) : Int := out.getD p.toNat 0
/-- A step is tried. -/
def relax (p : Int) (st : List Int × List Int) (x : Int × Int) : List Int × List Int :=
  if at' st.1 x.1 = -1 ∨ at' st.1 p + x.2 < at' st.1 x.1 then (st.1.set x.1.toNat (at' st.1 p + x.2), st.2 ++ [x.1]) else st
section
variable {n : Nat} {E : Int → List (Int × Int)} {s : Int}
def EOK (n : Nat) (E : Int → List (Int × Int)) : Prop := ∀ p q m, (q, m) ∈ E p → (0 ≤ q ∧ q < n) ∧ 1 ≤ m ∧ m ≤ 5
/-- The bounds of a table at work. -/
structure Wk (n : Nat) (E : Int → List (Int × Int)) (s : Int) (out : List Int) : Prop where
  len : out.length = n
  ge : ∀ q : Int, 0 ≤ q → q < n → at' out q = -1 ∨ (0 ≤ at' out q ∧ at' out q ≤ 5 * ((told out : Int) - 1) ∧ Walk E s q (at' out q))
  start : at' out s = 0
/-- The line of the search. -/
structure Ln (n : Nat) (out line : List Int) : Prop where
  rng : ∀ p ∈ line, (0 ≤ p ∧ p < n) ∧ at' out p ≠ -1
def okStep (out : List Int) (p : Int) (x : Int × Int) : Prop := at' out x.1 ≠ -1 ∧ at' out x.1 ≤ at' out p + x.2
def Mid (n : Nat) (E : Int → List (Int × Int)) (p : Int) (pre : List (Int × Int)) (out line : List Int) : Prop :=
  ∀ p' : Int, 0 ≤ p' → p' < n → at' out p' ≠ -1 → p' ∈ line ∨ (p' = p ∧ ∀ x ∈ pre, okStep out p x) ∨ (p' ≠ p ∧ ∀ x ∈ E p', okStep out p' x)
def Done (n : Nat) (E : Int → List (Int × Int)) (out line : List Int) : Prop :=
  ∀ p' : Int, 0 ≤ p' → p' < n → at' out p' ≠ -1 → p' ∈ line ∨ ∀ x ∈ E p', okStep out p' x
theorem Wk.le {out : List Int} (h : Wk n E s out) {q : Int} (h0 : 0 ≤ q) (hn : q < n) : at' out q ≤ 5 * n := by
  have h1 := told_le out
  rw [h.len] at h1
  rcases h.ge q h0 hn with h2 | ⟨_, h2, _⟩ <;> omega
theorem at_set {out : List Int} {i j v : Int} (hi : 0 ≤ i) (hi' : i < out.length) (hj : 0 ≤ j) : at' (out.set i.toNat v) j = if i = j then v else at' out j := by
  unfold at'
  rw [getD_set (by omega)]
  by_cases h : i = j
  · subst h; simp
  · rw [if_neg h, if_neg (by omega)]
theorem told_set {out : List Int} {i : Nat} {v : Int} (hi : i < out.length) (hv : v ≠ -1) : told (out.set i v) = told out + if out.getD i 0 = -1 then 1 else 0 := by
  have := sum_set (fun x => if x = -1 then 0 else 1) out i v hi
  simp only [if_neg hv] at this
  unfold told
  split <;> rename_i h <;> simp only [h, if_true, if_false] at this <;> omega
/-- One step tried: what stays, and that the search comes nearer to its end. -/
theorem relax_ok (hE : EOK n E) {p : Int} (hp : 0 ≤ p ∧ p < n) {x : Int × Int} (hx : x ∈ E p) {out line : List Int} (hW : Wk n E s out) (hL : Ln n out line) (hpo : at' out p ≠ -1) {pre : List (Int × Int)} (hpre : ∀ y ∈ pre, y ∈ E p) (hM : Mid n E p pre out line) :
    let st := relax p (out, line) x
    Wk n E s st.1 ∧ Ln n st.1 st.2 ∧ at' st.1 p ≠ -1 ∧ Mid n E p (pre ++ [x]) st.1 st.2 ∧ mu n st.1 + st.2.length ≤ mu n out + line.length := by
  obtain ⟨q, m⟩ := x
  obtain ⟨⟨hq0, hqn⟩, hm1, hm5⟩ := hE p q m hx
  have hlen := hW.len
  have hpv := (hW.ge p hp.1 hp.2).resolve_left hpo
  have htl := told_le out
  simp only [relax]
  by_cases hc : at' out q = -1 ∨ at' out p + m < at' out q
  · rw [if_pos hc]
    have hv : at' out p + m ≠ -1 := by omega
    have hset : ∀ j, 0 ≤ j → at' (out.set q.toNat (at' out p + m)) j = if q = j then at' out p + m else at' out j := fun j hj => at_set hq0 (by omega) hj
    have htold := told_set (out := out) (i := q.toNat) (v := at' out p + m) (by omega) hv
    have hqv := hW.ge q hq0 hqn
    have hto : (told out : Int) ≤ told (out.set q.toNat (at' out p + m)) := by rw [htold]; split <;> omega
    have hs0 : at' out s = 0 := hW.start
    refine ⟨⟨by simpa using hlen, fun j h0 hn => ?_, ?_⟩, ⟨fun j hj => ?_⟩, ?_, fun j h0 hn hj => ?_, ?_⟩
    · dsimp only
      rw [hset j h0]
      by_cases hqj : q = j
      · subst hqj
        rw [if_pos rfl]
        refine .inr ⟨by omega, ?_, .step hpv.2.2 hx⟩
        rcases hqv with h1 | h1
        · have : out.getD q.toNat 0 = -1 := h1
          rw [htold, if_pos this]; omega
        · omega
      · rw [if_neg hqj]
        rcases hW.ge j h0 hn with h1 | ⟨h1, h2, h3⟩
        · exact .inl h1
        · exact .inr ⟨h1, by omega, h3⟩
    · show at' (out.set q.toNat (at' out p + m)) s = 0
      by_cases hs : 0 ≤ s
      · rw [hset s hs]
        by_cases hqs : q = s
        · subst hqs
          exfalso
          rcases hc with h1 | h1 <;> omega
        · rw [if_neg hqs]; exact hs0
      · have e1 : s.toNat = 0 := by omega
        have h00 : at' out 0 = 0 := by unfold at' at hs0 ⊢; rw [e1] at hs0; exact hs0
        have : at' (out.set q.toNat (at' out p + m)) s = at' (out.set q.toNat (at' out p + m)) 0 := by unfold at'; rw [e1]; rfl
        rw [this, hset 0 (by omega)]
        by_cases hq : q = 0
        · subst hq; exfalso; rcases hc with h1 | h1 <;> omega
        · rw [if_neg hq]; exact h00
    · show (0 ≤ j ∧ j < n) ∧ at' (out.set q.toNat (at' out p + m)) j ≠ -1
      rcases List.mem_append.1 hj with hj | hj
      · obtain ⟨h1, h2⟩ := hL.rng j hj
        refine ⟨h1, ?_⟩
        rw [hset j h1.1]; split <;> omega
      · simp at hj; subst hj
        refine ⟨⟨hq0, hqn⟩, ?_⟩
        rw [hset j hq0, if_pos rfl]; exact hv
    · show at' (out.set q.toNat (at' out p + m)) p ≠ -1
      rw [hset p hp.1]; split <;> omega
    · dsimp only
      by_cases hqj : q = j
      · exact .inl (List.mem_append_right _ (by simp [hqj]))
      have hjo : at' out j ≠ -1 := by
        have := hset j h0; rw [if_neg hqj] at this
        have hj' : at' (out.set q.toNat (at' out p + m)) j ≠ -1 := hj
        rwa [this] at hj'
      have hok : ∀ (p' : Int) (x : Int × Int), 0 ≤ p' → q ≠ p' → 0 ≤ x.1 → okStep out p' x → okStep (out.set q.toNat (at' out p + m)) p' x := fun p' x hp' hq' hx' ⟨h1, h2⟩ => by
        unfold okStep
        rw [hset _ hx', hset p' hp', if_neg hq']
        split
        · rename_i he; subst he; exact ⟨hv, by rcases hc with h3 | h3 <;> omega⟩
        · exact ⟨h1, h2⟩
      rcases hM j h0 hn hjo with h1 | ⟨rfl, h1⟩ | ⟨h1, h2⟩
      · exact .inl (List.mem_append_left _ h1)
      · refine .inr (.inl ⟨rfl, fun y hy => ?_⟩)
        rcases List.mem_append.1 hy with hy | hy
        · exact hok j y h0 hqj (hE j y.1 y.2 (hpre y hy)).1.1 (h1 y hy)
        · simp at hy; subst hy
          show at' (out.set q.toNat (at' out j + m)) q ≠ -1 ∧ _ ≤ at' (out.set q.toNat (at' out j + m)) j + m
          rw [hset q hq0, if_pos rfl, hset j h0, if_neg hqj]; exact ⟨hv, Int.le_refl _⟩
      · exact .inr (.inr ⟨h1, fun y hy => hok j y h0 hqj (hE j y.1 y.2 hy).1.1 (h2 y hy)⟩)
    · show mu n (out.set q.toNat (at' out p + m)) + (line ++ [q]).length ≤ mu n out + line.length
      have h1 := sum_set (cost n) out q.toNat (at' out p + m) (by omega)
      have h2 : cost n (at' out p + m) < cost n (out.getD q.toNat 0) := by
        have h3 : out.getD q.toNat 0 = at' out q := rfl
        rw [h3]
        have h4 := hW.le hp.1 hp.2
        unfold cost
        rw [if_neg hv]
        split
        · have h5 : (told out : Int) ≤ n - 1 := by
            rename_i h6
            have := told_le (out.set q.toNat (at' out p + m))
            rw [htold, if_pos (by exact h6)] at this
            simp at this; omega
          omega
        · rename_i h6; rcases hc with h7 | h7 <;> omega
      unfold mu
      simp only [List.length_append, List.length_singleton]; omega
  · rw [if_neg hc]
    refine ⟨hW, hL, hpo, fun j h0 hn hj => ?_, Nat.le_refl _⟩
    rcases hM j h0 hn hj with h1 | ⟨rfl, h1⟩ | h1
    · exact .inl h1
    · refine .inr (.inl ⟨rfl, fun y hy => ?_⟩)
      rcases List.mem_append.1 hy with hy | hy
      · exact h1 y hy
      · simp at hy; subst hy
        exact ⟨fun h => hc (.inl h), by show at' out q ≤ at' out j + m; omega⟩
    · exact .inr (.inr h1)
/-- A round of the search, in part. -/
structure Rnd (n : Nat) (E : Int → List (Int × Int)) (s p : Int) (out0 rest : List Int) (pre : List (Int × Int)) (out line : List Int) : Prop where
  eq : (out, line) = pre.foldl (relax p) (out0, rest)
  wk : Wk n E s out
  ln : Ln n out line
  tp : at' out p ≠ -1
  mid : Mid n E p pre out line
  bd : mu n out + line.length ≤ mu n out0 + rest.length
theorem Rnd.first {p : Int} {out rest : List Int} (hW : Wk n E s out) (hL : Ln n out (p :: rest)) (hD : Done n E out (p :: rest)) : Rnd n E s p out rest [] out rest := by
  refine ⟨rfl, hW, ⟨fun q hq => hL.rng q (List.mem_cons_of_mem _ hq)⟩, (hL.rng p (List.mem_cons_self ..)).2, fun p' h0 hn hp' => ?_, Nat.le_refl _⟩
  rcases hD p' h0 hn hp' with h | h
  · rcases List.mem_cons.1 h with rfl | h
    · exact .inr (.inl ⟨rfl, fun x hx => by simp at hx⟩)
    · exact .inl h
  · by_cases he : p' = p
    · exact .inr (.inl ⟨he, fun x hx => by simp at hx⟩)
    · exact .inr (.inr ⟨he, h⟩)
theorem Rnd.next (hE : EOK n E) {p : Int} (hp : 0 ≤ p ∧ p < n) {out0 rest out line : List Int} {pre suf : List (Int × Int)} {x : Int × Int} (hs : E p = pre ++ x :: suf) (h : Rnd n E s p out0 rest pre out line) :
    Rnd n E s p out0 rest (pre ++ [x]) (relax p (out, line) x).1 (relax p (out, line) x).2 := by
  obtain ⟨h1, h2, h3, h4, h5⟩ := relax_ok hE hp (x := x) (by rw [hs]; simp) h.wk h.ln h.tp (pre := pre) (fun y hy => by rw [hs]; exact List.mem_append_left _ hy) h.mid
  refine ⟨?_, h1, h2, h3, h4, Nat.le_trans h5 h.bd⟩
  rw [List.foldl_append, ← h.eq]; rfl
theorem Rnd.last {p : Int} {out0 rest out line : List Int} (h : Rnd n E s p out0 rest (E p) out line) : Wk n E s out ∧ Ln n out line ∧ Done n E out line ∧ mu n out + line.length < mu n out0 + (p :: rest).length := by
  refine ⟨h.wk, h.ln, fun p' h0 hn hp' => ?_, Nat.lt_of_le_of_lt h.bd (by simp)⟩
  rcases h.mid p' h0 hn hp' with h1 | ⟨rfl, h1⟩ | ⟨_, h1⟩
  · exact .inl h1
  · exact .inr h1
  · exact .inr h1
theorem Rnd.go (hE : EOK n E) {p : Int} (hp : 0 ≤ p ∧ p < n) {out0 rest : List Int} : ∀ (suf pre : List (Int × Int)) (out line : List Int), E p = pre ++ suf → Rnd n E s p out0 rest pre out line →
    Rnd n E s p out0 rest (pre ++ suf) (suf.foldl (relax p) (out, line)).1 (suf.foldl (relax p) (out, line)).2
  | [], pre, out, line, _, h => by simpa using h
  | x :: suf, pre, out, line, hs, h => by
    have := Rnd.go hE hp suf (pre ++ [x]) _ _ (by simpa using hs) (h.next hE hp hs)
    simpa using this
theorem Rnd.all (hE : EOK n E) {p : Int} (hp : 0 ≤ p ∧ p < n) {out rest : List Int} (hW : Wk n E s out) (hL : Ln n out (p :: rest)) (hD : Done n E out (p :: rest)) :
    Rnd n E s p out rest (E p) ((E p).foldl (relax p) (out, rest)).1 ((E p).foldl (relax p) (out, rest)).2 := by
  simpa using Rnd.go hE hp (E p) [] _ _ (by simp) (Rnd.first hW hL hD)
/-- A table that is right. -/
structure Tab (n : Nat) (E : Int → List (Int × Int)) (s : Int) (out : List Int) : Prop where
  len : out.length = n
  start : at' out s = 0
  sound : ∀ q : Int, 0 ≤ q → q < n → at' out q = -1 ∨ (0 ≤ at' out q ∧ at' out q ≤ 5 * n ∧ Walk E s q (at' out q))
  closed : ∀ p : Int, 0 ≤ p → p < n → at' out p ≠ -1 → ∀ x ∈ E p, okStep out p x
theorem Tab.of {out : List Int} (hW : Wk n E s out) (hD : Done n E out []) : Tab n E s out :=
  ⟨hW.len, hW.start, fun q h0 hn => (hW.ge q h0 hn).imp id fun h => ⟨h.1, hW.le h0 hn, h.2.2⟩, fun p h0 hn hp => (hD p h0 hn hp).resolve_left (by simp)⟩
theorem Walk.rng (hE : EOK n E) (hs : 0 ≤ s ∧ s < n) {q d : Int} (h : Walk E s q d) : (0 ≤ q ∧ q < n) ∧ 0 ≤ d := by
  induction h with
  | here => exact ⟨hs, Int.le_refl _⟩
  | step _ h2 ih => have := hE _ _ _ h2; exact ⟨this.1, by omega⟩
theorem Tab.below (hE : EOK n E) (hs : 0 ≤ s ∧ s < n) {out : List Int} (hT : Tab n E s out) {q d : Int} (h : Walk E s q d) : at' out q ≠ -1 ∧ at' out q ≤ d := by
  induction h with
  | here => rw [hT.start]; omega
  | step h1 h2 ih =>
    rename_i p d q m
    have hr := h1.rng hE hs
    obtain ⟨h3, h4⟩ := hT.closed _ hr.1.1 hr.1.2 ih.1 _ h2
    exact ⟨h3, by have : at' out q ≤ at' out p + m := h4; omega⟩
theorem Tab.unique (hE : EOK n E) (hs : 0 ≤ s ∧ s < n) {out out' : List Int} (h : Tab n E s out) (h' : Tab n E s out') : out = out' := by
  apply List.ext_getElem (h.len.trans h'.len.symm)
  intro i h1 h2
  have hi : (i : Int) < n := by rw [← h.len]; omega
  have e1 : at' out i = out[i] := by simp [at', List.getD_eq_getElem?_getD, h1]
  have e2 : at' out' i = out'[i] := by simp [at', List.getD_eq_getElem?_getD, h2]
  rw [← e1, ← e2]
  rcases h.sound i (by omega) hi with a | ⟨_, _, a⟩ <;> rcases h'.sound i (by omega) hi with b | ⟨_, _, b⟩
  · rw [a, b]
  · exact absurd a (h.below hE hs b).1
  · exact absurd b (h'.below hE hs a).1
  · exact Int.le_antisymm (h.below hE hs b).2 (h'.below hE hs a).2
def bfs (E : Int → List (Int × Int)) : Nat → List Int → List Int → List Int
  | 0, out, _ => out
  | _ + 1, out, [] => out
  | f + 1, out, p :: rest => bfs E f ((E p).foldl (relax p) (out, rest)).1 ((E p).foldl (relax p) (out, rest)).2
def start (n : Nat) (s : Int) : List Int := (List.replicate n (-1)).set s.toNat 0
def table (n : Nat) (E : Int → List (Int × Int)) (s : Int) : List Int := bfs E (mu n (start n s) + 2) (start n s) [s]
theorem bfs_ok (hE : EOK n E) : ∀ (f : Nat) (out line : List Int), Wk n E s out → Ln n out line → Done n E out line → mu n out + line.length < f → Tab n E s (bfs E f out line)
  | 0, _, _, _, _, _, h => by omega
  | f + 1, out, [], hW, _, hD, _ => Tab.of hW hD
  | f + 1, out, p :: rest, hW, hL, hD, h => by
    have hp := (hL.rng p (List.mem_cons_self ..)).1
    obtain ⟨h1, h2, h3, h4⟩ := (Rnd.all hE hp hW hL hD).last
    exact bfs_ok hE f _ _ h1 h2 h3 (by omega)
theorem start_at (hs : 0 ≤ s ∧ s < n) {j : Int} (hj : 0 ≤ j ∧ j < n) : at' (start n s) j = if s = j then 0 else -1 := by
  unfold start
  rw [at_set hs.1 (by simpa using hs.2) hj.1]
  split
  · rfl
  · unfold at'; simp [List.getD_eq_getElem?_getD, show j.toNat < n by omega]
theorem start_ok (hs : 0 ≤ s ∧ s < n) : Wk n E s (start n s) ∧ Ln n (start n s) [s] ∧ Done n E (start n s) [s] := by
  have hss := start_at hs hs
  rw [if_pos rfl] at hss
  have htold : told (start n s) = 1 := by
    unfold start
    rw [told_set (by simp; omega) (by decide)]
    have h0 : told (List.replicate n (-1)) = 0 := by
      clear hs hss
      induction n with
      | zero => rfl
      | succ n ih => simp [told, List.replicate_succ] at *
    rw [h0]
    simp [List.getD_eq_getElem?_getD, show s.toNat < n by omega]
  refine ⟨⟨by simp [start], fun q h0 hn => ?_, hss⟩, ⟨fun p hp => ?_⟩, fun p h0 hn hp => ?_⟩
  · rw [start_at hs ⟨h0, hn⟩]
    split
    · rename_i h; subst h; exact .inr ⟨Int.le_refl _, by rw [htold]; decide, .here⟩
    · exact .inl rfl
  · simp at hp; subst hp; exact ⟨hs, by rw [hss]; decide⟩
  · rw [start_at hs ⟨h0, hn⟩] at hp
    split at hp
    · rename_i h; exact .inl (by simp [h])
    · exact absurd rfl hp
theorem table_ok (hE : EOK n E) (hs : 0 ≤ s ∧ s < n) : Tab n E s (table n E s) := by
  obtain ⟨h1, h2, h3⟩ := start_ok (E := E) hs
  exact bfs_ok hE _ _ _ h1 h2 h3 (by simp)
end
theorem nextL_ok {wide : Int} {ps : List Int} {w : Int} (_ : openE wide ps w = 0) : EOK ps.length (nextL wide ps w) := by
  intro p q m h
  unfold nextL at h
  obtain ⟨s, hs, hn⟩ := List.mem_filterMap.1 h
  unfold nextOf at hn
  split at hn
  · cases hn
  · rename_i hc
    simp only [Option.some.injEq, Prod.mk.injEq] at hn
    obtain ⟨rfl, rfl⟩ := hn
    have := needN_rng w s.1 s.2 (ps.getD (p + s.1 * wide + s.2).toNat 0)
    refine ⟨⟨?_, ?_⟩, this.1, this.2⟩
    · have h1 : ¬ ¬ (0 ≤ p + s.1 * wide + s.2 ∧ p + s.1 * wide + s.2 ≤ (ps.length : Int) - 1) := fun h2 => hc (.inl (.inl h2))
      omega
    · have h1 : ¬ ¬ (0 ≤ p + s.1 * wide + s.2 ∧ p + s.1 * wide + s.2 ≤ (ps.length : Int) - 1) := fun h2 => hc (.inl (.inl h2))
      omega
/-- A list that is being filled with -1. -/
def fillN (n k : Nat) : List Int := List.replicate k (-1) ++ List.replicate (n - k) 0
theorem fillN_zero (n : Nat) : fillN n 0 = List.replicate n 0 := by simp [fillN]
theorem fillN_set {n k : Nat} (h : k < n) : (fillN n k).set k (-1) = fillN n (k + 1) := by
  unfold fillN
  rw [List.set_append_right _ _ (by simp), List.length_replicate, Nat.sub_self, show n - k = (n - (k + 1)) + 1 by omega, List.replicate_succ, List.set_cons_zero, List.replicate_succ']
  simp
theorem fillN_full {n : Nat} (s : Int) : (fillN n n).set s.toNat 0 = start n s := by simp [fillN, start]
theorem start_mu {n : Nat} (hn : n ≤ 30) {s : Int} (hs : 0 ≤ s ∧ s < n) : mu n (start n s) + 1 ≤ 5000 := by
  have h1 := sum_set (cost n) (List.replicate n (-1)) s.toNat 0 (by simp; omega)
  have h2 : ((List.replicate n (-1)).map (cost n)).sum = n * (5 * n + 1) := by simp [cost]
  have h3 : cost n 0 = 0 := rfl
  rw [h2, h3] at h1
  unfold mu start
  have h4 : n * (5 * n + 1) ≤ 30 * (5 * 30 + 1) := Nat.mul_le_mul hn (by omega)
  omega
theorem Rnd.rngs {n : Nat} {E : Int → List (Int × Int)} {s p : Int} {out0 rest : List Int} {pre : List (Int × Int)} {out line : List Int} (h : Rnd n E s p out0 rest pre out line) (hp : 0 ≤ p ∧ p < n) : 0 ≤ out.getD p.toNat 0 ∧ out.getD p.toNat 0 ≤ 5 * n := by
  have h1 := h.wk.le hp.1 hp.2
  rcases h.wk.ge p hp.1 hp.2 with h2 | h2
  · exact absurd h2 h.tp
  · exact ⟨h2.1, h1⟩
theorem Wk.rng' {n : Nat} {E : Int → List (Int × Int)} {s : Int} {out : List Int} (h : Wk n E s out) {q : Int} (h0 : 0 ≤ q) (hn : q < n) : -1 ≤ out.getD q.toNat 0 ∧ out.getD q.toNat 0 ≤ 5 * n := by
  have h1 := h.le h0 hn
  rcases h.ge q h0 hn with h2 | h2
  · exact ⟨Int.le_of_eq h2.symm, h1⟩
  · exact ⟨by have : 0 ≤ out.getD q.toNat 0 := h2.1; omega, h1⟩
end Go.Hear
