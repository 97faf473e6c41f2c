/- Layer 1 as plain functions: what the functions of package hear compute. No program is in sight. -/
import Derived.Test.YtfmapnhfamoecaaGreatZRTd
namespace Go.Hear
def Hf (ps : List Int) : Nat := (ps.filter (· = 1)).length
def Vv (p : Int) : Bool := decide (0 ≤ p ∧ p ≤ 2)
def LL (wide : Int) (ps : List Int) : Int :=
  if ((¬ (1 ≤ wide ∧ wide ≤ 6)) ∨ ¬ (1 ≤ (ps.length : Int) ∧ (ps.length : Int) ≤ 30)) ∨ (ps.length : Int) % wide ≠ 0 then 2
  else if ¬ ps.all Vv = true then 3
  else if 10 < (Hf ps : Int) then 2 else 0
def okW (w : Int) : Prop := 0 ≤ w ∧ w ≤ 4
instance (w : Int) : Decidable (okW w) := inferInstanceAs (Decidable (_ ∧ _))
def Uv (w v : Int) : Int := if (¬ okW w) ∨ ¬ (1 ≤ v ∧ v ≤ 40) then 3 else 0
def Rm (ps : List Int) (p kind : Int) : Int := if ¬ (0 ≤ p ∧ p ≤ (ps.length : Int) - 1) then 1 else if ps.getD p.toNat 0 ≠ kind then 8 else 0
def FF (wide : Int) (ps : List Int) (w : Int) : Int := if LL wide ps ≠ 0 then LL wide ps else if ¬ okW w then 3 else 0
def HN (wide : Int) (ps : List Int) (w stand : Int) : Int := if FF wide ps w ≠ 0 then FF wide ps w else Rm ps stand 0
def JC (w : Int) : Int := if w = 1 then -1 else if w = 3 then 1 else 0
def Jv (w : Int) : Int := if w = 2 then 1 else if w = 4 then -1 else 0
def Mm (w : Int) : Bool := decide (1 ≤ w ∧ w ≤ 4)
def Pd (w sd sr kind : Int) : Int := (if ¬ Mm w = true then 2 else if sd = JC w ∧ sr = Jv w then 1 else if sd = - JC w ∧ sr = - Jv w then 4 else 2) + if kind = 1 then 1 else 0
theorem VO {w : Int} (h : okW w) : w = 0 ∨ w = 1 ∨ w = 2 ∨ w = 3 ∨ w = 4 := by unfold okW at h; omega
def Sz : List (Int × Int) := [(-1, 0), (0, -1), (0, 1), (1, 0)]
def HI (wide : Int) (ps : List Int) (w p : Int) (s : Int × Int) : Option (Int × Int) :=
  if (¬ (0 ≤ p + s.1 * wide + s.2 ∧ p + s.1 * wide + s.2 ≤ (ps.length : Int) - 1) ∨ (s.1 = 0 ∧ (p + s.1 * wide + s.2) / wide ≠ p / wide)) ∨ ps.getD (p + s.1 * wide + s.2).toNat 0 = 2 then none
  else some (p + s.1 * wide + s.2, Pd w s.1 s.2 (ps.getD (p + s.1 * wide + s.2).toNat 0))
def La (wide : Int) (ps : List Int) (w p : Int) : List (Int × Int) := Sz.filterMap (HI wide ps w p)
theorem IL {wide : Int} {ps : List Int} {w : Int} (h : FF wide ps w = 0) : (1 ≤ wide ∧ wide ≤ 6) ∧ (1 ≤ ps.length ∧ ps.length ≤ 30) ∧ (ps.length : Int) % wide = 0 ∧ (∀ x ∈ ps, 0 ≤ x ∧ x ≤ 2) ∧ okW w ∧ Hf ps ≤ 10 := by
  unfold FF LL at h
  by_cases h1 : (¬ (1 ≤ wide ∧ wide ≤ 6) ∨ ¬ (1 ≤ (ps.length : Int) ∧ (ps.length : Int) ≤ 30)) ∨ (ps.length : Int) % wide ≠ 0
  · rw [if_pos h1] at h; simp at h
  rw [if_neg h1] at h
  by_cases h2 : ¬ ps.all Vv = true
  · rw [if_pos h2] at h; simp at h
  rw [if_neg h2] at h
  by_cases h3 : 10 < (Hf ps : Int)
  · rw [if_pos h3] at h; simp at h
  rw [if_neg h3] at h
  by_cases h4 : ¬ okW w
  · rw [if_pos h4] at h; simp at h
  have aa := Decidable.of_not_not h2
  rw [List.all_eq_true] at aa
  refine ⟨by omega, by omega, by omega, fun x hx => ?_, Decidable.of_not_not h4, by omega⟩
  simpa [Vv] using aa x hx
theorem XB {x wide : Int} (hx : -1 ≤ x ∧ x ≤ 1) (hw : 1 ≤ wide ∧ wide ≤ 6) : -6 ≤ x * wide ∧ x * wide ≤ 6 := by
  have : x = -1 ∨ x = 0 ∨ x = 1 := by omega
  rcases this with rfl | rfl | rfl <;> omega
theorem Wg (w sd sr kind : Int) : 1 ≤ Pd w sd sr kind ∧ Pd w sd sr kind ≤ 5 := by
  unfold Pd; split <;> split <;> (try split) <;> (try split) <;> omega
end Go.Hear
namespace Go.Hear
theorem Jk {xs : List Int} {i j : Nat} {v : Int} (hi : i < xs.length) : (xs.set i v).getD j 0 = if i = j then v else xs.getD j 0 := by
  simp only [List.getD_eq_getElem?_getD, List.getElem?_set]
  split
  · simp
  · rfl
theorem PO (f : Int → Nat) : ∀ (xs : List Int) (i : Nat) (v : Int), i < xs.length → ((xs.set i v).map f).sum + f (xs.getD i 0) = (xs.map f).sum + f v
  | [], i, v, h => by simp at h
  | x :: xs, 0, v, _ => by simp; omega
  | x :: xs, i + 1, v, h => by
    have := PO f xs i v (by simpa using h)
    simp only [List.set_cons_succ, List.map_cons, List.sum_cons, List.getD_cons_succ]; omega
def cost (n : Nat) (x : Int) : Nat := if x = -1 then 5 * n + 1 else x.toNat
def mu (n : Nat) (out : List Int) : Nat := (out.map (cost n)).sum
def told (out : List Int) : Nat := (out.map fun x => if x = -1 then 0 else 1).sum
theorem RR (out : List Int) : told out ≤ out.length := by
  induction out with
  | nil => simp [told]
  | cons x xs ih => simp only [told, List.map_cons, List.sum_cons, List.length_cons] at *; split <;> omega
inductive PG (E : Int → List (Int × Int)) (s : Int) : Int → Int → Prop
  | here : PG E s s 0
  | step {p d q m : Int} : PG E s p d → (q, m) ∈ E p → PG E s q (d + m)
def Ge (out : List Int) (p : Int) : Int := out.getD p.toNat 0
def JD (p : Int) (st : List Int × List Int) (x : Int × Int) : List Int × List Int :=
  if Ge st.1 x.1 = -1 ∨ Ge st.1 p + x.2 < Ge st.1 x.1 then (st.1.set x.1.toNat (Ge st.1 p + x.2), st.2 ++ [x.1]) else st
section
variable {n : Nat} {E : Int → List (Int × Int)} {s : Int}
def TG (n : Nat) (E : Int → List (Int × Int)) : Prop := ∀ p q m, (q, m) ∈ E p → (0 ≤ q ∧ q < n) ∧ 1 ≤ m ∧ m ≤ 5
structure Wk (n : Nat) (E : Int → List (Int × Int)) (s : Int) (out : List Int) : Prop where
  len : out.length = n
  ge : ∀ q : Int, 0 ≤ q → q < n → Ge out q = -1 ∨ (0 ≤ Ge out q ∧ Ge out q ≤ 5 * ((told out : Int) - 1) ∧ PG E s q (Ge out q))
  start : Ge out s = 0
structure Ln (n : Nat) (out line : List Int) : Prop where
  K8 : ∀ p ∈ line, (0 ≤ p ∧ p < n) ∧ Ge out p ≠ -1
def Nf (out : List Int) (p : Int) (x : Int × Int) : Prop := Ge out x.1 ≠ -1 ∧ Ge out x.1 ≤ Ge out p + x.2
def bV (n : Nat) (E : Int → List (Int × Int)) (p : Int) (pre : List (Int × Int)) (out line : List Int) : Prop :=
  ∀ p' : Int, 0 ≤ p' → p' < n → Ge out p' ≠ -1 → p' ∈ line ∨ (p' = p ∧ ∀ x ∈ pre, Nf out p x) ∨ (p' ≠ p ∧ ∀ x ∈ E p', Nf out p' x)
def UD (n : Nat) (E : Int → List (Int × Int)) (out line : List Int) : Prop :=
  ∀ p' : Int, 0 ≤ p' → p' < n → Ge out p' ≠ -1 → p' ∈ line ∨ ∀ x ∈ E p', Nf out p' x
theorem Wk.le {out : List Int} (h : Wk n E s out) {q : Int} (h0 : 0 ≤ q) (hn : q < n) : Ge out q ≤ 5 * n := by
  have h1 := RR out
  rw [h.len] at h1
  rcases h.ge q h0 hn with h2 | ⟨_, h2, _⟩ <;> omega
theorem XH {out : List Int} {i j v : Int} (hi : 0 ≤ i) (aa : i < out.length) (hj : 0 ≤ j) : Ge (out.set i.toNat v) j = if i = j then v else Ge out j := by
  unfold Ge
  rw [Jk (by omega)]
  by_cases h : i = j
  · subst h; simp
  · rw [if_neg h, if_neg (by omega)]
theorem S1 {out : List Int} {i : Nat} {v : Int} (hi : i < out.length) (hv : v ≠ -1) : told (out.set i v) = told out + if out.getD i 0 = -1 then 1 else 0 := by
  have := PO (fun x => if x = -1 then 0 else 1) out i v hi
  simp only [if_neg hv] at this
  unfold told
  split <;> rename_i h <;> simp only [h, if_true, if_false] at this <;> omega
theorem Wy (hE : TG n E) {p : Int} (hp : 0 ≤ p ∧ p < n) {x : Int × Int} (hx : x ∈ E p) {out line : List Int} (hW : Wk n E s out) (hL : Ln n out line) (ai : Ge out p ≠ -1) {pre : List (Int × Int)} (ah : ∀ y ∈ pre, y ∈ E p) (hM : bV n E p pre out line) :
    let st := JD p (out, line) x
    Wk n E s st.1 ∧ Ln n st.1 st.2 ∧ Ge st.1 p ≠ -1 ∧ bV n E p (pre ++ [x]) st.1 st.2 ∧ mu n st.1 + st.2.length ≤ mu n out + line.length := by
  obtain ⟨q, m⟩ := x
  obtain ⟨⟨ae, aj⟩, az, ba⟩ := hE p q m hx
  have hlen := hW.len
  have ao := (hW.ge p hp.1 hp.2).resolve_left ai
  have bb := RR out
  simp only [JD]
  by_cases hc : Ge out q = -1 ∨ Ge out p + m < Ge out q
  · rw [if_pos hc]
    have hv : Ge out p + m ≠ -1 := by omega
    have aa : ∀ j, 0 ≤ j → Ge (out.set q.toNat (Ge out p + m)) j = if q = j then Ge out p + m else Ge out j := fun j hj => XH ae (by omega) hj
    have ab := S1 (out := out) (i := q.toNat) (v := Ge out p + m) (by omega) hv
    have aq := hW.ge q ae aj
    have bc : (told out : Int) ≤ told (out.set q.toNat (Ge out p + m)) := by rw [ab]; split <;> omega
    have af : Ge out s = 0 := hW.start
    refine ⟨⟨by simpa using hlen, fun j h0 hn => ?_, ?_⟩, ⟨fun j hj => ?_⟩, ?_, fun j h0 hn hj => ?_, ?_⟩
    · dsimp only
      rw [aa j h0]
      by_cases ad : q = j
      · subst ad
        rw [if_pos rfl]
        refine .inr ⟨by omega, ?_, .step ao.2.2 hx⟩
        rcases aq with h1 | h1
        · have : out.getD q.toNat 0 = -1 := h1
          rw [ab, if_pos this]; omega
        · omega
      · rw [if_neg ad]
        rcases hW.ge j h0 hn with h1 | ⟨h1, h2, h3⟩
        · exact .inl h1
        · exact .inr ⟨h1, by omega, h3⟩
    · show Ge (out.set q.toNat (Ge out p + m)) s = 0
      by_cases hs : 0 ≤ s
      · rw [aa s hs]
        by_cases ak : q = s
        · subst ak
          exfalso
          rcases hc with h1 | h1 <;> omega
        · rw [if_neg ak]; exact af
      · have e1 : s.toNat = 0 := by omega
        have ar : Ge out 0 = 0 := by unfold Ge at af ⊢; rw [e1] at af; exact af
        have : Ge (out.set q.toNat (Ge out p + m)) s = Ge (out.set q.toNat (Ge out p + m)) 0 := by unfold Ge; rw [e1]; rfl
        rw [this, aa 0 (by omega)]
        by_cases hq : q = 0
        · subst hq; exfalso; rcases hc with h1 | h1 <;> omega
        · rw [if_neg hq]; exact ar
    · show (0 ≤ j ∧ j < n) ∧ Ge (out.set q.toNat (Ge out p + m)) j ≠ -1
      rcases List.mem_append.1 hj with hj | hj
      · obtain ⟨h1, h2⟩ := hL.K8 j hj
        refine ⟨h1, ?_⟩
        rw [aa j h1.1]; split <;> omega
      · simp at hj; subst hj
        refine ⟨⟨ae, aj⟩, ?_⟩
        rw [aa j ae, if_pos rfl]; exact hv
    · show Ge (out.set q.toNat (Ge out p + m)) p ≠ -1
      rw [aa p hp.1]; split <;> omega
    · dsimp only
      by_cases ad : q = j
      · exact .inl (List.mem_append_right _ (by simp [ad]))
      have au : Ge out j ≠ -1 := by
        have := aa j h0; rw [if_neg ad] at this
        have av : Ge (out.set q.toNat (Ge out p + m)) j ≠ -1 := hj
        rwa [this] at av
      have al : ∀ (p' : Int) (x : Int × Int), 0 ≤ p' → q ≠ p' → 0 ≤ x.1 → Nf out p' x → Nf (out.set q.toNat (Ge out p + m)) p' x := fun p' x aw ax ay ⟨h1, h2⟩ => by
        unfold Nf
        rw [aa _ ay, aa p' aw, if_neg ax]
        split
        · rename_i he; subst he; exact ⟨hv, by rcases hc with h3 | h3 <;> omega⟩
        · exact ⟨h1, h2⟩
      rcases hM j h0 hn au with h1 | ⟨rfl, h1⟩ | ⟨h1, h2⟩
      · exact .inl (List.mem_append_left _ h1)
      · refine .inr (.inl ⟨rfl, fun y hy => ?_⟩)
        rcases List.mem_append.1 hy with hy | hy
        · exact al j y h0 ad (hE j y.1 y.2 (ah y hy)).1.1 (h1 y hy)
        · simp at hy; subst hy
          show Ge (out.set q.toNat (Ge out j + m)) q ≠ -1 ∧ _ ≤ Ge (out.set q.toNat (Ge out j + m)) j + m
          rw [aa q ae, if_pos rfl, aa j h0, if_neg ad]; exact ⟨hv, Int.le_refl _⟩
      · exact .inr (.inr ⟨h1, fun y hy => al j y h0 ad (hE j y.1 y.2 hy).1.1 (h2 y hy)⟩)
    · show mu n (out.set q.toNat (Ge out p + m)) + (line ++ [q]).length ≤ mu n out + line.length
      have h1 := PO (cost n) out q.toNat (Ge out p + m) (by omega)
      have h2 : cost n (Ge out p + m) < cost n (out.getD q.toNat 0) := by
        have h3 : out.getD q.toNat 0 = Ge out q := rfl
        rw [h3]
        have h4 := hW.le hp.1 hp.2
        unfold cost
        rw [if_neg hv]
        split
        · have h5 : (told out : Int) ≤ n - 1 := by
            rename_i h6
            have := RR (out.set q.toNat (Ge out p + m))
            rw [ab, if_pos (by exact h6)] at this
            simp at this; omega
          omega
        · rename_i h6; rcases hc with h7 | h7 <;> omega
      unfold mu
      simp only [List.length_append, List.length_singleton]; omega
  · rw [if_neg hc]
    refine ⟨hW, hL, ai, fun j h0 hn hj => ?_, Nat.le_refl _⟩
    rcases hM j h0 hn hj with h1 | ⟨rfl, h1⟩ | h1
    · exact .inl h1
    · refine .inr (.inl ⟨rfl, fun y hy => ?_⟩)
      rcases List.mem_append.1 hy with hy | hy
      · exact h1 y hy
      · simp at hy; subst hy
        exact ⟨fun h => hc (.inl h), by show Ge out q ≤ Ge out j + m; omega⟩
    · exact .inr (.inr h1)
structure Ro (n : Nat) (E : Int → List (Int × Int)) (s p : Int) (out0 rest : List Int) (pre : List (Int × Int)) (out line : List Int) : Prop where
  eq : (out, line) = pre.foldl (JD p) (out0, rest)
  wk : Wk n E s out
  ln : Ln n out line
  tp : Ge out p ≠ -1
  Lp : bV n E p pre out line
  bd : mu n out + line.length ≤ mu n out0 + rest.length
theorem Ro.first {p : Int} {out rest : List Int} (hW : Wk n E s out) (hL : Ln n out (p :: rest)) (hD : UD n E out (p :: rest)) : Ro n E s p out rest [] out rest := by
  refine ⟨rfl, hW, ⟨fun q hq => hL.K8 q (List.mem_cons_of_mem _ hq)⟩, (hL.K8 p (List.mem_cons_self ..)).2, fun p' h0 hn aa => ?_, Nat.le_refl _⟩
  rcases hD p' h0 hn aa with h | h
  · rcases List.mem_cons.1 h with rfl | h
    · exact .inr (.inl ⟨rfl, fun x hx => by simp at hx⟩)
    · exact .inl h
  · by_cases he : p' = p
    · exact .inr (.inl ⟨he, fun x hx => by simp at hx⟩)
    · exact .inr (.inr ⟨he, h⟩)
theorem Ro.next (hE : TG n E) {p : Int} (hp : 0 ≤ p ∧ p < n) {out0 rest out line : List Int} {pre aa : List (Int × Int)} {x : Int × Int} (hs : E p = pre ++ x :: aa) (h : Ro n E s p out0 rest pre out line) :
    Ro n E s p out0 rest (pre ++ [x]) (JD p (out, line) x).1 (JD p (out, line) x).2 := by
  obtain ⟨h1, h2, h3, h4, h5⟩ := Wy hE hp (x := x) (by rw [hs]; simp) h.wk h.ln h.tp (pre := pre) (fun y hy => by rw [hs]; exact List.mem_append_left _ hy) h.Lp
  refine ⟨?_, h1, h2, h3, h4, Nat.le_trans h5 h.bd⟩
  rw [List.foldl_append, ← h.eq]; rfl
theorem Ro.last {p : Int} {out0 rest out line : List Int} (h : Ro n E s p out0 rest (E p) out line) : Wk n E s out ∧ Ln n out line ∧ UD n E out line ∧ mu n out + line.length < mu n out0 + (p :: rest).length := by
  refine ⟨h.wk, h.ln, fun p' h0 hn aa => ?_, Nat.lt_of_le_of_lt h.bd (by simp)⟩
  rcases h.Lp p' h0 hn aa with h1 | ⟨rfl, h1⟩ | ⟨_, h1⟩
  · exact .inl h1
  · exact .inr h1
  · exact .inr h1
theorem Ro.go (hE : TG n E) {p : Int} (hp : 0 ≤ p ∧ p < n) {out0 rest : List Int} : ∀ (aa pre : List (Int × Int)) (out line : List Int), E p = pre ++ aa → Ro n E s p out0 rest pre out line →
    Ro n E s p out0 rest (pre ++ aa) (aa.foldl (JD p) (out, line)).1 (aa.foldl (JD p) (out, line)).2
  | [], pre, out, line, _, h => by simpa using h
  | x :: aa, pre, out, line, hs, h => by
    have := Ro.go hE hp aa (pre ++ [x]) _ _ (by simpa using hs) (h.next hE hp hs)
    simpa using this
theorem Ro.all (hE : TG n E) {p : Int} (hp : 0 ≤ p ∧ p < n) {out rest : List Int} (hW : Wk n E s out) (hL : Ln n out (p :: rest)) (hD : UD n E out (p :: rest)) :
    Ro n E s p out rest (E p) ((E p).foldl (JD p) (out, rest)).1 ((E p).foldl (JD p) (out, rest)).2 := by
  simpa using Ro.go hE hp (E p) [] _ _ (by simp) (Ro.first hW hL hD)
structure Ri (n : Nat) (E : Int → List (Int × Int)) (s : Int) (out : List Int) : Prop where
  len : out.length = n
  start : Ge out s = 0
  sound : ∀ q : Int, 0 ≤ q → q < n → Ge out q = -1 ∨ (0 ≤ Ge out q ∧ Ge out q ≤ 5 * n ∧ PG E s q (Ge out q))
  closed : ∀ p : Int, 0 ≤ p → p < n → Ge out p ≠ -1 → ∀ x ∈ E p, Nf out p x
theorem Ri.of {out : List Int} (hW : Wk n E s out) (hD : UD n E out []) : Ri n E s out :=
  ⟨hW.len, hW.start, fun q h0 hn => (hW.ge q h0 hn).imp id fun h => ⟨h.1, hW.le h0 hn, h.2.2⟩, fun p h0 hn hp => (hD p h0 hn hp).resolve_left (by simp)⟩
theorem PG.K8 (hE : TG n E) (hs : 0 ≤ s ∧ s < n) {q d : Int} (h : PG E s q d) : (0 ≤ q ∧ q < n) ∧ 0 ≤ d := by
  induction h with
  | here => exact ⟨hs, Int.le_refl _⟩
  | step _ h2 ih => have := hE _ _ _ h2; exact ⟨this.1, by omega⟩
theorem Ri.below (hE : TG n E) (hs : 0 ≤ s ∧ s < n) {out : List Int} (hT : Ri n E s out) {q d : Int} (h : PG E s q d) : Ge out q ≠ -1 ∧ Ge out q ≤ d := by
  induction h with
  | here => rw [hT.start]; omega
  | step h1 h2 ih =>
    rename_i p d q m
    have hr := h1.K8 hE hs
    obtain ⟨h3, h4⟩ := hT.closed _ hr.1.1 hr.1.2 ih.1 _ h2
    exact ⟨h3, by have : Ge out q ≤ Ge out p + m := h4; omega⟩
theorem Ri.unique (hE : TG n E) (hs : 0 ≤ s ∧ s < n) {out aa : List Int} (h : Ri n E s out) (h' : Ri n E s aa) : out = aa := by
  apply List.ext_getElem (h.len.trans h'.len.symm)
  intro i h1 h2
  have hi : (i : Int) < n := by rw [← h.len]; omega
  have e1 : Ge out i = out[i] := by simp [Ge, List.getD_eq_getElem?_getD, h1]
  have e2 : Ge aa i = aa[i] := by simp [Ge, List.getD_eq_getElem?_getD, h2]
  rw [← e1, ← e2]
  rcases h.sound i (by omega) hi with a | ⟨_, _, a⟩ <;> rcases h'.sound i (by omega) hi with b | ⟨_, _, b⟩
  · rw [a, b]
  · exact absurd a (h.below hE hs b).1
  · exact absurd b (h'.below hE hs a).1
  · exact Int.le_antisymm (h.below hE hs b).2 (h'.below hE hs a).2
def cM (E : Int → List (Int × Int)) : Nat → List Int → List Int → List Int
  | 0, out, _ => out
  | _ + 1, out, [] => out
  | f + 1, out, p :: rest => cM E f ((E p).foldl (JD p) (out, rest)).1 ((E p).foldl (JD p) (out, rest)).2
def start (n : Nat) (s : Int) : List Int := (List.replicate n (-1)).set s.toNat 0
def table (n : Nat) (E : Int → List (Int × Int)) (s : Int) : List Int := cM E (mu n (start n s) + 2) (start n s) [s]
theorem X0 (hE : TG n E) : ∀ (f : Nat) (out line : List Int), Wk n E s out → Ln n out line → UD n E out line → mu n out + line.length < f → Ri n E s (cM E f out line)
  | 0, _, _, _, _, _, h => by omega
  | f + 1, out, [], hW, _, hD, _ => Ri.of hW hD
  | f + 1, out, p :: rest, hW, hL, hD, h => by
    have hp := (hL.K8 p (List.mem_cons_self ..)).1
    obtain ⟨h1, h2, h3, h4⟩ := (Ro.all hE hp hW hL hD).last
    exact X0 hE f _ _ h1 h2 h3 (by omega)
theorem Q2 (hs : 0 ≤ s ∧ s < n) {j : Int} (hj : 0 ≤ j ∧ j < n) : Ge (start n s) j = if s = j then 0 else -1 := by
  unfold start
  rw [XH hs.1 (by simpa using hs.2) hj.1]
  split
  · rfl
  · unfold Ge; simp [List.getD_eq_getElem?_getD, show j.toNat < n by omega]
theorem Tj (hs : 0 ≤ s ∧ s < n) : Wk n E s (start n s) ∧ Ln n (start n s) [s] ∧ UD n E (start n s) [s] := by
  have ab := Q2 hs hs
  rw [if_pos rfl] at ab
  have aa : told (start n s) = 1 := by
    unfold start
    rw [S1 (by simp; omega) (by decide)]
    have h0 : told (List.replicate n (-1)) = 0 := by
      clear hs ab
      induction n with
      | zero => rfl
      | succ n ih => simp [told, List.replicate_succ] at *
    rw [h0]
    simp [List.getD_eq_getElem?_getD, show s.toNat < n by omega]
  refine ⟨⟨by simp [start], fun q h0 hn => ?_, ab⟩, ⟨fun p hp => ?_⟩, fun p h0 hn hp => ?_⟩
  · rw [Q2 hs ⟨h0, hn⟩]
    split
    · rename_i h; subst h; exact .inr ⟨Int.le_refl _, by rw [aa]; decide, .here⟩
    · exact .inl rfl
  · simp at hp; subst hp; exact ⟨hs, by rw [ab]; decide⟩
  · rw [Q2 hs ⟨h0, hn⟩] at hp
    split at hp
    · rename_i h; exact .inl (by simp [h])
    · exact absurd rfl hp
theorem Ws (hE : TG n E) (hs : 0 ≤ s ∧ s < n) : Ri n E s (table n E s) := by
  obtain ⟨h1, h2, h3⟩ := Tj (E := E) hs
  exact X0 hE _ _ _ h1 h2 h3 (by simp)
end
theorem K6 {wide : Int} {ps : List Int} {w : Int} (_ : FF wide ps w = 0) : TG ps.length (La wide ps w) := by
  intro p q m h
  unfold La at h
  obtain ⟨s, hs, hn⟩ := List.mem_filterMap.1 h
  unfold HI at hn
  split at hn
  · cases hn
  · rename_i hc
    simp only [Option.some.injEq, Prod.mk.injEq] at hn
    obtain ⟨rfl, rfl⟩ := hn
    have := Wg w s.1 s.2 (ps.getD (p + s.1 * wide + s.2).toNat 0)
    refine ⟨⟨?_, ?_⟩, this.1, this.2⟩
    · have h1 : ¬ ¬ (0 ≤ p + s.1 * wide + s.2 ∧ p + s.1 * wide + s.2 ≤ (ps.length : Int) - 1) := fun h2 => hc (.inl (.inl h2))
      omega
    · have h1 : ¬ ¬ (0 ≤ p + s.1 * wide + s.2 ∧ p + s.1 * wide + s.2 ≤ (ps.length : Int) - 1) := fun h2 => hc (.inl (.inl h2))
      omega
def KZ (n k : Nat) : List Int := List.replicate k (-1) ++ List.replicate (n - k) 0
theorem Uk (n : Nat) : KZ n 0 = List.replicate n 0 := by simp [KZ]
theorem Wh {n k : Nat} (h : k < n) : (KZ n k).set k (-1) = KZ n (k + 1) := by
  unfold KZ
  rw [List.set_append_right _ _ (by simp), List.length_replicate, Nat.sub_self, show n - k = (n - (k + 1)) + 1 by omega, List.replicate_succ, List.set_cons_zero, List.replicate_succ']
  simp
theorem UE {n : Nat} (s : Int) : (KZ n n).set s.toNat 0 = start n s := by simp [KZ, start]
theorem WS {n : Nat} (hn : n ≤ 30) {s : Int} (hs : 0 ≤ s ∧ s < n) : mu n (start n s) + 1 ≤ 5000 := by
  have h1 := PO (cost n) (List.replicate n (-1)) s.toNat 0 (by simp; omega)
  have h2 : ((List.replicate n (-1)).map (cost n)).sum = n * (5 * n + 1) := by simp [cost]
  have h3 : cost n 0 = 0 := rfl
  rw [h2, h3] at h1
  unfold mu start
  have h4 : n * (5 * n + 1) ≤ 30 * (5 * 30 + 1) := Nat.mul_le_mul hn (by omega)
  omega
theorem Ro.cN {n : Nat} {E : Int → List (Int × Int)} {s p : Int} {out0 rest : List Int} {pre : List (Int × Int)} {out line : List Int} (h : Ro n E s p out0 rest pre out line) (hp : 0 ≤ p ∧ p < n) : 0 ≤ out.getD p.toNat 0 ∧ out.getD p.toNat 0 ≤ 5 * n := by
  have h1 := h.wk.le hp.1 hp.2
  rcases h.wk.ge p hp.1 hp.2 with h2 | h2
  · exact absurd h2 h.tp
  · exact ⟨h2.1, h1⟩
theorem Wk.cS {n : Nat} {E : Int → List (Int × Int)} {s : Int} {out : List Int} (h : Wk n E s out) {q : Int} (h0 : 0 ≤ q) (hn : q < n) : -1 ≤ out.getD q.toNat 0 ∧ out.getD q.toNat 0 ≤ 5 * n := by
  have h1 := h.le h0 hn
  rcases h.ge q h0 hn with h2 | h2
  · exact ⟨Int.le_of_eq h2.symm, h1⟩
  · exact ⟨by have : 0 ≤ out.getD q.toNat 0 := h2.1; omega, h1⟩
end Go.Hear
namespace Go.Hear
end Go.Hear
namespace Go.Hear
def aM (E : Int → List (Int × Int)) (tb : List Int) (q p : Int) : Prop := ∃ m, (p, m) ∈ E q ∧ tb.getD q.toNat 0 ≠ -1 ∧ tb.getD q.toNat 0 + m = tb.getD p.toNat 0
inductive Om (E : Int → List (Int × Int)) (tb : List Int) (E6 : Int) : List Int → Int → Prop
  | one : Om E tb E6 [E6] E6
  | snoc {l : List Int} {p q : Int} : Om E tb E6 l p → aM E tb q p → Om E tb E6 (l ++ [q]) q
theorem Om.mem {E : Int → List (Int × Int)} {tb : List Int} {E6 : Int} {l : List Int} {p : Int} (h : Om E tb E6 l p) : l.getLast? = some p ∧ l.head? = some E6 := by
  induction h with
  | one => exact ⟨rfl, rfl⟩
  | snoc h1 _ ih =>
    refine ⟨by simp, ?_⟩
    rw [List.head?_append, ih.2]; rfl
theorem Om.ne {E : Int → List (Int × Int)} {tb : List Int} {E6 : Int} {l : List Int} {p : Int} (h : Om E tb E6 l p) : l ≠ [] := by
  intro he; have := h.mem.1; rw [he] at this; cases this
theorem Om.len {n : Nat} {E : Int → List (Int × Int)} (hE : TG n E) {tb : List Int} {E6 : Int} {l : List Int} {p : Int} (h : Om E tb E6 l p) : (l.length : Int) + tb.getD p.toNat 0 ≤ tb.getD E6.toNat 0 + 1 := by
  induction h with
  | one => simp; omega
  | snoc h1 h2 ih =>
    obtain ⟨m, h3, h4, h5⟩ := h2
    have := (hE _ _ _ h3).2.1
    rw [List.length_append]; simp only [List.length_singleton]; omega
def JG (xs : List Int) (k : Nat) : List Int := (List.range xs.length).map fun t => if t < k ∨ xs.length - 1 - t < k then xs.getD (xs.length - 1 - t) 0 else xs.getD t 0
theorem Es (xs : List Int) (k : Nat) : (JG xs k).length = xs.length := by simp [JG]
theorem Gh {xs : List Int} {k t : Nat} (h : t < xs.length) : (JG xs k).getD t 0 = if t < k ∨ xs.length - 1 - t < k then xs.getD (xs.length - 1 - t) 0 else xs.getD t 0 := by
  simp only [JG, List.getD_eq_getElem?_getD, List.getElem?_map, List.getElem?_range h]
  rfl
theorem Iz {xs ys : List Int} (hl : xs.length = ys.length) (h : ∀ t, t < xs.length → xs.getD t 0 = ys.getD t 0) : xs = ys := by
  apply List.ext_getElem hl
  intro t h1 h2
  have := h t h1
  simpa [List.getD_eq_getElem?_getD, h1, h2] using this
theorem Rw (xs : List Int) : JG xs 0 = xs := by
  refine Iz (Es ..) fun t ht => ?_
  rw [Es] at ht
  rw [Gh ht, if_neg (by omega)]
theorem RP {xs : List Int} {k j : Nat} (hj : j = xs.length - 1 - k) (h : k < j) : ((JG xs k).set k ((JG xs k).getD j 0)).set j ((JG xs k).getD k 0) = JG xs (k + 1) := by
  refine Iz (by simp [Es]) fun t ht => ?_
  simp only [List.length_set, Es] at ht
  rw [Jk (by simp [Es]; omega), Jk (by rw [Es]; omega), Gh ht, Gh (k := k + 1) ht]
  by_cases h1 : j = t
  · rw [if_pos h1, Gh (by omega), if_neg (by omega), if_pos (by omega)]; congr 1; omega
  · rw [if_neg h1]
    by_cases h2 : k = t
    · rw [if_pos h2, Gh (by omega), if_neg (by omega), if_pos (by omega)]; congr 1; omega
    · rw [if_neg h2]
      by_cases h3 : t < k ∨ xs.length - 1 - t < k
      · rw [if_pos h3, if_pos (by omega)]
      · rw [if_neg h3, if_neg (by omega)]
theorem Tt {xs : List Int} {k : Nat} (h : xs.length ≤ 2 * k + 1) : JG xs k = xs.reverse := by
  refine Iz (by simp [Es]) fun t ht => ?_
  rw [Es] at ht
  rw [Gh ht]
  have hr : xs.reverse.getD t 0 = xs.getD (xs.length - 1 - t) 0 := by
    simp [List.getD_eq_getElem?_getD, List.getElem?_reverse ht]
  rw [hr]
  split
  · rfl
  · congr 1; omega
theorem Ri.K8 {n : Nat} {E : Int → List (Int × Int)} {s : Int} {out : List Int} (h : Ri n E s out) {q : Int} (h0 : 0 ≤ q ∧ q < n) : -1 ≤ out.getD q.toNat 0 ∧ out.getD q.toNat 0 ≤ 5 * n := by
  rcases h.sound q h0.1 h0.2 with h1 | ⟨h1, h2, _⟩
  · have : out.getD q.toNat 0 = -1 := h1
    omega
  · have h3 : 0 ≤ out.getD q.toNat 0 := h1
    exact ⟨by omega, h2⟩
end Go.Hear
namespace Go.Proofs.YtfmapnhfamoecaaGreat
open Go.PL Go.Hear
theorem Lv {α β : Type} {a : α} {f : α → Option β} : bv a f = f a := rfl
theorem nd {p : Prop} [Decidable p] (h : ¬ p) : (!decide p) = true := by simp [h]
theorem bY {p : Prop} [Decidable p] (h : p) : ¬ (!decide p) = true := by simp [h]
theorem Kf (n lo hi : Int) : H3 n lo hi = some (decide (lo ≤ n ∧ n ≤ hi)) := by
  unfold H3
  by_cases h : lo ≤ n <;> simp [h]
theorem AJ {x : Int} (h : -1000000000 ≤ x ∧ x ≤ 1000000000) : Dh x := by unfold Dh; omega
theorem Sp {wide : Int} {ps : List Int} (hn : ps.length ≤ 1000) (p : Int) : Fa wide ps p = some (decide (0 ≤ p ∧ p ≤ (ps.length : Int) - 1)) := by
  unfold Fa
  rw [Bz (AJ (by omega)), Kf]; rfl
theorem I6 {α : Type} {xs : List α} {i : Nat} {d : α} (h : i < xs.length) : xs[i]? = some (xs.getD i d) := by
  rw [List.getD_eq_getElem?_getD, List.getElem?_eq_getElem h]; rfl
theorem Ia {β : Type} {xs : List Int} {i : Int} (f : Int → Option β) (h0 : 0 ≤ i) (h1 : i < (xs.length : Int)) : ix xs i f = f (xs.getD i.toNat 0) := NV h0 (I6 (by omega))
theorem WZ {wide : Int} {ps : List Int} (hn : ps.length ≤ 1000) (p kind : Int) : GI wide ps p kind = some (Rm ps p kind) := by
  unfold GI Rm
  rw [Sp hn, Ap]
  by_cases h : 0 ≤ p ∧ p ≤ (ps.length : Int) - 1
  · rw [if_neg (bY h), if_neg (not_not_intro h), Ia _ (by omega) (by omega)]
    split <;> rfl
  · rw [if_pos (nd h), if_pos h]
theorem OB {f : Int → Option Bool} {g : Int → Bool} : ∀ (l : List Int) (k : Int), 0 ≤ k → (∀ x ∈ l, f x = some (g x)) → ∃ n, Bu f l k = some n ∧ (0 ≤ n ↔ l.any g = true)
  | [], k, _, _ => ⟨-1, rfl, by simp⟩
  | x :: l, k, hk, h => by
    unfold Bu
    rw [h x (by simp), Ap]
    by_cases hx : g x = true
    · exact ⟨k, by rw [if_pos hx], by simp [hx, hk]⟩
    · obtain ⟨n, h1, h2⟩ := OB l (k + 1) (by omega) (fun y hy => h y (by simp [hy]))
      exact ⟨n, by rw [if_neg hx]; exact h1, by rw [h2]; simp [hx]⟩
theorem QD {f : Int → Option Bool} {g : Int → Bool} {l : List Int} (h : ∀ x ∈ l, f x = some (g x)) : GP l f = some (l.all g) := by
  unfold GP Cu CS
  obtain ⟨n, h1, h2⟩ := OB (f := fun x => EL x f) (g := fun x => !g x) l 0 (Int.le_refl _) (fun x hx => by
    unfold EL; rw [h x hx]; rfl)
  rw [h1]
  simp only [Ap]
  congr 1
  cases ha : l.all g with
  | true =>
    have : ¬ 0 ≤ n := by rw [h2]; simpa using ha
    simp [this]
  | false =>
    have : 0 ≤ n := by rw [h2]; simpa using ha
    simp [this]
theorem LF : ∀ (l : List Int) (n : Int), 0 ≤ n → n + l.length ≤ 1000000 → CT l n = some (n + (Hf l : Int))
  | [], n, _, _ => by simp [CT, Hf]
  | x :: l, n, h0, h => by
    unfold CT
    simp only [List.length_cons] at h
    by_cases hx : x = 1
    · rw [if_pos hx, Bz (AJ (by omega)), LF l (n + 1) (by omega) (by omega)]
      simp [Hf, hx]; omega
    · rw [if_neg hx, LF l n h0 (by omega)]
      simp [Hf, hx]
theorem V4 {wide : Int} {ps : List Int} (hn : ps.length ≤ 1000) : Gg wide ps = some (Hf ps : Int) := by
  unfold Gg
  rw [LF ps 0 (by omega) (by omega)]; simp
theorem Mv {wide : Int} {ps : List Int} (hn : ps.length ≤ 1000) : Ic wide ps = some (LL wide ps) := by
  unfold Ic LL
  simp only [Kf, Ap]
  by_cases h1 : 1 ≤ wide ∧ wide ≤ 6
  · by_cases h2 : 1 ≤ (ps.length : Int) ∧ (ps.length : Int) ≤ 30
    · have hw : wide ≠ 0 := by omega
      have hm : Int.tmod (ps.length : Int) wide = (ps.length : Int) % wide := Int.tmod_eq_emod_of_nonneg (by omega)
      rw [if_neg (by simp [h1]), if_neg (by simp [h2]), Bz hw, Ap, hm]
      by_cases h3 : (ps.length : Int) % wide = 0
      · rw [if_neg (by simp [h3]), if_neg (by simp [h1, h2, h3])]
        rw [QD (g := Vv) (fun x _ => by unfold It; rw [Kf]; rfl), Ap]
        by_cases h4 : ps.all Vv = true
        · rw [if_neg (by simp [h4]), if_neg (by simp [h4]), V4 hn, Ap]
          split <;> rfl
        · rw [if_pos (by simp [h4]), if_pos h4]
      · rw [if_pos (by simp [h3]), if_pos (by simp [h3])]
    · rw [if_neg (bY h1), if_pos (nd h2), Ap, if_pos rfl, if_pos (.inl (.inr h2))]
  · rw [if_pos (nd h1), Ap, if_pos rfl, if_pos (.inl (.inl h1))]
theorem S3 (w : Int) : Gq w = some (decide (okW w)) := by unfold Gq; rw [Kf]; rfl
theorem Pg (w v : Int) : HS w v = some (Uv w v) := by
  unfold HS Uv
  rw [S3, Ap, Kf, Ap]
  by_cases h1 : okW w
  · rw [if_neg (by simp [h1]), Ap]
    by_cases h2 : 1 ≤ v ∧ v ≤ 40
    · rw [if_neg (by simp [h2]), if_neg (by simp [h1, h2])]
    · rw [if_pos (nd h2), if_pos (.inr h2)]
  · rw [if_pos (by simp [h1]), Ap, if_pos rfl, if_pos (.inl h1)]
def aY (wide : Int) (ps : List Int) (w : Int) : Int × List Int × Int × Int × Bool := (wide, ps, JC w, Jv w, Mm w)
theorem K0 {wide : Int} {ps : List Int} (hn : ps.length ≤ 1000) (w : Int) : Ii wide ps w = some (if FF wide ps w = 0 then some (aY wide ps w) else none, FF wide ps w) := by
  unfold Ii FF
  rw [Mv hn, Ap]
  by_cases h1 : LL wide ps = 0
  · rw [if_neg (by simp [h1]), S3, Ap]
    by_cases h2 : okW w
    · rw [if_neg (by simp [h2])]
      rcases VO h2 with rfl | rfl | rfl | rfl | rfl <;> simp [h1, h2, aY] <;> rfl
    · rw [if_pos (by simp [h2])]; simp [h1, h2]
  · rw [if_pos h1]; simp [h1]
theorem SZ {wide : Int} {ps : List Int} (hn : ps.length ≤ 1000) (w stand : Int) : HU wide ps w stand = some (if HN wide ps w stand = 0 then some (aY wide ps w) else none, HN wide ps w stand) := by
  unfold HU HN
  rw [K0 hn, B2]
  by_cases h1 : FF wide ps w = 0
  · rw [if_neg (by simp [h1]), WZ hn, Ap]
    by_cases h2 : Rm ps stand 0 = 0 <;> simp [h1, h2]
  · simp [h1]
theorem Ys {wide : Int} {ps : List Int} {p : Int} (h0 : 0 ≤ p) (h1 : p < ps.length) : Fh wide ps p = some (decide (ps.getD p.toNat 0 = 2)) := by
  unfold Fh; rw [Ia _ h0 h1]
theorem WD {wide : Int} {ps : List Int} {w : Int} (_hw : okW w) (sd sr : Int) {q : Int} (h0 : 0 ≤ q) (h1 : q < ps.length) : Fv wide ps (JC w) (Jv w) (Mm w) sd sr q = some (Pd w sd sr (ps.getD q.toNat 0)) := by
  unfold Fv IA Pd
  have e1 : -1 ≤ JC w ∧ JC w ≤ 1 := by unfold JC; split <;> (try split) <;> omega
  have e2 : -1 ≤ Jv w ∧ Jv w ≤ 1 := by unfold Jv; split <;> (try split) <;> omega
  rw [Bz (AJ (by omega)), Bz (AJ (by omega))]
  simp only [B2, Ia _ h0 h1]
  generalize ps.getD q.toNat 0 = k
  have fin : ∀ n : Int, 0 ≤ n ∧ n ≤ 4 → (if k = 1 then gd (Dh (n + 1)) (some (n + 1)) else some n) = some (n + if k = 1 then 1 else 0) := fun n hn => by
    split
    · rw [Bz (AJ (by omega))]
    · simp
  by_cases hb : Mm w = true
  · by_cases hs : sd = JC w ∧ sr = Jv w
    · rw [if_neg (by simp [hb]), if_pos hs, Ap, fin 1 (by omega), if_neg (not_not_intro hb), if_pos hs]
    · by_cases ht : sd = -JC w ∧ sr = -Jv w
      · rw [if_neg (by simp [hb]), if_neg hs, if_pos ht, Ap, fin 4 (by omega), if_neg (not_not_intro hb), if_neg hs, if_pos ht]
      · rw [if_neg (by simp [hb]), if_neg hs, if_neg ht, Ap, fin 2 (by omega), if_neg (not_not_intro hb), if_neg hs, if_neg ht]
  · rw [if_pos (by simp [hb]), Ap, fin 2 (by omega), if_pos hb]
theorem Yf {α : Type} {x : α} {l : List α} : yl x (some l) = some (x :: l) := rfl
theorem QW {wide : Int} {ps : List Int} {w : Int} (ho : FF wide ps w = 0) {p : Int} (h0 : 0 ≤ p) (h1 : p < ps.length) {closed : Int → Option Bool} (hc : ∀ q : Int, 0 ≤ q → q < ps.length → closed q = some (decide (ps.getD q.toNat 0 = 2))) :
    ∀ (n : Nat) (k : Int), 0 ≤ k → k + n = 4 → BX p wide ps (JC w) (Jv w) (Mm w) closed n k = some ((Sz.drop k.toNat).filterMap (HI wide ps w p))
  | 0, k, _, hk => by
    have : k = 4 := by omega
    subst this; rfl
  | n + 1, k, ae, hk => by
    obtain ⟨o1, o2, _, o4, o5, _⟩ := IL ho
    have ih := QW ho h0 h1 hc n (k + 1) (by omega) (by omega)
    unfold BX
    obtain ⟨s, hs, hd, af, aj⟩ : ∃ s : Int × Int, ([(-1, 0), (0, -1), (0, 1), (1, 0)] : List (Int × Int))[k.toNat]? = some s ∧ Sz.drop k.toNat = s :: Sz.drop (k + 1).toNat ∧ (-1 ≤ s.1 ∧ s.1 ≤ 1) ∧ (-1 ≤ s.2 ∧ s.2 ≤ 1) := by
      have : k = 0 ∨ k = 1 ∨ k = 2 ∨ k = 3 := by omega
      rcases this with rfl | rfl | rfl | rfl <;> exact ⟨_, rfl, rfl, by decide, by decide⟩
    have hmul := XB af o1
    rw [NV ae hs, Bz (AJ (by omega)), Bz (AJ (by omega)), Bz (AJ (by omega)), Sp (by omega), Ap, ih, hd, List.filterMap_cons]
    generalize hq : p + s.1 * wide + s.2 = q
    by_cases aa : 0 ≤ q ∧ q ≤ (ps.length : Int) - 1
    · rw [if_neg (by simp [aa])]
      have ab : 0 ≤ q := aa.1
      have ad : q < ps.length := by omega
      rw [hc q ab ad, WD o5 _ _ ab ad]
      simp only [Ap, Yf]
      have ah : Int.tdiv q wide = q / wide := Int.tdiv_eq_ediv_of_nonneg ab
      have ai : Int.tdiv p wide = p / wide := Int.tdiv_eq_ediv_of_nonneg h0
      have ak : 0 ≤ q / wide ∧ q / wide ≤ 1000 := ⟨Int.ediv_nonneg ab (by omega), Int.le_trans (Int.ediv_le_self _ ab) (by omega)⟩
      have al : 0 ≤ p / wide ∧ p / wide ≤ 1000 := ⟨Int.ediv_nonneg h0 (by omega), Int.le_trans (Int.ediv_le_self _ h0) (by omega)⟩
      by_cases hz : s.1 = 0
      · rw [if_pos hz, Bz ⟨by omega, AJ (by omega)⟩, Bz ⟨by omega, AJ (by omega)⟩, ah, ai]
        by_cases he : q / wide = p / wide
        · rw [if_neg (by simp [he])]
          by_cases hw : ps.getD q.toNat 0 = 2
          · rw [if_pos (decide_eq_true hw)]
            have : HI wide ps w p s = none := by unfold HI; rw [hq, if_pos (.inr hw)]
            rw [this]
          · rw [if_neg (fun h => hw (of_decide_eq_true h))]
            have : HI wide ps w p s = some (q, Pd w s.1 s.2 (ps.getD q.toNat 0)) := by unfold HI; rw [hq, if_neg (fun h => h.elim (fun h => h.elim (fun h => h aa) (fun h => h.2 he)) hw)]
            rw [this]
        · rw [if_pos (by simpa using he)]
          have : HI wide ps w p s = none := by unfold HI; rw [hq, if_pos (.inl (.inr ⟨hz, he⟩))]
          rw [this]
      · rw [if_neg hz]
        by_cases hw : ps.getD q.toNat 0 = 2
        · rw [if_pos (decide_eq_true hw)]
          have : HI wide ps w p s = none := by unfold HI; rw [hq, if_pos (.inr hw)]
          rw [this]
        · rw [if_neg (fun h => hw (of_decide_eq_true h))]
          have : HI wide ps w p s = some (q, Pd w s.1 s.2 (ps.getD q.toNat 0)) := by unfold HI; rw [hq, if_neg (fun h => h.elim (fun h => h.elim (fun h => h aa) (fun h => hz h.1)) hw)]
          rw [this]
    · rw [if_pos (nd aa)]
      have : HI wide ps w p s = none := by unfold HI; rw [hq, if_pos (.inl (.inl aa))]
      rw [this]
theorem YB {wide : Int} {ps : List Int} {w : Int} (ho : FF wide ps w = 0) {p : Int} (h0 : 0 ≤ p) (h1 : p < ps.length) : Hr wide ps (JC w) (Jv w) (Mm w) p = some (La wide ps w p) := by
  unfold Hr Hy
  rw [Bz ⟨AJ (by omega), AJ (by omega)⟩, QW ho h0 h1 (closed := fun x => Fh wide ps x) (fun q aa ab => Ys aa ab) (Int.toNat (4 - 0)) 0 (by omega) (by decide)]
  rfl
end Go.Proofs.YtfmapnhfamoecaaGreat
namespace Go.Proofs.YtfmapnhfamoecaaGreat
open Go.PL Go.Hear
theorem P8 : ∀ (m : Nat) (k n : Nat), k + m = n → DO m (k : Int) (KZ n k) = some (KZ n n)
  | 0, k, n, h => by
    have : k = n := by omega
    subst this; rfl
  | m + 1, k, n, h => by
    unfold DO
    have hl : (KZ n k).length = n := by simp [KZ]; omega
    rw [Ia _ (by omega) (by rw [hl]; omega)]
    unfold bv
    rw [show (k : Int).toNat = k from rfl, Wh (by omega)]
    exact P8 m (k + 1) n (by omega)
section
variable {n : Nat} {E : Int → List (Int × Int)} {s : Int}
theorem QI (hn : n ≤ 30) (hE : TG n E) {p : Int} (hp : 0 ≤ p ∧ p < n) {out0 rest : List Int} (hb : mu n out0 + rest.length ≤ 10000) (rec2 : List Int → List Int → Option (List Int)) : ∀ (aa pre : List (Int × Int)) (out line : List Int), E p = pre ++ aa → Ro n E s p out0 rest pre out line →
    Cz p rec2 aa out line = rec2 (aa.foldl (JD p) (out, line)).1 (aa.foldl (JD p) (out, line)).2
  | [], pre, out, line, _, _ => rfl
  | x :: aa, pre, out, line, hs, h => by
    have hx := hE p x.1 x.2 (by rw [hs]; simp)
    have hl := h.wk.len
    have r1 := h.cN hp
    have r2 := h.wk.cS hx.1.1 hx.1.2
    have ae := h.bd
    have ab : (b1 (ix out x.1 fun x5 =>
        if x5 = (-1) then
        (some true)
        else
        (ix out p fun x6 =>
        gd (Dh (x6 + x.2)) <|
        some (decide ((x6 + x.2) < x5)))) fun k2 =>
        if k2 = true then
        (ix out p fun x7 =>
        gd (Dh (x7 + x.2)) <|
        ix out x.1 fun x8 =>
        bv (out.set (x.1 : Int).toNat (x7 + x.2)) fun l2 =>
        ap line [x.1] fun ad =>
        Cz p rec2 aa l2 ad)
        else
        (Cz p rec2 aa out line)) = Cz p rec2 aa (JD p (out, line) x).1 (JD p (out, line) x).2 := by
      rw [Ia _ hx.1.1 (by rw [hl]; exact hx.1.2), Ia _ hp.1 (by rw [hl]; exact hp.2), Ia _ hp.1 (by rw [hl]; exact hp.2), Ia _ hx.1.1 (by rw [hl]; exact hx.1.2)]
      rw [Bz (AJ (by omega)), Bz (AJ (by omega))]
      simp only [bv]
      rw [Km (xs := line) (ys := [x.1]) (by simp; omega)]
      unfold JD Ge
      by_cases c1 : out.getD x.1.toNat 0 = -1
      · rw [if_pos c1, Ap, if_pos rfl, if_pos (.inl c1)]
      · rw [if_neg c1, Ap]
        by_cases c2 : out.getD p.toNat 0 + x.2 < out.getD x.1.toNat 0
        · rw [if_pos (decide_eq_true c2), if_pos (.inr c2)]
        · rw [if_neg (fun h => c2 (of_decide_eq_true h)), if_neg (fun h => h.elim c1 c2)]
    unfold Cz
    rw [ab, List.foldl_cons]
    exact QI hn hE hp hb rec2 aa (pre ++ [x]) _ _ (by simpa using hs) (h.next hE hp hs)
theorem QQ {wide : Int} {ps : List Int} {w : Int} (ho : FF wide ps w = 0) {s : Int} : ∀ (fu : Nat) (out line : List Int), Wk ps.length (La wide ps w) s out → Ln ps.length out line → UD ps.length (La wide ps w) out line → mu ps.length out + line.length < fu → mu ps.length out + line.length ≤ 10000 →
    ∃ t, DP wide ps (JC w) (Jv w) (Mm w) fu out line = some t ∧ Ri ps.length (La wide ps w) s t
  | 0, _, _, _, _, _, h, _ => by omega
  | fu + 1, out, line, hW, hL, hD, h, hm => by
    have hE := K6 ho
    have hn := (IL ho).2.1
    unfold DP
    cases line with
    | nil => exact ⟨out, by simp, Ri.of hW hD⟩
    | cons p rest =>
      have hp := (hL.K8 p (List.mem_cons_self ..)).1
      simp only [List.length_cons] at h hm
      rw [if_pos (by simp only [List.length_cons]; omega), NV (Int.le_refl 0) (show (p :: rest)[(0 : Int).toNat]? = some p from rfl), Bz (by simp only [List.length_cons]; omega)]
      unfold bv
      have aa : sl (p :: rest) 1 ((p :: rest).length : Int) = rest := by simp [sl]
      rw [aa]; simp only [YB ho hp.1 (show p < (ps.length : Int) by simpa using hp.2), Ap]
      obtain ⟨h1, h2, h3, h4⟩ := (Ro.all hE hp hW hL hD).last
      rw [QI hn.2 hE hp (out0 := out) (rest := rest) (by omega) _ _ [] out rest (by simp) (Ro.first hW hL hD)]
      simp only [List.length_cons] at h4
      exact QQ ho fu _ _ h1 h2 h3 (by omega) (by omega)
end
def tb (wide : Int) (ps : List Int) (w stand : Int) : List Int := table ps.length (La wide ps w) stand
theorem Pt {wide : Int} {ps : List Int} {w : Int} (ho : FF wide ps w = 0) {stand : Int} (hs : 0 ≤ stand ∧ stand < ps.length) : Ri ps.length (La wide ps w) stand (tb wide ps w stand) := Ws (K6 ho) hs
theorem Vk {wide : Int} {ps : List Int} {w : Int} (ho : FF wide ps w = 0) {stand : Int} (hs : 0 ≤ stand ∧ stand < ps.length) : Gu wide ps (JC w) (Jv w) (Mm w) stand = some (tb wide ps w stand) := by
  have hn := (IL ho).2.1
  unfold Gu
  rw [Bz (by omega)]
  simp only [bv, Int.toNat_natCast]
  have h0 : DO ps.length 0 (List.replicate ps.length 0) = some (KZ ps.length ps.length) := by
    have := P8 ps.length 0 ps.length (by omega)
    rw [Uk] at this; exact this
  rw [Bz ⟨AJ (by omega), AJ (by simp; omega)⟩, List.length_replicate, show (((ps.length : Int) - 0).toNat) = ps.length by omega]
  rw [h0, Ap]
  rw [Ia _ hs.1 (by simp [KZ]; omega), UE]
  obtain ⟨h1, h2, h3⟩ := Tj (E := La wide ps w) hs
  have h4 := WS hn.2 hs
  obtain ⟨t, ht, hT⟩ := QQ ho FU _ _ h1 h2 h3 (by simp only [List.length_singleton]; unfold FU; omega) (by simp only [List.length_singleton]; omega)
  rw [ht, Ap, hT.unique (K6 ho) hs (Pt ho hs)]
theorem OH {wide : Int} {ps : List Int} {w stand : Int} (h : HN wide ps w stand = 0) : FF wide ps w = 0 ∧ (0 ≤ stand ∧ stand < ps.length) ∧ ps.getD stand.toNat 0 = 0 := by
  unfold HN at h
  by_cases ho : FF wide ps w = 0
  · rw [if_neg (not_not_intro ho)] at h
    unfold Rm at h
    split at h
    · cases h
    · rename_i h1
      split at h
      · cases h
      · rename_i h2
        have aa := Classical.not_not.1 h1
        exact ⟨ho, ⟨aa.1, by omega⟩, Classical.not_not.1 h2⟩
  · rw [if_pos ho] at h; exact absurd h ho
theorem WQ {wide : Int} {ps : List Int} (hn : ps.length ≤ 1000) (w stand : Int) : IU wide ps w stand = some (if HN wide ps w stand = 0 then tb wide ps w stand else [], HN wide ps w stand) := by
  unfold IU
  rw [SZ hn, B2]
  by_cases h : HN wide ps w stand = 0
  · obtain ⟨ho, hs, _⟩ := OH h
    rw [if_neg (not_not_intro h), if_pos h, if_pos h]
    unfold aY
    rw [Vz, Vk ho hs, Ap, h]
  · rw [if_pos h, if_neg h]
def HP (wide : Int) (ps : List Int) (w stand E6 : Int) : Int :=
  if HN wide ps w stand ≠ 0 then HN wide ps w stand else if ¬ (0 ≤ E6 ∧ E6 ≤ (ps.length : Int) - 1) then 1 else if (tb wide ps w stand).getD E6.toNat 0 = -1 then 6 else 0
def Hw (wide : Int) (ps : List Int) (w stand E6 : Int) : Int := if HP wide ps w stand E6 = 0 then (tb wide ps w stand).getD E6.toNat 0 else 0
theorem VC {wide : Int} {ps : List Int} (hn : ps.length ≤ 1000) (w stand E6 : Int) : JQ wide ps w stand E6 = some (Hw wide ps w stand E6, HP wide ps w stand E6) := by
  unfold JQ Hw HP
  rw [WQ hn, B2]
  by_cases h : HN wide ps w stand = 0
  · obtain ⟨ho, hs, _⟩ := OH h
    rw [if_neg (not_not_intro h), if_pos h, Sp hn, Ap]
    by_cases hp : 0 ≤ E6 ∧ E6 ≤ (ps.length : Int) - 1
    · have hl := (Pt ho hs).len
      rw [if_neg (bY hp), Ia _ hp.1 (by rw [hl]; omega)]
      by_cases h1 : (tb wide ps w stand).getD E6.toNat 0 = -1 <;> simp only [h, hp, h1, not_not_intro, if_true, if_false, and_self] <;> rfl
    · rw [if_pos (nd hp)]
      simp only [h, hp, if_true, if_false, ne_eq, not_true_eq_false, not_false_eq_true]
      rfl
  · rw [if_pos h]
    simp only [h, if_true, if_false, ne_eq, not_false_eq_true]
end Go.Proofs.YtfmapnhfamoecaaGreat
namespace Go.Proofs.YtfmapnhfamoecaaGreat
open Go.PL Go.Hear
theorem KO (x : Int) : 0 ≤ M8 32 x 65535 ∧ M8 32 x 65535 ≤ 65535 := by
  unfold M8
  rw [BitVec.toNat_and]
  have h : (BitVec.ofInt 32 x).toNat &&& (BitVec.ofInt 32 65535).toNat ≤ (BitVec.ofInt 32 65535).toNat := Nat.and_le_right
  have e : (BitVec.ofInt 32 65535).toNat = 65535 := by decide
  rw [e] at h ⊢
  omega
section
variable {metal : List Int}
theorem Se {a t : Int} (h : 0 ≤ a ∧ a ≤ metal.length) (hm : (metal.length : Int) ≤ 9223372036854775807) : ∃ v a' t', Ed metal a t = some (v, a', t') ∧ (0 ≤ v ∧ v ≤ 65535) ∧ (0 ≤ a' ∧ a' ≤ metal.length) := by
  unfold Ed
  have e : ∃ b u, (if a = (metal.length : Int) then some ((0 : Int), (t + 1) % 4294967296) else some (a, t)) = some (b, u) ∧ 0 ≤ b ∧ (0 < (metal.length : Int) → b < metal.length) ∧ b ≤ metal.length := by
    by_cases h1 : a = (metal.length : Int)
    · exact ⟨_, _, if_pos h1, by omega, fun h => h, by omega⟩
    · exact ⟨_, _, if_neg h1, by omega, fun _ => by omega, by omega⟩
  obtain ⟨b, u, e1, e2, e3, e4⟩ := e
  rw [e1, B2, Lv]
  by_cases h2 : 0 < (metal.length : Int)
  · have h3 := e3 h2
    rw [if_pos h2, Ia _ e2 h3, Lv, Bz (by unfold Dh; omega), B2]
    generalize Ph 32 _ _ = z
    have hz := KO z
    rw [Bz (AJ (by omega))]
    exact ⟨_, _, _, rfl, hz, by omega, by omega⟩
  · rw [if_neg h2, B2]
    generalize Ph 32 _ _ = z
    have hz := KO z
    rw [Bz (AJ (by omega))]
    exact ⟨_, _, _, rfl, hz, by omega, by omega⟩
theorem JP {a t n : Int} (h : 0 ≤ a ∧ a ≤ metal.length) (hm : (metal.length : Int) ≤ 9223372036854775807) (hn : -1000000 ≤ n ∧ n ≤ 1000000) : ∃ v a' t', Cs metal a t n = some (v, a', t') ∧ 0 ≤ v ∧ (v ≤ n ∨ v = 0) ∧ (0 ≤ a' ∧ a' ≤ metal.length) := by
  unfold Cs
  obtain ⟨v, a', t', h1, h2, h3⟩ := Se (t := t) h hm
  rw [h1, En, Bz (AJ (by omega)), Bz (by split <;> omega)]
  refine ⟨_, _, _, rfl, ?_, ?_, h3⟩
  · exact Int.tmod_nonneg _ h2.1
  · have aa : 0 < (if n + 1 > 1 then n + 1 else 1) := by split <;> omega
    rw [Int.tmod_eq_emod_of_nonneg h2.1]
    have ab := Int.emod_lt_of_pos v aa
    have ad := Int.emod_nonneg v (Int.ne_of_gt aa)
    generalize v % (if n + 1 > 1 then n + 1 else 1) = z at ab ad
    split at ab <;> omega
theorem MF {a t lo hi : Int} (h : 0 ≤ a ∧ a ≤ metal.length) (hm : (metal.length : Int) ≤ 9223372036854775807) (hl : -1000 ≤ lo ∧ lo ≤ 1000) (hh : -1000 ≤ hi ∧ hi ≤ 1000) : ∃ v a' t', CQ metal a t lo hi = some (v, a', t') ∧ lo ≤ v ∧ (v ≤ hi ∨ v = lo) ∧ (0 ≤ a' ∧ a' ≤ metal.length) := by
  unfold CQ
  obtain ⟨v, a', t', h1, h2, h3, h4⟩ := JP (t := t) (n := hi - lo) h hm (by omega)
  rw [Bz (AJ (by omega)), h1, En, Bz (AJ (by omega))]
  exact ⟨_, _, _, rfl, by omega, by omega, h4⟩
theorem N6 (xs ys : List Int) : Hf (xs ++ ys) = Hf xs + Hf ys := by simp [Hf, List.filter_append]
theorem RQ : ∀ (xs : List Int) (i : Nat), Hf (xs.set i 0) ≤ Hf xs
  | [], i => by simp
  | x :: xs, 0 => by simp [Hf, List.filter_cons]; split <;> simp
  | x :: xs, i + 1 => by
    have := RQ xs i
    unfold Hf at *
    rw [List.set_cons_succ, List.filter_cons, List.filter_cons]
    split <;> simp <;> omega
theorem PN (hm : (metal.length : Int) ≤ 9223372036854775807) : ∀ (fu : Nat) (a t : Int) (ps : List Int) (left : Int), (0 ≤ a ∧ a ≤ metal.length) → ps.length + fu ≤ 1000 → ps.all Vv = true → (Hf ps : Int) ≤ 10 - left ∨ (left < 0 ∧ (Hf ps : Int) ≤ 10) → -1000 + (fu : Int) ≤ left → left ≤ 10 → (Hf ps : Int) ≤ 10 →
    ∃ a' t' ad, Ec metal fu a t ps left = some (a', t', ad) ∧ (0 ≤ a' ∧ a' ≤ metal.length) ∧ ad.length = ps.length + fu ∧ ad.all Vv = true ∧ (Hf ad : Int) ≤ 10
  | 0, a, t, ps, left, ha, _, hp, _, _, _, hc => ⟨a, t, ps, rfl, ha, rfl, hp, hc⟩
  | fu + 1, a, t, ps, left, ha, hl, hp, ai, aj, ak, hc => by
    unfold Ec
    obtain ⟨v, a', t', h1, h2, h3, h4⟩ := JP (t := t) (n := 5) ha hm (by omega)
    have hv : v = 0 ∨ v = 1 ∨ v = 2 ∨ v = 3 ∨ v = 4 ∨ v = 5 := by omega
    obtain ⟨x, hx, ae⟩ : ∃ x : Int, ([0, 0, 0, 1, 1, 2] : List Int)[v.toNat]? = some x ∧ (x = 0 ∨ x = 1 ∨ x = 2) := by
      rcases hv with rfl | rfl | rfl | rfl | rfl | rfl
      · exact ⟨0, rfl, by decide⟩
      · exact ⟨0, rfl, by decide⟩
      · exact ⟨0, rfl, by decide⟩
      · exact ⟨1, rfl, by decide⟩
      · exact ⟨1, rfl, by decide⟩
      · exact ⟨2, rfl, by decide⟩
    rw [h1, En, NV h2 hx, Bz (AJ (by omega))]
    have aa : ∀ p : Int, (p = 0 ∨ p = 1 ∨ p = 2) → (ps ++ [p]).all Vv = true := fun p ah => by
      rw [List.all_append, hp]
      rcases ah with rfl | rfl | rfl <;> rfl
    have hlen : ∀ p : Int, (ps ++ [p]).length = ps.length + 1 := fun p => by simp
    by_cases e1 : x = 1
    · rw [if_pos e1]
      by_cases e2 : left - 1 < 0
      · rw [if_pos e2, B2, Km (by simp; omega)]
        have af : Hf (ps ++ [0]) = Hf ps := by rw [N6]; rfl
        obtain ⟨a2, t2, p2, g1, g2, g3, g4, g5⟩ := PN hm fu a' t' (ps ++ [0]) (left - 1) h4 (by rw [hlen]; omega) (aa 0 (by decide)) (by rw [af]; omega) (by omega) (by omega) (by rw [af]; omega)
        exact ⟨a2, t2, p2, g1, g2, by rw [g3, hlen]; omega, g4, g5⟩
      · rw [if_neg e2, B2, Km (by simp; omega), e1]
        have ab : Hf (ps ++ [1]) = Hf ps + 1 := by rw [N6]; rfl
        obtain ⟨a2, t2, p2, g1, g2, g3, g4, g5⟩ := PN hm fu a' t' (ps ++ [1]) (left - 1) h4 (by rw [hlen]; omega) (aa 1 (by decide)) (by rw [ab]; omega) (by omega) (by omega) (by rw [ab]; omega)
        exact ⟨a2, t2, p2, g1, g2, by rw [g3, hlen]; omega, g4, g5⟩
    · rw [if_neg e1, B2, Km (by simp; omega)]
      have ab : Hf (ps ++ [x]) = Hf ps := by
        rw [N6]
        rcases ae with rfl | rfl | rfl
        · rfl
        · exact absurd rfl e1
        · rfl
      obtain ⟨a2, t2, p2, g1, g2, g3, g4, g5⟩ := PN hm fu a' t' (ps ++ [x]) left h4 (by rw [hlen]; omega) (aa x ae) (by rw [ab]; omega) (by omega) (by omega) (by rw [ab]; omega)
      exact ⟨a2, t2, p2, g1, g2, by rw [g3, hlen]; omega, g4, g5⟩
theorem YC {a t plots : Int} (ha : 0 ≤ a ∧ a ≤ metal.length) (hm : (metal.length : Int) ≤ 9223372036854775807) (hp : 6 ≤ plots ∧ plots ≤ 30) : ∃ wide ps a' t', Ho metal a t plots = some (wide, ps, a', t') ∧ LL wide ps = 0 ∧ (ps.length : Int) ≤ plots ∧ (∃ s : Nat, s < ps.length ∧ ps.getD s 0 = 0) ∧ (0 ≤ a' ∧ a' ≤ metal.length) := by
  unfold Ho
  obtain ⟨n, a1, t1, h1, h2, h3, h4⟩ := MF (t := t) (lo := 1) (hi := 6) ha hm (by omega) (by omega)
  have ae : Int.tdiv plots n = plots / n := Int.tdiv_eq_ediv_of_nonneg (by omega)
  have ai : 1 ≤ plots / n := Int.le_ediv_of_mul_le (by omega) (by omega)
  have aj : plots / n ≤ plots := Int.ediv_le_self _ (by omega)
  rw [h1, En, ae, Bz ⟨by omega, AJ (by omega)⟩]
  have hr : (if plots / n > 1 then plots / n else 1) = plots / n := by split <;> omega
  rw [hr]
  obtain ⟨r, a2, t2, g1, g2, g3, g4⟩ := MF (t := t1) (lo := 1) (hi := plots / n) h4 hm (by omega) (by omega)
  have af : r ≤ plots / n := by omega
  have hmul : r * n ≤ plots := Int.le_trans (Int.mul_le_mul_of_nonneg_right af (by omega)) (by rw [Int.mul_comm]; exact Int.mul_ediv_self_le (by omega))
  have ad : 1 ≤ r * n := by
    have := Int.mul_le_mul (show (1 : Int) ≤ r by omega) (show (1 : Int) ≤ n by omega) (by omega) (by omega)
    omega
  rw [g1, En, Bz (AJ (by omega)), Bz ⟨AJ (by omega), AJ (by omega)⟩]
  obtain ⟨a3, t3, ps, f1, f2, f3, f4, f5⟩ := PN hm (Int.toNat (r * n - 0)) a2 t2 [] 10 g4 (by simp; omega) rfl (.inl (by decide)) (by omega) (by omega) (by decide)
  simp only [List.length_nil, Nat.zero_add] at f3
  rw [f1, En, Bz (AJ (by omega))]
  obtain ⟨s, a4, t4, e1, e2, e3, e4⟩ := JP (t := t3) (n := (ps.length : Int) - 1) f2 hm (by omega)
  rw [e1, En, Ia _ e2 (by omega), Lv]
  have hlen : (ps.set s.toNat 0).length = ps.length := List.length_set
  have ah := RQ ps s.toNat
  have aa : (ps.set s.toNat 0).all Vv = true := by
    rw [List.all_eq_true] at f4 ⊢
    intro x hx
    rcases List.mem_or_eq_of_mem_set hx with h | h
    · exact f4 x h
    · rw [h]; rfl
  have ab : (ps.length : Int) % n = 0 := by
    have : (ps.length : Int) = r * n := by omega
    rw [this]; exact Int.mul_emod_left _ _
  refine ⟨n, _, a4, t4, rfl, ?_, by rw [hlen]; omega, ⟨s.toNat, by rw [hlen]; omega, ?_⟩, e4⟩
  · unfold LL
    rw [hlen, if_neg, if_neg (not_not_intro aa), if_neg (by omega)]
    rintro ((h | h) | h)
    · exact h (by omega)
    · exact h (by omega)
    · exact h ab
  · rw [Jk (by omega), if_pos rfl]
theorem XF {a t : Int} (ha : 0 ≤ a ∧ a ≤ metal.length) (hm : (metal.length : Int) ≤ 9223372036854775807) : ∃ w v a' t', GS metal a t = some (w, v, a', t') ∧ okW w ∧ (1 ≤ v ∧ v ≤ 16) ∧ (0 ≤ a' ∧ a' ≤ metal.length) := by
  unfold GS
  obtain ⟨n, a1, t1, h1, h2, h3, h4⟩ := JP (t := t) (n := 4) ha hm (by omega)
  obtain ⟨r, a2, t2, g1, g2, g3, g4⟩ := MF (t := t1) (lo := 1) (hi := 16) h4 hm (by omega) (by omega)
  rw [h1, En, g1, En]
  exact ⟨n, r, a2, t2, rfl, ⟨h2, by omega⟩, by omega, g4⟩
def KT (kind : Int) : List Int → Int → List Int
  | [], _ => []
  | x :: l, k => if x = kind then k :: KT kind l (k + 1) else KT kind l (k + 1)
theorem O2 {kind : Int} : ∀ (l : List Int) (k x : Int), x ∈ KT kind l k ↔ k ≤ x ∧ x < k + l.length ∧ l.getD (x - k).toNat 0 = kind
  | [], k, x => by
    unfold KT
    simp; omega
  | y :: l, k, x => by
    unfold KT
    have ih := O2 (kind := kind) l (k + 1) x
    have hs : ∀ h : k + 1 ≤ x, (y :: l).getD (x - k).toNat 0 = l.getD (x - (k + 1)).toNat 0 := fun h => by
      have : (x - k).toNat = (x - (k + 1)).toNat + 1 := by omega
      rw [this, List.getD_cons_succ]
    have h0 : x = k → (y :: l).getD (x - k).toNat 0 = y := fun h => by
      have : (x - k).toNat = 0 := by omega
      rw [this, List.getD_cons_zero]
    rw [List.length_cons]
    by_cases hy : y = kind
    · rw [if_pos hy, List.mem_cons, ih]
      constructor
      · rintro (h | ⟨h1, h2, h3⟩)
        · exact ⟨by omega, by omega, by rw [h0 h]; exact hy⟩
        · exact ⟨by omega, by omega, by rw [hs h1]; exact h3⟩
      · rintro ⟨h1, h2, h3⟩
        by_cases he : x = k
        · exact .inl he
        · exact .inr ⟨by omega, by omega, by rw [← hs (by omega)]; exact h3⟩
    · rw [if_neg hy, ih]
      constructor
      · rintro ⟨h1, h2, h3⟩
        exact ⟨by omega, by omega, by rw [hs h1]; exact h3⟩
      · rintro ⟨h1, h2, h3⟩
        by_cases he : x = k
        · rw [h0 he] at h3; exact absurd h3 hy
        · exact ⟨by omega, by omega, by rw [← hs (by omega)]; exact h3⟩
end
end Go.Proofs.YtfmapnhfamoecaaGreat
namespace Go.Proofs.YtfmapnhfamoecaaGreat
open Go.PL Go.Hear
end Go.Proofs.YtfmapnhfamoecaaGreat
namespace Go.Proofs.YtfmapnhfamoecaaGreat
open Go.PL Go.Hear
section
variable {n : Nat} {E : Int → List (Int × Int)} {s : Int}
end
section
variable {wide : Int} {ps : List Int} {w s : Int}
end
end Go.Proofs.YtfmapnhfamoecaaGreat
namespace Go.Proofs.YtfmapnhfamoecaaGreat
open Go.PL Go.Hear
open Classical
theorem T0 {α : Type} {l : List α} {z : α} : aT (List.replicate l.length z) l = l := by simp [aT]
theorem Xt {l : List Int} (h : l.length ≤ 1000000) : FE l = some l := by
  unfold FE
  rw [Bz (by omega), Lv, Int.toNat_natCast, T0, Lv]
theorem Z4 {wide : Int} {ps : List Int} (h : ps.length ≤ 1000) : HW wide ps = some (wide, ps) := by
  unfold HW
  rw [Xt (by omega), Ap]
section
variable {wide : Int} {ps : List Int} {w : Int} {t : List Int}
end
end Go.Proofs.YtfmapnhfamoecaaGreat
namespace Go.Proofs.YtfmapnhfamoecaaGreat
open Go.PL Go.Hear
def ZB (wide : Int) (ps : List Int) (E6 : Int) : Int × List Int × Int :=
  if LL wide ps ≠ 0 then (0, [], LL wide ps) else if Rm ps E6 0 ≠ 0 then (0, [], Rm ps E6 0) else (wide, ps.set E6.toNat 2, 0)
theorem Zp {ps : List Int} {p kind : Int} (h : Rm ps p kind = 0) : (0 ≤ p ∧ p < ps.length) ∧ ps.getD p.toNat 0 = kind := by
  unfold Rm at h
  split at h
  · cases h
  · rename_i h1
    split at h
    · cases h
    · rename_i h2
      have aa := Classical.not_not.1 h1
      exact ⟨⟨aa.1, by omega⟩, Classical.not_not.1 h2⟩
theorem VQ {wide : Int} {ps : List Int} (hn : ps.length ≤ 1000) (E6 : Int) : Ja wide ps E6 = some (ZB wide ps E6) := by
  unfold Ja ZB
  rw [Mv hn, Ap]
  by_cases h1 : LL wide ps = 0
  · rw [if_neg (not_not_intro h1), if_neg (not_not_intro h1), WZ hn, Ap]
    by_cases h2 : Rm ps E6 0 = 0
    · obtain ⟨hp, _⟩ := Zp h2
      rw [if_neg (not_not_intro h2), if_neg (not_not_intro h2), Bz (by omega), Lv, Int.toNat_natCast, T0, Lv, Ia _ hp.1 hp.2, Lv]
    · rw [if_pos h2, if_pos h2]
  · rw [if_pos h1, if_pos h1]
end Go.Proofs.YtfmapnhfamoecaaGreat
namespace Go.Proofs.YtfmapnhfamoecaaGreat
open Go.PL Go.Hear
section
variable {wide : Int} {ps : List Int} {w : Int} {dI : List Int}
theorem QC {l r : List Int} {x : Int} {k : Nat} (h : l.drop k = x :: r) : k < l.length ∧ l.getD k 0 = x ∧ l.drop (k + 1) = r := by
  have hk : k < l.length := by
    by_cases hk : k < l.length
    · exact hk
    · rw [List.drop_eq_nil_of_le (by omega)] at h; cases h
  rw [List.drop_eq_getElem_cons hk] at h
  refine ⟨hk, ?_, (List.cons.inj h).2⟩
  rw [List.getD_eq_getElem?_getD, List.getElem?_eq_getElem hk]
  exact (List.cons.inj h).1
theorem Yc {ps : List Int} {p kind : Int} (h : Rm ps p kind = 0) : (0 ≤ p ∧ p < ps.length) ∧ ps.getD p.toNat 0 = kind := by
  unfold Rm at h
  split at h
  · cases h
  · rename_i h1
    split at h
    · cases h
    · rename_i h2
      have aa := Classical.not_not.1 h1
      exact ⟨⟨aa.1, by omega⟩, Classical.not_not.1 h2⟩
end
end Go.Proofs.YtfmapnhfamoecaaGreat
namespace Go.Proofs.YtfmapnhfamoecaaGreat
open Go.PL Go.Hear
section
variable {E E' : Int → List (Int × Int)} {s : Int} {n : Nat}
end
section
variable {wide : Int} {ps : List Int} {w : Int}
theorem IC (hc : LL wide ps = 0) (hw : okW w) : FF wide ps w = 0 := by
  unfold FF; rw [if_neg (not_not_intro hc), if_neg (not_not_intro hw)]
end
end Go.Proofs.YtfmapnhfamoecaaGreat
