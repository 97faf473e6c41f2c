/- Lists that are turned round by exchanges; lists of numbers in order; in plain Lean. -/
import Derived.Test.YtkfbbjiniapooaaGreatZSPl
import Derived.Test.YtkfbbjiniapooaaGreatZSTd
namespace Go.Proofs.YtkfbbjiniapooaaGreat.Rv
section
variable {α : Type}
theorem Rk {d : α} {xs : List α} {i t : Nat} {x : α} (h : i < xs.length) : (xs.set i x).getD t d = if i = t then x else xs.getD t d := by
  rw [List.getD_eq_getElem?_getD, List.getElem?_set]
  by_cases hi : i = t
  · rw [if_pos hi, if_pos hi, if_pos h]; rfl
  · rw [if_neg hi, if_neg hi, List.getD_eq_getElem?_getD]
end
def Up (n f : Nat) (c : List Nat) : Prop := c.Pairwise (· < ·) ∧ ∀ i ∈ c, f ≤ i ∧ i < n
theorem Up.nil (n f : Nat) : Up n f [] := ⟨List.Pairwise.nil, fun _ h => nomatch h⟩
theorem Up.cons {n f i : Nat} {c : List Nat} : Up n f (i :: c) ↔ (f ≤ i ∧ i < n) ∧ Up n (i + 1) c := by
  constructor
  · intro h
    have h1 := List.pairwise_cons.1 h.1
    exact ⟨h.2 i (List.mem_cons_self ..), h1.2, fun j hj => ⟨h1.1 j hj, (h.2 j (List.mem_cons_of_mem _ hj)).2⟩⟩
  · rintro ⟨h1, h2⟩
    refine ⟨List.pairwise_cons.2 ⟨fun j hj => (h2.2 j hj).1, h2.1⟩, fun j hj => ?_⟩
    rcases List.mem_cons.1 hj with rfl | hj
    · exact h1
    · have := h2.2 j hj
      omega
theorem Up.len {n : Nat} : ∀ {c : List Nat} {f : Nat}, Up n f c → c.length ≤ n - f
  | [], _, _ => Nat.zero_le _
  | i :: c, f, h => by
    obtain ⟨h1, h2⟩ := Up.cons.1 h
    have := Up.len h2
    rw [List.length_cons]; omega
end Go.Proofs.YtkfbbjiniapooaaGreat.Rv
namespace Go.Hear
def Ms (ps : List Int) : Nat := (ps.filter (· = 1)).length
def VS (p : Int) : Bool := decide (0 ≤ p ∧ p ≤ 2)
def PU (wide : Int) (ps : List Int) : Int :=
  if ((¬ (1 ≤ wide ∧ wide ≤ 6)) ∨ ¬ (1 ≤ (ps.length : Int) ∧ (ps.length : Int) ≤ 30)) ∨ (ps.length : Int) % wide ≠ 0 then 2
  else if ¬ ps.all VS = true then 3
  else if 10 < (Ms ps : Int) then 2 else 0
def okW (w : Int) : Prop := 0 ≤ w ∧ w ≤ 4
instance (w : Int) : Decidable (okW w) := inferInstanceAs (Decidable (_ ∧ _))
def PJ (w v : Int) : Int := if (¬ okW w) ∨ ¬ (1 ≤ v ∧ v ≤ 40) then 3 else 0
def PZ (ps : List Int) (p kind : Int) : Int := if ¬ (0 ≤ p ∧ p ≤ (ps.length : Int) - 1) then 1 else if ps.getD p.toNat 0 ≠ kind then 8 else 0
def FT (wide : Int) (ps : List Int) (w : Int) : Int := if PU wide ps ≠ 0 then PU wide ps else if ¬ okW w then 3 else 0
def La (wide : Int) (ps : List Int) (w stand : Int) : Int := if FT wide ps w ≠ 0 then FT wide ps w else PZ ps stand 0
def Ju (w : Int) : Int := if w = 1 then -1 else if w = 3 then 1 else 0
def Jv (w : Int) : Int := if w = 2 then 1 else if w = 4 then -1 else 0
def LK (w : Int) : Bool := decide (1 ≤ w ∧ w ≤ 4)
def KM (w sd sr kind : Int) : Int := (if ¬ LK w = true then 2 else if sd = Ju w ∧ sr = Jv w then 1 else if sd = - Ju w ∧ sr = - Jv w then 4 else 2) + if kind = 1 then 1 else 0
theorem TR {w : Int} (h : okW w) : w = 0 ∨ w = 1 ∨ w = 2 ∨ w = 3 ∨ w = 4 := by unfold okW at h; omega
def Jn : List (Int × Int) := [(-1, 0), (0, -1), (0, 1), (1, 0)]
def Hi (wide : Int) (ps : List Int) (w p : Int) (s : Int × Int) : Option (Int × Int) :=
  if (¬ (0 ≤ p + s.1 * wide + s.2 ∧ p + s.1 * wide + s.2 ≤ (ps.length : Int) - 1) ∨ (s.1 = 0 ∧ (p + s.1 * wide + s.2) / wide ≠ p / wide)) ∨ ps.getD (p + s.1 * wide + s.2).toNat 0 = 2 then none
  else some (p + s.1 * wide + s.2, KM w s.1 s.2 (ps.getD (p + s.1 * wide + s.2).toNat 0))
def Hf (wide : Int) (ps : List Int) (w p : Int) : List (Int × Int) := Jn.filterMap (Hi wide ps w p)
theorem Fs {wide : Int} {ps : List Int} {w : Int} (h : FT wide ps w = 0) : (1 ≤ wide ∧ wide ≤ 6) ∧ (1 ≤ ps.length ∧ ps.length ≤ 30) ∧ (ps.length : Int) % wide = 0 ∧ (∀ x ∈ ps, 0 ≤ x ∧ x ≤ 2) ∧ okW w ∧ Ms ps ≤ 10 := by
  unfold FT PU at h
  by_cases h1 : (¬ (1 ≤ wide ∧ wide ≤ 6) ∨ ¬ (1 ≤ (ps.length : Int) ∧ (ps.length : Int) ≤ 30)) ∨ (ps.length : Int) % wide ≠ 0
  · rw [if_pos h1] at h; simp at h
  rw [if_neg h1] at h
  by_cases h2 : ¬ ps.all VS = true
  · rw [if_pos h2] at h; simp at h
  rw [if_neg h2] at h
  by_cases h3 : 10 < (Ms ps : Int)
  · rw [if_pos h3] at h; simp at h
  rw [if_neg h3] at h
  by_cases h4 : ¬ okW w
  · rw [if_pos h4] at h; simp at h
  have aa := Decidable.of_not_not h2
  rw [List.all_eq_true] at aa
  refine ⟨by omega, by omega, by omega, fun x hx => ?_, Decidable.of_not_not h4, by omega⟩
  simpa [VS] using aa x hx
theorem Ug {x wide : Int} (hx : -1 ≤ x ∧ x ≤ 1) (hw : 1 ≤ wide ∧ wide ≤ 6) : -6 ≤ x * wide ∧ x * wide ≤ 6 := by
  have : x = -1 ∨ x = 0 ∨ x = 1 := by omega
  rcases this with rfl | rfl | rfl <;> omega
theorem P5 (w sd sr kind : Int) : 1 ≤ KM w sd sr kind ∧ KM w sd sr kind ≤ 5 := by
  unfold KM; split <;> split <;> (try split) <;> (try split) <;> omega
end Go.Hear
namespace Go.Hear
theorem Rk {xs : List Int} {i j : Nat} {v : Int} (hi : i < xs.length) : (xs.set i v).getD j 0 = if i = j then v else xs.getD j 0 := by
  simp only [List.getD_eq_getElem?_getD, List.getElem?_set]
  split
  · simp
  · rfl
theorem OB (f : Int → Nat) : ∀ (xs : List Int) (i : Nat) (v : Int), i < xs.length → ((xs.set i v).map f).sum + f (xs.getD i 0) = (xs.map f).sum + f v
  | [], i, v, h => by simp at h
  | x :: xs, 0, v, _ => by simp; omega
  | x :: xs, i + 1, v, h => by
    have := OB f xs i v (by simpa using h)
    simp only [List.set_cons_succ, List.map_cons, List.sum_cons, List.getD_cons_succ]; omega
def cost (n : Nat) (x : Int) : Nat := if x = -1 then 5 * n + 1 else x.toNat
def mu (n : Nat) (out : List Int) : Nat := (out.map (cost n)).sum
def told (out : List Int) : Nat := (out.map fun x => if x = -1 then 0 else 1).sum
theorem QC (out : List Int) : told out ≤ out.length := by
  induction out with
  | nil => simp [told]
  | cons x xs ih => simp only [told, List.map_cons, List.sum_cons, List.length_cons] at *; split <;> omega
inductive Pk (E : Int → List (Int × Int)) (s : Int) : Int → Int → Prop
  | here : Pk E s s 0
  | step {p d q m : Int} : Pk E s p d → (q, m) ∈ E p → Pk E s q (d + m)
def EV (out : List Int) (p : Int) : Int := out.getD p.toNat 0
def Jb (p : Int) (st : List Int × List Int) (x : Int × Int) : List Int × List Int :=
  if EV st.1 x.1 = -1 ∨ EV st.1 p + x.2 < EV st.1 x.1 then (st.1.set x.1.toNat (EV st.1 p + x.2), st.2 ++ [x.1]) else st
section
variable {n : Nat} {E : Int → List (Int × Int)} {s : Int}
def Tz (n : Nat) (E : Int → List (Int × Int)) : Prop := ∀ p q m, (q, m) ∈ E p → (0 ≤ q ∧ q < n) ∧ 1 ≤ m ∧ m ≤ 5
structure Wk (n : Nat) (E : Int → List (Int × Int)) (s : Int) (out : List Int) : Prop where
  len : out.length = n
  ge : ∀ q : Int, 0 ≤ q → q < n → EV out q = -1 ∨ (0 ≤ EV out q ∧ EV out q ≤ 5 * ((told out : Int) - 1) ∧ Pk E s q (EV out q))
  start : EV out s = 0
structure Ln (n : Nat) (out line : List Int) : Prop where
  TZ : ∀ p ∈ line, (0 ≤ p ∧ p < n) ∧ EV out p ≠ -1
def LN (out : List Int) (p : Int) (x : Int × Int) : Prop := EV out x.1 ≠ -1 ∧ EV out x.1 ≤ EV out p + x.2
def X5 (n : Nat) (E : Int → List (Int × Int)) (p : Int) (pre : List (Int × Int)) (out line : List Int) : Prop :=
  ∀ p' : Int, 0 ≤ p' → p' < n → EV out p' ≠ -1 → p' ∈ line ∨ (p' = p ∧ ∀ x ∈ pre, LN out p x) ∨ (p' ≠ p ∧ ∀ x ∈ E p', LN out p' x)
def R6 (n : Nat) (E : Int → List (Int × Int)) (out line : List Int) : Prop :=
  ∀ p' : Int, 0 ≤ p' → p' < n → EV out p' ≠ -1 → p' ∈ line ∨ ∀ x ∈ E p', LN out p' x
theorem Wk.le {out : List Int} (h : Wk n E s out) {q : Int} (h0 : 0 ≤ q) (hn : q < n) : EV out q ≤ 5 * n := by
  have h1 := QC out
  rw [h.len] at h1
  rcases h.ge q h0 hn with h2 | ⟨_, h2, _⟩ <;> omega
theorem UU {out : List Int} {i j v : Int} (hi : 0 ≤ i) (aa : i < out.length) (hj : 0 ≤ j) : EV (out.set i.toNat v) j = if i = j then v else EV out j := by
  unfold EV
  rw [Rk (by omega)]
  by_cases h : i = j
  · subst h; simp
  · rw [if_neg h, if_neg (by omega)]
theorem RZ {out : List Int} {i : Nat} {v : Int} (hi : i < out.length) (hv : v ≠ -1) : told (out.set i v) = told out + if out.getD i 0 = -1 then 1 else 0 := by
  have := OB (fun x => if x = -1 then 0 else 1) out i v hi
  simp only [if_neg hv] at this
  unfold told
  split <;> rename_i h <;> simp only [h, if_true, if_false] at this <;> omega
theorem RO (hE : Tz n E) {p : Int} (hp : 0 ≤ p ∧ p < n) {x : Int × Int} (hx : x ∈ E p) {out line : List Int} (hW : Wk n E s out) (hL : Ln n out line) (ai : EV out p ≠ -1) {pre : List (Int × Int)} (ah : ∀ y ∈ pre, y ∈ E p) (hM : X5 n E p pre out line) :
    let st := Jb p (out, line) x
    Wk n E s st.1 ∧ Ln n st.1 st.2 ∧ EV st.1 p ≠ -1 ∧ X5 n E p (pre ++ [x]) st.1 st.2 ∧ mu n st.1 + st.2.length ≤ mu n out + line.length := by
  obtain ⟨q, m⟩ := x
  obtain ⟨⟨ae, aj⟩, ba, bb⟩ := hE p q m hx
  have hlen := hW.len
  have aq := (hW.ge p hp.1 hp.2).resolve_left ai
  have bc := QC out
  simp only [Jb]
  by_cases hc : EV out q = -1 ∨ EV out p + m < EV out q
  · rw [if_pos hc]
    have hv : EV out p + m ≠ -1 := by omega
    have aa : ∀ j, 0 ≤ j → EV (out.set q.toNat (EV out p + m)) j = if q = j then EV out p + m else EV out j := fun j hj => UU ae (by omega) hj
    have ab := RZ (out := out) (i := q.toNat) (v := EV out p + m) (by omega) hv
    have ar := hW.ge q ae aj
    have bg : (told out : Int) ≤ told (out.set q.toNat (EV out p + m)) := by rw [ab]; split <;> omega
    have af : EV out s = 0 := hW.start
    refine ⟨⟨by simpa using hlen, fun j h0 hn => ?_, ?_⟩, ⟨fun j hj => ?_⟩, ?_, fun j h0 hn hj => ?_, ?_⟩
    · dsimp only
      rw [aa j h0]
      by_cases ad : q = j
      · subst ad
        rw [if_pos rfl]
        refine .inr ⟨by omega, ?_, .step aq.2.2 hx⟩
        rcases ar with h1 | h1
        · have : out.getD q.toNat 0 = -1 := h1
          rw [ab, if_pos this]; omega
        · omega
      · rw [if_neg ad]
        rcases hW.ge j h0 hn with h1 | ⟨h1, h2, h3⟩
        · exact .inl h1
        · exact .inr ⟨h1, by omega, h3⟩
    · show EV (out.set q.toNat (EV out p + m)) s = 0
      by_cases hs : 0 ≤ s
      · rw [aa s hs]
        by_cases ak : q = s
        · subst ak
          exfalso
          rcases hc with h1 | h1 <;> omega
        · rw [if_neg ak]; exact af
      · have e1 : s.toNat = 0 := by omega
        have au : EV out 0 = 0 := by unfold EV at af ⊢; rw [e1] at af; exact af
        have : EV (out.set q.toNat (EV out p + m)) s = EV (out.set q.toNat (EV out p + m)) 0 := by unfold EV; rw [e1]; rfl
        rw [this, aa 0 (by omega)]
        by_cases hq : q = 0
        · subst hq; exfalso; rcases hc with h1 | h1 <;> omega
        · rw [if_neg hq]; exact au
    · show (0 ≤ j ∧ j < n) ∧ EV (out.set q.toNat (EV out p + m)) j ≠ -1
      rcases List.mem_append.1 hj with hj | hj
      · obtain ⟨h1, h2⟩ := hL.TZ j hj
        refine ⟨h1, ?_⟩
        rw [aa j h1.1]; split <;> omega
      · simp at hj; subst hj
        refine ⟨⟨ae, aj⟩, ?_⟩
        rw [aa j ae, if_pos rfl]; exact hv
    · show EV (out.set q.toNat (EV out p + m)) p ≠ -1
      rw [aa p hp.1]; split <;> omega
    · dsimp only
      by_cases ad : q = j
      · exact .inl (List.mem_append_right _ (by simp [ad]))
      have av : EV out j ≠ -1 := by
        have := aa j h0; rw [if_neg ad] at this
        have aw : EV (out.set q.toNat (EV out p + m)) j ≠ -1 := hj
        rwa [this] at aw
      have ao : ∀ (p' : Int) (x : Int × Int), 0 ≤ p' → q ≠ p' → 0 ≤ x.1 → LN out p' x → LN (out.set q.toNat (EV out p + m)) p' x := fun p' x ax ay az ⟨h1, h2⟩ => by
        unfold LN
        rw [aa _ az, aa p' ax, if_neg ay]
        split
        · rename_i he; subst he; exact ⟨hv, by rcases hc with h3 | h3 <;> omega⟩
        · exact ⟨h1, h2⟩
      rcases hM j h0 hn av with h1 | ⟨rfl, h1⟩ | ⟨h1, h2⟩
      · exact .inl (List.mem_append_left _ h1)
      · refine .inr (.inl ⟨rfl, fun y hy => ?_⟩)
        rcases List.mem_append.1 hy with hy | hy
        · exact ao j y h0 ad (hE j y.1 y.2 (ah y hy)).1.1 (h1 y hy)
        · simp at hy; subst hy
          show EV (out.set q.toNat (EV out j + m)) q ≠ -1 ∧ _ ≤ EV (out.set q.toNat (EV out j + m)) j + m
          rw [aa q ae, if_pos rfl, aa j h0, if_neg ad]; exact ⟨hv, Int.le_refl _⟩
      · exact .inr (.inr ⟨h1, fun y hy => ao j y h0 ad (hE j y.1 y.2 hy).1.1 (h2 y hy)⟩)
    · show mu n (out.set q.toNat (EV out p + m)) + (line ++ [q]).length ≤ mu n out + line.length
      have h1 := OB (cost n) out q.toNat (EV out p + m) (by omega)
      have h2 : cost n (EV out p + m) < cost n (out.getD q.toNat 0) := by
        have h3 : out.getD q.toNat 0 = EV out q := rfl
        rw [h3]
        have h4 := hW.le hp.1 hp.2
        unfold cost
        rw [if_neg hv]
        split
        · have h5 : (told out : Int) ≤ n - 1 := by
            rename_i h6
            have := QC (out.set q.toNat (EV out p + m))
            rw [ab, if_pos (by exact h6)] at this
            simp at this; omega
          omega
        · rename_i h6; rcases hc with h7 | h7 <;> omega
      unfold mu
      simp only [List.length_append, List.length_singleton]; omega
  · rw [if_neg hc]
    refine ⟨hW, hL, ai, fun j h0 hn hj => ?_, Nat.le_refl _⟩
    rcases hM j h0 hn hj with h1 | ⟨rfl, h1⟩ | h1
    · exact .inl h1
    · refine .inr (.inl ⟨rfl, fun y hy => ?_⟩)
      rcases List.mem_append.1 hy with hy | hy
      · exact h1 y hy
      · simp at hy; subst hy
        exact ⟨fun h => hc (.inl h), by show EV out q ≤ EV out j + m; omega⟩
    · exact .inr (.inr h1)
structure Py (n : Nat) (E : Int → List (Int × Int)) (s p : Int) (out0 rest : List Int) (pre : List (Int × Int)) (out line : List Int) : Prop where
  eq : (out, line) = pre.foldl (Jb p) (out0, rest)
  wk : Wk n E s out
  ln : Ln n out line
  tp : EV out p ≠ -1
  Lm : X5 n E p pre out line
  bd : mu n out + line.length ≤ mu n out0 + rest.length
theorem Py.first {p : Int} {out rest : List Int} (hW : Wk n E s out) (hL : Ln n out (p :: rest)) (hD : R6 n E out (p :: rest)) : Py n E s p out rest [] out rest := by
  refine ⟨rfl, hW, ⟨fun q hq => hL.TZ q (List.mem_cons_of_mem _ hq)⟩, (hL.TZ p (List.mem_cons_self ..)).2, fun p' h0 hn aa => ?_, Nat.le_refl _⟩
  rcases hD p' h0 hn aa with h | h
  · rcases List.mem_cons.1 h with rfl | h
    · exact .inr (.inl ⟨rfl, fun x hx => by simp at hx⟩)
    · exact .inl h
  · by_cases he : p' = p
    · exact .inr (.inl ⟨he, fun x hx => by simp at hx⟩)
    · exact .inr (.inr ⟨he, h⟩)
theorem Py.next (hE : Tz n E) {p : Int} (hp : 0 ≤ p ∧ p < n) {out0 rest out line : List Int} {pre aa : List (Int × Int)} {x : Int × Int} (hs : E p = pre ++ x :: aa) (h : Py n E s p out0 rest pre out line) :
    Py n E s p out0 rest (pre ++ [x]) (Jb p (out, line) x).1 (Jb p (out, line) x).2 := by
  obtain ⟨h1, h2, h3, h4, h5⟩ := RO hE hp (x := x) (by rw [hs]; simp) h.wk h.ln h.tp (pre := pre) (fun y hy => by rw [hs]; exact List.mem_append_left _ hy) h.Lm
  refine ⟨?_, h1, h2, h3, h4, Nat.le_trans h5 h.bd⟩
  rw [List.foldl_append, ← h.eq]; rfl
theorem Py.last {p : Int} {out0 rest out line : List Int} (h : Py n E s p out0 rest (E p) out line) : Wk n E s out ∧ Ln n out line ∧ R6 n E out line ∧ mu n out + line.length < mu n out0 + (p :: rest).length := by
  refine ⟨h.wk, h.ln, fun p' h0 hn aa => ?_, Nat.lt_of_le_of_lt h.bd (by simp)⟩
  rcases h.Lm p' h0 hn aa with h1 | ⟨rfl, h1⟩ | ⟨_, h1⟩
  · exact .inl h1
  · exact .inr h1
  · exact .inr h1
theorem Py.go (hE : Tz n E) {p : Int} (hp : 0 ≤ p ∧ p < n) {out0 rest : List Int} : ∀ (aa pre : List (Int × Int)) (out line : List Int), E p = pre ++ aa → Py n E s p out0 rest pre out line →
    Py n E s p out0 rest (pre ++ aa) (aa.foldl (Jb p) (out, line)).1 (aa.foldl (Jb p) (out, line)).2
  | [], pre, out, line, _, h => by simpa using h
  | x :: aa, pre, out, line, hs, h => by
    have := Py.go hE hp aa (pre ++ [x]) _ _ (by simpa using hs) (h.next hE hp hs)
    simpa using this
theorem Py.all (hE : Tz n E) {p : Int} (hp : 0 ≤ p ∧ p < n) {out rest : List Int} (hW : Wk n E s out) (hL : Ln n out (p :: rest)) (hD : R6 n E out (p :: rest)) :
    Py n E s p out rest (E p) ((E p).foldl (Jb p) (out, rest)).1 ((E p).foldl (Jb p) (out, rest)).2 := by
  simpa using Py.go hE hp (E p) [] _ _ (by simp) (Py.first hW hL hD)
structure RK (n : Nat) (E : Int → List (Int × Int)) (s : Int) (out : List Int) : Prop where
  len : out.length = n
  start : EV out s = 0
  sound : ∀ q : Int, 0 ≤ q → q < n → EV out q = -1 ∨ (0 ≤ EV out q ∧ EV out q ≤ 5 * n ∧ Pk E s q (EV out q))
  closed : ∀ p : Int, 0 ≤ p → p < n → EV out p ≠ -1 → ∀ x ∈ E p, LN out p x
theorem RK.of {out : List Int} (hW : Wk n E s out) (hD : R6 n E out []) : RK n E s out :=
  ⟨hW.len, hW.start, fun q h0 hn => (hW.ge q h0 hn).imp id fun h => ⟨h.1, hW.le h0 hn, h.2.2⟩, fun p h0 hn hp => (hD p h0 hn hp).resolve_left (by simp)⟩
theorem Pk.TZ (hE : Tz n E) (hs : 0 ≤ s ∧ s < n) {q d : Int} (h : Pk E s q d) : (0 ≤ q ∧ q < n) ∧ 0 ≤ d := by
  induction h with
  | here => exact ⟨hs, Int.le_refl _⟩
  | step _ h2 ih => have := hE _ _ _ h2; exact ⟨this.1, by omega⟩
theorem RK.below (hE : Tz n E) (hs : 0 ≤ s ∧ s < n) {out : List Int} (hT : RK n E s out) {q d : Int} (h : Pk E s q d) : EV out q ≠ -1 ∧ EV out q ≤ d := by
  induction h with
  | here => rw [hT.start]; omega
  | step h1 h2 ih =>
    rename_i p d q m
    have hr := h1.TZ hE hs
    obtain ⟨h3, h4⟩ := hT.closed _ hr.1.1 hr.1.2 ih.1 _ h2
    exact ⟨h3, by have : EV out q ≤ EV out p + m := h4; omega⟩
theorem RK.unique (hE : Tz n E) (hs : 0 ≤ s ∧ s < n) {out aa : List Int} (h : RK n E s out) (h' : RK n E s aa) : out = aa := by
  apply List.ext_getElem (h.len.trans h'.len.symm)
  intro i h1 h2
  have hi : (i : Int) < n := by rw [← h.len]; omega
  have e1 : EV out i = out[i] := by simp [EV, List.getD_eq_getElem?_getD, h1]
  have e2 : EV aa i = aa[i] := by simp [EV, List.getD_eq_getElem?_getD, h2]
  rw [← e1, ← e2]
  rcases h.sound i (by omega) hi with a | ⟨_, _, a⟩ <;> rcases h'.sound i (by omega) hi with b | ⟨_, _, b⟩
  · rw [a, b]
  · exact absurd a (h.below hE hs b).1
  · exact absurd b (h'.below hE hs a).1
  · exact Int.le_antisymm (h.below hE hs b).2 (h'.below hE hs a).2
def X7 (E : Int → List (Int × Int)) : Nat → List Int → List Int → List Int
  | 0, out, _ => out
  | _ + 1, out, [] => out
  | f + 1, out, p :: rest => X7 E f ((E p).foldl (Jb p) (out, rest)).1 ((E p).foldl (Jb p) (out, rest)).2
def start (n : Nat) (s : Int) : List Int := (List.replicate n (-1)).set s.toNat 0
def table (n : Nat) (E : Int → List (Int × Int)) (s : Int) : List Int := X7 E (mu n (start n s) + 2) (start n s) [s]
theorem UE (hE : Tz n E) : ∀ (f : Nat) (out line : List Int), Wk n E s out → Ln n out line → R6 n E out line → mu n out + line.length < f → RK n E s (X7 E f out line)
  | 0, _, _, _, _, _, h => by omega
  | f + 1, out, [], hW, _, hD, _ => RK.of hW hD
  | f + 1, out, p :: rest, hW, hL, hD, h => by
    have hp := (hL.TZ p (List.mem_cons_self ..)).1
    obtain ⟨h1, h2, h3, h4⟩ := (Py.all hE hp hW hL hD).last
    exact UE hE f _ _ h1 h2 h3 (by omega)
theorem OS (hs : 0 ≤ s ∧ s < n) {j : Int} (hj : 0 ≤ j ∧ j < n) : EV (start n s) j = if s = j then 0 else -1 := by
  unfold start
  rw [UU hs.1 (by simpa using hs.2) hj.1]
  split
  · rfl
  · unfold EV; simp [List.getD_eq_getElem?_getD, show j.toNat < n by omega]
theorem OP (hs : 0 ≤ s ∧ s < n) : Wk n E s (start n s) ∧ Ln n (start n s) [s] ∧ R6 n E (start n s) [s] := by
  have ab := OS hs hs
  rw [if_pos rfl] at ab
  have aa : told (start n s) = 1 := by
    unfold start
    rw [RZ (by simp; omega) (by decide)]
    have h0 : told (List.replicate n (-1)) = 0 := by
      clear hs ab
      induction n with
      | zero => rfl
      | succ n ih => simp [told, List.replicate_succ] at *
    rw [h0]
    simp [List.getD_eq_getElem?_getD, show s.toNat < n by omega]
  refine ⟨⟨by simp [start], fun q h0 hn => ?_, ab⟩, ⟨fun p hp => ?_⟩, fun p h0 hn hp => ?_⟩
  · rw [OS hs ⟨h0, hn⟩]
    split
    · rename_i h; subst h; exact .inr ⟨Int.le_refl _, by rw [aa]; decide, .here⟩
    · exact .inl rfl
  · simp at hp; subst hp; exact ⟨hs, by rw [ab]; decide⟩
  · rw [OS hs ⟨h0, hn⟩] at hp
    split at hp
    · rename_i h; exact .inl (by simp [h])
    · exact absurd rfl hp
theorem Ve (hE : Tz n E) (hs : 0 ≤ s ∧ s < n) : RK n E s (table n E s) := by
  obtain ⟨h1, h2, h3⟩ := OP (E := E) hs
  exact UE hE _ _ _ h1 h2 h3 (by simp)
end
theorem JM {wide : Int} {ps : List Int} {w : Int} (_ : FT wide ps w = 0) : Tz ps.length (Hf wide ps w) := by
  intro p q m h
  unfold Hf at h
  obtain ⟨s, hs, hn⟩ := List.mem_filterMap.1 h
  unfold Hi at hn
  split at hn
  · cases hn
  · rename_i hc
    simp only [Option.some.injEq, Prod.mk.injEq] at hn
    obtain ⟨rfl, rfl⟩ := hn
    have := P5 w s.1 s.2 (ps.getD (p + s.1 * wide + s.2).toNat 0)
    refine ⟨⟨?_, ?_⟩, this.1, this.2⟩
    · have h1 : ¬ ¬ (0 ≤ p + s.1 * wide + s.2 ∧ p + s.1 * wide + s.2 ≤ (ps.length : Int) - 1) := fun h2 => hc (.inl (.inl h2))
      omega
    · have h1 : ¬ ¬ (0 ≤ p + s.1 * wide + s.2 ∧ p + s.1 * wide + s.2 ≤ (ps.length : Int) - 1) := fun h2 => hc (.inl (.inl h2))
      omega
def IK (n k : Nat) : List Int := List.replicate k (-1) ++ List.replicate (n - k) 0
theorem Pj (n : Nat) : IK n 0 = List.replicate n 0 := by simp [IK]
theorem Qf {n k : Nat} (h : k < n) : (IK n k).set k (-1) = IK n (k + 1) := by
  unfold IK
  rw [List.set_append_right _ _ (by simp), List.length_replicate, Nat.sub_self, show n - k = (n - (k + 1)) + 1 by omega, List.replicate_succ, List.set_cons_zero, List.replicate_succ']
  simp
theorem Po {n : Nat} (s : Int) : (IK n n).set s.toNat 0 = start n s := by simp [IK, start]
theorem RF {n : Nat} (hn : n ≤ 30) {s : Int} (hs : 0 ≤ s ∧ s < n) : mu n (start n s) + 1 ≤ 5000 := by
  have h1 := OB (cost n) (List.replicate n (-1)) s.toNat 0 (by simp; omega)
  have h2 : ((List.replicate n (-1)).map (cost n)).sum = n * (5 * n + 1) := by simp [cost]
  have h3 : cost n 0 = 0 := rfl
  rw [h2, h3] at h1
  unfold mu start
  have h4 : n * (5 * n + 1) ≤ 30 * (5 * 30 + 1) := Nat.mul_le_mul hn (by omega)
  omega
theorem Py.Yt {n : Nat} {E : Int → List (Int × Int)} {s p : Int} {out0 rest : List Int} {pre : List (Int × Int)} {out line : List Int} (h : Py n E s p out0 rest pre out line) (hp : 0 ≤ p ∧ p < n) : 0 ≤ out.getD p.toNat 0 ∧ out.getD p.toNat 0 ≤ 5 * n := by
  have h1 := h.wk.le hp.1 hp.2
  rcases h.wk.ge p hp.1 hp.2 with h2 | h2
  · exact absurd h2 h.tp
  · exact ⟨h2.1, h1⟩
theorem Wk.Wq {n : Nat} {E : Int → List (Int × Int)} {s : Int} {out : List Int} (h : Wk n E s out) {q : Int} (h0 : 0 ≤ q) (hn : q < n) : -1 ≤ out.getD q.toNat 0 ∧ out.getD q.toNat 0 ≤ 5 * n := by
  have h1 := h.le h0 hn
  rcases h.ge q h0 hn with h2 | h2
  · exact ⟨Int.le_of_eq h2.symm, h1⟩
  · exact ⟨by have : 0 ≤ out.getD q.toNat 0 := h2.1; omega, h1⟩
end Go.Hear
namespace Go.Hear
end Go.Hear
namespace Go.Hear
def Xp (E : Int → List (Int × Int)) (tb : List Int) (q p : Int) : Prop := ∃ m, (p, m) ∈ E q ∧ tb.getD q.toNat 0 ≠ -1 ∧ tb.getD q.toNat 0 + m = tb.getD p.toNat 0
inductive M4 (E : Int → List (Int × Int)) (tb : List Int) (Cw : Int) : List Int → Int → Prop
  | one : M4 E tb Cw [Cw] Cw
  | snoc {l : List Int} {p q : Int} : M4 E tb Cw l p → Xp E tb q p → M4 E tb Cw (l ++ [q]) q
theorem M4.mem {E : Int → List (Int × Int)} {tb : List Int} {Cw : Int} {l : List Int} {p : Int} (h : M4 E tb Cw l p) : l.getLast? = some p ∧ l.head? = some Cw := by
  induction h with
  | one => exact ⟨rfl, rfl⟩
  | snoc h1 _ ih =>
    refine ⟨by simp, ?_⟩
    rw [List.head?_append, ih.2]; rfl
theorem M4.ne {E : Int → List (Int × Int)} {tb : List Int} {Cw : Int} {l : List Int} {p : Int} (h : M4 E tb Cw l p) : l ≠ [] := by
  intro he; have := h.mem.1; rw [he] at this; cases this
theorem M4.len {n : Nat} {E : Int → List (Int × Int)} (hE : Tz n E) {tb : List Int} {Cw : Int} {l : List Int} {p : Int} (h : M4 E tb Cw l p) : (l.length : Int) + tb.getD p.toNat 0 ≤ tb.getD Cw.toNat 0 + 1 := by
  induction h with
  | one => simp; omega
  | snoc h1 h2 ih =>
    obtain ⟨m, h3, h4, h5⟩ := h2
    have := (hE _ _ _ h3).2.1
    rw [List.length_append]; simp only [List.length_singleton]; omega
theorem RK.TZ {n : Nat} {E : Int → List (Int × Int)} {s : Int} {out : List Int} (h : RK n E s out) {q : Int} (h0 : 0 ≤ q ∧ q < n) : -1 ≤ out.getD q.toNat 0 ∧ out.getD q.toNat 0 ≤ 5 * n := by
  rcases h.sound q h0.1 h0.2 with h1 | ⟨h1, h2, _⟩
  · have : out.getD q.toNat 0 = -1 := h1
    omega
  · have h3 : 0 ≤ out.getD q.toNat 0 := h1
    exact ⟨by omega, h2⟩
end Go.Hear
namespace Go.Proofs.YtkfbbjiniapooaaGreat
open Go.PL Go.Hear
theorem Nx {α β : Type} {a : α} {f : α → Option β} : bv a f = f a := rfl
theorem nd {p : Prop} [Decidable p] (h : ¬ p) : (!decide p) = true := by simp [h]
theorem YC {p : Prop} [Decidable p] (h : p) : ¬ (!decide p) = true := by simp [h]
theorem PO (n lo hi : Int) : GM n lo hi = some (decide (lo ≤ n ∧ n ≤ hi)) := by
  unfold GM
  by_cases h : lo ≤ n <;> simp [h]
theorem AT {x : Int} (h : -1000000000 ≤ x ∧ x ≤ 1000000000) : Cm x := by unfold Cm; omega
theorem SK {wide : Int} {ps : List Int} (hn : ps.length ≤ 1000) (p : Int) : Fk wide ps p = some (decide (0 ≤ p ∧ p ≤ (ps.length : Int) - 1)) := by
  unfold Fk
  rw [BF (AT (by omega)), PO]; rfl
theorem Oz {α : Type} {xs : List α} {i : Nat} {d : α} (h : i < xs.length) : xs[i]? = some (xs.getD i d) := by
  rw [List.getD_eq_getElem?_getD, List.getElem?_eq_getElem h]; rfl
theorem FH {β : Type} {xs : List Int} {i : Int} (f : Int → Option β) (h0 : 0 ≤ i) (h1 : i < (xs.length : Int)) : ix xs i f = f (xs.getD i.toNat 0) := Na h0 (Oz (by omega))
theorem W6 {wide : Int} {ps : List Int} (hn : ps.length ≤ 1000) (p kind : Int) : D9 wide ps p kind = some (PZ ps p kind) := by
  unfold D9 PZ
  rw [SK hn, Ax]
  by_cases h : 0 ≤ p ∧ p ≤ (ps.length : Int) - 1
  · rw [if_neg (YC h), if_neg (not_not_intro h), FH _ (by omega) (by omega)]
    split <;> rfl
  · rw [if_pos (nd h), if_pos h]
theorem Nd {f : Int → Option Bool} {g : Int → Bool} : ∀ (l : List Int) (k : Int), 0 ≤ k → (∀ x ∈ l, f x = some (g x)) → ∃ n, Bn f l k = some n ∧ (0 ≤ n ↔ l.any g = true)
  | [], k, _, _ => ⟨-1, rfl, by simp⟩
  | x :: l, k, hk, h => by
    unfold Bn
    rw [h x (by simp), Ax]
    by_cases hx : g x = true
    · exact ⟨k, by rw [if_pos hx], by simp [hx, hk]⟩
    · obtain ⟨n, h1, h2⟩ := Nd l (k + 1) (by omega) (fun y hy => h y (by simp [hy]))
      exact ⟨n, by rw [if_neg hx]; exact h1, by rw [h2]; simp [hx]⟩
theorem UK {f : Int → Option Bool} {g : Int → Bool} {l : List Int} (h : ∀ x ∈ l, f x = some (g x)) : G2 l f = some (l.all g) := by
  unfold G2 Cd Cy
  obtain ⟨n, h1, h2⟩ := Nd (f := fun x => EI x f) (g := fun x => !g x) l 0 (Int.le_refl _) (fun x hx => by
    unfold EI; rw [h x hx]; rfl)
  rw [h1]
  simp only [Ax]
  congr 1
  cases ha : l.all g with
  | true =>
    have : ¬ 0 ≤ n := by rw [h2]; simpa using ha
    simp [this]
  | false =>
    have : 0 ≤ n := by rw [h2]; simpa using ha
    simp [this]
theorem K4 : ∀ (l : List Int) (n : Int), 0 ≤ n → n + l.length ≤ 1000000 → Cz l n = some (n + (Ms l : Int))
  | [], n, _, _ => by simp [Cz, Ms]
  | x :: l, n, h0, h => by
    unfold Cz
    simp only [List.length_cons] at h
    by_cases hx : x = 1
    · rw [if_pos hx, BF (AT (by omega)), K4 l (n + 1) (by omega) (by omega)]
      simp [Ms, hx]; omega
    · rw [if_neg hx, K4 l n h0 (by omega)]
      simp [Ms, hx]
theorem TJ {wide : Int} {ps : List Int} (hn : ps.length ≤ 1000) : Gt wide ps = some (Ms ps : Int) := by
  unfold Gt
  rw [K4 ps 0 (by omega) (by omega)]; simp
theorem RD {wide : Int} {ps : List Int} (hn : ps.length ≤ 1000) : Ep wide ps = some (PU wide ps) := by
  unfold Ep PU
  simp only [PO, Ax]
  by_cases h1 : 1 ≤ wide ∧ wide ≤ 6
  · by_cases h2 : 1 ≤ (ps.length : Int) ∧ (ps.length : Int) ≤ 30
    · have hw : wide ≠ 0 := by omega
      have hm : Int.tmod (ps.length : Int) wide = (ps.length : Int) % wide := Int.tmod_eq_emod_of_nonneg (by omega)
      rw [if_neg (by simp [h1]), if_neg (by simp [h2]), BF hw, Ax, hm]
      by_cases h3 : (ps.length : Int) % wide = 0
      · rw [if_neg (by simp [h3]), if_neg (by simp [h1, h2, h3])]
        rw [UK (g := VS) (fun x _ => by unfold IC; rw [PO]; rfl), Ax]
        by_cases h4 : ps.all VS = true
        · rw [if_neg (by simp [h4]), if_neg (by simp [h4]), TJ hn, Ax]
          split <;> rfl
        · rw [if_pos (by simp [h4]), if_pos h4]
      · rw [if_pos (by simp [h3]), if_pos (by simp [h3])]
    · rw [if_neg (YC h1), if_pos (nd h2), Ax, if_pos rfl, if_pos (.inl (.inr h2))]
  · rw [if_pos (nd h1), Ax, if_pos rfl, if_pos (.inl (.inl h1))]
theorem Rt (w : Int) : Gm w = some (decide (okW w)) := by unfold Gm; rw [PO]; rfl
theorem NY (w v : Int) : Fa w v = some (PJ w v) := by
  unfold Fa PJ
  rw [Rt, Ax, PO, Ax]
  by_cases h1 : okW w
  · rw [if_neg (by simp [h1]), Ax]
    by_cases h2 : 1 ≤ v ∧ v ≤ 40
    · rw [if_neg (by simp [h2]), if_neg (by simp [h1, h2])]
    · rw [if_pos (nd h2), if_pos (.inr h2)]
  · rw [if_pos (by simp [h1]), Ax, if_pos rfl, if_pos (.inl h1)]
def XX (wide : Int) (ps : List Int) (w : Int) : Int × List Int × Int × Int × Bool := (wide, ps, Ju w, Jv w, LK w)
theorem TC {wide : Int} {ps : List Int} (hn : ps.length ≤ 1000) (w : Int) : GD wide ps w = some (if FT wide ps w = 0 then some (XX wide ps w) else none, FT wide ps w) := by
  unfold GD FT
  rw [RD hn, Ax]
  by_cases h1 : PU wide ps = 0
  · rw [if_neg (by simp [h1]), Rt, Ax]
    by_cases h2 : okW w
    · rw [if_neg (by simp [h2])]
      rcases TR h2 with rfl | rfl | rfl | rfl | rfl <;> simp [h1, h2, XX] <;> rfl
    · rw [if_pos (by simp [h2])]; simp [h1, h2]
  · rw [if_pos h1]; simp [h1]
theorem Vp {wide : Int} {ps : List Int} {p : Int} (h0 : 0 ≤ p) (h1 : p < ps.length) : EA wide ps p = some (decide (ps.getD p.toNat 0 = 2)) := by
  unfold EA; rw [FH _ h0 h1]
theorem Uw {wide : Int} {ps : List Int} {w : Int} (_hw : okW w) (sd sr : Int) {q : Int} (h0 : 0 ≤ q) (h1 : q < ps.length) : FI wide ps (Ju w) (Jv w) (LK w) sd sr q = some (KM w sd sr (ps.getD q.toNat 0)) := by
  unfold FI Iw KM
  have e1 : -1 ≤ Ju w ∧ Ju w ≤ 1 := by unfold Ju; split <;> (try split) <;> omega
  have e2 : -1 ≤ Jv w ∧ Jv w ≤ 1 := by unfold Jv; split <;> (try split) <;> omega
  rw [BF (AT (by omega)), BF (AT (by omega))]
  simp only [Dt, FH _ h0 h1]
  generalize ps.getD q.toNat 0 = k
  have fin : ∀ n : Int, 0 ≤ n ∧ n ≤ 4 → (if k = 1 then gd (Cm (n + 1)) (some (n + 1)) else some n) = some (n + if k = 1 then 1 else 0) := fun n hn => by
    split
    · rw [BF (AT (by omega))]
    · simp
  by_cases hb : LK w = true
  · by_cases hs : sd = Ju w ∧ sr = Jv w
    · rw [if_neg (by simp [hb]), if_pos hs, Ax, fin 1 (by omega), if_neg (not_not_intro hb), if_pos hs]
    · by_cases ht : sd = -Ju w ∧ sr = -Jv w
      · rw [if_neg (by simp [hb]), if_neg hs, if_pos ht, Ax, fin 4 (by omega), if_neg (not_not_intro hb), if_neg hs, if_pos ht]
      · rw [if_neg (by simp [hb]), if_neg hs, if_neg ht, Ax, fin 2 (by omega), if_neg (not_not_intro hb), if_neg hs, if_neg ht]
  · rw [if_pos (by simp [hb]), Ax, fin 2 (by omega), if_pos hb]
theorem Vq {α : Type} {x : α} {l : List α} : yl x (some l) = some (x :: l) := rfl
theorem OM {wide : Int} {ps : List Int} {w : Int} (ho : FT wide ps w = 0) {p : Int} (h0 : 0 ≤ p) (h1 : p < ps.length) {closed : Int → Option Bool} (hc : ∀ q : Int, 0 ≤ q → q < ps.length → closed q = some (decide (ps.getD q.toNat 0 = 2))) :
    ∀ (n : Nat) (k : Int), 0 ≤ k → k + n = 4 → BM p wide ps (Ju w) (Jv w) (LK w) closed n k = some ((Jn.drop k.toNat).filterMap (Hi wide ps w p))
  | 0, k, _, hk => by
    have : k = 4 := by omega
    subst this; rfl
  | n + 1, k, ae, hk => by
    obtain ⟨o1, o2, _, o4, o5, _⟩ := Fs ho
    have ih := OM ho h0 h1 hc n (k + 1) (by omega) (by omega)
    unfold BM
    obtain ⟨s, hs, hd, af, aj⟩ : ∃ s : Int × Int, ([(-1, 0), (0, -1), (0, 1), (1, 0)] : List (Int × Int))[k.toNat]? = some s ∧ Jn.drop k.toNat = s :: Jn.drop (k + 1).toNat ∧ (-1 ≤ s.1 ∧ s.1 ≤ 1) ∧ (-1 ≤ s.2 ∧ s.2 ≤ 1) := by
      have : k = 0 ∨ k = 1 ∨ k = 2 ∨ k = 3 := by omega
      rcases this with rfl | rfl | rfl | rfl <;> exact ⟨_, rfl, rfl, by decide, by decide⟩
    have hmul := Ug af o1
    rw [Na ae hs, BF (AT (by omega)), BF (AT (by omega)), BF (AT (by omega)), SK (by omega), Ax, ih, hd, List.filterMap_cons]
    generalize hq : p + s.1 * wide + s.2 = q
    by_cases aa : 0 ≤ q ∧ q ≤ (ps.length : Int) - 1
    · rw [if_neg (by simp [aa])]
      have ab : 0 ≤ q := aa.1
      have ad : q < ps.length := by omega
      rw [hc q ab ad, Uw o5 _ _ ab ad]
      simp only [Ax, Vq]
      have ah : Int.tdiv q wide = q / wide := Int.tdiv_eq_ediv_of_nonneg ab
      have ai : Int.tdiv p wide = p / wide := Int.tdiv_eq_ediv_of_nonneg h0
      have ak : 0 ≤ q / wide ∧ q / wide ≤ 1000 := ⟨Int.ediv_nonneg ab (by omega), Int.le_trans (Int.ediv_le_self _ ab) (by omega)⟩
      have ao : 0 ≤ p / wide ∧ p / wide ≤ 1000 := ⟨Int.ediv_nonneg h0 (by omega), Int.le_trans (Int.ediv_le_self _ h0) (by omega)⟩
      by_cases hz : s.1 = 0
      · rw [if_pos hz, BF ⟨by omega, AT (by omega)⟩, BF ⟨by omega, AT (by omega)⟩, ah, ai]
        by_cases he : q / wide = p / wide
        · rw [if_neg (by simp [he])]
          by_cases hw : ps.getD q.toNat 0 = 2
          · rw [if_pos (decide_eq_true hw)]
            have : Hi wide ps w p s = none := by unfold Hi; rw [hq, if_pos (.inr hw)]
            rw [this]
          · rw [if_neg (fun h => hw (of_decide_eq_true h))]
            have : Hi wide ps w p s = some (q, KM w s.1 s.2 (ps.getD q.toNat 0)) := by unfold Hi; rw [hq, if_neg (fun h => h.elim (fun h => h.elim (fun h => h aa) (fun h => h.2 he)) hw)]
            rw [this]
        · rw [if_pos (by simpa using he)]
          have : Hi wide ps w p s = none := by unfold Hi; rw [hq, if_pos (.inl (.inr ⟨hz, he⟩))]
          rw [this]
      · rw [if_neg hz]
        by_cases hw : ps.getD q.toNat 0 = 2
        · rw [if_pos (decide_eq_true hw)]
          have : Hi wide ps w p s = none := by unfold Hi; rw [hq, if_pos (.inr hw)]
          rw [this]
        · rw [if_neg (fun h => hw (of_decide_eq_true h))]
          have : Hi wide ps w p s = some (q, KM w s.1 s.2 (ps.getD q.toNat 0)) := by unfold Hi; rw [hq, if_neg (fun h => h.elim (fun h => h.elim (fun h => h aa) (fun h => hz h.1)) hw)]
          rw [this]
    · rw [if_pos (nd aa)]
      have : Hi wide ps w p s = none := by unfold Hi; rw [hq, if_pos (.inl (.inl aa))]
      rw [this]
theorem VB {wide : Int} {ps : List Int} {w : Int} (ho : FT wide ps w = 0) {p : Int} (h0 : 0 ≤ p) (h1 : p < ps.length) : Ew wide ps (Ju w) (Jv w) (LK w) p = some (Hf wide ps w p) := by
  unfold Ew Hy
  rw [BF ⟨AT (by omega), AT (by omega)⟩, OM ho h0 h1 (closed := fun x => EA wide ps x) (fun q aa ab => Vp aa ab) (Int.toNat (4 - 0)) 0 (by omega) (by decide)]
  rfl
end Go.Proofs.YtkfbbjiniapooaaGreat
namespace Go.Proofs.YtkfbbjiniapooaaGreat
open Go.PL Go.Hear
theorem OG : ∀ (m : Nat) (k n : Nat), k + m = n → Dv m (k : Int) (IK n k) = some (IK n n)
  | 0, k, n, h => by
    have : k = n := by omega
    subst this; rfl
  | m + 1, k, n, h => by
    unfold Dv
    have hl : (IK n k).length = n := by simp [IK]; omega
    rw [FH _ (by omega) (by rw [hl]; omega)]
    unfold bv
    rw [show (k : Int).toNat = k from rfl, Qf (by omega)]
    exact OG m (k + 1) n (by omega)
section
variable {n : Nat} {E : Int → List (Int × Int)} {s : Int}
theorem O7 (hn : n ≤ 30) (hE : Tz n E) {p : Int} (hp : 0 ≤ p ∧ p < n) {out0 rest : List Int} (hb : mu n out0 + rest.length ≤ 10000) (aa : List Int → List Int → Option (List Int)) : ∀ (ab pre : List (Int × Int)) (out line : List Int), E p = pre ++ ab → Py n E s p out0 rest pre out line →
    Cl p aa ab out line = aa (ab.foldl (Jb p) (out, line)).1 (ab.foldl (Jb p) (out, line)).2
  | [], pre, out, line, _, _ => rfl
  | x :: ab, pre, out, line, hs, h => by
    have hx := hE p x.1 x.2 (by rw [hs]; simp)
    have hl := h.wk.len
    have r1 := h.Yt hp
    have r2 := h.wk.Wq hx.1.1 hx.1.2
    have af := h.bd
    have ad : (b1 (ix out x.1 fun x5 =>
        if x5 = (-1) then
        (some true)
        else
        (ix out p fun x6 =>
        gd (Cm (x6 + x.2)) <|
        some (decide ((x6 + x.2) < x5)))) fun k2 =>
        if k2 = true then
        (ix out p fun x7 =>
        gd (Cm (x7 + x.2)) <|
        ix out x.1 fun x8 =>
        bv (out.set (x.1 : Int).toNat (x7 + x.2)) fun l2 =>
        ap line [x.1] fun ae =>
        Cl p aa ab l2 ae)
        else
        (Cl p aa ab out line)) = Cl p aa ab (Jb p (out, line) x).1 (Jb p (out, line) x).2 := by
      rw [FH _ hx.1.1 (by rw [hl]; exact hx.1.2), FH _ hp.1 (by rw [hl]; exact hp.2), FH _ hp.1 (by rw [hl]; exact hp.2), FH _ hx.1.1 (by rw [hl]; exact hx.1.2)]
      rw [BF (AT (by omega)), BF (AT (by omega))]
      simp only [bv]
      rw [Lp (xs := line) (ys := [x.1]) (by simp; omega)]
      unfold Jb EV
      by_cases c1 : out.getD x.1.toNat 0 = -1
      · rw [if_pos c1, Ax, if_pos rfl, if_pos (.inl c1)]
      · rw [if_neg c1, Ax]
        by_cases c2 : out.getD p.toNat 0 + x.2 < out.getD x.1.toNat 0
        · rw [if_pos (decide_eq_true c2), if_pos (.inr c2)]
        · rw [if_neg (fun h => c2 (of_decide_eq_true h)), if_neg (fun h => h.elim c1 c2)]
    unfold Cl
    rw [ad, List.foldl_cons]
    exact O7 hn hE hp hb aa ab (pre ++ [x]) _ _ (by simpa using hs) (h.next hE hp hs)
theorem OX {wide : Int} {ps : List Int} {w : Int} (ho : FT wide ps w = 0) {s : Int} : ∀ (fu : Nat) (out line : List Int), Wk ps.length (Hf wide ps w) s out → Ln ps.length out line → R6 ps.length (Hf wide ps w) out line → mu ps.length out + line.length < fu → mu ps.length out + line.length ≤ 10000 →
    ∃ t, Ds wide ps (Ju w) (Jv w) (LK w) fu out line = some t ∧ RK ps.length (Hf wide ps w) s t
  | 0, _, _, _, _, _, h, _ => by omega
  | fu + 1, out, line, hW, hL, hD, h, hm => by
    have hE := JM ho
    have hn := (Fs ho).2.1
    unfold Ds
    cases line with
    | nil => exact ⟨out, by simp, RK.of hW hD⟩
    | cons p rest =>
      have hp := (hL.TZ p (List.mem_cons_self ..)).1
      simp only [List.length_cons] at h hm
      rw [if_pos (by simp only [List.length_cons]; omega), Na (Int.le_refl 0) (show (p :: rest)[(0 : Int).toNat]? = some p from rfl), BF (by simp only [List.length_cons]; omega)]
      unfold bv
      have aa : sl (p :: rest) 1 ((p :: rest).length : Int) = rest := by simp [sl]
      rw [aa]; simp only [VB ho hp.1 (show p < (ps.length : Int) by simpa using hp.2), Ax]
      obtain ⟨h1, h2, h3, h4⟩ := (Py.all hE hp hW hL hD).last
      rw [O7 hn.2 hE hp (out0 := out) (rest := rest) (by omega) _ _ [] out rest (by simp) (Py.first hW hL hD)]
      simp only [List.length_cons] at h4
      exact OX ho fu _ _ h1 h2 h3 (by omega) (by omega)
end
def tb (wide : Int) (ps : List Int) (w stand : Int) : List Int := table ps.length (Hf wide ps w) stand
theorem SC {wide : Int} {ps : List Int} {w : Int} (ho : FT wide ps w = 0) {stand : Int} (hs : 0 ≤ stand ∧ stand < ps.length) : RK ps.length (Hf wide ps w) stand (tb wide ps w stand) := Ve (JM ho) hs
theorem VP {wide : Int} {ps : List Int} {w : Int} (ho : FT wide ps w = 0) {stand : Int} (hs : 0 ≤ stand ∧ stand < ps.length) : Fi wide ps (Ju w) (Jv w) (LK w) stand = some (tb wide ps w stand) := by
  have hn := (Fs ho).2.1
  unfold Fi
  rw [BF (by omega)]
  simp only [bv, Int.toNat_natCast]
  have h0 : Dv ps.length 0 (List.replicate ps.length 0) = some (IK ps.length ps.length) := by
    have := OG ps.length 0 ps.length (by omega)
    rw [Pj] at this; exact this
  rw [BF ⟨AT (by omega), AT (by simp; omega)⟩, List.length_replicate, show (((ps.length : Int) - 0).toNat) = ps.length by omega]
  rw [h0, Ax]
  rw [FH _ hs.1 (by simp [IK]; omega), Po]
  obtain ⟨h1, h2, h3⟩ := OP (E := Hf wide ps w) hs
  have h4 := RF hn.2 hs
  obtain ⟨t, ht, hT⟩ := OX ho FU _ _ h1 h2 h3 (by simp only [List.length_singleton]; unfold FU; omega) (by simp only [List.length_singleton]; omega)
  rw [ht, Ax, hT.unique (JM ho) hs (SC ho hs)]
theorem Th {wide : Int} {ps : List Int} {w stand : Int} (h : La wide ps w stand = 0) : FT wide ps w = 0 ∧ (0 ≤ stand ∧ stand < ps.length) ∧ ps.getD stand.toNat 0 = 0 := by
  unfold La at h
  by_cases ho : FT wide ps w = 0
  · rw [if_neg (not_not_intro ho)] at h
    unfold PZ at h
    split at h
    · cases h
    · rename_i h1
      split at h
      · cases h
      · rename_i h2
        have aa := Classical.not_not.1 h1
        exact ⟨ho, ⟨aa.1, by omega⟩, Classical.not_not.1 h2⟩
  · rw [if_pos ho] at h; exact absurd h ho
end Go.Proofs.YtkfbbjiniapooaaGreat
namespace Go.Proofs.YtkfbbjiniapooaaGreat
open Go.PL Go.Hear
section
variable {V8 : List Int}
def Kf (kind : Int) : List Int → Int → List Int
  | [], _ => []
  | x :: l, k => if x = kind then k :: Kf kind l (k + 1) else Kf kind l (k + 1)
theorem NR {kind : Int} : ∀ (l : List Int) (k x : Int), x ∈ Kf kind l k ↔ k ≤ x ∧ x < k + l.length ∧ l.getD (x - k).toNat 0 = kind
  | [], k, x => by
    unfold Kf
    simp; omega
  | y :: l, k, x => by
    unfold Kf
    have ih := NR (kind := kind) l (k + 1) x
    have hs : ∀ h : k + 1 ≤ x, (y :: l).getD (x - k).toNat 0 = l.getD (x - (k + 1)).toNat 0 := fun h => by
      have : (x - k).toNat = (x - (k + 1)).toNat + 1 := by omega
      rw [this, List.getD_cons_succ]
    have h0 : x = k → (y :: l).getD (x - k).toNat 0 = y := fun h => by
      have : (x - k).toNat = 0 := by omega
      rw [this, List.getD_cons_zero]
    rw [List.length_cons]
    by_cases hy : y = kind
    · rw [if_pos hy, List.mem_cons, ih]
      constructor
      · rintro (h | ⟨h1, h2, h3⟩)
        · exact ⟨by omega, by omega, by rw [h0 h]; exact hy⟩
        · exact ⟨by omega, by omega, by rw [hs h1]; exact h3⟩
      · rintro ⟨h1, h2, h3⟩
        by_cases he : x = k
        · exact .inl he
        · exact .inr ⟨by omega, by omega, by rw [← hs (by omega)]; exact h3⟩
    · rw [if_neg hy, ih]
      constructor
      · rintro ⟨h1, h2, h3⟩
        exact ⟨by omega, by omega, by rw [hs h1]; exact h3⟩
      · rintro ⟨h1, h2, h3⟩
        by_cases he : x = k
        · rw [h0 he] at h3; exact absurd h3 hy
        · exact ⟨by omega, by omega, by rw [← hs (by omega)]; exact h3⟩
end
end Go.Proofs.YtkfbbjiniapooaaGreat
