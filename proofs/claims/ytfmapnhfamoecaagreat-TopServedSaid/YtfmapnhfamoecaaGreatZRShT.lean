/- The calculus, part T: lists of lists, all of them owned. -/
import Derived.Test.YtfmapnhfamoecaaGreatZRShS
namespace Go.SH
abbrev Hd := Option Addr × Nat × Nat
def UK : IP Hd := fun _ vs h => vs = [.slice h.1 h.2.1 h.2.2]
theorem Ni : DI 1 UK := ⟨fun _ h => h, fun h => by rw [show _ = _ from h]; rfl, fun h => by
  rw [show _ = _ from h]; intro v hv; rw [List.mem_singleton.1 hv]; rfl⟩
theorem My : ∀ (Ls : List LH) (i : Nat) (Lb : LH), i < Ls.length → (Ls.set i Lb).flatten.Perm (Lb ++ (Ls.set i []).flatten)
  | [], i, _, h => by simp at h
  | L :: Ls, 0, Lb, _ => by simp
  | L :: Ls, i + 1, Lb, h => by
    simp only [List.set_cons_succ, List.flatten_cons]
    exact ((My Ls i Lb (by simpa using h)).append_left L).trans (List.perm_append_comm_assoc ..)
theorem Ub {α : Type} {xs : List α} {i : Nat} {x : α} (h : xs[i]? = some x) : xs.set i x = xs := by
  obtain ⟨hi, rfl⟩ := List.getElem?_eq_some_iff.1 h
  exact List.set_getElem_self hi
section
variable {α : Type} {nb E sz : Nat} {R : IP α} {F : FS} {hs : List Hd} {Fq : List (List α)} {Lc : LH} {i : Nat}
def OE (nb E sz : Nat) (R : IP α) (F : FS) (hs : List Hd) (Fq : List (List α)) (Lc : LH) : Prop :=
  ∃ Ls : List LH, Lc.Perm Ls.flatten ∧ hs.length = Fq.length ∧ Ls.length = hs.length ∧ ∀ (j : Nat) (h : Hd) (xs : List α) (Lb : LH), hs[j]? = some h → Fq[j]? = some xs → Ls[j]? = some Lb → A6 nb E sz R F h.1 h.2.1 h.2.2 xs Lb
def Ux (nb E sz : Nat) (R : IP α) (F : FS) (i : Nat) (hs : List Hd) (Fq : List (List α)) (Lc : LH) : Prop :=
  ∃ Ls : List LH, Lc.Perm (Ls.set i []).flatten ∧ hs.length = Fq.length ∧ Ls.length = hs.length ∧ i < hs.length ∧ ∀ (j : Nat) (h : Hd) (xs : List α) (Lb : LH), j ≠ i → hs[j]? = some h → Fq[j]? = some xs → Ls[j]? = some Lb → A6 nb E sz R F h.1 h.2.1 h.2.2 xs Lb
theorem OE.nil : OE nb E sz R F [] [] [] := ⟨[], .refl _, rfl, rfl, fun _ _ _ _ h => by simp at h⟩
theorem OE.aV (k : Nat) : OE nb E sz R F (List.replicate k (none, 0, 0)) (List.replicate k []) [] := ⟨List.replicate k [], by simp, by simp, by simp, fun j h xs Lb h1 h2 h3 => by
  rw [List.getElem?_replicate] at h1 h2 h3
  split at h1
  · rename_i hj
    rw [if_pos hj] at h2 h3
    cases h1; cases h2; cases h3
    exact A6.nil _ _ _ _ _
  · cases h1⟩
theorem OE.mono (hR : DI sz R) {F' : FS} (h : OE nb E sz R F hs Fq Lc) (hF : AZ F F') : OE nb E sz R F' hs Fq Lc := by
  obtain ⟨Ls, h1, h2, h3, h4⟩ := h
  exact ⟨Ls, h1, h2, h3, fun j h xs Lb e1 e2 e3 => (h4 j h xs Lb e1 e2 e3).mono hR hF⟩
theorem Ux.mono (hR : DI sz R) {F' : FS} (h : Ux nb E sz R F i hs Fq Lc) (hF : AZ F F') : Ux nb E sz R F' i hs Fq Lc := by
  obtain ⟨Ls, h1, h2, h3, h5, h4⟩ := h
  exact ⟨Ls, h1, h2, h3, h5, fun j h xs Lb e0 e1 e2 e3 => (h4 j h xs Lb e0 e1 e2 e3).mono hR hF⟩
theorem OE.len (h : OE nb E sz R F hs Fq Lc) : hs.length = Fq.length := by obtain ⟨_, _, h, _⟩ := h; exact h
theorem OE.snoc (h : OE nb E sz R F hs Fq Lc) {a : Option Addr} {n c : Nat} {xs : List α} {Lb : LH} (hr : A6 nb E sz R F a n c xs Lb) : OE nb E sz R F (hs ++ [(a, n, c)]) (Fq ++ [xs]) (Lb ++ Lc) := by
  obtain ⟨Ls, h1, h2, h3, h4⟩ := h
  refine ⟨Ls ++ [Lb], ?_, by simp [h2], by simp [h3], fun j h ys Lb' e1 e2 e3 => ?_⟩
  · rw [List.flatten_append]
    simp only [List.flatten_cons, List.flatten_nil, List.append_nil]
    exact (h1.append_left Lb).trans List.perm_append_comm
  · by_cases hj : j < hs.length
    · rw [List.getElem?_append_left hj] at e1
      rw [List.getElem?_append_left (by omega)] at e2 e3
      exact h4 j h ys Lb' e1 e2 e3
    · rw [List.getElem?_append_right (by omega)] at e1 e2 e3
      have e0 : j - hs.length = 0 := by
        obtain ⟨aa, _⟩ := List.getElem?_eq_some_iff.1 e1
        simpa using aa
      rw [e0] at e1; rw [← h2, e0] at e2; rw [h3, e0] at e3
      cases e1; cases e2; cases e3
      exact hr
theorem OE.open (h : OE nb E sz R F hs Fq Lc) {xs : List α} (hx : Fq[i]? = some xs) : ∃ a n c Lb aa, hs[i]? = some (a, n, c) ∧ A6 nb E sz R F a n c xs Lb ∧ Lc.Perm (Lb ++ aa) ∧ Ux nb E sz R F i hs Fq aa := by
  obtain ⟨Ls, h1, h2, h3, h4⟩ := h
  obtain ⟨hi, _⟩ := List.getElem?_eq_some_iff.1 hx
  have e1 : hs[i]? = some (hs[i]'(by omega)) := List.getElem?_eq_getElem (by omega)
  have e3 : Ls[i]? = some (Ls[i]'(by omega)) := List.getElem?_eq_getElem (by omega)
  refine ⟨_, _, _, _, _, e1, h4 i _ _ _ e1 hx e3, ?_, Ls, .refl _, h2, h3, by omega, fun j h xs Lb _ => h4 j h xs Lb⟩
  have := My Ls i (Ls[i]'(by omega)) (show i < Ls.length by omega)
  rw [Ub e3] at this
  exact h1.trans this
theorem Ux.close (h : Ux nb E sz R F i hs Fq Lc) {a : Option Addr} {n c : Nat} {xs : List α} {Lb : LH} (hr : A6 nb E sz R F a n c xs Lb) : OE nb E sz R F (hs.set i (a, n, c)) (Fq.set i xs) (Lb ++ Lc) := by
  obtain ⟨Ls, h1, h2, h3, h5, h4⟩ := h
  refine ⟨Ls.set i Lb, (h1.append_left Lb).trans (My Ls i Lb (by omega)).symm, by simp [h2], by simp [h3], fun j h ys Lb' e1 e2 e3 => ?_⟩
  rw [List.getElem?_set] at e1 e2 e3
  by_cases hj : i = j
  · rw [if_pos hj] at e1 e2 e3
    rw [if_pos (by omega)] at e1 e2 e3
    cases e1; cases e2; cases e3
    exact hr
  · rw [if_neg hj] at e1 e2 e3
    exact h4 j h ys Lb' (fun he => hj he.symm) e1 e2 e3
theorem OE.rows (hR : DI sz R) (h : OE nb E sz R F hs Fq Lc) {F' : FS} (hx : AZ F F') (hF : ∀ p ∈ Lc, F' p.1 = some p.2) : ∀ (j : Nat) (h : Hd) (xs : List α), hs[j]? = some h → Fq[j]? = some xs → h.2.1 = xs.length ∧ Ax sz R F' h.1 h.2.2 xs := by
  obtain ⟨Ls, h1, h2, h3, h4⟩ := h
  intro j h xs e1 e2
  obtain ⟨hj, _⟩ := List.getElem?_eq_some_iff.1 e1
  have e3 : Ls[j]? = some (Ls[j]'(by omega)) := List.getElem?_eq_getElem (by omega)
  have G6 := h4 j h xs _ e1 e2 e3
  refine ⟨G6.2.1, G6.row hR hx fun p hp => hF p ?_⟩
  exact h1.symm.subset (List.mem_flatten.2 ⟨_, List.getElem_mem _, hp⟩)
theorem Yp {vss : List (List Value)} (h : Ew (UK F) vss hs) {F' : FS} (hl : hs.length = Fq.length) (hr : ∀ (j : Nat) (h : Hd) (xs : List α), hs[j]? = some h → Fq[j]? = some xs → h.2.1 = xs.length ∧ Ax sz R F' h.1 h.2.2 xs) : Ew (Cn sz R F') vss Fq := by
  induction h generalizing Fq with
  | nil =>
    cases Fq with
    | nil => exact .nil
    | cons => simp at hl
  | cons h1 _ ih =>
    cases Fq with
    | nil => simp at hl
    | cons xs Fq =>
      rename_i v b as bs h2
      obtain ⟨e1, e2⟩ := hr 0 _ _ rfl rfl
      refine .cons ⟨b.1, b.2.2, ?_, e2⟩ (ih (by simpa using hl) fun j h ys f1 f2 => hr (j + 1) h ys f1 f2)
      rw [← e1]; exact h1
variable {P : Program} {N : Nat} {r : Option Nat} {K : Ctx} {ops : Array Oper} {Q : Env → FS → LH → Prop} {L Lr Lo : LH} {e : Env} {Eo cH n cap : Nat} {a : Option Addr}
theorem A6.bW (ho : A6 cH Eo 1 UK F a n cap hs Lo) (hR : DI sz R) (h : OE nb E sz R F hs Fq Lc) {F' : FS} (hx : AZ F F') (hF : ∀ p ∈ Lo ++ Lc, F' p.1 = some p.2) : Ax 1 (Cn sz R) F' a cap Fq ∧ n = Fq.length := by
  have h1 := ho.row Ni hx fun p hp => hF p (List.mem_append_left _ hp)
  obtain ⟨vss, h2, h3⟩ := h1
  have hl := h.len
  refine ⟨⟨vss, Yp h2 hl (h.rows hR hx fun p hp => hF p (List.mem_append_right _ hp)), ?_⟩, by rw [ho.2.1, hl]⟩
  rw [← hl]; exact h3
theorem OE.new (h : OE nb E sz R F hs Fq Lc) (hn : ∀ p ∈ Lc, cH ≤ p.1) : OE cH E sz R F hs Fq Lc := by
  obtain ⟨Ls, h1, h2, h3, h4⟩ := h
  exact ⟨Ls, h1, h2, h3, fun j h xs Lb e1 e2 e3 => ⟨fun p hp => hn p (h1.symm.subset (List.mem_flatten.2 ⟨Lb, List.mem_of_getElem? e3, hp⟩)), (h4 j h xs Lb e1 e2 e3).2⟩⟩
theorem OE.ge (h : OE nb E sz R F hs Fq Lc) : ∀ p ∈ Lc, nb ≤ p.1 := fun p hp => by
  obtain ⟨Ls, h1, h2, h3, h4⟩ := h
  obtain ⟨Lb, h5, h6⟩ := List.mem_flatten.1 (h1.subset hp)
  obtain ⟨j, hj, rfl⟩ := List.getElem_of_mem h5
  exact (h4 j _ _ _ (List.getElem?_eq_getElem (by omega)) (List.getElem?_eq_getElem (by omega)) (List.getElem?_eq_getElem hj)).1 p h6
def LO {α : Type} (nb E Ei sz : Nat) (R : IP α) (F : FS) (a : Option Addr) (n cap : Nat) (Fq : List (List α)) (Lb : LH) : Prop :=
  ∃ hs Lo Lc, Lb.Perm (Lo ++ Lc) ∧ A6 nb E 1 UK F a n cap hs Lo ∧ OE nb Ei sz R F hs Fq Lc
variable {Ei : Nat} {Lb Li : LH} {xs : List α}
theorem LO.nil (nb E Ei sz : Nat) (R : IP α) (F : FS) : LO nb E Ei sz R F none 0 0 [] [] := ⟨[], [], [], .refl _, A6.nil _ _ _ _ _, OE.nil⟩
theorem LO.mono (hR : DI sz R) {F' : FS} (h : LO nb E Ei sz R F a n cap Fq Lb) (hF : AZ F F') : LO nb E Ei sz R F' a n cap Fq Lb := by
  obtain ⟨hs, Lo, Lc, h1, h2, h3⟩ := h
  exact ⟨hs, Lo, Lc, h1, h2.mono Ni hF, h3.mono hR hF⟩
theorem LO.D9 (h : LO nb E Ei sz R F a n cap Fq Lb) : n = Fq.length ∧ n ≤ cap ∧ cap ≤ maxLen := by
  obtain ⟨hs, Lo, Lc, h1, h2, h3⟩ := h
  rw [← h3.len]; exact h2.D9
theorem LO.Je (h : LO nb E Ei sz R F a n cap Fq Lb) : (Fq.length : Int) = (n : Int) := by rw [h.D9.1]
theorem LO.Xq (h : LO nb E Ei sz R F a n cap Fq Lb) : (Fq.length : Int) ≤ 9223372036854775807 := by
  have := h.D9; simp only [maxLen] at this; omega
theorem LO.ge (h : LO nb E Ei sz R F a n cap Fq Lb) : ∀ p ∈ Lb, nb ≤ p.1 := fun p hp => by
  obtain ⟨hs, Lo, Lc, h1, h2, h3⟩ := h
  rcases List.mem_append.1 (h1.subset hp) with h | h
  · exact h2.1 p h
  · exact h3.ge p h
theorem LO.new {m : Nat} (h : LO m E Ei sz R F a n cap Fq Lb) (hn : ∀ p ∈ Lb, nb ≤ p.1) : LO nb E Ei sz R F a n cap Fq Lb := by
  obtain ⟨hs, Lo, Lc, h1, h2, h3⟩ := h
  exact ⟨hs, Lo, Lc, h1, ⟨fun p hp => hn p (h1.symm.subset (List.mem_append_left _ hp)), h2.2⟩, h3.new fun p hp => hn p (h1.symm.subset (List.mem_append_right _ hp))⟩
theorem LO.any (h : LO nb E Ei sz R F a n cap Fq Lb) : LO 0 E Ei sz R F a n cap Fq Lb := h.new fun _ _ => Nat.zero_le _
theorem LO.row (h : LO nb E Ei sz R F a n cap Fq Lb) (hR : DI sz R) {F' : FS} (hx : AZ F F') (hF : ∀ p ∈ Lb, F' p.1 = some p.2) : Ax 1 (Cn sz R) F' a cap Fq := by
  obtain ⟨hs, Lo, Lc, h1, h2, h3⟩ := h
  exact (h2.bW hR h3 hx fun p hp => hF p (h1.symm.subset hp)).1
theorem LO.made {k : Nat} (h : A6 nb E 1 UK F a n cap (List.replicate k (none, 0, 0)) Lb) (hz : Fq = List.replicate k []) : LO nb E Ei sz R F a n cap Fq Lb := by
  subst hz; exact ⟨_, Lb, [], by simp, h, OE.aV k⟩
theorem aI {m : Nat} (hn : n = m) {i : Int} (g : 0 ≤ i ∧ i < (m : Int)) : 0 ≤ i ∧ i < (n : Int) := by rw [hn]; exact g
theorem cE {hs : List Hd} (hn : n = Fq.length) (h : A6 nb E 1 UK F a n cap hs Lo) {i : Int} (g : 0 ≤ i ∧ i < (Fq.length : Int)) : 0 ≤ i ∧ i < (hs.length : Int) := by rw [← h.2.1, hn]; exact g
theorem Ux.back {m c : Nat} {a' : Option Addr} (h : Ux nb Ei sz R F i hs Fq Lc) (ho : A6 nb E 1 UK F a n cap (hs.set i (a', m, c)) Lo) (hr : A6 nb Ei sz R F a' m c xs Li) {aa : List (List α)} (hz : aa = Fq.set i xs) : LO nb E Ei sz R F a n cap aa (Lo ++ (Li ++ (Lc ++ []))) := by
  subst hz; exact ⟨_, Lo, Li ++ Lc, by simp, ho, h.close hr⟩
theorem OE.push {m c : Nat} {a' : Option Addr} (h : OE nb Ei sz R F hs Fq Lc) {G6 : List Hd} (he : G6 = hs ++ [(a', m, c)]) (ho : A6 nb E 1 UK F a n cap G6 Lo) (hr : A6 nb Ei sz R F a' m c xs Li) {aa : List (List α)} (hz : aa = Fq ++ [xs]) : LO nb E Ei sz R F a n cap aa (Lo ++ (Li ++ (Lc ++ []))) := by
  subst hz he; exact ⟨_, Lo, Li ++ Lc, by simp, ho, h.snoc hr⟩
theorem Ty {Q : Iu} {c : Code} (aa : K.w0.heap.size ≤ nb) (hR : DI sz R) (hL : L.Perm (Lb ++ Lr)) (h : LO nb E Ei sz R F a n cap Fq Lb) (k : ∀ F', AZ F F' → Ax 1 (Cn sz R) F' a cap Fq → Gz P N r K c Q e F' Lr) : Gz P N r K c Q e F L := fun M act w ha hs => by
  obtain ⟨F', h1, h2, h3⟩ := St.JN Lb (hs.perm hL) (fun p hp => Nat.le_trans aa (h.ge p hp))
  exact k F' h2 (h.row hR h2 h3) M act w ha h1
theorem Xe {l : List Oper} (hL : L.Perm (Lb ++ Lr)) (h : LO nb E Ei sz R F a n cap Fq Lb) (hx : Fq[i]? = some xs)
    (k : ∀ hs Lo Lc a' m c Li, hs[i]? = some (a', m, c) → A6 nb E 1 UK F a n cap hs Lo → A6 nb Ei sz R F a' m c xs Li → Ux nb Ei sz R F i hs Fq Lc → Dq P N r K ops Q l e F (Lo ++ (Li ++ (Lc ++ Lr)))) : Dq P N r K ops Q l e F L := by
  obtain ⟨hs, Lo, Lc, h1, h2, h3⟩ := h
  obtain ⟨a', m, c, Li, aa, h4, h5, h6, h7⟩ := h3.open hx
  refine CW ?_ (k hs Lo aa a' m c Li h4 h2 h5 h7)
  refine hL.trans ((h1.append_right Lr).trans ?_)
  rw [List.append_assoc]
  refine List.Perm.append_left Lo ?_
  have := h6.append_right Lr
  rwa [List.append_assoc] at this
theorem Wo {p : LH → Prop} {A : LH} {l : List Oper} (h : p A) (hL : L.Perm (A ++ Lr)) (k : ∀ Lb, p Lb → Dq P N r K ops Q l e F (Lb ++ Lr)) : Dq P N r K ops Q l e F L := CW hL (k A h)
end
inductive JS (K : Ctx) (Lp : Env → FS → LH → Prop) (e : Env) : FS → LH → Prop
  | now {F : FS} {L : LH} (h : meet Lp e F L) : JS K Lp e F L
  | cL {F : FS} {L Lb Lr : LH} (hL : L.Perm (Lb ++ Lr)) (hn : ∀ p ∈ Lb, K.w0.heap.size ≤ p.1) (k : ∀ F', AZ F F' → (∀ p ∈ Lb, F' p.1 = some p.2) → JS K Lp e F' Lr) : JS K Lp e F L
section
variable {P : Program} {N : Nat} {r : Option Nat} {K : Ctx} {Q : Iu} {e : Env} {F : FS} {L Lb Lr L2 : LH} {Lp : Env → FS → LH → Prop}
theorem Qu {α : Type} : ∀ (L : List α) (i : Nat) (h : i < L.length), L.Perm ([L[i]] ++ L.eraseIdx i)
  | [], _, h => by simp at h
  | x :: L, 0, _ => by simp
  | x :: L, i + 1, h => by
    simp only [List.getElem_cons_succ, List.eraseIdx_cons_succ]
    exact ((Qu L i (by simpa using h)).cons x).trans (List.Perm.swap ..)
theorem JS.out (h : JS K Lp e F L) {M : List Nat} {w : World} (hs : St K M F L w) : ∃ F' L', Lp e F' L' ∧ St K M F' L' w := by
  induction h with
  | now h => obtain ⟨L2, L3, hp, G6, hm⟩ := h; exact ⟨_, _, hm, (hs.perm hp).drop G6⟩
  | cL hL hn _ ih =>
    obtain ⟨F', h1, h2, h3⟩ := St.JN _ (hs.perm hL) hn
    exact ih F' h2 h3 h1
theorem VP {x y : Code} (Lp : Env → FS → LH → Prop) (h : Gz P N r K x (andThen (JS K Lp) Q) e F L) (k : ∀ e F L, Lp e F L → Gz P N r K y Q e F L) : Gz P N r K (.seq x y) Q e F L :=
  Pk (JS K Lp) h fun e F L hm M a w ha HY => by
    obtain ⟨F', L', h1, h2⟩ := hm.out HY
    exact k e F' L' h1 M a w ha h2
theorem VH {c : Code} (I : Nat → Env → FS → LH → Prop) (n0 : Nat) (h0 : meet (I n0) e F L)
    (round : ∀ n e F L, I n e F L → Gz P N r K c (andThen (fun e F L => ∃ n', n' < n ∧ JS K (I n') e F L) Q) e F L) : Gz P N r K (.loop c) Q e F L := by
  obtain ⟨L2, L3, hp, hs, hm⟩ := h0
  refine TI hp (TQ hs fun M a w ha hs => ?_)
  refine M7 (fun s a w => ∃ M e F L, Ag N M e a ∧ St K M F L w ∧ I s e F L) id n0 ⟨M, e, F, L2, ha, hs, hm⟩ ?_
  rintro s a w ⟨M, e, F, L, ha, hs, hI⟩
  refine wpIn_mono (round s e F L hI M a w ha hs) ?_
  rintro ex a' w' ⟨M', e', F', L', h1, h2, h3⟩
  cases ex with
  | normal =>
    obtain ⟨s', h5, h4⟩ := h3
    obtain ⟨F2, L2, h6, h7⟩ := h4.out h2
    exact ⟨s', ⟨M', e', F2, L2, h1, h7, h6⟩, h5⟩
  | _ => exact ⟨M', e', F', L', h1, h2, h3⟩
theorem lf {I : Nat → Env → FS → LH → Prop} {n : Nat} (h : JS K (I n) e F L) : andThen (fun e F L => ∃ n', n' < n + 1 ∧ JS K (I n') e F L) Q .normal e F L := ⟨n, Nat.lt_succ_self _, h⟩
theorem mf (h : KL L L2) (hm : Lp e F L2) : JS K Lp e F L := let ⟨L3, h1, h2⟩ := h; .now ⟨L2, L3, h1, h2, hm⟩
theorem UN {L' : LH} (h : L = L') (k : JS K Lp e F L') : JS K Lp e F L := h ▸ k
theorem L9 (i : Nat) {b : Nat} {o : Obj} (hi : L[i]? = some (b, o)) (hb : K.w0.heap.size ≤ b) (k : ∀ F', AZ F F' → F' b = some o → JS K Lp e F' (L.eraseIdx i)) : JS K Lp e F L := by
  refine .cL (Lb := [(b, o)]) (Lr := L.eraseIdx i) ?_ (fun p hp => by rw [List.mem_singleton.1 hp]; exact hb) fun F' h1 h2 => k F' h1 (h2 (b, o) (List.mem_singleton.2 rfl))
  obtain ⟨aa, he⟩ := List.getElem?_eq_some_iff.1 hi
  rw [← he]
  exact Qu L i aa
end
theorem aG {xs : List Int} {i : Nat} {c : Int} (hc : xs[i]? = some c) : (sB xs)[i]? = some (UInt8.ofNat c.toNat) := by
  obtain ⟨hi, rfl⟩ := List.getElem?_eq_some_iff.1 hc
  have hs : i < (sB xs).size := by rw [PS]; exact hi
  rw [getElem?_pos (sB xs) i hs]
  congr 1
  rw [ByteArray.getElem_eq_getElem_data]
  simp [sB]
theorem Uz {P : Program} {N : Nat} {K : Ctx} {e : Env} {F : FS} {L : LH} {ty T : TypeId} {x y : Operand} {xs : List Int} {k : IntKind} {i c : Int} (hT : P.underlying T = some .string) (hx : ev e x = some (.string (sB xs))) (hy : ev e y = some (.int k i)) (h0 : 0 ≤ i) (hc : xs[i.toNat]? = some c) (g : 0 ≤ c ∧ c < 256) :
    Fw P N K e F L (.index T x y) ty (.int .u8 c) := Yv (fun w => by
  have h1 := aG hc
  have h2 : ((UInt8.ofNat c.toNat).toNat : Int) = c := by
    rw [UInt8.toNat_ofNat']
    omega
  simp [Instr.index, asIntOf, run_underlying hT, h0, h1]
  omega) hx hy
theorem Fw.b {P : Program} {N : Nat} {K : Ctx} {e : Env} {F : FS} {L : LH} {op : Op} {ty : TypeId} {p q : Bool} (h : Fw P N K e F L op ty (.bool p)) (he : p = q) : Fw P N K e F L op ty (.bool q) := he ▸ h
end Go.SH
