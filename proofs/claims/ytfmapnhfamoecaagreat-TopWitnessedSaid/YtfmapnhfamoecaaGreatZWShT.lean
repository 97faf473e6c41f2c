/- The calculus, part T: lists of lists, all of them owned. -/
import Derived.Test.YtfmapnhfamoecaaGreatZWShS
namespace Go.SH
abbrev Hd := Option Addr × Nat × Nat
def RB : IN Hd := fun _ vs h => vs = [.slice h.1 h.2.1 h.2.2]
theorem Jw : DP 1 RB := ⟨fun _ h => h, fun h => by rw [show _ = _ from h]; rfl, fun h => by
  rw [show _ = _ from h]; intro v hv; rw [List.mem_singleton.1 hv]; rfl⟩
theorem Mq : ∀ (Ls : List LH) (i : Nat) (Lb : LH), i < Ls.length → (Ls.set i Lb).flatten.Perm (Lb ++ (Ls.set i []).flatten)
  | [], i, _, h => by simp at h
  | L :: Ls, 0, Lb, _ => by simp
  | L :: Ls, i + 1, Lb, h => by
    simp only [List.set_cons_succ, List.flatten_cons]
    exact ((Mq Ls i Lb (by simpa using h)).append_left L).trans (List.perm_append_comm_assoc ..)
theorem N2 {α : Type} {xs : List α} {i : Nat} {x : α} (h : xs[i]? = some x) : xs.set i x = xs := by
  obtain ⟨hi, rfl⟩ := List.getElem?_eq_some_iff.1 h
  exact List.set_getElem_self hi
section
variable {α : Type} {nb E sz : Nat} {R : IN α} {F : FS} {hs : List Hd} {EO : List (List α)} {Lc : LH} {i : Nat}
def Ov (nb E sz : Nat) (R : IN α) (F : FS) (hs : List Hd) (EO : List (List α)) (Lc : LH) : Prop :=
  ∃ Ls : List LH, Lc.Perm Ls.flatten ∧ hs.length = EO.length ∧ Ls.length = hs.length ∧ ∀ (j : Nat) (h : Hd) (xs : List α) (Lb : LH), hs[j]? = some h → EO[j]? = some xs → Ls[j]? = some Lb → Bd nb E sz R F h.1 h.2.1 h.2.2 xs Lb
def Qk (nb E sz : Nat) (R : IN α) (F : FS) (i : Nat) (hs : List Hd) (EO : List (List α)) (Lc : LH) : Prop :=
  ∃ Ls : List LH, Lc.Perm (Ls.set i []).flatten ∧ hs.length = EO.length ∧ Ls.length = hs.length ∧ i < hs.length ∧ ∀ (j : Nat) (h : Hd) (xs : List α) (Lb : LH), j ≠ i → hs[j]? = some h → EO[j]? = some xs → Ls[j]? = some Lb → Bd nb E sz R F h.1 h.2.1 h.2.2 xs Lb
theorem Ov.nil : Ov nb E sz R F [] [] [] := ⟨[], .refl _, rfl, rfl, fun _ _ _ _ h => by simp at h⟩
theorem Ov.XV (k : Nat) : Ov nb E sz R F (List.replicate k (none, 0, 0)) (List.replicate k []) [] := ⟨List.replicate k [], by simp, by simp, by simp, fun j h xs Lb h1 h2 h3 => by
  rw [List.getElem?_replicate] at h1 h2 h3
  split at h1
  · rename_i hj
    rw [if_pos hj] at h2 h3
    cases h1; cases h2; cases h3
    exact Bd.nil _ _ _ _ _
  · cases h1⟩
theorem Ov.mono (hR : DP sz R) {F' : FS} (h : Ov nb E sz R F hs EO Lc) (hF : A4 F F') : Ov nb E sz R F' hs EO Lc := by
  obtain ⟨Ls, h1, h2, h3, h4⟩ := h
  exact ⟨Ls, h1, h2, h3, fun j h xs Lb e1 e2 e3 => (h4 j h xs Lb e1 e2 e3).mono hR hF⟩
theorem Qk.mono (hR : DP sz R) {F' : FS} (h : Qk nb E sz R F i hs EO Lc) (hF : A4 F F') : Qk nb E sz R F' i hs EO Lc := by
  obtain ⟨Ls, h1, h2, h3, h5, h4⟩ := h
  exact ⟨Ls, h1, h2, h3, h5, fun j h xs Lb e0 e1 e2 e3 => (h4 j h xs Lb e0 e1 e2 e3).mono hR hF⟩
theorem Ov.len (h : Ov nb E sz R F hs EO Lc) : hs.length = EO.length := by obtain ⟨_, _, h, _⟩ := h; exact h
theorem Ov.snoc (h : Ov nb E sz R F hs EO Lc) {a : Option Addr} {n c : Nat} {xs : List α} {Lb : LH} (hr : Bd nb E sz R F a n c xs Lb) : Ov nb E sz R F (hs ++ [(a, n, c)]) (EO ++ [xs]) (Lb ++ Lc) := by
  obtain ⟨Ls, h1, h2, h3, h4⟩ := h
  refine ⟨Ls ++ [Lb], ?_, by simp [h2], by simp [h3], fun j h ys Lb' e1 e2 e3 => ?_⟩
  · rw [List.flatten_append]
    simp only [List.flatten_cons, List.flatten_nil, List.append_nil]
    exact (h1.append_left Lb).trans List.perm_append_comm
  · by_cases hj : j < hs.length
    · rw [List.getElem?_append_left hj] at e1
      rw [List.getElem?_append_left (by omega)] at e2 e3
      exact h4 j h ys Lb' e1 e2 e3
    · rw [List.getElem?_append_right (by omega)] at e1 e2 e3
      have e0 : j - hs.length = 0 := by
        obtain ⟨aa, _⟩ := List.getElem?_eq_some_iff.1 e1
        simpa using aa
      rw [e0] at e1; rw [← h2, e0] at e2; rw [h3, e0] at e3
      cases e1; cases e2; cases e3
      exact hr
theorem Ov.open (h : Ov nb E sz R F hs EO Lc) {xs : List α} (hx : EO[i]? = some xs) : ∃ a n c Lb aa, hs[i]? = some (a, n, c) ∧ Bd nb E sz R F a n c xs Lb ∧ Lc.Perm (Lb ++ aa) ∧ Qk nb E sz R F i hs EO aa := by
  obtain ⟨Ls, h1, h2, h3, h4⟩ := h
  obtain ⟨hi, _⟩ := List.getElem?_eq_some_iff.1 hx
  have e1 : hs[i]? = some (hs[i]'(by omega)) := List.getElem?_eq_getElem (by omega)
  have e3 : Ls[i]? = some (Ls[i]'(by omega)) := List.getElem?_eq_getElem (by omega)
  refine ⟨_, _, _, _, _, e1, h4 i _ _ _ e1 hx e3, ?_, Ls, .refl _, h2, h3, by omega, fun j h xs Lb _ => h4 j h xs Lb⟩
  have := Mq Ls i (Ls[i]'(by omega)) (show i < Ls.length by omega)
  rw [N2 e3] at this
  exact h1.trans this
theorem Qk.close (h : Qk nb E sz R F i hs EO Lc) {a : Option Addr} {n c : Nat} {xs : List α} {Lb : LH} (hr : Bd nb E sz R F a n c xs Lb) : Ov nb E sz R F (hs.set i (a, n, c)) (EO.set i xs) (Lb ++ Lc) := by
  obtain ⟨Ls, h1, h2, h3, h5, h4⟩ := h
  refine ⟨Ls.set i Lb, (h1.append_left Lb).trans (Mq Ls i Lb (by omega)).symm, by simp [h2], by simp [h3], fun j h ys Lb' e1 e2 e3 => ?_⟩
  rw [List.getElem?_set] at e1 e2 e3
  by_cases hj : i = j
  · rw [if_pos hj] at e1 e2 e3
    rw [if_pos (by omega)] at e1 e2 e3
    cases e1; cases e2; cases e3
    exact hr
  · rw [if_neg hj] at e1 e2 e3
    exact h4 j h ys Lb' (fun he => hj he.symm) e1 e2 e3
theorem Qk.W0 (h : Qk nb E sz R F i hs EO Lc) {a : Option Addr} {n c : Nat} {xs : List α} {Lb : LH} (hh : hs[i]? = some (a, n, c)) (hr : Bd nb E sz R F a n c xs Lb) : Ov nb E sz R F hs (EO.set i xs) (Lb ++ Lc) := by
  have := h.close hr
  rwa [N2 hh] at this
theorem Ov.rows (hR : DP sz R) (h : Ov nb E sz R F hs EO Lc) {F' : FS} (hx : A4 F F') (hF : ∀ p ∈ Lc, F' p.1 = some p.2) : ∀ (j : Nat) (h : Hd) (xs : List α), hs[j]? = some h → EO[j]? = some xs → h.2.1 = xs.length ∧ As sz R F' h.1 h.2.2 xs := by
  obtain ⟨Ls, h1, h2, h3, h4⟩ := h
  intro j h xs e1 e2
  obtain ⟨hj, _⟩ := List.getElem?_eq_some_iff.1 e1
  have e3 : Ls[j]? = some (Ls[j]'(by omega)) := List.getElem?_eq_getElem (by omega)
  have aa := h4 j h xs _ e1 e2 e3
  refine ⟨aa.2.1, aa.row hR hx fun p hp => hF p ?_⟩
  exact h1.symm.subset (List.mem_flatten.2 ⟨_, List.getElem_mem _, hp⟩)
theorem Wo {vss : List (List Value)} (h : EU (RB F) vss hs) {F' : FS} (hl : hs.length = EO.length) (hr : ∀ (j : Nat) (h : Hd) (xs : List α), hs[j]? = some h → EO[j]? = some xs → h.2.1 = xs.length ∧ As sz R F' h.1 h.2.2 xs) : EU (BC sz R F') vss EO := by
  induction h generalizing EO with
  | nil =>
    cases EO with
    | nil => exact .nil
    | cons => simp at hl
  | cons h1 _ ih =>
    cases EO with
    | nil => simp at hl
    | cons xs EO =>
      rename_i v b as bs h2
      obtain ⟨e1, e2⟩ := hr 0 _ _ rfl rfl
      refine .cons ⟨b.1, b.2.2, ?_, e2⟩ (ih (by simpa using hl) fun j h ys f1 f2 => hr (j + 1) h ys f1 f2)
      rw [← e1]; exact h1
variable {P : Program} {N : Nat} {r : Option Nat} {K : Ctx} {ops : Array Oper} {Q : Env → FS → LH → Prop} {L Lr Lo : LH} {e : Env} {Eo Yk n cap : Nat} {a : Option Addr}
theorem Bd.Yd (ho : Bd Yk Eo 1 RB F a n cap hs Lo) (hR : DP sz R) (h : Ov nb E sz R F hs EO Lc) {F' : FS} (hx : A4 F F') (hF : ∀ p ∈ Lo ++ Lc, F' p.1 = some p.2) : As 1 (BC sz R) F' a cap EO ∧ n = EO.length := by
  have h1 := ho.row Jw hx fun p hp => hF p (List.mem_append_left _ hp)
  obtain ⟨vss, h2, h3⟩ := h1
  have hl := h.len
  refine ⟨⟨vss, Wo h2 hl (h.rows hR hx fun p hp => hF p (List.mem_append_right _ hp)), ?_⟩, by rw [ho.2.1, hl]⟩
  rw [← hl]; exact h3
theorem Ov.new (h : Ov nb E sz R F hs EO Lc) (hn : ∀ p ∈ Lc, Yk ≤ p.1) : Ov Yk E sz R F hs EO Lc := by
  obtain ⟨Ls, h1, h2, h3, h4⟩ := h
  exact ⟨Ls, h1, h2, h3, fun j h xs Lb e1 e2 e3 => ⟨fun p hp => hn p (h1.symm.subset (List.mem_flatten.2 ⟨Lb, List.mem_of_getElem? e3, hp⟩)), (h4 j h xs Lb e1 e2 e3).2⟩⟩
theorem Ov.ge (h : Ov nb E sz R F hs EO Lc) : ∀ p ∈ Lc, nb ≤ p.1 := fun p hp => by
  obtain ⟨Ls, h1, h2, h3, h4⟩ := h
  obtain ⟨Lb, h5, h6⟩ := List.mem_flatten.1 (h1.subset hp)
  obtain ⟨j, hj, rfl⟩ := List.getElem_of_mem h5
  exact (h4 j _ _ _ (List.getElem?_eq_getElem (by omega)) (List.getElem?_eq_getElem (by omega)) (List.getElem?_eq_getElem hj)).1 p h6
def Js {α : Type} (nb E Ei sz : Nat) (R : IN α) (F : FS) (a : Option Addr) (n cap : Nat) (EO : List (List α)) (Lb : LH) : Prop :=
  ∃ hs Lo Lc, Lb.Perm (Lo ++ Lc) ∧ Bd nb E 1 RB F a n cap hs Lo ∧ Ov nb Ei sz R F hs EO Lc
variable {Ei : Nat} {Lb Li : LH} {xs : List α}
theorem Js.nil (nb E Ei sz : Nat) (R : IN α) (F : FS) : Js nb E Ei sz R F none 0 0 [] [] := ⟨[], [], [], .refl _, Bd.nil _ _ _ _ _, Ov.nil⟩
theorem Js.mono (hR : DP sz R) {F' : FS} (h : Js nb E Ei sz R F a n cap EO Lb) (hF : A4 F F') : Js nb E Ei sz R F' a n cap EO Lb := by
  obtain ⟨hs, Lo, Lc, h1, h2, h3⟩ := h
  exact ⟨hs, Lo, Lc, h1, h2.mono Jw hF, h3.mono hR hF⟩
theorem Js.Dx (h : Js nb E Ei sz R F a n cap EO Lb) : n = EO.length ∧ n ≤ cap ∧ cap ≤ maxLen := by
  obtain ⟨hs, Lo, Lc, h1, h2, h3⟩ := h
  rw [← h3.len]; exact h2.Dx
theorem Js.KW (h : Js nb E Ei sz R F a n cap EO Lb) : (EO.length : Int) = (n : Int) := by rw [h.Dx.1]
theorem Js.UW (h : Js nb E Ei sz R F a n cap EO Lb) : (EO.length : Int) ≤ 9223372036854775807 := by
  have := h.Dx; simp only [maxLen] at this; omega
theorem Js.ge (h : Js nb E Ei sz R F a n cap EO Lb) : ∀ p ∈ Lb, nb ≤ p.1 := fun p hp => by
  obtain ⟨hs, Lo, Lc, h1, h2, h3⟩ := h
  rcases List.mem_append.1 (h1.subset hp) with h | h
  · exact h2.1 p h
  · exact h3.ge p h
theorem Js.new {m : Nat} (h : Js m E Ei sz R F a n cap EO Lb) (hn : ∀ p ∈ Lb, nb ≤ p.1) : Js nb E Ei sz R F a n cap EO Lb := by
  obtain ⟨hs, Lo, Lc, h1, h2, h3⟩ := h
  exact ⟨hs, Lo, Lc, h1, ⟨fun p hp => hn p (h1.symm.subset (List.mem_append_left _ hp)), h2.2⟩, h3.new fun p hp => hn p (h1.symm.subset (List.mem_append_right _ hp))⟩
theorem Js.any (h : Js nb E Ei sz R F a n cap EO Lb) : Js 0 E Ei sz R F a n cap EO Lb := h.new fun _ _ => Nat.zero_le _
theorem Js.row (h : Js nb E Ei sz R F a n cap EO Lb) (hR : DP sz R) {F' : FS} (hx : A4 F F') (hF : ∀ p ∈ Lb, F' p.1 = some p.2) : As 1 (BC sz R) F' a cap EO := by
  obtain ⟨hs, Lo, Lc, h1, h2, h3⟩ := h
  exact (h2.Yd hR h3 hx fun p hp => hF p (h1.symm.subset hp)).1
theorem Js.made {k : Nat} (h : Bd nb E 1 RB F a n cap (List.replicate k (none, 0, 0)) Lb) (hz : EO = List.replicate k []) : Js nb E Ei sz R F a n cap EO Lb := by
  subst hz; exact ⟨_, Lb, [], by simp, h, Ov.XV k⟩
theorem Vn {m : Nat} (hn : n = m) {i : Int} (g : 0 ≤ i ∧ i < (m : Int)) : 0 ≤ i ∧ i < (n : Int) := by rw [hn]; exact g
theorem XW {hs : List Hd} (hn : n = EO.length) (h : Bd nb E 1 RB F a n cap hs Lo) {i : Int} (g : 0 ≤ i ∧ i < (EO.length : Int)) : 0 ≤ i ∧ i < (hs.length : Int) := by rw [← h.2.1, hn]; exact g
theorem Qk.back {m c : Nat} {a' : Option Addr} (h : Qk nb Ei sz R F i hs EO Lc) (ho : Bd nb E 1 RB F a n cap (hs.set i (a', m, c)) Lo) (hr : Bd nb Ei sz R F a' m c xs Li) {aa : List (List α)} (hz : aa = EO.set i xs) : Js nb E Ei sz R F a n cap aa (Lo ++ (Li ++ (Lc ++ []))) := by
  subst hz; exact ⟨_, Lo, Li ++ Lc, by simp, ho, h.close hr⟩
theorem Qk.VO {m c : Nat} {a' : Option Addr} (h : Qk nb Ei sz R F i hs EO Lc) (ho : Bd nb E 1 RB F a n cap hs Lo) (hh : hs[i]? = some (a', m, c)) (hr : Bd nb Ei sz R F a' m c xs Li) {aa : List (List α)} (hz : aa = EO.set i xs) : Js nb E Ei sz R F a n cap aa (Lo ++ (Li ++ (Lc ++ []))) := by
  subst hz; exact ⟨_, Lo, Li ++ Lc, by simp, ho, h.W0 hh hr⟩
theorem Ov.push {m c : Nat} {a' : Option Addr} (h : Ov nb Ei sz R F hs EO Lc) {aa : List Hd} (he : aa = hs ++ [(a', m, c)]) (ho : Bd nb E 1 RB F a n cap aa Lo) (hr : Bd nb Ei sz R F a' m c xs Li) {ab : List (List α)} (hz : ab = EO ++ [xs]) : Js nb E Ei sz R F a n cap ab (Lo ++ (Li ++ (Lc ++ []))) := by
  subst hz he; exact ⟨_, Lo, Li ++ Lc, by simp, ho, h.snoc hr⟩
theorem Pm {Q : Ig} {c : Code} (aa : K.w0.heap.size ≤ nb) (hR : DP sz R) (hL : L.Perm (Lb ++ Lr)) (h : Js nb E Ei sz R F a n cap EO Lb) (k : ∀ F', A4 F F' → As 1 (BC sz R) F' a cap EO → Gm P N r K c Q e F' Lr) : Gm P N r K c Q e F L := fun M act w ha hs => by
  obtain ⟨F', h1, h2, h3⟩ := St.JQ Lb (hs.perm hL) (fun p hp => Nat.le_trans aa (h.ge p hp))
  exact k F' h2 (h.row hR h2 h3) M act w ha h1
theorem Sk {l : List Oper} (hL : L.Perm (Lb ++ Lr)) (h : Js nb E Ei sz R F a n cap EO Lb) (hx : EO[i]? = some xs)
    (k : ∀ hs Lo Lc a' m c Li, hs[i]? = some (a', m, c) → Bd nb E 1 RB F a n cap hs Lo → Bd nb Ei sz R F a' m c xs Li → Qk nb Ei sz R F i hs EO Lc → Df P N r K ops Q l e F (Lo ++ (Li ++ (Lc ++ Lr)))) : Df P N r K ops Q l e F L := by
  obtain ⟨hs, Lo, Lc, h1, h2, h3⟩ := h
  obtain ⟨a', m, c, Li, aa, h4, h5, h6, h7⟩ := h3.open hx
  refine B2 ?_ (k hs Lo aa a' m c Li h4 h2 h5 h7)
  refine hL.trans ((h1.append_right Lr).trans ?_)
  rw [List.append_assoc]
  refine List.Perm.append_left Lo ?_
  have := h6.append_right Lr
  rwa [List.append_assoc] at this
theorem S2 {Q : Ig} {y : Code} (hL : L.Perm (Lb ++ Lr)) (h : Js nb E Ei sz R F a n cap EO Lb) (hx : EO[i]? = some xs)
    (k : ∀ hs Lo Lc a' m c Li, hs[i]? = some (a', m, c) → Bd nb E 1 RB F a n cap hs Lo → Bd nb Ei sz R F a' m c xs Li → Qk nb Ei sz R F i hs EO Lc → Gm P N r K y Q e F (Lo ++ (Li ++ (Lc ++ Lr)))) : Gm P N r K y Q e F L := by
  obtain ⟨hs, Lo, Lc, h1, h2, h3⟩ := h
  obtain ⟨a', m, c, Li, aa, h4, h5, h6, h7⟩ := h3.open hx
  refine Qb ?_ (k hs Lo aa a' m c Li h4 h2 h5 h7)
  refine hL.trans ((h1.append_right Lr).trans ?_)
  rw [List.append_assoc]
  refine List.Perm.append_left Lo ?_
  have := h6.append_right Lr
  rwa [List.append_assoc] at this
theorem N4 {p : LH → Prop} {A : LH} {l : List Oper} (h : p A) (hL : L.Perm (A ++ Lr)) (k : ∀ Lb, p Lb → Df P N r K ops Q l e F (Lb ++ Lr)) : Df P N r K ops Q l e F L := B2 hL (k A h)
end
inductive Ks (K : Ctx) (L9 : Env → FS → LH → Prop) (e : Env) : FS → LH → Prop
  | now {F : FS} {L : LH} (h : meet L9 e F L) : Ks K L9 e F L
  | Yj {F : FS} {L Lb Lr : LH} (hL : L.Perm (Lb ++ Lr)) (hn : ∀ p ∈ Lb, K.w0.heap.size ≤ p.1) (k : ∀ F', A4 F F' → (∀ p ∈ Lb, F' p.1 = some p.2) → Ks K L9 e F' Lr) : Ks K L9 e F L
section
variable {P : Program} {N : Nat} {r : Option Nat} {K : Ctx} {Q : Ig} {e : Env} {F : FS} {L Lb Lr L2 : LH} {L9 : Env → FS → LH → Prop}
theorem Qa {α : Type} : ∀ (L : List α) (i : Nat) (h : i < L.length), L.Perm ([L[i]] ++ L.eraseIdx i)
  | [], _, h => by simp at h
  | x :: L, 0, _ => by simp
  | x :: L, i + 1, h => by
    simp only [List.getElem_cons_succ, List.eraseIdx_cons_succ]
    exact ((Qa L i (by simpa using h)).cons x).trans (List.Perm.swap ..)
theorem Ks.out (h : Ks K L9 e F L) {M : List Nat} {w : World} (hs : St K M F L w) : ∃ F' L', L9 e F' L' ∧ St K M F' L' w := by
  induction h with
  | now h => obtain ⟨L2, L3, hp, aa, hm⟩ := h; exact ⟨_, _, hm, (hs.perm hp).drop aa⟩
  | Yj hL hn _ ih =>
    obtain ⟨F', h1, h2, h3⟩ := St.JQ _ (hs.perm hL) hn
    exact ih F' h2 h3 h1
theorem UG {x y : Code} (L9 : Env → FS → LH → Prop) (h : Gm P N r K x (andThen (Ks K L9) Q) e F L) (k : ∀ e F L, L9 e F L → Gm P N r K y Q e F L) : Gm P N r K (.seq x y) Q e F L :=
  Pk (Ks K L9) h fun e F L hm M a w ha aa => by
    obtain ⟨F', L', h1, h2⟩ := hm.out aa
    exact k e F' L' h1 M a w ha h2
theorem TN {c : Code} (I : Nat → Env → FS → LH → Prop) (n0 : Nat) (h0 : meet (I n0) e F L)
    (round : ∀ n e F L, I n e F L → Gm P N r K c (andThen (fun e F L => ∃ n', n' < n ∧ Ks K (I n') e F L) Q) e F L) : Gm P N r K (.loop c) Q e F L := by
  obtain ⟨L2, L3, hp, hs, hm⟩ := h0
  refine Qb hp (So hs fun M a w ha hs => ?_)
  refine Na (fun s a w => ∃ M e F L, Ag N M e a ∧ St K M F L w ∧ I s e F L) id n0 ⟨M, e, F, L2, ha, hs, hm⟩ ?_
  rintro s a w ⟨M, e, F, L, ha, hs, hI⟩
  refine wpIn_mono (round s e F L hI M a w ha hs) ?_
  rintro ex a' w' ⟨M', e', F', L', h1, h2, h3⟩
  cases ex with
  | normal =>
    obtain ⟨s', h5, h4⟩ := h3
    obtain ⟨F2, L2, h6, h7⟩ := h4.out h2
    exact ⟨s', ⟨M', e', F2, L2, h1, h7, h6⟩, h5⟩
  | _ => exact ⟨M', e', F', L', h1, h2, h3⟩
theorem lf {I : Nat → Env → FS → LH → Prop} {n : Nat} (h : Ks K (I n) e F L) : andThen (fun e F L => ∃ n', n' < n + 1 ∧ Ks K (I n') e F L) Q .normal e F L := ⟨n, Nat.lt_succ_self _, h⟩
theorem mf (h : KL L L2) (hm : L9 e F L2) : Ks K L9 e F L := let ⟨L3, h1, h2⟩ := h; .now ⟨L2, L3, h1, h2, hm⟩
theorem Tr {L' : LH} (h : L = L') (k : Ks K L9 e F L') : Ks K L9 e F L := h ▸ k
theorem MA (i : Nat) {b : Nat} {o : Obj} (hi : L[i]? = some (b, o)) (hb : K.w0.heap.size ≤ b) (k : ∀ F', A4 F F' → F' b = some o → Ks K L9 e F' (L.eraseIdx i)) : Ks K L9 e F L := by
  refine .Yj (Lb := [(b, o)]) (Lr := L.eraseIdx i) ?_ (fun p hp => by rw [List.mem_singleton.1 hp]; exact hb) fun F' h1 h2 => k F' h1 (h2 (b, o) (List.mem_singleton.2 rfl))
  obtain ⟨aa, he⟩ := List.getElem?_eq_some_iff.1 hi
  rw [← he]
  exact Qa L i aa
end
theorem XS {xs : List Int} {i : Nat} {c : Int} (hc : xs[i]? = some c) : (sB xs)[i]? = some (UInt8.ofNat c.toNat) := by
  obtain ⟨hi, rfl⟩ := List.getElem?_eq_some_iff.1 hc
  have hs : i < (sB xs).size := by rw [PT]; exact hi
  rw [getElem?_pos (sB xs) i hs]
  congr 1
  rw [ByteArray.getElem_eq_getElem_data]
  simp [sB]
theorem Tt {P : Program} {N : Nat} {K : Ctx} {e : Env} {F : FS} {L : LH} {ty T : TypeId} {x y : Operand} {xs : List Int} {k : IntKind} {i c : Int} (hT : P.underlying T = some .string) (hx : ev e x = some (.string (sB xs))) (hy : ev e y = some (.int k i)) (h0 : 0 ≤ i) (hc : xs[i.toNat]? = some c) (g : 0 ≤ c ∧ c < 256) :
    Ft P N K e F L (.index T x y) ty (.int .u8 c) := Wn (fun w => by
  have h1 := XS hc
  have h2 : ((UInt8.ofNat c.toNat).toNat : Int) = c := by
    rw [UInt8.toNat_ofNat']
    omega
  simp [Instr.index, asIntOf, run_underlying hT, h0, h1]
  omega) hx hy
theorem W5 {n : Int} (h : 0 ≤ n ∧ n ≤ 1048576) : n.toNat ≤ maxLen := by simp only [maxLen]; omega
theorem Ft.b {P : Program} {N : Nat} {K : Ctx} {e : Env} {F : FS} {L : LH} {op : Op} {ty : TypeId} {p q : Bool} (h : Ft P N K e F L op ty (.bool p)) (he : p = q) : Ft P N K e F L op ty (.bool q) := he ▸ h
end Go.SH
