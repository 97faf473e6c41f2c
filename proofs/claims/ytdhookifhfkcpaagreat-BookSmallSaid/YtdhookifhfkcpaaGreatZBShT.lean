/- The calculus, part T: lists of lists, all of them owned. -/
import Derived.Test.YtdhookifhfkcpaaGreatZBShS
namespace Go.SH
abbrev Hd := Option Addr × Nat × Nat
def LR : Hf Hd := fun _ vs h => vs = [.slice h.1 h.2.1 h.2.2]
theorem DP : Ck 1 LR := ⟨fun _ h => h, fun h => by rw [show _ = _ from h]; rfl, fun h => by
  rw [show _ = _ from h]; intro v hv; rw [List.mem_singleton.1 hv]; rfl⟩
theorem JU : ∀ (Ls : List LH) (i : Nat) (Lb : LH), i < Ls.length → (Ls.set i Lb).flatten.Perm (Lb ++ (Ls.set i []).flatten)
  | [], i, _, h => by simp at h
  | L :: Ls, 0, Lb, _ => by simp
  | L :: Ls, i + 1, Lb, h => by
    simp only [List.set_cons_succ, List.flatten_cons]
    exact ((JU Ls i Lb (by simpa using h)).append_left L).trans (List.perm_append_comm_assoc ..)
theorem KQ {α : Type} {xs : List α} {i : Nat} {x : α} (h : xs[i]? = some x) : xs.set i x = xs := by
  obtain ⟨hi, rfl⟩ := List.getElem?_eq_some_iff.1 h
  exact List.set_getElem_self hi
section
variable {α : Type} {nb E sz : Nat} {R : Hf α} {F : FS} {hs : List Hd} {DM : List (List α)} {Lc : LH} {i : Nat}
def Lq (nb E sz : Nat) (R : Hf α) (F : FS) (hs : List Hd) (DM : List (List α)) (Lc : LH) : Prop :=
  ∃ Ls : List LH, Lc.Perm Ls.flatten ∧ hs.length = DM.length ∧ Ls.length = hs.length ∧ ∀ (j : Nat) (h : Hd) (xs : List α) (Lb : LH), hs[j]? = some h → DM[j]? = some xs → Ls[j]? = some Lb → AI nb E sz R F h.1 h.2.1 h.2.2 xs Lb
def Mz (nb E sz : Nat) (R : Hf α) (F : FS) (i : Nat) (hs : List Hd) (DM : List (List α)) (Lc : LH) : Prop :=
  ∃ Ls : List LH, Lc.Perm (Ls.set i []).flatten ∧ hs.length = DM.length ∧ Ls.length = hs.length ∧ i < hs.length ∧ ∀ (j : Nat) (h : Hd) (xs : List α) (Lb : LH), j ≠ i → hs[j]? = some h → DM[j]? = some xs → Ls[j]? = some Lb → AI nb E sz R F h.1 h.2.1 h.2.2 xs Lb
theorem Lq.nil : Lq nb E sz R F [] [] [] := ⟨[], .refl _, rfl, rfl, fun _ _ _ _ h => by simp at h⟩
theorem Lq.SU (k : Nat) : Lq nb E sz R F (List.replicate k (none, 0, 0)) (List.replicate k []) [] := ⟨List.replicate k [], by simp, by simp, by simp, fun j h xs Lb h1 h2 h3 => by
  rw [List.getElem?_replicate] at h1 h2 h3
  split at h1
  · rename_i hj
    rw [if_pos hj] at h2 h3
    cases h1; cases h2; cases h3
    exact AI.nil _ _ _ _ _
  · cases h1⟩
theorem Lq.mono (hR : Ck sz R) {F' : FS} (h : Lq nb E sz R F hs DM Lc) (hF : AQ F F') : Lq nb E sz R F' hs DM Lc := by
  obtain ⟨Ls, h1, h2, h3, h4⟩ := h
  exact ⟨Ls, h1, h2, h3, fun j h xs Lb e1 e2 e3 => (h4 j h xs Lb e1 e2 e3).mono hR hF⟩
theorem Mz.mono (hR : Ck sz R) {F' : FS} (h : Mz nb E sz R F i hs DM Lc) (hF : AQ F F') : Mz nb E sz R F' i hs DM Lc := by
  obtain ⟨Ls, h1, h2, h3, h5, h4⟩ := h
  exact ⟨Ls, h1, h2, h3, h5, fun j h xs Lb e0 e1 e2 e3 => (h4 j h xs Lb e0 e1 e2 e3).mono hR hF⟩
theorem Lq.len (h : Lq nb E sz R F hs DM Lc) : hs.length = DM.length := by obtain ⟨_, _, h, _⟩ := h; exact h
theorem Lq.snoc (h : Lq nb E sz R F hs DM Lc) {a : Option Addr} {n c : Nat} {xs : List α} {Lb : LH} (hr : AI nb E sz R F a n c xs Lb) : Lq nb E sz R F (hs ++ [(a, n, c)]) (DM ++ [xs]) (Lb ++ Lc) := by
  obtain ⟨Ls, h1, h2, h3, h4⟩ := h
  refine ⟨Ls ++ [Lb], ?_, by simp [h2], by simp [h3], fun j h ys Lb' e1 e2 e3 => ?_⟩
  · rw [List.flatten_append]
    simp only [List.flatten_cons, List.flatten_nil, List.append_nil]
    exact (h1.append_left Lb).trans List.perm_append_comm
  · by_cases hj : j < hs.length
    · rw [List.getElem?_append_left hj] at e1
      rw [List.getElem?_append_left (by omega)] at e2 e3
      exact h4 j h ys Lb' e1 e2 e3
    · rw [List.getElem?_append_right (by omega)] at e1 e2 e3
      have e0 : j - hs.length = 0 := by
        obtain ⟨aa, _⟩ := List.getElem?_eq_some_iff.1 e1
        simpa using aa
      rw [e0] at e1; rw [← h2, e0] at e2; rw [h3, e0] at e3
      cases e1; cases e2; cases e3
      exact hr
theorem Lq.open (h : Lq nb E sz R F hs DM Lc) {xs : List α} (hx : DM[i]? = some xs) : ∃ a n c Lb aa, hs[i]? = some (a, n, c) ∧ AI nb E sz R F a n c xs Lb ∧ Lc.Perm (Lb ++ aa) ∧ Mz nb E sz R F i hs DM aa := by
  obtain ⟨Ls, h1, h2, h3, h4⟩ := h
  obtain ⟨hi, _⟩ := List.getElem?_eq_some_iff.1 hx
  have e1 : hs[i]? = some (hs[i]'(by omega)) := List.getElem?_eq_getElem (by omega)
  have e3 : Ls[i]? = some (Ls[i]'(by omega)) := List.getElem?_eq_getElem (by omega)
  refine ⟨_, _, _, _, _, e1, h4 i _ _ _ e1 hx e3, ?_, Ls, .refl _, h2, h3, by omega, fun j h xs Lb _ => h4 j h xs Lb⟩
  have := JU Ls i (Ls[i]'(by omega)) (show i < Ls.length by omega)
  rw [KQ e3] at this
  exact h1.trans this
theorem Mz.close (h : Mz nb E sz R F i hs DM Lc) {a : Option Addr} {n c : Nat} {xs : List α} {Lb : LH} (hr : AI nb E sz R F a n c xs Lb) : Lq nb E sz R F (hs.set i (a, n, c)) (DM.set i xs) (Lb ++ Lc) := by
  obtain ⟨Ls, h1, h2, h3, h5, h4⟩ := h
  refine ⟨Ls.set i Lb, (h1.append_left Lb).trans (JU Ls i Lb (by omega)).symm, by simp [h2], by simp [h3], fun j h ys Lb' e1 e2 e3 => ?_⟩
  rw [List.getElem?_set] at e1 e2 e3
  by_cases hj : i = j
  · rw [if_pos hj] at e1 e2 e3
    rw [if_pos (by omega)] at e1 e2 e3
    cases e1; cases e2; cases e3
    exact hr
  · rw [if_neg hj] at e1 e2 e3
    exact h4 j h ys Lb' (fun he => hj he.symm) e1 e2 e3
theorem Mz.Ss (h : Mz nb E sz R F i hs DM Lc) {a : Option Addr} {n c : Nat} {xs : List α} {Lb : LH} (hh : hs[i]? = some (a, n, c)) (hr : AI nb E sz R F a n c xs Lb) : Lq nb E sz R F hs (DM.set i xs) (Lb ++ Lc) := by
  have := h.close hr
  rwa [KQ hh] at this
theorem Lq.rows (hR : Ck sz R) (h : Lq nb E sz R F hs DM Lc) {F' : FS} (hx : AQ F F') (hF : ∀ p ∈ Lc, F' p.1 = some p.2) : ∀ (j : Nat) (h : Hd) (xs : List α), hs[j]? = some h → DM[j]? = some xs → h.2.1 = xs.length ∧ At sz R F' h.1 h.2.2 xs := by
  obtain ⟨Ls, h1, h2, h3, h4⟩ := h
  intro j h xs e1 e2
  obtain ⟨hj, _⟩ := List.getElem?_eq_some_iff.1 e1
  have e3 : Ls[j]? = some (Ls[j]'(by omega)) := List.getElem?_eq_getElem (by omega)
  have aa := h4 j h xs _ e1 e2 e3
  refine ⟨aa.2.1, aa.row hR hx fun p hp => hF p ?_⟩
  exact h1.symm.subset (List.mem_flatten.2 ⟨_, List.getElem_mem _, hp⟩)
theorem Rx {vss : List (List Value)} (h : DT (LR F) vss hs) {F' : FS} (hl : hs.length = DM.length) (hr : ∀ (j : Nat) (h : Hd) (xs : List α), hs[j]? = some h → DM[j]? = some xs → h.2.1 = xs.length ∧ At sz R F' h.1 h.2.2 xs) : DT (CM sz R F') vss DM := by
  induction h generalizing DM with
  | nil =>
    cases DM with
    | nil => exact .nil
    | cons => simp at hl
  | cons h1 _ ih =>
    cases DM with
    | nil => simp at hl
    | cons xs DM =>
      rename_i v b as bs h2
      obtain ⟨e1, e2⟩ := hr 0 _ _ rfl rfl
      refine .cons ⟨b.1, b.2.2, ?_, e2⟩ (ih (by simpa using hl) fun j h ys f1 f2 => hr (j + 1) h ys f1 f2)
      rw [← e1]; exact h1
variable {P : Program} {N : Nat} {r : Option Nat} {K : Ctx} {ops : Array Oper} {Q : Env → FS → LH → Prop} {L Lr Lo : LH} {e : Env} {Eo Su n cap : Nat} {a : Option Addr}
theorem AI.S5 (ho : AI Su Eo 1 LR F a n cap hs Lo) (hR : Ck sz R) (h : Lq nb E sz R F hs DM Lc) {F' : FS} (hx : AQ F F') (hF : ∀ p ∈ Lo ++ Lc, F' p.1 = some p.2) : At 1 (CM sz R) F' a cap DM ∧ n = DM.length := by
  have h1 := ho.row DP hx fun p hp => hF p (List.mem_append_left _ hp)
  obtain ⟨vss, h2, h3⟩ := h1
  have hl := h.len
  refine ⟨⟨vss, Rx h2 hl (h.rows hR hx fun p hp => hF p (List.mem_append_right _ hp)), ?_⟩, by rw [ho.2.1, hl]⟩
  rw [← hl]; exact h3
theorem Lq.new (h : Lq nb E sz R F hs DM Lc) (hn : ∀ p ∈ Lc, Su ≤ p.1) : Lq Su E sz R F hs DM Lc := by
  obtain ⟨Ls, h1, h2, h3, h4⟩ := h
  exact ⟨Ls, h1, h2, h3, fun j h xs Lb e1 e2 e3 => ⟨fun p hp => hn p (h1.symm.subset (List.mem_flatten.2 ⟨Lb, List.mem_of_getElem? e3, hp⟩)), (h4 j h xs Lb e1 e2 e3).2⟩⟩
theorem Lq.ge (h : Lq nb E sz R F hs DM Lc) : ∀ p ∈ Lc, nb ≤ p.1 := fun p hp => by
  obtain ⟨Ls, h1, h2, h3, h4⟩ := h
  obtain ⟨Lb, h5, h6⟩ := List.mem_flatten.1 (h1.subset hp)
  obtain ⟨j, hj, rfl⟩ := List.getElem_of_mem h5
  exact (h4 j _ _ _ (List.getElem?_eq_getElem (by omega)) (List.getElem?_eq_getElem (by omega)) (List.getElem?_eq_getElem hj)).1 p h6
def Ev {α : Type} (nb E Ei sz : Nat) (R : Hf α) (F : FS) (a : Option Addr) (n cap : Nat) (DM : List (List α)) (Lb : LH) : Prop :=
  ∃ hs Lo Lc, Lb.Perm (Lo ++ Lc) ∧ AI nb E 1 LR F a n cap hs Lo ∧ Lq nb Ei sz R F hs DM Lc
variable {Ei : Nat} {Lb Li : LH} {xs : List α}
theorem Ev.nil (nb E Ei sz : Nat) (R : Hf α) (F : FS) : Ev nb E Ei sz R F none 0 0 [] [] := ⟨[], [], [], .refl _, AI.nil _ _ _ _ _, Lq.nil⟩
theorem Ev.mono (hR : Ck sz R) {F' : FS} (h : Ev nb E Ei sz R F a n cap DM Lb) (hF : AQ F F') : Ev nb E Ei sz R F' a n cap DM Lb := by
  obtain ⟨hs, Lo, Lc, h1, h2, h3⟩ := h
  exact ⟨hs, Lo, Lc, h1, h2.mono DP hF, h3.mono hR hF⟩
theorem Ev.A1 (h : Ev nb E Ei sz R F a n cap DM Lb) : n = DM.length ∧ n ≤ cap ∧ cap ≤ maxLen := by
  obtain ⟨hs, Lo, Lc, h1, h2, h3⟩ := h
  rw [← h3.len]; exact h2.A1
theorem Ev.FE (h : Ev nb E Ei sz R F a n cap DM Lb) : (DM.length : Int) = (n : Int) := by rw [h.A1.1]
theorem Ev.Po (h : Ev nb E Ei sz R F a n cap DM Lb) : (DM.length : Int) ≤ 9223372036854775807 := by
  have := h.A1; simp only [maxLen] at this; omega
theorem Ev.ge (h : Ev nb E Ei sz R F a n cap DM Lb) : ∀ p ∈ Lb, nb ≤ p.1 := fun p hp => by
  obtain ⟨hs, Lo, Lc, h1, h2, h3⟩ := h
  rcases List.mem_append.1 (h1.subset hp) with h | h
  · exact h2.1 p h
  · exact h3.ge p h
theorem Ev.new {m : Nat} (h : Ev m E Ei sz R F a n cap DM Lb) (hn : ∀ p ∈ Lb, nb ≤ p.1) : Ev nb E Ei sz R F a n cap DM Lb := by
  obtain ⟨hs, Lo, Lc, h1, h2, h3⟩ := h
  exact ⟨hs, Lo, Lc, h1, ⟨fun p hp => hn p (h1.symm.subset (List.mem_append_left _ hp)), h2.2⟩, h3.new fun p hp => hn p (h1.symm.subset (List.mem_append_right _ hp))⟩
theorem Ev.any (h : Ev nb E Ei sz R F a n cap DM Lb) : Ev 0 E Ei sz R F a n cap DM Lb := h.new fun _ _ => Nat.zero_le _
theorem Ev.row (h : Ev nb E Ei sz R F a n cap DM Lb) (hR : Ck sz R) {F' : FS} (hx : AQ F F') (hF : ∀ p ∈ Lb, F' p.1 = some p.2) : At 1 (CM sz R) F' a cap DM := by
  obtain ⟨hs, Lo, Lc, h1, h2, h3⟩ := h
  exact (h2.S5 hR h3 hx fun p hp => hF p (h1.symm.subset hp)).1
theorem Ev.made {k : Nat} (h : AI nb E 1 LR F a n cap (List.replicate k (none, 0, 0)) Lb) (hz : DM = List.replicate k []) : Ev nb E Ei sz R F a n cap DM Lb := by
  subst hz; exact ⟨_, Lb, [], by simp, h, Lq.SU k⟩
theorem N6 {m : Nat} (hn : n = m) {i : Int} (g : 0 ≤ i ∧ i < (m : Int)) : 0 ≤ i ∧ i < (n : Int) := by rw [hn]; exact g
theorem RG {hs : List Hd} (hn : n = DM.length) (h : AI nb E 1 LR F a n cap hs Lo) {i : Int} (g : 0 ≤ i ∧ i < (DM.length : Int)) : 0 ≤ i ∧ i < (hs.length : Int) := by rw [← h.2.1, hn]; exact g
theorem SL {hs : List Hd} {Lc : LH} {aa : List (List α)} {u : Hd} (h : Lq nb Ei sz R F hs DM Lc) (hz : aa = DM ++ [xs]) (hn : aa.length ≤ 1048576) : (hs ++ [u]).length ≤ 1048576 := by
  subst hz; rw [List.length_append, h.len]; simpa using hn
theorem Mz.back {m c : Nat} {a' : Option Addr} (h : Mz nb Ei sz R F i hs DM Lc) (ho : AI nb E 1 LR F a n cap (hs.set i (a', m, c)) Lo) (hr : AI nb Ei sz R F a' m c xs Li) {aa : List (List α)} (hz : aa = DM.set i xs) : Ev nb E Ei sz R F a n cap aa (Lo ++ (Li ++ (Lc ++ []))) := by
  subst hz; exact ⟨_, Lo, Li ++ Lc, by simp, ho, h.close hr⟩
theorem Mz.Ph {m c : Nat} {a' : Option Addr} (h : Mz nb Ei sz R F i hs DM Lc) (ho : AI nb E 1 LR F a n cap hs Lo) (hh : hs[i]? = some (a', m, c)) (hr : AI nb Ei sz R F a' m c xs Li) {aa : List (List α)} (hz : aa = DM.set i xs) : Ev nb E Ei sz R F a n cap aa (Lo ++ (Li ++ (Lc ++ []))) := by
  subst hz; exact ⟨_, Lo, Li ++ Lc, by simp, ho, h.Ss hh hr⟩
theorem Lq.push {m c : Nat} {a' : Option Addr} (h : Lq nb Ei sz R F hs DM Lc) {aa : List Hd} (he : aa = hs ++ [(a', m, c)]) (ho : AI nb E 1 LR F a n cap aa Lo) (hr : AI nb Ei sz R F a' m c xs Li) {ab : List (List α)} (hz : ab = DM ++ [xs]) : Ev nb E Ei sz R F a n cap ab (Lo ++ (Li ++ (Lc ++ []))) := by
  subst hz he; exact ⟨_, Lo, Li ++ Lc, by simp, ho, h.snoc hr⟩
theorem Km {Q : GI} {c : Code} (aa : K.w0.heap.size ≤ nb) (hR : Ck sz R) (hL : L.Perm (Lb ++ Lr)) (h : Ev nb E Ei sz R F a n cap DM Lb) (k : ∀ F', AQ F F' → At 1 (CM sz R) F' a cap DM → Gg P N r K c Q e F' Lr) : Gg P N r K c Q e F L := fun M act w ha hs => by
  obtain ⟨F', h1, h2, h3⟩ := St.JB Lb (hs.perm hL) (fun p hp => Nat.le_trans aa (h.ge p hp))
  exact k F' h2 (h.row hR h2 h3) M act w ha h1
theorem KK {l : List Oper} (hL : L.Perm (Lb ++ Lr)) (h : Ev nb E Ei sz R F a n cap DM Lb) (hx : DM[i]? = some xs)
    (k : ∀ hs Lo Lc a' m c Li, hs[i]? = some (a', m, c) → AI nb E 1 LR F a n cap hs Lo → AI nb Ei sz R F a' m c xs Li → Mz nb Ei sz R F i hs DM Lc → Ct P N r K ops Q l e F (Lo ++ (Li ++ (Lc ++ Lr)))) : Ct P N r K ops Q l e F L := by
  obtain ⟨hs, Lo, Lc, h1, h2, h3⟩ := h
  obtain ⟨a', m, c, Li, aa, h4, h5, h6, h7⟩ := h3.open hx
  refine Bc ?_ (k hs Lo aa a' m c Li h4 h2 h5 h7)
  refine hL.trans ((h1.append_right Lr).trans ?_)
  rw [List.append_assoc]
  refine List.Perm.append_left Lo ?_
  have := h6.append_right Lr
  rwa [List.append_assoc] at this
theorem OA {l : List Oper} (hL : L.Perm (Lb ++ Lr)) (h : Ev nb E Ei sz R F a n cap DM Lb) (k : ∀ hs Lo Lc, AI nb E 1 LR F a n cap hs Lo → Lq nb Ei sz R F hs DM Lc → Ct P N r K ops Q l e F (Lo ++ (Lc ++ Lr))) : Ct P N r K ops Q l e F L := by
  obtain ⟨hs, Lo, Lc, h1, h2, h3⟩ := h
  refine Bc ?_ (k hs Lo Lc h2 h3)
  refine hL.trans ((h1.append_right Lr).trans ?_)
  rw [List.append_assoc]
theorem Ij {p : LH → Prop} {A : LH} {l : List Oper} (h : p A) (hL : L.Perm (A ++ Lr)) (k : ∀ Lb, p Lb → Ct P N r K ops Q l e F (Lb ++ Lr)) : Ct P N r K ops Q l e F L := Bc hL (k A h)
end
inductive HE (K : Ctx) (KA : Env → FS → LH → Prop) (e : Env) : FS → LH → Prop
  | now {F : FS} {L : LH} (h : meet KA e F L) : HE K KA e F L
  | Sx {F : FS} {L Lb Lr : LH} (hL : L.Perm (Lb ++ Lr)) (hn : ∀ p ∈ Lb, K.w0.heap.size ≤ p.1) (k : ∀ F', AQ F F' → (∀ p ∈ Lb, F' p.1 = some p.2) → HE K KA e F' Lr) : HE K KA e F L
section
variable {P : Program} {N : Nat} {r : Option Nat} {K : Ctx} {Q : GI} {e : Env} {F : FS} {L Lb Lr L2 : LH} {KA : Env → FS → LH → Prop}
theorem NT {α : Type} : ∀ (L : List α) (i : Nat) (h : i < L.length), L.Perm ([L[i]] ++ L.eraseIdx i)
  | [], _, h => by simp at h
  | x :: L, 0, _ => by simp
  | x :: L, i + 1, h => by
    simp only [List.getElem_cons_succ, List.eraseIdx_cons_succ]
    exact ((NT L i (by simpa using h)).cons x).trans (List.Perm.swap ..)
theorem HE.out (h : HE K KA e F L) {M : List Nat} {w : World} (hs : St K M F L w) : ∃ F' L', KA e F' L' ∧ St K M F' L' w := by
  induction h with
  | now h => obtain ⟨L2, L3, hp, aa, hm⟩ := h; exact ⟨_, _, hm, (hs.perm hp).drop aa⟩
  | Sx hL hn _ ih =>
    obtain ⟨F', h1, h2, h3⟩ := St.JB _ (hs.perm hL) hn
    exact ih F' h2 h3 h1
theorem LO {x y : Code} (KA : Env → FS → LH → Prop) (h : Gg P N r K x (andThen (HE K KA) Q) e F L) (k : ∀ e F L, KA e F L → Gg P N r K y Q e F L) : Gg P N r K (.seq x y) Q e F L :=
  Ns (HE K KA) h fun e F L hm M a w ha aa => by
    obtain ⟨F', L', h1, h2⟩ := hm.out aa
    exact k e F' L' h1 M a w ha h2
theorem MP {c : Code} (I : Nat → Env → FS → LH → Prop) (n0 : Nat) (h0 : meet (I n0) e F L)
    (round : ∀ n e F L, I n e F L → Gg P N r K c (andThen (fun e F L => ∃ n', n' < n ∧ HE K (I n') e F L) Q) e F L) : Gg P N r K (.loop c) Q e F L := by
  obtain ⟨L2, L3, hp, hs, hm⟩ := h0
  refine PJ hp (Pl hs fun M a w ha hs => ?_)
  refine Ma (fun s a w => ∃ M e F L, Ag N M e a ∧ St K M F L w ∧ I s e F L) id n0 ⟨M, e, F, L2, ha, hs, hm⟩ ?_
  rintro s a w ⟨M, e, F, L, ha, hs, hI⟩
  refine wpIn_mono (round s e F L hI M a w ha hs) ?_
  rintro ex a' w' ⟨M', e', F', L', h1, h2, h3⟩
  cases ex with
  | normal =>
    obtain ⟨s', h5, h4⟩ := h3
    obtain ⟨F2, L2, h6, h7⟩ := h4.out h2
    exact ⟨s', ⟨M', e', F2, L2, h1, h7, h6⟩, h5⟩
  | _ => exact ⟨M', e', F', L', h1, h2, h3⟩
theorem lf {I : Nat → Env → FS → LH → Prop} {n : Nat} (h : HE K (I n) e F L) : andThen (fun e F L => ∃ n', n' < n + 1 ∧ HE K (I n') e F L) Q .normal e F L := ⟨n, Nat.lt_succ_self _, h⟩
theorem mf (h : KL L L2) (hm : KA e F L2) : HE K KA e F L := let ⟨L3, h1, h2⟩ := h; .now ⟨L2, L3, h1, h2, hm⟩
theorem QC {L' : LH} (hp : L.Perm L') (k : HE K KA e F L') : HE K KA e F L := by
  cases k with
  | now h => obtain ⟨L2, L3, h1, h2, h3⟩ := h; exact .now ⟨L2, L3, hp.trans h1, h2, h3⟩
  | Sx hL hn hk => exact .Sx (hp.trans hL) hn hk
theorem QN {p : LH → Prop} {A : LH} (h : p A) (hL : L.Perm (A ++ Lr)) (k : ∀ Lb, p Lb → HE K KA e F (Lb ++ Lr)) : HE K KA e F L := QC hL (k A h)
theorem PU {L' : LH} (h : L = L') (k : HE K KA e F L') : HE K KA e F L := h ▸ k
theorem K1 {α : Type} {R : Hf α} {a : Option Addr} {n cap : Nat} {xs : List α} {nb E sz : Nat} (aa : K.w0.heap.size ≤ nb) (hR : Ck sz R) (hL : L.Perm (Lb ++ Lr)) (h : AI nb E sz R F a n cap xs Lb) (k : ∀ F', AQ F F' → At sz R F' a cap xs → HE K KA e F' Lr) : HE K KA e F L :=
  .Sx hL (fun p hp => Nat.le_trans aa (h.1 p hp)) fun F' h1 h2 => k F' h1 (h.row hR h1 h2)
theorem LD (i : Nat) {b : Nat} {o : Obj} (hi : L[i]? = some (b, o)) (hb : K.w0.heap.size ≤ b) (k : ∀ F', AQ F F' → F' b = some o → HE K KA e F' (L.eraseIdx i)) : HE K KA e F L := by
  refine .Sx (Lb := [(b, o)]) (Lr := L.eraseIdx i) ?_ (fun p hp => by rw [List.mem_singleton.1 hp]; exact hb) fun F' h1 h2 => k F' h1 (h2 (b, o) (List.mem_singleton.2 rfl))
  obtain ⟨aa, he⟩ := List.getElem?_eq_some_iff.1 hi
  rw [← he]
  exact NT L i aa
end
theorem Nm {n : Int} (h : 0 ≤ n ∧ n ≤ 1048576) : n.toNat ≤ maxLen := by simp only [maxLen]; omega
theorem AI.nn {α : Type} {nb E sz : Nat} {R : Hf α} {F : FS} {a : Option Addr} {n cap : Nat} {xs : List α} {Lb : LH} (h : AI nb E sz R F a n cap xs Lb) (g : xs ≠ []) : a = none ↔ xs = [] := by
  obtain ⟨_, h2, vss, _, _, _, h3⟩ := h
  refine ⟨fun ha => ?_, fun he => absurd he g⟩
  rcases h3 with ⟨a', _, h4, _⟩ | ⟨g', aa, pre, sp, h4, _⟩
  · exact List.eq_nil_of_length_eq_zero (h2 ▸ h4)
  · rw [ha] at h4; cases h4
theorem MO {α : Type} [DecidableEq α] {a : Option Addr} {xs : List α} (h : a = none ↔ xs = []) : a.isNone = decide (xs = []) := by
  cases a with
  | none => simp [h.1 rfl]
  | some a => have : xs ≠ [] := fun he => nomatch h.2 he
              simp [this]
theorem NU {α : Type} : (none : Option Addr) = none ↔ ([] : List α) = [] := by simp
theorem Fb.b {P : Program} {N : Nat} {K : Ctx} {e : Env} {F : FS} {L : LH} {op : Op} {ty : TypeId} {p q : Bool} (h : Fb P N K e F L op ty (.bool p)) (he : p = q) : Fb P N K e F L op ty (.bool q) := he ▸ h
end Go.SH
