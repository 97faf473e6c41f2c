/- The calculus, part T: lists of lists, all of them owned. -/
import Derived.Test.YtggpjocmoelpbaaGreatZAShS
namespace Go.SH
abbrev Hd := Option Addr × Nat × Nat
def hdE : Enc Hd := fun _ vs h => vs = [.slice h.1 h.2.1 h.2.2]
theorem hdE_ok : EncOK 1 hdE := ⟨fun _ h => h, fun h => by rw [show _ = _ from h]; rfl, fun h => by
  rw [show _ = _ from h]; intro v hv; rw [List.mem_singleton.1 hv]; rfl⟩
theorem flat_set : ∀ (Ls : List LH) (i : Nat) (Lb : LH), i < Ls.length → (Ls.set i Lb).flatten.Perm (Lb ++ (Ls.set i []).flatten)
  | [], i, _, h => by simp at h
  | L :: Ls, 0, Lb, _ => by simp
  | L :: Ls, i + 1, Lb, h => by
    simp only [List.set_cons_succ, List.flatten_cons]
    exact ((flat_set Ls i Lb (by simpa using h)).append_left L).trans (List.perm_append_comm_assoc ..)
theorem set_same {α : Type} {xs : List α} {i : Nat} {x : α} (h : xs[i]? = some x) : xs.set i x = xs := by
  obtain ⟨hi, rfl⟩ := List.getElem?_eq_some_iff.1 h
  exact List.set_getElem_self hi
section
variable {α : Type} {nb E sz : Nat} {R : Enc α} {F : FS} {hs : List Hd} {xss : List (List α)} {Lc : LH} {i : Nat}
def InP (nb E sz : Nat) (R : Enc α) (F : FS) (hs : List Hd) (xss : List (List α)) (Lc : LH) : Prop :=
  ∃ Ls : List LH, Lc.Perm Ls.flatten ∧ hs.length = xss.length ∧ Ls.length = hs.length ∧ ∀ (j : Nat) (h : Hd) (xs : List α) (Lb : LH), hs[j]? = some h → xss[j]? = some xs → Ls[j]? = some Lb → SlR nb E sz R F h.1 h.2.1 h.2.2 xs Lb
def InH (nb E sz : Nat) (R : Enc α) (F : FS) (i : Nat) (hs : List Hd) (xss : List (List α)) (Lc : LH) : Prop :=
  ∃ Ls : List LH, Lc.Perm (Ls.set i []).flatten ∧ hs.length = xss.length ∧ Ls.length = hs.length ∧ i < hs.length ∧ ∀ (j : Nat) (h : Hd) (xs : List α) (Lb : LH), j ≠ i → hs[j]? = some h → xss[j]? = some xs → Ls[j]? = some Lb → SlR nb E sz R F h.1 h.2.1 h.2.2 xs Lb
theorem InP.nil : InP nb E sz R F [] [] [] := ⟨[], .refl _, rfl, rfl, fun _ _ _ _ h => by simp at h⟩
theorem InP.zeros (k : Nat) : InP nb E sz R F (List.replicate k (none, 0, 0)) (List.replicate k []) [] := ⟨List.replicate k [], by simp, by simp, by simp, fun j h xs Lb h1 h2 h3 => by
  rw [List.getElem?_replicate] at h1 h2 h3
  split at h1
  · rename_i hj
    rw [if_pos hj] at h2 h3
    cases h1; cases h2; cases h3
    exact SlR.nil _ _ _ _ _
  · cases h1⟩
theorem InP.mono (hR : EncOK sz R) {F' : FS} (h : InP nb E sz R F hs xss Lc) (hF : FExt F F') : InP nb E sz R F' hs xss Lc := by
  obtain ⟨Ls, h1, h2, h3, h4⟩ := h
  exact ⟨Ls, h1, h2, h3, fun j h xs Lb e1 e2 e3 => (h4 j h xs Lb e1 e2 e3).mono hR hF⟩
theorem InH.mono (hR : EncOK sz R) {F' : FS} (h : InH nb E sz R F i hs xss Lc) (hF : FExt F F') : InH nb E sz R F' i hs xss Lc := by
  obtain ⟨Ls, h1, h2, h3, h5, h4⟩ := h
  exact ⟨Ls, h1, h2, h3, h5, fun j h xs Lb e0 e1 e2 e3 => (h4 j h xs Lb e0 e1 e2 e3).mono hR hF⟩
theorem InP.len (h : InP nb E sz R F hs xss Lc) : hs.length = xss.length := by obtain ⟨_, _, h, _⟩ := h; exact h
theorem InP.snoc (h : InP nb E sz R F hs xss Lc) {a : Option Addr} {n c : Nat} {xs : List α} {Lb : LH} (hr : SlR nb E sz R F a n c xs Lb) : InP nb E sz R F (hs ++ [(a, n, c)]) (xss ++ [xs]) (Lb ++ Lc) := by
  obtain ⟨Ls, h1, h2, h3, h4⟩ := h
  refine ⟨Ls ++ [Lb], ?_, by simp [h2], by simp [h3], fun j h ys Lb' e1 e2 e3 => ?_⟩
  · rw [List.flatten_append]
    simp only [List.flatten_cons, List.flatten_nil, List.append_nil]
    exact (h1.append_left Lb).trans List.perm_append_comm
  · by_cases hj : j < hs.length
    · rw [List.getElem?_append_left hj] at e1
      rw [List.getElem?_append_left (by omega)] at e2 e3
      exact h4 j h ys Lb' e1 e2 e3
    · rw [List.getElem?_append_right (by omega)] at e1 e2 e3
      have e0 : j - hs.length = 0 := by
        obtain ⟨hlt, _⟩ := List.getElem?_eq_some_iff.1 e1
        simpa using hlt
      rw [e0] at e1; rw [← h2, e0] at e2; rw [h3, e0] at e3
      cases e1; cases e2; cases e3
      exact hr
theorem InP.open (h : InP nb E sz R F hs xss Lc) {xs : List α} (hx : xss[i]? = some xs) : ∃ a n c Lb Lc', hs[i]? = some (a, n, c) ∧ SlR nb E sz R F a n c xs Lb ∧ Lc.Perm (Lb ++ Lc') ∧ InH nb E sz R F i hs xss Lc' := by
  obtain ⟨Ls, h1, h2, h3, h4⟩ := h
  obtain ⟨hi, _⟩ := List.getElem?_eq_some_iff.1 hx
  have e1 : hs[i]? = some (hs[i]'(by omega)) := List.getElem?_eq_getElem (by omega)
  have e3 : Ls[i]? = some (Ls[i]'(by omega)) := List.getElem?_eq_getElem (by omega)
  refine ⟨_, _, _, _, _, e1, h4 i _ _ _ e1 hx e3, ?_, Ls, .refl _, h2, h3, by omega, fun j h xs Lb _ => h4 j h xs Lb⟩
  have := flat_set Ls i (Ls[i]'(by omega)) (show i < Ls.length by omega)
  rw [set_same e3] at this
  exact h1.trans this
theorem InH.close (h : InH nb E sz R F i hs xss Lc) {a : Option Addr} {n c : Nat} {xs : List α} {Lb : LH} (hr : SlR nb E sz R F a n c xs Lb) : InP nb E sz R F (hs.set i (a, n, c)) (xss.set i xs) (Lb ++ Lc) := by
  obtain ⟨Ls, h1, h2, h3, h5, h4⟩ := h
  refine ⟨Ls.set i Lb, (h1.append_left Lb).trans (flat_set Ls i Lb (by omega)).symm, by simp [h2], by simp [h3], fun j h ys Lb' e1 e2 e3 => ?_⟩
  rw [List.getElem?_set] at e1 e2 e3
  by_cases hj : i = j
  · rw [if_pos hj] at e1 e2 e3
    rw [if_pos (by omega)] at e1 e2 e3
    cases e1; cases e2; cases e3
    exact hr
  · rw [if_neg hj] at e1 e2 e3
    exact h4 j h ys Lb' (fun he => hj he.symm) e1 e2 e3
theorem InH.close0 (h : InH nb E sz R F i hs xss Lc) {a : Option Addr} {n c : Nat} {xs : List α} {Lb : LH} (hh : hs[i]? = some (a, n, c)) (hr : SlR nb E sz R F a n c xs Lb) : InP nb E sz R F hs (xss.set i xs) (Lb ++ Lc) := by
  have := h.close hr
  rwa [set_same hh] at this
theorem InP.rows (hR : EncOK sz R) (h : InP nb E sz R F hs xss Lc) {F' : FS} (hx : FExt F F') (hF : ∀ p ∈ Lc, F' p.1 = some p.2) : ∀ (j : Nat) (h : Hd) (xs : List α), hs[j]? = some h → xss[j]? = some xs → h.2.1 = xs.length ∧ RowR sz R F' h.1 h.2.2 xs := by
  obtain ⟨Ls, h1, h2, h3, h4⟩ := h
  intro j h xs e1 e2
  obtain ⟨hj, _⟩ := List.getElem?_eq_some_iff.1 e1
  have e3 : Ls[j]? = some (Ls[j]'(by omega)) := List.getElem?_eq_getElem (by omega)
  have hs' := h4 j h xs _ e1 e2 e3
  refine ⟨hs'.2.1, hs'.row hR hx fun p hp => hF p ?_⟩
  exact h1.symm.subset (List.mem_flatten.2 ⟨_, List.getElem_mem _, hp⟩)
theorem all2_hd {vss : List (List Value)} (h : All2 (hdE F) vss hs) {F' : FS} (hl : hs.length = xss.length) (hr : ∀ (j : Nat) (h : Hd) (xs : List α), hs[j]? = some h → xss[j]? = some xs → h.2.1 = xs.length ∧ RowR sz R F' h.1 h.2.2 xs) : All2 (slE sz R F') vss xss := by
  induction h generalizing xss with
  | nil =>
    cases xss with
    | nil => exact .nil
    | cons => simp at hl
  | cons h1 _ ih =>
    cases xss with
    | nil => simp at hl
    | cons xs xss =>
      rename_i v b as bs h2
      obtain ⟨e1, e2⟩ := hr 0 _ _ rfl rfl
      refine .cons ⟨b.1, b.2.2, ?_, e2⟩ (ih (by simpa using hl) fun j h ys f1 f2 => hr (j + 1) h ys f1 f2)
      rw [← e1]; exact h1
variable {P : Program} {N : Nat} {r : Option Nat} {K : Ctx} {ops : Array Oper} {Q : Env → FS → LH → Prop} {L Lr Lo : LH} {e : Env} {Eo nb' n cap : Nat} {a : Option Addr}
theorem SlR.rowN (ho : SlR nb' Eo 1 hdE F a n cap hs Lo) (hR : EncOK sz R) (h : InP nb E sz R F hs xss Lc) {F' : FS} (hx : FExt F F') (hF : ∀ p ∈ Lo ++ Lc, F' p.1 = some p.2) : RowR 1 (slE sz R) F' a cap xss ∧ n = xss.length := by
  have h1 := ho.row hdE_ok hx fun p hp => hF p (List.mem_append_left _ hp)
  obtain ⟨vss, h2, h3⟩ := h1
  have hl := h.len
  refine ⟨⟨vss, all2_hd h2 hl (h.rows hR hx fun p hp => hF p (List.mem_append_right _ hp)), ?_⟩, by rw [ho.2.1, hl]⟩
  rw [← hl]; exact h3
theorem InP.new (h : InP nb E sz R F hs xss Lc) (hn : ∀ p ∈ Lc, nb' ≤ p.1) : InP nb' E sz R F hs xss Lc := by
  obtain ⟨Ls, h1, h2, h3, h4⟩ := h
  exact ⟨Ls, h1, h2, h3, fun j h xs Lb e1 e2 e3 => ⟨fun p hp => hn p (h1.symm.subset (List.mem_flatten.2 ⟨Lb, List.mem_of_getElem? e3, hp⟩)), (h4 j h xs Lb e1 e2 e3).2⟩⟩
theorem InP.ge (h : InP nb E sz R F hs xss Lc) : ∀ p ∈ Lc, nb ≤ p.1 := fun p hp => by
  obtain ⟨Ls, h1, h2, h3, h4⟩ := h
  obtain ⟨Lb, h5, h6⟩ := List.mem_flatten.1 (h1.subset hp)
  obtain ⟨j, hj, rfl⟩ := List.getElem_of_mem h5
  exact (h4 j _ _ _ (List.getElem?_eq_getElem (by omega)) (List.getElem?_eq_getElem (by omega)) (List.getElem?_eq_getElem hj)).1 p h6
def NlR {α : Type} (nb E Ei sz : Nat) (R : Enc α) (F : FS) (a : Option Addr) (n cap : Nat) (xss : List (List α)) (Lb : LH) : Prop :=
  ∃ hs Lo Lc, Lb.Perm (Lo ++ Lc) ∧ SlR nb E 1 hdE F a n cap hs Lo ∧ InP nb Ei sz R F hs xss Lc
variable {Ei : Nat} {Lb Li : LH} {xs : List α}
theorem NlR.nil (nb E Ei sz : Nat) (R : Enc α) (F : FS) : NlR nb E Ei sz R F none 0 0 [] [] := ⟨[], [], [], .refl _, SlR.nil _ _ _ _ _, InP.nil⟩
theorem NlR.mono (hR : EncOK sz R) {F' : FS} (h : NlR nb E Ei sz R F a n cap xss Lb) (hF : FExt F F') : NlR nb E Ei sz R F' a n cap xss Lb := by
  obtain ⟨hs, Lo, Lc, h1, h2, h3⟩ := h
  exact ⟨hs, Lo, Lc, h1, h2.mono hdE_ok hF, h3.mono hR hF⟩
theorem NlR.caps (h : NlR nb E Ei sz R F a n cap xss Lb) : n = xss.length ∧ n ≤ cap ∧ cap ≤ maxLen := by
  obtain ⟨hs, Lo, Lc, h1, h2, h3⟩ := h
  rw [← h3.len]; exact h2.caps
theorem NlR.lenI (h : NlR nb E Ei sz R F a n cap xss Lb) : (xss.length : Int) = (n : Int) := by rw [h.caps.1]
theorem NlR.llt (h : NlR nb E Ei sz R F a n cap xss Lb) : (xss.length : Int) ≤ 9223372036854775807 := by
  have := h.caps; simp only [maxLen] at this; omega
theorem NlR.ge (h : NlR nb E Ei sz R F a n cap xss Lb) : ∀ p ∈ Lb, nb ≤ p.1 := fun p hp => by
  obtain ⟨hs, Lo, Lc, h1, h2, h3⟩ := h
  rcases List.mem_append.1 (h1.subset hp) with h | h
  · exact h2.1 p h
  · exact h3.ge p h
theorem NlR.new {m : Nat} (h : NlR m E Ei sz R F a n cap xss Lb) (hn : ∀ p ∈ Lb, nb ≤ p.1) : NlR nb E Ei sz R F a n cap xss Lb := by
  obtain ⟨hs, Lo, Lc, h1, h2, h3⟩ := h
  exact ⟨hs, Lo, Lc, h1, ⟨fun p hp => hn p (h1.symm.subset (List.mem_append_left _ hp)), h2.2⟩, h3.new fun p hp => hn p (h1.symm.subset (List.mem_append_right _ hp))⟩
theorem NlR.any (h : NlR nb E Ei sz R F a n cap xss Lb) : NlR 0 E Ei sz R F a n cap xss Lb := h.new fun _ _ => Nat.zero_le _
theorem NlR.row (h : NlR nb E Ei sz R F a n cap xss Lb) (hR : EncOK sz R) {F' : FS} (hx : FExt F F') (hF : ∀ p ∈ Lb, F' p.1 = some p.2) : RowR 1 (slE sz R) F' a cap xss := by
  obtain ⟨hs, Lo, Lc, h1, h2, h3⟩ := h
  exact (h2.rowN hR h3 hx fun p hp => hF p (h1.symm.subset hp)).1
theorem NlR.made {k : Nat} (h : SlR nb E 1 hdE F a n cap (List.replicate k (none, 0, 0)) Lb) (hz : xss = List.replicate k []) : NlR nb E Ei sz R F a n cap xss Lb := by
  subst hz; exact ⟨_, Lb, [], by simp, h, InP.zeros k⟩
theorem idxN {m : Nat} (hn : n = m) {i : Int} (g : 0 ≤ i ∧ i < (m : Int)) : 0 ≤ i ∧ i < (n : Int) := by rw [hn]; exact g
theorem idxH {hs : List Hd} (hn : n = xss.length) (h : SlR nb E 1 hdE F a n cap hs Lo) {i : Int} (g : 0 ≤ i ∧ i < (xss.length : Int)) : 0 ≤ i ∧ i < (hs.length : Int) := by rw [← h.2.1, hn]; exact g
theorem lenH {hs : List Hd} {Lc : LH} {zss : List (List α)} {u : Hd} (h : InP nb Ei sz R F hs xss Lc) (hz : zss = xss ++ [xs]) (hn : zss.length ≤ 1048576) : (hs ++ [u]).length ≤ 1048576 := by
  subst hz; rw [List.length_append, h.len]; simpa using hn
theorem InH.back {m c : Nat} {a' : Option Addr} (h : InH nb Ei sz R F i hs xss Lc) (ho : SlR nb E 1 hdE F a n cap (hs.set i (a', m, c)) Lo) (hr : SlR nb Ei sz R F a' m c xs Li) {zss : List (List α)} (hz : zss = xss.set i xs) : NlR nb E Ei sz R F a n cap zss (Lo ++ (Li ++ (Lc ++ []))) := by
  subst hz; exact ⟨_, Lo, Li ++ Lc, by simp, ho, h.close hr⟩
theorem InH.back0 {m c : Nat} {a' : Option Addr} (h : InH nb Ei sz R F i hs xss Lc) (ho : SlR nb E 1 hdE F a n cap hs Lo) (hh : hs[i]? = some (a', m, c)) (hr : SlR nb Ei sz R F a' m c xs Li) {zss : List (List α)} (hz : zss = xss.set i xs) : NlR nb E Ei sz R F a n cap zss (Lo ++ (Li ++ (Lc ++ []))) := by
  subst hz; exact ⟨_, Lo, Li ++ Lc, by simp, ho, h.close0 hh hr⟩
theorem InP.push {m c : Nat} {a' : Option Addr} (h : InP nb Ei sz R F hs xss Lc) {hs' : List Hd} (he : hs' = hs ++ [(a', m, c)]) (ho : SlR nb E 1 hdE F a n cap hs' Lo) (hr : SlR nb Ei sz R F a' m c xs Li) {zss : List (List α)} (hz : zss = xss ++ [xs]) : NlR nb E Ei sz R F a n cap zss (Lo ++ (Li ++ (Lc ++ []))) := by
  subst hz he; exact ⟨_, Lo, Li ++ Lc, by simp, ho, h.snoc hr⟩
theorem shW_freezeN {Q : Post} {c : Code} (hnb : K.w0.heap.size ≤ nb) (hR : EncOK sz R) (hL : L.Perm (Lb ++ Lr)) (h : NlR nb E Ei sz R F a n cap xss Lb) (k : ∀ F', FExt F F' → RowR 1 (slE sz R) F' a cap xss → shW P N r K c Q e F' Lr) : shW P N r K c Q e F L := fun M act w ha hs => by
  obtain ⟨F', h1, h2, h3⟩ := St.freezeAll Lb (hs.perm hL) (fun p hp => Nat.le_trans hnb (h.ge p hp))
  exact k F' h2 (h.row hR h2 h3) M act w ha h1
theorem shO_open {l : List Oper} (hL : L.Perm (Lb ++ Lr)) (h : NlR nb E Ei sz R F a n cap xss Lb) (hx : xss[i]? = some xs)
    (k : ∀ hs Lo Lc a' m c Li, hs[i]? = some (a', m, c) → SlR nb E 1 hdE F a n cap hs Lo → SlR nb Ei sz R F a' m c xs Li → InH nb Ei sz R F i hs xss Lc → shO P N r K ops Q l e F (Lo ++ (Li ++ (Lc ++ Lr)))) : shO P N r K ops Q l e F L := by
  obtain ⟨hs, Lo, Lc, h1, h2, h3⟩ := h
  obtain ⟨a', m, c, Li, Lc', h4, h5, h6, h7⟩ := h3.open hx
  refine shO_perm ?_ (k hs Lo Lc' a' m c Li h4 h2 h5 h7)
  refine hL.trans ((h1.append_right Lr).trans ?_)
  rw [List.append_assoc]
  refine List.Perm.append_left Lo ?_
  have := h6.append_right Lr
  rwa [List.append_assoc] at this
theorem shW_open {Q : Post} {y : Code} (hL : L.Perm (Lb ++ Lr)) (h : NlR nb E Ei sz R F a n cap xss Lb) (hx : xss[i]? = some xs)
    (k : ∀ hs Lo Lc a' m c Li, hs[i]? = some (a', m, c) → SlR nb E 1 hdE F a n cap hs Lo → SlR nb Ei sz R F a' m c xs Li → InH nb Ei sz R F i hs xss Lc → shW P N r K y Q e F (Lo ++ (Li ++ (Lc ++ Lr)))) : shW P N r K y Q e F L := by
  obtain ⟨hs, Lo, Lc, h1, h2, h3⟩ := h
  obtain ⟨a', m, c, Li, Lc', h4, h5, h6, h7⟩ := h3.open hx
  refine shW_perm ?_ (k hs Lo Lc' a' m c Li h4 h2 h5 h7)
  refine hL.trans ((h1.append_right Lr).trans ?_)
  rw [List.append_assoc]
  refine List.Perm.append_left Lo ?_
  have := h6.append_right Lr
  rwa [List.append_assoc] at this
theorem shO_split {l : List Oper} (hL : L.Perm (Lb ++ Lr)) (h : NlR nb E Ei sz R F a n cap xss Lb) (k : ∀ hs Lo Lc, SlR nb E 1 hdE F a n cap hs Lo → InP nb Ei sz R F hs xss Lc → shO P N r K ops Q l e F (Lo ++ (Lc ++ Lr))) : shO P N r K ops Q l e F L := by
  obtain ⟨hs, Lo, Lc, h1, h2, h3⟩ := h
  refine shO_perm ?_ (k hs Lo Lc h2 h3)
  refine hL.trans ((h1.append_right Lr).trans ?_)
  rw [List.append_assoc]
theorem shO_fold {p : LH → Prop} {A : LH} {l : List Oper} (h : p A) (hL : L.Perm (A ++ Lr)) (k : ∀ Lb, p Lb → shO P N r K ops Q l e F (Lb ++ Lr)) : shO P N r K ops Q l e F L := shO_perm hL (k A h)
end
inductive MeetF (K : Ctx) (mid : Env → FS → LH → Prop) (e : Env) : FS → LH → Prop
  | now {F : FS} {L : LH} (h : meet mid e F L) : MeetF K mid e F L
  | frz {F : FS} {L Lb Lr : LH} (hL : L.Perm (Lb ++ Lr)) (hn : ∀ p ∈ Lb, K.w0.heap.size ≤ p.1) (k : ∀ F', FExt F F' → (∀ p ∈ Lb, F' p.1 = some p.2) → MeetF K mid e F' Lr) : MeetF K mid e F L
section
variable {P : Program} {N : Nat} {r : Option Nat} {K : Ctx} {Q : Post} {e : Env} {F : FS} {L Lb Lr L2 : LH} {mid : Env → FS → LH → Prop}
theorem perm_erase {α : Type} : ∀ (L : List α) (i : Nat) (h : i < L.length), L.Perm ([L[i]] ++ L.eraseIdx i)
  | [], _, h => by simp at h
  | x :: L, 0, _ => by simp
  | x :: L, i + 1, h => by
    simp only [List.getElem_cons_succ, List.eraseIdx_cons_succ]
    exact ((perm_erase L i (by simpa using h)).cons x).trans (List.Perm.swap ..)
theorem MeetF.out (h : MeetF K mid e F L) {M : List Nat} {w : World} (hs : St K M F L w) : ∃ F' L', mid e F' L' ∧ St K M F' L' w := by
  induction h with
  | now h => obtain ⟨L2, L3, hp, hs', hm⟩ := h; exact ⟨_, _, hm, (hs.perm hp).drop hs'⟩
  | frz hL hn _ ih =>
    obtain ⟨F', h1, h2, h3⟩ := St.freezeAll _ (hs.perm hL) hn
    exact ih F' h2 h3 h1
theorem shW_joinF {x y : Code} (mid : Env → FS → LH → Prop) (h : shW P N r K x (andThen (MeetF K mid) Q) e F L) (k : ∀ e F L, mid e F L → shW P N r K y Q e F L) : shW P N r K (.seq x y) Q e F L :=
  shW_seq_mid (MeetF K mid) h fun e F L hm M a w ha hst => by
    obtain ⟨F', L', h1, h2⟩ := hm.out hst
    exact k e F' L' h1 M a w ha h2
theorem shW_lpF {c : Code} (I : Nat → Env → FS → LH → Prop) (n0 : Nat) (h0 : meet (I n0) e F L)
    (round : ∀ n e F L, I n e F L → shW P N r K c (andThen (fun e F L => ∃ n', n' < n ∧ MeetF K (I n') e F L) Q) e F L) : shW P N r K (.loop c) Q e F L := by
  obtain ⟨L2, L3, hp, hs, hm⟩ := h0
  refine shW_perm hp (shW_drop hs fun M a w ha hs => ?_)
  refine sh_loop_ghost (fun s a w => ∃ M e F L, Ag N M e a ∧ St K M F L w ∧ I s e F L) id n0 ⟨M, e, F, L2, ha, hs, hm⟩ ?_
  rintro s a w ⟨M, e, F, L, ha, hs, hI⟩
  refine wpIn_mono (round s e F L hI M a w ha hs) ?_
  rintro ex a' w' ⟨M', e', F', L', h1, h2, h3⟩
  cases ex with
  | normal =>
    obtain ⟨s', h5, h4⟩ := h3
    obtain ⟨F2, L2, h6, h7⟩ := h4.out h2
    exact ⟨s', ⟨M', e', F2, L2, h1, h7, h6⟩, h5⟩
  | _ => exact ⟨M', e', F', L', h1, h2, h3⟩
theorem lf {I : Nat → Env → FS → LH → Prop} {n : Nat} (h : MeetF K (I n) e F L) : andThen (fun e F L => ∃ n', n' < n + 1 ∧ MeetF K (I n') e F L) Q .normal e F L := ⟨n, Nat.lt_succ_self _, h⟩
theorem mf (h : KL L L2) (hm : mid e F L2) : MeetF K mid e F L := let ⟨L3, h1, h2⟩ := h; .now ⟨L2, L3, h1, h2, hm⟩
theorem shmz_L {L' : LH} (h : L = L') (k : MeetF K mid e F L') : MeetF K mid e F L := h ▸ k
theorem shmz_freeze (i : Nat) {b : Nat} {o : Obj} (hi : L[i]? = some (b, o)) (hb : K.w0.heap.size ≤ b) (k : ∀ F', FExt F F' → F' b = some o → MeetF K mid e F' (L.eraseIdx i)) : MeetF K mid e F L := by
  refine .frz (Lb := [(b, o)]) (Lr := L.eraseIdx i) ?_ (fun p hp => by rw [List.mem_singleton.1 hp]; exact hb) fun F' h1 h2 => k F' h1 (h2 (b, o) (List.mem_singleton.2 rfl))
  obtain ⟨hlt, he⟩ := List.getElem?_eq_some_iff.1 hi
  rw [← he]
  exact perm_erase L i hlt
end
theorem sB_at {xs : List Int} {i : Nat} {c : Int} (hc : xs[i]? = some c) : (sB xs)[i]? = some (UInt8.ofNat c.toNat) := by
  obtain ⟨hi, rfl⟩ := List.getElem?_eq_some_iff.1 hc
  have hs : i < (sB xs).size := by rw [sB_size]; exact hi
  rw [getElem?_pos (sB xs) i hs]
  congr 1
  rw [ByteArray.getElem_eq_getElem_data]
  simp [sB]
theorem v_indexStr {P : Program} {N : Nat} {K : Ctx} {e : Env} {F : FS} {L : LH} {ty T : TypeId} {x y : Operand} {xs : List Int} {k : IntKind} {i c : Int} (hT : P.underlying T = some .string) (hx : ev e x = some (.string (sB xs))) (hy : ev e y = some (.int k i)) (h0 : 0 ≤ i) (hc : xs[i.toNat]? = some c) (g : 0 ≤ c ∧ c < 256) :
    OpV P N K e F L (.index T x y) ty (.int .u8 c) := v_index (fun w => by
  have h1 := sB_at hc
  have h2 : ((UInt8.ofNat c.toNat).toNat : Int) = c := by
    rw [UInt8.toNat_ofNat']
    omega
  simp [Instr.index, asIntOf, run_underlying hT, h0, h1]
  omega) hx hy
theorem SlR.nn {α : Type} {nb E sz : Nat} {R : Enc α} {F : FS} {a : Option Addr} {n cap : Nat} {xs : List α} {Lb : LH} (h : SlR nb E sz R F a n cap xs Lb) (g : xs ≠ []) : a = none ↔ xs = [] := by
  obtain ⟨_, h2, vss, _, _, _, h3⟩ := h
  refine ⟨fun ha => ?_, fun he => absurd he g⟩
  rcases h3 with ⟨a', _, h4, _⟩ | ⟨g', cap', pre, sp, h4, _⟩
  · exact List.eq_nil_of_length_eq_zero (h2 ▸ h4)
  · rw [ha] at h4; cases h4
theorem nilq_dec {α : Type} [DecidableEq α] {a : Option Addr} {xs : List α} (h : a = none ↔ xs = []) : a.isNone = decide (xs = []) := by
  cases a with
  | none => simp [h.1 rfl]
  | some a => have : xs ≠ [] := fun he => nomatch h.2 he
              simp [this]
theorem nilq_nil {α : Type} : (none : Option Addr) = none ↔ ([] : List α) = [] := by simp
theorem OpV.b {P : Program} {N : Nat} {K : Ctx} {e : Env} {F : FS} {L : LH} {op : Op} {ty : TypeId} {p q : Bool} (h : OpV P N K e F L op ty (.bool p)) (he : p = q) : OpV P N K e F L op ty (.bool q) := he ▸ h
end Go.SH
