/- The calculus, part T: lists of lists, all of them owned. -/
import Derived.Test.YtepdgjpkhkijcaaGreatZSShS
namespace Go.SH
abbrev Hd := Option Addr × Nat × Nat
def MY : IZ Hd := fun _ vs h => vs = [.slice h.1 h.2.1 h.2.2]
theorem Cm : CJ 1 MY := ⟨fun _ h => h, fun h => by rw [show _ = _ from h]; rfl, fun h => by
  rw [show _ = _ from h]; intro v hv; rw [List.mem_singleton.1 hv]; rfl⟩
theorem Lx : ∀ (Ls : List LH) (i : Nat) (Lb : LH), i < Ls.length → (Ls.set i Lb).flatten.Perm (Lb ++ (Ls.set i []).flatten)
  | [], i, _, h => by simp at h
  | L :: Ls, 0, Lb, _ => by simp
  | L :: Ls, i + 1, Lb, h => by
    simp only [List.set_cons_succ, List.flatten_cons]
    exact ((Lx Ls i Lb (by simpa using h)).append_left L).trans (List.perm_append_comm_assoc ..)
theorem JY {α : Type} {xs : List α} {i : Nat} {x : α} (h : xs[i]? = some x) : xs.set i x = xs := by
  obtain ⟨hi, rfl⟩ := List.getElem?_eq_some_iff.1 h
  exact List.set_getElem_self hi
section
variable {α : Type} {nb E sz : Nat} {R : IZ α} {F : FS} {hs : List Hd} {CF : List (List α)} {Lc : LH} {i : Nat}
def K3 (nb E sz : Nat) (R : IZ α) (F : FS) (hs : List Hd) (CF : List (List α)) (Lc : LH) : Prop :=
  ∃ Ls : List LH, Lc.Perm Ls.flatten ∧ hs.length = CF.length ∧ Ls.length = hs.length ∧ ∀ (j : Nat) (h : Hd) (xs : List α) (Lb : LH), hs[j]? = some h → CF[j]? = some xs → Ls[j]? = some Lb → AW nb E sz R F h.1 h.2.1 h.2.2 xs Lb
def K5 (nb E sz : Nat) (R : IZ α) (F : FS) (i : Nat) (hs : List Hd) (CF : List (List α)) (Lc : LH) : Prop :=
  ∃ Ls : List LH, Lc.Perm (Ls.set i []).flatten ∧ hs.length = CF.length ∧ Ls.length = hs.length ∧ i < hs.length ∧ ∀ (j : Nat) (h : Hd) (xs : List α) (Lb : LH), j ≠ i → hs[j]? = some h → CF[j]? = some xs → Ls[j]? = some Lb → AW nb E sz R F h.1 h.2.1 h.2.2 xs Lb
theorem K3.nil : K3 nb E sz R F [] [] [] := ⟨[], .refl _, rfl, rfl, fun _ _ _ _ h => by simp at h⟩
theorem K3.Rd (k : Nat) : K3 nb E sz R F (List.replicate k (none, 0, 0)) (List.replicate k []) [] := ⟨List.replicate k [], by simp, by simp, by simp, fun j h xs Lb h1 h2 h3 => by
  rw [List.getElem?_replicate] at h1 h2 h3
  split at h1
  · rename_i hj
    rw [if_pos hj] at h2 h3
    cases h1; cases h2; cases h3
    exact AW.nil _ _ _ _ _
  · cases h1⟩
theorem K3.mono (hR : CJ sz R) {F' : FS} (h : K3 nb E sz R F hs CF Lc) (hF : AN F F') : K3 nb E sz R F' hs CF Lc := by
  obtain ⟨Ls, h1, h2, h3, h4⟩ := h
  exact ⟨Ls, h1, h2, h3, fun j h xs Lb e1 e2 e3 => (h4 j h xs Lb e1 e2 e3).mono hR hF⟩
theorem K5.mono (hR : CJ sz R) {F' : FS} (h : K5 nb E sz R F i hs CF Lc) (hF : AN F F') : K5 nb E sz R F' i hs CF Lc := by
  obtain ⟨Ls, h1, h2, h3, h5, h4⟩ := h
  exact ⟨Ls, h1, h2, h3, h5, fun j h xs Lb e0 e1 e2 e3 => (h4 j h xs Lb e0 e1 e2 e3).mono hR hF⟩
theorem K3.len (h : K3 nb E sz R F hs CF Lc) : hs.length = CF.length := by obtain ⟨_, _, h, _⟩ := h; exact h
theorem K3.snoc (h : K3 nb E sz R F hs CF Lc) {a : Option Addr} {n c : Nat} {xs : List α} {Lb : LH} (hr : AW nb E sz R F a n c xs Lb) : K3 nb E sz R F (hs ++ [(a, n, c)]) (CF ++ [xs]) (Lb ++ Lc) := by
  obtain ⟨Ls, h1, h2, h3, h4⟩ := h
  refine ⟨Ls ++ [Lb], ?_, by simp [h2], by simp [h3], fun j h ys Lb' e1 e2 e3 => ?_⟩
  · rw [List.flatten_append]
    simp only [List.flatten_cons, List.flatten_nil, List.append_nil]
    exact (h1.append_left Lb).trans List.perm_append_comm
  · by_cases hj : j < hs.length
    · rw [List.getElem?_append_left hj] at e1
      rw [List.getElem?_append_left (by omega)] at e2 e3
      exact h4 j h ys Lb' e1 e2 e3
    · rw [List.getElem?_append_right (by omega)] at e1 e2 e3
      have e0 : j - hs.length = 0 := by
        obtain ⟨a6, _⟩ := List.getElem?_eq_some_iff.1 e1
        simpa using a6
      rw [e0] at e1; rw [← h2, e0] at e2; rw [h3, e0] at e3
      cases e1; cases e2; cases e3
      exact hr
theorem K3.open (h : K3 nb E sz R F hs CF Lc) {xs : List α} (hx : CF[i]? = some xs) : ∃ a n c Lb a6, hs[i]? = some (a, n, c) ∧ AW nb E sz R F a n c xs Lb ∧ Lc.Perm (Lb ++ a6) ∧ K5 nb E sz R F i hs CF a6 := by
  obtain ⟨Ls, h1, h2, h3, h4⟩ := h
  obtain ⟨hi, _⟩ := List.getElem?_eq_some_iff.1 hx
  have e1 : hs[i]? = some (hs[i]'(by omega)) := List.getElem?_eq_getElem (by omega)
  have e3 : Ls[i]? = some (Ls[i]'(by omega)) := List.getElem?_eq_getElem (by omega)
  refine ⟨_, _, _, _, _, e1, h4 i _ _ _ e1 hx e3, ?_, Ls, .refl _, h2, h3, by omega, fun j h xs Lb _ => h4 j h xs Lb⟩
  have := Lx Ls i (Ls[i]'(by omega)) (show i < Ls.length by omega)
  rw [JY e3] at this
  exact h1.trans this
theorem K5.close (h : K5 nb E sz R F i hs CF Lc) {a : Option Addr} {n c : Nat} {xs : List α} {Lb : LH} (hr : AW nb E sz R F a n c xs Lb) : K3 nb E sz R F (hs.set i (a, n, c)) (CF.set i xs) (Lb ++ Lc) := by
  obtain ⟨Ls, h1, h2, h3, h5, h4⟩ := h
  refine ⟨Ls.set i Lb, (h1.append_left Lb).trans (Lx Ls i Lb (by omega)).symm, by simp [h2], by simp [h3], fun j h ys Lb' e1 e2 e3 => ?_⟩
  rw [List.getElem?_set] at e1 e2 e3
  by_cases hj : i = j
  · rw [if_pos hj] at e1 e2 e3
    rw [if_pos (by omega)] at e1 e2 e3
    cases e1; cases e2; cases e3
    exact hr
  · rw [if_neg hj] at e1 e2 e3
    exact h4 j h ys Lb' (fun he => hj he.symm) e1 e2 e3
theorem K5.Pn (h : K5 nb E sz R F i hs CF Lc) {a : Option Addr} {n c : Nat} {xs : List α} {Lb : LH} (hh : hs[i]? = some (a, n, c)) (hr : AW nb E sz R F a n c xs Lb) : K3 nb E sz R F hs (CF.set i xs) (Lb ++ Lc) := by
  have := h.close hr
  rwa [JY hh] at this
theorem K3.rows (hR : CJ sz R) (h : K3 nb E sz R F hs CF Lc) {F' : FS} (hx : AN F F') (hF : ∀ p ∈ Lc, F' p.1 = some p.2) : ∀ (j : Nat) (h : Hd) (xs : List α), hs[j]? = some h → CF[j]? = some xs → h.2.1 = xs.length ∧ Au sz R F' h.1 h.2.2 xs := by
  obtain ⟨Ls, h1, h2, h3, h4⟩ := h
  intro j h xs e1 e2
  obtain ⟨hj, _⟩ := List.getElem?_eq_some_iff.1 e1
  have e3 : Ls[j]? = some (Ls[j]'(by omega)) := List.getElem?_eq_getElem (by omega)
  have a6 := h4 j h xs _ e1 e2 e3
  refine ⟨a6.2.1, a6.row hR hx fun p hp => hF p ?_⟩
  exact h1.symm.subset (List.mem_flatten.2 ⟨_, List.getElem_mem _, hp⟩)
theorem QF {vss : List (List Value)} (h : Es (MY F) vss hs) {F' : FS} (hl : hs.length = CF.length) (hr : ∀ (j : Nat) (h : Hd) (xs : List α), hs[j]? = some h → CF[j]? = some xs → h.2.1 = xs.length ∧ Au sz R F' h.1 h.2.2 xs) : Es (Bm sz R F') vss CF := by
  induction h generalizing CF with
  | nil =>
    cases CF with
    | nil => exact .nil
    | cons => simp at hl
  | cons h1 _ ih =>
    cases CF with
    | nil => simp at hl
    | cons xs CF =>
      rename_i v b as bs h2
      obtain ⟨e1, e2⟩ := hr 0 _ _ rfl rfl
      refine .cons ⟨b.1, b.2.2, ?_, e2⟩ (ih (by simpa using hl) fun j h ys f1 f2 => hr (j + 1) h ys f1 f2)
      rw [← e1]; exact h1
variable {P : Program} {N : Nat} {r : Option Nat} {K : Ctx} {ops : Array Oper} {Q : Env → FS → LH → Prop} {L Lr Lo : LH} {e : Env} {Eo RK n cap : Nat} {a : Option Addr}
theorem AW.RE (ho : AW RK Eo 1 MY F a n cap hs Lo) (hR : CJ sz R) (h : K3 nb E sz R F hs CF Lc) {F' : FS} (hx : AN F F') (hF : ∀ p ∈ Lo ++ Lc, F' p.1 = some p.2) : Au 1 (Bm sz R) F' a cap CF ∧ n = CF.length := by
  have h1 := ho.row Cm hx fun p hp => hF p (List.mem_append_left _ hp)
  obtain ⟨vss, h2, h3⟩ := h1
  have hl := h.len
  refine ⟨⟨vss, QF h2 hl (h.rows hR hx fun p hp => hF p (List.mem_append_right _ hp)), ?_⟩, by rw [ho.2.1, hl]⟩
  rw [← hl]; exact h3
theorem K3.new (h : K3 nb E sz R F hs CF Lc) (hn : ∀ p ∈ Lc, RK ≤ p.1) : K3 RK E sz R F hs CF Lc := by
  obtain ⟨Ls, h1, h2, h3, h4⟩ := h
  exact ⟨Ls, h1, h2, h3, fun j h xs Lb e1 e2 e3 => ⟨fun p hp => hn p (h1.symm.subset (List.mem_flatten.2 ⟨Lb, List.mem_of_getElem? e3, hp⟩)), (h4 j h xs Lb e1 e2 e3).2⟩⟩
theorem K3.ge (h : K3 nb E sz R F hs CF Lc) : ∀ p ∈ Lc, nb ≤ p.1 := fun p hp => by
  obtain ⟨Ls, h1, h2, h3, h4⟩ := h
  obtain ⟨Lb, h5, h6⟩ := List.mem_flatten.1 (h1.subset hp)
  obtain ⟨j, hj, rfl⟩ := List.getElem_of_mem h5
  exact (h4 j _ _ _ (List.getElem?_eq_getElem (by omega)) (List.getElem?_eq_getElem (by omega)) (List.getElem?_eq_getElem hj)).1 p h6
def BG {α : Type} (nb E Ei sz : Nat) (R : IZ α) (F : FS) (a : Option Addr) (n cap : Nat) (CF : List (List α)) (Lb : LH) : Prop :=
  ∃ hs Lo Lc, Lb.Perm (Lo ++ Lc) ∧ AW nb E 1 MY F a n cap hs Lo ∧ K3 nb Ei sz R F hs CF Lc
variable {Ei : Nat} {Lb Li : LH} {xs : List α}
theorem BG.nil (nb E Ei sz : Nat) (R : IZ α) (F : FS) : BG nb E Ei sz R F none 0 0 [] [] := ⟨[], [], [], .refl _, AW.nil _ _ _ _ _, K3.nil⟩
theorem BG.mono (hR : CJ sz R) {F' : FS} (h : BG nb E Ei sz R F a n cap CF Lb) (hF : AN F F') : BG nb E Ei sz R F' a n cap CF Lb := by
  obtain ⟨hs, Lo, Lc, h1, h2, h3⟩ := h
  exact ⟨hs, Lo, Lc, h1, h2.mono Cm hF, h3.mono hR hF⟩
theorem BG.Be (h : BG nb E Ei sz R F a n cap CF Lb) : n = CF.length ∧ n ≤ cap ∧ cap ≤ maxLen := by
  obtain ⟨hs, Lo, Lc, h1, h2, h3⟩ := h
  rw [← h3.len]; exact h2.Be
theorem BG.GN (h : BG nb E Ei sz R F a n cap CF Lb) : (CF.length : Int) = (n : Int) := by rw [h.Be.1]
theorem BG.O6 (h : BG nb E Ei sz R F a n cap CF Lb) : (CF.length : Int) ≤ 9223372036854775807 := by
  have := h.Be; simp only [maxLen] at this; omega
theorem BG.ge (h : BG nb E Ei sz R F a n cap CF Lb) : ∀ p ∈ Lb, nb ≤ p.1 := fun p hp => by
  obtain ⟨hs, Lo, Lc, h1, h2, h3⟩ := h
  rcases List.mem_append.1 (h1.subset hp) with h | h
  · exact h2.1 p h
  · exact h3.ge p h
theorem BG.new {m : Nat} (h : BG m E Ei sz R F a n cap CF Lb) (hn : ∀ p ∈ Lb, nb ≤ p.1) : BG nb E Ei sz R F a n cap CF Lb := by
  obtain ⟨hs, Lo, Lc, h1, h2, h3⟩ := h
  exact ⟨hs, Lo, Lc, h1, ⟨fun p hp => hn p (h1.symm.subset (List.mem_append_left _ hp)), h2.2⟩, h3.new fun p hp => hn p (h1.symm.subset (List.mem_append_right _ hp))⟩
theorem BG.any (h : BG nb E Ei sz R F a n cap CF Lb) : BG 0 E Ei sz R F a n cap CF Lb := h.new fun _ _ => Nat.zero_le _
theorem BG.row (h : BG nb E Ei sz R F a n cap CF Lb) (hR : CJ sz R) {F' : FS} (hx : AN F F') (hF : ∀ p ∈ Lb, F' p.1 = some p.2) : Au 1 (Bm sz R) F' a cap CF := by
  obtain ⟨hs, Lo, Lc, h1, h2, h3⟩ := h
  exact (h2.RE hR h3 hx fun p hp => hF p (h1.symm.subset hp)).1
theorem BG.made {k : Nat} (h : AW nb E 1 MY F a n cap (List.replicate k (none, 0, 0)) Lb) (hz : CF = List.replicate k []) : BG nb E Ei sz R F a n cap CF Lb := by
  subst hz; exact ⟨_, Lb, [], by simp, h, K3.Rd k⟩
theorem K2 {m : Nat} (hn : n = m) {i : Int} (g : 0 ≤ i ∧ i < (m : Int)) : 0 ≤ i ∧ i < (n : Int) := by rw [hn]; exact g
theorem Qf {hs : List Hd} (hn : n = CF.length) (h : AW nb E 1 MY F a n cap hs Lo) {i : Int} (g : 0 ≤ i ∧ i < (CF.length : Int)) : 0 ≤ i ∧ i < (hs.length : Int) := by rw [← h.2.1, hn]; exact g
theorem QZ {hs : List Hd} {Lc : LH} {a6 : List (List α)} {u : Hd} (h : K3 nb Ei sz R F hs CF Lc) (hz : a6 = CF ++ [xs]) (hn : a6.length ≤ 1048576) : (hs ++ [u]).length ≤ 1048576 := by
  subst hz; rw [List.length_append, h.len]; simpa using hn
theorem K5.back {m c : Nat} {a' : Option Addr} (h : K5 nb Ei sz R F i hs CF Lc) (ho : AW nb E 1 MY F a n cap (hs.set i (a', m, c)) Lo) (hr : AW nb Ei sz R F a' m c xs Li) {a6 : List (List α)} (hz : a6 = CF.set i xs) : BG nb E Ei sz R F a n cap a6 (Lo ++ (Li ++ (Lc ++ []))) := by
  subst hz; exact ⟨_, Lo, Li ++ Lc, by simp, ho, h.close hr⟩
theorem K5.Lv {m c : Nat} {a' : Option Addr} (h : K5 nb Ei sz R F i hs CF Lc) (ho : AW nb E 1 MY F a n cap hs Lo) (hh : hs[i]? = some (a', m, c)) (hr : AW nb Ei sz R F a' m c xs Li) {a6 : List (List α)} (hz : a6 = CF.set i xs) : BG nb E Ei sz R F a n cap a6 (Lo ++ (Li ++ (Lc ++ []))) := by
  subst hz; exact ⟨_, Lo, Li ++ Lc, by simp, ho, h.Pn hh hr⟩
theorem K5.Kj {m c : Nat} {a' : Option Addr} (h : K5 nb Ei sz R F i hs CF Lc) (ho : AW nb E 1 MY F a n cap hs Lo) (hh : hs[i]? = some (a', m, c)) (hr : AW nb Ei sz R F a' m c xs Li) (hx : CF[i]? = some xs) : BG nb E Ei sz R F a n cap CF (Lo ++ (Li ++ (Lc ++ []))) :=
  h.Lv ho hh hr (JY hx).symm
theorem K3.push {m c : Nat} {a' : Option Addr} (h : K3 nb Ei sz R F hs CF Lc) {a6 : List Hd} (he : a6 = hs ++ [(a', m, c)]) (ho : AW nb E 1 MY F a n cap a6 Lo) (hr : AW nb Ei sz R F a' m c xs Li) {aa : List (List α)} (hz : aa = CF ++ [xs]) : BG nb E Ei sz R F a n cap aa (Lo ++ (Li ++ (Lc ++ []))) := by
  subst hz he; exact ⟨_, Lo, Li ++ Lc, by simp, ho, h.snoc hr⟩
theorem Ew {l : List Oper} (a6 : K.w0.heap.size ≤ nb) (hR : CJ sz R) (hL : L.Perm (Lb ++ Lr)) (h : BG nb E Ei sz R F a n cap CF Lb) (k : ∀ F', AN F F' → Au 1 (Bm sz R) F' a cap CF → Cr P N r K ops Q l e F' Lr) : Cr P N r K ops Q l e F L := fun M act w ha hs => by
  obtain ⟨F', h1, h2, h3⟩ := St.IP Lb (hs.perm hL) (fun p hp => Nat.le_trans a6 (h.ge p hp))
  exact k F' h2 (h.row hR h2 h3) M act w ha h1
theorem OP {Q : GK} {c : Code} (a6 : K.w0.heap.size ≤ nb) (hR : CJ sz R) (hL : L.Perm (Lb ++ Lr)) (h : BG nb E Ei sz R F a n cap CF Lb) (k : ∀ F', AN F F' → Au 1 (Bm sz R) F' a cap CF → EO P N r K c Q e F' Lr) : EO P N r K c Q e F L := fun M act w ha hs => by
  obtain ⟨F', h1, h2, h3⟩ := St.IP Lb (hs.perm hL) (fun p hp => Nat.le_trans a6 (h.ge p hp))
  exact k F' h2 (h.row hR h2 h3) M act w ha h1
theorem Iu {l : List Oper} (hL : L.Perm (Lb ++ Lr)) (h : BG nb E Ei sz R F a n cap CF Lb) (hx : CF[i]? = some xs)
    (k : ∀ hs Lo Lc a' m c Li, hs[i]? = some (a', m, c) → AW nb E 1 MY F a n cap hs Lo → AW nb Ei sz R F a' m c xs Li → K5 nb Ei sz R F i hs CF Lc → Cr P N r K ops Q l e F (Lo ++ (Li ++ (Lc ++ Lr)))) : Cr P N r K ops Q l e F L := by
  obtain ⟨hs, Lo, Lc, h1, h2, h3⟩ := h
  obtain ⟨a', m, c, Li, a6, h4, h5, h6, h7⟩ := h3.open hx
  refine BK ?_ (k hs Lo a6 a' m c Li h4 h2 h5 h7)
  refine hL.trans ((h1.append_right Lr).trans ?_)
  rw [List.append_assoc]
  refine List.Perm.append_left Lo ?_
  have := h6.append_right Lr
  rwa [List.append_assoc] at this
theorem Kw {Q : GK} {y : Code} (hL : L.Perm (Lb ++ Lr)) (h : BG nb E Ei sz R F a n cap CF Lb) (hx : CF[i]? = some xs)
    (k : ∀ hs Lo Lc a' m c Li, hs[i]? = some (a', m, c) → AW nb E 1 MY F a n cap hs Lo → AW nb Ei sz R F a' m c xs Li → K5 nb Ei sz R F i hs CF Lc → EO P N r K y Q e F (Lo ++ (Li ++ (Lc ++ Lr)))) : EO P N r K y Q e F L := by
  obtain ⟨hs, Lo, Lc, h1, h2, h3⟩ := h
  obtain ⟨a', m, c, Li, a6, h4, h5, h6, h7⟩ := h3.open hx
  refine JL ?_ (k hs Lo a6 a' m c Li h4 h2 h5 h7)
  refine hL.trans ((h1.append_right Lr).trans ?_)
  rw [List.append_assoc]
  refine List.Perm.append_left Lo ?_
  have := h6.append_right Lr
  rwa [List.append_assoc] at this
theorem MF {l : List Oper} (hL : L.Perm (Lb ++ Lr)) (h : BG nb E Ei sz R F a n cap CF Lb) (k : ∀ hs Lo Lc, AW nb E 1 MY F a n cap hs Lo → K3 nb Ei sz R F hs CF Lc → Cr P N r K ops Q l e F (Lo ++ (Lc ++ Lr))) : Cr P N r K ops Q l e F L := by
  obtain ⟨hs, Lo, Lc, h1, h2, h3⟩ := h
  refine BK ?_ (k hs Lo Lc h2 h3)
  refine hL.trans ((h1.append_right Lr).trans ?_)
  rw [List.append_assoc]
theorem Bp {p : LH → Prop} {A : LH} {l : List Oper} (h : p A) (hL : L.Perm (A ++ Lr)) (k : ∀ Lb, p Lb → Cr P N r K ops Q l e F (Lb ++ Lr)) : Cr P N r K ops Q l e F L := BK hL (k A h)
end
inductive HH (K : Ctx) (Ku : Env → FS → LH → Prop) (e : Env) : FS → LH → Prop
  | now {F : FS} {L : LH} (h : meet Ku e F L) : HH K Ku e F L
  | Ra {F : FS} {L Lb Lr : LH} (hL : L.Perm (Lb ++ Lr)) (hn : ∀ p ∈ Lb, K.w0.heap.size ≤ p.1) (k : ∀ F', AN F F' → (∀ p ∈ Lb, F' p.1 = some p.2) → HH K Ku e F' Lr) : HH K Ku e F L
section
variable {P : Program} {N : Nat} {r : Option Nat} {K : Ctx} {Q : GK} {e : Env} {F : FS} {L Lb Lr L2 : LH} {Ku : Env → FS → LH → Prop}
theorem NA {α : Type} : ∀ (L : List α) (i : Nat) (h : i < L.length), L.Perm ([L[i]] ++ L.eraseIdx i)
  | [], _, h => by simp at h
  | x :: L, 0, _ => by simp
  | x :: L, i + 1, h => by
    simp only [List.getElem_cons_succ, List.eraseIdx_cons_succ]
    exact ((NA L i (by simpa using h)).cons x).trans (List.Perm.swap ..)
theorem HH.out (h : HH K Ku e F L) {M : List Nat} {w : World} (hs : St K M F L w) : ∃ F' L', Ku e F' L' ∧ St K M F' L' w := by
  induction h with
  | now h => obtain ⟨L2, L3, hp, a6, hm⟩ := h; exact ⟨_, _, hm, (hs.perm hp).drop a6⟩
  | Ra hL hn _ ih =>
    obtain ⟨F', h1, h2, h3⟩ := St.IP _ (hs.perm hL) hn
    exact ih F' h2 h3 h1
theorem MJ {x y : Code} (Ku : Env → FS → LH → Prop) (h : EO P N r K x (andThen (HH K Ku) Q) e F L) (k : ∀ e F L, Ku e F L → EO P N r K y Q e F L) : EO P N r K (.seq x y) Q e F L :=
  MU (HH K Ku) h fun e F L hm M a w ha a6 => by
    obtain ⟨F', L', h1, h2⟩ := hm.out a6
    exact k e F' L' h1 M a w ha h2
theorem Nf {c : Code} (I : Nat → Env → FS → LH → Prop) (n0 : Nat) (h0 : meet (I n0) e F L)
    (round : ∀ n e F L, I n e F L → EO P N r K c (andThen (fun e F L => ∃ n', n' < n ∧ HH K (I n') e F L) Q) e F L) : EO P N r K (.loop c) Q e F L := by
  obtain ⟨L2, L3, hp, hs, hm⟩ := h0
  refine JL hp (OI hs fun M a w ha hs => ?_)
  refine LO (fun s a w => ∃ M e F L, Ag N M e a ∧ St K M F L w ∧ I s e F L) id n0 ⟨M, e, F, L2, ha, hs, hm⟩ ?_
  rintro s a w ⟨M, e, F, L, ha, hs, hI⟩
  refine wpIn_mono (round s e F L hI M a w ha hs) ?_
  rintro ex a' w' ⟨M', e', F', L', h1, h2, h3⟩
  cases ex with
  | normal =>
    obtain ⟨s', h5, h4⟩ := h3
    obtain ⟨F2, L2, h6, h7⟩ := h4.out h2
    exact ⟨s', ⟨M', e', F2, L2, h1, h7, h6⟩, h5⟩
  | _ => exact ⟨M', e', F', L', h1, h2, h3⟩
theorem lf {I : Nat → Env → FS → LH → Prop} {n : Nat} (h : HH K (I n) e F L) : andThen (fun e F L => ∃ n', n' < n + 1 ∧ HH K (I n') e F L) Q .normal e F L := ⟨n, Nat.lt_succ_self _, h⟩
theorem mf (h : KL L L2) (hm : Ku e F L2) : HH K Ku e F L := let ⟨L3, h1, h2⟩ := h; .now ⟨L2, L3, h1, h2, hm⟩
theorem PQ {L' : LH} (hp : L.Perm L') (k : HH K Ku e F L') : HH K Ku e F L := by
  cases k with
  | now h => obtain ⟨L2, L3, h1, h2, h3⟩ := h; exact .now ⟨L2, L3, hp.trans h1, h2, h3⟩
  | Ra hL hn hk => exact .Ra (hp.trans hL) hn hk
theorem PE {p : LH → Prop} {A : LH} (h : p A) (hL : L.Perm (A ++ Lr)) (k : ∀ Lb, p Lb → HH K Ku e F (Lb ++ Lr)) : HH K Ku e F L := PQ hL (k A h)
theorem QY {L' : LH} (h : L = L') (k : HH K Ku e F L') : HH K Ku e F L := h ▸ k
theorem Me {α : Type} {R : IZ α} {a : Option Addr} {n cap : Nat} {xs : List α} {nb E sz : Nat} (a6 : K.w0.heap.size ≤ nb) (hR : CJ sz R) (hL : L.Perm (Lb ++ Lr)) (h : AW nb E sz R F a n cap xs Lb) (k : ∀ F', AN F F' → Au sz R F' a cap xs → HH K Ku e F' Lr) : HH K Ku e F L :=
  .Ra hL (fun p hp => Nat.le_trans a6 (h.1 p hp)) fun F' h1 h2 => k F' h1 (h.row hR h1 h2)
theorem OK (i : Nat) {b : Nat} {o : Obj} (hi : L[i]? = some (b, o)) (hb : K.w0.heap.size ≤ b) (k : ∀ F', AN F F' → F' b = some o → HH K Ku e F' (L.eraseIdx i)) : HH K Ku e F L := by
  refine .Ra (Lb := [(b, o)]) (Lr := L.eraseIdx i) ?_ (fun p hp => by rw [List.mem_singleton.1 hp]; exact hb) fun F' h1 h2 => k F' h1 (h2 (b, o) (List.mem_singleton.2 rfl))
  obtain ⟨a6, he⟩ := List.getElem?_eq_some_iff.1 hi
  rw [← he]
  exact NA L i a6
end
theorem Pl {n : Int} (h : 0 ≤ n ∧ n ≤ 1048576) : n.toNat ≤ maxLen := by simp only [maxLen]; omega
theorem AW.nn {α : Type} {nb E sz : Nat} {R : IZ α} {F : FS} {a : Option Addr} {n cap : Nat} {xs : List α} {Lb : LH} (h : AW nb E sz R F a n cap xs Lb) (g : xs ≠ []) : a = none ↔ xs = [] := by
  obtain ⟨_, h2, vss, _, _, _, h3⟩ := h
  refine ⟨fun ha => ?_, fun he => absurd he g⟩
  rcases h3 with ⟨a', _, h4, _⟩ | ⟨g', a6, pre, sp, h4, _⟩
  · exact List.eq_nil_of_length_eq_zero (h2 ▸ h4)
  · rw [ha] at h4; cases h4
theorem OE {α : Type} [DecidableEq α] {a : Option Addr} {xs : List α} (h : a = none ↔ xs = []) : a.isNone = decide (xs = []) := by
  cases a with
  | none => simp [h.1 rfl]
  | some a => have : xs ≠ [] := fun he => nomatch h.2 he
              simp [this]
theorem P3 {α : Type} : (none : Option Addr) = none ↔ ([] : List α) = [] := by simp
theorem FM.b {P : Program} {N : Nat} {K : Ctx} {e : Env} {F : FS} {L : LH} {op : Op} {ty : TypeId} {p q : Bool} (h : FM P N K e F L op ty (.bool p)) (he : p = q) : FM P N K e F L op ty (.bool q) := he ▸ h
end Go.SH
