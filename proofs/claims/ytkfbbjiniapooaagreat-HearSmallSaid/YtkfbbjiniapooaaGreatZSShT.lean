/- The calculus, part T: lists of lists, all of them owned. -/
import Derived.Test.YtkfbbjiniapooaaGreatZSShS
namespace Go.SH
abbrev Hd := Option Addr × Nat × Nat
def Sp : Jc Hd := fun _ vs h => vs = [.slice h.1 h.2.1 h.2.2]
theorem My : De 1 Sp := ⟨fun _ h => h, fun h => by rw [show _ = _ from h]; rfl, fun h => by
  rw [show _ = _ from h]; intro v hv; rw [List.mem_singleton.1 hv]; rfl⟩
theorem LL : ∀ (Ls : List LH) (i : Nat) (Lb : LH), i < Ls.length → (Ls.set i Lb).flatten.Perm (Lb ++ (Ls.set i []).flatten)
  | [], i, _, h => by simp at h
  | L :: Ls, 0, Lb, _ => by simp
  | L :: Ls, i + 1, Lb, h => by
    simp only [List.set_cons_succ, List.flatten_cons]
    exact ((LL Ls i Lb (by simpa using h)).append_left L).trans (List.perm_append_comm_assoc ..)
theorem RP {α : Type} {xs : List α} {i : Nat} {x : α} (h : xs[i]? = some x) : xs.set i x = xs := by
  obtain ⟨hi, rfl⟩ := List.getElem?_eq_some_iff.1 h
  exact List.set_getElem_self hi
section
variable {α : Type} {nb E sz : Nat} {R : Jc α} {F : FS} {hs : List Hd} {EW : List (List α)} {Lc : LH} {i : Nat}
def MG (nb E sz : Nat) (R : Jc α) (F : FS) (hs : List Hd) (EW : List (List α)) (Lc : LH) : Prop :=
  ∃ Ls : List LH, Lc.Perm Ls.flatten ∧ hs.length = EW.length ∧ Ls.length = hs.length ∧ ∀ (j : Nat) (h : Hd) (xs : List α) (Lb : LH), hs[j]? = some h → EW[j]? = some xs → Ls[j]? = some Lb → AN nb E sz R F h.1 h.2.1 h.2.2 xs Lb
def Sc (nb E sz : Nat) (R : Jc α) (F : FS) (i : Nat) (hs : List Hd) (EW : List (List α)) (Lc : LH) : Prop :=
  ∃ Ls : List LH, Lc.Perm (Ls.set i []).flatten ∧ hs.length = EW.length ∧ Ls.length = hs.length ∧ i < hs.length ∧ ∀ (j : Nat) (h : Hd) (xs : List α) (Lb : LH), j ≠ i → hs[j]? = some h → EW[j]? = some xs → Ls[j]? = some Lb → AN nb E sz R F h.1 h.2.1 h.2.2 xs Lb
theorem MG.nil : MG nb E sz R F [] [] [] := ⟨[], .refl _, rfl, rfl, fun _ _ _ _ h => by simp at h⟩
theorem MG.Xb (k : Nat) : MG nb E sz R F (List.replicate k (none, 0, 0)) (List.replicate k []) [] := ⟨List.replicate k [], by simp, by simp, by simp, fun j h xs Lb h1 h2 h3 => by
  rw [List.getElem?_replicate] at h1 h2 h3
  split at h1
  · rename_i hj
    rw [if_pos hj] at h2 h3
    cases h1; cases h2; cases h3
    exact AN.nil _ _ _ _ _
  · cases h1⟩
theorem MG.mono (hR : De sz R) {F' : FS} (h : MG nb E sz R F hs EW Lc) (hF : AY F F') : MG nb E sz R F' hs EW Lc := by
  obtain ⟨Ls, h1, h2, h3, h4⟩ := h
  exact ⟨Ls, h1, h2, h3, fun j h xs Lb e1 e2 e3 => (h4 j h xs Lb e1 e2 e3).mono hR hF⟩
theorem Sc.mono (hR : De sz R) {F' : FS} (h : Sc nb E sz R F i hs EW Lc) (hF : AY F F') : Sc nb E sz R F' i hs EW Lc := by
  obtain ⟨Ls, h1, h2, h3, h5, h4⟩ := h
  exact ⟨Ls, h1, h2, h3, h5, fun j h xs Lb e0 e1 e2 e3 => (h4 j h xs Lb e0 e1 e2 e3).mono hR hF⟩
theorem MG.len (h : MG nb E sz R F hs EW Lc) : hs.length = EW.length := by obtain ⟨_, _, h, _⟩ := h; exact h
theorem MG.snoc (h : MG nb E sz R F hs EW Lc) {a : Option Addr} {n c : Nat} {xs : List α} {Lb : LH} (hr : AN nb E sz R F a n c xs Lb) : MG nb E sz R F (hs ++ [(a, n, c)]) (EW ++ [xs]) (Lb ++ Lc) := by
  obtain ⟨Ls, h1, h2, h3, h4⟩ := h
  refine ⟨Ls ++ [Lb], ?_, by simp [h2], by simp [h3], fun j h ys Lb' e1 e2 e3 => ?_⟩
  · rw [List.flatten_append]
    simp only [List.flatten_cons, List.flatten_nil, List.append_nil]
    exact (h1.append_left Lb).trans List.perm_append_comm
  · by_cases hj : j < hs.length
    · rw [List.getElem?_append_left hj] at e1
      rw [List.getElem?_append_left (by omega)] at e2 e3
      exact h4 j h ys Lb' e1 e2 e3
    · rw [List.getElem?_append_right (by omega)] at e1 e2 e3
      have e0 : j - hs.length = 0 := by
        obtain ⟨aa, _⟩ := List.getElem?_eq_some_iff.1 e1
        simpa using aa
      rw [e0] at e1; rw [← h2, e0] at e2; rw [h3, e0] at e3
      cases e1; cases e2; cases e3
      exact hr
theorem MG.open (h : MG nb E sz R F hs EW Lc) {xs : List α} (hx : EW[i]? = some xs) : ∃ a n c Lb aa, hs[i]? = some (a, n, c) ∧ AN nb E sz R F a n c xs Lb ∧ Lc.Perm (Lb ++ aa) ∧ Sc nb E sz R F i hs EW aa := by
  obtain ⟨Ls, h1, h2, h3, h4⟩ := h
  obtain ⟨hi, _⟩ := List.getElem?_eq_some_iff.1 hx
  have e1 : hs[i]? = some (hs[i]'(by omega)) := List.getElem?_eq_getElem (by omega)
  have e3 : Ls[i]? = some (Ls[i]'(by omega)) := List.getElem?_eq_getElem (by omega)
  refine ⟨_, _, _, _, _, e1, h4 i _ _ _ e1 hx e3, ?_, Ls, .refl _, h2, h3, by omega, fun j h xs Lb _ => h4 j h xs Lb⟩
  have := LL Ls i (Ls[i]'(by omega)) (show i < Ls.length by omega)
  rw [RP e3] at this
  exact h1.trans this
theorem Sc.close (h : Sc nb E sz R F i hs EW Lc) {a : Option Addr} {n c : Nat} {xs : List α} {Lb : LH} (hr : AN nb E sz R F a n c xs Lb) : MG nb E sz R F (hs.set i (a, n, c)) (EW.set i xs) (Lb ++ Lc) := by
  obtain ⟨Ls, h1, h2, h3, h5, h4⟩ := h
  refine ⟨Ls.set i Lb, (h1.append_left Lb).trans (LL Ls i Lb (by omega)).symm, by simp [h2], by simp [h3], fun j h ys Lb' e1 e2 e3 => ?_⟩
  rw [List.getElem?_set] at e1 e2 e3
  by_cases hj : i = j
  · rw [if_pos hj] at e1 e2 e3
    rw [if_pos (by omega)] at e1 e2 e3
    cases e1; cases e2; cases e3
    exact hr
  · rw [if_neg hj] at e1 e2 e3
    exact h4 j h ys Lb' (fun he => hj he.symm) e1 e2 e3
theorem MG.rows (hR : De sz R) (h : MG nb E sz R F hs EW Lc) {F' : FS} (hx : AY F F') (hF : ∀ p ∈ Lc, F' p.1 = some p.2) : ∀ (j : Nat) (h : Hd) (xs : List α), hs[j]? = some h → EW[j]? = some xs → h.2.1 = xs.length ∧ AL sz R F' h.1 h.2.2 xs := by
  obtain ⟨Ls, h1, h2, h3, h4⟩ := h
  intro j h xs e1 e2
  obtain ⟨hj, _⟩ := List.getElem?_eq_some_iff.1 e1
  have e3 : Ls[j]? = some (Ls[j]'(by omega)) := List.getElem?_eq_getElem (by omega)
  have aa := h4 j h xs _ e1 e2 e3
  refine ⟨aa.2.1, aa.row hR hx fun p hp => hF p ?_⟩
  exact h1.symm.subset (List.mem_flatten.2 ⟨_, List.getElem_mem _, hp⟩)
theorem Vs {vss : List (List Value)} (h : ES (Sp F) vss hs) {F' : FS} (hl : hs.length = EW.length) (hr : ∀ (j : Nat) (h : Hd) (xs : List α), hs[j]? = some h → EW[j]? = some xs → h.2.1 = xs.length ∧ AL sz R F' h.1 h.2.2 xs) : ES (Ol sz R F') vss EW := by
  induction h generalizing EW with
  | nil =>
    cases EW with
    | nil => exact .nil
    | cons => simp at hl
  | cons h1 _ ih =>
    cases EW with
    | nil => simp at hl
    | cons xs EW =>
      rename_i v b as bs h2
      obtain ⟨e1, e2⟩ := hr 0 _ _ rfl rfl
      refine .cons ⟨b.1, b.2.2, ?_, e2⟩ (ih (by simpa using hl) fun j h ys f1 f2 => hr (j + 1) h ys f1 f2)
      rw [← e1]; exact h1
variable {P : Program} {N : Nat} {r : Option Nat} {K : Ctx} {ops : Array Oper} {Q : Env → FS → LH → Prop} {L Lr Lo : LH} {e : Env} {Eo Yc n cap : Nat} {a : Option Addr}
theorem AN.XV (ho : AN Yc Eo 1 Sp F a n cap hs Lo) (hR : De sz R) (h : MG nb E sz R F hs EW Lc) {F' : FS} (hx : AY F F') (hF : ∀ p ∈ Lo ++ Lc, F' p.1 = some p.2) : AL 1 (Ol sz R) F' a cap EW ∧ n = EW.length := by
  have h1 := ho.row My hx fun p hp => hF p (List.mem_append_left _ hp)
  obtain ⟨vss, h2, h3⟩ := h1
  have hl := h.len
  refine ⟨⟨vss, Vs h2 hl (h.rows hR hx fun p hp => hF p (List.mem_append_right _ hp)), ?_⟩, by rw [ho.2.1, hl]⟩
  rw [← hl]; exact h3
theorem MG.new (h : MG nb E sz R F hs EW Lc) (hn : ∀ p ∈ Lc, Yc ≤ p.1) : MG Yc E sz R F hs EW Lc := by
  obtain ⟨Ls, h1, h2, h3, h4⟩ := h
  exact ⟨Ls, h1, h2, h3, fun j h xs Lb e1 e2 e3 => ⟨fun p hp => hn p (h1.symm.subset (List.mem_flatten.2 ⟨Lb, List.mem_of_getElem? e3, hp⟩)), (h4 j h xs Lb e1 e2 e3).2⟩⟩
theorem MG.ge (h : MG nb E sz R F hs EW Lc) : ∀ p ∈ Lc, nb ≤ p.1 := fun p hp => by
  obtain ⟨Ls, h1, h2, h3, h4⟩ := h
  obtain ⟨Lb, h5, h6⟩ := List.mem_flatten.1 (h1.subset hp)
  obtain ⟨j, hj, rfl⟩ := List.getElem_of_mem h5
  exact (h4 j _ _ _ (List.getElem?_eq_getElem (by omega)) (List.getElem?_eq_getElem (by omega)) (List.getElem?_eq_getElem hj)).1 p h6
def K3 {α : Type} (nb E Ei sz : Nat) (R : Jc α) (F : FS) (a : Option Addr) (n cap : Nat) (EW : List (List α)) (Lb : LH) : Prop :=
  ∃ hs Lo Lc, Lb.Perm (Lo ++ Lc) ∧ AN nb E 1 Sp F a n cap hs Lo ∧ MG nb Ei sz R F hs EW Lc
variable {Ei : Nat} {Lb Li : LH} {xs : List α}
theorem K3.nil (nb E Ei sz : Nat) (R : Jc α) (F : FS) : K3 nb E Ei sz R F none 0 0 [] [] := ⟨[], [], [], .refl _, AN.nil _ _ _ _ _, MG.nil⟩
theorem K3.mono (hR : De sz R) {F' : FS} (h : K3 nb E Ei sz R F a n cap EW Lb) (hF : AY F F') : K3 nb E Ei sz R F' a n cap EW Lb := by
  obtain ⟨hs, Lo, Lc, h1, h2, h3⟩ := h
  exact ⟨hs, Lo, Lc, h1, h2.mono My hF, h3.mono hR hF⟩
theorem K3.Bm (h : K3 nb E Ei sz R F a n cap EW Lb) : n = EW.length ∧ n ≤ cap ∧ cap ≤ maxLen := by
  obtain ⟨hs, Lo, Lc, h1, h2, h3⟩ := h
  rw [← h3.len]; exact h2.Bm
theorem K3.HH (h : K3 nb E Ei sz R F a n cap EW Lb) : (EW.length : Int) = (n : Int) := by rw [h.Bm.1]
theorem K3.R5 (h : K3 nb E Ei sz R F a n cap EW Lb) : (EW.length : Int) ≤ 9223372036854775807 := by
  have := h.Bm; simp only [maxLen] at this; omega
theorem K3.ge (h : K3 nb E Ei sz R F a n cap EW Lb) : ∀ p ∈ Lb, nb ≤ p.1 := fun p hp => by
  obtain ⟨hs, Lo, Lc, h1, h2, h3⟩ := h
  rcases List.mem_append.1 (h1.subset hp) with h | h
  · exact h2.1 p h
  · exact h3.ge p h
theorem K3.new {m : Nat} (h : K3 m E Ei sz R F a n cap EW Lb) (hn : ∀ p ∈ Lb, nb ≤ p.1) : K3 nb E Ei sz R F a n cap EW Lb := by
  obtain ⟨hs, Lo, Lc, h1, h2, h3⟩ := h
  exact ⟨hs, Lo, Lc, h1, ⟨fun p hp => hn p (h1.symm.subset (List.mem_append_left _ hp)), h2.2⟩, h3.new fun p hp => hn p (h1.symm.subset (List.mem_append_right _ hp))⟩
theorem K3.any (h : K3 nb E Ei sz R F a n cap EW Lb) : K3 0 E Ei sz R F a n cap EW Lb := h.new fun _ _ => Nat.zero_le _
theorem K3.row (h : K3 nb E Ei sz R F a n cap EW Lb) (hR : De sz R) {F' : FS} (hx : AY F F') (hF : ∀ p ∈ Lb, F' p.1 = some p.2) : AL 1 (Ol sz R) F' a cap EW := by
  obtain ⟨hs, Lo, Lc, h1, h2, h3⟩ := h
  exact (h2.XV hR h3 hx fun p hp => hF p (h1.symm.subset hp)).1
theorem K3.made {k : Nat} (h : AN nb E 1 Sp F a n cap (List.replicate k (none, 0, 0)) Lb) (hz : EW = List.replicate k []) : K3 nb E Ei sz R F a n cap EW Lb := by
  subst hz; exact ⟨_, Lb, [], by simp, h, MG.Xb k⟩
theorem Xo {m : Nat} (hn : n = m) {i : Int} (g : 0 ≤ i ∧ i < (m : Int)) : 0 ≤ i ∧ i < (n : Int) := by rw [hn]; exact g
theorem X2 {hs : List Hd} (hn : n = EW.length) (h : AN nb E 1 Sp F a n cap hs Lo) {i : Int} (g : 0 ≤ i ∧ i < (EW.length : Int)) : 0 ≤ i ∧ i < (hs.length : Int) := by rw [← h.2.1, hn]; exact g
theorem Sc.back {m c : Nat} {a' : Option Addr} (h : Sc nb Ei sz R F i hs EW Lc) (ho : AN nb E 1 Sp F a n cap (hs.set i (a', m, c)) Lo) (hr : AN nb Ei sz R F a' m c xs Li) {aa : List (List α)} (hz : aa = EW.set i xs) : K3 nb E Ei sz R F a n cap aa (Lo ++ (Li ++ (Lc ++ []))) := by
  subst hz; exact ⟨_, Lo, Li ++ Lc, by simp, ho, h.close hr⟩
theorem MG.push {m c : Nat} {a' : Option Addr} (h : MG nb Ei sz R F hs EW Lc) {aa : List Hd} (he : aa = hs ++ [(a', m, c)]) (ho : AN nb E 1 Sp F a n cap aa Lo) (hr : AN nb Ei sz R F a' m c xs Li) {ab : List (List α)} (hz : ab = EW ++ [xs]) : K3 nb E Ei sz R F a n cap ab (Lo ++ (Li ++ (Lc ++ []))) := by
  subst hz he; exact ⟨_, Lo, Li ++ Lc, by simp, ho, h.snoc hr⟩
theorem RH {Q : HE} {c : Code} (aa : K.w0.heap.size ≤ nb) (hR : De sz R) (hL : L.Perm (Lb ++ Lr)) (h : K3 nb E Ei sz R F a n cap EW Lb) (k : ∀ F', AY F F' → AL 1 (Ol sz R) F' a cap EW → Gh P N r K c Q e F' Lr) : Gh P N r K c Q e F L := fun M act w ha hs => by
  obtain ⟨F', h1, h2, h3⟩ := St.JA Lb (hs.perm hL) (fun p hp => Nat.le_trans aa (h.ge p hp))
  exact k F' h2 (h.row hR h2 h3) M act w ha h1
theorem UB {l : List Oper} (hL : L.Perm (Lb ++ Lr)) (h : K3 nb E Ei sz R F a n cap EW Lb) (hx : EW[i]? = some xs)
    (k : ∀ hs Lo Lc a' m c Li, hs[i]? = some (a', m, c) → AN nb E 1 Sp F a n cap hs Lo → AN nb Ei sz R F a' m c xs Li → Sc nb Ei sz R F i hs EW Lc → C7 P N r K ops Q l e F (Lo ++ (Li ++ (Lc ++ Lr)))) : C7 P N r K ops Q l e F L := by
  obtain ⟨hs, Lo, Lc, h1, h2, h3⟩ := h
  obtain ⟨a', m, c, Li, aa, h4, h5, h6, h7⟩ := h3.open hx
  refine AV ?_ (k hs Lo aa a' m c Li h4 h2 h5 h7)
  refine hL.trans ((h1.append_right Lr).trans ?_)
  rw [List.append_assoc]
  refine List.Perm.append_left Lo ?_
  have := h6.append_right Lr
  rwa [List.append_assoc] at this
theorem Ut {p : LH → Prop} {A : LH} {l : List Oper} (h : p A) (hL : L.Perm (A ++ Lr)) (k : ∀ Lb, p Lb → C7 P N r K ops Q l e F (Lb ++ Lr)) : C7 P N r K ops Q l e F L := AV hL (k A h)
end
inductive KU (K : Ctx) (Lm : Env → FS → LH → Prop) (e : Env) : FS → LH → Prop
  | now {F : FS} {L : LH} (h : meet Lm e F L) : KU K Lm e F L
  | Ym {F : FS} {L Lb Lr : LH} (hL : L.Perm (Lb ++ Lr)) (hn : ∀ p ∈ Lb, K.w0.heap.size ≤ p.1) (k : ∀ F', AY F F' → (∀ p ∈ Lb, F' p.1 = some p.2) → KU K Lm e F' Lr) : KU K Lm e F L
section
variable {P : Program} {N : Nat} {r : Option Nat} {K : Ctx} {Q : HE} {e : Env} {F : FS} {L Lb Lr L2 : LH} {Lm : Env → FS → LH → Prop}
theorem KU.out (h : KU K Lm e F L) {M : List Nat} {w : World} (hs : St K M F L w) : ∃ F' L', Lm e F' L' ∧ St K M F' L' w := by
  induction h with
  | now h => obtain ⟨L2, L3, hp, aa, hm⟩ := h; exact ⟨_, _, hm, (hs.perm hp).drop aa⟩
  | Ym hL hn _ ih =>
    obtain ⟨F', h1, h2, h3⟩ := St.JA _ (hs.perm hL) hn
    exact ih F' h2 h3 h1
theorem Qd {x y : Code} (Lm : Env → FS → LH → Prop) (h : Gh P N r K x (andThen (KU K Lm) Q) e F L) (k : ∀ e F L, Lm e F L → Gh P N r K y Q e F L) : Gh P N r K (.seq x y) Q e F L :=
  Od (KU K Lm) h fun e F L hm M a w ha aa => by
    obtain ⟨F', L', h1, h2⟩ := hm.out aa
    exact k e F' L' h1 M a w ha h2
theorem SV {c : Code} (I : Nat → Env → FS → LH → Prop) (n0 : Nat) (h0 : meet (I n0) e F L)
    (round : ∀ n e F L, I n e F L → Gh P N r K c (andThen (fun e F L => ∃ n', n' < n ∧ KU K (I n') e F L) Q) e F L) : Gh P N r K (.loop c) Q e F L := by
  obtain ⟨L2, L3, hp, hs, hm⟩ := h0
  refine RN hp (Rb hs fun M a w ha hs => ?_)
  refine Ml (fun s a w => ∃ M e F L, Ag N M e a ∧ St K M F L w ∧ I s e F L) id n0 ⟨M, e, F, L2, ha, hs, hm⟩ ?_
  rintro s a w ⟨M, e, F, L, ha, hs, hI⟩
  refine wpIn_mono (round s e F L hI M a w ha hs) ?_
  rintro ex a' w' ⟨M', e', F', L', h1, h2, h3⟩
  cases ex with
  | normal =>
    obtain ⟨s', h5, h4⟩ := h3
    obtain ⟨F2, L2, h6, h7⟩ := h4.out h2
    exact ⟨s', ⟨M', e', F2, L2, h1, h7, h6⟩, h5⟩
  | _ => exact ⟨M', e', F', L', h1, h2, h3⟩
theorem lf {I : Nat → Env → FS → LH → Prop} {n : Nat} (h : KU K (I n) e F L) : andThen (fun e F L => ∃ n', n' < n + 1 ∧ KU K (I n') e F L) Q .normal e F L := ⟨n, Nat.lt_succ_self _, h⟩
theorem mf (h : KL L L2) (hm : Lm e F L2) : KU K Lm e F L := let ⟨L3, h1, h2⟩ := h; .now ⟨L2, L3, h1, h2, hm⟩
theorem Ns {α : Type} {R : Jc α} {a : Option Addr} {n cap : Nat} {xs : List α} {nb E sz : Nat} (aa : K.w0.heap.size ≤ nb) (hR : De sz R) (hL : L.Perm (Lb ++ Lr)) (h : AN nb E sz R F a n cap xs Lb) (k : ∀ F', AY F F' → AL sz R F' a cap xs → KU K Lm e F' Lr) : KU K Lm e F L :=
  .Ym hL (fun p hp => Nat.le_trans aa (h.1 p hp)) fun F' h1 h2 => k F' h1 (h.row hR h1 h2)
end
theorem Xh {xs : List Int} {i : Nat} {c : Int} (hc : xs[i]? = some c) : (sB xs)[i]? = some (UInt8.ofNat c.toNat) := by
  obtain ⟨hi, rfl⟩ := List.getElem?_eq_some_iff.1 hc
  have hs : i < (sB xs).size := by rw [On]; exact hi
  rw [getElem?_pos (sB xs) i hs]
  congr 1
  rw [ByteArray.getElem_eq_getElem_data]
  simp [sB]
theorem Sq {P : Program} {N : Nat} {K : Ctx} {e : Env} {F : FS} {L : LH} {ty T : TypeId} {x y : Operand} {xs : List Int} {k : IntKind} {i c : Int} (hT : P.underlying T = some .string) (hx : ev e x = some (.string (sB xs))) (hy : ev e y = some (.int k i)) (h0 : 0 ≤ i) (hc : xs[i.toNat]? = some c) (g : 0 ≤ c ∧ c < 256) :
    FC P N K e F L (.index T x y) ty (.int .u8 c) := Td (fun w => by
  have h1 := Xh hc
  have h2 : ((UInt8.ofNat c.toNat).toNat : Int) = c := by
    rw [UInt8.toNat_ofNat']
    omega
  simp [Instr.index, asIntOf, run_underlying hT, h0, h1]
  omega) hx hy
theorem WK {n : Int} (h : 0 ≤ n ∧ n ≤ 1048576) : n.toNat ≤ maxLen := by simp only [maxLen]; omega
theorem FC.b {P : Program} {N : Nat} {K : Ctx} {e : Env} {F : FS} {L : LH} {op : Op} {ty : TypeId} {p q : Bool} (h : FC P N K e F L op ty (.bool p)) (he : p = q) : FC P N K e F L op ty (.bool q) := he ▸ h
end Go.SH
