/- The calculus, part T: lists of lists, all of them owned. -/
import Derived.Test.YtfmapnhfamoecaaGreatZLShS
namespace Go.SH
abbrev Hd := Option Addr × Nat × Nat
def Tz : JC Hd := fun _ vs h => vs = [.slice h.1 h.2.1 h.2.2]
theorem Jl : Dz 1 Tz := ⟨fun _ h => h, fun h => by rw [show _ = _ from h]; rfl, fun h => by
  rw [show _ = _ from h]; intro v hv; rw [List.mem_singleton.1 hv]; rfl⟩
theorem Nr : ∀ (Ls : List LH) (i : Nat) (Lb : LH), i < Ls.length → (Ls.set i Lb).flatten.Perm (Lb ++ (Ls.set i []).flatten)
  | [], i, _, h => by simp at h
  | L :: Ls, 0, Lb, _ => by simp
  | L :: Ls, i + 1, Lb, h => by
    simp only [List.set_cons_succ, List.flatten_cons]
    exact ((Nr Ls i Lb (by simpa using h)).append_left L).trans (List.perm_append_comm_assoc ..)
theorem TC {α : Type} {xs : List α} {i : Nat} {x : α} (h : xs[i]? = some x) : xs.set i x = xs := by
  obtain ⟨hi, rfl⟩ := List.getElem?_eq_some_iff.1 h
  exact List.set_getElem_self hi
section
variable {α : Type} {nb E sz : Nat} {R : JC α} {F : FS} {hs : List Hd} {FD : List (List α)} {Lc : LH} {i : Nat}
def Ps (nb E sz : Nat) (R : JC α) (F : FS) (hs : List Hd) (FD : List (List α)) (Lc : LH) : Prop :=
  ∃ Ls : List LH, Lc.Perm Ls.flatten ∧ hs.length = FD.length ∧ Ls.length = hs.length ∧ ∀ (j : Nat) (h : Hd) (xs : List α) (Lb : LH), hs[j]? = some h → FD[j]? = some xs → Ls[j]? = some Lb → Be nb E sz R F h.1 h.2.1 h.2.2 xs Lb
def S5 (nb E sz : Nat) (R : JC α) (F : FS) (i : Nat) (hs : List Hd) (FD : List (List α)) (Lc : LH) : Prop :=
  ∃ Ls : List LH, Lc.Perm (Ls.set i []).flatten ∧ hs.length = FD.length ∧ Ls.length = hs.length ∧ i < hs.length ∧ ∀ (j : Nat) (h : Hd) (xs : List α) (Lb : LH), j ≠ i → hs[j]? = some h → FD[j]? = some xs → Ls[j]? = some Lb → Be nb E sz R F h.1 h.2.1 h.2.2 xs Lb
theorem Ps.nil : Ps nb E sz R F [] [] [] := ⟨[], .refl _, rfl, rfl, fun _ _ _ _ h => by simp at h⟩
theorem Ps.Zg (k : Nat) : Ps nb E sz R F (List.replicate k (none, 0, 0)) (List.replicate k []) [] := ⟨List.replicate k [], by simp, by simp, by simp, fun j h xs Lb h1 h2 h3 => by
  rw [List.getElem?_replicate] at h1 h2 h3
  split at h1
  · rename_i hj
    rw [if_pos hj] at h2 h3
    cases h1; cases h2; cases h3
    exact Be.nil _ _ _ _ _
  · cases h1⟩
theorem Ps.mono (hR : Dz sz R) {F' : FS} (h : Ps nb E sz R F hs FD Lc) (hF : A3 F F') : Ps nb E sz R F' hs FD Lc := by
  obtain ⟨Ls, h1, h2, h3, h4⟩ := h
  exact ⟨Ls, h1, h2, h3, fun j h xs Lb e1 e2 e3 => (h4 j h xs Lb e1 e2 e3).mono hR hF⟩
theorem S5.mono (hR : Dz sz R) {F' : FS} (h : S5 nb E sz R F i hs FD Lc) (hF : A3 F F') : S5 nb E sz R F' i hs FD Lc := by
  obtain ⟨Ls, h1, h2, h3, h5, h4⟩ := h
  exact ⟨Ls, h1, h2, h3, h5, fun j h xs Lb e0 e1 e2 e3 => (h4 j h xs Lb e0 e1 e2 e3).mono hR hF⟩
theorem Ps.len (h : Ps nb E sz R F hs FD Lc) : hs.length = FD.length := by obtain ⟨_, _, h, _⟩ := h; exact h
theorem Ps.snoc (h : Ps nb E sz R F hs FD Lc) {a : Option Addr} {n c : Nat} {xs : List α} {Lb : LH} (hr : Be nb E sz R F a n c xs Lb) : Ps nb E sz R F (hs ++ [(a, n, c)]) (FD ++ [xs]) (Lb ++ Lc) := by
  obtain ⟨Ls, h1, h2, h3, h4⟩ := h
  refine ⟨Ls ++ [Lb], ?_, by simp [h2], by simp [h3], fun j h ys Lb' e1 e2 e3 => ?_⟩
  · rw [List.flatten_append]
    simp only [List.flatten_cons, List.flatten_nil, List.append_nil]
    exact (h1.append_left Lb).trans List.perm_append_comm
  · by_cases hj : j < hs.length
    · rw [List.getElem?_append_left hj] at e1
      rw [List.getElem?_append_left (by omega)] at e2 e3
      exact h4 j h ys Lb' e1 e2 e3
    · rw [List.getElem?_append_right (by omega)] at e1 e2 e3
      have e0 : j - hs.length = 0 := by
        obtain ⟨aa, _⟩ := List.getElem?_eq_some_iff.1 e1
        simpa using aa
      rw [e0] at e1; rw [← h2, e0] at e2; rw [h3, e0] at e3
      cases e1; cases e2; cases e3
      exact hr
theorem Ps.open (h : Ps nb E sz R F hs FD Lc) {xs : List α} (hx : FD[i]? = some xs) : ∃ a n c Lb aa, hs[i]? = some (a, n, c) ∧ Be nb E sz R F a n c xs Lb ∧ Lc.Perm (Lb ++ aa) ∧ S5 nb E sz R F i hs FD aa := by
  obtain ⟨Ls, h1, h2, h3, h4⟩ := h
  obtain ⟨hi, _⟩ := List.getElem?_eq_some_iff.1 hx
  have e1 : hs[i]? = some (hs[i]'(by omega)) := List.getElem?_eq_getElem (by omega)
  have e3 : Ls[i]? = some (Ls[i]'(by omega)) := List.getElem?_eq_getElem (by omega)
  refine ⟨_, _, _, _, _, e1, h4 i _ _ _ e1 hx e3, ?_, Ls, .refl _, h2, h3, by omega, fun j h xs Lb _ => h4 j h xs Lb⟩
  have := Nr Ls i (Ls[i]'(by omega)) (show i < Ls.length by omega)
  rw [TC e3] at this
  exact h1.trans this
theorem S5.close (h : S5 nb E sz R F i hs FD Lc) {a : Option Addr} {n c : Nat} {xs : List α} {Lb : LH} (hr : Be nb E sz R F a n c xs Lb) : Ps nb E sz R F (hs.set i (a, n, c)) (FD.set i xs) (Lb ++ Lc) := by
  obtain ⟨Ls, h1, h2, h3, h5, h4⟩ := h
  refine ⟨Ls.set i Lb, (h1.append_left Lb).trans (Nr Ls i Lb (by omega)).symm, by simp [h2], by simp [h3], fun j h ys Lb' e1 e2 e3 => ?_⟩
  rw [List.getElem?_set] at e1 e2 e3
  by_cases hj : i = j
  · rw [if_pos hj] at e1 e2 e3
    rw [if_pos (by omega)] at e1 e2 e3
    cases e1; cases e2; cases e3
    exact hr
  · rw [if_neg hj] at e1 e2 e3
    exact h4 j h ys Lb' (fun he => hj he.symm) e1 e2 e3
theorem Ps.rows (hR : Dz sz R) (h : Ps nb E sz R F hs FD Lc) {F' : FS} (hx : A3 F F') (hF : ∀ p ∈ Lc, F' p.1 = some p.2) : ∀ (j : Nat) (h : Hd) (xs : List α), hs[j]? = some h → FD[j]? = some xs → h.2.1 = xs.length ∧ Av sz R F' h.1 h.2.2 xs := by
  obtain ⟨Ls, h1, h2, h3, h4⟩ := h
  intro j h xs e1 e2
  obtain ⟨hj, _⟩ := List.getElem?_eq_some_iff.1 e1
  have e3 : Ls[j]? = some (Ls[j]'(by omega)) := List.getElem?_eq_getElem (by omega)
  have aa := h4 j h xs _ e1 e2 e3
  refine ⟨aa.2.1, aa.row hR hx fun p hp => hF p ?_⟩
  exact h1.symm.subset (List.mem_flatten.2 ⟨_, List.getElem_mem _, hp⟩)
theorem Xi {vss : List (List Value)} (h : E6 (Tz F) vss hs) {F' : FS} (hl : hs.length = FD.length) (hr : ∀ (j : Nat) (h : Hd) (xs : List α), hs[j]? = some h → FD[j]? = some xs → h.2.1 = xs.length ∧ Av sz R F' h.1 h.2.2 xs) : E6 (BK sz R F') vss FD := by
  induction h generalizing FD with
  | nil =>
    cases FD with
    | nil => exact .nil
    | cons => simp at hl
  | cons h1 _ ih =>
    cases FD with
    | nil => simp at hl
    | cons xs FD =>
      rename_i v b as bs h2
      obtain ⟨e1, e2⟩ := hr 0 _ _ rfl rfl
      refine .cons ⟨b.1, b.2.2, ?_, e2⟩ (ih (by simpa using hl) fun j h ys f1 f2 => hr (j + 1) h ys f1 f2)
      rw [← e1]; exact h1
variable {P : Program} {N : Nat} {r : Option Nat} {K : Ctx} {ops : Array Oper} {Q : Env → FS → LH → Prop} {L Lr Lo : LH} {e : Env} {Eo ZA n cap : Nat} {a : Option Addr}
theorem Be.ZB (ho : Be ZA Eo 1 Tz F a n cap hs Lo) (hR : Dz sz R) (h : Ps nb E sz R F hs FD Lc) {F' : FS} (hx : A3 F F') (hF : ∀ p ∈ Lo ++ Lc, F' p.1 = some p.2) : Av 1 (BK sz R) F' a cap FD ∧ n = FD.length := by
  have h1 := ho.row Jl hx fun p hp => hF p (List.mem_append_left _ hp)
  obtain ⟨vss, h2, h3⟩ := h1
  have hl := h.len
  refine ⟨⟨vss, Xi h2 hl (h.rows hR hx fun p hp => hF p (List.mem_append_right _ hp)), ?_⟩, by rw [ho.2.1, hl]⟩
  rw [← hl]; exact h3
theorem Ps.new (h : Ps nb E sz R F hs FD Lc) (hn : ∀ p ∈ Lc, ZA ≤ p.1) : Ps ZA E sz R F hs FD Lc := by
  obtain ⟨Ls, h1, h2, h3, h4⟩ := h
  exact ⟨Ls, h1, h2, h3, fun j h xs Lb e1 e2 e3 => ⟨fun p hp => hn p (h1.symm.subset (List.mem_flatten.2 ⟨Lb, List.mem_of_getElem? e3, hp⟩)), (h4 j h xs Lb e1 e2 e3).2⟩⟩
theorem Ps.ge (h : Ps nb E sz R F hs FD Lc) : ∀ p ∈ Lc, nb ≤ p.1 := fun p hp => by
  obtain ⟨Ls, h1, h2, h3, h4⟩ := h
  obtain ⟨Lb, h5, h6⟩ := List.mem_flatten.1 (h1.subset hp)
  obtain ⟨j, hj, rfl⟩ := List.getElem_of_mem h5
  exact (h4 j _ _ _ (List.getElem?_eq_getElem (by omega)) (List.getElem?_eq_getElem (by omega)) (List.getElem?_eq_getElem hj)).1 p h6
def JF {α : Type} (nb E Ei sz : Nat) (R : JC α) (F : FS) (a : Option Addr) (n cap : Nat) (FD : List (List α)) (Lb : LH) : Prop :=
  ∃ hs Lo Lc, Lb.Perm (Lo ++ Lc) ∧ Be nb E 1 Tz F a n cap hs Lo ∧ Ps nb Ei sz R F hs FD Lc
variable {Ei : Nat} {Lb Li : LH} {xs : List α}
theorem JF.nil (nb E Ei sz : Nat) (R : JC α) (F : FS) : JF nb E Ei sz R F none 0 0 [] [] := ⟨[], [], [], .refl _, Be.nil _ _ _ _ _, Ps.nil⟩
theorem JF.mono (hR : Dz sz R) {F' : FS} (h : JF nb E Ei sz R F a n cap FD Lb) (hF : A3 F F') : JF nb E Ei sz R F' a n cap FD Lb := by
  obtain ⟨hs, Lo, Lc, h1, h2, h3⟩ := h
  exact ⟨hs, Lo, Lc, h1, h2.mono Jl hF, h3.mono hR hF⟩
theorem JF.Eu (h : JF nb E Ei sz R F a n cap FD Lb) : n = FD.length ∧ n ≤ cap ∧ cap ≤ maxLen := by
  obtain ⟨hs, Lo, Lc, h1, h2, h3⟩ := h
  rw [← h3.len]; exact h2.Eu
theorem JF.Kw (h : JF nb E Ei sz R F a n cap FD Lb) : (FD.length : Int) = (n : Int) := by rw [h.Eu.1]
theorem JF.X5 (h : JF nb E Ei sz R F a n cap FD Lb) : (FD.length : Int) ≤ 9223372036854775807 := by
  have := h.Eu; simp only [maxLen] at this; omega
theorem JF.ge (h : JF nb E Ei sz R F a n cap FD Lb) : ∀ p ∈ Lb, nb ≤ p.1 := fun p hp => by
  obtain ⟨hs, Lo, Lc, h1, h2, h3⟩ := h
  rcases List.mem_append.1 (h1.subset hp) with h | h
  · exact h2.1 p h
  · exact h3.ge p h
theorem JF.new {m : Nat} (h : JF m E Ei sz R F a n cap FD Lb) (hn : ∀ p ∈ Lb, nb ≤ p.1) : JF nb E Ei sz R F a n cap FD Lb := by
  obtain ⟨hs, Lo, Lc, h1, h2, h3⟩ := h
  exact ⟨hs, Lo, Lc, h1, ⟨fun p hp => hn p (h1.symm.subset (List.mem_append_left _ hp)), h2.2⟩, h3.new fun p hp => hn p (h1.symm.subset (List.mem_append_right _ hp))⟩
theorem JF.any (h : JF nb E Ei sz R F a n cap FD Lb) : JF 0 E Ei sz R F a n cap FD Lb := h.new fun _ _ => Nat.zero_le _
theorem JF.row (h : JF nb E Ei sz R F a n cap FD Lb) (hR : Dz sz R) {F' : FS} (hx : A3 F F') (hF : ∀ p ∈ Lb, F' p.1 = some p.2) : Av 1 (BK sz R) F' a cap FD := by
  obtain ⟨hs, Lo, Lc, h1, h2, h3⟩ := h
  exact (h2.ZB hR h3 hx fun p hp => hF p (h1.symm.subset hp)).1
theorem JF.made {k : Nat} (h : Be nb E 1 Tz F a n cap (List.replicate k (none, 0, 0)) Lb) (hz : FD = List.replicate k []) : JF nb E Ei sz R F a n cap FD Lb := by
  subst hz; exact ⟨_, Lb, [], by simp, h, Ps.Zg k⟩
theorem V8 {m : Nat} (hn : n = m) {i : Int} (g : 0 ≤ i ∧ i < (m : Int)) : 0 ≤ i ∧ i < (n : Int) := by rw [hn]; exact g
theorem Yn {hs : List Hd} (hn : n = FD.length) (h : Be nb E 1 Tz F a n cap hs Lo) {i : Int} (g : 0 ≤ i ∧ i < (FD.length : Int)) : 0 ≤ i ∧ i < (hs.length : Int) := by rw [← h.2.1, hn]; exact g
theorem S5.back {m c : Nat} {a' : Option Addr} (h : S5 nb Ei sz R F i hs FD Lc) (ho : Be nb E 1 Tz F a n cap (hs.set i (a', m, c)) Lo) (hr : Be nb Ei sz R F a' m c xs Li) {aa : List (List α)} (hz : aa = FD.set i xs) : JF nb E Ei sz R F a n cap aa (Lo ++ (Li ++ (Lc ++ []))) := by
  subst hz; exact ⟨_, Lo, Li ++ Lc, by simp, ho, h.close hr⟩
theorem Ps.push {m c : Nat} {a' : Option Addr} (h : Ps nb Ei sz R F hs FD Lc) {aa : List Hd} (he : aa = hs ++ [(a', m, c)]) (ho : Be nb E 1 Tz F a n cap aa Lo) (hr : Be nb Ei sz R F a' m c xs Li) {ab : List (List α)} (hz : ab = FD ++ [xs]) : JF nb E Ei sz R F a n cap ab (Lo ++ (Li ++ (Lc ++ []))) := by
  subst hz he; exact ⟨_, Lo, Li ++ Lc, by simp, ho, h.snoc hr⟩
theorem Tb {l : List Oper} (aa : K.w0.heap.size ≤ nb) (hR : Dz sz R) (hL : L.Perm (Lb ++ Lr)) (h : JF nb E Ei sz R F a n cap FD Lb) (k : ∀ F', A3 F F' → Av 1 (BK sz R) F' a cap FD → Dl P N r K ops Q l e F' Lr) : Dl P N r K ops Q l e F L := fun M act w ha hs => by
  obtain ⟨F', h1, h2, h3⟩ := St.JY Lb (hs.perm hL) (fun p hp => Nat.le_trans aa (h.ge p hp))
  exact k F' h2 (h.row hR h2 h3) M act w ha h1
theorem Qa {Q : I7} {c : Code} (aa : K.w0.heap.size ≤ nb) (hR : Dz sz R) (hL : L.Perm (Lb ++ Lr)) (h : JF nb E Ei sz R F a n cap FD Lb) (k : ∀ F', A3 F F' → Av 1 (BK sz R) F' a cap FD → G6 P N r K c Q e F' Lr) : G6 P N r K c Q e F L := fun M act w ha hs => by
  obtain ⟨F', h1, h2, h3⟩ := St.JY Lb (hs.perm hL) (fun p hp => Nat.le_trans aa (h.ge p hp))
  exact k F' h2 (h.row hR h2 h3) M act w ha h1
theorem Re {l : List Oper} (hL : L.Perm (Lb ++ Lr)) (h : JF nb E Ei sz R F a n cap FD Lb) (hx : FD[i]? = some xs)
    (k : ∀ hs Lo Lc a' m c Li, hs[i]? = some (a', m, c) → Be nb E 1 Tz F a n cap hs Lo → Be nb Ei sz R F a' m c xs Li → S5 nb Ei sz R F i hs FD Lc → Dl P N r K ops Q l e F (Lo ++ (Li ++ (Lc ++ Lr)))) : Dl P N r K ops Q l e F L := by
  obtain ⟨hs, Lo, Lc, h1, h2, h3⟩ := h
  obtain ⟨a', m, c, Li, aa, h4, h5, h6, h7⟩ := h3.open hx
  refine Cz ?_ (k hs Lo aa a' m c Li h4 h2 h5 h7)
  refine hL.trans ((h1.append_right Lr).trans ?_)
  rw [List.append_assoc]
  refine List.Perm.append_left Lo ?_
  have := h6.append_right Lr
  rwa [List.append_assoc] at this
theorem QN {p : LH → Prop} {A : LH} {l : List Oper} (h : p A) (hL : L.Perm (A ++ Lr)) (k : ∀ Lb, p Lb → Dl P N r K ops Q l e F (Lb ++ Lr)) : Dl P N r K ops Q l e F L := Cz hL (k A h)
end
inductive Ld (K : Ctx) (MW : Env → FS → LH → Prop) (e : Env) : FS → LH → Prop
  | now {F : FS} {L : LH} (h : meet MW e F L) : Ld K MW e F L
  | Zy {F : FS} {L Lb Lr : LH} (hL : L.Perm (Lb ++ Lr)) (hn : ∀ p ∈ Lb, K.w0.heap.size ≤ p.1) (k : ∀ F', A3 F F' → (∀ p ∈ Lb, F' p.1 = some p.2) → Ld K MW e F' Lr) : Ld K MW e F L
section
variable {P : Program} {N : Nat} {r : Option Nat} {K : Ctx} {Q : I7} {e : Env} {F : FS} {L Lb Lr L2 : LH} {MW : Env → FS → LH → Prop}
theorem Q9 {α : Type} : ∀ (L : List α) (i : Nat) (h : i < L.length), L.Perm ([L[i]] ++ L.eraseIdx i)
  | [], _, h => by simp at h
  | x :: L, 0, _ => by simp
  | x :: L, i + 1, h => by
    simp only [List.getElem_cons_succ, List.eraseIdx_cons_succ]
    exact ((Q9 L i (by simpa using h)).cons x).trans (List.Perm.swap ..)
theorem Ld.out (h : Ld K MW e F L) {M : List Nat} {w : World} (hs : St K M F L w) : ∃ F' L', MW e F' L' ∧ St K M F' L' w := by
  induction h with
  | now h => obtain ⟨L2, L3, hp, aa, hm⟩ := h; exact ⟨_, _, hm, (hs.perm hp).drop aa⟩
  | Zy hL hn _ ih =>
    obtain ⟨F', h1, h2, h3⟩ := St.JY _ (hs.perm hL) hn
    exact ih F' h2 h3 h1
theorem VE {x y : Code} (MW : Env → FS → LH → Prop) (h : G6 P N r K x (andThen (Ld K MW) Q) e F L) (k : ∀ e F L, MW e F L → G6 P N r K y Q e F L) : G6 P N r K (.seq x y) Q e F L :=
  P5 (Ld K MW) h fun e F L hm M a w ha aa => by
    obtain ⟨F', L', h1, h2⟩ := hm.out aa
    exact k e F' L' h1 M a w ha h2
theorem SF {c : Code} (I : Nat → Env → FS → LH → Prop) (n0 : Nat) (h0 : meet (I n0) e F L)
    (round : ∀ n e F L, I n e F L → G6 P N r K c (andThen (fun e F L => ∃ n', n' < n ∧ Ld K (I n') e F L) Q) e F L) : G6 P N r K (.loop c) Q e F L := by
  obtain ⟨L2, L3, hp, hs, hm⟩ := h0
  refine S1 hp (Tn hs fun M a w ha hs => ?_)
  refine N3 (fun s a w => ∃ M e F L, Ag N M e a ∧ St K M F L w ∧ I s e F L) id n0 ⟨M, e, F, L2, ha, hs, hm⟩ ?_
  rintro s a w ⟨M, e, F, L, ha, hs, hI⟩
  refine wpIn_mono (round s e F L hI M a w ha hs) ?_
  rintro ex a' w' ⟨M', e', F', L', h1, h2, h3⟩
  cases ex with
  | normal =>
    obtain ⟨s', h5, h4⟩ := h3
    obtain ⟨F2, L2, h6, h7⟩ := h4.out h2
    exact ⟨s', ⟨M', e', F2, L2, h1, h7, h6⟩, h5⟩
  | _ => exact ⟨M', e', F', L', h1, h2, h3⟩
theorem lf {I : Nat → Env → FS → LH → Prop} {n : Nat} (h : Ld K (I n) e F L) : andThen (fun e F L => ∃ n', n' < n + 1 ∧ Ld K (I n') e F L) Q .normal e F L := ⟨n, Nat.lt_succ_self _, h⟩
theorem mf (h : KL L L2) (hm : MW e F L2) : Ld K MW e F L := let ⟨L3, h1, h2⟩ := h; .now ⟨L2, L3, h1, h2, hm⟩
theorem Us {L' : LH} (h : L = L') (k : Ld K MW e F L') : Ld K MW e F L := h ▸ k
theorem Nf (i : Nat) {b : Nat} {o : Obj} (hi : L[i]? = some (b, o)) (hb : K.w0.heap.size ≤ b) (k : ∀ F', A3 F F' → F' b = some o → Ld K MW e F' (L.eraseIdx i)) : Ld K MW e F L := by
  refine .Zy (Lb := [(b, o)]) (Lr := L.eraseIdx i) ?_ (fun p hp => by rw [List.mem_singleton.1 hp]; exact hb) fun F' h1 h2 => k F' h1 (h2 (b, o) (List.mem_singleton.2 rfl))
  obtain ⟨aa, he⟩ := List.getElem?_eq_some_iff.1 hi
  rw [← he]
  exact Q9 L i aa
end
theorem Y6 {xs : List Int} {i : Nat} {c : Int} (hc : xs[i]? = some c) : (sB xs)[i]? = some (UInt8.ofNat c.toNat) := by
  obtain ⟨hi, rfl⟩ := List.getElem?_eq_some_iff.1 hc
  have hs : i < (sB xs).size := by rw [Qz]; exact hi
  rw [getElem?_pos (sB xs) i hs]
  congr 1
  rw [ByteArray.getElem_eq_getElem_data]
  simp [sB]
theorem Uo {P : Program} {N : Nat} {K : Ctx} {e : Env} {F : FS} {L : LH} {ty T : TypeId} {x y : Operand} {xs : List Int} {k : IntKind} {i c : Int} (hT : P.underlying T = some .string) (hx : ev e x = some (.string (sB xs))) (hy : ev e y = some (.int k i)) (h0 : 0 ≤ i) (hc : xs[i.toNat]? = some c) (g : 0 ≤ c ∧ c < 256) :
    Gs P N K e F L (.index T x y) ty (.int .u8 c) := Xb (fun w => by
  have h1 := Y6 hc
  have h2 : ((UInt8.ofNat c.toNat).toNat : Int) = c := by
    rw [UInt8.toNat_ofNat']
    omega
  simp [Instr.index, asIntOf, run_underlying hT, h0, h1]
  omega) hx hy
theorem Be.nn {α : Type} {nb E sz : Nat} {R : JC α} {F : FS} {a : Option Addr} {n cap : Nat} {xs : List α} {Lb : LH} (h : Be nb E sz R F a n cap xs Lb) (g : xs ≠ []) : a = none ↔ xs = [] := by
  obtain ⟨_, h2, vss, _, _, _, h3⟩ := h
  refine ⟨fun ha => ?_, fun he => absurd he g⟩
  rcases h3 with ⟨a', _, h4, _⟩ | ⟨g', aa, pre, sp, h4, _⟩
  · exact List.eq_nil_of_length_eq_zero (h2 ▸ h4)
  · rw [ha] at h4; cases h4
theorem TG {α : Type} [DecidableEq α] {a : Option Addr} {xs : List α} (h : a = none ↔ xs = []) : a.isNone = decide (xs = []) := by
  cases a with
  | none => simp [h.1 rfl]
  | some a => have : xs ≠ [] := fun he => nomatch h.2 he
              simp [this]
theorem WE {α : Type} : (none : Option Addr) = none ↔ ([] : List α) = [] := by simp
theorem Gs.b {P : Program} {N : Nat} {K : Ctx} {e : Env} {F : FS} {L : LH} {op : Op} {ty : TypeId} {p q : Bool} (h : Gs P N K e F L op ty (.bool p)) (he : p = q) : Gs P N K e F L op ty (.bool q) := he ▸ h
end Go.SH
