/- The calculus, part T: lists of lists, all of them owned. -/
import Derived.Test.YtfmapnhfamoecabGreatZQShS
namespace Go.SH
abbrev Hd := Option Addr × Nat × Nat
def Sx : Ic Hd := fun _ vs h => vs = [.slice h.1 h.2.1 h.2.2]
theorem Mh : Dv 1 Sx := ⟨fun _ h => h, fun h => by rw [show _ = _ from h]; rfl, fun h => by
  rw [show _ = _ from h]; intro v hv; rw [List.mem_singleton.1 hv]; rfl⟩
theorem Lg : ∀ (Ls : List LH) (i : Nat) (Lb : LH), i < Ls.length → (Ls.set i Lb).flatten.Perm (Lb ++ (Ls.set i []).flatten)
  | [], i, _, h => by simp at h
  | L :: Ls, 0, Lb, _ => by simp
  | L :: Ls, i + 1, Lb, h => by
    simp only [List.set_cons_succ, List.flatten_cons]
    exact ((Lg Ls i Lb (by simpa using h)).append_left L).trans (List.perm_append_comm_assoc ..)
theorem My {α : Type} {xs : List α} {i : Nat} {x : α} (h : xs[i]? = some x) : xs.set i x = xs := by
  obtain ⟨hi, rfl⟩ := List.getElem?_eq_some_iff.1 h
  exact List.set_getElem_self hi
section
variable {α : Type} {nb E sz : Nat} {R : Ic α} {F : FS} {hs : List Hd} {EK : List (List α)} {Lc : LH} {i : Nat}
def Ma (nb E sz : Nat) (R : Ic α) (F : FS) (hs : List Hd) (EK : List (List α)) (Lc : LH) : Prop :=
  ∃ Ls : List LH, Lc.Perm Ls.flatten ∧ hs.length = EK.length ∧ Ls.length = hs.length ∧ ∀ (j : Nat) (h : Hd) (xs : List α) (Lb : LH), hs[j]? = some h → EK[j]? = some xs → Ls[j]? = some Lb → AT nb E sz R F h.1 h.2.1 h.2.2 xs Lb
def Qs (nb E sz : Nat) (R : Ic α) (F : FS) (i : Nat) (hs : List Hd) (EK : List (List α)) (Lc : LH) : Prop :=
  ∃ Ls : List LH, Lc.Perm (Ls.set i []).flatten ∧ hs.length = EK.length ∧ Ls.length = hs.length ∧ i < hs.length ∧ ∀ (j : Nat) (h : Hd) (xs : List α) (Lb : LH), j ≠ i → hs[j]? = some h → EK[j]? = some xs → Ls[j]? = some Lb → AT nb E sz R F h.1 h.2.1 h.2.2 xs Lb
theorem Ma.nil : Ma nb E sz R F [] [] [] := ⟨[], .refl _, rfl, rfl, fun _ _ _ _ h => by simp at h⟩
theorem Ma.Yq (k : Nat) : Ma nb E sz R F (List.replicate k (none, 0, 0)) (List.replicate k []) [] := ⟨List.replicate k [], by simp, by simp, by simp, fun j h xs Lb h1 h2 h3 => by
  rw [List.getElem?_replicate] at h1 h2 h3
  split at h1
  · rename_i hj
    rw [if_pos hj] at h2 h3
    cases h1; cases h2; cases h3
    exact AT.nil _ _ _ _ _
  · cases h1⟩
theorem Ma.mono (hR : Dv sz R) {F' : FS} (h : Ma nb E sz R F hs EK Lc) (hF : AW F F') : Ma nb E sz R F' hs EK Lc := by
  obtain ⟨Ls, h1, h2, h3, h4⟩ := h
  exact ⟨Ls, h1, h2, h3, fun j h xs Lb e1 e2 e3 => (h4 j h xs Lb e1 e2 e3).mono hR hF⟩
theorem Qs.mono (hR : Dv sz R) {F' : FS} (h : Qs nb E sz R F i hs EK Lc) (hF : AW F F') : Qs nb E sz R F' i hs EK Lc := by
  obtain ⟨Ls, h1, h2, h3, h5, h4⟩ := h
  exact ⟨Ls, h1, h2, h3, h5, fun j h xs Lb e0 e1 e2 e3 => (h4 j h xs Lb e0 e1 e2 e3).mono hR hF⟩
theorem Ma.len (h : Ma nb E sz R F hs EK Lc) : hs.length = EK.length := by obtain ⟨_, _, h, _⟩ := h; exact h
theorem Ma.snoc (h : Ma nb E sz R F hs EK Lc) {a : Option Addr} {n c : Nat} {xs : List α} {Lb : LH} (hr : AT nb E sz R F a n c xs Lb) : Ma nb E sz R F (hs ++ [(a, n, c)]) (EK ++ [xs]) (Lb ++ Lc) := by
  obtain ⟨Ls, h1, h2, h3, h4⟩ := h
  refine ⟨Ls ++ [Lb], ?_, by simp [h2], by simp [h3], fun j h ys Lb' e1 e2 e3 => ?_⟩
  · rw [List.flatten_append]
    simp only [List.flatten_cons, List.flatten_nil, List.append_nil]
    exact (h1.append_left Lb).trans List.perm_append_comm
  · by_cases hj : j < hs.length
    · rw [List.getElem?_append_left hj] at e1
      rw [List.getElem?_append_left (by omega)] at e2 e3
      exact h4 j h ys Lb' e1 e2 e3
    · rw [List.getElem?_append_right (by omega)] at e1 e2 e3
      have e0 : j - hs.length = 0 := by
        obtain ⟨aa, _⟩ := List.getElem?_eq_some_iff.1 e1
        simpa using aa
      rw [e0] at e1; rw [← h2, e0] at e2; rw [h3, e0] at e3
      cases e1; cases e2; cases e3
      exact hr
theorem Ma.open (h : Ma nb E sz R F hs EK Lc) {xs : List α} (hx : EK[i]? = some xs) : ∃ a n c Lb aa, hs[i]? = some (a, n, c) ∧ AT nb E sz R F a n c xs Lb ∧ Lc.Perm (Lb ++ aa) ∧ Qs nb E sz R F i hs EK aa := by
  obtain ⟨Ls, h1, h2, h3, h4⟩ := h
  obtain ⟨hi, _⟩ := List.getElem?_eq_some_iff.1 hx
  have e1 : hs[i]? = some (hs[i]'(by omega)) := List.getElem?_eq_getElem (by omega)
  have e3 : Ls[i]? = some (Ls[i]'(by omega)) := List.getElem?_eq_getElem (by omega)
  refine ⟨_, _, _, _, _, e1, h4 i _ _ _ e1 hx e3, ?_, Ls, .refl _, h2, h3, by omega, fun j h xs Lb _ => h4 j h xs Lb⟩
  have := Lg Ls i (Ls[i]'(by omega)) (show i < Ls.length by omega)
  rw [My e3] at this
  exact h1.trans this
theorem Qs.close (h : Qs nb E sz R F i hs EK Lc) {a : Option Addr} {n c : Nat} {xs : List α} {Lb : LH} (hr : AT nb E sz R F a n c xs Lb) : Ma nb E sz R F (hs.set i (a, n, c)) (EK.set i xs) (Lb ++ Lc) := by
  obtain ⟨Ls, h1, h2, h3, h5, h4⟩ := h
  refine ⟨Ls.set i Lb, (h1.append_left Lb).trans (Lg Ls i Lb (by omega)).symm, by simp [h2], by simp [h3], fun j h ys Lb' e1 e2 e3 => ?_⟩
  rw [List.getElem?_set] at e1 e2 e3
  by_cases hj : i = j
  · rw [if_pos hj] at e1 e2 e3
    rw [if_pos (by omega)] at e1 e2 e3
    cases e1; cases e2; cases e3
    exact hr
  · rw [if_neg hj] at e1 e2 e3
    exact h4 j h ys Lb' (fun he => hj he.symm) e1 e2 e3
theorem Qs.XS (h : Qs nb E sz R F i hs EK Lc) {a : Option Addr} {n c : Nat} {xs : List α} {Lb : LH} (hh : hs[i]? = some (a, n, c)) (hr : AT nb E sz R F a n c xs Lb) : Ma nb E sz R F hs (EK.set i xs) (Lb ++ Lc) := by
  have := h.close hr
  rwa [My hh] at this
theorem Ma.rows (hR : Dv sz R) (h : Ma nb E sz R F hs EK Lc) {F' : FS} (hx : AW F F') (hF : ∀ p ∈ Lc, F' p.1 = some p.2) : ∀ (j : Nat) (h : Hd) (xs : List α), hs[j]? = some h → EK[j]? = some xs → h.2.1 = xs.length ∧ AF sz R F' h.1 h.2.2 xs := by
  obtain ⟨Ls, h1, h2, h3, h4⟩ := h
  intro j h xs e1 e2
  obtain ⟨hj, _⟩ := List.getElem?_eq_some_iff.1 e1
  have e3 : Ls[j]? = some (Ls[j]'(by omega)) := List.getElem?_eq_getElem (by omega)
  have aa := h4 j h xs _ e1 e2 e3
  refine ⟨aa.2.1, aa.row hR hx fun p hp => hF p ?_⟩
  exact h1.symm.subset (List.mem_flatten.2 ⟨_, List.getElem_mem _, hp⟩)
theorem WJ {vss : List (List Value)} (h : Ew (Sx F) vss hs) {F' : FS} (hl : hs.length = EK.length) (hr : ∀ (j : Nat) (h : Hd) (xs : List α), hs[j]? = some h → EK[j]? = some xs → h.2.1 = xs.length ∧ AF sz R F' h.1 h.2.2 xs) : Ew (CD sz R F') vss EK := by
  induction h generalizing EK with
  | nil =>
    cases EK with
    | nil => exact .nil
    | cons => simp at hl
  | cons h1 _ ih =>
    cases EK with
    | nil => simp at hl
    | cons xs EK =>
      rename_i v b as bs h2
      obtain ⟨e1, e2⟩ := hr 0 _ _ rfl rfl
      refine .cons ⟨b.1, b.2.2, ?_, e2⟩ (ih (by simpa using hl) fun j h ys f1 f2 => hr (j + 1) h ys f1 f2)
      rw [← e1]; exact h1
variable {P : Program} {N : Nat} {r : Option Nat} {K : Ctx} {ops : Array Oper} {Q : Env → FS → LH → Prop} {L Lr Lo : LH} {e : Env} {Eo YF n cap : Nat} {a : Option Addr}
theorem AT.YR (ho : AT YF Eo 1 Sx F a n cap hs Lo) (hR : Dv sz R) (h : Ma nb E sz R F hs EK Lc) {F' : FS} (hx : AW F F') (hF : ∀ p ∈ Lo ++ Lc, F' p.1 = some p.2) : AF 1 (CD sz R) F' a cap EK ∧ n = EK.length := by
  have h1 := ho.row Mh hx fun p hp => hF p (List.mem_append_left _ hp)
  obtain ⟨vss, h2, h3⟩ := h1
  have hl := h.len
  refine ⟨⟨vss, WJ h2 hl (h.rows hR hx fun p hp => hF p (List.mem_append_right _ hp)), ?_⟩, by rw [ho.2.1, hl]⟩
  rw [← hl]; exact h3
theorem Ma.new (h : Ma nb E sz R F hs EK Lc) (hn : ∀ p ∈ Lc, YF ≤ p.1) : Ma YF E sz R F hs EK Lc := by
  obtain ⟨Ls, h1, h2, h3, h4⟩ := h
  exact ⟨Ls, h1, h2, h3, fun j h xs Lb e1 e2 e3 => ⟨fun p hp => hn p (h1.symm.subset (List.mem_flatten.2 ⟨Lb, List.mem_of_getElem? e3, hp⟩)), (h4 j h xs Lb e1 e2 e3).2⟩⟩
theorem Ma.ge (h : Ma nb E sz R F hs EK Lc) : ∀ p ∈ Lc, nb ≤ p.1 := fun p hp => by
  obtain ⟨Ls, h1, h2, h3, h4⟩ := h
  obtain ⟨Lb, h5, h6⟩ := List.mem_flatten.1 (h1.subset hp)
  obtain ⟨j, hj, rfl⟩ := List.getElem_of_mem h5
  exact (h4 j _ _ _ (List.getElem?_eq_getElem (by omega)) (List.getElem?_eq_getElem (by omega)) (List.getElem?_eq_getElem hj)).1 p h6
def Kg {α : Type} (nb E Ei sz : Nat) (R : Ic α) (F : FS) (a : Option Addr) (n cap : Nat) (EK : List (List α)) (Lb : LH) : Prop :=
  ∃ hs Lo Lc, Lb.Perm (Lo ++ Lc) ∧ AT nb E 1 Sx F a n cap hs Lo ∧ Ma nb Ei sz R F hs EK Lc
variable {Ei : Nat} {Lb Li : LH} {xs : List α}
theorem Kg.nil (nb E Ei sz : Nat) (R : Ic α) (F : FS) : Kg nb E Ei sz R F none 0 0 [] [] := ⟨[], [], [], .refl _, AT.nil _ _ _ _ _, Ma.nil⟩
theorem Kg.mono (hR : Dv sz R) {F' : FS} (h : Kg nb E Ei sz R F a n cap EK Lb) (hF : AW F F') : Kg nb E Ei sz R F' a n cap EK Lb := by
  obtain ⟨hs, Lo, Lc, h1, h2, h3⟩ := h
  exact ⟨hs, Lo, Lc, h1, h2.mono Mh hF, h3.mono hR hF⟩
theorem Kg.C4 (h : Kg nb E Ei sz R F a n cap EK Lb) : n = EK.length ∧ n ≤ cap ∧ cap ≤ maxLen := by
  obtain ⟨hs, Lo, Lc, h1, h2, h3⟩ := h
  rw [← h3.len]; exact h2.C4
theorem Kg.Hc (h : Kg nb E Ei sz R F a n cap EK Lb) : (EK.length : Int) = (n : Int) := by rw [h.C4.1]
theorem Kg.UD (h : Kg nb E Ei sz R F a n cap EK Lb) : (EK.length : Int) ≤ 9223372036854775807 := by
  have := h.C4; simp only [maxLen] at this; omega
theorem Kg.ge (h : Kg nb E Ei sz R F a n cap EK Lb) : ∀ p ∈ Lb, nb ≤ p.1 := fun p hp => by
  obtain ⟨hs, Lo, Lc, h1, h2, h3⟩ := h
  rcases List.mem_append.1 (h1.subset hp) with h | h
  · exact h2.1 p h
  · exact h3.ge p h
theorem Kg.new {m : Nat} (h : Kg m E Ei sz R F a n cap EK Lb) (hn : ∀ p ∈ Lb, nb ≤ p.1) : Kg nb E Ei sz R F a n cap EK Lb := by
  obtain ⟨hs, Lo, Lc, h1, h2, h3⟩ := h
  exact ⟨hs, Lo, Lc, h1, ⟨fun p hp => hn p (h1.symm.subset (List.mem_append_left _ hp)), h2.2⟩, h3.new fun p hp => hn p (h1.symm.subset (List.mem_append_right _ hp))⟩
theorem Kg.any (h : Kg nb E Ei sz R F a n cap EK Lb) : Kg 0 E Ei sz R F a n cap EK Lb := h.new fun _ _ => Nat.zero_le _
theorem Kg.row (h : Kg nb E Ei sz R F a n cap EK Lb) (hR : Dv sz R) {F' : FS} (hx : AW F F') (hF : ∀ p ∈ Lb, F' p.1 = some p.2) : AF 1 (CD sz R) F' a cap EK := by
  obtain ⟨hs, Lo, Lc, h1, h2, h3⟩ := h
  exact (h2.YR hR h3 hx fun p hp => hF p (h1.symm.subset hp)).1
theorem Kg.made {k : Nat} (h : AT nb E 1 Sx F a n cap (List.replicate k (none, 0, 0)) Lb) (hz : EK = List.replicate k []) : Kg nb E Ei sz R F a n cap EK Lb := by
  subst hz; exact ⟨_, Lb, [], by simp, h, Ma.Yq k⟩
theorem Yv {m : Nat} (hn : n = m) {i : Int} (g : 0 ≤ i ∧ i < (m : Int)) : 0 ≤ i ∧ i < (n : Int) := by rw [hn]; exact g
theorem YW {hs : List Hd} {Lc : LH} {aa : List (List α)} {u : Hd} (h : Ma nb Ei sz R F hs EK Lc) (hz : aa = EK ++ [xs]) (hn : aa.length ≤ 1048576) : (hs ++ [u]).length ≤ 1048576 := by
  subst hz; rw [List.length_append, h.len]; simpa using hn
theorem Qs.back {m c : Nat} {a' : Option Addr} (h : Qs nb Ei sz R F i hs EK Lc) (ho : AT nb E 1 Sx F a n cap (hs.set i (a', m, c)) Lo) (hr : AT nb Ei sz R F a' m c xs Li) {aa : List (List α)} (hz : aa = EK.set i xs) : Kg nb E Ei sz R F a n cap aa (Lo ++ (Li ++ (Lc ++ []))) := by
  subst hz; exact ⟨_, Lo, Li ++ Lc, by simp, ho, h.close hr⟩
theorem Qs.W9 {m c : Nat} {a' : Option Addr} (h : Qs nb Ei sz R F i hs EK Lc) (ho : AT nb E 1 Sx F a n cap hs Lo) (hh : hs[i]? = some (a', m, c)) (hr : AT nb Ei sz R F a' m c xs Li) {aa : List (List α)} (hz : aa = EK.set i xs) : Kg nb E Ei sz R F a n cap aa (Lo ++ (Li ++ (Lc ++ []))) := by
  subst hz; exact ⟨_, Lo, Li ++ Lc, by simp, ho, h.XS hh hr⟩
theorem Ma.push {m c : Nat} {a' : Option Addr} (h : Ma nb Ei sz R F hs EK Lc) {aa : List Hd} (he : aa = hs ++ [(a', m, c)]) (ho : AT nb E 1 Sx F a n cap aa Lo) (hr : AT nb Ei sz R F a' m c xs Li) {ab : List (List α)} (hz : ab = EK ++ [xs]) : Kg nb E Ei sz R F a n cap ab (Lo ++ (Li ++ (Lc ++ []))) := by
  subst hz he; exact ⟨_, Lo, Li ++ Lc, by simp, ho, h.snoc hr⟩
theorem Sf {Q : Hf} {c : Code} (aa : K.w0.heap.size ≤ nb) (hR : Dv sz R) (hL : L.Perm (Lb ++ Lr)) (h : Kg nb E Ei sz R F a n cap EK Lb) (k : ∀ F', AW F F' → AF 1 (CD sz R) F' a cap EK → FP P N r K c Q e F' Lr) : FP P N r K c Q e F L := fun M act w ha hs => by
  obtain ⟨F', h1, h2, h3⟩ := St.I7 Lb (hs.perm hL) (fun p hp => Nat.le_trans aa (h.ge p hp))
  exact k F' h2 (h.row hR h2 h3) M act w ha h1
theorem V2 {Q : Hf} {y : Code} (hL : L.Perm (Lb ++ Lr)) (h : Kg nb E Ei sz R F a n cap EK Lb) (hx : EK[i]? = some xs)
    (k : ∀ hs Lo Lc a' m c Li, hs[i]? = some (a', m, c) → AT nb E 1 Sx F a n cap hs Lo → AT nb Ei sz R F a' m c xs Li → Qs nb Ei sz R F i hs EK Lc → FP P N r K y Q e F (Lo ++ (Li ++ (Lc ++ Lr)))) : FP P N r K y Q e F L := by
  obtain ⟨hs, Lo, Lc, h1, h2, h3⟩ := h
  obtain ⟨a', m, c, Li, aa, h4, h5, h6, h7⟩ := h3.open hx
  refine Oy ?_ (k hs Lo aa a' m c Li h4 h2 h5 h7)
  refine hL.trans ((h1.append_right Lr).trans ?_)
  rw [List.append_assoc]
  refine List.Perm.append_left Lo ?_
  have := h6.append_right Lr
  rwa [List.append_assoc] at this
theorem Ut {l : List Oper} (hL : L.Perm (Lb ++ Lr)) (h : Kg nb E Ei sz R F a n cap EK Lb) (k : ∀ hs Lo Lc, AT nb E 1 Sx F a n cap hs Lo → Ma nb Ei sz R F hs EK Lc → Ds P N r K ops Q l e F (Lo ++ (Lc ++ Lr))) : Ds P N r K ops Q l e F L := by
  obtain ⟨hs, Lo, Lc, h1, h2, h3⟩ := h
  refine Dl ?_ (k hs Lo Lc h2 h3)
  refine hL.trans ((h1.append_right Lr).trans ?_)
  rw [List.append_assoc]
theorem Sd {p : LH → Prop} {A : LH} {l : List Oper} (h : p A) (hL : L.Perm (A ++ Lr)) (k : ∀ Lb, p Lb → Ds P N r K ops Q l e F (Lb ++ Lr)) : Ds P N r K ops Q l e F L := Dl hL (k A h)
end
inductive MQ (K : Ctx) (Mr : Env → FS → LH → Prop) (e : Env) : FS → LH → Prop
  | now {F : FS} {L : LH} (h : meet Mr e F L) : MQ K Mr e F L
  | Y1 {F : FS} {L Lb Lr : LH} (hL : L.Perm (Lb ++ Lr)) (hn : ∀ p ∈ Lb, K.w0.heap.size ≤ p.1) (k : ∀ F', AW F F' → (∀ p ∈ Lb, F' p.1 = some p.2) → MQ K Mr e F' Lr) : MQ K Mr e F L
section
variable {P : Program} {N : Nat} {r : Option Nat} {K : Ctx} {Q : Hf} {e : Env} {F : FS} {L Lb Lr L2 : LH} {Mr : Env → FS → LH → Prop}
theorem MQ.out (h : MQ K Mr e F L) {M : List Nat} {w : World} (hs : St K M F L w) : ∃ F' L', Mr e F' L' ∧ St K M F' L' w := by
  induction h with
  | now h => obtain ⟨L2, L3, hp, aa, hm⟩ := h; exact ⟨_, _, hm, (hs.perm hp).drop aa⟩
  | Y1 hL hn _ ih =>
    obtain ⟨F', h1, h2, h3⟩ := St.I7 _ (hs.perm hL) hn
    exact ih F' h2 h3 h1
theorem Ty {c : Code} (I : Nat → Env → FS → LH → Prop) (n0 : Nat) (h0 : meet (I n0) e F L)
    (round : ∀ n e F L, I n e F L → FP P N r K c (andThen (fun e F L => ∃ n', n' < n ∧ MQ K (I n') e F L) Q) e F L) : FP P N r K (.loop c) Q e F L := by
  obtain ⟨L2, L3, hp, hs, hm⟩ := h0
  refine Oy hp (RV hs fun M a w ha hs => ?_)
  refine LX (fun s a w => ∃ M e F L, Ag N M e a ∧ St K M F L w ∧ I s e F L) id n0 ⟨M, e, F, L2, ha, hs, hm⟩ ?_
  rintro s a w ⟨M, e, F, L, ha, hs, hI⟩
  refine wpIn_mono (round s e F L hI M a w ha hs) ?_
  rintro ex a' w' ⟨M', e', F', L', h1, h2, h3⟩
  cases ex with
  | normal =>
    obtain ⟨s', h5, h4⟩ := h3
    obtain ⟨F2, L2, h6, h7⟩ := h4.out h2
    exact ⟨s', ⟨M', e', F2, L2, h1, h7, h6⟩, h5⟩
  | _ => exact ⟨M', e', F', L', h1, h2, h3⟩
theorem lf {I : Nat → Env → FS → LH → Prop} {n : Nat} (h : MQ K (I n) e F L) : andThen (fun e F L => ∃ n', n' < n + 1 ∧ MQ K (I n') e F L) Q .normal e F L := ⟨n, Nat.lt_succ_self _, h⟩
theorem mf (h : KL L L2) (hm : Mr e F L2) : MQ K Mr e F L := let ⟨L3, h1, h2⟩ := h; .now ⟨L2, L3, h1, h2, hm⟩
end
theorem Yl {xs : List Int} {i : Nat} {c : Int} (hc : xs[i]? = some c) : (sB xs)[i]? = some (UInt8.ofNat c.toNat) := by
  obtain ⟨hi, rfl⟩ := List.getElem?_eq_some_iff.1 hc
  have hs : i < (sB xs).size := by rw [W4]; exact hi
  rw [getElem?_pos (sB xs) i hs]
  congr 1
  rw [ByteArray.getElem_eq_getElem_data]
  simp [sB]
theorem SX {P : Program} {N : Nat} {K : Ctx} {e : Env} {F : FS} {L : LH} {ty T : TypeId} {x y : Operand} {xs : List Int} {k : IntKind} {i c : Int} (hT : P.underlying T = some .string) (hx : ev e x = some (.string (sB xs))) (hy : ev e y = some (.int k i)) (h0 : 0 ≤ i) (hc : xs[i.toNat]? = some c) (g : 0 ≤ c ∧ c < 256) :
    E7 P N K e F L (.index T x y) ty (.int .u8 c) := TD (fun w => by
  have h1 := Yl hc
  have h2 : ((UInt8.ofNat c.toNat).toNat : Int) = c := by
    rw [UInt8.toNat_ofNat']
    omega
  simp [Instr.index, asIntOf, run_underlying hT, h0, h1]
  omega) hx hy
theorem E7.b {P : Program} {N : Nat} {K : Ctx} {e : Env} {F : FS} {L : LH} {op : Op} {ty : TypeId} {p q : Bool} (h : E7 P N K e F L op ty (.bool p)) (he : p = q) : E7 P N K e F L op ty (.bool q) := he ▸ h
end Go.SH
