/- The calculus, part T: lists of lists, all of them owned. -/
import Derived.Test.YtbeeigejcihadaaGreatZRShS
namespace Go.SH
abbrev Hd := Option Addr × Nat × Nat
def LI : Hp Hd := fun _ vs h => vs = [.slice h.1 h.2.1 h.2.2]
theorem Cv : Cr 1 LI := ⟨fun _ h => h, fun h => by rw [show _ = _ from h]; rfl, fun h => by
  rw [show _ = _ from h]; intro v hv; rw [List.mem_singleton.1 hv]; rfl⟩
theorem JH : ∀ (Ls : List LH) (i : Nat) (Lb : LH), i < Ls.length → (Ls.set i Lb).flatten.Perm (Lb ++ (Ls.set i []).flatten)
  | [], i, _, h => by simp at h
  | L :: Ls, 0, Lb, _ => by simp
  | L :: Ls, i + 1, Lb, h => by
    simp only [List.set_cons_succ, List.flatten_cons]
    exact ((JH Ls i Lb (by simpa using h)).append_left L).trans (List.perm_append_comm_assoc ..)
theorem Ip {α : Type} {xs : List α} {i : Nat} {x : α} (h : xs[i]? = some x) : xs.set i x = xs := by
  obtain ⟨hi, rfl⟩ := List.getElem?_eq_some_iff.1 h
  exact List.set_getElem_self hi
section
variable {α : Type} {nb E sz : Nat} {R : Hp α} {F : FS} {hs : List Hd} {De : List (List α)} {Lc : LH} {i : Nat}
def Jr (nb E sz : Nat) (R : Hp α) (F : FS) (hs : List Hd) (De : List (List α)) (Lc : LH) : Prop :=
  ∃ Ls : List LH, Lc.Perm Ls.flatten ∧ hs.length = De.length ∧ Ls.length = hs.length ∧ ∀ (j : Nat) (h : Hd) (xs : List α) (Lb : LH), hs[j]? = some h → De[j]? = some xs → Ls[j]? = some Lb → AM nb E sz R F h.1 h.2.1 h.2.2 xs Lb
def K3 (nb E sz : Nat) (R : Hp α) (F : FS) (i : Nat) (hs : List Hd) (De : List (List α)) (Lc : LH) : Prop :=
  ∃ Ls : List LH, Lc.Perm (Ls.set i []).flatten ∧ hs.length = De.length ∧ Ls.length = hs.length ∧ i < hs.length ∧ ∀ (j : Nat) (h : Hd) (xs : List α) (Lb : LH), j ≠ i → hs[j]? = some h → De[j]? = some xs → Ls[j]? = some Lb → AM nb E sz R F h.1 h.2.1 h.2.2 xs Lb
theorem Jr.nil : Jr nb E sz R F [] [] [] := ⟨[], .refl _, rfl, rfl, fun _ _ _ _ h => by simp at h⟩
theorem Jr.Si (k : Nat) : Jr nb E sz R F (List.replicate k (none, 0, 0)) (List.replicate k []) [] := ⟨List.replicate k [], by simp, by simp, by simp, fun j h xs Lb h1 h2 h3 => by
  rw [List.getElem?_replicate] at h1 h2 h3
  split at h1
  · rename_i hj
    rw [if_pos hj] at h2 h3
    cases h1; cases h2; cases h3
    exact AM.nil _ _ _ _ _
  · cases h1⟩
theorem Jr.mono (hR : Cr sz R) {F' : FS} (h : Jr nb E sz R F hs De Lc) (hF : AN F F') : Jr nb E sz R F' hs De Lc := by
  obtain ⟨Ls, h1, h2, h3, h4⟩ := h
  exact ⟨Ls, h1, h2, h3, fun j h xs Lb e1 e2 e3 => (h4 j h xs Lb e1 e2 e3).mono hR hF⟩
theorem K3.mono (hR : Cr sz R) {F' : FS} (h : K3 nb E sz R F i hs De Lc) (hF : AN F F') : K3 nb E sz R F' i hs De Lc := by
  obtain ⟨Ls, h1, h2, h3, h5, h4⟩ := h
  exact ⟨Ls, h1, h2, h3, h5, fun j h xs Lb e0 e1 e2 e3 => (h4 j h xs Lb e0 e1 e2 e3).mono hR hF⟩
theorem Jr.len (h : Jr nb E sz R F hs De Lc) : hs.length = De.length := by obtain ⟨_, _, h, _⟩ := h; exact h
theorem Jr.snoc (h : Jr nb E sz R F hs De Lc) {a : Option Addr} {n c : Nat} {xs : List α} {Lb : LH} (hr : AM nb E sz R F a n c xs Lb) : Jr nb E sz R F (hs ++ [(a, n, c)]) (De ++ [xs]) (Lb ++ Lc) := by
  obtain ⟨Ls, h1, h2, h3, h4⟩ := h
  refine ⟨Ls ++ [Lb], ?_, by simp [h2], by simp [h3], fun j h ys Lb' e1 e2 e3 => ?_⟩
  · rw [List.flatten_append]
    simp only [List.flatten_cons, List.flatten_nil, List.append_nil]
    exact (h1.append_left Lb).trans List.perm_append_comm
  · by_cases hj : j < hs.length
    · rw [List.getElem?_append_left hj] at e1
      rw [List.getElem?_append_left (by omega)] at e2 e3
      exact h4 j h ys Lb' e1 e2 e3
    · rw [List.getElem?_append_right (by omega)] at e1 e2 e3
      have e0 : j - hs.length = 0 := by
        obtain ⟨aa, _⟩ := List.getElem?_eq_some_iff.1 e1
        simpa using aa
      rw [e0] at e1; rw [← h2, e0] at e2; rw [h3, e0] at e3
      cases e1; cases e2; cases e3
      exact hr
theorem Jr.open (h : Jr nb E sz R F hs De Lc) {xs : List α} (hx : De[i]? = some xs) : ∃ a n c Lb aa, hs[i]? = some (a, n, c) ∧ AM nb E sz R F a n c xs Lb ∧ Lc.Perm (Lb ++ aa) ∧ K3 nb E sz R F i hs De aa := by
  obtain ⟨Ls, h1, h2, h3, h4⟩ := h
  obtain ⟨hi, _⟩ := List.getElem?_eq_some_iff.1 hx
  have e1 : hs[i]? = some (hs[i]'(by omega)) := List.getElem?_eq_getElem (by omega)
  have e3 : Ls[i]? = some (Ls[i]'(by omega)) := List.getElem?_eq_getElem (by omega)
  refine ⟨_, _, _, _, _, e1, h4 i _ _ _ e1 hx e3, ?_, Ls, .refl _, h2, h3, by omega, fun j h xs Lb _ => h4 j h xs Lb⟩
  have := JH Ls i (Ls[i]'(by omega)) (show i < Ls.length by omega)
  rw [Ip e3] at this
  exact h1.trans this
theorem K3.close (h : K3 nb E sz R F i hs De Lc) {a : Option Addr} {n c : Nat} {xs : List α} {Lb : LH} (hr : AM nb E sz R F a n c xs Lb) : Jr nb E sz R F (hs.set i (a, n, c)) (De.set i xs) (Lb ++ Lc) := by
  obtain ⟨Ls, h1, h2, h3, h5, h4⟩ := h
  refine ⟨Ls.set i Lb, (h1.append_left Lb).trans (JH Ls i Lb (by omega)).symm, by simp [h2], by simp [h3], fun j h ys Lb' e1 e2 e3 => ?_⟩
  rw [List.getElem?_set] at e1 e2 e3
  by_cases hj : i = j
  · rw [if_pos hj] at e1 e2 e3
    rw [if_pos (by omega)] at e1 e2 e3
    cases e1; cases e2; cases e3
    exact hr
  · rw [if_neg hj] at e1 e2 e3
    exact h4 j h ys Lb' (fun he => hj he.symm) e1 e2 e3
theorem K3.RV (h : K3 nb E sz R F i hs De Lc) {a : Option Addr} {n c : Nat} {xs : List α} {Lb : LH} (hh : hs[i]? = some (a, n, c)) (hr : AM nb E sz R F a n c xs Lb) : Jr nb E sz R F hs (De.set i xs) (Lb ++ Lc) := by
  have := h.close hr
  rwa [Ip hh] at this
theorem Jr.rows (hR : Cr sz R) (h : Jr nb E sz R F hs De Lc) {F' : FS} (hx : AN F F') (hF : ∀ p ∈ Lc, F' p.1 = some p.2) : ∀ (j : Nat) (h : Hd) (xs : List α), hs[j]? = some h → De[j]? = some xs → h.2.1 = xs.length ∧ Ar sz R F' h.1 h.2.2 xs := by
  obtain ⟨Ls, h1, h2, h3, h4⟩ := h
  intro j h xs e1 e2
  obtain ⟨hj, _⟩ := List.getElem?_eq_some_iff.1 e1
  have e3 : Ls[j]? = some (Ls[j]'(by omega)) := List.getElem?_eq_getElem (by omega)
  have aa := h4 j h xs _ e1 e2 e3
  refine ⟨aa.2.1, aa.row hR hx fun p hp => hF p ?_⟩
  exact h1.symm.subset (List.mem_flatten.2 ⟨_, List.getElem_mem _, hp⟩)
theorem Q6 {vss : List (List Value)} (h : El (LI F) vss hs) {F' : FS} (hl : hs.length = De.length) (hr : ∀ (j : Nat) (h : Hd) (xs : List α), hs[j]? = some h → De[j]? = some xs → h.2.1 = xs.length ∧ Ar sz R F' h.1 h.2.2 xs) : El (GM sz R F') vss De := by
  induction h generalizing De with
  | nil =>
    cases De with
    | nil => exact .nil
    | cons => simp at hl
  | cons h1 _ ih =>
    cases De with
    | nil => simp at hl
    | cons xs De =>
      rename_i v b as bs h2
      obtain ⟨e1, e2⟩ := hr 0 _ _ rfl rfl
      refine .cons ⟨b.1, b.2.2, ?_, e2⟩ (ih (by simpa using hl) fun j h ys f1 f2 => hr (j + 1) h ys f1 f2)
      rw [← e1]; exact h1
variable {P : Program} {N : Nat} {r : Option Nat} {K : Ctx} {ops : Array Oper} {Q : Env → FS → LH → Prop} {L Lr Lo : LH} {e : Env} {Eo R5 n cap : Nat} {a : Option Addr}
theorem AM.SI (ho : AM R5 Eo 1 LI F a n cap hs Lo) (hR : Cr sz R) (h : Jr nb E sz R F hs De Lc) {F' : FS} (hx : AN F F') (hF : ∀ p ∈ Lo ++ Lc, F' p.1 = some p.2) : Ar 1 (GM sz R) F' a cap De ∧ n = De.length := by
  have h1 := ho.row Cv hx fun p hp => hF p (List.mem_append_left _ hp)
  obtain ⟨vss, h2, h3⟩ := h1
  have hl := h.len
  refine ⟨⟨vss, Q6 h2 hl (h.rows hR hx fun p hp => hF p (List.mem_append_right _ hp)), ?_⟩, by rw [ho.2.1, hl]⟩
  rw [← hl]; exact h3
theorem Jr.new (h : Jr nb E sz R F hs De Lc) (hn : ∀ p ∈ Lc, R5 ≤ p.1) : Jr R5 E sz R F hs De Lc := by
  obtain ⟨Ls, h1, h2, h3, h4⟩ := h
  exact ⟨Ls, h1, h2, h3, fun j h xs Lb e1 e2 e3 => ⟨fun p hp => hn p (h1.symm.subset (List.mem_flatten.2 ⟨Lb, List.mem_of_getElem? e3, hp⟩)), (h4 j h xs Lb e1 e2 e3).2⟩⟩
theorem Jr.ge (h : Jr nb E sz R F hs De Lc) : ∀ p ∈ Lc, nb ≤ p.1 := fun p hp => by
  obtain ⟨Ls, h1, h2, h3, h4⟩ := h
  obtain ⟨Lb, h5, h6⟩ := List.mem_flatten.1 (h1.subset hp)
  obtain ⟨j, hj, rfl⟩ := List.getElem_of_mem h5
  exact (h4 j _ _ _ (List.getElem?_eq_getElem (by omega)) (List.getElem?_eq_getElem (by omega)) (List.getElem?_eq_getElem hj)).1 p h6
def C0 {α : Type} (nb E Ei sz : Nat) (R : Hp α) (F : FS) (a : Option Addr) (n cap : Nat) (De : List (List α)) (Lb : LH) : Prop :=
  ∃ hs Lo Lc, Lb.Perm (Lo ++ Lc) ∧ AM nb E 1 LI F a n cap hs Lo ∧ Jr nb Ei sz R F hs De Lc
variable {Ei : Nat} {Lb Li : LH} {xs : List α}
theorem C0.nil (nb E Ei sz : Nat) (R : Hp α) (F : FS) : C0 nb E Ei sz R F none 0 0 [] [] := ⟨[], [], [], .refl _, AM.nil _ _ _ _ _, Jr.nil⟩
theorem C0.mono (hR : Cr sz R) {F' : FS} (h : C0 nb E Ei sz R F a n cap De Lb) (hF : AN F F') : C0 nb E Ei sz R F' a n cap De Lb := by
  obtain ⟨hs, Lo, Lc, h1, h2, h3⟩ := h
  exact ⟨hs, Lo, Lc, h1, h2.mono Cv hF, h3.mono hR hF⟩
theorem C0.A6 (h : C0 nb E Ei sz R F a n cap De Lb) : n = De.length ∧ n ≤ cap ∧ cap ≤ maxLen := by
  obtain ⟨hs, Lo, Lc, h1, h2, h3⟩ := h
  rw [← h3.len]; exact h2.A6
theorem C0.Gh (h : C0 nb E Ei sz R F a n cap De Lb) : (De.length : Int) = (n : Int) := by rw [h.A6.1]
theorem C0.PI (h : C0 nb E Ei sz R F a n cap De Lb) : (De.length : Int) ≤ 9223372036854775807 := by
  have := h.A6; simp only [maxLen] at this; omega
theorem C0.ge (h : C0 nb E Ei sz R F a n cap De Lb) : ∀ p ∈ Lb, nb ≤ p.1 := fun p hp => by
  obtain ⟨hs, Lo, Lc, h1, h2, h3⟩ := h
  rcases List.mem_append.1 (h1.subset hp) with h | h
  · exact h2.1 p h
  · exact h3.ge p h
theorem C0.new {m : Nat} (h : C0 m E Ei sz R F a n cap De Lb) (hn : ∀ p ∈ Lb, nb ≤ p.1) : C0 nb E Ei sz R F a n cap De Lb := by
  obtain ⟨hs, Lo, Lc, h1, h2, h3⟩ := h
  exact ⟨hs, Lo, Lc, h1, ⟨fun p hp => hn p (h1.symm.subset (List.mem_append_left _ hp)), h2.2⟩, h3.new fun p hp => hn p (h1.symm.subset (List.mem_append_right _ hp))⟩
theorem C0.any (h : C0 nb E Ei sz R F a n cap De Lb) : C0 0 E Ei sz R F a n cap De Lb := h.new fun _ _ => Nat.zero_le _
theorem C0.row (h : C0 nb E Ei sz R F a n cap De Lb) (hR : Cr sz R) {F' : FS} (hx : AN F F') (hF : ∀ p ∈ Lb, F' p.1 = some p.2) : Ar 1 (GM sz R) F' a cap De := by
  obtain ⟨hs, Lo, Lc, h1, h2, h3⟩ := h
  exact (h2.SI hR h3 hx fun p hp => hF p (h1.symm.subset hp)).1
theorem C0.made {k : Nat} (h : AM nb E 1 LI F a n cap (List.replicate k (none, 0, 0)) Lb) (hz : De = List.replicate k []) : C0 nb E Ei sz R F a n cap De Lb := by
  subst hz; exact ⟨_, Lb, [], by simp, h, Jr.Si k⟩
theorem KV {m : Nat} (hn : n = m) {i : Int} (g : 0 ≤ i ∧ i < (m : Int)) : 0 ≤ i ∧ i < (n : Int) := by rw [hn]; exact g
theorem QO {hs : List Hd} (hn : n = De.length) (h : AM nb E 1 LI F a n cap hs Lo) {i : Int} (g : 0 ≤ i ∧ i < (De.length : Int)) : 0 ≤ i ∧ i < (hs.length : Int) := by rw [← h.2.1, hn]; exact g
theorem RP {hs : List Hd} {Lc : LH} {aa : List (List α)} {u : Hd} (h : Jr nb Ei sz R F hs De Lc) (hz : aa = De ++ [xs]) (hn : aa.length ≤ 1048576) : (hs ++ [u]).length ≤ 1048576 := by
  subst hz; rw [List.length_append, h.len]; simpa using hn
theorem K3.back {m c : Nat} {a' : Option Addr} (h : K3 nb Ei sz R F i hs De Lc) (ho : AM nb E 1 LI F a n cap (hs.set i (a', m, c)) Lo) (hr : AM nb Ei sz R F a' m c xs Li) {aa : List (List α)} (hz : aa = De.set i xs) : C0 nb E Ei sz R F a n cap aa (Lo ++ (Li ++ (Lc ++ []))) := by
  subst hz; exact ⟨_, Lo, Li ++ Lc, by simp, ho, h.close hr⟩
theorem K3.Ln {m c : Nat} {a' : Option Addr} (h : K3 nb Ei sz R F i hs De Lc) (ho : AM nb E 1 LI F a n cap hs Lo) (hh : hs[i]? = some (a', m, c)) (hr : AM nb Ei sz R F a' m c xs Li) {aa : List (List α)} (hz : aa = De.set i xs) : C0 nb E Ei sz R F a n cap aa (Lo ++ (Li ++ (Lc ++ []))) := by
  subst hz; exact ⟨_, Lo, Li ++ Lc, by simp, ho, h.RV hh hr⟩
theorem K3.On {m c : Nat} {a' : Option Addr} (h : K3 nb Ei sz R F i hs De Lc) (ho : AM nb E 1 LI F a n cap hs Lo) (hh : hs[i]? = some (a', m, c)) (hr : AM nb Ei sz R F a' m c xs Li) (hx : De[i]? = some xs) : C0 nb E Ei sz R F a n cap De (Lo ++ (Li ++ (Lc ++ []))) :=
  h.Ln ho hh hr (Ip hx).symm
theorem Jr.push {m c : Nat} {a' : Option Addr} (h : Jr nb Ei sz R F hs De Lc) {aa : List Hd} (he : aa = hs ++ [(a', m, c)]) (ho : AM nb E 1 LI F a n cap aa Lo) (hr : AM nb Ei sz R F a' m c xs Li) {ab : List (List α)} (hz : ab = De ++ [xs]) : C0 nb E Ei sz R F a n cap ab (Lo ++ (Li ++ (Lc ++ []))) := by
  subst hz he; exact ⟨_, Lo, Li ++ Lc, by simp, ho, h.snoc hr⟩
theorem Nt {Q : Gs} {c : Code} (aa : K.w0.heap.size ≤ nb) (hR : Cr sz R) (hL : L.Perm (Lb ++ Lr)) (h : C0 nb E Ei sz R F a n cap De Lb) (k : ∀ F', AN F F' → Ar 1 (GM sz R) F' a cap De → FP P N r K c Q e F' Lr) : FP P N r K c Q e F L := fun M act w ha hs => by
  obtain ⟨F', h1, h2, h3⟩ := St.Jw Lb (hs.perm hL) (fun p hp => Nat.le_trans aa (h.ge p hp))
  exact k F' h2 (h.row hR h2 h3) M act w ha h1
theorem Mv {l : List Oper} (hL : L.Perm (Lb ++ Lr)) (h : C0 nb E Ei sz R F a n cap De Lb) (hx : De[i]? = some xs)
    (k : ∀ hs Lo Lc a' m c Li, hs[i]? = some (a', m, c) → AM nb E 1 LI F a n cap hs Lo → AM nb Ei sz R F a' m c xs Li → K3 nb Ei sz R F i hs De Lc → Cu P N r K ops Q l e F (Lo ++ (Li ++ (Lc ++ Lr)))) : Cu P N r K ops Q l e F L := by
  obtain ⟨hs, Lo, Lc, h1, h2, h3⟩ := h
  obtain ⟨a', m, c, Li, aa, h4, h5, h6, h7⟩ := h3.open hx
  refine BA ?_ (k hs Lo aa a' m c Li h4 h2 h5 h7)
  refine hL.trans ((h1.append_right Lr).trans ?_)
  rw [List.append_assoc]
  refine List.Perm.append_left Lo ?_
  have := h6.append_right Lr
  rwa [List.append_assoc] at this
theorem I2 {Q : Gs} {y : Code} (hL : L.Perm (Lb ++ Lr)) (h : C0 nb E Ei sz R F a n cap De Lb) (hx : De[i]? = some xs)
    (k : ∀ hs Lo Lc a' m c Li, hs[i]? = some (a', m, c) → AM nb E 1 LI F a n cap hs Lo → AM nb Ei sz R F a' m c xs Li → K3 nb Ei sz R F i hs De Lc → FP P N r K y Q e F (Lo ++ (Li ++ (Lc ++ Lr)))) : FP P N r K y Q e F L := by
  obtain ⟨hs, Lo, Lc, h1, h2, h3⟩ := h
  obtain ⟨a', m, c, Li, aa, h4, h5, h6, h7⟩ := h3.open hx
  refine NP ?_ (k hs Lo aa a' m c Li h4 h2 h5 h7)
  refine hL.trans ((h1.append_right Lr).trans ?_)
  rw [List.append_assoc]
  refine List.Perm.append_left Lo ?_
  have := h6.append_right Lr
  rwa [List.append_assoc] at this
theorem Ku {l : List Oper} (hL : L.Perm (Lb ++ Lr)) (h : C0 nb E Ei sz R F a n cap De Lb) (k : ∀ hs Lo Lc, AM nb E 1 LI F a n cap hs Lo → Jr nb Ei sz R F hs De Lc → Cu P N r K ops Q l e F (Lo ++ (Lc ++ Lr))) : Cu P N r K ops Q l e F L := by
  obtain ⟨hs, Lo, Lc, h1, h2, h3⟩ := h
  refine BA ?_ (k hs Lo Lc h2 h3)
  refine hL.trans ((h1.append_right Lr).trans ?_)
  rw [List.append_assoc]
theorem Dv {p : LH → Prop} {A : LH} {l : List Oper} (h : p A) (hL : L.Perm (A ++ Lr)) (k : ∀ Lb, p Lb → Cu P N r K ops Q l e F (Lb ++ Lr)) : Cu P N r K ops Q l e F L := BA hL (k A h)
end
inductive I3 (K : Ctx) (KU : Env → FS → LH → Prop) (e : Env) : FS → LH → Prop
  | now {F : FS} {L : LH} (h : meet KU e F L) : I3 K KU e F L
  | Sk {F : FS} {L Lb Lr : LH} (hL : L.Perm (Lb ++ Lr)) (hn : ∀ p ∈ Lb, K.w0.heap.size ≤ p.1) (k : ∀ F', AN F F' → (∀ p ∈ Lb, F' p.1 = some p.2) → I3 K KU e F' Lr) : I3 K KU e F L
section
variable {P : Program} {N : Nat} {r : Option Nat} {K : Ctx} {Q : Gs} {e : Env} {F : FS} {L Lb Lr L2 : LH} {KU : Env → FS → LH → Prop}
theorem I3.out (h : I3 K KU e F L) {M : List Nat} {w : World} (hs : St K M F L w) : ∃ F' L', KU e F' L' ∧ St K M F' L' w := by
  induction h with
  | now h => obtain ⟨L2, L3, hp, aa, hm⟩ := h; exact ⟨_, _, hm, (hs.perm hp).drop aa⟩
  | Sk hL hn _ ih =>
    obtain ⟨F', h1, h2, h3⟩ := St.Jw _ (hs.perm hL) hn
    exact ih F' h2 h3 h1
theorem P0 {x y : Code} (KU : Env → FS → LH → Prop) (h : FP P N r K x (andThen (I3 K KU) Q) e F L) (k : ∀ e F L, KU e F L → FP P N r K y Q e F L) : FP P N r K (.seq x y) Q e F L :=
  Nw (I3 K KU) h fun e F L hm M a w ha aa => by
    obtain ⟨F', L', h1, h2⟩ := hm.out aa
    exact k e F' L' h1 M a w ha h2
theorem NL {c : Code} (I : Nat → Env → FS → LH → Prop) (n0 : Nat) (h0 : meet (I n0) e F L)
    (round : ∀ n e F L, I n e F L → FP P N r K c (andThen (fun e F L => ∃ n', n' < n ∧ I3 K (I n') e F L) Q) e F L) : FP P N r K (.loop c) Q e F L := by
  obtain ⟨L2, L3, hp, hs, hm⟩ := h0
  refine NP hp (Pb hs fun M a w ha hs => ?_)
  refine LV (fun s a w => ∃ M e F L, Ag N M e a ∧ St K M F L w ∧ I s e F L) id n0 ⟨M, e, F, L2, ha, hs, hm⟩ ?_
  rintro s a w ⟨M, e, F, L, ha, hs, hI⟩
  refine wpIn_mono (round s e F L hI M a w ha hs) ?_
  rintro ex a' w' ⟨M', e', F', L', h1, h2, h3⟩
  cases ex with
  | normal =>
    obtain ⟨s', h5, h4⟩ := h3
    obtain ⟨F2, L2, h6, h7⟩ := h4.out h2
    exact ⟨s', ⟨M', e', F2, L2, h1, h7, h6⟩, h5⟩
  | _ => exact ⟨M', e', F', L', h1, h2, h3⟩
theorem lf {I : Nat → Env → FS → LH → Prop} {n : Nat} (h : I3 K (I n) e F L) : andThen (fun e F L => ∃ n', n' < n + 1 ∧ I3 K (I n') e F L) Q .normal e F L := ⟨n, Nat.lt_succ_self _, h⟩
theorem mf (h : KL L L2) (hm : KU e F L2) : I3 K KU e F L := let ⟨L3, h1, h2⟩ := h; .now ⟨L2, L3, h1, h2, hm⟩
theorem PV {L' : LH} (hp : L.Perm L') (k : I3 K KU e F L') : I3 K KU e F L := by
  cases k with
  | now h => obtain ⟨L2, L3, h1, h2, h3⟩ := h; exact .now ⟨L2, L3, hp.trans h1, h2, h3⟩
  | Sk hL hn hk => exact .Sk (hp.trans hL) hn hk
theorem Qb {p : LH → Prop} {A : LH} (h : p A) (hL : L.Perm (A ++ Lr)) (k : ∀ Lb, p Lb → I3 K KU e F (Lb ++ Lr)) : I3 K KU e F L := PV hL (k A h)
theorem OS {α : Type} {R : Hp α} {a : Option Addr} {n cap : Nat} {xs : List α} {nb E sz : Nat} (aa : K.w0.heap.size ≤ nb) (hR : Cr sz R) (hL : L.Perm (Lb ++ Lr)) (h : AM nb E sz R F a n cap xs Lb) (k : ∀ F', AN F F' → Ar sz R F' a cap xs → I3 K KU e F' Lr) : I3 K KU e F L :=
  .Sk hL (fun p hp => Nat.le_trans aa (h.1 p hp)) fun F' h1 h2 => k F' h1 (h.row hR h1 h2)
end
theorem Sf {xs : List Int} {i : Nat} {c : Int} (hc : xs[i]? = some c) : (sB xs)[i]? = some (UInt8.ofNat c.toNat) := by
  obtain ⟨hi, rfl⟩ := List.getElem?_eq_some_iff.1 hc
  have hs : i < (sB xs).size := by rw [Q2]; exact hi
  rw [getElem?_pos (sB xs) i hs]
  congr 1
  rw [ByteArray.getElem_eq_getElem_data]
  simp [sB]
theorem Pw {P : Program} {N : Nat} {K : Ctx} {e : Env} {F : FS} {L : LH} {ty T : TypeId} {x y : Operand} {xs : List Int} {k : IntKind} {i c : Int} (hT : P.underlying T = some .string) (hx : ev e x = some (.string (sB xs))) (hy : ev e y = some (.int k i)) (h0 : 0 ≤ i) (hc : xs[i.toNat]? = some c) (g : 0 ≤ c ∧ c < 256) :
    Ee P N K e F L (.index T x y) ty (.int .u8 c) := Rb (fun w => by
  have h1 := Sf hc
  have h2 : ((UInt8.ofNat c.toNat).toNat : Int) = c := by
    rw [UInt8.toNat_ofNat']
    omega
  simp [Instr.index, asIntOf, run_underlying hT, h0, h1]
  omega) hx hy
theorem OT {n : Int} (h : 0 ≤ n ∧ n ≤ 1048576) : n.toNat ≤ maxLen := by simp only [maxLen]; omega
theorem Ee.b {P : Program} {N : Nat} {K : Ctx} {e : Env} {F : FS} {L : LH} {op : Op} {ty : TypeId} {p q : Bool} (h : Ee P N K e F L op ty (.bool p)) (he : p = q) : Ee P N K e F L op ty (.bool q) := he ▸ h
end Go.SH
