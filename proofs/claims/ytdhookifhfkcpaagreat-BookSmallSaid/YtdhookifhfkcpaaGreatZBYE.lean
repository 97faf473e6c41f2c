/- The calculus, part YE: owned lists whose elements own something themselves: lists of lists of lists, lists of structs with a list. -/
import Derived.Test.YtdhookifhfkcpaaGreatZBYC
namespace Go.SH
section
variable {β α : Type}
def M1 (q : Nat → FS → β → α → LH → Prop) (nb : Nat) (F : FS) (hs : List β) (xs : List α) (Lc : LH) : Prop :=
  ∃ Ls : List LH, Lc.Perm Ls.flatten ∧ hs.length = xs.length ∧ Ls.length = hs.length ∧ ∀ (j : Nat) (h : β) (x : α) (Lb : LH), hs[j]? = some h → xs[j]? = some x → Ls[j]? = some Lb → q nb F h x Lb
def Nd (q : Nat → FS → β → α → LH → Prop) (nb : Nat) (F : FS) (i : Nat) (hs : List β) (xs : List α) (Lc : LH) : Prop :=
  ∃ Ls : List LH, Lc.Perm (Ls.set i []).flatten ∧ hs.length = xs.length ∧ Ls.length = hs.length ∧ i < hs.length ∧ ∀ (j : Nat) (h : β) (x : α) (Lb : LH), j ≠ i → hs[j]? = some h → xs[j]? = some x → Ls[j]? = some Lb → q nb F h x Lb
structure Rp (sz : Nat) (R' : Hf β) (R : Hf α) (q : Nat → FS → β → α → LH → Prop) : Prop where
  enc : Ck sz R'
  mono : ∀ {nb F F' h x L}, q nb F h x L → AQ F F' → q nb F' h x L
  ge : ∀ {nb F h x L}, q nb F h x L → ∀ p ∈ L, nb ≤ p.1
  new : ∀ {m nb F h x L}, q m F h x L → (∀ p ∈ L, nb ≤ p.1) → q nb F h x L
  row : ∀ {nb F F' h x L vs}, q nb F h x L → AQ F F' → (∀ p ∈ L, F' p.1 = some p.2) → R' F' vs h → R F' vs x
variable {q : Nat → FS → β → α → LH → Prop} {nb Su sz : Nat} {R' : Hf β} {R : Hf α} {F F' : FS} {hs : List β} {xs : List α} {Lc : LH} {i : Nat}
theorem M1.nil : M1 q nb F [] [] [] := ⟨[], .refl _, rfl, rfl, fun _ _ _ _ h => by simp at h⟩
theorem M1.mono (hq : Rp sz R' R q) (h : M1 q nb F hs xs Lc) (hF : AQ F F') : M1 q nb F' hs xs Lc := by
  obtain ⟨Ls, h1, h2, h3, h4⟩ := h
  exact ⟨Ls, h1, h2, h3, fun j h x Lb e1 e2 e3 => hq.mono (h4 j h x Lb e1 e2 e3) hF⟩
theorem Nd.mono (hq : Rp sz R' R q) (h : Nd q nb F i hs xs Lc) (hF : AQ F F') : Nd q nb F' i hs xs Lc := by
  obtain ⟨Ls, h1, h2, h3, h5, h4⟩ := h
  exact ⟨Ls, h1, h2, h3, h5, fun j h x Lb e0 e1 e2 e3 => hq.mono (h4 j h x Lb e0 e1 e2 e3) hF⟩
theorem M1.len (h : M1 q nb F hs xs Lc) : hs.length = xs.length := by obtain ⟨_, _, h, _⟩ := h; exact h
theorem M1.snoc (h : M1 q nb F hs xs Lc) {u : β} {x : α} {Lb : LH} (hr : q nb F u x Lb) : M1 q nb F (hs ++ [u]) (xs ++ [x]) (Lb ++ Lc) := by
  obtain ⟨Ls, h1, h2, h3, h4⟩ := h
  refine ⟨Ls ++ [Lb], ?_, by simp [h2], by simp [h3], fun j h ys Lb' e1 e2 e3 => ?_⟩
  · rw [List.flatten_append]
    simp only [List.flatten_cons, List.flatten_nil, List.append_nil]
    exact (h1.append_left Lb).trans List.perm_append_comm
  · by_cases hj : j < hs.length
    · rw [List.getElem?_append_left hj] at e1
      rw [List.getElem?_append_left (by omega)] at e2 e3
      exact h4 j h ys Lb' e1 e2 e3
    · rw [List.getElem?_append_right (by omega)] at e1 e2 e3
      have e0 : j - hs.length = 0 := by
        obtain ⟨aa, _⟩ := List.getElem?_eq_some_iff.1 e1
        simpa using aa
      rw [e0] at e1; rw [← h2, e0] at e2; rw [h3, e0] at e3
      cases e1; cases e2; cases e3
      exact hr
theorem M1.open (h : M1 q nb F hs xs Lc) {x : α} (hx : xs[i]? = some x) : ∃ u Lb aa, hs[i]? = some u ∧ q nb F u x Lb ∧ Lc.Perm (Lb ++ aa) ∧ Nd q nb F i hs xs aa := by
  obtain ⟨Ls, h1, h2, h3, h4⟩ := h
  obtain ⟨hi, _⟩ := List.getElem?_eq_some_iff.1 hx
  have e1 : hs[i]? = some (hs[i]'(by omega)) := List.getElem?_eq_getElem (by omega)
  have e3 : Ls[i]? = some (Ls[i]'(by omega)) := List.getElem?_eq_getElem (by omega)
  refine ⟨_, _, _, e1, h4 i _ _ _ e1 hx e3, ?_, Ls, .refl _, h2, h3, by omega, fun j h xs Lb _ => h4 j h xs Lb⟩
  have := JU Ls i (Ls[i]'(by omega)) (show i < Ls.length by omega)
  rw [KQ e3] at this
  exact h1.trans this
theorem Nd.close (h : Nd q nb F i hs xs Lc) {u : β} {x : α} {Lb : LH} (hr : q nb F u x Lb) : M1 q nb F (hs.set i u) (xs.set i x) (Lb ++ Lc) := by
  obtain ⟨Ls, h1, h2, h3, h5, h4⟩ := h
  refine ⟨Ls.set i Lb, (h1.append_left Lb).trans (JU Ls i Lb (by omega)).symm, by simp [h2], by simp [h3], fun j h ys Lb' e1 e2 e3 => ?_⟩
  rw [List.getElem?_set] at e1 e2 e3
  by_cases hj : i = j
  · rw [if_pos hj] at e1 e2 e3
    rw [if_pos (by omega)] at e1 e2 e3
    cases e1; cases e2; cases e3
    exact hr
  · rw [if_neg hj] at e1 e2 e3
    exact h4 j h ys Lb' (fun he => hj he.symm) e1 e2 e3
theorem M1.S8 (hq : Rp sz R' R q) {vss : List (List Value)} (h : DT (R' F') vss hs) (hi : M1 q nb F hs xs Lc) (hx : AQ F F') (hF : ∀ p ∈ Lc, F' p.1 = some p.2) : DT (R F') vss xs := by
  obtain ⟨Ls, h1, h2, h3, h4⟩ := hi
  have key : ∀ (j : Nat) (u : β) (x : α), hs[j]? = some u → xs[j]? = some x → ∀ vs, R' F' vs u → R F' vs x := fun j u x e1 e2 vs hv => by
    obtain ⟨hj, _⟩ := List.getElem?_eq_some_iff.1 e1
    have e3 : Ls[j]? = some (Ls[j]'(by omega)) := List.getElem?_eq_getElem (by omega)
    exact hq.row (h4 j u x _ e1 e2 e3) hx (fun p hp => hF p (h1.symm.subset (List.mem_flatten.2 ⟨_, List.getElem_mem _, hp⟩))) hv
  clear h4 h3 h1
  induction h generalizing xs with
  | nil =>
    cases xs with
    | nil => exact .nil
    | cons => simp at h2
  | cons h1 _ ih =>
    cases xs with
    | nil => simp at h2
    | cons x xs => exact .cons (key 0 _ _ rfl rfl _ h1) (ih (by simpa using h2) fun j u y f1 f2 => key (j + 1) u y f1 f2)
theorem M1.new (hq : Rp sz R' R q) (h : M1 q nb F hs xs Lc) (hn : ∀ p ∈ Lc, Su ≤ p.1) : M1 q Su F hs xs Lc := by
  obtain ⟨Ls, h1, h2, h3, h4⟩ := h
  exact ⟨Ls, h1, h2, h3, fun j h x Lb e1 e2 e3 => hq.new (h4 j h x Lb e1 e2 e3) fun p hp => hn p (h1.symm.subset (List.mem_flatten.2 ⟨Lb, List.mem_of_getElem? e3, hp⟩))⟩
theorem M1.ge (hq : Rp sz R' R q) (h : M1 q nb F hs xs Lc) : ∀ p ∈ Lc, nb ≤ p.1 := fun p hp => by
  obtain ⟨Ls, h1, h2, h3, h4⟩ := h
  obtain ⟨Lb, h5, h6⟩ := List.mem_flatten.1 (h1.subset hp)
  obtain ⟨j, hj, rfl⟩ := List.getElem_of_mem h5
  exact hq.ge (h4 j _ _ _ (List.getElem?_eq_getElem (by omega)) (List.getElem?_eq_getElem (by omega)) (List.getElem?_eq_getElem hj)) p h6
def KH {β α : Type} (nb E sz : Nat) (R' : Hf β) (q : Nat → FS → β → α → LH → Prop) (F : FS) (a : Option Addr) (n cap : Nat) (xs : List α) (Lb : LH) : Prop :=
  ∃ hs Lo Lc, Lb.Perm (Lo ++ Lc) ∧ AI nb E sz R' F a n cap hs Lo ∧ M1 q nb F hs xs Lc
variable {E n cap : Nat} {a : Option Addr} {Lb Lo Li Lr L : LH}
theorem KH.nil : KH nb E sz R' q F none 0 0 [] [] := ⟨[], [], [], .refl _, AI.nil _ _ _ _ _, M1.nil⟩
theorem KH.mono (h : KH nb E sz R' q F a n cap xs Lb) (hq : Rp sz R' R q) (hF : AQ F F') : KH nb E sz R' q F' a n cap xs Lb := by
  obtain ⟨hs, Lo, Lc, h1, h2, h3⟩ := h
  exact ⟨hs, Lo, Lc, h1, h2.mono hq.enc hF, h3.mono hq hF⟩
theorem KH.A1 (h : KH nb E sz R' q F a n cap xs Lb) : n = xs.length ∧ n ≤ cap ∧ cap ≤ maxLen := by
  obtain ⟨hs, Lo, Lc, h1, h2, h3⟩ := h
  rw [← h3.len]; exact h2.A1
theorem KH.FE (h : KH nb E sz R' q F a n cap xs Lb) : (xs.length : Int) = (n : Int) := by rw [h.A1.1]
theorem KH.Po (h : KH nb E sz R' q F a n cap xs Lb) : (xs.length : Int) ≤ 9223372036854775807 := by
  have := h.A1; simp only [maxLen] at this; omega
theorem KH.ge (h : KH nb E sz R' q F a n cap xs Lb) (hq : Rp sz R' R q) : ∀ p ∈ Lb, nb ≤ p.1 := fun p hp => by
  obtain ⟨hs, Lo, Lc, h1, h2, h3⟩ := h
  rcases List.mem_append.1 (h1.subset hp) with h | h
  · exact h2.1 p h
  · exact h3.ge hq p h
theorem KH.SQ {m : Nat} (h : KH m E sz R' q F a n cap xs Lb) (hq : Rp sz R' R q) (hn : ∀ p ∈ Lb, nb ≤ p.1) : KH nb E sz R' q F a n cap xs Lb := by
  obtain ⟨hs, Lo, Lc, h1, h2, h3⟩ := h
  exact ⟨hs, Lo, Lc, h1, ⟨fun p hp => hn p (h1.symm.subset (List.mem_append_left _ hp)), h2.2⟩, h3.new hq fun p hp => hn p (h1.symm.subset (List.mem_append_right _ hp))⟩
theorem KH.row (h : KH nb E sz R' q F a n cap xs Lb) (hq : Rp sz R' R q) (hx : AQ F F') (hF : ∀ p ∈ Lb, F' p.1 = some p.2) : At sz R F' a cap xs := by
  obtain ⟨hs, Lo, Lc, h1, h2, h3⟩ := h
  obtain ⟨vss, h4, h5⟩ := h2.row hq.enc hx fun p hp => hF p (h1.symm.subset (List.mem_append_left _ hp))
  refine ⟨vss, M1.S8 hq h4 h3 hx fun p hp => hF p (h1.symm.subset (List.mem_append_right _ hp)), ?_⟩
  rw [← h3.len]; exact h5
theorem Te {zs : List α} {x : α} {u : β} (h : M1 q nb F hs xs Lc) (hz : zs = xs ++ [x]) (hn : zs.length ≤ 1048576) : (hs ++ [u]).length ≤ 1048576 := by
  subst hz; rw [List.length_append, h.len]; simpa using hn
theorem Nd.back {u : β} {x : α} (h : Nd q nb F i hs xs Lc) (ho : AI nb E sz R' F a n cap (hs.set i u) Lo) (hr : q nb F u x Li) {zs : List α} (hz : zs = xs.set i x) : KH nb E sz R' q F a n cap zs (Lo ++ (Li ++ (Lc ++ []))) := by
  subst hz; exact ⟨_, Lo, Li ++ Lc, by simp, ho, h.close hr⟩
theorem Nd.Ph {u : β} {x : α} (h : Nd q nb F i hs xs Lc) (ho : AI nb E sz R' F a n cap hs Lo) (hh : hs[i]? = some u) (hr : q nb F u x Li) {zs : List α} (hz : zs = xs.set i x) : KH nb E sz R' q F a n cap zs (Lo ++ (Li ++ (Lc ++ []))) :=
  h.back (by rw [KQ hh]; exact ho) hr hz
theorem M1.push {u : β} {x : α} (h : M1 q nb F hs xs Lc) {aa : List β} (he : aa = hs ++ [u]) (ho : AI nb E sz R' F a n cap aa Lo) (hr : q nb F u x Li) {zs : List α} (hz : zs = xs ++ [x]) : KH nb E sz R' q F a n cap zs (Lo ++ (Li ++ (Lc ++ []))) := by
  subst hz he; exact ⟨_, Lo, Li ++ Lc, by simp, ho, h.snoc hr⟩
section
variable {P : Program} {N : Nat} {r : Option Nat} {K : Ctx} {ops : Array Oper} {Q : Env → FS → LH → Prop} {Qp : GI} {c : Code} {e : Env} {l : List Oper} {KA : Env → FS → LH → Prop}
theorem KH.SI (hL : L.Perm (Lb ++ Lr)) (h : KH nb E sz R' q F a n cap xs Lb) {x : α} (hx : xs[i]? = some x) : ∃ hs Lo Lc u Li, hs[i]? = some u ∧ AI nb E sz R' F a n cap hs Lo ∧ q nb F u x Li ∧ Nd q nb F i hs xs Lc ∧ L.Perm (Lo ++ (Li ++ (Lc ++ Lr))) := by
  obtain ⟨hs, Lo, Lc, h1, h2, h3⟩ := h
  obtain ⟨u, Li, aa, h4, h5, h6, h7⟩ := h3.open hx
  refine ⟨hs, Lo, aa, u, Li, h4, h2, h5, h7, ?_⟩
  refine hL.trans ((h1.append_right Lr).trans ?_)
  rw [List.append_assoc]
  refine List.Perm.append_left Lo ?_
  have := h6.append_right Lr
  rwa [List.append_assoc] at this
theorem P4 (hL : L.Perm (Lb ++ Lr)) (h : KH nb E sz R' q F a n cap xs Lb) (k : ∀ hs Lo Lc, AI nb E sz R' F a n cap hs Lo → M1 q nb F hs xs Lc → Ct P N r K ops Q l e F (Lo ++ (Lc ++ Lr))) : Ct P N r K ops Q l e F L := by
  obtain ⟨hs, Lo, Lc, h1, h2, h3⟩ := h
  refine Bc ?_ (k hs Lo Lc h2 h3)
  refine hL.trans ((h1.append_right Lr).trans ?_)
  rw [List.append_assoc]
end
end
section
variable {α : Type} {nb E Ei Ej sz n cap i : Nat} {R : Hf α} {F : FS} {a : Option Addr} {Lb Lr L : LH}
abbrev q3 {α : Type} (Ei Ej sz : Nat) (R : Hf α) : Nat → FS → Hd → List (List α) → LH → Prop := fun nb F h x L => Ev nb Ei Ej sz R F h.1 h.2.1 h.2.2 x L
theorem Pt (hR : Ck sz R) : Rp 1 LR (CM 1 (CM sz R)) (q3 Ei Ej sz R) where
  enc := DP
  mono h hF := h.mono hR hF
  ge h := h.ge
  new h hn := h.new hn
  row {nb F F' h x L vs} hq hx hF hv := ⟨h.1, h.2.2, by rw [show vs = _ from hv, hq.A1.1], hq.row hR hx hF⟩
variable {P : Program} {N : Nat} {r : Option Nat} {K : Ctx} {ops : Array Oper} {Q : Env → FS → LH → Prop} {Qp : GI} {cd : Code} {e : Env} {l : List Oper} {xs : List (List (List α))} {x : List (List α)}
theorem QA (hL : L.Perm (Lb ++ Lr)) (h : KH nb E 1 LR (q3 Ei Ej sz R) F a n cap xs Lb) (hx : xs[i]? = some x)
    (k : ∀ hs Lo Lc a' m c Li, hs[i]? = some (a', m, c) → AI nb E 1 LR F a n cap hs Lo → Ev nb Ei Ej sz R F a' m c x Li → Nd (q3 Ei Ej sz R) nb F i hs xs Lc → Ct P N r K ops Q l e F (Lo ++ (Li ++ (Lc ++ Lr)))) : Ct P N r K ops Q l e F L := by
  obtain ⟨hs, Lo, Lc, ⟨a', m, c⟩, Li, h1, h2, h3, h4, h5⟩ := h.SI hL hx
  exact Bc h5 (k hs Lo Lc a' m c Li h1 h2 h3 h4)
end
section
variable {α γ : Type} {nb E Ei sz zs n cap i : Nat} {R : Hf α} {S : Hf γ} {F : FS} {a : Option Addr} {Lb Lr L : LH}
variable {P : Program} {N : Nat} {r : Option Nat} {K : Ctx} {ops : Array Oper} {Q : Env → FS → LH → Prop} {Qp : GI} {cd : Code} {e : Env} {l : List Oper} {xs : List (List α × γ)} {x : List α × γ}
end
section
variable {α : Type} {nb E sz n cap : Nat} {R : Hf α} {F : FS} {a : Option Addr} {hs Ty : List Hd} {DM Tz : List (List α)} {Lo Lc Ld : LH} {Ei : Nat}
end
end Go.SH
