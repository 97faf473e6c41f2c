/- The calculus, part V: lists of lists with a row that lies apart. -/
import Derived.Test.YtodhcoakjlmcdaaGreatZBShU
namespace Go.SH
section
variable {α : Type} {nb E Ei sz : Nat} {R : Enc α} {F : FS} {hs : List Hd} {xss : List (List α)} {Lc : LH} {A i : Nat} {ha : Hd} {el xs : List α}
/-- All but two: row A is apart, with its head, row i is taken out. -/
def InK (nb E sz : Nat) (R : Enc α) (F : FS) (A : Nat) (ha : Hd) (el : List α) (i : Nat) (hs : List Hd) (xss : List (List α)) (Lc : LH) : Prop :=
  i ≠ A ∧ hs[A]? = some ha ∧ xss[A]? = some el ∧ ∃ Ls : List LH, Lc.Perm ((Ls.set A []).set i []).flatten ∧ hs.length = xss.length ∧ Ls.length = hs.length ∧ i < hs.length ∧ ∀ (j : Nat) (h : Hd) (xs : List α) (Lb : LH), j ≠ A → j ≠ i → hs[j]? = some h → xss[j]? = some xs → Ls[j]? = some Lb → SlR nb E sz R F h.1 h.2.1 h.2.2 xs Lb
/-- A list of lists, of which a row lies apart. -/
def NlG {α : Type} (A : Nat) (ha : Hd) (el : List α) (nb E Ei sz : Nat) (R : Enc α) (F : FS) (a : Option Addr) (n cap : Nat) (xss : List (List α)) (Lb : LH) : Prop :=
  ∃ hs Lo Lc, Lb.Perm (Lo ++ Lc) ∧ SlR nb E 1 hdE F a n cap hs Lo ∧ InH nb Ei sz R F A hs xss Lc ∧ hs[A]? = some ha ∧ xss[A]? = some el
theorem InK.mono (hR : EncOK sz R) {F' : FS} (h : InK nb E sz R F A ha el i hs xss Lc) (hF : FExt F F') : InK nb E sz R F' A ha el i hs xss Lc := by
  obtain ⟨h0, ha, hb, Ls, h1, h2, h3, h5, h4⟩ := h
  exact ⟨h0, ha, hb, Ls, h1, h2, h3, h5, fun j h xs Lb e8 e0 e1 e2 e3 => (h4 j h xs Lb e8 e0 e1 e2 e3).mono hR hF⟩
theorem InH.len (h : InH nb E sz R F i hs xss Lc) : hs.length = xss.length := by obtain ⟨_, _, h, _⟩ := h; exact h
variable {a : Option Addr} {n cap : Nat} {Lb Lo Li Lr L : LH}
theorem NlG.mono (hR : EncOK sz R) {F' : FS} (h : NlG A ha el nb E Ei sz R F a n cap xss Lb) (hF : FExt F F') : NlG A ha el nb E Ei sz R F' a n cap xss Lb := by
  obtain ⟨hs, Lo, Lc, h1, h2, h3, h4⟩ := h
  exact ⟨hs, Lo, Lc, h1, h2.mono hdE_ok hF, h3.mono hR hF, h4⟩
theorem NlG.caps (h : NlG A ha el nb E Ei sz R F a n cap xss Lb) : n = xss.length ∧ n ≤ cap ∧ cap ≤ maxLen := by
  obtain ⟨hs, Lo, Lc, h1, h2, h3, h4⟩ := h
  rw [← h3.len]; exact h2.caps
theorem NlG.lenI (h : NlG A ha el nb E Ei sz R F a n cap xss Lb) : (xss.length : Int) = (n : Int) := by rw [h.caps.1]
theorem NlG.llt (h : NlG A ha el nb E Ei sz R F a n cap xss Lb) : (xss.length : Int) ≤ 9223372036854775807 := by
  have := h.caps; simp only [maxLen] at this; omega
/-- The row that was taken out lies apart from now on. -/
theorem InH.take {m c : Nat} {a' : Option Addr} (h : InH nb Ei sz R F A hs xss Lc) (ho : SlR nb E 1 hdE F a n cap hs Lo) (hh : hs[A]? = some (a', m, c)) (hx : xss[A]? = some el) : NlG A (a', m, c) el nb E Ei sz R F a n cap xss (Lo ++ (Lc ++ [])) :=
  ⟨hs, Lo, Lc, by simp, ho, h, hh, hx⟩
/-- It is given back. -/
theorem NlG.give {m c : Nat} {a' : Option Addr} (h : NlG A (a', m, c) el nb E Ei sz R F a n cap xss Lb) (hr : SlR nb Ei sz R F a' m c el Li) : NlR nb E Ei sz R F a n cap xss (Lb ++ (Li ++ [])) := by
  obtain ⟨hs, Lo, Lc, h1, h2, h3, h4, h5⟩ := h
  refine ⟨hs, Lo, Li ++ Lc, ?_, h2, ?_⟩
  · have hp : (Lb ++ (Li ++ [])).Perm ((Lo ++ Lc) ++ Li) := by rw [List.append_nil]; exact h1.append_right Li
    refine hp.trans ?_
    rw [List.append_assoc]
    exact List.perm_append_comm.append_left Lo
  · have := h3.close0 h4 hr
    rwa [set_same h5] at this
theorem InK.closeG {m c : Nat} {a' : Option Addr} (h : InK nb Ei sz R F A ha el i hs xss Lc) (ho : SlR nb E 1 hdE F a n cap (hs.set i (a', m, c)) Lo) (hr : SlR nb Ei sz R F a' m c xs Li) : NlG A ha el nb E Ei sz R F a n cap (xss.set i xs) (Lo ++ (Li ++ (Lc ++ []))) := by
  obtain ⟨h0, hA, hB, Ls, h1, h2, h3, h5, h4⟩ := h
  have hAl : A < hs.length := (List.getElem?_eq_some_iff.1 hA).1
  refine ⟨_, Lo, Li ++ Lc, by simp, ho, ⟨Ls.set i Li, ?_, by simp [h2], by simp [h3], by simpa using hAl, fun j h ys Lb' e0 e1 e2 e3 => ?_⟩, ?_, ?_⟩
  · rw [List.set_comm _ _ (fun he => h0 he)]
    exact (h1.append_left Li).trans (flat_set (Ls.set A []) i Li (by simp; omega)).symm
  · rw [List.getElem?_set] at e1 e2 e3
    by_cases hj : i = j
    · rw [if_pos hj] at e1 e2 e3
      rw [if_pos (by omega)] at e1 e2 e3
      cases e1; cases e2; cases e3
      exact hr
    · rw [if_neg hj] at e1 e2 e3
      exact h4 j h ys Lb' e0 (fun he => hj he.symm) e1 e2 e3
  · rw [List.getElem?_set_ne h0]; exact hA
  · rw [List.getElem?_set_ne h0]; exact hB
theorem InK.back {m c : Nat} {a' : Option Addr} (h : InK nb Ei sz R F A ha el i hs xss Lc) (ho : SlR nb E 1 hdE F a n cap (hs.set i (a', m, c)) Lo) (hr : SlR nb Ei sz R F a' m c xs Li) {zss : List (List α)} (hz : zss = xss.set i xs) : NlG A ha el nb E Ei sz R F a n cap zss (Lo ++ (Li ++ (Lc ++ []))) := by
  subst hz; exact h.closeG ho hr
theorem InK.back0 {m c : Nat} {a' : Option Addr} (h : InK nb Ei sz R F A ha el i hs xss Lc) (ho : SlR nb E 1 hdE F a n cap hs Lo) (hh : hs[i]? = some (a', m, c)) (hr : SlR nb Ei sz R F a' m c xs Li) {zss : List (List α)} (hz : zss = xss.set i xs) : NlG A ha el nb E Ei sz R F a n cap zss (Lo ++ (Li ++ (Lc ++ []))) := by
  subst hz
  refine h.closeG (m := m) (c := c) (a' := a') ?_ hr
  rwa [set_same hh]
theorem InK.back1 {m c : Nat} {a' : Option Addr} (h : InK nb Ei sz R F A ha el i hs xss Lc) (ho : SlR nb E 1 hdE F a n cap hs Lo) (hh : hs[i]? = some (a', m, c)) (hr : SlR nb Ei sz R F a' m c xs Li) (hx : xss[i]? = some xs) : NlG A ha el nb E Ei sz R F a n cap xss (Lo ++ (Li ++ (Lc ++ []))) :=
  h.back0 ho hh hr (set_same hx).symm
theorem NlG.open (h : NlG A ha el nb E Ei sz R F a n cap xss Lb) (hne : i ≠ A) (hx : xss[i]? = some xs) : ∃ hs Lo Lc a' m c Li, hs[i]? = some (a', m, c) ∧ SlR nb E 1 hdE F a n cap hs Lo ∧ SlR nb Ei sz R F a' m c xs Li ∧ InK nb Ei sz R F A ha el i hs xss Lc ∧ Lb.Perm (Lo ++ (Li ++ Lc)) := by
  obtain ⟨hs, Lo, Lc, h1, h2, ⟨Ls, g1, g2, g3, g5, g4⟩, hA, hB⟩ := h
  obtain ⟨hi, _⟩ := List.getElem?_eq_some_iff.1 hx
  have e1 : hs[i]? = some (hs[i]'(by omega)) := List.getElem?_eq_getElem (by omega)
  have e3 : Ls[i]? = some (Ls[i]'(by omega)) := List.getElem?_eq_getElem (by omega)
  refine ⟨hs, Lo, ((Ls.set A []).set i []).flatten, _, _, _, Ls[i]'(by omega), e1, h2, g4 i _ _ _ hne e1 hx e3, ⟨hne, hA, hB, Ls, .refl _, g2, g3, by omega, fun j h xs Lb k1 k2 => g4 j h xs Lb k1⟩, ?_⟩
  refine h1.trans (List.Perm.append_left Lo (g1.trans ?_))
  have e4 : (Ls.set A [])[i]? = some (Ls[i]'(by omega)) := by rw [List.getElem?_set_ne (fun he => hne he.symm)]; exact e3
  have := flat_set (Ls.set A []) i (Ls[i]'(by omega)) (by simp; omega)
  rwa [set_same e4] at this
variable {P : Program} {N : Nat} {r : Option Nat} {K : Ctx} {ops : Array Oper} {Q : Env → FS → LH → Prop} {e : Env}
theorem shO_openG {l : List Oper} (hL : L.Perm (Lb ++ Lr)) (h : NlG A ha el nb E Ei sz R F a n cap xss Lb) (hne : i ≠ A) (hx : xss[i]? = some xs)
    (k : ∀ hs Lo Lc a' m c Li, hs[i]? = some (a', m, c) → SlR nb E 1 hdE F a n cap hs Lo → SlR nb Ei sz R F a' m c xs Li → InK nb Ei sz R F A ha el i hs xss Lc → shO P N r K ops Q l e F (Lo ++ (Li ++ (Lc ++ Lr)))) : shO P N r K ops Q l e F L := by
  obtain ⟨hs, Lo, Lc, a', m, c, Li, h4, h2, h5, h7, h6⟩ := h.open hne hx
  refine shO_perm ?_ (k hs Lo Lc a' m c Li h4 h2 h5 h7)
  have := hL.trans (h6.append_right Lr)
  simpa only [List.append_assoc] using this
end
/-- Two places are not the same one. -/
theorem gd_ne {i j : Int} {n m : Nat} (h : 0 ≤ i ∧ i < (n : Int)) (g : 0 ≤ j ∧ j < (m : Int)) (hne : i ≠ j) : i.toNat ≠ j.toNat := by omega
end Go.SH
