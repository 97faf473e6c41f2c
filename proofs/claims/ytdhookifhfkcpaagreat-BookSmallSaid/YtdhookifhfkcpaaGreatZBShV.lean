/- The calculus, part V: lists of lists with a row that lies apart. -/
import Derived.Test.YtdhookifhfkcpaaGreatZBShU
namespace Go.SH
section
variable {α : Type} {nb E Ei sz : Nat} {R : Hf α} {F : FS} {hs : List Hd} {DM : List (List α)} {Lc : LH} {A i : Nat} {ha : Hd} {el xs : List α}
def Rq (nb E sz : Nat) (R : Hf α) (F : FS) (A : Nat) (ha : Hd) (el : List α) (i : Nat) (hs : List Hd) (DM : List (List α)) (Lc : LH) : Prop :=
  i ≠ A ∧ hs[A]? = some ha ∧ DM[A]? = some el ∧ ∃ Ls : List LH, Lc.Perm ((Ls.set A []).set i []).flatten ∧ hs.length = DM.length ∧ Ls.length = hs.length ∧ i < hs.length ∧ ∀ (j : Nat) (h : Hd) (xs : List α) (Lb : LH), j ≠ A → j ≠ i → hs[j]? = some h → DM[j]? = some xs → Ls[j]? = some Lb → AI nb E sz R F h.1 h.2.1 h.2.2 xs Lb
def PV {α : Type} (A : Nat) (ha : Hd) (el : List α) (nb E Ei sz : Nat) (R : Hf α) (F : FS) (a : Option Addr) (n cap : Nat) (DM : List (List α)) (Lb : LH) : Prop :=
  ∃ hs Lo Lc, Lb.Perm (Lo ++ Lc) ∧ AI nb E 1 LR F a n cap hs Lo ∧ Mz nb Ei sz R F A hs DM Lc ∧ hs[A]? = some ha ∧ DM[A]? = some el
theorem Rq.mono (hR : Ck sz R) {F' : FS} (h : Rq nb E sz R F A ha el i hs DM Lc) (hF : AQ F F') : Rq nb E sz R F' A ha el i hs DM Lc := by
  obtain ⟨h0, ha, hb, Ls, h1, h2, h3, h5, h4⟩ := h
  exact ⟨h0, ha, hb, Ls, h1, h2, h3, h5, fun j h xs Lb e8 e0 e1 e2 e3 => (h4 j h xs Lb e8 e0 e1 e2 e3).mono hR hF⟩
theorem Mz.len (h : Mz nb E sz R F i hs DM Lc) : hs.length = DM.length := by obtain ⟨_, _, h, _⟩ := h; exact h
variable {a : Option Addr} {n cap : Nat} {Lb Lo Li Lr L : LH}
theorem PV.mono (hR : Ck sz R) {F' : FS} (h : PV A ha el nb E Ei sz R F a n cap DM Lb) (hF : AQ F F') : PV A ha el nb E Ei sz R F' a n cap DM Lb := by
  obtain ⟨hs, Lo, Lc, h1, h2, h3, h4⟩ := h
  exact ⟨hs, Lo, Lc, h1, h2.mono DP hF, h3.mono hR hF, h4⟩
theorem PV.A1 (h : PV A ha el nb E Ei sz R F a n cap DM Lb) : n = DM.length ∧ n ≤ cap ∧ cap ≤ maxLen := by
  obtain ⟨hs, Lo, Lc, h1, h2, h3, h4⟩ := h
  rw [← h3.len]; exact h2.A1
theorem PV.FE (h : PV A ha el nb E Ei sz R F a n cap DM Lb) : (DM.length : Int) = (n : Int) := by rw [h.A1.1]
theorem PV.Po (h : PV A ha el nb E Ei sz R F a n cap DM Lb) : (DM.length : Int) ≤ 9223372036854775807 := by
  have := h.A1; simp only [maxLen] at this; omega
theorem Mz.take {m c : Nat} {a' : Option Addr} (h : Mz nb Ei sz R F A hs DM Lc) (ho : AI nb E 1 LR F a n cap hs Lo) (hh : hs[A]? = some (a', m, c)) (hx : DM[A]? = some el) : PV A (a', m, c) el nb E Ei sz R F a n cap DM (Lo ++ (Lc ++ [])) :=
  ⟨hs, Lo, Lc, by simp, ho, h, hh, hx⟩
theorem Rq.Q1 {m c : Nat} {a' : Option Addr} (h : Rq nb Ei sz R F A ha el i hs DM Lc) (ho : AI nb E 1 LR F a n cap (hs.set i (a', m, c)) Lo) (hr : AI nb Ei sz R F a' m c xs Li) : PV A ha el nb E Ei sz R F a n cap (DM.set i xs) (Lo ++ (Li ++ (Lc ++ []))) := by
  obtain ⟨h0, hA, hB, Ls, h1, h2, h3, h5, h4⟩ := h
  have aa : A < hs.length := (List.getElem?_eq_some_iff.1 hA).1
  refine ⟨_, Lo, Li ++ Lc, by simp, ho, ⟨Ls.set i Li, ?_, by simp [h2], by simp [h3], by simpa using aa, fun j h ys Lb' e0 e1 e2 e3 => ?_⟩, ?_, ?_⟩
  · rw [List.set_comm _ _ (fun he => h0 he)]
    exact (h1.append_left Li).trans (JU (Ls.set A []) i Li (by simp; omega)).symm
  · rw [List.getElem?_set] at e1 e2 e3
    by_cases hj : i = j
    · rw [if_pos hj] at e1 e2 e3
      rw [if_pos (by omega)] at e1 e2 e3
      cases e1; cases e2; cases e3
      exact hr
    · rw [if_neg hj] at e1 e2 e3
      exact h4 j h ys Lb' e0 (fun he => hj he.symm) e1 e2 e3
  · rw [List.getElem?_set_ne h0]; exact hA
  · rw [List.getElem?_set_ne h0]; exact hB
theorem Rq.back {m c : Nat} {a' : Option Addr} (h : Rq nb Ei sz R F A ha el i hs DM Lc) (ho : AI nb E 1 LR F a n cap (hs.set i (a', m, c)) Lo) (hr : AI nb Ei sz R F a' m c xs Li) {aa : List (List α)} (hz : aa = DM.set i xs) : PV A ha el nb E Ei sz R F a n cap aa (Lo ++ (Li ++ (Lc ++ []))) := by
  subst hz; exact h.Q1 ho hr
theorem Rq.Ph {m c : Nat} {a' : Option Addr} (h : Rq nb Ei sz R F A ha el i hs DM Lc) (ho : AI nb E 1 LR F a n cap hs Lo) (hh : hs[i]? = some (a', m, c)) (hr : AI nb Ei sz R F a' m c xs Li) {aa : List (List α)} (hz : aa = DM.set i xs) : PV A ha el nb E Ei sz R F a n cap aa (Lo ++ (Li ++ (Lc ++ []))) := by
  subst hz
  refine h.Q1 (m := m) (c := c) (a' := a') ?_ hr
  rwa [KQ hh]
theorem PV.open (h : PV A ha el nb E Ei sz R F a n cap DM Lb) (aa : i ≠ A) (hx : DM[i]? = some xs) : ∃ hs Lo Lc a' m c Li, hs[i]? = some (a', m, c) ∧ AI nb E 1 LR F a n cap hs Lo ∧ AI nb Ei sz R F a' m c xs Li ∧ Rq nb Ei sz R F A ha el i hs DM Lc ∧ Lb.Perm (Lo ++ (Li ++ Lc)) := by
  obtain ⟨hs, Lo, Lc, h1, h2, ⟨Ls, g1, g2, g3, g5, g4⟩, hA, hB⟩ := h
  obtain ⟨hi, _⟩ := List.getElem?_eq_some_iff.1 hx
  have e1 : hs[i]? = some (hs[i]'(by omega)) := List.getElem?_eq_getElem (by omega)
  have e3 : Ls[i]? = some (Ls[i]'(by omega)) := List.getElem?_eq_getElem (by omega)
  refine ⟨hs, Lo, ((Ls.set A []).set i []).flatten, _, _, _, Ls[i]'(by omega), e1, h2, g4 i _ _ _ aa e1 hx e3, ⟨aa, hA, hB, Ls, .refl _, g2, g3, by omega, fun j h xs Lb k1 k2 => g4 j h xs Lb k1⟩, ?_⟩
  refine h1.trans (List.Perm.append_left Lo (g1.trans ?_))
  have e4 : (Ls.set A [])[i]? = some (Ls[i]'(by omega)) := by rw [List.getElem?_set_ne (fun he => aa he.symm)]; exact e3
  have := JU (Ls.set A []) i (Ls[i]'(by omega)) (by simp; omega)
  rwa [KQ e4] at this
variable {P : Program} {N : Nat} {r : Option Nat} {K : Ctx} {ops : Array Oper} {Q : Env → FS → LH → Prop} {e : Env}
end
end Go.SH
