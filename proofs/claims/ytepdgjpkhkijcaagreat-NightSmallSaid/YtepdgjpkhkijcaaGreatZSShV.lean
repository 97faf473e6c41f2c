/- The calculus, part V: lists of lists with a row that lies apart. -/
import Derived.Test.YtepdgjpkhkijcaaGreatZSShU
namespace Go.SH
section
variable {α : Type} {nb E Ei sz : Nat} {R : IZ α} {F : FS} {hs : List Hd} {CF : List (List α)} {Lc : LH} {A i : Nat} {ha : Hd} {el xs : List α}
def MW (nb E sz : Nat) (R : IZ α) (F : FS) (A : Nat) (ha : Hd) (el : List α) (i : Nat) (hs : List Hd) (CF : List (List α)) (Lc : LH) : Prop :=
  i ≠ A ∧ hs[A]? = some ha ∧ CF[A]? = some el ∧ ∃ Ls : List LH, Lc.Perm ((Ls.set A []).set i []).flatten ∧ hs.length = CF.length ∧ Ls.length = hs.length ∧ i < hs.length ∧ ∀ (j : Nat) (h : Hd) (xs : List α) (Lb : LH), j ≠ A → j ≠ i → hs[j]? = some h → CF[j]? = some xs → Ls[j]? = some Lb → AW nb E sz R F h.1 h.2.1 h.2.2 xs Lb
def Jn {α : Type} (A : Nat) (ha : Hd) (el : List α) (nb E Ei sz : Nat) (R : IZ α) (F : FS) (a : Option Addr) (n cap : Nat) (CF : List (List α)) (Lb : LH) : Prop :=
  ∃ hs Lo Lc, Lb.Perm (Lo ++ Lc) ∧ AW nb E 1 MY F a n cap hs Lo ∧ K5 nb Ei sz R F A hs CF Lc ∧ hs[A]? = some ha ∧ CF[A]? = some el
theorem MW.mono (hR : CJ sz R) {F' : FS} (h : MW nb E sz R F A ha el i hs CF Lc) (hF : AN F F') : MW nb E sz R F' A ha el i hs CF Lc := by
  obtain ⟨h0, ha, hb, Ls, h1, h2, h3, h5, h4⟩ := h
  exact ⟨h0, ha, hb, Ls, h1, h2, h3, h5, fun j h xs Lb e8 e0 e1 e2 e3 => (h4 j h xs Lb e8 e0 e1 e2 e3).mono hR hF⟩
theorem K5.len (h : K5 nb E sz R F i hs CF Lc) : hs.length = CF.length := by obtain ⟨_, _, h, _⟩ := h; exact h
variable {a : Option Addr} {n cap : Nat} {Lb Lo Li Lr L : LH}
theorem Jn.mono (hR : CJ sz R) {F' : FS} (h : Jn A ha el nb E Ei sz R F a n cap CF Lb) (hF : AN F F') : Jn A ha el nb E Ei sz R F' a n cap CF Lb := by
  obtain ⟨hs, Lo, Lc, h1, h2, h3, h4⟩ := h
  exact ⟨hs, Lo, Lc, h1, h2.mono Cm hF, h3.mono hR hF, h4⟩
theorem Jn.Be (h : Jn A ha el nb E Ei sz R F a n cap CF Lb) : n = CF.length ∧ n ≤ cap ∧ cap ≤ maxLen := by
  obtain ⟨hs, Lo, Lc, h1, h2, h3, h4⟩ := h
  rw [← h3.len]; exact h2.Be
theorem Jn.GN (h : Jn A ha el nb E Ei sz R F a n cap CF Lb) : (CF.length : Int) = (n : Int) := by rw [h.Be.1]
theorem Jn.O6 (h : Jn A ha el nb E Ei sz R F a n cap CF Lb) : (CF.length : Int) ≤ 9223372036854775807 := by
  have := h.Be; simp only [maxLen] at this; omega
theorem K5.take {m c : Nat} {a' : Option Addr} (h : K5 nb Ei sz R F A hs CF Lc) (ho : AW nb E 1 MY F a n cap hs Lo) (hh : hs[A]? = some (a', m, c)) (hx : CF[A]? = some el) : Jn A (a', m, c) el nb E Ei sz R F a n cap CF (Lo ++ (Lc ++ [])) :=
  ⟨hs, Lo, Lc, by simp, ho, h, hh, hx⟩
theorem Jn.Nl {m c : Nat} {a' : Option Addr} (h : Jn A (a', m, c) el nb E Ei sz R F a n cap CF Lb) (hr : AW nb Ei sz R F a' m c el Li) : BG nb E Ei sz R F a n cap CF (Lb ++ (Li ++ [])) := by
  obtain ⟨hs, Lo, Lc, h1, h2, h3, h4, h5⟩ := h
  refine ⟨hs, Lo, Li ++ Lc, ?_, h2, ?_⟩
  · have hp : (Lb ++ (Li ++ [])).Perm ((Lo ++ Lc) ++ Li) := by rw [List.append_nil]; exact h1.append_right Li
    refine hp.trans ?_
    rw [List.append_assoc]
    exact List.perm_append_comm.append_left Lo
  · have := h3.Pn h4 hr
    rwa [JY h5] at this
theorem MW.Ql {m c : Nat} {a' : Option Addr} (h : MW nb Ei sz R F A ha el i hs CF Lc) (ho : AW nb E 1 MY F a n cap (hs.set i (a', m, c)) Lo) (hr : AW nb Ei sz R F a' m c xs Li) : Jn A ha el nb E Ei sz R F a n cap (CF.set i xs) (Lo ++ (Li ++ (Lc ++ []))) := by
  obtain ⟨h0, hA, hB, Ls, h1, h2, h3, h5, h4⟩ := h
  have a6 : A < hs.length := (List.getElem?_eq_some_iff.1 hA).1
  refine ⟨_, Lo, Li ++ Lc, by simp, ho, ⟨Ls.set i Li, ?_, by simp [h2], by simp [h3], by simpa using a6, fun j h ys Lb' e0 e1 e2 e3 => ?_⟩, ?_, ?_⟩
  · rw [List.set_comm _ _ (fun he => h0 he)]
    exact (h1.append_left Li).trans (Lx (Ls.set A []) i Li (by simp; omega)).symm
  · rw [List.getElem?_set] at e1 e2 e3
    by_cases hj : i = j
    · rw [if_pos hj] at e1 e2 e3
      rw [if_pos (by omega)] at e1 e2 e3
      cases e1; cases e2; cases e3
      exact hr
    · rw [if_neg hj] at e1 e2 e3
      exact h4 j h ys Lb' e0 (fun he => hj he.symm) e1 e2 e3
  · rw [List.getElem?_set_ne h0]; exact hA
  · rw [List.getElem?_set_ne h0]; exact hB
theorem MW.back {m c : Nat} {a' : Option Addr} (h : MW nb Ei sz R F A ha el i hs CF Lc) (ho : AW nb E 1 MY F a n cap (hs.set i (a', m, c)) Lo) (hr : AW nb Ei sz R F a' m c xs Li) {a6 : List (List α)} (hz : a6 = CF.set i xs) : Jn A ha el nb E Ei sz R F a n cap a6 (Lo ++ (Li ++ (Lc ++ []))) := by
  subst hz; exact h.Ql ho hr
theorem MW.Lv {m c : Nat} {a' : Option Addr} (h : MW nb Ei sz R F A ha el i hs CF Lc) (ho : AW nb E 1 MY F a n cap hs Lo) (hh : hs[i]? = some (a', m, c)) (hr : AW nb Ei sz R F a' m c xs Li) {a6 : List (List α)} (hz : a6 = CF.set i xs) : Jn A ha el nb E Ei sz R F a n cap a6 (Lo ++ (Li ++ (Lc ++ []))) := by
  subst hz
  refine h.Ql (m := m) (c := c) (a' := a') ?_ hr
  rwa [JY hh]
theorem MW.Kj {m c : Nat} {a' : Option Addr} (h : MW nb Ei sz R F A ha el i hs CF Lc) (ho : AW nb E 1 MY F a n cap hs Lo) (hh : hs[i]? = some (a', m, c)) (hr : AW nb Ei sz R F a' m c xs Li) (hx : CF[i]? = some xs) : Jn A ha el nb E Ei sz R F a n cap CF (Lo ++ (Li ++ (Lc ++ []))) :=
  h.Lv ho hh hr (JY hx).symm
theorem Jn.open (h : Jn A ha el nb E Ei sz R F a n cap CF Lb) (a6 : i ≠ A) (hx : CF[i]? = some xs) : ∃ hs Lo Lc a' m c Li, hs[i]? = some (a', m, c) ∧ AW nb E 1 MY F a n cap hs Lo ∧ AW nb Ei sz R F a' m c xs Li ∧ MW nb Ei sz R F A ha el i hs CF Lc ∧ Lb.Perm (Lo ++ (Li ++ Lc)) := by
  obtain ⟨hs, Lo, Lc, h1, h2, ⟨Ls, g1, g2, g3, g5, g4⟩, hA, hB⟩ := h
  obtain ⟨hi, _⟩ := List.getElem?_eq_some_iff.1 hx
  have e1 : hs[i]? = some (hs[i]'(by omega)) := List.getElem?_eq_getElem (by omega)
  have e3 : Ls[i]? = some (Ls[i]'(by omega)) := List.getElem?_eq_getElem (by omega)
  refine ⟨hs, Lo, ((Ls.set A []).set i []).flatten, _, _, _, Ls[i]'(by omega), e1, h2, g4 i _ _ _ a6 e1 hx e3, ⟨a6, hA, hB, Ls, .refl _, g2, g3, by omega, fun j h xs Lb k1 k2 => g4 j h xs Lb k1⟩, ?_⟩
  refine h1.trans (List.Perm.append_left Lo (g1.trans ?_))
  have e4 : (Ls.set A [])[i]? = some (Ls[i]'(by omega)) := by rw [List.getElem?_set_ne (fun he => a6 he.symm)]; exact e3
  have := Lx (Ls.set A []) i (Ls[i]'(by omega)) (by simp; omega)
  rwa [JY e4] at this
variable {P : Program} {N : Nat} {r : Option Nat} {K : Ctx} {ops : Array Oper} {Q : Env → FS → LH → Prop} {e : Env}
theorem PG {l : List Oper} (hL : L.Perm (Lb ++ Lr)) (h : Jn A ha el nb E Ei sz R F a n cap CF Lb) (a6 : i ≠ A) (hx : CF[i]? = some xs)
    (k : ∀ hs Lo Lc a' m c Li, hs[i]? = some (a', m, c) → AW nb E 1 MY F a n cap hs Lo → AW nb Ei sz R F a' m c xs Li → MW nb Ei sz R F A ha el i hs CF Lc → Cr P N r K ops Q l e F (Lo ++ (Li ++ (Lc ++ Lr)))) : Cr P N r K ops Q l e F L := by
  obtain ⟨hs, Lo, Lc, a', m, c, Li, h4, h2, h5, h7, h6⟩ := h.open a6 hx
  refine BK ?_ (k hs Lo Lc a' m c Li h4 h2 h5 h7)
  have := hL.trans (h6.append_right Lr)
  simpa only [List.append_assoc] using this
theorem PX {Q : GK} {y : Code} (hL : L.Perm (Lb ++ Lr)) (h : Jn A ha el nb E Ei sz R F a n cap CF Lb) (a6 : i ≠ A) (hx : CF[i]? = some xs)
    (k : ∀ hs Lo Lc a' m c Li, hs[i]? = some (a', m, c) → AW nb E 1 MY F a n cap hs Lo → AW nb Ei sz R F a' m c xs Li → MW nb Ei sz R F A ha el i hs CF Lc → EO P N r K y Q e F (Lo ++ (Li ++ (Lc ++ Lr)))) : EO P N r K y Q e F L := by
  obtain ⟨hs, Lo, Lc, a', m, c, Li, h4, h2, h5, h7, h6⟩ := h.open a6 hx
  refine JL ?_ (k hs Lo Lc a' m c Li h4 h2 h5 h7)
  have := hL.trans (h6.append_right Lr)
  simpa only [List.append_assoc] using this
end
theorem QL {i j : Int} {n m : Nat} (h : 0 ≤ i ∧ i < (n : Int)) (g : 0 ≤ j ∧ j < (m : Int)) (a6 : i ≠ j) : i.toNat ≠ j.toNat := by omega
end Go.SH
