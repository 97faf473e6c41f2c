/- The calculus, part Y: lists of lists that do not look at memory; literals that are handed over. -/
import Derived.Test.YtepdgjpkhkijcaaGreatZSShW
namespace Go.SH
section
variable {α : Type} {nb E Ei sz : Nat} {R : IZ α} {F : FS}
theorem K3.flat {hs : List Hd} {CF : List (List α)} {Lc : LH} (h : K3 nb E sz R F hs CF Lc) {F' : FS} (hf : ∀ x y, R F x y → R F' x y) : K3 nb E sz R F' hs CF Lc := by
  obtain ⟨Ls, h1, h2, h3, h4⟩ := h
  exact ⟨Ls, h1, h2, h3, fun j h xs Lb e1 e2 e3 => (h4 j h xs Lb e1 e2 e3).flat hf⟩
theorem BG.flat {a : Option Addr} {n cap : Nat} {CF : List (List α)} {Lb : LH} (h : BG nb E Ei sz R F a n cap CF Lb) {F' : FS} (hf : ∀ x y, R F x y → R F' x y) : BG nb E Ei sz R F' a n cap CF Lb := by
  obtain ⟨hs, Lo, Lc, h1, h2, h3⟩ := h
  exact ⟨hs, Lo, Lc, h1, h2.flat fun _ _ h => h, h3.flat hf⟩
theorem Jn.Rc {A m c n cap : Nat} {a a' : Option Addr} {el a6 : List α} {CF aa : List (List α)} {Lb Li : LH} (h : Jn A (a', m, c) el nb E Ei sz R F a n cap CF Lb) (hr : AW nb Ei sz R F a' m c a6 Li) (hz : aa = CF.set A a6) : BG nb E Ei sz R F a n cap aa (Lb ++ (Li ++ [])) := by
  subst hz
  obtain ⟨hs, Lo, Lc, h1, h2, h3, h4, h5⟩ := h
  refine ⟨hs, Lo, Li ++ Lc, ?_, h2, h3.Pn h4 hr⟩
  have hp : (Lb ++ (Li ++ [])).Perm ((Lo ++ Lc) ++ Li) := by rw [List.append_nil]; exact h1.append_right Li
  refine hp.trans ?_
  rw [List.append_assoc]
  exact List.perm_append_comm.append_left Lo
end
end Go.SH
