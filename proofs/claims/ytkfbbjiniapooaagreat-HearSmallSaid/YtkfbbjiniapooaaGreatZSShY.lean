/- The calculus, part Y: lists of lists that do not look at memory; literals that are handed over. -/
import Derived.Test.YtkfbbjiniapooaaGreatZSShW
namespace Go.SH
section
variable {α : Type} {nb E Ei sz : Nat} {R : Jc α} {F : FS}
theorem MG.flat {hs : List Hd} {EW : List (List α)} {Lc : LH} (h : MG nb E sz R F hs EW Lc) {F' : FS} (hf : ∀ x y, R F x y → R F' x y) : MG nb E sz R F' hs EW Lc := by
  obtain ⟨Ls, h1, h2, h3, h4⟩ := h
  exact ⟨Ls, h1, h2, h3, fun j h xs Lb e1 e2 e3 => (h4 j h xs Lb e1 e2 e3).flat hf⟩
theorem K3.flat {a : Option Addr} {n cap : Nat} {EW : List (List α)} {Lb : LH} (h : K3 nb E Ei sz R F a n cap EW Lb) {F' : FS} (hf : ∀ x y, R F x y → R F' x y) : K3 nb E Ei sz R F' a n cap EW Lb := by
  obtain ⟨hs, Lo, Lc, h1, h2, h3⟩ := h
  exact ⟨hs, Lo, Lc, h1, h2.flat fun _ _ h => h, h3.flat hf⟩
end
end Go.SH
