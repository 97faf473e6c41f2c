/- The calculus, part Y: lists of lists that do not look at memory; literals that are handed over. -/
import Derived.Test.YtdhookifhfkcpaaGreatZBShW
namespace Go.SH
section
variable {α : Type} {nb E Ei sz : Nat} {R : Hf α} {F : FS}
theorem Lq.flat {hs : List Hd} {DM : List (List α)} {Lc : LH} (h : Lq nb E sz R F hs DM Lc) {F' : FS} (hf : ∀ x y, R F x y → R F' x y) : Lq nb E sz R F' hs DM Lc := by
  obtain ⟨Ls, h1, h2, h3, h4⟩ := h
  exact ⟨Ls, h1, h2, h3, fun j h xs Lb e1 e2 e3 => (h4 j h xs Lb e1 e2 e3).flat hf⟩
theorem Ev.flat {a : Option Addr} {n cap : Nat} {DM : List (List α)} {Lb : LH} (h : Ev nb E Ei sz R F a n cap DM Lb) {F' : FS} (hf : ∀ x y, R F x y → R F' x y) : Ev nb E Ei sz R F' a n cap DM Lb := by
  obtain ⟨hs, Lo, Lc, h1, h2, h3⟩ := h
  exact ⟨hs, Lo, Lc, h1, h2.flat fun _ _ h => h, h3.flat hf⟩
end
end Go.SH
