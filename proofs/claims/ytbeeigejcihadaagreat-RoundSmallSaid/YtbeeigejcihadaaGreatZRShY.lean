/- The calculus, part Y: lists of lists that do not look at memory; literals that are handed over. -/
import Derived.Test.YtbeeigejcihadaaGreatZRShW
namespace Go.SH
section
variable {α : Type} {nb E Ei sz : Nat} {R : Hp α} {F : FS}
theorem Jr.flat {hs : List Hd} {De : List (List α)} {Lc : LH} (h : Jr nb E sz R F hs De Lc) {F' : FS} (hf : ∀ x y, R F x y → R F' x y) : Jr nb E sz R F' hs De Lc := by
  obtain ⟨Ls, h1, h2, h3, h4⟩ := h
  exact ⟨Ls, h1, h2, h3, fun j h xs Lb e1 e2 e3 => (h4 j h xs Lb e1 e2 e3).flat hf⟩
theorem C0.flat {a : Option Addr} {n cap : Nat} {De : List (List α)} {Lb : LH} (h : C0 nb E Ei sz R F a n cap De Lb) {F' : FS} (hf : ∀ x y, R F x y → R F' x y) : C0 nb E Ei sz R F' a n cap De Lb := by
  obtain ⟨hs, Lo, Lc, h1, h2, h3⟩ := h
  exact ⟨hs, Lo, Lc, h1, h2.flat fun _ _ h => h, h3.flat hf⟩
end
end Go.SH
