/- Layer 5: the examples of the chapter; a man more who sleeps (NightFallen), in plain Lean. -/
import Derived.Test.YtjgeaaganpkceaaZhQB
namespace Go.Proofs.Ytjgeaaganpkceaa.Nt
open Go.PL
theorem awake_true : oyezlaw05_awake = some true := by decide +kernel
theorem pow_le64 {n : Nat} (h : n ≤ 6) : 2 ^ n ≤ 64 := Nat.pow_le_pow_right (n := 2) (by decide) h
theorem row_get {ls hs : List (List Int)} (g : GoodW ls hs) {h a : Nat} (hh : h < hs.length) (ha : a < 2 ^ ls.length) : ((hs.map (rowOf ls)).getD h []).getD a false = fitB ls (hs.getD h []) a := by
  have hp := pow_le64 g.n6
  have e : (hs.map (rowOf ls)).getD h [] = rowOf ls (hs.getD h []) := by
    rw [List.getD_eq_getElem?_getD, List.getElem?_map, List.getElem?_eq_getElem hh, List.getD_eq_getElem?_getD, List.getElem?_eq_getElem hh]; rfl
  rw [e]
  unfold rowOf rowP
  rw [List.getD_eq_getElem?_getD, List.getElem?_map, List.getElem?_range (by omega)]
  simp [ha]
section
variable {metal : List Int}
end
end Go.Proofs.Ytjgeaaganpkceaa.Nt
