/- Layer 7: the code's tables of numbers of courses, what is told of them; BookCounted; in plain Lean. -/
import Derived.Test.YtodhcoakjlmcdaaGreatZAKE
namespace Go.Proofs.YtodhcoakjlmcdaaGreat.Bk
open Go.PL
/-- A cell of a table that is changed. -/
structure Upd (out out2 : List (List Int)) (k w : Nat) (x : Int) : Prop where
  len : out2.length = out.length
  ne : ∀ j, j ≠ k → out2.getD j [] = out.getD j []
  row : (out2.getD k []).length = 8
  old : ∀ v, v ≠ w → (out2.getD k []).getD v 0 = (out.getD k []).getD v 0
  new : (out2.getD k []).getD w 0 = x
theorem Upd.set {out : List (List Int)} {k w : Nat} (hk : k < out.length) (h8 : (out.getD k []).length = 8) (hw : w < 8) (x : Int) : Upd out (out.set k ((out.getD k []).set w x)) k w x :=
  ⟨List.length_set, fun j hj => by rw [getD_setI hk, if_neg (fun e => hj e.symm)], by rw [getD_setI hk, if_pos rfl, List.length_set]; exact h8, fun v hv => by rw [getD_setI hk, if_pos rfl, getD_setI (by omega), if_neg (fun e => hv e.symm)], by rw [getD_setI hk, if_pos rfl, getD_setI (by omega), if_pos rfl]⟩
def FW (rs : List Int) (k v : Nat) : Int := (G ((rs.take (k + 1)).reverse) (v : Int) : Int)
section
variable {n n2 : Int} {hs : List (List (List Int))} {rs : List Int} {cs : List (Int × Int × Int)}
end
def lexI : List Int → List Int → Int
  | [], [] => 0
  | [], _ :: _ => -1
  | _ :: _, [] => 1
  | x :: xs, y :: ys => if x < y then -1 else if y < x then 1 else lexI xs ys
theorem cmp_eq (x y : Int) : cmp_Compare_int x y = some (if x < y then -1 else if y < x then 1 else 0) := by
  unfold cmp_Compare_int cmp_isNaN_int
  rw [decide_eq_false (by simp), decide_eq_false (by simp), b1_some, b1_some, if_neg (by decide), if_neg (by decide)]
  split
  · rfl
  · split <;> rfl
theorem compare_l2 {s t : List Int} : ∀ (tl : List Int) (k : Nat), s.drop k = tl → k + tl.length = s.length → k ≤ t.length → slices_Compare_int_int_l2 s t tl (k : Int) = some (lexI tl (t.drop k))
  | [], k, _, hk, ht => by
    have hk' : k = s.length := by simpa using hk
    unfold slices_Compare_int_int_l2 slices_Compare_int_int_j1
    by_cases e : s.length < t.length
    · rw [if_pos (by omega), List.drop_eq_getElem_cons (by omega)]; rfl
    · rw [if_neg (by omega), List.drop_eq_nil_of_le (by omega)]; rfl
  | x :: tl, k, hd, hk, ht => by
    rw [List.length_cons] at hk
    obtain ⟨_, _, hd2⟩ := drop_cons 0 hd
    unfold slices_Compare_int_int_l2
    by_cases e : t.length ≤ k
    · rw [if_pos (by omega), List.drop_eq_nil_of_le e]; rfl
    · have et : t.drop k = t.getD k 0 :: t.drop (k + 1) := drop_at (by omega)
      rw [if_neg (by omega), ixI _ (by omega), cmp_eq, b1_some, et]
      unfold lexI
      by_cases e1 : x < t.getD k 0
      · rw [if_pos e1, if_pos (by decide), if_pos e1]
      · rw [if_neg e1, if_neg e1]
        by_cases e2 : t.getD k 0 < x
        · rw [if_pos e2, if_pos (by decide), if_pos e2]
        · rw [if_neg e2, if_neg (by decide), if_neg e2, show (k : Int) + 1 = ((k + 1 : Nat) : Int) by omega]
          exact compare_l2 tl (k + 1) hd2 (by omega) (by omega)
theorem compare_eq (s t : List Int) : slices_Compare_int_int s t = some (lexI s t) := compare_l2 s 0 rfl (by omega) (Nat.zero_le _)
theorem lexI_refl : ∀ s : List Int, lexI s s = 0
  | [] => rfl
  | x :: s => by unfold lexI; rw [if_neg (by omega), if_neg (by omega)]; exact lexI_refl s
section
variable {n n2 : Int} {hs : List (List (List Int))} {rs : List Int} {cs : List (Int × Int × Int)}
end
end Go.Proofs.YtodhcoakjlmcdaaGreat.Bk
