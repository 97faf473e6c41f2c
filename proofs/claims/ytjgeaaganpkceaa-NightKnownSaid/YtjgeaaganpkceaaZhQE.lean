/- Layer 5: tables of naps, what they show; in plain Lean. -/
import Derived.Test.YtjgeaaganpkceaaZhQD
namespace Go.Proofs.Ytjgeaaganpkceaa.Nt
open Go.PL
def napsR : List Nat → Nat
  | [] => 0
  | a :: r => fal (r.headD 0) a + napsR r
def minF (f : Nat → Nat) (l : List Nat) (v : Nat) : Nat := l.foldl (fun v x => min v (f x)) v
theorem minF_le (f : Nat → Nat) : ∀ (l : List Nat) (v : Nat), minF f l v ≤ v
  | [], _ => Nat.le_refl _
  | x :: l, v => Nat.le_trans (minF_le f l (min v (f x))) (Nat.min_le_left ..)
theorem minF_mem (f : Nat → Nat) : ∀ (l : List Nat) (v x : Nat), x ∈ l → minF f l v ≤ f x
  | [], _, _, h => nomatch h
  | y :: l, v, x, h => by
    rcases List.mem_cons.1 h with rfl | h
    · exact Nat.le_trans (minF_le f l (min v (f x))) (Nat.min_le_right ..)
    · exact minF_mem f l (min v (f y)) x h
theorem minF_of (f : Nat → Nat) : ∀ (l : List Nat) (v : Nat), minF f l v = v ∨ ∃ x ∈ l, minF f l v = f x
  | [], _ => .inl rfl
  | y :: l, v => by
    show minF f l (min v (f y)) = v ∨ ∃ x ∈ y :: l, minF f l (min v (f y)) = f x
    rcases minF_of f l (min v (f y)) with h | ⟨x, hx, h⟩
    · rcases Nat.le_total v (f y) with h3 | h3
      · exact .inl (by rw [h, Nat.min_eq_left h3])
      · exact .inr ⟨y, List.mem_cons_self .., by rw [h, Nat.min_eq_right h3]⟩
    · exact .inr ⟨x, List.mem_cons_of_mem _ hx, h⟩
theorem pop_fal (a : Nat) : pop a = fal 0 a := by
  unfold fal
  congr 1
  apply Nat.eq_of_testBit_eq
  intro i
  rw [bit_dif, Nat.zero_testBit]; simp
/-- The fewest naps up to an hour, if a set sleeps in it; the hours from this one back. -/
def tabV (ls : List (List Int)) : List (List Int) → Nat → Nat
  | [], _ => 0
  | [_], a => pop a
  | _ :: ms :: r, a => minF (fun b => tabV ls (ms :: r) b + fal b a) (fitL ls ms) 100
theorem tabV_le {ls : List (List Int)} : ∀ (r : List (List Int)) (ms : List Int) (a : Nat) (s : List Nat), Expl ls r s → tabV ls (ms :: r) a ≤ napsR (a :: s)
  | [], ms, a, [], _ => by
    show pop a ≤ fal 0 a + 0
    rw [pop_fal]; omega
  | ms' :: r, ms, a, b :: s, h => by
    have h1 := minF_mem (fun b => tabV ls (ms' :: r) b + fal b a) (fitL ls ms') 100 b (mem_fitL.2 h.1)
    have h2 := tabV_le r ms' b s h.2
    show minF (fun b => tabV ls (ms' :: r) b + fal b a) (fitL ls ms') 100 ≤ fal b a + napsR (b :: s)
    have h1' : minF (fun b => tabV ls (ms' :: r) b + fal b a) (fitL ls ms') 100 ≤ tabV ls (ms' :: r) b + fal b a := h1
    omega
  | [], _, _, _ :: _, h => h.elim
  | _ :: _, _, _, [], h => h.elim
theorem natL_cons (a : Nat) (l : List Nat) : natL (a :: l) = (a : Int) :: natL l := rfl
section
variable {ls hs : List (List Int)}
structure Shape (ls hs : List (List Int)) (T : List (List Int)) : Prop where
  len : T.length = hs.length
  wid : ∀ r ∈ T, r.length = 2 ^ ls.length
  rng : ∀ r ∈ T, ∀ x ∈ r, 0 ≤ x ∧ x ≤ 99
variable {T : List (List Int)}
theorem Shape.row (t : Shape ls hs T) {h : Nat} (hh : h < hs.length) : (T.getD h []).length = 2 ^ ls.length := by
  have hl : h < T.length := by rw [t.len]; exact hh
  rw [List.getD_eq_getElem?_getD, List.getElem?_eq_getElem hl]
  exact t.wid _ (List.getElem_mem hl)
theorem Shape.val (t : Shape ls hs T) {h a : Nat} (hh : h < hs.length) (ha : a < 2 ^ ls.length) : 0 ≤ (T.getD h []).getD a 0 ∧ (T.getD h []).getD a 0 ≤ 99 := by
  have hl : h < T.length := by rw [t.len]; exact hh
  have hr := t.row hh
  refine t.rng (T.getD h []) ?_ _ ?_
  · rw [List.getD_eq_getElem?_getD, List.getElem?_eq_getElem hl]; exact List.getElem_mem hl
  · rw [List.getD_eq_getElem?_getD (l := T.getD h []), List.getElem?_eq_getElem (by omega)]; exact List.getElem_mem _
end
end Go.Proofs.Ytjgeaaganpkceaa.Nt
