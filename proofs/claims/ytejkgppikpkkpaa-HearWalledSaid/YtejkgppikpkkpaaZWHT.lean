/- Layer 1: towns seen in a mirror, towns with a wall more, louder voices; the order of lists; in plain Lean. -/
import Derived.Test.YtejkgppikpkkpaaZWHI
import Derived.Test.YtejkgppikpkkpaaZWHS
namespace Go.Proofs.Ytejkgppikpkkpaa
open Go.PL Go.Hear
section
variable {n : Nat} {E E' : Int → List (Int × Int)} {s : Int} {to : Int → Int}
theorem walk_to (hE : EOK n E) (hst : ∀ p q m : Int, (0 ≤ p ∧ p < n) → (q, m) ∈ E p → (to q, m) ∈ E' (to p)) (hs : 0 ≤ s ∧ s < n) {p d : Int} (h : Walk E s p d) : Walk E' (to s) (to p) d := by
  induction h with
  | here => exact .here
  | step h1 h2 ih => exact .step ih (hst _ _ _ (h1.rng hE hs).1 h2)
theorem tab_to (hE : EOK n E) (hE' : EOK n E') (hst : ∀ p q m : Int, (0 ≤ p ∧ p < n) → (q, m) ∈ E p → (to q, m) ∈ E' (to p)) (hs : 0 ≤ s ∧ s < n) (hs' : 0 ≤ to s ∧ to s < n) {t t' : List Int} (hT : Tab n E s t) (hT' : Tab n E' (to s) t') {p : Int} (hp : 0 ≤ p ∧ p < n) (h : at' t p ≠ -1) : at' t' (to p) ≠ -1 ∧ at' t' (to p) ≤ at' t p := by
  rcases hT.sound p hp.1 hp.2 with h1 | ⟨_, _, h1⟩
  · exact absurd h1 h
  · exact hT'.below hE' hs' (walk_to hE hst hs h1)
end
section
variable {down : Bool} {wide rows w : Int} {ps : List Int}
theorem chk_parts (h : chk wide ps = 0) : (1 ≤ wide ∧ wide ≤ 6) ∧ (1 ≤ ps.length ∧ ps.length ≤ 30) ∧ (ps.length : Int) % wide = 0 ∧ (∀ x ∈ ps, 0 ≤ x ∧ x ≤ 2) ∧ cntH ps ≤ 10 := by
  have ho : openE wide ps 0 = 0 := openE_of h (by unfold okW; omega)
  obtain ⟨h1, h2, h3, h4, _, h5⟩ := openE_ok ho
  exact ⟨h1, h2, h3, h4, h5⟩
theorem chk_of (hw : 1 ≤ wide ∧ wide ≤ 6) (hl : 1 ≤ ps.length ∧ ps.length ≤ 30) (hm : (ps.length : Int) % wide = 0) (hk : ∀ x ∈ ps, 0 ≤ x ∧ x ≤ 2) (hc : cntH ps ≤ 10) : chk wide ps = 0 := by
  unfold chk
  rw [if_neg (by omega), if_neg, if_neg (by omega)]
  rw [Decidable.not_not, List.all_eq_true]
  intro x hx
  exact decide_eq_true (hk x hx)
theorem next_wall {k : Nat} (ps : List Int) {p q m : Int} (h : (q, m) ∈ nextL wide (ps.set k 2) w p) : (q, m) ∈ nextL wide ps w p := by
  unfold nextL at h ⊢
  rw [List.mem_filterMap] at h ⊢
  obtain ⟨s, hs, he⟩ := h
  refine ⟨s, hs, ?_⟩
  unfold nextOf at he ⊢
  rw [List.length_set] at he
  split at he
  · cases he
  · rename_i hc
    have hne : k ≠ (p + s.1 * wide + s.2).toNat := fun h1 => by
      refine hc (.inr ?_)
      rw [← h1]
      have hq : 0 ≤ p + s.1 * wide + s.2 ∧ p + s.1 * wide + s.2 ≤ (ps.length : Int) - 1 := by
        refine Classical.byContradiction fun hn => hc (.inl (.inl hn))
      rw [getD_set (by omega), if_pos rfl]
    have hg : (ps.set k 2).getD (p + s.1 * wide + s.2).toNat 0 = ps.getD (p + s.1 * wide + s.2).toNat 0 := by
      rw [List.getD_eq_getElem?_getD, List.getElem?_set_ne hne, ← List.getD_eq_getElem?_getD]
    rw [hg] at he hc
    rw [if_neg hc]
    exact he
theorem wall_le (ho : openE wide ps w = 0) {k : Nat} (ho' : openE wide (ps.set k 2) w = 0) {s p : Int} (hs : 0 ≤ s ∧ s < ps.length) (hp : 0 ≤ p ∧ p < ps.length) (h : (tb wide (ps.set k 2) w s).getD p.toNat 0 ≠ -1) : (tb wide ps w s).getD p.toNat 0 ≠ -1 ∧ (tb wide ps w s).getD p.toNat 0 ≤ (tb wide (ps.set k 2) w s).getD p.toNat 0 := by
  have hE' : EOK ps.length (nextL wide (ps.set k 2) w) := by
    have := nextL_ok ho'
    rwa [List.length_set] at this
  have hT' := tb_ok ho' (stand := s) (by rw [List.length_set]; exact hs)
  rw [List.length_set] at hT'
  exact tab_to (to := fun x => x) hE' (nextL_ok ho) (fun p q m _ hx => next_wall ps hx) hs hs hT' (tb_ok ho hs) hp h
theorem cntH_set2 : ∀ (xs : List Int) (i : Nat), xs.getD i 0 = 0 → i < xs.length → cntH (xs.set i 2) = cntH xs
  | [], _, _, h => by simp at h
  | x :: xs, 0, h, _ => by
    have : x = 0 := h
    subst this
    unfold cntH; simp
  | x :: xs, i + 1, h, hi => by
    have ih := cntH_set2 xs i h (by simpa using hi)
    unfold cntH at ih ⊢
    rw [List.set_cons_succ, List.filter_cons, List.filter_cons]
    split
    · rw [List.length_cons, List.length_cons, ih]
    · exact ih
theorem chk_wall (h : chk wide ps = 0) {k : Nat} (hk : k < ps.length) (h0 : ps.getD k 0 = 0) : chk wide (ps.set k 2) = 0 := by
  obtain ⟨h1, h2, h3, h4, h5⟩ := chk_parts h
  refine chk_of h1 (by rw [List.length_set]; exact h2) (by rw [List.length_set]; exact h3) (fun x hx => ?_) (by rw [cntH_set2 ps k h0 hk]; exact h5)
  rcases List.mem_or_eq_of_mem_set hx with h | rfl
  · exact h4 x h
  · omega
end
end Go.Proofs.Ytejkgppikpkkpaa
