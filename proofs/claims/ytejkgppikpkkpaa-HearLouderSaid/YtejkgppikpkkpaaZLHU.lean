/- Layer 1: houses that are apart, stands that cannot be left out, as plain facts on lists; in plain Lean. -/
import Derived.Test.YtejkgppikpkkpaaZLHT
namespace Go.Proofs.Ytejkgppikpkkpaa
open Go.PL Go.Hear
/-- A list can be gone on with. -/
def Gd (com : Nat → Nat → Bool) (hi : Nat) : Nat → List Nat → List Nat → Prop
  | _, _, [] => True
  | f, l, x :: t => (f ≤ x ∧ x < hi) ∧ (l.all fun k => !com k x) = true ∧ Gd com hi (x + 1) (l ++ [x]) t
section
variable {com : Nat → Nat → Bool}
theorem Gd.weak {hi f g : Nat} {l t : List Nat} (h : Gd com hi g l t) (hf : f ≤ g) : Gd com hi f l t := by
  cases t with
  | nil => trivial
  | cons x t => exact ⟨⟨by have := h.1; omega, h.1.2⟩, h.2⟩
end
/-- Do two rows have a stand in common? -/
def comB (x y : List Bool) : Bool := (List.range 30).any fun s => x.getD s false && y.getD s false
theorem comB_false {x y : List Bool} : comB x y = false ↔ ∀ s, s < 30 → ¬ (x.getD s false = true ∧ y.getD s false = true) := by
  unfold comB
  rw [List.any_eq_false]
  constructor
  · intro h s hs hc
    exact h s (List.mem_range.2 hs) (by rw [hc.1, hc.2]; rfl)
  · intro h s hs hc
    rw [Bool.and_eq_true] at hc
    exact h s (List.mem_range.1 hs) hc
/-- As many houses as can be that are apart. -/
structure IsAp (f : Int → List Bool) (H A : List Int) : Prop where
  nd : A.Nodup
  sub : ∀ h ∈ A, h ∈ H
  ap : A.Pairwise fun h k => comB (f h) (f k) = false
  max : ∀ S : List Int, S.Nodup → (∀ h ∈ S, h ∈ H) → (S.Pairwise fun h k => comB (f h) (f k) = false) → S.length ≤ A.length
section
variable {f : Int → List Bool} {H A H' A' : List Int}
/-- Houses that are carried over. -/
theorem IsAp.map_le {f' : Int → List Bool} {to : Int → Int} (h : IsAp f H A) (h' : IsAp f' H' A') (hinj : ∀ x ∈ H, ∀ y ∈ H, to x = to y → x = y) (hsub : ∀ x ∈ H, to x ∈ H') (hc : ∀ x ∈ H, ∀ y ∈ H, comB (f x) (f y) = false → comB (f' (to x)) (f' (to y)) = false) : A.length ≤ A'.length := by
  have := h'.max (A.map to) ?_ (fun x hx => ?_) ?_
  · rwa [List.length_map] at this
  · rw [List.Nodup, List.pairwise_map]
    exact List.Pairwise.imp_of_mem (fun {a b} ha hb hab he => hab (hinj a (h.sub a ha) b (h.sub b hb) he)) h.nd
  · obtain ⟨y, hy, rfl⟩ := List.mem_map.1 hx
    exact hsub y (h.sub y hy)
  · rw [List.pairwise_map]
    exact List.Pairwise.imp_of_mem (fun {a b} ha hb hab => hc a (h.sub a ha) b (h.sub b hb) hab) h.ap
end
/-- A few stands, each below thirty, in order. -/
def upL (C : List Nat) : List Nat := (List.range' 0 30).filter fun s => decide (s ∈ C)
theorem upL_mem {C : List Nat} {s : Nat} : s ∈ upL C ↔ s < 30 ∧ s ∈ C := by
  unfold upL
  rw [List.mem_filter, List.mem_range', decide_eq_true_iff]
  constructor
  · rintro ⟨⟨i, h1, rfl⟩, h2⟩; exact ⟨by omega, h2⟩
  · rintro ⟨h1, h2⟩; exact ⟨⟨s, h1, by omega⟩, h2⟩
theorem upL_inc (C : List Nat) : Inc 0 (upL C) := inc_of 30 0 (by omega)
theorem upL_len (C : List Nat) : (upL C).length ≤ C.length := by
  have hnd : (upL C).Nodup := List.Pairwise.filter _ (List.nodup_range' ..)
  exact hnd.length_le_of_subset fun s hs => (upL_mem.1 hs).2
theorem upL_all {R : List (List Bool)} {C : List Nat} (h : ∀ r ∈ R, ∃ s ∈ C, s < 30 ∧ r.getD s false = true) : All R (upL C) := fun r hr => by
  obtain ⟨s, h1, h2, h3⟩ := h r hr
  exact ⟨s, upL_mem.2 ⟨h2, h1⟩, h3⟩
/-- Of stands that serve, as many as there are rows serve. -/
theorem pick {R : List (List Bool)} {C : List Nat} (h : ∀ r ∈ R, ∃ s ∈ C, s < 30 ∧ r.getD s false = true) : ∃ L, Inc 0 L ∧ All R L ∧ L.length ≤ R.length ∧ L.length ≤ C.length ∧ ∀ s ∈ L, s ∈ C := by
  have key : ∀ R : List (List Bool), (∀ r ∈ R, ∃ s ∈ C, s < 30 ∧ r.getD s false = true) → ∃ D : List Nat, D.length = R.length ∧ (∀ s ∈ D, s ∈ C ∧ s < 30) ∧ All R D := by
    intro R
    induction R with
    | nil => intro _; exact ⟨[], rfl, (fun _ h => by cases h), fun _ h => by cases h⟩
    | cons r R ih =>
      intro h
      obtain ⟨D, h1, h2, h3⟩ := ih fun x hx => h x (List.mem_cons_of_mem _ hx)
      obtain ⟨s, h4, h5, h6⟩ := h r (List.mem_cons_self ..)
      refine ⟨s :: D, by rw [List.length_cons, h1, List.length_cons], fun x hx => ?_, fun x hx => ?_⟩
      · rcases List.mem_cons.1 hx with rfl | hx
        · exact ⟨h4, h5⟩
        · exact h2 x hx
      · rcases List.mem_cons.1 hx with rfl | hx
        · exact ⟨s, List.mem_cons_self .., h6⟩
        · obtain ⟨t, ht, h7⟩ := h3 x hx
          exact ⟨t, List.mem_cons_of_mem _ ht, h7⟩
  obtain ⟨D, h1, h2, h3⟩ := key R h
  have hm : ∀ s ∈ upL D, s ∈ C := fun s hs => (h2 s (upL_mem.1 hs).2).1
  refine ⟨upL D, upL_inc D, upL_all fun r hr => ?_, by rw [← h1]; exact upL_len D, ?_, hm⟩
  · obtain ⟨s, hs, h4⟩ := h3 r hr
    exact ⟨s, hs, (h2 s hs).2, h4⟩
  · have hnd : (upL D).Nodup := List.Pairwise.filter _ (List.nodup_range' ..)
    exact hnd.length_le_of_subset hm
theorem IsFew.le {R : List (List Bool)} {L : List Nat} (h : IsFew R L) {C : List Nat} (hC : ∀ r ∈ R, ∃ s ∈ C, s < 30 ∧ r.getD s false = true) : L.length ≤ C.length := by
  have := h.min (upL C) (upL_inc C) (upL_all hC)
  have := upL_len C
  omega
/-- The best list serves all just if some list does. -/
theorem best_all {R : List (List Bool)} {L : List Nat} {n most : Nat} (hb : ∀ p : Nat → Bool, (∀ s, p s = false → colS R s = List.replicate R.length false) → IsBest (colS R) p (List.replicate R.length false) (min most R.length) L n) : n ≤ R.length ∧ (n = R.length ↔ ∃ C : List Nat, C.length ≤ most ∧ ∀ r ∈ R, ∃ s ∈ C, s < 30 ∧ r.getD s false = true) := by
  have b := hb (fun _ => true) (fun _ h => nomatch h)
  have hle : ∀ L', cntT (cov (colS R) (List.replicate R.length false) L') ≤ R.length := fun L' => by
    have e0 : List.replicate R.length false = R.map fun _ => false := by rw [List.map_const']
    have e1 : colS R = fun s => R.map fun r => r.getD s false := rfl
    rw [e0, e1, cov_map, cnt_map]
    exact List.countP_le_length
  have hn : n ≤ R.length := by rw [← b.val]; exact hle L
  refine ⟨hn, fun h => ⟨L, Nat.le_trans b.len (Nat.min_le_left ..), fun r hr => ?_⟩, ?_⟩
  · obtain ⟨s, h1, h2⟩ := (all_cov R L).1 (by rw [b.val, h]) r hr
    exact ⟨s, h1, (b.inc.mem s h1).2, h2⟩
  · rintro ⟨C, h1, h2⟩
    obtain ⟨L', i1, i2, i3, i4, _⟩ := pick h2
    have h3 := b.max L' i1 (fun _ _ => rfl) (by omega)
    rw [(all_cov R L').2 i2] at h3
    omega
end Go.Proofs.Ytejkgppikpkkpaa
