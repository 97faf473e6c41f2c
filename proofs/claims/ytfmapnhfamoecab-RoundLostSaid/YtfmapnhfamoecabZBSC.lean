/- Beats that are right are checked; in plain Lean. -/
import Derived.Test.YtfmapnhfamoecabZBSB
namespace Go.Proofs.Ytfmapnhfamoecab.Rd
open Go.PL
theorem in_eq (n lo hi : Int) : round_in n lo hi = some (decide (lo ≤ n ∧ n ≤ hi)) := by
  unfold round_in
  by_cases h : lo ≤ n
  · rw [if_pos h]; congr 1; rw [decide_eq_decide]; omega
  · rw [if_neg h, decide_eq_false (by omega)]
theorem index_l2 (v : Int) : ∀ (l : List Int) (k : Int), 0 ≤ k → ∃ n, slices_Index_int_int_l2 v l k = some n ∧ (0 ≤ n ↔ v ∈ l)
  | [], k, _ => ⟨-1, rfl, by simp⟩
  | x :: l, k, hk => by
    unfold slices_Index_int_int_l2
    by_cases h : v = x
    · exact ⟨k, if_pos h, by simp [h, hk]⟩
    · obtain ⟨n, h1, h2⟩ := index_l2 v l (k + 1) (by omega)
      exact ⟨n, by rw [if_neg h]; exact h1, by rw [h2]; simp [h]⟩
theorem contains_eq (l : List Int) (v : Int) : slices_Contains_int_int l v = some (decide (v ∈ l)) := by
  unfold slices_Contains_int_int slices_Index_int_int
  obtain ⟨n, h1, h2⟩ := index_l2 v l 0 (Int.le_refl _)
  rw [h1, b1_some]; congr 1; rw [decide_eq_decide]; exact h2
theorem idx_l2 {f : List Int → Option Bool} {g : List Int → Bool} : ∀ (l : List (List Int)) (k : Int), 0 ≤ k → (∀ x ∈ l, f x = some (g x)) → ∃ n, slices_IndexFunc_int_int_l2 f l k = some n ∧ (0 ≤ n ↔ l.any g = true)
  | [], k, _, _ => ⟨-1, rfl, by simp⟩
  | x :: l, k, hk, hf => by
    unfold slices_IndexFunc_int_int_l2
    rw [hf x (by simp), b1_some]
    cases h : g x with
    | true => exact ⟨k, if_pos rfl, by simp [h, hk]⟩
    | false =>
      obtain ⟨n, h1, h2⟩ := idx_l2 l (k + 1) (by omega) (fun y hy => hf y (by simp [hy]))
      exact ⟨n, by rw [if_neg (by decide)]; exact h1, by rw [h2]; simp [h]⟩
theorem every_eq {f : List Int → Option Bool} {g : List Int → Bool} {l : List (List Int)} (h : ∀ x ∈ l, f x = some (g x)) : round_every_int l f = some (l.all g) := by
  unfold round_every_int slices_ContainsFunc_int_int slices_IndexFunc_int_int
  obtain ⟨n, h1, h2⟩ := idx_l2 (f := fun xx_ => round_every_int_1 xx_ f) (g := fun x => !g x) l 0 (Int.le_refl _) (fun x hx => by unfold round_every_int_1; rw [h x hx, b1_some])
  rw [h1, b1_some, b1_some]
  congr 1
  rw [List.all_eq_not_any_not]
  congr 1
  rw [Bool.eq_iff_iff, decide_eq_true_iff]
  exact h2
section
variable {ws hs : List (List Int)} {H st : Int} {ns : List (List Int × Int × Int)}
theorem counted_eq (h : BtOK ws hs H st ns) : round_Beat_counted ws hs H st ns = some true := by
  have h1 := h.hs1
  have h2 := h.hH
  have h3 := h.hn
  have h4 := h.hw
  unfold round_Beat_counted
  rw [in_eq, b1_some, if_pos (decide_eq_true (by omega)), in_eq, b1_some, if_pos (decide_eq_true (by omega)), if_pos (by omega), if_pos (by omega), every_eq (f := fun xx_ => round_Beat_counted_1 xx_ (hs.length : Int)) (g := fun l => decide ((l.length : Int) = (hs.length : Int))) (fun x hx => rfl), b1_some]
  congr 1
  rw [List.all_eq_true]
  intro x hx
  obtain ⟨i, hi, rfl⟩ := List.getElem_of_mem hx
  have := (h.row i hi).1
  rw [List.getD_eq_getElem?_getD, List.getElem?_eq_getElem hi, Option.getD_some] at this
  rw [decide_eq_true_iff]; omega
theorem stand_eq (h : BtOK ws hs H st ns) (s : Int) : round_Beat_stand ws hs H st ns s = some (decide (0 ≤ s ∧ s < (hs.length : Int))) := by
  have h1 := h.hs1
  unfold round_Beat_stand
  rw [gd_t (r64_small (by omega)), in_eq, b1_some]
  congr 1; rw [decide_eq_decide]; omega
theorem notice_eq (h : BtOK ws hs H st ns) (s : Int) : round_Beat_notice ws hs H st ns s = some (decide (0 ≤ s ∧ s < (ns.length : Int))) := by
  have h1 := h.hn
  unfold round_Beat_notice
  rw [gd_t (r64_small (by omega)), in_eq, b1_some]
  congr 1; rw [decide_eq_decide]; omega
theorem walkable_l4 {k : Nat} {rec2 : Int → Option Bool} {row : List Int} (hr : ∀ j, j < row.length → WOK k j (row.getD j 0)) : ∀ (tl : List Int) (j : Nat), row.drop j = tl → round_Beat_walkable_l4 (k : Int) rec2 tl (j : Int) = rec2 ((k : Int) + 1)
  | [], _, _ => rfl
  | x :: tl, j, hd => by
    obtain ⟨hj, hx, hd2⟩ := drop_cons 0 hd
    have hw := hr j hj
    rw [hx] at hw
    unfold round_Beat_walkable_l4
    have ih := walkable_l4 (rec2 := rec2) hr tl (j + 1) hd2
    by_cases h : k = j
    · rw [if_pos (by omega), if_neg (not_not_intro (hw.1 h)), if_neg (by omega), b1_some, if_neg (by decide)]
      exact ih
    · rw [if_neg (by omega), if_pos (by omega)]
      rcases hw.2 h with h1 | h1
      · rw [if_neg (not_not_intro h1), b1_some, if_neg (by decide)]
        exact ih
      · rw [if_pos (by omega), in_eq, b1_some, decide_eq_true h1, b1_some, if_neg (by decide)]
        exact ih
theorem walkable_l2 (h : BtOK ws hs H st ns) : ∀ (tl : List (List Int)) (k : Nat), ws.drop k = tl → round_Beat_walkable_l2 tl (k : Int) = some true
  | [], _, _ => rfl
  | x :: tl, k, hd => by
    obtain ⟨hk, hx, hd2⟩ := drop_cons [] hd
    obtain ⟨r1, r2⟩ := h.row k hk
    rw [hx] at r1 r2
    unfold round_Beat_walkable_l2
    have e := walkable_l4 (k := k) (rec2 := round_Beat_walkable_l2 tl) (row := x) (fun j hj => r2 j (by omega)) x 0 rfl
    rw [show ((0 : Nat) : Int) = 0 from rfl] at e
    rw [e]
    exact walkable_l2 h tl (k + 1) hd2
theorem listed_l2 (hH : H ≤ 5) {l : List Int} (h0 : -1000 ≤ H) (hd : l.Nodup) (hx : ∀ x ∈ l, 0 ≤ x ∧ x < H) : ∀ (tl : List Int) (k : Nat), l.drop k = tl → round_Beat_listed_l2 H l tl (k : Int) = some 0
  | [], _, _ => rfl
  | x :: tl, k, hk => by
    obtain ⟨h1, h2, h3⟩ := drop_cons 0 hk
    have hm : x ∈ l := by rw [← h2]; exact getD_mem h1
    have hr := hx x hm
    unfold round_Beat_listed_l2
    have hnot : x ∉ l.take k := by
      intro hc
      have hs : l = l.take k ++ x :: tl := by rw [← hk, List.take_append_drop]
      rw [hs] at hd
      exact (List.nodup_append.1 hd).2.2 x hc x (by simp) rfl
    rw [gd_t (r64_small (by omega)), in_eq, b1_some, decide_eq_true (by omega), if_neg (by decide), gd_t (by omega), bvE, sl_take, contains_eq, b1_some, Int.toNat_natCast, decide_eq_false hnot, if_neg (by decide)]
    exact listed_l2 hH h0 hd hx tl (k + 1) h3
theorem listed_eq (h : BtOK ws hs H st ns) {l : List Int} (hd : l.Nodup) (hx : ∀ x ∈ l, 0 ≤ x ∧ x < H) : round_Beat_listed ws hs H st ns l = some 0 := by
  have := h.hH
  exact listed_l2 (by omega) (by omega) hd hx l 0 rfl
theorem check_eq (h : BtOK ws hs H st ns) {x : List Int × Int × Int} (hx : NOK H x) : round_Beat_check ws hs H st ns x.1 x.2.1 x.2.2 = some 0 := by
  obtain ⟨⟨h1, h2, h3⟩, h4, h5⟩ := hx
  unfold round_Beat_check
  rw [if_neg (by omega), listed_eq h h2 h3, b1_some, if_neg (by decide), in_eq, b1_some, decide_eq_true h4, if_neg (by decide), in_eq, b1_some, decide_eq_true h5, b1_some, if_neg (by decide)]
theorem check_l4 (h : BtOK ws hs H st ns) : ∀ (tl : List (List Int × Int × Int)) (p : Nat), (∀ x ∈ tl, NOK H x) → p + total tl ≤ 9 → round_Check_l4 ws hs H st ns tl (p : Int) = some 0
  | [], p, _, hp => by
    unfold round_Check_l4 round_Check_j3
    rw [if_neg (by have : p ≤ 9 := by omega
                   omega)]
  | x :: tl, p, hx, hp => by
    have e : total (x :: tl) = x.1.length + total tl := by unfold total; simp
    rw [e] at hp
    unfold round_Check_l4
    rw [check_eq h (hx x (by simp)), b1_some, if_neg (by decide), gd_t (r64_small (by omega))]
    exact check_l4 h tl (p + x.1.length) (fun y hy => hx y (by simp [hy])) (by omega)
theorem check_l2 (h : BtOK ws hs H st ns) : ∀ (tl : List (List Int)), (∀ l ∈ tl, l.Nodup ∧ ∀ x ∈ l, 0 ≤ x ∧ x < H) → round_Check_l2 ws hs H st ns tl = some 0
  | [], _ => by
    unfold round_Check_l2 round_Check_j1
    exact check_l4 h ns 0 h.note (by have := h.tot; omega)
  | x :: tl, hx => by
    unfold round_Check_l2
    rw [listed_eq h (hx x (by simp)).1 (hx x (by simp)).2, b1_some, if_neg (by decide)]
    exact check_l2 h tl fun y hy => hx y (by simp [hy])
theorem Check_eq (h : BtOK ws hs H st ns) : round_Check ws hs H st ns = some 0 := by
  unfold round_Check
  have hw : round_Beat_walkable ws hs H st ns = some true := walkable_l2 h ws 0 rfl
  rw [counted_eq h, b1_some, if_neg (by decide), stand_eq h, b1_some, decide_eq_true h.hst, if_neg (by decide), hw, b1_some, if_neg (by decide)]
  exact check_l2 h hs h.hear
end
end Go.Proofs.Ytfmapnhfamoecab.Rd
