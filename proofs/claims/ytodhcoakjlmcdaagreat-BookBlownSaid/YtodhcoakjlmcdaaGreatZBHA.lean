/- Layer 1: what the printed functions of package hear compute, in plain Lean. -/
import Derived.Test.YtodhcoakjlmcdaaGreatZBTd
import Derived.Test.YtodhcoakjlmcdaaGreatZBHearR
import Derived.Test.YtodhcoakjlmcdaaGreatZBHearW
namespace Go.Proofs.YtodhcoakjlmcdaaGreat
open Go.PL Go.Hear
theorem bvE {α β : Type} {a : α} {f : α → Option β} : bv a f = f a := rfl
theorem nd {p : Prop} [Decidable p] (h : ¬ p) : (!decide p) = true := by simp [h]
theorem ndf {p : Prop} [Decidable p] (h : p) : ¬ (!decide p) = true := by simp [h]
theorem in_eq (n lo hi : Int) : hear_in n lo hi = some (decide (lo ≤ n ∧ n ≤ hi)) := by
  unfold hear_in
  by_cases h : lo ≤ n <;> simp [h]
theorem r64_small {x : Int} (h : -1000000000 ≤ x ∧ x ≤ 1000000000) : R64 x := by unfold R64; omega
theorem plot_eq {wide : Int} {ps : List Int} (hn : ps.length ≤ 1000) (p : Int) : hear_Town_plot wide ps p = some (decide (0 ≤ p ∧ p ≤ (ps.length : Int) - 1)) := by
  unfold hear_Town_plot
  rw [gd_t (r64_small (by omega)), in_eq]; rfl
theorem getD_of {α : Type} {xs : List α} {i : Nat} {d : α} (h : i < xs.length) : xs[i]? = some (xs.getD i d) := by
  rw [List.getD_eq_getElem?_getD, List.getElem?_eq_getElem h]; rfl
theorem ix_get {β : Type} {xs : List Int} {i : Int} (f : Int → Option β) (h0 : 0 ≤ i) (h1 : i < (xs.length : Int)) : ix xs i f = f (xs.getD i.toNat 0) := ix_t h0 (getD_of (by omega))
theorem is_eq {wide : Int} {ps : List Int} (hn : ps.length ≤ 1000) (p kind : Int) : hear_Town_is wide ps p kind = some (isE ps p kind) := by
  unfold hear_Town_is isE
  rw [plot_eq hn, b1_some]
  by_cases h : 0 ≤ p ∧ p ≤ (ps.length : Int) - 1
  · rw [if_neg (ndf h), if_neg (not_not_intro h), ix_get _ (by omega) (by omega)]
    split <;> rfl
  · rw [if_pos (nd h), if_pos h]
theorem indexFunc_eq {f : Int → Option Bool} {g : Int → Bool} : ∀ (l : List Int) (k : Int), 0 ≤ k → (∀ x ∈ l, f x = some (g x)) → ∃ n, slices_IndexFunc_hear_Plot_hear_Plot_l2 f l k = some n ∧ (0 ≤ n ↔ l.any g = true)
  | [], k, _, _ => ⟨-1, rfl, by simp⟩
  | x :: l, k, hk, h => by
    unfold slices_IndexFunc_hear_Plot_hear_Plot_l2
    rw [h x (by simp), b1_some]
    by_cases hx : g x = true
    · exact ⟨k, by rw [if_pos hx], by simp [hx, hk]⟩
    · obtain ⟨n, h1, h2⟩ := indexFunc_eq l (k + 1) (by omega) (fun y hy => h y (by simp [hy]))
      exact ⟨n, by rw [if_neg hx]; exact h1, by rw [h2]; simp [hx]⟩
theorem every_eq {f : Int → Option Bool} {g : Int → Bool} {l : List Int} (h : ∀ x ∈ l, f x = some (g x)) : hear_every_Plot l f = some (l.all g) := by
  unfold hear_every_Plot slices_ContainsFunc_hear_Plot_hear_Plot slices_IndexFunc_hear_Plot_hear_Plot
  obtain ⟨n, h1, h2⟩ := indexFunc_eq (f := fun x => hear_every_Plot_1 x f) (g := fun x => !g x) l 0 (Int.le_refl _) (fun x hx => by
    unfold hear_every_Plot_1; rw [h x hx]; rfl)
  rw [h1]
  simp only [b1_some]
  congr 1
  cases ha : l.all g with
  | true =>
    have : ¬ 0 ≤ n := by rw [h2]; simpa using ha
    simp [this]
  | false =>
    have : 0 ≤ n := by rw [h2]; simpa using ha
    simp [this]
theorem houses_l1_eq : ∀ (l : List Int) (n : Int), 0 ≤ n → n + l.length ≤ 1000000 → hear_Town_houses_l1 l n = some (n + (cntH l : Int))
  | [], n, _, _ => by simp [hear_Town_houses_l1, cntH]
  | x :: l, n, h0, h => by
    unfold hear_Town_houses_l1
    simp only [List.length_cons] at h
    by_cases hx : x = 1
    · rw [if_pos hx, gd_t (r64_small (by omega)), houses_l1_eq l (n + 1) (by omega) (by omega)]
      simp [cntH, hx]; omega
    · rw [if_neg hx, houses_l1_eq l n h0 (by omega)]
      simp [cntH, hx]
theorem houses_eq {wide : Int} {ps : List Int} (hn : ps.length ≤ 1000) : hear_Town_houses wide ps = some (cntH ps : Int) := by
  unfold hear_Town_houses
  rw [houses_l1_eq ps 0 (by omega) (by omega)]; simp
theorem check_eq {wide : Int} {ps : List Int} (hn : ps.length ≤ 1000) : hear_Check wide ps = some (chk wide ps) := by
  unfold hear_Check chk
  simp only [in_eq, b1_some]
  by_cases h1 : 1 ≤ wide ∧ wide ≤ 6
  · by_cases h2 : 1 ≤ (ps.length : Int) ∧ (ps.length : Int) ≤ 30
    · have hw : wide ≠ 0 := by omega
      have hm : Int.tmod (ps.length : Int) wide = (ps.length : Int) % wide := Int.tmod_eq_emod_of_nonneg (by omega)
      rw [if_neg (by simp [h1]), if_neg (by simp [h2]), gd_t hw, b1_some, hm]
      by_cases h3 : (ps.length : Int) % wide = 0
      · rw [if_neg (by simp [h3]), if_neg (by simp [h1, h2, h3])]
        rw [every_eq (g := okP) (fun x _ => by unfold hear_Check_1; rw [in_eq]; rfl), b1_some]
        by_cases h4 : ps.all okP = true
        · rw [if_neg (by simp [h4]), if_neg (by simp [h4]), houses_eq hn, b1_some]
          split <;> rfl
        · rw [if_pos (by simp [h4]), if_pos h4]
      · rw [if_pos (by simp [h3]), if_pos (by simp [h3])]
    · rw [if_neg (ndf h1), if_pos (nd h2), b1_some, if_pos rfl, if_pos (.inl (.inr h2))]
  · rw [if_pos (nd h1), b1_some, if_pos rfl, if_pos (.inl (.inl h1))]
theorem there_eq (w : Int) : hear_Dir_there w = some (decide (okW w)) := by unfold hear_Dir_there; rw [in_eq]; rfl
theorem checkAir_eq (w v : Int) : hear_CheckAir w v = some (chkA w v) := by
  unfold hear_CheckAir chkA
  rw [there_eq, b1_some, in_eq, b1_some]
  by_cases h1 : okW w
  · rw [if_neg (by simp [h1]), b1_some]
    by_cases h2 : 1 ≤ v ∧ v ≤ 40
    · rw [if_neg (by simp [h2]), if_neg (by simp [h1, h2])]
    · rw [if_pos (nd h2), if_pos (.inr h2)]
  · rw [if_pos (by simp [h1]), b1_some, if_pos rfl, if_pos (.inl h1)]
/-- A town at work. -/
def dsk (wide : Int) (ps : List Int) (w : Int) : Int × List Int × Int × Int × Bool := (wide, ps, windD w, windR w, windB w)
theorem opened_eq {wide : Int} {ps : List Int} (hn : ps.length ≤ 1000) (w : Int) : hear_opened wide ps w = some (if openE wide ps w = 0 then some (dsk wide ps w) else none, openE wide ps w) := by
  unfold hear_opened openE
  rw [check_eq hn, b1_some]
  by_cases h1 : chk wide ps = 0
  · rw [if_neg (by simp [h1]), there_eq, b1_some]
    by_cases h2 : okW w
    · rw [if_neg (by simp [h2])]
      rcases okW_cases h2 with rfl | rfl | rfl | rfl | rfl <;> simp [h1, h2, dsk] <;> rfl
    · rw [if_pos (by simp [h2])]; simp [h1, h2]
  · rw [if_pos h1]; simp [h1]
theorem standing_eq {wide : Int} {ps : List Int} (hn : ps.length ≤ 1000) (w stand : Int) : hear_standing wide ps w stand = some (if standE wide ps w stand = 0 then some (dsk wide ps w) else none, standE wide ps w stand) := by
  unfold hear_standing standE
  rw [opened_eq hn, b2_some]
  by_cases h1 : openE wide ps w = 0
  · rw [if_neg (by simp [h1]), is_eq hn, b1_some]
    by_cases h2 : isE ps stand 0 = 0 <;> simp [h1, h2]
  · simp [h1]
theorem wall_eq {wide : Int} {ps : List Int} {p : Int} (h0 : 0 ≤ p) (h1 : p < ps.length) : hear_Town_wall wide ps p = some (decide (ps.getD p.toNat 0 = 2)) := by
  unfold hear_Town_wall; rw [ix_get _ h0 h1]
theorem needs_eq {wide : Int} {ps : List Int} {w : Int} (_hw : okW w) (sd sr : Int) {q : Int} (h0 : 0 ≤ q) (h1 : q < ps.length) : hear_desk_needs wide ps (windD w) (windR w) (windB w) sd sr q = some (needN w sd sr (ps.getD q.toNat 0)) := by
  unfold hear_desk_needs hear_step_back needN
  have e1 : -1 ≤ windD w ∧ windD w ≤ 1 := by unfold windD; split <;> (try split) <;> omega
  have e2 : -1 ≤ windR w ∧ windR w ≤ 1 := by unfold windR; split <;> (try split) <;> omega
  rw [gd_t (r64_small (by omega)), gd_t (r64_small (by omega))]
  simp only [b2_some, ix_get _ h0 h1]
  generalize ps.getD q.toNat 0 = k
  have fin : ∀ n : Int, 0 ≤ n ∧ n ≤ 4 → (if k = 1 then gd (R64 (n + 1)) (some (n + 1)) else some n) = some (n + if k = 1 then 1 else 0) := fun n hn => by
    split
    · rw [gd_t (r64_small (by omega))]
    · simp
  by_cases hb : windB w = true
  · by_cases hs : sd = windD w ∧ sr = windR w
    · rw [if_neg (by simp [hb]), if_pos hs, b1_some, fin 1 (by omega), if_neg (not_not_intro hb), if_pos hs]
    · by_cases ht : sd = -windD w ∧ sr = -windR w
      · rw [if_neg (by simp [hb]), if_neg hs, if_pos ht, b1_some, fin 4 (by omega), if_neg (not_not_intro hb), if_neg hs, if_pos ht]
      · rw [if_neg (by simp [hb]), if_neg hs, if_neg ht, b1_some, fin 2 (by omega), if_neg (not_not_intro hb), if_neg hs, if_neg ht]
  · rw [if_pos (by simp [hb]), b1_some, fin 2 (by omega), if_pos hb]
theorem yl_some {α : Type} {x : α} {l : List α} : yl x (some l) = some (x :: l) := rfl
theorem next_l1_eq {wide : Int} {ps : List Int} {w : Int} (ho : openE wide ps w = 0) {p : Int} (h0 : 0 ≤ p) (h1 : p < ps.length) {closed : Int → Option Bool} (hc : ∀ q : Int, 0 ≤ q → q < ps.length → closed q = some (decide (ps.getD q.toNat 0 = 2))) :
    ∀ (n : Nat) (k : Int), 0 ≤ k → k + n = 4 → hear_desk_next_1_l1 p wide ps (windD w) (windR w) (windB w) closed n k = some ((stepsL.drop k.toNat).filterMap (nextOf wide ps w p))
  | 0, k, _, hk => by
    have : k = 4 := by omega
    subst this; rfl
  | n + 1, k, hk0, hk => by
    obtain ⟨o1, o2, _, o4, o5, _⟩ := openE_ok ho
    have ih := next_l1_eq ho h0 h1 hc n (k + 1) (by omega) (by omega)
    unfold hear_desk_next_1_l1
    obtain ⟨s, hs, hd, hr1, hr2⟩ : ∃ s : Int × Int, ([(-1, 0), (0, -1), (0, 1), (1, 0)] : List (Int × Int))[k.toNat]? = some s ∧ stepsL.drop k.toNat = s :: stepsL.drop (k + 1).toNat ∧ (-1 ≤ s.1 ∧ s.1 ≤ 1) ∧ (-1 ≤ s.2 ∧ s.2 ≤ 1) := by
      have : k = 0 ∨ k = 1 ∨ k = 2 ∨ k = 3 := by omega
      rcases this with rfl | rfl | rfl | rfl <;> exact ⟨_, rfl, rfl, by decide, by decide⟩
    have hmul := step_mul hr1 o1
    rw [ix_t hk0 hs, gd_t (r64_small (by omega)), gd_t (r64_small (by omega)), gd_t (r64_small (by omega)), plot_eq (by omega), b1_some, ih, hd, List.filterMap_cons]
    generalize hq : p + s.1 * wide + s.2 = q
    by_cases hin : 0 ≤ q ∧ q ≤ (ps.length : Int) - 1
    · rw [if_neg (by simp [hin])]
      have hq0 : 0 ≤ q := hin.1
      have hq1 : q < ps.length := by omega
      rw [hc q hq0 hq1, needs_eq o5 _ _ hq0 hq1]
      simp only [b1_some, yl_some]
      have hdv : Int.tdiv q wide = q / wide := Int.tdiv_eq_ediv_of_nonneg hq0
      have hdp : Int.tdiv p wide = p / wide := Int.tdiv_eq_ediv_of_nonneg h0
      have hb1 : 0 ≤ q / wide ∧ q / wide ≤ 1000 := ⟨Int.ediv_nonneg hq0 (by omega), Int.le_trans (Int.ediv_le_self _ hq0) (by omega)⟩
      have hb2 : 0 ≤ p / wide ∧ p / wide ≤ 1000 := ⟨Int.ediv_nonneg h0 (by omega), Int.le_trans (Int.ediv_le_self _ h0) (by omega)⟩
      by_cases hz : s.1 = 0
      · rw [if_pos hz, gd_t ⟨by omega, r64_small (by omega)⟩, gd_t ⟨by omega, r64_small (by omega)⟩, hdv, hdp]
        by_cases he : q / wide = p / wide
        · rw [if_neg (by simp [he])]
          by_cases hw : ps.getD q.toNat 0 = 2
          · rw [if_pos (decide_eq_true hw)]
            have : nextOf wide ps w p s = none := by unfold nextOf; rw [hq, if_pos (.inr hw)]
            rw [this]
          · rw [if_neg (fun h => hw (of_decide_eq_true h))]
            have : nextOf wide ps w p s = some (q, needN w s.1 s.2 (ps.getD q.toNat 0)) := by unfold nextOf; rw [hq, if_neg (fun h => h.elim (fun h => h.elim (fun h => h hin) (fun h => h.2 he)) hw)]
            rw [this]
        · rw [if_pos (by simpa using he)]
          have : nextOf wide ps w p s = none := by unfold nextOf; rw [hq, if_pos (.inl (.inr ⟨hz, he⟩))]
          rw [this]
      · rw [if_neg hz]
        by_cases hw : ps.getD q.toNat 0 = 2
        · rw [if_pos (decide_eq_true hw)]
          have : nextOf wide ps w p s = none := by unfold nextOf; rw [hq, if_pos (.inr hw)]
          rw [this]
        · rw [if_neg (fun h => hw (of_decide_eq_true h))]
          have : nextOf wide ps w p s = some (q, needN w s.1 s.2 (ps.getD q.toNat 0)) := by unfold nextOf; rw [hq, if_neg (fun h => h.elim (fun h => h.elim (fun h => h hin) (fun h => hz h.1)) hw)]
          rw [this]
    · rw [if_pos (nd hin)]
      have : nextOf wide ps w p s = none := by unfold nextOf; rw [hq, if_pos (.inl (.inl hin))]
      rw [this]
theorem next_eq {wide : Int} {ps : List Int} {w : Int} (ho : openE wide ps w = 0) {p : Int} (h0 : 0 ≤ p) (h1 : p < ps.length) : hear_desk_next wide ps (windD w) (windR w) (windB w) p = some (nextL wide ps w p) := by
  unfold hear_desk_next hear_desk_next_1
  rw [gd_t ⟨r64_small (by omega), r64_small (by omega)⟩, next_l1_eq ho h0 h1 (closed := fun x => hear_Town_wall wide ps x) (fun q hq0 hq1 => wall_eq hq0 hq1) (Int.toNat (4 - 0)) 0 (by omega) (by decide)]
  rfl
end Go.Proofs.YtodhcoakjlmcdaaGreat
