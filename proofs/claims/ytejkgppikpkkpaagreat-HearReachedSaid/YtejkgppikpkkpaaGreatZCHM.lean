/- Layer 1: the reference's best lists; HearBest. -/
import Derived.Test.YtejkgppikpkkpaaGreatZCHL
namespace Go.Hear
/-- What is served, house by house. -/
theorem orL_map {α : Type} (g f : α → Bool) : ∀ H : List α, orL (H.map g) (H.map f) = H.map fun h => g h || f h
  | [] => rfl
  | h :: H => by
    have := orL_map g f H
    unfold orL at *
    rw [List.map_cons, List.map_cons, List.zipWith_cons_cons, this]; rfl
theorem cov_map {α : Type} {f : Nat → α → Bool} {H : List α} : ∀ (L : List Nat) (g : α → Bool), cov (fun s => H.map (f s)) (H.map g) L = H.map fun h => g h || L.any fun s => f s h
  | [], g => by simp [cov]
  | s :: L, g => by
    show cov _ (orL (H.map g) (H.map (f s))) L = _
    rw [orL_map, cov_map L]
    congr 1
    funext h
    rw [List.any_cons, Bool.or_assoc]
theorem cnt_map {α : Type} (g : α → Bool) (H : List α) : cntT (H.map g) = H.countP g := by
  unfold cntT
  rw [List.countP_map]; rfl
end Go.Hear
namespace Go.Proofs.YtejkgppikpkkpaaGreat
open Go.PL Go.Hear
section
variable {wide : Int} {ps : List Int} {w v : Int}
def nmE (ps : List Int) : List Int → List Int → Int
  | _, [] => 0
  | pre, x :: r => if isE ps x 1 ≠ 0 then isE ps x 1 else if x ∈ pre then 5 else nmE ps (pre ++ [x]) r
theorem idxI_l2 (v : Int) : ∀ (l : List Int) (k : Int), 0 ≤ k → ∃ n, slices_Index_int_int_l2 v l k = some n ∧ (0 ≤ n ↔ v ∈ l)
  | [], k, _ => ⟨-1, rfl, by simp⟩
  | x :: l, k, hk => by
    unfold slices_Index_int_int_l2
    by_cases h : v = x
    · exact ⟨k, if_pos h, by simp [h, hk]⟩
    · obtain ⟨n, h1, h2⟩ := idxI_l2 v l (k + 1) (by omega)
      exact ⟨n, by rw [if_neg h]; exact h1, by rw [h2]; simp [h]⟩
theorem containsI_eq (l : List Int) (v : Int) : slices_Contains_int_int l v = some (decide (v ∈ l)) := by
  unfold slices_Contains_int_int slices_Index_int_int
  obtain ⟨n, h1, h2⟩ := idxI_l2 v l 0 (Int.le_refl _)
  rw [h1, b1_some]; congr 1; rw [decide_eq_decide]; exact h2
theorem take_sl (l : List Int) (k : Nat) : sl l 0 (k : Int) = l.take k := by
  unfold sl; rw [Int.toNat_natCast]; rfl
theorem named_l2 (hn : ps.length ≤ 1000) (H : List Int) : ∀ (r pre : List Int), H = pre ++ r → hear_Town_named_l2 wide ps H r (pre.length : Int) = some (nmE ps pre r)
  | [], pre, _ => rfl
  | x :: r, pre, h => by
    unfold hear_Town_named_l2 nmE
    have ih := named_l2 hn H r (pre ++ [x]) (by rw [h]; simp)
    rw [List.length_append, List.length_singleton] at ih
    have e : ((pre.length : Int) + 1) = ((pre.length + 1 : Nat) : Int) := rfl
    rw [is_eq hn, b1_some]
    by_cases h1 : isE ps x 1 = 0
    · rw [if_neg (not_not_intro h1), if_neg (not_not_intro h1), gd_t ⟨by omega, by rw [h, List.length_append]; omega⟩, bvE, take_sl, h, List.take_left, ← h, containsI_eq, b1_some, e, ih]
      by_cases h2 : x ∈ pre
      · rw [if_pos (decide_eq_true h2), if_pos h2]
      · rw [if_neg (fun h => h2 (of_decide_eq_true h)), if_neg h2]
    · rw [if_pos h1, if_pos h1]
theorem nmE_ok : ∀ {r pre : List Int}, nmE ps pre r = 0 → ∀ x ∈ r, (0 ≤ x ∧ x < ps.length) ∧ ps.getD x.toNat 0 = 1
  | [], _, _, x, hx => by simp at hx
  | y :: r, pre, h, x, hx => by
    unfold nmE at h
    by_cases h1 : isE ps y 1 = 0
    · rw [if_neg (not_not_intro h1)] at h
      by_cases h2 : y ∈ pre
      · rw [if_pos h2] at h; cases h
      · rw [if_neg h2] at h
        rcases List.mem_cons.1 hx with rfl | hx
        · exact isE_ok' h1
        · exact nmE_ok h x hx
    · rw [if_pos h1] at h; exact absurd h h1
def askE (wide : Int) (ps : List Int) (w v : Int) (H : List Int) : Int := if airE wide ps w v ≠ 0 then airE wide ps w v else nmE ps [] H
def askR (wide : Int) (ps : List Int) (w v : Int) (H : List Int) : List (List Bool) := H.map fun h => rowP wide ps w v ps.length h.toNat
theorem asked_l1 : ∀ (r : List Int) (acc : List (List Bool)), (∀ x ∈ r, 0 ≤ x ∧ x < ps.length) → acc.length + r.length ≤ 100000 → hear_asked_l1 (earP wide ps w v) r acc = some (acc ++ askR wide ps w v r)
  | [], acc, _, _ => by unfold hear_asked_l1 askR; simp
  | x :: r, acc, h, hl => by
    simp only [List.length_cons] at hl
    have hx := h x (List.mem_cons_self ..)
    unfold hear_asked_l1 earP
    rw [ix_t (x := rowP wide ps w v ps.length x.toNat) hx.1 (tabN_get _ (by omega)), ap_t (by simp; omega)]
    have := asked_l1 r (acc ++ [rowP wide ps w v ps.length x.toNat]) (fun y hy => h y (List.mem_cons_of_mem _ hy)) (by simp; omega)
    unfold earP at this
    rw [this]
    unfold askR
    simp
theorem asked_eq (hn : ps.length ≤ 1000) (H : List Int) (hH : H.length ≤ 1000) : hear_asked wide ps w v H = some (if askE wide ps w v H = 0 then askR wide ps w v H else [], decide (askE wide ps w v H = 0), askE wide ps w v H) := by
  unfold hear_asked
  rw [aired_eq hn, b2_some]
  by_cases h : airE wide ps w v = 0
  · have e : askE wide ps w v H = nmE ps [] H := by unfold askE; rw [if_neg (not_not_intro h)]
    have hnm : hear_Town_named wide ps H = some (nmE ps [] H) := named_l2 hn H H [] rfl
    rw [if_neg (not_not_intro h), if_pos h, hnm, b1_some, e]
    by_cases h2 : nmE ps [] H = 0
    · rw [if_neg (not_not_intro h2), if_pos h2, asked_l1 H [] (fun x hx => (nmE_ok h2 x hx).1) (by simpa using Nat.le_trans hH (by decide)), b1_some, decide_eq_true h2, h2]; rfl
    · rw [if_pos h2, if_neg h2, decide_eq_false h2]
  · have e : askE wide ps w v H = airE wide ps w v := by unfold askE; rw [if_pos h]
    rw [if_pos h, e, if_neg h, decide_eq_false h]
/-- The houses that hear a stand. -/
def hrS (wide : Int) (ps : List Int) (w v : Int) (H : List Int) (s : Nat) : List Bool := H.map fun h => decide (s < ps.length) && hrB wide ps w v s h.toNat
theorem colS_eq (hn : ps.length ≤ 30) (H : List Int) : colS (askR wide ps w v H) = hrS wide ps w v H := by
  funext s
  unfold colS askR hrS
  rw [List.map_map]
  congr 1
  funext h
  show (rowP wide ps w v ps.length h.toNat).getD s false = _
  unfold rowP
  by_cases hs : s < 30
  · rw [List.getD_eq_getElem?_getD, tabN_get _ hs]; rfl
  · rw [List.getD_eq_getElem?_getD, List.getElem?_eq_none (by rw [tabN_len]; omega), decide_eq_false (by omega), Bool.false_and]; rfl
def stP (ps : List Int) (s : Nat) : Bool := decide (s < ps.length) && decide (ps.getD s 0 = 0)
theorem hrS_no {H : List Int} {s : Nat} (h : stP ps s = false) : hrS wide ps w v H s = List.replicate H.length false := by
  unfold hrS
  rw [List.eq_replicate_iff]
  refine ⟨by simp, fun b hb => ?_⟩
  obtain ⟨x, _, rfl⟩ := List.mem_map.1 hb
  unfold stP at h
  by_cases h1 : s < ps.length
  · rw [decide_eq_true h1, Bool.true_and] at h
    rw [hrB_no (of_decide_eq_false h), Bool.and_false]
  · rw [decide_eq_false h1, Bool.false_and]
end
end Go.Proofs.YtejkgppikpkkpaaGreat
