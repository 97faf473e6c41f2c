/- Layer 1: the reference's best lists; HearBest. -/
import Derived.Test.YtejkgppikpkkpaaGreatZFHL
namespace Go.Hear
theorem sub_inc : ∀ {l L : List Nat} {a : Nat}, l.Pairwise (· < ·) → (∀ s ∈ l, a ≤ s ∧ s < 30) → L.Sublist l → Inc a L
  | [], L, a, _, _, h => by rw [List.sublist_nil.1 h]; trivial
  | x :: l, L, a, hp, hr, h => by
    obtain ⟨h1, h2⟩ := List.pairwise_cons.1 hp
    have hx := hr x (List.mem_cons_self ..)
    have hr' : ∀ s ∈ l, x + 1 ≤ s ∧ s < 30 := fun s hs => ⟨h1 s hs, (hr s (List.mem_cons_of_mem _ hs)).2⟩
    cases h with
    | cons _ h => exact Inc.weak (by omega) (sub_inc h2 hr' h)
    | cons_cons _ h => exact ⟨hx, sub_inc h2 hr' h⟩
theorem inc_sub : ∀ {l L : List Nat} {a : Nat}, l.Pairwise (· < ·) → Inc a L → (∀ s ∈ L, s ∈ l) → L.Sublist l
  | [], [], _, _, _, _ => .slnil
  | [], s :: L, _, _, _, h => by have := h s (List.mem_cons_self ..); simp at this
  | x :: l, [], _, _, _, _ => List.nil_sublist _
  | x :: l, s :: L, a, hp, hi, h => by
    obtain ⟨h1, h2⟩ := List.pairwise_cons.1 hp
    obtain ⟨i1, i2⟩ := hi
    have hgt := i2.mem
    rcases List.mem_cons.1 (h s (List.mem_cons_self ..)) with rfl | hs
    · refine .cons_cons _ (inc_sub h2 i2 fun t ht => ?_)
      rcases List.mem_cons.1 (h t (List.mem_cons_of_mem _ ht)) with rfl | ht'
      · have := hgt t ht; omega
      · exact ht'
    · refine .cons _ (inc_sub h2 ⟨i1, i2⟩ fun t ht => ?_)
      have hxs := h1 s hs
      rcases List.mem_cons.1 ht with rfl | ht'
      · exact hs
      · rcases List.mem_cons.1 (h t ht) with rfl | h3
        · have := hgt t ht'; omega
        · exact h3
/-- What is served, house by house. -/
theorem orL_map {α : Type} (g f : α → Bool) : ∀ H : List α, orL (H.map g) (H.map f) = H.map fun h => g h || f h
  | [] => rfl
  | h :: H => by
    have := orL_map g f H
    unfold orL at *
    rw [List.map_cons, List.map_cons, List.zipWith_cons_cons, this]; rfl
theorem cov_map {α : Type} {f : Nat → α → Bool} {H : List α} : ∀ (L : List Nat) (g : α → Bool), cov (fun s => H.map (f s)) (H.map g) L = H.map fun h => g h || L.any fun s => f s h
  | [], g => by simp [cov]
  | s :: L, g => by
    show cov _ (orL (H.map g) (H.map (f s))) L = _
    rw [orL_map, cov_map L]
    congr 1
    funext h
    rw [List.any_cons, Bool.or_assoc]
theorem cnt_map {α : Type} (g : α → Bool) (H : List α) : cntT (H.map g) = H.countP g := by
  unfold cntT
  rw [List.countP_map]; rfl
end Go.Hear
namespace Go.Proofs.YtejkgppikpkkpaaGreat
open Go.PL Go.Hear
section
variable {wide : Int} {ps : List Int} {w v : Int}
def nmE (ps : List Int) : List Int → List Int → Int
  | _, [] => 0
  | pre, x :: r => if isE ps x 1 ≠ 0 then isE ps x 1 else if x ∈ pre then 5 else nmE ps (pre ++ [x]) r
theorem idxI_l2 (v : Int) : ∀ (l : List Int) (k : Int), 0 ≤ k → ∃ n, slices_Index_int_int_l2 v l k = some n ∧ (0 ≤ n ↔ v ∈ l)
  | [], k, _ => ⟨-1, rfl, by simp⟩
  | x :: l, k, hk => by
    unfold slices_Index_int_int_l2
    by_cases h : v = x
    · exact ⟨k, if_pos h, by simp [h, hk]⟩
    · obtain ⟨n, h1, h2⟩ := idxI_l2 v l (k + 1) (by omega)
      exact ⟨n, by rw [if_neg h]; exact h1, by rw [h2]; simp [h]⟩
theorem containsI_eq (l : List Int) (v : Int) : slices_Contains_int_int l v = some (decide (v ∈ l)) := by
  unfold slices_Contains_int_int slices_Index_int_int
  obtain ⟨n, h1, h2⟩ := idxI_l2 v l 0 (Int.le_refl _)
  rw [h1, b1_some]; congr 1; rw [decide_eq_decide]; exact h2
theorem has_eq (v : Int) : ∀ l : List Int, oyezref01_has l v = some (decide (v ∈ l))
  | [] => by unfold oyezref01_has oyezref01_has_l2 oyezref01_has_j1; simp
  | x :: l => by
    have := has_eq v l
    unfold oyezref01_has at this ⊢
    unfold oyezref01_has_l2
    by_cases h : x = v
    · rw [if_pos h]; simp [h]
    · rw [if_neg h, this]; congr 1; rw [decide_eq_decide, List.mem_cons]
      exact ⟨.inr, fun h' => h'.resolve_left (fun h' => h h'.symm)⟩
theorem take_sl (l : List Int) (k : Nat) : sl l 0 (k : Int) = l.take k := by
  unfold sl; rw [Int.toNat_natCast]; rfl
theorem named_l2 (hn : ps.length ≤ 1000) (H : List Int) : ∀ (r pre : List Int), H = pre ++ r → hear_Town_named_l2 wide ps H r (pre.length : Int) = some (nmE ps pre r)
  | [], pre, _ => rfl
  | x :: r, pre, h => by
    unfold hear_Town_named_l2 nmE
    have ih := named_l2 hn H r (pre ++ [x]) (by rw [h]; simp)
    rw [List.length_append, List.length_singleton] at ih
    have e : ((pre.length : Int) + 1) = ((pre.length + 1 : Nat) : Int) := rfl
    rw [is_eq hn, b1_some]
    by_cases h1 : isE ps x 1 = 0
    · rw [if_neg (not_not_intro h1), if_neg (not_not_intro h1), gd_t ⟨by omega, by rw [h, List.length_append]; omega⟩, bvE, take_sl, h, List.take_left, ← h, containsI_eq, b1_some, e, ih]
      by_cases h2 : x ∈ pre
      · rw [if_pos (decide_eq_true h2), if_pos h2]
      · rw [if_neg (fun h => h2 (of_decide_eq_true h)), if_neg h2]
    · rw [if_pos h1, if_pos h1]
theorem rasked_l2 (hn : ps.length ≤ 1000) (H : List Int) : ∀ (r pre : List Int), H = pre ++ r → oyezref01_Asked_l2 wide ps H r (pre.length : Int) = some (nmE ps pre r)
  | [], pre, _ => rfl
  | x :: r, pre, h => by
    unfold oyezref01_Asked_l2 nmE
    have ih := rasked_l2 hn H r (pre ++ [x]) (by rw [h]; simp)
    rw [List.length_append, List.length_singleton] at ih
    have e : ((pre.length : Int) + 1) = ((pre.length + 1 : Nat) : Int) := rfl
    rw [ris_eq hn, b1_some]
    by_cases h1 : isE ps x 1 = 0
    · rw [if_neg (not_not_intro h1), if_neg (not_not_intro h1), gd_t ⟨by omega, by rw [h, List.length_append]; omega⟩, bvE, take_sl, h, List.take_left, ← h, has_eq, b1_some, e, ih]
      by_cases h2 : x ∈ pre
      · rw [if_pos (decide_eq_true h2), if_pos h2]
      · rw [if_neg (fun h => h2 (of_decide_eq_true h)), if_neg h2]
    · rw [if_pos h1, if_pos h1]
theorem nmE_ok : ∀ {r pre : List Int}, nmE ps pre r = 0 → ∀ x ∈ r, (0 ≤ x ∧ x < ps.length) ∧ ps.getD x.toNat 0 = 1
  | [], _, _, x, hx => by simp at hx
  | y :: r, pre, h, x, hx => by
    unfold nmE at h
    by_cases h1 : isE ps y 1 = 0
    · rw [if_neg (not_not_intro h1)] at h
      by_cases h2 : y ∈ pre
      · rw [if_pos h2] at h; cases h
      · rw [if_neg h2] at h
        rcases List.mem_cons.1 hx with rfl | hx
        · exact isE_ok' h1
        · exact nmE_ok h x hx
    · rw [if_pos h1] at h; exact absurd h h1
def askE (wide : Int) (ps : List Int) (w v : Int) (H : List Int) : Int := if airE wide ps w v ≠ 0 then airE wide ps w v else nmE ps [] H
def askR (wide : Int) (ps : List Int) (w v : Int) (H : List Int) : List (List Bool) := H.map fun h => rowP wide ps w v ps.length h.toNat
theorem asked_l1 : ∀ (r : List Int) (acc : List (List Bool)), (∀ x ∈ r, 0 ≤ x ∧ x < ps.length) → acc.length + r.length ≤ 100000 → hear_asked_l1 (earP wide ps w v) r acc = some (acc ++ askR wide ps w v r)
  | [], acc, _, _ => by unfold hear_asked_l1 askR; simp
  | x :: r, acc, h, hl => by
    simp only [List.length_cons] at hl
    have hx := h x (List.mem_cons_self ..)
    unfold hear_asked_l1 earP
    rw [ix_t (x := rowP wide ps w v ps.length x.toNat) hx.1 (tabN_get _ (by omega)), ap_t (by simp; omega)]
    have := asked_l1 r (acc ++ [rowP wide ps w v ps.length x.toNat]) (fun y hy => h y (List.mem_cons_of_mem _ hy)) (by simp; omega)
    unfold earP at this
    rw [this]
    unfold askR
    simp
theorem asked_eq (hn : ps.length ≤ 1000) (H : List Int) (hH : H.length ≤ 1000) : hear_asked wide ps w v H = some (if askE wide ps w v H = 0 then askR wide ps w v H else [], decide (askE wide ps w v H = 0), askE wide ps w v H) := by
  unfold hear_asked
  rw [aired_eq hn, b2_some]
  by_cases h : airE wide ps w v = 0
  · have e : askE wide ps w v H = nmE ps [] H := by unfold askE; rw [if_neg (not_not_intro h)]
    have hnm : hear_Town_named wide ps H = some (nmE ps [] H) := named_l2 hn H H [] rfl
    rw [if_neg (not_not_intro h), if_pos h, hnm, b1_some, e]
    by_cases h2 : nmE ps [] H = 0
    · rw [if_neg (not_not_intro h2), if_pos h2, asked_l1 H [] (fun x hx => (nmE_ok h2 x hx).1) (by simpa using Nat.le_trans hH (by decide)), b1_some, decide_eq_true h2, h2]; rfl
    · rw [if_pos h2, if_neg h2, decide_eq_false h2]
  · have e : askE wide ps w v H = airE wide ps w v := by unfold askE; rw [if_pos h]
    rw [if_pos h, e, if_neg h, decide_eq_false h]
theorem rAsked_eq (hn : ps.length ≤ 1000) (H : List Int) : oyezref01_Asked wide ps w v H = some (askE wide ps w v H) := by
  unfold oyezref01_Asked askE airE
  have hnm : oyezref01_Asked_l2 wide ps H H 0 = some (nmE ps [] H) := rasked_l2 hn H H [] rfl
  rw [rcheck_eq hn, b1_some]
  by_cases h1 : chk wide ps = 0
  · rw [if_neg (not_not_intro h1), if_neg (not_not_intro h1), rcheckAir_eq, b1_some]
    by_cases h2 : chkA w v = 0
    · rw [if_neg (not_not_intro h2), if_neg (not_not_intro h2), hnm]
    · rw [if_pos h2, if_pos h2]
  · rw [if_pos h1, if_pos h1, if_pos h1]
/-- The houses that hear a stand. -/
def hrS (wide : Int) (ps : List Int) (w v : Int) (H : List Int) (s : Nat) : List Bool := H.map fun h => decide (s < ps.length) && hrB wide ps w v s h.toNat
theorem colS_eq (hn : ps.length ≤ 30) (H : List Int) : colS (askR wide ps w v H) = hrS wide ps w v H := by
  funext s
  unfold colS askR hrS
  rw [List.map_map]
  congr 1
  funext h
  show (rowP wide ps w v ps.length h.toNat).getD s false = _
  unfold rowP
  by_cases hs : s < 30
  · rw [List.getD_eq_getElem?_getD, tabN_get _ hs]; rfl
  · rw [List.getD_eq_getElem?_getD, List.getElem?_eq_none (by rw [tabN_len]; omega), decide_eq_false (by omega), Bool.false_and]; rfl
/-- The streets. -/
def stN (ps : List Int) : List Nat := (List.range ps.length).filter fun s => decide (ps.getD s 0 = 0)
theorem stN_mem {s : Nat} : s ∈ stN ps ↔ s < ps.length ∧ ps.getD s 0 = 0 := by
  unfold stN; rw [List.mem_filter, List.mem_range, decide_eq_true_iff]
theorem stN_sorted : (stN ps).Pairwise (· < ·) := List.pairwise_lt_range.filter _
def stP (ps : List Int) (s : Nat) : Bool := decide (s < ps.length) && decide (ps.getD s 0 = 0)
theorem hrS_no {H : List Int} {s : Nat} (h : stP ps s = false) : hrS wide ps w v H s = List.replicate H.length false := by
  unfold hrS
  rw [List.eq_replicate_iff]
  refine ⟨by simp, fun b hb => ?_⟩
  obtain ⟨x, _, rfl⟩ := List.mem_map.1 hb
  unfold stP at h
  by_cases h1 : s < ps.length
  · rw [decide_eq_true h1, Bool.true_and] at h
    rw [hrB_no (of_decide_eq_false h), Bool.and_false]
  · rw [decide_eq_false h1, Bool.false_and]
theorem rstreets_l1 : ∀ (r : List Int) (k : Nat), ps.drop k = r → k ≤ ps.length → ps.length ≤ 1000 → oyezref01_streets_l1 r (k : Int) (lstN (fun s => decide (ps.getD s 0 = 0)) k) = some (lstN (fun s => decide (ps.getD s 0 = 0)) ps.length)
  | [], k, hr, hk, _ => by
    have h := congrArg List.length hr
    rw [List.length_drop, List.length_nil] at h
    have : k = ps.length := by omega
    subst this; rfl
  | x :: r, k, hr, _, hn => by
    obtain ⟨hk, hx, hr'⟩ := drop_get hr
    have ih := rstreets_l1 r (k + 1) hr' (by omega) hn
    have hlen := lstN_len (fun s => decide (ps.getD s 0 = 0)) k
    unfold oyezref01_streets_l1
    rw [show ((k : Int) + 1) = ((k + 1 : Nat) : Int) from rfl, ← ih, lstN_succ, hx]
    by_cases h : x = 0
    · rw [if_pos h, if_pos (decide_eq_true h), ap_t (by rw [List.length_append, List.length_singleton]; omega)]
    · rw [if_neg h, if_neg (fun h' => h (of_decide_eq_true h')), List.append_nil]
theorem rstreets_eq (hn : ps.length ≤ 1000) : oyezref01_streets wide ps = some ((stN ps).map Int.ofNat) := by
  unfold oyezref01_streets
  have := rstreets_l1 (ps := ps) ps 0 rfl (Nat.zero_le _) hn
  have h1 : oyezref01_streets_l1 ps 0 [] = _ := this
  rw [h1, b1_some]; rfl
theorem lists_l2 (x : Int) : ∀ (Q acc : List (List Int)), (∀ l ∈ Q, l.length ≤ 1000) → acc.length + Q.length ≤ 1000000 → oyezref01_ListsB_l2 x Q acc = some (acc ++ Q.map (x :: ·))
  | [], acc, _, _ => by unfold oyezref01_ListsB_l2; simp
  | l :: Q, acc, h, hl => by
    simp only [List.length_cons] at hl
    have := h l (List.mem_cons_self ..)
    unfold oyezref01_ListsB_l2
    rw [ap_t (by simp; omega), ap_t (by simp; omega), lists_l2 x Q _ (fun l hl => h l (List.mem_cons_of_mem _ hl)) (by simp; omega)]
    simp
theorem lists_l1 {k : Nat} {rec_ : List Int → Int → Option (List (List Int))} (full : List Nat) (hf : full.length ≤ 12) (hrec : ∀ l : List Nat, l.length ≤ 12 → rec_ (l.map Int.ofNat) (k : Int) = some ((subs l k).map (·.map Int.ofNat))) (hk : k ≤ 100) : ∀ (r pre : List Nat) (acc : List (List Int)), full = pre ++ r → acc.length + r.length * 8192 ≤ 900000 →
    oyezref01_ListsB_l1 (full.map Int.ofNat) ((k + 1 : Nat) : Int) rec_ (r.map Int.ofNat) (pre.length : Int) acc = some (acc ++ (subs r (k + 1)).map (·.map Int.ofNat))
  | [], pre, acc, _, _ => by
    unfold oyezref01_ListsB_l1
    simp [subs_nil]
  | x :: r, pre, acc, h, hl => by
    simp only [List.length_cons] at hl
    have hfl : full.length = pre.length + (r.length + 1) := by rw [h]; simp
    have hs := subs_len_le r k
    have hp : 2 ^ r.length ≤ 4096 := Nat.le_trans (Nat.pow_le_pow_right (by decide) (show r.length ≤ 12 by omega)) (by decide)
    have hsl : sl (full.map Int.ofNat) ((pre.length : Int) + 1) ((full.map Int.ofNat).length : Int) = r.map Int.ofNat := by
      unfold sl
      rw [Int.toNat_natCast, List.take_length, show ((pre.length : Int) + 1).toNat = pre.length + 1 by omega, ← List.map_drop, h]
      congr 1
      rw [show pre ++ x :: r = (pre ++ [x]) ++ r by simp, show pre.length + 1 = (pre ++ [x]).length by simp, List.drop_left]
    unfold oyezref01_ListsB_l1
    rw [List.map_cons]
    dsimp only
    rw [gd_t ⟨by rw [List.length_map]; omega, Int.le_refl _⟩, bvE, hsl, gd_t (r64_small (by omega)), show ((k + 1 : Nat) : Int) - 1 = (k : Int) by omega, hrec r (by omega), b1_some]
    rw [lists_l2 _ _ acc (fun l hl => by
      obtain ⟨L, h1, rfl⟩ := List.mem_map.1 hl
      have := (mem_subs.1 h1).2
      rw [List.length_map]; omega) (by rw [List.length_map]; omega), b1_some]
    have ih := lists_l1 (k := k) (rec_ := rec_) full hf hrec hk r (pre ++ [x]) (acc ++ ((subs r k).map (·.map Int.ofNat)).map (Int.ofNat x :: ·)) (by rw [h]; simp) (by rw [List.length_append, List.length_map, List.length_map]; omega)
    rw [List.length_append, List.length_singleton] at ih
    rw [show ((pre.length : Int) + 1) = ((pre.length + 1 : Nat) : Int) from rfl, ih]
    congr 1
    have es : subs (x :: r) (k + 1) = (subs r k).map (x :: ·) ++ subs r (k + 1) := rfl
    rw [es, List.map_append, List.append_assoc, List.map_map, List.map_map]
    rfl
theorem lists_eq : ∀ (fu k : Nat) (l : List Nat), k < fu → k ≤ 100 → l.length ≤ 12 → oyezref01_Lists fu (l.map Int.ofNat) (k : Int) = some ((subs l k).map (·.map Int.ofNat))
  | 0, _, _, h, _, _ => absurd h (Nat.not_lt_zero _)
  | fu + 1, 0, l, _, _, _ => by
    unfold oyezref01_Lists oyezref01_ListsB
    rw [if_pos (show ((0 : Nat) : Int) = 0 from rfl)]
    have : subs l 0 = [[]] := by cases l <;> rfl
    rw [this]; rfl
  | fu + 1, k + 1, l, h, hk, hl => by
    unfold oyezref01_Lists oyezref01_ListsB
    rw [if_neg (by omega)]
    have := lists_l1 (k := k) (rec_ := oyezref01_Lists fu) l hl (fun l' hl' => lists_eq fu k l' (by omega) (by omega) hl') (by omega) l [] [] rfl (by rw [List.length_nil]; omega)
    have h1 : oyezref01_ListsB_l1 (l.map Int.ofNat) ((k + 1 : Nat) : Int) (oyezref01_Lists fu) (l.map Int.ofNat) 0 [] = _ := this
    rw [h1, b1_some]; rfl
theorem served_l2 {p : Nat} (hp : p < ps.length) : ∀ (L : List Nat) (b : Bool), oyezref01_served_l2 (earR wide ps w v) (p : Int) (L.map Int.ofNat) b = some (b || L.any fun s => decide (s < ps.length) && hrB wide ps w v s p)
  | [], b => by unfold oyezref01_served_l2; simp
  | s :: L, b => by
    rw [List.map_cons]
    unfold oyezref01_served_l2
    rw [List.any_cons]
    cases b with
    | true => rw [if_pos rfl, served_l2 hp L true]; simp
    | false =>
      have e : decide ((Int.ofNat s) ∈ rowR wide ps w v ps.length p) = (decide (s < ps.length) && hrB wide ps w v s p) := by
        unfold rowR
        rw [Bool.eq_iff_iff, decide_eq_true_iff, lstN_mem, Bool.and_eq_true, decide_eq_true_iff]
        have e2 : (Int.ofNat s).toNat = s := rfl
        rw [e2]
        constructor
        · rintro ⟨⟨_, h1⟩, h2⟩
          exact ⟨by have : (s : Int) < ps.length := h1; omega, h2⟩
        · rintro ⟨h1, h2⟩
          exact ⟨⟨Int.natCast_nonneg s, by show (s : Int) < _; omega⟩, h2⟩
      unfold earR
      rw [if_neg (by decide), ix_t (x := rowR wide ps w v ps.length p) (by omega) (tabN_get _ (by omega)), has_eq, b1_some, e]
      have := served_l2 hp L (decide (s < ps.length) && hrB wide ps w v s p)
      unfold earR at this
      rw [this, Bool.false_or]
theorem served_l1 (L : List Nat) : ∀ (H : List Int) (n : Int), (∀ x ∈ H, 0 ≤ x ∧ x < ps.length) → 0 ≤ n → n + H.length ≤ 100000 → oyezref01_served_l1 (earR wide ps w v) (L.map Int.ofNat) H n = some (n + ((H.countP fun h => L.any fun s => decide (s < ps.length) && hrB wide ps w v s h.toNat : Nat) : Int))
  | [], n, _, _, _ => by unfold oyezref01_served_l1; simp
  | x :: H, n, h, h0, hn => by
    simp only [List.length_cons] at hn
    have hx := h x (List.mem_cons_self ..)
    have hs := served_l2 (wide := wide) (ps := ps) (w := w) (v := v) (p := x.toNat) (by omega) L false
    rw [Int.toNat_of_nonneg hx.1, Bool.false_or] at hs
    unfold oyezref01_served_l1
    rw [hs, b1_some, List.countP_cons]
    have ih := fun m => served_l1 L H m (fun y hy => h y (List.mem_cons_of_mem _ hy))
    cases hb : L.any fun s => decide (s < ps.length) && hrB wide ps w v s x.toNat with
    | true =>
      rw [if_pos rfl, gd_t (r64_small (by omega)), b1_some, ih (n + 1) (by omega) (by omega), if_pos rfl]
      congr 1; omega
    | false =>
      rw [if_neg (by decide), b1_some, ih n h0 (by omega), if_neg (by decide)]
      rfl
theorem served_eq {H : List Int} (hH : ∀ x ∈ H, 0 ≤ x ∧ x < ps.length) (hl : H.length ≤ 1000) (L : List Nat) : oyezref01_served (earR wide ps w v) H (L.map Int.ofNat) = some ((cntT (cov (hrS wide ps w v H) (List.replicate H.length false) L) : Nat) : Int) := by
  unfold oyezref01_served
  rw [served_l1 L H 0 hH (by omega) (by omega), b1_some, Int.zero_add]
  have e : List.replicate H.length false = H.map fun _ => false := by
    induction H with
    | nil => rfl
    | cons x H ih => rw [List.length_cons, List.replicate_succ, List.map_cons]; congr 1; exact ih (fun y hy => hH y (List.mem_cons_of_mem _ hy)) (by simp only [List.length_cons] at hl; omega)
  have e2 : hrS wide ps w v H = fun s => H.map ((fun (s : Nat) (h : Int) => decide (s < ps.length) && hrB wide ps w v s h.toNat) s) := rfl
  rw [e, e2, cov_map, cnt_map]
  simp only [Bool.false_or]
end
end Go.Proofs.YtejkgppikpkkpaaGreat
