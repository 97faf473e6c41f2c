/- Layer 1: who hears whom; HearHouses. -/
import Derived.Test.YtejkgppikpkkpaaGreatZFHI
namespace Go.Proofs.YtejkgppikpkkpaaGreat
open Go.PL Go.Hear
/-- The numbers below n of which P is so. -/
def lstN (P : Nat → Bool) (n : Nat) : List Int := ((List.range n).filter P).map Int.ofNat
theorem lstN_succ (P : Nat → Bool) (n : Nat) : lstN P (n + 1) = lstN P n ++ if P n = true then [(n : Int)] else [] := by
  unfold lstN
  rw [List.range_succ, List.filter_append, List.map_append]
  cases h : P n <;> simp [h]
theorem lstN_len (P : Nat → Bool) (n : Nat) : (lstN P n).length ≤ n := by
  unfold lstN
  rw [List.length_map]
  exact Nat.le_trans (List.length_filter_le ..) (by simp)
theorem lstN_congr {P Q : Nat → Bool} {n : Nat} (h : ∀ i, i < n → P i = Q i) : lstN P n = lstN Q n := by
  unfold lstN
  congr 1
  exact List.filter_congr fun i hi => h i (List.mem_range.1 hi)
theorem lstN_mem {P : Nat → Bool} {n : Nat} {x : Int} : x ∈ lstN P n ↔ (0 ≤ x ∧ x < n) ∧ P x.toNat = true := by
  unfold lstN
  rw [List.mem_map]
  constructor
  · rintro ⟨i, hi, rfl⟩
    obtain ⟨h1, h2⟩ := List.mem_filter.1 hi
    have := List.mem_range.1 h1
    exact ⟨⟨Int.natCast_nonneg i, by show (i : Int) < n; omega⟩, h2⟩
  · rintro ⟨h1, h2⟩
    exact ⟨x.toNat, List.mem_filter.2 ⟨List.mem_range.2 (by omega), h2⟩, by show ((x.toNat : Nat) : Int) = x; omega⟩
theorem lstN_nil {P : Nat → Bool} {n : Nat} : lstN P n = [] ↔ ∀ i, i < n → P i = false := by
  constructor
  · intro h i hi
    cases hP : P i with
    | false => rfl
    | true =>
      have : (i : Int) ∈ lstN P n := lstN_mem.2 ⟨by omega, by simpa using hP⟩
      rw [h] at this; simp at this
  · intro h
    rw [lstN_congr (Q := fun _ => false) h]
    simp [lstN]
/-- Lists of what is told of each number below n. -/
def tabN {β : Type} (f : Nat → β) (n : Nat) : List β := (List.range n).map f
theorem tabN_len {β : Type} (f : Nat → β) (n : Nat) : (tabN f n).length = n := by simp [tabN]
theorem tabN_get {β : Type} (f : Nat → β) {n i : Nat} (h : i < n) : (tabN f n)[i]? = some (f i) := by
  unfold tabN; rw [List.getElem?_map, List.getElem?_range h]; rfl
theorem tabN_congr {β : Type} {f g : Nat → β} {n : Nat} (h : ∀ i, i < n → f i = g i) : tabN f n = tabN g n := by
  unfold tabN
  exact List.map_congr_left fun i hi => h i (List.mem_range.1 hi)
theorem tabN_set {β : Type} (f : Nat → β) {n j : Nat} (y : β) : (tabN f n).set j y = tabN (fun p => if p = j then y else f p) n := by
  apply List.ext_getElem?
  intro i
  rw [List.getElem?_set, tabN_len]
  by_cases hi : i < n
  · rw [tabN_get _ hi, tabN_get _ hi]
    by_cases hj : j = i
    · subst hj; rw [if_pos rfl, if_pos hi, if_pos rfl]
    · rw [if_neg hj, if_neg (fun h => hj h.symm)]
  · have h1 : (tabN f n)[i]? = none := List.getElem?_eq_none (by rw [tabN_len]; omega)
    have h2 : (tabN (fun p => if p = j then y else f p) n)[i]? = none := List.getElem?_eq_none (by rw [tabN_len]; omega)
    rw [h1, h2]
    by_cases hj : j = i
    · rw [if_pos hj, if_neg (by omega)]
    · rw [if_neg hj]
section
variable {wide : Int} {ps : List Int} {w v : Int}
/-- A house hears a stand. -/
def hrB (wide : Int) (ps : List Int) (w v : Int) (s p : Nat) : Bool := decide (ps.getD s 0 = 0) && (decide (ps.getD p 0 = 1) && decide (0 ≤ (tb wide ps w s).getD p 0 ∧ (tb wide ps w s).getD p 0 ≤ v))
def hrT (ps T : List Int) (v : Int) (p : Nat) : Bool := decide (ps.getD p 0 = 1) && decide (0 ≤ T.getD p 0 ∧ T.getD p 0 ≤ v)
theorem hrB_st {s : Nat} (h : ps.getD s 0 = 0) (p : Nat) : hrB wide ps w v s p = hrT ps (tb wide ps w s) v p := by
  unfold hrB hrT; rw [decide_eq_true h, Bool.true_and]
theorem hrB_no {s : Nat} (h : ps.getD s 0 ≠ 0) (p : Nat) : hrB wide ps w v s p = false := by
  unfold hrB; rw [decide_eq_false h, Bool.false_and]
def rowP (wide : Int) (ps : List Int) (w v : Int) (k p : Nat) : List Bool := tabN (fun s => decide (s < k) && hrB wide ps w v s p) 30
theorem rowP_set {k p : Nat} (h : hrB wide ps w v k p = true) : (rowP wide ps w v k p).set k true = rowP wide ps w v (k + 1) p := by
  unfold rowP
  rw [tabN_set]
  refine tabN_congr fun s _ => ?_
  by_cases hs : s = k
  · subst hs; rw [if_pos rfl, h, decide_eq_true (by omega)]; rfl
  · rw [if_neg hs]; congr 1; rw [decide_eq_decide]; omega
theorem rowP_no {k p : Nat} (h : hrB wide ps w v k p = false) : rowP wide ps w v k p = rowP wide ps w v (k + 1) p := by
  unfold rowP
  refine tabN_congr fun s _ => ?_
  by_cases hs : s = k
  · subst hs; rw [h, Bool.and_false, Bool.and_false]
  · congr 1; rw [decide_eq_decide]; omega
theorem heard_l2 (hn : ps.length ≤ 30) {k : Nat} (hk : k < ps.length) (hz : ps.getD k 0 = 0) {T : List Int} (hT : T = tb wide ps w k) (hl : T.length = ps.length) : ∀ (r : List Int) (j : Nat), T.drop j = r → hear_desk_heard_l2 ps v (k : Int) r (j : Int) (tabN (fun p => rowP wide ps w v (if p < j then k + 1 else k) p) ps.length) = some (tabN (rowP wide ps w v (k + 1)) ps.length)
  | [], j, hr => by
    have : ps.length ≤ j := by
      have := congrArg List.length hr
      rw [List.length_drop, List.length_nil] at this; omega
    unfold hear_desk_heard_l2
    congr 1
    exact tabN_congr fun p hp => by rw [if_pos (by omega)]
  | x :: r, j, hr => by
    obtain ⟨hj, hx, hr'⟩ := drop_get hr
    have ih := heard_l2 hn hk hz hT hl r (j + 1) hr'
    have e : (if ps.getD (j : Int).toNat 0 = 1 then b1 (hear_in x 0 v) fun ok => some ok else some false) = some (hrB wide ps w v k j) := by
      rw [in_eq, b1_some, hrB_st hz, ← hT]
      unfold hrT
      rw [Int.toNat_natCast, hx]
      by_cases h : ps.getD j 0 = 1
      · rw [if_pos h, decide_eq_true h, Bool.true_and]
      · rw [if_neg h, decide_eq_false h, Bool.false_and]
    unfold hear_desk_heard_l2
    rw [ix_get _ (by omega) (by omega), e, b1_some]
    have ek : ((j : Int) + 1) = ((j + 1 : Nat) : Int) := rfl
    cases hb : hrB wide ps w v k j with
    | true =>
      rw [if_pos rfl, ix_t (x := rowP wide ps w v k j) (by omega) (by rw [Int.toNat_natCast, tabN_get _ (by omega), if_neg (Nat.lt_irrefl _)]), ix_t (x := false) (by omega) (by
        unfold rowP
        rw [Int.toNat_natCast, tabN_get _ (by omega), decide_eq_false (Nat.lt_irrefl _), Bool.false_and]), bvE, Int.toNat_natCast, Int.toNat_natCast, rowP_set hb, tabN_set, ek]
      rw [← ih]
      congr 1
      refine tabN_congr fun p _ => ?_
      by_cases hp : p = j
      · subst hp; rw [if_pos rfl, if_pos (by omega)]
      · rw [if_neg hp]; congr 1
        by_cases h2 : p < j
        · rw [if_pos h2, if_pos (by omega)]
        · rw [if_neg h2, if_neg (by omega)]
    | false =>
      rw [if_neg (by decide), ek, ← ih]
      congr 1
      refine tabN_congr fun p _ => ?_
      by_cases hp : p = j
      · subst hp; rw [if_neg (Nat.lt_irrefl _), if_pos (by omega), rowP_no hb]
      · congr 1
        by_cases h2 : p < j
        · rw [if_pos h2, if_pos (by omega)]
        · rw [if_neg h2, if_neg (by omega)]
theorem heard_l1 (ho : openE wide ps w = 0) : ∀ (r : List Int) (k : Nat), ps.drop k = r → k ≤ ps.length → hear_desk_heard_l1 wide ps (windD w) (windR w) (windB w) v r (k : Int) (tabN (rowP wide ps w v k) ps.length) = some (tabN (rowP wide ps w v ps.length) ps.length)
  | [], k, hr, hk => by
    have h := congrArg List.length hr
    rw [List.length_drop, List.length_nil] at h
    have : k = ps.length := by omega
    subst this; rfl
  | x :: r, k, hr, _ => by
    have hn := (openE_ok ho).2.1
    obtain ⟨hk, hx, hr'⟩ := drop_get hr
    have ih := heard_l1 ho r (k + 1) hr' (by omega)
    have ek : ((k : Int) + 1) = ((k + 1 : Nat) : Int) := rfl
    unfold hear_desk_heard_l1
    by_cases hz : x = 0
    · rw [if_neg (not_not_intro hz), from_eq ho (by omega), b1_some]
      have h2 := heard_l2 (v := v) (w := w) (wide := wide) hn.2 hk (by rw [hx]; exact hz) rfl (tb_ok ho (stand := (k : Int)) (by omega)).len (tb wide ps w k) 0 rfl
      have e0 : tabN (fun p => rowP wide ps w v (if p < 0 then k + 1 else k) p) ps.length = tabN (rowP wide ps w v k) ps.length := tabN_congr fun p _ => by rw [if_neg (by omega)]
      rw [e0] at h2
      have h2' : hear_desk_heard_l2 ps v (k : Int) (tb wide ps w k) 0 (tabN (rowP wide ps w v k) ps.length) = _ := h2
      rw [h2', b1_some, ek, ih]
    · rw [if_pos hz, b1_some, ek, ← ih]
      congr 1
      exact tabN_congr fun p _ => rowP_no (hrB_no (by rw [hx]; exact hz) p)
/-- What all plots hear. -/
def earP (wide : Int) (ps : List Int) (w v : Int) : List (List Bool) := tabN (rowP wide ps w v ps.length) ps.length
theorem heard_eq (ho : openE wide ps w = 0) : hear_desk_heard wide ps (windD w) (windR w) (windB w) v = some (earP wide ps w v) := by
  have hn := (openE_ok ho).2.1
  unfold hear_desk_heard
  rw [gd_t (by omega), bvE, Int.toNat_natCast]
  have e : List.replicate ps.length (List.replicate 30 false) = tabN (rowP wide ps w v 0) ps.length := by
    symm
    rw [List.eq_replicate_iff]
    refine ⟨tabN_len .., fun b hb => ?_⟩
    unfold tabN at hb
    obtain ⟨p, _, rfl⟩ := List.mem_map.1 hb
    unfold rowP
    rw [List.eq_replicate_iff]
    refine ⟨tabN_len .., fun c hc => ?_⟩
    unfold tabN at hc
    obtain ⟨s, _, rfl⟩ := List.mem_map.1 hc
    rfl
  rw [e]
  have := heard_l1 (v := v) ho ps 0 rfl (Nat.zero_le _)
  have h1 : hear_desk_heard_l1 wide ps (windD w) (windR w) (windB w) v ps 0 (tabN (rowP wide ps w v 0) ps.length) = _ := this
  rw [h1, b1_some]; rfl
def airE (wide : Int) (ps : List Int) (w v : Int) : Int := if chk wide ps ≠ 0 then chk wide ps else chkA w v
theorem airE_ok (h : airE wide ps w v = 0) : chk wide ps = 0 ∧ chkA w v = 0 ∧ openE wide ps w = 0 ∧ 1 ≤ v ∧ v ≤ 40 := by
  unfold airE at h
  by_cases h1 : chk wide ps = 0
  · rw [if_neg (not_not_intro h1)] at h
    have h2 := h
    unfold chkA at h2
    by_cases h3 : (¬ okW w) ∨ ¬ (1 ≤ v ∧ v ≤ 40)
    · rw [if_pos h3] at h2; cases h2
    · have h4 : okW w := Classical.byContradiction fun h => h3 (.inl h)
      have h5 : 1 ≤ v ∧ v ≤ 40 := Classical.byContradiction fun h => h3 (.inr h)
      exact ⟨h1, h, openE_of h1 h4, h5.1, h5.2⟩
  · rw [if_pos h1] at h; exact absurd h h1
theorem aired_eq (hn : ps.length ≤ 1000) : hear_aired wide ps w v = some (if airE wide ps w v = 0 then earP wide ps w v else [], airE wide ps w v) := by
  unfold hear_aired
  rw [check_eq hn, b1_some]
  by_cases h : airE wide ps w v = 0
  · obtain ⟨h1, h2, ho, _⟩ := airE_ok h
    rw [if_neg (not_not_intro h1), checkAir_eq, b1_some, if_neg (not_not_intro h2), opened_eq hn, ho, if_pos rfl, b2_some]
    unfold dsk
    rw [b5_some, heard_eq ho, b1_some, if_pos h, h]
  · rw [if_neg h]
    by_cases h1 : chk wide ps = 0
    · have h2 : airE wide ps w v = chkA w v := by unfold airE; rw [if_neg (not_not_intro h1)]
      rw [if_neg (not_not_intro h1), checkAir_eq, b1_some, if_pos (by rw [← h2]; exact h), h2]
    · have h2 : airE wide ps w v = chk wide ps := by unfold airE; rw [if_pos h1]
      rw [if_pos h1, h2]
theorem list_l1 {f : Nat → Bool} : ∀ (fu k : Nat), k + fu = 30 → hear_ears_list_l1 (tabN f 30) fu (k : Int) (lstN f k) = some (lstN f 30)
  | 0, k, h => by
    have : k = 30 := by omega
    subst this; rfl
  | fu + 1, k, h => by
    have ih := list_l1 (f := f) fu (k + 1) (by omega)
    have hlen := lstN_len f k
    unfold hear_ears_list_l1
    rw [ix_t (x := f k) (by omega) (by rw [Int.toNat_natCast, tabN_get _ (by omega)]), show ((k : Int) + 1) = ((k + 1 : Nat) : Int) from rfl, ← ih, lstN_succ]
    cases hf : f k with
    | true => rw [if_pos rfl, if_pos rfl, ap_t (by simp; omega)]
    | false => rw [if_neg (by decide), if_neg (by decide), List.append_nil]
theorem earsList_eq {f : Nat → Bool} : hear_ears_list (tabN f 30) = some (lstN f 30) := by
  unfold hear_ears_list
  rw [gd_t ⟨by decide, by decide⟩]
  have := list_l1 (f := f) (Int.toNat (30 - 0)) 0 (by decide)
  have h1 : hear_ears_list_l1 (tabN f 30) (Int.toNat (30 - 0)) 0 [] = _ := this
  rw [h1, b1_some]
theorem lst_cut {f : Nat → Bool} {n m : Nat} (h : n ≤ m) : lstN (fun s => decide (s < n) && f s) m = lstN f n := by
  obtain ⟨d, rfl⟩ : ∃ d, m = n + d := ⟨m - n, by omega⟩
  clear h
  induction d with
  | zero => exact lstN_congr fun i hi => by rw [decide_eq_true (show i < n by omega), Bool.true_and]
  | succ d ih =>
    rw [show n + (d + 1) = (n + d) + 1 from rfl, lstN_succ, ih, decide_eq_false (by omega), Bool.false_and]
    simp
theorem row_false (hn : ps.length ≤ 30) {p : Nat} : rowP wide ps w v ps.length p = List.replicate 30 false ↔ lstN (fun s => hrB wide ps w v s p) ps.length = [] := by
  rw [lstN_nil, List.eq_replicate_iff]
  unfold rowP
  constructor
  · rintro ⟨_, h⟩ i hi
    have := h (decide (i < ps.length) && hrB wide ps w v i p) (List.mem_map.2 ⟨i, List.mem_range.2 (by omega), rfl⟩)
    rwa [decide_eq_true hi, Bool.true_and] at this
  · intro h
    refine ⟨tabN_len .., fun b hb => ?_⟩
    unfold tabN at hb
    obtain ⟨s, _, rfl⟩ := List.mem_map.1 hb
    by_cases hs : s < ps.length
    · rw [h s hs, Bool.and_false]
    · rw [decide_eq_false hs, Bool.false_and]
def rowR (wide : Int) (ps : List Int) (w v : Int) (k p : Nat) : List Int := lstN (fun s => hrB wide ps w v s p) k
theorem ears_l2 (hn : ps.length ≤ 30) {k : Nat} (hk : k < ps.length) (hz : ps.getD k 0 = 0) {T : List Int} (hT : T = tb wide ps w k) (hl : T.length = ps.length) : ∀ (r : List Int) (j : Nat), T.drop j = r → oyezref01_Ears_l2 ps v (k : Int) r (j : Int) (tabN (fun p => rowR wide ps w v (if p < j then k + 1 else k) p) ps.length) = some (tabN (rowR wide ps w v (k + 1)) ps.length)
  | [], j, hr => by
    have : ps.length ≤ j := by
      have := congrArg List.length hr
      rw [List.length_drop, List.length_nil] at this; omega
    unfold oyezref01_Ears_l2
    congr 1
    exact tabN_congr fun p hp => by rw [if_pos (by omega)]
  | x :: r, j, hr => by
    obtain ⟨hj, hx, hr'⟩ := drop_get hr
    have ih := ears_l2 hn hk hz hT hl r (j + 1) hr'
    have e : (if ps.getD (j : Int).toNat 0 = 1 then (if 0 ≤ x then some (decide (x ≤ v)) else some false) else some false) = some (hrB wide ps w v k j) := by
      rw [hrB_st hz, ← hT]
      unfold hrT
      rw [Int.toNat_natCast, hx]
      by_cases h : ps.getD j 0 = 1
      · rw [if_pos h, decide_eq_true h, Bool.true_and]
        by_cases h0 : 0 ≤ x
        · rw [if_pos h0]; congr 1; rw [decide_eq_decide]; exact ⟨fun h => ⟨h0, h⟩, fun h => h.2⟩
        · rw [if_neg h0, decide_eq_false (fun h => h0 h.1)]
      · rw [if_neg h, decide_eq_false h, Bool.false_and]
    have hlen := lstN_len (fun s => hrB wide ps w v s j) k
    unfold oyezref01_Ears_l2
    rw [ix_get _ (by omega) (by omega), e, b1_some]
    have ek : ((j : Int) + 1) = ((j + 1 : Nat) : Int) := rfl
    cases hb : hrB wide ps w v k j with
    | true =>
      rw [if_pos rfl, ix_t (x := rowR wide ps w v k j) (by omega) (by rw [Int.toNat_natCast, tabN_get _ (by omega), if_neg (Nat.lt_irrefl _)])]
      unfold rowR at *
      rw [ap_t (by simp; omega), bvE, Int.toNat_natCast, tabN_set, ek, ← ih]
      congr 1
      refine tabN_congr fun p _ => ?_
      by_cases hp : p = j
      · subst hp; rw [if_pos rfl, if_pos (by omega), lstN_succ, hb, if_pos rfl]
      · rw [if_neg hp]; congr 1
        by_cases h2 : p < j
        · rw [if_pos h2, if_pos (by omega)]
        · rw [if_neg h2, if_neg (by omega)]
    | false =>
      rw [if_neg (by decide), ek, ← ih]
      congr 1
      refine tabN_congr fun p _ => ?_
      by_cases hp : p = j
      · subst hp; rw [if_neg (Nat.lt_irrefl _), if_pos (by omega)]
        unfold rowR
        rw [lstN_succ, hb, if_neg (by decide), List.append_nil]
      · congr 1
        by_cases h2 : p < j
        · rw [if_pos h2, if_pos (by omega)]
        · rw [if_neg h2, if_neg (by omega)]
theorem ears_l1 (ho : openE wide ps w = 0) : ∀ (r : List Int) (k : Nat), ps.drop k = r → k ≤ ps.length → oyezref01_Ears_l1 wide ps w v r (k : Int) (tabN (rowR wide ps w v k) ps.length) = some (tabN (rowR wide ps w v ps.length) ps.length)
  | [], k, hr, hk => by
    have h := congrArg List.length hr
    rw [List.length_drop, List.length_nil] at h
    have : k = ps.length := by omega
    subst this; rfl
  | x :: r, k, hr, _ => by
    have hn := (openE_ok ho).2.1
    obtain ⟨hk, hx, hr'⟩ := drop_get hr
    have ih := ears_l1 ho r (k + 1) hr' (by omega)
    have ek : ((k : Int) + 1) = ((k + 1 : Nat) : Int) := rfl
    unfold oyezref01_Ears_l1
    by_cases hz : x = 0
    · have hkz : ps.getD (k : Int).toNat 0 = 0 := by rw [Int.toNat_natCast, hx]; exact hz
      rw [if_neg (not_not_intro hz), rNeeds_eq (by omega), standE_of ho (by omega) hkz, if_pos rfl, b2_some]
      have h2 := ears_l2 (v := v) (w := w) (wide := wide) hn.2 hk (by rw [hx]; exact hz) rfl (tb_ok ho (stand := (k : Int)) (by omega)).len (tb wide ps w k) 0 rfl
      have e0 : tabN (fun p => rowR wide ps w v (if p < 0 then k + 1 else k) p) ps.length = tabN (rowR wide ps w v k) ps.length := tabN_congr fun p _ => by rw [if_neg (by omega)]
      rw [e0] at h2
      have h2' : oyezref01_Ears_l2 ps v (k : Int) (tb wide ps w k) 0 (tabN (rowR wide ps w v k) ps.length) = _ := h2
      rw [h2', b1_some, ek, ih]
    · rw [if_pos hz, b1_some, ek, ← ih]
      congr 1
      refine tabN_congr fun p _ => ?_
      unfold rowR
      rw [lstN_succ, hrB_no (by rw [hx]; exact hz), if_neg (by decide), List.append_nil]
def earR (wide : Int) (ps : List Int) (w v : Int) : List (List Int) := tabN (rowR wide ps w v ps.length) ps.length
theorem Ears_eq (ho : openE wide ps w = 0) : oyezref01_Ears wide ps w v = some (earR wide ps w v) := by
  have hn := (openE_ok ho).2.1
  unfold oyezref01_Ears
  rw [gd_t (by omega), bvE, Int.toNat_natCast]
  have e : List.replicate ps.length ([] : List Int) = tabN (rowR wide ps w v 0) ps.length := by
    symm
    rw [List.eq_replicate_iff]
    refine ⟨tabN_len .., fun b hb => ?_⟩
    unfold tabN at hb
    obtain ⟨p, _, rfl⟩ := List.mem_map.1 hb
    rfl
  rw [e]
  have := ears_l1 (v := v) ho ps 0 rfl (Nat.zero_le _)
  have h1 : oyezref01_Ears_l1 wide ps w v ps 0 (tabN (rowR wide ps w v 0) ps.length) = _ := this
  rw [h1, b1_some]; rfl
end
end Go.Proofs.YtejkgppikpkkpaaGreat
