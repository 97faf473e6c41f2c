/- Layer 1: who hears whom; HearHouses. -/
import Derived.Test.YtdnmaodkdhdacaaHI
namespace Go.Proofs.Ytdnmaodkdhdacaa
open Go.PL Go.Hear

/-- The numbers below n of which P is so. -/
def lstN (P : Nat → Bool) (n : Nat) : List Int := ((List.range n).filter P).map Int.ofNat
theorem lstN_succ (P : Nat → Bool) (n : Nat) : lstN P (n + 1) = lstN P n ++ if P n = true then [(n : Int)] else [] := by
  unfold lstN
  rw [List.range_succ, List.filter_append, List.map_append]
  cases h : P n <;> simp [h]
theorem lstN_len (P : Nat → Bool) (n : Nat) : (lstN P n).length ≤ n := by
  unfold lstN
  rw [List.length_map]
  exact Nat.le_trans (List.length_filter_le ..) (by simp)
theorem lstN_congr {P Q : Nat → Bool} {n : Nat} (h : ∀ i, i < n → P i = Q i) : lstN P n = lstN Q n := by
  unfold lstN
  congr 1
  exact List.filter_congr fun i hi => h i (List.mem_range.1 hi)
theorem lstN_mem {P : Nat → Bool} {n : Nat} {x : Int} : x ∈ lstN P n ↔ (0 ≤ x ∧ x < n) ∧ P x.toNat = true := by
  unfold lstN
  rw [List.mem_map]
  constructor
  · rintro ⟨i, hi, rfl⟩
    obtain ⟨h1, h2⟩ := List.mem_filter.1 hi
    have := List.mem_range.1 h1
    exact ⟨⟨Int.natCast_nonneg i, by show (i : Int) < n; omega⟩, h2⟩
  · rintro ⟨h1, h2⟩
    exact ⟨x.toNat, List.mem_filter.2 ⟨List.mem_range.2 (by omega), h2⟩, by show ((x.toNat : Nat) : Int) = x; omega⟩
theorem lstN_nil {P : Nat → Bool} {n : Nat} : lstN P n = [] ↔ ∀ i, i < n → P i = false := by
  constructor
  · intro h i hi
    cases hP : P i with
    | false => rfl
    | true =>
      have : (i : Int) ∈ lstN P n := lstN_mem.2 ⟨by omega, by simpa using hP⟩
      rw [h] at this; simp at this
  · intro h
    rw [lstN_congr (Q := fun _ => false) h]
    simp [lstN]
/-- Lists of what is told of each number below n. -/
def tabN {β : Type} (f : Nat → β) (n : Nat) : List β := (List.range n).map f
theorem tabN_len {β : Type} (f : Nat → β) (n : Nat) : (tabN f n).length = n := by simp [tabN]
theorem tabN_get {β : Type} (f : Nat → β) {n i : Nat} (h : i < n) : (tabN f n)[i]? = some (f i) := by
  unfold tabN; rw [List.getElem?_map, List.getElem?_range h]; rfl
theorem tabN_congr {β : Type} {f g : Nat → β} {n : Nat} (h : ∀ i, i < n → f i = g i) : tabN f n = tabN g n := by
  unfold tabN
  exact List.map_congr_left fun i hi => h i (List.mem_range.1 hi)
theorem tabN_set {β : Type} (f : Nat → β) {n j : Nat} (y : β) : (tabN f n).set j y = tabN (fun p => if p = j then y else f p) n := by
  apply List.ext_getElem?
  intro i
  rw [List.getElem?_set, tabN_len]
  by_cases hi : i < n
  · rw [tabN_get _ hi, tabN_get _ hi]
    by_cases hj : j = i
    · subst hj; rw [if_pos rfl, if_pos hi, if_pos rfl]
    · rw [if_neg hj, if_neg (fun h => hj h.symm)]
  · have h1 : (tabN f n)[i]? = none := List.getElem?_eq_none (by rw [tabN_len]; omega)
    have h2 : (tabN (fun p => if p = j then y else f p) n)[i]? = none := List.getElem?_eq_none (by rw [tabN_len]; omega)
    rw [h1, h2]
    by_cases hj : j = i
    · rw [if_pos hj, if_neg (by omega)]
    · rw [if_neg hj]

section
variable {wide : Int} {ps : List Int} {w v : Int}
/-- A house hears a stand. -/
def hrB (wide : Int) (ps : List Int) (w v : Int) (s p : Nat) : Bool := decide (ps.getD s 0 = 0) && (decide (ps.getD p 0 = 1) && decide (0 ≤ (tb wide ps w s).getD p 0 ∧ (tb wide ps w s).getD p 0 ≤ v))
def hrT (ps T : List Int) (v : Int) (p : Nat) : Bool := decide (ps.getD p 0 = 1) && decide (0 ≤ T.getD p 0 ∧ T.getD p 0 ≤ v)
theorem hrB_st {s : Nat} (h : ps.getD s 0 = 0) (p : Nat) : hrB wide ps w v s p = hrT ps (tb wide ps w s) v p := by
  unfold hrB hrT; rw [decide_eq_true h, Bool.true_and]
theorem hrB_no {s : Nat} (h : ps.getD s 0 ≠ 0) (p : Nat) : hrB wide ps w v s p = false := by
  unfold hrB; rw [decide_eq_false h, Bool.false_and]

/-! ### The program's -/
def rowP (wide : Int) (ps : List Int) (w v : Int) (k p : Nat) : List Bool := tabN (fun s => decide (s < k) && hrB wide ps w v s p) 30
theorem rowP_set {k p : Nat} (h : hrB wide ps w v k p = true) : (rowP wide ps w v k p).set k true = rowP wide ps w v (k + 1) p := by
  unfold rowP
  rw [tabN_set]
  refine tabN_congr fun s _ => ?_
  by_cases hs : s = k
  · subst hs; rw [if_pos rfl, h, decide_eq_true (by omega)]; rfl
  · rw [if_neg hs]; congr 1; rw [decide_eq_decide]; omega
theorem rowP_no {k p : Nat} (h : hrB wide ps w v k p = false) : rowP wide ps w v k p = rowP wide ps w v (k + 1) p := by
  unfold rowP
  refine tabN_congr fun s _ => ?_
  by_cases hs : s = k
  · subst hs; rw [h, Bool.and_false, Bool.and_false]
  · congr 1; rw [decide_eq_decide]; omega
theorem heard_l2 (hn : ps.length ≤ 30) {k : Nat} (hk : k < ps.length) (hz : ps.getD k 0 = 0) {T : List Int} (hT : T = tb wide ps w k) (hl : T.length = ps.length) : ∀ (r : List Int) (j : Nat), T.drop j = r → hear_desk_heard_l2 ps v (k : Int) r (j : Int) (tabN (fun p => rowP wide ps w v (if p < j then k + 1 else k) p) ps.length) = some (tabN (rowP wide ps w v (k + 1)) ps.length)
  | [], j, hr => by
    have : ps.length ≤ j := by
      have := congrArg List.length hr
      rw [List.length_drop, List.length_nil] at this; omega
    unfold hear_desk_heard_l2
    congr 1
    exact tabN_congr fun p hp => by rw [if_pos (by omega)]
  | x :: r, j, hr => by
    obtain ⟨hj, hx, hr'⟩ := drop_get hr
    have ih := heard_l2 hn hk hz hT hl r (j + 1) hr'
    have e : (if ps.getD (j : Int).toNat 0 = 1 then b1 (hear_in x 0 v) fun ok => some ok else some false) = some (hrB wide ps w v k j) := by
      rw [in_eq, b1_some, hrB_st hz, ← hT]
      unfold hrT
      rw [Int.toNat_natCast, hx]
      by_cases h : ps.getD j 0 = 1
      · rw [if_pos h, decide_eq_true h, Bool.true_and]
      · rw [if_neg h, decide_eq_false h, Bool.false_and]
    unfold hear_desk_heard_l2
    rw [ix_get _ (by omega) (by omega), e, b1_some]
    have ek : ((j : Int) + 1) = ((j + 1 : Nat) : Int) := rfl
    cases hb : hrB wide ps w v k j with
    | true =>
      rw [if_pos rfl, ix_t (x := rowP wide ps w v k j) (by omega) (by rw [Int.toNat_natCast, tabN_get _ (by omega), if_neg (Nat.lt_irrefl _)]), ix_t (x := false) (by omega) (by
        unfold rowP
        rw [Int.toNat_natCast, tabN_get _ (by omega), decide_eq_false (Nat.lt_irrefl _), Bool.false_and]), bvE, Int.toNat_natCast, Int.toNat_natCast, rowP_set hb, tabN_set, ek]
      rw [← ih]
      congr 1
      refine tabN_congr fun p _ => ?_
      by_cases hp : p = j
      · subst hp; rw [if_pos rfl, if_pos (by omega)]
      · rw [if_neg hp]; congr 1
        by_cases h2 : p < j
        · rw [if_pos h2, if_pos (by omega)]
        · rw [if_neg h2, if_neg (by omega)]
    | false =>
      rw [if_neg (by decide), ek, ← ih]
      congr 1
      refine tabN_congr fun p _ => ?_
      by_cases hp : p = j
      · subst hp; rw [if_neg (Nat.lt_irrefl _), if_pos (by omega), rowP_no hb]
      · congr 1
        by_cases h2 : p < j
        · rw [if_pos h2, if_pos (by omega)]
        · rw [if_neg h2, if_neg (by omega)]
theorem heard_l1 (ho : openE wide ps w = 0) : ∀ (r : List Int) (k : Nat), ps.drop k = r → k ≤ ps.length → hear_desk_heard_l1 wide ps (windD w) (windR w) (windB w) v r (k : Int) (tabN (rowP wide ps w v k) ps.length) = some (tabN (rowP wide ps w v ps.length) ps.length)
  | [], k, hr, hk => by
    have h := congrArg List.length hr
    rw [List.length_drop, List.length_nil] at h
    have : k = ps.length := by omega
    subst this; rfl
  | x :: r, k, hr, _ => by
    have hn := (openE_ok ho).2.1
    obtain ⟨hk, hx, hr'⟩ := drop_get hr
    have ih := heard_l1 ho r (k + 1) hr' (by omega)
    have ek : ((k : Int) + 1) = ((k + 1 : Nat) : Int) := rfl
    unfold hear_desk_heard_l1
    by_cases hz : x = 0
    · rw [if_neg (not_not_intro hz), from_eq ho (by omega), b1_some]
      have h2 := heard_l2 (v := v) (w := w) (wide := wide) hn.2 hk (by rw [hx]; exact hz) rfl (tb_ok ho (stand := (k : Int)) (by omega)).len (tb wide ps w k) 0 rfl
      have e0 : tabN (fun p => rowP wide ps w v (if p < 0 then k + 1 else k) p) ps.length = tabN (rowP wide ps w v k) ps.length := tabN_congr fun p _ => by rw [if_neg (by omega)]
      rw [e0] at h2
      have h2' : hear_desk_heard_l2 ps v (k : Int) (tb wide ps w k) 0 (tabN (rowP wide ps w v k) ps.length) = _ := h2
      rw [h2', b1_some, ek, ih]
    · rw [if_pos hz, b1_some, ek, ← ih]
      congr 1
      exact tabN_congr fun p _ => rowP_no (hrB_no (by rw [hx]; exact hz) p)
/-- What all plots hear. -/
def earP (wide : Int) (ps : List Int) (w v : Int) : List (List Bool) := tabN (rowP wide ps w v ps.length) ps.length
theorem heard_eq (ho : openE wide ps w = 0) : hear_desk_heard wide ps (windD w) (windR w) (windB w) v = some (earP wide ps w v) := by
  have hn := (openE_ok ho).2.1
  unfold hear_desk_heard
  rw [gd_t (by omega), bvE, Int.toNat_natCast]
  have e : List.replicate ps.length (List.replicate 30 false) = tabN (rowP wide ps w v 0) ps.length := by
    symm
    rw [List.eq_replicate_iff]
    refine ⟨tabN_len .., fun b hb => ?_⟩
    unfold tabN at hb
    obtain ⟨p, _, rfl⟩ := List.mem_map.1 hb
    unfold rowP
    rw [List.eq_replicate_iff]
    refine ⟨tabN_len .., fun c hc => ?_⟩
    unfold tabN at hc
    obtain ⟨s, _, rfl⟩ := List.mem_map.1 hc
    rfl
  rw [e]
  have := heard_l1 (v := v) ho ps 0 rfl (Nat.zero_le _)
  have h1 : hear_desk_heard_l1 wide ps (windD w) (windR w) (windB w) v ps 0 (tabN (rowP wide ps w v 0) ps.length) = _ := this
  rw [h1, b1_some]; rfl
def airE (wide : Int) (ps : List Int) (w v : Int) : Int := if chk wide ps ≠ 0 then chk wide ps else chkA w v
theorem airE_ok (h : airE wide ps w v = 0) : chk wide ps = 0 ∧ chkA w v = 0 ∧ openE wide ps w = 0 ∧ 1 ≤ v ∧ v ≤ 40 := by
  unfold airE at h
  by_cases h1 : chk wide ps = 0
  · rw [if_neg (not_not_intro h1)] at h
    have h2 := h
    unfold chkA at h2
    by_cases h3 : (¬ okW w) ∨ ¬ (1 ≤ v ∧ v ≤ 40)
    · rw [if_pos h3] at h2; cases h2
    · have h4 : okW w := Classical.byContradiction fun h => h3 (.inl h)
      have h5 : 1 ≤ v ∧ v ≤ 40 := Classical.byContradiction fun h => h3 (.inr h)
      exact ⟨h1, h, openE_of h1 h4, h5.1, h5.2⟩
  · rw [if_pos h1] at h; exact absurd h h1
theorem aired_eq (hn : ps.length ≤ 1000) : hear_aired wide ps w v = some (if airE wide ps w v = 0 then earP wide ps w v else [], airE wide ps w v) := by
  unfold hear_aired
  rw [check_eq hn, b1_some]
  by_cases h : airE wide ps w v = 0
  · obtain ⟨h1, h2, ho, _⟩ := airE_ok h
    rw [if_neg (not_not_intro h1), checkAir_eq, b1_some, if_neg (not_not_intro h2), opened_eq hn, ho, if_pos rfl, b2_some]
    unfold dsk
    rw [b5_some, heard_eq ho, b1_some, if_pos h, h]
  · rw [if_neg h]
    by_cases h1 : chk wide ps = 0
    · have h2 : airE wide ps w v = chkA w v := by unfold airE; rw [if_neg (not_not_intro h1)]
      rw [if_neg (not_not_intro h1), checkAir_eq, b1_some, if_pos (by rw [← h2]; exact h), h2]
    · have h2 : airE wide ps w v = chk wide ps := by unfold airE; rw [if_pos h1]
      rw [if_pos h1, h2]

/-! ### Houses, stands, the deaf -/
theorem houses_l1 {T : List Int} (hl : T.length = ps.length) (hn : ps.length ≤ 1000) : ∀ (r : List Int) (k : Nat), T.drop k = r → k ≤ ps.length → hear_Houses_l1 ps v r (k : Int) (lstN (hrT ps T v) k) = some (lstN (hrT ps T v) ps.length)
  | [], k, hr, hk => by
    have h := congrArg List.length hr
    rw [List.length_drop, List.length_nil] at h
    have : k = ps.length := by omega
    subst this; rfl
  | x :: r, k, hr, _ => by
    obtain ⟨hk, hx, hr'⟩ := drop_get hr
    have ih := houses_l1 hl hn r (k + 1) hr' (by omega)
    have hlen := lstN_len (hrT ps T v) k
    have e : (if ps.getD (k : Int).toNat 0 = 1 then b1 (hear_in x 0 v) fun ok => some ok else some false) = some (hrT ps T v k) := by
      rw [in_eq, b1_some, Int.toNat_natCast]
      unfold hrT
      rw [hx]
      by_cases h : ps.getD k 0 = 1
      · rw [if_pos h, decide_eq_true h, Bool.true_and]
      · rw [if_neg h, decide_eq_false h, Bool.false_and]
    unfold hear_Houses_l1
    rw [ix_get _ (by omega) (by omega), e, b1_some, show ((k : Int) + 1) = ((k + 1 : Nat) : Int) from rfl, ← ih]
    rw [lstN_succ]
    cases h : hrT ps T v k with
    | true => rw [if_pos rfl, if_pos rfl, ap_t (by simp; omega)]
    | false => rw [if_neg (by decide), if_neg (by decide), List.append_nil]
def housE (wide : Int) (ps : List Int) (w v stand : Int) : Int := if airE wide ps w v ≠ 0 then airE wide ps w v else isE ps stand 0
theorem Houses_eq (hn : ps.length ≤ 1000) (stand : Int) : hear_Houses wide ps w v stand = some (if housE wide ps w v stand = 0 then lstN (hrB wide ps w v stand.toNat) ps.length else [], housE wide ps w v stand) := by
  unfold hear_Houses housE
  rw [check_eq hn, b1_some]
  by_cases h : airE wide ps w v = 0
  · obtain ⟨h1, h2, ho, _⟩ := airE_ok h
    rw [if_neg (not_not_intro h1), checkAir_eq, b1_some, if_neg (not_not_intro h2), Needs_eq hn, b2_some, if_neg (not_not_intro h)]
    have hst : standE wide ps w stand = isE ps stand 0 := by unfold standE; rw [if_neg (not_not_intro ho)]
    rw [hst]
    by_cases h3 : isE ps stand 0 = 0
    · obtain ⟨hs, hk⟩ := isE_ok' h3
      rw [if_neg (not_not_intro h3), if_pos h3, if_pos h3]
      have h4 := houses_l1 (v := v) (tb_ok ho hs).len hn (tb wide ps w stand) 0 rfl (Nat.zero_le _)
      have h5 : hear_Houses_l1 ps v (tb wide ps w stand) 0 [] = _ := h4
      rw [h5, b1_some, h3]
      congr 2
      refine lstN_congr fun p _ => ?_
      rw [hrB_st hk, Int.toNat_of_nonneg hs.1]
    · rw [if_pos h3, if_neg h3]
  · by_cases h1 : chk wide ps = 0
    · have h2 : airE wide ps w v = chkA w v := by unfold airE; rw [if_neg (not_not_intro h1)]
      rw [h2] at h ⊢
      rw [if_neg (not_not_intro h1), checkAir_eq, b1_some, if_pos h, if_pos h, if_neg h]
    · have h2 : airE wide ps w v = chk wide ps := by unfold airE; rw [if_pos h1]
      rw [h2, if_pos h1, if_pos h1, if_neg h1]
theorem list_l1 {f : Nat → Bool} : ∀ (fu k : Nat), k + fu = 30 → hear_ears_list_l1 (tabN f 30) fu (k : Int) (lstN f k) = some (lstN f 30)
  | 0, k, h => by
    have : k = 30 := by omega
    subst this; rfl
  | fu + 1, k, h => by
    have ih := list_l1 (f := f) fu (k + 1) (by omega)
    have hlen := lstN_len f k
    unfold hear_ears_list_l1
    rw [ix_t (x := f k) (by omega) (by rw [Int.toNat_natCast, tabN_get _ (by omega)]), show ((k : Int) + 1) = ((k + 1 : Nat) : Int) from rfl, ← ih, lstN_succ]
    cases hf : f k with
    | true => rw [if_pos rfl, if_pos rfl, ap_t (by simp; omega)]
    | false => rw [if_neg (by decide), if_neg (by decide), List.append_nil]
theorem earsList_eq {f : Nat → Bool} : hear_ears_list (tabN f 30) = some (lstN f 30) := by
  unfold hear_ears_list
  rw [gd_t ⟨by decide, by decide⟩]
  have := list_l1 (f := f) (Int.toNat (30 - 0)) 0 (by decide)
  have h1 : hear_ears_list_l1 (tabN f 30) (Int.toNat (30 - 0)) 0 [] = _ := this
  rw [h1, b1_some]
theorem lst_cut {f : Nat → Bool} {n m : Nat} (h : n ≤ m) : lstN (fun s => decide (s < n) && f s) m = lstN f n := by
  obtain ⟨d, rfl⟩ : ∃ d, m = n + d := ⟨m - n, by omega⟩
  clear h
  induction d with
  | zero => exact lstN_congr fun i hi => by rw [decide_eq_true (show i < n by omega), Bool.true_and]
  | succ d ih =>
    rw [show n + (d + 1) = (n + d) + 1 from rfl, lstN_succ, ih, decide_eq_false (by omega), Bool.false_and]
    simp
def stanE (wide : Int) (ps : List Int) (w v house : Int) : Int := if airE wide ps w v ≠ 0 then airE wide ps w v else isE ps house 1
theorem Stands_eq (hn : ps.length ≤ 1000) (house : Int) : hear_Stands wide ps w v house = some (if stanE wide ps w v house = 0 then lstN (fun s => hrB wide ps w v s house.toNat) ps.length else [], stanE wide ps w v house) := by
  unfold hear_Stands stanE
  rw [aired_eq hn, b2_some]
  by_cases h : airE wide ps w v = 0
  · obtain ⟨_, _, ho, _⟩ := airE_ok h
    have h30 := (openE_ok ho).2.1
    rw [if_neg (not_not_intro h), if_neg (not_not_intro h), if_pos h, is_eq hn, b1_some]
    by_cases h3 : isE ps house 1 = 0
    · obtain ⟨hp, _⟩ := isE_ok' h3
      rw [if_neg (not_not_intro h3), if_pos h3]
      unfold earP
      rw [ix_t (x := rowP wide ps w v ps.length house.toNat) hp.1 (tabN_get _ (by omega))]
      unfold rowP
      rw [earsList_eq, b1_some, lst_cut h30.2, h3]
    · rw [if_pos h3, if_neg h3]
  · rw [if_pos h, if_pos h, if_neg h]
/-- A house hears no stand. -/
def deafB (wide : Int) (ps : List Int) (w v : Int) (p : Nat) : Bool := decide (ps.getD p 0 = 1) && decide (lstN (fun s => hrB wide ps w v s p) ps.length = [])
theorem row_false (hn : ps.length ≤ 30) {p : Nat} : rowP wide ps w v ps.length p = List.replicate 30 false ↔ lstN (fun s => hrB wide ps w v s p) ps.length = [] := by
  rw [lstN_nil, List.eq_replicate_iff]
  unfold rowP
  constructor
  · rintro ⟨_, h⟩ i hi
    have := h (decide (i < ps.length) && hrB wide ps w v i p) (List.mem_map.2 ⟨i, List.mem_range.2 (by omega), rfl⟩)
    rwa [decide_eq_true hi, Bool.true_and] at this
  · intro h
    refine ⟨tabN_len .., fun b hb => ?_⟩
    unfold tabN at hb
    obtain ⟨s, _, rfl⟩ := List.mem_map.1 hb
    by_cases hs : s < ps.length
    · rw [h s hs, Bool.and_false]
    · rw [decide_eq_false hs, Bool.false_and]
theorem deaf_l1 (hn : ps.length ≤ 30) : ∀ (r : List Int) (k : Nat), ps.drop k = r → k ≤ ps.length → hear_Deaf_l1 (earP wide ps w v) r (k : Int) (lstN (deafB wide ps w v) k) = some (lstN (deafB wide ps w v) ps.length)
  | [], k, hr, hk => by
    have h := congrArg List.length hr
    rw [List.length_drop, List.length_nil] at h
    have : k = ps.length := by omega
    subst this; rfl
  | x :: r, k, hr, _ => by
    obtain ⟨hk, hx, hr'⟩ := drop_get hr
    have ih := deaf_l1 hn r (k + 1) hr' (by omega)
    have hlen := lstN_len (deafB wide ps w v) k
    have e : (if x = 1 then ix (earP wide ps w v) (k : Int) fun x2 => some (decide (x2 = List.replicate 30 false)) else some false) = some (deafB wide ps w v k) := by
      unfold earP deafB
      rw [ix_t (x := rowP wide ps w v ps.length k) (by omega) (by rw [Int.toNat_natCast, tabN_get _ hk]), hx]
      by_cases h : x = 1
      · rw [if_pos h, decide_eq_true h, Bool.true_and]
        congr 1; rw [decide_eq_decide]; exact row_false hn
      · rw [if_neg h, decide_eq_false h, Bool.false_and]
    unfold hear_Deaf_l1
    rw [e, b1_some, show ((k : Int) + 1) = ((k + 1 : Nat) : Int) from rfl, ← ih, lstN_succ]
    cases h : deafB wide ps w v k with
    | true => rw [if_pos rfl, if_pos rfl, ap_t (by simp; omega)]
    | false => rw [if_neg (by decide), if_neg (by decide), List.append_nil]
theorem Deaf_eq (hn : ps.length ≤ 1000) : hear_Deaf wide ps w v = some (if airE wide ps w v = 0 then lstN (deafB wide ps w v) ps.length else [], airE wide ps w v) := by
  unfold hear_Deaf
  rw [aired_eq hn, b2_some]
  by_cases h : airE wide ps w v = 0
  · obtain ⟨_, _, ho, _⟩ := airE_ok h
    have h30 := (openE_ok ho).2.1
    rw [if_neg (not_not_intro h), if_pos h, if_pos h]
    have := deaf_l1 (wide := wide) (w := w) (v := v) h30.2 ps 0 rfl (Nat.zero_le _)
    have h1 : hear_Deaf_l1 (earP wide ps w v) ps 0 [] = _ := this
    rw [h1, b1_some, h]
  · rw [if_pos h, if_neg h]

/-! ### The reference's -/
def rowR (wide : Int) (ps : List Int) (w v : Int) (k p : Nat) : List Int := lstN (fun s => hrB wide ps w v s p) k
theorem ears_l2 (hn : ps.length ≤ 30) {k : Nat} (hk : k < ps.length) (hz : ps.getD k 0 = 0) {T : List Int} (hT : T = tb wide ps w k) (hl : T.length = ps.length) : ∀ (r : List Int) (j : Nat), T.drop j = r → oyezref01_Ears_l2 ps v (k : Int) r (j : Int) (tabN (fun p => rowR wide ps w v (if p < j then k + 1 else k) p) ps.length) = some (tabN (rowR wide ps w v (k + 1)) ps.length)
  | [], j, hr => by
    have : ps.length ≤ j := by
      have := congrArg List.length hr
      rw [List.length_drop, List.length_nil] at this; omega
    unfold oyezref01_Ears_l2
    congr 1
    exact tabN_congr fun p hp => by rw [if_pos (by omega)]
  | x :: r, j, hr => by
    obtain ⟨hj, hx, hr'⟩ := drop_get hr
    have ih := ears_l2 hn hk hz hT hl r (j + 1) hr'
    have e : (if ps.getD (j : Int).toNat 0 = 1 then (if 0 ≤ x then some (decide (x ≤ v)) else some false) else some false) = some (hrB wide ps w v k j) := by
      rw [hrB_st hz, ← hT]
      unfold hrT
      rw [Int.toNat_natCast, hx]
      by_cases h : ps.getD j 0 = 1
      · rw [if_pos h, decide_eq_true h, Bool.true_and]
        by_cases h0 : 0 ≤ x
        · rw [if_pos h0]; congr 1; rw [decide_eq_decide]; exact ⟨fun h => ⟨h0, h⟩, fun h => h.2⟩
        · rw [if_neg h0, decide_eq_false (fun h => h0 h.1)]
      · rw [if_neg h, decide_eq_false h, Bool.false_and]
    have hlen := lstN_len (fun s => hrB wide ps w v s j) k
    unfold oyezref01_Ears_l2
    rw [ix_get _ (by omega) (by omega), e, b1_some]
    have ek : ((j : Int) + 1) = ((j + 1 : Nat) : Int) := rfl
    cases hb : hrB wide ps w v k j with
    | true =>
      rw [if_pos rfl, ix_t (x := rowR wide ps w v k j) (by omega) (by rw [Int.toNat_natCast, tabN_get _ (by omega), if_neg (Nat.lt_irrefl _)])]
      unfold rowR at *
      rw [ap_t (by simp; omega), bvE, Int.toNat_natCast, tabN_set, ek, ← ih]
      congr 1
      refine tabN_congr fun p _ => ?_
      by_cases hp : p = j
      · subst hp; rw [if_pos rfl, if_pos (by omega), lstN_succ, hb, if_pos rfl]
      · rw [if_neg hp]; congr 1
        by_cases h2 : p < j
        · rw [if_pos h2, if_pos (by omega)]
        · rw [if_neg h2, if_neg (by omega)]
    | false =>
      rw [if_neg (by decide), ek, ← ih]
      congr 1
      refine tabN_congr fun p _ => ?_
      by_cases hp : p = j
      · subst hp; rw [if_neg (Nat.lt_irrefl _), if_pos (by omega)]
        unfold rowR
        rw [lstN_succ, hb, if_neg (by decide), List.append_nil]
      · congr 1
        by_cases h2 : p < j
        · rw [if_pos h2, if_pos (by omega)]
        · rw [if_neg h2, if_neg (by omega)]
theorem ears_l1 (ho : openE wide ps w = 0) : ∀ (r : List Int) (k : Nat), ps.drop k = r → k ≤ ps.length → oyezref01_Ears_l1 wide ps w v r (k : Int) (tabN (rowR wide ps w v k) ps.length) = some (tabN (rowR wide ps w v ps.length) ps.length)
  | [], k, hr, hk => by
    have h := congrArg List.length hr
    rw [List.length_drop, List.length_nil] at h
    have : k = ps.length := by omega
    subst this; rfl
  | x :: r, k, hr, _ => by
    have hn := (openE_ok ho).2.1
    obtain ⟨hk, hx, hr'⟩ := drop_get hr
    have ih := ears_l1 ho r (k + 1) hr' (by omega)
    have ek : ((k : Int) + 1) = ((k + 1 : Nat) : Int) := rfl
    unfold oyezref01_Ears_l1
    by_cases hz : x = 0
    · have hkz : ps.getD (k : Int).toNat 0 = 0 := by rw [Int.toNat_natCast, hx]; exact hz
      rw [if_neg (not_not_intro hz), rNeeds_eq (by omega), standE_of ho (by omega) hkz, if_pos rfl, b2_some]
      have h2 := ears_l2 (v := v) (w := w) (wide := wide) hn.2 hk (by rw [hx]; exact hz) rfl (tb_ok ho (stand := (k : Int)) (by omega)).len (tb wide ps w k) 0 rfl
      have e0 : tabN (fun p => rowR wide ps w v (if p < 0 then k + 1 else k) p) ps.length = tabN (rowR wide ps w v k) ps.length := tabN_congr fun p _ => by rw [if_neg (by omega)]
      rw [e0] at h2
      have h2' : oyezref01_Ears_l2 ps v (k : Int) (tb wide ps w k) 0 (tabN (rowR wide ps w v k) ps.length) = _ := h2
      rw [h2', b1_some, ek, ih]
    · rw [if_pos hz, b1_some, ek, ← ih]
      congr 1
      refine tabN_congr fun p _ => ?_
      unfold rowR
      rw [lstN_succ, hrB_no (by rw [hx]; exact hz), if_neg (by decide), List.append_nil]
def earR (wide : Int) (ps : List Int) (w v : Int) : List (List Int) := tabN (rowR wide ps w v ps.length) ps.length
theorem Ears_eq (ho : openE wide ps w = 0) : oyezref01_Ears wide ps w v = some (earR wide ps w v) := by
  have hn := (openE_ok ho).2.1
  unfold oyezref01_Ears
  rw [gd_t (by omega), bvE, Int.toNat_natCast]
  have e : List.replicate ps.length ([] : List Int) = tabN (rowR wide ps w v 0) ps.length := by
    symm
    rw [List.eq_replicate_iff]
    refine ⟨tabN_len .., fun b hb => ?_⟩
    unfold tabN at hb
    obtain ⟨p, _, rfl⟩ := List.mem_map.1 hb
    rfl
  rw [e]
  have := ears_l1 (v := v) ho ps 0 rfl (Nat.zero_le _)
  have h1 : oyezref01_Ears_l1 wide ps w v ps 0 (tabN (rowR wide ps w v 0) ps.length) = _ := this
  rw [h1, b1_some]; rfl

/-! ### The law -/
theorem law_l2 (stand house : Int) (k : Nat) (none_ : List Int) : ∀ (x by_ of_ : List Int), by_.length + x.length ≤ 100000 → of_.length + x.length ≤ 100000 → oyezlaw01_HearHouses_l2 stand house (k : Int) none_ x by_ of_ = some (by_ ++ (x.filter (· = stand)).map (fun _ => (k : Int)), of_ ++ (if (k : Int) = house then x else []), none_)
  | [], by_, of_, _, _ => by
    unfold oyezlaw01_HearHouses_l2
    simp
  | y :: x, by_, of_, h1, h2 => by
    simp only [List.length_cons] at h1 h2
    unfold oyezlaw01_HearHouses_l2
    have e : (if y = stand then ap by_ [(k : Int)] fun by_6 => some by_6 else some by_) = some (by_ ++ if y = stand then [(k : Int)] else []) := by
      by_cases h : y = stand
      · rw [if_pos h, if_pos h, ap_t (by simp; omega)]
      · rw [if_neg h, if_neg h, List.append_nil]
    rw [e, b1_some]
    have hl : (by_ ++ if y = stand then [(k : Int)] else []).length + x.length ≤ 100000 := by
      rw [List.length_append]; split <;> simp <;> omega
    by_cases hk : (k : Int) = house
    · rw [if_pos hk, ap_t (by simp; omega), law_l2 stand house k none_ x _ _ hl (by simp; omega), if_pos hk, if_pos hk]
      congr 2
      · rw [List.filter_cons]
        by_cases h : y = stand <;> simp [h]
      · simp
    · rw [if_neg hk, law_l2 stand house k none_ x _ _ hl (by omega), if_neg hk, if_neg hk]
      congr 2
      rw [List.filter_cons]
      by_cases h : y = stand <;> simp [h]
theorem filter_one {P : Nat → Bool} (stand : Int) (k : Int) : ∀ n : Nat, ((lstN P n).filter (· = stand)).map (fun _ => k) = if (0 ≤ stand ∧ stand < n) ∧ P stand.toNat = true then [k] else []
  | 0 => by
    have : lstN P 0 = [] := rfl
    rw [this, if_neg (by omega)]; rfl
  | n + 1 => by
    rw [lstN_succ, List.filter_append, List.map_append, filter_one stand k n]
    by_cases hs : stand = n
    · rw [if_neg (by omega), List.nil_append]
      cases hP : P n with
      | true =>
        rw [if_pos rfl, if_pos ⟨by omega, by rw [hs]; exact hP⟩]
        simp [hs]
      | false =>
        rw [if_neg (by decide), if_neg (fun h => by rw [hs, Int.toNat_natCast, hP] at h; exact absurd h.2 (by decide))]
        rfl
    · have e : (((if P n = true then [(n : Int)] else []).filter (· = stand)).map fun _ => k) = [] := by
        split
        · have : ¬ (n : Int) = stand := fun h => hs h.symm
          simp [this]
        · rfl
      rw [e, List.append_nil]
      by_cases h : (0 ≤ stand ∧ stand < n) ∧ P stand.toNat = true
      · rw [if_pos h, if_pos ⟨by omega, h.2⟩]
      · rw [if_neg h, if_neg (fun h' => h ⟨by omega, h'.2⟩)]
def byB (wide : Int) (ps : List Int) (w v stand : Int) (p : Nat) : Bool := decide (ps.getD p 0 = 1) && decide ((0 ≤ stand ∧ stand < ps.length) ∧ hrB wide ps w v stand.toNat p = true)
theorem law_l1 (hn : ps.length ≤ 30) (stand house a b : Int) : ∀ (fu k : Nat), k + fu = ps.length →
    oyezlaw01_HearHouses_l1 stand house ps a b ((earR wide ps w v).drop k) (k : Int) (lstN (byB wide ps w v stand) k) (if (0 ≤ house ∧ house < k) ∧ ps.getD house.toNat 0 = 1 then lstN (fun s => hrB wide ps w v s house.toNat) ps.length else []) (lstN (deafB wide ps w v) k)
      = some (ps, lstN (byB wide ps w v stand) ps.length, (if (0 ≤ house ∧ house < ps.length) ∧ ps.getD house.toNat 0 = 1 then lstN (fun s => hrB wide ps w v s house.toNat) ps.length else []), lstN (deafB wide ps w v) ps.length, a, b)
  | 0, k, hk => by
    have : k = ps.length := by omega
    subst this
    have : (earR wide ps w v).drop ps.length = [] := List.drop_eq_nil_of_le (by unfold earR; rw [tabN_len]; omega)
    rw [this]; rfl
  | fu + 1, k, hk => by
    have ih := law_l1 hn stand house a b fu (k + 1) (by omega)
    have hd : (earR wide ps w v).drop k = rowR wide ps w v ps.length k :: (earR wide ps w v).drop (k + 1) := by
      have hl : k < (earR wide ps w v).length := by unfold earR; rw [tabN_len]; omega
      rw [List.drop_eq_getElem_cons hl]
      congr 1
      have := tabN_get (rowR wide ps w v ps.length) (show k < ps.length by omega)
      rw [List.getElem?_eq_getElem (by rw [tabN_len]; omega)] at this
      exact Option.some.inj this
    have l1 := lstN_len (byB wide ps w v stand) k
    have l2 := lstN_len (deafB wide ps w v) k
    have l3 := lstN_len (fun s => hrB wide ps w v s k) ps.length
    have l4 := lstN_len (fun s => hrB wide ps w v s house.toNat) ps.length
    rw [hd]
    unfold oyezlaw01_HearHouses_l1
    rw [ix_get _ (by omega) (by omega), Int.toNat_natCast]
    have ek : ((k : Int) + 1) = ((k + 1 : Nat) : Int) := rfl
    have body : (if ps.getD k 0 ≠ 1 then some (lstN (byB wide ps w v stand) k, (if (0 ≤ house ∧ house < (k : Int)) ∧ ps.getD house.toNat 0 = 1 then lstN (fun s => hrB wide ps w v s house.toNat) ps.length else []), lstN (deafB wide ps w v) k)
      else b1 (if ((rowR wide ps w v ps.length k).length : Int) = 0 then ap (lstN (deafB wide ps w v) k) [(k : Int)] fun none_5 => some none_5 else some (lstN (deafB wide ps w v) k)) fun none_4 =>
        oyezlaw01_HearHouses_l2 stand house (k : Int) none_4 (rowR wide ps w v ps.length k) (lstN (byB wide ps w v stand) k) (if (0 ≤ house ∧ house < (k : Int)) ∧ ps.getD house.toNat 0 = 1 then lstN (fun s => hrB wide ps w v s house.toNat) ps.length else []))
      = some (lstN (byB wide ps w v stand) (k + 1), (if (0 ≤ house ∧ house < ((k + 1 : Nat) : Int)) ∧ ps.getD house.toNat 0 = 1 then lstN (fun s => hrB wide ps w v s house.toNat) ps.length else []), lstN (deafB wide ps w v) (k + 1)) := by
      by_cases h1 : ps.getD k 0 = 1
      · rw [if_neg (not_not_intro h1)]
        have e1 : (if ((rowR wide ps w v ps.length k).length : Int) = 0 then ap (lstN (deafB wide ps w v) k) [(k : Int)] fun none_5 => some none_5 else some (lstN (deafB wide ps w v) k)) = some (lstN (deafB wide ps w v) (k + 1)) := by
          rw [lstN_succ]
          have hdf : deafB wide ps w v k = decide (rowR wide ps w v ps.length k = []) := by unfold deafB rowR; rw [decide_eq_true h1, Bool.true_and]
          by_cases h2 : rowR wide ps w v ps.length k = []
          · rw [if_pos (by rw [h2]; rfl), ap_t (by simp; omega), hdf, decide_eq_true h2, if_pos rfl]
          · have h3 : ((rowR wide ps w v ps.length k).length : Int) ≠ 0 := fun h => h2 (List.length_eq_zero_iff.1 (by omega))
            rw [if_neg h3, hdf, decide_eq_false h2, if_neg (by decide), List.append_nil]
        rw [e1, b1_some, law_l2 stand house k _ _ _ _ (by unfold rowR; omega) (by
          unfold rowR
          split
          · omega
          · rw [List.length_nil]; omega)]
        unfold rowR
        rw [filter_one, lstN_succ (byB wide ps w v stand)]
        have hby : byB wide ps w v stand k = decide ((0 ≤ stand ∧ stand < ps.length) ∧ hrB wide ps w v stand.toNat k = true) := by unfold byB; rw [decide_eq_true h1, Bool.true_and]
        congr 2
        · rw [hby]
          by_cases h4 : (0 ≤ stand ∧ stand < ps.length) ∧ hrB wide ps w v stand.toNat k = true
          · rw [if_pos h4, if_pos (decide_eq_true h4)]
          · rw [if_neg h4, if_neg (fun h => h4 (of_decide_eq_true h))]
        · congr 1
          by_cases h5 : (k : Int) = house
          · subst h5
            rw [if_pos rfl, Int.toNat_natCast, if_neg (by omega), if_pos ⟨by omega, h1⟩, List.nil_append]
          · rw [if_neg h5, List.append_nil]
            by_cases h6 : (0 ≤ house ∧ house < (k : Int)) ∧ ps.getD house.toNat 0 = 1
            · rw [if_pos h6, if_pos ⟨by omega, h6.2⟩]
            · rw [if_neg h6, if_neg (fun h => h6 ⟨by omega, h.2⟩)]
      · rw [if_pos h1, lstN_succ, lstN_succ]
        have e1 : byB wide ps w v stand k = false := by unfold byB; rw [decide_eq_false h1, Bool.false_and]
        have e2 : deafB wide ps w v k = false := by unfold deafB; rw [decide_eq_false h1, Bool.false_and]
        rw [e1, e2, if_neg (show ¬ (false = true) by decide), List.append_nil, List.append_nil]
        congr 3
        by_cases h6 : (0 ≤ house ∧ house < (k : Int)) ∧ ps.getD house.toNat 0 = 1
        · rw [if_pos h6, if_pos ⟨by omega, h6.2⟩]
        · rw [if_neg h6, if_neg]
          rintro ⟨h7, h8⟩
          by_cases h9 : house = k
          · rw [h9, Int.toNat_natCast] at h8; exact h1 h8
          · exact h6 ⟨by omega, h8⟩
    rw [body, b3_some, ek, ih]
theorem rHears_eq (hn : ps.length ≤ 1000) (stand house : Int) : oyezref01_Hears wide ps w v stand house = some (wndP wide ps v stand house w) := by
  unfold oyezref01_Hears wndP
  rw [rNeed_eq hn, b2_some]
  by_cases h : needE wide ps w stand house = 0
  · rw [if_pos h, decide_eq_true h, Bool.true_and]
  · rw [if_neg h, decide_eq_false h, Bool.false_and]
theorem law_l3 (hn : ps.length ≤ 1000) (stand house e : Int) : ∀ (fu : Nat) (k : Int) (acc : List Int), 0 ≤ k → k + fu = 5 → acc.length ≤ 100 + k.toNat → oyezlaw01_HearHouses_l3 v stand house wide ps e fu k acc = some (acc ++ if e = 0 then wndF (wndP wide ps v stand house) fu k else [])
  | 0, k, acc, _, _, _ => by
    unfold oyezlaw01_HearHouses_l3 wndF
    split <;> simp
  | fu + 1, k, acc, h0, h1, h2 => by
    unfold oyezlaw01_HearHouses_l3
    have e1 : (if e = 0 then b1 (oyezref01_Hears wide ps k v stand house) fun ok6 => some ok6 else some false) = some (decide (e = 0) && wndP wide ps v stand house k) := by
      rw [rHears_eq hn, b1_some]
      by_cases h : e = 0
      · rw [if_pos h, decide_eq_true h, Bool.true_and]
      · rw [if_neg h, decide_eq_false h, Bool.false_and]
    rw [e1, b1_some]
    by_cases h : e = 0
    · rw [decide_eq_true h, Bool.true_and]
      unfold wndF
      cases hp : wndP wide ps v stand house k with
      | true =>
        rw [if_pos rfl, ap_t (by simp; omega), law_l3 hn stand house e fu (k + 1) (acc ++ [k]) (by omega) (by omega) (by simp; omega), if_pos h, if_pos h, if_pos rfl]
        simp
      | false => rw [if_neg (by decide), law_l3 hn stand house e fu (k + 1) acc (by omega) (by omega) (by omega), if_pos h, if_pos h, if_neg (by decide)]
    · rw [decide_eq_false h, Bool.false_and, if_neg (by decide), law_l3 hn stand house e fu (k + 1) acc (by omega) (by omega) (by omega), if_neg h, if_neg h]
theorem likeD_eq (a b : List Int) : oyezkit_Like_Dir a b = some (decide (a = b)) := by
  unfold oyezkit_Like_Dir slices_Equal_hear_Dir_hear_Dir
  by_cases h : (a.length : Int) = b.length
  · rw [if_neg (not_not_intro h), equal_l2 (slices_Equal_hear_Dir_hear_Dir_l2 b) b (fun l k => by cases l <;> rfl) a [] 0 rfl (by simp; omega), b1_some]
    simp
  · rw [if_pos h, b1_some]
    congr 1; symm; rw [decide_eq_false_iff_not]
    rintro rfl; exact h rfl
theorem air_r (hn : ps.length ≤ 1000) : (b1 (oyezref01_Check wide ps) fun n3 => b1 (if n3 = 0 then (b1 (oyezref01_CheckAir w v) fun n4 => some n4) else some n3) fun x => some x) = some (airE wide ps w v) := by
  rw [rcheck_eq hn, b1_some, rcheckAir_eq, b1_some]
  unfold airE
  by_cases h : chk wide ps = 0
  · rw [if_pos h, if_neg (not_not_intro h), b1_some]
  · rw [if_neg h, if_pos h, b1_some]
theorem houses_same {stand : Int} (hs : isE ps stand 0 = 0) : lstN (byB wide ps w v stand) ps.length = lstN (hrB wide ps w v stand.toNat) ps.length := by
  obtain ⟨h, _⟩ := isE_ok' hs
  refine lstN_congr fun p _ => ?_
  unfold byB
  cases hp : hrB wide ps w v stand.toNat p with
  | true =>
    have h1 := hp
    unfold hrB at h1
    rw [Bool.and_eq_true, Bool.and_eq_true] at h1
    rw [h1.2.1, Bool.true_and, decide_eq_true ⟨h, rfl⟩]
  | false =>
    have : decide ((0 ≤ stand ∧ stand < (ps.length : Int)) ∧ false = true) = false := decide_eq_false (fun h => absurd h.2 (by decide))
    rw [this, Bool.and_false]
end
theorem houses_true {wide : Int} {ps : List Int} {w v stand house : Int} : oyezlaw01_HearHouses wide ps w v stand house = some true := by
  unfold oyezlaw01_HearHouses
  rw [great_eq, b1_some, awake_t, b1_some]
  by_cases h1 : 40 < (ps.length : Int)
  · rw [if_pos (decide_eq_true h1)]
  rw [if_neg (fun h => h1 (of_decide_eq_true h)), own_eq (by omega), b2_some, theirs_eq (by omega), b2_some]
  have hn : ps.length ≤ 1000 := by omega
  have ew : ∀ w' : Int, (if chk wide ps = 0 then (b1 (oyezref01_CheckAir w' v) fun n4 => some n4) else some (chk wide ps)) = some (airE wide ps w' v) := fun w' => by
    rw [rcheckAir_eq, b1_some]
    unfold airE
    by_cases h : chk wide ps = 0
    · rw [if_pos h, if_neg (not_not_intro h)]
    · rw [if_neg h, if_pos h]
  rw [rcheck_eq hn, b1_some, ew w, b1_some]
  -- what the reference makes
  have main : ∃ by_ of_ none_ u v', (if airE wide ps w v = 0 then
      b1 (oyezref01_Is wide ps stand 0) fun n5 => b1 (oyezref01_Is wide ps house 1) fun n6 => b1 (oyezref01_Ears wide ps w v) fun l3 => oyezlaw01_HearHouses_l1 stand house ps n5 n6 l3 0 [] [] []
      else some (ps, [], [], [], airE wide ps w v, airE wide ps w v)) = some (ps, by_, of_, none_, u, v')
      ∧ u = housE wide ps w v stand ∧ v' = stanE wide ps w v house
      ∧ (if u = 0 then lstN (hrB wide ps w v stand.toNat) ps.length else []) = (if u ≠ 0 then [] else by_)
      ∧ (if v' = 0 then lstN (fun s => hrB wide ps w v s house.toNat) ps.length else []) = (if v' ≠ 0 then [] else of_)
      ∧ (if airE wide ps w v = 0 then lstN (deafB wide ps w v) ps.length else []) = none_ := by
    by_cases h : airE wide ps w v = 0
    · obtain ⟨_, _, ho, _⟩ := airE_ok h
      have h30 := (openE_ok ho).2.1
      have hl := law_l1 (wide := wide) (w := w) (v := v) h30.2 stand house (isE ps stand 0) (isE ps house 1) ps.length 0 (by omega)
      have e0 : (if (0 ≤ house ∧ house < ((0 : Nat) : Int)) ∧ ps.getD house.toNat 0 = 1 then lstN (fun s => hrB wide ps w v s house.toNat) ps.length else []) = [] := if_neg (by omega)
      rw [e0] at hl
      have hl' : oyezlaw01_HearHouses_l1 stand house ps (isE ps stand 0) (isE ps house 1) (earR wide ps w v) 0 [] [] [] = _ := hl
      rw [if_pos h, ris_eq hn, b1_some, ris_eq hn, b1_some, Ears_eq ho, b1_some, hl']
      refine ⟨_, _, _, _, _, rfl, ?_, ?_, ?_, ?_, if_pos h⟩
      · unfold housE; rw [if_neg (not_not_intro h)]
      · unfold stanE; rw [if_neg (not_not_intro h)]
      · by_cases hu : isE ps stand 0 = 0
        · rw [if_pos hu, if_neg (not_not_intro hu), houses_same hu]
        · rw [if_neg hu, if_pos hu]
      · by_cases hv : isE ps house 1 = 0
        · rw [if_pos hv, if_neg (not_not_intro hv), if_pos]
          exact isE_ok' hv
        · rw [if_neg hv, if_pos hv]
    · rw [if_neg h]
      refine ⟨_, _, _, _, _, rfl, ?_, ?_, ?_, ?_, if_neg h⟩
      · unfold housE; rw [if_pos h]
      · unfold stanE; rw [if_pos h]
      · rw [if_neg h, if_pos h]
      · rw [if_neg h, if_pos h]
  obtain ⟨by_, of_, none_, u, v', e1, e2, e3, e4, e5, e6⟩ := main
  rw [e1, b6_some]
  have eb : (if u ≠ 0 then some ([] : List Int) else some by_) = some (if u ≠ 0 then [] else by_) := by split <;> rfl
  have eo : (if v' ≠ 0 then some ([] : List Int) else some of_) = some (if v' ≠ 0 then [] else of_) := by split <;> rfl
  rw [eb, b1_some, eo, b1_some, Houses_eq hn, b2_some, Stands_eq hn, b2_some, Deaf_eq hn, b2_some, ← e2, ← e3, e4, e5, e6]
  rw [if_neg (not_not_intro rfl), if_neg (not_not_intro rfl), if_neg (not_not_intro rfl), like_eq, b1_some, like_eq, b1_some, like_eq, b1_some, decide_eq_true rfl, decide_eq_true rfl, decide_eq_true rfl]
  rw [if_neg (by decide), if_neg (by decide), b1_some, if_neg (by decide)]
  have e7 : (if airE wide ps 0 v = 0 then b1 (oyezref01_Is wide ps stand 0) fun n12 => if n12 = 0 then (b1 (oyezref01_Is wide ps house 1) fun n13 => some n13) else some n12 else some (airE wide ps 0 v)) = some (wndE wide ps v stand house) := by
    rw [ris_eq hn, b1_some, ris_eq hn, b1_some]
    unfold wndE airE
    by_cases h2 : chk wide ps = 0
    · rw [if_neg (not_not_intro h2), if_neg (not_not_intro h2)]
      by_cases h3 : chkA 0 v = 0
      · rw [if_pos h3, if_neg (not_not_intro h3)]
        by_cases h4 : isE ps stand 0 = 0
        · rw [if_pos h4, if_neg (not_not_intro h4)]
        · rw [if_neg h4, if_pos h4]
      · rw [if_neg h3, if_pos h3]
    · rw [if_pos h2, if_neg h2, if_pos h2]
  rw [rcheck_eq hn, b1_some, ew 0, b1_some, e7, b1_some, gd_t ⟨by decide, by decide⟩, law_l3 hn stand house (wndE wide ps v stand house) (Int.toNat (5 - 0)) 0 [] (by omega) (by decide) (by simp), b1_some, Winds_eq hn, b2_some, if_pos rfl, List.nil_append, likeD_eq, b1_some]
  rw [show Int.toNat (5 - 0) = 5 from rfl, if_pos (decide_eq_true rfl), same_eq, b1_some, if_pos rfl]
end Go.Proofs.Ytdnmaodkdhdacaa
