/- Layer 5: marks that become known, the place to ask for (NightKnown); in plain Lean. -/
import Derived.Test.YtjgeaaganpkceaaZhQL
namespace Go.Proofs.Ytjgeaaganpkceaa.Nt
open Go.PL Rv
def withM (hs : List (List Int)) (h i : Nat) (m : Int) : List (List Int) := hs.set h ((hs.getD h []).set i m)
section
variable {ls hs : List (List Int)}
theorem getD_mem {h : Nat} (hh : h < hs.length) : hs.getD h [] ∈ hs := by
  rw [List.getD_eq_getElem?_getD, List.getElem?_eq_getElem hh]; exact List.getElem_mem _
theorem GoodW.withM (g : GoodW ls hs) {h : Nat} (hh : h < hs.length) (i : Nat) {m : Int} (hm : 0 ≤ m ∧ m ≤ 2) : GoodW ls (withM hs h i m) := by
  unfold Nt.withM
  refine ⟨g.n1, g.n6, by rw [List.length_set]; exact g.h1, by rw [List.length_set]; exact g.h8, fun ms h1 => ?_, fun ms h1 x hx => ?_, g.lis, g.nd⟩
  · rcases List.mem_or_eq_of_mem_set h1 with h2 | rfl
    · exact g.wid ms h2
    · rw [List.length_set, g.wid _ (getD_mem hh)]
  · rcases List.mem_or_eq_of_mem_set h1 with h2 | rfl
    · exact g.mks ms h2 x hx
    · rcases List.mem_or_eq_of_mem_set hx with h3 | rfl
      · exact g.mks _ (getD_mem hh) x h3
      · exact hm
theorem with_l1 : ∀ (tl a : List (List Int)), (∀ l ∈ tl, l.length ≤ 1000000) → night_Watch_with_l1 tl (a.length : Int) (a ++ List.replicate tl.length []) = some (a ++ tl)
  | [], a, _ => by simp [night_Watch_with_l1]
  | x :: tl, a, h => by
    unfold night_Watch_with_l1
    have ih := with_l1 tl (a ++ [x]) (fun l hl => h l (List.mem_cons_of_mem _ hl))
    rw [clone_eq (h x (List.mem_cons_self ..)), b1_some, ixN [] _ (by simp), bvE, Int.toNat_natCast, List.length_cons, set_app]
    rw [List.length_append] at ih
    simpa using ih
theorem with_l2 : ∀ (tl a : List (List Int)), (∀ l ∈ tl, l.length ≤ 1000000) → night_Watch_with_l2 tl (a.length : Int) (a ++ List.replicate tl.length []) = some (a ++ tl)
  | [], a, _ => by simp [night_Watch_with_l2]
  | x :: tl, a, h => by
    unfold night_Watch_with_l2
    have hx := h x (List.mem_cons_self ..)
    have ih := with_l2 tl (a ++ [x]) (fun l hl => h l (List.mem_cons_of_mem _ hl))
    have e1 : (a ++ [List.replicate x.length (0 : Int)] ++ List.replicate tl.length ([] : List Int)).getD a.length [] = List.replicate x.length 0 := by
      rw [List.append_assoc]; exact app_get ..
    have e2 : (a ++ [List.replicate x.length (0 : Int)] ++ List.replicate tl.length ([] : List Int)).set a.length x = a ++ [x] ++ List.replicate tl.length [] := by
      rw [List.append_assoc, List.append_assoc]; exact app_set ..
    rw [ixN [] _ (by simp), gd_t ⟨by omega, by omega⟩, bvE, bvE, Int.toNat_natCast, Int.toNat_natCast, List.length_cons, set_app, ixN [] _ (by simp), e1, bvE, cpy_eq, bvE, e2]
    rw [List.length_append] at ih
    simpa using ih
theorem with_eq (g : GoodW ls hs) {h i : Nat} (hh : h < hs.length) (hi : i < ls.length) (m : Int) : night_Watch_with ls hs (h : Int) (i : Int) m = some (ls, withM hs h i m) := by
  have h6 := g.n6; have h8 := g.h8
  have e1 := with_l1 ls [] (fun l hl => by have := lis_len g l hl; omega)
  have e2 := with_l2 hs [] (fun l hl => by have := g.le50 l hl; omega)
  rw [List.nil_append, List.nil_append] at e1 e2
  have e1' : night_Watch_with_l1 ls 0 (List.replicate ls.length []) = some ls := e1
  have e2' : night_Watch_with_l2 hs 0 (List.replicate hs.length []) = some hs := e2
  have hw := g.wid _ (getD_mem hh)
  unfold night_Watch_with
  rw [gd_t ⟨by omega, by omega⟩, gd_t ⟨by omega, by omega⟩, bvE, bvE, Int.toNat_natCast, Int.toNat_natCast, e1', b1_some, e2', b1_some, ixN [] _ hh, ixN 0 _ (by omega), bvE, bvE, Int.toNat_natCast, Int.toNat_natCast]
  rfl
theorem place_eq (g : GoodW ls hs) {h i : Nat} (hh : h < hs.length) (hi : i < ls.length) : night_Watch_place ls hs (h : Int) (i : Int) = some true := by
  have h6 := g.n6; have h8 := g.h8
  unfold night_Watch_place
  rw [gd_t (r64_small (by omega)), in_eq, b1_some, if_pos (decide_eq_true (by omega)), gd_t (r64_small (by omega)), in_eq, b1_some, decide_eq_true (by omega)]
theorem With_ok (g : GoodW ls hs) {h i : Nat} (hh : h < hs.length) (hi : i < ls.length) {m : Int} (hm : 0 ≤ m ∧ m ≤ 2) : night_With ls hs (h : Int) (i : Int) m = some (ls, withM hs h i m, 0) := by
  unfold night_With
  rw [check_ok g, b1_some, if_neg (fun h => h rfl), place_eq g hh hi, b1_some, if_neg (by decide)]
  unfold night_Mark_there
  rw [in_eq, b1_some, b1_some, decide_eq_true hm, if_neg (by decide), with_eq g hh hi, b2_some]
theorem fitB_iff {ms : List Int} {a : Nat} : fitB ls ms a = true ↔ ∀ (i : Nat) m, ms[i]? = some m → markB (cryS ls a) m i = true := by
  constructor
  · intro h i m hi
    have := fitF_at h hi
    rwa [Nat.zero_add] at this
  · intro h
    exact fitF_of _ 0 fun i m hi => by rw [Nat.zero_add]; exact h i m hi
theorem fitB_set {ms : List Int} {i a : Nat} (hi : i < ms.length) (hz : ms.getD i 0 = 0) (m : Int) : fitB ls (ms.set i m) a = (fitB ls ms a && markB (cryS ls a) m i) := by
  have hzi : ms[i]? = some 0 := by
    rw [List.getD_eq_getElem?_getD, List.getElem?_eq_getElem hi] at hz
    rw [List.getElem?_eq_getElem hi]
    exact congrArg some hz
  rw [Bool.eq_iff_iff, Bool.and_eq_true, fitB_iff, fitB_iff]
  constructor
  · intro h
    refine ⟨fun j x hj => ?_, h i m (by rw [List.getElem?_set_self hi])⟩
    by_cases hij : i = j
    · subst hij
      rw [hzi] at hj
      obtain rfl := Option.some.inj hj
      rfl
    · exact h j x (by rw [List.getElem?_set_ne hij]; exact hj)
  · rintro ⟨h1, h2⟩ j x hj
    by_cases hij : i = j
    · subst hij
      rw [List.getElem?_set_self hi] at hj
      obtain rfl := Option.some.inj hj
      exact h2
    · rw [List.getElem?_set_ne hij] at hj
      exact h1 j x hj
theorem fil_two {q b : Nat → Bool} (l : List Nat) : (l.filter fun a => q a && b a).length + (l.filter fun a => q a && !b a).length = (l.filter q).length := by
  induction l with
  | nil => rfl
  | cons x l ih => cases hq : q x <;> cases hb : b x <;> simp [hq, hb] at ih ⊢ <;> omega
theorem fitL_two {ms : List Int} {i : Nat} (hi : i < ms.length) (hz : ms.getD i 0 = 0) : (fitL ls (ms.set i 1)).length + (fitL ls (ms.set i 2)).length = (fitL ls ms).length := by
  unfold fitL
  rw [← fil_two (q := fitB ls ms) (b := fun a => (cryS ls a).testBit i)]
  congr 2
  · apply List.filter_congr
    intro a _
    rw [fitB_set hi hz]
    unfold markB
    simp
  · apply List.filter_congr
    intro a _
    rw [fitB_set hi hz]
    unfold markB
    simp
theorem allX_app : ∀ (a b : List (List Int)), (allX ls (a ++ b)).length = (allX ls a).length * (allX ls b).length
  | [], b => by
    have : (allX ls []).length = 1 := rfl
    rw [this, Nat.one_mul]; rfl
  | ms :: a, b => by
    rw [List.cons_append, len_allX, len_allX, allX_app a b, Nat.mul_assoc]
theorem set_split {h : Nat} (hh : h < hs.length) (x : List Int) : hs.set h x = hs.take h ++ x :: hs.drop (h + 1) := by
  rw [List.set_eq_take_append_cons_drop, if_pos hh]
theorem self_split {h : Nat} (hh : h < hs.length) : hs = hs.take h ++ hs.getD h [] :: hs.drop (h + 1) := by
  have : hs.getD h [] = hs[h] := by rw [List.getD_eq_getElem?_getD, List.getElem?_eq_getElem hh]; rfl
  rw [this, ← List.drop_eq_getElem_cons hh, List.take_append_drop]
theorem len_set {h : Nat} (hh : h < hs.length) (x : List Int) : (allX ls (hs.set h x)).length = (allX ls (hs.take h)).length * ((fitL ls x).length * (allX ls (hs.drop (h + 1))).length) := by
  rw [set_split hh, allX_app, len_allX]
theorem allX_two (g : GoodW ls hs) {h i : Nat} (hh : h < hs.length) (hi : i < ls.length) (hz : (hs.getD h []).getD i 0 = 0) : (allX ls (withM hs h i 1)).length + (allX ls (withM hs h i 2)).length = (allX ls hs).length := by
  have hw := g.wid _ (getD_mem hh)
  have e : (allX ls hs).length = (allX ls (hs.take h)).length * ((fitL ls (hs.getD h [])).length * (allX ls (hs.drop (h + 1))).length) := by
    conv => lhs; rw [self_split hh]
    rw [allX_app, len_allX]
  unfold withM
  rw [e, len_set hh, len_set hh, ← Nat.mul_add, ← Nat.add_mul, fitL_two (by omega) hz]
/-- What explains a night with a mark more explains it without. -/
theorem expl_with {i : Nat} {m : Int} : ∀ {hs : List (List Int)} {h : Nat} {s : List Nat}, h < hs.length → i < (hs.getD h []).length → (hs.getD h []).getD i 0 = 0 → Expl ls (withM hs h i m) s → Expl ls hs s
  | [], _, _, hh, _, _, _ => by simp at hh
  | ms :: hs, 0, s, _, hi, hz, he => by
    cases s with
    | nil => exact he.elim
    | cons a s =>
      have hz' : ms.getD i 0 = 0 := hz
      have hi' : i < ms.length := hi
      have h1 : fitB ls (ms.set i m) a = true := he.1.2
      rw [fitB_set hi' hz', Bool.and_eq_true] at h1
      exact ⟨⟨he.1.1, h1.1⟩, he.2⟩
  | ms :: hs, h + 1, s, hh, hi, hz, he => by
    cases s with
    | nil => exact he.elim
    | cons a s => exact ⟨he.1, expl_with (hs := hs) (h := h) (by simpa using hh) hi hz he.2⟩
theorem rest_with {h i : Nat} {m : Int} (hh : h < hs.length) (hi : i < (hs.getD h []).length) (hz : (hs.getD h []).getD i 0 = 0) : restV ls allB hs 0 ≤ restV ls allB (withM hs h i m) 0 := by
  have h1 := restV_100 ls allB hs 0
  have h2 := restV_100 ls allB (withM hs h i m) 0
  rcases Nat.lt_or_ge (restV ls allB (withM hs h i m) 0) 100 with h3 | h3
  · obtain ⟨s, h4, h5⟩ := restV_of ls allB (withM hs h i m) 0 h3
    have := restV_le ls allB hs 0 s ⟨expl_with hh hi hz h4.1, fun _ _ => rfl⟩
    omega
  · omega
theorem split_eq (g : GoodW ls hs) {rows : List (List Bool)} {h i : Nat} (hh : h < hs.length) (hi : i < ls.length) : night_desk_split ls hs rows (h : Int) (i : Int) = some (((allX ls (withM hs h i 1)).length : Int), ((allX ls (withM hs h i 2)).length : Int)) := by
  obtain ⟨c1, h1, _⟩ := opened_ok (g.withM hh i (m := 1) (by omega))
  obtain ⟨c2, h2, _⟩ := opened_ok (g.withM hh i (m := 2) (by omega))
  unfold night_desk_split
  rw [with_eq g hh hi, b2_some, h1, b2_some, with_eq g hh hi, b2_some, h2, b2_some, b4_some, b4_some, count_eq (g.withM hh i (by omega)), b1_some, count_eq (g.withM hh i (by omega)), b1_some]
theorem Split_ok (g : GoodW ls hs) {h i : Nat} (hh : h < hs.length) (hi : i < ls.length) : night_Split ls hs (h : Int) (i : Int) = if (hs.getD h []).getD i 0 = 0 then some (((allX ls (withM hs h i 1)).length : Int), ((allX ls (withM hs h i 2)).length : Int), 0) else some (0, 0, 5) := by
  obtain ⟨c, h1, _⟩ := opened_ok g
  have hw := g.wid _ (getD_mem hh)
  unfold night_Split
  rw [h1, b2_some, if_neg (fun h => h rfl), place_eq g hh hi, b1_some, if_neg (by decide), ixN [] _ hh, ixN 0 _ (by omega)]
  by_cases hz : (hs.getD h []).getD i 0 = 0
  · rw [if_neg (fun h => h hz), b4_some, split_eq g hh hi, b2_some, if_pos hz]
  · rw [if_pos hz, if_neg hz]
theorem rowOf_zero (h6 : ls.length ≤ 6) {ms : List Int} : List.replicate 64 false = rowOf ls ms ↔ fitL ls ms = [] := by
  have hp := pow_le64 h6
  constructor
  · intro h
    unfold fitL
    rw [List.filter_eq_nil_iff]
    intro a ha hf
    have ha2 := List.mem_range.1 ha
    have h1 : (rowOf ls ms).getD a false = true := by
      unfold rowOf rowP
      rw [List.getD_eq_getElem?_getD, List.getElem?_map, List.getElem?_range (by omega)]
      simp [ha2, hf]
    rw [← h, List.getD_eq_getElem?_getD, List.getElem?_replicate_of_lt (by omega)] at h1
    cases h1
  · intro h
    symm
    rw [List.eq_replicate_iff]
    refine ⟨rowP_len .., fun b hb => ?_⟩
    unfold rowOf rowP at hb
    obtain ⟨j, hj, rfl⟩ := List.mem_map.1 hb
    cases hjm : decide (j < 2 ^ ls.length) with
    | false => rfl
    | true =>
      rw [Bool.true_and]
      cases hf : fitB ls ms j with
      | false => rfl
      | true =>
        have : j ∈ fitL ls ms := mem_fitL.2 ⟨of_decide_eq_true hjm, hf⟩
        rw [h] at this; cases this
theorem clash_l2 (h6 : ls.length ≤ 6) : ∀ (tl : List (List Int)) (k : Int), 0 ≤ k → ∃ n, slices_Index_night_row_night_row_l2 (List.replicate 64 false) (tl.map (rowOf ls)) k = some n ∧ (0 ≤ n ↔ decide (∃ ms ∈ tl, fitL ls ms = []) = true)
  | [], k, _ => ⟨-1, rfl, by simp⟩
  | ms :: tl, k, hk => by
    rw [List.map_cons]; unfold slices_Index_night_row_night_row_l2
    by_cases hx : List.replicate 64 false = rowOf ls ms
    · refine ⟨k, by rw [if_pos hx], ?_⟩
      have := (rowOf_zero h6).1 hx
      simp [this, hk]
    · obtain ⟨n, h1, h2⟩ := clash_l2 h6 tl (k + 1) (by omega)
      refine ⟨n, by rw [if_neg hx]; exact h1, ?_⟩
      have h3 : ¬ fitL ls ms = [] := fun h => hx ((rowOf_zero h6).2 h)
      rw [h2]; simp [h3]
theorem allX_nil : ∀ {hs : List (List Int)}, (allX ls hs).length = 0 ↔ ∃ ms ∈ hs, fitL ls ms = []
  | [] => by simp [allX]
  | ms :: tl => by
    rw [len_allX, Nat.mul_eq_zero, allX_nil (hs := tl), List.length_eq_zero_iff]
    simp
theorem clash_eq (g : GoodW ls hs) : night_desk_clash ls hs (hs.map (rowOf ls)) = some (decide ((allX ls hs).length = 0)) := by
  obtain ⟨n, h1, h2⟩ := clash_l2 g.n6 hs 0 (Int.le_refl _)
  unfold night_desk_clash slices_Contains_night_row_night_row slices_Index_night_row_night_row
  rw [h1, b1_some, b1_some, nonneg_dec h2]
  congr 1
  rw [decide_eq_decide]
  exact allX_nil.symm
/-- There is an explanation just if there are some. -/
theorem expl_pos : 0 < (allX ls hs).length ↔ ∃ s, Expl ls hs s := by
  constructor
  · intro h
    obtain ⟨s, hs2⟩ := List.exists_mem_of_length_pos h
    exact ⟨s, mem_allX.1 hs2⟩
  · rintro ⟨s, h⟩
    exact List.length_pos_of_mem (mem_allX.2 h)
theorem Fewest_clash (g : GoodW ls hs) (h : (allX ls hs).length = 0) : night_Fewest ls hs = some ([], 0, 7) := by
  obtain ⟨c, h1, _⟩ := opened_ok g
  unfold night_Fewest night_told
  rw [h1, b2_some, if_neg (fun h => h rfl), b4_some, clash_eq g, b1_some, if_pos (decide_eq_true h), b2_some, if_pos (by decide)]
/-- How many explanations an answer can leave. -/
def spl (ls hs : List (List Int)) (h i : Nat) : Nat := max (allX ls (withM hs h i 1)).length (allX ls (withM hs h i 2)).length
/-- A place whose mark is unknown. -/
def Unk (ls hs : List (List Int)) (h i : Nat) : Prop := h < hs.length ∧ i < ls.length ∧ (hs.getD h []).getD i 0 = 0
/-- The best place of those that were seen. -/
def AskI (ls hs : List (List Int)) (seen : Nat → Nat → Prop) (bh bm n : Int) : Prop :=
  (bh = -1 ∧ bm = -1 ∧ ∀ h i, seen h i → ¬ Unk ls hs h i) ∨ ∃ h i : Nat, bh = (h : Int) ∧ bm = (i : Int) ∧ Unk ls hs h i ∧ n = (spl ls hs h i : Int) ∧ ∀ h' i', seen h' i' → Unk ls hs h' i' → spl ls hs h i ≤ spl ls hs h' i'
theorem AskI.mono {s1 s2 : Nat → Nat → Prop} {bh bm n : Int} (h : AskI ls hs s1 bh bm n) (hs2 : ∀ h i, s2 h i → Unk ls hs h i → s1 h i) : AskI ls hs s2 bh bm n := by
  rcases h with ⟨h1, h2, h3⟩ | ⟨a, b, h1, h2, h3, h4, h5⟩
  · exact .inl ⟨h1, h2, fun x y hxy hu => h3 x y (hs2 x y hxy hu) hu⟩
  · exact .inr ⟨a, b, h1, h2, h3, h4, fun x y hxy hu => h5 x y (hs2 x y hxy hu) hu⟩
theorem max_two {x y : Nat} : (if (y : Int) > (x : Int) then (y : Int) else (x : Int)) = ((max x y : Nat) : Int) := by split <;> omega
theorem ask_l2 (g : GoodW ls hs) {h : Nat} (hh : h < hs.length) : ∀ (tl : List Int) (i : Nat) (bh bm n : Int), (hs.getD h []).drop i = tl → AskI ls hs (fun h' i' => h' < h ∨ h' = h ∧ i' < i) bh bm n → ∃ bh' bm' n', night_Ask_l2 ls hs (hs.map (rowOf ls)) (h : Int) tl (i : Int) bh bm n = some (bh', bm', n') ∧ AskI ls hs (fun h' _ => h' < h + 1) bh' bm' n'
  | [], i, bh, bm, n, hd, hI => by
    refine ⟨bh, bm, n, rfl, hI.mono fun h' i' h1 hu => ?_⟩
    have hl : (hs.getD h []).length ≤ i := List.drop_eq_nil_iff.1 hd
    have hw := g.wid _ (getD_mem hh)
    by_cases he : h' = h
    · have := hu.2.1
      exact .inr ⟨he, by omega⟩
    · exact .inl (by omega)
  | x :: tl, i, bh, bm, n, hd, hI => by
    have hw := g.wid _ (getD_mem hh)
    have hk : i < (hs.getD h []).length := by
      rcases Nat.lt_or_ge i (hs.getD h []).length with h' | h'
      · exact h'
      · rw [List.drop_eq_nil_of_le h'] at hd; cases hd
    have hg : (hs.getD h []).getD i 0 = x := by
      rw [List.drop_eq_getElem_cons hk] at hd
      rw [List.getD_eq_getElem?_getD, List.getElem?_eq_getElem hk]
      exact (List.cons.inj hd).1
    have hd2 : (hs.getD h []).drop (i + 1) = tl := by
      rw [List.drop_eq_getElem_cons hk] at hd
      exact (List.cons.inj hd).2
    have ih := ask_l2 g hh tl (i + 1)
    unfold night_Ask_l2
    rw [show (i : Int) + 1 = ((i + 1 : Nat) : Int) by omega]
    by_cases hx : x = 0
    · have hu : Unk ls hs h i := ⟨hh, by omega, by rw [hg]; exact hx⟩
      rw [if_neg (fun h => h hx), split_eq g hh (by omega), b2_some, max_two]
      have hspl : max (allX ls (withM hs h i 1)).length (allX ls (withM hs h i 2)).length = spl ls hs h i := rfl
      rw [hspl]
      have take : (∀ h' i', (h' < h ∨ h' = h ∧ i' < i) → Unk ls hs h' i' → spl ls hs h i ≤ spl ls hs h' i') → AskI ls hs (fun h' i' => h' < h ∨ h' = h ∧ i' < i + 1) (h : Int) (i : Int) (spl ls hs h i : Int) := fun hall => by
        refine .inr ⟨h, i, rfl, rfl, hu, rfl, fun h' i' h1 h2 => ?_⟩
        by_cases he : h' = h ∧ i' = i
        · rw [he.1, he.2]; exact Nat.le_refl _
        · exact hall h' i' (by omega) h2
      rcases hI with ⟨h1, h2, h3⟩ | ⟨a, b, h1, h2, h3, h4, h5⟩
      · rw [if_pos ⟨h1, h2⟩, b1_some, if_pos rfl]
        exact ih _ _ _ hd2 (take fun h' i' q hu' => absurd hu' (h3 h' i' q))
      · rw [if_neg (by omega), b1_some]
        by_cases hc : ((spl ls hs h i : Nat) : Int) < n
        · rw [if_pos (decide_eq_true hc)]
          refine ih _ _ _ hd2 (take fun h' i' q hu' => ?_)
          have := h5 h' i' q hu'
          omega
        · rw [if_neg (fun q => hc (of_decide_eq_true q))]
          refine ih _ _ _ hd2 (.inr ⟨a, b, h1, h2, h3, h4, fun h' i' q hu' => ?_⟩)
          by_cases he : h' = h ∧ i' = i
          · rw [he.1, he.2]; omega
          · exact h5 h' i' (by omega) hu'
    · rw [if_pos hx]
      refine ih _ _ _ hd2 (hI.mono fun h' i' q hu => ?_)
      by_cases he : h' = h ∧ i' = i
      · rw [he.1, he.2] at hu
        have := hu.2.2
        rw [hg] at this
        exact absurd this hx
      · omega
theorem ask_l1 (g : GoodW ls hs) : ∀ (tl : List (List Int)) (h : Nat) (bh bm n : Int), hs.drop h = tl → AskI ls hs (fun h' _ => h' < h) bh bm n → ∃ bh' bm' n', night_Ask_l1 ls hs (hs.map (rowOf ls)) tl (h : Int) bh bm n = some (bh', bm', n') ∧ AskI ls hs (fun _ _ => True) bh' bm' n'
  | [], h, bh, bm, n, hd, hI => by
    refine ⟨bh, bm, n, rfl, hI.mono fun h' i' _ hu => ?_⟩
    have hl : hs.length ≤ h := List.drop_eq_nil_iff.1 hd
    have := hu.1
    omega
  | x :: tl, h, bh, bm, n, hd, hI => by
    have hk : h < hs.length := by
      rcases Nat.lt_or_ge h hs.length with h' | h'
      · exact h'
      · rw [List.drop_eq_nil_of_le h'] at hd; cases hd
    have hg : hs.getD h [] = x := by
      rw [List.drop_eq_getElem_cons hk] at hd
      rw [List.getD_eq_getElem?_getD, List.getElem?_eq_getElem hk]
      exact (List.cons.inj hd).1
    have hd2 : hs.drop (h + 1) = tl := by
      rw [List.drop_eq_getElem_cons hk] at hd
      exact (List.cons.inj hd).2
    obtain ⟨b1', b2', n1', e1, i1⟩ := ask_l2 g hk x 0 bh bm n hg (hI.mono fun h' i' q _ => by omega)
    have e1' : night_Ask_l2 ls hs (hs.map (rowOf ls)) (h : Int) x 0 bh bm n = some (b1', b2', n1') := e1
    unfold night_Ask_l1
    rw [e1', b3_some, show (h : Int) + 1 = ((h + 1 : Nat) : Int) by omega]
    exact ask_l1 g tl (h + 1) _ _ _ hd2 i1
/-- What Ask tells. -/
def AskOK (ls hs : List (List Int)) (bh bm n e : Int) : Prop :=
  (e = 6 ∧ ∀ h i, ¬ Unk ls hs h i) ∨ (e = 0 ∧ ∃ h i : Nat, bh = (h : Int) ∧ bm = (i : Int) ∧ Unk ls hs h i ∧ n = (spl ls hs h i : Int) ∧ ∀ h' i', Unk ls hs h' i' → spl ls hs h i ≤ spl ls hs h' i')
theorem Ask_ok (g : GoodW ls hs) {s : List Nat} (he : Expl ls hs s) : ∃ bh bm n e, night_Ask ls hs = some (bh, bm, n, e) ∧ AskOK ls hs bh bm n e := by
  obtain ⟨c, h1⟩ := told_ok g he
  obtain ⟨bh, bm, n, e1, hI⟩ := ask_l1 g hs 0 (-1) (-1) 0 rfl (.inl ⟨rfl, rfl, fun h i q => by omega⟩)
  have e1' : night_Ask_l1 ls hs (hs.map (rowOf ls)) hs 0 (-1) (-1) 0 = some (bh, bm, n) := e1
  unfold night_Ask
  rw [h1, b2_some, if_neg (fun h => h rfl), b4_some, e1', b3_some]
  rcases hI with ⟨h2, h3, h4⟩ | ⟨a, b, h2, h3, h4, h5, h6⟩
  · exact ⟨_, _, _, _, by rw [if_pos ⟨h2, h3⟩], .inl ⟨rfl, fun h i => h4 h i trivial⟩⟩
  · exact ⟨_, _, _, _, by rw [if_neg (by omega)], .inr ⟨rfl, a, b, h2, h3, h4, h5, fun h' i' => h6 h' i' trivial⟩⟩
theorem known_l4 (g : GoodW ls hs) {h i : Nat} (hu : Unk ls hs h i) {k2 at2 t2 : Int} {rec2 : Int → Int → Int → Option Bool} : oyezlaw05_NightKnown_l4 ls hs (restV ls allB hs 0 : Int) k2 at2 t2 (h : Int) (i : Int) ((allX ls (withM hs h i 1)).length : Int) ((allX ls (withM hs h i 2)).length : Int) rec2 (Int.toNat (2 - 0)) 0 = rec2 (k2 + 1) at2 t2 := by
  obtain ⟨hh, hi, hz⟩ := hu
  have hw := g.wid _ (getD_mem hh)
  have step : ∀ (fu : Nat) (k : Int) (m c : Int) (u : List (List Int)), u = withM hs h i m → (0 ≤ m ∧ m ≤ 2) → (∀ f : Int → Option Bool, ix [1, 2] k f = f m) → (∀ f : Int → Option Bool, ix [((allX ls (withM hs h i 1)).length : Int), ((allX ls (withM hs h i 2)).length : Int)] k f = f c) → c = ((allX ls u).length : Int) →
      oyezlaw05_NightKnown_l4 ls hs (restV ls allB hs 0 : Int) k2 at2 t2 (h : Int) (i : Int) ((allX ls (withM hs h i 1)).length : Int) ((allX ls (withM hs h i 2)).length : Int) rec2 (fu + 1) k = oyezlaw05_NightKnown_l4 ls hs (restV ls allB hs 0 : Int) k2 at2 t2 (h : Int) (i : Int) ((allX ls (withM hs h i 1)).length : Int) ((allX ls (withM hs h i 2)).length : Int) rec2 fu (k + 1) := fun fu k m c u hu hm h1 h2 hc => by
    have gu : GoodW ls u := by rw [hu]; exact g.withM hh i hm
    have hmore : restV ls allB hs 0 ≤ restV ls allB u 0 := by rw [hu]; exact rest_with hh (by omega) hz
    rw [oyezlaw05_NightKnown_l4]
    rw [h1, With_ok g hh hi hm, b3_some, ← hu, Count_ok gu, b2_some]
    by_cases hpos : 0 < (allX ls u).length
    · obtain ⟨s, hs2⟩ := expl_pos.1 hpos
      obtain ⟨l, hl⟩ := Fewest_n gu hs2
      rw [hl, b3_some, if_neg (fun h => h rfl), if_neg (fun h => h rfl), h2, if_neg (fun h => h hc.symm), if_neg (by rw [decide_eq_true (by omega), decide_eq_true rfl]; exact fun h => h rfl), if_pos rfl, b1_some, if_neg (by rw [decide_eq_true_iff]; omega)]
    · rw [Fewest_clash gu (by omega), b3_some, if_neg (fun h => h rfl), if_neg (fun h => h rfl), h2, if_neg (fun h => h hc.symm), if_neg (by rw [decide_eq_false (by omega), decide_eq_false (by decide)]; exact fun h => h rfl), if_neg (by decide), b1_some, if_neg (by decide)]
  rw [show Int.toNat (2 - 0) = 1 + 1 from rfl, step 1 0 1 _ _ rfl (by omega) (fun f => rfl) (fun f => rfl) rfl, show (0 : Int) + 1 = 1 from rfl, show (1 : Nat) = 0 + 1 from rfl, step 0 1 2 _ _ rfl (by omega) (fun f => rfl) (fun f => rfl) rfl]
  rfl
variable {metal : List Int}
theorem known_l2 (g : GoodW ls hs) (hm : (metal.length : Int) ≤ 9223372036854775807) {bh bm n5 n6 : Int} (hA : AskOK ls hs bh bm n5 n6) : ∀ (fu : Nat) (k a t : Int), 0 ≤ k → BellA metal a → oyezlaw05_NightKnown_l2 ls hs metal ((allX ls hs).length : Int) bh bm n5 n6 (restV ls allB hs 0 : Int) fu k a t = some true
  | 0, k, a, t, _, _ => by
    unfold oyezlaw05_NightKnown_l2 oyezlaw05_NightKnown_j1
    rw [awake_true]; rfl
  | fu + 1, k, a, t, hk, ha => by
    have hn1 := g.n1; have h6 := g.n6; have hh1 := g.h1; have h8 := g.h8
    have ih := known_l2 g hm hA fu (k + 1)
    have fin : ∀ (h i : Nat) (a' t' : Int), h < hs.length → i < ls.length → BellA metal a' → ((b1 (if (h : Int) < 0 then some true else (if (hs.length : Int) ≤ (h : Int) then some true else (if (i : Int) < 0 then some true else some (decide ((ls.length : Int) ≤ (i : Int)))))) fun k4 => if k4 = true then some false else (b3 (night_Split ls hs (h : Int) (i : Int)) fun n11 n12 n13 => b1 (ix hs (h : Int) fun x => ix x (i : Int) fun x2 => if (decide (x2 = 0)) ≠ (decide (n13 = 0)) then some true else (if n13 ≠ 0 then (if n13 ≠ 5 then some true else (if (h : Int) = bh ∧ (i : Int) = bm then some (decide (n6 = 0)) else some false)) else some false)) fun k5 => if k5 = true then some false else (if n13 ≠ 0 then (oyezlaw05_NightKnown_j3 k (oyezlaw05_NightKnown_l2 ls hs metal ((allX ls hs).length : Int) bh bm n5 n6 (restV ls allB hs 0 : Int) fu) a' t') else (b1 (if n6 ≠ 0 then some true else (if n11 < 0 then some true else (if n12 < 0 then some true else (gd (R64 (n11 + n12)) <| if (n11 + n12) ≠ ((allX ls hs).length : Int) then some true else (if (if n12 > n11 then n12 else n11) < n5 then some true else (if (h : Int) = bh ∧ (i : Int) = bm then some (decide ((if n12 > n11 then n12 else n11) ≠ n5)) else some false)))))) fun k6 => if k6 = true then some false else (gd (R64 0 ∧ R64 2) <| oyezlaw05_NightKnown_l4 ls hs (restV ls allB hs 0 : Int) k a' t' (h : Int) (i : Int) n11 n12 (oyezlaw05_NightKnown_l2 ls hs metal ((allX ls hs).length : Int) bh bm n5 n6 (restV ls allB hs 0 : Int) fu) (Int.toNat (2 - 0)) 0))))) : Option Bool) = some true := fun h i a' t' hh hi ha' => by
      have hw := g.wid _ (getD_mem hh)
      rw [if_neg (by omega), if_neg (by omega), if_neg (by omega), b1_some, if_neg (by rw [decide_eq_true_iff]; omega), Split_ok g hh hi]
      by_cases hz : (hs.getD h []).getD i 0 = 0
      · have hu : Unk ls hs h i := ⟨hh, hi, hz⟩
        have h2 := allX_two g hh hi hz
        have hb := allX_le ls h6 hs
        have hb8 := pow8 h8
        have hspl : max (allX ls (withM hs h i 1)).length (allX ls (withM hs h i 2)).length = spl ls hs h i := rfl
        rcases hA with ⟨_, q⟩ | ⟨q1, x, y, q2, q3, q4, q5, q6⟩
        · exact absurd hu (q h i)
        · have hle := q6 h i hu
          have heq : (h : Int) = bh ∧ (i : Int) = bm → spl ls hs h i = spl ls hs x y := fun q => by
            have e1 : h = x := by omega
            have e2 : i = y := by omega
            rw [e1, e2]
          rw [if_pos hz, b3_some, ixN [] _ hh, ixN 0 _ (by omega), hz, if_neg (fun h => h rfl), if_neg (fun h => h rfl), b1_some, if_neg (by decide), if_neg (fun h => h rfl), if_neg (by omega), if_neg (by omega), if_neg (by omega), gd_t (r64_big' (by omega) (by omega)), if_neg (by omega), max_two, hspl, if_neg (by omega)]
          have e0 : (if (h : Int) = bh ∧ (i : Int) = bm then some (decide (((spl ls hs h i : Nat) : Int) ≠ n5)) else some false) = some false := by
            split
            · rename_i q
              have := heq q
              rw [decide_eq_false (fun q' => q' (by omega))]
            · rfl
          rw [e0, b1_some, if_neg (by decide), gd_t ⟨by unfold R64; omega, by unfold R64; omega⟩, known_l4 g hu]
          exact ih a' t' (by omega) ha'
      · have e0 : (if (h : Int) = bh ∧ (i : Int) = bm then some (decide (n6 = 0)) else some false) = some false := by
          split
          · rename_i q
            rcases hA with ⟨q1, _⟩ | ⟨q1, x, y, q2, q3, q4, q5, q6⟩
            · rw [q1]; rfl
            · have e1 : h = x := by omega
              have e2 : i = y := by omega
              rw [e1, e2] at hz
              exact absurd q4.2.2 hz
          · rfl
        rw [if_neg hz, b3_some, ixN [] _ hh, ixN 0 _ (by omega), if_neg (by rw [decide_eq_false hz, decide_eq_false (by decide)]; exact fun h => h rfl), if_pos (by decide), if_neg (by decide), e0, b1_some, if_neg (by decide), if_pos (by decide)]
        exact ih a' t' (by omega) ha'
    unfold oyezlaw05_NightKnown_l2
    have rnd : (∃ h i : Nat, ∃ a' t', (gd (R64 ((hs.length : Int) - 1)) <| gd (R64 ((ls.length : Int) - 1)) <| b3 (oyezkit_Bell_Stroke metal a t ((hs.length : Int) - 1)) fun n9 at_4 turn4 => b3 (oyezkit_Bell_Stroke metal at_4 turn4 ((ls.length : Int) - 1)) fun n10 at_5 turn5 => some (at_5, turn5, n9, n10)) = some (a', t', (h : Int), (i : Int)) ∧ h < hs.length ∧ i < ls.length ∧ BellA metal a') := by
      obtain ⟨x, a1, t1, e1, f1, f2, f3⟩ := stroke_ok (t := t) (n := (hs.length : Int) - 1) ha hm (by omega)
      obtain ⟨x, rfl⟩ := Int.eq_ofNat_of_zero_le f1
      obtain ⟨y, a2, t2, e2, k1, k2, k3⟩ := stroke_ok (t := t1) (n := (ls.length : Int) - 1) f3 hm (by omega)
      obtain ⟨y, rfl⟩ := Int.eq_ofNat_of_zero_le k1
      refine ⟨x, y, a2, t2, ?_, by omega, by omega, k3⟩
      rw [gd_t (r64_small (by omega)), gd_t (r64_small (by omega)), e1, b3_some, e2, b3_some]
    obtain ⟨h, i, a', t', e1, p1, p2, p3⟩ := rnd
    rw [e1]
    by_cases hk0 : 0 < k
    · rw [if_pos hk0, b1_some, if_pos rfl, b4_some]
      exact fin h i a' t' p1 p2 p3
    · rw [if_neg hk0, b1_some]
      rcases hA with ⟨q1, q⟩ | ⟨q1, x, y, q2, q3, q4, q5, q6⟩
      · rw [if_pos (by rw [q1]; decide), b4_some]
        exact fin h i a' t' p1 p2 p3
      · rw [if_neg (by rw [q1]; decide), b4_some]
        have := fin x y a t q4.1 q4.2.1 ha
        rw [← q2, ← q3] at this
        exact this
end
/-- NightKnown. -/
theorem known_true {numbers places : List Int} (h1 : (numbers.length : Int) ≤ 9223372036854775807) (h2 : (places.length : Int) ≤ 9223372036854775807) : oyezlaw05_NightKnown numbers places = some true := by
  unfold oyezlaw05_NightKnown oyezkit_Hang
  obtain ⟨ls, hs, real, a, t, e, g, he, _⟩ := made_ok (metal := numbers) (t := 0) (a := 0) (men := 4) (hours := 5) ⟨by omega, by omega⟩ h1 (by omega) (by omega)
  obtain ⟨l, h3⟩ := Fewest_n g he
  obtain ⟨bh, bm, n, er, h4, hA⟩ := Ask_ok g he
  have e0 : (if er ≠ 0 then some (decide (er ≠ 6)) else some false) = some false := by
    rcases hA with ⟨q, _⟩ | ⟨q, _⟩ <;> rw [q] <;> rfl
  rw [b3_some, e, b5_some, b3_some, Count_ok g, b2_some, h4, b4_some, h3, b3_some, if_neg (fun h => h rfl), if_neg (fun h => h rfl), e0, b1_some, if_neg (by decide), gd_t ⟨by unfold R64; omega, by unfold R64; omega⟩]
  exact known_l2 g h2 hA _ 0 0 0 (Int.le_refl _) ⟨by omega, by omega⟩
end Go.Proofs.Ytjgeaaganpkceaa.Nt
