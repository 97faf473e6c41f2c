/- Layer 5: marks that become known, the place to ask for (NightKnown); in plain Lean. -/
import Derived.Test.YtjgeaaganpkceaaZiQL
namespace Go.Proofs.Ytjgeaaganpkceaa.Nt
open Go.PL Rv
def withM (hs : List (List Int)) (h i : Nat) (m : Int) : List (List Int) := hs.set h ((hs.getD h []).set i m)
section
variable {ls hs : List (List Int)}
theorem getD_mem {h : Nat} (hh : h < hs.length) : hs.getD h [] ∈ hs := by
  rw [List.getD_eq_getElem?_getD, List.getElem?_eq_getElem hh]; exact List.getElem_mem _
theorem GoodW.withM (g : GoodW ls hs) {h : Nat} (hh : h < hs.length) (i : Nat) {m : Int} (hm : 0 ≤ m ∧ m ≤ 2) : GoodW ls (withM hs h i m) := by
  unfold Nt.withM
  refine ⟨g.n1, g.n6, by rw [List.length_set]; exact g.h1, by rw [List.length_set]; exact g.h8, fun ms h1 => ?_, fun ms h1 x hx => ?_, g.lis, g.nd⟩
  · rcases List.mem_or_eq_of_mem_set h1 with h2 | rfl
    · exact g.wid ms h2
    · rw [List.length_set, g.wid _ (getD_mem hh)]
  · rcases List.mem_or_eq_of_mem_set h1 with h2 | rfl
    · exact g.mks ms h2 x hx
    · rcases List.mem_or_eq_of_mem_set hx with h3 | rfl
      · exact g.mks _ (getD_mem hh) x h3
      · exact hm
theorem with_l1 : ∀ (tl a : List (List Int)), (∀ l ∈ tl, l.length ≤ 1000000) → night_Watch_with_l1 tl (a.length : Int) (a ++ List.replicate tl.length []) = some (a ++ tl)
  | [], a, _ => by simp [night_Watch_with_l1]
  | x :: tl, a, h => by
    unfold night_Watch_with_l1
    have ih := with_l1 tl (a ++ [x]) (fun l hl => h l (List.mem_cons_of_mem _ hl))
    rw [clone_eq (h x (List.mem_cons_self ..)), b1_some, ixN [] _ (by simp), bvE, Int.toNat_natCast, List.length_cons, set_app]
    rw [List.length_append] at ih
    simpa using ih
theorem with_l2 : ∀ (tl a : List (List Int)), (∀ l ∈ tl, l.length ≤ 1000000) → night_Watch_with_l2 tl (a.length : Int) (a ++ List.replicate tl.length []) = some (a ++ tl)
  | [], a, _ => by simp [night_Watch_with_l2]
  | x :: tl, a, h => by
    unfold night_Watch_with_l2
    have hx := h x (List.mem_cons_self ..)
    have ih := with_l2 tl (a ++ [x]) (fun l hl => h l (List.mem_cons_of_mem _ hl))
    have e1 : (a ++ [List.replicate x.length (0 : Int)] ++ List.replicate tl.length ([] : List Int)).getD a.length [] = List.replicate x.length 0 := by
      rw [List.append_assoc]; exact app_get ..
    have e2 : (a ++ [List.replicate x.length (0 : Int)] ++ List.replicate tl.length ([] : List Int)).set a.length x = a ++ [x] ++ List.replicate tl.length [] := by
      rw [List.append_assoc, List.append_assoc]; exact app_set ..
    rw [ixN [] _ (by simp), gd_t ⟨by omega, by omega⟩, bvE, bvE, Int.toNat_natCast, Int.toNat_natCast, List.length_cons, set_app, ixN [] _ (by simp), e1, bvE, cpy_eq, bvE, e2]
    rw [List.length_append] at ih
    simpa using ih
theorem with_eq (g : GoodW ls hs) {h i : Nat} (hh : h < hs.length) (hi : i < ls.length) (m : Int) : night_Watch_with ls hs (h : Int) (i : Int) m = some (ls, withM hs h i m) := by
  have h6 := g.n6; have h8 := g.h8
  have e1 := with_l1 ls [] (fun l hl => by have := lis_len g l hl; omega)
  have e2 := with_l2 hs [] (fun l hl => by have := g.le50 l hl; omega)
  rw [List.nil_append, List.nil_append] at e1 e2
  have e1' : night_Watch_with_l1 ls 0 (List.replicate ls.length []) = some ls := e1
  have e2' : night_Watch_with_l2 hs 0 (List.replicate hs.length []) = some hs := e2
  have hw := g.wid _ (getD_mem hh)
  unfold night_Watch_with
  rw [gd_t ⟨by omega, by omega⟩, gd_t ⟨by omega, by omega⟩, bvE, bvE, Int.toNat_natCast, Int.toNat_natCast, e1', b1_some, e2', b1_some, ixN [] _ hh, ixN 0 _ (by omega), bvE, bvE, Int.toNat_natCast, Int.toNat_natCast]
  rfl
theorem place_eq (g : GoodW ls hs) {h i : Nat} (hh : h < hs.length) (hi : i < ls.length) : night_Watch_place ls hs (h : Int) (i : Int) = some true := by
  have h6 := g.n6; have h8 := g.h8
  unfold night_Watch_place
  rw [gd_t (r64_small (by omega)), in_eq, b1_some, if_pos (decide_eq_true (by omega)), gd_t (r64_small (by omega)), in_eq, b1_some, decide_eq_true (by omega)]
theorem With_ok (g : GoodW ls hs) {h i : Nat} (hh : h < hs.length) (hi : i < ls.length) {m : Int} (hm : 0 ≤ m ∧ m ≤ 2) : night_With ls hs (h : Int) (i : Int) m = some (ls, withM hs h i m, 0) := by
  unfold night_With
  rw [check_ok g, b1_some, if_neg (fun h => h rfl), place_eq g hh hi, b1_some, if_neg (by decide)]
  unfold night_Mark_there
  rw [in_eq, b1_some, b1_some, decide_eq_true hm, if_neg (by decide), with_eq g hh hi, b2_some]
theorem fitB_iff {ms : List Int} {a : Nat} : fitB ls ms a = true ↔ ∀ (i : Nat) m, ms[i]? = some m → markB (cryS ls a) m i = true := by
  constructor
  · intro h i m hi
    have := fitF_at h hi
    rwa [Nat.zero_add] at this
  · intro h
    exact fitF_of _ 0 fun i m hi => by rw [Nat.zero_add]; exact h i m hi
theorem rowOf_zero (h6 : ls.length ≤ 6) {ms : List Int} : List.replicate 64 false = rowOf ls ms ↔ fitL ls ms = [] := by
  have hp := pow_le64 h6
  constructor
  · intro h
    unfold fitL
    rw [List.filter_eq_nil_iff]
    intro a ha hf
    have ha2 := List.mem_range.1 ha
    have h1 : (rowOf ls ms).getD a false = true := by
      unfold rowOf rowP
      rw [List.getD_eq_getElem?_getD, List.getElem?_map, List.getElem?_range (by omega)]
      simp [ha2, hf]
    rw [← h, List.getD_eq_getElem?_getD, List.getElem?_replicate_of_lt (by omega)] at h1
    cases h1
  · intro h
    symm
    rw [List.eq_replicate_iff]
    refine ⟨rowP_len .., fun b hb => ?_⟩
    unfold rowOf rowP at hb
    obtain ⟨j, hj, rfl⟩ := List.mem_map.1 hb
    cases hjm : decide (j < 2 ^ ls.length) with
    | false => rfl
    | true =>
      rw [Bool.true_and]
      cases hf : fitB ls ms j with
      | false => rfl
      | true =>
        have : j ∈ fitL ls ms := mem_fitL.2 ⟨of_decide_eq_true hjm, hf⟩
        rw [h] at this; cases this
theorem clash_l2 (h6 : ls.length ≤ 6) : ∀ (tl : List (List Int)) (k : Int), 0 ≤ k → ∃ n, slices_Index_night_row_night_row_l2 (List.replicate 64 false) (tl.map (rowOf ls)) k = some n ∧ (0 ≤ n ↔ decide (∃ ms ∈ tl, fitL ls ms = []) = true)
  | [], k, _ => ⟨-1, rfl, by simp⟩
  | ms :: tl, k, hk => by
    rw [List.map_cons]; unfold slices_Index_night_row_night_row_l2
    by_cases hx : List.replicate 64 false = rowOf ls ms
    · refine ⟨k, by rw [if_pos hx], ?_⟩
      have := (rowOf_zero h6).1 hx
      simp [this, hk]
    · obtain ⟨n, h1, h2⟩ := clash_l2 h6 tl (k + 1) (by omega)
      refine ⟨n, by rw [if_neg hx]; exact h1, ?_⟩
      have h3 : ¬ fitL ls ms = [] := fun h => hx ((rowOf_zero h6).2 h)
      rw [h2]; simp [h3]
theorem allX_nil : ∀ {hs : List (List Int)}, (allX ls hs).length = 0 ↔ ∃ ms ∈ hs, fitL ls ms = []
  | [] => by simp [allX]
  | ms :: tl => by
    rw [len_allX, Nat.mul_eq_zero, allX_nil (hs := tl), List.length_eq_zero_iff]
    simp
theorem clash_eq (g : GoodW ls hs) : night_desk_clash ls hs (hs.map (rowOf ls)) = some (decide ((allX ls hs).length = 0)) := by
  obtain ⟨n, h1, h2⟩ := clash_l2 g.n6 hs 0 (Int.le_refl _)
  unfold night_desk_clash slices_Contains_night_row_night_row slices_Index_night_row_night_row
  rw [h1, b1_some, b1_some, nonneg_dec h2]
  congr 1
  rw [decide_eq_decide]
  exact allX_nil.symm
/-- There is an explanation just if there are some. -/
theorem expl_pos : 0 < (allX ls hs).length ↔ ∃ s, Expl ls hs s := by
  constructor
  · intro h
    obtain ⟨s, hs2⟩ := List.exists_mem_of_length_pos h
    exact ⟨s, mem_allX.1 hs2⟩
  · rintro ⟨s, h⟩
    exact List.length_pos_of_mem (mem_allX.2 h)
theorem Fewest_clash (g : GoodW ls hs) (h : (allX ls hs).length = 0) : night_Fewest ls hs = some ([], 0, 7) := by
  obtain ⟨c, h1, _⟩ := opened_ok g
  unfold night_Fewest night_told
  rw [h1, b2_some, if_neg (fun h => h rfl), b4_some, clash_eq g, b1_some, if_pos (decide_eq_true h), b2_some, if_pos (by decide)]
/-- How many explanations an answer can leave. -/
def spl (ls hs : List (List Int)) (h i : Nat) : Nat := max (allX ls (withM hs h i 1)).length (allX ls (withM hs h i 2)).length
/-- A place whose mark is unknown. -/
def Unk (ls hs : List (List Int)) (h i : Nat) : Prop := h < hs.length ∧ i < ls.length ∧ (hs.getD h []).getD i 0 = 0
/-- The best place of those that were seen. -/
def AskI (ls hs : List (List Int)) (seen : Nat → Nat → Prop) (bh bm n : Int) : Prop :=
  (bh = -1 ∧ bm = -1 ∧ ∀ h i, seen h i → ¬ Unk ls hs h i) ∨ ∃ h i : Nat, bh = (h : Int) ∧ bm = (i : Int) ∧ Unk ls hs h i ∧ n = (spl ls hs h i : Int) ∧ ∀ h' i', seen h' i' → Unk ls hs h' i' → spl ls hs h i ≤ spl ls hs h' i'
theorem AskI.mono {s1 s2 : Nat → Nat → Prop} {bh bm n : Int} (h : AskI ls hs s1 bh bm n) (hs2 : ∀ h i, s2 h i → Unk ls hs h i → s1 h i) : AskI ls hs s2 bh bm n := by
  rcases h with ⟨h1, h2, h3⟩ | ⟨a, b, h1, h2, h3, h4, h5⟩
  · exact .inl ⟨h1, h2, fun x y hxy hu => h3 x y (hs2 x y hxy hu) hu⟩
  · exact .inr ⟨a, b, h1, h2, h3, h4, fun x y hxy hu => h5 x y (hs2 x y hxy hu) hu⟩
variable {metal : List Int}
end
end Go.Proofs.Ytjgeaaganpkceaa.Nt
