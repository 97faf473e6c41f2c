/- Layer 1: tables that are tried; copies; HearNeeds. -/
import Derived.Test.YtdnmaodkdhdacaaHD
namespace Go.Proofs.Ytdnmaodkdhdacaa
open Go.PL Go.Hear
open Classical

theorem cpy_self {α : Type} {l : List α} {z : α} : cpy (List.replicate l.length z) l = l := by simp [cpy]
theorem copyP_eq {l : List Int} (h : l.length ≤ 1000000) : oyezkit_Copy_Plot l = some l := by
  unfold oyezkit_Copy_Plot
  rw [gd_t (by omega), bvE, Int.toNat_natCast, cpy_self, bvE]
theorem copy_eq {l : List Int} (h : l.length ≤ 1000000) : oyezkit_Copy_int l = some l := by
  unfold oyezkit_Copy_int
  rw [gd_t (by omega), bvE, Int.toNat_natCast, cpy_self, bvE]
theorem own_eq {wide : Int} {ps : List Int} (h : ps.length ≤ 1000) : oyezlaw01_Own wide ps = some (wide, ps) := by
  unfold oyezlaw01_Own
  rw [copyP_eq (by omega), b1_some]
theorem theirs_l1 : ∀ (l acc : List Int), acc.length + l.length ≤ 1000000 → oyezlaw01_theirs_l1 l acc = some (acc ++ l)
  | [], acc, _ => by simp [oyezlaw01_theirs_l1]
  | x :: l, acc, h => by
    unfold oyezlaw01_theirs_l1
    simp only [List.length_cons] at h
    rw [ap_t (by simp; omega), theirs_l1 l (acc ++ [x]) (by simp; omega)]
    simp
theorem theirs_eq {wide : Int} {ps : List Int} (h : ps.length ≤ 1000) : oyezlaw01_theirs wide ps = some (wide, ps) := by
  unfold oyezlaw01_theirs
  rw [theirs_l1 ps [] (by simp; omega), b1_some]; rfl

theorem equal_l2 (f : List Int → Int → Option Bool) (b : List Int) (hf : ∀ l k, f l k = match l with | [] => some true | x :: tl => ix b k fun y => if x ≠ y then some false else f tl (k + 1)) :
    ∀ (l pre : List Int) (k : Int), k = pre.length → pre.length + l.length = b.length → f l k = some (decide (l = b.drop pre.length))
  | [], pre, k, _, h => by
    rw [hf, List.drop_eq_nil_of_le (by simp at h; omega)]; rfl
  | x :: l, pre, k, hk, h => by
    simp only [List.length_cons] at h
    have hd : b.drop pre.length = b.getD pre.length 0 :: b.drop (pre.length + 1) := by
      rw [List.drop_eq_getElem_cons (by omega), List.getD_eq_getElem?_getD, List.getElem?_eq_getElem (by omega)]; rfl
    have hkn : k.toNat = pre.length := by omega
    rw [hf, hd]
    show ix b k _ = _
    rw [ix_get _ (by omega) (by omega), hkn]
    by_cases hx : x = b.getD pre.length 0
    · rw [if_neg (not_not_intro hx), equal_l2 f b hf l (pre ++ [x]) (k + 1) (by simp; omega) (by simp; omega)]
      simp only [List.length_append, List.length_singleton]
      congr 1; rw [decide_eq_decide]
      constructor
      · intro h; rw [h, hx]
      · intro h; exact (List.cons.inj h).2
    · rw [if_pos hx]
      congr 1; symm; rw [decide_eq_false_iff_not]
      intro h; exact hx (List.cons.inj h).1
theorem like_eq (a b : List Int) : oyezkit_Like_int a b = some (decide (a = b)) := by
  unfold oyezkit_Like_int slices_Equal_int_int
  by_cases h : (a.length : Int) = b.length
  · rw [if_neg (not_not_intro h), equal_l2 (slices_Equal_int_int_l2 b) b (fun l k => by cases l <;> rfl) a [] 0 rfl (by simp; omega), b1_some]
    simp
  · rw [if_pos h, b1_some]
    congr 1; symm; rw [decide_eq_false_iff_not]
    rintro rfl; exact h rfl
theorem likeP_eq (a b : List Int) : oyezkit_Like_Plot a b = some (decide (a = b)) := by
  unfold oyezkit_Like_Plot slices_Equal_hear_Plot_hear_Plot
  by_cases h : (a.length : Int) = b.length
  · rw [if_neg (not_not_intro h), equal_l2 (slices_Equal_hear_Plot_hear_Plot_l2 b) b (fun l k => by cases l <;> rfl) a [] 0 rfl (by simp; omega), b1_some]
    simp
  · rw [if_pos h, b1_some]
    congr 1; symm; rw [decide_eq_false_iff_not]
    rintro rfl; exact h rfl
theorem same_eq (wide : Int) (ps : List Int) : oyezlaw01_same wide ps wide ps = some true := by
  unfold oyezlaw01_same
  rw [if_pos rfl, likeP_eq, b1_some]; simp
theorem great_eq (wide : Int) (ps : List Int) : oyezlaw01_great wide ps = some (decide (40 < (ps.length : Int))) := rfl

/-! ### Tables that are tried -/
theorem r64_get {l : List Int} (h : ∀ x ∈ l, R64 x) {i : Nat} (hi : i < l.length) : R64 (l.getD i 0) := by
  rw [List.getD_eq_getElem?_getD, List.getElem?_eq_getElem hi]
  exact h _ (List.getElem_mem _)
theorem umod {a b n : Int} (ha : R64 a) (hb : R64 b) (h : b < a) (hn : 1 ≤ n ∧ n ≤ 5) : (n % 18446744073709551616 < ((a % 18446744073709551616) - (b % 18446744073709551616)) % 18446744073709551616) ↔ n < a - b := by
  unfold R64 at ha hb
  have e1 : (a % 18446744073709551616 - b % 18446744073709551616) % 18446744073709551616 = a - b := by
    rw [← Int.sub_emod]; exact Int.emod_eq_of_lt (by omega) (by omega)
  rw [e1, Int.emod_eq_of_lt (by omega) (by omega)]

section
variable {wide : Int} {ps : List Int} {w : Int} {t : List Int}
/-- The steps from a plot on that betters nothing. -/
def rowB (wide : Int) (ps : List Int) (w : Int) (t : List Int) (p : Nat) : Bool := decide (ps.getD p 0 = 2) || (nextL wide ps w (p : Int)).all fun x => decide (t.getD x.1.toNat 0 - t.getD p 0 ≤ x.2)
theorem holds_l4 (ho : openE wide ps w = 0) (ht : ∀ x ∈ t, R64 x) (hl : t.length = ps.length) {k : Nat} (hk : k < ps.length) (rec2 : Int → Option (Bool × Int)) :
    ∀ l : List (Int × Int), (∀ x ∈ l, x ∈ nextL wide ps w (k : Int)) → hear_Holds_l4 wide ps t (k : Int) rec2 l = if (decide (ps.getD k 0 = 2) || l.all fun x => decide (t.getD x.1.toNat 0 - t.getD k 0 ≤ x.2)) = true then rec2 ((k : Int) + 1) else some (false, 0)
  | [], _ => by unfold hear_Holds_l4 hear_Holds_j3; simp
  | x :: l, h => by
    have hx := nextL_ok ho _ _ _ (h x (by simp))
    have ih := holds_l4 ho ht hl hk rec2 l (fun y hy => h y (by simp [hy]))
    unfold hear_Holds_l4
    rw [wall_eq (by omega) (by omega), b1_some, Int.toNat_natCast]
    have hxr : R64 (t.getD x.1.toNat 0) := r64_get ht (by omega)
    have hkr : R64 (t.getD k 0) := r64_get ht (by omega)
    by_cases hw : ps.getD k 0 = 2
    · rw [if_neg (ndf hw), b1_some, if_neg (by decide), ih]
      simp only [hw, decide_true, Bool.true_or]
    · rw [if_pos (nd hw), ix_get _ hx.1.1 (by rw [hl]; exact hx.1.2), ix_get _ (by omega) (by omega), Int.toNat_natCast]
      by_cases hlt : t.getD k 0 < t.getD x.1.toNat 0
      · rw [if_pos hlt, b1_some]
        by_cases hb : x.2 < t.getD x.1.toNat 0 - t.getD k 0
        · rw [if_pos (decide_eq_true ((umod hxr hkr hlt hx.2).2 hb))]
          unfold hear_Holds_j5
          rw [if_neg]
          simp only [Bool.or_eq_true, decide_eq_true_eq, List.all_cons, Bool.and_eq_true]
          omega
        · rw [if_neg (fun h => hb ((umod hxr hkr hlt hx.2).1 (of_decide_eq_true h))), ih]
          have hle : t.getD x.1.toNat 0 - t.getD k 0 ≤ x.2 := by omega
          simp only [List.all_cons, decide_eq_true hle, Bool.true_and]
      · rw [if_neg hlt, b1_some, if_neg (by decide), ih]
        have hle : t.getD x.1.toNat 0 - t.getD k 0 ≤ x.2 := by omega
        simp only [List.all_cons, decide_eq_true hle, Bool.true_and]
theorem holds_l2 (ho : openE wide ps w = 0) (ht : ∀ x ∈ t, R64 x) (hl : t.length = ps.length) : ∀ (l : List Int) (k : Nat), k + l.length = ps.length → hear_Holds_l2 wide ps t (some (dsk wide ps w)) l (k : Int) = some (decide (∀ p, k ≤ p → p < ps.length → rowB wide ps w t p = true), 0)
  | [], k, h => by
    unfold hear_Holds_l2 hear_Holds_j1
    rw [decide_eq_true]
    intro p h1 h2
    simp at h; omega
  | x :: l, k, h => by
    simp only [List.length_cons] at h
    unfold hear_Holds_l2 dsk
    rw [b5_some, next_eq ho (by omega) (by omega), b1_some, holds_l4 ho ht hl (by omega) _ _ (fun x hx => hx)]
    have ih := holds_l2 ho ht hl l (k + 1) (by omega)
    unfold dsk at ih
    by_cases hb : rowB wide ps w t k = true
    · have hb' := hb
      unfold rowB at hb'
      rw [if_pos hb', show ((k : Int) + 1) = ((k + 1 : Nat) : Int) from rfl, ih]
      congr 2; rw [decide_eq_decide]
      constructor
      · intro h1 p h2 h3
        by_cases he : p = k
        · rw [he]; exact hb
        · exact h1 p (by omega) h3
      · intro h1 p h2 h3; exact h1 p (by omega) h3
    · have hb' := hb
      unfold rowB at hb'
      rw [if_neg hb']
      congr 2; symm; rw [decide_eq_false_iff_not]
      intro h1; exact hb (h1 k (Nat.le_refl _) (by omega))

/-- What a table that is tried gives. -/
noncomputable def hldB (wide : Int) (ps : List Int) (w stand : Int) (t : List Int) : Bool := decide (standE wide ps w stand = 0 ∧ (t.length : Int) = ps.length ∧ t.getD stand.toNat 0 = 0 ∧ ∀ p, 0 ≤ p → p < ps.length → rowB wide ps w t p = true)
def hldE (wide : Int) (ps : List Int) (w stand : Int) (t : List Int) : Int := if standE wide ps w stand ≠ 0 then standE wide ps w stand else if (t.length : Int) ≠ ps.length then 2 else 0
theorem Holds_eq (hn : ps.length ≤ 1000) (ht : ∀ x ∈ t, R64 x) (stand : Int) : hear_Holds wide ps w stand t = some (hldB wide ps w stand t, hldE wide ps w stand t) := by
  unfold hear_Holds hldB hldE
  rw [standing_eq hn, b2_some]
  by_cases h : standE wide ps w stand = 0
  · obtain ⟨ho, hs, _⟩ := standE_ok h
    rw [if_neg (not_not_intro h), if_pos h]
    by_cases hl : (t.length : Int) = ps.length
    · rw [if_neg (not_not_intro hl), ix_get _ hs.1 (by omega)]
      by_cases h0 : t.getD stand.toNat 0 = 0
      · rw [if_neg (not_not_intro h0)]
        have this : hear_Holds_l2 wide ps t (some (dsk wide ps w)) ps 0 = _ := holds_l2 ho ht (by omega) ps 0 (by omega)
        rw [this]
        simp only [h, hl, h0, true_and, ne_eq, not_true_eq_false, if_false]
      · rw [if_pos h0]
        simp only [h, hl, h0, false_and, and_false, decide_false, ne_eq, not_true_eq_false, if_false]
    · rw [if_pos hl]
      simp only [h, hl, false_and, and_false, decide_false, ne_eq, not_true_eq_false, not_false_eq_true, if_false, if_true]
  · rw [if_pos h]
    simp only [h, false_and, decide_false, ne_eq, not_false_eq_true, if_true]

theorem above_l2 {a : Int} (ha : R64 a) : ∀ (m : Nat) (b : Int), -9223372036854775808 ≤ b → oyezref01_above_l2 a m b = some (decide (b + m < a))
  | 0, b, _ => by unfold oyezref01_above_l2 oyezref01_above_j1; simp
  | m + 1, b, hb => by
    unfold oyezref01_above_l2
    unfold R64 at ha
    by_cases h : a ≤ b
    · rw [if_pos h]; congr 1; symm; rw [decide_eq_false_iff_not]; omega
    · rw [if_neg h, gd_t (by unfold R64; omega), above_l2 ha m (b + 1) (by omega)]
      congr 1; rw [decide_eq_decide]; omega
theorem above_eq {a b n : Int} (ha : R64 a) (hb : R64 b) (hn : 0 ≤ n ∧ n ≤ 1000) : oyezref01_above a b n = some (decide (n < a - b)) := by
  unfold oyezref01_above
  rw [gd_t ⟨r64_small (by omega), r64_small (by omega)⟩, above_l2 ha _ _ hb.1]
  congr 1; rw [decide_eq_decide]; omega

theorem rholds_l4 (ho : openE wide ps w = 0) (ht : ∀ x ∈ t, R64 x) (hl : t.length = ps.length) {p : Nat} (hp : p < ps.length) (rec2 : Int → Option (Bool × Int)) :
    ∀ (l : List Int) (q : Nat), q + l.length = t.length → t.drop q = l → oyezref01_Holds_l4 wide ps w (p : Int) (t.getD p 0) rec2 l (q : Int) = if (∀ q' : Nat, q ≤ q' → q' < ps.length → ∀ m, ((q' : Int), m) ∈ nextL wide ps w p → ps.getD p 0 ≠ 2 → t.getD q' 0 - t.getD p 0 ≤ m) then rec2 ((p : Int) + 1) else some (false, 0)
  | [], q, h, _ => by
    unfold oyezref01_Holds_l4 oyezref01_Holds_j3
    rw [if_pos]
    intro q' h1 h2
    simp at h; omega
  | x :: l, q, h, hd => by
    simp only [List.length_cons] at h
    have hx : x = t.getD q 0 := by
      rw [List.drop_eq_getElem_cons (by omega)] at hd
      rw [List.getD_eq_getElem?_getD, List.getElem?_eq_getElem (by omega)]
      exact (List.cons.inj hd).1.symm
    have hd2 : t.drop (q + 1) = l := by
      rw [List.drop_eq_getElem_cons (by omega)] at hd
      exact (List.cons.inj hd).2
    have ih := rholds_l4 ho ht hl hp rec2 l (q + 1) (by omega) hd2
    obtain ⟨v, hv, hv1, hv2⟩ := step_spec ho (p := (p : Int)) (q := (q : Int)) (by omega) (by omega)
    have hqr : R64 (t.getD q 0) := r64_get ht (by omega)
    have hpr : R64 (t.getD p 0) := r64_get ht (by omega)
    unfold oyezref01_Holds_l4
    rw [hv, b1_some, show ((q : Int) + 1) = ((q + 1 : Nat) : Int) from rfl, ih, hx, above_eq hqr hpr (by rcases hv1 with h | h <;> omega), b1_some]
    rw [Int.toNat_natCast] at hv1 hv2
    by_cases hb : 0 < v ∧ v < t.getD q 0 - t.getD p 0
    · rw [if_pos hb.1, b1_some, if_pos (decide_eq_true hb.2), if_neg]
      intro h1
      have h2 := hv1.resolve_left (by omega)
      have := h1 q (Nat.le_refl _) (by omega) v h2.2.2.2 h2.2.2.1
      omega
    · have hfalse : (b1 (if 0 < v then (some (decide (v < t.getD q 0 - t.getD p 0))) else (some false)) fun k => if k = true then some (false, (0 : Int)) else (if (∀ q' : Nat, q + 1 ≤ q' → q' < ps.length → ∀ m, ((q' : Int), m) ∈ nextL wide ps w p → ps.getD p 0 ≠ 2 → t.getD q' 0 - t.getD p 0 ≤ m) then rec2 ((p : Int) + 1) else some (false, 0))) = (if (∀ q' : Nat, q + 1 ≤ q' → q' < ps.length → ∀ m, ((q' : Int), m) ∈ nextL wide ps w p → ps.getD p 0 ≠ 2 → t.getD q' 0 - t.getD p 0 ≤ m) then rec2 ((p : Int) + 1) else some (false, 0)) := by
        by_cases hv0 : 0 < v
        · rw [if_pos hv0, b1_some, if_neg (fun h => hb ⟨hv0, of_decide_eq_true h⟩)]
        · rw [if_neg hv0, b1_some, if_neg (by decide)]
      rw [hfalse]
      have hiff : (∀ q' : Nat, q + 1 ≤ q' → q' < ps.length → ∀ m, ((q' : Int), m) ∈ nextL wide ps w p → ps.getD p 0 ≠ 2 → t.getD q' 0 - t.getD p 0 ≤ m) ↔ (∀ q' : Nat, q ≤ q' → q' < ps.length → ∀ m, ((q' : Int), m) ∈ nextL wide ps w p → ps.getD p 0 ≠ 2 → t.getD q' 0 - t.getD p 0 ≤ m) := by
        constructor
        · intro h1 q' h2 h3 m h4 h5
          by_cases he : q' = q
          · subst he
            have e := hv2 m h4 h5
            subst e
            have hE := nextL_ok ho _ _ _ h4
            omega
          · exact h1 q' (by omega) h3 m h4 h5
        · intro h1 q' h2; exact h1 q' (by omega)
      simp only [hiff]
theorem row_iff (ho : openE wide ps w = 0) {p : Nat} : rowB wide ps w t p = true ↔ ∀ q' : Nat, 0 ≤ q' → q' < ps.length → ∀ m, ((q' : Int), m) ∈ nextL wide ps w p → ps.getD p 0 ≠ 2 → t.getD q' 0 - t.getD p 0 ≤ m := by
  unfold rowB
  rw [Bool.or_eq_true, decide_eq_true_eq, List.all_eq_true]
  constructor
  · rintro (h | h) q' _ _ m hm hw
    · exact absurd h hw
    · have := of_decide_eq_true (h _ hm)
      simpa using this
  · intro h
    by_cases hw : ps.getD p 0 = 2
    · exact .inl hw
    · refine .inr fun x hx => decide_eq_true ?_
      have hE := nextL_ok ho _ _ _ hx
      have e : ((x.1.toNat : Nat) : Int) = x.1 := by omega
      exact h x.1.toNat (Nat.zero_le _) (by omega) x.2 (by rw [e]; exact hx) hw
theorem rholds_l2 (ho : openE wide ps w = 0) (ht : ∀ x ∈ t, R64 x) (hl : t.length = ps.length) : ∀ (l : List Int) (p : Nat), p + l.length = t.length → t.drop p = l → oyezref01_Holds_l2 wide ps w t l (p : Int) = some (decide (∀ p', p ≤ p' → p' < ps.length → rowB wide ps w t p' = true), 0)
  | [], p, h, _ => by
    unfold oyezref01_Holds_l2 oyezref01_Holds_j1
    rw [decide_eq_true]
    intro p' h1 h2
    simp at h; omega
  | x :: l, p, h, hd => by
    simp only [List.length_cons] at h
    have hx : x = t.getD p 0 := by
      rw [List.drop_eq_getElem_cons (by omega)] at hd
      rw [List.getD_eq_getElem?_getD, List.getElem?_eq_getElem (by omega)]
      exact (List.cons.inj hd).1.symm
    have hd2 : t.drop (p + 1) = l := by
      rw [List.drop_eq_getElem_cons (by omega)] at hd
      exact (List.cons.inj hd).2
    have ih := rholds_l2 ho ht hl l (p + 1) (by omega) hd2
    unfold oyezref01_Holds_l2
    have h4 : oyezref01_Holds_l4 wide ps w (p : Int) (t.getD p 0) (oyezref01_Holds_l2 wide ps w t l) t 0 = _ := rholds_l4 ho ht hl (p := p) (by omega) (oyezref01_Holds_l2 wide ps w t l) t 0 (by omega) rfl
    rw [hx, h4, show ((p : Int) + 1) = ((p + 1 : Nat) : Int) from rfl, ih]
    simp only [← row_iff ho (t := t) (p := p)]
    by_cases hb : rowB wide ps w t p = true
    · rw [if_pos hb]
      congr 2; rw [decide_eq_decide]
      constructor
      · intro h1 p' h2 h3
        by_cases he : p' = p
        · rw [he]; exact hb
        · exact h1 p' (by omega) h3
      · intro h1 p' h2 h3; exact h1 p' (by omega) h3
    · rw [if_neg hb]
      congr 2; symm; rw [decide_eq_false_iff_not]
      intro h1; exact hb (h1 p (Nat.le_refl _) (by omega))
theorem rHolds_eq (hn : ps.length ≤ 1000) (ht : ∀ x ∈ t, R64 x) (stand : Int) : oyezref01_Holds wide ps w stand t = some (hldB wide ps w stand t, hldE wide ps w stand t) := by
  unfold oyezref01_Holds hldB hldE
  rw [rstand_eq hn, b1_some]
  by_cases h : standE wide ps w stand = 0
  · obtain ⟨ho, hs, _⟩ := standE_ok h
    rw [if_neg (not_not_intro h)]
    by_cases hl : (t.length : Int) = ps.length
    · rw [if_neg (not_not_intro hl), ix_get _ hs.1 (by omega)]
      by_cases h0 : t.getD stand.toNat 0 = 0
      · rw [if_neg (not_not_intro h0)]
        have this : oyezref01_Holds_l2 wide ps w t t 0 = _ := rholds_l2 ho ht (by omega) t 0 (by omega) rfl
        rw [this]
        simp only [h, hl, h0, true_and, ne_eq, not_true_eq_false, if_false]
      · rw [if_pos h0]
        simp only [h, hl, h0, false_and, and_false, decide_false, ne_eq, not_true_eq_false, if_false]
    · rw [if_pos hl]
      simp only [h, hl, false_and, and_false, decide_false, ne_eq, not_true_eq_false, not_false_eq_true, if_false, if_true]
  · rw [if_pos h]
    simp only [h, false_and, decide_false, ne_eq, not_false_eq_true, if_true]
end

theorem awake_t : oyezlaw01_awake = some true := by decide +kernel

theorem needs_true {wide : Int} {ps : List Int} {w stand plot : Int} {t : List Int} (ht : ∀ x ∈ t, R64 x) : oyezlaw01_HearNeeds wide ps w stand plot t = some true := by
  unfold oyezlaw01_HearNeeds
  rw [great_eq, b1_some, awake_t, b1_some]
  by_cases h1 : 40 < (ps.length : Int)
  · rw [if_pos (decide_eq_true h1), b1_some, if_pos rfl]
  rw [if_neg (fun h => h1 (of_decide_eq_true h)), b1_some]
  by_cases h2 : 40 < (t.length : Int)
  · rw [if_pos (decide_eq_true h2)]
  rw [if_neg (fun h => h2 (of_decide_eq_true h)), own_eq (by omega), b2_some, copy_eq (by omega), b1_some, theirs_eq (by omega), b2_some]
  rw [Need_eq (by omega), b2_some, rNeed_eq (by omega), b2_some, if_neg (not_not_intro rfl), b1_some, if_neg (by simp)]
  rw [Needs_eq (by omega), b2_some, rNeeds_eq (by omega), b2_some, if_neg (not_not_intro rfl), like_eq, b1_some, b1_some, if_neg (by simp)]
  rw [Holds_eq (by omega) ht, b2_some, rHolds_eq (by omega) ht, b2_some, if_pos rfl, if_pos rfl, same_eq, b1_some, if_pos rfl, like_eq, b1_some, if_pos (by simp)]
end Go.Proofs.Ytdnmaodkdhdacaa
