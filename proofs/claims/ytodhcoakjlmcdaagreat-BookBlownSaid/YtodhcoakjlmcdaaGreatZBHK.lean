/- Layer 1: who hears whom; HearHouses. -/
import Derived.Test.YtodhcoakjlmcdaaGreatZBHI
namespace Go.Proofs.YtodhcoakjlmcdaaGreat
open Go.PL Go.Hear
/-- The numbers below n of which P is so. -/
def lstN (P : Nat → Bool) (n : Nat) : List Int := ((List.range n).filter P).map Int.ofNat
theorem lstN_succ (P : Nat → Bool) (n : Nat) : lstN P (n + 1) = lstN P n ++ if P n = true then [(n : Int)] else [] := by
  unfold lstN
  rw [List.range_succ, List.filter_append, List.map_append]
  cases h : P n <;> simp [h]
theorem lstN_len (P : Nat → Bool) (n : Nat) : (lstN P n).length ≤ n := by
  unfold lstN
  rw [List.length_map]
  exact Nat.le_trans (List.length_filter_le ..) (by simp)
theorem lstN_congr {P Q : Nat → Bool} {n : Nat} (h : ∀ i, i < n → P i = Q i) : lstN P n = lstN Q n := by
  unfold lstN
  congr 1
  exact List.filter_congr fun i hi => h i (List.mem_range.1 hi)
theorem lstN_mem {P : Nat → Bool} {n : Nat} {x : Int} : x ∈ lstN P n ↔ (0 ≤ x ∧ x < n) ∧ P x.toNat = true := by
  unfold lstN
  rw [List.mem_map]
  constructor
  · rintro ⟨i, hi, rfl⟩
    obtain ⟨h1, h2⟩ := List.mem_filter.1 hi
    have := List.mem_range.1 h1
    exact ⟨⟨Int.natCast_nonneg i, by show (i : Int) < n; omega⟩, h2⟩
  · rintro ⟨h1, h2⟩
    exact ⟨x.toNat, List.mem_filter.2 ⟨List.mem_range.2 (by omega), h2⟩, by show ((x.toNat : Nat) : Int) = x; omega⟩
section
variable {wide : Int} {ps : List Int} {w v : Int}
/-- A house hears a stand. -/
def hrB (wide : Int) (ps : List Int) (w v : Int) (s p : Nat) : Bool := decide (ps.getD s 0 = 0) && (decide (ps.getD p 0 = 1) && decide (0 ≤ (tb wide ps w s).getD p 0 ∧ (tb wide ps w s).getD p 0 ≤ v))
def hrT (ps T : List Int) (v : Int) (p : Nat) : Bool := decide (ps.getD p 0 = 1) && decide (0 ≤ T.getD p 0 ∧ T.getD p 0 ≤ v)
theorem hrB_st {s : Nat} (h : ps.getD s 0 = 0) (p : Nat) : hrB wide ps w v s p = hrT ps (tb wide ps w s) v p := by
  unfold hrB hrT; rw [decide_eq_true h, Bool.true_and]
def airE (wide : Int) (ps : List Int) (w v : Int) : Int := if chk wide ps ≠ 0 then chk wide ps else chkA w v
theorem airE_ok (h : airE wide ps w v = 0) : chk wide ps = 0 ∧ chkA w v = 0 ∧ openE wide ps w = 0 ∧ 1 ≤ v ∧ v ≤ 40 := by
  unfold airE at h
  by_cases h1 : chk wide ps = 0
  · rw [if_neg (not_not_intro h1)] at h
    have h2 := h
    unfold chkA at h2
    by_cases h3 : (¬ okW w) ∨ ¬ (1 ≤ v ∧ v ≤ 40)
    · rw [if_pos h3] at h2; cases h2
    · have h4 : okW w := Classical.byContradiction fun h => h3 (.inl h)
      have h5 : 1 ≤ v ∧ v ≤ 40 := Classical.byContradiction fun h => h3 (.inr h)
      exact ⟨h1, h, openE_of h1 h4, h5.1, h5.2⟩
  · rw [if_pos h1] at h; exact absurd h h1
theorem houses_l1 {T : List Int} (hl : T.length = ps.length) (hn : ps.length ≤ 1000) : ∀ (r : List Int) (k : Nat), T.drop k = r → k ≤ ps.length → hear_Houses_l1 ps v r (k : Int) (lstN (hrT ps T v) k) = some (lstN (hrT ps T v) ps.length)
  | [], k, hr, hk => by
    have h := congrArg List.length hr
    rw [List.length_drop, List.length_nil] at h
    have : k = ps.length := by omega
    subst this; rfl
  | x :: r, k, hr, _ => by
    obtain ⟨hk, hx, hr'⟩ := drop_get hr
    have ih := houses_l1 hl hn r (k + 1) hr' (by omega)
    have hlen := lstN_len (hrT ps T v) k
    have e : (if ps.getD (k : Int).toNat 0 = 1 then b1 (hear_in x 0 v) fun ok => some ok else some false) = some (hrT ps T v k) := by
      rw [in_eq, b1_some, Int.toNat_natCast]
      unfold hrT
      rw [hx]
      by_cases h : ps.getD k 0 = 1
      · rw [if_pos h, decide_eq_true h, Bool.true_and]
      · rw [if_neg h, decide_eq_false h, Bool.false_and]
    unfold hear_Houses_l1
    rw [ix_get _ (by omega) (by omega), e, b1_some, show ((k : Int) + 1) = ((k + 1 : Nat) : Int) from rfl, ← ih]
    rw [lstN_succ]
    cases h : hrT ps T v k with
    | true => rw [if_pos rfl, if_pos rfl, ap_t (by simp; omega)]
    | false => rw [if_neg (by decide), if_neg (by decide), List.append_nil]
def housE (wide : Int) (ps : List Int) (w v stand : Int) : Int := if airE wide ps w v ≠ 0 then airE wide ps w v else isE ps stand 0
theorem Houses_eq (hn : ps.length ≤ 1000) (stand : Int) : hear_Houses wide ps w v stand = some (if housE wide ps w v stand = 0 then lstN (hrB wide ps w v stand.toNat) ps.length else [], housE wide ps w v stand) := by
  unfold hear_Houses housE
  rw [check_eq hn, b1_some]
  by_cases h : airE wide ps w v = 0
  · obtain ⟨h1, h2, ho, _⟩ := airE_ok h
    rw [if_neg (not_not_intro h1), checkAir_eq, b1_some, if_neg (not_not_intro h2), Needs_eq hn, b2_some, if_neg (not_not_intro h)]
    have hst : standE wide ps w stand = isE ps stand 0 := by unfold standE; rw [if_neg (not_not_intro ho)]
    rw [hst]
    by_cases h3 : isE ps stand 0 = 0
    · obtain ⟨hs, hk⟩ := isE_ok' h3
      rw [if_neg (not_not_intro h3), if_pos h3, if_pos h3]
      have h4 := houses_l1 (v := v) (tb_ok ho hs).len hn (tb wide ps w stand) 0 rfl (Nat.zero_le _)
      have h5 : hear_Houses_l1 ps v (tb wide ps w stand) 0 [] = _ := h4
      rw [h5, b1_some, h3]
      congr 2
      refine lstN_congr fun p _ => ?_
      rw [hrB_st hk, Int.toNat_of_nonneg hs.1]
    · rw [if_pos h3, if_neg h3]
  · by_cases h1 : chk wide ps = 0
    · have h2 : airE wide ps w v = chkA w v := by unfold airE; rw [if_neg (not_not_intro h1)]
      rw [h2] at h ⊢
      rw [if_neg (not_not_intro h1), checkAir_eq, b1_some, if_pos h, if_pos h, if_neg h]
    · have h2 : airE wide ps w v = chk wide ps := by unfold airE; rw [if_pos h1]
      rw [h2, if_pos h1, if_pos h1, if_neg h1]
end
end Go.Proofs.YtodhcoakjlmcdaaGreat
