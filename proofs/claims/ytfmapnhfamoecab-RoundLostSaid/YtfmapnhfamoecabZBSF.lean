/- The table of walks that a beat opens with; in plain Lean. -/
import Derived.Test.YtfmapnhfamoecabZBSE
namespace Go.Proofs.Ytfmapnhfamoecab.Rd
open Go.PL
/-- The walks of a beat as a table. -/
def E0 (ws : List (List Int)) (i k : Nat) : Int := if i < ws.length ∧ k < ws.length then (ws.getD i []).getD k 0 else -1
section
variable {ws hs : List (List Int)} {H st : Int} {ns : List (List Int × Int × Int)}
theorem open_l2 (h : BtOK ws hs H st ns) {i : Nat} (hi : i < 5) : ∀ (fu k : Nat) (out : List Int), k + fu = 5 → out.length = 25 → (∀ i' k', i' < 5 → k' < 5 → i' < i ∨ (i' = i ∧ k' < k) → en out i' k' = E0 ws i' k') →
    ∃ out', round_opened_l2 ws (i : Int) fu (k : Int) out = some out' ∧ out'.length = 25 ∧ ∀ i' k', i' < 5 → k' < 5 → i' < i + 1 → en out' i' k' = E0 ws i' k'
  | 0, k, out, hk, ho, he => ⟨out, rfl, ho, fun i' k' h1 h2 h3 => he i' k' h1 h2 (by omega)⟩
  | fu + 1, k, out, hk, ho, he => by
    have hk5 : k < 5 := by omega
    have hw := h.hw
    have e2 : (i : Int) * 5 + (k : Int) = ((i * 5 + k : Nat) : Int) := by omega
    have hol : (out.set (i * 5 + k) (-1)).length = 25 := by rw [List.length_set]; exact ho
    unfold round_opened_l2
    rw [gd_t (by omega), gd_t (by omega), ixE ho hi hk5, bvE, e2, Int.toNat_natCast]
    have step : ∀ out2 : List Int, out2.length = 25 → (∀ i' k', i' < 5 → k' < 5 → en out2 i' k' = if i = i' ∧ k = k' then E0 ws i k else en out i' k') →
        ∃ out', round_opened_l2 ws (i : Int) fu ((k : Int) + 1) out2 = some out' ∧ out'.length = 25 ∧ ∀ i' k', i' < 5 → k' < 5 → i' < i + 1 → en out' i' k' = E0 ws i' k' := by
      intro out2 hl hv
      refine open_l2 h hi fu (k + 1) out2 (by omega) hl fun i' k' h1 h2 h3 => ?_
      rw [hv i' k' h1 h2]
      by_cases c : i = i' ∧ k = k'
      · rw [if_pos c, c.1, c.2]
      · rw [if_neg c]; exact he i' k' h1 h2 (by omega)
    by_cases c : i < ws.length ∧ k < ws.length
    · have hr := (h.row i c.1).1
      rw [if_pos (by omega), decide_eq_true (by omega), b1_some, if_pos rfl, ixN [] _ c.1, ixN 0 _ (by omega), gd_t (by omega), gd_t (by omega), ← e2, ixE hol hi hk5, bvE, List.set_set]
      refine step _ (by rw [List.length_set]; exact ho) fun i' k' h1 h2 => ?_
      rw [en_set ho hi hk5 h1 h2]
      unfold E0
      rw [if_pos c]
    · have e3 : (if (i : Int) < (ws.length : Int) then some (decide ((k : Int) < (ws.length : Int))) else some false) = some false := by
        by_cases d : i < ws.length
        · rw [if_pos (by omega), decide_eq_false (by omega)]
        · rw [if_neg (by omega)]
      rw [e3, b1_some, if_neg (by decide)]
      refine step _ hol fun i' k' h1 h2 => ?_
      rw [en_set ho hi hk5 h1 h2]
      unfold E0
      rw [if_neg c]
theorem open_l1 (h : BtOK ws hs H st ns) : ∀ (fu i : Nat) (out : List Int), i + fu = 5 → out.length = 25 → (∀ i' k', i' < 5 → k' < 5 → i' < i → en out i' k' = E0 ws i' k') →
    ∃ out', round_opened_l1 ws fu (i : Int) out = some out' ∧ out'.length = 25 ∧ ∀ i' k', i' < 5 → k' < 5 → en out' i' k' = E0 ws i' k'
  | 0, i, out, hi, ho, he => ⟨out, rfl, ho, fun i' k' h1 h2 => he i' k' h1 h2 (by omega)⟩
  | fu + 1, i, out, hi, ho, he => by
    unfold round_opened_l1
    obtain ⟨out', e1, h1, h2⟩ := open_l2 h (i := i) (by omega) 5 0 out rfl ho (fun i' k' d1 d2 d3 => he i' k' d1 d2 (by omega))
    have e1' : round_opened_l2 ws (i : Int) (Int.toNat (5 - 0)) 0 out = some out' := e1
    rw [gd_t ⟨r64_small (by omega), r64_small (by omega)⟩, e1', b1_some]
    exact open_l1 h fu (i + 1) out' (by omega) h1 h2
/-- The table of the quickest walks is made. -/
theorem walks_ok (h : BtOK ws hs H st ns) : ∃ c0 a c, round_opened_l1 ws (Int.toNat (5 - 0)) 0 (List.replicate 25 0) = some c0 ∧ round_walks_through c0 = some a ∧ round_opened_l3 FU c0 a = some c ∧ Fin5 hs.length c := by
  obtain ⟨c0, e1, h1, h2⟩ := open_l1 h 5 0 (List.replicate 25 0) rfl (by simp) (fun i' k' _ _ d => absurd d (by omega))
  have e1' : round_opened_l1 ws (Int.toNat (5 - 0)) 0 (List.replicate 25 0) = some c0 := e1
  have hw := h.hw
  have hv : ∀ i k, i < 5 → k < 5 → (i < hs.length ∧ k < hs.length → WOK i k (en c0 i k)) ∧ (¬ (i < hs.length ∧ k < hs.length) → en c0 i k = -1) := fun i k d1 d2 => by
    rw [h2 i k d1 d2]
    unfold E0
    rw [hw]
    refine ⟨fun c => ?_, fun c => by rw [if_neg c]⟩
    rw [if_pos c]
    exact (h.row i (by omega)).2 k c.2
  have hT : TOK c0 ((20 : Nat) : Int) := ⟨h1, fun i k d1 d2 => by
    by_cases c : i < hs.length ∧ k < hs.length
    · have := (hv i k d1 d2).1 c
      by_cases e : i = k
      · have := this.1 e; omega
      · have := this.2 e; omega
    · exact .inl ((hv i k d1 d2).2 c)⟩
  have hS : Shp hs.length c0 := ⟨fun i d1 d2 => ((hv i i d2 d2).1 ⟨d1, d1⟩).1 rfl, fun i k d1 d2 d3 => (hv i k d1 d2).2 d3, fun i k d1 d2 d3 => by
    by_cases c : i < hs.length ∧ k < hs.length
    · have := ((hv i k d1 d2).1 c).2 d3; omega
    · exact .inl ((hv i k d1 d2).2 c)⟩
  have hg : sm gW c0 ≤ 25 := by
    have := sm_bd (F := gW) (M := 1) c0 fun e _ => by unfold gW; split <;> omega
    omega
  have hf : sm fW c0 < FU := by
    have : sm fW c0 ≤ c0.length * 1000000000000 := sm_bd (F := fW) (M := 1000000000000) c0 fun e he => by
      obtain ⟨q, hq, rfl⟩ := List.getElem_of_mem he
      have := hT.2 (q / 5) (q % 5) (by omega) (by omega)
      rw [en_div, List.getD_eq_getElem?_getD, List.getElem?_eq_getElem hq, Option.getD_some] at this
      unfold fW; split <;> omega
    rw [h1] at this
    have hF : FU = 18446744073709551616 := rfl
    omega
  have h2p : 20 ≤ 20 * 2 ^ (25 - sm gW c0) := by
    have : 1 ≤ (2 : Nat) ^ (25 - sm gW c0) := Nat.one_le_two_pow
    omega
  obtain ⟨a, e2, g1, g2⟩ := through_ok hT (by omega)
  obtain ⟨r, e3, hr⟩ := fix_ok FU c0 a 20 hT h2p hg hS g1 g2 hf
  exact ⟨c0, a, r, e1', e2, e3, hr⟩
end
end Go.Proofs.Ytfmapnhfamoecab.Rd
