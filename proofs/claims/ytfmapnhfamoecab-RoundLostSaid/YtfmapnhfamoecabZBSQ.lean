/- The round that ends first is read out of the table; in plain Lean. -/
import Derived.Test.YtfmapnhfamoecabZBSP
namespace Go.Proofs.Ytfmapnhfamoecab.Rd
open Go.PL
section
variable {c : List Int} {ns : List (List Int × Int × Int)} {hit : List Int} {bd : Nat → Int} {S : Nat} {start : Int} {v0 : Nat} {met : Met}
theorem serve_l5 (hi : Inv c ns hit bd S start v0 0 met) : ∀ (m fu : Nat) (s : Int) (v : Nat) (r : Rec) (out : List (Int × Int)), v0 - v ≤ m → m < fu → out.length + m ≤ 1000 → v ≤ v0 → mget met (s, (v : Int)) = some r →
    ∃ l, Pth c ns hit bd S start v0 l s v r.1 ∧ round_crier_serve_l5 (v0 : Int) met fu s (v : Int) out = some (out ++ l.reverse)
  | m, 0, s, v, r, out, _, hf, _, _, _ => by omega
  | m, fu + 1, s, v, r, out, hm, hf, hl, hv, hr => by
    unfold round_crier_serve_l5
    by_cases e : v = v0
    · subst e
      obtain ⟨e1, e2⟩ := hi.last hr
      rw [if_neg (not_not_intro rfl)]
      exact ⟨[], by rw [e1, e2]; exact .nil, by simp⟩
    · rw [if_pos (by omega), hr]
      rcases hi.sound _ r hr with ⟨e1, h0⟩ | ⟨v', k, s', n, y, _, hk, hst, e1, e2⟩
      · have := (Prod.mk.inj e1).2
        omega
      · obtain ⟨_, ⟨u, e3, e4, _⟩, _⟩ := hi.rng _ _ hst.1
        have h2 := dif_le v' (hb hit s' n)
        have h3 := hst.2.2.2.1
        obtain ⟨e5, e6⟩ := Prod.mk.inj e1
        have e3' : (v' : Int) = (u : Int) := e3
        obtain rfl : v = dif v' (hb hit s' n) := by omega
        cases m with
        | zero => omega
        | succ m =>
          subst e2
          obtain ⟨l, hp, hq⟩ := serve_l5 hi m fu (k : Int) v' y (out ++ [((s' : Int), (n : Int))]) (by omega) (by omega) (by simp; omega) (by omega) hst.1
          refine ⟨l ++ [((s' : Int), (n : Int))], ?_, ?_⟩
          · rw [e5]; exact .snoc hp hk hst.2.1 hst.2.2.1 h3 hst.2.2.2.2
          · rw [ap_t (by simp; omega)]
            show round_crier_serve_l5 (v0 : Int) met fu (k : Int) (v' : Int) (out ++ [((s' : Int), (n : Int))]) = _
            rw [hq]; simp
/-- The soonest of some stands at which nothing is left. -/
def Soon (met : Met) (j : Nat) (es mn : Int) : Prop := (mn = -1 ∧ ∀ k : Nat, k < j → mget met ((k : Int), 0) = none) ∨ ((∃ r, mget met (es, 0) = some r ∧ r.1 = mn) ∧ 0 ≤ mn ∧ ∀ (k : Nat) (r : Rec), k < j → mget met ((k : Int), 0) = some r → mn ≤ r.1)
theorem serve_l4 (h0 : ∀ (k : Nat) (r : Rec), mget met ((k : Int), 0) = some r → 0 ≤ r.1) {hs : List (List Int)} : ∀ (tl : List (List Int)) (j : Nat) (es mn : Int), hs.drop j = tl → Soon met j es mn → j ≤ hs.length →
    ∃ es' mn', round_crier_serve_l4 met tl (j : Int) es mn = some (es', mn') ∧ Soon met hs.length es' mn'
  | [], j, es, mn, hd, hs', hj => by
    have : hs.length = j := by
      have := congrArg List.length hd
      rw [List.length_drop, List.length_nil] at this; omega
    exact ⟨es, mn, rfl, by rw [this]; exact hs'⟩
  | x :: tl, j, es, mn, hd, hs', _ => by
    obtain ⟨hj, hx, hd2⟩ := drop_cons [] hd
    unfold round_crier_serve_l4
    cases hm : mget met ((j : Int), 0) with
    | none =>
      rw [if_neg (by simp), b1_some, if_neg (by decide)]
      refine serve_l4 h0 tl (j + 1) es mn hd2 ?_ hj
      rcases hs' with ⟨a, b⟩ | ⟨a, b, d⟩
      · refine .inl ⟨a, fun k hk => ?_⟩
        by_cases e : k = j
        · rw [e]; exact hm
        · exact b k (by omega)
      · refine .inr ⟨a, b, fun k r hk hr => ?_⟩
        by_cases e : k = j
        · rw [e, hm] at hr; cases hr
        · exact d k r (by omega) hr
    | some r0 =>
      have hr0 := h0 j r0 hm
      have take : (∀ (k : Nat) (r : Rec), k < j → mget met ((k : Int), 0) = some r → r0.1 ≤ r.1) → ∃ es' mn', round_crier_serve_l4 met tl ((j : Int) + 1) (j : Int) r0.1 = some (es', mn') ∧ Soon met hs.length es' mn' := fun hle =>
        serve_l4 h0 tl (j + 1) (j : Int) r0.1 hd2 (.inr ⟨⟨r0, hm, rfl⟩, hr0, fun k r hk hr => by
          by_cases e : k = j
          · rw [e, hm] at hr
            rw [Option.some.inj hr]; exact Int.le_refl _
          · exact hle k r (by omega) hr⟩) hj
      rw [if_pos (by simp)]
      rcases hs' with ⟨a, b⟩ | ⟨a, b, d⟩
      · rw [if_pos a, b1_some, if_pos rfl, bvE]
        exact take fun k r hk hr => by rw [b k hk] at hr; cases hr
      · rw [if_neg (by omega), b1_some]
        by_cases e : r0.1 < mn
        · rw [if_pos (show decide (((some r0).getD (0, 0, 0, 0, 0)).1 < mn) = true from decide_eq_true e), bvE]
          exact take fun k r hk hr => by have := d k r hk hr; omega
        · rw [if_neg (show ¬ decide (((some r0).getD (0, 0, 0, 0, 0)).1 < mn) = true from fun hd => e (of_decide_eq_true hd))]
          refine serve_l4 h0 tl (j + 1) es mn hd2 (.inr ⟨a, b, fun k r hk hr => ?_⟩) hj
          by_cases e2 : k = j
          · rw [e2, hm] at hr
            have := Option.some.inj hr
            subst this; omega
          · exact d k r (by omega) hr
end
end Go.Proofs.Ytfmapnhfamoecab.Rd
