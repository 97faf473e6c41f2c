/- A place from which cries are tried; in plain Lean. -/
import Derived.Test.YtfmapnhfamoecabZBSL
namespace Go.Proofs.Ytfmapnhfamoecab.Rd
open Go.PL
/-- What is told of a place: the minute, the cry, the place before. -/
abbrev Rec := Int × Int × Int × Int × Int
abbrev Met := List ((Int × Int) × Rec)
/-- How long a notice is. -/
def wrd (ns : List (List Int × Int × Int)) (n : Nat) : Int := (ns.getD n ([], 0, 0)).2.1
/-- A cry at a stand, from a place, at a minute, is in time. -/
def Val (c : List Int) (ns : List (List Int × Int × Int)) (bd : Nat → Int) (t : Int) (k s n : Nat) : Prop := en c k s ≠ -1 ∧ t + en c k s + wrd ns n ≤ bd n
section
variable {hs : List (List Int)} {ns : List (List Int × Int × Int)} {c : List Int} {H : Int} {S : Nat} {bd : Nat → Int} {ok : Int × Int → Option Bool}
theorem serve_l3 (hc : Fin5 S c) (hw : ∀ x ∈ ns, NOK H x) (hok : ∀ (n : Nat) (m : Int), n < ns.length → ok ((n : Int), m) = some (decide (m ≤ bd n))) {left_ : Int} {met5 : Met} {k : Nat} (hk : k < 5) {y : Rec} (hy : mget met5 ((k : Int), left_) = some y) (hy0 : 0 ≤ y.1 ∧ y.1 ≤ 1000) : ∀ (tl : List ((Int × Int) × Int)) (met7 : Met), (∀ x ∈ tl, ∃ s n : Nat, s < 5 ∧ n < ns.length ∧ x.1 = ((s : Int), (n : Int))) →
    ∃ met', round_crier_serve_l3 ns c ok left_ met5 (k : Int) tl met7 = some met' ∧
      (∀ key : Int × Int, (∀ x ∈ tl, (x.1.1, x.2) ≠ key) → mget met' key = mget met7 key) ∧
      (∀ (key : Int × Int) (r : Rec), mget met' key = some r → mget met7 key = some r ∨ ∃ x ∈ tl, ∃ s n : Nat, x.1 = ((s : Int), (n : Int)) ∧ n < ns.length ∧ s < 5 ∧ Val c ns bd y.1 k s n ∧ key = ((s : Int), x.2) ∧ r = (y.1 + en c k s + wrd ns n, (s : Int), (n : Int), (k : Int), left_)) ∧
      (∀ (key : Int × Int) (r : Rec), mget met7 key = some r → ∃ r', mget met' key = some r' ∧ r'.1 ≤ r.1) ∧
      (∀ x ∈ tl, ∀ s n : Nat, x.1 = ((s : Int), (n : Int)) → Val c ns bd y.1 k s n → ∃ r', mget met' ((s : Int), x.2) = some r' ∧ r'.1 ≤ y.1 + en c k s + wrd ns n)
  | [], met7, _ => ⟨met7, rfl, fun _ _ => rfl, fun _ _ h => .inl h, fun _ r h => ⟨r, h, Int.le_refl _⟩, fun _ h => (nomatch h)⟩
  | x :: tl, met7, hx => by
    obtain ⟨s, n, hs5, hn, e⟩ := hx x (by simp)
    have hx2 : ∀ z ∈ tl, ∃ s n : Nat, s < 5 ∧ n < ns.length ∧ z.1 = ((s : Int), (n : Int)) := fun z hz => hx z (List.mem_cons_of_mem _ hz)
    have hN := hw _ (getD_mem (d := ([], 0, 0)) hn)
    have hwr : 1 ≤ wrd ns n ∧ wrd ns n ≤ 5 := hN.2.1
    have hr := hc.rng k s hk hs5
    have e1 : x.1.1 = (s : Int) := by rw [e]
    have e2 : x.1.2 = (n : Int) := by rw [e]
    have hg : ((mget met5 ((k : Int), left_)).getD (0, 0, 0, 0, 0)).1 = y.1 := by rw [hy]; rfl
    -- what follows when this cry changes nothing
    have skip : (Val c ns bd y.1 k s n → ∃ r', mget met7 ((s : Int), x.2) = some r' ∧ r'.1 ≤ y.1 + en c k s + wrd ns n) →
        ∃ met', round_crier_serve_l3 ns c ok left_ met5 (k : Int) tl met7 = some met' ∧
          (∀ key : Int × Int, (∀ z ∈ x :: tl, (z.1.1, z.2) ≠ key) → mget met' key = mget met7 key) ∧
          (∀ (key : Int × Int) (r : Rec), mget met' key = some r → mget met7 key = some r ∨ ∃ z ∈ x :: tl, ∃ s n : Nat, z.1 = ((s : Int), (n : Int)) ∧ n < ns.length ∧ s < 5 ∧ Val c ns bd y.1 k s n ∧ key = ((s : Int), z.2) ∧ r = (y.1 + en c k s + wrd ns n, (s : Int), (n : Int), (k : Int), left_)) ∧
          (∀ (key : Int × Int) (r : Rec), mget met7 key = some r → ∃ r', mget met' key = some r' ∧ r'.1 ≤ r.1) ∧
          (∀ z ∈ x :: tl, ∀ s n : Nat, z.1 = ((s : Int), (n : Int)) → Val c ns bd y.1 k s n → ∃ r', mget met' ((s : Int), z.2) = some r' ∧ r'.1 ≤ y.1 + en c k s + wrd ns n) := by
      intro hv
      obtain ⟨met', g0, g1, g2, g3, g4⟩ := serve_l3 hc hw hok hk hy hy0 tl met7 hx2
      refine ⟨met', g0, fun key h => g1 key fun z hz => h z (by simp [hz]), fun key r h => ?_, g3, fun z hz s' n' ez hval => ?_⟩
      · rcases g2 key r h with h1 | ⟨z, hz, h1⟩
        · exact .inl h1
        · exact .inr ⟨z, by simp [hz], h1⟩
      · rcases List.mem_cons.1 hz with rfl | hz
        · have ee := e.symm.trans ez
          obtain ⟨es, en'⟩ := Prod.mk.inj ee
          obtain rfl : s = s' := by omega
          obtain rfl : n = n' := by omega
          obtain ⟨r1, h1, h2⟩ := hv hval
          obtain ⟨r2, h3, h4⟩ := g3 _ _ h1
          exact ⟨r2, h3, by omega⟩
        · exact g4 z hz s' n' ez hval
    -- what follows when it is written down
    have put : Val c ns bd y.1 k s n → (∀ r0, mget met7 ((s : Int), x.2) = some r0 → y.1 + en c k s + wrd ns n ≤ r0.1) →
        ∃ met', round_crier_serve_l3 ns c ok left_ met5 (k : Int) tl (mput met7 ((s : Int), x.2) (y.1 + en c k s + wrd ns n, (s : Int), (n : Int), (k : Int), left_)) = some met' ∧
          (∀ key : Int × Int, (∀ z ∈ x :: tl, (z.1.1, z.2) ≠ key) → mget met' key = mget met7 key) ∧
          (∀ (key : Int × Int) (r : Rec), mget met' key = some r → mget met7 key = some r ∨ ∃ z ∈ x :: tl, ∃ s n : Nat, z.1 = ((s : Int), (n : Int)) ∧ n < ns.length ∧ s < 5 ∧ Val c ns bd y.1 k s n ∧ key = ((s : Int), z.2) ∧ r = (y.1 + en c k s + wrd ns n, (s : Int), (n : Int), (k : Int), left_)) ∧
          (∀ (key : Int × Int) (r : Rec), mget met7 key = some r → ∃ r', mget met' key = some r' ∧ r'.1 ≤ r.1) ∧
          (∀ z ∈ x :: tl, ∀ s n : Nat, z.1 = ((s : Int), (n : Int)) → Val c ns bd y.1 k s n → ∃ r', mget met' ((s : Int), z.2) = some r' ∧ r'.1 ≤ y.1 + en c k s + wrd ns n) := by
      intro hval hle
      obtain ⟨met', g0, g1, g2, g3, g4⟩ := serve_l3 hc hw hok hk hy hy0 tl (mput met7 ((s : Int), x.2) (y.1 + en c k s + wrd ns n, (s : Int), (n : Int), (k : Int), left_)) hx2
      have gn : ∃ r', mget met' ((s : Int), x.2) = some r' ∧ r'.1 ≤ y.1 + en c k s + wrd ns n := by
        obtain ⟨r', h1, h2⟩ := g3 ((s : Int), x.2) _ (by rw [mget_mput, if_pos rfl])
        exact ⟨r', h1, h2⟩
      refine ⟨met', g0, fun key h => ?_, fun key r h => ?_, fun key r h => ?_, fun z hz s' n' ez hv2 => ?_⟩
      · rw [g1 key fun z hz => h z (List.mem_cons_of_mem _ hz), mget_mput, if_neg]
        intro he
        exact h x (List.mem_cons_self ..) (by rw [e1]; exact he)
      · rcases g2 key r h with h1 | ⟨z, hz, h1⟩
        · rw [mget_mput] at h1
          by_cases d : ((s : Int), x.2) = key
          · rw [if_pos d] at h1
            exact .inr ⟨x, List.mem_cons_self .., s, n, e, hn, hs5, hval, d.symm, (Option.some.inj h1).symm⟩
          · rw [if_neg d] at h1; exact .inl h1
        · exact .inr ⟨z, List.mem_cons_of_mem _ hz, h1⟩
      · by_cases d : ((s : Int), x.2) = key
        · subst d
          obtain ⟨r', h1, h2⟩ := gn
          exact ⟨r', h1, Int.le_trans h2 (hle r h)⟩
        · exact g3 key r (by rw [mget_mput, if_neg d]; exact h)
      · rcases List.mem_cons.1 hz with rfl | hz
        · have ee := e.symm.trans ez
          obtain ⟨es, en'⟩ := Prod.mk.inj ee
          obtain rfl : s = s' := by omega
          obtain rfl : n = n' := by omega
          exact gn
        · exact g4 z hz s' n' ez hv2
    unfold round_crier_serve_l3
    rw [e1, e2, hg, gd_t (by omega), gd_t (by omega), ixE hc.len hk hs5]
    by_cases c1 : en c k s = -1
    · rw [if_pos c1]
      exact skip fun hval => absurd c1 hval.1
    · rw [if_neg c1, gd_t (r64_small' (by omega)), ixN ([], 0, 0) _ hn]
      show ∃ met', gd (R64 (y.1 + en c k s + wrd ns n)) _ = some met' ∧ _
      rw [gd_t (r64_small' (by omega)), bvE]
      show ∃ met', b1 (b1 (ok ((n : Int), y.1 + en c k s + wrd ns n)) _) _ = some met' ∧ _
      rw [hok n _ hn, b1_some]
      by_cases c2 : y.1 + en c k s + wrd ns n ≤ bd n
      · rw [if_pos (decide_eq_true c2)]
        cases hm : mget met7 ((s : Int), x.2) with
        | some r0 =>
          rw [if_neg (by simp), b1_some]
          by_cases c3 : y.1 + en c k s + wrd ns n < r0.1
          · have c3' : decide (y.1 + en c k s + (ns.getD n ([], 0, 0)).2.1 < ((some r0).getD (0, 0, 0, 0, 0)).1) = true := decide_eq_true c3
            rw [if_pos c3', bvE]
            exact put ⟨c1, c2⟩ fun r1 h1 => by
              rw [hm] at h1
              obtain rfl := Option.some.inj h1
              exact Int.le_of_lt c3
          · have c3' : ¬ decide (y.1 + en c k s + (ns.getD n ([], 0, 0)).2.1 < ((some r0).getD (0, 0, 0, 0, 0)).1) = true := fun hd => c3 (of_decide_eq_true hd)
            rw [if_neg c3']
            exact skip fun _ => ⟨r0, hm, by omega⟩
        | none =>
          rw [if_pos (by simp), b1_some, if_pos rfl, bvE]
          exact put ⟨c1, c2⟩ fun r1 h1 => by rw [hm] at h1; cases h1
      · rw [if_neg (by simpa using c2), b1_some, if_neg (by decide)]
        exact skip fun hval => absurd hval.2 c2
end
end Go.Proofs.Ytfmapnhfamoecab.Rd
