/- All places, with fewer and fewer pairs left; in plain Lean. -/
import Derived.Test.YtfmapnhfamoecabZBSN
namespace Go.Proofs.Ytfmapnhfamoecab.Rd
open Go.PL
theorem dif_zero {x y : Nat} : dif x y = 0 ↔ ∀ i, x.testBit i = true → y.testBit i = true := by
  constructor
  · intro h i hi
    have := bit_dif x y i
    rw [h, Nat.zero_testBit, hi, Bool.true_and] at this
    cases hb : y.testBit i with
    | true => rfl
    | false => rw [hb] at this; cases this
  · intro h
    refine Nat.eq_of_testBit_eq fun i => ?_
    rw [bit_dif, Nat.zero_testBit]
    cases hx : x.testBit i with
    | false => rfl
    | true => rw [h i hx]; rfl
/-- What is known of all places when those with more than so many pairs left were gone through. -/
structure Inv (c : List Int) (ns : List (List Int × Int × Int)) (hit : List Int) (bd : Nat → Int) (S : Nat) (start : Int) (v0 L : Nat) (met : Met) : Prop where
  rng : ∀ (key : Int × Int) (r : Rec), mget met key = some r → (0 ≤ key.1 ∧ key.1 < (S : Int)) ∧ (∃ v : Nat, key.2 = (v : Int) ∧ v ≤ v0 ∧ dif v v0 = 0) ∧ 0 ≤ r.1 ∧ r.1 ≤ 1000
  sound : ∀ (key : Int × Int) (r : Rec), mget met key = some r → (key = (start, (v0 : Int)) ∧ r.1 = 0) ∨ ∃ (v k s n : Nat) (y : Rec), L < v ∧ k < S ∧ Stp c ns hit bd S met v k s n y ∧ key = ((s : Int), (dif v (hb hit s n) : Int)) ∧ r = (y.1 + en c k s + wrd ns n, (s : Int), (n : Int), (k : Int), (v : Int))
  full : ∀ (v k s n : Nat) (y : Rec), L < v → k < S → Stp c ns hit bd S met v k s n y → ∃ r', mget met ((s : Int), (dif v (hb hit s n) : Int)) = some r' ∧ r'.1 ≤ y.1 + en c k s + wrd ns n
  first : ∃ r, mget met (start, (v0 : Int)) = some r
section
variable {ws hs : List (List Int)} {H st : Int} {ns : List (List Int × Int × Int)} {c : List Int} {ps : List (Int × Int)} {hit : List Int} {bd : Nat → Int} {ok : Int × Int → Option Bool} {start : Int} {v0 : Nat}
theorem Inv.step (h : BtOK ws hs H st ns) (hc : CrOK hs ns c ps hit) (hbd : ∀ n, bd n ≤ 1000) {L : Nat} {met met' : Met} (hi : Inv c ns hit bd hs.length start v0 (L + 1) met)
    (g1 : ∀ key : Int × Int, ((L + 1 : Nat) : Int) ≤ key.2 → mget met' key = mget met key)
    (g2 : ∀ (key : Int × Int) (r : Rec), mget met' key = some r → mget met key = some r ∨ ∃ (k s n : Nat) (y : Rec), k < hs.length ∧ Stp c ns hit bd hs.length met (L + 1) k s n y ∧ key = ((s : Int), (dif (L + 1) (hb hit s n) : Int)) ∧ r = (y.1 + en c k s + wrd ns n, (s : Int), (n : Int), (k : Int), ((L + 1 : Nat) : Int)))
    (g3 : ∀ (key : Int × Int) (r : Rec), mget met key = some r → ∃ r', mget met' key = some r' ∧ r'.1 ≤ r.1)
    (g4 : ∀ (k s n : Nat) (y : Rec), 0 ≤ k → k < hs.length → Stp c ns hit bd hs.length met (L + 1) k s n y → ∃ r', mget met' ((s : Int), (dif (L + 1) (hb hit s n) : Int)) = some r' ∧ r'.1 ≤ y.1 + en c k s + wrd ns n) : Inv c ns hit bd hs.length start v0 L met' := by
  have hs1 : ∀ v k s n y, L + 1 ≤ v → (Stp c ns hit bd hs.length met' v k s n y ↔ Stp c ns hit bd hs.length met v k s n y) := fun v k s n y hv => by
    unfold Stp
    rw [g1 ((k : Int), (v : Int)) (by show ((L + 1 : Nat) : Int) ≤ (v : Int); omega)]
  have h5 := h.hs1.2
  refine ⟨fun key r hr => ?_, fun key r hr => ?_, fun v k s n y hv hk hst => ?_, ?_⟩
  · rcases g2 key r hr with q | ⟨k, s, n, y, q1, q2, q3, q4⟩
    · exact hi.rng key r q
    · obtain ⟨p1, p2, p3, p4, p5⟩ := q2
      obtain ⟨_, ⟨v, e1, e2, e3⟩, e4⟩ := hi.rng _ _ p1
      have ev : v = L + 1 := by
        have : ((L + 1 : Nat) : Int) = (v : Int) := e1
        omega
      subst ev
      have hle := dif_le (L + 1) (hb hit s n)
      have hr1 := hc.fin.rng k s (by omega) (by omega)
      have hw := (h.note _ (getD_mem (d := ([], 0, 0)) p3)).2.1
      have hw' : 1 ≤ wrd ns n ∧ wrd ns n ≤ 5 := hw
      obtain ⟨u1, u2⟩ := p5
      have hb1 := hbd n
      subst q3 q4
      refine ⟨⟨by show 0 ≤ (s : Int); omega, by show (s : Int) < (hs.length : Int); omega⟩, ⟨_, rfl, by omega, ?_⟩, ?_, ?_⟩
      · rw [dif_zero] at e3 ⊢
        intro i hi'
        rw [bit_dif] at hi'
        exact e3 i (Bool.and_eq_true_iff.1 hi').1
      · show 0 ≤ y.1 + en c k s + wrd ns n; omega
      · show y.1 + en c k s + wrd ns n ≤ 1000; omega
  · rcases g2 key r hr with q | ⟨k, s, n, y, q1, q2, q3, q4⟩
    · rcases hi.sound key r q with q | ⟨v, k, s, n, y, p1, p2, p3, p4⟩
      · exact .inl q
      · exact .inr ⟨v, k, s, n, y, by omega, p2, (hs1 v k s n y (by omega)).2 p3, p4⟩
    · exact .inr ⟨L + 1, k, s, n, y, by omega, q1, (hs1 _ k s n y (Nat.le_refl _)).2 q2, q3, q4⟩
  · have hst' := (hs1 v k s n y (by omega)).1 hst
    by_cases e : v = L + 1
    · subst e
      exact g4 k s n y (Nat.zero_le _) hk hst'
    · obtain ⟨r1, q1, q2⟩ := hi.full v k s n y (by omega) hk hst'
      obtain ⟨r2, q3, q4⟩ := g3 _ r1 q1
      exact ⟨r2, q3, Int.le_trans q4 q2⟩
  · obtain ⟨r, hr⟩ := hi.first
    obtain ⟨r2, q3, _⟩ := g3 _ r hr
    exact ⟨r2, q3⟩
theorem serve_l1 (h : BtOK ws hs H st ns) (hc : CrOK hs ns c ps hit) (hbd : ∀ n, bd n ≤ 1000) (hok : ∀ (n : Nat) (m : Int), n < ns.length → ok ((n : Int), m) = some (decide (m ≤ bd n))) (hv0 : v0 < 512) : ∀ (L fu : Nat) (met : Met), L < fu → L ≤ v0 → Inv c ns hit bd hs.length start v0 L met →
    ∃ met', round_crier_serve_l1 ws hs H st ns c ps hit (v0 : Int) ok fu met (L : Int) = some met' ∧ Inv c ns hit bd hs.length start v0 0 met'
  | 0, fu, met, hf, _, hi => by
    obtain ⟨fu, rfl⟩ : ∃ f, fu = f + 1 := ⟨fu - 1, by omega⟩
    unfold round_crier_serve_l1
    rw [if_neg (by omega)]
    exact ⟨met, rfl, hi⟩
  | L + 1, fu, met, hf, hl, hi => by
    obtain ⟨fu, rfl⟩ : ∃ f, fu = f + 1 := ⟨fu - 1, by omega⟩
    unfold round_crier_serve_l1
    rw [if_pos (by omega), bandn_nat (by omega) (by omega)]
    have hgo : ∃ met4, (if (dif (L + 1) v0 : Int) ≠ 0 then some met else round_crier_serve_l2 ws hs H st ns c ps hit ok ((L + 1 : Nat) : Int) hs 0 met) = some met4 ∧ Inv c ns hit bd hs.length start v0 L met4 := by
      by_cases e : dif (L + 1) v0 = 0
      · rw [if_neg (not_not_intro (by rw [e]; rfl))]
        obtain ⟨m1, g0, g1, g2, g3, g4⟩ := serve_l2 h hc hok (v := L + 1) (by omega) hs 0 met rfl (fun k y hk => (hi.rng _ _ hk).2.2)
        exact ⟨m1, g0, hi.step h hc hbd g1 g2 g3 g4⟩
      · rw [if_pos (by omega)]
        have hno : ∀ k s n y, ¬ Stp c ns hit bd hs.length met (L + 1) k s n y := fun k s n y hst => by
          obtain ⟨_, ⟨v, e1, _, e3⟩, _⟩ := hi.rng _ _ hst.1
          have : ((L + 1 : Nat) : Int) = (v : Int) := e1
          have : v = L + 1 := by omega
          rw [this] at e3
          exact e e3
        exact ⟨met, rfl, hi.step h hc hbd (fun _ _ => rfl) (fun _ _ hr => .inl hr) (fun _ r hr => ⟨r, hr, Int.le_refl _⟩) (fun k s n y _ _ hst => absurd hst (hno k s n y))⟩
    obtain ⟨met4, e4, hi4⟩ := hgo
    rw [e4, b1_some, gd_t (r64_small (by omega)), show ((L + 1 : Nat) : Int) - 1 = (L : Int) by omega]
    exact serve_l1 h hc hbd hok hv0 L fu met4 (by omega) (by omega) hi4
theorem inv_first (hst : 0 ≤ start ∧ start < (hs.length : Int)) : Inv c ns hit bd hs.length start v0 v0 (mput [] (start, (v0 : Int)) (0, 0, 0, 0, 0)) := by
  have hg : ∀ key : Int × Int, mget (mput ([] : Met) (start, (v0 : Int)) (0, 0, 0, 0, 0)) key = if (start, (v0 : Int)) = key then some (0, 0, 0, 0, 0) else none := fun key => by
    rw [mget_mput, mget_nil]
  refine ⟨fun key r hr => ?_, fun key r hr => ?_, fun v k s n y hv hk hst => ?_, ⟨(0, 0, 0, 0, 0), by rw [hg, if_pos rfl]⟩⟩
  · rw [hg] at hr
    by_cases e : (start, (v0 : Int)) = key
    · rw [if_pos e] at hr
      obtain rfl := Option.some.inj hr
      subst e
      exact ⟨hst, ⟨v0, rfl, Nat.le_refl _, dif_zero.2 fun i hi => hi⟩, by decide, by decide⟩
    · rw [if_neg e] at hr; cases hr
  · rw [hg] at hr
    by_cases e : (start, (v0 : Int)) = key
    · rw [if_pos e] at hr
      obtain rfl := Option.some.inj hr
      exact .inl ⟨e.symm, rfl⟩
    · rw [if_neg e] at hr; cases hr
  · have := hst.1
    rw [hg] at this
    by_cases e : (start, (v0 : Int)) = ((k : Int), (v : Int))
    · have := (Prod.mk.inj e).2
      omega
    · rw [if_neg e] at this; cases this
end
end Go.Proofs.Ytfmapnhfamoecab.Rd
