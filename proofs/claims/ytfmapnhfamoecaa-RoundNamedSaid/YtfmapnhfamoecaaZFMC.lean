/- A place from which cries are tried; in plain Lean. -/
import Derived.Test.YtfmapnhfamoecaaZFMB
import Derived.Test.YtfmapnhfamoecaaZFRv
namespace Go.Proofs.Ytfmapnhfamoecaa.Rd
open Go.PL
abbrev Rec := Int × Int × Int × Int × Int
abbrev Met := List ((Int × Int) × Rec)
def wrd (ns : List (List Int × Int × Int)) (n : Nat) : Int := (ns.getD n ([], 0, 0)).2.1
def Val (c : List Int) (ns : List (List Int × Int × Int)) (bd : Nat → Int) (t : Int) (k s n : Nat) : Prop := en c k s ≠ -1 ∧ t + en c k s + wrd ns n ≤ bd n
section
variable {hs : List (List Int)} {ns : List (List Int × Int × Int)} {c : List Int} {H : Int} {S : Nat} {bd : Nat → Int} {ok : Int × Int → Option Bool}
theorem serve_l3 (hc : Fin5 S c) (hw : ∀ x ∈ ns, NOK H x) (hok : ∀ (n : Nat) (m : Int), n < ns.length → ok ((n : Int), m) = some (decide (m ≤ bd n))) {left_ : Int} {met5 : Met} {k : Nat} (hk : k < 5) {y : Rec} (hy : mget met5 ((k : Int), left_) = some y) (hy0 : 0 ≤ y.1 ∧ y.1 ≤ 1000) : ∀ (tl : List ((Int × Int) × Int)) (met7 : Met), (∀ x ∈ tl, ∃ s n : Nat, s < 5 ∧ n < ns.length ∧ x.1 = ((s : Int), (n : Int))) →
    ∃ met', round_crier_serve_l3 ns c ok left_ met5 (k : Int) tl met7 = some met' ∧
      (∀ key : Int × Int, (∀ x ∈ tl, (x.1.1, x.2) ≠ key) → mget met' key = mget met7 key) ∧
      (∀ (key : Int × Int) (r : Rec), mget met' key = some r → mget met7 key = some r ∨ ∃ x ∈ tl, ∃ s n : Nat, x.1 = ((s : Int), (n : Int)) ∧ n < ns.length ∧ s < 5 ∧ Val c ns bd y.1 k s n ∧ key = ((s : Int), x.2) ∧ r = (y.1 + en c k s + wrd ns n, (s : Int), (n : Int), (k : Int), left_)) ∧
      (∀ (key : Int × Int) (r : Rec), mget met7 key = some r → ∃ r', mget met' key = some r' ∧ r'.1 ≤ r.1) ∧
      (∀ x ∈ tl, ∀ s n : Nat, x.1 = ((s : Int), (n : Int)) → Val c ns bd y.1 k s n → ∃ r', mget met' ((s : Int), x.2) = some r' ∧ r'.1 ≤ y.1 + en c k s + wrd ns n)
  | [], met7, _ => ⟨met7, rfl, fun _ _ => rfl, fun _ _ h => .inl h, fun _ r h => ⟨r, h, Int.le_refl _⟩, fun _ h => (nomatch h)⟩
  | x :: tl, met7, hx => by
    obtain ⟨s, n, hs5, hn, e⟩ := hx x (by simp)
    have hx2 : ∀ z ∈ tl, ∃ s n : Nat, s < 5 ∧ n < ns.length ∧ z.1 = ((s : Int), (n : Int)) := fun z hz => hx z (List.mem_cons_of_mem _ hz)
    have hN := hw _ (getD_mem (d := ([], 0, 0)) hn)
    have hwr : 1 ≤ wrd ns n ∧ wrd ns n ≤ 5 := hN.2.1
    have hr := hc.rng k s hk hs5
    have e1 : x.1.1 = (s : Int) := by rw [e]
    have e2 : x.1.2 = (n : Int) := by rw [e]
    have hg : ((mget met5 ((k : Int), left_)).getD (0, 0, 0, 0, 0)).1 = y.1 := by rw [hy]; rfl
    -- what follows when this cry changes nothing
    have skip : (Val c ns bd y.1 k s n → ∃ r', mget met7 ((s : Int), x.2) = some r' ∧ r'.1 ≤ y.1 + en c k s + wrd ns n) →
        ∃ met', round_crier_serve_l3 ns c ok left_ met5 (k : Int) tl met7 = some met' ∧
          (∀ key : Int × Int, (∀ z ∈ x :: tl, (z.1.1, z.2) ≠ key) → mget met' key = mget met7 key) ∧
          (∀ (key : Int × Int) (r : Rec), mget met' key = some r → mget met7 key = some r ∨ ∃ z ∈ x :: tl, ∃ s n : Nat, z.1 = ((s : Int), (n : Int)) ∧ n < ns.length ∧ s < 5 ∧ Val c ns bd y.1 k s n ∧ key = ((s : Int), z.2) ∧ r = (y.1 + en c k s + wrd ns n, (s : Int), (n : Int), (k : Int), left_)) ∧
          (∀ (key : Int × Int) (r : Rec), mget met7 key = some r → ∃ r', mget met' key = some r' ∧ r'.1 ≤ r.1) ∧
          (∀ z ∈ x :: tl, ∀ s n : Nat, z.1 = ((s : Int), (n : Int)) → Val c ns bd y.1 k s n → ∃ r', mget met' ((s : Int), z.2) = some r' ∧ r'.1 ≤ y.1 + en c k s + wrd ns n) := by
      intro hv
      obtain ⟨met', g0, g1, g2, g3, g4⟩ := serve_l3 hc hw hok hk hy hy0 tl met7 hx2
      refine ⟨met', g0, fun key h => g1 key fun z hz => h z (by simp [hz]), fun key r h => ?_, g3, fun z hz s' n' ez hval => ?_⟩
      · rcases g2 key r h with h1 | ⟨z, hz, h1⟩
        · exact .inl h1
        · exact .inr ⟨z, by simp [hz], h1⟩
      · rcases List.mem_cons.1 hz with rfl | hz
        · have ee := e.symm.trans ez
          obtain ⟨es, en'⟩ := Prod.mk.inj ee
          obtain rfl : s = s' := by omega
          obtain rfl : n = n' := by omega
          obtain ⟨r1, h1, h2⟩ := hv hval
          obtain ⟨r2, h3, h4⟩ := g3 _ _ h1
          exact ⟨r2, h3, by omega⟩
        · exact g4 z hz s' n' ez hval
    -- what follows when it is written down
    have put : Val c ns bd y.1 k s n → (∀ r0, mget met7 ((s : Int), x.2) = some r0 → y.1 + en c k s + wrd ns n ≤ r0.1) →
        ∃ met', round_crier_serve_l3 ns c ok left_ met5 (k : Int) tl (mput met7 ((s : Int), x.2) (y.1 + en c k s + wrd ns n, (s : Int), (n : Int), (k : Int), left_)) = some met' ∧
          (∀ key : Int × Int, (∀ z ∈ x :: tl, (z.1.1, z.2) ≠ key) → mget met' key = mget met7 key) ∧
          (∀ (key : Int × Int) (r : Rec), mget met' key = some r → mget met7 key = some r ∨ ∃ z ∈ x :: tl, ∃ s n : Nat, z.1 = ((s : Int), (n : Int)) ∧ n < ns.length ∧ s < 5 ∧ Val c ns bd y.1 k s n ∧ key = ((s : Int), z.2) ∧ r = (y.1 + en c k s + wrd ns n, (s : Int), (n : Int), (k : Int), left_)) ∧
          (∀ (key : Int × Int) (r : Rec), mget met7 key = some r → ∃ r', mget met' key = some r' ∧ r'.1 ≤ r.1) ∧
          (∀ z ∈ x :: tl, ∀ s n : Nat, z.1 = ((s : Int), (n : Int)) → Val c ns bd y.1 k s n → ∃ r', mget met' ((s : Int), z.2) = some r' ∧ r'.1 ≤ y.1 + en c k s + wrd ns n) := by
      intro hval hle
      obtain ⟨met', g0, g1, g2, g3, g4⟩ := serve_l3 hc hw hok hk hy hy0 tl (mput met7 ((s : Int), x.2) (y.1 + en c k s + wrd ns n, (s : Int), (n : Int), (k : Int), left_)) hx2
      have gn : ∃ r', mget met' ((s : Int), x.2) = some r' ∧ r'.1 ≤ y.1 + en c k s + wrd ns n := by
        obtain ⟨r', h1, h2⟩ := g3 ((s : Int), x.2) _ (by rw [mget_mput, if_pos rfl])
        exact ⟨r', h1, h2⟩
      refine ⟨met', g0, fun key h => ?_, fun key r h => ?_, fun key r h => ?_, fun z hz s' n' ez hv2 => ?_⟩
      · rw [g1 key fun z hz => h z (List.mem_cons_of_mem _ hz), mget_mput, if_neg]
        intro he
        exact h x (List.mem_cons_self ..) (by rw [e1]; exact he)
      · rcases g2 key r h with h1 | ⟨z, hz, h1⟩
        · rw [mget_mput] at h1
          by_cases d : ((s : Int), x.2) = key
          · rw [if_pos d] at h1
            exact .inr ⟨x, List.mem_cons_self .., s, n, e, hn, hs5, hval, d.symm, (Option.some.inj h1).symm⟩
          · rw [if_neg d] at h1; exact .inl h1
        · exact .inr ⟨z, List.mem_cons_of_mem _ hz, h1⟩
      · by_cases d : ((s : Int), x.2) = key
        · subst d
          obtain ⟨r', h1, h2⟩ := gn
          exact ⟨r', h1, Int.le_trans h2 (hle r h)⟩
        · exact g3 key r (by rw [mget_mput, if_neg d]; exact h)
      · rcases List.mem_cons.1 hz with rfl | hz
        · have ee := e.symm.trans ez
          obtain ⟨es, en'⟩ := Prod.mk.inj ee
          obtain rfl : s = s' := by omega
          obtain rfl : n = n' := by omega
          exact gn
        · exact g4 z hz s' n' ez hv2
    unfold round_crier_serve_l3
    rw [e1, e2, hg, gd_t (by omega), gd_t (by omega), ixE hc.len hk hs5]
    by_cases c1 : en c k s = -1
    · rw [if_pos c1]
      exact skip fun hval => absurd c1 hval.1
    · rw [if_neg c1, gd_t (r64_small' (by omega)), ixN ([], 0, 0) _ hn]
      show ∃ met', gd (R64 (y.1 + en c k s + wrd ns n)) _ = some met' ∧ _
      rw [gd_t (r64_small' (by omega)), bvE]
      show ∃ met', b1 (b1 (ok ((n : Int), y.1 + en c k s + wrd ns n)) _) _ = some met' ∧ _
      rw [hok n _ hn, b1_some]
      by_cases c2 : y.1 + en c k s + wrd ns n ≤ bd n
      · rw [if_pos (decide_eq_true c2)]
        cases hm : mget met7 ((s : Int), x.2) with
        | some r0 =>
          rw [if_neg (by simp), b1_some]
          by_cases c3 : y.1 + en c k s + wrd ns n < r0.1
          · have c3' : decide (y.1 + en c k s + (ns.getD n ([], 0, 0)).2.1 < ((some r0).getD (0, 0, 0, 0, 0)).1) = true := decide_eq_true c3
            rw [if_pos c3', bvE]
            exact put ⟨c1, c2⟩ fun r1 h1 => by
              rw [hm] at h1
              obtain rfl := Option.some.inj h1
              exact Int.le_of_lt c3
          · have c3' : ¬ decide (y.1 + en c k s + (ns.getD n ([], 0, 0)).2.1 < ((some r0).getD (0, 0, 0, 0, 0)).1) = true := fun hd => c3 (of_decide_eq_true hd)
            rw [if_neg c3']
            exact skip fun _ => ⟨r0, hm, by omega⟩
        | none =>
          rw [if_pos (by simp), b1_some, if_pos rfl, bvE]
          exact put ⟨c1, c2⟩ fun r1 h1 => by rw [hm] at h1; cases h1
      · rw [if_neg (by simpa using c2), b1_some, if_neg (by decide)]
        exact skip fun hval => absurd hval.2 c2
end
end Go.Proofs.Ytfmapnhfamoecaa.Rd
namespace Go.Proofs.Ytfmapnhfamoecaa.Rd
open Go.PL
theorem dif_le (x y : Nat) : dif x y ≤ x := by
  have h : dif x y &&& x = dif x y := Nat.eq_of_testBit_eq fun i => by
    rw [Nat.testBit_and, bit_dif]
    cases x.testBit i <;> simp
  rw [← h]
  exact Nat.and_le_right
section
variable {ws hs : List (List Int)} {H st : Int} {ns : List (List Int × Int × Int)} {c : List Int} {ps : List (Int × Int)} {hit : List Int} {bd : Nat → Int} {ok : Int × Int → Option Bool}
def Stp (c : List Int) (ns : List (List Int × Int × Int)) (hit : List Int) (bd : Nat → Int) (S : Nat) (met : Met) (v k s n : Nat) (y : Rec) : Prop :=
  mget met ((k : Int), (v : Int)) = some y ∧ s < S ∧ n < ns.length ∧ dif v (hb hit s n) ≠ v ∧ Val c ns bd y.1 k s n
theorem serve_l2 (h : BtOK ws hs H st ns) (hc : CrOK hs ns c ps hit) (hok : ∀ (n : Nat) (m : Int), n < ns.length → ok ((n : Int), m) = some (decide (m ≤ bd n))) {v : Nat} (hv : v < 512) : ∀ (tl : List (List Int)) (j : Nat) (met : Met), hs.drop j = tl → (∀ (k : Nat) (y : Rec), mget met ((k : Int), (v : Int)) = some y → 0 ≤ y.1 ∧ y.1 ≤ 1000) →
    ∃ met', round_crier_serve_l2 ws hs H st ns c ps hit ok (v : Int) tl (j : Int) met = some met' ∧
      (∀ key : Int × Int, (v : Int) ≤ key.2 → mget met' key = mget met key) ∧
      (∀ (key : Int × Int) (r : Rec), mget met' key = some r → mget met key = some r ∨ ∃ (k s n : Nat) (y : Rec), k < hs.length ∧ Stp c ns hit bd hs.length met v k s n y ∧ key = ((s : Int), (dif v (hb hit s n) : Int)) ∧ r = (y.1 + en c k s + wrd ns n, (s : Int), (n : Int), (k : Int), (v : Int))) ∧
      (∀ (key : Int × Int) (r : Rec), mget met key = some r → ∃ r', mget met' key = some r' ∧ r'.1 ≤ r.1) ∧
      (∀ (k s n : Nat) (y : Rec), j ≤ k → k < hs.length → Stp c ns hit bd hs.length met v k s n y → ∃ r', mget met' ((s : Int), (dif v (hb hit s n) : Int)) = some r' ∧ r'.1 ≤ y.1 + en c k s + wrd ns n)
  | [], j, met, hd, _ => ⟨met, rfl, fun _ _ => rfl, fun _ _ h => .inl h, fun _ r h => ⟨r, h, Int.le_refl _⟩, fun k s n y h1 h2 _ => by
      have := congrArg List.length hd
      rw [List.length_drop, List.length_nil] at this; omega⟩
  | x :: tl, j, met, hd, hy => by
    obtain ⟨hj, hx, hd2⟩ := drop_cons [] hd
    have h5 := h.hs1.2
    unfold round_crier_serve_l2
    cases hm : mget met ((j : Int), (v : Int)) with
    | none =>
      rw [if_pos (by simp), b1_some]
      obtain ⟨met', g0, g1, g2, g3, g4⟩ := serve_l2 h hc hok hv tl (j + 1) met hd2 hy
      refine ⟨met', g0, g1, g2, g3, fun k s n y h1 h2 h3 => ?_⟩
      by_cases e : k = j
      · rw [e] at h3; have := h3.1; rw [hm] at this; cases this
      · exact g4 k s n y (by omega) h2 h3
    | some y0 =>
      rw [if_neg (by simp), served_eq h hc hv, b1_some]
      have hmem : ∀ z ∈ srvB hit v ns.length hs.length 0, ∃ s n : Nat, s < 5 ∧ n < ns.length ∧ z.1 = ((s : Int), (n : Int)) := fun z hz => by
        obtain ⟨s, n, _, h2, h3, _, h4⟩ := (mem_srvB _ _).1 hz
        exact ⟨s, n, by omega, h3, by rw [h4]⟩
      obtain ⟨m1, f0, f1, f2, f3, f4⟩ := serve_l3 hc.fin h.note hok (k := j) (by omega) hm (hy j y0 hm) (srvB hit v ns.length hs.length 0) met hmem
      have hkeep : ∀ key : Int × Int, (v : Int) ≤ key.2 → mget m1 key = mget met key := fun key hk => f1 key fun z hz he => by
        obtain ⟨s, n, _, _, _, h3, h4⟩ := (mem_srvB _ _).1 hz
        have h5 := dif_le v (hb hit s n)
        have h6 : z.2 = (dif v (hb hit s n) : Int) := by rw [h4]
        have h7 : key.2 = z.2 := by rw [← he]
        omega
      have hs1 : ∀ k s n y, Stp c ns hit bd hs.length m1 v k s n y ↔ Stp c ns hit bd hs.length met v k s n y := fun k s n y => by
        unfold Stp
        rw [hkeep _ (Int.le_refl _)]
      obtain ⟨met', g0, g1, g2, g3, g4⟩ := serve_l2 h hc hok hv tl (j + 1) m1 hd2 (fun k y hk => hy k y (by rw [← hkeep _ (Int.le_refl _)]; exact hk))
      refine ⟨met', ?_, fun key hk => (g1 key hk).trans (hkeep key hk), fun key r hr => ?_, fun key r hr => ?_, fun k s n y h1 h2 h3 => ?_⟩
      · rw [f0, b1_some]; exact g0
      · rcases g2 key r hr with q | ⟨k, s, n, y, q1, q2, q3⟩
        · rcases f2 key r q with q | ⟨z, hz, s, n, e1, e2, e3, e4, e5, e6⟩
          · exact .inl q
          · obtain ⟨s', n', _, p2, p3, p4, p5⟩ := (mem_srvB _ _).1 hz
            have ee : ((s' : Int), (n' : Int)) = ((s : Int), (n : Int)) := by rw [← e1, p5]
            obtain ⟨ea, eb⟩ := Prod.mk.inj ee
            obtain rfl : s' = s := by omega
            obtain rfl : n' = n := by omega
            refine .inr ⟨j, s', n', y0, hj, ⟨hm, by omega, p3, p4, e4⟩, ?_, e6⟩
            rw [e5, p5]
        · exact .inr ⟨k, s, n, y, q1, (hs1 k s n y).1 q2, q3⟩
      · obtain ⟨r1, q1, q2⟩ := f3 key r hr
        obtain ⟨r2, q3, q4⟩ := g3 key r1 q1
        exact ⟨r2, q3, Int.le_trans q4 q2⟩
      · by_cases e : k = j
        · subst e
          have hyy : y0 = y := by
            have := h3.1; rw [hm] at this; exact Option.some.inj this
          subst hyy
          have hz : (((s : Int), (n : Int)), (dif v (hb hit s n) : Int)) ∈ srvB hit v ns.length hs.length 0 := (mem_srvB _ _).2 ⟨s, n, Nat.zero_le _, by have := h3.2.1; omega, h3.2.2.1, h3.2.2.2.1, rfl⟩
          obtain ⟨r1, q1, q2⟩ := f4 _ hz s n rfl h3.2.2.2.2
          obtain ⟨r2, q3, q4⟩ := g3 _ r1 q1
          exact ⟨r2, q3, Int.le_trans q4 q2⟩
        · exact g4 k s n y (by omega) h2 ((hs1 k s n y).2 h3)
end
end Go.Proofs.Ytfmapnhfamoecaa.Rd
namespace Go.Proofs.Ytfmapnhfamoecaa.Rd
open Go.PL
theorem dif_zero {x y : Nat} : dif x y = 0 ↔ ∀ i, x.testBit i = true → y.testBit i = true := by
  constructor
  · intro h i hi
    have := bit_dif x y i
    rw [h, Nat.zero_testBit, hi, Bool.true_and] at this
    cases hb : y.testBit i with
    | true => rfl
    | false => rw [hb] at this; cases this
  · intro h
    refine Nat.eq_of_testBit_eq fun i => ?_
    rw [bit_dif, Nat.zero_testBit]
    cases hx : x.testBit i with
    | false => rfl
    | true => rw [h i hx]; rfl
structure Inv (c : List Int) (ns : List (List Int × Int × Int)) (hit : List Int) (bd : Nat → Int) (S : Nat) (start : Int) (v0 L : Nat) (met : Met) : Prop where
  rng : ∀ (key : Int × Int) (r : Rec), mget met key = some r → (0 ≤ key.1 ∧ key.1 < (S : Int)) ∧ (∃ v : Nat, key.2 = (v : Int) ∧ v ≤ v0 ∧ dif v v0 = 0) ∧ 0 ≤ r.1 ∧ r.1 ≤ 1000
  sound : ∀ (key : Int × Int) (r : Rec), mget met key = some r → (key = (start, (v0 : Int)) ∧ r.1 = 0) ∨ ∃ (v k s n : Nat) (y : Rec), L < v ∧ k < S ∧ Stp c ns hit bd S met v k s n y ∧ key = ((s : Int), (dif v (hb hit s n) : Int)) ∧ r = (y.1 + en c k s + wrd ns n, (s : Int), (n : Int), (k : Int), (v : Int))
  full : ∀ (v k s n : Nat) (y : Rec), L < v → k < S → Stp c ns hit bd S met v k s n y → ∃ r', mget met ((s : Int), (dif v (hb hit s n) : Int)) = some r' ∧ r'.1 ≤ y.1 + en c k s + wrd ns n
  first : ∃ r, mget met (start, (v0 : Int)) = some r
section
variable {ws hs : List (List Int)} {H st : Int} {ns : List (List Int × Int × Int)} {c : List Int} {ps : List (Int × Int)} {hit : List Int} {bd : Nat → Int} {ok : Int × Int → Option Bool} {start : Int} {v0 : Nat}
theorem Inv.step (h : BtOK ws hs H st ns) (hc : CrOK hs ns c ps hit) (hbd : ∀ n, bd n ≤ 1000) {L : Nat} {met met' : Met} (hi : Inv c ns hit bd hs.length start v0 (L + 1) met)
    (g1 : ∀ key : Int × Int, ((L + 1 : Nat) : Int) ≤ key.2 → mget met' key = mget met key)
    (g2 : ∀ (key : Int × Int) (r : Rec), mget met' key = some r → mget met key = some r ∨ ∃ (k s n : Nat) (y : Rec), k < hs.length ∧ Stp c ns hit bd hs.length met (L + 1) k s n y ∧ key = ((s : Int), (dif (L + 1) (hb hit s n) : Int)) ∧ r = (y.1 + en c k s + wrd ns n, (s : Int), (n : Int), (k : Int), ((L + 1 : Nat) : Int)))
    (g3 : ∀ (key : Int × Int) (r : Rec), mget met key = some r → ∃ r', mget met' key = some r' ∧ r'.1 ≤ r.1)
    (g4 : ∀ (k s n : Nat) (y : Rec), 0 ≤ k → k < hs.length → Stp c ns hit bd hs.length met (L + 1) k s n y → ∃ r', mget met' ((s : Int), (dif (L + 1) (hb hit s n) : Int)) = some r' ∧ r'.1 ≤ y.1 + en c k s + wrd ns n) : Inv c ns hit bd hs.length start v0 L met' := by
  have hs1 : ∀ v k s n y, L + 1 ≤ v → (Stp c ns hit bd hs.length met' v k s n y ↔ Stp c ns hit bd hs.length met v k s n y) := fun v k s n y hv => by
    unfold Stp
    rw [g1 ((k : Int), (v : Int)) (by show ((L + 1 : Nat) : Int) ≤ (v : Int); omega)]
  have h5 := h.hs1.2
  refine ⟨fun key r hr => ?_, fun key r hr => ?_, fun v k s n y hv hk hst => ?_, ?_⟩
  · rcases g2 key r hr with q | ⟨k, s, n, y, q1, q2, q3, q4⟩
    · exact hi.rng key r q
    · obtain ⟨p1, p2, p3, p4, p5⟩ := q2
      obtain ⟨_, ⟨v, e1, e2, e3⟩, e4⟩ := hi.rng _ _ p1
      have ev : v = L + 1 := by
        have : ((L + 1 : Nat) : Int) = (v : Int) := e1
        omega
      subst ev
      have hle := dif_le (L + 1) (hb hit s n)
      have hr1 := hc.fin.rng k s (by omega) (by omega)
      have hw := (h.note _ (getD_mem (d := ([], 0, 0)) p3)).2.1
      have hw' : 1 ≤ wrd ns n ∧ wrd ns n ≤ 5 := hw
      obtain ⟨u1, u2⟩ := p5
      have hb1 := hbd n
      subst q3 q4
      refine ⟨⟨by show 0 ≤ (s : Int); omega, by show (s : Int) < (hs.length : Int); omega⟩, ⟨_, rfl, by omega, ?_⟩, ?_, ?_⟩
      · rw [dif_zero] at e3 ⊢
        intro i hi'
        rw [bit_dif] at hi'
        exact e3 i (Bool.and_eq_true_iff.1 hi').1
      · show 0 ≤ y.1 + en c k s + wrd ns n; omega
      · show y.1 + en c k s + wrd ns n ≤ 1000; omega
  · rcases g2 key r hr with q | ⟨k, s, n, y, q1, q2, q3, q4⟩
    · rcases hi.sound key r q with q | ⟨v, k, s, n, y, p1, p2, p3, p4⟩
      · exact .inl q
      · exact .inr ⟨v, k, s, n, y, by omega, p2, (hs1 v k s n y (by omega)).2 p3, p4⟩
    · exact .inr ⟨L + 1, k, s, n, y, by omega, q1, (hs1 _ k s n y (Nat.le_refl _)).2 q2, q3, q4⟩
  · have hst' := (hs1 v k s n y (by omega)).1 hst
    by_cases e : v = L + 1
    · subst e
      exact g4 k s n y (Nat.zero_le _) hk hst'
    · obtain ⟨r1, q1, q2⟩ := hi.full v k s n y (by omega) hk hst'
      obtain ⟨r2, q3, q4⟩ := g3 _ r1 q1
      exact ⟨r2, q3, Int.le_trans q4 q2⟩
  · obtain ⟨r, hr⟩ := hi.first
    obtain ⟨r2, q3, _⟩ := g3 _ r hr
    exact ⟨r2, q3⟩
theorem serve_l1 (h : BtOK ws hs H st ns) (hc : CrOK hs ns c ps hit) (hbd : ∀ n, bd n ≤ 1000) (hok : ∀ (n : Nat) (m : Int), n < ns.length → ok ((n : Int), m) = some (decide (m ≤ bd n))) (hv0 : v0 < 512) : ∀ (L fu : Nat) (met : Met), L < fu → L ≤ v0 → Inv c ns hit bd hs.length start v0 L met →
    ∃ met', round_crier_serve_l1 ws hs H st ns c ps hit (v0 : Int) ok fu met (L : Int) = some met' ∧ Inv c ns hit bd hs.length start v0 0 met'
  | 0, fu, met, hf, _, hi => by
    obtain ⟨fu, rfl⟩ : ∃ f, fu = f + 1 := ⟨fu - 1, by omega⟩
    unfold round_crier_serve_l1
    rw [if_neg (by omega)]
    exact ⟨met, rfl, hi⟩
  | L + 1, fu, met, hf, hl, hi => by
    obtain ⟨fu, rfl⟩ : ∃ f, fu = f + 1 := ⟨fu - 1, by omega⟩
    unfold round_crier_serve_l1
    rw [if_pos (by omega), bandn_nat (by omega) (by omega)]
    have hgo : ∃ met4, (if (dif (L + 1) v0 : Int) ≠ 0 then some met else round_crier_serve_l2 ws hs H st ns c ps hit ok ((L + 1 : Nat) : Int) hs 0 met) = some met4 ∧ Inv c ns hit bd hs.length start v0 L met4 := by
      by_cases e : dif (L + 1) v0 = 0
      · rw [if_neg (not_not_intro (by rw [e]; rfl))]
        obtain ⟨m1, g0, g1, g2, g3, g4⟩ := serve_l2 h hc hok (v := L + 1) (by omega) hs 0 met rfl (fun k y hk => (hi.rng _ _ hk).2.2)
        exact ⟨m1, g0, hi.step h hc hbd g1 g2 g3 g4⟩
      · rw [if_pos (by omega)]
        have hno : ∀ k s n y, ¬ Stp c ns hit bd hs.length met (L + 1) k s n y := fun k s n y hst => by
          obtain ⟨_, ⟨v, e1, _, e3⟩, _⟩ := hi.rng _ _ hst.1
          have : ((L + 1 : Nat) : Int) = (v : Int) := e1
          have : v = L + 1 := by omega
          rw [this] at e3
          exact e e3
        exact ⟨met, rfl, hi.step h hc hbd (fun _ _ => rfl) (fun _ _ hr => .inl hr) (fun _ r hr => ⟨r, hr, Int.le_refl _⟩) (fun k s n y _ _ hst => absurd hst (hno k s n y))⟩
    obtain ⟨met4, e4, hi4⟩ := hgo
    rw [e4, b1_some, gd_t (r64_small (by omega)), show ((L + 1 : Nat) : Int) - 1 = (L : Int) by omega]
    exact serve_l1 h hc hbd hok hv0 L fu met4 (by omega) (by omega) hi4
theorem inv_first (hst : 0 ≤ start ∧ start < (hs.length : Int)) : Inv c ns hit bd hs.length start v0 v0 (mput [] (start, (v0 : Int)) (0, 0, 0, 0, 0)) := by
  have hg : ∀ key : Int × Int, mget (mput ([] : Met) (start, (v0 : Int)) (0, 0, 0, 0, 0)) key = if (start, (v0 : Int)) = key then some (0, 0, 0, 0, 0) else none := fun key => by
    rw [mget_mput, mget_nil]
  refine ⟨fun key r hr => ?_, fun key r hr => ?_, fun v k s n y hv hk hst => ?_, ⟨(0, 0, 0, 0, 0), by rw [hg, if_pos rfl]⟩⟩
  · rw [hg] at hr
    by_cases e : (start, (v0 : Int)) = key
    · rw [if_pos e] at hr
      obtain rfl := Option.some.inj hr
      subst e
      exact ⟨hst, ⟨v0, rfl, Nat.le_refl _, dif_zero.2 fun i hi => hi⟩, by decide, by decide⟩
    · rw [if_neg e] at hr; cases hr
  · rw [hg] at hr
    by_cases e : (start, (v0 : Int)) = key
    · rw [if_pos e] at hr
      obtain rfl := Option.some.inj hr
      exact .inl ⟨e.symm, rfl⟩
    · rw [if_neg e] at hr; cases hr
  · have := hst.1
    rw [hg] at this
    by_cases e : (start, (v0 : Int)) = ((k : Int), (v : Int))
    · have := (Prod.mk.inj e).2
      omega
    · rw [if_neg e] at this; cases this
end
end Go.Proofs.Ytfmapnhfamoecaa.Rd
namespace Go.Proofs.Ytfmapnhfamoecaa.Rd
open Go.PL
inductive Pth (c : List Int) (ns : List (List Int × Int × Int)) (hit : List Int) (bd : Nat → Int) (S : Nat) (start : Int) (v0 : Nat) : List (Int × Int) → Int → Nat → Int → Prop
  | nil : Pth c ns hit bd S start v0 [] start v0 0
  | snoc {l : List (Int × Int)} {k v s n : Nat} {t : Int} (h : Pth c ns hit bd S start v0 l (k : Int) v t) (hk : k < S) (hs : s < S) (hn : n < ns.length) (hne : dif v (hb hit s n) ≠ v) (hv : Val c ns bd t k s n) : Pth c ns hit bd S start v0 (l ++ [((s : Int), (n : Int))]) (s : Int) (dif v (hb hit s n)) (t + en c k s + wrd ns n)
section
variable {c : List Int} {ns : List (List Int × Int × Int)} {hit : List Int} {bd : Nat → Int} {S : Nat} {start : Int} {v0 : Nat} {met : Met}
theorem Inv.last (hi : Inv c ns hit bd S start v0 0 met) {s : Int} {r : Rec} (hr : mget met (s, (v0 : Int)) = some r) : s = start ∧ r.1 = 0 := by
  rcases hi.sound _ r hr with ⟨e, h0⟩ | ⟨v, k, s', n, y, _, _, hst, e, _⟩
  · exact ⟨(Prod.mk.inj e).1, h0⟩
  · obtain ⟨_, ⟨u, e1, e2, _⟩, _⟩ := hi.rng _ _ hst.1
    have h1 := (Prod.mk.inj e).2
    have h2 := dif_le v (hb hit s' n)
    have h3 := hst.2.2.2.1
    have : (v : Int) = (u : Int) := e1
    omega
theorem Inv.best (hi : Inv c ns hit bd S start v0 0 met) {l : List (Int × Int)} {s : Int} {v : Nat} {t : Int} (h : Pth c ns hit bd S start v0 l s v t) : ∃ r, mget met (s, (v : Int)) = some r ∧ r.1 ≤ t := by
  induction h with
  | nil =>
    obtain ⟨r, hr⟩ := hi.first
    exact ⟨r, hr, by rw [(hi.last hr).2]; exact Int.le_refl _⟩
  | @snoc l k v s n t h hk hs hn hne hv ih =>
    obtain ⟨y, hy, hle⟩ := ih
    have hv0 : 0 < v := Nat.pos_of_ne_zero fun h0 => hne (by
      rw [h0]
      exact Nat.le_zero.1 (dif_le 0 _))
    have hst : Stp c ns hit bd S met v k s n y := ⟨hy, hs, hn, hne, hv.1, by have := hv.2; omega⟩
    obtain ⟨r', q1, q2⟩ := hi.full v k s n y hv0 hk hst
    exact ⟨r', q1, by omega⟩
end
end Go.Proofs.Ytfmapnhfamoecaa.Rd
namespace Go.Proofs.Ytfmapnhfamoecaa.Rd
open Go.PL
section
variable {c : List Int} {ns : List (List Int × Int × Int)} {hit : List Int} {bd : Nat → Int} {S : Nat} {start : Int} {v0 : Nat} {met : Met}
theorem serve_l5 (hi : Inv c ns hit bd S start v0 0 met) : ∀ (m fu : Nat) (s : Int) (v : Nat) (r : Rec) (out : List (Int × Int)), v0 - v ≤ m → m < fu → out.length + m ≤ 1000 → v ≤ v0 → mget met (s, (v : Int)) = some r →
    ∃ l, Pth c ns hit bd S start v0 l s v r.1 ∧ round_crier_serve_l5 (v0 : Int) met fu s (v : Int) out = some (out ++ l.reverse)
  | m, 0, s, v, r, out, _, hf, _, _, _ => by omega
  | m, fu + 1, s, v, r, out, hm, hf, hl, hv, hr => by
    unfold round_crier_serve_l5
    by_cases e : v = v0
    · subst e
      obtain ⟨e1, e2⟩ := hi.last hr
      rw [if_neg (not_not_intro rfl)]
      exact ⟨[], by rw [e1, e2]; exact .nil, by simp⟩
    · rw [if_pos (by omega), hr]
      rcases hi.sound _ r hr with ⟨e1, h0⟩ | ⟨v', k, s', n, y, _, hk, hst, e1, e2⟩
      · have := (Prod.mk.inj e1).2
        omega
      · obtain ⟨_, ⟨u, e3, e4, _⟩, _⟩ := hi.rng _ _ hst.1
        have h2 := dif_le v' (hb hit s' n)
        have h3 := hst.2.2.2.1
        obtain ⟨e5, e6⟩ := Prod.mk.inj e1
        have e3' : (v' : Int) = (u : Int) := e3
        obtain rfl : v = dif v' (hb hit s' n) := by omega
        cases m with
        | zero => omega
        | succ m =>
          subst e2
          obtain ⟨l, hp, hq⟩ := serve_l5 hi m fu (k : Int) v' y (out ++ [((s' : Int), (n : Int))]) (by omega) (by omega) (by simp; omega) (by omega) hst.1
          refine ⟨l ++ [((s' : Int), (n : Int))], ?_, ?_⟩
          · rw [e5]; exact .snoc hp hk hst.2.1 hst.2.2.1 h3 hst.2.2.2.2
          · rw [ap_t (by simp; omega)]
            show round_crier_serve_l5 (v0 : Int) met fu (k : Int) (v' : Int) (out ++ [((s' : Int), (n : Int))]) = _
            rw [hq]; simp
def Soon (met : Met) (j : Nat) (es mn : Int) : Prop := (mn = -1 ∧ ∀ k : Nat, k < j → mget met ((k : Int), 0) = none) ∨ ((∃ r, mget met (es, 0) = some r ∧ r.1 = mn) ∧ 0 ≤ mn ∧ ∀ (k : Nat) (r : Rec), k < j → mget met ((k : Int), 0) = some r → mn ≤ r.1)
theorem serve_l4 (h0 : ∀ (k : Nat) (r : Rec), mget met ((k : Int), 0) = some r → 0 ≤ r.1) {hs : List (List Int)} : ∀ (tl : List (List Int)) (j : Nat) (es mn : Int), hs.drop j = tl → Soon met j es mn → j ≤ hs.length →
    ∃ es' mn', round_crier_serve_l4 met tl (j : Int) es mn = some (es', mn') ∧ Soon met hs.length es' mn'
  | [], j, es, mn, hd, hs', hj => by
    have : hs.length = j := by
      have := congrArg List.length hd
      rw [List.length_drop, List.length_nil] at this; omega
    exact ⟨es, mn, rfl, by rw [this]; exact hs'⟩
  | x :: tl, j, es, mn, hd, hs', _ => by
    obtain ⟨hj, hx, hd2⟩ := drop_cons [] hd
    unfold round_crier_serve_l4
    cases hm : mget met ((j : Int), 0) with
    | none =>
      rw [if_neg (by simp), b1_some, if_neg (by decide)]
      refine serve_l4 h0 tl (j + 1) es mn hd2 ?_ hj
      rcases hs' with ⟨a, b⟩ | ⟨a, b, d⟩
      · refine .inl ⟨a, fun k hk => ?_⟩
        by_cases e : k = j
        · rw [e]; exact hm
        · exact b k (by omega)
      · refine .inr ⟨a, b, fun k r hk hr => ?_⟩
        by_cases e : k = j
        · rw [e, hm] at hr; cases hr
        · exact d k r (by omega) hr
    | some r0 =>
      have hr0 := h0 j r0 hm
      have take : (∀ (k : Nat) (r : Rec), k < j → mget met ((k : Int), 0) = some r → r0.1 ≤ r.1) → ∃ es' mn', round_crier_serve_l4 met tl ((j : Int) + 1) (j : Int) r0.1 = some (es', mn') ∧ Soon met hs.length es' mn' := fun hle =>
        serve_l4 h0 tl (j + 1) (j : Int) r0.1 hd2 (.inr ⟨⟨r0, hm, rfl⟩, hr0, fun k r hk hr => by
          by_cases e : k = j
          · rw [e, hm] at hr
            rw [Option.some.inj hr]; exact Int.le_refl _
          · exact hle k r (by omega) hr⟩) hj
      rw [if_pos (by simp)]
      rcases hs' with ⟨a, b⟩ | ⟨a, b, d⟩
      · rw [if_pos a, b1_some, if_pos rfl, bvE]
        exact take fun k r hk hr => by rw [b k hk] at hr; cases hr
      · rw [if_neg (by omega), b1_some]
        by_cases e : r0.1 < mn
        · rw [if_pos (show decide (((some r0).getD (0, 0, 0, 0, 0)).1 < mn) = true from decide_eq_true e), bvE]
          exact take fun k r hk hr => by have := d k r hk hr; omega
        · rw [if_neg (show ¬ decide (((some r0).getD (0, 0, 0, 0, 0)).1 < mn) = true from fun hd => e (of_decide_eq_true hd))]
          refine serve_l4 h0 tl (j + 1) es mn hd2 (.inr ⟨a, b, fun k r hk hr => ?_⟩) hj
          by_cases e2 : k = j
          · rw [e2, hm] at hr
            have := Option.some.inj hr
            subst this; omega
          · exact d k r (by omega) hr
end
end Go.Proofs.Ytfmapnhfamoecaa.Rd
namespace Go.Proofs.Ytfmapnhfamoecaa.Rd
open Go.PL Go.Proofs.Ytfmapnhfamoecaa.Rv
theorem rev_l1 {xs : List (Int × Int)} (hn : xs.length ≤ 1000) : ∀ (m fu k : Nat), xs.length - 2 * k ≤ m → m < fu → k ≤ xs.length →
    slices_Reverse_round_Cry_round_Cry_l1 fu (revK (0, 0) xs k) (k : Int) ((xs.length : Int) - 1 - (k : Int)) = some xs.reverse
  | _, 0, _, _, h, _ => by omega
  | m, fu + 1, k, h1, h2, h3 => by
    unfold slices_Reverse_round_Cry_round_Cry_l1
    by_cases c : (k : Int) < (xs.length : Int) - 1 - (k : Int)
    · obtain ⟨j, hj⟩ : ∃ j : Nat, j = xs.length - 1 - k := ⟨_, rfl⟩
      have hji : (xs.length : Int) - 1 - (k : Int) = (j : Int) := by omega
      have hl := revK_len ((0, 0) : Int × Int) xs k
      have hl2 : ((revK ((0, 0) : Int × Int) xs k).set k ((revK ((0, 0) : Int × Int) xs k).getD j (0, 0))).length = xs.length := by rw [List.length_set, hl]
      have hx3 : ∀ w : Int × Int, (w.1, w.2) = w := fun w => rfl
      rw [if_pos c, hji, ixN (0, 0) _ (by omega), ixN (0, 0) _ (by omega), hx3, hx3, bvE, Int.toNat_natCast, ixN (0, 0) _ (by omega), bvE, Int.toNat_natCast, revK_step (d := (0, 0)) hj (by omega), gd_t (r64_small (by omega)), gd_t (r64_small (by omega)), show (k : Int) + 1 = ((k + 1 : Nat) : Int) from rfl, show (j : Int) - 1 = (xs.length : Int) - 1 - ((k + 1 : Nat) : Int) by omega]
      cases m with
      | zero => omega
      | succ m => exact rev_l1 hn m fu (k + 1) (by omega) (by omega) (by omega)
    · rw [if_neg c, revK_end (by omega)]
theorem reverse_eq {xs : List (Int × Int)} (hn : xs.length ≤ 1000) : slices_Reverse_round_Cry_round_Cry xs = some xs.reverse := by
  unfold slices_Reverse_round_Cry_round_Cry
  have h := rev_l1 hn xs.length FU 0 (by omega) (by unfold FU; omega) (Nat.zero_le _)
  rw [revK_zero] at h
  rw [gd_t (r64_small (by omega))]
  rw [show (xs.length : Int) - 1 - ((0 : Nat) : Int) = (xs.length : Int) - 1 by omega] at h
  exact h
section
variable {ws hs : List (List Int)} {H st : Int} {ns : List (List Int × Int × Int)} {c : List Int} {ps : List (Int × Int)} {hit : List Int} {bd : Nat → Int} {ok : Int × Int → Option Bool} {v0 : Nat}
theorem Pth.len {S : Nat} {start : Int} {l : List (Int × Int)} {s : Int} {v : Nat} {t : Int} (h : Pth c ns hit bd S start v0 l s v t) : l.length + v ≤ v0 := by
  induction h with
  | nil => simp
  | snoc h hk hs hn hne hv ih =>
    rename_i l k v s n t
    have := dif_le v (hb hit s n)
    simp only [List.length_append, List.length_singleton]
    omega
theorem serve_eq (h : BtOK ws hs H st ns) (hc : CrOK hs ns c ps hit) (hbd : ∀ n, bd n ≤ 1000) (hok : ∀ (n : Nat) (m : Int), n < ns.length → ok ((n : Int), m) = some (decide (m ≤ bd n))) (hv0 : v0 < 512) :
    (round_crier_serve ws hs H st ns c ps hit (v0 : Int) ok = some ([], 0, false) ∧ ∀ l s t, ¬ Pth c ns hit bd hs.length st v0 l s 0 t) ∨
    ∃ l s t, round_crier_serve ws hs H st ns c ps hit (v0 : Int) ok = some (l, t, true) ∧ Pth c ns hit bd hs.length st v0 l s 0 t ∧ ∀ l' s' t', Pth c ns hit bd hs.length st v0 l' s' 0 t' → t ≤ t' := by
  obtain ⟨met, e1, hi⟩ := serve_l1 h hc hbd hok hv0 v0 FU _ (by unfold FU; omega) (Nat.le_refl _) (inv_first (c := c) (ns := ns) (hit := hit) (bd := bd) (hs := hs) (v0 := v0) h.hst)
  obtain ⟨es, mn, e2, h2⟩ := serve_l4 (fun k r hr => (hi.rng _ _ hr).2.2.1) (hs := hs) hs 0 (-1) (-1) rfl (.inl ⟨rfl, fun k hk => absurd hk (Nat.not_lt_zero _)⟩) (Nat.zero_le _)
  have e2' : round_crier_serve_l4 met hs 0 (-1) (-1) = some (es, mn) := e2
  have hat : ∀ (l : List (Int × Int)) (s t : Int), Pth c ns hit bd hs.length st v0 l s 0 t → ∃ (k : Nat) (r : Rec), k < hs.length ∧ mget met ((k : Int), 0) = some r ∧ r.1 ≤ t := fun l s t hp => by
    obtain ⟨r, hr, hle⟩ := hi.best hp
    obtain ⟨⟨a, b⟩, _⟩ := hi.rng _ _ hr
    have a' : 0 ≤ s := a
    have b' : s < (hs.length : Int) := b
    refine ⟨s.toNat, r, by omega, ?_, hle⟩
    rw [show ((s.toNat : Nat) : Int) = s by omega]
    exact hr
  unfold round_crier_serve
  rw [bvE, e1, b1_some, e2', b2_some]
  rcases h2 with ⟨a, b⟩ | ⟨⟨r, hr, hmn⟩, b, d⟩
  · rw [if_pos a]
    refine .inl ⟨rfl, fun l s t hp => ?_⟩
    obtain ⟨k, r, hk, hr, _⟩ := hat l s t hp
    rw [b k hk] at hr; cases hr
  · rw [if_neg (by omega)]
    obtain ⟨l, hp, e3⟩ := serve_l5 hi v0 FU es 0 r [] (by omega) (by unfold FU; omega) (by simp; omega) (Nat.zero_le _) hr
    have e3' : round_crier_serve_l5 (v0 : Int) met FU es 0 [] = some ([] ++ l.reverse) := e3
    have hl := hp.len
    rw [e3', b1_some, List.nil_append, reverse_eq (by rw [List.length_reverse]; omega), b1_some, List.reverse_reverse]
    refine .inr ⟨l, es, mn, rfl, by rw [← hmn]; exact hp, fun l' s' t' hp' => ?_⟩
    obtain ⟨k, r', hk, hr', hle⟩ := hat l' s' t' hp'
    have := d k r' hk hr'
    omega
end
end Go.Proofs.Ytfmapnhfamoecaa.Rd
