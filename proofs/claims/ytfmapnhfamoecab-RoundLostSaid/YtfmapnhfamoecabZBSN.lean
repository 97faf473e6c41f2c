/- All places with some pairs left; in plain Lean. -/
import Derived.Test.YtfmapnhfamoecabZBSM
namespace Go.Proofs.Ytfmapnhfamoecab.Rd
open Go.PL
theorem dif_le (x y : Nat) : dif x y ≤ x := by
  have h : dif x y &&& x = dif x y := Nat.eq_of_testBit_eq fun i => by
    rw [Nat.testBit_and, bit_dif]
    cases x.testBit i <;> simp
  rw [← h]
  exact Nat.and_le_right
section
variable {ws hs : List (List Int)} {H st : Int} {ns : List (List Int × Int × Int)} {c : List Int} {ps : List (Int × Int)} {hit : List Int} {bd : Nat → Int} {ok : Int × Int → Option Bool}
/-- A cry that serves something, from a place where it is known how soon one can be there. -/
def Stp (c : List Int) (ns : List (List Int × Int × Int)) (hit : List Int) (bd : Nat → Int) (S : Nat) (met : Met) (v k s n : Nat) (y : Rec) : Prop :=
  mget met ((k : Int), (v : Int)) = some y ∧ s < S ∧ n < ns.length ∧ dif v (hb hit s n) ≠ v ∧ Val c ns bd y.1 k s n
theorem serve_l2 (h : BtOK ws hs H st ns) (hc : CrOK hs ns c ps hit) (hok : ∀ (n : Nat) (m : Int), n < ns.length → ok ((n : Int), m) = some (decide (m ≤ bd n))) {v : Nat} (hv : v < 512) : ∀ (tl : List (List Int)) (j : Nat) (met : Met), hs.drop j = tl → (∀ (k : Nat) (y : Rec), mget met ((k : Int), (v : Int)) = some y → 0 ≤ y.1 ∧ y.1 ≤ 1000) →
    ∃ met', round_crier_serve_l2 ws hs H st ns c ps hit ok (v : Int) tl (j : Int) met = some met' ∧
      (∀ key : Int × Int, (v : Int) ≤ key.2 → mget met' key = mget met key) ∧
      (∀ (key : Int × Int) (r : Rec), mget met' key = some r → mget met key = some r ∨ ∃ (k s n : Nat) (y : Rec), k < hs.length ∧ Stp c ns hit bd hs.length met v k s n y ∧ key = ((s : Int), (dif v (hb hit s n) : Int)) ∧ r = (y.1 + en c k s + wrd ns n, (s : Int), (n : Int), (k : Int), (v : Int))) ∧
      (∀ (key : Int × Int) (r : Rec), mget met key = some r → ∃ r', mget met' key = some r' ∧ r'.1 ≤ r.1) ∧
      (∀ (k s n : Nat) (y : Rec), j ≤ k → k < hs.length → Stp c ns hit bd hs.length met v k s n y → ∃ r', mget met' ((s : Int), (dif v (hb hit s n) : Int)) = some r' ∧ r'.1 ≤ y.1 + en c k s + wrd ns n)
  | [], j, met, hd, _ => ⟨met, rfl, fun _ _ => rfl, fun _ _ h => .inl h, fun _ r h => ⟨r, h, Int.le_refl _⟩, fun k s n y h1 h2 _ => by
      have := congrArg List.length hd
      rw [List.length_drop, List.length_nil] at this; omega⟩
  | x :: tl, j, met, hd, hy => by
    obtain ⟨hj, hx, hd2⟩ := drop_cons [] hd
    have h5 := h.hs1.2
    unfold round_crier_serve_l2
    cases hm : mget met ((j : Int), (v : Int)) with
    | none =>
      rw [if_pos (by simp), b1_some]
      obtain ⟨met', g0, g1, g2, g3, g4⟩ := serve_l2 h hc hok hv tl (j + 1) met hd2 hy
      refine ⟨met', g0, g1, g2, g3, fun k s n y h1 h2 h3 => ?_⟩
      by_cases e : k = j
      · rw [e] at h3; have := h3.1; rw [hm] at this; cases this
      · exact g4 k s n y (by omega) h2 h3
    | some y0 =>
      rw [if_neg (by simp), served_eq h hc hv, b1_some]
      have hmem : ∀ z ∈ srvB hit v ns.length hs.length 0, ∃ s n : Nat, s < 5 ∧ n < ns.length ∧ z.1 = ((s : Int), (n : Int)) := fun z hz => by
        obtain ⟨s, n, _, h2, h3, _, h4⟩ := (mem_srvB _ _).1 hz
        exact ⟨s, n, by omega, h3, by rw [h4]⟩
      obtain ⟨m1, f0, f1, f2, f3, f4⟩ := serve_l3 hc.fin h.note hok (k := j) (by omega) hm (hy j y0 hm) (srvB hit v ns.length hs.length 0) met hmem
      have hkeep : ∀ key : Int × Int, (v : Int) ≤ key.2 → mget m1 key = mget met key := fun key hk => f1 key fun z hz he => by
        obtain ⟨s, n, _, _, _, h3, h4⟩ := (mem_srvB _ _).1 hz
        have h5 := dif_le v (hb hit s n)
        have h6 : z.2 = (dif v (hb hit s n) : Int) := by rw [h4]
        have h7 : key.2 = z.2 := by rw [← he]
        omega
      have hs1 : ∀ k s n y, Stp c ns hit bd hs.length m1 v k s n y ↔ Stp c ns hit bd hs.length met v k s n y := fun k s n y => by
        unfold Stp
        rw [hkeep _ (Int.le_refl _)]
      obtain ⟨met', g0, g1, g2, g3, g4⟩ := serve_l2 h hc hok hv tl (j + 1) m1 hd2 (fun k y hk => hy k y (by rw [← hkeep _ (Int.le_refl _)]; exact hk))
      refine ⟨met', ?_, fun key hk => (g1 key hk).trans (hkeep key hk), fun key r hr => ?_, fun key r hr => ?_, fun k s n y h1 h2 h3 => ?_⟩
      · rw [f0, b1_some]; exact g0
      · rcases g2 key r hr with q | ⟨k, s, n, y, q1, q2, q3⟩
        · rcases f2 key r q with q | ⟨z, hz, s, n, e1, e2, e3, e4, e5, e6⟩
          · exact .inl q
          · obtain ⟨s', n', _, p2, p3, p4, p5⟩ := (mem_srvB _ _).1 hz
            have ee : ((s' : Int), (n' : Int)) = ((s : Int), (n : Int)) := by rw [← e1, p5]
            obtain ⟨ea, eb⟩ := Prod.mk.inj ee
            obtain rfl : s' = s := by omega
            obtain rfl : n' = n := by omega
            refine .inr ⟨j, s', n', y0, hj, ⟨hm, by omega, p3, p4, e4⟩, ?_, e6⟩
            rw [e5, p5]
        · exact .inr ⟨k, s, n, y, q1, (hs1 k s n y).1 q2, q3⟩
      · obtain ⟨r1, q1, q2⟩ := f3 key r hr
        obtain ⟨r2, q3, q4⟩ := g3 key r1 q1
        exact ⟨r2, q3, Int.le_trans q4 q2⟩
      · by_cases e : k = j
        · subst e
          have hyy : y0 = y := by
            have := h3.1; rw [hm] at this; exact Option.some.inj this
          subst hyy
          have hz : (((s : Int), (n : Int)), (dif v (hb hit s n) : Int)) ∈ srvB hit v ns.length hs.length 0 := (mem_srvB _ _).2 ⟨s, n, Nat.zero_le _, by have := h3.2.1; omega, h3.2.2.1, h3.2.2.2.1, rfl⟩
          obtain ⟨r1, q1, q2⟩ := f4 _ hz s n rfl h3.2.2.2.2
          obtain ⟨r2, q3, q4⟩ := g3 _ r1 q1
          exact ⟨r2, q3, Int.le_trans q4 q2⟩
        · exact g4 k s n y (by omega) h2 ((hs1 k s n y).2 h3)
end
end Go.Proofs.Ytfmapnhfamoecab.Rd
