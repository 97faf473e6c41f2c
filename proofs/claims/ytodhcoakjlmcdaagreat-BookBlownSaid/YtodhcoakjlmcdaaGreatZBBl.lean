/- Numbers out of a bell, and towns that are made of them, in plain Lean. -/
import Derived.Test.YtodhcoakjlmcdaaGreatZBHB
namespace Go.Proofs.YtodhcoakjlmcdaaGreat
open Go.PL Go.Hear
theorem bandK_rng (x : Int) : 0 ≤ bandK 32 x 65535 ∧ bandK 32 x 65535 ≤ 65535 := by
  unfold bandK
  rw [BitVec.toNat_and]
  have h : (BitVec.ofInt 32 x).toNat &&& (BitVec.ofInt 32 65535).toNat ≤ (BitVec.ofInt 32 65535).toNat := Nat.and_le_right
  have e : (BitVec.ofInt 32 65535).toNat = 65535 := by decide
  rw [e] at h ⊢
  omega
section
variable {metal : List Int}
theorem ring_ok {a t : Int} (h : 0 ≤ a ∧ a ≤ metal.length) (hm : (metal.length : Int) ≤ 9223372036854775807) : ∃ v a' t', oyezkit_Bell_ring metal a t = some (v, a', t') ∧ (0 ≤ v ∧ v ≤ 65535) ∧ (0 ≤ a' ∧ a' ≤ metal.length) := by
  unfold oyezkit_Bell_ring
  have e : ∃ b u, (if a = (metal.length : Int) then some ((0 : Int), (t + 1) % 4294967296) else some (a, t)) = some (b, u) ∧ 0 ≤ b ∧ (0 < (metal.length : Int) → b < metal.length) ∧ b ≤ metal.length := by
    by_cases h1 : a = (metal.length : Int)
    · exact ⟨_, _, if_pos h1, by omega, fun h => h, by omega⟩
    · exact ⟨_, _, if_neg h1, by omega, fun _ => by omega, by omega⟩
  obtain ⟨b, u, e1, e2, e3, e4⟩ := e
  rw [e1, b2_some, bvE]
  by_cases h2 : 0 < (metal.length : Int)
  · have h3 := e3 h2
    rw [if_pos h2, ix_get _ e2 h3, bvE, gd_t (by unfold R64; omega), b2_some]
    generalize bxorK 32 _ _ = z
    have hz := bandK_rng z
    rw [gd_t (r64_small (by omega))]
    exact ⟨_, _, _, rfl, hz, by omega, by omega⟩
  · rw [if_neg h2, b2_some]
    generalize bxorK 32 _ _ = z
    have hz := bandK_rng z
    rw [gd_t (r64_small (by omega))]
    exact ⟨_, _, _, rfl, hz, by omega, by omega⟩
theorem stroke_ok {a t n : Int} (h : 0 ≤ a ∧ a ≤ metal.length) (hm : (metal.length : Int) ≤ 9223372036854775807) (hn : -1000000 ≤ n ∧ n ≤ 1000000) : ∃ v a' t', oyezkit_Bell_Stroke metal a t n = some (v, a', t') ∧ 0 ≤ v ∧ (v ≤ n ∨ v = 0) ∧ (0 ≤ a' ∧ a' ≤ metal.length) := by
  unfold oyezkit_Bell_Stroke
  obtain ⟨v, a', t', h1, h2, h3⟩ := ring_ok (t := t) h hm
  rw [h1, b3_some, gd_t (r64_small (by omega)), gd_t (by split <;> omega)]
  refine ⟨_, _, _, rfl, ?_, ?_, h3⟩
  · exact Int.tmod_nonneg _ h2.1
  · have hpos : 0 < (if n + 1 > 1 then n + 1 else 1) := by split <;> omega
    rw [Int.tmod_eq_emod_of_nonneg h2.1]
    have hlt := Int.emod_lt_of_pos v hpos
    have hge := Int.emod_nonneg v (Int.ne_of_gt hpos)
    generalize v % (if n + 1 > 1 then n + 1 else 1) = z at hlt hge
    split at hlt <;> omega
theorem strike_ok {a t lo hi : Int} (h : 0 ≤ a ∧ a ≤ metal.length) (hm : (metal.length : Int) ≤ 9223372036854775807) (hl : -1000 ≤ lo ∧ lo ≤ 1000) (hh : -1000 ≤ hi ∧ hi ≤ 1000) : ∃ v a' t', oyezkit_Bell_Strike metal a t lo hi = some (v, a', t') ∧ lo ≤ v ∧ (v ≤ hi ∨ v = lo) ∧ (0 ≤ a' ∧ a' ≤ metal.length) := by
  unfold oyezkit_Bell_Strike
  obtain ⟨v, a', t', h1, h2, h3, h4⟩ := stroke_ok (t := t) (n := hi - lo) h hm (by omega)
  rw [gd_t (r64_small (by omega)), h1, b3_some, gd_t (r64_small (by omega))]
  exact ⟨_, _, _, rfl, by omega, by omega, h4⟩
theorem cntH_app (xs ys : List Int) : cntH (xs ++ ys) = cntH xs + cntH ys := by simp [cntH, List.filter_append]
theorem cntH_set0 : ∀ (xs : List Int) (i : Nat), cntH (xs.set i 0) ≤ cntH xs
  | [], i => by simp
  | x :: xs, 0 => by simp [cntH, List.filter_cons]; split <;> simp
  | x :: xs, i + 1 => by
    have := cntH_set0 xs i
    unfold cntH at *
    rw [List.set_cons_succ, List.filter_cons, List.filter_cons]
    split <;> simp <;> omega
theorem made_l1 (hm : (metal.length : Int) ≤ 9223372036854775807) : ∀ (fu : Nat) (a t : Int) (ps : List Int) (left : Int), (0 ≤ a ∧ a ≤ metal.length) → ps.length + fu ≤ 1000 → ps.all okP = true → (cntH ps : Int) ≤ 10 - left ∨ (left < 0 ∧ (cntH ps : Int) ≤ 10) → -1000 + (fu : Int) ≤ left → left ≤ 10 → (cntH ps : Int) ≤ 10 →
    ∃ a' t' ps', oyezlaw01_Made_l1 metal fu a t ps left = some (a', t', ps') ∧ (0 ≤ a' ∧ a' ≤ metal.length) ∧ ps'.length = ps.length + fu ∧ ps'.all okP = true ∧ (cntH ps' : Int) ≤ 10
  | 0, a, t, ps, left, ha, _, hp, _, _, _, hc => ⟨a, t, ps, rfl, ha, rfl, hp, hc⟩
  | fu + 1, a, t, ps, left, ha, hl, hp, hl2, hl3, hl4, hc => by
    unfold oyezlaw01_Made_l1
    obtain ⟨v, a', t', h1, h2, h3, h4⟩ := stroke_ok (t := t) (n := 5) ha hm (by omega)
    have hv : v = 0 ∨ v = 1 ∨ v = 2 ∨ v = 3 ∨ v = 4 ∨ v = 5 := by omega
    obtain ⟨x, hx, hx2⟩ : ∃ x : Int, ([0, 0, 0, 1, 1, 2] : List Int)[v.toNat]? = some x ∧ (x = 0 ∨ x = 1 ∨ x = 2) := by
      rcases hv with rfl | rfl | rfl | rfl | rfl | rfl
      · exact ⟨0, rfl, by decide⟩
      · exact ⟨0, rfl, by decide⟩
      · exact ⟨0, rfl, by decide⟩
      · exact ⟨1, rfl, by decide⟩
      · exact ⟨1, rfl, by decide⟩
      · exact ⟨2, rfl, by decide⟩
    rw [h1, b3_some, ix_t h2 hx, gd_t (r64_small (by omega))]
    have hall : ∀ p : Int, (p = 0 ∨ p = 1 ∨ p = 2) → (ps ++ [p]).all okP = true := fun p hp' => by
      rw [List.all_append, hp]
      rcases hp' with rfl | rfl | rfl <;> rfl
    have hlen : ∀ p : Int, (ps ++ [p]).length = ps.length + 1 := fun p => by simp
    by_cases e1 : x = 1
    · rw [if_pos e1]
      by_cases e2 : left - 1 < 0
      · rw [if_pos e2, b2_some, ap_t (by simp; omega)]
        have hc0 : cntH (ps ++ [0]) = cntH ps := by rw [cntH_app]; rfl
        obtain ⟨a2, t2, p2, g1, g2, g3, g4, g5⟩ := made_l1 hm fu a' t' (ps ++ [0]) (left - 1) h4 (by rw [hlen]; omega) (hall 0 (by decide)) (by rw [hc0]; omega) (by omega) (by omega) (by rw [hc0]; omega)
        exact ⟨a2, t2, p2, g1, g2, by rw [g3, hlen]; omega, g4, g5⟩
      · rw [if_neg e2, b2_some, ap_t (by simp; omega), e1]
        have hc1 : cntH (ps ++ [1]) = cntH ps + 1 := by rw [cntH_app]; rfl
        obtain ⟨a2, t2, p2, g1, g2, g3, g4, g5⟩ := made_l1 hm fu a' t' (ps ++ [1]) (left - 1) h4 (by rw [hlen]; omega) (hall 1 (by decide)) (by rw [hc1]; omega) (by omega) (by omega) (by rw [hc1]; omega)
        exact ⟨a2, t2, p2, g1, g2, by rw [g3, hlen]; omega, g4, g5⟩
    · rw [if_neg e1, b2_some, ap_t (by simp; omega)]
      have hc1 : cntH (ps ++ [x]) = cntH ps := by
        rw [cntH_app]
        rcases hx2 with rfl | rfl | rfl
        · rfl
        · exact absurd rfl e1
        · rfl
      obtain ⟨a2, t2, p2, g1, g2, g3, g4, g5⟩ := made_l1 hm fu a' t' (ps ++ [x]) left h4 (by rw [hlen]; omega) (hall x hx2) (by rw [hc1]; omega) (by omega) (by omega) (by rw [hc1]; omega)
      exact ⟨a2, t2, p2, g1, g2, by rw [g3, hlen]; omega, g4, g5⟩
theorem made_ok {a t plots : Int} (ha : 0 ≤ a ∧ a ≤ metal.length) (hm : (metal.length : Int) ≤ 9223372036854775807) (hp : 6 ≤ plots ∧ plots ≤ 30) : ∃ wide ps a' t', oyezlaw01_Made metal a t plots = some (wide, ps, a', t') ∧ chk wide ps = 0 ∧ (ps.length : Int) ≤ plots ∧ (∃ s : Nat, s < ps.length ∧ ps.getD s 0 = 0) ∧ (0 ≤ a' ∧ a' ≤ metal.length) := by
  unfold oyezlaw01_Made
  obtain ⟨n, a1, t1, h1, h2, h3, h4⟩ := strike_ok (t := t) (lo := 1) (hi := 6) ha hm (by omega) (by omega)
  have hdv : Int.tdiv plots n = plots / n := Int.tdiv_eq_ediv_of_nonneg (by omega)
  have hd1 : 1 ≤ plots / n := Int.le_ediv_of_mul_le (by omega) (by omega)
  have hd2 : plots / n ≤ plots := Int.ediv_le_self _ (by omega)
  rw [h1, b3_some, hdv, gd_t ⟨by omega, r64_small (by omega)⟩]
  have hr : (if plots / n > 1 then plots / n else 1) = plots / n := by split <;> omega
  rw [hr]
  obtain ⟨r, a2, t2, g1, g2, g3, g4⟩ := strike_ok (t := t1) (lo := 1) (hi := plots / n) h4 hm (by omega) (by omega)
  have g3' : r ≤ plots / n := by omega
  have hmul : r * n ≤ plots := Int.le_trans (Int.mul_le_mul_of_nonneg_right g3' (by omega)) (by rw [Int.mul_comm]; exact Int.mul_ediv_self_le (by omega))
  have hmul0 : 1 ≤ r * n := by
    have := Int.mul_le_mul (show (1 : Int) ≤ r by omega) (show (1 : Int) ≤ n by omega) (by omega) (by omega)
    omega
  rw [g1, b3_some, gd_t (r64_small (by omega)), gd_t ⟨r64_small (by omega), r64_small (by omega)⟩]
  obtain ⟨a3, t3, ps, f1, f2, f3, f4, f5⟩ := made_l1 hm (Int.toNat (r * n - 0)) a2 t2 [] 10 g4 (by simp; omega) rfl (.inl (by decide)) (by omega) (by omega) (by decide)
  simp only [List.length_nil, Nat.zero_add] at f3
  rw [f1, b3_some, gd_t (r64_small (by omega))]
  obtain ⟨s, a4, t4, e1, e2, e3, e4⟩ := stroke_ok (t := t3) (n := (ps.length : Int) - 1) f2 hm (by omega)
  rw [e1, b3_some, ix_get _ e2 (by omega), bvE]
  have hlen : (ps.set s.toNat 0).length = ps.length := List.length_set
  have hcnt := cntH_set0 ps s.toNat
  have hall : (ps.set s.toNat 0).all okP = true := by
    rw [List.all_eq_true] at f4 ⊢
    intro x hx
    rcases List.mem_or_eq_of_mem_set hx with h | h
    · exact f4 x h
    · rw [h]; rfl
  have hmod : (ps.length : Int) % n = 0 := by
    have : (ps.length : Int) = r * n := by omega
    rw [this]; exact Int.mul_emod_left _ _
  refine ⟨n, _, a4, t4, rfl, ?_, by rw [hlen]; omega, ⟨s.toNat, by rw [hlen]; omega, ?_⟩, e4⟩
  · unfold chk
    rw [hlen, if_neg, if_neg (not_not_intro hall), if_neg (by omega)]
    rintro ((h | h) | h)
    · exact h (by omega)
    · exact h (by omega)
    · exact h hmod
  · rw [getD_set (by omega), if_pos rfl]
theorem aired_ok {a t : Int} (ha : 0 ≤ a ∧ a ≤ metal.length) (hm : (metal.length : Int) ≤ 9223372036854775807) : ∃ w v a' t', oyezlaw01_Aired metal a t = some (w, v, a', t') ∧ okW w ∧ (1 ≤ v ∧ v ≤ 16) ∧ (0 ≤ a' ∧ a' ≤ metal.length) := by
  unfold oyezlaw01_Aired
  obtain ⟨n, a1, t1, h1, h2, h3, h4⟩ := stroke_ok (t := t) (n := 4) ha hm (by omega)
  obtain ⟨r, a2, t2, g1, g2, g3, g4⟩ := strike_ok (t := t1) (lo := 1) (hi := 16) h4 hm (by omega) (by omega)
  rw [h1, b3_some, g1, b3_some]
  exact ⟨n, r, a2, t2, rfl, ⟨h2, by omega⟩, by omega, g4⟩
end
end Go.Proofs.YtodhcoakjlmcdaaGreat
