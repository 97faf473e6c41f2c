/- All places, with fewer and fewer pairs left; in plain Lean. -/
import Derived.Test.YtggpjocmoelpbaaGreatZAMB
import Derived.Test.YtggpjocmoelpbaaGreatZARv
namespace Go.Proofs.YtggpjocmoelpbaaGreat.Rd
open Go.PL
theorem dif_zero {x y : Nat} : dif x y = 0 ↔ ∀ i, x.testBit i = true → y.testBit i = true := by
  constructor
  · intro h i hi
    have := bit_dif x y i
    rw [h, Nat.zero_testBit, hi, Bool.true_and] at this
    cases hb : y.testBit i with
    | true => rfl
    | false => rw [hb] at this; cases this
  · intro h
    refine Nat.eq_of_testBit_eq fun i => ?_
    rw [bit_dif, Nat.zero_testBit]
    cases hx : x.testBit i with
    | false => rfl
    | true => rw [h i hx]; rfl
structure Inv (c : List Int) (ns : List (List Int × Int × Int)) (hit : List Int) (bd : Nat → Int) (S : Nat) (start : Int) (v0 L : Nat) (met : Met) : Prop where
  rng : ∀ (key : Int × Int) (r : Rec), mget met key = some r → (0 ≤ key.1 ∧ key.1 < (S : Int)) ∧ (∃ v : Nat, key.2 = (v : Int) ∧ v ≤ v0 ∧ dif v v0 = 0) ∧ 0 ≤ r.1 ∧ r.1 ≤ 1000
  sound : ∀ (key : Int × Int) (r : Rec), mget met key = some r → (key = (start, (v0 : Int)) ∧ r.1 = 0) ∨ ∃ (v k s n : Nat) (y : Rec), L < v ∧ k < S ∧ Stp c ns hit bd S met v k s n y ∧ key = ((s : Int), (dif v (hb hit s n) : Int)) ∧ r = (y.1 + en c k s + wrd ns n, (s : Int), (n : Int), (k : Int), (v : Int))
  full : ∀ (v k s n : Nat) (y : Rec), L < v → k < S → Stp c ns hit bd S met v k s n y → ∃ r', mget met ((s : Int), (dif v (hb hit s n) : Int)) = some r' ∧ r'.1 ≤ y.1 + en c k s + wrd ns n
  first : ∃ r, mget met (start, (v0 : Int)) = some r
section
variable {ws hs : List (List Int)} {H st : Int} {ns : List (List Int × Int × Int)} {c : List Int} {ps : List (Int × Int)} {hit : List Int} {bd : Nat → Int} {ok : Int × Int → Option Bool} {start : Int} {v0 : Nat}
theorem Inv.step (h : BtOK ws hs H st ns) (hc : CrOK hs ns c ps hit) (hbd : ∀ n, bd n ≤ 1000) {L : Nat} {met met' : Met} (hi : Inv c ns hit bd hs.length start v0 (L + 1) met)
    (g1 : ∀ key : Int × Int, ((L + 1 : Nat) : Int) ≤ key.2 → mget met' key = mget met key)
    (g2 : ∀ (key : Int × Int) (r : Rec), mget met' key = some r → mget met key = some r ∨ ∃ (k s n : Nat) (y : Rec), k < hs.length ∧ Stp c ns hit bd hs.length met (L + 1) k s n y ∧ key = ((s : Int), (dif (L + 1) (hb hit s n) : Int)) ∧ r = (y.1 + en c k s + wrd ns n, (s : Int), (n : Int), (k : Int), ((L + 1 : Nat) : Int)))
    (g3 : ∀ (key : Int × Int) (r : Rec), mget met key = some r → ∃ r', mget met' key = some r' ∧ r'.1 ≤ r.1)
    (g4 : ∀ (k s n : Nat) (y : Rec), 0 ≤ k → k < hs.length → Stp c ns hit bd hs.length met (L + 1) k s n y → ∃ r', mget met' ((s : Int), (dif (L + 1) (hb hit s n) : Int)) = some r' ∧ r'.1 ≤ y.1 + en c k s + wrd ns n) : Inv c ns hit bd hs.length start v0 L met' := by
  have hs1 : ∀ v k s n y, L + 1 ≤ v → (Stp c ns hit bd hs.length met' v k s n y ↔ Stp c ns hit bd hs.length met v k s n y) := fun v k s n y hv => by
    unfold Stp
    rw [g1 ((k : Int), (v : Int)) (by show ((L + 1 : Nat) : Int) ≤ (v : Int); omega)]
  have h5 := h.hs1.2
  refine ⟨fun key r hr => ?_, fun key r hr => ?_, fun v k s n y hv hk hst => ?_, ?_⟩
  · rcases g2 key r hr with q | ⟨k, s, n, y, q1, q2, q3, q4⟩
    · exact hi.rng key r q
    · obtain ⟨p1, p2, p3, p4, p5⟩ := q2
      obtain ⟨_, ⟨v, e1, e2, e3⟩, e4⟩ := hi.rng _ _ p1
      have ev : v = L + 1 := by
        have : ((L + 1 : Nat) : Int) = (v : Int) := e1
        omega
      subst ev
      have hle := dif_le (L + 1) (hb hit s n)
      have hr1 := hc.fin.rng k s (by omega) (by omega)
      have hw := (h.note _ (getD_mem (d := ([], 0, 0)) p3)).2.1
      have hw' : 1 ≤ wrd ns n ∧ wrd ns n ≤ 5 := hw
      obtain ⟨u1, u2⟩ := p5
      have hb1 := hbd n
      subst q3 q4
      refine ⟨⟨by show 0 ≤ (s : Int); omega, by show (s : Int) < (hs.length : Int); omega⟩, ⟨_, rfl, by omega, ?_⟩, ?_, ?_⟩
      · rw [dif_zero] at e3 ⊢
        intro i hi'
        rw [bit_dif] at hi'
        exact e3 i (Bool.and_eq_true_iff.1 hi').1
      · show 0 ≤ y.1 + en c k s + wrd ns n; omega
      · show y.1 + en c k s + wrd ns n ≤ 1000; omega
  · rcases g2 key r hr with q | ⟨k, s, n, y, q1, q2, q3, q4⟩
    · rcases hi.sound key r q with q | ⟨v, k, s, n, y, p1, p2, p3, p4⟩
      · exact .inl q
      · exact .inr ⟨v, k, s, n, y, by omega, p2, (hs1 v k s n y (by omega)).2 p3, p4⟩
    · exact .inr ⟨L + 1, k, s, n, y, by omega, q1, (hs1 _ k s n y (Nat.le_refl _)).2 q2, q3, q4⟩
  · have hst' := (hs1 v k s n y (by omega)).1 hst
    by_cases e : v = L + 1
    · subst e
      exact g4 k s n y (Nat.zero_le _) hk hst'
    · obtain ⟨r1, q1, q2⟩ := hi.full v k s n y (by omega) hk hst'
      obtain ⟨r2, q3, q4⟩ := g3 _ r1 q1
      exact ⟨r2, q3, Int.le_trans q4 q2⟩
  · obtain ⟨r, hr⟩ := hi.first
    obtain ⟨r2, q3, _⟩ := g3 _ r hr
    exact ⟨r2, q3⟩
theorem serve_l1 (h : BtOK ws hs H st ns) (hc : CrOK hs ns c ps hit) (hbd : ∀ n, bd n ≤ 1000) (hok : ∀ (n : Nat) (m : Int), n < ns.length → ok ((n : Int), m) = some (decide (m ≤ bd n))) (hv0 : v0 < 512) : ∀ (L fu : Nat) (met : Met), L < fu → L ≤ v0 → Inv c ns hit bd hs.length start v0 L met →
    ∃ met', round_crier_serve_l1 ws hs H st ns c ps hit (v0 : Int) ok fu met (L : Int) = some met' ∧ Inv c ns hit bd hs.length start v0 0 met'
  | 0, fu, met, hf, _, hi => by
    obtain ⟨fu, rfl⟩ : ∃ f, fu = f + 1 := ⟨fu - 1, by omega⟩
    unfold round_crier_serve_l1
    rw [if_neg (by omega)]
    exact ⟨met, rfl, hi⟩
  | L + 1, fu, met, hf, hl, hi => by
    obtain ⟨fu, rfl⟩ : ∃ f, fu = f + 1 := ⟨fu - 1, by omega⟩
    unfold round_crier_serve_l1
    rw [if_pos (by omega), bandn_nat (by omega) (by omega)]
    have hgo : ∃ met4, (if (dif (L + 1) v0 : Int) ≠ 0 then some met else round_crier_serve_l2 ws hs H st ns c ps hit ok ((L + 1 : Nat) : Int) hs 0 met) = some met4 ∧ Inv c ns hit bd hs.length start v0 L met4 := by
      by_cases e : dif (L + 1) v0 = 0
      · rw [if_neg (not_not_intro (by rw [e]; rfl))]
        obtain ⟨m1, g0, g1, g2, g3, g4⟩ := serve_l2 h hc hok (v := L + 1) (by omega) hs 0 met rfl (fun k y hk => (hi.rng _ _ hk).2.2)
        exact ⟨m1, g0, hi.step h hc hbd g1 g2 g3 g4⟩
      · rw [if_pos (by omega)]
        have hno : ∀ k s n y, ¬ Stp c ns hit bd hs.length met (L + 1) k s n y := fun k s n y hst => by
          obtain ⟨_, ⟨v, e1, _, e3⟩, _⟩ := hi.rng _ _ hst.1
          have : ((L + 1 : Nat) : Int) = (v : Int) := e1
          have : v = L + 1 := by omega
          rw [this] at e3
          exact e e3
        exact ⟨met, rfl, hi.step h hc hbd (fun _ _ => rfl) (fun _ _ hr => .inl hr) (fun _ r hr => ⟨r, hr, Int.le_refl _⟩) (fun k s n y _ _ hst => absurd hst (hno k s n y))⟩
    obtain ⟨met4, e4, hi4⟩ := hgo
    rw [e4, b1_some, gd_t (r64_small (by omega)), show ((L + 1 : Nat) : Int) - 1 = (L : Int) by omega]
    exact serve_l1 h hc hbd hok hv0 L fu met4 (by omega) (by omega) hi4
theorem inv_first (hst : 0 ≤ start ∧ start < (hs.length : Int)) : Inv c ns hit bd hs.length start v0 v0 (mput [] (start, (v0 : Int)) (0, 0, 0, 0, 0)) := by
  have hg : ∀ key : Int × Int, mget (mput ([] : Met) (start, (v0 : Int)) (0, 0, 0, 0, 0)) key = if (start, (v0 : Int)) = key then some (0, 0, 0, 0, 0) else none := fun key => by
    rw [mget_mput, mget_nil]
  refine ⟨fun key r hr => ?_, fun key r hr => ?_, fun v k s n y hv hk hst => ?_, ⟨(0, 0, 0, 0, 0), by rw [hg, if_pos rfl]⟩⟩
  · rw [hg] at hr
    by_cases e : (start, (v0 : Int)) = key
    · rw [if_pos e] at hr
      obtain rfl := Option.some.inj hr
      subst e
      exact ⟨hst, ⟨v0, rfl, Nat.le_refl _, dif_zero.2 fun i hi => hi⟩, by decide, by decide⟩
    · rw [if_neg e] at hr; cases hr
  · rw [hg] at hr
    by_cases e : (start, (v0 : Int)) = key
    · rw [if_pos e] at hr
      obtain rfl := Option.some.inj hr
      exact .inl ⟨e.symm, rfl⟩
    · rw [if_neg e] at hr; cases hr
  · have := hst.1
    rw [hg] at this
    by_cases e : (start, (v0 : Int)) = ((k : Int), (v : Int))
    · have := (Prod.mk.inj e).2
      omega
    · rw [if_neg e] at this; cases this
end
end Go.Proofs.YtggpjocmoelpbaaGreat.Rd
namespace Go.Proofs.YtggpjocmoelpbaaGreat.Rd
open Go.PL
inductive Pth (c : List Int) (ns : List (List Int × Int × Int)) (hit : List Int) (bd : Nat → Int) (S : Nat) (start : Int) (v0 : Nat) : List (Int × Int) → Int → Nat → Int → Prop
  | nil : Pth c ns hit bd S start v0 [] start v0 0
  | snoc {l : List (Int × Int)} {k v s n : Nat} {t : Int} (h : Pth c ns hit bd S start v0 l (k : Int) v t) (hk : k < S) (hs : s < S) (hn : n < ns.length) (hne : dif v (hb hit s n) ≠ v) (hv : Val c ns bd t k s n) : Pth c ns hit bd S start v0 (l ++ [((s : Int), (n : Int))]) (s : Int) (dif v (hb hit s n)) (t + en c k s + wrd ns n)
section
variable {c : List Int} {ns : List (List Int × Int × Int)} {hit : List Int} {bd : Nat → Int} {S : Nat} {start : Int} {v0 : Nat} {met : Met}
theorem Inv.last (hi : Inv c ns hit bd S start v0 0 met) {s : Int} {r : Rec} (hr : mget met (s, (v0 : Int)) = some r) : s = start ∧ r.1 = 0 := by
  rcases hi.sound _ r hr with ⟨e, h0⟩ | ⟨v, k, s', n, y, _, _, hst, e, _⟩
  · exact ⟨(Prod.mk.inj e).1, h0⟩
  · obtain ⟨_, ⟨u, e1, e2, _⟩, _⟩ := hi.rng _ _ hst.1
    have h1 := (Prod.mk.inj e).2
    have h2 := dif_le v (hb hit s' n)
    have h3 := hst.2.2.2.1
    have : (v : Int) = (u : Int) := e1
    omega
theorem Inv.best (hi : Inv c ns hit bd S start v0 0 met) {l : List (Int × Int)} {s : Int} {v : Nat} {t : Int} (h : Pth c ns hit bd S start v0 l s v t) : ∃ r, mget met (s, (v : Int)) = some r ∧ r.1 ≤ t := by
  induction h with
  | nil =>
    obtain ⟨r, hr⟩ := hi.first
    exact ⟨r, hr, by rw [(hi.last hr).2]; exact Int.le_refl _⟩
  | @snoc l k v s n t h hk hs hn hne hv ih =>
    obtain ⟨y, hy, hle⟩ := ih
    have hv0 : 0 < v := Nat.pos_of_ne_zero fun h0 => hne (by
      rw [h0]
      exact Nat.le_zero.1 (dif_le 0 _))
    have hst : Stp c ns hit bd S met v k s n y := ⟨hy, hs, hn, hne, hv.1, by have := hv.2; omega⟩
    obtain ⟨r', q1, q2⟩ := hi.full v k s n y hv0 hk hst
    exact ⟨r', q1, by omega⟩
end
end Go.Proofs.YtggpjocmoelpbaaGreat.Rd
namespace Go.Proofs.YtggpjocmoelpbaaGreat.Rd
open Go.PL
section
variable {c : List Int} {ns : List (List Int × Int × Int)} {hit : List Int} {bd : Nat → Int} {S : Nat} {start : Int} {v0 : Nat} {met : Met}
theorem serve_l5 (hi : Inv c ns hit bd S start v0 0 met) : ∀ (m fu : Nat) (s : Int) (v : Nat) (r : Rec) (out : List (Int × Int)), v0 - v ≤ m → m < fu → out.length + m ≤ 1000 → v ≤ v0 → mget met (s, (v : Int)) = some r →
    ∃ l, Pth c ns hit bd S start v0 l s v r.1 ∧ round_crier_serve_l5 (v0 : Int) met fu s (v : Int) out = some (out ++ l.reverse)
  | m, 0, s, v, r, out, _, hf, _, _, _ => by omega
  | m, fu + 1, s, v, r, out, hm, hf, hl, hv, hr => by
    unfold round_crier_serve_l5
    by_cases e : v = v0
    · subst e
      obtain ⟨e1, e2⟩ := hi.last hr
      rw [if_neg (not_not_intro rfl)]
      exact ⟨[], by rw [e1, e2]; exact .nil, by simp⟩
    · rw [if_pos (by omega), hr]
      rcases hi.sound _ r hr with ⟨e1, h0⟩ | ⟨v', k, s', n, y, _, hk, hst, e1, e2⟩
      · have := (Prod.mk.inj e1).2
        omega
      · obtain ⟨_, ⟨u, e3, e4, _⟩, _⟩ := hi.rng _ _ hst.1
        have h2 := dif_le v' (hb hit s' n)
        have h3 := hst.2.2.2.1
        obtain ⟨e5, e6⟩ := Prod.mk.inj e1
        have e3' : (v' : Int) = (u : Int) := e3
        obtain rfl : v = dif v' (hb hit s' n) := by omega
        cases m with
        | zero => omega
        | succ m =>
          subst e2
          obtain ⟨l, hp, hq⟩ := serve_l5 hi m fu (k : Int) v' y (out ++ [((s' : Int), (n : Int))]) (by omega) (by omega) (by simp; omega) (by omega) hst.1
          refine ⟨l ++ [((s' : Int), (n : Int))], ?_, ?_⟩
          · rw [e5]; exact .snoc hp hk hst.2.1 hst.2.2.1 h3 hst.2.2.2.2
          · rw [ap_t (by simp; omega)]
            show round_crier_serve_l5 (v0 : Int) met fu (k : Int) (v' : Int) (out ++ [((s' : Int), (n : Int))]) = _
            rw [hq]; simp
def Soon (met : Met) (j : Nat) (es mn : Int) : Prop := (mn = -1 ∧ ∀ k : Nat, k < j → mget met ((k : Int), 0) = none) ∨ ((∃ r, mget met (es, 0) = some r ∧ r.1 = mn) ∧ 0 ≤ mn ∧ ∀ (k : Nat) (r : Rec), k < j → mget met ((k : Int), 0) = some r → mn ≤ r.1)
theorem serve_l4 (h0 : ∀ (k : Nat) (r : Rec), mget met ((k : Int), 0) = some r → 0 ≤ r.1) {hs : List (List Int)} : ∀ (tl : List (List Int)) (j : Nat) (es mn : Int), hs.drop j = tl → Soon met j es mn → j ≤ hs.length →
    ∃ es' mn', round_crier_serve_l4 met tl (j : Int) es mn = some (es', mn') ∧ Soon met hs.length es' mn'
  | [], j, es, mn, hd, hs', hj => by
    have : hs.length = j := by
      have := congrArg List.length hd
      rw [List.length_drop, List.length_nil] at this; omega
    exact ⟨es, mn, rfl, by rw [this]; exact hs'⟩
  | x :: tl, j, es, mn, hd, hs', _ => by
    obtain ⟨hj, hx, hd2⟩ := drop_cons [] hd
    unfold round_crier_serve_l4
    cases hm : mget met ((j : Int), 0) with
    | none =>
      rw [if_neg (by simp), b1_some, if_neg (by decide)]
      refine serve_l4 h0 tl (j + 1) es mn hd2 ?_ hj
      rcases hs' with ⟨a, b⟩ | ⟨a, b, d⟩
      · refine .inl ⟨a, fun k hk => ?_⟩
        by_cases e : k = j
        · rw [e]; exact hm
        · exact b k (by omega)
      · refine .inr ⟨a, b, fun k r hk hr => ?_⟩
        by_cases e : k = j
        · rw [e, hm] at hr; cases hr
        · exact d k r (by omega) hr
    | some r0 =>
      have hr0 := h0 j r0 hm
      have take : (∀ (k : Nat) (r : Rec), k < j → mget met ((k : Int), 0) = some r → r0.1 ≤ r.1) → ∃ es' mn', round_crier_serve_l4 met tl ((j : Int) + 1) (j : Int) r0.1 = some (es', mn') ∧ Soon met hs.length es' mn' := fun hle =>
        serve_l4 h0 tl (j + 1) (j : Int) r0.1 hd2 (.inr ⟨⟨r0, hm, rfl⟩, hr0, fun k r hk hr => by
          by_cases e : k = j
          · rw [e, hm] at hr
            rw [Option.some.inj hr]; exact Int.le_refl _
          · exact hle k r (by omega) hr⟩) hj
      rw [if_pos (by simp)]
      rcases hs' with ⟨a, b⟩ | ⟨a, b, d⟩
      · rw [if_pos a, b1_some, if_pos rfl, bvE]
        exact take fun k r hk hr => by rw [b k hk] at hr; cases hr
      · rw [if_neg (by omega), b1_some]
        by_cases e : r0.1 < mn
        · rw [if_pos (show decide (((some r0).getD (0, 0, 0, 0, 0)).1 < mn) = true from decide_eq_true e), bvE]
          exact take fun k r hk hr => by have := d k r hk hr; omega
        · rw [if_neg (show ¬ decide (((some r0).getD (0, 0, 0, 0, 0)).1 < mn) = true from fun hd => e (of_decide_eq_true hd))]
          refine serve_l4 h0 tl (j + 1) es mn hd2 (.inr ⟨a, b, fun k r hk hr => ?_⟩) hj
          by_cases e2 : k = j
          · rw [e2, hm] at hr
            have := Option.some.inj hr
            subst this; omega
          · exact d k r (by omega) hr
end
end Go.Proofs.YtggpjocmoelpbaaGreat.Rd
namespace Go.Proofs.YtggpjocmoelpbaaGreat.Rd
open Go.PL Go.Proofs.YtggpjocmoelpbaaGreat.Rv
theorem rev_l1 {xs : List (Int × Int)} (hn : xs.length ≤ 1000) : ∀ (m fu k : Nat), xs.length - 2 * k ≤ m → m < fu → k ≤ xs.length →
    slices_Reverse_round_Cry_round_Cry_l1 fu (revK (0, 0) xs k) (k : Int) ((xs.length : Int) - 1 - (k : Int)) = some xs.reverse
  | _, 0, _, _, h, _ => by omega
  | m, fu + 1, k, h1, h2, h3 => by
    unfold slices_Reverse_round_Cry_round_Cry_l1
    by_cases c : (k : Int) < (xs.length : Int) - 1 - (k : Int)
    · obtain ⟨j, hj⟩ : ∃ j : Nat, j = xs.length - 1 - k := ⟨_, rfl⟩
      have hji : (xs.length : Int) - 1 - (k : Int) = (j : Int) := by omega
      have hl := revK_len ((0, 0) : Int × Int) xs k
      have hl2 : ((revK ((0, 0) : Int × Int) xs k).set k ((revK ((0, 0) : Int × Int) xs k).getD j (0, 0))).length = xs.length := by rw [List.length_set, hl]
      have hx3 : ∀ w : Int × Int, (w.1, w.2) = w := fun w => rfl
      rw [if_pos c, hji, ixN (0, 0) _ (by omega), ixN (0, 0) _ (by omega), hx3, hx3, bvE, Int.toNat_natCast, ixN (0, 0) _ (by omega), bvE, Int.toNat_natCast, revK_step (d := (0, 0)) hj (by omega), gd_t (r64_small (by omega)), gd_t (r64_small (by omega)), show (k : Int) + 1 = ((k + 1 : Nat) : Int) from rfl, show (j : Int) - 1 = (xs.length : Int) - 1 - ((k + 1 : Nat) : Int) by omega]
      cases m with
      | zero => omega
      | succ m => exact rev_l1 hn m fu (k + 1) (by omega) (by omega) (by omega)
    · rw [if_neg c, revK_end (by omega)]
theorem reverse_eq {xs : List (Int × Int)} (hn : xs.length ≤ 1000) : slices_Reverse_round_Cry_round_Cry xs = some xs.reverse := by
  unfold slices_Reverse_round_Cry_round_Cry
  have h := rev_l1 hn xs.length FU 0 (by omega) (by unfold FU; omega) (Nat.zero_le _)
  rw [revK_zero] at h
  rw [gd_t (r64_small (by omega))]
  rw [show (xs.length : Int) - 1 - ((0 : Nat) : Int) = (xs.length : Int) - 1 by omega] at h
  exact h
section
variable {ws hs : List (List Int)} {H st : Int} {ns : List (List Int × Int × Int)} {c : List Int} {ps : List (Int × Int)} {hit : List Int} {bd : Nat → Int} {ok : Int × Int → Option Bool} {v0 : Nat}
theorem Pth.len {S : Nat} {start : Int} {l : List (Int × Int)} {s : Int} {v : Nat} {t : Int} (h : Pth c ns hit bd S start v0 l s v t) : l.length + v ≤ v0 := by
  induction h with
  | nil => simp
  | snoc h hk hs hn hne hv ih =>
    rename_i l k v s n t
    have := dif_le v (hb hit s n)
    simp only [List.length_append, List.length_singleton]
    omega
theorem serve_eq (h : BtOK ws hs H st ns) (hc : CrOK hs ns c ps hit) (hbd : ∀ n, bd n ≤ 1000) (hok : ∀ (n : Nat) (m : Int), n < ns.length → ok ((n : Int), m) = some (decide (m ≤ bd n))) (hv0 : v0 < 512) :
    (round_crier_serve ws hs H st ns c ps hit (v0 : Int) ok = some ([], 0, false) ∧ ∀ l s t, ¬ Pth c ns hit bd hs.length st v0 l s 0 t) ∨
    ∃ l s t, round_crier_serve ws hs H st ns c ps hit (v0 : Int) ok = some (l, t, true) ∧ Pth c ns hit bd hs.length st v0 l s 0 t ∧ ∀ l' s' t', Pth c ns hit bd hs.length st v0 l' s' 0 t' → t ≤ t' := by
  obtain ⟨met, e1, hi⟩ := serve_l1 h hc hbd hok hv0 v0 FU _ (by unfold FU; omega) (Nat.le_refl _) (inv_first (c := c) (ns := ns) (hit := hit) (bd := bd) (hs := hs) (v0 := v0) h.hst)
  obtain ⟨es, mn, e2, h2⟩ := serve_l4 (fun k r hr => (hi.rng _ _ hr).2.2.1) (hs := hs) hs 0 (-1) (-1) rfl (.inl ⟨rfl, fun k hk => absurd hk (Nat.not_lt_zero _)⟩) (Nat.zero_le _)
  have e2' : round_crier_serve_l4 met hs 0 (-1) (-1) = some (es, mn) := e2
  have hat : ∀ (l : List (Int × Int)) (s t : Int), Pth c ns hit bd hs.length st v0 l s 0 t → ∃ (k : Nat) (r : Rec), k < hs.length ∧ mget met ((k : Int), 0) = some r ∧ r.1 ≤ t := fun l s t hp => by
    obtain ⟨r, hr, hle⟩ := hi.best hp
    obtain ⟨⟨a, b⟩, _⟩ := hi.rng _ _ hr
    have a' : 0 ≤ s := a
    have b' : s < (hs.length : Int) := b
    refine ⟨s.toNat, r, by omega, ?_, hle⟩
    rw [show ((s.toNat : Nat) : Int) = s by omega]
    exact hr
  unfold round_crier_serve
  rw [bvE, e1, b1_some, e2', b2_some]
  rcases h2 with ⟨a, b⟩ | ⟨⟨r, hr, hmn⟩, b, d⟩
  · rw [if_pos a]
    refine .inl ⟨rfl, fun l s t hp => ?_⟩
    obtain ⟨k, r, hk, hr, _⟩ := hat l s t hp
    rw [b k hk] at hr; cases hr
  · rw [if_neg (by omega)]
    obtain ⟨l, hp, e3⟩ := serve_l5 hi v0 FU es 0 r [] (by omega) (by unfold FU; omega) (by simp; omega) (Nat.zero_le _) hr
    have e3' : round_crier_serve_l5 (v0 : Int) met FU es 0 [] = some ([] ++ l.reverse) := e3
    have hl := hp.len
    rw [e3', b1_some, List.nil_append, reverse_eq (by rw [List.length_reverse]; omega), b1_some, List.reverse_reverse]
    refine .inr ⟨l, es, mn, rfl, by rw [← hmn]; exact hp, fun l' s' t' hp' => ?_⟩
    obtain ⟨k, r', hk, hr', hle⟩ := hat l' s' t' hp'
    have := d k r' hk hr'
    omega
end
end Go.Proofs.YtggpjocmoelpbaaGreat.Rd
namespace Go.Proofs.YtggpjocmoelpbaaGreat.Rd
open Go.PL
def bdL (ns : List (List Int × Int × Int)) (last : Int) (n : Nat) : Int := if (ns.getD n ([], 0, 0)).2.2 < last then (ns.getD n ([], 0, 0)).2.2 else last
theorem bdL_le {ns : List (List Int × Int × Int)} {last : Int} (hl : last ≤ 1000) (n : Nat) : bdL ns last n ≤ 1000 := by unfold bdL; split <;> omega
section
variable {ws hs : List (List Int)} {H st : Int} {ns : List (List Int × Int × Int)} {c : List Int} {ps : List (Int × Int)} {hit : List Int}
def Ser (c : List Int) (ns : List (List Int × Int × Int)) (hit : List Int) (hs : List (List Int)) (st : Int) (bd : Nat → Int) (v : Nat) (l : List (Int × Int)) (t : Int) : Prop := ∃ s, Pth c ns hit bd hs.length st v l s 0 t
theorem by_ok (last : Int) : ∀ (n : Nat) (m : Int), n < ns.length → (fun xx_ : Int × Int => round_crier_by_1 xx_.1 xx_.2 last ws hs H st ns c ps hit) ((n : Int), m) = some (decide (m ≤ bdL ns last n)) := fun n m hn => by
  show round_crier_by_1 (n : Int) m last ws hs H st ns c ps hit = _
  unfold round_crier_by_1
  rw [ixN ([], 0, 0) _ hn]
  rfl
theorem all_eq (hp : ps.length ≤ 9) : round_crier_all ws hs H st ns c ps hit = some ((2 ^ ps.length - 1 : Nat) : Int) := by
  have h1 : 1 ≤ (2 : Nat) ^ ps.length := Nat.one_le_two_pow
  have h2 : (2 : Nat) ^ ps.length ≤ 2 ^ 9 := Nat.pow_le_pow_right (by decide) hp
  have h3 : (2 : Nat) ^ 9 = 512 := by decide
  have h4 : (((2 : Nat) ^ ps.length : Nat) : Int) - 1 = ((2 ^ ps.length - 1 : Nat) : Int) := by omega
  unfold round_crier_all
  rw [gd_t (shl_r (by omega)), shl_nat, h4, gd_t (r64_small (by omega))]
theorem CrOK.nine (h : BtOK ws hs H st ns) (hc : CrOK hs ns c ps hit) : ps.length ≤ 9 := by
  have h1 := hc.prs.len
  have h2 := total_take ns ns.length
  have h3 := h.tot
  omega
theorem full_lt (hp : ps.length ≤ 9) : 2 ^ ps.length - 1 < 512 := by
  have h1 : 1 ≤ (2 : Nat) ^ ps.length := Nat.one_le_two_pow
  have h2 : (2 : Nat) ^ ps.length ≤ 2 ^ 9 := Nat.pow_le_pow_right (by decide) hp
  have h3 : (2 : Nat) ^ 9 = 512 := by decide
  omega
theorem Best_eq (h : BtOK ws hs H st ns) (e : round_opened ws hs H st ns = some (some (ws, hs, H, st, ns, c, ps, hit), 0)) (hc : CrOK hs ns c ps hit) :
    (round_Best ws hs H st ns = some ([], 0, 6) ∧ ∀ l t, ¬ Ser c ns hit hs st (bdL ns 200) (2 ^ ps.length - 1) l t) ∨
    ∃ l t, round_Best ws hs H st ns = some (l, t, 0) ∧ Ser c ns hit hs st (bdL ns 200) (2 ^ ps.length - 1) l t ∧ ∀ l' t', Ser c ns hit hs st (bdL ns 200) (2 ^ ps.length - 1) l' t' → t ≤ t' := by
  have hp := hc.nine h
  unfold round_Best round_crier_hours round_crier_by
  rw [e, b2_some, if_neg (by decide), b8_some, all_eq hp, b1_some, b1_some, b1_some]
  rcases serve_eq h hc (bd := bdL ns 200) (ok := fun xx_ : Int × Int => round_crier_by_1 xx_.1 xx_.2 200 ws hs H st ns c ps hit) (bdL_le (by decide)) (by_ok 200) (full_lt hp) with ⟨e1, h1⟩ | ⟨l, s, t, e1, h1, h2⟩
  · rw [e1, b3_some, if_pos (by decide)]
    exact .inl ⟨rfl, fun l t ⟨s, hs'⟩ => h1 l s t hs'⟩
  · rw [e1, b3_some, if_neg (by decide)]
    exact .inr ⟨l, t, rfl, ⟨s, h1⟩, fun l' t' ⟨s', hs'⟩ => h2 l' s' t' hs'⟩
end
end Go.Proofs.YtggpjocmoelpbaaGreat.Rd
namespace Go.Proofs.YtggpjocmoelpbaaGreat.Rd
open Go.PL
def endsF (c : List Int) (ns : List (List Int × Int × Int)) : Int → Int → List (Int × Int) → Option (List Int)
  | _, _, [] => some []
  | k, m, x :: l => if en c k.toNat x.1.toNat = -1 then none else (endsF c ns x.1 (m + en c k.toNat x.1.toNat + wrd ns x.2.toNat) l).map ((m + en c k.toNat x.1.toNat + wrd ns x.2.toNat) :: ·)
def CryOK (S N : Nat) (l : List (Int × Int)) : Prop := ∀ x ∈ l, (0 ≤ x.1 ∧ x.1 < (S : Int)) ∧ (0 ≤ x.2 ∧ x.2 < (N : Int))
section
variable {ws hs : List (List Int)} {H st : Int} {ns : List (List Int × Int × Int)} {c : List Int} {ps : List (Int × Int)} {hit : List Int}
theorem gone_l2 (h : BtOK ws hs H st ns) (hc : CrOK hs ns c ps hit) : ∀ (l : List (Int × Int)) (k m : Int) (out : List Int), CryOK hs.length ns.length l → (0 ≤ k ∧ k < (hs.length : Int)) → out.length + l.length ≤ 100 → (0 ≤ m ∧ m + (l.length : Int) * 1000000005 ≤ 1000000000000) →
    round_gone_l2 ws hs H st ns (some (ws, hs, H, st, ns, c, ps, hit)) l k m out = some (match endsF c ns k m l with | some es => (some (ws, hs, H, st, ns, c, ps, hit), out ++ es, 0) | none => (none, [], 6))
  | [], k, m, out, _, _, _, _ => by
    unfold round_gone_l2 round_gone_j1 endsF
    simp
  | x :: l, k, m, out, hl, hk, ho, hm => by
    have h5 := h.hs1.2
    obtain ⟨h1, h2⟩ := hl x (by simp)
    simp only [List.length_cons] at ho hm
    have hr := hc.fin.rng k.toNat x.1.toNat (by omega) (by omega)
    have hN := (h.note _ (getD_mem (d := ([], 0, 0)) (i := x.2.toNat) (by omega))).2.1
    have hw : 1 ≤ wrd ns x.2.toNat ∧ wrd ns x.2.toNat ≤ 5 := hN
    have ex : ∀ {β : Type} (f : Int → Option β), ix c (k * 5 + x.1) f = f (en c k.toNat x.1.toNat) := fun f => by
      have q := ixE (w := c) hc.fin.len (i := k.toNat) (k := x.1.toNat) (by omega) (by omega) f
      rwa [show ((k.toNat : Nat) : Int) = k by omega, show ((x.1.toNat : Nat) : Int) = x.1 by omega] at q
    unfold round_gone_l2 endsF
    rw [stand_eq h, b1_some, decide_eq_true h1, if_neg (by decide), notice_eq h, b1_some, decide_eq_true h2, b1_some, if_neg (by decide), b8_some, gd_t (by omega), gd_t (by omega)]
    rw [ex]
    by_cases e : en c k.toNat x.1.toNat = -1
    · rw [if_pos e, if_pos e]
    · rw [if_neg e, if_neg e, gd_t (by unfold R64; omega), ixD ([], 0, 0) _ h2.1 h2.2]
      show gd (R64 (m + en c k.toNat x.1.toNat + wrd ns x.2.toNat)) _ = _
      rw [gd_t (by unfold R64; omega), ap_t (by simp; omega)]
      have ih := gone_l2 h hc l x.1 (m + en c k.toNat x.1.toNat + wrd ns x.2.toNat) (out ++ [m + en c k.toNat x.1.toNat + wrd ns x.2.toNat]) (fun z hz => hl z (by simp [hz])) h1 (by simp; omega) (by omega)
      refine ih.trans ?_
      cases endsF c ns x.1 (m + en c k.toNat x.1.toNat + wrd ns x.2.toNat) l with
      | none => rfl
      | some es => simp
theorem gone_eq (h : BtOK ws hs H st ns) (e : round_opened ws hs H st ns = some (some (ws, hs, H, st, ns, c, ps, hit), 0)) (hc : CrOK hs ns c ps hit) {l : List (Int × Int)} (hl : CryOK hs.length ns.length l) (h20 : l.length ≤ 20) :
    round_gone ws hs H st ns l = some (match endsF c ns st 0 l with | some es => (some (ws, hs, H, st, ns, c, ps, hit), es, 0) | none => (none, [], 6)) := by
  unfold round_gone
  rw [e, b2_some, if_neg (by decide), if_neg (by omega), gone_l2 h hc l st 0 [] hl h.hst (by simp; omega) (by omega)]
  simp
end
end Go.Proofs.YtggpjocmoelpbaaGreat.Rd
namespace Go.Proofs.YtggpjocmoelpbaaGreat.Rd
open Go.PL
def plc (k : Int) (l : List (Int × Int)) : Int := (l.map (·.1)).getLastD k
theorem plc_snoc (k : Int) (l : List (Int × Int)) (x : Int × Int) : plc k (l ++ [x]) = x.1 := by unfold plc; simp
section
variable {c : List Int} {ns : List (List Int × Int × Int)} {hit : List Int} {bd : Nat → Int} {S : Nat} {start : Int} {v0 : Nat}
theorem ends_snoc {x : Int × Int} : ∀ (l : List (Int × Int)) (k m : Int) (es : List Int), endsF c ns k m l = some es →
    endsF c ns k m (l ++ [x]) = if en c (plc k l).toNat x.1.toNat = -1 then none else some (es ++ [es.getLastD m + en c (plc k l).toNat x.1.toNat + wrd ns x.2.toNat])
  | [], k, m, es, h => by
    obtain rfl : [] = es := Option.some.inj h
    simp only [List.nil_append, endsF, plc, List.map_nil, List.getLastD_nil]
    rfl
  | y :: l, k, m, es, h => by
    unfold endsF at h
    by_cases e : en c k.toNat y.1.toNat = -1
    · rw [if_pos e] at h; cases h
    · rw [if_neg e] at h
      cases h2 : endsF c ns y.1 (m + en c k.toNat y.1.toNat + wrd ns y.2.toNat) l with
      | none => rw [h2] at h; cases h
      | some es2 =>
        rw [h2] at h
        obtain rfl := Option.some.inj h
        have ih := ends_snoc (x := x) l y.1 _ es2 h2
        have ep : plc k (y :: l) = plc y.1 l := by unfold plc; rw [List.map_cons, List.getLastD_cons]
        have el : ((m + en c k.toNat y.1.toNat + wrd ns y.2.toNat) :: es2).getLastD m = es2.getLastD (m + en c k.toNat y.1.toNat + wrd ns y.2.toNat) := by rw [List.getLastD_cons]
        rw [List.cons_append]
        show endsF c ns k m (y :: (l ++ [x])) = _
        unfold endsF
        rw [if_neg e, ih, ep, el]
        by_cases e2 : en c (plc y.1 l).toNat x.1.toNat = -1
        · rw [if_pos e2, if_pos e2]; rfl
        · rw [if_neg e2, if_neg e2]; rfl
theorem Pth.ends {l : List (Int × Int)} {s : Int} {v : Nat} {t : Int} (h : Pth c ns hit bd S start v0 l s v t) : ∃ es, endsF c ns start 0 l = some es ∧ es.getLastD 0 = t ∧ plc start l = s ∧ CryOK S ns.length l ∧ es.length = l.length := by
  induction h with
  | nil => exact ⟨[], rfl, rfl, rfl, fun x hx => (nomatch hx), rfl⟩
  | @snoc l k v s n t h hk hs hn hne hv ih =>
    obtain ⟨es, e1, e2, e3, e4, e5⟩ := ih
    have q := ends_snoc (x := ((s : Int), (n : Int))) l start 0 es e1
    rw [e3, e2, Int.toNat_natCast, Int.toNat_natCast, Int.toNat_natCast, if_neg hv.1] at q
    refine ⟨_, q, by simp, plc_snoc .., fun x hx => ?_, by simp [e5]⟩
    rcases List.mem_append.1 hx with hx | hx
    · exact e4 x hx
    · rw [List.mem_singleton.1 hx]
      exact ⟨⟨by show 0 ≤ (s : Int); omega, by show (s : Int) < (S : Int); omega⟩, ⟨by show 0 ≤ (n : Int); omega, by show (n : Int) < (ns.length : Int); omega⟩⟩
end
end Go.Proofs.YtggpjocmoelpbaaGreat.Rd
namespace Go.Proofs.YtggpjocmoelpbaaGreat.Rd
open Go.PL
def remF (c : List Int) (ns : List (List Int × Int × Int)) (hit : List Int) (bd : Nat → Int) : Int → Int → Nat → List (Int × Int) → Nat
  | _, _, v, [] => v
  | k, m, v, x :: l => remF c ns hit bd x.1 (m + en c k.toNat x.1.toNat + wrd ns x.2.toNat) (if m + en c k.toNat x.1.toNat + wrd ns x.2.toNat ≤ bd x.2.toNat then dif v (hb hit x.1.toNat x.2.toNat) else v) l
section
variable {c : List Int} {ns : List (List Int × Int × Int)} {hit : List Int} {bd : Nat → Int} {S : Nat} {start : Int} {v0 : Nat} {H : Int}
end
end Go.Proofs.YtggpjocmoelpbaaGreat.Rd
namespace Go.Proofs.YtggpjocmoelpbaaGreat.Rd
open Go.PL
def hitF (c : List Int) (ns : List (List Int × Int × Int)) (hit : List Int) (bd : Nat → Int) : Int → Int → List (Int × Int) → Nat → Bool
  | _, _, [], _ => false
  | k, m, x :: l, p => (decide (m + en c k.toNat x.1.toNat + wrd ns x.2.toNat ≤ bd x.2.toNat) && (hb hit x.1.toNat x.2.toNat).testBit p) || hitF c ns hit bd x.1 (m + en c k.toNat x.1.toNat + wrd ns x.2.toNat) l p
section
variable {c : List Int} {ns : List (List Int × Int × Int)} {hit : List Int} {bd bd' : Nat → Int} {S : Nat} {start : Int} {v0 : Nat} {H : Int}
theorem bit_rem : ∀ (l : List (Int × Int)) (k m : Int) (v p : Nat), (remF c ns hit bd k m v l).testBit p = (v.testBit p && !hitF c ns hit bd k m l p)
  | [], k, m, v, p => by simp [remF, hitF]
  | x :: l, k, m, v, p => by
    unfold remF hitF
    rw [bit_rem l]
    by_cases b : m + en c k.toNat x.1.toNat + wrd ns x.2.toNat ≤ bd x.2.toNat
    · rw [if_pos b, decide_eq_true b, bit_dif, Bool.true_and, Bool.not_or, Bool.and_assoc]
    · rw [if_neg b, decide_eq_false b, Bool.false_and, Bool.false_or]
theorem rem_zero {l : List (Int × Int)} {k m : Int} {v : Nat} : remF c ns hit bd k m v l = 0 ↔ ∀ p, v.testBit p = true → hitF c ns hit bd k m l p = true := by
  constructor
  · intro h p hp
    have := bit_rem (c := c) (ns := ns) (hit := hit) (bd := bd) l k m v p
    rw [h, Nat.zero_testBit, hp, Bool.true_and] at this
    cases e : hitF c ns hit bd k m l p with
    | true => rfl
    | false => rw [e] at this; cases this
  · intro h
    refine Nat.eq_of_testBit_eq fun p => ?_
    rw [bit_rem, Nat.zero_testBit]
    cases e : v.testBit p with
    | false => rfl
    | true => rw [h p e]; rfl
theorem rem_snoc {x : Int × Int} : ∀ (l : List (Int × Int)) (k m : Int) (v : Nat) (es : List Int), endsF c ns k m l = some es →
    remF c ns hit bd k m v (l ++ [x]) = if es.getLastD m + en c (plc k l).toNat x.1.toNat + wrd ns x.2.toNat ≤ bd x.2.toNat then dif (remF c ns hit bd k m v l) (hb hit x.1.toNat x.2.toNat) else remF c ns hit bd k m v l
  | [], k, m, v, es, h => by
    obtain rfl : [] = es := Option.some.inj h
    simp only [List.nil_append, remF, plc, List.map_nil, List.getLastD_nil]
  | y :: l, k, m, v, es, h => by
    unfold endsF at h
    by_cases e : en c k.toNat y.1.toNat = -1
    · rw [if_pos e] at h; cases h
    · rw [if_neg e] at h
      cases h2 : endsF c ns y.1 (m + en c k.toNat y.1.toNat + wrd ns y.2.toNat) l with
      | none => rw [h2] at h; cases h
      | some es2 =>
        rw [h2] at h
        obtain rfl := Option.some.inj h
        have ep : plc k (y :: l) = plc y.1 l := by unfold plc; rw [List.map_cons, List.getLastD_cons]
        have el : ((m + en c k.toNat y.1.toNat + wrd ns y.2.toNat) :: es2).getLastD m = es2.getLastD (m + en c k.toNat y.1.toNat + wrd ns y.2.toNat) := by rw [List.getLastD_cons]
        rw [List.cons_append]
        show remF c ns hit bd k m v (y :: (l ++ [x])) = _
        unfold remF
        rw [rem_snoc (x := x) l y.1 _ _ es2 h2, ep]
        show _ = if ((m + en c k.toNat y.1.toNat + wrd ns y.2.toNat) :: es2).getLastD m + _ + _ ≤ _ then _ else _
        rw [el]
theorem Pth.rem {l : List (Int × Int)} {s : Int} {v : Nat} {t : Int} (h : Pth c ns hit bd S start v0 l s v t) : remF c ns hit bd start 0 v0 l = v := by
  induction h with
  | nil => rfl
  | @snoc l k v s n t h hk hs hn hne hv ih =>
    obtain ⟨es, e1, e2, e3, e4, e5⟩ := h.ends
    rw [rem_snoc l start 0 v0 es e1, e3, e2, ih, Int.toNat_natCast, Int.toNat_natCast, Int.toNat_natCast, if_pos hv.2]
theorem hit_mono (hbd : ∀ n, n < ns.length → bd n ≤ bd' n) {p : Nat} : ∀ (l : List (Int × Int)) (k m : Int), CryOK S ns.length l → hitF c ns hit bd k m l p = true → hitF c ns hit bd' k m l p = true
  | [], _, _, _, h => h
  | x :: l, k, m, hl, h => by
    unfold hitF at h ⊢
    rw [Bool.or_eq_true_iff, Bool.and_eq_true_iff, decide_eq_true_iff] at h ⊢
    obtain ⟨_, h2⟩ := hl x (by simp)
    rcases h with ⟨h3, h4⟩ | h3
    · exact .inl ⟨Int.le_trans h3 (hbd _ (by omega)), h4⟩
    · exact .inr (hit_mono hbd l _ _ (fun z hz => hl z (by simp [hz])) h3)
theorem countP_lt {α : Type} {p q : α → Bool} : ∀ {l : List α}, (∀ x ∈ l, q x = true → p x = true) → (∃ x ∈ l, p x = true ∧ q x = false) → l.countP q < l.countP p
  | [], _, ⟨x, hx, _⟩ => nomatch hx
  | y :: l, h, ⟨x, hx, h1, h2⟩ => by
    have hle : l.countP q ≤ l.countP p := List.countP_mono_left fun z hz => h z (by simp [hz])
    rw [List.countP_cons, List.countP_cons]
    rcases List.mem_cons.1 hx with rfl | hx
    · rw [h1, h2]; simp; omega
    · have ih := countP_lt (l := l) (fun z hz => h z (by simp [hz])) ⟨x, hx, h1, h2⟩
      cases hq : q y with
      | true => rw [h y (by simp) hq]; omega
      | false =>
        have : (if false = true then 1 else 0) = 0 := by simp
        rw [this]
        omega
def cnt (v : Nat) : Nat := (List.range 9).countP fun i => v.testBit i
theorem cnt_nine (v : Nat) : cnt v ≤ 9 := by
  have := List.countP_le_length (p := fun i => v.testBit i) (l := List.range 9)
  rw [List.length_range] at this
  exact this
theorem bit_nine {v i : Nat} (hv : v < 512) (h : v.testBit i = true) : i < 9 := by
  rcases Nat.lt_or_ge i 9 with h1 | h1
  · exact h1
  · have h2 : (2 : Nat) ^ 9 ≤ 2 ^ i := Nat.pow_le_pow_right (by decide) h1
    have h3 : (2 : Nat) ^ 9 = 512 := by decide
    rw [Nat.testBit_lt_two_pow (by omega)] at h; cases h
theorem cnt_dif {v w : Nat} (hv : v < 512) (hne : dif v w ≠ v) : cnt (dif v w) < cnt v := by
  refine countP_lt (fun i _ h => ?_) ?_
  · rw [bit_dif, Bool.and_eq_true_iff] at h; exact h.1
  · refine Classical.byContradiction fun hn => hne (Nat.eq_of_testBit_eq fun i => ?_)
    rw [bit_dif]
    cases e : v.testBit i with
    | false => rfl
    | true =>
      cases e2 : w.testBit i with
      | false => rfl
      | true => exact absurd ⟨i, List.mem_range.2 (bit_nine hv e), e, by rw [bit_dif, e, e2]; rfl⟩ hn
theorem Pth.le {l : List (Int × Int)} {s : Int} {v : Nat} {t : Int} (h : Pth c ns hit bd S start v0 l s v t) : v ≤ v0 := by
  have := h.len; omega
theorem Pth.few (hv : v0 < 512) {l : List (Int × Int)} {s : Int} {v : Nat} {t : Int} (h : Pth c ns hit bd S start v0 l s v t) : l.length + cnt v ≤ cnt v0 := by
  induction h with
  | nil => simp
  | @snoc l k v s n t h hk hs hn hne hv' ih =>
    have h1 := h.le
    have := cnt_dif (by omega) hne
    simp only [List.length_append, List.length_singleton]
    omega
end
section
variable {ws hs : List (List Int)} {H st : Int} {ns : List (List Int × Int × Int)} {c : List Int} {ps : List (Int × Int)} {hit : List Int} {bd bd' : Nat → Int} {v v' : Nat}
def Can (c : List Int) (ns : List (List Int × Int × Int)) (hit : List Int) (hs : List (List Int)) (st : Int) (bd : Nat → Int) (v : Nat) : Prop := ∃ l es, CryOK hs.length ns.length l ∧ endsF c ns st 0 l = some es ∧ remF c ns hit bd st 0 v l = 0
theorem Ser.can {l : List (Int × Int)} {t : Int} (h : Ser c ns hit hs st bd v l t) : ∃ es, CryOK hs.length ns.length l ∧ endsF c ns st 0 l = some es ∧ remF c ns hit bd st 0 v l = 0 ∧ es.getLastD 0 = t ∧ es.length = l.length := by
  obtain ⟨s, h⟩ := h
  obtain ⟨es, e1, e2, e3, e4, e5⟩ := h.ends
  exact ⟨es, e4, e1, h.rem, e2, e5⟩
theorem Can.mono (h : Can c ns hit hs st bd v) (hbd : ∀ n, n < ns.length → bd n ≤ bd' n) (hv : ∀ p, v'.testBit p = true → v.testBit p = true) : Can c ns hit hs st bd' v' := by
  obtain ⟨l, es, h1, h2, h3⟩ := h
  exact ⟨l, es, h1, h2, rem_zero.2 fun p hp => hit_mono hbd l _ _ h1 (rem_zero.1 h3 p (hv p hp))⟩
theorem Can.zero : Can c ns hit hs st bd 0 := ⟨[], [], fun _ h => (nomatch h), rfl, rfl⟩
end
end Go.Proofs.YtggpjocmoelpbaaGreat.Rd
