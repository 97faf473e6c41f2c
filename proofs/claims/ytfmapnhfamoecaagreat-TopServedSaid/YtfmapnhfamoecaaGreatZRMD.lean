/- The cries that serve something; in plain Lean. -/
import Derived.Test.YtfmapnhfamoecaaGreatZRMC
namespace Go.Proofs.YtfmapnhfamoecaaGreat.Rd
open Go.PL
def hb (hit : List Int) (s n : Nat) : Nat := (hit.getD (s * 3 + n) 0).toNat
theorem Q8.hb {hit : List Int} {Q : Nat → Nat → Nat → Bool} (h : Q8 hit Q) {s n : Nat} (hs : s < 5) (hn : n < 3) : hit.getD (s * 3 + n) 0 = (hb hit s n : Int) ∧ hb hit s n < 512 ∧ ∀ p, (hb hit s n).testBit p = Q s n p := by
  obtain ⟨v, h1, h2, h3⟩ := h.2 s n hs hn
  unfold Rd.hb
  rw [h1, Int.toNat_natCast]
  exact ⟨rfl, h2, h3⟩
def UB (hit : List Int) (v s : Nat) : Nat → Nat → List ((Int × Int) × Int)
  | 0, _ => []
  | fu + 1, n => if Lq v (hb hit s n) = v then UB hit v s fu (n + 1) else (((s : Int), (n : Int)), (Lq v (hb hit s n) : Int)) :: UB hit v s fu (n + 1)
def Tc (hit : List Int) (v N : Nat) : Nat → Nat → List ((Int × Int) × Int)
  | 0, _ => []
  | fu + 1, s => UB hit v s N 0 ++ Tc hit v N fu (s + 1)
theorem TU {hit : List Int} {v s : Nat} {x : (Int × Int) × Int} : ∀ (fu n : Nat), x ∈ UB hit v s fu n ↔ ∃ m : Nat, n ≤ m ∧ m < n + fu ∧ Lq v (hb hit s m) ≠ v ∧ x = (((s : Int), (m : Int)), (Lq v (hb hit s m) : Int))
  | 0, n => ⟨fun h => (nomatch h), fun ⟨m, h1, h2, _⟩ => by omega⟩
  | fu + 1, n => by
    unfold UB
    have ih := TU (hit := hit) (v := v) (s := s) (x := x) fu (n + 1)
    by_cases c : Lq v (hb hit s n) = v
    · rw [if_pos c, ih]
      constructor
      · rintro ⟨m, h1, h2, h3⟩; exact ⟨m, by omega, by omega, h3⟩
      · rintro ⟨m, h1, h2, h3, h4⟩
        by_cases e : m = n
        · rw [e] at h3; exact absurd c h3
        · exact ⟨m, by omega, by omega, h3, h4⟩
    · rw [if_neg c, List.mem_cons, ih]
      constructor
      · rintro (h | ⟨m, h1, h2, h3⟩)
        · exact ⟨n, Nat.le_refl _, by omega, c, h⟩
        · exact ⟨m, by omega, by omega, h3⟩
      · rintro ⟨m, h1, h2, h3, h4⟩
        by_cases e : m = n
        · left; rw [h4, e]
        · right; exact ⟨m, by omega, by omega, h3, h4⟩
theorem Mh {hit : List Int} {v N : Nat} {x : (Int × Int) × Int} : ∀ (fu s : Nat), x ∈ Tc hit v N fu s ↔ ∃ r m : Nat, s ≤ r ∧ r < s + fu ∧ m < N ∧ Lq v (hb hit r m) ≠ v ∧ x = (((r : Int), (m : Int)), (Lq v (hb hit r m) : Int))
  | 0, s => ⟨fun h => (nomatch h), fun ⟨r, m, h1, h2, _⟩ => by omega⟩
  | fu + 1, s => by
    unfold Tc
    rw [List.mem_append, TU, Mh fu (s + 1)]
    constructor
    · rintro (⟨m, h1, h2, h3⟩ | ⟨r, m, h1, h2, h3⟩)
      · exact ⟨s, m, Nat.le_refl _, by omega, by omega, h3⟩
      · exact ⟨r, m, by omega, by omega, h3⟩
    · rintro ⟨r, m, h1, h2, h3, h4⟩
      by_cases e : r = s
      · subst e; exact .inl ⟨m, Nat.zero_le _, by omega, h4⟩
      · exact .inr ⟨r, m, by omega, by omega, h3, h4⟩
section
variable {ws hs : List (List Int)} {H st : Int} {ns : List (List Int × Int × Int)} {c : List Int} {ps : List (Int × Int)} {hit : List Int}
theorem RM {Q : Nat → Nat → Nat → Bool} (hh : Q8 hit Q) (hn : ns.length ≤ 3) {v : Nat} (hv : v < 512) {s : Nat} (aa : s < 5) {rec1 : Int → Option (List ((Int × Int) × Int))} {R : List ((Int × Int) × Int)} (hr : rec1 ((s : Int) + 1) = some R) : ∀ (tl : List (List Int × Int × Int)) (n : Nat), ns.drop n = tl →
    B7 hit (v : Int) (s : Int) rec1 tl (n : Int) = some (UB hit v s tl.length n ++ R)
  | [], n, _ => by
    unfold B7 EK
    rw [hr]; rfl
  | x :: tl, n, hd => by
    obtain ⟨hj, hx, ab⟩ := drop_cons ([], 0, 0) hd
    have ih := RM hh hn hv aa hr tl (n + 1) ab
    obtain ⟨b1, b2, _⟩ := hh.hb aa (n := n) (by omega)
    have hl := hh.1
    unfold B7
    rw [Bz (by omega), Bz (by omega), show (s : Int) * 3 + (n : Int) = ((s * 3 + n : Nat) : Int) by omega, Xb 0 _ (by omega), b1, Rz (by omega) (by omega), List.length_cons]
    unfold UB
    rw [show ((n + 1 : Nat) : Int) = (n : Int) + 1 from rfl] at ih
    by_cases e : Lq v (hb hit s n) = v
    · rw [if_neg (not_not_intro (by rw [e])), if_pos e]; exact ih
    · rw [if_pos (fun e2 => e (by omega)), if_neg e, ih]; rfl
theorem Ru {Q : Nat → Nat → Nat → Bool} (hh : Q8 hit Q) (h5 : hs.length ≤ 5) (hn : ns.length ≤ 3) {v : Nat} (hv : v < 512) : ∀ (tl : List (List Int)) (s : Nat), hs.drop s = tl →
    BJ ns hit (v : Int) tl (s : Int) = some (Tc hit v ns.length tl.length s)
  | [], s, _ => rfl
  | x :: tl, s, hd => by
    obtain ⟨hj, hx, aa⟩ := drop_cons [] hd
    have ih := Ru hh h5 hn hv tl (s + 1) aa
    unfold BJ
    have e := RM hh hn hv (s := s) (by omega) (rec1 := BJ ns hit (v : Int) tl) ih ns 0 rfl
    rw [List.length_cons]
    exact e
theorem VU (h : GO ws hs H st ns) (hc : K7 hs ns c ps hit) {v : Nat} (hv : v < 512) : Fb ws hs H st ns c ps hit (v : Int) = some (Tc hit v ns.length hs.length 0) := by
  unfold Fb FG
  have e : BJ ns hit (v : Int) hs 0 = _ := Ru hc.hit h.Mw.2 h.hn hv hs 0 rfl
  rw [e, Ap]
end
end Go.Proofs.YtfmapnhfamoecaaGreat.Rd
namespace Go.Proofs.YtfmapnhfamoecaaGreat.Rd
open Go.PL
abbrev Rec := Int × Int × Int × Int × Int
abbrev Tv := List ((Int × Int) × Rec)
def Io (ns : List (List Int × Int × Int)) (n : Nat) : Int := (ns.getD n ([], 0, 0)).2.1
def Xl (c : List Int) (ns : List (List Int × Int × Int)) (bd : Nat → Int) (t : Int) (k s n : Nat) : Prop := en c k s ≠ -1 ∧ t + en c k s + Io ns n ≤ bd n
section
variable {hs : List (List Int)} {ns : List (List Int × Int × Int)} {c : List Int} {H : Int} {S : Nat} {bd : Nat → Int} {ok : Int × Int → Option Bool}
theorem Qh (hc : V8 S c) (hw : ∀ x ∈ ns, bJ H x) (ah : ∀ (n : Nat) (m : Int), n < ns.length → ok ((n : Int), m) = some (decide (m ≤ bd n))) {ad : Int} {af : Tv} {k : Nat} (hk : k < 5) {y : Rec} (hy : A7 af ((k : Int), ad) = some y) (ak : 0 ≤ y.1 ∧ y.1 ≤ 1000) : ∀ (tl : List ((Int × Int) × Int)) (ab : Tv), (∀ x ∈ tl, ∃ s n : Nat, s < 5 ∧ n < ns.length ∧ x.1 = ((s : Int), (n : Int))) →
    ∃ aa, B1 ns c ok ad af (k : Int) tl ab = some aa ∧
      (∀ key : Int × Int, (∀ x ∈ tl, (x.1.1, x.2) ≠ key) → A7 aa key = A7 ab key) ∧
      (∀ (key : Int × Int) (r : Rec), A7 aa key = some r → A7 ab key = some r ∨ ∃ x ∈ tl, ∃ s n : Nat, x.1 = ((s : Int), (n : Int)) ∧ n < ns.length ∧ s < 5 ∧ Xl c ns bd y.1 k s n ∧ key = ((s : Int), x.2) ∧ r = (y.1 + en c k s + Io ns n, (s : Int), (n : Int), (k : Int), ad)) ∧
      (∀ (key : Int × Int) (r : Rec), A7 ab key = some r → ∃ r', A7 aa key = some r' ∧ r'.1 ≤ r.1) ∧
      (∀ x ∈ tl, ∀ s n : Nat, x.1 = ((s : Int), (n : Int)) → Xl c ns bd y.1 k s n → ∃ r', A7 aa ((s : Int), x.2) = some r' ∧ r'.1 ≤ y.1 + en c k s + Io ns n)
  | [], ab, _ => ⟨ab, rfl, fun _ _ => rfl, fun _ _ h => .inl h, fun _ r h => ⟨r, h, Int.le_refl _⟩, fun _ h => (nomatch h)⟩
  | x :: tl, ab, hx => by
    obtain ⟨s, n, ai, hn, e⟩ := hx x (by simp)
    have al : ∀ z ∈ tl, ∃ s n : Nat, s < 5 ∧ n < ns.length ∧ z.1 = ((s : Int), (n : Int)) := fun z hz => hx z (List.mem_cons_of_mem _ hz)
    have hN := hw _ (Gm (d := ([], 0, 0)) hn)
    have ar : 1 ≤ Io ns n ∧ Io ns n ≤ 5 := hN.2.1
    have hr := hc.K8 k s hk ai
    have e1 : x.1.1 = (s : Int) := by rw [e]
    have e2 : x.1.2 = (n : Int) := by rw [e]
    have hg : ((A7 af ((k : Int), ad)).getD (0, 0, 0, 0, 0)).1 = y.1 := by rw [hy]; rfl
    -- what follows when this cry changes nothing
    have skip : (Xl c ns bd y.1 k s n → ∃ r', A7 ab ((s : Int), x.2) = some r' ∧ r'.1 ≤ y.1 + en c k s + Io ns n) →
        ∃ aa, B1 ns c ok ad af (k : Int) tl ab = some aa ∧
          (∀ key : Int × Int, (∀ z ∈ x :: tl, (z.1.1, z.2) ≠ key) → A7 aa key = A7 ab key) ∧
          (∀ (key : Int × Int) (r : Rec), A7 aa key = some r → A7 ab key = some r ∨ ∃ z ∈ x :: tl, ∃ s n : Nat, z.1 = ((s : Int), (n : Int)) ∧ n < ns.length ∧ s < 5 ∧ Xl c ns bd y.1 k s n ∧ key = ((s : Int), z.2) ∧ r = (y.1 + en c k s + Io ns n, (s : Int), (n : Int), (k : Int), ad)) ∧
          (∀ (key : Int × Int) (r : Rec), A7 ab key = some r → ∃ r', A7 aa key = some r' ∧ r'.1 ≤ r.1) ∧
          (∀ z ∈ x :: tl, ∀ s n : Nat, z.1 = ((s : Int), (n : Int)) → Xl c ns bd y.1 k s n → ∃ r', A7 aa ((s : Int), z.2) = some r' ∧ r'.1 ≤ y.1 + en c k s + Io ns n) := by
      intro hv
      obtain ⟨aa, g0, g1, g2, g3, g4⟩ := Qh hc hw ah hk hy ak tl ab al
      refine ⟨aa, g0, fun key h => g1 key fun z hz => h z (by simp [hz]), fun key r h => ?_, g3, fun z hz s' n' ez ae => ?_⟩
      · rcases g2 key r h with h1 | ⟨z, hz, h1⟩
        · exact .inl h1
        · exact .inr ⟨z, by simp [hz], h1⟩
      · rcases List.mem_cons.1 hz with rfl | hz
        · have ee := e.symm.trans ez
          obtain ⟨es, ao⟩ := Prod.mk.inj ee
          obtain rfl : s = s' := by omega
          obtain rfl : n = n' := by omega
          obtain ⟨r1, h1, h2⟩ := hv ae
          obtain ⟨r2, h3, h4⟩ := g3 _ _ h1
          exact ⟨r2, h3, by omega⟩
        · exact g4 z hz s' n' ez ae
    -- what follows when it is written down
    have put : Xl c ns bd y.1 k s n → (∀ r0, A7 ab ((s : Int), x.2) = some r0 → y.1 + en c k s + Io ns n ≤ r0.1) →
        ∃ aa, B1 ns c ok ad af (k : Int) tl (HQ ab ((s : Int), x.2) (y.1 + en c k s + Io ns n, (s : Int), (n : Int), (k : Int), ad)) = some aa ∧
          (∀ key : Int × Int, (∀ z ∈ x :: tl, (z.1.1, z.2) ≠ key) → A7 aa key = A7 ab key) ∧
          (∀ (key : Int × Int) (r : Rec), A7 aa key = some r → A7 ab key = some r ∨ ∃ z ∈ x :: tl, ∃ s n : Nat, z.1 = ((s : Int), (n : Int)) ∧ n < ns.length ∧ s < 5 ∧ Xl c ns bd y.1 k s n ∧ key = ((s : Int), z.2) ∧ r = (y.1 + en c k s + Io ns n, (s : Int), (n : Int), (k : Int), ad)) ∧
          (∀ (key : Int × Int) (r : Rec), A7 ab key = some r → ∃ r', A7 aa key = some r' ∧ r'.1 ≤ r.1) ∧
          (∀ z ∈ x :: tl, ∀ s n : Nat, z.1 = ((s : Int), (n : Int)) → Xl c ns bd y.1 k s n → ∃ r', A7 aa ((s : Int), z.2) = some r' ∧ r'.1 ≤ y.1 + en c k s + Io ns n) := by
      intro ae hle
      obtain ⟨aa, g0, g1, g2, g3, g4⟩ := Qh hc hw ah hk hy ak tl (HQ ab ((s : Int), x.2) (y.1 + en c k s + Io ns n, (s : Int), (n : Int), (k : Int), ad)) al
      have gn : ∃ r', A7 aa ((s : Int), x.2) = some r' ∧ r'.1 ≤ y.1 + en c k s + Io ns n := by
        obtain ⟨r', h1, h2⟩ := g3 ((s : Int), x.2) _ (by rw [Ih, if_pos rfl])
        exact ⟨r', h1, h2⟩
      refine ⟨aa, g0, fun key h => ?_, fun key r h => ?_, fun key r h => ?_, fun z hz s' n' ez aq => ?_⟩
      · rw [g1 key fun z hz => h z (List.mem_cons_of_mem _ hz), Ih, if_neg]
        intro he
        exact h x (List.mem_cons_self ..) (by rw [e1]; exact he)
      · rcases g2 key r h with h1 | ⟨z, hz, h1⟩
        · rw [Ih] at h1
          by_cases d : ((s : Int), x.2) = key
          · rw [if_pos d] at h1
            exact .inr ⟨x, List.mem_cons_self .., s, n, e, hn, ai, ae, d.symm, (Option.some.inj h1).symm⟩
          · rw [if_neg d] at h1; exact .inl h1
        · exact .inr ⟨z, List.mem_cons_of_mem _ hz, h1⟩
      · by_cases d : ((s : Int), x.2) = key
        · subst d
          obtain ⟨r', h1, h2⟩ := gn
          exact ⟨r', h1, Int.le_trans h2 (hle r h)⟩
        · exact g3 key r (by rw [Ih, if_neg d]; exact h)
      · rcases List.mem_cons.1 hz with rfl | hz
        · have ee := e.symm.trans ez
          obtain ⟨es, ao⟩ := Prod.mk.inj ee
          obtain rfl : s = s' := by omega
          obtain rfl : n = n' := by omega
          exact gn
        · exact g4 z hz s' n' ez aq
    unfold B1
    rw [e1, e2, hg, Bz (by omega), Bz (by omega), X8 hc.len hk ai]
    by_cases c1 : en c k s = -1
    · rw [if_pos c1]
      exact skip fun ae => absurd c1 ae.1
    · rw [if_neg c1, Bz (J5 (by omega)), Xb ([], 0, 0) _ hn]
      show ∃ aa, gd (Dh (y.1 + en c k s + Io ns n)) _ = some aa ∧ _
      rw [Bz (J5 (by omega)), Lv]
      show ∃ aa, b1 (b1 (ok ((n : Int), y.1 + en c k s + Io ns n)) _) _ = some aa ∧ _
      rw [ah n _ hn, Ap]
      by_cases c2 : y.1 + en c k s + Io ns n ≤ bd n
      · rw [if_pos (decide_eq_true c2)]
        cases hm : A7 ab ((s : Int), x.2) with
        | some r0 =>
          rw [if_neg (by simp), Ap]
          by_cases c3 : y.1 + en c k s + Io ns n < r0.1
          · have aj : decide (y.1 + en c k s + (ns.getD n ([], 0, 0)).2.1 < ((some r0).getD (0, 0, 0, 0, 0)).1) = true := decide_eq_true c3
            rw [if_pos aj, Lv]
            exact put ⟨c1, c2⟩ fun r1 h1 => by
              rw [hm] at h1
              obtain rfl := Option.some.inj h1
              exact Int.le_of_lt c3
          · have aj : ¬ decide (y.1 + en c k s + (ns.getD n ([], 0, 0)).2.1 < ((some r0).getD (0, 0, 0, 0, 0)).1) = true := fun hd => c3 (of_decide_eq_true hd)
            rw [if_neg aj]
            exact skip fun _ => ⟨r0, hm, by omega⟩
        | none =>
          rw [if_pos (by simp), Ap, if_pos rfl, Lv]
          exact put ⟨c1, c2⟩ fun r1 h1 => by rw [hm] at h1; cases h1
      · rw [if_neg (by simpa using c2), Ap, if_neg (by decide)]
        exact skip fun ae => absurd ae.2 c2
end
end Go.Proofs.YtfmapnhfamoecaaGreat.Rd
namespace Go.Proofs.YtfmapnhfamoecaaGreat.Rd
open Go.PL
theorem OL (x y : Nat) : Lq x y ≤ x := by
  have h : Lq x y &&& x = Lq x y := Nat.eq_of_testBit_eq fun i => by
    rw [Nat.testBit_and, MH]
    cases x.testBit i <;> simp
  rw [← h]
  exact Nat.and_le_right
section
variable {ws hs : List (List Int)} {H st : Int} {ns : List (List Int × Int × Int)} {c : List Int} {ps : List (Int × Int)} {hit : List Int} {bd : Nat → Int} {ok : Int × Int → Option Bool}
def Vb (c : List Int) (ns : List (List Int × Int × Int)) (hit : List Int) (bd : Nat → Int) (S : Nat) (met : Tv) (v k s n : Nat) (y : Rec) : Prop :=
  A7 met ((k : Int), (v : Int)) = some y ∧ s < S ∧ n < ns.length ∧ Lq v (hb hit s n) ≠ v ∧ Xl c ns bd y.1 k s n
theorem Q0 (h : GO ws hs H st ns) (hc : K7 hs ns c ps hit) (ad : ∀ (n : Nat) (m : Int), n < ns.length → ok ((n : Int), m) = some (decide (m ≤ bd n))) {v : Nat} (hv : v < 512) : ∀ (tl : List (List Int)) (j : Nat) (met : Tv), hs.drop j = tl → (∀ (k : Nat) (y : Rec), A7 met ((k : Int), (v : Int)) = some y → 0 ≤ y.1 ∧ y.1 ≤ 1000) →
    ∃ aa, C2 ws hs H st ns c ps hit ok (v : Int) tl (j : Int) met = some aa ∧
      (∀ key : Int × Int, (v : Int) ≤ key.2 → A7 aa key = A7 met key) ∧
      (∀ (key : Int × Int) (r : Rec), A7 aa key = some r → A7 met key = some r ∨ ∃ (k s n : Nat) (y : Rec), k < hs.length ∧ Vb c ns hit bd hs.length met v k s n y ∧ key = ((s : Int), (Lq v (hb hit s n) : Int)) ∧ r = (y.1 + en c k s + Io ns n, (s : Int), (n : Int), (k : Int), (v : Int))) ∧
      (∀ (key : Int × Int) (r : Rec), A7 met key = some r → ∃ r', A7 aa key = some r' ∧ r'.1 ≤ r.1) ∧
      (∀ (k s n : Nat) (y : Rec), j ≤ k → k < hs.length → Vb c ns hit bd hs.length met v k s n y → ∃ r', A7 aa ((s : Int), (Lq v (hb hit s n) : Int)) = some r' ∧ r'.1 ≤ y.1 + en c k s + Io ns n)
  | [], j, met, hd, _ => ⟨met, rfl, fun _ _ => rfl, fun _ _ h => .inl h, fun _ r h => ⟨r, h, Int.le_refl _⟩, fun k s n y h1 h2 _ => by
      have := congrArg List.length hd
      rw [List.length_drop, List.length_nil] at this; omega⟩
  | x :: tl, j, met, hd, hy => by
    obtain ⟨hj, hx, af⟩ := drop_cons [] hd
    have h5 := h.Mw.2
    unfold C2
    cases hm : A7 met ((j : Int), (v : Int)) with
    | none =>
      rw [if_pos (by simp), Ap]
      obtain ⟨aa, g0, g1, g2, g3, g4⟩ := Q0 h hc ad hv tl (j + 1) met af hy
      refine ⟨aa, g0, g1, g2, g3, fun k s n y h1 h2 h3 => ?_⟩
      by_cases e : k = j
      · rw [e] at h3; have := h3.1; rw [hm] at this; cases this
      · exact g4 k s n y (by omega) h2 h3
    | some y0 =>
      rw [if_neg (by simp), VU h hc hv, Ap]
      have ae : ∀ z ∈ Tc hit v ns.length hs.length 0, ∃ s n : Nat, s < 5 ∧ n < ns.length ∧ z.1 = ((s : Int), (n : Int)) := fun z hz => by
        obtain ⟨s, n, _, h2, h3, _, h4⟩ := (Mh _ _).1 hz
        exact ⟨s, n, by omega, h3, by rw [h4]⟩
      obtain ⟨m1, f0, f1, f2, f3, f4⟩ := Qh hc.fin h.note ad (k := j) (by omega) hm (hy j y0 hm) (Tc hit v ns.length hs.length 0) met ae
      have ab : ∀ key : Int × Int, (v : Int) ≤ key.2 → A7 m1 key = A7 met key := fun key hk => f1 key fun z hz he => by
        obtain ⟨s, n, _, _, _, h3, h4⟩ := (Mh _ _).1 hz
        have h5 := OL v (hb hit s n)
        have h6 : z.2 = (Lq v (hb hit s n) : Int) := by rw [h4]
        have h7 : key.2 = z.2 := by rw [← he]
        omega
      have Mw : ∀ k s n y, Vb c ns hit bd hs.length m1 v k s n y ↔ Vb c ns hit bd hs.length met v k s n y := fun k s n y => by
        unfold Vb
        rw [ab _ (Int.le_refl _)]
      obtain ⟨aa, g0, g1, g2, g3, g4⟩ := Q0 h hc ad hv tl (j + 1) m1 af (fun k y hk => hy k y (by rw [← ab _ (Int.le_refl _)]; exact hk))
      refine ⟨aa, ?_, fun key hk => (g1 key hk).trans (ab key hk), fun key r hr => ?_, fun key r hr => ?_, fun k s n y h1 h2 h3 => ?_⟩
      · rw [f0, Ap]; exact g0
      · rcases g2 key r hr with q | ⟨k, s, n, y, q1, q2, q3⟩
        · rcases f2 key r q with q | ⟨z, hz, s, n, e1, e2, e3, e4, e5, e6⟩
          · exact .inl q
          · obtain ⟨s', n', _, p2, p3, p4, p5⟩ := (Mh _ _).1 hz
            have ee : ((s' : Int), (n' : Int)) = ((s : Int), (n : Int)) := by rw [← e1, p5]
            obtain ⟨ea, eb⟩ := Prod.mk.inj ee
            obtain rfl : s' = s := by omega
            obtain rfl : n' = n := by omega
            refine .inr ⟨j, s', n', y0, hj, ⟨hm, by omega, p3, p4, e4⟩, ?_, e6⟩
            rw [e5, p5]
        · exact .inr ⟨k, s, n, y, q1, (Mw k s n y).1 q2, q3⟩
      · obtain ⟨r1, q1, q2⟩ := f3 key r hr
        obtain ⟨r2, q3, q4⟩ := g3 key r1 q1
        exact ⟨r2, q3, Int.le_trans q4 q2⟩
      · by_cases e : k = j
        · subst e
          have ah : y0 = y := by
            have := h3.1; rw [hm] at this; exact Option.some.inj this
          subst ah
          have hz : (((s : Int), (n : Int)), (Lq v (hb hit s n) : Int)) ∈ Tc hit v ns.length hs.length 0 := (Mh _ _).2 ⟨s, n, Nat.zero_le _, by have := h3.2.1; omega, h3.2.2.1, h3.2.2.2.1, rfl⟩
          obtain ⟨r1, q1, q2⟩ := f4 _ hz s n rfl h3.2.2.2.2
          obtain ⟨r2, q3, q4⟩ := g3 _ r1 q1
          exact ⟨r2, q3, Int.le_trans q4 q2⟩
        · exact g4 k s n y (by omega) h2 ((Mw k s n y).2 h3)
end
end Go.Proofs.YtfmapnhfamoecaaGreat.Rd
namespace Go.Proofs.YtfmapnhfamoecaaGreat.Rd
open Go.PL
theorem TL {x y : Nat} : Lq x y = 0 ↔ ∀ i, x.testBit i = true → y.testBit i = true := by
  constructor
  · intro h i hi
    have := MH x y i
    rw [h, Nat.zero_testBit, hi, Bool.true_and] at this
    cases hb : y.testBit i with
    | true => rfl
    | false => rw [hb] at this; cases this
  · intro h
    refine Nat.eq_of_testBit_eq fun i => ?_
    rw [MH, Nat.zero_testBit]
    cases hx : x.testBit i with
    | false => rfl
    | true => rw [h i hx]; rfl
structure Inv (c : List Int) (ns : List (List Int × Int × Int)) (hit : List Int) (bd : Nat → Int) (S : Nat) (start : Int) (v0 L : Nat) (met : Tv) : Prop where
  K8 : ∀ (key : Int × Int) (r : Rec), A7 met key = some r → (0 ≤ key.1 ∧ key.1 < (S : Int)) ∧ (∃ v : Nat, key.2 = (v : Int) ∧ v ≤ v0 ∧ Lq v v0 = 0) ∧ 0 ≤ r.1 ∧ r.1 ≤ 1000
  sound : ∀ (key : Int × Int) (r : Rec), A7 met key = some r → (key = (start, (v0 : Int)) ∧ r.1 = 0) ∨ ∃ (v k s n : Nat) (y : Rec), L < v ∧ k < S ∧ Vb c ns hit bd S met v k s n y ∧ key = ((s : Int), (Lq v (hb hit s n) : Int)) ∧ r = (y.1 + en c k s + Io ns n, (s : Int), (n : Int), (k : Int), (v : Int))
  full : ∀ (v k s n : Nat) (y : Rec), L < v → k < S → Vb c ns hit bd S met v k s n y → ∃ r', A7 met ((s : Int), (Lq v (hb hit s n) : Int)) = some r' ∧ r'.1 ≤ y.1 + en c k s + Io ns n
  first : ∃ r, A7 met (start, (v0 : Int)) = some r
section
variable {ws hs : List (List Int)} {H st : Int} {ns : List (List Int × Int × Int)} {c : List Int} {ps : List (Int × Int)} {hit : List Int} {bd : Nat → Int} {ok : Int × Int → Option Bool} {start : Int} {v0 : Nat}
theorem Inv.step (h : GO ws hs H st ns) (hc : K7 hs ns c ps hit) (ae : ∀ n, bd n ≤ 1000) {L : Nat} {met aa : Tv} (hi : Inv c ns hit bd hs.length start v0 (L + 1) met)
    (g1 : ∀ key : Int × Int, ((L + 1 : Nat) : Int) ≤ key.2 → A7 aa key = A7 met key)
    (g2 : ∀ (key : Int × Int) (r : Rec), A7 aa key = some r → A7 met key = some r ∨ ∃ (k s n : Nat) (y : Rec), k < hs.length ∧ Vb c ns hit bd hs.length met (L + 1) k s n y ∧ key = ((s : Int), (Lq (L + 1) (hb hit s n) : Int)) ∧ r = (y.1 + en c k s + Io ns n, (s : Int), (n : Int), (k : Int), ((L + 1 : Nat) : Int)))
    (g3 : ∀ (key : Int × Int) (r : Rec), A7 met key = some r → ∃ r', A7 aa key = some r' ∧ r'.1 ≤ r.1)
    (g4 : ∀ (k s n : Nat) (y : Rec), 0 ≤ k → k < hs.length → Vb c ns hit bd hs.length met (L + 1) k s n y → ∃ r', A7 aa ((s : Int), (Lq (L + 1) (hb hit s n) : Int)) = some r' ∧ r'.1 ≤ y.1 + en c k s + Io ns n) : Inv c ns hit bd hs.length start v0 L aa := by
  have Mw : ∀ v k s n y, L + 1 ≤ v → (Vb c ns hit bd hs.length aa v k s n y ↔ Vb c ns hit bd hs.length met v k s n y) := fun v k s n y hv => by
    unfold Vb
    rw [g1 ((k : Int), (v : Int)) (by show ((L + 1 : Nat) : Int) ≤ (v : Int); omega)]
  have h5 := h.Mw.2
  refine ⟨fun key r hr => ?_, fun key r hr => ?_, fun v k s n y hv hk HY => ?_, ?_⟩
  · rcases g2 key r hr with q | ⟨k, s, n, y, q1, q2, q3, q4⟩
    · exact hi.K8 key r q
    · obtain ⟨p1, p2, p3, p4, p5⟩ := q2
      obtain ⟨_, ⟨v, e1, e2, e3⟩, e4⟩ := hi.K8 _ _ p1
      have ev : v = L + 1 := by
        have : ((L + 1 : Nat) : Int) = (v : Int) := e1
        omega
      subst ev
      have hle := OL (L + 1) (hb hit s n)
      have af := hc.fin.K8 k s (by omega) (by omega)
      have hw := (h.note _ (Gm (d := ([], 0, 0)) p3)).2.1
      have ah : 1 ≤ Io ns n ∧ Io ns n ≤ 5 := hw
      obtain ⟨u1, u2⟩ := p5
      have ai := ae n
      subst q3 q4
      refine ⟨⟨by show 0 ≤ (s : Int); omega, by show (s : Int) < (hs.length : Int); omega⟩, ⟨_, rfl, by omega, ?_⟩, ?_, ?_⟩
      · rw [TL] at e3 ⊢
        intro i ad
        rw [MH] at ad
        exact e3 i (Bool.and_eq_true_iff.1 ad).1
      · show 0 ≤ y.1 + en c k s + Io ns n; omega
      · show y.1 + en c k s + Io ns n ≤ 1000; omega
  · rcases g2 key r hr with q | ⟨k, s, n, y, q1, q2, q3, q4⟩
    · rcases hi.sound key r q with q | ⟨v, k, s, n, y, p1, p2, p3, p4⟩
      · exact .inl q
      · exact .inr ⟨v, k, s, n, y, by omega, p2, (Mw v k s n y (by omega)).2 p3, p4⟩
    · exact .inr ⟨L + 1, k, s, n, y, by omega, q1, (Mw _ k s n y (Nat.le_refl _)).2 q2, q3, q4⟩
  · have ab := (Mw v k s n y (by omega)).1 HY
    by_cases e : v = L + 1
    · subst e
      exact g4 k s n y (Nat.zero_le _) hk ab
    · obtain ⟨r1, q1, q2⟩ := hi.full v k s n y (by omega) hk ab
      obtain ⟨r2, q3, q4⟩ := g3 _ r1 q1
      exact ⟨r2, q3, Int.le_trans q4 q2⟩
  · obtain ⟨r, hr⟩ := hi.first
    obtain ⟨r2, q3, _⟩ := g3 _ r hr
    exact ⟨r2, q3⟩
theorem T4 (h : GO ws hs H st ns) (hc : K7 hs ns c ps hit) (ad : ∀ n, bd n ≤ 1000) (ae : ∀ (n : Nat) (m : Int), n < ns.length → ok ((n : Int), m) = some (decide (m ≤ bd n))) (af : v0 < 512) : ∀ (L fu : Nat) (met : Tv), L < fu → L ≤ v0 → Inv c ns hit bd hs.length start v0 L met →
    ∃ ab, C1 ws hs H st ns c ps hit (v0 : Int) ok fu met (L : Int) = some ab ∧ Inv c ns hit bd hs.length start v0 0 ab
  | 0, fu, met, hf, _, hi => by
    obtain ⟨fu, rfl⟩ : ∃ f, fu = f + 1 := ⟨fu - 1, by omega⟩
    unfold C1
    rw [if_neg (by omega)]
    exact ⟨met, rfl, hi⟩
  | L + 1, fu, met, hf, hl, hi => by
    obtain ⟨fu, rfl⟩ : ∃ f, fu = f + 1 := ⟨fu - 1, by omega⟩
    unfold C1
    rw [if_pos (by omega), Rz (by omega) (by omega)]
    have ah : ∃ aa, (if (Lq (L + 1) v0 : Int) ≠ 0 then some met else C2 ws hs H st ns c ps hit ok ((L + 1 : Nat) : Int) hs 0 met) = some aa ∧ Inv c ns hit bd hs.length start v0 L aa := by
      by_cases e : Lq (L + 1) v0 = 0
      · rw [if_neg (not_not_intro (by rw [e]; rfl))]
        obtain ⟨m1, g0, g1, g2, g3, g4⟩ := Q0 h hc ae (v := L + 1) (by omega) hs 0 met rfl (fun k y hk => (hi.K8 _ _ hk).2.2)
        exact ⟨m1, g0, hi.step h hc ad g1 g2 g3 g4⟩
      · rw [if_pos (by omega)]
        have ai : ∀ k s n y, ¬ Vb c ns hit bd hs.length met (L + 1) k s n y := fun k s n y HY => by
          obtain ⟨_, ⟨v, e1, _, e3⟩, _⟩ := hi.K8 _ _ HY.1
          have : ((L + 1 : Nat) : Int) = (v : Int) := e1
          have : v = L + 1 := by omega
          rw [this] at e3
          exact e e3
        exact ⟨met, rfl, hi.step h hc ad (fun _ _ => rfl) (fun _ _ hr => .inl hr) (fun _ r hr => ⟨r, hr, Int.le_refl _⟩) (fun k s n y _ _ HY => absurd HY (ai k s n y))⟩
    obtain ⟨aa, e4, aj⟩ := ah
    rw [e4, Ap, Bz (AJ (by omega)), show ((L + 1 : Nat) : Int) - 1 = (L : Int) by omega]
    exact T4 h hc ad ae af L fu aa (by omega) (by omega) aj
theorem Wi (HY : 0 ≤ start ∧ start < (hs.length : Int)) : Inv c ns hit bd hs.length start v0 v0 (HQ [] (start, (v0 : Int)) (0, 0, 0, 0, 0)) := by
  have hg : ∀ key : Int × Int, A7 (HQ ([] : Tv) (start, (v0 : Int)) (0, 0, 0, 0, 0)) key = if (start, (v0 : Int)) = key then some (0, 0, 0, 0, 0) else none := fun key => by
    rw [Ih, TX]
  refine ⟨fun key r hr => ?_, fun key r hr => ?_, fun v k s n y hv hk HY => ?_, ⟨(0, 0, 0, 0, 0), by rw [hg, if_pos rfl]⟩⟩
  · rw [hg] at hr
    by_cases e : (start, (v0 : Int)) = key
    · rw [if_pos e] at hr
      obtain rfl := Option.some.inj hr
      subst e
      exact ⟨HY, ⟨v0, rfl, Nat.le_refl _, TL.2 fun i hi => hi⟩, by decide, by decide⟩
    · rw [if_neg e] at hr; cases hr
  · rw [hg] at hr
    by_cases e : (start, (v0 : Int)) = key
    · rw [if_pos e] at hr
      obtain rfl := Option.some.inj hr
      exact .inl ⟨e.symm, rfl⟩
    · rw [if_neg e] at hr; cases hr
  · have := HY.1
    rw [hg] at this
    by_cases e : (start, (v0 : Int)) = ((k : Int), (v : Int))
    · have := (Prod.mk.inj e).2
      omega
    · rw [if_neg e] at this; cases this
end
end Go.Proofs.YtfmapnhfamoecaaGreat.Rd
namespace Go.Proofs.YtfmapnhfamoecaaGreat.Rd
open Go.PL
inductive OM (c : List Int) (ns : List (List Int × Int × Int)) (hit : List Int) (bd : Nat → Int) (S : Nat) (start : Int) (v0 : Nat) : List (Int × Int) → Int → Nat → Int → Prop
  | nil : OM c ns hit bd S start v0 [] start v0 0
  | snoc {l : List (Int × Int)} {k v s n : Nat} {t : Int} (h : OM c ns hit bd S start v0 l (k : Int) v t) (hk : k < S) (hs : s < S) (hn : n < ns.length) (GK : Lq v (hb hit s n) ≠ v) (hv : Xl c ns bd t k s n) : OM c ns hit bd S start v0 (l ++ [((s : Int), (n : Int))]) (s : Int) (Lq v (hb hit s n)) (t + en c k s + Io ns n)
section
variable {c : List Int} {ns : List (List Int × Int × Int)} {hit : List Int} {bd : Nat → Int} {S : Nat} {start : Int} {v0 : Nat} {met : Tv}
theorem Inv.last (hi : Inv c ns hit bd S start v0 0 met) {s : Int} {r : Rec} (hr : A7 met (s, (v0 : Int)) = some r) : s = start ∧ r.1 = 0 := by
  rcases hi.sound _ r hr with ⟨e, h0⟩ | ⟨v, k, s', n, y, _, _, HY, e, _⟩
  · exact ⟨(Prod.mk.inj e).1, h0⟩
  · obtain ⟨_, ⟨u, e1, e2, _⟩, _⟩ := hi.K8 _ _ HY.1
    have h1 := (Prod.mk.inj e).2
    have h2 := OL v (hb hit s' n)
    have h3 := HY.2.2.2.1
    have : (v : Int) = (u : Int) := e1
    omega
theorem Inv.ZH (hi : Inv c ns hit bd S start v0 0 met) {l : List (Int × Int)} {s : Int} {v : Nat} {t : Int} (h : OM c ns hit bd S start v0 l s v t) : ∃ r, A7 met (s, (v : Int)) = some r ∧ r.1 ≤ t := by
  induction h with
  | nil =>
    obtain ⟨r, hr⟩ := hi.first
    exact ⟨r, hr, by rw [(hi.last hr).2]; exact Int.le_refl _⟩
  | @snoc l k v s n t h hk hs hn GK hv ih =>
    obtain ⟨y, hy, hle⟩ := ih
    have aa : 0 < v := Nat.pos_of_ne_zero fun h0 => GK (by
      rw [h0]
      exact Nat.le_zero.1 (OL 0 _))
    have HY : Vb c ns hit bd S met v k s n y := ⟨hy, hs, hn, GK, hv.1, by have := hv.2; omega⟩
    obtain ⟨r', q1, q2⟩ := hi.full v k s n y aa hk HY
    exact ⟨r', q1, by omega⟩
end
end Go.Proofs.YtfmapnhfamoecaaGreat.Rd
namespace Go.Proofs.YtfmapnhfamoecaaGreat.Rd
open Go.PL
section
variable {c : List Int} {ns : List (List Int × Int × Int)} {hit : List Int} {bd : Nat → Int} {S : Nat} {start : Int} {v0 : Nat} {met : Tv}
theorem Ta (hi : Inv c ns hit bd S start v0 0 met) : ∀ (m fu : Nat) (s : Int) (v : Nat) (r : Rec) (out : List (Int × Int)), v0 - v ≤ m → m < fu → out.length + m ≤ 1000 → v ≤ v0 → A7 met (s, (v : Int)) = some r →
    ∃ l, OM c ns hit bd S start v0 l s v r.1 ∧ Cx (v0 : Int) met fu s (v : Int) out = some (out ++ l.reverse)
  | m, 0, s, v, r, out, _, hf, _, _, _ => by omega
  | m, fu + 1, s, v, r, out, hm, hf, hl, hv, hr => by
    unfold Cx
    by_cases e : v = v0
    · subst e
      obtain ⟨e1, e2⟩ := hi.last hr
      rw [if_neg (not_not_intro rfl)]
      exact ⟨[], by rw [e1, e2]; exact .nil, by simp⟩
    · rw [if_pos (by omega), hr]
      rcases hi.sound _ r hr with ⟨e1, h0⟩ | ⟨v', k, s', n, y, _, hk, HY, e1, e2⟩
      · have := (Prod.mk.inj e1).2
        omega
      · obtain ⟨_, ⟨u, e3, e4, _⟩, _⟩ := hi.K8 _ _ HY.1
        have h2 := OL v' (hb hit s' n)
        have h3 := HY.2.2.2.1
        obtain ⟨e5, e6⟩ := Prod.mk.inj e1
        have aa : (v' : Int) = (u : Int) := e3
        obtain rfl : v = Lq v' (hb hit s' n) := by omega
        cases m with
        | zero => omega
        | succ m =>
          subst e2
          obtain ⟨l, hp, hq⟩ := Ta hi m fu (k : Int) v' y (out ++ [((s' : Int), (n : Int))]) (by omega) (by omega) (by simp; omega) (by omega) HY.1
          refine ⟨l ++ [((s' : Int), (n : Int))], ?_, ?_⟩
          · rw [e5]; exact .snoc hp hk HY.2.1 HY.2.2.1 h3 HY.2.2.2.2
          · rw [Km (by simp; omega)]
            show Cx (v0 : Int) met fu (k : Int) (v' : Int) (out ++ [((s' : Int), (n : Int))]) = _
            rw [hq]; simp
def ZR (met : Tv) (j : Nat) (es mn : Int) : Prop := (mn = -1 ∧ ∀ k : Nat, k < j → A7 met ((k : Int), 0) = none) ∨ ((∃ r, A7 met (es, 0) = some r ∧ r.1 = mn) ∧ 0 ≤ mn ∧ ∀ (k : Nat) (r : Rec), k < j → A7 met ((k : Int), 0) = some r → mn ≤ r.1)
theorem Oq (h0 : ∀ (k : Nat) (r : Rec), A7 met ((k : Int), 0) = some r → 0 ≤ r.1) {hs : List (List Int)} : ∀ (tl : List (List Int)) (j : Nat) (es mn : Int), hs.drop j = tl → ZR met j es mn → j ≤ hs.length →
    ∃ aa ab, Ck met tl (j : Int) es mn = some (aa, ab) ∧ ZR met hs.length aa ab
  | [], j, es, mn, hd, G6, hj => by
    have : hs.length = j := by
      have := congrArg List.length hd
      rw [List.length_drop, List.length_nil] at this; omega
    exact ⟨es, mn, rfl, by rw [this]; exact G6⟩
  | x :: tl, j, es, mn, hd, G6, _ => by
    obtain ⟨hj, hx, ad⟩ := drop_cons [] hd
    unfold Ck
    cases hm : A7 met ((j : Int), 0) with
    | none =>
      rw [if_neg (by simp), Ap, if_neg (by decide)]
      refine Oq h0 tl (j + 1) es mn ad ?_ hj
      rcases G6 with ⟨a, b⟩ | ⟨a, b, d⟩
      · refine .inl ⟨a, fun k hk => ?_⟩
        by_cases e : k = j
        · rw [e]; exact hm
        · exact b k (by omega)
      · refine .inr ⟨a, b, fun k r hk hr => ?_⟩
        by_cases e : k = j
        · rw [e, hm] at hr; cases hr
        · exact d k r (by omega) hr
    | some r0 =>
      have ae := h0 j r0 hm
      have take : (∀ (k : Nat) (r : Rec), k < j → A7 met ((k : Int), 0) = some r → r0.1 ≤ r.1) → ∃ aa ab, Ck met tl ((j : Int) + 1) (j : Int) r0.1 = some (aa, ab) ∧ ZR met hs.length aa ab := fun hle =>
        Oq h0 tl (j + 1) (j : Int) r0.1 ad (.inr ⟨⟨r0, hm, rfl⟩, ae, fun k r hk hr => by
          by_cases e : k = j
          · rw [e, hm] at hr
            rw [Option.some.inj hr]; exact Int.le_refl _
          · exact hle k r (by omega) hr⟩) hj
      rw [if_pos (by simp)]
      rcases G6 with ⟨a, b⟩ | ⟨a, b, d⟩
      · rw [if_pos a, Ap, if_pos rfl, Lv]
        exact take fun k r hk hr => by rw [b k hk] at hr; cases hr
      · rw [if_neg (by omega), Ap]
        by_cases e : r0.1 < mn
        · rw [if_pos (show decide (((some r0).getD (0, 0, 0, 0, 0)).1 < mn) = true from decide_eq_true e), Lv]
          exact take fun k r hk hr => by have := d k r hk hr; omega
        · rw [if_neg (show ¬ decide (((some r0).getD (0, 0, 0, 0, 0)).1 < mn) = true from fun hd => e (of_decide_eq_true hd))]
          refine Oq h0 tl (j + 1) es mn ad (.inr ⟨a, b, fun k r hk hr => ?_⟩) hj
          by_cases e2 : k = j
          · rw [e2, hm] at hr
            have := Option.some.inj hr
            subst this; omega
          · exact d k r (by omega) hr
end
end Go.Proofs.YtfmapnhfamoecaaGreat.Rd
namespace Go.Proofs.YtfmapnhfamoecaaGreat.Rd
open Go.PL Go.Proofs.YtfmapnhfamoecaaGreat.Rv
theorem XD {xs : List (Int × Int)} (hn : xs.length ≤ 1000) : ∀ (m fu k : Nat), xs.length - 2 * k ≤ m → m < fu → k ≤ xs.length →
    BA fu (JG (0, 0) xs k) (k : Int) ((xs.length : Int) - 1 - (k : Int)) = some xs.reverse
  | _, 0, _, _, h, _ => by omega
  | m, fu + 1, k, h1, h2, h3 => by
    unfold BA
    by_cases c : (k : Int) < (xs.length : Int) - 1 - (k : Int)
    · obtain ⟨j, hj⟩ : ∃ j : Nat, j = xs.length - 1 - k := ⟨_, rfl⟩
      have ab : (xs.length : Int) - 1 - (k : Int) = (j : Int) := by omega
      have hl := Es ((0, 0) : Int × Int) xs k
      have ad : ((JG ((0, 0) : Int × Int) xs k).set k ((JG ((0, 0) : Int × Int) xs k).getD j (0, 0))).length = xs.length := by rw [List.length_set, hl]
      have aa : ∀ w : Int × Int, (w.1, w.2) = w := fun w => rfl
      rw [if_pos c, ab, Xb (0, 0) _ (by omega), Xb (0, 0) _ (by omega), aa, aa, Lv, Int.toNat_natCast, Xb (0, 0) _ (by omega), Lv, Int.toNat_natCast, RP (d := (0, 0)) hj (by omega), Bz (AJ (by omega)), Bz (AJ (by omega)), show (k : Int) + 1 = ((k + 1 : Nat) : Int) from rfl, show (j : Int) - 1 = (xs.length : Int) - 1 - ((k + 1 : Nat) : Int) by omega]
      cases m with
      | zero => omega
      | succ m => exact XD hn m fu (k + 1) (by omega) (by omega) (by omega)
    · rw [if_neg c, Tt (by omega)]
theorem UI {xs : List (Int × Int)} (hn : xs.length ≤ 1000) : Co xs = some xs.reverse := by
  unfold Co
  have h := XD hn xs.length FU 0 (by omega) (by unfold FU; omega) (Nat.zero_le _)
  rw [Rw] at h
  rw [Bz (AJ (by omega))]
  rw [show (xs.length : Int) - 1 - ((0 : Nat) : Int) = (xs.length : Int) - 1 by omega] at h
  exact h
section
variable {ws hs : List (List Int)} {H st : Int} {ns : List (List Int × Int × Int)} {c : List Int} {ps : List (Int × Int)} {hit : List Int} {bd : Nat → Int} {ok : Int × Int → Option Bool} {v0 : Nat}
theorem OM.len {S : Nat} {start : Int} {l : List (Int × Int)} {s : Int} {v : Nat} {t : Int} (h : OM c ns hit bd S start v0 l s v t) : l.length + v ≤ v0 := by
  induction h with
  | nil => simp
  | snoc h hk hs hn GK hv ih =>
    rename_i l k v s n t
    have := OL v (hb hit s n)
    simp only [List.length_append, List.length_singleton]
    omega
theorem Xi (h : GO ws hs H st ns) (hc : K7 hs ns c ps hit) (ab : ∀ n, bd n ≤ 1000) (ad : ∀ (n : Nat) (m : Int), n < ns.length → ok ((n : Int), m) = some (decide (m ≤ bd n))) (ae : v0 < 512) :
    (EM ws hs H st ns c ps hit (v0 : Int) ok = some ([], 0, false) ∧ ∀ l s t, ¬ OM c ns hit bd hs.length st v0 l s 0 t) ∨
    ∃ l s t, EM ws hs H st ns c ps hit (v0 : Int) ok = some (l, t, true) ∧ OM c ns hit bd hs.length st v0 l s 0 t ∧ ∀ l' s' t', OM c ns hit bd hs.length st v0 l' s' 0 t' → t ≤ t' := by
  obtain ⟨met, e1, hi⟩ := T4 h hc ab ad ae v0 FU _ (by unfold FU; omega) (Nat.le_refl _) (Wi (c := c) (ns := ns) (hit := hit) (bd := bd) (hs := hs) (v0 := v0) h.HY)
  obtain ⟨es, mn, e2, h2⟩ := Oq (fun k r hr => (hi.K8 _ _ hr).2.2.1) (hs := hs) hs 0 (-1) (-1) rfl (.inl ⟨rfl, fun k hk => absurd hk (Nat.not_lt_zero _)⟩) (Nat.zero_le _)
  have af : Ck met hs 0 (-1) (-1) = some (es, mn) := e2
  have aa : ∀ (l : List (Int × Int)) (s t : Int), OM c ns hit bd hs.length st v0 l s 0 t → ∃ (k : Nat) (r : Rec), k < hs.length ∧ A7 met ((k : Int), 0) = some r ∧ r.1 ≤ t := fun l s t hp => by
    obtain ⟨r, hr, hle⟩ := hi.ZH hp
    obtain ⟨⟨a, b⟩, _⟩ := hi.K8 _ _ hr
    have a' : 0 ≤ s := a
    have b' : s < (hs.length : Int) := b
    refine ⟨s.toNat, r, by omega, ?_, hle⟩
    rw [show ((s.toNat : Nat) : Int) = s by omega]
    exact hr
  unfold EM
  rw [Lv, e1, Ap, af, B2]
  rcases h2 with ⟨a, b⟩ | ⟨⟨r, hr, ah⟩, b, d⟩
  · rw [if_pos a]
    refine .inl ⟨rfl, fun l s t hp => ?_⟩
    obtain ⟨k, r, hk, hr, _⟩ := aa l s t hp
    rw [b k hk] at hr; cases hr
  · rw [if_neg (by omega)]
    obtain ⟨l, hp, e3⟩ := Ta hi v0 FU es 0 r [] (by omega) (by unfold FU; omega) (by simp; omega) (Nat.zero_le _) hr
    have ai : Cx (v0 : Int) met FU es 0 [] = some ([] ++ l.reverse) := e3
    have hl := hp.len
    rw [ai, Ap, List.nil_append, UI (by rw [List.length_reverse]; omega), Ap, List.reverse_reverse]
    refine .inr ⟨l, es, mn, rfl, by rw [← ah]; exact hp, fun l' s' t' aj => ?_⟩
    obtain ⟨k, r', hk, ak, hle⟩ := aa l' s' t' aj
    have := d k r' hk ak
    omega
end
end Go.Proofs.YtfmapnhfamoecaaGreat.Rd
namespace Go.Proofs.YtfmapnhfamoecaaGreat.Rd
open Go.PL
def Y9 (ns : List (List Int × Int × Int)) (last : Int) (n : Nat) : Int := if (ns.getD n ([], 0, 0)).2.2 < last then (ns.getD n ([], 0, 0)).2.2 else last
theorem Z2 {ns : List (List Int × Int × Int)} {last : Int} (hl : last ≤ 1000) (n : Nat) : Y9 ns last n ≤ 1000 := by unfold Y9; split <;> omega
section
variable {ws hs : List (List Int)} {H st : Int} {ns : List (List Int × Int × Int)} {c : List Int} {ps : List (Int × Int)} {hit : List Int}
def aD (c : List Int) (ns : List (List Int × Int × Int)) (hit : List Int) (hs : List (List Int)) (st : Int) (bd : Nat → Int) (v : Nat) (l : List (Int × Int)) (t : Int) : Prop := ∃ s, OM c ns hit bd hs.length st v l s 0 t
theorem aJ (last : Int) : ∀ (n : Nat) (m : Int), n < ns.length → (fun aa : Int × Int => D8 aa.1 aa.2 last ws hs H st ns c ps hit) ((n : Int), m) = some (decide (m ≤ Y9 ns last n)) := fun n m hn => by
  show D8 (n : Int) m last ws hs H st ns c ps hit = _
  unfold D8
  rw [Xb ([], 0, 0) _ hn]
  rfl
theorem all_eq (hp : ps.length ≤ 9) : GN ws hs H st ns c ps hit = some ((2 ^ ps.length - 1 : Nat) : Int) := by
  have h1 : 1 ≤ (2 : Nat) ^ ps.length := Nat.one_le_two_pow
  have h2 : (2 : Nat) ^ ps.length ≤ 2 ^ 9 := Nat.pow_le_pow_right (by decide) hp
  have h3 : (2 : Nat) ^ 9 = 512 := by decide
  have h4 : (((2 : Nat) ^ ps.length : Nat) : Int) - 1 = ((2 ^ ps.length - 1 : Nat) : Int) := by omega
  unfold GN
  rw [Bz (Zb (by omega)), RY, h4, Bz (AJ (by omega))]
theorem K7.nine (h : GO ws hs H st ns) (hc : K7 hs ns c ps hit) : ps.length ≤ 9 := by
  have h1 := hc.ZU.len
  have h2 := P0 ns ns.length
  have h3 := h.bN
  omega
theorem YF (hp : ps.length ≤ 9) : 2 ^ ps.length - 1 < 512 := by
  have h1 : 1 ≤ (2 : Nat) ^ ps.length := Nat.one_le_two_pow
  have h2 : (2 : Nat) ^ ps.length ≤ 2 ^ 9 := Nat.pow_le_pow_right (by decide) hp
  have h3 : (2 : Nat) ^ 9 = 512 := by decide
  omega
theorem PM (h : GO ws hs H st ns) (e : DZ ws hs H st ns = some (some (ws, hs, H, st, ns, c, ps, hit), 0)) (hc : K7 hs ns c ps hit) :
    (Dx ws hs H st ns = some ([], 0, 6) ∧ ∀ l t, ¬ aD c ns hit hs st (Y9 ns 200) (2 ^ ps.length - 1) l t) ∨
    ∃ l t, Dx ws hs H st ns = some (l, t, 0) ∧ aD c ns hit hs st (Y9 ns 200) (2 ^ ps.length - 1) l t ∧ ∀ l' t', aD c ns hit hs st (Y9 ns 200) (2 ^ ps.length - 1) l' t' → t ≤ t' := by
  have hp := hc.nine h
  unfold Dx G4 Iv
  rw [e, B2, if_neg (by decide), R3, all_eq hp, Ap, Ap, Ap]
  rcases Xi h hc (bd := Y9 ns 200) (ok := fun aa : Int × Int => D8 aa.1 aa.2 200 ws hs H st ns c ps hit) (Z2 (by decide)) (aJ 200) (YF hp) with ⟨e1, h1⟩ | ⟨l, s, t, e1, h1, h2⟩
  · rw [e1, En, if_pos (by decide)]
    exact .inl ⟨rfl, fun l t ⟨s, G6⟩ => h1 l s t G6⟩
  · rw [e1, En, if_neg (by decide)]
    exact .inr ⟨l, t, rfl, ⟨s, h1⟩, fun l' t' ⟨s', G6⟩ => h2 l' s' t' G6⟩
end
end Go.Proofs.YtfmapnhfamoecaaGreat.Rd
namespace Go.Proofs.YtfmapnhfamoecaaGreat.Rd
open Go.PL
def Gx (c : List Int) (ns : List (List Int × Int × Int)) : Int → Int → List (Int × Int) → Option (List Int)
  | _, _, [] => some []
  | k, m, x :: l => if en c k.toNat x.1.toNat = -1 then none else (Gx c ns x.1 (m + en c k.toNat x.1.toNat + Io ns x.2.toNat) l).map ((m + en c k.toNat x.1.toNat + Io ns x.2.toNat) :: ·)
def Oc (S N : Nat) (l : List (Int × Int)) : Prop := ∀ x ∈ l, (0 ≤ x.1 ∧ x.1 < (S : Int)) ∧ (0 ≤ x.2 ∧ x.2 < (N : Int))
section
variable {ws hs : List (List Int)} {H st : Int} {ns : List (List Int × Int × Int)} {c : List Int} {ps : List (Int × Int)} {hit : List Int}
end
end Go.Proofs.YtfmapnhfamoecaaGreat.Rd
namespace Go.Proofs.YtfmapnhfamoecaaGreat.Rd
open Go.PL
def UL (k : Int) (l : List (Int × Int)) : Int := (l.map (·.1)).getLastD k
theorem XI (k : Int) (l : List (Int × Int)) (x : Int × Int) : UL k (l ++ [x]) = x.1 := by unfold UL; simp
section
variable {c : List Int} {ns : List (List Int × Int × Int)} {hit : List Int} {bd : Nat → Int} {S : Nat} {start : Int} {v0 : Nat}
theorem RL {x : Int × Int} : ∀ (l : List (Int × Int)) (k m : Int) (es : List Int), Gx c ns k m l = some es →
    Gx c ns k m (l ++ [x]) = if en c (UL k l).toNat x.1.toNat = -1 then none else some (es ++ [es.getLastD m + en c (UL k l).toNat x.1.toNat + Io ns x.2.toNat])
  | [], k, m, es, h => by
    obtain rfl : [] = es := Option.some.inj h
    simp only [List.nil_append, Gx, UL, List.map_nil, List.getLastD_nil]
    rfl
  | y :: l, k, m, es, h => by
    unfold Gx at h
    by_cases e : en c k.toNat y.1.toNat = -1
    · rw [if_pos e] at h; cases h
    · rw [if_neg e] at h
      cases h2 : Gx c ns y.1 (m + en c k.toNat y.1.toNat + Io ns y.2.toNat) l with
      | none => rw [h2] at h; cases h
      | some aa =>
        rw [h2] at h
        obtain rfl := Option.some.inj h
        have ih := RL (x := x) l y.1 _ aa h2
        have ep : UL k (y :: l) = UL y.1 l := by unfold UL; rw [List.map_cons, List.getLastD_cons]
        have el : ((m + en c k.toNat y.1.toNat + Io ns y.2.toNat) :: aa).getLastD m = aa.getLastD (m + en c k.toNat y.1.toNat + Io ns y.2.toNat) := by rw [List.getLastD_cons]
        rw [List.cons_append]
        show Gx c ns k m (y :: (l ++ [x])) = _
        unfold Gx
        rw [if_neg e, ih, ep, el]
        by_cases e2 : en c (UL y.1 l).toNat x.1.toNat = -1
        · rw [if_pos e2, if_pos e2]; rfl
        · rw [if_neg e2, if_neg e2]; rfl
theorem OM.ends {l : List (Int × Int)} {s : Int} {v : Nat} {t : Int} (h : OM c ns hit bd S start v0 l s v t) : ∃ es, Gx c ns start 0 l = some es ∧ es.getLastD 0 = t ∧ UL start l = s ∧ Oc S ns.length l ∧ es.length = l.length := by
  induction h with
  | nil => exact ⟨[], rfl, rfl, rfl, fun x hx => (nomatch hx), rfl⟩
  | @snoc l k v s n t h hk hs hn GK hv ih =>
    obtain ⟨es, e1, e2, e3, e4, e5⟩ := ih
    have q := RL (x := ((s : Int), (n : Int))) l start 0 es e1
    rw [e3, e2, Int.toNat_natCast, Int.toNat_natCast, Int.toNat_natCast, if_neg hv.1] at q
    refine ⟨_, q, by simp, XI .., fun x hx => ?_, by simp [e5]⟩
    rcases List.mem_append.1 hx with hx | hx
    · exact e4 x hx
    · rw [List.mem_singleton.1 hx]
      exact ⟨⟨by show 0 ≤ (s : Int); omega, by show (s : Int) < (S : Int); omega⟩, ⟨by show 0 ≤ (n : Int); omega, by show (n : Int) < (ns.length : Int); omega⟩⟩
end
end Go.Proofs.YtfmapnhfamoecaaGreat.Rd
namespace Go.Proofs.YtfmapnhfamoecaaGreat.Rd
open Go.PL
def LD (c : List Int) (ns : List (List Int × Int × Int)) (hit : List Int) (bd : Nat → Int) : Int → Int → Nat → List (Int × Int) → Nat
  | _, _, v, [] => v
  | k, m, v, x :: l => LD c ns hit bd x.1 (m + en c k.toNat x.1.toNat + Io ns x.2.toNat) (if m + en c k.toNat x.1.toNat + Io ns x.2.toNat ≤ bd x.2.toNat then Lq v (hb hit x.1.toNat x.2.toNat) else v) l
section
variable {c : List Int} {ns : List (List Int × Int × Int)} {hit : List Int} {bd : Nat → Int} {S : Nat} {start : Int} {v0 : Nat} {H : Int}
theorem PU (hc : V8 S c) (hS : S ≤ 5) (hw : ∀ x ∈ ns, bJ H x) : ∀ (l : List (Int × Int)) (k m : Int) (v s : Nat) (t : Int) (lp : List (Int × Int)) (es : List Int), Oc S ns.length l → (0 ≤ k ∧ k < (S : Int)) → Gx c ns k m l = some es → OM c ns hit bd S start v0 lp (s : Int) v t → s < S → en c s k.toNat ≠ -1 → t + en c s k.toNat ≤ m →
    ∃ ab s' t', OM c ns hit bd S start v0 ab s' (LD c ns hit bd k m v l) t' ∧ t' ≤ es.getLastD m
  | [], k, m, v, s, t, lp, es, _, hk, he, hp, hs, h1, h2 => by
    obtain rfl : [] = es := Option.some.inj he
    have := hc.K8 s k.toNat (by omega) (by omega)
    exact ⟨lp, s, t, hp, by show t ≤ m; omega⟩
  | x :: l, k, m, v, s, t, lp, es, hl, hk, he, hp, hs, h1, h2 => by
    obtain ⟨a1, a2⟩ := hl x (by simp)
    unfold Gx at he
    by_cases e : en c k.toNat x.1.toNat = -1
    · rw [if_pos e] at he; cases he
    · rw [if_neg e] at he
      cases h3 : Gx c ns x.1 (m + en c k.toNat x.1.toNat + Io ns x.2.toNat) l with
      | none => rw [h3] at he; cases he
      | some aa =>
        rw [h3] at he
        obtain rfl := Option.some.inj he
        have hN := (hw _ (Gm (d := ([], 0, 0)) (i := x.2.toNat) (by omega))).2.1
        have ah : 1 ≤ Io ns x.2.toNat ∧ Io ns x.2.toNat ≤ 5 := hN
        obtain ⟨t1, t2⟩ := hc.cY s k.toNat x.1.toNat (by omega) (by omega) (by omega) h1 e
        have hr := hc.K8 k.toNat x.1.toNat (by omega) (by omega)
        have ad : Oc S ns.length l := fun z hz => hl z (by simp [hz])
        have ae : ((m + en c k.toNat x.1.toNat + Io ns x.2.toNat) :: aa).getLastD m = aa.getLastD (m + en c k.toNat x.1.toNat + Io ns x.2.toNat) := by rw [List.getLastD_cons]
        show ∃ ab s' t', OM c ns hit bd S start v0 ab s' (LD c ns hit bd k m v (x :: l)) t' ∧ t' ≤ ((m + en c k.toNat x.1.toNat + Io ns x.2.toNat) :: aa).getLastD m
        rw [ae]
        unfold LD
        by_cases b : m + en c k.toNat x.1.toNat + Io ns x.2.toNat ≤ bd x.2.toNat
        · rw [if_pos b]
          by_cases d : Lq v (hb hit x.1.toNat x.2.toNat) = v
          · rw [d]
            exact PU hc hS hw l x.1 _ v s t lp aa ad a1 h3 hp hs t1 (by omega)
          · have af := OM.snoc hp hs (s := x.1.toNat) (n := x.2.toNat) (by omega) (by omega) d ⟨t1, by omega⟩
            have hd := hc.cT.diag x.1.toNat (by omega) (by omega)
            exact PU hc hS hw l x.1 _ _ x.1.toNat _ _ aa ad a1 h3 af (by omega) (by omega) (by omega)
        · rw [if_neg b]
          exact PU hc hS hw l x.1 _ v s t lp aa ad a1 h3 hp hs t1 (by omega)
theorem X1 {ws hs : List (List Int)} {st : Int} {ps : List (Int × Int)} (h : GO ws hs H st ns) (hc : K7 hs ns c ps hit) {l : List (Int × Int)} {es : List Int} {v : Nat} (hl : Oc hs.length ns.length l) (he : Gx c ns st 0 l = some es) (hr : LD c ns hit bd st 0 v l = 0) : ∃ l' t, aD c ns hit hs st bd v l' t ∧ t ≤ es.getLastD 0 := by
  have h1 := h.HY
  have h5 := h.Mw.2
  have hp : OM c ns hit bd hs.length st v [] ((st.toNat : Nat) : Int) v 0 := by
    rw [show ((st.toNat : Nat) : Int) = st by omega]; exact .nil
  have hd := hc.fin.cT.diag st.toNat (by omega) (by omega)
  obtain ⟨l', s', t', h2, h3⟩ := PU hc.fin h5 h.note l st 0 v st.toNat 0 [] es hl h1 he hp (by omega) (by omega) (by omega)
  rw [hr] at h2
  exact ⟨l', t', ⟨s', h2⟩, h3⟩
end
end Go.Proofs.YtfmapnhfamoecaaGreat.Rd
namespace Go.Proofs.YtfmapnhfamoecaaGreat.Rd
open Go.PL
def Ns (c : List Int) (ns : List (List Int × Int × Int)) (hit : List Int) (bd : Nat → Int) : Int → Int → List (Int × Int) → Nat → Bool
  | _, _, [], _ => false
  | k, m, x :: l, p => (decide (m + en c k.toNat x.1.toNat + Io ns x.2.toNat ≤ bd x.2.toNat) && (hb hit x.1.toNat x.2.toNat).testBit p) || Ns c ns hit bd x.1 (m + en c k.toNat x.1.toNat + Io ns x.2.toNat) l p
section
variable {c : List Int} {ns : List (List Int × Int × Int)} {hit : List Int} {bd aO : Nat → Int} {S : Nat} {start : Int} {v0 : Nat} {H : Int}
theorem RS : ∀ (l : List (Int × Int)) (k m : Int) (v p : Nat), (LD c ns hit bd k m v l).testBit p = (v.testBit p && !Ns c ns hit bd k m l p)
  | [], k, m, v, p => by simp [LD, Ns]
  | x :: l, k, m, v, p => by
    unfold LD Ns
    rw [RS l]
    by_cases b : m + en c k.toNat x.1.toNat + Io ns x.2.toNat ≤ bd x.2.toNat
    · rw [if_pos b, decide_eq_true b, MH, Bool.true_and, Bool.not_or, Bool.and_assoc]
    · rw [if_neg b, decide_eq_false b, Bool.false_and, Bool.false_or]
theorem Mo {l : List (Int × Int)} {k m : Int} {v : Nat} : LD c ns hit bd k m v l = 0 ↔ ∀ p, v.testBit p = true → Ns c ns hit bd k m l p = true := by
  constructor
  · intro h p hp
    have := RS (c := c) (ns := ns) (hit := hit) (bd := bd) l k m v p
    rw [h, Nat.zero_testBit, hp, Bool.true_and] at this
    cases e : Ns c ns hit bd k m l p with
    | true => rfl
    | false => rw [e] at this; cases this
  · intro h
    refine Nat.eq_of_testBit_eq fun p => ?_
    rw [RS, Nat.zero_testBit]
    cases e : v.testBit p with
    | false => rfl
    | true => rw [h p e]; rfl
theorem TV {x : Int × Int} : ∀ (l : List (Int × Int)) (k m : Int) (v : Nat) (es : List Int), Gx c ns k m l = some es →
    LD c ns hit bd k m v (l ++ [x]) = if es.getLastD m + en c (UL k l).toNat x.1.toNat + Io ns x.2.toNat ≤ bd x.2.toNat then Lq (LD c ns hit bd k m v l) (hb hit x.1.toNat x.2.toNat) else LD c ns hit bd k m v l
  | [], k, m, v, es, h => by
    obtain rfl : [] = es := Option.some.inj h
    simp only [List.nil_append, LD, UL, List.map_nil, List.getLastD_nil]
  | y :: l, k, m, v, es, h => by
    unfold Gx at h
    by_cases e : en c k.toNat y.1.toNat = -1
    · rw [if_pos e] at h; cases h
    · rw [if_neg e] at h
      cases h2 : Gx c ns y.1 (m + en c k.toNat y.1.toNat + Io ns y.2.toNat) l with
      | none => rw [h2] at h; cases h
      | some aa =>
        rw [h2] at h
        obtain rfl := Option.some.inj h
        have ep : UL k (y :: l) = UL y.1 l := by unfold UL; rw [List.map_cons, List.getLastD_cons]
        have el : ((m + en c k.toNat y.1.toNat + Io ns y.2.toNat) :: aa).getLastD m = aa.getLastD (m + en c k.toNat y.1.toNat + Io ns y.2.toNat) := by rw [List.getLastD_cons]
        rw [List.cons_append]
        show LD c ns hit bd k m v (y :: (l ++ [x])) = _
        unfold LD
        rw [TV (x := x) l y.1 _ _ aa h2, ep]
        show _ = if ((m + en c k.toNat y.1.toNat + Io ns y.2.toNat) :: aa).getLastD m + _ + _ ≤ _ then _ else _
        rw [el]
theorem OM.rem {l : List (Int × Int)} {s : Int} {v : Nat} {t : Int} (h : OM c ns hit bd S start v0 l s v t) : LD c ns hit bd start 0 v0 l = v := by
  induction h with
  | nil => rfl
  | @snoc l k v s n t h hk hs hn GK hv ih =>
    obtain ⟨es, e1, e2, e3, e4, e5⟩ := h.ends
    rw [TV l start 0 v0 es e1, e3, e2, ih, Int.toNat_natCast, Int.toNat_natCast, Int.toNat_natCast, if_pos hv.2]
theorem Ti (aa : ∀ n, n < ns.length → bd n ≤ aO n) {p : Nat} : ∀ (l : List (Int × Int)) (k m : Int), Oc S ns.length l → Ns c ns hit bd k m l p = true → Ns c ns hit aO k m l p = true
  | [], _, _, _, h => h
  | x :: l, k, m, hl, h => by
    unfold Ns at h ⊢
    rw [Bool.or_eq_true_iff, Bool.and_eq_true_iff, decide_eq_true_iff] at h ⊢
    obtain ⟨_, h2⟩ := hl x (by simp)
    rcases h with ⟨h3, h4⟩ | h3
    · exact .inl ⟨Int.le_trans h3 (aa _ (by omega)), h4⟩
    · exact .inr (Ti aa l _ _ (fun z hz => hl z (by simp [hz])) h3)
def Za (v : Nat) : Nat := (List.range 9).countP fun i => v.testBit i
theorem OM.le {l : List (Int × Int)} {s : Int} {v : Nat} {t : Int} (h : OM c ns hit bd S start v0 l s v t) : v ≤ v0 := by
  have := h.len; omega
end
section
variable {ws hs : List (List Int)} {H st : Int} {ns : List (List Int × Int × Int)} {c : List Int} {ps : List (Int × Int)} {hit : List Int} {bd aO : Nat → Int} {v v' : Nat}
def Can (c : List Int) (ns : List (List Int × Int × Int)) (hit : List Int) (hs : List (List Int)) (st : Int) (bd : Nat → Int) (v : Nat) : Prop := ∃ l es, Oc hs.length ns.length l ∧ Gx c ns st 0 l = some es ∧ LD c ns hit bd st 0 v l = 0
theorem aD.can {l : List (Int × Int)} {t : Int} (h : aD c ns hit hs st bd v l t) : ∃ es, Oc hs.length ns.length l ∧ Gx c ns st 0 l = some es ∧ LD c ns hit bd st 0 v l = 0 ∧ es.getLastD 0 = t ∧ es.length = l.length := by
  obtain ⟨s, h⟩ := h
  obtain ⟨es, e1, e2, e3, e4, e5⟩ := h.ends
  exact ⟨es, e4, e1, h.rem, e2, e5⟩
theorem Can.mono (h : Can c ns hit hs st bd v) (aa : ∀ n, n < ns.length → bd n ≤ aO n) (hv : ∀ p, v'.testBit p = true → v.testBit p = true) : Can c ns hit hs st aO v' := by
  obtain ⟨l, es, h1, h2, h3⟩ := h
  exact ⟨l, es, h1, h2, Mo.2 fun p hp => Ti aa l _ _ h1 (Mo.1 h3 p (hv p hp))⟩
theorem Can.zero : Can c ns hit hs st bd 0 := ⟨[], [], fun _ h => (nomatch h), rfl, rfl⟩
end
end Go.Proofs.YtfmapnhfamoecaaGreat.Rd
