/- RoundLost; in plain Lean. -/
import Derived.Test.YtfmapnhfamoecabZBUA
namespace Go.Proofs.Ytfmapnhfamoecab.Rd
open Go.PL Go.Proofs.Ytfmapnhfamoecab.Rv
theorem SoonP.unique {P : Int → Prop} {v w : Int} (h : SoonP P v) (h2 : SoonP P w) : v = w := by
  rcases h with ⟨h1, h3⟩ | ⟨h1, h3, h4⟩ <;> rcases h2 with ⟨q1, q3⟩ | ⟨q1, q3, q4⟩
  · omega
  · exact absurd q1 (h3 w)
  · exact absurd h1 (q3 v)
  · have := h4 w q1; have := q4 v h1; omega
theorem containsP_l2 (a b : Int) : ∀ (l : List (Int × Int)) (k : Int), 0 ≤ k → ∃ n, slices_Index_round_Pair_round_Pair_l2 a b l k = some n ∧ (0 ≤ n ↔ (a, b) ∈ l)
  | [], k, _ => ⟨-1, rfl, by simp⟩
  | x :: l, k, hk => by
    unfold slices_Index_round_Pair_round_Pair_l2
    by_cases h : a = x.1 ∧ b = x.2
    · exact ⟨k, if_pos h, by simp [h.1, h.2, hk]⟩
    · obtain ⟨n, h1, h2⟩ := containsP_l2 a b l (k + 1) (by omega)
      refine ⟨n, by rw [if_neg h]; exact h1, ?_⟩
      rw [h2, List.mem_cons]
      exact ⟨.inr, fun q => q.elim (fun e => absurd ⟨congrArg Prod.fst e, congrArg Prod.snd e⟩ h) id⟩
theorem containsP_eq (l : List (Int × Int)) (a b : Int) : slices_Contains_round_Pair_round_Pair l a b = some (decide ((a, b) ∈ l)) := by
  unfold slices_Contains_round_Pair_round_Pair slices_Index_round_Pair_round_Pair
  obtain ⟨n, h1, h2⟩ := containsP_l2 a b l 0 (Int.le_refl _)
  rw [h1, b1_some]; congr 1; rw [decide_eq_decide]; exact h2
theorem cloneP_eq (l : List (Int × Int)) (hl : l.length ≤ 1000) : slices_Clone_round_Pair_round_Pair l = some l := by
  unfold slices_Clone_round_Pair_round_Pair nilIf
  by_cases h : l = []
  · rw [if_pos h, h, ap_t (by simp)]; rfl
  · rw [if_neg h, ap_t (by simp; omega), List.nil_append]
section
variable {ws hs : List (List Int)} {H st : Int} {ns : List (List Int × Int × Int)} {c : List Int} {ps : List (Int × Int)} {hit : List Int} {bd : Nat → Int} {D : Nat → Bool}
/-- A pair is served by one cry at a minute. -/
def Fst (hs : List (List Int)) (c : List Int) (ns : List (List Int × Int × Int)) (st : Int) (k : Nat) (q : Int × Int) (e : Int) : Prop := ∃ s, s < k ∧ s < hs.length ∧ en c st.toNat s ≠ -1 ∧ q.2 ∈ hs.getD s [] ∧ e = en c st.toNat s + wrd ns q.1.toNat
theorem Fst.zero {q : Int × Int} : SoonP (Fst hs c ns st 0 q) (-1) := .inl ⟨rfl, fun _ ⟨_, h, _⟩ => absurd h (Nat.not_lt_zero _)⟩
theorem fst_all {q : Int × Int} {v : Int} {k : Nat} (hk : hs.length ≤ k) (h : SoonP (Fst hs c ns st k q) v) : SoonP (Fst hs c ns st hs.length q) v :=
  h.congr fun e => ⟨fun ⟨s, _, h2, h3⟩ => ⟨s, h2, h2, h3⟩, fun ⟨s, _, h2, h3⟩ => ⟨s, by omega, h2, h3⟩⟩
/-- One stand more is looked at. -/
theorem Fst.step {q : Int × Int} {v : Int} {k : Nat} (h : SoonP (Fst hs c ns st k q) v) (hn : ¬ (k < hs.length ∧ en c st.toNat k ≠ -1 ∧ q.2 ∈ hs.getD k [])) : SoonP (Fst hs c ns st (k + 1) q) v :=
  h.congr fun e => ⟨fun ⟨s, h1, h2⟩ => ⟨s, by omega, h2⟩, fun ⟨s, h1, h2, h3, h4, h5⟩ => by
    by_cases d : s = k
    · subst d; exact absurd ⟨h2, h3, h4⟩ hn
    · exact ⟨s, by omega, h2, h3, h4, h5⟩⟩
theorem Fst.add {q : Int × Int} {v : Int} {k : Nat} (h : SoonP (fun x => Fst hs c ns st k q x ∨ x = en c st.toNat k + wrd ns q.1.toNat) v) (hy : k < hs.length ∧ en c st.toNat k ≠ -1 ∧ q.2 ∈ hs.getD k []) : SoonP (Fst hs c ns st (k + 1) q) v :=
  h.congr fun e => ⟨fun q' => q'.elim (fun ⟨s, h1, h2⟩ => ⟨s, by omega, h2⟩) fun h => ⟨k, by omega, hy.1, hy.2.1, hy.2.2, h⟩, fun ⟨s, h1, h2, h3, h4, h5⟩ => by
    by_cases d : s = k
    · subst d; exact .inr h5
    · exact .inl ⟨s, by omega, h2, h3, h4, h5⟩⟩
theorem word_rng (h : BtOK ws hs H st ns) {n : Nat} (hn : n < ns.length) : 1 ≤ wrd ns n ∧ wrd ns n ≤ 5 := (h.note _ (getD_mem (d := ([], 0, 0)) hn)).2.1
theorem first_l1 (h : BtOK ws hs H st ns) (hc : CrOK hs ns c ps hit) {q : Int × Int} (hq : 0 ≤ q.1 ∧ q.1 < (ns.length : Int)) : ∀ (tl : List (List Int)) (k : Nat) (out : Int), hs.drop k = tl → SoonP (Fst hs c ns st k q) out → ∃ v, round_crier_first_l1 st ns c q.1 q.2 tl (k : Int) out = some v ∧ SoonP (Fst hs c ns st hs.length q) v
  | [], k, out, hd, ho => by
    have hl : hs.length ≤ k := by
      have := congrArg List.length hd
      rw [List.length_drop, List.length_nil] at this; omega
    exact ⟨out, rfl, fst_all hl ho⟩
  | x :: tl, k, out, hd, ho => by
    obtain ⟨hk, hx, hd2⟩ := drop_cons [] hd
    have h5 := h.hs1.2
    have hst := h.hst
    have hw := word_rng h (n := q.1.toNat) (by omega)
    have hr := hc.fin.rng st.toNat k (by omega) (by omega)
    have ex : ∀ {β : Type} (f : Int → Option β), ix c (st * 5 + (k : Int)) f = f (en c st.toNat k) := fun f => by
      have q := ixE (w := c) hc.fin.len (i := st.toNat) (k := k) (by omega) (by omega) f
      rwa [show ((st.toNat : Nat) : Int) = st by omega] at q
    unfold round_crier_first_l1
    rw [gd_t (by omega), gd_t (by omega), ex]
    by_cases e : en c st.toNat k = -1
    · rw [if_neg (not_not_intro e), b1_some, if_neg (by decide)]
      exact first_l1 h hc hq tl (k + 1) out hd2 (Fst.step ho fun q => q.2.1 e)
    · rw [if_pos e, contains_eq, b1_some, b1_some]
      by_cases m : q.2 ∈ x
      · obtain ⟨v, e1, h1⟩ := ho.add (e := en c st.toNat k + wrd ns q.1.toNat) (by omega)
        rw [if_pos (decide_eq_true m), ixD ([], 0, 0) _ hq.1 hq.2]
        show ∃ v, gd (R64 (en c st.toNat k + wrd ns q.1.toNat)) _ = some v ∧ _
        have e1' : round_soonest [out, en c st.toNat k + (ns.getD q.1.toNat ([], 0, 0)).2.1] = some v := e1
        rw [gd_t (r64_small' (by omega)), e1', b1_some]
        exact first_l1 h hc hq tl (k + 1) v hd2 (Fst.add h1 ⟨hk, e, by rw [hx]; exact m⟩)
      · rw [if_neg (by simpa using m)]
        exact first_l1 h hc hq tl (k + 1) out hd2 (Fst.step ho fun q => m (by rw [← hx]; exact q.2.2))
theorem first_eq (h : BtOK ws hs H st ns) (hc : CrOK hs ns c ps hit) {q : Int × Int} (hq : 0 ≤ q.1 ∧ q.1 < (ns.length : Int)) : ∃ v, round_crier_first ws hs H st ns c ps hit q.1 q.2 = some v ∧ SoonP (Fst hs c ns st hs.length q) v := by
  obtain ⟨v, e, h1⟩ := first_l1 h hc hq hs 0 (-1) rfl Fst.zero
  have e' : round_crier_first_l1 st ns c q.1 q.2 hs 0 (-1) = some v := e
  refine ⟨v, ?_, h1⟩
  unfold round_crier_first
  rw [e', b1_some]
theorem Fst.pos (h : BtOK ws hs H st ns) (hc : CrOK hs ns c ps hit) {q : Int × Int} (hq : 0 ≤ q.1 ∧ q.1 < (ns.length : Int)) {k : Nat} {e : Int} (hf : Fst hs c ns st k q e) : 0 ≤ e := by
  obtain ⟨s, _, h1, h2, _, rfl⟩ := hf
  have h5 := h.hs1.2
  have hst := h.hst
  have hr := hc.fin.rng st.toNat s (by omega) (by omega)
  have := word_rng h (n := q.1.toNat) (by omega)
  omega
theorem Pth.none {S : Nat} {start : Int} {v0 : Nat} {l : List (Int × Int)} {s : Int} {v : Nat} {t : Int} (h : Pth c ns hit bd S start v0 l s v t) (hl : l = []) : s = start ∧ v = v0 ∧ t = 0 := by
  cases h with
  | nil => exact ⟨rfl, rfl, rfl⟩
  | snoc h _ _ _ _ _ => simp at hl
theorem Pth.one {S : Nat} {start : Int} {v0 : Nat} {l : List (Int × Int)} {s : Int} {v : Nat} {t : Int} (h : Pth c ns hit bd S start v0 l s v t) (hl : l.length ≤ 1) (hv : v ≠ v0) : ∃ s n : Nat, s < S ∧ n < ns.length ∧ Val c ns bd 0 start.toNat s n ∧ v = dif v0 (hb hit s n) := by
  cases h with
  | nil => exact absurd rfl hv
  | @snoc l k v s n t h hk hs hn hne hval =>
    obtain ⟨h1, h2, h3⟩ := h.none (List.eq_nil_of_length_eq_zero (by simpa using hl))
    subst h2 h3
    have hk' : k = start.toNat := by omega
    rw [hk'] at hval
    exact ⟨s, n, hs, hn, hval, rfl⟩
theorem cnt_one : ∀ i, i < 9 → cnt (2 ^ i) ≤ 1 := by decide
theorem can_one (h : BtOK ws hs H st ns) (hc : CrOK hs ns c ps hit) {i : Nat} (hi : i < ps.length) : Can c ns hit hs st (bdL ns 200) (2 ^ i) ↔ ∃ e, Fst hs c ns st hs.length (ps.getD i (0, 0)) e ∧ e ≤ (ns.getD (ps.getD i (0, 0)).1.toNat ([], 0, 0)).2.2 := by
  have h5 := h.hs1.2
  have h3 := h.hn
  have h9 := hc.nine h
  have hst := h.hst
  have hrg := PrsOK.rng h hc (getD_mem (d := (0, 0)) hi)
  have hpow : (2 : Nat) ^ i < 2 ^ ps.length := Nat.pow_lt_pow_right (by decide) hi
  have hpn := pow_nine h9
  have h2i : (2 : Nat) ^ i ≠ 0 := Nat.ne_of_gt (Nat.pow_pos (by decide))
  rw [can_iff h hc]
  constructor
  · rintro ⟨l, t, s, hp⟩
    have hfew := hp.few (by omega)
    have := cnt_one i (by omega)
    obtain ⟨s, n, h1, h2, ⟨h4, h4'⟩, h6⟩ := hp.one (by omega) (fun e => h2i e.symm)
    have hb6 := (hc.hit.hb (s := s) (n := n) (by omega) (by omega)).2.2 i
    rw [dif_zero.1 h6.symm i (by rw [Nat.testBit_two_pow]; simp)] at hb6
    unfold QP at hb6
    have hb7 := hb6.symm
    simp only [Bool.and_eq_true_iff, decide_eq_true_iff] at hb7
    obtain ⟨⟨⟨_, q1⟩, q2⟩, q3⟩ := hb7
    rw [bdL_hour h h2] at h4'
    refine ⟨_, ⟨s, h1, h1, h4, q3, rfl⟩, ?_⟩
    rw [q1, Int.toNat_natCast]; omega
  · rintro ⟨e, ⟨s, h1, _, h2, h4, rfl⟩, h6⟩
    have hn : (ps.getD i (0, 0)).1.toNat < ns.length := by omega
    have hd : dif (2 ^ i) (hb hit s (ps.getD i (0, 0)).1.toNat) = 0 := dif_zero.2 fun j hj => by
      rw [Nat.testBit_two_pow, decide_eq_true_iff] at hj
      subst hj
      rw [(hc.hit.hb (s := s) (n := (ps.getD i (0, 0)).1.toNat) (by omega) (by omega)).2.2 i]
      unfold QP
      simp only [Bool.and_eq_true_iff, decide_eq_true_iff]
      exact ⟨⟨⟨hi, by omega⟩, h1⟩, h4⟩
    have hp : Pth c ns hit (bdL ns 200) hs.length st (2 ^ i) [] ((st.toNat : Nat) : Int) (2 ^ i) 0 := by
      rw [show ((st.toNat : Nat) : Int) = st by omega]; exact .nil
    have hp' := Pth.snoc hp (by omega) h1 hn (by rw [hd]; exact fun e => h2i e.symm) ⟨h2, by rw [bdL_hour h hn]; omega⟩
    rw [hd] at hp'
    exact ⟨_, _, _, hp'⟩
/-- A pair is lost. -/
def lsB (ws hs : List (List Int)) (H st : Int) (ns : List (List Int × Int × Int)) (c : List Int) (ps : List (Int × Int)) (hit : List Int) (q : Int × Int) : Bool := match round_crier_first ws hs H st ns c ps hit q.1 q.2 with | some v => !decide (0 ≤ v ∧ v ≤ (ns.getD q.1.toNat ([], 0, 0)).2.2) | none => false
theorem lost_l1 (h : BtOK ws hs H st ns) (hc : CrOK hs ns c ps hit) : ∀ (tl out : List (Int × Int)), (∀ q ∈ tl, q ∈ ps) → out.length + tl.length ≤ 1000 → round_Lost_l1 ns ws hs H st ns c ps hit tl out = some (out ++ tl.filter (lsB ws hs H st ns c ps hit))
  | [], out, _, _ => by simp [round_Lost_l1]
  | q :: tl, out, hq, hl => by
    simp only [List.length_cons] at hl
    have hr := PrsOK.rng h hc (hq q (by simp))
    obtain ⟨v, e1, h1⟩ := first_eq h hc hr.1
    have hq2 : ∀ z ∈ tl, z ∈ ps := fun z hz => hq z (by simp [hz])
    have hb : lsB ws hs H st ns c ps hit q = !decide (0 ≤ v ∧ v ≤ (ns.getD q.1.toNat ([], 0, 0)).2.2) := by unfold lsB; rw [e1]
    unfold round_Lost_l1
    rw [e1, b1_some, ixD ([], 0, 0) _ hr.1.1 hr.1.2, in_eq, b1_some, ← hb, List.filter_cons]
    cases hm : lsB ws hs H st ns c ps hit q with
    | true =>
      rw [if_pos rfl, if_pos rfl, ap_t (by simp; omega), lost_l1 h hc tl _ hq2 (by simp; omega), List.append_assoc]; rfl
    | false =>
      rw [if_neg (by decide), if_neg (by decide), lost_l1 h hc tl _ hq2 (by omega)]
theorem Lost_eq (h : BtOK ws hs H st ns) (e : round_opened ws hs H st ns = some (some (ws, hs, H, st, ns, c, ps, hit), 0)) (hc : CrOK hs ns c ps hit) : round_Lost ws hs H st ns = some (ps.filter (lsB ws hs H st ns c ps hit), 0) := by
  have h9 := hc.nine h
  unfold round_Lost
  rw [e, b2_some, if_neg (by decide), b8_some, lost_l1 h hc ps [] (fun q hq => hq) (by simp; omega), b1_some, List.nil_append]
theorem ls_iff (h : BtOK ws hs H st ns) (hc : CrOK hs ns c ps hit) (hD : ∀ v, D v = true ↔ Can c ns hit hs st (bdL ns 200) v) {i : Nat} (hi : i < ps.length) : lsB ws hs H st ns c ps hit (ps.getD i (0, 0)) = !D (2 ^ i) := by
  have hr := PrsOK.rng h hc (getD_mem (d := (0, 0)) hi)
  obtain ⟨v, e1, h1⟩ := first_eq h hc hr.1
  unfold lsB
  rw [e1]
  show (!decide (0 ≤ v ∧ v ≤ _)) = !D (2 ^ i)
  congr 1
  rw [Bool.eq_iff_iff, decide_eq_true_iff, hD, can_one h hc hi]
  exact h1.le fun e he => Fst.pos h hc hr.1 he
theorem Pairs_eq (h : BtOK ws hs H st ns) (e : round_opened ws hs H st ns = some (some (ws, hs, H, st, ns, c, ps, hit), 0)) (hc : CrOK hs ns c ps hit) : round_Pairs ws hs H st ns = some (ps, 0) := by
  have h9 := hc.nine h
  unfold round_Pairs
  rw [e, b2_some, if_neg (by decide), b8_some, cloneP_eq ps (by omega), b1_some]
theorem Soonest_eq (h : BtOK ws hs H st ns) (e : round_opened ws hs H st ns = some (some (ws, hs, H, st, ns, c, ps, hit), 0)) (hc : CrOK hs ns c ps hit) {i : Nat} (hi : i < ps.length) : ∃ v, SoonP (Fst hs c ns st hs.length (ps.getD i (0, 0))) v ∧ round_Soonest ws hs H st ns (ps.getD i (0, 0)).1 (ps.getD i (0, 0)).2 = some (if v = -1 then (0, 6) else (v, 0)) := by
  have hr := PrsOK.rng h hc (getD_mem (d := (0, 0)) hi)
  obtain ⟨v, e1, h1⟩ := first_eq h hc hr.1
  refine ⟨v, h1, ?_⟩
  unfold round_Soonest
  rw [e, b2_some, if_neg (by decide), b8_some, index_eq hc.prs.nodup hi, b1_some, if_neg (by omega), e1, b1_some]
  by_cases c : v = -1
  · rw [if_pos c, if_pos c]
  · rw [if_neg c, if_neg c]
theorem Walk_eq (h : BtOK ws hs H st ns) (e : round_opened ws hs H st ns = some (some (ws, hs, H, st, ns, c, ps, hit), 0)) (hc : CrOK hs ns c ps hit) {s : Nat} (hs' : s < hs.length) : round_Walk ws hs H st ns st (s : Int) = some (if en c st.toNat s = -1 then (0, 6) else (en c st.toNat s, 0)) := by
  have h5 := h.hs1.2
  have hst := h.hst
  have ex : ∀ {β : Type} (f : Int → Option β), ix c (st * 5 + (s : Int)) f = f (en c st.toNat s) := fun f => by
    have q := ixE (w := c) hc.fin.len (i := st.toNat) (k := s) (by omega) (by omega) f
    rwa [show ((st.toNat : Nat) : Int) = st by omega] at q
  unfold round_Walk
  rw [e, b2_some, if_neg (by decide), stand_eq h, b1_some, decide_eq_true hst, if_neg (by decide), stand_eq h, b1_some, decide_eq_true (by omega), b1_some, if_neg (by decide), b8_some, gd_t (by omega), gd_t (by omega), ex]
  by_cases d : en c st.toNat s = -1
  · rw [if_pos d, if_pos d]
  · rw [if_neg d, if_neg d, gd_t (by omega), gd_t (by omega)]
theorem Ends_one (h : BtOK ws hs H st ns) (e : round_opened ws hs H st ns = some (some (ws, hs, H, st, ns, c, ps, hit), 0)) (hc : CrOK hs ns c ps hit) {s : Nat} (hs' : s < hs.length) {n : Int} (hn : 0 ≤ n ∧ n < (ns.length : Int)) : round_Ends ws hs H st ns [((s : Int), n)] = some (if en c st.toNat s = -1 then ([], 6) else ([en c st.toNat s + wrd ns n.toNat], 0)) := by
  rw [Ends_eq h e hc (fun x hx => by
    rw [List.mem_singleton.1 hx]
    exact ⟨⟨by show 0 ≤ (s : Int); omega, by show (s : Int) < _; omega⟩, hn⟩) (by simp)]
  have he : endsF c ns st 0 [((s : Int), n)] = if en c st.toNat s = -1 then none else some [0 + en c st.toNat s + wrd ns n.toNat] := by
    simp only [endsF, Int.toNat_natCast, Option.map_some]
  rw [he]
  by_cases d : en c st.toNat s = -1
  · rw [if_pos d, if_pos d]
  · rw [if_neg d, if_neg d, Int.zero_add]
theorem lostLaw_l5 (h : BtOK ws hs H st ns) (e : round_opened ws hs H st ns = some (some (ws, hs, H, st, ns, c, ps, hit), 0)) (hc : CrOK hs ns c ps hit) {x : Int × Int} (hx : 0 ≤ x.1 ∧ x.1 < (ns.length : Int)) {n5 n6 v : Int} (hv : SoonP (Fst hs c ns st hs.length x) v) (h56 : (n5, n6) = if v = -1 then (0, 6) else (v, 0)) {rec2 : Option Bool} : ∀ (tl : List (List Int)) (k : Nat) (soon : Int), hs.drop k = tl → SoonP (Fst hs c ns st k x) soon → oyezlaw03_RoundLost_l5 ws hs H st ns x n5 n6 rec2 tl (k : Int) soon = rec2
  | [], k, soon, hd, ho => by
    have hl : hs.length ≤ k := by
      have := congrArg List.length hd
      rw [List.length_drop, List.length_nil] at this; omega
    have hsv := (fst_all hl ho).unique hv
    subst hsv
    unfold oyezlaw03_RoundLost_l5 oyezlaw03_RoundLost_j4 oyezlaw03_RoundLost_j3
    by_cases d : soon = -1
    · rw [if_pos d] at h56
      obtain ⟨rfl, rfl⟩ := Prod.mk.inj h56
      rw [decide_eq_false (by omega), decide_eq_false (by decide), if_neg (by decide), if_neg (by decide), b1_some, if_neg (by decide)]
    · rw [if_neg d] at h56
      obtain ⟨rfl, rfl⟩ := Prod.mk.inj h56
      have h0 : 0 ≤ n5 := by
        rcases ho with q | q
        · exact absurd q.1 d
        · exact q.2.1
      rw [decide_eq_true h0, decide_eq_true rfl, if_neg (by decide), if_pos rfl, decide_eq_false (by simp), b1_some, if_neg (by decide)]
  | y :: tl, k, soon, hd, ho => by
    obtain ⟨hk, hy, hd2⟩ := drop_cons [] hd
    have hst := h.hst
    have h5 := h.hs1.2
    have hw := word_rng h (n := x.1.toNat) (by omega)
    have hr := hc.fin.rng st.toNat k (by omega) (by omega)
    unfold oyezlaw03_RoundLost_l5
    rw [Walk_eq h e hc hk, Ends_one h e hc hk hx]
    by_cases d : en c st.toNat k = -1
    · rw [if_pos d, if_pos d, b2_some, b2_some, decide_eq_false (by decide), if_neg (by decide), if_neg (by decide), b1_some, if_neg (by decide), if_neg (by decide), b1_some, if_neg (by decide)]
      exact lostLaw_l5 h e hc hx hv h56 tl (k + 1) soon hd2 (Fst.step ho fun q => q.2.1 d)
    · have hx4 : ∀ {β : Type} (f : Int → Option β), ix [en c st.toNat k + wrd ns x.1.toNat] 0 f = f (en c st.toNat k + wrd ns x.1.toNat) := fun f => ixI (i := 0) f (by simp)
      rw [if_neg d, if_neg d, b2_some, b2_some, decide_eq_true rfl, if_neg (by decide), if_pos rfl, if_neg (by simp), hx4, ixD ([], 0, 0) _ hx.1 hx.2]
      have hg : (b1 (gd (R64 (en c st.toNat k + (ns.getD x.1.toNat ([], 0, 0)).2.1)) (some (decide (en c st.toNat k + wrd ns x.1.toNat ≠ en c st.toNat k + (ns.getD x.1.toNat ([], 0, 0)).2.1)))) : (Bool → Option Bool) → Option Bool) = fun f => f false := by
        funext f
        have : wrd ns x.1.toNat = (ns.getD x.1.toNat ([], 0, 0)).2.1 := rfl
        rw [← this, gd_t (r64_small' (by omega)), decide_eq_false (by simp), b1_some]
      rw [hg]
      dsimp only
      rw [if_neg (by decide), if_pos rfl, contains_eq, b1_some]
      by_cases m : x.2 ∈ y
      · have hm' : k < hs.length ∧ en c st.toNat k ≠ -1 ∧ x.2 ∈ hs.getD k [] := ⟨hk, d, by rw [hy]; exact m⟩
        rw [if_pos (decide_eq_true m)]
        have hnew : ∀ {b : Bool}, b = true → (soon < 0 ∨ en c st.toNat k + wrd ns x.1.toNat < soon) → SoonP (Fst hs c ns st (k + 1) x) (en c st.toNat k + wrd ns x.1.toNat) := fun _ hlt => Fst.add (.inr ⟨.inr rfl, by omega, fun z hz => by
          rcases hz with hz | hz
          · rcases ho with ⟨q1, q2⟩ | ⟨q1, q2, q3⟩
            · exact absurd hz (q2 z)
            · have := q3 z hz; omega
          · omega⟩) hm'
        by_cases g : soon < 0
        · rw [if_pos g, b1_some, if_pos rfl, hx4]
          exact lostLaw_l5 h e hc hx hv h56 tl (k + 1) _ hd2 (hnew (b := true) rfl (.inl g))
        · rw [if_neg g, hx4, b1_some]
          by_cases g2 : en c st.toNat k + wrd ns x.1.toNat < soon
          · rw [if_pos (decide_eq_true g2), hx4]
            exact lostLaw_l5 h e hc hx hv h56 tl (k + 1) _ hd2 (hnew (b := true) rfl (.inr g2))
          · rw [if_neg (by simpa using g2)]
            refine lostLaw_l5 h e hc hx hv h56 tl (k + 1) soon hd2 (Fst.add ?_ hm')
            rcases ho with ⟨q1, q2⟩ | ⟨q1, q2, q3⟩
            · omega
            · exact .inr ⟨.inl q1, q2, fun z hz => by
                rcases hz with hz | hz
                · exact q3 z hz
                · omega⟩
      · rw [if_neg (by simpa using m), b1_some, if_neg (by decide)]
        exact lostLaw_l5 h e hc hx hv h56 tl (k + 1) soon hd2 (Fst.step ho fun q => m (by rw [← hy]; exact q.2.2))
theorem lostLaw_l7 (h : BtOK ws hs H st ns) (hc : CrOK hs ns c ps hit) {L : List (List Int)} {P : Nat → Nat → Int → Prop} (hT : Tab ns.length H.toNat P L) : ∀ (tl : List (Int × Int)), (∀ q ∈ tl, q ∈ ps) → oyezlaw03_RoundLost_l7 H ns L (ps.filter (mss ns L)) tl = some true
  | [], _ => by
    unfold oyezlaw03_RoundLost_l7 oyezlaw03_RoundLost_j6
    rw [awake_eq, b1_some]
  | q :: tl, hq => by
    have hqp := hq q (by simp)
    have hr := PrsOK.rng h hc hqp
    have hrow := hT.row q.1.toNat (by omega)
    have hlen := hT.len
    have hval := hT.val q.1.toNat q.2.toNat (by omega) (by omega)
    have hcon : decide (((q.1, q.2) : Int × Int) ∈ ps.filter (mss ns L)) = mss ns L q := by
      rw [Bool.eq_iff_iff, decide_eq_true_iff, List.mem_filter]
      exact ⟨fun z => z.2, fun z => ⟨hqp, z⟩⟩
    unfold oyezlaw03_RoundLost_l7
    rw [ixD [] _ hr.1.1 (by omega), if_neg (by omega), ixD 0 _ hr.2.1 (by omega), containsP_eq, hcon, b1_some]
    generalize hw : (L.getD q.1.toNat []).getD q.2.toNat 0 = w at hval
    have hms : mss ns L q = !decide (0 ≤ w ∧ w ≤ (ns.getD q.1.toNat ([], 0, 0)).2.2) := by unfold mss; rw [hw]
    have key : (if w = -1 then some (decide (mss ns L q ≠ true)) else ix ns q.1 fun x13 => some (decide (mss ns L q ≠ (decide (x13.2.2 < w))))) = some false := by
      rw [hms]
      by_cases d : w = -1
      · rw [if_pos d, decide_eq_false (show ¬ (0 ≤ w ∧ w ≤ _) by omega)]; rfl
      · have h0 : 0 ≤ w := by
          rcases hval with z | z
          · exact absurd z.1 d
          · exact z.2.1
        rw [if_neg d, ixD ([], 0, 0) _ hr.1.1 hr.1.2]
        by_cases g : w ≤ (ns.getD q.1.toNat ([], 0, 0)).2.2
        · rw [decide_eq_true (show 0 ≤ w ∧ w ≤ _ from ⟨h0, g⟩), decide_eq_false (show ¬ (ns.getD q.1.toNat ([], 0, 0)).2.2 < w by omega)]; rfl
        · rw [decide_eq_false (show ¬ (0 ≤ w ∧ w ≤ (ns.getD q.1.toNat ([], 0, 0)).2.2) from fun z => g z.2), decide_eq_true (show (ns.getD q.1.toNat ([], 0, 0)).2.2 < w by omega)]; rfl
    rw [key, b1_some, if_neg (by decide)]
    exact lostLaw_l7 h hc hT tl fun z hz => hq z (by simp [hz])
theorem filter_head {F : Int × Int → Bool} {j : Nat} (hj : j < ps.length) (h1 : F (ps.getD j (0, 0)) = true) (h2 : ∀ i, i < j → F (ps.getD i (0, 0)) = false) : ∃ tl, ps.filter F = ps.getD j (0, 0) :: tl := by
  have e : ps = ps.take j ++ ps.getD j (0, 0) :: ps.drop (j + 1) := by
    have := List.drop_eq_getElem_cons hj
    rw [List.getD_eq_getElem?_getD, List.getElem?_eq_getElem hj, Option.getD_some, ← this, List.take_append_drop]
  have e2 : (ps.take j).filter F = [] := by
    rw [List.filter_eq_nil_iff]
    intro q hq
    obtain ⟨i, hi, rfl⟩ := List.getElem_of_mem hq
    rw [List.length_take] at hi
    have := h2 i (by omega)
    rw [List.getD_eq_getElem?_getD, List.getElem?_eq_getElem (by omega), Option.getD_some] at this
    rw [List.getElem_take, this]; decide
  refine ⟨(ps.drop (j + 1)).filter F, ?_⟩
  have e3 := congrArg (List.filter F) e
  rw [List.filter_append, e2, List.nil_append, List.filter_cons, if_pos h1] at e3
  exact e3
theorem lostLaw_j1 {tries : List Int} (hm : (tries.length : Int) ≤ 9223372036854775807) (h : BtOK ws hs H st ns) (e : round_opened ws hs H st ns = some (some (ws, hs, H, st, ns, c, ps, hit), 0)) (hc : CrOK hs ns c ps hit) (hD : ∀ v, D v = true ↔ Can c ns hit hs st (bdL ns 200) v) : oyezlaw03_RoundLost_j1 tries ws hs H st ns (ps.filter (lsB ws hs H st ns c ps hit)) ps = some true := by
  have hx : round_Excludes ws hs H st ns = b2 (round_Before ws hs H st ns 200) fun l n => some (l, n) := rfl
  have key : b2 (round_Excludes ws hs H st ns) (fun l7 n11 => if 0 < ((ps.filter (lsB ws hs H st ns c ps hit)).length : Int) then (if n11 ≠ 0 then some true else (if (l7.length : Int) ≠ 1 then some true else (ix l7 0 fun x8 => ix (ps.filter (lsB ws hs H st ns c ps hit)) 0 fun x9 => some (decide (¬ (x8.1 = x9.1 ∧ x8.2 = x9.2)))))) else some false) = some false := by
    rw [hx]
    by_cases hz : 0 < (ps.filter (lsB ws hs H st ns c ps hit)).length
    · obtain ⟨q, hq⟩ := List.exists_mem_of_length_pos hz
      obtain ⟨hq1, hq2⟩ := List.mem_filter.1 hq
      obtain ⟨i, hi, rfl⟩ := List.getElem_of_mem hq1
      have hgi : ps.getD i (0, 0) = ps[i] := by rw [List.getD_eq_getElem?_getD, List.getElem?_eq_getElem hi]; rfl
      rw [← hgi, ls_iff h hc hD hi] at hq2
      have hi2 : D (2 ^ i) = false := by simpa using hq2
      have hall : D (2 ^ ps.length - 1) = false := by
        cases hd : D (2 ^ ps.length - 1) with
        | false => rfl
        | true =>
          have := (hD (2 ^ i)).2 (((hD _).1 hd).mono (fun _ _ => Int.le_refl _) fun p hp => by
            rw [Nat.testBit_two_pow, decide_eq_true_iff] at hp
            rw [Nat.testBit_two_pow_sub_one, decide_eq_true_iff]; omega)
          rw [hi2] at this; cases this
      have s1 : ∀ j, setL [j] 0 = 2 ^ j := fun j => by show 0 ||| 2 ^ j = 2 ^ j; rw [Nat.zero_or]
      have u1 : ∀ j, j < ps.length → Up ps.length 0 [j] := fun j hj => Up.cons.2 ⟨⟨Nat.zero_le _, hj⟩, Up.nil ..⟩
      rcases Before_eq h e hc (m := 200) (by omega) hD with ⟨h1, _⟩ | ⟨_, T, hT, hTD, hmin, ex⟩
      · rw [hall] at h1; cases h1
      · have hne : T.length ≠ 0 := fun h0 => by
          rw [List.eq_nil_of_length_eq_zero h0] at hTD
          have := (hD 0).2 Can.zero
          rw [show setL [] 0 = 0 from rfl, this] at hTD; cases hTD
        have hT1 : T.length = 1 := by
          rcases hmin [i] (u1 i hi) (by rw [s1]; exact hi2) with q | q
          · rw [List.length_singleton] at q; omega
          · simpa using q.1
        match T, hT1 with
        | [j], _ =>
          have hj := (hT.2 j (by simp)).2
          rw [s1] at hTD
          obtain ⟨tl, hf⟩ := filter_head (F := lsB ws hs H st ns c ps hit) hj (by rw [ls_iff h hc hD hj, hTD]; rfl) (fun k hk => by
            rw [ls_iff h hc hD (by omega)]
            cases hd : D (2 ^ k) with
            | true => rfl
            | false =>
              rcases hmin [k] (u1 k (by omega)) (by rw [s1]; exact hd) with q | q
              · simp at q
              · rcases q.2 with z | z
                · omega
                · omega)
          rw [ex, b2_some, b2_some, if_pos (by omega), if_neg (by decide), if_neg (by rw [selP_len]; simp), hf]
          show some (decide (¬ ((ps.getD j (0, 0)).1 = (ps.getD j (0, 0)).1 ∧ (ps.getD j (0, 0)).2 = (ps.getD j (0, 0)).2))) = some false
          rw [decide_eq_false (by simp)]
    · rcases Before_eq h e hc (m := 200) (by omega) hD with ⟨_, ex⟩ | ⟨_, T, _, _, _, ex⟩
      · rw [ex, b2_some, b2_some, if_neg (by omega)]
      · rw [ex, b2_some, b2_some, if_neg (by omega)]
  have key2 : ∃ l7 n11, round_Excludes ws hs H st ns = some (l7, n11) := by
    rcases Before_eq h e hc (m := 200) (by omega) hD with ⟨_, ex⟩ | ⟨_, T, _, _, _, ex⟩ <;> exact ⟨_, _, by rw [hx, ex, b2_some]⟩
  obtain ⟨l7, n11, e7⟩ := key2
  rw [e7, b2_some] at key
  obtain ⟨l, a', t', e1, h1, h2, h3⟩ := cries_ok (t := 0) hm h (a := 0) ⟨by omega, by omega⟩ (n := 7) (by omega)
  unfold oyezlaw03_RoundLost_j1
  rw [e7, b2_some, key, b1_some, if_neg (by decide)]
  unfold oyezkit_Hang
  rw [b3_some, e1, b3_some]
  rcases Heard_eq h e hc h2 h3 with ⟨g1, g2⟩ | ⟨es, L, g1, g2, g3, g4, g5⟩
  · have h6 : round_Missed ws hs H st ns l = some ([], 6) := by
      unfold round_Missed; rw [g2, b2_some, if_pos (by decide)]
    rw [g2, b2_some, h6, b2_some, if_neg (by decide), if_pos (by decide), decide_eq_false (by decide), b1_some, if_neg (by decide), if_pos (by decide), awake_eq, b1_some]
  · rw [g2, b2_some, Missed_eq h e hc g2 g3, b2_some, if_neg (by decide), if_neg (by decide), b1_some, if_neg (by decide), if_neg (by decide), if_neg (by rw [g3.len]; simp)]
    exact lostLaw_l7 h hc g3 ps fun q hq => hq
theorem lostLaw_l2 {tries : List Int} (h : BtOK ws hs H st ns) (e : round_opened ws hs H st ns = some (some (ws, hs, H, st, ns, c, ps, hit), 0)) (hc : CrOK hs ns c ps hit) (hD : ∀ v, D v = true ↔ Can c ns hit hs st (bdL ns 200) v) (hend : oyezlaw03_RoundLost_j1 tries ws hs H st ns (ps.filter (lsB ws hs H st ns c ps hit)) ps = some true) : ∀ (tl : List (Int × Int)) (k : Nat), ps.drop k = tl → oyezlaw03_RoundLost_l2 tries ws hs H st ns (ps.filter (lsB ws hs H st ns c ps hit)) ps tl = some true
  | [], k, _ => by unfold oyezlaw03_RoundLost_l2; exact hend
  | q :: tl, k, hd => by
    obtain ⟨hk, hq, hd2⟩ := drop_cons (0, 0) hd
    have ih := lostLaw_l2 h e hc hD hend tl (k + 1) hd2
    have hqp : q ∈ ps := by rw [← hq]; exact getD_mem hk
    have hr := PrsOK.rng h hc hqp
    obtain ⟨v, hv, es⟩ := Soonest_eq h e hc hk
    have hl := ls_iff h hc hD hk
    have hone := can_one h hc hk
    rw [hq] at hv es hl hone
    have et : round_Together ws hs H st ns [(q.1, q.2)] = some (D (2 ^ k), 0) := by
      have := Together_eq h e hc hD (T := [k]) (by simp) (by simpa using hk)
      rw [show setL [k] 0 = 2 ^ k from by show 0 ||| 2 ^ k = 2 ^ k; rw [Nat.zero_or]] at this
      rw [← this]
      show _ = round_Together ws hs H st ns [ps.getD k (0, 0)]
      rw [hq]
    have hcon : decide (((q.1, q.2) : Int × Int) ∈ ps.filter (lsB ws hs H st ns c ps hit)) = !D (2 ^ k) := by
      rw [← hl, Bool.eq_iff_iff, decide_eq_true_iff, List.mem_filter]
      exact ⟨fun z => z.2, fun z => ⟨hqp, z⟩⟩
    unfold oyezlaw03_RoundLost_l2
    rw [if_neg (by omega), if_neg (by omega), if_neg (by omega), decide_eq_false (by omega), b1_some, if_neg (by decide), es]
    obtain ⟨n5, n6, h56⟩ : ∃ n5 n6, (n5, n6) = if v = -1 then ((0 : Int), (6 : Int)) else (v, 0) := ⟨_, _, rfl⟩
    rw [← h56, b2_some, et, b2_some, if_neg (by decide), containsP_eq, hcon, b1_some]
    have key : (if D (2 ^ k) = !D (2 ^ k) then some true else (if D (2 ^ k) = true then (if n6 ≠ 0 then some true else (ix ns q.1 fun x2 => if x2.2.2 < n5 then some true else some false)) else (if n6 ≠ 0 then some (decide (n6 ≠ 6)) else some false))) = some false := by
      have hle := hv.le (b := (ns.getD q.1.toNat ([], 0, 0)).2.2) fun e he => Fst.pos h hc hr.1 he
      cases hd : D (2 ^ k) with
      | true =>
        have hv2 := hle.2 (hone.1 ((hD _).1 hd))
        rw [if_neg (by omega)] at h56
        obtain ⟨rfl, rfl⟩ := Prod.mk.inj h56
        rw [if_neg (by decide), if_pos rfl, if_neg (by decide), ixD ([], 0, 0) _ hr.1.1 hr.1.2, if_neg (by omega)]
      | false =>
        rw [if_neg (by decide), if_neg (by decide)]
        by_cases d : v = -1
        · rw [if_pos d] at h56
          obtain ⟨rfl, rfl⟩ := Prod.mk.inj h56
          rfl
        · rw [if_neg d] at h56
          obtain ⟨rfl, rfl⟩ := Prod.mk.inj h56
          rfl
    rw [key, b1_some, if_neg (by decide)]
    have e5 := lostLaw_l5 h e hc hr.1 hv h56 (rec2 := oyezlaw03_RoundLost_l2 tries ws hs H st ns (ps.filter (lsB ws hs H st ns c ps hit)) ps tl) hs 0 (-1) rfl Fst.zero
    rw [← ih]
    exact e5
theorem lost_true {numbers tries : List Int} (hm : (numbers.length : Int) ≤ 9223372036854775807) (hm2 : (tries.length : Int) ≤ 9223372036854775807) : oyezlaw03_RoundLost numbers tries = some true := by
  unfold oyezlaw03_RoundLost oyezkit_Hang
  obtain ⟨ws, hs, H, st, ns, a', t', e1, h, ha, _, _, _⟩ := made_ok (metal := numbers) (a := 0) (t := 0) (S := 5) (H := 4) (N := 3) ⟨by omega, by omega⟩ hm (by omega) (by omega) (by omega)
  obtain ⟨c, ps, hit, e, hc⟩ := opened_eq h
  have hDe : ∃ D : Nat → Bool, ∀ v, D v = true ↔ Can c ns hit hs st (bdL ns 200) v := ⟨fun v => @decide _ (Classical.propDecidable (Can c ns hit hs st (bdL ns 200) v)), fun v => by simp⟩
  obtain ⟨D, hD⟩ := hDe
  rw [b3_some, e1, b7_some, Lost_eq h e hc, b2_some, Pairs_eq h e hc, b2_some, if_neg (by decide), decide_eq_false (by decide), b1_some, if_neg (by decide)]
  exact lostLaw_l2 h e hc hD (lostLaw_j1 hm2 h e hc hD) ps 0 rfl
end
end Go.Proofs.Ytfmapnhfamoecab.Rd
