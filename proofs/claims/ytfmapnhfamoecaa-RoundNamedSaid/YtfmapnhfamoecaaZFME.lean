/- Beats with other hours; in plain Lean. -/
import Derived.Test.YtfmapnhfamoecaaZFMD
namespace Go.Proofs.Ytfmapnhfamoecaa.Rd
open Go.PL Go.Proofs.Ytfmapnhfamoecaa.Rv
structure Lk (ns ns' : List (List Int × Int × Int)) : Prop where
  len : ns'.length = ns.length
  q : ∀ i, (ns'.getD i ([], 0, 0)).1 = (ns.getD i ([], 0, 0)).1
  w : ∀ i, (ns'.getD i ([], 0, 0)).2.1 = (ns.getD i ([], 0, 0)).2.1
theorem Lk.refl (ns : List (List Int × Int × Int)) : Lk ns ns := ⟨rfl, fun _ => rfl, fun _ => rfl⟩
theorem Lk.trans {a b c : List (List Int × Int × Int)} (h : Lk a b) (h2 : Lk b c) : Lk a c := ⟨h2.len.trans h.len, fun i => (h2.q i).trans (h.q i), fun i => (h2.w i).trans (h.w i)⟩
theorem Lk.map {ns ns' : List (List Int × Int × Int)} (h : Lk ns ns') : ns'.map (·.1) = ns.map (·.1) := by
  refine List.ext_getElem (by simp [h.len]) fun i h1 h2 => ?_
  rw [List.length_map] at h1 h2
  have := h.q i
  rw [List.getD_eq_getElem?_getD, List.getD_eq_getElem?_getD, List.getElem?_eq_getElem h1, List.getElem?_eq_getElem h2] at this
  simpa using this
section
variable {ws hs : List (List Int)} {H st : Int} {ns ns' : List (List Int × Int × Int)} {c : List Int} {ps : List (Int × Int)} {hit : List Int} {bd bd' : Nat → Int} {D D' : Nat → Bool} {v : Nat}
theorem opened_inj (h : BtOK ws hs H st ns) (e : round_opened ws hs H st ns = some (some (ws, hs, H, st, ns, c, ps, hit), 0)) : ∃ c0 a, round_opened_l1 ws (Int.toNat (5 - 0)) 0 (List.replicate 25 0) = some c0 ∧ round_walks_through c0 = some a ∧ round_opened_l3 FU c0 a = some c ∧ round_opened_l4 hs ns 0 [] (List.replicate 15 0) = some (ps, hit) := by
  obtain ⟨c0, a, c1, e1, e2, e3, hc⟩ := walks_ok h
  have h0 : PrsOK ns 0 [] := ⟨rfl, List.nodup_nil, fun q => ⟨fun hq => (nomatch hq), fun hq => absurd hq.1 (by omega)⟩⟩
  have hz : Hit (List.replicate 15 0) (QP hs []) := Hit.zero.congr fun s n p _ _ => by unfold QP; simp
  obtain ⟨ps1, hit1, e4, _, _⟩ := open_l4 h ns 0 [] (List.replicate 15 0) rfl h0 (Nat.zero_le _) hz
  have e4' : round_opened_l4 hs ns 0 [] (List.replicate 15 0) = some (ps1, hit1) := e4
  unfold round_opened at e
  rw [Check_eq h, b1_some, if_neg (by decide), gd_t ⟨r64_small (by omega), r64_small (by omega)⟩, e1, b1_some, e2, b1_some, e3, b1_some, e4', b2_some] at e
  simp only [Option.some.injEq, Prod.mk.injEq, and_true, true_and] at e
  obtain ⟨rfl, rfl, rfl⟩ := e
  exact ⟨c0, a, e1, e2, e3, e4'⟩
theorem cloneI_eq (l : List Int) (hl : l.length ≤ 1000) : slices_Clone_int_int l = some l := by
  unfold slices_Clone_int_int nilIf
  by_cases h : l = []
  · rw [if_pos h, h, ap_t (by simp)]; rfl
  · rw [if_neg h, ap_t (by simp; omega), List.nil_append]
theorem cpyR {α : Type} (z : α) (l : List α) : cpy (List.replicate l.length z) l = l := by unfold cpy; simp
theorem nodup_len {l : List Int} {H : Int} (hd : l.Nodup) (hx : ∀ x ∈ l, 0 ≤ x ∧ x < H) (hH : H ≤ 5) : l.length ≤ 1000 := by
  have h := hd.length_le_of_subset (l₂ := [0, 1, 2, 3, 4]) fun x hm => by
    have := hx x hm
    simp only [List.mem_cons, List.not_mem_nil, or_false]
    omega
  have e : ([0, 1, 2, 3, 4] : List Int).length = 5 := rfl
  omega
theorem decider (P : Nat → Prop) : ∃ D : Nat → Bool, ∀ v, D v = true ↔ P v := ⟨fun v => @decide _ (Classical.propDecidable (P v)), fun v => by simp⟩
end
end Go.Proofs.Ytfmapnhfamoecaa.Rd
namespace Go.Proofs.Ytfmapnhfamoecaa.Rd
open Go.PL Go.Proofs.Ytfmapnhfamoecaa.Rv
def toI (c : List Nat) : List Int := c.map fun i : Nat => (i : Int)
def ofB (ps : List (Int × Int)) (l : List Int) : Nat := setL ((List.range ps.length).filter fun i => decide ((ps.getD i (0, 0)).1 ∈ l)) 0
theorem ofB_bit (ps : List (Int × Int)) (l : List Int) (i : Nat) : (ofB ps l).testBit i = decide (i < ps.length ∧ (ps.getD i (0, 0)).1 ∈ l) := by
  unfold ofB
  rw [setL_bit, Nat.zero_testBit, Bool.false_or, decide_eq_decide, List.mem_filter, List.mem_range, decide_eq_true_iff]
theorem ofB_lt (ps : List (Int × Int)) (l : List Int) : ofB ps l < 2 ^ ps.length := setL_lt _ _ (Nat.pow_pos (by decide)) fun i hi => List.mem_range.1 (List.mem_filter.1 hi).1
section
variable {ws hs : List (List Int)} {H st : Int} {ns ns' : List (List Int × Int × Int)} {c : List Int} {ps : List (Int × Int)} {hit : List Int} {bd bd' : Nat → Int} {D D' : Nat → Bool}
theorem of_l1 {l : List Int} : ∀ (tl : List (Int × Int)) (k set : Nat), ps.drop k = tl → k + tl.length ≤ 9 → set < 2 ^ 9 → round_crier_of_l1 l tl (k : Int) (set : Int) = some (setL ((List.range' k tl.length).filter fun i => decide ((ps.getD i (0, 0)).1 ∈ l)) set : Int)
  | [], k, set, _, _, _ => rfl
  | x :: tl, k, set, hd, hk, hs' => by
    obtain ⟨h1, h2, h3⟩ := drop_cons (0, 0) hd
    rw [List.length_cons] at hk
    have hpow : (2 : Nat) ^ k < 2 ^ 9 := Nat.pow_lt_pow_right (by decide) (by omega)
    have h512 : (2 : Nat) ^ 9 = 512 := by decide
    unfold round_crier_of_l1
    rw [contains_eq, b1_some, List.length_cons, List.range'_succ, List.filter_cons, h2]
    by_cases m : x.1 ∈ l
    · rw [if_pos (decide_eq_true m), if_pos (decide_eq_true m), gd_t (shl_r (by omega)), shl_nat, bor_nat (by omega) (by omega)]
      exact of_l1 tl (k + 1) _ h3 (by omega) (Nat.or_lt_two_pow hs' hpow)
    · rw [if_neg (by simpa using m), if_neg (by simpa using m)]
      exact of_l1 tl (k + 1) _ h3 (by omega) hs'
theorem of_eq (h9 : ps.length ≤ 9) (l : List Int) : round_crier_of ws hs H st ns c ps hit l = some (ofB ps l : Int) := by
  have e := of_l1 (ps := ps) (l := l) ps 0 0 rfl (by omega) (by decide)
  have e' : round_crier_of_l1 l ps 0 0 = some (setL ((List.range' 0 ps.length).filter fun i => decide ((ps.getD i (0, 0)).1 ∈ l)) 0 : Int) := e
  unfold round_crier_of ofB
  rw [e', b1_some, List.range_eq_range']
structure MostP (D : Nat → Bool) (ps : List (Int × Int)) (N : Nat) (l : List Int) (f : Nat) (out R : List Int) : Prop where
  ge : out.length ≤ R.length
  src : R = out ∨ ∃ c, Up N f c ∧ R = l ++ toI c ∧ D (ofB ps R) = true
  max : ∀ c, Up N f c → D (ofB ps (l ++ toI c)) = true → (l ++ toI c).length ≤ R.length
theorem toI_cons (l : List Int) (i : Nat) (c : List Nat) : l ++ [(i : Int)] ++ toI c = l ++ toI (i :: c) := by unfold toI; simp
theorem up_wide {n f g : Nat} {T : List Nat} (h : Up n f T) (hg : g ≤ f) : Up n g T := ⟨h.1, fun i hi => by have := h.2 i hi; omega⟩
theorem most_l1 {l : List Int} (hl : l.length ≤ 900) {rec_ : List Int → Int → List (List Int) → List (List Int) → Int → Int → List (List Int × Int × Int) → List Int → List (Int × Int) → List Int → List Int → List (List Int) → List (List Int) → Int → Int → List (List Int × Int × Int) → Option (List Int)} {N : Nat} : ∀ (fu i : Nat) (out : List Int), i + fu = N →
    (∀ (j : Nat) (o : List Int), i ≤ j → j < N → ∃ R, rec_ (l ++ [(j : Int)]) ((j : Int) + 1) ws hs H st ns c ps hit o ws hs H st ns = some R ∧ MostP D ps N (l ++ [(j : Int)]) (j + 1) o R) →
    ∃ R, round_Most_1B_l1 l ws hs H st ns c ps hit ws hs H st ns rec_ fu (i : Int) out = some R ∧ out.length ≤ R.length ∧ (R = out ∨ ∃ c, Up N i c ∧ R = l ++ toI c ∧ D (ofB ps R) = true) ∧ ∀ j c, i ≤ j → j < N → Up N (j + 1) c → D (ofB ps (l ++ toI (j :: c))) = true → (l ++ toI (j :: c)).length ≤ R.length
  | 0, i, out, hi, _ => ⟨out, rfl, Nat.le_refl _, .inl rfl, fun j c h1 h2 => by omega⟩
  | fu + 1, i, out, hi, hrec => by
    obtain ⟨R1, e1, h1⟩ := hrec i out (Nat.le_refl _) (by omega)
    obtain ⟨R, e2, h2, h3, h4⟩ := most_l1 hl fu (i + 1) R1 (by omega) fun j o hj => hrec j o (by omega)
    unfold round_Most_1B_l1
    rw [cloneI_eq l (by omega), b1_some, ap_t (by simp; omega), e1, b1_some]
    refine ⟨R, e2, Nat.le_trans h1.ge h2, ?_, fun j c hj hjN hc hd => ?_⟩
    · rcases h3 with rfl | ⟨c, q1, q2, q3⟩
      · rcases h1.src with q | ⟨c, q1, q2, q3⟩
        · exact .inl q
        · exact .inr ⟨i :: c, Up.cons.2 ⟨⟨Nat.le_refl _, by omega⟩, q1⟩, by rw [q2, toI_cons], q3⟩
      · exact .inr ⟨c, up_wide q1 (by omega), q2, q3⟩
    · by_cases d : j = i
      · subst d
        rw [← toI_cons] at hd ⊢
        exact Nat.le_trans (h1.max c hc hd) h2
      · exact h4 j c (by omega) hjN hc hd
theorem most_ok (h : BtOK ws hs H st ns) (hc : CrOK hs ns c ps hit) (hD : ∀ v, D v = true ↔ Can c ns hit hs st (bdL ns 200) v) : ∀ (m fu d f : Nat) (l out : List Int), d ≤ m → f + d = ns.length → d < fu → l.length + d ≤ 900 →
    ∃ R, round_Most_1 fu l (f : Int) ws hs H st ns c ps hit out ws hs H st ns = some R ∧ MostP D ps ns.length l f out R
  | _, 0, d, f, l, out, _, _, hf, _ => by omega
  | m, fu + 1, d, f, l, out, hm, hd, hf, hl => by
    have h9 := hc.nine h
    have h3 := h.hn
    have hpn := pow_nine h9
    have hlt := ofB_lt ps l
    obtain ⟨l2, t2, es⟩ := serve_D h hc (bd := bdL ns 200) (ok := fun xx_ : Int × Int => round_crier_by_1 xx_.1 xx_.2 200 ws hs H st ns c ps hit) (bdL_le (by decide)) (by_ok 200) hD (v := ofB ps l) (by omega)
    unfold round_Most_1 round_Most_1B
    rw [of_eq h9, b1_some]
    unfold round_crier_hours round_crier_by
    rw [b1_some, b1_some, es, b3_some]
    cases hg : D (ofB ps l) with
    | false =>
      rw [if_pos (by decide)]
      refine ⟨out, rfl, Nat.le_refl _, .inl rfl, fun c' _ hd' => ?_⟩
      have := (hD (ofB ps l)).2 (((hD _).1 hd').mono (fun _ _ => Int.le_refl _) fun p hp => by
        rw [ofB_bit, decide_eq_true_iff] at hp ⊢
        exact ⟨hp.1, List.mem_append_left _ hp.2⟩)
      rw [hg] at this; cases this
    | true =>
      rw [if_neg (by decide)]
      have hnil : l ++ toI [] = l := List.append_nil _
      obtain ⟨out2, e2, g1, g2, g3⟩ : ∃ out2 : List Int, (if (out.length : Int) < (l.length : Int) then some l else some out) = some out2 ∧ out.length ≤ out2.length ∧ l.length ≤ out2.length ∧ (out2 = out ∨ out2 = l) := by
        by_cases q : (out.length : Int) < (l.length : Int)
        · exact ⟨l, if_pos q, by omega, Nat.le_refl _, .inr rfl⟩
        · exact ⟨out, if_neg q, Nat.le_refl _, by omega, .inl rfl⟩
      have key : ∃ R, round_Most_1B_l1 l ws hs H st ns c ps hit ws hs H st ns (round_Most_1 fu) d (f : Int) out2 = some R ∧ out2.length ≤ R.length ∧ (R = out2 ∨ ∃ c, Up ns.length f c ∧ R = l ++ toI c ∧ D (ofB ps R) = true) ∧ ∀ j c, f ≤ j → j < ns.length → Up ns.length (j + 1) c → D (ofB ps (l ++ toI (j :: c))) = true → (l ++ toI (j :: c)).length ≤ R.length := by
        cases m with
        | zero =>
          have hd0 : d = 0 := by omega
          subst hd0
          exact ⟨out2, rfl, Nat.le_refl _, .inl rfl, fun j c h1 h2 => by omega⟩
        | succ m =>
          refine most_l1 (by omega) d f out2 hd fun j o hj hjN => ?_
          exact most_ok h hc hD m fu (ns.length - (j + 1)) (j + 1) (l ++ [(j : Int)]) o (by omega) (by omega) (by omega) (by simp; omega)
      obtain ⟨R, e3, k1, k2, k3⟩ := key
      rw [e2, b1_some, gd_t ⟨r64_small (by omega), r64_small (by omega)⟩, show Int.toNat ((ns.length : Int) - (f : Int)) = d by omega, e3]
      refine ⟨R, rfl, by omega, ?_, fun c' hc' hd' => ?_⟩
      · rcases k2 with rfl | q
        · rcases g3 with q | rfl
          · exact .inl q
          · exact .inr ⟨[], Up.nil .., hnil.symm, hg⟩
        · exact .inr q
      · cases c' with
        | nil => rw [hnil]; omega
        | cons j c' =>
          obtain ⟨q1, q2⟩ := Up.cons.1 hc'
          exact k3 j c' q1.1 q1.2 q2 hd'
theorem Most_eq (h : BtOK ws hs H st ns) (e : round_opened ws hs H st ns = some (some (ws, hs, H, st, ns, c, ps, hit), 0)) (hc : CrOK hs ns c ps hit) (hD : ∀ v, D v = true ↔ Can c ns hit hs st (bdL ns 200) v) : ∃ R, round_Most ws hs H st ns = some (R, 0) ∧ MostP D ps ns.length [] 0 [] R := by
  have h3 := h.hn
  obtain ⟨R, e1, h1⟩ := most_ok h hc hD ns.length FU ns.length 0 [] [] (Nat.le_refl _) (by omega) (by unfold FU; omega) (by simp; omega)
  have e1' : round_Most_1 FU [] 0 ws hs H st ns c ps hit [] ws hs H st ns = some R := e1
  refine ⟨R, ?_, h1⟩
  unfold round_Most
  rw [e, b2_some, if_neg (by decide), b8_some, e1', b1_some]
end
end Go.Proofs.Ytfmapnhfamoecaa.Rd
