/- Beats with other hours; in plain Lean. -/
import Derived.Test.YtfmapnhfamoecabZDMD
namespace Go.Proofs.Ytfmapnhfamoecab.Rd
open Go.PL Go.Proofs.Ytfmapnhfamoecab.Rv
structure Lk (ns ns' : List (List Int × Int × Int)) : Prop where
  len : ns'.length = ns.length
  q : ∀ i, (ns'.getD i ([], 0, 0)).1 = (ns.getD i ([], 0, 0)).1
  w : ∀ i, (ns'.getD i ([], 0, 0)).2.1 = (ns.getD i ([], 0, 0)).2.1
theorem Lk.refl (ns : List (List Int × Int × Int)) : Lk ns ns := ⟨rfl, fun _ => rfl, fun _ => rfl⟩
theorem Lk.trans {a b c : List (List Int × Int × Int)} (h : Lk a b) (h2 : Lk b c) : Lk a c := ⟨h2.len.trans h.len, fun i => (h2.q i).trans (h.q i), fun i => (h2.w i).trans (h.w i)⟩
theorem Lk.map {ns ns' : List (List Int × Int × Int)} (h : Lk ns ns') : ns'.map (·.1) = ns.map (·.1) := by
  refine List.ext_getElem (by simp [h.len]) fun i h1 h2 => ?_
  rw [List.length_map] at h1 h2
  have := h.q i
  rw [List.getD_eq_getElem?_getD, List.getD_eq_getElem?_getD, List.getElem?_eq_getElem h1, List.getElem?_eq_getElem h2] at this
  simpa using this
theorem total_map (ns : List (List Int × Int × Int)) : total ns = ((ns.map (·.1)).map List.length).sum := by unfold total; rw [List.map_map]; rfl
theorem l4_congr {hs : List (List Int)} : ∀ (a b : List (List Int × Int × Int)) (k : Int) (ps : List (Int × Int)) (hit : List Int), a.map (·.1) = b.map (·.1) → round_opened_l4 hs a k ps hit = round_opened_l4 hs b k ps hit
  | [], [], _, _, _, _ => rfl
  | [], _ :: _, _, _, _, h => by simp at h
  | _ :: _, [], _, _, _, h => by simp at h
  | x :: a, y :: b, k, ps, hit, h => by
    simp only [List.map_cons, List.cons.injEq] at h
    unfold round_opened_l4
    rw [h.1]
    have ih : ∀ k ps hit, round_opened_l4 hs a k ps hit = round_opened_l4 hs b k ps hit := fun k ps hit => l4_congr a b k ps hit h.2
    simp only [ih]
section
variable {ws hs : List (List Int)} {H st : Int} {ns ns' : List (List Int × Int × Int)} {c : List Int} {ps : List (Int × Int)} {hit : List Int} {bd bd' : Nat → Int} {D D' : Nat → Bool} {v : Nat}
theorem BtOK.other (h : BtOK ws hs H st ns) (hk : Lk ns ns') (hh : ∀ i, i < ns.length → 0 ≤ (ns'.getD i ([], 0, 0)).2.2 ∧ (ns'.getD i ([], 0, 0)).2.2 ≤ 200) : BtOK ws hs H st ns' := by
  refine ⟨h.hs1, h.hw, h.hH, h.hst, h.row, h.hear, by rw [hk.len]; exact h.hn, fun x hx => ?_, by rw [total_map, hk.map, ← total_map]; exact h.tot⟩
  obtain ⟨i, hi, rfl⟩ := List.getElem_of_mem hx
  have hi' : i < ns.length := by rw [← hk.len]; exact hi
  have hg : ns'.getD i ([], 0, 0) = ns'[i] := by rw [List.getD_eq_getElem?_getD, List.getElem?_eq_getElem hi]; rfl
  obtain ⟨h1, h2, _⟩ := h.note _ (getD_mem (d := ([], 0, 0)) hi')
  have h3 := hh i hi'
  rw [← hk.q i, hg] at h1
  rw [← hk.w i, hg] at h2
  rw [hg] at h3
  exact ⟨h1, h2, h3⟩
theorem opened_inj (h : BtOK ws hs H st ns) (e : round_opened ws hs H st ns = some (some (ws, hs, H, st, ns, c, ps, hit), 0)) : ∃ c0 a, round_opened_l1 ws (Int.toNat (5 - 0)) 0 (List.replicate 25 0) = some c0 ∧ round_walks_through c0 = some a ∧ round_opened_l3 FU c0 a = some c ∧ round_opened_l4 hs ns 0 [] (List.replicate 15 0) = some (ps, hit) := by
  obtain ⟨c0, a, c1, e1, e2, e3, hc⟩ := walks_ok h
  have h0 : PrsOK ns 0 [] := ⟨rfl, List.nodup_nil, fun q => ⟨fun hq => (nomatch hq), fun hq => absurd hq.1 (by omega)⟩⟩
  have hz : Hit (List.replicate 15 0) (QP hs []) := Hit.zero.congr fun s n p _ _ => by unfold QP; simp
  obtain ⟨ps1, hit1, e4, _, _⟩ := open_l4 h ns 0 [] (List.replicate 15 0) rfl h0 (Nat.zero_le _) hz
  have e4' : round_opened_l4 hs ns 0 [] (List.replicate 15 0) = some (ps1, hit1) := e4
  unfold round_opened at e
  rw [Check_eq h, b1_some, if_neg (by decide), gd_t ⟨r64_small (by omega), r64_small (by omega)⟩, e1, b1_some, e2, b1_some, e3, b1_some, e4', b2_some] at e
  simp only [Option.some.injEq, Prod.mk.injEq, and_true, true_and] at e
  obtain ⟨rfl, rfl, rfl⟩ := e
  exact ⟨c0, a, e1, e2, e3, e4'⟩
theorem opened_other (h : BtOK ws hs H st ns) (h' : BtOK ws hs H st ns') (hk : Lk ns ns') (e : round_opened ws hs H st ns = some (some (ws, hs, H, st, ns, c, ps, hit), 0)) : round_opened ws hs H st ns' = some (some (ws, hs, H, st, ns', c, ps, hit), 0) ∧ CrOK hs ns' c ps hit := by
  obtain ⟨c0, a, e1, e2, e3, e4⟩ := opened_inj h e
  have e' : round_opened ws hs H st ns' = some (some (ws, hs, H, st, ns', c, ps, hit), 0) := by
    unfold round_opened
    rw [Check_eq h', b1_some, if_neg (by decide), gd_t ⟨r64_small (by omega), r64_small (by omega)⟩, e1, b1_some, e2, b1_some, e3, b1_some, l4_congr ns' ns 0 [] _ hk.map, e4, b2_some]
  obtain ⟨c1, ps1, hit1, e5, hc⟩ := opened_eq h'
  rw [e'] at e5
  simp only [Option.some.injEq, Prod.mk.injEq, and_true, true_and] at e5
  obtain ⟨rfl, rfl, rfl⟩ := e5
  exact ⟨e', hc⟩
theorem ends_other (hk : Lk ns ns') : ∀ (l : List (Int × Int)) (k m : Int), endsF c ns' k m l = endsF c ns k m l
  | [], _, _ => rfl
  | x :: l, k, m => by
    have hw : wrd ns' x.2.toNat = wrd ns x.2.toNat := hk.w _
    unfold endsF
    rw [hw, ends_other hk l]
theorem rem_other (hk : Lk ns ns') : ∀ (l : List (Int × Int)) (k m : Int) (v : Nat), remF c ns' hit bd k m v l = remF c ns hit bd k m v l
  | [], _, _, _ => rfl
  | x :: l, k, m, v => by
    have hw : wrd ns' x.2.toNat = wrd ns x.2.toNat := hk.w _
    unfold remF
    rw [hw, rem_other hk l]
theorem can_other (hk : Lk ns ns') : Can c ns' hit hs st bd v ↔ Can c ns hit hs st bd v := by
  unfold Can
  constructor
  · rintro ⟨l, es, h1, h2, h3⟩
    exact ⟨l, es, by rw [← hk.len]; exact h1, by rw [← ends_other hk]; exact h2, by rw [← rem_other hk]; exact h3⟩
  · rintro ⟨l, es, h1, h2, h3⟩
    exact ⟨l, es, by rw [hk.len]; exact h1, by rw [ends_other hk]; exact h2, by rw [rem_other hk]; exact h3⟩
def setH (ns : List (List Int × Int × Int)) (k : Nat) (x : Int) : List (List Int × Int × Int) := ns.set k ((ns.getD k ([], 0, 0)).1, (ns.getD k ([], 0, 0)).2.1, x)
theorem setH_get {k : Nat} (hk : k < ns.length) (x : Int) (i : Nat) : (setH ns k x).getD i ([], 0, 0) = if k = i then ((ns.getD k ([], 0, 0)).1, (ns.getD k ([], 0, 0)).2.1, x) else ns.getD i ([], 0, 0) := getD_setI hk
theorem setH_lk {k : Nat} (hk : k < ns.length) (x : Int) : Lk ns (setH ns k x) := by
  refine ⟨List.length_set .., fun i => ?_, fun i => ?_⟩
  · rw [setH_get hk]
    by_cases d : k = i
    · rw [if_pos d, d]
    · rw [if_neg d]
  · rw [setH_get hk]
    by_cases d : k = i
    · rw [if_pos d, d]
    · rw [if_neg d]
theorem setH_ok (h : BtOK ws hs H st ns) {k : Nat} (hk : k < ns.length) {x : Int} (hx : 0 ≤ x ∧ x ≤ 200) : BtOK ws hs H st (setH ns k x) := by
  refine h.other (setH_lk hk x) fun i hi => ?_
  rw [setH_get hk]
  by_cases d : k = i
  · rw [if_pos d]; exact hx
  · rw [if_neg d]; exact (h.note _ (getD_mem (d := ([], 0, 0)) hi)).2.2
theorem cloneI_eq (l : List Int) (hl : l.length ≤ 1000) : slices_Clone_int_int l = some l := by
  unfold slices_Clone_int_int nilIf
  by_cases h : l = []
  · rw [if_pos h, h, ap_t (by simp)]; rfl
  · rw [if_neg h, ap_t (by simp; omega), List.nil_append]
theorem cpyR {α : Type} (z : α) (l : List α) : cpy (List.replicate l.length z) l = l := by unfold cpy; simp
theorem nodup_len {l : List Int} {H : Int} (hd : l.Nodup) (hx : ∀ x ∈ l, 0 ≤ x ∧ x < H) (hH : H ≤ 5) : l.length ≤ 1000 := by
  have h := hd.length_le_of_subset (l₂ := [0, 1, 2, 3, 4]) fun x hm => by
    have := hx x hm
    simp only [List.mem_cons, List.not_mem_nil, or_false]
    omega
  have e : ([0, 1, 2, 3, 4] : List Int).length = 5 := rfl
  omega
theorem put_l1 (h : BtOK ws hs H st ns) : ∀ (tl : List (List Int)) (j : Nat) (ow oh : List (List Int)), ws.drop j = tl → ow.length = ws.length → oh.length = hs.length → (∀ i, i < j → ow.getD i [] = ws.getD i [] ∧ oh.getD i [] = hs.getD i []) → round_Put_l1 hs tl (j : Int) ow oh = some (ws, hs)
  | [], j, ow, oh, hd, h1, h2, h3 => by
    have hw := h.hw
    have hl : ws.length ≤ j := by
      have := congrArg List.length hd
      rw [List.length_drop, List.length_nil] at this; omega
    rw [getD_ext (d := []) h1 fun t ht => (h3 t (by omega)).1, getD_ext (d := []) h2 fun t ht => (h3 t (by omega)).2]
    rfl
  | x :: tl, j, ow, oh, hd, h1, h2, h3 => by
    obtain ⟨hj, hx, hd2⟩ := drop_cons [] hd
    have hw := h.hw
    have h5 := h.hs1
    have hrow := (h.row j hj).1
    rw [hx] at hrow
    have hr : hs.getD j [] ∈ hs := getD_mem (by omega)
    have hH := h.hH
    have hhl : (hs.getD j []).length ≤ 1000 := by
      obtain ⟨a1, a2⟩ := h.hear _ hr
      exact nodup_len a1 a2 (by omega)
    have g1 : ∀ {y : List Int}, (ow.set j y).getD j [] = y := fun {y} => by rw [getD_setI (by omega), if_pos rfl]
    have g2 : ∀ {y : List Int}, (oh.set j y).getD j [] = y := fun {y} => by rw [getD_setI (by omega), if_pos rfl]
    unfold round_Put_l1
    rw [ixN [] _ (by omega), gd_t ⟨by omega, by omega⟩, bvE, bvE, Int.toNat_natCast, Int.toNat_natCast, ixN [] _ (by rw [List.length_set]; omega), g1, cpyR, bvE, ixN [] _ (by omega), ixN [] _ (by omega), gd_t ⟨by omega, by omega⟩, bvE, bvE, Int.toNat_natCast, ixN [] _ (by rw [List.length_set]; omega), g2, cpyR, bvE, bvE, bvE, List.set_set, List.set_set]
    refine put_l1 h tl (j + 1) _ _ hd2 (by rw [List.length_set]; exact h1) (by rw [List.length_set]; exact h2) fun i hi => ?_
    rw [getD_setI (by omega), getD_setI (by omega)]
    by_cases d : j = i
    · rw [if_pos d, if_pos d, ← d]; exact ⟨hx.symm, rfl⟩
    · rw [if_neg d, if_neg d]; exact h3 i (by omega)
theorem put_l2 (hq : ∀ x ∈ ns, x.1.length ≤ 1000) : ∀ (tl out : List (List Int × Int × Int)), (∀ x ∈ tl, x ∈ ns) → out.length + tl.length ≤ 1000 → round_Put_l2 tl out = some (out ++ tl)
  | [], out, _, _ => by simp [round_Put_l2]
  | x :: tl, out, hx, hl => by
    simp only [List.length_cons] at hl
    unfold round_Put_l2
    rw [cloneI_eq _ (hq x (hx x (by simp))), b1_some, ap_t (by simp; omega), put_l2 hq tl _ (fun z hz => hx z (by simp [hz])) (by simp; omega), List.append_assoc]
    rfl
theorem Put_eq (h : BtOK ws hs H st ns) {k : Nat} (hk : k < ns.length) {x : Int} (hx : 0 ≤ x ∧ x ≤ 200) : round_Put ws hs H st ns (k : Int) x = some (ws, hs, H, st, setH ns k x, 0) := by
  have hw := h.hw
  have h5 := h.hs1
  have h3 := h.hn
  have hH := h.hH
  have e1 := put_l1 h ws 0 (List.replicate ws.length []) (List.replicate hs.length []) rfl (by simp) (by simp) (fun i hi => absurd hi (Nat.not_lt_zero _))
  have e1' : round_Put_l1 hs ws 0 (List.replicate ws.length []) (List.replicate hs.length []) = some (ws, hs) := e1
  unfold round_Put
  rw [Check_eq h, b1_some, if_neg (by decide), notice_eq h, b1_some, decide_eq_true (by omega), if_neg (by decide), in_eq, b1_some, decide_eq_true hx, if_neg (by decide), gd_t ⟨by omega, by omega⟩, gd_t ⟨by omega, by omega⟩, bvE, bvE, Int.toNat_natCast, Int.toNat_natCast, e1', b2_some, put_l2 (fun x hx => nodup_len (h.note x hx).1.2.1 (h.note x hx).1.2.2 (by omega)) ns [] (fun x hx => hx) (by simp; omega), b1_some, List.nil_append, ixN ([], 0, 0) _ hk, bvE, Int.toNat_natCast]
  rfl
theorem best_iff (h : BtOK ws hs H st ns) (e : round_opened ws hs H st ns = some (some (ws, hs, H, st, ns, c, ps, hit), 0)) (hc : CrOK hs ns c ps hit) : (¬ Can c ns hit hs st (bdL ns 200) (2 ^ ps.length - 1) ∧ round_Best ws hs H st ns = some ([], 0, 6)) ∨
    ∃ l t, Can c ns hit hs st (bdL ns 200) (2 ^ ps.length - 1) ∧ round_Best ws hs H st ns = some (l, t, 0) ∧ Ser c ns hit hs st (bdL ns 200) (2 ^ ps.length - 1) l t ∧ (∀ l' es, CryOK hs.length ns.length l' → endsF c ns st 0 l' = some es → remF c ns hit (bdL ns 200) st 0 (2 ^ ps.length - 1) l' = 0 → t ≤ es.getLastD 0) := by
  rcases Best_eq h e hc with ⟨e1, h1⟩ | ⟨l, t, e1, h1, h2⟩
  · exact .inl ⟨fun q => by
      obtain ⟨l, t, q⟩ := (can_iff h hc).1 q
      exact h1 l t q, e1⟩
  · refine .inr ⟨l, t, (can_iff h hc).2 ⟨l, t, h1⟩, e1, h1, fun l' es q1 q2 q3 => ?_⟩
    obtain ⟨l2, t2, q4, q5⟩ := shorten0 h hc q1 q2 q3
    have := h2 l2 t2 q4
    omega
theorem decider (P : Nat → Prop) : ∃ D : Nat → Bool, ∀ v, D v = true ↔ P v := ⟨fun v => @decide _ (Classical.propDecidable (P v)), fun v => by simp⟩
end
end Go.Proofs.Ytfmapnhfamoecab.Rd
namespace Go.Proofs.Ytfmapnhfamoecab.Rd
open Go.PL Go.Proofs.Ytfmapnhfamoecab.Rv
def toI (c : List Nat) : List Int := c.map fun i : Nat => (i : Int)
def ofB (ps : List (Int × Int)) (l : List Int) : Nat := setL ((List.range ps.length).filter fun i => decide ((ps.getD i (0, 0)).1 ∈ l)) 0
theorem ofB_bit (ps : List (Int × Int)) (l : List Int) (i : Nat) : (ofB ps l).testBit i = decide (i < ps.length ∧ (ps.getD i (0, 0)).1 ∈ l) := by
  unfold ofB
  rw [setL_bit, Nat.zero_testBit, Bool.false_or, decide_eq_decide, List.mem_filter, List.mem_range, decide_eq_true_iff]
theorem ofB_lt (ps : List (Int × Int)) (l : List Int) : ofB ps l < 2 ^ ps.length := setL_lt _ _ (Nat.pow_pos (by decide)) fun i hi => List.mem_range.1 (List.mem_filter.1 hi).1
section
variable {ws hs : List (List Int)} {H st : Int} {ns ns' : List (List Int × Int × Int)} {c : List Int} {ps : List (Int × Int)} {hit : List Int} {bd bd' : Nat → Int} {D D' : Nat → Bool}
theorem of_l1 {l : List Int} : ∀ (tl : List (Int × Int)) (k set : Nat), ps.drop k = tl → k + tl.length ≤ 9 → set < 2 ^ 9 → round_crier_of_l1 l tl (k : Int) (set : Int) = some (setL ((List.range' k tl.length).filter fun i => decide ((ps.getD i (0, 0)).1 ∈ l)) set : Int)
  | [], k, set, _, _, _ => rfl
  | x :: tl, k, set, hd, hk, hs' => by
    obtain ⟨h1, h2, h3⟩ := drop_cons (0, 0) hd
    rw [List.length_cons] at hk
    have hpow : (2 : Nat) ^ k < 2 ^ 9 := Nat.pow_lt_pow_right (by decide) (by omega)
    have h512 : (2 : Nat) ^ 9 = 512 := by decide
    unfold round_crier_of_l1
    rw [contains_eq, b1_some, List.length_cons, List.range'_succ, List.filter_cons, h2]
    by_cases m : x.1 ∈ l
    · rw [if_pos (decide_eq_true m), if_pos (decide_eq_true m), gd_t (shl_r (by omega)), shl_nat, bor_nat (by omega) (by omega)]
      exact of_l1 tl (k + 1) _ h3 (by omega) (Nat.or_lt_two_pow hs' hpow)
    · rw [if_neg (by simpa using m), if_neg (by simpa using m)]
      exact of_l1 tl (k + 1) _ h3 (by omega) hs'
theorem of_eq (h9 : ps.length ≤ 9) (l : List Int) : round_crier_of ws hs H st ns c ps hit l = some (ofB ps l : Int) := by
  have e := of_l1 (ps := ps) (l := l) ps 0 0 rfl (by omega) (by decide)
  have e' : round_crier_of_l1 l ps 0 0 = some (setL ((List.range' 0 ps.length).filter fun i => decide ((ps.getD i (0, 0)).1 ∈ l)) 0 : Int) := e
  unfold round_crier_of ofB
  rw [e', b1_some, List.range_eq_range']
structure MostP (D : Nat → Bool) (ps : List (Int × Int)) (N : Nat) (l : List Int) (f : Nat) (out R : List Int) : Prop where
  ge : out.length ≤ R.length
  src : R = out ∨ ∃ c, Up N f c ∧ R = l ++ toI c ∧ D (ofB ps R) = true
  max : ∀ c, Up N f c → D (ofB ps (l ++ toI c)) = true → (l ++ toI c).length ≤ R.length
theorem toI_cons (l : List Int) (i : Nat) (c : List Nat) : l ++ [(i : Int)] ++ toI c = l ++ toI (i :: c) := by unfold toI; simp
theorem up_wide {n f g : Nat} {T : List Nat} (h : Up n f T) (hg : g ≤ f) : Up n g T := ⟨h.1, fun i hi => by have := h.2 i hi; omega⟩
theorem most_l1 {l : List Int} (hl : l.length ≤ 900) {rec_ : List Int → Int → List (List Int) → List (List Int) → Int → Int → List (List Int × Int × Int) → List Int → List (Int × Int) → List Int → List Int → List (List Int) → List (List Int) → Int → Int → List (List Int × Int × Int) → Option (List Int)} {N : Nat} : ∀ (fu i : Nat) (out : List Int), i + fu = N →
    (∀ (j : Nat) (o : List Int), i ≤ j → j < N → ∃ R, rec_ (l ++ [(j : Int)]) ((j : Int) + 1) ws hs H st ns c ps hit o ws hs H st ns = some R ∧ MostP D ps N (l ++ [(j : Int)]) (j + 1) o R) →
    ∃ R, round_Most_1B_l1 l ws hs H st ns c ps hit ws hs H st ns rec_ fu (i : Int) out = some R ∧ out.length ≤ R.length ∧ (R = out ∨ ∃ c, Up N i c ∧ R = l ++ toI c ∧ D (ofB ps R) = true) ∧ ∀ j c, i ≤ j → j < N → Up N (j + 1) c → D (ofB ps (l ++ toI (j :: c))) = true → (l ++ toI (j :: c)).length ≤ R.length
  | 0, i, out, hi, _ => ⟨out, rfl, Nat.le_refl _, .inl rfl, fun j c h1 h2 => by omega⟩
  | fu + 1, i, out, hi, hrec => by
    obtain ⟨R1, e1, h1⟩ := hrec i out (Nat.le_refl _) (by omega)
    obtain ⟨R, e2, h2, h3, h4⟩ := most_l1 hl fu (i + 1) R1 (by omega) fun j o hj => hrec j o (by omega)
    unfold round_Most_1B_l1
    rw [cloneI_eq l (by omega), b1_some, ap_t (by simp; omega), e1, b1_some]
    refine ⟨R, e2, Nat.le_trans h1.ge h2, ?_, fun j c hj hjN hc hd => ?_⟩
    · rcases h3 with rfl | ⟨c, q1, q2, q3⟩
      · rcases h1.src with q | ⟨c, q1, q2, q3⟩
        · exact .inl q
        · exact .inr ⟨i :: c, Up.cons.2 ⟨⟨Nat.le_refl _, by omega⟩, q1⟩, by rw [q2, toI_cons], q3⟩
      · exact .inr ⟨c, up_wide q1 (by omega), q2, q3⟩
    · by_cases d : j = i
      · subst d
        rw [← toI_cons] at hd ⊢
        exact Nat.le_trans (h1.max c hc hd) h2
      · exact h4 j c (by omega) hjN hc hd
theorem most_ok (h : BtOK ws hs H st ns) (hc : CrOK hs ns c ps hit) (hD : ∀ v, D v = true ↔ Can c ns hit hs st (bdL ns 200) v) : ∀ (m fu d f : Nat) (l out : List Int), d ≤ m → f + d = ns.length → d < fu → l.length + d ≤ 900 →
    ∃ R, round_Most_1 fu l (f : Int) ws hs H st ns c ps hit out ws hs H st ns = some R ∧ MostP D ps ns.length l f out R
  | _, 0, d, f, l, out, _, _, hf, _ => by omega
  | m, fu + 1, d, f, l, out, hm, hd, hf, hl => by
    have h9 := hc.nine h
    have h3 := h.hn
    have hpn := pow_nine h9
    have hlt := ofB_lt ps l
    obtain ⟨l2, t2, es⟩ := serve_D h hc (bd := bdL ns 200) (ok := fun xx_ : Int × Int => round_crier_by_1 xx_.1 xx_.2 200 ws hs H st ns c ps hit) (bdL_le (by decide)) (by_ok 200) hD (v := ofB ps l) (by omega)
    unfold round_Most_1 round_Most_1B
    rw [of_eq h9, b1_some]
    unfold round_crier_hours round_crier_by
    rw [b1_some, b1_some, es, b3_some]
    cases hg : D (ofB ps l) with
    | false =>
      rw [if_pos (by decide)]
      refine ⟨out, rfl, Nat.le_refl _, .inl rfl, fun c' _ hd' => ?_⟩
      have := (hD (ofB ps l)).2 (((hD _).1 hd').mono (fun _ _ => Int.le_refl _) fun p hp => by
        rw [ofB_bit, decide_eq_true_iff] at hp ⊢
        exact ⟨hp.1, List.mem_append_left _ hp.2⟩)
      rw [hg] at this; cases this
    | true =>
      rw [if_neg (by decide)]
      have hnil : l ++ toI [] = l := List.append_nil _
      obtain ⟨out2, e2, g1, g2, g3⟩ : ∃ out2 : List Int, (if (out.length : Int) < (l.length : Int) then some l else some out) = some out2 ∧ out.length ≤ out2.length ∧ l.length ≤ out2.length ∧ (out2 = out ∨ out2 = l) := by
        by_cases q : (out.length : Int) < (l.length : Int)
        · exact ⟨l, if_pos q, by omega, Nat.le_refl _, .inr rfl⟩
        · exact ⟨out, if_neg q, Nat.le_refl _, by omega, .inl rfl⟩
      have key : ∃ R, round_Most_1B_l1 l ws hs H st ns c ps hit ws hs H st ns (round_Most_1 fu) d (f : Int) out2 = some R ∧ out2.length ≤ R.length ∧ (R = out2 ∨ ∃ c, Up ns.length f c ∧ R = l ++ toI c ∧ D (ofB ps R) = true) ∧ ∀ j c, f ≤ j → j < ns.length → Up ns.length (j + 1) c → D (ofB ps (l ++ toI (j :: c))) = true → (l ++ toI (j :: c)).length ≤ R.length := by
        cases m with
        | zero =>
          have hd0 : d = 0 := by omega
          subst hd0
          exact ⟨out2, rfl, Nat.le_refl _, .inl rfl, fun j c h1 h2 => by omega⟩
        | succ m =>
          refine most_l1 (by omega) d f out2 hd fun j o hj hjN => ?_
          exact most_ok h hc hD m fu (ns.length - (j + 1)) (j + 1) (l ++ [(j : Int)]) o (by omega) (by omega) (by omega) (by simp; omega)
      obtain ⟨R, e3, k1, k2, k3⟩ := key
      rw [e2, b1_some, gd_t ⟨r64_small (by omega), r64_small (by omega)⟩, show Int.toNat ((ns.length : Int) - (f : Int)) = d by omega, e3]
      refine ⟨R, rfl, by omega, ?_, fun c' hc' hd' => ?_⟩
      · rcases k2 with rfl | q
        · rcases g3 with q | rfl
          · exact .inl q
          · exact .inr ⟨[], Up.nil .., hnil.symm, hg⟩
        · exact .inr q
      · cases c' with
        | nil => rw [hnil]; omega
        | cons j c' =>
          obtain ⟨q1, q2⟩ := Up.cons.1 hc'
          exact k3 j c' q1.1 q1.2 q2 hd'
theorem Most_eq (h : BtOK ws hs H st ns) (e : round_opened ws hs H st ns = some (some (ws, hs, H, st, ns, c, ps, hit), 0)) (hc : CrOK hs ns c ps hit) (hD : ∀ v, D v = true ↔ Can c ns hit hs st (bdL ns 200) v) : ∃ R, round_Most ws hs H st ns = some (R, 0) ∧ MostP D ps ns.length [] 0 [] R := by
  have h3 := h.hn
  obtain ⟨R, e1, h1⟩ := most_ok h hc hD ns.length FU ns.length 0 [] [] (Nat.le_refl _) (by omega) (by unfold FU; omega) (by simp; omega)
  have e1' : round_Most_1 FU [] 0 ws hs H st ns c ps hit [] ws hs H st ns = some R := e1
  refine ⟨R, ?_, h1⟩
  unfold round_Most
  rw [e, b2_some, if_neg (by decide), b8_some, e1', b1_some]
def bdH (ns : List (List Int × Int × Int)) (k : Nat) (x : Int) (n : Nat) : Int := if n = k then x else (ns.getD n ([], 0, 0)).2.2
theorem hurry_ok {k : Nat} {x : Int} (n : Nat) (m : Int) (hn : n < ns.length) : (fun xx_ : Int × Int => round_Hurry_1_1 xx_.1 xx_.2 (k : Int) x ws hs H st ns c ps hit) ((n : Int), m) = some (decide (m ≤ bdH ns k x n)) := by
  show round_Hurry_1_1 (n : Int) m (k : Int) x ws hs H st ns c ps hit = _
  unfold round_Hurry_1_1 bdH
  by_cases d : n = k
  · rw [if_pos (by omega), if_pos d]
    by_cases g : m ≤ x
    · rw [if_pos g, decide_eq_true g]
    · rw [if_neg g, if_neg (by omega), decide_eq_false g]
  · rw [if_neg (by omega), if_pos (by omega), if_neg d, ixN ([], 0, 0) _ hn]
theorem hurry_1 (h : BtOK ws hs H st ns) (hc : CrOK hs ns c ps hit) {k : Nat} {x : Int} (hx : x ≤ 1000) {G : Int → Bool} (hG : ∀ x, G x = true ↔ Can c ns hit hs st (bdH ns k x) (2 ^ ps.length - 1)) : round_Hurry_1 x ws hs H st ns c ps hit (k : Int) = some (G x) := by
  have h9 := hc.nine h
  have hbd : ∀ n, bdH ns k x n ≤ 1000 := fun n => by
    unfold bdH
    by_cases d : n = k
    · rw [if_pos d]; exact hx
    · rw [if_neg d]
      by_cases g : n < ns.length
      · have := (h.note _ (getD_mem (d := ([], 0, 0)) g)).2.2.2
        omega
      · rw [List.getD_eq_getElem?_getD, List.getElem?_eq_none (by omega)]
        show (0 : Int) ≤ 1000
        omega
  obtain ⟨D, hD⟩ := decider (Can c ns hit hs st (bdH ns k x))
  obtain ⟨l, t, es⟩ := serve_D h hc hbd (ok := fun xx_ : Int × Int => round_Hurry_1_1 xx_.1 xx_.2 (k : Int) x ws hs H st ns c ps hit) hurry_ok hD (full_lt h9)
  have hGD : D (2 ^ ps.length - 1) = G x := by rw [Bool.eq_iff_iff, hD, hG]
  unfold round_Hurry_1
  rw [all_eq h9, b1_some, es, b3_some, hGD]
theorem hurry_bis (h : BtOK ws hs H st ns) (hc : CrOK hs ns c ps hit) {k : Nat} {G : Int → Bool} (hG : ∀ x, G x = true ↔ Can c ns hit hs st (bdH ns k x) (2 ^ ps.length - 1)) (hm : ∀ x y, x ≤ y → G x = true → G y = true) : ∀ (m fu : Nat) (lo hi : Int), (hi - lo).toNat ≤ m → m < fu → 0 ≤ lo → lo ≤ hi → hi ≤ 200 → G hi = true → (∀ x, 0 ≤ x → x < lo → G x = false) →
    ∃ r, round_Hurry_l1 (k : Int) ws hs H st ns c ps hit fu lo hi = some r ∧ 0 ≤ r ∧ r ≤ 200 ∧ G r = true ∧ ∀ x, 0 ≤ x → x < r → G x = false
  | _, 0, _, _, _, hf, _, _, _, _, _ => by omega
  | m, fu + 1, lo, hi, h1, hf, h2, h3, h4, h5, h6 => by
    unfold round_Hurry_l1
    by_cases d : lo < hi
    · have hmid : lo ≤ Int.tdiv (lo + hi) 2 ∧ Int.tdiv (lo + hi) 2 < hi := by
        rw [Int.tdiv_eq_ediv_of_nonneg (by omega)]; omega
      generalize Int.tdiv (lo + hi) 2 = mid at hmid
      rw [if_pos d, gd_t (r64_small (by omega)), gd_t ⟨by decide, r64_small (by omega)⟩, hurry_1 h hc (by omega) hG, b1_some]
      cases m with
      | zero => omega
      | succ m =>
        cases hg : G mid with
        | true =>
          rw [if_pos rfl]
          exact hurry_bis h hc hG hm m fu lo mid (by omega) (by omega) h2 hmid.1 (by omega) hg h6
        | false =>
          rw [if_neg (by decide), gd_t (r64_small (by omega))]
          refine hurry_bis h hc hG hm m fu (mid + 1) hi (by omega) (by omega) (by omega) (by omega) h4 h5 fun x q1 q2 => ?_
          cases hx : G x with
          | false => rfl
          | true => have := hm x mid (by omega) hx; rw [hg] at this; cases this
    · rw [if_neg d]
      have : lo = hi := by omega
      subst this
      exact ⟨lo, rfl, h2, h4, h5, h6⟩
theorem bdH_mono {k : Nat} {x y : Int} (h : x ≤ y) (n : Nat) : bdH ns k x n ≤ bdH ns k y n := by
  unfold bdH; split
  · exact h
  · exact Int.le_refl _
theorem Hurry_eq (h : BtOK ws hs H st ns) (e : round_opened ws hs H st ns = some (some (ws, hs, H, st, ns, c, ps, hit), 0)) (hc : CrOK hs ns c ps hit) {k : Nat} (hk : k < ns.length) {G : Int → Bool} (hG : ∀ x, G x = true ↔ Can c ns hit hs st (bdH ns k x) (2 ^ ps.length - 1)) (hm : ∀ x y, x ≤ y → G x = true → G y = true) :
    (G 200 = false ∧ round_Hurry ws hs H st ns (k : Int) = some (0, 6)) ∨ ∃ r, round_Hurry ws hs H st ns (k : Int) = some (r, 0) ∧ 0 ≤ r ∧ r ≤ 200 ∧ G r = true ∧ ∀ x, 0 ≤ x → x < r → G x = false := by
  unfold round_Hurry
  rw [e, b2_some, if_neg (by decide), notice_eq h, b1_some, decide_eq_true (by omega), if_neg (by decide), b8_some, hurry_1 h hc (by omega) hG, b1_some]
  cases hg : G 200 with
  | false => exact .inl ⟨rfl, by rw [if_pos (by decide)]⟩
  | true =>
    right
    obtain ⟨r, e1, h1⟩ := hurry_bis h hc hG hm 200 FU 0 200 (by omega) (by unfold FU; omega) (by omega) (by omega) (by omega) hg (fun x q1 q2 => by omega)
    rw [if_neg (by decide), e1, b1_some]
    exact ⟨r, rfl, h1⟩
end
end Go.Proofs.Ytfmapnhfamoecab.Rd
namespace Go.Proofs.Ytfmapnhfamoecab.Rd
open Go.PL Go.Proofs.Ytfmapnhfamoecab.Rv
section
variable {ws hs : List (List Int)} {H st : Int} {ns ns' : List (List Int × Int × Int)} {c : List Int} {ps : List (Int × Int)} {hit : List Int} {bd bd' : Nat → Int} {D D' : Nat → Bool}
theorem drop_sel (ps : List (Int × Int)) (m : Nat) : ps.drop m = selP ps (List.range' m (ps.length - m)) := by
  unfold selP
  refine List.ext_getElem (by simp) fun i h1 h2 => ?_
  rw [List.length_drop] at h1
  rw [List.getElem_drop, List.getElem_map, List.getElem_range', List.getD_eq_getElem?_getD, Nat.one_mul, List.getElem?_eq_getElem (by omega)]
  rfl
theorem bdL_setH (h : BtOK ws hs H st ns) {k : Nat} (hk : k < ns.length) {x : Int} (hx : 0 ≤ x ∧ x ≤ 200) {n : Nat} (hn : n < ns.length) : bdL (setH ns k x) 200 n = bdH ns k x n := by
  have hr : 0 ≤ (ns.getD n ([], 0, 0)).2.2 ∧ (ns.getD n ([], 0, 0)).2.2 ≤ 200 := (h.note _ (getD_mem (d := ([], 0, 0)) hn)).2.2
  unfold bdL bdH
  rw [setH_get hk]
  by_cases d : n = k
  · rw [if_pos d.symm, if_pos d]
    show (if x < 200 then x else 200) = x
    split <;> omega
  · rw [if_neg (fun q : k = n => d q.symm), if_neg d]
    split <;> omega
theorem can_setH (h : BtOK ws hs H st ns) {k : Nat} (hk : k < ns.length) {x : Int} (hx : 0 ≤ x ∧ x ≤ 200) {v : Nat} : Can c (setH ns k x) hit hs st (bdL (setH ns k x) 200) v ↔ Can c ns hit hs st (bdH ns k x) v := by
  rw [can_other (setH_lk hk x)]
  exact ⟨fun q => q.mono (fun n hn => by rw [bdL_setH h hk hx hn]; exact Int.le_refl _) fun _ z => z, fun q => q.mono (fun n hn => by rw [bdL_setH h hk hx hn]; exact Int.le_refl _) fun _ z => z⟩
theorem putOff_l3 (h : BtOK ws hs H st ns) (e : round_opened ws hs H st ns = some (some (ws, hs, H, st, ns, c, ps, hit), 0)) {k : Nat} (hk : k < ns.length) {G : Int → Bool} (hG : ∀ x, G x = true ↔ Can c ns hit hs st (bdH ns k x) (2 ^ ps.length - 1)) {r : Int} (hr : 0 ≤ r ∧ r ≤ 200) (hg : G r = true) (hn : ∀ x, 0 ≤ x → x < r → G x = false) :
    oyezlaw03_RoundPutOff_l3 ws hs H st ns (k : Int) r 2 0 = some true := by
  have step : ∀ (fu i : Nat) (x : Int), [r - 1, r].getD i 0 = x → i < 2 → x ≤ 200 → (0 ≤ x → G x = decide ((i : Int) = 1)) → oyezlaw03_RoundPutOff_l3 ws hs H st ns (k : Int) r fu ((i + 1 : Nat) : Int) = some true → oyezlaw03_RoundPutOff_l3 ws hs H st ns (k : Int) r (fu + 1) (i : Int) = some true := fun fu i x hx hi hx2 hgx hnext => by
    unfold oyezlaw03_RoundPutOff_l3
    rw [ixI _ (by simpa using hi), hx]
    by_cases d : x < 0
    · rw [if_pos d]; exact hnext
    · have hx0 : 0 ≤ x ∧ x ≤ 200 := by omega
      have h' := setH_ok h hk hx0
      obtain ⟨e', hc'⟩ := opened_other h h' (setH_lk hk x) e
      have hgx' := hgx hx0.1
      rw [if_neg d, Put_eq h hk hx0, b6_some]
      rcases best_iff h' e' hc' with ⟨q, eb⟩ | ⟨l, t, q, eb, _⟩
      · have hf : G x = false := by
          cases hh : G x with
          | false => rfl
          | true => exact absurd ((can_setH h hk hx0).2 ((hG x).1 hh)) q
        rw [hf] at hgx'
        rw [eb, b3_some, if_neg (by decide), ← hgx', decide_eq_false (by decide), b1_some, if_neg (by decide)]
        exact hnext
      · have ht : G x = true := (hG x).2 ((can_setH h hk hx0).1 q)
        rw [ht] at hgx'
        rw [eb, b3_some, if_neg (by decide), ← hgx', decide_eq_true rfl, decide_eq_false (by decide), b1_some, if_neg (by decide)]
        exact hnext
  have hend : oyezlaw03_RoundPutOff_l3 ws hs H st ns (k : Int) r 0 ((2 : Nat) : Int) = some true := by
    unfold oyezlaw03_RoundPutOff_l3 oyezlaw03_RoundPutOff_j2
    rw [awake_eq, b1_some]
  exact step 1 0 (r - 1) rfl (by omega) (by omega) (fun h0 => by rw [hn (r - 1) h0 (by omega)]; rfl) (step 0 1 r rfl (by omega) (by omega) (fun _ => by rw [hg]; rfl) hend)
theorem putOff_j1 (h : BtOK ws hs H st ns) (e : round_opened ws hs H st ns = some (some (ws, hs, H, st, ns, c, ps, hit), 0)) (hc : CrOK hs ns c ps hit) {k : Nat} (hk : k < ns.length) {n7 : Int} (hb : (¬ Can c ns hit hs st (bdL ns 200) (2 ^ ps.length - 1) ∧ n7 = 6) ∨ (Can c ns hit hs st (bdL ns 200) (2 ^ ps.length - 1) ∧ n7 = 0)) : oyezlaw03_RoundPutOff_j1 ws hs H st ns (k : Int) (ns.getD k ([], 0, 0)) n7 = some true := by
  have hx : 0 ≤ (ns.getD k ([], 0, 0)).2.2 ∧ (ns.getD k ([], 0, 0)).2.2 ≤ 200 := (h.note _ (getD_mem (d := ([], 0, 0)) hk)).2.2
  have hGe : ∃ G : Int → Bool, ∀ x, G x = true ↔ Can c ns hit hs st (bdH ns k x) (2 ^ ps.length - 1) := ⟨fun x => @decide _ (Classical.propDecidable (Can c ns hit hs st (bdH ns k x) (2 ^ ps.length - 1))), fun x => by simp⟩
  obtain ⟨G, hG⟩ := hGe
  have hm : ∀ x y, x ≤ y → G x = true → G y = true := fun x y hxy q => (hG y).2 (((hG x).1 q).mono (fun n _ => bdH_mono hxy n) fun _ z => z)
  have hself : Can c ns hit hs st (bdL ns 200) (2 ^ ps.length - 1) → G (ns.getD k ([], 0, 0)).2.2 = true := fun q => (hG _).2 (q.mono (fun n hn => by
    rw [bdL_hour h hn]
    unfold bdH
    by_cases d : n = k
    · rw [if_pos d, d]; exact Int.le_refl _
    · rw [if_neg d]; exact Int.le_refl _) fun _ z => z)
  unfold oyezlaw03_RoundPutOff_j1
  rcases Hurry_eq h e hc hk hG hm with ⟨q, eh⟩ | ⟨r, eh, r0, r1, r2, r3⟩
  · rw [eh, b2_some, if_pos (by decide), if_pos rfl]
    rcases hb with ⟨_, rfl⟩ | ⟨q2, _⟩
    · rw [if_pos (by decide), awake_eq, b1_some]
    · have := hm _ 200 hx.2 (hself q2)
      rw [q] at this; cases this
  · have key : (if r < 0 then some true else (if 200 < r then some true else (if n7 = 0 then some (decide ((ns.getD k ([], 0, 0)).2.2 < r)) else some false))) = some false := by
      rw [if_neg (by omega), if_neg (by omega)]
      rcases hb with ⟨_, rfl⟩ | ⟨q2, rfl⟩
      · rw [if_neg (by decide)]
      · rw [if_pos rfl, decide_eq_false]
        intro q3
        have := r3 _ hx.1 q3
        rw [hself q2] at this; cases this
    rw [eh, b2_some, if_neg (by decide), key, b1_some, if_neg (by decide), gd_t (r64_small (by omega)), gd_t ⟨r64_small (by omega), r64_small (by omega)⟩]
    exact putOff_l3 h e hk hG ⟨r0, r1⟩ r2 r3
theorem cloneP_eq2 (l : List (Int × Int)) (hl : l.length ≤ 1000) : slices_Clone_round_Pair_round_Pair l = some l := by
  unfold slices_Clone_round_Pair_round_Pair nilIf
  by_cases h : l = []
  · rw [if_pos h, h, ap_t (by simp)]; rfl
  · rw [if_neg h, ap_t (by simp; omega), List.nil_append]
theorem Pairs_eq2 (h : BtOK ws hs H st ns) (e : round_opened ws hs H st ns = some (some (ws, hs, H, st, ns, c, ps, hit), 0)) (hc : CrOK hs ns c ps hit) : round_Pairs ws hs H st ns = some (ps, 0) := by
  have h9 := hc.nine h
  unfold round_Pairs
  rw [e, b2_some, if_neg (by decide), b8_some, cloneP_eq2 ps (by omega), b1_some]
theorem tmod_rng {w n : Int} (hw : 0 ≤ w) (hn : 0 < n) : 0 ≤ Int.tmod w n ∧ Int.tmod w n < n := by
  rw [Int.tmod_eq_emod_of_nonneg hw]
  exact ⟨Int.emod_nonneg w (by omega), Int.emod_lt_of_pos w hn⟩
theorem putOff_true {numbers : List Int} {which more : Int} (hm : (numbers.length : Int) ≤ 9223372036854775807) (hw : 0 ≤ which ∧ which ≤ 255) (hmo : 0 ≤ more ∧ more ≤ 255) : oyezlaw03_RoundPutOff numbers which more = some true := by
  unfold oyezlaw03_RoundPutOff oyezkit_Hang
  obtain ⟨ws, hs, H, st, ns, a', t', e1, h, ha, _, _, _⟩ := made_ok (metal := numbers) (a := 0) (t := 0) (S := 4) (H := 3) (N := 3) ⟨by omega, by omega⟩ hm (by omega) (by omega) (by omega)
  obtain ⟨c, ps, hit, e, hc⟩ := opened_eq h
  have h9 := hc.nine h
  rw [b3_some, e1, b7_some]
  by_cases hz : ns.length = 0
  · rw [if_pos (by omega), awake_eq, b1_some]
  · obtain ⟨k0, k1⟩ := tmod_rng hw.1 (n := (ns.length : Int)) (by omega)
    obtain ⟨k, hk⟩ := Int.eq_ofNat_of_zero_le k0
    rw [hk] at k1
    have hkn : k < ns.length := by omega
    obtain ⟨m0, m1⟩ := tmod_rng hmo.1 (n := 40) (by omega)
    have hx : 0 ≤ (ns.getD k ([], 0, 0)).2.2 ∧ (ns.getD k ([], 0, 0)).2.2 ≤ 200 := (h.note _ (getD_mem (d := ([], 0, 0)) hkn)).2.2
    rw [if_neg (by omega), gd_t (r64_small (by omega)), gd_t (by omega), bvE, hk, ixN ([], 0, 0) _ hkn, gd_t (r64_small (by omega)), gd_t (r64_small (by omega))]
    obtain ⟨y, hy⟩ : ∃ y, (if (ns.getD k ([], 0, 0)).2.2 + Int.tmod more 40 < 200 then (ns.getD k ([], 0, 0)).2.2 + Int.tmod more 40 else 200) = y := ⟨_, rfl⟩
    have hyr : (0 ≤ y ∧ y ≤ 200) ∧ (ns.getD k ([], 0, 0)).2.2 ≤ y := by rw [← hy]; split <;> omega
    have h' := setH_ok h hkn hyr.1
    have hlk := setH_lk hkn y
    obtain ⟨e', hc'⟩ := opened_other h h' hlk e
    have hle : ∀ n, n < ns.length → bdL ns 200 n ≤ bdL (setH ns k y) 200 n := fun n hn => by
      rw [bdL_hour h hn, bdL_setH h hkn hyr.1 hn]
      unfold bdH
      by_cases d : n = k
      · rw [if_pos d, d]; exact hyr.2
      · rw [if_neg d]; exact Int.le_refl _
    obtain ⟨D, hD⟩ := decider (Can c ns hit hs st (bdL ns 200))
    obtain ⟨D', hD'⟩ := decider (Can c (setH ns k y) hit hs st (bdL (setH ns k y) 200))
    have hDD : ∀ v, D v = true → D' v = true := fun v q => (hD' v).2 ((can_other hlk).2 (((hD v).1 q).mono hle fun _ z => z))
    obtain ⟨a, ea, ma⟩ := Most_eq h e hc hD
    obtain ⟨b, eb, mb⟩ := Most_eq h' e' hc' hD'
    have hlab : a.length ≤ b.length := by
      rcases ma.src with q | ⟨c2, q1, q2, q3⟩
      · rw [q]; exact Nat.zero_le _
      · rw [q2]
        refine mb.max c2 (by rw [hlk.len]; exact q1) (hDD _ ?_)
        rw [← q2]; exact q3
    rw [hy, Put_eq h hkn hyr.1, b6_some]
    obtain ⟨l7, n6, n7, l8, n8, n9, eb1, eb2, hb7, hb9⟩ : ∃ l7 n6 n7 l8 n8 n9, round_Best ws hs H st ns = some (l7, n6, n7) ∧ round_Best ws hs H st (setH ns k y) = some (l8, n8, n9) ∧ ((¬ Can c ns hit hs st (bdL ns 200) (2 ^ ps.length - 1) ∧ n7 = 6) ∨ (Can c ns hit hs st (bdL ns 200) (2 ^ ps.length - 1) ∧ n7 = 0)) ∧ (n7 = 0 → n9 = 0 ∧ n8 ≤ n6) := by
      rcases best_iff h e hc with ⟨q, q1⟩ | ⟨l, t, q, q1, q2, q3⟩
      · rcases best_iff h' e' hc' with ⟨p, p1⟩ | ⟨l', t', p, p1, _⟩
        · exact ⟨_, _, _, _, _, _, q1, p1, .inl ⟨q, rfl⟩, fun z => absurd z (by decide)⟩
        · exact ⟨_, _, _, _, _, _, q1, p1, .inl ⟨q, rfl⟩, fun z => absurd z (by decide)⟩
      · obtain ⟨es, g1, g2, g3, g4, _⟩ := q2.can
        rcases best_iff h' e' hc' with ⟨p, p1⟩ | ⟨l', t', p, p1, _, p3⟩
        · exact absurd ((hD' _).1 (hDD _ ((hD _).2 q))) p
        · refine ⟨_, _, _, _, _, _, q1, p1, .inr ⟨q, rfl⟩, fun _ => ⟨rfl, ?_⟩⟩
          have := p3 l es (by rw [hlk.len]; exact g1) (by rw [ends_other hlk]; exact g2) (by
            rw [rem_other hlk]
            exact rem_zero.2 fun p hp => hit_mono hle l _ _ g1 (rem_zero.1 g3 p hp))
          omega
    have key : (if n7 ≠ 0 then (if n7 ≠ 6 then some true else (if n7 = 0 then (if n9 ≠ 0 then some true else (if n6 < n8 then some true else some (decide ((b.length : Int) < (a.length : Int))))) else some (decide ((b.length : Int) < (a.length : Int))))) else (if n7 = 0 then (if n9 ≠ 0 then some true else (if n6 < n8 then some true else some (decide ((b.length : Int) < (a.length : Int))))) else some (decide ((b.length : Int) < (a.length : Int))))) = some false := by
      have hd : decide ((b.length : Int) < (a.length : Int)) = false := decide_eq_false (by omega)
      rcases hb7 with ⟨_, q⟩ | ⟨_, q⟩
      · rw [if_pos (by omega), if_neg (by omega), if_neg (by omega), hd]
      · obtain ⟨q1, q2⟩ := hb9 q
        rw [if_neg (by omega), if_pos q, if_neg (by omega), if_neg (by omega), hd]
    rw [eb1, b3_some, eb2, b3_some, ea, b2_some, eb, b2_some, if_neg (by decide), if_neg (by decide), if_neg (by decide), key, b1_some, if_neg (by decide), Pairs_eq2 h e hc, b2_some, if_neg (by decide)]
    have hj := putOff_j1 h e hc hkn hb7
    by_cases hp : 1 < (ps.length : Int)
    · obtain ⟨p0, p1⟩ := tmod_rng hmo.1 (n := (ps.length : Int)) (by omega)
      obtain ⟨m, hmm⟩ := Int.eq_ofNat_of_zero_le p0
      rw [hmm] at p1
      have hTd : (List.range' m (ps.length - m)).Nodup := List.nodup_range'
      have hTr : ∀ i ∈ List.range' m (ps.length - m), i < ps.length := fun i hi => by
        rw [List.mem_range'] at hi
        obtain ⟨j, hj, rfl⟩ := hi
        omega
      have key2 : (if D (setL (List.range' m (ps.length - m)) 0) = true then some (!D' (setL (List.range' m (ps.length - m)) 0)) else some false) = some false := by
        cases q : D (setL (List.range' m (ps.length - m)) 0) with
        | false => rfl
        | true => rw [if_pos rfl, hDD _ q]; rfl
      rw [if_pos hp, gd_t (r64_small (by omega)), gd_t (by omega), hmm, gd_t (by omega), bvE, sl_to, drop_sel, Together_eq h e hc hD hTd hTr, b2_some, Together_eq h' e' hc' hD' hTd hTr, b2_some, if_neg (by decide), if_neg (by decide), key2, b1_some, if_neg (by decide)]
      exact hj
    · rw [if_neg hp]; exact hj
end
end Go.Proofs.Ytfmapnhfamoecab.Rd
