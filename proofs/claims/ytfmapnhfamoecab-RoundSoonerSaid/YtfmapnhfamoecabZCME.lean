/- Beats with other hours; in plain Lean. -/
import Derived.Test.YtfmapnhfamoecabZCMD
namespace Go.Proofs.Ytfmapnhfamoecab.Rd
open Go.PL Go.Proofs.Ytfmapnhfamoecab.Rv
/-- Two lists of notices that differ in their hours only. -/
structure Lk (ns ns' : List (List Int × Int × Int)) : Prop where
  len : ns'.length = ns.length
  q : ∀ i, (ns'.getD i ([], 0, 0)).1 = (ns.getD i ([], 0, 0)).1
  w : ∀ i, (ns'.getD i ([], 0, 0)).2.1 = (ns.getD i ([], 0, 0)).2.1
theorem Lk.refl (ns : List (List Int × Int × Int)) : Lk ns ns := ⟨rfl, fun _ => rfl, fun _ => rfl⟩
theorem Lk.trans {a b c : List (List Int × Int × Int)} (h : Lk a b) (h2 : Lk b c) : Lk a c := ⟨h2.len.trans h.len, fun i => (h2.q i).trans (h.q i), fun i => (h2.w i).trans (h.w i)⟩
theorem Lk.map {ns ns' : List (List Int × Int × Int)} (h : Lk ns ns') : ns'.map (·.1) = ns.map (·.1) := by
  refine List.ext_getElem (by simp [h.len]) fun i h1 h2 => ?_
  rw [List.length_map] at h1 h2
  have := h.q i
  rw [List.getD_eq_getElem?_getD, List.getD_eq_getElem?_getD, List.getElem?_eq_getElem h1, List.getElem?_eq_getElem h2] at this
  simpa using this
theorem total_map (ns : List (List Int × Int × Int)) : total ns = ((ns.map (·.1)).map List.length).sum := by unfold total; rw [List.map_map]; rfl
theorem l4_congr {hs : List (List Int)} : ∀ (a b : List (List Int × Int × Int)) (k : Int) (ps : List (Int × Int)) (hit : List Int), a.map (·.1) = b.map (·.1) → round_opened_l4 hs a k ps hit = round_opened_l4 hs b k ps hit
  | [], [], _, _, _, _ => rfl
  | [], _ :: _, _, _, _, h => by simp at h
  | _ :: _, [], _, _, _, h => by simp at h
  | x :: a, y :: b, k, ps, hit, h => by
    simp only [List.map_cons, List.cons.injEq] at h
    unfold round_opened_l4
    rw [h.1]
    have ih : ∀ k ps hit, round_opened_l4 hs a k ps hit = round_opened_l4 hs b k ps hit := fun k ps hit => l4_congr a b k ps hit h.2
    simp only [ih]
section
variable {ws hs : List (List Int)} {H st : Int} {ns ns' : List (List Int × Int × Int)} {c : List Int} {ps : List (Int × Int)} {hit : List Int} {bd bd' : Nat → Int} {D D' : Nat → Bool} {v : Nat}
theorem BtOK.other (h : BtOK ws hs H st ns) (hk : Lk ns ns') (hh : ∀ i, i < ns.length → 0 ≤ (ns'.getD i ([], 0, 0)).2.2 ∧ (ns'.getD i ([], 0, 0)).2.2 ≤ 200) : BtOK ws hs H st ns' := by
  refine ⟨h.hs1, h.hw, h.hH, h.hst, h.row, h.hear, by rw [hk.len]; exact h.hn, fun x hx => ?_, by rw [total_map, hk.map, ← total_map]; exact h.tot⟩
  obtain ⟨i, hi, rfl⟩ := List.getElem_of_mem hx
  have hi' : i < ns.length := by rw [← hk.len]; exact hi
  have hg : ns'.getD i ([], 0, 0) = ns'[i] := by rw [List.getD_eq_getElem?_getD, List.getElem?_eq_getElem hi]; rfl
  obtain ⟨h1, h2, _⟩ := h.note _ (getD_mem (d := ([], 0, 0)) hi')
  have h3 := hh i hi'
  rw [← hk.q i, hg] at h1
  rw [← hk.w i, hg] at h2
  rw [hg] at h3
  exact ⟨h1, h2, h3⟩
theorem opened_inj (h : BtOK ws hs H st ns) (e : round_opened ws hs H st ns = some (some (ws, hs, H, st, ns, c, ps, hit), 0)) : ∃ c0 a, round_opened_l1 ws (Int.toNat (5 - 0)) 0 (List.replicate 25 0) = some c0 ∧ round_walks_through c0 = some a ∧ round_opened_l3 FU c0 a = some c ∧ round_opened_l4 hs ns 0 [] (List.replicate 15 0) = some (ps, hit) := by
  obtain ⟨c0, a, c1, e1, e2, e3, hc⟩ := walks_ok h
  have h0 : PrsOK ns 0 [] := ⟨rfl, List.nodup_nil, fun q => ⟨fun hq => (nomatch hq), fun hq => absurd hq.1 (by omega)⟩⟩
  have hz : Hit (List.replicate 15 0) (QP hs []) := Hit.zero.congr fun s n p _ _ => by unfold QP; simp
  obtain ⟨ps1, hit1, e4, _, _⟩ := open_l4 h ns 0 [] (List.replicate 15 0) rfl h0 (Nat.zero_le _) hz
  have e4' : round_opened_l4 hs ns 0 [] (List.replicate 15 0) = some (ps1, hit1) := e4
  unfold round_opened at e
  rw [Check_eq h, b1_some, if_neg (by decide), gd_t ⟨r64_small (by omega), r64_small (by omega)⟩, e1, b1_some, e2, b1_some, e3, b1_some, e4', b2_some] at e
  simp only [Option.some.injEq, Prod.mk.injEq, and_true, true_and] at e
  obtain ⟨rfl, rfl, rfl⟩ := e
  exact ⟨c0, a, e1, e2, e3, e4'⟩
/-- The same crier is at work whatever the hours are. -/
theorem opened_other (h : BtOK ws hs H st ns) (h' : BtOK ws hs H st ns') (hk : Lk ns ns') (e : round_opened ws hs H st ns = some (some (ws, hs, H, st, ns, c, ps, hit), 0)) : round_opened ws hs H st ns' = some (some (ws, hs, H, st, ns', c, ps, hit), 0) ∧ CrOK hs ns' c ps hit := by
  obtain ⟨c0, a, e1, e2, e3, e4⟩ := opened_inj h e
  have e' : round_opened ws hs H st ns' = some (some (ws, hs, H, st, ns', c, ps, hit), 0) := by
    unfold round_opened
    rw [Check_eq h', b1_some, if_neg (by decide), gd_t ⟨r64_small (by omega), r64_small (by omega)⟩, e1, b1_some, e2, b1_some, e3, b1_some, l4_congr ns' ns 0 [] _ hk.map, e4, b2_some]
  obtain ⟨c1, ps1, hit1, e5, hc⟩ := opened_eq h'
  rw [e'] at e5
  simp only [Option.some.injEq, Prod.mk.injEq, and_true, true_and] at e5
  obtain ⟨rfl, rfl, rfl⟩ := e5
  exact ⟨e', hc⟩
theorem ends_other (hk : Lk ns ns') : ∀ (l : List (Int × Int)) (k m : Int), endsF c ns' k m l = endsF c ns k m l
  | [], _, _ => rfl
  | x :: l, k, m => by
    have hw : wrd ns' x.2.toNat = wrd ns x.2.toNat := hk.w _
    unfold endsF
    rw [hw, ends_other hk l]
theorem rem_other (hk : Lk ns ns') : ∀ (l : List (Int × Int)) (k m : Int) (v : Nat), remF c ns' hit bd k m v l = remF c ns hit bd k m v l
  | [], _, _, _ => rfl
  | x :: l, k, m, v => by
    have hw : wrd ns' x.2.toNat = wrd ns x.2.toNat := hk.w _
    unfold remF
    rw [hw, rem_other hk l]
theorem can_other (hk : Lk ns ns') : Can c ns' hit hs st bd v ↔ Can c ns hit hs st bd v := by
  unfold Can
  constructor
  · rintro ⟨l, es, h1, h2, h3⟩
    exact ⟨l, es, by rw [← hk.len]; exact h1, by rw [← ends_other hk]; exact h2, by rw [← rem_other hk]; exact h3⟩
  · rintro ⟨l, es, h1, h2, h3⟩
    exact ⟨l, es, by rw [hk.len]; exact h1, by rw [ends_other hk]; exact h2, by rw [rem_other hk]; exact h3⟩
/-- Notices with another hour for one. -/
def setH (ns : List (List Int × Int × Int)) (k : Nat) (x : Int) : List (List Int × Int × Int) := ns.set k ((ns.getD k ([], 0, 0)).1, (ns.getD k ([], 0, 0)).2.1, x)
theorem setH_get {k : Nat} (hk : k < ns.length) (x : Int) (i : Nat) : (setH ns k x).getD i ([], 0, 0) = if k = i then ((ns.getD k ([], 0, 0)).1, (ns.getD k ([], 0, 0)).2.1, x) else ns.getD i ([], 0, 0) := getD_setI hk
theorem setH_lk {k : Nat} (hk : k < ns.length) (x : Int) : Lk ns (setH ns k x) := by
  refine ⟨List.length_set .., fun i => ?_, fun i => ?_⟩
  · rw [setH_get hk]
    by_cases d : k = i
    · rw [if_pos d, d]
    · rw [if_neg d]
  · rw [setH_get hk]
    by_cases d : k = i
    · rw [if_pos d, d]
    · rw [if_neg d]
theorem setH_ok (h : BtOK ws hs H st ns) {k : Nat} (hk : k < ns.length) {x : Int} (hx : 0 ≤ x ∧ x ≤ 200) : BtOK ws hs H st (setH ns k x) := by
  refine h.other (setH_lk hk x) fun i hi => ?_
  rw [setH_get hk]
  by_cases d : k = i
  · rw [if_pos d]; exact hx
  · rw [if_neg d]; exact (h.note _ (getD_mem (d := ([], 0, 0)) hi)).2.2
theorem cloneI_eq (l : List Int) (hl : l.length ≤ 1000) : slices_Clone_int_int l = some l := by
  unfold slices_Clone_int_int nilIf
  by_cases h : l = []
  · rw [if_pos h, h, ap_t (by simp)]; rfl
  · rw [if_neg h, ap_t (by simp; omega), List.nil_append]
theorem cpyR {α : Type} (z : α) (l : List α) : cpy (List.replicate l.length z) l = l := by unfold cpy; simp
theorem nodup_len {l : List Int} {H : Int} (hd : l.Nodup) (hx : ∀ x ∈ l, 0 ≤ x ∧ x < H) (hH : H ≤ 5) : l.length ≤ 1000 := by
  have h := hd.length_le_of_subset (l₂ := [0, 1, 2, 3, 4]) fun x hm => by
    have := hx x hm
    simp only [List.mem_cons, List.not_mem_nil, or_false]
    omega
  have e : ([0, 1, 2, 3, 4] : List Int).length = 5 := rfl
  omega
theorem put_l1 (h : BtOK ws hs H st ns) : ∀ (tl : List (List Int)) (j : Nat) (ow oh : List (List Int)), ws.drop j = tl → ow.length = ws.length → oh.length = hs.length → (∀ i, i < j → ow.getD i [] = ws.getD i [] ∧ oh.getD i [] = hs.getD i []) → round_Put_l1 hs tl (j : Int) ow oh = some (ws, hs)
  | [], j, ow, oh, hd, h1, h2, h3 => by
    have hw := h.hw
    have hl : ws.length ≤ j := by
      have := congrArg List.length hd
      rw [List.length_drop, List.length_nil] at this; omega
    rw [getD_ext (d := []) h1 fun t ht => (h3 t (by omega)).1, getD_ext (d := []) h2 fun t ht => (h3 t (by omega)).2]
    rfl
  | x :: tl, j, ow, oh, hd, h1, h2, h3 => by
    obtain ⟨hj, hx, hd2⟩ := drop_cons [] hd
    have hw := h.hw
    have h5 := h.hs1
    have hrow := (h.row j hj).1
    rw [hx] at hrow
    have hr : hs.getD j [] ∈ hs := getD_mem (by omega)
    have hH := h.hH
    have hhl : (hs.getD j []).length ≤ 1000 := by
      obtain ⟨a1, a2⟩ := h.hear _ hr
      exact nodup_len a1 a2 (by omega)
    have g1 : ∀ {y : List Int}, (ow.set j y).getD j [] = y := fun {y} => by rw [getD_setI (by omega), if_pos rfl]
    have g2 : ∀ {y : List Int}, (oh.set j y).getD j [] = y := fun {y} => by rw [getD_setI (by omega), if_pos rfl]
    unfold round_Put_l1
    rw [ixN [] _ (by omega), gd_t ⟨by omega, by omega⟩, bvE, bvE, Int.toNat_natCast, Int.toNat_natCast, ixN [] _ (by rw [List.length_set]; omega), g1, cpyR, bvE, ixN [] _ (by omega), ixN [] _ (by omega), gd_t ⟨by omega, by omega⟩, bvE, bvE, Int.toNat_natCast, ixN [] _ (by rw [List.length_set]; omega), g2, cpyR, bvE, bvE, bvE, List.set_set, List.set_set]
    refine put_l1 h tl (j + 1) _ _ hd2 (by rw [List.length_set]; exact h1) (by rw [List.length_set]; exact h2) fun i hi => ?_
    rw [getD_setI (by omega), getD_setI (by omega)]
    by_cases d : j = i
    · rw [if_pos d, if_pos d, ← d]; exact ⟨hx.symm, rfl⟩
    · rw [if_neg d, if_neg d]; exact h3 i (by omega)
theorem put_l2 (hq : ∀ x ∈ ns, x.1.length ≤ 1000) : ∀ (tl out : List (List Int × Int × Int)), (∀ x ∈ tl, x ∈ ns) → out.length + tl.length ≤ 1000 → round_Put_l2 tl out = some (out ++ tl)
  | [], out, _, _ => by simp [round_Put_l2]
  | x :: tl, out, hx, hl => by
    simp only [List.length_cons] at hl
    unfold round_Put_l2
    rw [cloneI_eq _ (hq x (hx x (by simp))), b1_some, ap_t (by simp; omega), put_l2 hq tl _ (fun z hz => hx z (by simp [hz])) (by simp; omega), List.append_assoc]
    rfl
theorem Put_eq (h : BtOK ws hs H st ns) {k : Nat} (hk : k < ns.length) {x : Int} (hx : 0 ≤ x ∧ x ≤ 200) : round_Put ws hs H st ns (k : Int) x = some (ws, hs, H, st, setH ns k x, 0) := by
  have hw := h.hw
  have h5 := h.hs1
  have h3 := h.hn
  have hH := h.hH
  have e1 := put_l1 h ws 0 (List.replicate ws.length []) (List.replicate hs.length []) rfl (by simp) (by simp) (fun i hi => absurd hi (Nat.not_lt_zero _))
  have e1' : round_Put_l1 hs ws 0 (List.replicate ws.length []) (List.replicate hs.length []) = some (ws, hs) := e1
  unfold round_Put
  rw [Check_eq h, b1_some, if_neg (by decide), notice_eq h, b1_some, decide_eq_true (by omega), if_neg (by decide), in_eq, b1_some, decide_eq_true hx, if_neg (by decide), gd_t ⟨by omega, by omega⟩, gd_t ⟨by omega, by omega⟩, bvE, bvE, Int.toNat_natCast, Int.toNat_natCast, e1', b2_some, put_l2 (fun x hx => nodup_len (h.note x hx).1.2.1 (h.note x hx).1.2.2 (by omega)) ns [] (fun x hx => hx) (by simp; omega), b1_some, List.nil_append, ixN ([], 0, 0) _ hk, bvE, Int.toNat_natCast]
  rfl
theorem best_iff (h : BtOK ws hs H st ns) (e : round_opened ws hs H st ns = some (some (ws, hs, H, st, ns, c, ps, hit), 0)) (hc : CrOK hs ns c ps hit) : (¬ Can c ns hit hs st (bdL ns 200) (2 ^ ps.length - 1) ∧ round_Best ws hs H st ns = some ([], 0, 6)) ∨
    ∃ l t, Can c ns hit hs st (bdL ns 200) (2 ^ ps.length - 1) ∧ round_Best ws hs H st ns = some (l, t, 0) ∧ Ser c ns hit hs st (bdL ns 200) (2 ^ ps.length - 1) l t ∧ (∀ l' es, CryOK hs.length ns.length l' → endsF c ns st 0 l' = some es → remF c ns hit (bdL ns 200) st 0 (2 ^ ps.length - 1) l' = 0 → t ≤ es.getLastD 0) := by
  rcases Best_eq h e hc with ⟨e1, h1⟩ | ⟨l, t, e1, h1, h2⟩
  · exact .inl ⟨fun q => by
      obtain ⟨l, t, q⟩ := (can_iff h hc).1 q
      exact h1 l t q, e1⟩
  · refine .inr ⟨l, t, (can_iff h hc).2 ⟨l, t, h1⟩, e1, h1, fun l' es q1 q2 q3 => ?_⟩
    obtain ⟨l2, t2, q4, q5⟩ := shorten0 h hc q1 q2 q3
    have := h2 l2 t2 q4
    omega
theorem decider (P : Nat → Prop) : ∃ D : Nat → Bool, ∀ v, D v = true ↔ P v := ⟨fun v => @decide _ (Classical.propDecidable (P v)), fun v => by simp⟩
end
end Go.Proofs.Ytfmapnhfamoecab.Rd
namespace Go.Proofs.Ytfmapnhfamoecab.Rd
open Go.PL Go.Proofs.Ytfmapnhfamoecab.Rv
section
variable {ws hs : List (List Int)} {H st : Int} {ns ns' : List (List Int × Int × Int)} {c : List Int} {ps : List (Int × Int)} {hit : List Int} {bd bd' : Nat → Int} {D D' : Nat → Bool} {S : Nat} {start : Int} {v0 : Nat}
theorem Pth.time (hc : Fin5 S c) (hS : S ≤ 5) (hw : ∀ x ∈ ns, NOK H x) {B : Int} (hB : 0 ≤ B) (hbd : ∀ n, n < ns.length → bd n ≤ B) {l : List (Int × Int)} {s : Int} {v : Nat} {t : Int} (h : Pth c ns hit bd S start v0 l s v t) : 0 ≤ t ∧ t ≤ B := by
  induction h with
  | nil => exact ⟨Int.le_refl _, hB⟩
  | @snoc l k v s n t h hk hs hn hne hv ih =>
    have hwr : 1 ≤ wrd ns n ∧ wrd ns n ≤ 5 := (hw _ (getD_mem (d := ([], 0, 0)) hn)).2.1
    have hr := hc.rng k s (by omega) (by omega)
    have h1 := hv.1
    have h2 := hv.2
    have h3 := hbd n hn
    omega
theorem Pth.early (hc : Fin5 S c) (hS : S ≤ 5) (hw : ∀ x ∈ ns, NOK H x) {l : List (Int × Int)} {s : Int} {v : Nat} {t : Int} (h : Pth c ns hit (bdL ns 200) S start v0 l s v t) : ∀ T, t ≤ T → T ≤ 200 → Pth c ns hit (bdL ns T) S start v0 l s v t := by
  induction h with
  | nil => exact fun _ _ _ => .nil
  | @snoc l k v s n t h hk hs hn hne hv ih =>
    intro T hT hT2
    have hwr : 1 ≤ wrd ns n ∧ wrd ns n ≤ 5 := (hw _ (getD_mem (d := ([], 0, 0)) hn)).2.1
    have hr := hc.rng k s (by omega) (by omega)
    have h1 := hv.1
    have h2 := hv.2
    refine .snoc (ih T (by omega) hT2) hk hs hn hne ⟨h1, ?_⟩
    unfold bdL at h2 ⊢
    by_cases d : (ns.getD n ([], 0, 0)).2.2 < 200
    · rw [if_pos d] at h2; split <;> omega
    · rw [if_neg d] at h2; split <;> omega
/-- The least of two hours. -/
def minH (k y : Int) : Int := if y < k then y else k
theorem sooner_l2 {minute n3 m : Int} (hmin : Int.tmod minute (n3 + 1) = m) (hm : 0 ≤ m ∧ m ≤ 200) {x : List (Int × Int)} (hend : ∀ ns', Lk ns ns' → BtOK ws hs H st ns' → (∀ i, i < ns.length → (ns'.getD i ([], 0, 0)).2.2 = minH m (ns.getD i ([], 0, 0)).2.2) → oyezlaw03_RoundSooner_j1 x ws hs H st ns' = some true) : ∀ (tl : List (List Int × Int × Int)) (j : Nat) (nj : List (List Int × Int × Int)), ns.drop j = tl → Lk ns nj → BtOK ws hs H st nj → (∀ i, i < ns.length → (nj.getD i ([], 0, 0)).2.2 = if i < j then minH m (ns.getD i ([], 0, 0)).2.2 else (ns.getD i ([], 0, 0)).2.2) →
    oyezlaw03_RoundSooner_l2 minute n3 x tl (j : Int) ws hs H st nj = some true
  | [], j, nj, hd, hk, hb, hv => by
    have hl : ns.length ≤ j := by
      have := congrArg List.length hd
      rw [List.length_drop, List.length_nil] at this; omega
    unfold oyezlaw03_RoundSooner_l2
    exact hend nj hk hb fun i hi => by rw [hv i hi, if_pos (by omega)]
  | y :: tl, j, nj, hd, hk, hb, hv => by
    obtain ⟨hj, hy, hd2⟩ := drop_cons ([], 0, 0) hd
    have hjl : j < nj.length := by rw [hk.len]; exact hj
    have hhr := (hb.note _ (getD_mem (d := ([], 0, 0)) hjl)).2.2
    have hvj := hv j hj
    rw [if_neg (by omega), hy] at hvj
    have hrng : 0 ≤ minH m y.2.2 ∧ minH m y.2.2 ≤ 200 := by
      have h1 : 0 ≤ (nj.getD j ([], 0, 0)).2.2 := hhr.1
      unfold minH; split <;> omega
    unfold oyezlaw03_RoundSooner_l2
    rw [hmin]
    have ep := Put_eq hb hjl hrng
    have ep' : round_Put ws hs H st nj (j : Int) (if y.2.2 < m then y.2.2 else m) = some (ws, hs, H, st, setH nj j (minH m y.2.2), 0) := ep
    rw [ep', b6_some, if_neg (by decide)]
    refine sooner_l2 hmin hm hend tl (j + 1) _ hd2 (hk.trans (setH_lk hjl _)) (setH_ok hb hjl hrng) fun i hi => ?_
    rw [setH_get hjl]
    by_cases d : j = i
    · rw [if_pos d, ← d, if_pos (by omega), hy]
    · rw [if_neg d, hv i hi]
      by_cases g : i < j
      · rw [if_pos g, if_pos (by omega)]
      · rw [if_neg g, if_neg (by omega)]
theorem sooner_true {numbers : List Int} {minute : Int} (hm : (numbers.length : Int) ≤ 9223372036854775807) (hmin : 0 ≤ minute ∧ minute ≤ 255) : oyezlaw03_RoundSooner numbers minute = some true := by
  unfold oyezlaw03_RoundSooner oyezkit_Hang
  obtain ⟨ws, hs, H, st, ns, a', t', e1, h, ha, _, _, _⟩ := made_ok (metal := numbers) (a := 0) (t := 0) (S := 4) (H := 3) (N := 2) ⟨by omega, by omega⟩ hm (by omega) (by omega) (by omega)
  obtain ⟨c, ps, hit, e, hc⟩ := opened_eq h
  have h9 := hc.nine h
  rw [b3_some, e1, b7_some]
  rcases best_iff h e hc with ⟨_, eb⟩ | ⟨l, t, _, eb, ⟨s, hp⟩, hbest⟩
  · rw [eb, b3_some, if_pos (by decide), if_pos rfl, awake_eq, b1_some]
  · have h200 : ∀ n, n < ns.length → bdL ns 200 n ≤ 200 := fun n _ => by unfold bdL; split <;> omega
    obtain ⟨t0, t1⟩ := hp.time hc.fin h.hs1.2 h.note (by decide) h200
    obtain ⟨m, hme⟩ : ∃ m, Int.tmod minute (t + 1) = m := ⟨_, rfl⟩
    have hmr : 0 ≤ m ∧ m ≤ t := by
      rw [← hme, Int.tmod_eq_emod_of_nonneg hmin.1]
      have q1 := Int.emod_lt_of_pos minute (show 0 < t + 1 by omega)
      have q2 := Int.emod_nonneg minute (show t + 1 ≠ 0 by omega)
      generalize minute % (t + 1) = z at q1 q2 ⊢
      omega
    obtain ⟨Dt, hDt⟩ := decider (Can c ns hit hs st (bdL ns t))
    obtain ⟨Dm, hDm⟩ := decider (Can c ns hit hs st (bdL ns m))
    have ht : Dt (2 ^ ps.length - 1) = true := (hDt _).2 ((can_iff h hc).2 ⟨l, t, s, hp.early hc.fin h.hs1.2 h.note t (Int.le_refl _) t1⟩)
    rw [eb, b3_some, if_neg (by decide), if_neg (by omega), decide_eq_false (by omega), b1_some, if_neg (by decide)]
    rcases Before_eq h e hc (m := t) ⟨t0, t1⟩ hDt with ⟨_, ex⟩ | ⟨q, _⟩
    · rw [ex, b2_some, if_neg (by decide), gd_t (r64_small (by omega)), gd_t (r64_small (by omega)), gd_t (by omega), hme]
      by_cases d : m = t
      · have e2 : ∃ x z, round_Before ws hs H st ns m = some (x, z) := by rw [d, ex]; exact ⟨_, _, rfl⟩
        obtain ⟨x, z, e2⟩ := e2
        rw [e2, b2_some, if_pos d, awake_eq, b1_some]
      · rcases Before_eq h e hc (m := m) (by omega) hDm with ⟨q, _⟩ | ⟨_, T, hT, hTD, _, ex2⟩
        · obtain ⟨l2, t2, s2, hp2⟩ := (can_iff h hc).1 ((hDm _).1 q)
          obtain ⟨_, g2⟩ := hp2.time hc.fin h.hs1.2 h.note hmr.1 (fun n _ => by unfold bdL; split <;> omega)
          obtain ⟨es, g3, g4, g5, g6, _⟩ := (show Ser c ns hit hs st (bdL ns m) _ l2 t2 from ⟨s2, hp2⟩).can
          have g7 := hbest l2 es g3 g4 (rem_zero.2 fun p hp => hit_mono (fun n _ => by unfold bdL; split <;> split <;> omega) l2 _ _ g3 (rem_zero.1 g5 p hp))
          omega
        · have hne : T.length ≠ 0 := fun h0 => by
            rw [List.eq_nil_of_length_eq_zero h0] at hTD
            have := (hDm 0).2 Can.zero
            rw [show setL [] 0 = 0 from rfl, this] at hTD; cases hTD
          have hsl := selP_len (ps := ps) T
          rw [ex2, b2_some, if_neg d, if_neg (by decide), decide_eq_false (by omega), b1_some, if_neg (by decide)]
          refine sooner_l2 hme (by omega) (fun ns' hk hb hv => ?_) ns 0 ns rfl (Lk.refl _) h (fun i hi => by rw [if_neg (by omega)])
          obtain ⟨e', hc'⟩ := opened_other h hb hk e
          have hD' : ∀ v, Dm v = true ↔ Can c ns' hit hs st (bdL ns' 200) v := fun v => by
            rw [hDm, can_other hk]
            have hle : ∀ n, n < ns.length → bdL ns' 200 n = bdL ns m n := fun n hn => by
              have h1 := hv n hn
              unfold minH at h1
              unfold bdL
              rw [h1]
              split <;> split <;> omega
            exact ⟨fun q => q.mono (fun n hn => by rw [hle n hn]; exact Int.le_refl _) fun _ z => z, fun q => q.mono (fun n hn => by rw [hle n hn]; exact Int.le_refl _) fun _ z => z⟩
          unfold oyezlaw03_RoundSooner_j1
          rw [Together_eq hb e' hc' hD' (up_nodup hT) (fun i hi => (hT.2 i hi).2), hTD, b2_some, if_pos rfl, if_pos (by decide), awake_eq, b1_some]
    · rw [ht] at q; cases q
end
end Go.Proofs.Ytfmapnhfamoecab.Rd
