/- A beat with some of its notices; in plain Lean. -/
import Derived.Test.YtfmapnhfamoecaaZFME
namespace Go.Proofs.Ytfmapnhfamoecaa.Rd
open Go.PL Go.Proofs.Ytfmapnhfamoecaa.Rv
theorem total_sub {a b : List (List Int × Int × Int)} (h : a.Sublist b) : total a ≤ total b := by
  induction h with
  | slnil => exact Nat.le_refl _
  | cons x h ih => unfold total at *; simp only [List.map_cons, List.sum_cons]; omega
  | cons_cons x h ih => unfold total at *; simp only [List.map_cons, List.sum_cons]; omega
theorem lastD_mem (x : Int) : ∀ es : List Int, es.getLastD x ∈ x :: es
  | [] => by simp
  | y :: es => by
    rw [List.getLastD_cons]
    exact List.mem_cons_of_mem _ (lastD_mem y es)
section
variable {ws hs : List (List Int)} {H st : Int} {ns : List (List Int × Int × Int)} {c : List Int} {ps ps' : List (Int × Int)} {hit hit' : List Int} {bd : Nat → Int} {I : List Nat}
theorem BtOK.sub {nk : List (List Int × Int × Int)} (h : BtOK ws hs H st ns) (hk : nk.Sublist ns) : BtOK ws hs H st nk :=
  ⟨h.hs1, h.hw, h.hH, h.hst, h.row, h.hear, Nat.le_trans hk.length_le h.hn, fun x hx => h.note x (hk.subset hx), Nat.le_trans (total_sub hk) h.tot⟩
theorem Pth.all {S : Nat} {start : Int} {v0 : Nat} {l : List (Int × Int)} {s : Int} {v : Nat} {t : Int} (h : Pth c ns hit bd S start v0 l s v t) : (∀ p, v.testBit p = true → v0.testBit p = true) ∧ ∀ x ∈ l, ∃ p, v0.testBit p = true ∧ (hb hit x.1.toNat x.2.toNat).testBit p = true := by
  induction h with
  | nil => exact ⟨fun _ h => h, fun _ h => (nomatch h)⟩
  | @snoc l k v s n t h hk hs hn hne hv ih =>
    refine ⟨fun p hp => ?_, fun x hx => ?_⟩
    · rw [bit_dif, Bool.and_eq_true_iff] at hp
      exact ih.1 p hp.1
    · rcases List.mem_append.1 hx with hx | hx
      · exact ih.2 x hx
      · rw [List.mem_singleton.1 hx]
        refine Classical.byContradiction fun hn' => hne (Nat.eq_of_testBit_eq fun p => ?_)
        rw [bit_dif]
        cases e : v.testBit p with
        | false => rfl
        | true =>
          cases e2 : (hb hit s n).testBit p with
          | false => rfl
          | true => exact absurd ⟨p, ih.1 p e, by rw [Int.toNat_natCast, Int.toNat_natCast]; exact e2⟩ hn'
def Rnd (c : List Int) (ns : List (List Int × Int × Int)) (hit : List Int) (hs : List (List Int)) (st : Int) (bd : Nat → Int) (v : Nat) (T : Int) : Prop := ∃ l es, CryOK hs.length ns.length l ∧ endsF c ns st 0 l = some es ∧ remF c ns hit bd st 0 v l = 0 ∧ es.getLastD 0 ≤ T
def MinT (c : List Int) (ns : List (List Int × Int × Int)) (hit : List Int) (hs : List (List Int)) (st : Int) (bd : Nat → Int) (v : Nat) (t : Int) : Prop := Rnd c ns hit hs st bd v t ∧ ∀ T, Rnd c ns hit hs st bd v T → t ≤ T
theorem Ser.min (h : BtOK ws hs H st ns) (hc : CrOK hs ns c ps hit) {v : Nat} {l : List (Int × Int)} {t : Int} (hs' : Ser c ns hit hs st bd v l t) (hm : ∀ l' t', Ser c ns hit hs st bd v l' t' → t ≤ t') : MinT c ns hit hs st bd v t := by
  obtain ⟨es, g1, g2, g3, g4, _⟩ := hs'.can
  refine ⟨⟨l, es, g1, g2, g3, by omega⟩, fun T ⟨l', es', q1, q2, q3, q4⟩ => ?_⟩
  obtain ⟨l2, t2, q5, q6⟩ := shorten0 h hc q1 q2 q3
  have := hm l2 t2 q5
  omega
theorem rnd_none (h : BtOK ws hs H st ns) (hc : CrOK hs ns c ps hit) {v : Nat} (hm : ∀ l t, ¬ Ser c ns hit hs st bd v l t) (T : Int) : ¬ Rnd c ns hit hs st bd v T := fun ⟨l', es', q1, q2, q3, q4⟩ => by
  obtain ⟨l2, t2, q5, q6⟩ := shorten0 h hc q1 q2 q3
  exact hm l2 t2 q5
theorem MinT.unique {v : Nat} {t t' : Int} (h : MinT c ns hit hs st bd v t) (h' : MinT c ns hit hs st bd v t') : t = t' := by
  have := h.2 t' h'.1
  have := h'.2 t h.1
  omega
theorem minT_fun : ∃ E : Nat → Option Int, ∀ v t, E v = some t ↔ MinT c ns hit hs st bd v t := by
  refine ⟨fun v => @dite _ (∃ t, MinT c ns hit hs st bd v t) (Classical.propDecidable _) (fun h => some (Classical.choose h)) fun _ => none, fun v t => ?_⟩
  by_cases h : ∃ t, MinT c ns hit hs st bd v t
  · simp only [dif_pos h]
    have hs' := Classical.choose_spec h
    exact ⟨fun e => by rw [← Option.some.inj e]; exact hs', fun q => by rw [hs'.unique q]⟩
  · simp only [dif_neg h]
    exact ⟨fun e => (nomatch e), fun q => absurd ⟨t, q⟩ h⟩
theorem serve_E (h : BtOK ws hs H st ns) (hc : CrOK hs ns c ps hit) {E : Nat → Option Int} (hE : ∀ v t, E v = some t ↔ MinT c ns hit hs st (bdL ns 200) v t) {v : Nat} (hv : v < 512) : ∃ l, round_crier_serve ws hs H st ns c ps hit (v : Int) (fun xx_ : Int × Int => round_crier_by_1 xx_.1 xx_.2 200 ws hs H st ns c ps hit) = some (l, (E v).getD 0, (E v).isSome) := by
  rcases serve_eq h hc (bd := bdL ns 200) (ok := fun xx_ : Int × Int => round_crier_by_1 xx_.1 xx_.2 200 ws hs H st ns c ps hit) (bdL_le (by decide)) (by_ok 200) hv with ⟨e, h1⟩ | ⟨l, s, t, e, h1, h2⟩
  · have hn : E v = none := by
      cases he : E v with
      | none => rfl
      | some t => exact absurd ((hE v t).1 he).1 (rnd_none h hc (fun l t ⟨s, q⟩ => h1 l s t q) t)
    exact ⟨[], by rw [e, hn]; rfl⟩
  · have hn : E v = some t := (hE v t).2 (Ser.min h hc ⟨s, h1⟩ fun l' t' ⟨s', q⟩ => h2 l' s' t' q)
    exact ⟨l, by rw [e, hn]; rfl⟩
end
end Go.Proofs.Ytfmapnhfamoecaa.Rd
namespace Go.Proofs.Ytfmapnhfamoecaa.Rd
open Go.PL Go.Proofs.Ytfmapnhfamoecaa.Rv
def whoL (N n : Nat) : List Int := (List.range N).map fun i => if n.testBit (N - 1 - i) then 1 else 0
theorem whoL_len (N n : Nat) : (whoL N n).length = N := by unfold whoL; simp
theorem whoL_get {N n i : Nat} (hi : i < N) : (whoL N n).getD i 0 = if n.testBit (N - 1 - i) then 1 else 0 := by
  unfold whoL
  rw [List.getD_eq_getElem?_getD, List.getElem?_map, List.getElem?_range hi]; rfl
def IL (w : List Int) (k : Int) : List Nat := (List.range w.length).filter fun i => decide (w.getD i 0 = k)
theorem IL_who (N n : Nat) : IL (whoL N n) 0 = (List.range N).filter (fun i => !n.testBit (N - 1 - i)) ∧ IL (whoL N n) 1 = (List.range N).filter fun i => n.testBit (N - 1 - i) := by
  unfold IL
  rw [whoL_len]
  refine ⟨List.filter_congr fun i hi => ?_, List.filter_congr fun i hi => ?_⟩
  · rw [whoL_get (List.mem_range.1 hi)]
    cases n.testBit (N - 1 - i) <;> rfl
  · rw [whoL_get (List.mem_range.1 hi)]
    cases n.testBit (N - 1 - i) <;> rfl
theorem toI_snoc (a : List Nat) (i : Nat) : toI a ++ [(i : Int)] = toI (a ++ [i]) := by unfold toI; simp
theorem toI_len (a : List Nat) : (toI a).length = a.length := by unfold toI; simp
theorem two_l2 {N n : Nat} (hN : N ≤ 3) (hn : n < 512) : ∀ (fu k : Nat) (who l3 l4 : List Int), k + fu = N → who.length = N → (∀ i, i < k → who.getD i 0 = if n.testBit (N - 1 - i) then 1 else 0) → l3 = toI ((List.range k).filter fun i => !n.testBit (N - 1 - i)) → l4 = toI ((List.range k).filter fun i => n.testBit (N - 1 - i)) →
    round_Two_l2 (n : Int) fu (k : Int) who l3 l4 = some (whoL N n, toI (IL (whoL N n) 0), toI (IL (whoL N n) 1))
  | 0, k, who, l3, l4, hk, hl, hw, h3, h4 => by
    have hkN : k = N := by omega
    subst hkN
    have he : who = whoL k n := getD_ext (d := 0) (by rw [whoL_len]; exact hl) fun t ht => by rw [hw t (by omega), whoL_get (by omega)]
    rw [(IL_who k n).1, (IL_who k n).2, ← h3, ← h4, ← he]
    rfl
  | fu + 1, k, who, l3, l4, hk, hl, hw, h3, h4 => by
    have hil : (who.length : Int) - 1 - (k : Int) = ((N - 1 - k : Nat) : Int) := by omega
    have hl3 : l3.length ≤ 100 := by
      rw [h3, toI_len]
      have := List.length_filter_le (fun i => !n.testBit (N - 1 - i)) (List.range k)
      rw [List.length_range] at this; omega
    have hl4 : l4.length ≤ 100 := by
      rw [h4, toI_len]
      have := List.length_filter_le (fun i => n.testBit (N - 1 - i)) (List.range k)
      rw [List.length_range] at this; omega
    unfold round_Two_l2
    rw [gd_t (r64_small (by omega)), gd_t (r64_small (by omega)), gd_t (by omega), ixI _ (by omega), bvE, hil, bit_nat (by omega), Int.toNat_natCast]
    have hset : ∀ x : Int, (who.set k x).length = N ∧ ((who.set k x).getD k 0 = x) := fun x => ⟨by rw [List.length_set]; exact hl, by rw [getD_setI (by omega), if_pos rfl]⟩
    have hw' : ∀ x : Int, x = (if n.testBit (N - 1 - k) then 1 else 0) → ∀ i, i < k + 1 → (who.set k x).getD i 0 = if n.testBit (N - 1 - i) then 1 else 0 := fun x hx i hi => by
      rw [getD_setI (by omega)]
      by_cases d : k = i
      · rw [if_pos d, hx, d]
      · rw [if_neg d]; exact hw i (by omega)
    rw [ixI _ (by rw [List.length_set]; omega), (hset _).2]
    obtain ⟨x, hx⟩ : ∃ x : Int, (if n.testBit (N - 1 - k) = true then 1 else 0) = x := ⟨_, rfl⟩
    rw [hx]
    cases hb : n.testBit (N - 1 - k) with
    | false =>
      rw [hb] at hx
      obtain rfl : x = 0 := hx.symm
      rw [if_pos rfl, ap_t (by simp; omega)]
      refine two_l2 hN hn fu (k + 1) _ _ _ (by omega) (hset _).1 (hw' 0 (by rw [hb]; rfl)) ?_ ?_
      · rw [List.range_succ, List.filter_append, h3, toI_snoc]
        simp [hb]
      · rw [List.range_succ, List.filter_append, h4]
        simp [hb]
    | true =>
      rw [hb] at hx
      obtain rfl : x = 1 := hx.symm
      rw [if_neg (by decide), gd_t (by decide), ap_t (by simp; omega), gd_t (by decide)]
      refine two_l2 hN hn fu (k + 1) _ _ _ (by omega) (hset _).1 (hw' 1 (by rw [hb]; rfl)) ?_ ?_
      · rw [List.range_succ, List.filter_append, h3]
        simp [hb]
      · rw [List.range_succ, List.filter_append, h4, toI_snoc]
        simp [hb]
def valW (E : Nat → Option Int) (ps : List (Int × Int)) (w : List Int) : Option Int := match E (ofB ps (toI (IL w 0))), E (ofB ps (toI (IL w 1))) with
  | some x, some y => some (if y > x then y else x)
  | _, _ => none
def TwoP (V : Nat → Option Int) (W : Nat → List Int) (k : Nat) (out : List Int) (best : Int) : Prop := (best = -1 ∧ out = [] ∧ ∀ n, n < k → V n = none) ∨ ∃ n, n < k ∧ out = W n ∧ V n = some best ∧ 0 ≤ best ∧ (∀ n' t, n' < k → V n' = some t → best ≤ t) ∧ ∀ n' t, n' < n → V n' = some t → best < t
section
variable {ws hs : List (List Int)} {H st : Int} {ns : List (List Int × Int × Int)} {c : List Int} {ps : List (Int × Int)} {hit : List Int} {E : Nat → Option Int}
theorem E_pos (h : BtOK ws hs H st ns) (hc : CrOK hs ns c ps hit) (hE : ∀ v t, E v = some t ↔ MinT c ns hit hs st (bdL ns 200) v t) {v : Nat} {t : Int} (he : E v = some t) : 0 ≤ t := by
  obtain ⟨⟨l, es, g1, g2, _, g4⟩, _⟩ := (hE v t).1 he
  have := (ends_pos hc.fin h.hs1.2 h.note l st 0 es g1 h.hst (Int.le_refl _) g2).1
  cases es with
  | nil => exact g4
  | cons x es => exact Int.le_trans (this _ (by rw [List.getLastD_cons]; exact lastD_mem x es)) g4
theorem val_pos (h : BtOK ws hs H st ns) (hc : CrOK hs ns c ps hit) (hE : ∀ v t, E v = some t ↔ MinT c ns hit hs st (bdL ns 200) v t) {w : List Int} {t : Int} (he : valW E ps w = some t) : 0 ≤ t := by
  unfold valW at he
  cases h0 : E (ofB ps (toI (IL w 0))) with
  | none => rw [h0] at he; cases he
  | some x =>
    cases h1 : E (ofB ps (toI (IL w 1))) with
    | none => rw [h0, h1] at he; cases he
    | some y =>
      rw [h0, h1] at he
      have e := Option.some.inj he
      have := E_pos h hc hE h0
      have := E_pos h hc hE h1
      rw [← e]; split <;> omega
theorem two_l1 (h : BtOK ws hs H st ns) (hc : CrOK hs ns c ps hit) (hE : ∀ v t, E v = some t ↔ MinT c ns hit hs st (bdL ns 200) v t) : ∀ (fu k : Nat) (out : List Int) (best : Int), k + fu ≤ 8 → TwoP (fun n => valW E ps (whoL ns.length n)) (whoL ns.length) k out best →
    ∃ out' best', round_Two_l1 ns (some (ws, hs, H, st, ns, c, ps, hit)) fu (k : Int) out best = some (out', best') ∧ TwoP (fun n => valW E ps (whoL ns.length n)) (whoL ns.length) (k + fu) out' best'
  | 0, k, out, best, _, hp => ⟨out, best, rfl, hp⟩
  | fu + 1, k, out, best, hk, hp => by
    have h9 := hc.nine h
    have h3 := h.hn
    have hpn := pow_nine h9
    have e2 := two_l2 (N := ns.length) (n := k) h3 (by omega) ns.length 0 (List.replicate ns.length 0) [] [] (by omega) (by simp) (fun i hi => absurd hi (Nat.not_lt_zero _)) rfl rfl
    have e2' : round_Two_l2 (k : Int) (Int.toNat ((ns.length : Int) - 0)) 0 (List.replicate ns.length 0) [] [] = some (whoL ns.length k, toI (IL (whoL ns.length k) 0), toI (IL (whoL ns.length k) 1)) := by
      rw [show Int.toNat ((ns.length : Int) - 0) = ns.length by omega]; exact e2
    have l0 := ofB_lt ps (toI (IL (whoL ns.length k) 0))
    have l1 := ofB_lt ps (toI (IL (whoL ns.length k) 1))
    obtain ⟨la, ea⟩ := serve_E h hc hE (v := ofB ps (toI (IL (whoL ns.length k) 0))) (by omega)
    obtain ⟨lb, eb⟩ := serve_E h hc hE (v := ofB ps (toI (IL (whoL ns.length k) 1))) (by omega)
    have go : ∀ out3 best3, TwoP (fun n => valW E ps (whoL ns.length n)) (whoL ns.length) (k + 1) out3 best3 → ∃ out' best', round_Two_l1 ns (some (ws, hs, H, st, ns, c, ps, hit)) fu ((k : Int) + 1) out3 best3 = some (out', best') ∧ TwoP (fun n => valW E ps (whoL ns.length n)) (whoL ns.length) (k + (fu + 1)) out' best' := fun out3 best3 h3' => by
      obtain ⟨o, b, q1, q2⟩ := two_l1 h hc hE fu (k + 1) out3 best3 (by omega) h3'
      exact ⟨o, b, q1, by rw [show k + (fu + 1) = k + 1 + fu by omega]; exact q2⟩
    have skip : (∀ t, valW E ps (whoL ns.length k) = some t → best ≠ -1 ∧ best ≤ t) → TwoP (fun n => valW E ps (whoL ns.length n)) (whoL ns.length) (k + 1) out best := fun hv => by
      rcases hp with ⟨q1, q2, q3⟩ | ⟨n, q1, q2, q3, q4, q5, q6⟩
      · refine .inl ⟨q1, q2, fun n hn => ?_⟩
        by_cases d : n = k
        · subst d
          cases hvv : valW E ps (whoL ns.length n) with
          | none => exact hvv
          | some t => exact absurd q1 (hv t hvv).1
        · exact q3 n (by omega)
      · refine .inr ⟨n, by omega, q2, q3, q4, fun n' t hn' hv' => ?_, q6⟩
        by_cases d : n' = k
        · subst d; exact (hv t hv').2
        · exact q5 n' t (by omega) hv'
    unfold round_Two_l1
    rw [gd_t ⟨by omega, by omega⟩, bvE, Int.toNat_natCast, gd_t ⟨r64_small (by omega), r64_small (by rw [List.length_replicate]; omega)⟩, List.length_replicate, e2', b3_some, b8_some, of_eq h9, b1_some]
    unfold round_crier_hours round_crier_by
    rw [b1_some, b1_some, ea, b3_some, of_eq h9, b1_some, b1_some, eb, b3_some]
    have hvv : valW E ps (whoL ns.length k) = match E (ofB ps (toI (IL (whoL ns.length k) 0))), E (ofB ps (toI (IL (whoL ns.length k) 1))) with | some x, some y => some (if y > x then y else x) | _, _ => none := rfl
    cases h0 : E (ofB ps (toI (IL (whoL ns.length k) 0))) with
    | none =>
      rw [h0] at hvv
      rw [if_neg (by decide), b1_some, if_neg (by decide), b2_some]
      exact go out best (skip fun t q => by rw [hvv] at q; cases q)
    | some x =>
      cases h1 : E (ofB ps (toI (IL (whoL ns.length k) 1))) with
      | none =>
        rw [h0, h1] at hvv
        rw [if_pos (show (some x).isSome = true from rfl), if_neg (by decide), b1_some, if_neg (by decide), b2_some]
        exact go out best (skip fun t q => by rw [hvv] at q; cases q)
      | some y =>
        rw [h0, h1] at hvv
        have hx0 := val_pos h hc hE hvv
        have take : (∀ n' t, n' < k → valW E ps (whoL ns.length n') = some t → (if y > x then y else x) < t) → TwoP (fun n => valW E ps (whoL ns.length n)) (whoL ns.length) (k + 1) (whoL ns.length k) (if y > x then y else x) := fun hlt => .inr ⟨k, by omega, rfl, hvv, hx0, fun n' t hn' hv' => by
          by_cases d : n' = k
          · subst d
            have hv2 : valW E ps (whoL ns.length n') = some t := hv'
            rw [hvv] at hv2
            have hv3 : (if y > x then y else x) = t := Option.some.inj hv2
            rw [hv3]; exact Int.le_refl _
          · exact Int.le_of_lt (hlt n' t (by omega) hv'), hlt⟩
        rw [if_pos (show (some x).isSome = true from rfl), if_pos (show (some y).isSome = true from rfl)]
        show ∃ out' best', b2 (b1 (if best = -1 then some true else some (decide ((if y > x then y else x) < best))) fun k3 => if k3 = true then some (whoL ns.length k, if y > x then y else x) else some (out, best)) _ = some (out', best') ∧ _
        generalize hz : (if y > x then y else x) = z at hvv take
        by_cases d : best = -1
        · rw [if_pos d, b1_some, if_pos rfl, b2_some]
          refine go _ _ (take fun n' t hn' hv' => ?_)
          rcases hp with ⟨q1, q2, q3⟩ | ⟨n, q1, q2, q3, q4, q5, q6⟩
          · have hv2 : valW E ps (whoL ns.length n') = none := q3 n' hn'
            have hv3 : valW E ps (whoL ns.length n') = some t := hv'
            rw [hv3] at hv2; cases hv2
          · omega
        · rw [if_neg d, b1_some]
          by_cases g : z < best
          · rw [if_pos (decide_eq_true g), b2_some]
            refine go _ _ (take fun n' t hn' hv' => ?_)
            rcases hp with ⟨q1, q2, q3⟩ | ⟨n, q1, q2, q3, q4, q5, q6⟩
            · exact absurd q1 d
            · have := q5 n' t hn' hv'
              omega
          · rw [if_neg (by simpa using g), b2_some]
            refine go _ _ (skip fun t hv' => ⟨d, ?_⟩)
            rw [hvv] at hv'
            have hv3 : (if y > x then y else x) = t := Option.some.inj hv'
            rw [hz] at hv3
            omega
theorem Two_eq (h : BtOK ws hs H st ns) (e : round_opened ws hs H st ns = some (some (ws, hs, H, st, ns, c, ps, hit), 0)) (hc : CrOK hs ns c ps hit) (hE : ∀ v t, E v = some t ↔ MinT c ns hit hs st (bdL ns 200) v t) :
    ∃ out best, TwoP (fun n => valW E ps (whoL ns.length n)) (whoL ns.length) (2 ^ ns.length) out best ∧ round_Two ws hs H st ns = some (if best = -1 then ([], 0, 6) else (out, best, 0)) := by
  have h3 := h.hn
  have hp8 : (2 : Nat) ^ ns.length ≤ 2 ^ 3 := Nat.pow_le_pow_right (by decide) h3
  have h8 : (2 : Nat) ^ 3 = 8 := by decide
  obtain ⟨out, best, e1, h1⟩ := two_l1 h hc hE (2 ^ ns.length) 0 [] (-1) (by omega) (.inl ⟨rfl, rfl, fun n hn => absurd hn (Nat.not_lt_zero _)⟩)
  rw [Nat.zero_add] at h1
  refine ⟨out, best, h1, ?_⟩
  have e1' : round_Two_l1 ns (some (ws, hs, H, st, ns, c, ps, hit)) (Int.toNat (((2 ^ ns.length : Nat) : Int) - 0)) 0 [] (-1) = some (out, best) := by
    rw [Int.sub_zero, Int.toNat_natCast]; exact e1
  unfold round_Two
  rw [e, b2_some, if_neg (by decide), gd_t (shl_r (by omega)), gd_t ⟨r64_small (by omega), (shl_r (by omega)).2⟩, shl_nat, e1', b2_some]
  by_cases d : best = -1
  · rw [if_pos d, if_pos d]
  · rw [if_neg d, if_neg d]
end
end Go.Proofs.Ytfmapnhfamoecaa.Rd
namespace Go.Proofs.Ytfmapnhfamoecaa.Rd
open Go.PL Go.Proofs.Ytfmapnhfamoecaa.Rv
theorem copyI_eq (l : List Int) (hl : l.length ≤ 1000) : oyezkit_Copy_int l = some l := by
  unfold oyezkit_Copy_int
  rw [gd_t ⟨by omega, by omega⟩, bvE, bvE, Int.toNat_natCast, cpyR]
theorem copyN_eq (l : List (List Int × Int × Int)) (hl : l.length ≤ 1000) : oyezkit_Copy_Notice l = some l := by
  unfold oyezkit_Copy_Notice
  rw [gd_t ⟨by omega, by omega⟩, bvE, bvE, Int.toNat_natCast, cpyR]
theorem rows_l1 {l : List (List Int)} (hr : ∀ x ∈ l, x.length ≤ 1000) : ∀ (tl : List (List Int)) (k : Nat) (out : List (List Int)), l.drop k = tl → out.length = l.length → (∀ i, i < k → out.getD i [] = l.getD i []) → oyezkit_CopyRows_int_l1 tl (k : Int) out = some l
  | [], k, out, hd, h1, h2 => by
    have hl : l.length ≤ k := by
      have := congrArg List.length hd
      rw [List.length_drop, List.length_nil] at this; omega
    rw [getD_ext (d := []) h1 fun t ht => h2 t (by omega)]
    rfl
  | x :: tl, k, out, hd, h1, h2 => by
    obtain ⟨hk, hx, hd2⟩ := drop_cons [] hd
    unfold oyezkit_CopyRows_int_l1
    rw [copyI_eq x (hr x (by rw [← hx]; exact getD_mem hk)), b1_some, ixN [] _ (by omega), bvE, Int.toNat_natCast]
    refine rows_l1 hr tl (k + 1) _ hd2 (by rw [List.length_set]; exact h1) fun i hi => ?_
    rw [getD_setI (by omega)]
    by_cases d : k = i
    · rw [if_pos d, ← d, hx]
    · rw [if_neg d]; exact h2 i (by omega)
theorem rows_eq {l : List (List Int)} (hl : l.length ≤ 1000) (hr : ∀ x ∈ l, x.length ≤ 1000) : oyezkit_CopyRows_int l = some l := by
  have e := rows_l1 hr l 0 (List.replicate l.length []) rfl (by simp) (fun i hi => absurd hi (Nat.not_lt_zero _))
  have e' : oyezkit_CopyRows_int_l1 l 0 (List.replicate l.length []) = some l := e
  unfold oyezkit_CopyRows_int
  rw [gd_t ⟨by omega, by omega⟩, bvE, Int.toNat_natCast, e', b1_some]
section
variable {ws hs : List (List Int)} {H st : Int} {ns : List (List Int × Int × Int)} {c : List Int} {ps : List (Int × Int)} {hit : List Int} {E : Nat → Option Int}
theorem own_l1 (hq : ∀ x ∈ ns, x.1.length ≤ 1000) : ∀ (fu k : Nat), k + fu = ns.length → oyezlaw03_Own_l1 fu (k : Int) ns = some ns
  | 0, _, _ => rfl
  | fu + 1, k, hk => by
    have hm : ns.getD k ([], 0, 0) ∈ ns := getD_mem (by omega)
    have hs' : ns.set k ((ns.getD k ([], 0, 0)).1, (ns.getD k ([], 0, 0)).2.1, (ns.getD k ([], 0, 0)).2.2) = ns := by
      refine getD_ext (d := ([], 0, 0)) (List.length_set ..) fun t ht => ?_
      rw [List.length_set] at ht
      rw [getD_setI (by omega)]
      by_cases d : k = t
      · rw [if_pos d, ← d]
      · rw [if_neg d]
    unfold oyezlaw03_Own_l1
    rw [ixN ([], 0, 0) _ (by omega), copyI_eq _ (hq _ hm), b1_some, bvE, Int.toNat_natCast, hs']
    exact own_l1 hq fu (k + 1) (by omega)
theorem Own_eq (h : BtOK ws hs H st ns) : oyezlaw03_Own ws hs H st ns = some (ws, hs, H, st, ns) := by
  have hw := h.hw
  have h5 := h.hs1.2
  have h3 := h.hn
  have hH := h.hH.2
  have e := own_l1 (fun x hx => nodup_len (h.note x hx).1.2.1 (h.note x hx).1.2.2 hH) ns.length 0 (by omega)
  have e' : oyezlaw03_Own_l1 (Int.toNat ((ns.length : Int) - 0)) 0 ns = some ns := by
    rw [show Int.toNat ((ns.length : Int) - 0) = ns.length by omega]; exact e
  unfold oyezlaw03_Own
  rw [rows_eq (by omega) (fun x hx => by
    obtain ⟨i, hi, rfl⟩ := List.getElem_of_mem hx
    have := (h.row i hi).1
    rw [List.getD_eq_getElem?_getD, List.getElem?_eq_getElem hi, Option.getD_some] at this
    omega), b1_some, rows_eq (by omega) (fun x hx => nodup_len (h.hear x hx).1 (h.hear x hx).2 hH), b1_some, copyN_eq ns (by omega), b1_some, gd_t ⟨r64_small (by omega), r64_small (by omega)⟩, e', b1_some]
end
end Go.Proofs.Ytfmapnhfamoecaa.Rd
