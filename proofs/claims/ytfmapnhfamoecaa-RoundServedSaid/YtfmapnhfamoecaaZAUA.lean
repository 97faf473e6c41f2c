/- RoundServed; in plain Lean. -/
import Derived.Test.YtfmapnhfamoecaaZASZ
namespace Go.Proofs.Ytfmapnhfamoecaa.Rd
open Go.PL Go.Proofs.Ytfmapnhfamoecaa.Rv
theorem awake_eq : oyezlaw03_awake = some true := by decide +kernel
/-- A round that serves all. -/
def Full (c : List Int) (ns : List (List Int × Int × Int)) (hit : List Int) (st : Int) (P : Nat) (l : List (Int × Int)) (m : Int) : Prop := ∃ es, endsF c ns st 0 l = some es ∧ remF c ns hit (bdL ns 200) st 0 (2 ^ P - 1) l = 0 ∧ es.getLastD 0 = m
section
variable {ws hs : List (List Int)} {H st : Int} {ns : List (List Int × Int × Int)} {c : List Int} {ps : List (Int × Int)} {hit : List Int} {bd : Nat → Int} {D : Nat → Bool}
theorem lastD_get {es : List Int} {n : Nat} (hn : es.length = n + 1) : es.getD n 0 = es.getLastD 0 := by
  have hne : es ≠ [] := fun h => by rw [h] at hn; cases hn
  rw [List.getLastD_eq_getLast?, List.getLast?_eq_getElem?, List.getD_eq_getElem?_getD, hn]; rfl
theorem last_eq (h : BtOK ws hs H st ns) (e : round_opened ws hs H st ns = some (some (ws, hs, H, st, ns, c, ps, hit), 0)) (hc : CrOK hs ns c ps hit) {l : List (Int × Int)} (hl : CryOK hs.length ns.length l) (h20 : l.length ≤ 20) :
    ∃ m is, oyezlaw03_last ws hs H st ns l = some (m, is) ∧ (is = true → Full c ns hit st ps.length l m) ∧ (is = false → ∀ m', ¬ Full c ns hit st ps.length l m') := by
  unfold oyezlaw03_last
  rw [Ends_eq h e hc hl h20]
  rcases Heard_eq h e hc hl h20 with ⟨h1, h2⟩ | ⟨es, L, h1, h2, h3, h4, h5⟩
  · have h6 : round_Missed ws hs H st ns l = some ([], 6) := by
      unfold round_Missed; rw [h2, b2_some, if_pos (by decide)]
    rw [h1, h6]
    refine ⟨0, false, rfl, fun h => (nomatch h), fun _ m' ⟨es, q, _⟩ => ?_⟩
    rw [h1] at q; cases q
  · rw [h1, Missed_eq h e hc h2 h3]
    dsimp only
    rw [b2_some, b2_some, if_neg (by decide), if_neg (by decide)]
    have hall := mss_all h hc hl h1 h4 h3
    by_cases hm : ps.filter (mss ns L) = []
    · have hr := hall.1 hm
      rw [if_neg (by rw [hm]; simp), b1_some, if_neg (by simp [h5])]
      by_cases hz : l.length = 0
      · rw [if_pos (by omega)]
        refine ⟨0, true, rfl, fun _ => ⟨es, h1, hr, ?_⟩, fun h => (nomatch h)⟩
        rw [List.eq_nil_of_length_eq_zero (h5.trans hz)]; rfl
      · rw [if_neg (by omega), gd_t (r64_small (by omega)), show (l.length : Int) - 1 = ((l.length - 1 : Nat) : Int) by omega, ixI _ (by omega)]
        exact ⟨_, true, rfl, fun _ => ⟨es, h1, hr, (lastD_get (by omega)).symm⟩, fun h => (nomatch h)⟩
    · have hpos : 0 < (ps.filter (mss ns L)).length := List.length_pos_iff.2 hm
      rw [if_pos (by omega), b1_some, if_pos rfl]
      refine ⟨0, false, rfl, fun h => (nomatch h), fun _ m' ⟨es', q, q2, _⟩ => ?_⟩
      rw [h1] at q
      obtain rfl := Option.some.inj q
      exact hm (hall.2 q2)
theorem gone_l1 {metal : List Int} (hm : (metal.length : Int) ≤ 9223372036854775807) (h5 : 1 ≤ hs.length ∧ hs.length ≤ 5) (h3 : ns.length ≤ 3) : ∀ (fu : Nat) (a t : Int) (out : List (Int × Int)), BellA metal a → out.length + fu ≤ 100 → CryOK hs.length ns.length out → ∃ out' a' t', oyezlaw03_gone_l1 metal hs ns fu a t out = some (out', a', t') ∧ BellA metal a' ∧ CryOK hs.length ns.length out' ∧ out'.length ≤ out.length + fu
  | 0, a, t, out, ha, _, ho => ⟨out, a, t, rfl, ha, ho, Nat.le_refl _⟩
  | fu + 1, a, t, out, ha, hl, ho => by
    unfold oyezlaw03_gone_l1
    by_cases hn : 0 < ns.length
    · obtain ⟨n2, a2, t2, e2, p1, p2, p3⟩ := stroke_ok (t := t) (n := (hs.length : Int) - 1) ha hm (by omega)
      obtain ⟨n3, a3, t3, e3, q1, q2, q3⟩ := stroke_ok (t := t2) (n := (ns.length : Int) - 1) p3 hm (by omega)
      rw [if_pos (by omega), gd_t (r64_small (by omega)), gd_t (r64_small (by omega)), e2, b3_some, e3, b3_some, ap_t (by simp; omega)]
      obtain ⟨out', a', t', g1, g2, g3, g4⟩ := gone_l1 hm h5 h3 fu a3 t3 (out ++ [(n2, n3)]) q3 (by simp; omega) (fun x hx => by
        rcases List.mem_append.1 hx with hx | hx
        · exact ho x hx
        · rw [List.mem_singleton.1 hx]
          exact ⟨⟨p1, by show n2 < _; omega⟩, ⟨q1, by show n3 < _; omega⟩⟩)
      rw [List.length_append, List.length_singleton] at g4
      exact ⟨out', a', t', g1, g2, g3, by omega⟩
    · rw [if_neg (by omega)]
      obtain ⟨out', a', t', g1, g2, g3, g4⟩ := gone_l1 hm h5 h3 fu a t out ha (by omega) ho
      exact ⟨out', a', t', g1, g2, g3, by omega⟩
theorem cries_ok {metal : List Int} (hm : (metal.length : Int) ≤ 9223372036854775807) (h : BtOK ws hs H st ns) {a t : Int} (ha : BellA metal a) {n : Int} (hn : 0 ≤ n ∧ n ≤ 20) : ∃ l a' t', oyezlaw03_gone metal a t ws hs H st ns n = some (l, a', t') ∧ BellA metal a' ∧ CryOK hs.length ns.length l ∧ l.length ≤ 20 := by
  obtain ⟨v, a1, t1, e1, p1, p2, p3⟩ := stroke_ok (t := t) (n := n) ha hm (by omega)
  obtain ⟨l, a', t', g1, g2, g3, g4⟩ := gone_l1 hm h.hs1 h.hn v.toNat a1 t1 [] p3 (by simp; omega) (fun x hx => (nomatch hx))
  unfold oyezlaw03_gone
  rw [e1, b3_some, gd_t ⟨r64_small (by omega), r64_small (by omega)⟩, show Int.toNat (v - 0) = v.toNat by omega, g1, b3_some]
  exact ⟨l, a', t', rfl, g2, g3, by rw [List.length_nil] at g4; omega⟩
theorem copyP_eq (l : List (Int × Int)) (hl : l.length ≤ 1000) : oyezkit_Copy_Pair l = some l := by
  unfold oyezkit_Copy_Pair
  rw [gd_t ⟨by omega, by omega⟩, bvE, bvE, Int.toNat_natCast]
  congr 1
  unfold cpy; simp
theorem selP_take (T : List Nat) (k : Nat) : (selP ps T).take k = selP ps (T.take k) := List.map_take.symm
theorem selP_drop (T : List Nat) (k : Nat) : (selP ps T).drop k = selP ps (T.drop k) := List.map_drop.symm
theorem selP_app (T U : List Nat) : selP ps T ++ selP ps U = selP ps (T ++ U) := List.map_append.symm
theorem selP_len (T : List Nat) : (selP ps T).length = T.length := List.length_map ..
/-- Without one of them. -/
theorem up_without {n f k : Nat} {T : List Nat} (h : Up n f T) : Up n f (T.take k ++ T.drop (k + 1)) := by
  have hs' : (T.take k ++ T.drop (k + 1)).Sublist T := by
    have : T.take k ++ T.drop (k + 1) = T.eraseIdx k := (List.eraseIdx_eq_take_drop_succ ..).symm
    rw [this]; exact List.eraseIdx_sublist ..
  exact ⟨h.1.sublist hs', fun i hi => h.2 i (hs'.subset hi)⟩
theorem sl_to {α : Type} (l : List α) (k : Nat) : sl l (k : Int) (l.length : Int) = l.drop k := by
  unfold sl; simp
theorem srvdLaw_l5 (h : BtOK ws hs H st ns) (e : round_opened ws hs H st ns = some (some (ws, hs, H, st, ns, c, ps, hit), 0)) (hc : CrOK hs ns c ps hit) (hD : ∀ v, D v = true ↔ Can c ns hit hs st (bdL ns 200) v) {T : List Nat} (hT : Up ps.length 0 T) (hmin : ∀ T', Up ps.length 0 T' → D (setL T' 0) = false → T.length ≤ T'.length) : ∀ (tl : List (Int × Int)) (k : Nat), k + tl.length = T.length → oyezlaw03_RoundServed_l5 ws hs H st ns (selP ps T) tl (k : Int) = some true
  | [], k, _ => by
    unfold oyezlaw03_RoundServed_l5 oyezlaw03_RoundServed_j4
    rw [awake_eq, b1_some]
  | x :: tl, k, hk => by
    rw [List.length_cons] at hk
    have h9 := hc.nine h
    have hTl := hT.len
    have hl := selP_len (ps := ps) T
    have hw := up_without (k := k) hT
    have hwl : (T.take k ++ T.drop (k + 1)).length + 1 = T.length := by
      rw [List.length_append, List.length_take, List.length_drop]; omega
    have hd : D (setL (T.take k ++ T.drop (k + 1)) 0) = true := by
      cases hd : D (setL (T.take k ++ T.drop (k + 1)) 0) with
      | true => rfl
      | false => have := hmin _ hw hd; omega
    unfold oyezlaw03_RoundServed_l5
    rw [gd_t (by omega), bvE, gd_t (by omega), bvE, sl_take, Int.toNat_natCast, show (k : Int) + 1 = ((k + 1 : Nat) : Int) from rfl, sl_to, selP_take, selP_drop, copyP_eq _ (by rw [selP_len, List.length_take]; omega), b1_some, ap_t (by rw [selP_app, selP_len]; omega), selP_app, Together_eq h e hc hD (up_nodup hw) (fun i hi => (hw.2 i hi).2), b2_some, if_neg (by decide), hd, b1_some, if_neg (by decide)]
    exact srvdLaw_l5 h e hc hD hT hmin tl (k + 1) (by omega)
theorem srvdLaw_l3 {metal : List Int} (hm : (metal.length : Int) ≤ 9223372036854775807) (h : BtOK ws hs H st ns) (e : round_opened ws hs H st ns = some (some (ws, hs, H, st, ns, c, ps, hit), 0)) (hc : CrOK hs ns c ps hit) {n3 n4 : Int} {x : List (Int × Int)} (hbest : ∀ l m, CryOK hs.length ns.length l → Full c ns hit st ps.length l m → n4 = 0 ∧ n3 ≤ m) (hend : oyezlaw03_RoundServed_j2 ws hs H st ns n4 x = some true) : ∀ (fu : Nat) (a t : Int), BellA metal a → oyezlaw03_RoundServed_l3 ws hs H st ns metal n3 n4 x fu a t = some true
  | 0, a, t, _ => by unfold oyezlaw03_RoundServed_l3; exact hend
  | fu + 1, a, t, ha => by
    obtain ⟨l, a', t', e1, h1, h2, h3⟩ := cries_ok (t := t) hm h ha (n := 6) (by omega)
    obtain ⟨m, is, e2, h4, _⟩ := last_eq h e hc h2 h3
    unfold oyezlaw03_RoundServed_l3
    rw [e1, b3_some, e2, b2_some]
    have key : (if is = true then (if n4 ≠ 0 then some true else some (decide (m < n3))) else some false) = some false := by
      cases is with
      | false => rfl
      | true =>
        obtain ⟨h5, h6⟩ := hbest l m h2 (h4 rfl)
        rw [if_pos rfl, if_neg (by omega), decide_eq_false (by omega)]
    rw [key, b1_some, if_neg (by decide)]
    exact srvdLaw_l3 hm h e hc hbest hend fu a' t' h1
theorem served_true {numbers tries : List Int} (hm : (numbers.length : Int) ≤ 9223372036854775807) (hm2 : (tries.length : Int) ≤ 9223372036854775807) : oyezlaw03_RoundServed numbers tries = some true := by
  unfold oyezlaw03_RoundServed oyezkit_Hang
  obtain ⟨ws, hs, H, st, ns, a', t', e1, h, ha, _, _, _⟩ := made_ok (metal := numbers) (a := 0) (t := 0) (S := 4) (H := 4) (N := 3) ⟨by omega, by omega⟩ hm (by omega) (by omega) (by omega)
  obtain ⟨c, ps, hit, e, hc⟩ := opened_eq h
  have hDe : ∃ D : Nat → Bool, ∀ v, D v = true ↔ Can c ns hit hs st (bdL ns 200) v := ⟨fun v => @decide _ (Classical.propDecidable (Can c ns hit hs st (bdL ns 200) v)), fun v => by simp⟩
  obtain ⟨D, hD⟩ := hDe
  have hb0 : BellA tries 0 := ⟨by omega, by omega⟩
  have hfull : ∀ l m, CryOK hs.length ns.length l → Full c ns hit st ps.length l m → ∃ l' t', Ser c ns hit hs st (bdL ns 200) (2 ^ ps.length - 1) l' t' ∧ t' ≤ m := fun l m hl ⟨es, q1, q2, q3⟩ => by
    obtain ⟨l', t', g1, g2⟩ := shorten0 h hc hl q1 q2
    exact ⟨l', t', g1, by omega⟩
  have hx : round_Excludes ws hs H st ns = b2 (round_Before ws hs H st ns 200) fun l n => some (l, n) := rfl
  rw [b3_some, e1, b7_some, b3_some, hx]
  have hg8 : ∀ {x : List (Int × Int)} {a t n3 n4 : Int}, oyezlaw03_RoundServed_l3 ws hs H st ns tries n3 n4 x 8 a t = some true → oyezlaw03_RoundServed_j1 ws hs H st ns tries a t n3 n4 x = some true := fun hq => by
    unfold oyezlaw03_RoundServed_j1
    rw [gd_t ⟨r64_small (by omega), r64_small (by omega)⟩]; exact hq
  rcases Best_eq h e hc with ⟨eb, hb⟩ | ⟨l, t, eb, hser, hbest⟩
  · have hnc : D (2 ^ ps.length - 1) = false := by
      cases hd : D (2 ^ ps.length - 1) with
      | false => rfl
      | true =>
        obtain ⟨l, t, q⟩ := (can_iff h hc).1 ((hD _).1 hd)
        exact absurd q (hb l t)
    rcases Before_eq h e hc (m := 200) (by omega) hD with ⟨h1, _⟩ | ⟨_, T, hT, hTD, hmin, ex⟩
    · rw [hnc] at h1; cases h1
    · rw [eb, b3_some, ex, b2_some, b2_some, Check_eq h, b1_some, if_neg (by decide), if_pos (by decide), if_neg (by decide), if_neg (by decide), decide_eq_false (by decide), b1_some, if_neg (by decide), if_neg (by decide)]
      refine hg8 (srvdLaw_l3 hm2 h e hc (fun l m hl hf => ?_) ?_ 8 _ _ hb0)
      · obtain ⟨l', t', q, _⟩ := hfull l m hl hf
        exact absurd q (hb l' t')
      · have hne : T.length ≠ 0 := fun h0 => by
          rw [List.eq_nil_of_length_eq_zero h0] at hTD
          have := (hD 0).2 Can.zero
          rw [show setL [] 0 = 0 from rfl, this] at hTD; cases hTD
        have hsl := selP_len (ps := ps) T
        unfold oyezlaw03_RoundServed_j2
        rw [if_neg (by decide), Together_eq h e hc hD (up_nodup hT) (fun i hi => (hT.2 i hi).2), hTD, b2_some, if_neg (by decide), if_neg (by decide), decide_eq_false (by omega), b1_some, if_neg (by decide)]
        exact srvdLaw_l5 h e hc hD hT (fun T' h1 h2 => by rcases hmin T' h1 h2 with q | q <;> omega) (selP ps T) 0 (by omega)
  · have hcan : D (2 ^ ps.length - 1) = true := (hD _).2 ((can_iff h hc).2 ⟨l, t, hser⟩)
    rcases Before_eq h e hc (m := 200) (by omega) hD with ⟨_, ex⟩ | ⟨h1, _⟩
    · obtain ⟨es, g1, g2, g3, g4, g5⟩ := hser.can
      obtain ⟨s, hp⟩ := hser
      have hfew := hp.few (full_lt (hc.nine h))
      have hnine := cnt_nine (2 ^ ps.length - 1)
      obtain ⟨m, is, e2, q1, q2⟩ := last_eq h e hc g1 (by omega)
      have his : is = true := by
        cases is with
        | true => rfl
        | false => exact absurd ⟨es, g2, g3, rfl⟩ (q2 rfl _)
      subst his
      obtain ⟨es', q3, _, q4⟩ := q1 rfl
      rw [g2] at q3
      obtain rfl := Option.some.inj q3
      have hmt : m = t := by omega
      rw [eb, b3_some, ex, b2_some, b2_some, Check_eq h, b1_some, if_neg (by decide), if_neg (by decide), if_neg (by decide), b1_some, if_neg (by decide), if_pos rfl, e2, b2_some, if_neg (by decide), if_neg (by omega), decide_eq_false (by omega), b1_some, if_neg (by decide)]
      refine hg8 (srvdLaw_l3 hm2 h e hc (fun l m hl hf => ?_) ?_ 8 _ _ hb0)
      · obtain ⟨l', t', q, q'⟩ := hfull l m hl hf
        exact ⟨rfl, Int.le_trans (hbest l' t' q) q'⟩
      · unfold oyezlaw03_RoundServed_j2
        rw [if_pos rfl, awake_eq, b1_some]
    · rw [hcan] at h1; cases h1
end
end Go.Proofs.Ytfmapnhfamoecaa.Rd
