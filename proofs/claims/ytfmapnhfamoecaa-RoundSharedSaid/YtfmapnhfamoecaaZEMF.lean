/- A beat with some of its notices; in plain Lean. -/
import Derived.Test.YtfmapnhfamoecaaZEME
namespace Go.Proofs.Ytfmapnhfamoecaa.Rd
open Go.PL Go.Proofs.Ytfmapnhfamoecaa.Rv
theorem total_sub {a b : List (List Int × Int × Int)} (h : a.Sublist b) : total a ≤ total b := by
  induction h with
  | slnil => exact Nat.le_refl _
  | cons x h ih => unfold total at *; simp only [List.map_cons, List.sum_cons]; omega
  | cons_cons x h ih => unfold total at *; simp only [List.map_cons, List.sum_cons]; omega
theorem lastD_mem (x : Int) : ∀ es : List Int, es.getLastD x ∈ x :: es
  | [] => by simp
  | y :: es => by
    rw [List.getLastD_cons]
    exact List.mem_cons_of_mem _ (lastD_mem y es)
/-- Some of the notices. -/
def subN (ns : List (List Int × Int × Int)) (I : List Nat) : List (List Int × Int × Int) := I.map fun i => ns.getD i ([], 0, 0)
theorem subN_get {ns : List (List Int × Int × Int)} {I : List Nat} {j : Nat} (hj : j < I.length) : (subN ns I).getD j ([], 0, 0) = ns.getD (I.getD j 0) ([], 0, 0) := by
  unfold subN
  simp only [List.getD_eq_getElem?_getD, List.getElem?_map, List.getElem?_eq_getElem hj]
  rfl
/-- A round of a part, in the whole. -/
def fI (I : List Nat) (x : Int × Int) : Int × Int := (x.1, ((I.getD x.2.toNat 0 : Nat) : Int))
section
variable {ws hs : List (List Int)} {H st : Int} {ns : List (List Int × Int × Int)} {c : List Int} {ps ps' : List (Int × Int)} {hit hit' : List Int} {bd : Nat → Int} {I : List Nat}
theorem BtOK.sub {nk : List (List Int × Int × Int)} (h : BtOK ws hs H st ns) (hk : nk.Sublist ns) : BtOK ws hs H st nk :=
  ⟨h.hs1, h.hw, h.hH, h.hst, h.row, h.hear, Nat.le_trans hk.length_le h.hn, fun x hx => h.note x (hk.subset hx), Nat.le_trans (total_sub hk) h.tot⟩
theorem opened_sub {nk : List (List Int × Int × Int)} (h : BtOK ws hs H st ns) (h' : BtOK ws hs H st nk) (e : round_opened ws hs H st ns = some (some (ws, hs, H, st, ns, c, ps, hit), 0)) : ∃ ps' hit', round_opened ws hs H st nk = some (some (ws, hs, H, st, nk, c, ps', hit'), 0) ∧ CrOK hs nk c ps' hit' := by
  obtain ⟨c0, a, e1, e2, e3, _⟩ := opened_inj h e
  obtain ⟨c1, ps1, hit1, e5, hc⟩ := opened_eq h'
  obtain ⟨c0', a', g1, g2, g3, _⟩ := opened_inj h' e5
  rw [e1] at g1
  obtain rfl := Option.some.inj g1
  rw [e2] at g2
  obtain rfl := Option.some.inj g2
  rw [e3] at g3
  obtain rfl := Option.some.inj g3
  exact ⟨ps1, hit1, e5, hc⟩
theorem wrd_sub {j : Nat} (hj : j < I.length) : wrd (subN ns I) j = wrd ns (I.getD j 0) := by unfold wrd; rw [subN_get hj]
theorem bd_sub {j : Nat} (hj : j < I.length) : bdL (subN ns I) 200 j = bdL ns 200 (I.getD j 0) := by unfold bdL; rw [subN_get hj]
theorem ends_sub {S : Nat} : ∀ (l : List (Int × Int)) (k m : Int), CryOK S I.length l → endsF c (subN ns I) k m l = endsF c ns k m (l.map (fI I))
  | [], _, _, _ => rfl
  | x :: l, k, m, hl => by
    obtain ⟨_, h2⟩ := hl x (by simp)
    have hw : wrd (subN ns I) x.2.toNat = wrd ns (fI I x).2.toNat := by
      rw [wrd_sub (by omega)]; rfl
    rw [List.map_cons]
    unfold endsF
    rw [hw, ends_sub l _ _ fun z hz => hl z (by simp [hz])]
    rfl
theorem cry_sub {S N : Nat} (hI : ∀ i ∈ I, i < N) {l : List (Int × Int)} (hl : CryOK S I.length l) : CryOK S N (l.map (fI I)) := fun x hx => by
  obtain ⟨y, hy, rfl⟩ := List.mem_map.1 hx
  obtain ⟨h1, h2⟩ := hl y hy
  have := hI _ (getD_mem (d := 0) (i := y.2.toNat) (by omega))
  exact ⟨h1, by show 0 ≤ ((I.getD y.2.toNat 0 : Nat) : Int); omega, by show ((I.getD y.2.toNat 0 : Nat) : Int) < _; omega⟩
theorem getD_inj (hd : I.Nodup) {i j : Nat} (hi : i < I.length) (hj : j < I.length) (h : I.getD i 0 = I.getD j 0) : i = j := by
  rw [List.getD_eq_getElem?_getD, List.getD_eq_getElem?_getD, List.getElem?_eq_getElem hi, List.getElem?_eq_getElem hj] at h
  have hp := List.pairwise_iff_getElem.1 hd
  have h' : I[i] = I[j] := h
  rcases Nat.lt_trichotomy i j with h1 | h1 | h1
  · exact absurd h' (hp i j hi hj h1)
  · exact h1
  · exact absurd h'.symm (hp j i hj hi h1)
theorem hr_sub {S : Nat} (hd : I.Nodup) {l : List (Int × Int)} {es : List Int} (hl : CryOK S I.length l) {j h : Nat} (hj : j < I.length) {e : Int} : HrE hs (l.map (fI I)) es (I.getD j 0) h e ↔ HrE hs l es j h e := by
  unfold HrE
  rw [List.zip_map_left]
  constructor
  · rintro ⟨z, hz, h1, h2, h3⟩
    obtain ⟨y, hy, rfl⟩ := List.mem_map.1 hz
    obtain ⟨a1, a2⟩ := hl y.1 (List.of_mem_zip hy).1
    have h1' : ((I.getD y.1.2.toNat 0 : Nat) : Int) = ((I.getD j 0 : Nat) : Int) := h1
    have := getD_inj hd (i := y.1.2.toNat) (by omega) hj (by omega)
    exact ⟨y, hy, by omega, h2, h3⟩
  · rintro ⟨y, hy, h1, h2, h3⟩
    refine ⟨Prod.map (fI I) id y, List.mem_map.2 ⟨y, hy, rfl⟩, ?_, h2, h3⟩
    show ((I.getD y.1.2.toNat 0 : Nat) : Int) = _
    rw [h1, Int.toNat_natCast]
theorem mem_toI {T : List Nat} {i : Int} : i ∈ toI T ↔ ∃ n, n ∈ T ∧ i = (n : Int) := by
  unfold toI
  rw [List.mem_map]
  exact ⟨fun ⟨n, h1, h2⟩ => ⟨n, h1, h2.symm⟩, fun ⟨n, h1, h2⟩ => ⟨n, h1, h2.symm⟩⟩
/-- A round of a part serves all just if in the whole it serves all pairs of these notices. -/
theorem rem_sub (h : BtOK ws hs H st ns) (hc : CrOK hs ns c ps hit) (h' : BtOK ws hs H st (subN ns I)) (hc' : CrOK hs (subN ns I) c ps' hit') (hd : I.Nodup) (hI : ∀ i ∈ I, i < ns.length) {l : List (Int × Int)} {es : List Int} (hl : CryOK hs.length I.length l) (he : endsF c ns st 0 (l.map (fI I)) = some es) :
    remF c (subN ns I) hit' (bdL (subN ns I) 200) st 0 (2 ^ ps'.length - 1) l = 0 ↔ remF c ns hit (bdL ns 200) st 0 (ofB ps (toI I)) (l.map (fI I)) = 0 := by
  have hlen : (subN ns I).length = I.length := List.length_map ..
  have he' : endsF c (subN ns I) st 0 l = some es := by rw [ends_sub l _ _ hl]; exact he
  have hlf := cry_sub hI hl
  have hlk : CryOK hs.length (subN ns I).length l := by rw [hlen]; exact hl
  rw [rem_zero, rem_zero]
  constructor
  · intro hs' p hp
    rw [ofB_bit, decide_eq_true_iff] at hp
    obtain ⟨hp1, hp2⟩ := hp
    obtain ⟨n, hn, hpn⟩ := mem_toI.1 hp2
    obtain ⟨j, hj, hjn⟩ := List.getElem_of_mem hn
    have hjn' : I.getD j 0 = n := by rw [List.getD_eq_getElem?_getD, List.getElem?_eq_getElem hj]; exact hjn
    obtain ⟨m1, m2⟩ := (hc.prs.mem _).1 (getD_mem (d := (0, 0)) hp1)
    rw [hpn, Int.toNat_natCast] at m2
    have hmem : ((j : Int), (ps.getD p (0, 0)).2) ∈ ps' := (hc'.prs.mem _).2 ⟨⟨by show 0 ≤ (j : Int); omega, by show (j : Int) < _; omega⟩, by
      show _ ∈ ((subN ns I).getD (j : Int).toNat ([], 0, 0)).1
      rw [Int.toNat_natCast, subN_get hj, hjn']; exact m2⟩
    obtain ⟨p', hp', hpe⟩ := List.getElem_of_mem hmem
    have hpe' : ps'.getD p' (0, 0) = ((j : Int), (ps.getD p (0, 0)).2) := by rw [List.getD_eq_getElem?_getD, List.getElem?_eq_getElem hp']; exact hpe
    have hh := hs' p' (by rw [Nat.testBit_two_pow_sub_one, decide_eq_true_iff]; exact hp')
    rw [hit_heard h' hc' hlk he' hp', hpe'] at hh
    obtain ⟨e, q1, q2⟩ := hh
    rw [hit_heard h hc hlf he hp1, hpn]
    have q2' : e ≤ bdL (subN ns I) 200 j := by simpa using q2
    rw [bd_sub hj, hjn'] at q2'
    have q1' : HrE hs l es j (ps.getD p (0, 0)).2.toNat e := by simpa using q1
    refine ⟨e, ?_, by simpa using q2'⟩
    rw [Int.toNat_natCast, ← hjn']
    exact (hr_sub hd hl hj).2 q1'
  · intro hs' p' hp'
    rw [Nat.testBit_two_pow_sub_one, decide_eq_true_iff] at hp'
    obtain ⟨m1, m2⟩ := (hc'.prs.mem _).1 (getD_mem (d := (0, 0)) hp')
    rw [hlen] at m1
    obtain ⟨j, hj⟩ := Int.eq_ofNat_of_zero_le m1.1
    rw [hj, Int.toNat_natCast, subN_get (by omega)] at m2
    have hjl : j < I.length := by omega
    have hn := hI _ (getD_mem (d := 0) hjl)
    have hmem : (((I.getD j 0 : Nat) : Int), (ps'.getD p' (0, 0)).2) ∈ ps := (hc.prs.mem _).2 ⟨⟨by show 0 ≤ ((I.getD j 0 : Nat) : Int); omega, by show ((I.getD j 0 : Nat) : Int) < _; omega⟩, by
      show _ ∈ (ns.getD ((I.getD j 0 : Nat) : Int).toNat ([], 0, 0)).1
      rw [Int.toNat_natCast]; exact m2⟩
    obtain ⟨p, hp, hpe⟩ := List.getElem_of_mem hmem
    have hpe' : ps.getD p (0, 0) = (((I.getD j 0 : Nat) : Int), (ps'.getD p' (0, 0)).2) := by rw [List.getD_eq_getElem?_getD, List.getElem?_eq_getElem hp]; exact hpe
    have hh := hs' p (by
      rw [ofB_bit, decide_eq_true_iff, hpe']
      exact ⟨hp, mem_toI.2 ⟨_, getD_mem hjl, rfl⟩⟩)
    rw [hit_heard h hc hlf he hp, hpe'] at hh
    obtain ⟨e, q1, q2⟩ := hh
    rw [hit_heard h' hc' hlk he' hp', hj]
    have q2' : e ≤ bdL ns 200 (I.getD j 0) := by simpa using q2
    have q1' : HrE hs (l.map (fI I)) es (I.getD j 0) (ps'.getD p' (0, 0)).2.toNat e := by simpa using q1
    refine ⟨e, ?_, ?_⟩
    · rw [Int.toNat_natCast]; exact (hr_sub hd hl hjl).1 q1'
    · rw [Int.toNat_natCast, bd_sub hjl]; exact q2'
/-- Each cry serves something of the set. -/
theorem Pth.all {S : Nat} {start : Int} {v0 : Nat} {l : List (Int × Int)} {s : Int} {v : Nat} {t : Int} (h : Pth c ns hit bd S start v0 l s v t) : (∀ p, v.testBit p = true → v0.testBit p = true) ∧ ∀ x ∈ l, ∃ p, v0.testBit p = true ∧ (hb hit x.1.toNat x.2.toNat).testBit p = true := by
  induction h with
  | nil => exact ⟨fun _ h => h, fun _ h => (nomatch h)⟩
  | @snoc l k v s n t h hk hs hn hne hv ih =>
    refine ⟨fun p hp => ?_, fun x hx => ?_⟩
    · rw [bit_dif, Bool.and_eq_true_iff] at hp
      exact ih.1 p hp.1
    · rcases List.mem_append.1 hx with hx | hx
      · exact ih.2 x hx
      · rw [List.mem_singleton.1 hx]
        refine Classical.byContradiction fun hn' => hne (Nat.eq_of_testBit_eq fun p => ?_)
        rw [bit_dif]
        cases e : v.testBit p with
        | false => rfl
        | true =>
          cases e2 : (hb hit s n).testBit p with
          | false => rfl
          | true => exact absurd ⟨p, ih.1 p e, by rw [Int.toNat_natCast, Int.toNat_natCast]; exact e2⟩ hn'
/-- Some round serves a set, and ends by a minute. -/
def Rnd (c : List Int) (ns : List (List Int × Int × Int)) (hit : List Int) (hs : List (List Int)) (st : Int) (bd : Nat → Int) (v : Nat) (T : Int) : Prop := ∃ l es, CryOK hs.length ns.length l ∧ endsF c ns st 0 l = some es ∧ remF c ns hit bd st 0 v l = 0 ∧ es.getLastD 0 ≤ T
theorem back_map (hd : I.Nodup) : ∀ (l : List (Int × Int)), (∀ x ∈ l, ∃ n, n ∈ I ∧ x.2 = (n : Int)) → (l.map fun x => (x.1, ((I.idxOf x.2.toNat : Nat) : Int))).map (fI I) = l
  | [], _ => rfl
  | x :: l, h => by
    obtain ⟨n, hn, hx⟩ := h x (by simp)
    have hlt := List.idxOf_lt_length_iff.2 hn
    have hget : I.getD (I.idxOf n) 0 = n := by
      rw [List.getD_eq_getElem?_getD, List.getElem?_eq_getElem hlt]
      exact List.getElem_idxOf hlt
    rw [List.map_cons, List.map_cons, back_map hd l fun z hz => h z (by simp [hz])]
    congr 1
    unfold fI
    show (x.1, ((I.getD ((I.idxOf x.2.toNat : Nat) : Int).toNat 0 : Nat) : Int)) = x
    rw [Int.toNat_natCast, hx, Int.toNat_natCast, hget, ← hx]
theorem rnd_sub (h : BtOK ws hs H st ns) (hc : CrOK hs ns c ps hit) (h' : BtOK ws hs H st (subN ns I)) (hc' : CrOK hs (subN ns I) c ps' hit') (hd : I.Nodup) (hI : ∀ i ∈ I, i < ns.length) {T : Int} : Rnd c (subN ns I) hit' hs st (bdL (subN ns I) 200) (2 ^ ps'.length - 1) T ↔ Rnd c ns hit hs st (bdL ns 200) (ofB ps (toI I)) T := by
  have hlen : (subN ns I).length = I.length := List.length_map ..
  constructor
  · rintro ⟨l, es, h1, h2, h3, h4⟩
    rw [hlen] at h1
    rw [ends_sub l _ _ h1] at h2
    exact ⟨l.map (fI I), es, cry_sub hI h1, h2, (rem_sub h hc h' hc' hd hI h1 h2).1 h3, h4⟩
  · rintro ⟨l, es, h1, h2, h3, h4⟩
    obtain ⟨l2, t, hser, h5⟩ := shorten0 h hc h1 h2 h3
    obtain ⟨es2, g1, g2, g3, g4, _⟩ := hser.can
    obtain ⟨s, hp⟩ := hser
    have h5' := h.hs1.2
    have h3' := h.hn
    have hall : ∀ x ∈ l2, ∃ n, n ∈ I ∧ x.2 = (n : Int) := fun x hx => by
      obtain ⟨p, q1, q2⟩ := hp.all.2 x hx
      obtain ⟨a1, a2⟩ := g1 x hx
      rw [(hc.hit.hb (s := x.1.toNat) (n := x.2.toNat) (by omega) (by omega)).2.2 p] at q2
      unfold QP at q2
      simp only [Bool.and_eq_true_iff, decide_eq_true_iff] at q2
      rw [ofB_bit, decide_eq_true_iff] at q1
      obtain ⟨n, hn, hpn⟩ := mem_toI.1 q1.2
      have := q2.1.1.2
      exact ⟨n, hn, by omega⟩
    have hb := back_map hd l2 hall
    have hl' : CryOK hs.length I.length (l2.map fun x => (x.1, ((I.idxOf x.2.toNat : Nat) : Int))) := fun y hy => by
      obtain ⟨x, hx, rfl⟩ := List.mem_map.1 hy
      obtain ⟨n, hn, hxn⟩ := hall x hx
      have hlt := List.idxOf_lt_length_iff.2 hn
      refine ⟨(g1 x hx).1, by show 0 ≤ ((I.idxOf x.2.toNat : Nat) : Int); omega, ?_⟩
      show ((I.idxOf x.2.toNat : Nat) : Int) < _
      rw [hxn, Int.toNat_natCast]; omega
    refine ⟨_, es2, by rw [hlen]; exact hl', by rw [ends_sub _ _ _ hl', hb]; exact g2, ?_, by omega⟩
    rw [rem_sub h hc h' hc' hd hI hl' (by rw [hb]; exact g2), hb]
    exact g3
/-- The first minute by which some round serves a set. -/
def MinT (c : List Int) (ns : List (List Int × Int × Int)) (hit : List Int) (hs : List (List Int)) (st : Int) (bd : Nat → Int) (v : Nat) (t : Int) : Prop := Rnd c ns hit hs st bd v t ∧ ∀ T, Rnd c ns hit hs st bd v T → t ≤ T
theorem Ser.min (h : BtOK ws hs H st ns) (hc : CrOK hs ns c ps hit) {v : Nat} {l : List (Int × Int)} {t : Int} (hs' : Ser c ns hit hs st bd v l t) (hm : ∀ l' t', Ser c ns hit hs st bd v l' t' → t ≤ t') : MinT c ns hit hs st bd v t := by
  obtain ⟨es, g1, g2, g3, g4, _⟩ := hs'.can
  refine ⟨⟨l, es, g1, g2, g3, by omega⟩, fun T ⟨l', es', q1, q2, q3, q4⟩ => ?_⟩
  obtain ⟨l2, t2, q5, q6⟩ := shorten0 h hc q1 q2 q3
  have := hm l2 t2 q5
  omega
theorem rnd_none (h : BtOK ws hs H st ns) (hc : CrOK hs ns c ps hit) {v : Nat} (hm : ∀ l t, ¬ Ser c ns hit hs st bd v l t) (T : Int) : ¬ Rnd c ns hit hs st bd v T := fun ⟨l', es', q1, q2, q3, q4⟩ => by
  obtain ⟨l2, t2, q5, q6⟩ := shorten0 h hc q1 q2 q3
  exact hm l2 t2 q5
theorem MinT.unique {v : Nat} {t t' : Int} (h : MinT c ns hit hs st bd v t) (h' : MinT c ns hit hs st bd v t') : t = t' := by
  have := h.2 t' h'.1
  have := h'.2 t h.1
  omega
theorem minT_fun : ∃ E : Nat → Option Int, ∀ v t, E v = some t ↔ MinT c ns hit hs st bd v t := by
  refine ⟨fun v => @dite _ (∃ t, MinT c ns hit hs st bd v t) (Classical.propDecidable _) (fun h => some (Classical.choose h)) fun _ => none, fun v t => ?_⟩
  by_cases h : ∃ t, MinT c ns hit hs st bd v t
  · simp only [dif_pos h]
    have hs' := Classical.choose_spec h
    exact ⟨fun e => by rw [← Option.some.inj e]; exact hs', fun q => by rw [hs'.unique q]⟩
  · simp only [dif_neg h]
    exact ⟨fun e => (nomatch e), fun q => absurd ⟨t, q⟩ h⟩
theorem serve_E (h : BtOK ws hs H st ns) (hc : CrOK hs ns c ps hit) {E : Nat → Option Int} (hE : ∀ v t, E v = some t ↔ MinT c ns hit hs st (bdL ns 200) v t) {v : Nat} (hv : v < 512) : ∃ l, round_crier_serve ws hs H st ns c ps hit (v : Int) (fun xx_ : Int × Int => round_crier_by_1 xx_.1 xx_.2 200 ws hs H st ns c ps hit) = some (l, (E v).getD 0, (E v).isSome) := by
  rcases serve_eq h hc (bd := bdL ns 200) (ok := fun xx_ : Int × Int => round_crier_by_1 xx_.1 xx_.2 200 ws hs H st ns c ps hit) (bdL_le (by decide)) (by_ok 200) hv with ⟨e, h1⟩ | ⟨l, s, t, e, h1, h2⟩
  · have hn : E v = none := by
      cases he : E v with
      | none => rfl
      | some t => exact absurd ((hE v t).1 he).1 (rnd_none h hc (fun l t ⟨s, q⟩ => h1 l s t q) t)
    exact ⟨[], by rw [e, hn]; rfl⟩
  · have hn : E v = some t := (hE v t).2 (Ser.min h hc ⟨s, h1⟩ fun l' t' ⟨s', q⟩ => h2 l' s' t' q)
    exact ⟨l, by rw [e, hn]; rfl⟩
/-- The best round of a part. -/
theorem best_sub (h : BtOK ws hs H st ns) (e : round_opened ws hs H st ns = some (some (ws, hs, H, st, ns, c, ps, hit), 0)) (hc : CrOK hs ns c ps hit) {E : Nat → Option Int} (hE : ∀ v t, E v = some t ↔ MinT c ns hit hs st (bdL ns 200) v t) (hsub : (subN ns I).Sublist ns) (hd : I.Nodup) (hI : ∀ i ∈ I, i < ns.length) :
    (E (ofB ps (toI I)) = none ∧ round_Best ws hs H st (subN ns I) = some ([], 0, 6)) ∨ ∃ l t, E (ofB ps (toI I)) = some t ∧ 0 ≤ t ∧ round_Best ws hs H st (subN ns I) = some (l, t, 0) := by
  have h' := h.sub hsub
  obtain ⟨ps', hit', e', hc'⟩ := opened_sub h h' e
  rcases Best_eq h' e' hc' with ⟨eb, h1⟩ | ⟨l, t, eb, h1, h2⟩
  · left
    refine ⟨?_, eb⟩
    cases he : E (ofB ps (toI I)) with
    | none => rfl
    | some t => exact absurd ((rnd_sub h hc h' hc' hd hI).2 ((hE _ t).1 he).1) (rnd_none h' hc' h1 t)
  · right
    have hm := Ser.min h' hc' h1 h2
    have hpos : 0 ≤ t := by
      obtain ⟨es, g1, g2, g3, g4, g5⟩ := h1.can
      have := (ends_pos hc'.fin h'.hs1.2 h'.note l st 0 es g1 h'.hst (Int.le_refl _) g2).1
      rw [← g4]
      cases es with
      | nil => exact Int.le_refl _
      | cons x es => exact this _ (by rw [List.getLastD_cons]; exact lastD_mem x es)
    exact ⟨l, t, (hE _ t).2 ⟨(rnd_sub h hc h' hc' hd hI).1 hm.1, fun T q => hm.2 T ((rnd_sub h hc h' hc' hd hI).2 q)⟩, hpos, eb⟩
end
end Go.Proofs.Ytfmapnhfamoecaa.Rd
namespace Go.Proofs.Ytfmapnhfamoecaa.Rd
open Go.PL Go.Proofs.Ytfmapnhfamoecaa.Rv
/-- Who goes, by a number. -/
def whoL (N n : Nat) : List Int := (List.range N).map fun i => if n.testBit (N - 1 - i) then 1 else 0
theorem whoL_len (N n : Nat) : (whoL N n).length = N := by unfold whoL; simp
theorem whoL_get {N n i : Nat} (hi : i < N) : (whoL N n).getD i 0 = if n.testBit (N - 1 - i) then 1 else 0 := by
  unfold whoL
  rw [List.getD_eq_getElem?_getD, List.getElem?_map, List.getElem?_range hi]; rfl
/-- The notices of a crier. -/
def IL (w : List Int) (k : Int) : List Nat := (List.range w.length).filter fun i => decide (w.getD i 0 = k)
theorem mem_IL {w : List Int} {k : Int} {i : Nat} : i ∈ IL w k ↔ i < w.length ∧ w.getD i 0 = k := by
  unfold IL; rw [List.mem_filter, List.mem_range, decide_eq_true_iff]
theorem IL_nodup (w : List Int) (k : Int) : (IL w k).Nodup := List.nodup_range.filter _
theorem IL_who (N n : Nat) : IL (whoL N n) 0 = (List.range N).filter (fun i => !n.testBit (N - 1 - i)) ∧ IL (whoL N n) 1 = (List.range N).filter fun i => n.testBit (N - 1 - i) := by
  unfold IL
  rw [whoL_len]
  refine ⟨List.filter_congr fun i hi => ?_, List.filter_congr fun i hi => ?_⟩
  · rw [whoL_get (List.mem_range.1 hi)]
    cases n.testBit (N - 1 - i) <;> rfl
  · rw [whoL_get (List.mem_range.1 hi)]
    cases n.testBit (N - 1 - i) <;> rfl
theorem toI_snoc (a : List Nat) (i : Nat) : toI a ++ [(i : Int)] = toI (a ++ [i]) := by unfold toI; simp
theorem toI_len (a : List Nat) : (toI a).length = a.length := by unfold toI; simp
theorem two_l2 {N n : Nat} (hN : N ≤ 3) (hn : n < 512) : ∀ (fu k : Nat) (who l3 l4 : List Int), k + fu = N → who.length = N → (∀ i, i < k → who.getD i 0 = if n.testBit (N - 1 - i) then 1 else 0) → l3 = toI ((List.range k).filter fun i => !n.testBit (N - 1 - i)) → l4 = toI ((List.range k).filter fun i => n.testBit (N - 1 - i)) →
    round_Two_l2 (n : Int) fu (k : Int) who l3 l4 = some (whoL N n, toI (IL (whoL N n) 0), toI (IL (whoL N n) 1))
  | 0, k, who, l3, l4, hk, hl, hw, h3, h4 => by
    have hkN : k = N := by omega
    subst hkN
    have he : who = whoL k n := getD_ext (d := 0) (by rw [whoL_len]; exact hl) fun t ht => by rw [hw t (by omega), whoL_get (by omega)]
    rw [(IL_who k n).1, (IL_who k n).2, ← h3, ← h4, ← he]
    rfl
  | fu + 1, k, who, l3, l4, hk, hl, hw, h3, h4 => by
    have hil : (who.length : Int) - 1 - (k : Int) = ((N - 1 - k : Nat) : Int) := by omega
    have hl3 : l3.length ≤ 100 := by
      rw [h3, toI_len]
      have := List.length_filter_le (fun i => !n.testBit (N - 1 - i)) (List.range k)
      rw [List.length_range] at this; omega
    have hl4 : l4.length ≤ 100 := by
      rw [h4, toI_len]
      have := List.length_filter_le (fun i => n.testBit (N - 1 - i)) (List.range k)
      rw [List.length_range] at this; omega
    unfold round_Two_l2
    rw [gd_t (r64_small (by omega)), gd_t (r64_small (by omega)), gd_t (by omega), ixI _ (by omega), bvE, hil, bit_nat (by omega), Int.toNat_natCast]
    have hset : ∀ x : Int, (who.set k x).length = N ∧ ((who.set k x).getD k 0 = x) := fun x => ⟨by rw [List.length_set]; exact hl, by rw [getD_setI (by omega), if_pos rfl]⟩
    have hw' : ∀ x : Int, x = (if n.testBit (N - 1 - k) then 1 else 0) → ∀ i, i < k + 1 → (who.set k x).getD i 0 = if n.testBit (N - 1 - i) then 1 else 0 := fun x hx i hi => by
      rw [getD_setI (by omega)]
      by_cases d : k = i
      · rw [if_pos d, hx, d]
      · rw [if_neg d]; exact hw i (by omega)
    rw [ixI _ (by rw [List.length_set]; omega), (hset _).2]
    obtain ⟨x, hx⟩ : ∃ x : Int, (if n.testBit (N - 1 - k) = true then 1 else 0) = x := ⟨_, rfl⟩
    rw [hx]
    cases hb : n.testBit (N - 1 - k) with
    | false =>
      rw [hb] at hx
      obtain rfl : x = 0 := hx.symm
      rw [if_pos rfl, ap_t (by simp; omega)]
      refine two_l2 hN hn fu (k + 1) _ _ _ (by omega) (hset _).1 (hw' 0 (by rw [hb]; rfl)) ?_ ?_
      · rw [List.range_succ, List.filter_append, h3, toI_snoc]
        simp [hb]
      · rw [List.range_succ, List.filter_append, h4]
        simp [hb]
    | true =>
      rw [hb] at hx
      obtain rfl : x = 1 := hx.symm
      rw [if_neg (by decide), gd_t (by decide), ap_t (by simp; omega), gd_t (by decide)]
      refine two_l2 hN hn fu (k + 1) _ _ _ (by omega) (hset _).1 (hw' 1 (by rw [hb]; rfl)) ?_ ?_
      · rw [List.range_succ, List.filter_append, h3]
        simp [hb]
      · rw [List.range_succ, List.filter_append, h4, toI_snoc]
        simp [hb]
/-- When the later one of two criers ends. -/
def valW (E : Nat → Option Int) (ps : List (Int × Int)) (w : List Int) : Option Int := match E (ofB ps (toI (IL w 0))), E (ofB ps (toI (IL w 1))) with
  | some x, some y => some (if y > x then y else x)
  | _, _ => none
/-- The first of the shares that end first. -/
def TwoP (V : Nat → Option Int) (W : Nat → List Int) (k : Nat) (out : List Int) (best : Int) : Prop := (best = -1 ∧ out = [] ∧ ∀ n, n < k → V n = none) ∨ ∃ n, n < k ∧ out = W n ∧ V n = some best ∧ 0 ≤ best ∧ (∀ n' t, n' < k → V n' = some t → best ≤ t) ∧ ∀ n' t, n' < n → V n' = some t → best < t
section
variable {ws hs : List (List Int)} {H st : Int} {ns : List (List Int × Int × Int)} {c : List Int} {ps : List (Int × Int)} {hit : List Int} {E : Nat → Option Int}
theorem E_pos (h : BtOK ws hs H st ns) (hc : CrOK hs ns c ps hit) (hE : ∀ v t, E v = some t ↔ MinT c ns hit hs st (bdL ns 200) v t) {v : Nat} {t : Int} (he : E v = some t) : 0 ≤ t := by
  obtain ⟨⟨l, es, g1, g2, _, g4⟩, _⟩ := (hE v t).1 he
  have := (ends_pos hc.fin h.hs1.2 h.note l st 0 es g1 h.hst (Int.le_refl _) g2).1
  cases es with
  | nil => exact g4
  | cons x es => exact Int.le_trans (this _ (by rw [List.getLastD_cons]; exact lastD_mem x es)) g4
theorem val_pos (h : BtOK ws hs H st ns) (hc : CrOK hs ns c ps hit) (hE : ∀ v t, E v = some t ↔ MinT c ns hit hs st (bdL ns 200) v t) {w : List Int} {t : Int} (he : valW E ps w = some t) : 0 ≤ t := by
  unfold valW at he
  cases h0 : E (ofB ps (toI (IL w 0))) with
  | none => rw [h0] at he; cases he
  | some x =>
    cases h1 : E (ofB ps (toI (IL w 1))) with
    | none => rw [h0, h1] at he; cases he
    | some y =>
      rw [h0, h1] at he
      have e := Option.some.inj he
      have := E_pos h hc hE h0
      have := E_pos h hc hE h1
      rw [← e]; split <;> omega
theorem two_l1 (h : BtOK ws hs H st ns) (hc : CrOK hs ns c ps hit) (hE : ∀ v t, E v = some t ↔ MinT c ns hit hs st (bdL ns 200) v t) : ∀ (fu k : Nat) (out : List Int) (best : Int), k + fu ≤ 8 → TwoP (fun n => valW E ps (whoL ns.length n)) (whoL ns.length) k out best →
    ∃ out' best', round_Two_l1 ns (some (ws, hs, H, st, ns, c, ps, hit)) fu (k : Int) out best = some (out', best') ∧ TwoP (fun n => valW E ps (whoL ns.length n)) (whoL ns.length) (k + fu) out' best'
  | 0, k, out, best, _, hp => ⟨out, best, rfl, hp⟩
  | fu + 1, k, out, best, hk, hp => by
    have h9 := hc.nine h
    have h3 := h.hn
    have hpn := pow_nine h9
    have e2 := two_l2 (N := ns.length) (n := k) h3 (by omega) ns.length 0 (List.replicate ns.length 0) [] [] (by omega) (by simp) (fun i hi => absurd hi (Nat.not_lt_zero _)) rfl rfl
    have e2' : round_Two_l2 (k : Int) (Int.toNat ((ns.length : Int) - 0)) 0 (List.replicate ns.length 0) [] [] = some (whoL ns.length k, toI (IL (whoL ns.length k) 0), toI (IL (whoL ns.length k) 1)) := by
      rw [show Int.toNat ((ns.length : Int) - 0) = ns.length by omega]; exact e2
    have l0 := ofB_lt ps (toI (IL (whoL ns.length k) 0))
    have l1 := ofB_lt ps (toI (IL (whoL ns.length k) 1))
    obtain ⟨la, ea⟩ := serve_E h hc hE (v := ofB ps (toI (IL (whoL ns.length k) 0))) (by omega)
    obtain ⟨lb, eb⟩ := serve_E h hc hE (v := ofB ps (toI (IL (whoL ns.length k) 1))) (by omega)
    have go : ∀ out3 best3, TwoP (fun n => valW E ps (whoL ns.length n)) (whoL ns.length) (k + 1) out3 best3 → ∃ out' best', round_Two_l1 ns (some (ws, hs, H, st, ns, c, ps, hit)) fu ((k : Int) + 1) out3 best3 = some (out', best') ∧ TwoP (fun n => valW E ps (whoL ns.length n)) (whoL ns.length) (k + (fu + 1)) out' best' := fun out3 best3 h3' => by
      obtain ⟨o, b, q1, q2⟩ := two_l1 h hc hE fu (k + 1) out3 best3 (by omega) h3'
      exact ⟨o, b, q1, by rw [show k + (fu + 1) = k + 1 + fu by omega]; exact q2⟩
    have skip : (∀ t, valW E ps (whoL ns.length k) = some t → best ≠ -1 ∧ best ≤ t) → TwoP (fun n => valW E ps (whoL ns.length n)) (whoL ns.length) (k + 1) out best := fun hv => by
      rcases hp with ⟨q1, q2, q3⟩ | ⟨n, q1, q2, q3, q4, q5, q6⟩
      · refine .inl ⟨q1, q2, fun n hn => ?_⟩
        by_cases d : n = k
        · subst d
          cases hvv : valW E ps (whoL ns.length n) with
          | none => exact hvv
          | some t => exact absurd q1 (hv t hvv).1
        · exact q3 n (by omega)
      · refine .inr ⟨n, by omega, q2, q3, q4, fun n' t hn' hv' => ?_, q6⟩
        by_cases d : n' = k
        · subst d; exact (hv t hv').2
        · exact q5 n' t (by omega) hv'
    unfold round_Two_l1
    rw [gd_t ⟨by omega, by omega⟩, bvE, Int.toNat_natCast, gd_t ⟨r64_small (by omega), r64_small (by rw [List.length_replicate]; omega)⟩, List.length_replicate, e2', b3_some, b8_some, of_eq h9, b1_some]
    unfold round_crier_hours round_crier_by
    rw [b1_some, b1_some, ea, b3_some, of_eq h9, b1_some, b1_some, eb, b3_some]
    have hvv : valW E ps (whoL ns.length k) = match E (ofB ps (toI (IL (whoL ns.length k) 0))), E (ofB ps (toI (IL (whoL ns.length k) 1))) with | some x, some y => some (if y > x then y else x) | _, _ => none := rfl
    cases h0 : E (ofB ps (toI (IL (whoL ns.length k) 0))) with
    | none =>
      rw [h0] at hvv
      rw [if_neg (by decide), b1_some, if_neg (by decide), b2_some]
      exact go out best (skip fun t q => by rw [hvv] at q; cases q)
    | some x =>
      cases h1 : E (ofB ps (toI (IL (whoL ns.length k) 1))) with
      | none =>
        rw [h0, h1] at hvv
        rw [if_pos (show (some x).isSome = true from rfl), if_neg (by decide), b1_some, if_neg (by decide), b2_some]
        exact go out best (skip fun t q => by rw [hvv] at q; cases q)
      | some y =>
        rw [h0, h1] at hvv
        have hx0 := val_pos h hc hE hvv
        have take : (∀ n' t, n' < k → valW E ps (whoL ns.length n') = some t → (if y > x then y else x) < t) → TwoP (fun n => valW E ps (whoL ns.length n)) (whoL ns.length) (k + 1) (whoL ns.length k) (if y > x then y else x) := fun hlt => .inr ⟨k, by omega, rfl, hvv, hx0, fun n' t hn' hv' => by
          by_cases d : n' = k
          · subst d
            have hv2 : valW E ps (whoL ns.length n') = some t := hv'
            rw [hvv] at hv2
            have hv3 : (if y > x then y else x) = t := Option.some.inj hv2
            rw [hv3]; exact Int.le_refl _
          · exact Int.le_of_lt (hlt n' t (by omega) hv'), hlt⟩
        rw [if_pos (show (some x).isSome = true from rfl), if_pos (show (some y).isSome = true from rfl)]
        show ∃ out' best', b2 (b1 (if best = -1 then some true else some (decide ((if y > x then y else x) < best))) fun k3 => if k3 = true then some (whoL ns.length k, if y > x then y else x) else some (out, best)) _ = some (out', best') ∧ _
        generalize hz : (if y > x then y else x) = z at hvv take
        by_cases d : best = -1
        · rw [if_pos d, b1_some, if_pos rfl, b2_some]
          refine go _ _ (take fun n' t hn' hv' => ?_)
          rcases hp with ⟨q1, q2, q3⟩ | ⟨n, q1, q2, q3, q4, q5, q6⟩
          · have hv2 : valW E ps (whoL ns.length n') = none := q3 n' hn'
            have hv3 : valW E ps (whoL ns.length n') = some t := hv'
            rw [hv3] at hv2; cases hv2
          · omega
        · rw [if_neg d, b1_some]
          by_cases g : z < best
          · rw [if_pos (decide_eq_true g), b2_some]
            refine go _ _ (take fun n' t hn' hv' => ?_)
            rcases hp with ⟨q1, q2, q3⟩ | ⟨n, q1, q2, q3, q4, q5, q6⟩
            · exact absurd q1 d
            · have := q5 n' t hn' hv'
              omega
          · rw [if_neg (by simpa using g), b2_some]
            refine go _ _ (skip fun t hv' => ⟨d, ?_⟩)
            rw [hvv] at hv'
            have hv3 : (if y > x then y else x) = t := Option.some.inj hv'
            rw [hz] at hv3
            omega
theorem Two_eq (h : BtOK ws hs H st ns) (e : round_opened ws hs H st ns = some (some (ws, hs, H, st, ns, c, ps, hit), 0)) (hc : CrOK hs ns c ps hit) (hE : ∀ v t, E v = some t ↔ MinT c ns hit hs st (bdL ns 200) v t) :
    ∃ out best, TwoP (fun n => valW E ps (whoL ns.length n)) (whoL ns.length) (2 ^ ns.length) out best ∧ round_Two ws hs H st ns = some (if best = -1 then ([], 0, 6) else (out, best, 0)) := by
  have h3 := h.hn
  have hp8 : (2 : Nat) ^ ns.length ≤ 2 ^ 3 := Nat.pow_le_pow_right (by decide) h3
  have h8 : (2 : Nat) ^ 3 = 8 := by decide
  obtain ⟨out, best, e1, h1⟩ := two_l1 h hc hE (2 ^ ns.length) 0 [] (-1) (by omega) (.inl ⟨rfl, rfl, fun n hn => absurd hn (Nat.not_lt_zero _)⟩)
  rw [Nat.zero_add] at h1
  refine ⟨out, best, h1, ?_⟩
  have e1' : round_Two_l1 ns (some (ws, hs, H, st, ns, c, ps, hit)) (Int.toNat (((2 ^ ns.length : Nat) : Int) - 0)) 0 [] (-1) = some (out, best) := by
    rw [Int.sub_zero, Int.toNat_natCast]; exact e1
  unfold round_Two
  rw [e, b2_some, if_neg (by decide), gd_t (shl_r (by omega)), gd_t ⟨r64_small (by omega), (shl_r (by omega)).2⟩, shl_nat, e1', b2_some]
  by_cases d : best = -1
  · rw [if_pos d, if_pos d]
  · rw [if_neg d, if_neg d]
theorem who_all : ∀ w : List Int, w.length ≤ 3 → (∀ x ∈ w, x = 0 ∨ x = 1) → ∃ n, n < 2 ^ w.length ∧ whoL w.length n = w
  | [], _, _ => ⟨0, by decide, rfl⟩
  | [a], _, h => by
    rcases h a (by simp) with rfl | rfl
    · exact ⟨0, by decide, by decide⟩
    · exact ⟨1, by decide, by decide⟩
  | [a, b], _, h => by
    rcases h a (by simp) with rfl | rfl <;> rcases h b (by simp) with rfl | rfl
    · exact ⟨0, by decide, by decide⟩
    · exact ⟨1, by decide, by decide⟩
    · exact ⟨2, by decide, by decide⟩
    · exact ⟨3, by decide, by decide⟩
  | [a, b, d], _, h => by
    rcases h a (by simp) with rfl | rfl <;> rcases h b (by simp) with rfl | rfl <;> rcases h d (by simp) with rfl | rfl
    · exact ⟨0, by decide, by decide⟩
    · exact ⟨1, by decide, by decide⟩
    · exact ⟨2, by decide, by decide⟩
    · exact ⟨3, by decide, by decide⟩
    · exact ⟨4, by decide, by decide⟩
    · exact ⟨5, by decide, by decide⟩
    · exact ⟨6, by decide, by decide⟩
    · exact ⟨7, by decide, by decide⟩
  | _ :: _ :: _ :: _ :: _, h, _ => by simp at h
def compl (w : List Int) : List Int := w.map fun x => 1 - x
theorem who_first : ∀ N, N < 4 → ∀ n, n < 8 → n < 2 ^ N → (whoL N n).getD 0 0 = 1 → ∃ m, m < n ∧ whoL N m = compl (whoL N n) := by decide
theorem who_bits (N n : Nat) : ∀ x ∈ whoL N n, x = 0 ∨ x = 1 := fun x hx => by
  unfold whoL at hx
  obtain ⟨i, _, rfl⟩ := List.mem_map.1 hx
  cases n.testBit (N - 1 - i)
  · exact .inl rfl
  · exact .inr rfl
theorem compl_get {w : List Int} {i : Nat} (hi : i < w.length) : (compl w).getD i 0 = 1 - w.getD i 0 := by
  unfold compl
  simp only [List.getD_eq_getElem?_getD, List.getElem?_map, List.getElem?_eq_getElem hi]
  rfl
theorem IL_compl {w : List Int} (_h : ∀ x ∈ w, x = 0 ∨ x = 1) : IL (compl w) 0 = IL w 1 ∧ IL (compl w) 1 = IL w 0 := by
  have hl : (compl w).length = w.length := List.length_map ..
  unfold IL
  rw [hl]
  refine ⟨List.filter_congr fun i hi => ?_, List.filter_congr fun i hi => ?_⟩
  · rw [compl_get (List.mem_range.1 hi), decide_eq_decide]; omega
  · rw [compl_get (List.mem_range.1 hi), decide_eq_decide]; omega
theorem val_compl {w : List Int} (h : ∀ x ∈ w, x = 0 ∨ x = 1) : valW E ps (compl w) = valW E ps w := by
  unfold valW
  rw [(IL_compl h).1, (IL_compl h).2]
  cases E (ofB ps (toI (IL w 0))) with
  | none => cases E (ofB ps (toI (IL w 1))) <;> rfl
  | some x =>
    cases E (ofB ps (toI (IL w 1))) with
    | none => rfl
    | some y =>
      show some _ = some _
      congr 1
      split <;> split <;> omega
end
end Go.Proofs.Ytfmapnhfamoecaa.Rd
namespace Go.Proofs.Ytfmapnhfamoecaa.Rd
open Go.PL Go.Proofs.Ytfmapnhfamoecaa.Rv
theorem copyI_eq (l : List Int) (hl : l.length ≤ 1000) : oyezkit_Copy_int l = some l := by
  unfold oyezkit_Copy_int
  rw [gd_t ⟨by omega, by omega⟩, bvE, bvE, Int.toNat_natCast, cpyR]
theorem copyN_eq (l : List (List Int × Int × Int)) (hl : l.length ≤ 1000) : oyezkit_Copy_Notice l = some l := by
  unfold oyezkit_Copy_Notice
  rw [gd_t ⟨by omega, by omega⟩, bvE, bvE, Int.toNat_natCast, cpyR]
theorem rows_l1 {l : List (List Int)} (hr : ∀ x ∈ l, x.length ≤ 1000) : ∀ (tl : List (List Int)) (k : Nat) (out : List (List Int)), l.drop k = tl → out.length = l.length → (∀ i, i < k → out.getD i [] = l.getD i []) → oyezkit_CopyRows_int_l1 tl (k : Int) out = some l
  | [], k, out, hd, h1, h2 => by
    have hl : l.length ≤ k := by
      have := congrArg List.length hd
      rw [List.length_drop, List.length_nil] at this; omega
    rw [getD_ext (d := []) h1 fun t ht => h2 t (by omega)]
    rfl
  | x :: tl, k, out, hd, h1, h2 => by
    obtain ⟨hk, hx, hd2⟩ := drop_cons [] hd
    unfold oyezkit_CopyRows_int_l1
    rw [copyI_eq x (hr x (by rw [← hx]; exact getD_mem hk)), b1_some, ixN [] _ (by omega), bvE, Int.toNat_natCast]
    refine rows_l1 hr tl (k + 1) _ hd2 (by rw [List.length_set]; exact h1) fun i hi => ?_
    rw [getD_setI (by omega)]
    by_cases d : k = i
    · rw [if_pos d, ← d, hx]
    · rw [if_neg d]; exact h2 i (by omega)
theorem rows_eq {l : List (List Int)} (hl : l.length ≤ 1000) (hr : ∀ x ∈ l, x.length ≤ 1000) : oyezkit_CopyRows_int l = some l := by
  have e := rows_l1 hr l 0 (List.replicate l.length []) rfl (by simp) (fun i hi => absurd hi (Nat.not_lt_zero _))
  have e' : oyezkit_CopyRows_int_l1 l 0 (List.replicate l.length []) = some l := e
  unfold oyezkit_CopyRows_int
  rw [gd_t ⟨by omega, by omega⟩, bvE, Int.toNat_natCast, e', b1_some]
section
variable {ws hs : List (List Int)} {H st : Int} {ns : List (List Int × Int × Int)} {c : List Int} {ps : List (Int × Int)} {hit : List Int} {E : Nat → Option Int}
theorem own_l1 (hq : ∀ x ∈ ns, x.1.length ≤ 1000) : ∀ (fu k : Nat), k + fu = ns.length → oyezlaw03_Own_l1 fu (k : Int) ns = some ns
  | 0, _, _ => rfl
  | fu + 1, k, hk => by
    have hm : ns.getD k ([], 0, 0) ∈ ns := getD_mem (by omega)
    have hs' : ns.set k ((ns.getD k ([], 0, 0)).1, (ns.getD k ([], 0, 0)).2.1, (ns.getD k ([], 0, 0)).2.2) = ns := by
      refine getD_ext (d := ([], 0, 0)) (List.length_set ..) fun t ht => ?_
      rw [List.length_set] at ht
      rw [getD_setI (by omega)]
      by_cases d : k = t
      · rw [if_pos d, ← d]
      · rw [if_neg d]
    unfold oyezlaw03_Own_l1
    rw [ixN ([], 0, 0) _ (by omega), copyI_eq _ (hq _ hm), b1_some, bvE, Int.toNat_natCast, hs']
    exact own_l1 hq fu (k + 1) (by omega)
theorem Own_eq (h : BtOK ws hs H st ns) : oyezlaw03_Own ws hs H st ns = some (ws, hs, H, st, ns) := by
  have hw := h.hw
  have h5 := h.hs1.2
  have h3 := h.hn
  have hH := h.hH.2
  have e := own_l1 (fun x hx => nodup_len (h.note x hx).1.2.1 (h.note x hx).1.2.2 hH) ns.length 0 (by omega)
  have e' : oyezlaw03_Own_l1 (Int.toNat ((ns.length : Int) - 0)) 0 ns = some ns := by
    rw [show Int.toNat ((ns.length : Int) - 0) = ns.length by omega]; exact e
  unfold oyezlaw03_Own
  rw [rows_eq (by omega) (fun x hx => by
    obtain ⟨i, hi, rfl⟩ := List.getElem_of_mem hx
    have := (h.row i hi).1
    rw [List.getD_eq_getElem?_getD, List.getElem?_eq_getElem hi, Option.getD_some] at this
    omega), b1_some, rows_eq (by omega) (fun x hx => nodup_len (h.hear x hx).1 (h.hear x hx).2 hH), b1_some, copyN_eq ns (by omega), b1_some, gd_t ⟨r64_small (by omega), r64_small (by omega)⟩, e', b1_some]
theorem part_l4 {w : List Int} {k : Int} (hw : w.length = ns.length) (h3 : ns.length ≤ 3) : ∀ (tl : List (List Int × Int × Int)) (j : Nat) (acc : List (List Int × Int × Int)), ns.drop j = tl → acc.length + tl.length ≤ 100 → oyezlaw03_RoundShared_1_l4 w k tl (j : Int) acc = some (acc ++ subN ns ((List.range' j tl.length).filter fun i => decide (w.getD i 0 = k)))
  | [], j, acc, _, _ => by unfold oyezlaw03_RoundShared_1_l4 subN; simp
  | x :: tl, j, acc, hd, hl => by
    obtain ⟨hj, hx, hd2⟩ := drop_cons ([], 0, 0) hd
    simp only [List.length_cons] at hl
    unfold oyezlaw03_RoundShared_1_l4
    rw [ixI _ (by omega), List.length_cons, List.range'_succ, List.filter_cons]
    by_cases d : w.getD j 0 = k
    · rw [if_pos d, if_pos (decide_eq_true d), ap_t (by simp; omega), show (j : Int) + 1 = ((j + 1 : Nat) : Int) from rfl, part_l4 hw h3 tl (j + 1) _ hd2 (by simp; omega)]
      unfold subN
      rw [List.map_cons, hx, List.append_assoc]; rfl
    · rw [if_neg d, if_neg (by simpa using d), show (j : Int) + 1 = ((j + 1 : Nat) : Int) from rfl, part_l4 hw h3 tl (j + 1) _ hd2 (by omega)]
theorem part_eq {w : List Int} {k : Int} (hw : w.length = ns.length) (h3 : ns.length ≤ 3) : oyezlaw03_RoundShared_1_l4 w k ns 0 [] = some (subN ns (IL w k)) := by
  have e := part_l4 (k := k) hw h3 ns 0 [] rfl (by simp; omega)
  unfold IL
  rw [hw, List.range_eq_range']
  exact e
theorem sub_all (ns : List (List Int × Int × Int)) : subN ns (List.range ns.length) = ns := by
  refine getD_ext (d := ([], 0, 0)) (by simp [subN]) fun t ht => ?_
  have ht' : t < ns.length := by simpa [subN] using ht
  rw [subN_get (by simpa using ht'), List.getD_eq_getElem?_getD (l := List.range ns.length), List.getElem?_range ht']
  rfl
theorem sub_list {w : List Int} {k : Int} (hw : w.length = ns.length) : (subN ns (IL w k)).Sublist ns := by
  have h1 : (IL w k).Sublist (List.range ns.length) := by unfold IL; rw [hw]; exact List.filter_sublist ..
  have h2 : (subN ns (IL w k)).Sublist (subN ns (List.range ns.length)) := h1.map _
  rw [sub_all] at h2
  exact h2
theorem shared_1 (h : BtOK ws hs H st ns) (e : round_opened ws hs H st ns = some (some (ws, hs, H, st, ns, c, ps, hit), 0)) (hc : CrOK hs ns c ps hit) (hE : ∀ v t, E v = some t ↔ MinT c ns hit hs st (bdL ns 200) v t) {w : List Int} (hw : w.length = ns.length) : oyezlaw03_RoundShared_1 w ws hs H st ns = some (match valW E ps w with | some t => (t, true) | none => (0, false)) := by
  have h3 := h.hn
  have hI : ∀ k, ∀ i ∈ IL w k, i < ns.length := fun k i hi => by have := (mem_IL.1 hi).1; omega
  have hb := fun k => best_sub h e hc hE (sub_list (k := k) hw) (IL_nodup w k) (hI k)
  unfold oyezlaw03_RoundShared_1
  rw [gd_t ⟨r64_small (by omega), r64_small (by omega)⟩]
  show oyezlaw03_RoundShared_1_l2 w ws hs H st ns (1 + 1) 0 0 = _
  unfold oyezlaw03_RoundShared_1_l2
  rw [Own_eq h, b5_some, part_eq hw h3, b1_some]
  unfold valW
  rcases hb 0 with ⟨q, eb⟩ | ⟨l, x, q, hx, eb⟩
  · rw [eb, b3_some, if_pos (by decide), q]
  · rw [eb, b3_some, if_neg (by decide), bvE, q]
    have ex : (if x > 0 then x else 0) = x := by split <;> omega
    rw [ex]
    unfold oyezlaw03_RoundShared_1_j3
    show oyezlaw03_RoundShared_1_l2 w ws hs H st ns (0 + 1) 1 x = _
    unfold oyezlaw03_RoundShared_1_l2
    rw [Own_eq h, b5_some, part_eq hw h3, b1_some]
    rcases hb 1 with ⟨q2, eb2⟩ | ⟨l2, y, q2, hy, eb2⟩
    · rw [eb2, b3_some, if_pos (by decide), q2]
    · rw [eb2, b3_some, if_neg (by decide), bvE, q2]
      rfl
theorem share_l1 {share : Int} (hs' : 0 ≤ share ∧ share ≤ 255) {N : Nat} (hN : N ≤ 3) : ∀ (fu k : Nat) (w : List Int), k + fu = N → w.length = N → (∀ x ∈ w, x = 0 ∨ x = 1) → ∃ w', oyezlaw03_RoundShared_l1 share fu (k : Int) w = some w' ∧ w'.length = N ∧ ∀ x ∈ w', x = 0 ∨ x = 1
  | 0, _, w, _, h1, h2 => ⟨w, rfl, h1, h2⟩
  | fu + 1, k, w, hk, h1, h2 => by
    obtain ⟨s, hs2⟩ := Int.eq_ofNat_of_zero_le hs'.1
    have hsn : s < 9223372036854775808 := by omega
    unfold oyezlaw03_RoundShared_l1
    rw [gd_t (r64_small (by omega)), gd_t (by omega), ixI _ (by omega), bvE, Int.toNat_natCast, hs2, bit_nat hsn, ← hs2]
    refine share_l1 hs' hN fu (k + 1) _ (by omega) (by rw [List.length_set]; exact h1) fun x hx => ?_
    rcases List.mem_or_eq_of_mem_set hx with hx | rfl
    · exact h2 x hx
    · split
      · exact .inr rfl
      · exact .inl rfl
theorem shared_j2 (h : BtOK ws hs H st ns) (e : round_opened ws hs H st ns = some (some (ws, hs, H, st, ns, c, ps, hit), 0)) (hc : CrOK hs ns c ps hit) (hE : ∀ v t, E v = some t ↔ MinT c ns hit hs st (bdL ns 200) v t) {w : List Int} {t : Int} (hw : w.length = ns.length) (hb : ∀ x ∈ w, x = 0 ∨ x = 1) (hv : valW E ps w = some t) (h0 : w.length ≠ 0 → w.getD 0 0 = 0) : oyezlaw03_RoundShared_j2 ws hs H st ns w t (compl w) = some true := by
  unfold oyezlaw03_RoundShared_j2
  rw [shared_1 h e hc hE hw, shared_1 h e hc hE (w := compl w) (by rw [← hw]; exact List.length_map ..), val_compl hb, hv]
  dsimp only
  rw [b2_some, b2_some, if_pos rfl, if_pos rfl, if_pos rfl, if_pos rfl]
  by_cases d : w.length = 0
  · rw [if_pos (by omega), awake_eq, b1_some]
  · have hx : ∀ {β : Type} (f : Int → Option β), ix w 0 f = f (w.getD 0 0) := fun f => ixI (i := 0) f (by omega)
    rw [if_neg (by omega), hx, h0 d, if_pos rfl, awake_eq, b1_some]
theorem shared_l3 {w : List Int} {t : Int} (hb : ∀ x ∈ w, x = 0 ∨ x = 1) (hend : oyezlaw03_RoundShared_j2 ws hs H st ns w t (compl w) = some true) : ∀ (tl : List Int) (k : Nat) (o : List Int), w.drop k = tl → o.length = w.length → (∀ i, i < k → o.getD i 0 = 1 - w.getD i 0) → oyezlaw03_RoundShared_l3 ws hs H st ns w t tl (k : Int) o = some true
  | [], k, o, hd, h1, h2 => by
    have hl : w.length ≤ k := by
      have := congrArg List.length hd
      rw [List.length_drop, List.length_nil] at this; omega
    have ho : o = compl w := getD_ext (d := 0) (by rw [h1]; exact (List.length_map ..).symm) fun i hi => by rw [h2 i (by omega), compl_get (by omega)]
    unfold oyezlaw03_RoundShared_l3
    rw [ho]; exact hend
  | x :: tl, k, o, hd, h1, h2 => by
    obtain ⟨hk, hx, hd2⟩ := drop_cons 0 hd
    have hxb := hb x (by rw [← hx]; exact getD_mem hk)
    have key : (if x ≠ 0 then some (decide (x ≠ 1)) else some false) = some false := by
      rcases hxb with rfl | rfl <;> rfl
    unfold oyezlaw03_RoundShared_l3
    rw [key, b1_some, if_neg (by decide), gd_t (r64_small (by omega)), ixI _ (by omega), bvE, Int.toNat_natCast]
    refine shared_l3 hb hend tl (k + 1) _ hd2 (by rw [List.length_set]; exact h1) fun i hi => ?_
    rw [getD_setI (by omega)]
    by_cases d : k = i
    · rw [if_pos d, ← d, hx]
    · rw [if_neg d]; exact h2 i (by omega)
theorem ofB_all (hc : CrOK hs ns c ps hit) : ofB ps (toI (List.range ns.length)) = 2 ^ ps.length - 1 := by
  refine Nat.eq_of_testBit_eq fun i => ?_
  rw [ofB_bit, Nat.testBit_two_pow_sub_one, decide_eq_decide]
  refine ⟨fun q => q.1, fun q => ⟨q, mem_toI.2 ?_⟩⟩
  have := ((hc.prs.mem _).1 (getD_mem (d := (0, 0)) q)).1
  exact ⟨(ps.getD i (0, 0)).1.toNat, List.mem_range.2 (by omega), by omega⟩
theorem ofB_nil (ps : List (Int × Int)) : ofB ps (toI []) = 0 := by
  refine Nat.eq_of_testBit_eq fun i => ?_
  rw [ofB_bit, Nat.zero_testBit, decide_eq_false]
  intro q
  exact nomatch q.2
theorem E_zero (h : BtOK ws hs H st ns) (hc : CrOK hs ns c ps hit) (hE : ∀ v t, E v = some t ↔ MinT c ns hit hs st (bdL ns 200) v t) : E 0 = some 0 := by
  refine (hE 0 0).2 ⟨⟨[], [], fun _ q => (nomatch q), rfl, rfl, Int.le_refl _⟩, fun T ⟨l, es, g1, g2, _, g4⟩ => ?_⟩
  have := (ends_pos hc.fin h.hs1.2 h.note l st 0 es g1 h.hst (Int.le_refl _) g2).1
  cases es with
  | nil => exact g4
  | cons x es => exact Int.le_trans (this _ (by rw [List.getLastD_cons]; exact lastD_mem x es)) g4
theorem shared_true {numbers : List Int} {share : Int} (hm : (numbers.length : Int) ≤ 9223372036854775807) (hsh : 0 ≤ share ∧ share ≤ 255) : oyezlaw03_RoundShared numbers share = some true := by
  unfold oyezlaw03_RoundShared oyezkit_Hang
  obtain ⟨ws, hs, H, st, ns, a', t', e1, h, ha, _, _, _⟩ := made_ok (metal := numbers) (a := 0) (t := 0) (S := 4) (H := 3) (N := 3) ⟨by omega, by omega⟩ hm (by omega) (by omega) (by omega)
  obtain ⟨c, ps, hit, e, hc⟩ := opened_eq h
  have h3 := h.hn
  obtain ⟨E, hE⟩ := minT_fun (c := c) (ns := ns) (hit := hit) (hs := hs) (st := st) (bd := bdL ns 200)
  obtain ⟨out, best, h2, e2⟩ := Two_eq h e hc hE
  -- all notices for the first one
  have hw0 : whoL ns.length 0 = List.replicate ns.length 0 := by
    refine getD_ext (d := 0) (by rw [whoL_len]; simp) fun i hi => ?_
    rw [whoL_len] at hi
    rw [whoL_get hi, Nat.zero_testBit, if_neg (by decide), List.getD_eq_getElem?_getD, List.getElem?_replicate, if_pos hi]; rfl
  have hI0 : IL (whoL ns.length 0) 0 = List.range ns.length ∧ IL (whoL ns.length 0) 1 = [] := by
    rw [(IL_who _ _).1, (IL_who _ _).2]
    refine ⟨List.filter_eq_self.2 fun i _ => by rw [Nat.zero_testBit]; rfl, List.filter_eq_nil_iff.2 fun i _ => by rw [Nat.zero_testBit]; decide⟩
  have hv0 : ∀ t, E (2 ^ ps.length - 1) = some t → 0 ≤ t → valW E ps (whoL ns.length 0) = some t := fun t ht h0 => by
    unfold valW
    rw [hI0.1, hI0.2, ofB_all hc, ofB_nil, ht, E_zero h hc hE]
    show some (if 0 > t then 0 else t) = some t
    rw [if_neg (by omega)]
  have hpos2 : 0 < 2 ^ ns.length := Nat.pow_pos (by decide)
  have hall : ∀ w : List Int, w.length = ns.length → (∀ x ∈ w, x = 0 ∨ x = 1) → ∃ n, n < 2 ^ ns.length ∧ whoL ns.length n = w := fun w hw hb => by
    have := who_all w (by omega) hb
    rw [hw] at this; exact this
  obtain ⟨l5, n5, n6, eb, hb6⟩ : ∃ l5 n5 n6, round_Best ws hs H st ns = some (l5, n5, n6) ∧ (n6 = 0 → ∃ t, valW E ps (whoL ns.length 0) = some t ∧ t = n5) := by
    rcases Best_eq h e hc with ⟨eb, _⟩ | ⟨l, t, eb, q1, q2⟩
    · exact ⟨_, _, _, eb, fun z => absurd z (by decide)⟩
    · have hmin := (hE _ t).2 (Ser.min h hc q1 q2)
      exact ⟨_, _, _, eb, fun _ => ⟨t, hv0 t hmin (E_pos h hc hE hmin), rfl⟩⟩
  obtain ⟨w', es, hw', hbw'⟩ := share_l1 hsh (N := ns.length) h3 ns.length 0 (List.replicate ns.length 0) (by omega) (by simp) (fun x hx => .inl (List.eq_of_mem_replicate hx))
  have es' : oyezlaw03_RoundShared_l1 share (Int.toNat ((ns.length : Int) - 0)) 0 (List.replicate ns.length 0) = some w' := by
    rw [show Int.toNat ((ns.length : Int) - 0) = ns.length by omega]; exact es
  obtain ⟨n', hn', hwn'⟩ := hall w' hw' hbw'
  rw [b3_some, e1, b7_some, e2]
  rcases h2 with ⟨q1, q2, q3⟩ | ⟨n, q1, q2, q3, q4, q5, q6⟩
  · subst q1
    rw [if_pos rfl, b3_some, eb, b3_some, if_pos (by decide), if_neg (by decide)]
    have hn6 : n6 ≠ 0 := fun z => by
      obtain ⟨t, ht, _⟩ := hb6 z
      have := q3 0 hpos2
      have this' : valW E ps (whoL ns.length 0) = none := this
      rw [ht] at this'; cases this'
    rw [if_neg hn6, if_neg (by decide), b1_some, if_neg (by decide)]
    have hvn : valW E ps w' = none := by
      have := q3 n' hn'
      rw [← hwn']; exact this
    rw [gd_t ⟨by omega, by omega⟩, bvE, Int.toNat_natCast, gd_t ⟨r64_small (by omega), r64_small (by rw [List.length_replicate]; omega)⟩, List.length_replicate, es', b1_some, shared_1 h e hc hE hw', hvn, b2_some, if_neg (by decide), b1_some, if_neg (by decide), if_pos (by decide), awake_eq, b1_some]
  · have q3' : valW E ps (whoL ns.length n) = some best := q3
    have hol : out.length = ns.length := by rw [q2, whoL_len]
    have hob : ∀ x ∈ out, x = 0 ∨ x = 1 := by rw [q2]; exact who_bits _ _
    rw [if_neg (by omega), b3_some, eb, b3_some]
    have key : (if (0 : Int) ≠ 0 then (if (0 : Int) ≠ 6 then some true else (if n6 = 0 then some true else (if (0 : Int) = 0 then some (decide ((out.length : Int) ≠ (ns.length : Int))) else some false))) else (if n6 = 0 then (if n5 < best then some true else (if (0 : Int) = 0 then some (decide ((out.length : Int) ≠ (ns.length : Int))) else some false)) else (if (0 : Int) = 0 then some (decide ((out.length : Int) ≠ (ns.length : Int))) else some false))) = some false := by
      have hd : decide ((out.length : Int) ≠ (ns.length : Int)) = false := decide_eq_false (by omega)
      rw [if_neg (by decide), hd]
      by_cases z : n6 = 0
      · obtain ⟨t, ht, rfl⟩ := hb6 z
        have := q5 0 t hpos2 ht
        rw [if_pos z, if_neg (by omega), if_pos rfl]
      · rw [if_neg z, if_pos rfl]
    rw [key, b1_some, if_neg (by decide), gd_t ⟨by omega, by omega⟩, bvE, Int.toNat_natCast, gd_t ⟨r64_small (by omega), r64_small (by rw [List.length_replicate]; omega)⟩, List.length_replicate, es', b1_some, shared_1 h e hc hE hw']
    have h0 : out.length ≠ 0 → out.getD 0 0 = 0 := fun hne => by
      rcases hob _ (getD_mem (d := 0) (show 0 < out.length by omega)) with z | z
      · exact z
      · rw [q2] at z
        have hp8 : (2 : Nat) ^ ns.length ≤ 2 ^ 3 := Nat.pow_le_pow_right (by decide) h3
        have h8 : (2 : Nat) ^ 3 = 8 := by decide
        obtain ⟨m, hm1, hm2⟩ := who_first ns.length (by omega) n (by omega) q1 z
        have hvm : valW E ps (whoL ns.length m) = some best := by
          rw [hm2, val_compl (who_bits _ _)]; exact q3'
        have := q6 m best hm1 hvm
        omega
    have hfin := shared_l3 hob (shared_j2 h e hc hE hol hob (by rw [q2]; exact q3') h0) out 0 w' rfl (by rw [hw', hol]) (fun i hi => absurd hi (Nat.not_lt_zero _))
    have hfin' : oyezlaw03_RoundShared_l3 ws hs H st ns out best out 0 w' = some true := hfin
    cases hvw : valW E ps w' with
    | none => rw [b2_some, if_neg (by decide), b1_some, if_neg (by decide), if_neg (by decide), hfin']
    | some t =>
      have := q5 n' t hn' (by show valW E ps (whoL ns.length n') = some t; rw [hwn']; exact hvw)
      rw [b2_some, if_pos rfl, if_neg (by decide), decide_eq_false (by omega), b1_some, if_neg (by decide), if_neg (by decide), hfin']
end
end Go.Proofs.Ytfmapnhfamoecaa.Rd
