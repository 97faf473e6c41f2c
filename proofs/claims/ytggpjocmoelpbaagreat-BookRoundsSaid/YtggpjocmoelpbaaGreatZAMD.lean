/- Pairs that exclude each other; in plain Lean. -/
import Derived.Test.YtggpjocmoelpbaaGreatZAMC
namespace Go.Proofs.YtggpjocmoelpbaaGreat.Rd
open Go.PL Go.Proofs.YtggpjocmoelpbaaGreat.Rv
section
variable {ws hs : List (List Int)} {H st : Int} {ns : List (List Int × Int × Int)} {c : List Int} {ps : List (Int × Int)} {hit : List Int} {bd : Nat → Int} {ok : Int × Int → Option Bool} {D : Nat → Bool}
end
end Go.Proofs.YtggpjocmoelpbaaGreat.Rd
namespace Go.Proofs.YtggpjocmoelpbaaGreat.Rd
open Go.PL
theorem rep_all : ((List.range 6).all fun k => decide (k = 0 ∨ slices_Repeat_int_int [-1] (k : Int) = some (List.replicate k (-1)))) = true := by decide +kernel
theorem rep_eq {H : Int} (hH : 1 ≤ H ∧ H ≤ 5) : slices_Repeat_int_int [-1] H = some (List.replicate H.toNat (-1)) := by
  have h1 := (List.all_eq_true.1 rep_all) H.toNat (List.mem_range.2 (by omega))
  rw [decide_eq_true_iff] at h1
  rcases h1 with h1 | h1
  · omega
  · rw [show ((H.toNat : Nat) : Int) = H by omega] at h1; exact h1
def SoonP (P : Int → Prop) (v : Int) : Prop := (v = -1 ∧ ∀ e, ¬ P e) ∨ (P v ∧ 0 ≤ v ∧ ∀ e, P e → v ≤ e)
theorem SoonP.congr {P Q : Int → Prop} {v : Int} (h : SoonP P v) (he : ∀ e, P e ↔ Q e) : SoonP Q v := by
  rcases h with ⟨h1, h2⟩ | ⟨h1, h2, h3⟩
  · exact .inl ⟨h1, fun e q => h2 e ((he e).2 q)⟩
  · exact .inr ⟨(he v).1 h1, h2, fun e q => h3 e ((he e).2 q)⟩
theorem SoonP.add {P : Int → Prop} {v e : Int} (h : SoonP P v) (h0 : 0 ≤ e) : ∃ v', round_soonest [v, e] = some v' ∧ SoonP (fun x => P x ∨ x = e) v' := by
  refine ⟨_, soonest2 v e h0, ?_⟩
  rcases h with ⟨h1, h2⟩ | ⟨h1, h2, h3⟩
  · rw [if_pos h1]
    exact .inr ⟨.inr rfl, h0, fun x hx => by
      rcases hx with hx | hx
      · exact absurd hx (h2 x)
      · omega⟩
  · rw [if_neg (by omega)]
    by_cases c : e < v
    · rw [if_pos c]
      exact .inr ⟨.inr rfl, h0, fun x hx => by
        rcases hx with hx | hx
        · have := h3 x hx; omega
        · omega⟩
    · rw [if_neg c]
      exact .inr ⟨.inl h1, h2, fun x hx => by
        rcases hx with hx | hx
        · exact h3 x hx
        · omega⟩
theorem SoonP.le {P : Int → Prop} {v b : Int} (h : SoonP P v) (_hP : ∀ e, P e → 0 ≤ e) : (0 ≤ v ∧ v ≤ b) ↔ ∃ e, P e ∧ e ≤ b := by
  rcases h with ⟨h1, h2⟩ | ⟨h1, h2, h3⟩
  · exact ⟨fun h => by omega, fun ⟨e, he, _⟩ => absurd he (h2 e)⟩
  · exact ⟨fun h => ⟨v, h1, h.2⟩, fun ⟨e, he, hb⟩ => ⟨h2, Int.le_trans (h3 e he) hb⟩⟩
structure Tab (N H : Nat) (P : Nat → Nat → Int → Prop) (out : List (List Int)) : Prop where
  len : out.length = N
  row : ∀ n, n < N → (out.getD n []).length = H
  val : ∀ n h, n < N → h < H → SoonP (P n h) ((out.getD n []).getD h 0)
theorem Tab.congr {N H : Nat} {P Q : Nat → Nat → Int → Prop} {out : List (List Int)} (h : Tab N H P out) (he : ∀ n h' e, n < N → h' < H → (P n h' e ↔ Q n h' e)) : Tab N H Q out :=
  ⟨h.len, h.row, fun n h' h1 h2 => (h.val n h' h1 h2).congr fun e => he n h' e h1 h2⟩
theorem heard_l1 {H : Int} (hH : 1 ≤ H ∧ H ≤ 5) : ∀ (tl : List (List Int × Int × Int)) (out : List (List Int)), out.length + tl.length ≤ 100 → round_Heard_l1 H tl out = some (out ++ List.replicate tl.length (List.replicate H.toNat (-1)))
  | [], out, _ => by simp [round_Heard_l1]
  | x :: tl, out, hl => by
    simp only [List.length_cons] at hl
    unfold round_Heard_l1
    rw [rep_eq hH, b1_some, ap_t (by simp; omega), heard_l1 hH tl _ (by simp; omega), List.append_assoc]
    rfl
theorem heard_l3 {N H : Nat} {es : List Int} {k : Nat} {x : Int × Int} (hk : k < es.length) (h0 : 0 ≤ es.getD k 0) (hx : 0 ≤ x.2 ∧ x.2 < (N : Int)) : ∀ (tl : List Int) (out : List (List Int)) (P : Nat → Nat → Int → Prop), (∀ h ∈ tl, 0 ≤ h ∧ h < (H : Int)) → Tab N H P out →
    ∃ out', round_Heard_l3 es (k : Int) x tl out = some out' ∧ Tab N H (fun n h e => P n h e ∨ ((n : Int) = x.2 ∧ (h : Int) ∈ tl ∧ e = es.getD k 0)) out'
  | [], out, P, _, h => ⟨out, rfl, h.congr fun n h' e _ _ => ⟨.inl, fun q => q.elim id fun q => (nomatch q.2.1)⟩⟩
  | y :: tl, out, P, ht, h => by
    obtain ⟨hy1, hy2⟩ := ht y (by simp)
    have hrow := h.row x.2.toNat (by omega)
    have hl := h.len
    obtain ⟨v', e1, hv⟩ := (h.val x.2.toNat y.toNat (by omega) (by omega)).add h0
    unfold round_Heard_l3
    rw [ixD [] _ hx.1 (by omega), ixD 0 _ hy1 (by rw [hrow]; exact hy2), ixN 0 _ hk, e1, b1_some, bvE, bvE]
    have h' : Tab N H (fun n h' e => P n h' e ∨ ((n : Int) = x.2 ∧ (h' : Int) = y ∧ e = es.getD k 0)) (out.set x.2.toNat ((out.getD x.2.toNat []).set y.toNat v')) := by
      refine ⟨by rw [List.length_set]; exact hl, fun n hn => ?_, fun n h' hn hh => ?_⟩
      · rw [getD_setI (by omega)]
        by_cases c : x.2.toNat = n
        · rw [if_pos c, List.length_set]; exact hrow
        · rw [if_neg c]; exact h.row n hn
      · rw [getD_setI (by omega)]
        by_cases c : x.2.toNat = n
        · rw [if_pos c, getD_setI (by omega)]
          by_cases d : y.toNat = h'
          · rw [if_pos d]
            rw [c, d] at hv
            exact hv.congr fun e => ⟨fun q => q.imp id fun q => ⟨by omega, by omega, q⟩, fun q => q.imp id fun q => q.2.2⟩
          · rw [if_neg d, c]
            exact (h.val n h' hn hh).congr fun e => ⟨.inl, fun q => q.elim id fun q => absurd q.2.1 (by omega)⟩
        · rw [if_neg c]
          exact (h.val n h' hn hh).congr fun e => ⟨.inl, fun q => q.elim id fun q => absurd q.1 (by omega)⟩
    obtain ⟨out', e2, h2⟩ := heard_l3 hk h0 hx tl _ _ (fun z hz => ht z (by simp [hz])) h'
    refine ⟨out', e2, h2.congr fun n h' e _ _ => ?_⟩
    rw [List.mem_cons]
    constructor
    · rintro ((q | ⟨q1, q2, q3⟩) | ⟨q1, q2, q3⟩)
      · exact .inl q
      · exact .inr ⟨q1, .inl q2, q3⟩
      · exact .inr ⟨q1, .inr q2, q3⟩
    · rintro (q | ⟨q1, q2 | q2, q3⟩)
      · exact .inl (.inl q)
      · exact .inl (.inr ⟨q1, q2, q3⟩)
      · exact .inr ⟨q1, q2, q3⟩
def HrE (hs : List (List Int)) (l : List (Int × Int)) (es : List Int) (n h : Nat) (e : Int) : Prop := ∃ z ∈ l.zip es, z.1.2 = (n : Int) ∧ (h : Int) ∈ hs.getD z.1.1.toNat [] ∧ z.2 = e
theorem heard_l2 {N H : Nat} {hs : List (List Int)} {es : List Int} (hr : ∀ r ∈ hs, ∀ h ∈ r, 0 ≤ h ∧ h < (H : Int)) (h0 : ∀ e ∈ es, (0 : Int) ≤ e) : ∀ (tl : List (Int × Int)) (k : Nat) (out : List (List Int)) (P : Nat → Nat → Int → Prop), k + tl.length = es.length → CryOK hs.length N tl → Tab N H P out →
    ∃ out', round_Heard_l2 hs es tl (k : Int) out = some out' ∧ Tab N H (fun n h e => P n h e ∨ HrE hs tl (es.drop k) n h e) out'
  | [], k, out, P, _, _, h => ⟨out, rfl, h.congr fun n h' e _ _ => ⟨.inl, fun q => q.elim id fun ⟨z, hz, _⟩ => (nomatch hz)⟩⟩
  | x :: tl, k, out, P, hk, hl, h => by
    rw [List.length_cons] at hk
    obtain ⟨hx1, hx2⟩ := hl x (by simp)
    have hkl : k < es.length := by omega
    obtain ⟨out1, e1, h1⟩ := heard_l3 (N := N) (H := H) (es := es) (k := k) (x := x) hkl (h0 _ (getD_mem hkl)) hx2 (hs.getD x.1.toNat []) out P (hr _ (getD_mem (by omega))) h
    obtain ⟨out2, e2, h2⟩ := heard_l2 hr h0 tl (k + 1) out1 _ (by omega) (fun z hz => hl z (by simp [hz])) h1
    unfold round_Heard_l2
    rw [ixD [] _ hx1.1 hx1.2, e1, b1_some]
    refine ⟨out2, e2, h2.congr fun n h' e _ _ => ?_⟩
    have ed : es.drop k = es.getD k 0 :: es.drop (k + 1) := by
      rw [List.drop_eq_getElem_cons hkl]; congr 1
      rw [List.getD_eq_getElem?_getD, List.getElem?_eq_getElem hkl]; rfl
    unfold HrE
    rw [ed, List.zip_cons_cons]
    constructor
    · rintro ((q | ⟨q1, q2, q3⟩) | ⟨z, hz, q⟩)
      · exact .inl q
      · exact .inr ⟨(x, es.getD k 0), by simp, q1.symm, q2, q3.symm⟩
      · exact .inr ⟨z, by simp [hz], q⟩
    · rintro (q | ⟨z, hz, q1, q2, q3⟩)
      · exact .inl (.inl q)
      · rcases List.mem_cons.1 hz with rfl | hz
        · exact .inl (.inr ⟨q1.symm, q2, q3.symm⟩)
        · exact .inr ⟨z, hz, q1, q2, q3⟩
section
variable {ws hs : List (List Int)} {H st : Int} {ns : List (List Int × Int × Int)} {c : List Int} {ps : List (Int × Int)} {hit : List Int} {bd : Nat → Int}
theorem ends_pos {S : Nat} (hc : Fin5 S c) (hS : S ≤ 5) (hw : ∀ x ∈ ns, NOK H x) : ∀ (l : List (Int × Int)) (k m : Int) (es : List Int), CryOK S ns.length l → (0 ≤ k ∧ k < (S : Int)) → 0 ≤ m → endsF c ns k m l = some es → (∀ e ∈ es, 0 ≤ e) ∧ es.length = l.length
  | [], k, m, es, _, _, _, he => by
    obtain rfl : [] = es := Option.some.inj he
    exact ⟨fun e h => (nomatch h), rfl⟩
  | x :: l, k, m, es, hl, hk, hm, he => by
    obtain ⟨a1, a2⟩ := hl x (by simp)
    unfold endsF at he
    by_cases e : en c k.toNat x.1.toNat = -1
    · rw [if_pos e] at he; cases he
    · rw [if_neg e] at he
      have hN := (hw _ (getD_mem (d := ([], 0, 0)) (i := x.2.toNat) (by omega))).2.1
      have hwr : 1 ≤ wrd ns x.2.toNat ∧ wrd ns x.2.toNat ≤ 5 := hN
      have hr := hc.rng k.toNat x.1.toNat (by omega) (by omega)
      cases h3 : endsF c ns x.1 (m + en c k.toNat x.1.toNat + wrd ns x.2.toNat) l with
      | none => rw [h3] at he; cases he
      | some es2 =>
        rw [h3] at he
        obtain rfl := Option.some.inj he
        obtain ⟨h4, h5⟩ := ends_pos hc hS hw l x.1 _ es2 (fun z hz => hl z (by simp [hz])) a1 (by omega) h3
        refine ⟨fun e he => ?_, by simp [h5]⟩
        rcases List.mem_cons.1 he with rfl | he
        · omega
        · exact h4 e he
theorem hit_zip {p : Nat} : ∀ (l : List (Int × Int)) (k m : Int) (es : List Int), endsF c ns k m l = some es → (hitF c ns hit bd k m l p = true ↔ ∃ z ∈ l.zip es, z.2 ≤ bd z.1.2.toNat ∧ (hb hit z.1.1.toNat z.1.2.toNat).testBit p = true)
  | [], k, m, es, _ => by unfold hitF; simp
  | x :: l, k, m, es, he => by
    unfold endsF at he
    by_cases e : en c k.toNat x.1.toNat = -1
    · rw [if_pos e] at he; cases he
    · rw [if_neg e] at he
      cases h3 : endsF c ns x.1 (m + en c k.toNat x.1.toNat + wrd ns x.2.toNat) l with
      | none => rw [h3] at he; cases he
      | some es2 =>
        rw [h3] at he
        obtain rfl := Option.some.inj he
        unfold hitF
        show _ ↔ ∃ z ∈ (x :: l).zip ((m + en c k.toNat x.1.toNat + wrd ns x.2.toNat) :: es2), _
        rw [Bool.or_eq_true_iff, Bool.and_eq_true_iff, decide_eq_true_iff, hit_zip l _ _ es2 h3, List.zip_cons_cons]
        constructor
        · rintro (⟨h1, h2⟩ | ⟨z, hz, h1⟩)
          · exact ⟨(x, _), by simp, h1, h2⟩
          · exact ⟨z, by simp [hz], h1⟩
        · rintro ⟨z, hz, h1, h2⟩
          rcases List.mem_cons.1 hz with rfl | hz
          · exact .inl ⟨h1, h2⟩
          · exact .inr ⟨z, hz, h1, h2⟩
theorem hit_heard (h : BtOK ws hs H st ns) (hc : CrOK hs ns c ps hit) {l : List (Int × Int)} {es : List Int} (hl : CryOK hs.length ns.length l) (he : endsF c ns st 0 l = some es) {p : Nat} (hp : p < ps.length) :
    hitF c ns hit bd st 0 l p = true ↔ ∃ e, HrE hs l es (ps.getD p (0, 0)).1.toNat (ps.getD p (0, 0)).2.toNat e ∧ e ≤ bd (ps.getD p (0, 0)).1.toNat := by
  have h5 := h.hs1.2
  have h3 := h.hn
  have hm := ((hc.prs.mem _).1 (getD_mem (d := (0, 0)) hp))
  have hq2 := (h.note _ (getD_mem (d := ([], 0, 0)) (i := (ps.getD p (0, 0)).1.toNat) (by omega))).1.2.2 _ hm.2
  rw [hit_zip l st 0 es he]
  constructor
  · rintro ⟨z, hz, h1, h2⟩
    obtain ⟨a1, a2⟩ := hl z.1 (List.of_mem_zip hz).1
    rw [(hc.hit.hb (s := z.1.1.toNat) (n := z.1.2.toNat) (by omega) (by omega)).2.2 p] at h2
    unfold QP at h2
    simp only [Bool.and_eq_true_iff, decide_eq_true_iff] at h2
    obtain ⟨⟨⟨_, h4⟩, _⟩, h6⟩ := h2
    refine ⟨z.2, ⟨z, hz, by omega, by rwa [show (((ps.getD p (0, 0)).2.toNat : Nat) : Int) = (ps.getD p (0, 0)).2 by omega], rfl⟩, ?_⟩
    rw [h4, Int.toNat_natCast]; exact h1
  · rintro ⟨e, ⟨z, hz, h1, h2, rfl⟩, h4⟩
    obtain ⟨a1, a2⟩ := hl z.1 (List.of_mem_zip hz).1
    refine ⟨z, hz, by rw [h1, Int.toNat_natCast]; exact h4, ?_⟩
    rw [(hc.hit.hb (s := z.1.1.toNat) (n := z.1.2.toNat) (by omega) (by omega)).2.2 p]
    unfold QP
    simp only [Bool.and_eq_true_iff, decide_eq_true_iff]
    rw [show (((ps.getD p (0, 0)).2.toNat : Nat) : Int) = (ps.getD p (0, 0)).2 by omega] at h2
    exact ⟨⟨⟨hp, by omega⟩, by omega⟩, h2⟩
theorem Heard_eq (h : BtOK ws hs H st ns) (e : round_opened ws hs H st ns = some (some (ws, hs, H, st, ns, c, ps, hit), 0)) (hc : CrOK hs ns c ps hit) {l : List (Int × Int)} (hl : CryOK hs.length ns.length l) (h20 : l.length ≤ 20) :
    (endsF c ns st 0 l = none ∧ round_Heard ws hs H st ns l = some ([], 6)) ∨ ∃ es L, endsF c ns st 0 l = some es ∧ round_Heard ws hs H st ns l = some (L, 0) ∧ Tab ns.length H.toNat (HrE hs l es) L ∧ (∀ x ∈ es, 0 ≤ x) ∧ es.length = l.length := by
  have hH := h.hH
  have h3 := h.hn
  unfold round_Heard
  rw [gone_eq h e hc hl h20]
  cases he : endsF c ns st 0 l with
  | none => exact .inl ⟨rfl, rfl⟩
  | some es =>
    right
    obtain ⟨h1, h2⟩ := ends_pos hc.fin h.hs1.2 h.note l st 0 es hl h.hst (Int.le_refl _) he
    have ht : Tab ns.length H.toNat (fun _ _ _ => False) (List.replicate ns.length (List.replicate H.toNat (-1))) := by
      have e0 : ∀ n, n < ns.length → (List.replicate ns.length (List.replicate H.toNat (-1 : Int))).getD n [] = List.replicate H.toNat (-1) := fun n hn => by
        rw [List.getD_eq_getElem?_getD, List.getElem?_replicate, if_pos hn]; rfl
      refine ⟨by simp, fun n hn => by rw [e0 n hn]; simp, fun n h' hn hh => .inl ⟨?_, fun _ q => q⟩⟩
      rw [e0 n hn, List.getD_eq_getElem?_getD, List.getElem?_replicate, if_pos hh]; rfl
    obtain ⟨L, e2, hL⟩ := heard_l2 (N := ns.length) (H := H.toNat) (hs := hs) (es := es) (fun r hr x hx => by have := (h.hear r hr).2 x hx; omega) h1 l 0 _ _ (by omega) hl ht
    have e2' : round_Heard_l2 hs es l 0 (List.replicate ns.length (List.replicate H.toNat (-1))) = some L := e2
    refine ⟨es, L, rfl, ?_, hL.congr fun n h' x _ _ => by rw [List.drop_zero]; exact ⟨fun q => q.elim False.elim id, .inr⟩, h1, h2⟩
    dsimp only
    rw [b3_some, if_neg (by decide), heard_l1 hH ns [] (by simp; omega), b1_some, List.nil_append, e2', b1_some]
theorem PrsOK.rng (h : BtOK ws hs H st ns) (hc : CrOK hs ns c ps hit) {q : Int × Int} (hq : q ∈ ps) : (0 ≤ q.1 ∧ q.1 < (ns.length : Int)) ∧ (0 ≤ q.2 ∧ q.2 < H) := by
  have hm := (hc.prs.mem _).1 hq
  exact ⟨hm.1, (h.note _ (getD_mem (d := ([], 0, 0)) (i := q.1.toNat) (by omega))).1.2.2 _ hm.2⟩
theorem Ends_eq (h : BtOK ws hs H st ns) (e : round_opened ws hs H st ns = some (some (ws, hs, H, st, ns, c, ps, hit), 0)) (hc : CrOK hs ns c ps hit) {l : List (Int × Int)} (hl : CryOK hs.length ns.length l) (h20 : l.length ≤ 20) : round_Ends ws hs H st ns l = some (match endsF c ns st 0 l with | some es => (es, 0) | none => ([], 6)) := by
  unfold round_Ends
  rw [gone_eq h e hc hl h20]
  cases endsF c ns st 0 l <;> rfl
end
end Go.Proofs.YtggpjocmoelpbaaGreat.Rd
