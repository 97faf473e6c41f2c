/- Pairs that exclude each other; in plain Lean. -/
import Derived.Test.YtfmapnhfamoecabGreatZQMD
namespace Go.Proofs.YtfmapnhfamoecabGreat.Rd
open Go.PL Go.Proofs.YtfmapnhfamoecabGreat.Rv
theorem WR {x : Nat} (hx : x < 9223372036854775808) (k : Nat) : PG (shr (x : Int) (k : Int)) 1 = if x.testBit k then 1 else 0 := by
  have e : shr (x : Int) (k : Int) = ((x >>> k : Nat) : Int) := by
    unfold shr
    rw [Int.toNat_natCast, Nat.shiftRight_eq_div_pow]
    norm_cast
  have h1 : x >>> k ≤ x := by rw [Nat.shiftRight_eq_div_pow]; exact Nat.div_le_self _ _
  have h2 : PG ((x >>> k : Nat) : Int) 1 = ((x >>> k &&& 1 : Nat) : Int) := Vm (y := 1) (by omega) (by decide)
  rw [e, h2, Nat.testBit, Nat.and_comm]
  have h3 : 1 &&& x >>> k ≤ 1 := Nat.and_le_left
  generalize 1 &&& x >>> k = z at h3
  rcases Nat.le_one_iff_eq_zero_or_eq_one.1 h3 with rfl | rfl <;> rfl
theorem TI {x : Nat} (hx : x < 9223372036854775808) (k : Nat) : (PG (shr (x : Int) (k : Int)) 1 = 1) ↔ x.testBit k = true := by
  rw [WR hx]; split <;> simp_all
theorem U9 {P : Nat} (hp : P ≤ 9) : (2 : Nat) ^ P ≤ 512 := by
  have h2 : (2 : Nat) ^ P ≤ 2 ^ 9 := Nat.pow_le_pow_right (by decide) hp
  have h3 : (2 : Nat) ^ 9 = 512 := by decide
  omega
theorem NJ : ∀ (n f : Nat) (T : List Nat), Up (f + n) f T → (List.range' f n).filter (fun i => decide (i ∈ T)) = T
  | 0, f, [], _ => rfl
  | 0, f, i :: T, h => by
    have := (Up.cons.1 h).1; omega
  | n + 1, f, T, h => by
    rw [List.range'_succ, List.filter_cons]
    cases T with
    | nil => simp
    | cons i T =>
      obtain ⟨h1, h2⟩ := Up.cons.1 h
      by_cases e : i = f
      · subst e
        rw [if_pos (by simp)]
        congr 1
        have ih := NJ n (i + 1) T (by rw [show i + 1 + n = i + (n + 1) by omega]; exact h2)
        refine Eq.trans ?_ ih
        refine List.filter_congr fun x hx => ?_
        rw [List.mem_range'] at hx
        obtain ⟨j, hj, rfl⟩ := hx
        rw [decide_eq_decide, List.mem_cons]
        exact ⟨fun h => h.resolve_left (by omega), .inr⟩
      · have hn : f ∉ i :: T := fun hf => by
          rcases List.mem_cons.1 hf with rfl | hf
          · exact e rfl
          · have := (h2.2 f hf).1; omega
        rw [if_neg (by simpa using hn)]
        exact NJ n (f + 1) (i :: T) (by rw [show f + 1 + n = f + (n + 1) by omega]; exact Up.cons.2 ⟨by omega, h2⟩)
section
variable {ws hs : List (List Int)} {H st : Int} {ns : List (List Int × Int × Int)} {c : List Int} {ps : List (Int × Int)} {hit : List Int} {bd : Nat → Int} {ok : Int × Int → Option Bool} {D : Nat → Bool}
def W2 (ps : List (Int × Int)) (T : List Nat) : List (Int × Int) := T.map fun i => ps.getD i (0, 0)
theorem I6 {v : Nat} (hv : v < 512) : ∀ (tl : List (Int × Int)) (k : Nat) (out : List (Int × Int)), ps.drop k = tl → k + tl.length ≤ 9 → out.length + tl.length ≤ 100 → B2 (v : Int) tl (k : Int) out = some (out ++ W2 ps ((List.range' k tl.length).filter fun i => v.testBit i))
  | [], k, out, _, _, _ => by unfold B2 W2; simp
  | x :: tl, k, out, hd, hk, ho => by
    obtain ⟨h1, h2, h3⟩ := drop_cons (0, 0) hd
    simp only [List.length_cons] at hk ho
    unfold B2
    rw [Bp (by omega), List.length_cons, List.range'_succ, List.filter_cons]
    by_cases b : v.testBit k = true
    · rw [if_pos ((TI (by omega) k).2 b), if_pos b, Iv (by simp; omega), show (k : Int) + 1 = ((k + 1 : Nat) : Int) from rfl, I6 hv tl (k + 1) _ h3 (by omega) (by simp; omega)]
      unfold W2
      rw [List.map_cons, h2, List.append_assoc]; rfl
    · rw [if_neg (fun e => b ((TI (by omega) k).1 e)), if_neg b, show (k : Int) + 1 = ((k + 1 : Nat) : Int) from rfl, I6 hv tl (k + 1) _ h3 (by omega) (by omega)]
theorem P1 (h9 : ps.length ≤ 9) {T : List Nat} (hT : Up ps.length 0 T) : Fb ws hs H st ns c ps hit (QT T 0 : Int) = some (W2 ps T) := by
  have h2 := U9 h9
  have hl : QT T 0 < 2 ^ ps.length := Tn T 0 (Nat.pow_pos (by decide)) fun i hi => (hT.2 i hi).2
  have e := I6 (ps := ps) (v := QT T 0) (by omega) ps 0 [] rfl (by omega) (by simp; omega)
  have e' : B2 (QT T 0 : Int) ps 0 [] = _ := e
  unfold Fb
  rw [e', Aw, List.nil_append]
  congr 2
  have hf := NJ ps.length 0 T (by rw [Nat.zero_add]; exact hT)
  refine Eq.trans ?_ hf
  exact List.filter_congr fun x _ => by rw [R9, Nat.zero_testBit, Bool.false_or]
end
end Go.Proofs.YtfmapnhfamoecabGreat.Rd
namespace Go.Proofs.YtfmapnhfamoecabGreat.Rd
open Go.PL
theorem Ws : ((List.range 6).all fun k => decide (k = 0 ∨ Eh [-1] (k : Int) = some (List.replicate k (-1)))) = true := by decide +kernel
theorem Xt {H : Int} (hH : 1 ≤ H ∧ H ≤ 5) : Eh [-1] H = some (List.replicate H.toNat (-1)) := by
  have h1 := (List.all_eq_true.1 Ws) H.toNat (List.mem_range.2 (by omega))
  rw [decide_eq_true_iff] at h1
  rcases h1 with h1 | h1
  · omega
  · rw [show ((H.toNat : Nat) : Int) = H by omega] at h1; exact h1
def GX (P : Int → Prop) (v : Int) : Prop := (v = -1 ∧ ∀ e, ¬ P e) ∨ (P v ∧ 0 ≤ v ∧ ∀ e, P e → v ≤ e)
theorem GX.congr {P Q : Int → Prop} {v : Int} (h : GX P v) (he : ∀ e, P e ↔ Q e) : GX Q v := by
  rcases h with ⟨h1, h2⟩ | ⟨h1, h2, h3⟩
  · exact .inl ⟨h1, fun e q => h2 e ((he e).2 q)⟩
  · exact .inr ⟨(he v).1 h1, h2, fun e q => h3 e ((he e).2 q)⟩
theorem GX.add {P : Int → Prop} {v e : Int} (h : GX P v) (h0 : 0 ≤ e) : ∃ v', Er [v, e] = some v' ∧ GX (fun x => P x ∨ x = e) v' := by
  refine ⟨_, RA v e h0, ?_⟩
  rcases h with ⟨h1, h2⟩ | ⟨h1, h2, h3⟩
  · rw [if_pos h1]
    exact .inr ⟨.inr rfl, h0, fun x hx => by
      rcases hx with hx | hx
      · exact absurd hx (h2 x)
      · omega⟩
  · rw [if_neg (by omega)]
    by_cases c : e < v
    · rw [if_pos c]
      exact .inr ⟨.inr rfl, h0, fun x hx => by
        rcases hx with hx | hx
        · have := h3 x hx; omega
        · omega⟩
    · rw [if_neg c]
      exact .inr ⟨.inl h1, h2, fun x hx => by
        rcases hx with hx | hx
        · exact h3 x hx
        · omega⟩
theorem GX.le {P : Int → Prop} {v b : Int} (h : GX P v) (_hP : ∀ e, P e → 0 ≤ e) : (0 ≤ v ∧ v ≤ b) ↔ ∃ e, P e ∧ e ≤ b := by
  rcases h with ⟨h1, h2⟩ | ⟨h1, h2, h3⟩
  · exact ⟨fun h => by omega, fun ⟨e, he, _⟩ => absurd he (h2 e)⟩
  · exact ⟨fun h => ⟨v, h1, h.2⟩, fun ⟨e, he, hb⟩ => ⟨h2, Int.le_trans (h3 e he) hb⟩⟩
structure Og (N H : Nat) (P : Nat → Nat → Int → Prop) (out : List (List Int)) : Prop where
  len : out.length = N
  row : ∀ n, n < N → (out.getD n []).length = H
  val : ∀ n h, n < N → h < H → GX (P n h) ((out.getD n []).getD h 0)
theorem Og.congr {N H : Nat} {P Q : Nat → Nat → Int → Prop} {out : List (List Int)} (h : Og N H P out) (he : ∀ n h' e, n < N → h' < H → (P n h' e ↔ Q n h' e)) : Og N H Q out :=
  ⟨h.len, h.row, fun n h' h1 h2 => (h.val n h' h1 h2).congr fun e => he n h' e h1 h2⟩
theorem MM {H : Int} (hH : 1 ≤ H ∧ H ≤ 5) : ∀ (tl : List (List Int × Int × Int)) (out : List (List Int)), out.length + tl.length ≤ 100 → Et H tl out = some (out ++ List.replicate tl.length (List.replicate H.toNat (-1)))
  | [], out, _ => by simp [Et]
  | x :: tl, out, hl => by
    simp only [List.length_cons] at hl
    unfold Et
    rw [Xt hH, Aw, Iv (by simp; omega), MM hH tl _ (by simp; omega), List.append_assoc]
    rfl
theorem Rz {N H : Nat} {es : List Int} {k : Nat} {x : Int × Int} (hk : k < es.length) (h0 : 0 ≤ es.getD k 0) (hx : 0 ≤ x.2 ∧ x.2 < (N : Int)) : ∀ (tl : List Int) (out : List (List Int)) (P : Nat → Nat → Int → Prop), (∀ h ∈ tl, 0 ≤ h ∧ h < (H : Int)) → Og N H P out →
    ∃ aa, E8 es (k : Int) x tl out = some aa ∧ Og N H (fun n h e => P n h e ∨ ((n : Int) = x.2 ∧ (h : Int) ∈ tl ∧ e = es.getD k 0)) aa
  | [], out, P, _, h => ⟨out, rfl, h.congr fun n h' e _ _ => ⟨.inl, fun q => q.elim id fun q => (nomatch q.2.1)⟩⟩
  | y :: tl, out, P, ht, h => by
    obtain ⟨ad, ae⟩ := ht y (by simp)
    have ab := h.row x.2.toNat (by omega)
    have hl := h.len
    obtain ⟨v', e1, hv⟩ := (h.val x.2.toNat y.toNat (by omega) (by omega)).add h0
    unfold E8
    rw [WV [] _ hx.1 (by omega), WV 0 _ ad (by rw [ab]; exact ae), UE 0 _ hk, e1, Aw, J2, J2]
    have h' : Og N H (fun n h' e => P n h' e ∨ ((n : Int) = x.2 ∧ (h' : Int) = y ∧ e = es.getD k 0)) (out.set x.2.toNat ((out.getD x.2.toNat []).set y.toNat v')) := by
      refine ⟨by rw [List.length_set]; exact hl, fun n hn => ?_, fun n h' hn hh => ?_⟩
      · rw [GQ (by omega)]
        by_cases c : x.2.toNat = n
        · rw [if_pos c, List.length_set]; exact ab
        · rw [if_neg c]; exact h.row n hn
      · rw [GQ (by omega)]
        by_cases c : x.2.toNat = n
        · rw [if_pos c, GQ (by omega)]
          by_cases d : y.toNat = h'
          · rw [if_pos d]
            rw [c, d] at hv
            exact hv.congr fun e => ⟨fun q => q.imp id fun q => ⟨by omega, by omega, q⟩, fun q => q.imp id fun q => q.2.2⟩
          · rw [if_neg d, c]
            exact (h.val n h' hn hh).congr fun e => ⟨.inl, fun q => q.elim id fun q => absurd q.2.1 (by omega)⟩
        · rw [if_neg c]
          exact (h.val n h' hn hh).congr fun e => ⟨.inl, fun q => q.elim id fun q => absurd q.1 (by omega)⟩
    obtain ⟨aa, e2, h2⟩ := Rz hk h0 hx tl _ _ (fun z hz => ht z (by simp [hz])) h'
    refine ⟨aa, e2, h2.congr fun n h' e _ _ => ?_⟩
    rw [List.mem_cons]
    constructor
    · rintro ((q | ⟨q1, q2, q3⟩) | ⟨q1, q2, q3⟩)
      · exact .inl q
      · exact .inr ⟨q1, .inl q2, q3⟩
      · exact .inr ⟨q1, .inr q2, q3⟩
    · rintro (q | ⟨q1, q2 | q2, q3⟩)
      · exact .inl (.inl q)
      · exact .inl (.inr ⟨q1, q2, q3⟩)
      · exact .inr ⟨q1, q2, q3⟩
def Y5 (hs : List (List Int)) (l : List (Int × Int)) (es : List Int) (n h : Nat) (e : Int) : Prop := ∃ z ∈ l.zip es, z.1.2 = (n : Int) ∧ (h : Int) ∈ hs.getD z.1.1.toNat [] ∧ z.2 = e
theorem MZ {N H : Nat} {hs : List (List Int)} {es : List Int} (hr : ∀ r ∈ hs, ∀ h ∈ r, 0 ≤ h ∧ h < (H : Int)) (h0 : ∀ e ∈ es, (0 : Int) ≤ e) : ∀ (tl : List (Int × Int)) (k : Nat) (out : List (List Int)) (P : Nat → Nat → Int → Prop), k + tl.length = es.length → L8 hs.length N tl → Og N H P out →
    ∃ aa, Ff hs es tl (k : Int) out = some aa ∧ Og N H (fun n h e => P n h e ∨ Y5 hs tl (es.drop k) n h e) aa
  | [], k, out, P, _, _, h => ⟨out, rfl, h.congr fun n h' e _ _ => ⟨.inl, fun q => q.elim id fun ⟨z, hz, _⟩ => (nomatch hz)⟩⟩
  | x :: tl, k, out, P, hk, hl, h => by
    rw [List.length_cons] at hk
    obtain ⟨af, ah⟩ := hl x (by simp)
    have ab : k < es.length := by omega
    obtain ⟨ad, e1, h1⟩ := Rz (N := N) (H := H) (es := es) (k := k) (x := x) ab (h0 _ (FK ab)) ah (hs.getD x.1.toNat []) out P (hr _ (FK (by omega))) h
    obtain ⟨ae, e2, h2⟩ := MZ hr h0 tl (k + 1) ad _ (by omega) (fun z hz => hl z (by simp [hz])) h1
    unfold Ff
    rw [WV [] _ af.1 af.2, e1, Aw]
    refine ⟨ae, e2, h2.congr fun n h' e _ _ => ?_⟩
    have ed : es.drop k = es.getD k 0 :: es.drop (k + 1) := by
      rw [List.drop_eq_getElem_cons ab]; congr 1
      rw [List.getD_eq_getElem?_getD, List.getElem?_eq_getElem ab]; rfl
    unfold Y5
    rw [ed, List.zip_cons_cons]
    constructor
    · rintro ((q | ⟨q1, q2, q3⟩) | ⟨z, hz, q⟩)
      · exact .inl q
      · exact .inr ⟨(x, es.getD k 0), by simp, q1.symm, q2, q3.symm⟩
      · exact .inr ⟨z, by simp [hz], q⟩
    · rintro (q | ⟨z, hz, q1, q2, q3⟩)
      · exact .inl (.inl q)
      · rcases List.mem_cons.1 hz with rfl | hz
        · exact .inl (.inr ⟨q1.symm, q2, q3.symm⟩)
        · exact .inr ⟨z, hz, q1, q2, q3⟩
section
variable {ws hs : List (List Int)} {H st : Int} {ns : List (List Int × Int × Int)} {c : List Int} {ps : List (Int × Int)} {hit : List Int} {bd : Nat → Int}
theorem O3.Kz (h : GU ws hs H st ns) (hc : Kh hs ns c ps hit) {q : Int × Int} (hq : q ∈ ps) : (0 ≤ q.1 ∧ q.1 < (ns.length : Int)) ∧ (0 ≤ q.2 ∧ q.2 < H) := by
  have hm := (hc.YB.mem _).1 hq
  exact ⟨hm.1, (h.note _ (FK (d := ([], 0, 0)) (i := q.1.toNat) (by omega))).1.2.2 _ hm.2⟩
theorem VK (h : GU ws hs H st ns) {n : Nat} (hn : n < ns.length) : Vv ns 200 n = (ns.getD n ([], 0, 0)).2.2 := by
  have h1 : 0 ≤ (ns.getD n ([], 0, 0)).2.2 ∧ (ns.getD n ([], 0, 0)).2.2 ≤ 200 := (h.note _ (FK (d := ([], 0, 0)) hn)).2.2
  unfold Vv; split <;> omega
end
end Go.Proofs.YtfmapnhfamoecabGreat.Rd
namespace Go.Proofs.YtfmapnhfamoecabGreat.Rd
open Go.PL Go.Proofs.YtfmapnhfamoecabGreat.Rv
theorem OY : Fi = some true := by decide +kernel
section
variable {ws hs : List (List Int)} {H st : Int} {ns : List (List Int × Int × Int)} {c : List Int} {ps : List (Int × Int)} {hit : List Int} {bd : Nat → Int} {D : Nat → Bool}
end
end Go.Proofs.YtfmapnhfamoecabGreat.Rd
namespace Go.Proofs.YtfmapnhfamoecabGreat.Rd
open Go.PL Go.Proofs.YtfmapnhfamoecabGreat.Rv
theorem GX.unique {P : Int → Prop} {v w : Int} (h : GX P v) (h2 : GX P w) : v = w := by
  rcases h with ⟨h1, h3⟩ | ⟨h1, h3, h4⟩ <;> rcases h2 with ⟨q1, q3⟩ | ⟨q1, q3, q4⟩
  · omega
  · exact absurd q1 (h3 w)
  · exact absurd h1 (q3 v)
  · have := h4 w q1; have := q4 v h1; omega
theorem MX (a b : Int) : ∀ (l : List (Int × Int)) (k : Int), 0 ≤ k → ∃ n, Bm a b l k = some n ∧ (0 ≤ n ↔ (a, b) ∈ l)
  | [], k, _ => ⟨-1, rfl, by simp⟩
  | x :: l, k, hk => by
    unfold Bm
    by_cases h : a = x.1 ∧ b = x.2
    · exact ⟨k, if_pos h, by simp [h.1, h.2, hk]⟩
    · obtain ⟨n, h1, h2⟩ := MX a b l (k + 1) (by omega)
      refine ⟨n, by rw [if_neg h]; exact h1, ?_⟩
      rw [h2, List.mem_cons]
      exact ⟨.inr, fun q => q.elim (fun e => absurd ⟨congrArg Prod.fst e, congrArg Prod.snd e⟩ h) id⟩
theorem Qt (l : List (Int × Int)) (a b : Int) : BZ l a b = some (decide ((a, b) ∈ l)) := by
  unfold BZ CZ
  obtain ⟨n, h1, h2⟩ := MX a b l 0 (Int.le_refl _)
  rw [h1, Aw]; congr 1; rw [decide_eq_decide]; exact h2
section
variable {ws hs : List (List Int)} {H st : Int} {ns : List (List Int × Int × Int)} {c : List Int} {ps : List (Int × Int)} {hit : List Int} {bd : Nat → Int} {D : Nat → Bool}
def PT (hs : List (List Int)) (c : List Int) (ns : List (List Int × Int × Int)) (st : Int) (k : Nat) (q : Int × Int) (e : Int) : Prop := ∃ s, s < k ∧ s < hs.length ∧ en c st.toNat s ≠ -1 ∧ q.2 ∈ hs.getD s [] ∧ e = en c st.toNat s + Hi ns q.1.toNat
theorem PT.zero {q : Int × Int} : GX (PT hs c ns st 0 q) (-1) := .inl ⟨rfl, fun _ ⟨_, h, _⟩ => absurd h (Nat.not_lt_zero _)⟩
theorem Wq {q : Int × Int} {v : Int} {k : Nat} (hk : hs.length ≤ k) (h : GX (PT hs c ns st k q) v) : GX (PT hs c ns st hs.length q) v :=
  h.congr fun e => ⟨fun ⟨s, _, h2, h3⟩ => ⟨s, h2, h2, h3⟩, fun ⟨s, _, h2, h3⟩ => ⟨s, by omega, h2, h3⟩⟩
theorem PT.step {q : Int × Int} {v : Int} {k : Nat} (h : GX (PT hs c ns st k q) v) (hn : ¬ (k < hs.length ∧ en c st.toNat k ≠ -1 ∧ q.2 ∈ hs.getD k [])) : GX (PT hs c ns st (k + 1) q) v :=
  h.congr fun e => ⟨fun ⟨s, h1, h2⟩ => ⟨s, by omega, h2⟩, fun ⟨s, h1, h2, h3, h4, h5⟩ => by
    by_cases d : s = k
    · subst d; exact absurd ⟨h2, h3, h4⟩ hn
    · exact ⟨s, by omega, h2, h3, h4, h5⟩⟩
theorem PT.add {q : Int × Int} {v : Int} {k : Nat} (h : GX (fun x => PT hs c ns st k q x ∨ x = en c st.toNat k + Hi ns q.1.toNat) v) (hy : k < hs.length ∧ en c st.toNat k ≠ -1 ∧ q.2 ∈ hs.getD k []) : GX (PT hs c ns st (k + 1) q) v :=
  h.congr fun e => ⟨fun q' => q'.elim (fun ⟨s, h1, h2⟩ => ⟨s, by omega, h2⟩) fun h => ⟨k, by omega, hy.1, hy.2.1, hy.2.2, h⟩, fun ⟨s, h1, h2, h3, h4, h5⟩ => by
    by_cases d : s = k
    · subst d; exact .inr h5
    · exact .inl ⟨s, by omega, h2, h3, h4, h5⟩⟩
theorem OH (h : GU ws hs H st ns) {n : Nat} (hn : n < ns.length) : 1 ≤ Hi ns n ∧ Hi ns n ≤ 5 := (h.note _ (FK (d := ([], 0, 0)) hn)).2.1
theorem MC (h : GU ws hs H st ns) (hc : Kh hs ns c ps hit) {q : Int × Int} (hq : 0 ≤ q.1 ∧ q.1 < (ns.length : Int)) : ∀ (tl : List (List Int)) (k : Nat) (out : Int), hs.drop k = tl → GX (PT hs c ns st k q) out → ∃ v, Ct st ns c q.1 q.2 tl (k : Int) out = some v ∧ GX (PT hs c ns st hs.length q) v
  | [], k, out, hd, ho => by
    have hl : hs.length ≤ k := by
      have := congrArg List.length hd
      rw [List.length_drop, List.length_nil] at this; omega
    exact ⟨out, rfl, Wq hl ho⟩
  | x :: tl, k, out, hd, ho => by
    obtain ⟨hk, hx, aa⟩ := drop_cons [] hd
    have h5 := h.KP.2
    have H9 := h.H9
    have hw := OH h (n := q.1.toNat) (by omega)
    have hr := hc.fin.Kz st.toNat k (by omega) (by omega)
    have ex : ∀ {β : Type} (f : Int → Option β), ix c (st * 5 + (k : Int)) f = f (en c st.toNat k) := fun f => by
      have q := Wh (w := c) hc.fin.len (i := st.toNat) (k := k) (by omega) (by omega) f
      rwa [show ((st.toNat : Nat) : Int) = st by omega] at q
    unfold Ct
    rw [Bp (by omega), Bp (by omega), ex]
    by_cases e : en c st.toNat k = -1
    · rw [if_neg (not_not_intro e), Aw, if_neg (by decide)]
      exact MC h hc hq tl (k + 1) out aa (PT.step ho fun q => q.2.1 e)
    · rw [if_pos e, contains_eq, Aw, Aw]
      by_cases m : q.2 ∈ x
      · obtain ⟨v, e1, h1⟩ := ho.add (e := en c st.toNat k + Hi ns q.1.toNat) (by omega)
        rw [if_pos (decide_eq_true m), WV ([], 0, 0) _ hq.1 hq.2]
        show ∃ v, gd (C8 (en c st.toNat k + Hi ns q.1.toNat)) _ = some v ∧ _
        have ab : Er [out, en c st.toNat k + (ns.getD q.1.toNat ([], 0, 0)).2.1] = some v := e1
        rw [Bp (Jq (by omega)), ab, Aw]
        exact MC h hc hq tl (k + 1) v aa (PT.add h1 ⟨hk, e, by rw [hx]; exact m⟩)
      · rw [if_neg (by simpa using m)]
        exact MC h hc hq tl (k + 1) out aa (PT.step ho fun q => m (by rw [← hx]; exact q.2.2))
theorem R7 (h : GU ws hs H st ns) (hc : Kh hs ns c ps hit) {q : Int × Int} (hq : 0 ≤ q.1 ∧ q.1 < (ns.length : Int)) : ∃ v, D1 ws hs H st ns c ps hit q.1 q.2 = some v ∧ GX (PT hs c ns st hs.length q) v := by
  obtain ⟨v, e, h1⟩ := MC h hc hq hs 0 (-1) rfl PT.zero
  have e' : Ct st ns c q.1 q.2 hs 0 (-1) = some v := e
  refine ⟨v, ?_, h1⟩
  unfold D1
  rw [e', Aw]
theorem PT.pos (h : GU ws hs H st ns) (hc : Kh hs ns c ps hit) {q : Int × Int} (hq : 0 ≤ q.1 ∧ q.1 < (ns.length : Int)) {k : Nat} {e : Int} (hf : PT hs c ns st k q e) : 0 ≤ e := by
  obtain ⟨s, _, h1, h2, _, rfl⟩ := hf
  have h5 := h.KP.2
  have H9 := h.H9
  have hr := hc.fin.Kz st.toNat s (by omega) (by omega)
  have := OH h (n := q.1.toNat) (by omega)
  omega
theorem NM.none {S : Nat} {start : Int} {v0 : Nat} {l : List (Int × Int)} {s : Int} {v : Nat} {t : Int} (h : NM c ns hit bd S start v0 l s v t) (hl : l = []) : s = start ∧ v = v0 ∧ t = 0 := by
  cases h with
  | nil => exact ⟨rfl, rfl, rfl⟩
  | snoc h _ _ _ _ _ => simp at hl
theorem NM.one {S : Nat} {start : Int} {v0 : Nat} {l : List (Int × Int)} {s : Int} {v : Nat} {t : Int} (h : NM c ns hit bd S start v0 l s v t) (hl : l.length ≤ 1) (hv : v ≠ v0) : ∃ s n : Nat, s < S ∧ n < ns.length ∧ Vg c ns bd 0 start.toNat s n ∧ v = Ky v0 (hb hit s n) := by
  cases h with
  | nil => exact absurd rfl hv
  | @snoc l k v s n t h hk hs hn GV aa =>
    obtain ⟨h1, h2, h3⟩ := h.none (List.eq_nil_of_length_eq_zero (by simpa using hl))
    subst h2 h3
    have ab : k = start.toNat := by omega
    rw [ab] at aa
    exact ⟨s, n, hs, hn, aa, rfl⟩
def Xn (ws hs : List (List Int)) (H st : Int) (ns : List (List Int × Int × Int)) (c : List Int) (ps : List (Int × Int)) (hit : List Int) (q : Int × Int) : Bool := match D1 ws hs H st ns c ps hit q.1 q.2 with | some v => !decide (0 ≤ v ∧ v ≤ (ns.getD q.1.toNat ([], 0, 0)).2.2) | none => false
theorem QI (h : GU ws hs H st ns) (hc : Kh hs ns c ps hit) : ∀ (tl out : List (Int × Int)), (∀ q ∈ tl, q ∈ ps) → out.length + tl.length ≤ 1000 → Ep ns ws hs H st ns c ps hit tl out = some (out ++ tl.filter (Xn ws hs H st ns c ps hit))
  | [], out, _, _ => by simp [Ep]
  | q :: tl, out, hq, hl => by
    simp only [List.length_cons] at hl
    have hr := O3.Kz h hc (hq q (by simp))
    obtain ⟨v, e1, h1⟩ := R7 h hc hr.1
    have aa : ∀ z ∈ tl, z ∈ ps := fun z hz => hq z (by simp [hz])
    have hb : Xn ws hs H st ns c ps hit q = !decide (0 ≤ v ∧ v ≤ (ns.getD q.1.toNat ([], 0, 0)).2.2) := by unfold Xn; rw [e1]
    unfold Ep
    rw [e1, Aw, WV ([], 0, 0) _ hr.1.1 hr.1.2, IM, Aw, ← hb, List.filter_cons]
    cases hm : Xn ws hs H st ns c ps hit q with
    | true =>
      rw [if_pos rfl, if_pos rfl, Iv (by simp; omega), QI h hc tl _ aa (by simp; omega), List.append_assoc]; rfl
    | false =>
      rw [if_neg (by decide), if_neg (by decide), QI h hc tl _ aa (by omega)]
theorem Wn (h : GU ws hs H st ns) (e : CA ws hs H st ns = some (some (ws, hs, H, st, ns, c, ps, hit), 0)) (hc : Kh hs ns c ps hit) : Ji ws hs H st ns = some (ps.filter (Xn ws hs H st ns c ps hit), 0) := by
  have h9 := hc.nine h
  unfold Ji
  rw [e, BY, if_neg (by decide), TO, QI h hc ps [] (fun q hq => hq) (by simp; omega), Aw, List.nil_append]
end
end Go.Proofs.YtfmapnhfamoecabGreat.Rd
