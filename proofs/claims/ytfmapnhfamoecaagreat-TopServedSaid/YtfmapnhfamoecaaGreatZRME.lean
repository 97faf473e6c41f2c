/- Pairs that exclude each other; in plain Lean. -/
import Derived.Test.YtfmapnhfamoecaaGreatZRMD
import Derived.Test.YtfmapnhfamoecaaGreatZRMB
namespace Go.Proofs.YtfmapnhfamoecaaGreat.Rd
open Go.PL Go.Proofs.YtfmapnhfamoecaaGreat.Rv
section
variable {ws hs : List (List Int)} {H st : Int} {ns : List (List Int × Int × Int)} {c : List Int} {ps : List (Int × Int)} {hit : List Int} {bd : Nat → Int} {ok : Int × Int → Option Bool} {D : Nat → Bool}
theorem VD {q : Int × Int} (hd : ps.Nodup) {i : Nat} (hi : i < ps.length) (hq : ps.getD i (0, 0) = q) : ∀ (d k : Nat), k + d = i → Bb (fun aa : Int × Int => Df aa.1 aa.2 q.1 q.2) (ps.drop k) (k : Int) = some (i : Int)
  | 0, k, hk => by
    have ad : k = i := by omega
    subst ad
    have e : ps.drop k = q :: ps.drop (k + 1) := by
      rw [List.drop_eq_getElem_cons hi]
      congr 1
      rw [← hq, List.getD_eq_getElem?_getD, List.getElem?_eq_getElem hi]; rfl
    rw [e]
    unfold Bb Df
    rw [Ap, if_pos (decide_eq_true ⟨rfl, rfl⟩)]
  | d + 1, k, hk => by
    have ab : k < ps.length := by omega
    have GK : ps[k] ≠ q := fun e => by
      rw [List.getD_eq_getElem?_getD, List.getElem?_eq_getElem hi] at hq
      have := (List.pairwise_iff_getElem.1 hd) k i ab hi (by omega)
      exact this (e.trans hq.symm)
    rw [List.drop_eq_getElem_cons ab]
    unfold Bb
    rw [show Df ps[k].1 ps[k].2 q.1 q.2 = some (decide (ps[k].1 = q.1 ∧ ps[k].2 = q.2)) from rfl, Ap, if_neg (by rw [decide_eq_true_iff]; exact fun e => GK (Prod.ext e.1 e.2))]
    exact VD hd hi hq d (k + 1) (by omega)
theorem WU (hd : ps.Nodup) {i : Nat} (hi : i < ps.length) : FL ws hs H st ns c ps hit (ps.getD i (0, 0)).1 (ps.getD i (0, 0)).2 = some (i : Int) := by
  have e := VD hd hi rfl i 0 (by omega)
  rw [List.drop_zero] at e
  have e' : Bb (fun aa : Int × Int => Df aa.1 aa.2 (ps.getD i (0, 0)).1 (ps.getD i (0, 0)).2) ps 0 = some (i : Int) := e
  unfold FL CE
  rw [e', Ap]
end
end Go.Proofs.YtfmapnhfamoecaaGreat.Rd
namespace Go.Proofs.YtfmapnhfamoecaaGreat.Rd
open Go.PL
def G3 (P : Int → Prop) (v : Int) : Prop := (v = -1 ∧ ∀ e, ¬ P e) ∨ (P v ∧ 0 ≤ v ∧ ∀ e, P e → v ≤ e)
theorem G3.congr {P Q : Int → Prop} {v : Int} (h : G3 P v) (he : ∀ e, P e ↔ Q e) : G3 Q v := by
  rcases h with ⟨h1, h2⟩ | ⟨h1, h2, h3⟩
  · exact .inl ⟨h1, fun e q => h2 e ((he e).2 q)⟩
  · exact .inr ⟨(he v).1 h1, h2, fun e q => h3 e ((he e).2 q)⟩
theorem G3.add {P : Int → Prop} {v e : Int} (h : G3 P v) (h0 : 0 ≤ e) : ∃ v', E3 [v, e] = some v' ∧ G3 (fun x => P x ∨ x = e) v' := by
  refine ⟨_, TZ v e h0, ?_⟩
  rcases h with ⟨h1, h2⟩ | ⟨h1, h2, h3⟩
  · rw [if_pos h1]
    exact .inr ⟨.inr rfl, h0, fun x hx => by
      rcases hx with hx | hx
      · exact absurd hx (h2 x)
      · omega⟩
  · rw [if_neg (by omega)]
    by_cases c : e < v
    · rw [if_pos c]
      exact .inr ⟨.inr rfl, h0, fun x hx => by
        rcases hx with hx | hx
        · have := h3 x hx; omega
        · omega⟩
    · rw [if_neg c]
      exact .inr ⟨.inl h1, h2, fun x hx => by
        rcases hx with hx | hx
        · exact h3 x hx
        · omega⟩
theorem G3.le {P : Int → Prop} {v b : Int} (h : G3 P v) (_hP : ∀ e, P e → 0 ≤ e) : (0 ≤ v ∧ v ≤ b) ↔ ∃ e, P e ∧ e ≤ b := by
  rcases h with ⟨h1, h2⟩ | ⟨h1, h2, h3⟩
  · exact ⟨fun h => by omega, fun ⟨e, he, _⟩ => absurd he (h2 e)⟩
  · exact ⟨fun h => ⟨v, h1, h.2⟩, fun ⟨e, he, hb⟩ => ⟨h2, Int.le_trans (h3 e he) hb⟩⟩
structure Ri (N H : Nat) (P : Nat → Nat → Int → Prop) (out : List (List Int)) : Prop where
  len : out.length = N
  row : ∀ n, n < N → (out.getD n []).length = H
  val : ∀ n h, n < N → h < H → G3 (P n h) ((out.getD n []).getD h 0)
theorem Ri.congr {N H : Nat} {P Q : Nat → Nat → Int → Prop} {out : List (List Int)} (h : Ri N H P out) (he : ∀ n h' e, n < N → h' < H → (P n h' e ↔ Q n h' e)) : Ri N H Q out :=
  ⟨h.len, h.row, fun n h' h1 h2 => (h.val n h' h1 h2).congr fun e => he n h' e h1 h2⟩
def dG (hs : List (List Int)) (l : List (Int × Int)) (es : List Int) (n h : Nat) (e : Int) : Prop := ∃ z ∈ l.zip es, z.1.2 = (n : Int) ∧ (h : Int) ∈ hs.getD z.1.1.toNat [] ∧ z.2 = e
section
variable {ws hs : List (List Int)} {H st : Int} {ns : List (List Int × Int × Int)} {c : List Int} {ps : List (Int × Int)} {hit : List Int} {bd : Nat → Int}
theorem Vc {p : Nat} : ∀ (l : List (Int × Int)) (k m : Int) (es : List Int), Gx c ns k m l = some es → (Ns c ns hit bd k m l p = true ↔ ∃ z ∈ l.zip es, z.2 ≤ bd z.1.2.toNat ∧ (hb hit z.1.1.toNat z.1.2.toNat).testBit p = true)
  | [], k, m, es, _ => by unfold Ns; simp
  | x :: l, k, m, es, he => by
    unfold Gx at he
    by_cases e : en c k.toNat x.1.toNat = -1
    · rw [if_pos e] at he; cases he
    · rw [if_neg e] at he
      cases h3 : Gx c ns x.1 (m + en c k.toNat x.1.toNat + Io ns x.2.toNat) l with
      | none => rw [h3] at he; cases he
      | some aa =>
        rw [h3] at he
        obtain rfl := Option.some.inj he
        unfold Ns
        show _ ↔ ∃ z ∈ (x :: l).zip ((m + en c k.toNat x.1.toNat + Io ns x.2.toNat) :: aa), _
        rw [Bool.or_eq_true_iff, Bool.and_eq_true_iff, decide_eq_true_iff, Vc l _ _ aa h3, List.zip_cons_cons]
        constructor
        · rintro (⟨h1, h2⟩ | ⟨z, hz, h1⟩)
          · exact ⟨(x, _), by simp, h1, h2⟩
          · exact ⟨z, by simp [hz], h1⟩
        · rintro ⟨z, hz, h1, h2⟩
          rcases List.mem_cons.1 hz with rfl | hz
          · exact .inl ⟨h1, h2⟩
          · exact .inr ⟨z, hz, h1, h2⟩
theorem Rt (h : GO ws hs H st ns) (hc : K7 hs ns c ps hit) {l : List (Int × Int)} {es : List Int} (hl : Oc hs.length ns.length l) (he : Gx c ns st 0 l = some es) {p : Nat} (hp : p < ps.length) :
    Ns c ns hit bd st 0 l p = true ↔ ∃ e, dG hs l es (ps.getD p (0, 0)).1.toNat (ps.getD p (0, 0)).2.toNat e ∧ e ≤ bd (ps.getD p (0, 0)).1.toNat := by
  have h5 := h.Mw.2
  have h3 := h.hn
  have hm := ((hc.ZU.mem _).1 (Gm (d := (0, 0)) hp))
  have aa := (h.note _ (Gm (d := ([], 0, 0)) (i := (ps.getD p (0, 0)).1.toNat) (by omega))).1.2.2 _ hm.2
  rw [Vc l st 0 es he]
  constructor
  · rintro ⟨z, hz, h1, h2⟩
    obtain ⟨a1, a2⟩ := hl z.1 (List.of_mem_zip hz).1
    rw [(hc.hit.hb (s := z.1.1.toNat) (n := z.1.2.toNat) (by omega) (by omega)).2.2 p] at h2
    unfold QP at h2
    simp only [Bool.and_eq_true_iff, decide_eq_true_iff] at h2
    obtain ⟨⟨⟨_, h4⟩, _⟩, h6⟩ := h2
    refine ⟨z.2, ⟨z, hz, by omega, by rwa [show (((ps.getD p (0, 0)).2.toNat : Nat) : Int) = (ps.getD p (0, 0)).2 by omega], rfl⟩, ?_⟩
    rw [h4, Int.toNat_natCast]; exact h1
  · rintro ⟨e, ⟨z, hz, h1, h2, rfl⟩, h4⟩
    obtain ⟨a1, a2⟩ := hl z.1 (List.of_mem_zip hz).1
    refine ⟨z, hz, by rw [h1, Int.toNat_natCast]; exact h4, ?_⟩
    rw [(hc.hit.hb (s := z.1.1.toNat) (n := z.1.2.toNat) (by omega) (by omega)).2.2 p]
    unfold QP
    simp only [Bool.and_eq_true_iff, decide_eq_true_iff]
    rw [show (((ps.getD p (0, 0)).2.toNat : Nat) : Int) = (ps.getD p (0, 0)).2 by omega] at h2
    exact ⟨⟨⟨hp, by omega⟩, by omega⟩, h2⟩
theorem Pv.K8 (h : GO ws hs H st ns) (hc : K7 hs ns c ps hit) {q : Int × Int} (hq : q ∈ ps) : (0 ≤ q.1 ∧ q.1 < (ns.length : Int)) ∧ (0 ≤ q.2 ∧ q.2 < H) := by
  have hm := (hc.ZU.mem _).1 hq
  exact ⟨hm.1, (h.note _ (Gm (d := ([], 0, 0)) (i := q.1.toNat) (by omega))).1.2.2 _ hm.2⟩
end
end Go.Proofs.YtfmapnhfamoecaaGreat.Rd
namespace Go.Proofs.YtfmapnhfamoecaaGreat.Rd
open Go.PL Go.Proofs.YtfmapnhfamoecaaGreat.Rv
section
variable {ws hs : List (List Int)} {H st : Int} {ns : List (List Int × Int × Int)} {c : List Int} {ps : List (Int × Int)} {hit : List Int} {bd : Nat → Int} {D : Nat → Bool}
end
end Go.Proofs.YtfmapnhfamoecaaGreat.Rd
namespace Go.Proofs.YtfmapnhfamoecaaGreat.Rd
open Go.PL Go.Proofs.YtfmapnhfamoecaaGreat.Rv
theorem G3.unique {P : Int → Prop} {v w : Int} (h : G3 P v) (h2 : G3 P w) : v = w := by
  rcases h with ⟨h1, h3⟩ | ⟨h1, h3, h4⟩ <;> rcases h2 with ⟨q1, q3⟩ | ⟨q1, q3, q4⟩
  · omega
  · exact absurd q1 (h3 w)
  · exact absurd h1 (q3 v)
  · have := h4 w q1; have := q4 v h1; omega
theorem Oj (a b : Int) : ∀ (l : List (Int × Int)) (k : Int), 0 ≤ k → ∃ n, BB a b l k = some n ∧ (0 ≤ n ↔ (a, b) ∈ l)
  | [], k, _ => ⟨-1, rfl, by simp⟩
  | x :: l, k, hk => by
    unfold BB
    by_cases h : a = x.1 ∧ b = x.2
    · exact ⟨k, if_pos h, by simp [h.1, h.2, hk]⟩
    · obtain ⟨n, h1, h2⟩ := Oj a b l (k + 1) (by omega)
      refine ⟨n, by rw [if_neg h]; exact h1, ?_⟩
      rw [h2, List.mem_cons]
      exact ⟨.inr, fun q => q.elim (fun e => absurd ⟨congrArg Prod.fst e, congrArg Prod.snd e⟩ h) id⟩
theorem NL (l : List (Int × Int)) (a b : Int) : B4 l a b = some (decide ((a, b) ∈ l)) := by
  unfold B4 C6
  obtain ⟨n, h1, h2⟩ := Oj a b l 0 (Int.le_refl _)
  rw [h1, Ap]; congr 1; rw [decide_eq_decide]; exact h2
section
variable {ws hs : List (List Int)} {H st : Int} {ns : List (List Int × Int × Int)} {c : List Int} {ps : List (Int × Int)} {hit : List Int} {bd : Nat → Int} {D : Nat → Bool}
def RN (hs : List (List Int)) (c : List Int) (ns : List (List Int × Int × Int)) (st : Int) (k : Nat) (q : Int × Int) (e : Int) : Prop := ∃ s, s < k ∧ s < hs.length ∧ en c st.toNat s ≠ -1 ∧ q.2 ∈ hs.getD s [] ∧ e = en c st.toNat s + Io ns q.1.toNat
theorem RN.zero {q : Int × Int} : G3 (RN hs c ns st 0 q) (-1) := .inl ⟨rfl, fun _ ⟨_, h, _⟩ => absurd h (Nat.not_lt_zero _)⟩
theorem Yl {q : Int × Int} {v : Int} {k : Nat} (hk : hs.length ≤ k) (h : G3 (RN hs c ns st k q) v) : G3 (RN hs c ns st hs.length q) v :=
  h.congr fun e => ⟨fun ⟨s, _, h2, h3⟩ => ⟨s, h2, h2, h3⟩, fun ⟨s, _, h2, h3⟩ => ⟨s, by omega, h2, h3⟩⟩
theorem RN.step {q : Int × Int} {v : Int} {k : Nat} (h : G3 (RN hs c ns st k q) v) (hn : ¬ (k < hs.length ∧ en c st.toNat k ≠ -1 ∧ q.2 ∈ hs.getD k [])) : G3 (RN hs c ns st (k + 1) q) v :=
  h.congr fun e => ⟨fun ⟨s, h1, h2⟩ => ⟨s, by omega, h2⟩, fun ⟨s, h1, h2, h3, h4, h5⟩ => by
    by_cases d : s = k
    · subst d; exact absurd ⟨h2, h3, h4⟩ hn
    · exact ⟨s, by omega, h2, h3, h4, h5⟩⟩
theorem RN.add {q : Int × Int} {v : Int} {k : Nat} (h : G3 (fun x => RN hs c ns st k q x ∨ x = en c st.toNat k + Io ns q.1.toNat) v) (hy : k < hs.length ∧ en c st.toNat k ≠ -1 ∧ q.2 ∈ hs.getD k []) : G3 (RN hs c ns st (k + 1) q) v :=
  h.congr fun e => ⟨fun q' => q'.elim (fun ⟨s, h1, h2⟩ => ⟨s, by omega, h2⟩) fun h => ⟨k, by omega, hy.1, hy.2.1, hy.2.2, h⟩, fun ⟨s, h1, h2, h3, h4, h5⟩ => by
    by_cases d : s = k
    · subst d; exact .inr h5
    · exact .inl ⟨s, by omega, h2, h3, h4, h5⟩⟩
theorem Tp (h : GO ws hs H st ns) {n : Nat} (hn : n < ns.length) : 1 ≤ Io ns n ∧ Io ns n ≤ 5 := (h.note _ (Gm (d := ([], 0, 0)) hn)).2.1
theorem Og (h : GO ws hs H st ns) (hc : K7 hs ns c ps hit) {q : Int × Int} (hq : 0 ≤ q.1 ∧ q.1 < (ns.length : Int)) : ∀ (tl : List (List Int)) (k : Nat) (out : Int), hs.drop k = tl → G3 (RN hs c ns st k q) out → ∃ v, Cy st ns c q.1 q.2 tl (k : Int) out = some v ∧ G3 (RN hs c ns st hs.length q) v
  | [], k, out, hd, ho => by
    have hl : hs.length ≤ k := by
      have := congrArg List.length hd
      rw [List.length_drop, List.length_nil] at this; omega
    exact ⟨out, rfl, Yl hl ho⟩
  | x :: tl, k, out, hd, ho => by
    obtain ⟨hk, hx, aa⟩ := drop_cons [] hd
    have h5 := h.Mw.2
    have HY := h.HY
    have hw := Tp h (n := q.1.toNat) (by omega)
    have hr := hc.fin.K8 st.toNat k (by omega) (by omega)
    have ex : ∀ {β : Type} (f : Int → Option β), ix c (st * 5 + (k : Int)) f = f (en c st.toNat k) := fun f => by
      have q := X8 (w := c) hc.fin.len (i := st.toNat) (k := k) (by omega) (by omega) f
      rwa [show ((st.toNat : Nat) : Int) = st by omega] at q
    unfold Cy
    rw [Bz (by omega), Bz (by omega), ex]
    by_cases e : en c st.toNat k = -1
    · rw [if_neg (not_not_intro e), Ap, if_neg (by decide)]
      exact Og h hc hq tl (k + 1) out aa (RN.step ho fun q => q.2.1 e)
    · rw [if_pos e, contains_eq, Ap, Ap]
      by_cases m : q.2 ∈ x
      · obtain ⟨v, e1, h1⟩ := ho.add (e := en c st.toNat k + Io ns q.1.toNat) (by omega)
        rw [if_pos (decide_eq_true m), Zm ([], 0, 0) _ hq.1 hq.2]
        show ∃ v, gd (Dh (en c st.toNat k + Io ns q.1.toNat)) _ = some v ∧ _
        have ab : E3 [out, en c st.toNat k + (ns.getD q.1.toNat ([], 0, 0)).2.1] = some v := e1
        rw [Bz (J5 (by omega)), ab, Ap]
        exact Og h hc hq tl (k + 1) v aa (RN.add h1 ⟨hk, e, by rw [hx]; exact m⟩)
      · rw [if_neg (by simpa using m)]
        exact Og h hc hq tl (k + 1) out aa (RN.step ho fun q => m (by rw [← hx]; exact q.2.2))
theorem Qo (h : GO ws hs H st ns) (hc : K7 hs ns c ps hit) {q : Int × Int} (hq : 0 ≤ q.1 ∧ q.1 < (ns.length : Int)) : ∃ v, Ej ws hs H st ns c ps hit q.1 q.2 = some v ∧ G3 (RN hs c ns st hs.length q) v := by
  obtain ⟨v, e, h1⟩ := Og h hc hq hs 0 (-1) rfl RN.zero
  have e' : Cy st ns c q.1 q.2 hs 0 (-1) = some v := e
  refine ⟨v, ?_, h1⟩
  unfold Ej
  rw [e', Ap]
theorem RN.pos (h : GO ws hs H st ns) (hc : K7 hs ns c ps hit) {q : Int × Int} (hq : 0 ≤ q.1 ∧ q.1 < (ns.length : Int)) {k : Nat} {e : Int} (hf : RN hs c ns st k q e) : 0 ≤ e := by
  obtain ⟨s, _, h1, h2, _, rfl⟩ := hf
  have h5 := h.Mw.2
  have HY := h.HY
  have hr := hc.fin.K8 st.toNat s (by omega) (by omega)
  have := Tp h (n := q.1.toNat) (by omega)
  omega
theorem OM.none {S : Nat} {start : Int} {v0 : Nat} {l : List (Int × Int)} {s : Int} {v : Nat} {t : Int} (h : OM c ns hit bd S start v0 l s v t) (hl : l = []) : s = start ∧ v = v0 ∧ t = 0 := by
  cases h with
  | nil => exact ⟨rfl, rfl, rfl⟩
  | snoc h _ _ _ _ _ => simp at hl
theorem OM.one {S : Nat} {start : Int} {v0 : Nat} {l : List (Int × Int)} {s : Int} {v : Nat} {t : Int} (h : OM c ns hit bd S start v0 l s v t) (hl : l.length ≤ 1) (hv : v ≠ v0) : ∃ s n : Nat, s < S ∧ n < ns.length ∧ Xl c ns bd 0 start.toNat s n ∧ v = Lq v0 (hb hit s n) := by
  cases h with
  | nil => exact absurd rfl hv
  | @snoc l k v s n t h hk hs hn GK aa =>
    obtain ⟨h1, h2, h3⟩ := h.none (List.eq_nil_of_length_eq_zero (by simpa using hl))
    subst h2 h3
    have ab : k = start.toNat := by omega
    rw [ab] at aa
    exact ⟨s, n, hs, hn, aa, rfl⟩
def YW (ws hs : List (List Int)) (H st : Int) (ns : List (List Int × Int × Int)) (c : List Int) (ps : List (Int × Int)) (hit : List Int) (q : Int × Int) : Bool := match Ej ws hs H st ns c ps hit q.1 q.2 with | some v => !decide (0 ≤ v ∧ v ≤ (ns.getD q.1.toNat ([], 0, 0)).2.2) | none => false
theorem Sy (h : GO ws hs H st ns) (hc : K7 hs ns c ps hit) : ∀ (tl out : List (Int × Int)), (∀ q ∈ tl, q ∈ ps) → out.length + tl.length ≤ 1000 → Et ns ws hs H st ns c ps hit tl out = some (out ++ tl.filter (YW ws hs H st ns c ps hit))
  | [], out, _, _ => by simp [Et]
  | q :: tl, out, hq, hl => by
    simp only [List.length_cons] at hl
    have hr := Pv.K8 h hc (hq q (by simp))
    obtain ⟨v, e1, h1⟩ := Qo h hc hr.1
    have aa : ∀ z ∈ tl, z ∈ ps := fun z hz => hq z (by simp [hz])
    have hb : YW ws hs H st ns c ps hit q = !decide (0 ≤ v ∧ v ≤ (ns.getD q.1.toNat ([], 0, 0)).2.2) := by unfold YW; rw [e1]
    unfold Et
    rw [e1, Ap, Zm ([], 0, 0) _ hr.1.1 hr.1.2, Kf, Ap, ← hb, List.filter_cons]
    cases hm : YW ws hs H st ns c ps hit q with
    | true =>
      rw [if_pos rfl, if_pos rfl, Km (by simp; omega), Sy h hc tl _ aa (by simp; omega), List.append_assoc]; rfl
    | false =>
      rw [if_neg (by decide), if_neg (by decide), Sy h hc tl _ aa (by omega)]
theorem Yz (h : GO ws hs H st ns) (e : DZ ws hs H st ns = some (some (ws, hs, H, st, ns, c, ps, hit), 0)) (hc : K7 hs ns c ps hit) : I1 ws hs H st ns = some (ps.filter (YW ws hs H st ns c ps hit), 0) := by
  have h9 := hc.nine h
  unfold I1
  rw [e, B2, if_neg (by decide), R3, Sy h hc ps [] (fun q hq => hq) (by simp; omega), Ap, List.nil_append]
theorem US (h : GO ws hs H st ns) (e : DZ ws hs H st ns = some (some (ws, hs, H, st, ns, c, ps, hit), 0)) (hc : K7 hs ns c ps hit) {i : Nat} (hi : i < ps.length) : ∃ v, G3 (RN hs c ns st hs.length (ps.getD i (0, 0))) v ∧ FN ws hs H st ns (ps.getD i (0, 0)).1 (ps.getD i (0, 0)).2 = some (if v = -1 then (0, 6) else (v, 0)) := by
  have hr := Pv.K8 h hc (Gm (d := (0, 0)) hi)
  obtain ⟨v, e1, h1⟩ := Qo h hc hr.1
  refine ⟨v, h1, ?_⟩
  unfold FN
  rw [e, B2, if_neg (by decide), R3, WU hc.ZU.nodup hi, Ap, if_neg (by omega), e1, Ap]
  by_cases c : v = -1
  · rw [if_pos c, if_pos c]
  · rw [if_neg c, if_neg c]
end
end Go.Proofs.YtfmapnhfamoecaaGreat.Rd
namespace Go.Proofs.YtfmapnhfamoecaaGreat.Rd
open Go.PL Go.Hear
def Ip (q : List Int) (c : Int) (p : Nat) : Bool := decide (q.getD p 0 = c)
theorem Vg {q : List Int} {c : Int} {k : Nat} (h : q.getD k 0 = c) : CJ (Ip q c) (k + 1) = CJ (Ip q c) k ++ [(k : Int)] := by
  rw [Ld, if_pos (show Ip q c k = true by unfold Ip; rw [h]; simp)]
theorem Ut {q : List Int} {c : Int} {k : Nat} (h : q.getD k 0 ≠ c) : CJ (Ip q c) (k + 1) = CJ (Ip q c) k := by
  rw [Ld, if_neg (show ¬ Ip q c k = true by unfold Ip; simp only [decide_eq_true_eq]; exact h), List.append_nil]
theorem PY {q : List Int} {c : Int} {k : Nat} (hk : k < q.length) (hc : c ≠ 2) : CJ (Ip (q.set k 2) c) (k + 1) = CJ (Ip q c) k := by
  rw [Ut (by rw [Il hk, if_pos rfl]; exact fun e => hc e.symm)]
  exact Nt fun i hi => by unfold Ip; rw [Il hk, if_neg (by omega)]
theorem LY {q : List Int} {c x : Int} {n : Nat} : x ∈ CJ (Ip q c) n ↔ (0 ≤ x ∧ x < n) ∧ q.getD x.toNat 0 = c := by
  rw [K4]; unfold Ip; rw [decide_eq_true_iff]
structure IJ (n : Nat) (q S H : List Int) : Prop where
  len : q.length = n
  all : q.all Vv = true
  st : S = CJ (Ip q 0) n
  ho : H = CJ (Ip q 1) n
  s5 : S.length ≤ 5
  h5 : H.length ≤ 5
  one : ∃ s : Nat, s < n ∧ q.getD s 0 = 0
theorem Ye {q : List Int} (h : q.all Vv = true) (k : Nat) : (q.set k 2).all Vv = true := by
  rw [List.all_eq_true] at h ⊢
  intro x hx
  rcases List.mem_or_eq_of_mem_set hx with h1 | rfl
  · exact h x h1
  · decide
theorem TJ : ∀ (n : Nat) (q : List Int), q.length = n → Hf q = (CJ (Ip q 1) n).length
  | 0, q, hl => by
    obtain rfl := List.length_eq_zero_iff.1 hl
    rfl
  | n + 1, q, hl => by
    have hq : q = q.take n ++ [q.getD n 0] := by
      have h1 : n < q.length := by omega
      have h2 : q.take (n + 1) = q.take n ++ [q.getD n 0] := by rw [List.take_add_one, I6 (d := (0 : Int)) h1]; rfl
      rw [← h2, List.take_of_length_le (by omega)]
    have ht : (q.take n).length = n := by rw [List.length_take]; omega
    have ih := TJ n (q.take n) ht
    have e : CJ (Ip (q.take n) 1) n = CJ (Ip q 1) n := Nt fun i hi => by
      unfold Ip
      rw [List.getD_eq_getElem?_getD, List.getElem?_take_of_lt hi, ← List.getD_eq_getElem?_getD]
    rw [hq, N6, ← hq, ih, e, Ld, List.length_append]
    congr 1
    have g : ∀ x : Int, (List.filter (fun x => decide (x = 1)) [x]).length = (if decide (x = 1) = true then [(n : Int)] else []).length := fun x => by by_cases c : x = 1 <;> simp [c]
    exact g _
theorem IJ.LL {n : Nat} {wide : Int} {ps q S H : List Int} (h : IJ n q S H) (hc : LL wide ps = 0) (hl : ps.length = n) : LL wide q = 0 := by
  have hb := h.h5
  have aa := TJ n q h.len
  rw [← h.ho] at aa
  have ha := h.all
  have ab := h.len
  unfold Go.Hear.LL at hc ⊢
  rw [ab, ← hl]
  split at hc
  · exact absurd hc (by decide)
  · rename_i h1
    rw [if_neg h1, if_neg (by rw [ha]; decide), if_neg (by omega)]
end Go.Proofs.YtfmapnhfamoecaaGreat.Rd
namespace Go.Proofs.YtfmapnhfamoecaaGreat.Rd
open Go.PL Go.Hear
theorem Uo {l : List Int} (h : l.Pairwise (· < ·)) {i j : Nat} (hi : i < l.length) (hj : j < l.length) (he : l.getD i 0 = l.getD j 0) : i = j := by
  have e1 : ∀ {k : Nat} (hk : k < l.length), l.getD k 0 = l[k] := fun hk => by rw [List.getD_eq_getElem?_getD, List.getElem?_eq_getElem hk]; rfl
  rw [e1 hi, e1 hj] at he
  have h2 := List.pairwise_iff_getElem.1 h
  rcases Nat.lt_trichotomy i j with c | c | c
  · have := h2 i j hi hj c; omega
  · exact c
  · have := h2 j i hj hi c; omega
section
variable {n : Nat} {wide : Int} {q S H : List Int} {w v : Int}
theorem IJ.sorted (h : IJ n q S H) : H.Pairwise (· < ·) := by rw [h.ho]; exact PT _ _
theorem IJ.Kh (h : IJ n q S H) {i : Nat} (hi : i < S.length) : (0 ≤ S.getD i 0 ∧ S.getD i 0 < (n : Int)) ∧ q.getD (S.getD i 0).toNat 0 = 0 := by
  have := Gm (d := (0 : Int)) hi
  rw [h.st, LY, ← h.st] at this
  exact this
theorem IJ.Dr (h : IJ n q S H) {i : Nat} (hi : i < H.length) : (0 ≤ H.getD i 0 ∧ H.getD i 0 < (n : Int)) ∧ q.getD (H.getD i 0).toNat 0 = 1 := by
  have := Gm (d := (0 : Int)) hi
  rw [h.ho, LY, ← h.ho] at this
  exact this
end
end Go.Proofs.YtfmapnhfamoecaaGreat.Rd
namespace Go.Proofs.YtfmapnhfamoecaaGreat.Rd
open Go.PL Go.Hear
section
variable {ws hs : List (List Int)} {H st : Int} {ns : List (List Int × Int × Int)}
variable {c : List Int} {ps : List (Int × Int)} {hit : List Int} {bd : Nat → Int} {S : Nat}
theorem S0 {p : Nat} : ∀ {l : List (Int × Int)} {k m : Int}, Ns c ns hit bd k m l p = true → ∃ x ∈ l, (hb hit x.1.toNat x.2.toNat).testBit p = true
  | [], _, _, h => by cases h
  | x :: l, k, m, h => by
    unfold Ns at h
    rw [Bool.or_eq_true, Bool.and_eq_true] at h
    rcases h with h | h
    · exact ⟨x, by simp, h.2⟩
    · obtain ⟨y, h1, h2⟩ := S0 h
      exact ⟨y, by simp [h1], h2⟩
theorem WB (h : GO ws hs H st ns) (hc : K7 hs ns c ps hit) {p s n : Nat} (hp : p < ps.length) (G6 : s < hs.length) (hn : n < ns.length) : (hb hit s n).testBit p = true ↔ (ps.getD p (0, 0)).1 = (n : Int) ∧ (ps.getD p (0, 0)).2 ∈ hs.getD s [] := by
  have h5 := h.Mw.2
  have h3 := h.hn
  rw [(hc.hit.hb (s := s) (n := n) (by omega) (by omega)).2.2 p]
  unfold QP
  simp only [Bool.and_eq_true, decide_eq_true_eq]
  exact ⟨fun e => ⟨e.1.1.2, e.2⟩, fun e => ⟨⟨⟨hp, e.1⟩, G6⟩, e.2⟩⟩
end
section
variable {n : Nat} {wide : Int} {q S H : List Int} {w v : Int} {ws hs : List (List Int)}
theorem X4 {κ δ : Type} [DecidableEq κ] {m : List (κ × δ)} {k : κ} {x : δ} (h : A7 m k = some x) : (k, x) ∈ m := by
  unfold A7 at h
  obtain ⟨p, h1, h2⟩ := Option.map_eq_some_iff.1 h
  have h3 := List.find?_some h1
  have h4 := List.mem_of_find?_eq_some h1
  have : p.1 = k := by simpa using h3
  rwa [← this, ← h2]
end
end Go.Proofs.YtfmapnhfamoecaaGreat.Rd
