/- A beat that is better for each walk and each stand ends no later; in plain Lean. -/
import Derived.Test.YtfmapnhfamoecaaGreatZRME
namespace Go.Proofs.YtfmapnhfamoecaaGreat.Rd
open Go.PL Go.Hear
section
variable {ws bS hs G6 : List (List Int)} {H st : Int} {ns : List (List Int × Int × Int)}
theorem P7 (h : GO ws hs H st ns) {Q : List Int → Prop} (hQ : ∀ (w w' : List Int) (B : Int), Q w → (∀ i k, i < 5 → k < 5 → O5 w B i k 5 (en w' i k)) → Q w') (aa : ∀ w, (∀ i k, i < 5 → k < 5 → en w i k = E0 ws i k) → Q w) : ∃ c ps hit, DZ ws hs H st ns = some (some (ws, hs, H, st, ns, c, ps, hit), 0) ∧ K7 hs ns c ps hit ∧ Q c := by
  obtain ⟨c0, a, c, e1, e2, e3, hc, ab⟩ := RF h hQ aa
  have h0 : Pv ns 0 [] := ⟨rfl, List.nodup_nil, fun q => ⟨fun hq => (nomatch hq), fun hq => absurd hq.1 (by omega)⟩⟩
  have hz : Q8 (List.replicate 15 0) (QP hs []) := Q8.zero.congr fun s n p _ _ => by unfold QP; simp
  obtain ⟨ps, hit, e4, hp, hh⟩ := Ss h ns 0 [] (List.replicate 15 0) rfl h0 (Nat.zero_le _) hz
  have ad : DX hs ns 0 [] (List.replicate 15 0) = some (ps, hit) := e4
  refine ⟨c, ps, hit, ?_, ⟨hc, hp, hh⟩, ab⟩
  unfold DZ
  rw [SV h, Ap, if_neg (by decide), Bz ⟨AJ (by omega), AJ (by omega)⟩, e1, Ap, e2, Ap, e3, Ap, ad, B2]
variable {c c' : List Int}
theorem RO {S N : Nat} (hS : S ≤ 5) (hC : ∀ i k, i < 5 → k < 5 → en c' i k ≠ -1 → en c i k ≠ -1 ∧ en c i k ≤ en c' i k) : ∀ (l : List (Int × Int)) (k m m' : Int) (aa : List Int), Oc S N l → (0 ≤ k ∧ k < (S : Int)) → m ≤ m' → Gx c' ns k m' l = some aa →
    ∃ es, Gx c ns k m l = some es ∧ (∀ z' ∈ l.zip aa, ∃ z ∈ l.zip es, z.1 = z'.1 ∧ z.2 ≤ z'.2) ∧ es.getLastD m ≤ aa.getLastD m'
  | [], k, m, m', aa, _, _, hm, he => by
    obtain rfl : [] = aa := Option.some.inj he
    exact ⟨[], rfl, fun _ h => (nomatch h), hm⟩
  | x :: l, k, m, m', aa, hl, hk, hm, he => by
    obtain ⟨h1, h2⟩ := hl x (by simp)
    unfold Gx at he
    by_cases hx : en c' k.toNat x.1.toNat = -1
    · rw [if_pos hx] at he; cases he
    · rw [if_neg hx] at he
      obtain ⟨ab, e2, rfl⟩ := Option.map_eq_some_iff.1 he
      have hq := hC k.toNat x.1.toNat (by omega) (by omega) hx
      obtain ⟨es, g1, g2, g3⟩ := RO hS hC l x.1 (m + en c k.toNat x.1.toNat + Io ns x.2.toNat) _ ab (fun y hy => hl y (by simp [hy])) h1 (by omega) e2
      refine ⟨_ :: es, by unfold Gx; rw [if_neg hq.1, g1]; rfl, fun z hz => ?_, ?_⟩
      · rw [List.zip_cons_cons] at hz ⊢
        rcases List.mem_cons.1 hz with rfl | hz
        · exact ⟨_, List.mem_cons_self .., rfl, by show _ + _ + _ ≤ _ + _ + _; omega⟩
        · obtain ⟨y, y1, y2⟩ := g2 z hz
          exact ⟨y, List.mem_cons_of_mem _ y1, y2⟩
      · rw [List.getLastD_cons, List.getLastD_cons]; exact g3
theorem RH (h : GO ws hs H st ns) (h' : GO bS G6 H st ns) (hl : hs.length = G6.length) (hW : ∀ i k, i < hs.length → k < hs.length → E0 bS i k ≠ -1 → E0 ws i k ≠ -1 ∧ E0 ws i k ≤ E0 bS i k) (hH : ∀ s, s < hs.length → ∀ y ∈ G6.getD s [], y ∈ hs.getD s []) {l' : List (Int × Int)} {m' : Int} (aa : Dx bS G6 H st ns = some (l', m', 0)) :
    ∃ l m, Dx ws hs H st ns = some (l, m, 0) ∧ m ≤ m' := by
  have h5 := h.Mw.2
  obtain ⟨c, ps, hit, e, hc, ah⟩ := P7 h (Q := fun w => ∀ i k, i < hs.length → k < hs.length → E0 ws i k ≠ -1 → en w i k ≠ -1 ∧ en w i k ≤ E0 ws i k) (fun w w' _ hw ht i k hi hk h0 => by
    have h1 := hw i k hi hk h0
    have h2 := (ht i k (by omega) (by omega)).old h1.1
    exact ⟨h2.1, by omega⟩) (fun w hw i k hi hk h0 => by rw [hw i k (by omega) (by omega)]; exact ⟨h0, Int.le_refl _⟩)
  obtain ⟨c', af, ai, e', ad, hC⟩ := P7 h' (Q := fun w => ∀ i k, i < 5 → k < 5 → en w i k ≠ -1 → en c i k ≠ -1 ∧ en c i k ≤ en w i k) (fun w w' _ hw ht i k hi hk h0 => by
    rcases (ht i k hi hk).from_ with hv | ⟨j, hj, h1, h2, hv⟩
    · rw [hv] at h0 ⊢; exact hw i k hi hk h0
    · have g1 := hw i j hi hj h1
      have g2 := hw j k hj hk h2
      have g3 := hc.fin.cY i j k hi hj hk g1.1 g2.1
      exact ⟨g3.1, by omega⟩) (fun w hw i k hi hk h0 => by
    rw [hw i k hi hk] at h0 ⊢
    have ab : i < hs.length ∧ k < hs.length := Classical.byContradiction fun hn => h0 (by
      unfold E0
      rw [if_neg (by rw [h'.hw, ← hl]; exact hn)])
    have g1 := hW i k ab.1 ab.2 h0
    have g2 := ah i k ab.1 ab.2 g1.1
    exact ⟨g2.1, by omega⟩)
  rcases PM h' e' ad with ⟨b1, _⟩ | ⟨l2, t2, b1, b2, _⟩
  · rw [b1] at aa; cases aa
  rw [b1] at aa
  obtain ⟨rfl, h3⟩ := Prod.mk.inj (Option.some.inj aa)
  obtain ⟨rfl, _⟩ := Prod.mk.inj h3
  obtain ⟨aj, g1, g2, g3, g4, _⟩ := b2.can
  rw [← hl] at g1
  obtain ⟨es, f1, f2, f3⟩ := RO h5 hC l2 st 0 0 aj g1 h.HY (Int.le_refl _) g2
  rw [hl] at g1
  have ae : LD c ns hit (Y9 ns 200) st 0 (2 ^ ps.length - 1) l2 = 0 := Mo.2 fun p hp => by
    rw [Nat.testBit_two_pow_sub_one, decide_eq_true_iff] at hp
    have hm := (ad.ZU.mem _).2 ((hc.ZU.mem _).1 (Gm (d := (0, 0)) hp))
    obtain ⟨p', p1, p2⟩ := List.getElem_of_mem hm
    have pe : af.getD p' (0, 0) = ps.getD p (0, 0) := by rw [List.getD_eq_getElem?_getD (l := af), List.getElem?_eq_getElem p1, Option.getD_some, p2]
    have hh := (Rt h' ad g1 g2 p1).1 (Mo.1 g3 p' (by rw [Nat.testBit_two_pow_sub_one, decide_eq_true_iff]; exact p1))
    rw [pe] at hh
    obtain ⟨w, ⟨z', z1, z2, z3, z4⟩, z5⟩ := hh
    obtain ⟨z, y1, y2, y3⟩ := f2 z' z1
    have ak := (g1 z'.1 (List.of_mem_zip z1).1).1
    refine (Rt h hc (by rw [hl]; exact g1) f1 hp).2 ⟨z.2, ⟨z, y1, by rw [y2]; exact z2, ?_, rfl⟩, by omega⟩
    rw [y2]
    exact hH _ (by omega) _ z3
  obtain ⟨l3, t3, k1, k2⟩ := X1 h hc (by rw [hl]; exact g1) f1 ae
  rcases PM h e hc with ⟨_, b3⟩ | ⟨l4, t4, b3, _, b4⟩
  · exact absurd k1 (b3 l3 t3)
  · have := b4 l3 t3 k1
    exact ⟨l4, t4, b3, by omega⟩
end
end Go.Proofs.YtfmapnhfamoecaaGreat.Rd
namespace Go.Proofs.YtfmapnhfamoecaaGreat.Rd
open Go.PL Go.Hear
theorem MO : DW = some true := by decide +kernel
theorem RT {n : Nat} (hn : n ≤ 1000) : ∀ (fu k : Nat) (q : List Int), k + fu = n → q.length = n → q.all Vv = true → (CJ (Ip q 0) k).length ≤ 5 → (CJ (Ip q 1) k).length ≤ 5 → (∃ s : Nat, s < n ∧ q.getD s 0 = 0) →
    ∃ q' S H, Bl fu (k : Int) q (CJ (Ip q 0) k) (CJ (Ip q 1) k) = some (q', S, H) ∧ IJ n q' S H
  | 0, k, q, hk, hl, ha, h0, h1, hs => by
    obtain rfl : k = n := by omega
    exact ⟨q, _, _, rfl, hl, ha, rfl, rfl, h0, h1, hs⟩
  | fu + 1, k, q, hk, hl, ha, h0, h1, hs => by
    have ab : k < q.length := by omega
    unfold Bl
    rw [Wm _ ab]
    have wall : (q.getD k 0 = 0 → ¬ (CJ (Ip q 0) k).length < 5) → ∃ q' S H, Bl fu ((k : Int) + 1) (q.set k 2) (CJ (Ip q 0) k) (CJ (Ip q 1) k) = some (q', S, H) ∧ IJ n q' S H := fun hc => by
      have := RT hn fu (k + 1) (q.set k 2) (by omega) (by rw [List.length_set]; exact hl) (Ye ha k) (by rw [PY ab (by decide)]; exact h0) (by rw [PY ab (by decide)]; exact h1) (by
        by_cases hx : q.getD k 0 = 0
        · have hc := hc hx
          have GK : 0 < (CJ (Ip q 0) k).length := by omega
          have hm := List.getElem_mem GK
          rw [LY] at hm
          refine ⟨((CJ (Ip q 0) k)[0]).toNat, by omega, ?_⟩
          rw [Il ab, if_neg (by omega)]; exact hm.2
        · obtain ⟨s, s1, s2⟩ := hs
          have : s ≠ k := fun e => by rw [e] at s2; exact hx s2
          exact ⟨s, s1, by rw [Il ab, if_neg (by omega)]; exact s2⟩)
      rw [PY ab (by decide), PY ab (by decide)] at this
      exact this
    have hlen : ∀ c, (CJ (Ip q c) k).length ≤ k := fun c => QV _ _
    have two : ¬ q.getD k 0 = 0 ∨ ¬ (CJ (Ip q 0) k).length < 5 → (b1 (if q.getD k 0 = 1 then (some (decide (((CJ (Ip q 1) k).length : Int) < 5))) else (some false)) fun k3 => if k3 = true then (ap (CJ (Ip q 1) k) [(k : Int)] fun aa => Bl fu ((k : Int) + 1) q (CJ (Ip q 0) k) aa) else (bv (q.set (k : Int).toNat 2) fun t => Bl fu ((k : Int) + 1) t (CJ (Ip q 0) k) (CJ (Ip q 1) k))) = (if q.getD k 0 = 1 ∧ (CJ (Ip q 1) k).length < 5 then Bl fu ((k : Int) + 1) q (CJ (Ip q 0) k) (CJ (Ip q 1) k ++ [(k : Int)]) else Bl fu ((k : Int) + 1) (q.set k 2) (CJ (Ip q 0) k) (CJ (Ip q 1) k)) := fun _ => by
      by_cases ah : q.getD k 0 = 1
      · rw [if_pos ah, Ap]
        by_cases h5 : (CJ (Ip q 1) k).length < 5
        · rw [if_pos (decide_eq_true (show ((CJ (Ip q 1) k).length : Int) < 5 by omega)), if_pos ⟨ah, h5⟩, Km (by have := hlen 1; simp only [List.length_append, List.length_singleton]; omega)]
        · rw [if_neg (show ¬ decide (((CJ (Ip q 1) k).length : Int) < 5) = true by simp only [decide_eq_true_eq]; omega), if_neg (fun h => h5 h.2), Lv, Int.toNat_natCast]
      · rw [if_neg ah, Ap, if_neg (by decide), if_neg (fun h => ah h.1), Lv, Int.toNat_natCast]
    have fin : ¬ q.getD k 0 = 0 ∨ ¬ (CJ (Ip q 0) k).length < 5 → ∃ q' S H, (if q.getD k 0 = 1 ∧ (CJ (Ip q 1) k).length < 5 then Bl fu ((k : Int) + 1) q (CJ (Ip q 0) k) (CJ (Ip q 1) k ++ [(k : Int)]) else Bl fu ((k : Int) + 1) (q.set k 2) (CJ (Ip q 0) k) (CJ (Ip q 1) k)) = some (q', S, H) ∧ IJ n q' S H := fun hc => by
      by_cases hb : q.getD k 0 = 1 ∧ (CJ (Ip q 1) k).length < 5
      · rw [if_pos hb]
        have ae : CJ (Ip q 0) (k + 1) = CJ (Ip q 0) k := Ut (by rw [hb.1]; decide)
        have af : CJ (Ip q 1) (k + 1) = CJ (Ip q 1) k ++ [(k : Int)] := Vg hb.1
        have := RT hn fu (k + 1) q (by omega) hl ha (by rw [ae]; exact h0) (by rw [af]; simp; omega) hs
        rw [ae, af] at this; exact this
      · rw [if_neg hb]
        exact wall fun hx => by
          rcases hc with hc | hc
          · exact absurd hx hc
          · exact hc
    by_cases ad : q.getD k 0 = 0
    · rw [if_pos ad, Ap]
      by_cases h5 : (CJ (Ip q 0) k).length < 5
      · rw [if_pos (decide_eq_true (show ((CJ (Ip q 0) k).length : Int) < 5 by omega)), Km (by have := hlen 0; simp only [List.length_append, List.length_singleton]; omega)]
        have af : CJ (Ip q 1) (k + 1) = CJ (Ip q 1) k := Ut (by rw [ad]; decide)
        have ae : CJ (Ip q 0) (k + 1) = CJ (Ip q 0) k ++ [(k : Int)] := Vg ad
        have := RT hn fu (k + 1) q (by omega) hl ha (by rw [ae]; simp; omega) (by rw [af]; exact h1) hs
        rw [ae, af] at this; exact this
      · rw [if_neg (show ¬ decide (((CJ (Ip q 0) k).length : Int) < 5) = true by simp only [decide_eq_true_eq]; omega), two (.inr h5)]
        exact fin (.inr h5)
    · rw [if_neg ad, Ap, if_neg (by decide), two (.inl ad)]
      exact fin (.inl ad)
structure Q4 (n : Nat) (wide : Int) (q S H : List Int) : Prop where
  len : q.length = n
  Qw : n ≤ 30
  ck : LL wide q = 0
  s5 : S.length ≤ 5
  h5 : H.length ≤ 5
  st : ∀ i, i < S.length → 0 ≤ S.getD i 0 ∧ S.getD i 0 < (n : Int)
  ho : ∀ i, i < H.length → (0 ≤ H.getD i 0 ∧ H.getD i 0 < (n : Int)) ∧ q.getD (H.getD i 0).toNat 0 = 1
  dC : S.Pairwise (· < ·)
theorem IJ.Zn {n : Nat} {wide : Int} {q S H : List Int} (h : IJ n q S H) (hc : Go.Hear.LL wide q = 0) (hn : n ≤ 30) : Q4 n wide q S H :=
  ⟨h.len, hn, hc, h.s5, h.h5, fun _ hi => (h.Kh hi).1, fun _ hi => h.Dr hi, by rw [h.st]; exact PT _ _⟩
theorem IJ.XC {n : Nat} {wide : Int} {q S H : List Int} (h : IJ n q S H) (hc : Go.Hear.LL wide q = 0) (hn : n ≤ 30) {i : Nat} (hi : i < S.length) : Q4 n wide (q.set (S.getD i 0).toNat 2) S H := by
  have hs := h.Kh hi
  have hl := h.len
  refine ⟨by rw [List.length_set]; exact hl, hn, WY hc (by omega) hs.2, h.s5, h.h5, fun _ hi => (h.Kh hi).1, fun j hj => ⟨(h.Dr hj).1, ?_⟩, by rw [h.st]; exact PT _ _⟩
  have hh := h.Dr hj
  rw [Il (by omega), if_neg (fun e => by rw [← e, hs.2] at hh; exact absurd hh.2 (by decide))]
  exact hh.2
section
variable {n : Nat} {wide : Int} {q S H : List Int} {w v : Int}
theorem W1 {m : Nat} {E : Int → List (Int × Int)} (hE : TG m E) {s : Int} (hs : 0 ≤ s ∧ s < m) {p d : Int} (h : PG E s p d) : p ≠ s → 1 ≤ d := by
  intro hp
  cases h with
  | here => exact absurd rfl hp
  | step h1 h2 => have := hE _ _ _ h2; have := (PG.K8 hE hs h1).2; omega
def Rh (wide : Int) (q S : List Int) (i j : Nat) : Int := if S.getD i 0 = S.getD j 0 then 0 else if (HP wide q 0 (S.getD i 0) (S.getD j 0) ≠ 0 ∨ 20 < Hw wide q 0 (S.getD i 0) (S.getD j 0)) ∨ q.getD (S.getD j 0).toNat 0 ≠ 0 then -1 else Hw wide q 0 (S.getD i 0) (S.getD j 0)
def S6 (wide : Int) (q S H : List Int) (w v : Int) (i h : Nat) : Bool := OC wide q w v (S.getD i 0).toNat (H.getD h 0).toNat
theorem N4 (h : Q4 n wide q S H) {i j : Nat} (_hi : i < S.length) (hj : j < S.length) (GK : S.getD i 0 ≠ S.getD j 0) (he : HP wide q 0 (S.getD i 0) (S.getD j 0) = 0) : 1 ≤ Hw wide q 0 (S.getD i 0) (S.getD j 0) := by
  unfold Hw
  rw [if_pos he]
  unfold HP at he
  by_cases h1 : HN wide q 0 (S.getD i 0) = 0
  · rw [if_neg (not_not_intro h1)] at he
    obtain ⟨ho, hs, _⟩ := OH h1
    have hT := Pt ho hs
    have aa := h.st j hj
    have hl := h.len
    split at he
    · cases he
    · split at he
      · cases he
      · rename_i h3
        rcases hT.sound (S.getD j 0) aa.1 (by omega) with h4 | ⟨_, _, h4⟩
        · exact absurd h4 h3
        · exact W1 (K6 ho) hs h4 (fun e => GK e.symm)
  · rw [if_pos h1] at he; exact absurd he h1
theorem aQ (h : Q4 n wide q S H) {i j : Nat} (hi : i < S.length) (hj : j < S.length) : bM i j (Rh wide q S i j) := by
  unfold Rh
  constructor
  · intro e; rw [e, if_pos rfl]
  · intro e
    have GK : S.getD i 0 ≠ S.getD j 0 := fun e2 => e (Uo h.dC hi hj e2)
    rw [if_neg GK]
    by_cases hc : (HP wide q 0 (S.getD i 0) (S.getD j 0) ≠ 0 ∨ 20 < Hw wide q 0 (S.getD i 0) (S.getD j 0)) ∨ q.getD (S.getD j 0).toNat 0 ≠ 0
    · rw [if_pos hc]; exact .inl rfl
    · rw [if_neg hc]
      have h1 : HP wide q 0 (S.getD i 0) (S.getD j 0) = 0 := Classical.byContradiction fun e => hc (.inl (.inl e))
      have h2 : ¬ 20 < Hw wide q 0 (S.getD i 0) (S.getD j 0) := fun e => hc (.inl (.inr e))
      exact .inr ⟨N4 h hi hj GK h1, by omega⟩
theorem NO {β : Type} (f : Nat → β) (n : Nat) : DR f (n + 1) = DR f n ++ [f n] := by unfold DR; rw [List.range_succ, List.map_append]; rfl
theorem XW (h : Q4 n wide q S H) {i : Nat} (hi : i < S.length) {hour : Int} {xq own : List Int} {bw bh : List (List Int)} {rec3 : List (List Int) → List (List Int) → Option ((List (List Int)) × (List (List Int)) × Int × Int × (List ((List Int) × Int × Int)) × Bool)} : ∀ (tl : List Int) (k : Nat), S.drop k = tl → k ≤ S.length →
    BZ wide q H hour xq bw bh (S.getD i 0) own rec3 tl (DR (Rh wide q S i) k) = Ee bw bh own rec3 (DR (Rh wide q S i) S.length)
  | [], k, hd, hk => by
    have : k = S.length := by
      have := congrArg List.length hd
      rw [List.length_drop, List.length_nil] at this; omega
    rw [this]; rfl
  | x :: tl, k, hd, _ => by
    obtain ⟨hk, hx, ad⟩ := drop_cons (0 : Int) hd
    have ih := XW h hi (hour := hour) (xq := xq) (own := own) (bw := bw) (bh := bh) (rec3 := rec3) tl (k + 1) ad hk
    have hl := h.len
    have af := h.Qw
    have h5 := h.s5
    have ab := h.st k hk
    rw [hx] at ab
    rw [NO] at ih
    have aa : (DR (Rh wide q S i) k ++ [Rh wide q S i k]).length ≤ 1048576 := by rw [List.length_append, DJ, List.length_singleton]; omega
    unfold BZ
    rw [Z4 (by omega), B2, VC (by omega), B2]
    have hv : Rh wide q S i k = if S.getD i 0 = x then 0 else if (HP wide q 0 (S.getD i 0) x ≠ 0 ∨ 20 < Hw wide q 0 (S.getD i 0) x) ∨ q.getD x.toNat 0 ≠ 0 then -1 else Hw wide q 0 (S.getD i 0) x := by unfold Rh; rw [hx]
    have ae : ∀ {β : Type} (f : Int → Option β), ix q x f = f (q.getD x.toNat 0) := fun f => Zm 0 f ab.1 (by omega)
    unfold DE
    by_cases e : S.getD i 0 = x
    · rw [if_pos e] at hv ⊢
      rw [hv] at ih aa
      rw [Km aa]; exact ih
    · rw [if_neg e] at hv ⊢
      have hb : (b1 (if HP wide q 0 (S.getD i 0) x ≠ 0 then some true else if 20 < Hw wide q 0 (S.getD i 0) x then some true else ix q x fun x6 => some (decide (x6 ≠ 0))) fun k7 : Bool => some k7) = some (decide ((HP wide q 0 (S.getD i 0) x ≠ 0 ∨ 20 < Hw wide q 0 (S.getD i 0) x) ∨ q.getD x.toNat 0 ≠ 0)) := by
        by_cases c1 : HP wide q 0 (S.getD i 0) x ≠ 0
        · rw [if_pos c1, Ap, decide_eq_true (.inl (.inl c1))]
        · rw [if_neg c1]
          by_cases c2 : 20 < Hw wide q 0 (S.getD i 0) x
          · rw [if_pos c2, Ap, decide_eq_true (.inl (.inr c2))]
          · rw [if_neg c2, ae, Ap]
            congr 1
            rw [decide_eq_decide]
            exact ⟨fun e => .inr e, fun e => by rcases e with (e | e) | e; exact absurd e c1; exact absurd e c2; exact e⟩
      obtain ⟨k7, e7, e8⟩ := AI hb
      rw [e7, Ap, Option.some.inj e8]
      by_cases c : (HP wide q 0 (S.getD i 0) x ≠ 0 ∨ 20 < Hw wide q 0 (S.getD i 0) x) ∨ q.getD x.toNat 0 ≠ 0
      · rw [if_pos c] at hv
        rw [hv] at ih aa
        rw [if_pos (decide_eq_true c), Km aa]; exact ih
      · rw [if_neg c] at hv
        rw [hv] at ih aa
        have h1 : HP wide q 0 (S.getD i 0) x = 0 := Classical.byContradiction fun e => c (.inl (.inl e))
        have hp := N4 h hi hk (by rw [hx]; exact e) (by rw [hx]; exact h1)
        rw [hx] at hp
        rw [decide_eq_false c, if_neg (by decide), if_neg (by omega), Km aa]; exact ih
theorem Xn (h : Q4 n wide q S H) (hw : okW w) {i : Nat} (hi : i < S.length) {hour : Int} {xq : List Int} {bw bh : List (List Int)} {rec3 : List (List Int) → List (List Int) → Option ((List (List Int)) × (List (List Int)) × Int × Int × (List ((List Int) × Int × Int)) × Bool)} : ∀ (tl : List Int) (k : Nat), H.drop k = tl → k ≤ H.length →
    CH wide q w v H hour S xq bw bh (S.getD i 0) rec3 tl (k : Int) (CJ (S6 wide q S H w v i) k) = DC wide q H hour S xq bw bh (S.getD i 0) rec3 (CJ (S6 wide q S H w v i) H.length)
  | [], k, hd, hk => by
    have : k = H.length := by
      have := congrArg List.length hd
      rw [List.length_drop, List.length_nil] at this; omega
    rw [this]; rfl
  | x :: tl, k, hd, af => by
    obtain ⟨hk, hx, ab⟩ := drop_cons (0 : Int) hd
    have ih := Xn h hw hi (hour := hour) (xq := xq) (bw := bw) (bh := bh) (rec3 := rec3) tl (k + 1) ab hk
    have hl := h.len
    have ah := h.Qw
    have h5 := h.h5
    have ad := h.st i hi
    have aa := h.ho k hk
    rw [hx] at aa
    unfold CH
    rw [Zm 0 _ ad.1 (by omega)]
    by_cases e : q.getD (S.getD i 0).toNat 0 = 0
    · rw [if_neg (not_not_intro e), VC (by omega), B2]
      have HY : HN wide q w (S.getD i 0) = 0 := by
        unfold HN
        rw [if_neg (not_not_intro (IC h.ck hw))]
        exact R1 ⟨by omega, e⟩
      have hE : HP wide q w (S.getD i 0) x = if (tb wide q w (S.getD i 0)).getD x.toNat 0 = -1 then 6 else 0 := by
        unfold HP
        rw [if_neg (not_not_intro HY), if_neg (not_not_intro ⟨aa.1.1, by omega⟩)]
      have hT := Pt (IC h.ck hw) (stand := S.getD i 0) (by omega)
      have ae : (tb wide q w (S.getD i 0)).getD x.toNat 0 = -1 ∨ 0 ≤ (tb wide q w (S.getD i 0)).getD x.toNat 0 := (hT.sound x aa.1.1 (by omega)).imp id fun e => e.1
      have hP : S6 wide q S H w v i k = decide (0 ≤ (tb wide q w (S.getD i 0)).getD x.toNat 0 ∧ (tb wide q w (S.getD i 0)).getD x.toNat 0 ≤ v) := by
        unfold S6 OC
        rw [hx, decide_eq_true e, decide_eq_true aa.2, Bool.true_and, Bool.true_and, show ((S.getD i 0).toNat : Int) = S.getD i 0 by omega]
      rw [Ld, hP] at ih
      have hlen := QV (S6 wide q S H w v i) k
      by_cases c : (tb wide q w (S.getD i 0)).getD x.toNat 0 = -1
      · rw [if_pos c] at hE
        rw [hE, if_pos (by decide), Ap, if_neg (by decide), if_neg (by decide), Ap, if_neg (by decide)]
        rw [decide_eq_false (by omega), if_neg (by decide), List.append_nil] at ih
        exact ih
      · rw [if_neg c] at hE
        have hV : Hw wide q w (S.getD i 0) x = (tb wide q w (S.getD i 0)).getD x.toNat 0 := by unfold Hw; rw [hE, if_pos rfl]
        rw [hE, hV, if_neg (by decide), Ap, if_neg (by decide), if_pos rfl, Ap]
        by_cases c2 : (tb wide q w (S.getD i 0)).getD x.toNat 0 ≤ v
        · rw [decide_eq_true c2, if_pos rfl, Km (by rw [List.length_append, List.length_singleton]; omega)]
          rw [decide_eq_true (by omega), if_pos rfl] at ih
          exact ih
        · rw [decide_eq_false c2, if_neg (by decide)]
          rw [decide_eq_false (by omega), if_neg (by decide), List.append_nil] at ih
          exact ih
    · rw [if_pos e]
      have hn : ∀ m, CJ (S6 wide q S H w v i) m = [] := fun m => Tb.2 fun j _ => W2 e _
      rw [hn, hn]
theorem XL (h : Q4 n wide q S H) (hw : okW w) {hour : Int} {xq : List Int} : ∀ (tl : List Int) (k : Nat), S.drop k = tl → k ≤ S.length →
    Bm wide q w v H hour S xq tl (DR (fun i => DR (Rh wide q S i) S.length) k) (DR (fun i => CJ (S6 wide q S H w v i) H.length) k) = some (DR (fun i => DR (Rh wide q S i) S.length) S.length, DR (fun i => CJ (S6 wide q S H w v i) H.length) S.length, (H.length : Int), 0, [(xq, 1 + Int.tmod hour 3, 20 + Int.tdiv hour 2)], true)
  | [], k, hd, hk => by
    have : k = S.length := by
      have := congrArg List.length hd
      rw [List.length_drop, List.length_nil] at this; omega
    rw [this]; rfl
  | x :: tl, k, hd, _ => by
    obtain ⟨hk, hx, aa⟩ := drop_cons (0 : Int) hd
    have ih := XL h hw (hour := hour) (xq := xq) tl (k + 1) aa hk
    have h5 := h.s5
    rw [NO, NO] at ih
    unfold Bm
    have h6 := Xn h hw (v := v) hk (hour := hour) (xq := xq) (bw := DR (fun i => DR (Rh wide q S i) S.length) k) (bh := DR (fun i => CJ (S6 wide q S H w v i) H.length) k) (rec3 := Bm wide q w v H hour S xq tl) H 0 rfl (Nat.zero_le _)
    have h8 := XW h hk (hour := hour) (xq := xq) (own := CJ (S6 wide q S H w v k) H.length) (bw := DR (fun i => DR (Rh wide q S i) S.length) k) (bh := DR (fun i => CJ (S6 wide q S H w v i) H.length) k) (rec3 := Bm wide q w v H hour S xq tl) S 0 rfl (Nat.zero_le _)
    rw [hx] at h6 h8
    refine Eq.trans h6 ?_
    unfold DC
    refine Eq.trans h8 ?_
    unfold Ee
    rw [Km (by rw [List.length_append, List.length_singleton, DJ]; omega), Km (by rw [List.length_append, List.length_singleton, DJ]; omega)]
    exact ih
theorem P2 : ∀ (tl : List Int) (k : Nat), H.drop k = tl → k ≤ H.length → H.length ≤ 1000 → CB tl (k : Int) (DR Int.ofNat k) = some (DR Int.ofNat H.length)
  | [], k, hd, hk, _ => by
    have : k = H.length := by
      have := congrArg List.length hd
      rw [List.length_drop, List.length_nil] at this; omega
    rw [this]; rfl
  | x :: tl, k, hd, _, hl => by
    obtain ⟨hk, _, aa⟩ := drop_cons (0 : Int) hd
    have ih := P2 tl (k + 1) aa hk hl
    rw [NO] at ih
    unfold CB
    rw [Km (by rw [List.length_append, List.length_singleton, DJ]; omega)]
    exact ih
theorem Qy {hour : Int} (hh : 0 ≤ hour ∧ hour < 256) : (1 ≤ 1 + Int.tmod hour 3 ∧ 1 + Int.tmod hour 3 ≤ 3) ∧ (20 ≤ 20 + Int.tdiv hour 2 ∧ 20 + Int.tdiv hour 2 ≤ 147) := by
  rw [Int.tmod_eq_emod_of_nonneg hh.1, Int.tdiv_eq_ediv_of_nonneg hh.1]
  omega
theorem Xo (h : Q4 n wide q S H) (hw : okW w) {hour : Int} (hh : 0 ≤ hour ∧ hour < 256) : CU wide q w v H hour S = some (DR (fun i => DR (Rh wide q S i) S.length) S.length, DR (fun i => CJ (S6 wide q S H w v i) H.length) S.length, (H.length : Int), 0, [(DR Int.ofNat H.length, 1 + Int.tmod hour 3, 20 + Int.tdiv hour 2)], true) := by
  have hr := Qy hh
  have h5 := h.h5
  have e1 := P2 (H := H) H 0 rfl (Nat.zero_le _) (by omega)
  have aa : CB H 0 [] = some (DR Int.ofNat H.length) := e1
  unfold CU
  rw [Bz (AJ (by omega)), Bz (AJ (by omega)), Bz (AJ (by omega)), Bz ⟨by decide, AJ (by omega)⟩, Bz (AJ (by omega)), aa, Ap]
  exact XL h hw S 0 rfl (Nat.zero_le _)
theorem KQ {β : Type} (f : Nat → β) {n i : Nat} (d : β) (h : i < n) : (DR f n).getD i d = f i := by
  rw [List.getD_eq_getElem?_getD, Jf f h]; rfl
theorem Yq (h : Q4 n wide q S H) (hS : 1 ≤ S.length) (hH : 1 ≤ H.length) {hour : Int} (hh : 0 ≤ hour ∧ hour < 256) : GO (DR (fun i => DR (Rh wide q S i) S.length) S.length) (DR (fun i => CJ (S6 wide q S H w v i) H.length) S.length) (H.length : Int) 0 [(DR Int.ofNat H.length, 1 + Int.tmod hour 3, 20 + Int.tdiv hour 2)] := by
  have hr := Qy hh
  have h5 := h.h5
  have s5 := h.s5
  have hq : ∀ x, x ∈ DR Int.ofNat H.length ↔ 0 ≤ x ∧ x < (H.length : Int) := fun x => by
    unfold DR
    rw [List.mem_map]
    constructor
    · rintro ⟨i, i1, rfl⟩; have := List.mem_range.1 i1; show (0 : Int) ≤ (i : Int) ∧ (i : Int) < _; omega
    · intro e; exact ⟨x.toNat, List.mem_range.2 (by omega), by show ((x.toNat : Nat) : Int) = x; omega⟩
  exact {
    Mw := by rw [DJ]; omega
    hw := by rw [DJ, DJ]
    hH := by omega
    HY := by rw [DJ]; omega
    row := fun i hi => by
      rw [DJ] at hi
      rw [KQ _ _ hi, DJ, DJ]
      exact ⟨rfl, fun j hj => by rw [KQ _ _ hj]; exact aQ h hi hj⟩
    bD := fun l hl => by
      unfold DR at hl
      obtain ⟨i, _, rfl⟩ := List.mem_map.1 hl
      exact ⟨(PT _ _).imp fun aa => by omega, fun x hx => (K4.1 hx).1⟩
    hn := by simp
    note := fun x hx => by
      rw [List.mem_singleton.1 hx]
      refine ⟨⟨by rw [DJ]; exact hH, ?_, fun y hy => (hq y).1 hy⟩, ⟨hr.1.1, by show 1 + Int.tmod hour 3 ≤ 5; omega⟩, by show 0 ≤ 20 + Int.tdiv hour 2 ∧ 20 + Int.tdiv hour 2 ≤ 200; omega⟩
      unfold DR
      exact List.Pairwise.map _ (fun a b aa e => aa (Int.ofNat.inj e)) List.nodup_range
    bN := by show (DR Int.ofNat H.length).length + 0 ≤ 9; rw [DJ]; omega }
theorem Pq {x : Int} : x ∈ DR Int.ofNat H.length ↔ 0 ≤ x ∧ x < (H.length : Int) := by
  unfold DR
  rw [List.mem_map]
  constructor
  · rintro ⟨i, i1, rfl⟩; have := List.mem_range.1 i1; show (0 : Int) ≤ (i : Int) ∧ (i : Int) < _; omega
  · intro e; exact ⟨x.toNat, List.mem_range.2 (by omega), by show ((x.toNat : Nat) : Int) = x; omega⟩
end
end Go.Proofs.YtfmapnhfamoecaaGreat.Rd
namespace Go.Proofs.YtfmapnhfamoecaaGreat.Rd
open Go.PL Go.Hear
section
variable {n : Nat} {wide : Int} {q S H : List Int} {w v : Int}
def X6 (wide : Int) (q S : List Int) : List (List Int) := DR (fun i => DR (Rh wide q S i) S.length) S.length
def Wf (wide : Int) (q S H : List Int) (w v : Int) : List (List Int) := DR (fun i => CJ (S6 wide q S H w v i) H.length) S.length
def YI (H : List Int) (hour : Int) : List (List Int × Int × Int) := [(DR Int.ofNat H.length, 1 + Int.tmod hour 3, 20 + Int.tdiv hour 2)]
theorem JF : (Wf wide q S H w v).length = S.length := DJ ..
theorem NK {i : Nat} (hi : i < S.length) {y : Int} : y ∈ (Wf wide q S H w v).getD i [] ↔ (0 ≤ y ∧ y < (H.length : Int)) ∧ S6 wide q S H w v i y.toNat = true := by
  unfold Wf
  rw [KQ _ _ hi, K4]
theorem aX {i k : Nat} (hi : i < S.length) (hk : k < S.length) : E0 (X6 wide q S) i k = Rh wide q S i k := by
  unfold E0 X6
  rw [DJ, if_pos ⟨hi, hk⟩, KQ _ _ hi, KQ _ _ hk]
theorem UH (h : IJ n q S H) (_hn : n ≤ 30) {y : Int} (hy : 0 ≤ y ∧ y < (H.length : Int)) : (∃ i, i < (Wf wide q S H w v).length ∧ y ∈ (Wf wide q S H w v).getD i []) ↔ ZW wide q w v (H.getD y.toNat 0) ≠ [] := by
  have hl := h.len
  rw [JF]
  constructor
  · rintro ⟨i, h1, h2⟩ he
    rw [NK h1] at h2
    have Mw := h.Kh h1
    have : S.getD i 0 ∈ ZW wide q w v (H.getD y.toNat 0) := O6.2 ⟨by omega, h2.2⟩
    rw [he] at this; exact nomatch this
  · intro he
    obtain ⟨s, Mw⟩ := List.exists_mem_of_ne_nil _ he
    obtain ⟨h1, h2⟩ := O6.1 Mw
    have hm : s ∈ S := by
      rw [h.st, LY]
      exact ⟨by omega, VL h2⟩
    obtain ⟨i, i1, i2⟩ := List.getElem_of_mem hm
    have e : S.getD i 0 = s := by rw [List.getD_eq_getElem?_getD, List.getElem?_eq_getElem i1, Option.getD_some, i2]
    exact ⟨i, i1, (NK i1).2 ⟨hy, by unfold S6; rw [e]; exact h2⟩⟩
theorem ZS (h : Q4 n wide q S H) (hw : okW w) {hour : Int} (hh : 0 ≤ hour ∧ hour < 256) : CU wide q w v H hour S = some (X6 wide q S, Wf wide q S H w v, (H.length : Int), 0, YI H hour, true) := Xo h hw hh
theorem okB (h : Q4 n wide q S H) (hS : 1 ≤ S.length) (hH : 1 ≤ H.length) {hour : Int} (hh : 0 ≤ hour ∧ hour < 256) : GO (X6 wide q S) (Wf wide q S H w v) (H.length : Int) 0 (YI H hour) := Yq h hS hH hh
theorem V1 {v' : Int} (hv : v ≤ v') {s p : Nat} (h : OC wide q w v s p = true) : OC wide q w v' s p = true := by
  unfold OC at h ⊢
  simp only [Bool.and_eq_true, decide_eq_true_eq] at h ⊢
  exact ⟨h.1, h.2.1, h.2.2.1, by omega⟩
theorem Yo {k : Nat} (ho : FF wide q w = 0) (ab : FF wide (q.set k 2) w = 0) {s p : Nat} (hs : s < q.length) (hp : p < q.length) (h : OC wide (q.set k 2) w v s p = true) : OC wide q w v s p = true := by
  unfold OC at h ⊢
  simp only [Bool.and_eq_true, decide_eq_true_eq] at h ⊢
  have hg : ∀ (j : Nat) (c : Int), c ≠ 2 → (q.set k 2).getD j 0 = c → q.getD j 0 = c := fun j c hc e => by
    by_cases hk : k < q.length
    · rw [Il hk] at e
      by_cases aa : k = j
      · rw [if_pos aa] at e; exact absurd e.symm hc
      · rw [if_neg aa] at e; exact e
    · rw [List.set_eq_of_length_le (by omega)] at e; exact e
  have := U8 ho ab (s := (s : Int)) (p := (p : Int)) (by omega) (by omega) (by rw [Int.toNat_natCast]; omega)
  rw [Int.toNat_natCast] at this
  have hT := (Pt ho (stand := (s : Int)) (by omega)).sound (p : Int) (by omega) (by omega)
  have ad : Ge (tb wide q w (s : Int)) (p : Int) = (tb wide q w (s : Int)).getD p 0 := by unfold Ge; rw [Int.toNat_natCast]
  rw [ad] at hT
  exact ⟨hg _ _ (by decide) h.1, hg _ _ (by decide) h.2.1, by omega, by omega⟩
theorem YG (h : IJ n q S H) (hc : Go.Hear.LL wide q = 0) (hn : n ≤ 30) {x : Nat} (hx : x < S.length) {i j : Nat} (hi : i < S.length) (hj : j < S.length) (h0 : Rh wide (q.set (S.getD x 0).toNat 2) S i j ≠ -1) : Rh wide q S i j ≠ -1 ∧ Rh wide q S i j ≤ Rh wide (q.set (S.getD x 0).toNat 2) S i j := by
  have hl := h.len
  have hT := h.Zn hc hn
  have aa := h.XC hc hn hx
  have ad := h.Kh hi
  have ab := h.Kh hj
  have af := h.Kh hx
  unfold Rh at h0 ⊢
  by_cases e : S.getD i 0 = S.getD j 0
  · rw [if_pos e, if_pos e]; omega
  · rw [if_neg e] at h0 ⊢
    rw [if_neg e]
    by_cases c : (HP wide (q.set (S.getD x 0).toNat 2) 0 (S.getD i 0) (S.getD j 0) ≠ 0 ∨ 20 < Hw wide (q.set (S.getD x 0).toNat 2) 0 (S.getD i 0) (S.getD j 0)) ∨ (q.set (S.getD x 0).toNat 2).getD (S.getD j 0).toNat 0 ≠ 0
    · rw [if_pos c] at h0; exact absurd rfl h0
    · rw [if_neg c]
      have c1 : HP wide (q.set (S.getD x 0).toNat 2) 0 (S.getD i 0) (S.getD j 0) = 0 := Classical.byContradiction fun e => c (.inl (.inl e))
      have c2 : ¬ 20 < Hw wide (q.set (S.getD x 0).toNat 2) 0 (S.getD i 0) (S.getD j 0) := fun e => c (.inl (.inr e))
      have ah := N4 aa hi hj e c1
      have ho : FF wide q 0 = 0 := IC hc ⟨by omega, by omega⟩
      have ae : FF wide (q.set (S.getD x 0).toNat 2) 0 = 0 := IC aa.ck ⟨by omega, by omega⟩
      have HY : HN wide q 0 (S.getD i 0) = 0 := by
        unfold HN
        rw [if_neg (not_not_intro ho)]
        exact R1 ⟨by omega, ad.2⟩
      have ai : Hw wide (q.set (S.getD x 0).toNat 2) 0 (S.getD i 0) (S.getD j 0) = (tb wide (q.set (S.getD x 0).toNat 2) 0 (S.getD i 0)).getD (S.getD j 0).toNat 0 := by unfold Hw; rw [if_pos c1]
      have hw := U8 ho ae (k := (S.getD x 0).toNat) (s := S.getD i 0) (p := S.getD j 0) (by omega) (by omega) (by omega)
      have hE : HP wide q 0 (S.getD i 0) (S.getD j 0) = 0 := by
        unfold HP
        rw [if_neg (not_not_intro HY), if_neg (not_not_intro ⟨ab.1.1, by omega⟩), if_neg hw.1]
      have hV : Hw wide q 0 (S.getD i 0) (S.getD j 0) = (tb wide q 0 (S.getD i 0)).getD (S.getD j 0).toNat 0 := by unfold Hw; rw [if_pos hE]
      have hp := N4 hT hi hj e hE
      have c3 : ¬ ((HP wide q 0 (S.getD i 0) (S.getD j 0) ≠ 0 ∨ 20 < Hw wide q 0 (S.getD i 0) (S.getD j 0)) ∨ q.getD (S.getD j 0).toNat 0 ≠ 0) := by
        rintro ((e1 | e1) | e1)
        · exact e1 hE
        · omega
        · exact e1 ab.2
      rw [if_neg c3]
      omega
theorem Tr : ∀ (tl : List (Int × Int)) (m : List (Int × Bool)), ∃ m', Dt tl m = some m' ∧ (∀ k, A7 m k = some true → A7 m' k = some true) ∧ ∀ x ∈ tl, A7 m' x.1 = some true
  | [], m => ⟨m, rfl, fun _ h => h, fun _ h => (nomatch h)⟩
  | x :: tl, m => by
    obtain ⟨m', h1, h2, h3⟩ := Tr tl (HQ m x.1 true)
    unfold Dt
    rw [Lv]
    refine ⟨m', h1, fun k hk => h2 k ?_, fun z hz => ?_⟩
    · rw [Ih]; split
      · rfl
      · exact hk
    · rcases List.mem_cons.1 hz with rfl | hz
      · exact h2 _ (by rw [Ih, if_pos rfl])
      · exact h3 z hz
theorem Ts {ws hs : List (List Int)} {A st : Int} {ns : List (List Int × Int × Int)} (h : GO ws hs A st ns) : Dx ws hs A st ns = some ([], 0, 6) ∨ ∃ l t, Dx ws hs A st ns = some (l, t, 0) := by
  obtain ⟨c, ps, hit, e, hc⟩ := K0 h
  rcases PM h e hc with ⟨b, _⟩ | ⟨l, t, b, _⟩
  · exact .inl b
  · exact .inr ⟨l, t, b⟩
theorem WC (h : IJ n q S H) (hc : Go.Hear.LL wide q = 0) (hn : n ≤ 30) (hw : okW w) (hv : 1 ≤ v ∧ v ≤ 40) (hS : 1 ≤ S.length) (hH : 1 ≤ H.length) {hour aa ab : Int} (hh : 0 ≤ hour ∧ hour < 256) (al : 0 ≤ aa ∧ aa < 256) (ao : 0 ≤ ab ∧ ab < 256) {l : List (Int × Int)} {m e : Int} (hb : Dx (X6 wide q S) (Wf wide q S H w v) (H.length : Int) 0 (YI H hour) = some (l, m, e)) : Ea hour aa ab wide w v q S H m e = some true := by
  have hl := h.len
  have ax := h.s5
  have hT := h.Zn hc hn
  have hB := okB (w := w) (v := v) hT hS hH hh
  have ay : 0 ≤ Int.tmod aa 9 ∧ Int.tmod aa 9 ≤ 8 := by rw [Int.tmod_eq_emod_of_nonneg al.1]; omega
  unfold Ea
  rw [Bz (AJ (by omega)), Bz (AJ (by omega))]
  generalize aq : (if v + Int.tmod aa 9 < 40 then v + Int.tmod aa 9 else 40) = v2
  have ar : v ≤ v2 := by rw [← aq]; split <;> omega
  have ai := okB (w := w) (v := v2) hT hS hH hh
  rw [ZS hT hw hh, Si]
  have ad : e = 0 → ∃ l' m', Dx (X6 wide q S) (Wf wide q S H w v2) (H.length : Int) 0 (YI H hour) = some (l', m', 0) ∧ m' ≤ m := fun he => by
    subst he
    refine RH ai hB (by rw [JF, JF]) (fun i k _ _ h0 => ⟨h0, Int.le_refl _⟩) (fun s hs y hy => ?_) hb
    rw [JF] at hs
    rw [NK hs] at hy ⊢
    exact ⟨hy.1, V1 ar hy.2⟩
  have ae : ∃ l' m' e', Dx (X6 wide q S) (Wf wide q S H w v2) (H.length : Int) 0 (YI H hour) = some (l', m', e') ∧ ((e' = 6 ∧ e ≠ 0) ∨ (e' = 0 ∧ (e = 0 → m' ≤ m))) := by
    rcases Ts ai with b | ⟨l', m', b⟩
    · refine ⟨_, _, _, b, .inl ⟨rfl, fun he => ?_⟩⟩
      obtain ⟨l', m', b', _⟩ := ad he
      rw [b] at b'; cases b'
    · refine ⟨_, _, _, b, .inr ⟨rfl, fun he => ?_⟩⟩
      obtain ⟨az, ba, b', h2⟩ := ad he
      rw [b] at b'
      obtain ⟨_, h3⟩ := Prod.mk.inj (Option.some.inj b')
      obtain ⟨rfl, _⟩ := Prod.mk.inj h3
      exact h2
  obtain ⟨l', m', e', b, au⟩ := ae
  rw [b, En]
  have av : (b1 (if (!true) = true then (some true) else (if e' ≠ 0 then (if e' ≠ 6 then (some true) else (if e = 0 then (some true) else (some false))) else (if e = 0 then (some (decide (m < m'))) else (some false)))) fun k9 : Bool => some k9) = some false := by
    rcases au with ⟨rfl, he⟩ | ⟨rfl, he⟩
    · rw [if_neg (by decide), if_pos (by decide), if_neg (by decide), if_neg he, Ap]
    · rw [if_neg (by decide), if_neg (by decide)]
      by_cases c : e = 0
      · rw [if_pos c, Ap, decide_eq_false (by have := he c; omega)]
      · rw [if_neg c, Ap]
  obtain ⟨k9, e1, e2⟩ := AI av
  rw [e1, Ap, Option.some.inj e2, if_neg (by decide)]
  by_cases aj : (S.length : Int) = 1
  · rw [if_pos aj, MO, Ap]
  · rw [if_neg aj, Bz (AJ (by omega)), Bz (AJ (by omega)), Bz (by omega)]
    have bb : 0 ≤ Int.tmod ab ((S.length : Int) - 1) ∧ Int.tmod ab ((S.length : Int) - 1) < (S.length : Int) - 1 := by
      rw [Int.tmod_eq_emod_of_nonneg ao.1]
      exact ⟨Int.emod_nonneg _ (by omega), Int.emod_lt_of_pos _ (by omega)⟩
    generalize hx : 1 + Int.tmod ab ((S.length : Int) - 1) = x
    have bc : 1 ≤ x ∧ x < (S.length : Int) := by omega
    have af : x.toNat < S.length := by omega
    have aw := h.Kh af
    have ah := h.XC hc hn af
    have ak := okB (w := w) (v := v) ah hS hH hh
    rw [Bz (AJ (by omega)), Zm 0 _ (by omega) (by omega), VQ (by omega)]
    unfold ZB
    rw [if_neg (not_not_intro hc), if_neg (not_not_intro (R1 ⟨by omega, aw.2⟩)), En, if_neg (by decide), Ap, if_neg (by rw [List.length_set]; simp), ZS ah hw hh, Si]
    rcases Ts ak with b' | ⟨l2, m2, b'⟩
    · rw [b', En, if_pos rfl, if_neg (by decide), if_pos rfl, if_pos (by decide), MO, Ap]
    · obtain ⟨l3, m3, b3, h3⟩ := RH hB ak (by rw [JF, JF]) (fun i k hi hk h0 => by
        rw [JF] at hi hk
        rw [aX hi hk] at h0 ⊢
        rw [aX hi hk]
        exact YG h hc hn af hi hk h0) (fun s hs y hy => by
        rw [JF] at hs
        rw [NK hs] at hy ⊢
        have h1 := h.Kh hs
        have h2 := h.Dr (show y.toNat < H.length by omega)
        exact ⟨hy.1, Yo (IC hc hw) (IC ah.ck hw) (by omega) (by omega) hy.2⟩) b'
      rw [hb] at b3
      obtain ⟨_, h4⟩ := Prod.mk.inj (Option.some.inj b3)
      obtain ⟨rfl, rfl⟩ := Prod.mk.inj h4
      rw [b', En, if_pos rfl, if_pos rfl, if_neg (by decide), if_pos rfl, if_pos h3, MO, Ap]
theorem SG {hour aa ab : Int} {ws hs : List (List Int)} {A : Int} {lo l6 : List (Int × Int)} {m e : Int} {D : List Int} {Q : List Int} {wd hr : Int} (ad : D4 hour aa ab wide w v q S H l6 m e = some true) : ∀ (tl : List Int) (k : Nat), H.drop k = tl →
    (∀ j, j < H.length → ∃ u, (u = -1 ∨ 0 ≤ u) ∧ FN ws hs A 0 [(Q, wd, hr)] 0 (j : Int) = some (if u = -1 then (0, 6) else (u, 0)) ∧ (((0 : Int), (j : Int)) ∈ lo ↔ ¬ (0 ≤ u ∧ u ≤ hr)) ∧ (H.getD j 0 ∈ D → u = -1)) → C4 hour aa ab wide w v q S H ws hs A 0 [(Q, wd, hr)] lo l6 m e D tl (k : Int) = some true
  | [], _, _, _ => ad
  | x :: tl, k, hd, hj => by
    obtain ⟨hk, hx, af⟩ := drop_cons (0 : Int) hd
    obtain ⟨u, u0, u1, u2, u3⟩ := hj k hk
    have ih := SG ad tl (k + 1) af hj
    rw [hx] at u3
    unfold C4
    rw [u1, B2]
    by_cases c : u = -1
    · rw [if_pos c, NL, Ap, if_pos (by decide), decide_eq_true (u2.2 (by omega)), if_neg (by decide), contains_eq, Ap]
      by_cases cd : x ∈ D
      · rw [if_pos (decide_eq_true cd), Ap, if_neg (by decide)]; exact ih
      · rw [if_neg (by simp only [decide_eq_true_eq]; exact cd), Ap, if_neg (by decide)]; exact ih
    · rw [if_neg c, NL, Ap, if_neg (fun h0 => h0 rfl)]
      have ah : ¬ x ∈ D := fun hd => c (u3 hd)
      have ae : decide (((0 : Int), (k : Int)) ∈ lo) = decide (hr < u) := by
        rw [decide_eq_decide, u2]
        omega
      rw [Zm ([], 0, 0) _ (by omega) (by simp), ae]
      show b1 (if decide (hr < u) ≠ decide (hr < u) then _ else _) _ = _
      rw [if_neg (fun GK => GK rfl), contains_eq, Ap, if_neg (by simp only [decide_eq_true_eq]; exact ah), Ap, if_neg (by decide)]
      exact ih
theorem XM (h : IJ n q S H) (hc : Go.Hear.LL wide q = 0) (hn : n ≤ 30) (hw : okW w) (hv : 1 ≤ v ∧ v ≤ 40) (hH : 1 ≤ H.length) {hour aa ab : Int} (hh : 0 ≤ hour ∧ hour < 256) (af : 0 ≤ aa ∧ aa < 256) (ah : 0 ≤ ab ∧ ab < 256) :
    (b6 (CU wide q w v H hour S) fun l2 l3 n4 n5 l4 ao => b2 (I1 l2 l3 n4 n5 l4) fun l5 n6 => b3 (Dx l2 l3 n4 n5 l4) fun l6 n7 n8 => b2 (I5 wide q w v) fun l7 n9 => b1 (if (!ao) = true then (some true) else (if n6 ≠ 0 then (some true) else (if n8 ≠ 0 then (if n8 ≠ 6 then (some true) else (some (decide (n9 ≠ 0)))) else (some (decide (n9 ≠ 0)))))) fun k4 => if k4 = true then (some false) else (C4 hour aa ab wide w v q S H l2 l3 n4 n5 l4 l5 l6 n7 n8 l7 H 0)) = some true := by
  have hl := h.len
  have av := h.s5
  have hS : 1 ≤ S.length := by
    obtain ⟨s, s1, s2⟩ := h.one
    have : (s : Int) ∈ S := by rw [h.st, LY, Int.toNat_natCast]; exact ⟨by omega, s2⟩
    exact List.length_pos_of_mem this
  have hT := h.Zn hc hn
  have hB := okB (w := w) (v := v) hT hS hH hh
  have aw := Qy hh
  obtain ⟨c, ps, hit, e, hC⟩ := K0 hB
  have hN : (YI H hour).length = 1 := rfl
  have ai : ∀ y, ((0 : Int), y) ∈ ps ↔ 0 ≤ y ∧ y < (H.length : Int) := fun y => by
    rw [hC.ZU.mem]
    exact ⟨fun e => Pq.1 e.2, fun e => ⟨⟨Int.le_refl _, by show (0 : Int) < 1; omega⟩, Pq.2 e⟩⟩
  have aj : ∀ {p : Nat} {x : Int × Int} (p1 : p < ps.length), ps[p] = x → ps.getD p (0, 0) = x := fun p1 p2 => by rw [List.getD_eq_getElem?_getD, List.getElem?_eq_getElem p1, Option.getD_some, p2]
  rw [ZS hT hw hh, Si, Yz hB e hC, B2]
  have hj : ∀ j, j < H.length → ∃ u, (u = -1 ∨ 0 ≤ u) ∧ FN (X6 wide q S) (Wf wide q S H w v) (H.length : Int) 0 (YI H hour) 0 (j : Int) = some (if u = -1 then (0, 6) else (u, 0)) ∧ (((0 : Int), (j : Int)) ∈ ps.filter (YW (X6 wide q S) (Wf wide q S H w v) (H.length : Int) 0 (YI H hour) c ps hit) ↔ ¬ (0 ≤ u ∧ u ≤ 20 + Int.tdiv hour 2)) ∧ (H.getD j 0 ∈ CJ (Nc wide q w v) q.length → u = -1) := fun j hj => by
    have hm := (ai (j : Int)).2 ⟨by omega, by omega⟩
    obtain ⟨p, p1, p2⟩ := List.getElem_of_mem hm
    obtain ⟨u, u1, u2⟩ := US hB e hC p1
    rw [aj p1 p2] at u1 u2
    obtain ⟨u', k1, k2⟩ := Qo hB hC (q := ((0 : Int), (j : Int))) (by show (0 : Int) ≤ 0 ∧ (0 : Int) < 1; omega)
    have := G3.unique u1 k2
    subst this
    have ad : u = -1 ∨ 0 ≤ u := by
      rcases u1 with ⟨e1, _⟩ | ⟨_, e1, _⟩
      · exact .inl e1
      · exact .inr e1
    refine ⟨u, ad, u2, ?_, fun hd => ?_⟩
    · rw [List.mem_filter]
      have aq : YW (X6 wide q S) (Wf wide q S H w v) (H.length : Int) 0 (YI H hour) c ps hit ((0 : Int), (j : Int)) = true ↔ ¬ (0 ≤ u ∧ u ≤ 20 + Int.tdiv hour 2) := by
        unfold YW
        rw [k1]
        show (!decide (0 ≤ u ∧ u ≤ 20 + Int.tdiv hour 2)) = true ↔ _
        rw [Bool.not_eq_true', decide_eq_false_iff_not]
      rw [aq]
      exact ⟨fun e => e.2, fun e => ⟨hm, e⟩⟩
    · rw [K4] at hd
      have ae := hd.2
      unfold Nc at ae
      rw [Bool.and_eq_true, decide_eq_true_iff, decide_eq_true_iff] at ae
      rcases u1 with ⟨e1, _⟩ | ⟨⟨s, _, s2, _, s4, _⟩, _⟩
      · exact e1
      · have := (UH (wide := wide) (w := w) (v := v) h hn (y := (j : Int)) ⟨by omega, by omega⟩).1 ⟨s, s2, s4⟩
        rw [Int.toNat_natCast] at this
        exact absurd ae.2 this
  have ak : I5 wide q w v = some (CJ (Nc wide q w v) q.length, 0) := by
    rw [YQ (by omega), Vy hc hw hv, if_pos rfl]
  rcases PM hB e hC with ⟨b, _⟩ | ⟨l, m, b, b2, _⟩
  · rw [b, En, ak, B2, if_neg (by decide), if_neg (by decide), if_pos (by decide), if_neg (by decide), Ap, if_neg (by decide)]
    refine SG ?_ H 0 rfl hj
    unfold D4
    rw [if_neg (by decide)]
    exact WC h hc hn hw hv hS hH hh af ah b
  · rw [b, En, ak, B2, if_neg (by decide), if_neg (by decide), if_neg (by decide), Ap, if_neg (by decide)]
    refine SG ?_ H 0 rfl hj
    have ar := WC h hc hn hw hv hS hH hh af ah b
    obtain ⟨es, g1, g2, g3, _⟩ := b2.can
    -- each house is served
    have al : ∀ j, j < H.length → ∃ z ∈ l, 0 ≤ z.1 ∧ z.1 < (S.length : Int) ∧ OC wide q w v (S.getD z.1.toNat 0).toNat (H.getD j 0).toNat = true := fun j hj => by
      obtain ⟨p, p1, p2⟩ := List.getElem_of_mem ((ai (j : Int)).2 ⟨by omega, by omega⟩)
      obtain ⟨z, z1, z2⟩ := S0 (Mo.1 g3 p (by rw [Nat.testBit_two_pow_sub_one, decide_eq_true_iff]; exact p1))
      obtain ⟨z3, z4⟩ := g1 z z1
      rw [WB hB hC p1 (by omega) (by omega), aj p1 p2] at z2
      rw [JF] at z3
      rw [NK (by omega)] at z2
      have := z2.2.2
      unfold S6 at this
      rw [Int.toNat_natCast] at this
      exact ⟨z, z1, z3.1, z3.2, this⟩
    have au : Hs wide q w v H := ⟨hc, hw, hv, fun x hx => by
      obtain ⟨i, i1, i2⟩ := List.getElem_of_mem hx
      have e : H.getD i 0 = x := by rw [List.getD_eq_getElem?_getD, List.getElem?_eq_getElem i1, Option.getD_some, i2]
      have := h.Dr i1
      rw [e] at this
      exact ⟨by omega, this.2⟩, h.sorted.imp fun ax => by omega⟩
    unfold D4
    rw [if_pos rfl]
    obtain ⟨mm, m1, _, m3⟩ := Tr l []
    rcases Z1 au with ⟨⟨x, x1, x2⟩, _⟩ | ⟨_, L, f1, f2⟩
    · exfalso
      obtain ⟨i, i1, i2⟩ := List.getElem_of_mem x1
      have e : H.getD i 0 = x := by rw [List.getD_eq_getElem?_getD, List.getElem?_eq_getElem i1, Option.getD_some, i2]
      obtain ⟨z, _, z2, z3, z4⟩ := al i i1
      have Mw := h.Kh (show z.1.toNat < S.length by omega)
      have : S.getD z.1.toNat 0 ∈ ZW wide q w v x := O6.2 ⟨by omega, by rw [← e]; exact z4⟩
      rw [x2] at this; exact nomatch this
    · have hle : L.length ≤ mm.length := (YK f2).2 ⟨mm.map (fun x => (S.getD x.1.toNat 0).toNat), by simp, fun x hx => by
        obtain ⟨i, i1, i2⟩ := List.getElem_of_mem hx
        have e : H.getD i 0 = x := by rw [List.getD_eq_getElem?_getD, List.getElem?_eq_getElem i1, Option.getD_some, i2]
        obtain ⟨z, z1, z2, z3, z4⟩ := al i i1
        have Mw := h.Kh (show z.1.toNat < S.length by omega)
        exact ⟨_, List.mem_map.2 ⟨_, X4 (m3 z z1), rfl⟩, by show (S.getD z.1.toNat 0).toNat < 30; omega, (VT (by omega) (by show (S.getD z.1.toNat 0).toNat < 30; omega)).2 ⟨by show (S.getD z.1.toNat 0).toNat < q.length; omega, by rw [← e]; exact z4⟩⟩⟩
      rw [f1, B2, m1, Ap, if_neg (by decide), decide_eq_false (by rw [List.length_map]; omega), Ap, if_neg (by decide)]
      exact ar
theorem WE {numbers : List Int} (hm : (numbers.length : Int) ≤ 9223372036854775807) {hour aa ab : Int} (hh : 0 ≤ hour ∧ hour < 256) (ad : 0 ≤ aa ∧ aa < 256) (ae : 0 ≤ ab ∧ ab < 256) : FK numbers hour aa ab = some true := by
  unfold FK JE
  obtain ⟨wide, ps, a1, t1, e1, hc, hl, hs, ha⟩ := YtfmapnhfamoecaaGreat.YC (metal := numbers) (a := 0) (t := 0) (plots := 12) ⟨by omega, by omega⟩ hm (by omega)
  obtain ⟨w, v, a2, t2, e2, hw, hv, _⟩ := YtfmapnhfamoecaaGreat.XF (t := t1) ha hm
  have af : ps.all Vv = true := by
    unfold Go.Hear.LL at hc
    split at hc
    · exact absurd hc (by decide)
    · split at hc
      · exact absurd hc (by decide)
      · rename_i h; exact Classical.not_not.1 h
  obtain ⟨q, S, H, e3, h⟩ := RT (n := ps.length) (by omega) ps.length 0 ps (by omega) rfl af (Nat.zero_le _) (Nat.zero_le _) hs
  have ah : Bl (Int.toNat ((ps.length : Int) - 0)) 0 ps [] [] = some (q, S, H) := by
    rw [show Int.toNat ((ps.length : Int) - 0) = ps.length by omega]; exact e3
  rw [En, e1, VE, e2, VE, Bz ⟨AJ (by omega), AJ (by omega)⟩, ah, En]
  by_cases hH : H.length = 0
  · rw [if_pos (by omega), MO, Ap]
  · rw [if_neg (by omega)]
    exact XM h (h.LL hc rfl) (by omega) hw ⟨hv.1, by omega⟩ (by omega) hh ad ae
end
end Go.Proofs.YtfmapnhfamoecaaGreat.Rd
