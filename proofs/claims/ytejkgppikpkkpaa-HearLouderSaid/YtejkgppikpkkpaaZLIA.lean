/- Layer 1: stands that are tried against the best ones; HearLouder; in plain Lean. -/
import Derived.Test.YtejkgppikpkkpaaZLHY
namespace Go.Proofs.Ytejkgppikpkkpaa
open Go.PL Go.Hear
section
variable {metal : List Int} {wide : Int} {ps : List Int}
theorem some_l1 {l : List Int} {a t : Int} : ∀ (I acc : List Int), (∀ i ∈ I, 0 ≤ i ∧ i < l.length) → acc.length + I.length ≤ 100000 → oyezlaw01_some_l1 l a t I acc = some (acc ++ I.map (fun i => l.getD i.toNat 0), a, t)
  | [], acc, _, _ => by simp [oyezlaw01_some_l1]
  | x :: I, acc, h, hl => by
    rw [List.length_cons] at hl
    have hx := h x (List.mem_cons_self ..)
    unfold oyezlaw01_some_l1
    rw [ix_get _ hx.1 hx.2, ap_t (by simp; omega), some_l1 I _ (fun i hi => h i (List.mem_cons_of_mem _ hi)) (by simp; omega)]
    simp
theorem kindL_len {kind : Int} (ps : List Int) : (kindL kind ps 0).length ≤ ps.length := by
  have := (kindL_nodup (kind := kind) ps 0).length_le_of_subset (l₂ := (List.range ps.length).map Int.ofNat) fun y hy => by
    have := kind0.1 hy
    exact List.mem_map.2 ⟨y.toNat, List.mem_range.2 (by omega), by simp only [Int.ofNat_eq_natCast]; omega⟩
  rwa [List.length_map, List.length_range] at this
theorem some_ok (hm : (metal.length : Int) ≤ 9223372036854775807) {a t : Int} (ha : 0 ≤ a ∧ a ≤ metal.length) (hn : ps.length ≤ 30) {most : Nat} (hmo : most ≤ 12) : ∃ out a' t', oyezlaw01_some metal a t wide ps (most : Int) = some (out, a', t') ∧ out.Pairwise (· ≤ ·) ∧ out.Nodup ∧ (∀ x ∈ out, x ∈ kindL 0 ps 0) ∧ out.length ≤ most ∧ (0 ≤ a' ∧ a' ≤ metal.length) := by
  have hkl := kindL_len (kind := 0) ps
  obtain ⟨I, a1, t1, r1, ⟨r2, r3, r4⟩, r5⟩ := rung_ok hm (a := a) (t := t) ha (n := (kindL 0 ps 0).length) (by omega)
  have hmin : (if ((kindL 0 ps 0).length : Int) < (most : Int) then ((kindL 0 ps 0).length : Int) else (most : Int)) = ((min (kindL 0 ps 0).length most : Nat) : Int) := by
    split <;> omega
  obtain ⟨n, a2, t2, s1, s2, s3, s4⟩ := stroke_ok (t := t1) (n := ((min (kindL 0 ps 0).length most : Nat) : Int)) r5 hm (by omega)
  obtain ⟨n, rfl⟩ := Int.eq_ofNat_of_zero_le s2
  have hn' : n ≤ (kindL 0 ps 0).length ∧ n ≤ most := by omega
  have hI : ∀ i ∈ I.take n, 0 ≤ i ∧ i < ((kindL 0 ps 0).length : Int) := fun i hi => r4 i (List.mem_of_mem_take hi)
  have hlen : (I.take n).length = n := by rw [List.length_take]; omega
  have hinj : ((I.take n).map fun i => (kindL 0 ps 0).getD i.toNat 0).Nodup := by
    rw [List.Nodup, List.pairwise_map]
    refine List.Pairwise.imp_of_mem (fun {x y} hx hy hxy he => ?_) (r3.sublist (List.take_sublist ..))
    have gx := hI x hx
    have gy := hI y hy
    rw [List.getD_eq_getElem?_getD, List.getElem?_eq_getElem (by omega), List.getD_eq_getElem?_getD, List.getElem?_eq_getElem (by omega)] at he
    have hp := List.pairwise_iff_getElem.1 (kindL_nodup (kind := 0) ps 0)
    rcases Nat.lt_trichotomy x.toNat y.toNat with h | h | h
    · exact hp _ _ (by omega) (by omega) h he
    · omega
    · exact hp _ _ (by omega) (by omega) h he.symm
  obtain ⟨R, q1, q2, q3⟩ := sort_eq (s := (I.take n).map fun i => (kindL 0 ps 0).getD i.toNat 0) (by rw [List.length_map]; omega)
  refine ⟨R, a2, t2, ?_, q3, q2.nodup_iff.2 hinj, fun x hx => ?_, by rw [q2.length_eq, List.length_map]; omega, s4⟩
  · unfold oyezlaw01_some
    rw [streets_eq (by omega), b1_some, r1, b3_some, hmin, s1, b3_some, gd_t ⟨⟨Int.le_refl _, by omega⟩, by rw [r2]; omega⟩, bvE, take_sl, some_l1 _ [] hI (by simp; omega), b3_some, List.nil_append, q1, b1_some]
  · obtain ⟨i, hi, rfl⟩ := List.mem_map.1 (q2.subset hx)
    have := hI i hi
    rw [List.getD_eq_getElem?_getD, List.getElem?_eq_getElem (by omega)]
    exact List.getElem_mem _
end
section
variable {wide : Int} {ps : List Int} {w v : Int}
theorem stP_iff {s : Nat} : stP ps s = true ↔ s < ps.length ∧ ps.getD s 0 = 0 := by
  unfold stP
  rw [Bool.and_eq_true, decide_eq_true_iff, decide_eq_true_iff]
theorem col_no (hn : ps.length ≤ 30) (H : List Int) : ∀ s, stP ps s = false → colS (askR wide ps w v H) s = List.replicate (askR wide ps w v H).length false := fun s hs => by
  rw [colS_eq hn, askR_len]; exact hrS_no hs
theorem srv_cov {H : List Int} (hH : Hs wide ps w v H) {L : List Nat} (hL : ∀ s ∈ L, stP ps s = true) : srvN wide ps w v H (L.map Int.ofNat) = cntT (cov (colS (askR wide ps w v H)) (List.replicate (askR wide ps w v H).length false) L) := by
  have e0 : List.replicate (askR wide ps w v H).length false = H.map fun _ => false := by rw [askR_len, List.map_const']
  have e1 : colS (askR wide ps w v H) = fun s => H.map fun h => (rowH wide ps w v h).getD s false := by
    funext s
    unfold colS
    rw [askR_eq, List.map_map]; rfl
  rw [e0, e1, cov_map, cnt_map]
  unfold srvN
  apply List.countP_congr
  intro h hh
  have hr := (hH.is h hh).1
  have hn := hH.n30
  rw [Bool.false_or, List.any_eq_true, List.any_eq_true]
  constructor
  · rintro ⟨x, hx, hb⟩
    obtain ⟨s, hs, rfl⟩ := List.mem_map.1 hx
    rw [Bool.and_eq_true] at hb
    have := stP_iff.1 (hL s hs)
    exact ⟨s, hs, (rowH_true hn (by omega)).2 ⟨this.1, hb.2⟩⟩
  · rintro ⟨s, hs, hb⟩
    have := stP_iff.1 (hL s hs)
    have := (rowH_true hn (by omega)).1 hb
    refine ⟨(s : Int), List.mem_map.2 ⟨s, hs, rfl⟩, ?_⟩
    rw [Bool.and_eq_true, decide_eq_true_iff]
    exact ⟨⟨by omega, hr.1⟩, by rw [Int.toNat_natCast]; exact this.2⟩
/-- No list of so many stands serves more than the best one, be it longer than there are rows. -/
theorem best_most {R : List (List Bool)} {p : Nat → Bool} {L : List Nat} {n k : Nat} (h : IsBest (colS R) p (List.replicate R.length false) (min k R.length) L n) {L' : List Nat} (hi : Inc 0 L') (hs : ∀ s ∈ L', p s = true) (hl : L'.length ≤ k) : cntT (cov (colS R) (List.replicate R.length false) L') ≤ n := by
  have cnt : ∀ L, cntT (cov (colS R) (List.replicate R.length false) L) = R.countP fun r => L.any fun s => r.getD s false := fun L => by
    have e0 : List.replicate R.length false = R.map fun _ => false := by rw [List.map_const']
    have e1 : colS R = fun s => R.map fun r => r.getD s false := rfl
    rw [e0, e1, cov_map, cnt_map]
    simp only [Bool.false_or]
  obtain ⟨L2, i1, i2, i3, i4, i5⟩ := pick (R := R.filter fun r => L'.any fun s => r.getD s false) (C := L') (fun r hr => by
    rw [List.mem_filter, List.any_eq_true] at hr
    obtain ⟨_, s, h1, h2⟩ := hr
    exact ⟨s, h1, (hi.mem s h1).2, h2⟩)
  have hfl : (R.filter fun r => L'.any fun s => r.getD s false).length ≤ R.length := List.length_filter_le ..
  have h1 := h.max L2 i1 (fun s hs2 => hs s (i5 s hs2)) (by omega)
  refine Nat.le_trans ?_ h1
  rw [cnt, cnt]
  apply List.countP_mono_left
  intro r hr hc
  obtain ⟨s, s1, s2⟩ := i2 r (List.mem_filter.2 ⟨hr, hc⟩)
  rw [List.any_eq_true]
  exact ⟨s, s1, s2⟩
/-- A list that is tried. -/
structure Tried (ps : List Int) (k : Nat) (out : List Int) : Prop where
  le : out.Pairwise (· ≤ ·)
  nd : out.Nodup
  st : ∀ x ∈ out, x ∈ kindL 0 ps 0
  len : out.length ≤ k
theorem Tried.nat {k : Nat} {out : List Int} (h : Tried ps k out) (hn : ps.length ≤ 30) : Inc 0 (out.map Int.toNat) ∧ (∀ s ∈ out.map Int.toNat, stP ps s = true) ∧ (out.map Int.toNat).map Int.ofNat = out := by
  refine ⟨pair_inc h.le h.nd fun x hx => ?_, fun s hs => ?_, toNat_back fun x hx => ?_⟩
  · have := (kind0.1 (h.st x hx)).1; omega
  · obtain ⟨x, hx, rfl⟩ := List.mem_map.1 hs
    have := kind0.1 (h.st x hx)
    exact stP_iff.2 ⟨by omega, this.2⟩
  · exact (kind0.1 (h.st x hx)).1.1
theorem hr_mono {v' : Int} (hv : v ≤ v') {s p : Nat} (h : hrB wide ps w v s p = true) : hrB wide ps w v' s p = true := by
  unfold hrB at h ⊢
  rw [Bool.and_eq_true, Bool.and_eq_true, decide_eq_true_iff, decide_eq_true_iff, decide_eq_true_iff] at h ⊢
  exact ⟨h.1, h.2.1, h.2.2.1, by omega⟩
theorem row_mono (hn : ps.length ≤ 30) {v' : Int} (hv : v ≤ v') {h : Int} {s : Nat} (hs : s < 30) (hg : (rowH wide ps w v h).getD s false = true) : (rowH wide ps w v' h).getD s false = true := by
  rw [rowH_true hn hs] at hg ⊢
  exact ⟨hg.1, hr_mono hv hg.2⟩
theorem can_mono (hn : ps.length ≤ 30) {v' : Int} (hv : v ≤ v') {k : Nat} {H : List Int} (h : CanS (rowH wide ps w v) k H) : CanS (rowH wide ps w v') k H := by
  obtain ⟨C, c1, c2⟩ := h
  exact ⟨C, c1, fun x hx => by
    obtain ⟨s, s1, s2, s3⟩ := c2 x hx
    exact ⟨s, s1, s2, row_mono hn hv s2 s3⟩⟩
theorem lou_l7 {H : List Int} (hA : ∀ v', 1 ≤ v' ∧ v' ≤ 40 → Hs wide ps w v' H) {k : Nat} (hk : k ≤ 30) {r : Int} (hr : 1 ≤ r ∧ r ≤ 41) (h1 : r ≤ 40 → CanS (rowH wide ps w r) k H) (h0 : 2 ≤ r → ¬ CanS (rowH wide ps w (r - 1)) k H) : oyezlaw01_HearLouder_j5 wide ps w H (k : Int) r = some true := by
  unfold oyezlaw01_HearLouder_j5
  rw [gd_t (r64_small (by omega)), gd_t ⟨by decide, by decide⟩]
  have step1 : oyezlaw01_HearLouder_l7 wide ps w H (k : Int) r 1 1 = some true := by
    unfold oyezlaw01_HearLouder_l7
    have e : ∀ {β : Type} (f : Int → Option β), ix [r - 1, r] 1 f = f r := fun f => ix_t (by decide) rfl
    have l0 : oyezlaw01_HearLouder_l7 wide ps w H (k : Int) r 0 (1 + 1) = some true := by
      unfold oyezlaw01_HearLouder_l7 oyezlaw01_HearLouder_j6
      rw [awake_t, b1_some]
    rw [e, l0]
    by_cases hc : 40 < r
    · rw [if_neg (by omega), decide_eq_true hc, b1_some, if_pos rfl]
    · obtain ⟨L, n, b1', b2', _⟩ := Best_eq (hA r (by omega)) hk
      have hn : n = H.length := b2'.2 (h1 (by omega))
      rw [if_neg (by omega), decide_eq_false hc, b1_some, if_neg (by decide), b1', b3_some, if_neg (fun h => h rfl), b1_some, if_neg]
      rw [decide_eq_true (show (n : Int) = (H.length : Int) by omega)]
      decide
  have e : ∀ {β : Type} (f : Int → Option β), ix [r - 1, r] 0 f = f (r - 1) := fun f => ix_t (by decide) rfl
  show oyezlaw01_HearLouder_l7 wide ps w H (k : Int) r (1 + 1) 0 = some true
  unfold oyezlaw01_HearLouder_l7
  have s1 : oyezlaw01_HearLouder_l7 wide ps w H (k : Int) r 1 (0 + 1) = some true := step1
  rw [e, s1]
  by_cases hc : r - 1 < 1
  · rw [if_pos hc, b1_some, if_pos rfl]
  · obtain ⟨L, n, b1', b2', _⟩ := Best_eq (hA (r - 1) (by omega)) hk
    have hn : n ≠ H.length := fun h => h0 (by omega) (b2'.1 h)
    rw [if_neg hc, decide_eq_false (by omega), b1_some, if_neg (by decide), b1', b3_some, if_neg (fun h => h rfl), b1_some, if_neg]
    rw [decide_eq_false (show ¬ (n : Int) = (H.length : Int) by omega)]
    decide
theorem lou_j3 {H : List Int} (hA : ∀ v', 1 ≤ v' ∧ v' ≤ 40 → Hs wide ps w v' H) {k : Nat} (hk : k ≤ 30) : oyezlaw01_HearLouder_j3 wide ps w H (k : Int) = some true := by
  unfold oyezlaw01_HearLouder_j3
  rcases Louder_eq hA hk with ⟨a1, a2⟩ | ⟨r, a1, a2, a3, a4, a5⟩
  · rw [a1, b2_some, if_pos rfl]
    exact lou_l7 hA hk (by omega) (fun h => by omega) fun _ => a2 (41 - 1) (by omega) (by omega)
  · rw [a1, b2_some, if_neg (by decide), if_neg (fun h => h rfl), if_neg (by omega), decide_eq_false (by omega), b1_some, if_neg (by decide)]
    exact lou_l7 hA hk (by omega) (fun _ => a4) fun h => a5 (r - 1) (by omega) (by omega)
theorem lou_l4 {metal : List Int} (hm : (metal.length : Int) ≤ 9223372036854775807) {H : List Int} (hH : Hs wide ps w v H) {k : Nat} (hk : k ≤ 12) {L : List Nat} {n : Nat} (hb : IsBest (colS (askR wide ps w v H)) (stP ps) (List.replicate (askR wide ps w v H).length false) (min k (askR wide ps w v H).length) L n) (hj : oyezlaw01_HearLouder_j3 wide ps w H (k : Int) = some true) : ∀ (fu : Nat) (a t : Int), (0 ≤ a ∧ a ≤ metal.length) → oyezlaw01_HearLouder_l4 metal wide ps w v H (k : Int) (L.map Int.ofNat) (n : Int) fu a t = some true
  | 0, _, _, _ => hj
  | fu + 1, a, t, ha => by
    obtain ⟨out, a', t', q1, q2, q3, q4, q5, q6⟩ := some_ok (wide := wide) hm (t := t) ha hH.n30 hk
    have hT : Tried ps k out := ⟨q2, q3, q4, q5⟩
    obtain ⟨i1, i2, i3⟩ := hT.nat hH.n30
    have ih := lou_l4 hm hH hk hb hj fu a' t' q6
    have hs := srv_cov hH i2
    rw [i3] at hs
    have hmx := best_most hb i1 i2 (by rw [List.length_map]; exact q5)
    have hsh := hb.short _ i1 i2
    have hfs := hb.fst _ i1 i2
    rw [← hs] at hmx hsh hfs
    rw [List.length_map] at hsh hfs
    unfold oyezlaw01_HearLouder_l4
    rw [q1, b3_some, served_eq' hH (fun s hs => kind0.1 (q4 s hs)), b2_some, if_neg (by decide), if_neg (by omega)]
    have key : (if (srvN wide ps w v H out : Int) = (n : Int) then (if (out.length : Int) < ((L.map Int.ofNat).length : Int) then some true else if (out.length : Int) = ((L.map Int.ofNat).length : Int) then (b1 (slices_Compare_int_int out (L.map Int.ofNat)) fun n13 => some (decide (n13 < 0))) else some false) else some false) = some false := by
      by_cases h1 : srvN wide ps w v H out = n
      · have := hsh h1
        rw [if_pos (by omega), List.length_map, if_neg (by omega)]
        by_cases h2 : out.length = L.length
        · obtain ⟨m, m1, m2⟩ := cmpL_ge (s := out.map Int.toNat) (t := L) (by rw [List.length_map]; exact h2) (hfs h1 h2)
          rw [i3] at m2
          rw [if_pos (by omega), m2, b1_some, decide_eq_false (by omega)]
        · rw [if_neg (by omega)]
      · rw [if_neg (by omega)]
    rw [key, b1_some, if_neg (by decide)]
    exact ih
theorem lou_j1 {metal : List Int} (hm : (metal.length : Int) ≤ 9223372036854775807) {H : List Int} (hA : ∀ v', 1 ≤ v' ∧ v' ≤ 40 → Hs wide ps w v' H) (hv : 1 ≤ v ∧ v ≤ 40) {more : Int} (hmo : 0 ≤ more) {a t : Int} (ha : 0 ≤ a ∧ a ≤ metal.length) : oyezlaw01_HearLouder_j1 more metal a t wide ps w v H = some true := by
  have hH := hA v hv
  have hn := hH.n30
  have hm20 : 0 ≤ Int.tmod more 20 := Int.tmod_nonneg _ hmo
  generalize hv2 : (if v + Int.tmod more 20 < 40 then v + Int.tmod more 20 else 40) = v2
  have hv2' : v ≤ v2 ∧ v2 ≤ 40 := by
    rw [← hv2]; split <;> omega
  have hH2 := hA v2 (by omega)
  obtain ⟨st, a1, t1, s1, s2, s3, s4⟩ := stroke_ok (t := t) (n := 3) ha hm (by omega)
  obtain ⟨k, rfl⟩ := Int.eq_ofNat_of_zero_le s2
  have hk : k ≤ 3 := by omega
  obtain ⟨L, n, b1', b2', b3'⟩ := Best_eq hH (k := k) (by omega)
  have hb := b3' (stP ps) (col_no hn H)
  have fin : (b3 (oyezkit_Bell_Stroke metal a t 3) fun n8 at_5 turn5 =>
      b3 (hear_Best wide ps w v H n8) fun l8 n9 n10 =>
      b2 (oyezlaw01_served wide ps w v H l8) fun n11 ok2 =>
      b1 (if n10 ≠ 0 then (some true) else (if (!ok2) = true then (some true) else (if n11 ≠ n9 then (some true) else (if n8 < (l8.length : Int) then (some true) else (b1 (slices_IsSorted_int_int l8) fun ok3 => some (!ok3)))))) fun k4 =>
      if k4 = true then (some false) else (gd (R64 0 ∧ R64 6) <| oyezlaw01_HearLouder_l4 metal wide ps w v H n8 l8 n9 (Int.toNat (6 - 0)) at_5 turn5)) = some true := by
    have hlen := hb.len
    have hsv := srv_cov hH hb.sto
    rw [hb.val] at hsv
    have hLl := hb.inc.len (by omega)
    rw [s1, b3_some, b1', b3_some, served_eq' hH (fun x hx => by
      obtain ⟨s, hs, rfl⟩ := List.mem_map.1 hx
      have := stP_iff.1 (hb.sto s hs)
      exact ⟨⟨by simp only [Int.ofNat_eq_natCast]; omega, by simp only [Int.ofNat_eq_natCast]; omega⟩, by simpa using this.2⟩), b2_some, if_neg (fun h => h rfl), if_neg (by decide), hsv, if_neg (fun h => h rfl), List.length_map, if_neg (by omega), sortedI_ok (inc_pair hb.inc) (by rw [List.length_map]; omega), b1_some, b1_some, if_neg (by decide), gd_t ⟨by decide, by decide⟩]
    exact lou_l4 hm hH (by omega) hb (lou_j3 hA (by omega)) _ a1 t1 s4
  unfold oyezlaw01_HearLouder_j1
  rw [hv2]
  rcases Few_eq hH with ⟨c1, c2⟩ | ⟨c1, L1, c2, c3⟩
  · rcases Few_eq hH2 with ⟨d1, d2⟩ | ⟨d1, L2, d2, d3⟩
    · rw [c2, b2_some, d2, b2_some, if_pos (by decide), if_neg (by decide), if_pos (by decide), if_neg (by decide), if_neg (by decide), b1_some, if_neg (by decide)]
      exact fin
    · rw [c2, b2_some, d2, b2_some, if_pos (by decide), if_neg (by decide), if_neg (fun h => h rfl), if_neg (by decide), b1_some, if_neg (by decide)]
      exact fin
  · rcases Few_eq hH2 with ⟨d1, d2⟩ | ⟨d1, L2, d2, d3⟩
    · exfalso
      obtain ⟨h, hh, he⟩ := d1
      obtain ⟨s, _, e2, e3⟩ := c3.serves h hh
      have := row_mono hn hv2'.1 e2 e3
      rw [(stL_nil hn).1 he s e2] at this
      cases this
    · have := (few_can d3 (k := L1.length)).2 (can_mono hn hv2'.1 ((few_can c3).1 (Nat.le_refl _)))
      rw [c2, b2_some, d2, b2_some, if_neg (fun h => h rfl), if_neg (fun h => h rfl), if_pos rfl, List.length_map, List.length_map, decide_eq_false (by omega), b1_some, if_neg (by decide)]
      exact fin
theorem lou_l2 {metal : List Int} {H : List Int} (hA : ∀ v', 1 ≤ v' ∧ v' ≤ 40 → Hs wide ps w v' H) (hv : 1 ≤ v ∧ v ≤ 40) {more : Int} (hmo : 0 ≤ more) {a t : Int} (hj : oyezlaw01_HearLouder_j1 more metal a t wide ps w v H = some true) : ∀ T : List Int, (∀ s ∈ T, s ∈ kindL 0 ps 0) → oyezlaw01_HearLouder_l2 more metal a t wide ps w v H T = some true
  | [], _ => hj
  | s :: T, hT => by
    have ih := lou_l2 hA hv hmo hj T fun y hy => hT y (List.mem_cons_of_mem _ hy)
    have hs := kind0.1 (hT s (List.mem_cons_self ..))
    have hH := hA v hv
    have hn := hH.n30
    have hm20 : 0 ≤ Int.tmod more 20 := Int.tmod_nonneg _ hmo
    unfold oyezlaw01_HearLouder_l2
    generalize hv2 : (if v + Int.tmod more 20 < 40 then v + Int.tmod more 20 else 40) = v2
    have hv2' : v ≤ v2 ∧ v2 ≤ 40 := by
      rw [← hv2]; split <;> omega
    have e : ∀ v', 1 ≤ v' ∧ v' ≤ 40 → housE wide ps w v' s = 0 := fun v' h => by
      unfold housE
      rw [if_neg (not_not_intro (hA v' h).air), isE_is hs]
    rw [Houses_eq (by omega), b2_some, Houses_eq (by omega), b2_some, e v hv, e v2 (by omega), if_pos rfl, if_pos rfl, if_neg (fun h => h rfl), if_neg (fun h => h rfl)]
    have hc : slices_ContainsFunc_int_int (lstN (hrB wide ps w v s.toNat) ps.length) (fun xx_ : Int => oyezlaw01_HearLouder_1 xx_ (lstN (hrB wide ps w v2 s.toNat) ps.length)) = some false := by
      rw [contF_eq (p := fun h => !decide (h ∈ lstN (hrB wide ps w v2 s.toNat) ps.length)) (fun h _ => by unfold oyezlaw01_HearLouder_1; rw [containsI_eq, b1_some])]
      congr 1
      rw [List.any_eq_false]
      intro h hh
      obtain ⟨h1, h2⟩ := lstN_mem.1 hh
      rw [decide_eq_true (lstN_mem.2 ⟨h1, hr_mono hv2'.1 h2⟩)]
      decide
    rw [hc, b1_some, b1_some, if_neg (by decide)]
    exact ih
theorem louder_true {metal metal2 : List Int} (hm : (metal.length : Int) ≤ 9223372036854775807) (hm2 : (metal2.length : Int) ≤ 9223372036854775807) {more : Int} (hmo : 0 ≤ more ∧ more ≤ 255) : oyezlaw01_HearLouder metal metal2 more = some true := by
  unfold oyezlaw01_HearLouder oyezkit_Hang
  obtain ⟨wide, ps, a1, t1, h1, h2, h3, _, h5⟩ := made_ok (t := 0) (plots := 20) (show 0 ≤ (0 : Int) ∧ (0 : Int) ≤ metal.length by omega) hm (by omega)
  obtain ⟨w, v, a2, t2, g1, g2, g3, _⟩ := aired_ok (t := t1) h5 hm
  have hm20 : 0 ≤ Int.tmod more 20 := Int.tmod_nonneg _ hmo.1
  have hm21 : Int.tmod more 20 < 20 := Int.tmod_lt_of_pos _ (by decide)
  rw [b3_some, b3_some, h1, b4_some, g1, b4_some, housesL_eq (by omega), b1_some, gd_t (r64_small (by omega)), gd_t (r64_small (by omega)), streets_eq (by omega), b1_some]
  have hA : ∀ v', 1 ≤ v' ∧ v' ≤ 40 → Hs wide ps w v' (kindL 1 ps 0) := fun v' h => Hs.all h2 g2 h
  exact lou_l2 hA (by omega) hmo.1 (lou_j1 hm2 hA (by omega) hmo.1 (by omega)) _ fun _ h => h
end
end Go.Proofs.Ytejkgppikpkkpaa
