/- Layer 1: stands that are tried against the best ones; HearLouder; in plain Lean. -/
import Derived.Test.YtejkgppikpkkpaaGreatZCHY
namespace Go.Proofs.YtejkgppikpkkpaaGreat
open Go.PL Go.Hear
section
variable {metal : List Int} {wide : Int} {ps : List Int}
theorem some_l1 {l : List Int} {a t : Int} : ∀ (I acc : List Int), (∀ i ∈ I, 0 ≤ i ∧ i < l.length) → acc.length + I.length ≤ 100000 → oyezlaw01_some_l1 l a t I acc = some (acc ++ I.map (fun i => l.getD i.toNat 0), a, t)
  | [], acc, _, _ => by simp [oyezlaw01_some_l1]
  | x :: I, acc, h, hl => by
    rw [List.length_cons] at hl
    have hx := h x (List.mem_cons_self ..)
    unfold oyezlaw01_some_l1
    rw [ix_get _ hx.1 hx.2, ap_t (by simp; omega), some_l1 I _ (fun i hi => h i (List.mem_cons_of_mem _ hi)) (by simp; omega)]
    simp
theorem kindL_len {kind : Int} (ps : List Int) : (kindL kind ps 0).length ≤ ps.length := by
  have := (kindL_nodup (kind := kind) ps 0).length_le_of_subset (l₂ := (List.range ps.length).map Int.ofNat) fun y hy => by
    have := kind0.1 hy
    exact List.mem_map.2 ⟨y.toNat, List.mem_range.2 (by omega), by simp only [Int.ofNat_eq_natCast]; omega⟩
  rwa [List.length_map, List.length_range] at this
theorem some_ok (hm : (metal.length : Int) ≤ 9223372036854775807) {a t : Int} (ha : 0 ≤ a ∧ a ≤ metal.length) (hn : ps.length ≤ 30) {most : Nat} (hmo : most ≤ 12) : ∃ out a' t', oyezlaw01_some metal a t wide ps (most : Int) = some (out, a', t') ∧ out.Pairwise (· ≤ ·) ∧ out.Nodup ∧ (∀ x ∈ out, x ∈ kindL 0 ps 0) ∧ out.length ≤ most ∧ (0 ≤ a' ∧ a' ≤ metal.length) := by
  have hkl := kindL_len (kind := 0) ps
  obtain ⟨I, a1, t1, r1, ⟨r2, r3, r4⟩, r5⟩ := rung_ok hm (a := a) (t := t) ha (n := (kindL 0 ps 0).length) (by omega)
  have hmin : (if ((kindL 0 ps 0).length : Int) < (most : Int) then ((kindL 0 ps 0).length : Int) else (most : Int)) = ((min (kindL 0 ps 0).length most : Nat) : Int) := by
    split <;> omega
  obtain ⟨n, a2, t2, s1, s2, s3, s4⟩ := stroke_ok (t := t1) (n := ((min (kindL 0 ps 0).length most : Nat) : Int)) r5 hm (by omega)
  obtain ⟨n, rfl⟩ := Int.eq_ofNat_of_zero_le s2
  have hn' : n ≤ (kindL 0 ps 0).length ∧ n ≤ most := by omega
  have hI : ∀ i ∈ I.take n, 0 ≤ i ∧ i < ((kindL 0 ps 0).length : Int) := fun i hi => r4 i (List.mem_of_mem_take hi)
  have hlen : (I.take n).length = n := by rw [List.length_take]; omega
  have hinj : ((I.take n).map fun i => (kindL 0 ps 0).getD i.toNat 0).Nodup := by
    rw [List.Nodup, List.pairwise_map]
    refine List.Pairwise.imp_of_mem (fun {x y} hx hy hxy he => ?_) (r3.sublist (List.take_sublist ..))
    have gx := hI x hx
    have gy := hI y hy
    rw [List.getD_eq_getElem?_getD, List.getElem?_eq_getElem (by omega), List.getD_eq_getElem?_getD, List.getElem?_eq_getElem (by omega)] at he
    have hp := List.pairwise_iff_getElem.1 (kindL_nodup (kind := 0) ps 0)
    rcases Nat.lt_trichotomy x.toNat y.toNat with h | h | h
    · exact hp _ _ (by omega) (by omega) h he
    · omega
    · exact hp _ _ (by omega) (by omega) h he.symm
  obtain ⟨R, q1, q2, q3⟩ := sort_eq (s := (I.take n).map fun i => (kindL 0 ps 0).getD i.toNat 0) (by rw [List.length_map]; omega)
  refine ⟨R, a2, t2, ?_, q3, q2.nodup_iff.2 hinj, fun x hx => ?_, by rw [q2.length_eq, List.length_map]; omega, s4⟩
  · unfold oyezlaw01_some
    rw [streets_eq (by omega), b1_some, r1, b3_some, hmin, s1, b3_some, gd_t ⟨⟨Int.le_refl _, by omega⟩, by rw [r2]; omega⟩, bvE, take_sl, some_l1 _ [] hI (by simp; omega), b3_some, List.nil_append, q1, b1_some]
  · obtain ⟨i, hi, rfl⟩ := List.mem_map.1 (q2.subset hx)
    have := hI i hi
    rw [List.getD_eq_getElem?_getD, List.getElem?_eq_getElem (by omega)]
    exact List.getElem_mem _
end
section
variable {wide : Int} {ps : List Int} {w v : Int}
theorem stP_iff {s : Nat} : stP ps s = true ↔ s < ps.length ∧ ps.getD s 0 = 0 := by
  unfold stP
  rw [Bool.and_eq_true, decide_eq_true_iff, decide_eq_true_iff]
theorem col_no (hn : ps.length ≤ 30) (H : List Int) : ∀ s, stP ps s = false → colS (askR wide ps w v H) s = List.replicate (askR wide ps w v H).length false := fun s hs => by
  rw [colS_eq hn, askR_len]; exact hrS_no hs
theorem srv_cov {H : List Int} (hH : Hs wide ps w v H) {L : List Nat} (hL : ∀ s ∈ L, stP ps s = true) : srvN wide ps w v H (L.map Int.ofNat) = cntT (cov (colS (askR wide ps w v H)) (List.replicate (askR wide ps w v H).length false) L) := by
  have e0 : List.replicate (askR wide ps w v H).length false = H.map fun _ => false := by rw [askR_len, List.map_const']
  have e1 : colS (askR wide ps w v H) = fun s => H.map fun h => (rowH wide ps w v h).getD s false := by
    funext s
    unfold colS
    rw [askR_eq, List.map_map]; rfl
  rw [e0, e1, cov_map, cnt_map]
  unfold srvN
  apply List.countP_congr
  intro h hh
  have hr := (hH.is h hh).1
  have hn := hH.n30
  rw [Bool.false_or, List.any_eq_true, List.any_eq_true]
  constructor
  · rintro ⟨x, hx, hb⟩
    obtain ⟨s, hs, rfl⟩ := List.mem_map.1 hx
    rw [Bool.and_eq_true] at hb
    have := stP_iff.1 (hL s hs)
    exact ⟨s, hs, (rowH_true hn (by omega)).2 ⟨this.1, hb.2⟩⟩
  · rintro ⟨s, hs, hb⟩
    have := stP_iff.1 (hL s hs)
    have := (rowH_true hn (by omega)).1 hb
    refine ⟨(s : Int), List.mem_map.2 ⟨s, hs, rfl⟩, ?_⟩
    rw [Bool.and_eq_true, decide_eq_true_iff]
    exact ⟨⟨by omega, hr.1⟩, by rw [Int.toNat_natCast]; exact this.2⟩
/-- A list that is tried. -/
structure Tried (ps : List Int) (k : Nat) (out : List Int) : Prop where
  le : out.Pairwise (· ≤ ·)
  nd : out.Nodup
  st : ∀ x ∈ out, x ∈ kindL 0 ps 0
  len : out.length ≤ k
theorem Tried.nat {k : Nat} {out : List Int} (h : Tried ps k out) (hn : ps.length ≤ 30) : Inc 0 (out.map Int.toNat) ∧ (∀ s ∈ out.map Int.toNat, stP ps s = true) ∧ (out.map Int.toNat).map Int.ofNat = out := by
  refine ⟨pair_inc h.le h.nd fun x hx => ?_, fun s hs => ?_, toNat_back fun x hx => ?_⟩
  · have := (kind0.1 (h.st x hx)).1; omega
  · obtain ⟨x, hx, rfl⟩ := List.mem_map.1 hs
    have := kind0.1 (h.st x hx)
    exact stP_iff.2 ⟨by omega, this.2⟩
  · exact (kind0.1 (h.st x hx)).1.1
end
end Go.Proofs.YtejkgppikpkkpaaGreat
