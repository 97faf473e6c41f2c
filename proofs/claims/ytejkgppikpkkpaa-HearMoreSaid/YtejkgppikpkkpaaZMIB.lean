/- Layer 1: a house more; HearMore; in plain Lean. -/
import Derived.Test.YtejkgppikpkkpaaZMIA
namespace Go.Proofs.Ytejkgppikpkkpaa
open Go.PL Go.Hear
section
variable {wide : Int} {ps : List Int} {w v : Int}
theorem more_l1 {l : List Int} : ∀ (I acc : List Int), (∀ i ∈ I, 0 ≤ i ∧ i < l.length) → acc.length + I.length ≤ 100000 → oyezlaw01_HearMore_l1 l I acc = some (acc ++ I.map (fun i => l.getD i.toNat 0))
  | [], acc, _, _ => by simp [oyezlaw01_HearMore_l1]
  | x :: I, acc, h, hl => by
    rw [List.length_cons] at hl
    have hx := h x (List.mem_cons_self ..)
    unfold oyezlaw01_HearMore_l1
    rw [ix_get _ hx.1 hx.2, ap_t (by simp; omega), more_l1 I _ (fun i hi => h i (List.mem_cons_of_mem _ hi)) (by simp; omega)]
    simp
/-- Some order of a list is a list of the same. -/
theorem ord_perm {l I : List Int} (hI : Ord l.length I) (hl : l.Nodup) : (I.map fun i => l.getD i.toNat 0).Perm l := by
  obtain ⟨h1, h2, h3⟩ := hI
  have g : ∀ i ∈ I, ∃ h : i.toNat < l.length, l.getD i.toNat 0 = l[i.toNat] := fun i hi => by
    have := h3 i hi
    refine ⟨by omega, ?_⟩
    rw [List.getD_eq_getElem?_getD, List.getElem?_eq_getElem (by omega)]; rfl
  have hnd : (I.map fun i => l.getD i.toNat 0).Nodup := by
    rw [List.Nodup, List.pairwise_map]
    refine List.Pairwise.imp_of_mem (fun {x y} hx hy hxy he => ?_) h2
    obtain ⟨gx, ex⟩ := g x hx
    obtain ⟨gy, ey⟩ := g y hy
    rw [ex, ey] at he
    have := h3 x hx
    have := h3 y hy
    have hp := List.pairwise_iff_getElem.1 hl
    rcases Nat.lt_trichotomy x.toNat y.toNat with h | h | h
    · exact hp _ _ gx gy h he
    · omega
    · exact hp _ _ gy gx h he.symm
  have hsub : ∀ x ∈ I.map (fun i => l.getD i.toNat 0), x ∈ l := fun x hx => by
    obtain ⟨i, hi, rfl⟩ := List.mem_map.1 hx
    obtain ⟨gi, ei⟩ := g i hi
    rw [ei]; exact List.getElem_mem _
  refine (List.perm_ext_iff_of_nodup hnd hl).2 fun x => ⟨hsub x, fun hx => ?_⟩
  refine Classical.byContradiction fun hno => ?_
  have h5 : (x :: I.map fun i => l.getD i.toNat 0).Nodup := List.nodup_cons.2 ⟨hno, hnd⟩
  have := h5.length_le_of_subset (l₂ := l) fun y hy => by
    rcases List.mem_cons.1 hy with rfl | hy
    · exact hx
    · exact hsub y hy
  rw [List.length_cons, List.length_map] at this
  omega
theorem sub_any {M X : List Int} {f : Int → Option Bool} (hf : ∀ s ∈ M, f s = some (!decide (s ∈ X))) (h : ∀ s ∈ M, s ∈ X) : slices_ContainsFunc_int_int M f = some false := by
  rw [contF_eq (p := fun s => !decide (s ∈ X)) hf]
  congr 1
  rw [List.any_eq_false]
  intro s hs
  rw [decide_eq_true (h s hs)]
  decide
theorem few_must {H : List Int} (hn : ps.length ≤ 30) {L : List Nat} (h : IsFew (askR wide ps w v H) L) {s : Int} {x : Int} (hx : x ∈ H) (he : stL wide ps w v x = [s]) : s ∈ L.map Int.ofNat := by
  obtain ⟨t, t1, t2, t3⟩ := h.serves x hx
  obtain ⟨q1, q2⟩ := (rowH_true hn t2).1 t3
  have : (t : Int) ∈ stL wide ps w v x := hears_iff.2 ⟨⟨by omega, by omega⟩, by rw [Int.toNat_natCast]; exact q2⟩
  rw [he, List.mem_singleton] at this
  exact List.mem_map.2 ⟨t, t1, this⟩
theorem more_true {metal metal2 : List Int} (hm : (metal.length : Int) ≤ 9223372036854775807) (hm2 : (metal2.length : Int) ≤ 9223372036854775807) : oyezlaw01_HearMore metal metal2 = some true := by
  unfold oyezlaw01_HearMore oyezkit_Hang
  obtain ⟨wide, ps, a1, t1, h1, h2, h3, _, h5⟩ := made_ok (t := 0) (plots := 24) (show 0 ≤ (0 : Int) ∧ (0 : Int) ≤ metal.length by omega) hm (by omega)
  obtain ⟨w, v, a2, t2, g1, g2, g3, _⟩ := aired_ok (t := t1) h5 hm
  have hn : ps.length ≤ 30 := by omega
  have hA : Hs wide ps w v (kindL 1 ps 0) := Hs.all h2 g2 (by omega)
  have hAl := hA.len
  rw [b3_some, b3_some, h1, b4_some, g1, b4_some, housesL_eq (by omega), b1_some, Deaf_eq (by omega), if_pos hA.air, hA.air, b2_some, if_neg (fun h => h rfl)]
  have hdel : slices_DeleteFunc_int_int (kindL 1 ps 0) (fun xx_ : Int => oyezlaw01_HearMore_1 xx_ (lstN (deafB wide ps w v) ps.length)) = some ((kindL 1 ps 0).filter fun h => !decide (h ∈ lstN (deafB wide ps w v) ps.length)) := delF_eq (p := fun h => decide (h ∈ lstN (deafB wide ps w v) ps.length)) (by omega) fun h _ => by unfold oyezlaw01_HearMore_1; rw [containsI_eq, b1_some]
  rw [hdel, b1_some]
  generalize hall : ((kindL 1 ps 0).filter fun h => !decide (h ∈ lstN (deafB wide ps w v) ps.length)) = all
  have hsub : ∀ x ∈ all, x ∈ kindL 1 ps 0 := fun x hx => by rw [← hall] at hx; exact (List.mem_filter.1 hx).1
  have hH : Hs wide ps w v all := hA.sub hsub (by rw [← hall]; exact (kindL_nodup ps 0).filter _)
  have hHl := hH.len
  have hnd : ∀ x ∈ all, stL wide ps w v x ≠ [] := fun x hx he => by
    have k1 := kind0.1 (hsub x hx)
    rw [← hall, List.mem_filter] at hx
    have : x ∈ lstN (deafB wide ps w v) ps.length := lstN_mem.2 ⟨k1.1, by unfold deafB; rw [decide_eq_true k1.2, Bool.true_and]; exact decide_eq_true he⟩
    rw [decide_eq_true this] at hx
    exact absurd hx.2 (by decide)
  obtain ⟨I, a3, t3, r1, r2, r3⟩ := rung_ok hm2 (a := 0) (t := 0) (by omega) (n := all.length) (by omega)
  have hperm := ord_perm r2 hH.nd
  rw [r1, b3_some, more_l1 I [] r2.2.2 (by have := r2.1; simp; omega), b1_some, List.nil_append]
  generalize (I.map fun i => all.getD i.toNat 0) = mixed at hperm
  have hM : Hs wide ps w v mixed := hH.sub (fun x hx => hperm.subset hx) (hperm.nodup_iff.2 hH.nd)
  have hml := hperm.length_eq
  have hmd : ∀ x ∈ mixed, stL wide ps w v x ≠ [] := fun x hx => hnd x (hperm.subset hx)
  have fewOf : ∀ H', Hs wide ps w v H' → (∀ x ∈ H', stL wide ps w v x ≠ []) → ∃ L, hear_Fewest wide ps w v H' = some (L.map Int.ofNat, 0) ∧ IsFew (askR wide ps w v H') L := fun H' h1 h2 => by
    rcases Few_eq h1 with ⟨⟨h, hh, he⟩, _⟩ | ⟨_, h3⟩
    · exact absurd he (h2 h hh)
    · exact h3
  have mustOf : ∀ H', Hs wide ps w v H' → (∀ x ∈ H', stL wide ps w v x ≠ []) → ∃ M, hear_Must wide ps w v H' = some (M, 0) ∧ ∀ s, s ∈ M ↔ ∃ h ∈ H', stL wide ps w v h = [s] := fun H' h1 h2 => by
    rcases Must_eq h1 with ⟨⟨h, hh, he⟩, _⟩ | ⟨_, M, m1, _, m3⟩
    · exact absurd he (h2 h hh)
    · exact ⟨M, m1, m3⟩
  obtain ⟨L, f1, f2⟩ := fewOf all hH hnd
  obtain ⟨L', f3, f4⟩ := fewOf mixed hM hmd
  have hLL : L = L' := f2.uniq f4 fun r => by
    rw [askR_eq, askR_eq, List.mem_map, List.mem_map]
    constructor
    · rintro ⟨x, hx, e⟩; exact ⟨x, hperm.symm.subset hx, e⟩
    · rintro ⟨x, hx, e⟩; exact ⟨x, hperm.subset hx, e⟩
  subst hLL
  obtain ⟨own, o1, o2, o3, o4⟩ := Apart_eq (by omega) (by omega) hH.ask
  obtain ⟨own', o5, o6, o7, o8⟩ := Apart_eq (by omega) (by omega) hM.ask
  have hoo : own = own' := sorted_uniq ((o1.trans hperm.symm).trans o5.symm) o2 o6
  subst hoo
  obtain ⟨M, m1, m2⟩ := mustOf mixed hM hmd
  have hLl : L.length ≤ 30 := f2.inc.len (by omega)
  have c1 : slices_ContainsFunc_int_int M (fun xx_ : Int => oyezlaw01_HearMore_2 xx_ (L.map Int.ofNat)) = some false := sub_any (X := L.map Int.ofNat) (fun s _ => by unfold oyezlaw01_HearMore_2; rw [containsI_eq, b1_some]) fun s hs => by
    obtain ⟨x, hx, he⟩ := (m2 s).1 hs
    exact few_must hn f4 hx he
  rw [f1, b2_some, f3, b2_some, o3, b2_some, o7, b2_some, m1, b2_some, if_neg (fun h => h rfl), if_neg (fun h => h rfl), if_neg (fun h => h rfl), if_neg (fun h => h rfl), if_neg (fun h => h rfl), like_eq, b1_some, decide_eq_true rfl, if_neg (by decide), like_eq, b1_some, decide_eq_true rfl, if_neg (by decide), c1, b1_some, b2_some, if_neg (by decide)]
  rw [List.length_map]
  match hmx : mixed with
  | [] =>
    have hL0 : L.length = 0 := by
      have h4 := f4.len
      rw [askR_len] at h4
      exact Nat.le_zero.1 h4
    rw [if_pos (show (([] : List Int).length : Int) = 0 from rfl), if_pos (by omega), awake_t, b1_some]
  | m0 :: less =>
    have hless : Hs wide ps w v less := hM.sub (fun x hx => List.mem_cons_of_mem _ hx) (List.nodup_cons.1 hM.nd).2
    have hld : ∀ x ∈ less, stL wide ps w v x ≠ [] := fun x hx => hmd x (List.mem_cons_of_mem _ hx)
    have hll : less.length + 1 = all.length := by rw [← hml, List.length_cons]
    obtain ⟨Lz, z1, z2⟩ := fewOf less hless hld
    obtain ⟨own2, _, _, p3, p4⟩ := Apart_eq (by omega) (by omega) hless.ask
    obtain ⟨M', m3, m4⟩ := mustOf less hless hld
    obtain ⟨Lb, n, b1', b2', _⟩ := Best_eq hM (k := L.length) hLl
    have hn2 : n = (m0 :: less).length := b2'.2 ((few_can f4).1 (Nat.le_refl _))
    have k1 : Lz.length ≤ L.length := (few_can z2).2 ⟨L, Nat.le_refl _, fun x hx => f4.serves x (List.mem_cons_of_mem _ hx)⟩
    have k2 : L.length ≤ Lz.length + 1 := by
      refine (few_can f4).2 ?_
      obtain ⟨y, hy⟩ : ∃ y, y ∈ stL wide ps w v m0 := List.exists_mem_of_ne_nil _ (hmd m0 (List.mem_cons_self ..))
      have hy' := hears_iff.1 hy
      refine ⟨y.toNat :: Lz, by rw [List.length_cons]; exact Nat.le_refl _, fun x hx => ?_⟩
      rcases List.mem_cons.1 hx with rfl | hx
      · exact ⟨y.toNat, List.mem_cons_self .., by omega, (rowH_true hn (by omega)).2 ⟨by omega, hy'.2⟩⟩
      · obtain ⟨s, s1, s2⟩ := z2.serves x hx
        exact ⟨s, List.mem_cons_of_mem _ s1, s2⟩
    obtain ⟨k3, k4⟩ := o8.less p4
    have c2 : slices_ContainsFunc_int_int M' (fun xx_ : Int => oyezlaw01_HearMore_3 xx_ M) = some false := sub_any (X := M) (fun s _ => by unfold oyezlaw01_HearMore_3; rw [containsI_eq, b1_some]) fun s hs => by
      obtain ⟨x, hx, he⟩ := (m4 s).1 hs
      exact (m2 s).2 ⟨x, List.mem_cons_of_mem _ hx, he⟩
    have hsl : sl (m0 :: less) 1 ((m0 :: less).length : Int) = less := by
      unfold sl
      rw [Int.toNat_natCast, List.take_length]; rfl
    have hap : (apV (rowH wide ps w v) own).length ≤ 100 := by
      have := o4.nd.length_le_of_subset o4.sub
      omega
    have hap2 : (apV (rowH wide ps w v) own2).length ≤ 100 := by omega
    rw [if_neg (by rw [List.length_cons]; omega), gd_t ⟨⟨by decide, by rw [List.length_cons]; omega⟩, by omega⟩, bvE, hsl, z1, b2_some, p3, b2_some, m3, b2_some, b1', b3_some, if_pos rfl, if_pos rfl, if_pos rfl, if_pos rfl, if_pos (by rw [hn2]; omega), List.length_map, if_pos (by omega), gd_t (r64_small (by omega)), if_pos (by omega), if_pos (by omega), gd_t (r64_small (by omega)), if_pos (by omega), c2, b1_some, if_pos (by decide), awake_t, b1_some]
end
end Go.Proofs.Ytejkgppikpkkpaa
