/- Layer 1: the fewest stands, houses that are apart, or a deaf house; HearReached; in plain Lean. -/
import Derived.Test.YtejkgppikpkkpaaGreatZCIA
namespace Go.Proofs.YtejkgppikpkkpaaGreat
open Go.PL Go.Hear
section
variable {wide : Int} {ps : List Int} {w v : Int}
theorem stands_ok {H : List Int} (hH : Hs wide ps w v H) {h : Int} (hh : h ∈ H) : hear_Stands wide ps w v h = some (stL wide ps w v h, 0) := by
  have hn := hH.n30
  have : stanE wide ps w v h = 0 := by
    unfold stanE
    rw [if_neg (not_not_intro hH.air), isE_is (hH.is h hh)]
  rw [Stands_eq (by omega), this, if_pos rfl]; rfl
theorem rea_l8 {H : List Int} (hH : Hs wide ps w v H) {x : Int} {k7 : Int} {rec6 : Int → Option Bool} : ∀ K : List Int, (∀ k ∈ K, k ∈ H ∧ comB (rowH wide ps w v k) (rowH wide ps w v x) = false) → oyezlaw01_HearReached_l8 wide ps w v k7 (stL wide ps w v x) rec6 K = rec6 (k7 + 1)
  | [], _ => rfl
  | k :: K, hK => by
    have ih := rea_l8 hH (x := x) (k7 := k7) (rec6 := rec6) K fun y hy => hK y (List.mem_cons_of_mem _ hy)
    obtain ⟨k1, k2⟩ := hK k (List.mem_cons_self ..)
    have hn := hH.n30
    have hc : slices_ContainsFunc_int_int (stL wide ps w v x) (fun xx_ : Int => oyezlaw01_HearReached_1 xx_ (stL wide ps w v k)) = some false := by
      rw [contF_eq (p := fun s => decide (s ∈ stL wide ps w v k)) (fun s _ => by unfold oyezlaw01_HearReached_1; rw [containsI_eq, b1_some])]
      congr 1
      rw [List.any_eq_false]
      intro s hs hs2
      have a := hears_iff.1 hs
      have b := hears_iff.1 (of_decide_eq_true hs2)
      exact comB_false.1 k2 s.toNat (by omega) ⟨(rowH_true hn (by omega)).2 ⟨by omega, b.2⟩, (rowH_true hn (by omega)).2 ⟨by omega, a.2⟩⟩
    unfold oyezlaw01_HearReached_l8
    rw [stands_ok hH k1, b2_some, if_neg (fun h => h rfl), hc, b1_some, b1_some, if_neg (by decide)]
    exact ih
theorem rea_l6 {H A : List Int} (hH : Hs wide ps w v H) (hs : ∀ h ∈ A, h ∈ H) (hp : A.Pairwise fun h k => comB (rowH wide ps w v h) (rowH wide ps w v k) = false) : ∀ tl pre : List Int, A = pre ++ tl → oyezlaw01_HearReached_l6 wide ps w v A tl (pre.length : Int) = some true
  | [], pre, _ => by
    show oyezlaw01_HearReached_j5 = some true
    unfold oyezlaw01_HearReached_j5
    rw [awake_t, b1_some]
  | x :: tl, pre, he => by
    have ih := rea_l6 hH hs hp tl (pre ++ [x]) (by rw [he, List.append_assoc]; rfl)
    rw [List.length_append, List.length_singleton] at ih
    have hx : x ∈ H := hs x (by rw [he]; exact List.mem_append.2 (.inr (List.mem_cons_self ..)))
    unfold oyezlaw01_HearReached_l6
    rw [stands_ok hH hx, b2_some, if_neg (fun h => h rfl), gd_t ⟨⟨Int.le_refl _, by omega⟩, by rw [he, List.length_append]; omega⟩, bvE, take_sl]
    have ht : A.take pre.length = pre := by rw [he, List.take_left]
    rw [ht, rea_l8 hH pre fun k hk => ⟨hs k (by rw [he]; exact List.mem_append.2 (.inl hk)), ?_⟩]
    · exact ih
    · rw [he, List.pairwise_append] at hp
      exact hp.2.2 k hk x (List.mem_cons_self ..)
theorem rea_l4 {metal : List Int} (hm : (metal.length : Int) ≤ 9223372036854775807) {H A : List Int} (hH : Hs wide ps w v H) {L : List Nat} (hL : IsFew (askR wide ps w v H) L) (hj : oyezlaw01_HearReached_j3 wide ps w v A = some true) : ∀ (fu : Nat) (a t : Int), (0 ≤ a ∧ a ≤ metal.length) → oyezlaw01_HearReached_l4 metal wide ps w v H (L.map Int.ofNat) A fu a t = some true
  | 0, _, _, _ => hj
  | fu + 1, a, t, ha => by
    have hn := hH.n30
    have hHl := hH.len
    have hLl := hL.len
    rw [askR_len] at hLl
    obtain ⟨out, a', t', q1, q2, q3, q4, q5, q6⟩ := some_ok (wide := wide) hm (t := t) ha hn (most := L.length) (by omega)
    have hT : Tried ps L.length out := ⟨q2, q3, q4, q5⟩
    obtain ⟨i1, i2, i3⟩ := hT.nat hn
    have ih := rea_l4 hm hH hL hj fu a' t' q6
    have key : (if (srvN wide ps w v H out : Int) = (H.length : Int) then (if (out.length : Int) < ((L.map Int.ofNat).length : Int) then some true else if (out.length : Int) = ((L.map Int.ofNat).length : Int) then (b1 (slices_Compare_int_int out (L.map Int.ofNat)) fun n13 => some (decide (n13 < 0))) else some false) else some false) = some false := by
      by_cases h1 : srvN wide ps w v H out = H.length
      · have hall := (srvN_all (fun x hx => (hH.is x hx).1)).1 h1
        have hmin := hL.min (out.map Int.toNat) i1 fun r hr => by
          rw [askR_eq] at hr
          obtain ⟨x, hx, rfl⟩ := List.mem_map.1 hr
          obtain ⟨s, s1, s2⟩ := hall x hx
          have := (kind0.1 (q4 s s1)).1
          exact ⟨s.toNat, List.mem_map.2 ⟨s, s1, rfl⟩, (rowH_true hn (by omega)).2 ⟨by omega, s2⟩⟩
        rw [List.length_map] at hmin
        rw [if_pos (by omega), List.length_map]
        rcases hmin with h2 | ⟨h2, h3⟩
        · omega
        · obtain ⟨m, m1, m2⟩ := cmpL_ge (s := out.map Int.toNat) (t := L) (by rw [List.length_map]; exact h2.symm) h3
          rw [i3] at m2
          rw [if_neg (by omega), if_pos (by omega), m2, b1_some, decide_eq_false (by omega)]
      · rw [if_neg (by omega)]
    unfold oyezlaw01_HearReached_l4
    rw [show ((L.map Int.ofNat).length : Int) = (L.length : Int) by rw [List.length_map]] at key ⊢
    rw [q1, b3_some, served_eq' hH (fun s hs => kind0.1 (q4 s hs)), b2_some, if_neg (by decide), key, b1_some, if_neg (by decide)]
    exact ih
theorem rea_l2 {H A L3 : List Int} {metal : List Int} {a t n4 : Int} {D0 : List Int} (hH : Hs wide ps w v H) (hj : oyezlaw01_HearReached_j1 metal a t wide ps w v H L3 n4 D0 A = some true) : ∀ D : List Int, (∀ x ∈ D, x ∈ H ∧ stL wide ps w v x = []) → oyezlaw01_HearReached_l2 metal a t wide ps w v H L3 n4 D0 A D = some true
  | [], _ => hj
  | x :: D, hD => by
    have ih := rea_l2 hH hj D fun y hy => hD y (List.mem_cons_of_mem _ hy)
    obtain ⟨h1, h2⟩ := hD x (List.mem_cons_self ..)
    unfold oyezlaw01_HearReached_l2
    rw [stands_ok hH h1, b2_some, if_neg (fun h => h rfl), h2, decide_eq_false (by decide), b1_some, if_neg (by decide)]
    exact ih
theorem reached_true {metal metal2 : List Int} (hm : (metal.length : Int) ≤ 9223372036854775807) (hm2 : (metal2.length : Int) ≤ 9223372036854775807) : oyezlaw01_HearReached metal metal2 = some true := by
  unfold oyezlaw01_HearReached oyezkit_Hang
  obtain ⟨wide, ps, a1, t1, h1, h2, h3, _, h5⟩ := made_ok (t := 0) (plots := 24) (show 0 ≤ (0 : Int) ∧ (0 : Int) ≤ metal.length by omega) hm (by omega)
  obtain ⟨w, v, a2, t2, g1, g2, g3, _⟩ := aired_ok (t := t1) h5 hm
  have hn : ps.length ≤ 30 := by omega
  have hH : Hs wide ps w v (kindL 1 ps 0) := Hs.all h2 g2 (by omega)
  have hHl := hH.len
  obtain ⟨own, o1, o2, o3, o4⟩ := Apart_eq (by omega) (by omega) hH.ask
  have hdm : ∀ x, x ∈ lstN (deafB wide ps w v) ps.length ↔ x ∈ kindL 1 ps 0 ∧ stL wide ps w v x = [] := fun x => by
    rw [lstN_mem, kind0]
    unfold deafB
    rw [Bool.and_eq_true, decide_eq_true_iff, decide_eq_true_iff]
    constructor
    · rintro ⟨a, b, c⟩; exact ⟨⟨a, b⟩, c⟩
    · rintro ⟨⟨a, b⟩, c⟩; exact ⟨a, b, c⟩
  have big : ∃ L3 n4, hear_Fewest wide ps w v (kindL 1 ps 0) = some (L3, n4) ∧ oyezlaw01_HearReached_j1 metal2 0 0 wide ps w v (kindL 1 ps 0) L3 n4 (lstN (deafB wide ps w v) ps.length) (apV (rowH wide ps w v) own) = some true := by
    rcases Few_eq hH with ⟨⟨h, hh, he⟩, f2⟩ | ⟨f1, L, f2, f3⟩
    · refine ⟨[], 6, f2, ?_⟩
      have hne : 0 < ((lstN (deafB wide ps w v) ps.length).length : Int) := by
        have := (hdm h).2 ⟨hh, he⟩
        have := List.length_pos_of_mem this
        omega
      unfold oyezlaw01_HearReached_j1
      rw [if_pos hne, if_pos rfl, if_pos (show (([] : List Int).length : Int) = 0 from rfl), awake_t, b1_some]
    · refine ⟨_, 0, f2, ?_⟩
      have he : lstN (deafB wide ps w v) ps.length = [] := by
        refine List.eq_nil_iff_forall_not_mem.2 fun x hx => ?_
        obtain ⟨a, b⟩ := (hdm x).1 hx
        exact f1 x a b
      have hst : ∀ s ∈ L, stP ps s = true := fun s hs => f3.use (stP ps) (col_no hn _) s hs
      have hsrv : srvN wide ps w v (kindL 1 ps 0) (L.map Int.ofNat) = (kindL 1 ps 0).length := by
        rw [srv_cov hH hst, (all_cov _ _).2 f3.all, askR_len]
      have hap : (apV (rowH wide ps w v) own).length ≤ L.length := ap_le o4 f3.serves
      have hLl := f3.inc.len (by omega)
      unfold oyezlaw01_HearReached_j1
      rw [he, if_neg (by decide), served_eq' hH (fun x hx => by
        obtain ⟨s, hs, rfl⟩ := List.mem_map.1 hx
        have := stP_iff.1 (hst s hs)
        exact ⟨⟨by simp only [Int.ofNat_eq_natCast]; omega, by simp only [Int.ofNat_eq_natCast]; omega⟩, by simpa using this.2⟩), b2_some, if_neg (fun h => h rfl), if_neg (by decide), hsrv, if_neg (fun h => h rfl), List.length_map, if_neg (by omega), sortedI_ok (inc_pair f3.inc) (by rw [List.length_map]; omega), b1_some, b1_some, if_neg (by decide), gd_t ⟨by decide, by decide⟩]
      exact rea_l4 hm2 hH f3 (rea_l6 hH o4.sub o4.ap _ [] rfl) _ 0 0 (by omega)
  obtain ⟨L3, n4, b1', b2'⟩ := big
  rw [b3_some, b3_some, h1, b4_some, g1, b4_some, housesL_eq (by omega), b1_some, b1', b2_some, Deaf_eq (by omega), if_pos hH.air, hH.air, b2_some, o3, b2_some, if_neg (fun h => h rfl), if_neg (fun h => h rfl), check_eq (by omega), b1_some, h2, decide_eq_false (fun h => h rfl), b1_some, if_neg (by decide)]
  exact rea_l2 hH b2' _ fun x hx => (hdm x).1 hx
end
end Go.Proofs.YtejkgppikpkkpaaGreat
