/- Layer 1: houses and stands as lists, stands that cannot be left out, stands that are tried; HearWalled; in plain Lean. -/
import Derived.Test.YtejkgppikpkkpaaZWHW
import Derived.Test.YtejkgppikpkkpaaZWHF
namespace Go.Proofs.Ytejkgppikpkkpaa
open Go.PL Go.Hear
theorem housesL_l1 : ∀ (l : List Int) (k : Int) (acc : List Int), acc.length + l.length ≤ 100000 → oyezlaw01_houses_l1 l k acc = some (acc ++ kindL 1 l k)
  | [], k, acc, _ => by simp [oyezlaw01_houses_l1, kindL]
  | x :: l, k, acc, h => by
    simp only [List.length_cons] at h
    unfold oyezlaw01_houses_l1 kindL
    by_cases hx : x = 1
    · rw [if_pos hx, if_pos hx, ap_t (by simp; omega), housesL_l1 l (k + 1) (acc ++ [k]) (by simp; omega)]
      simp
    · rw [if_neg hx, if_neg hx, housesL_l1 l (k + 1) acc (by omega)]
theorem housesL_eq {wide : Int} {ps : List Int} (h : ps.length ≤ 1000) : oyezlaw01_houses wide ps = some (kindL 1 ps 0) := by
  unfold oyezlaw01_houses
  rw [housesL_l1 ps 0 [] (by simp; omega), b1_some]; rfl
theorem kindL_lt {kind : Int} : ∀ (l : List Int) (k : Int), (kindL kind l k).Pairwise (· < ·)
  | [], _ => List.Pairwise.nil
  | y :: l, k => by
    have ih := kindL_lt (kind := kind) l (k + 1)
    unfold kindL
    by_cases hy : y = kind
    · rw [if_pos hy, List.pairwise_cons]
      refine ⟨fun x hx => ?_, ih⟩
      have := (kindL_mem l (k + 1) x).1 hx
      omega
    · rw [if_neg hy]; exact ih
theorem kindL_nodup {kind : Int} (l : List Int) (k : Int) : (kindL kind l k).Nodup := (kindL_lt l k).imp fun h => by omega
theorem kindL_count : ∀ (l : List Int) (k : Int), (kindL 1 l k).length = cntH l
  | [], _ => rfl
  | y :: l, k => by
    have ih := kindL_count l (k + 1)
    unfold kindL
    unfold cntH at ih ⊢
    by_cases hy : y = 1
    · rw [if_pos hy, List.length_cons, ih, List.filter_cons_of_pos (by simpa using hy)]; rfl
    · rw [if_neg hy, ih, List.filter_cons_of_neg (by simpa using hy)]
theorem kind0 {kind : Int} {ps : List Int} {x : Int} : x ∈ kindL kind ps 0 ↔ (0 ≤ x ∧ x < ps.length) ∧ ps.getD x.toNat 0 = kind := by
  rw [kindL_mem, Int.sub_zero, Int.zero_add]
  constructor
  · rintro ⟨a, b, c⟩; exact ⟨⟨a, b⟩, c⟩
  · rintro ⟨⟨a, b⟩, c⟩; exact ⟨a, b, c⟩
theorem isE_is {ps : List Int} {p kind : Int} (h : (0 ≤ p ∧ p < ps.length) ∧ ps.getD p.toNat 0 = kind) : isE ps p kind = 0 := by
  unfold isE
  rw [if_neg (not_not_intro ⟨h.1.1, by omega⟩), if_neg (not_not_intro h.2)]
section
variable {wide : Int} {ps : List Int} {w v : Int}
theorem airE_of (hc : chk wide ps = 0) (hw : okW w) (hv : 1 ≤ v ∧ v ≤ 40) : airE wide ps w v = 0 := by
  unfold airE chkA
  rw [if_neg (not_not_intro hc), if_neg]
  rintro (h | h)
  · exact h hw
  · exact h hv
/-- Some houses of a town, each once. -/
structure Hs (wide : Int) (ps : List Int) (w v : Int) (H : List Int) : Prop where
  ck : chk wide ps = 0
  ww : okW w
  vv : 1 ≤ v ∧ v ≤ 40
  is : ∀ x ∈ H, (0 ≤ x ∧ x < ps.length) ∧ ps.getD x.toNat 0 = 1
  nd : H.Nodup
theorem Hs.air {H : List Int} (h : Hs wide ps w v H) : airE wide ps w v = 0 := airE_of h.ck h.ww h.vv
theorem Hs.ask {H : List Int} (h : Hs wide ps w v H) : askE wide ps w v H = 0 := askE_iff.2 ⟨h.air, fun x hx => isE_is (h.is x hx), h.nd⟩
theorem Hs.open {H : List Int} (h : Hs wide ps w v H) : openE wide ps w = 0 := openE_of h.ck h.ww
theorem Hs.n30 {H : List Int} (h : Hs wide ps w v H) : ps.length ≤ 30 := (openE_ok h.open).2.1.2
theorem Hs.all (hc : chk wide ps = 0) (hw : okW w) (hv : 1 ≤ v ∧ v ≤ 40) : Hs wide ps w v (kindL 1 ps 0) := ⟨hc, hw, hv, fun _ hx => kind0.1 hx, kindL_nodup ps 0⟩
theorem Hs.sub {H H' : List Int} (h : Hs wide ps w v H) (hs : ∀ x ∈ H', x ∈ H) (hn : H'.Nodup) : Hs wide ps w v H' := ⟨h.ck, h.ww, h.vv, fun x hx => h.is x (hs x hx), hn⟩
theorem Hs.len {H : List Int} (h : Hs wide ps w v H) : H.length ≤ 10 := by
  have h1 : H.length ≤ (kindL 1 ps 0).length := h.nd.length_le_of_subset fun x hx => kind0.2 (h.is x hx)
  rw [kindL_count] at h1
  have := (openE_ok h.open).2.2.2.2.2
  omega
theorem Hs.voice {H : List Int} (h : Hs wide ps w v H) {v' : Int} (hv : 1 ≤ v' ∧ v' ≤ 40) : Hs wide ps w v' H := ⟨h.ck, h.ww, hv, h.is, h.nd⟩
theorem lstN_lt (P : Nat → Bool) (n : Nat) : (lstN P n).Pairwise (· < ·) := by
  unfold lstN
  rw [List.pairwise_map]
  exact (List.pairwise_lt_range.filter P).imp fun h => by simp only [Int.ofNat_eq_natCast]; omega
theorem lst_one {l : List Int} {x : Int} (h : l.Pairwise (· < ·)) : l = [x] ↔ x ∈ l ∧ ∀ y ∈ l, y = x := by
  constructor
  · rintro rfl; exact ⟨List.mem_singleton.2 rfl, fun y hy => List.mem_singleton.1 hy⟩
  · rintro ⟨h1, h2⟩
    match l, h, h1, h2 with
    | [], _, h1, _ => cases h1
    | [y], _, _, h2 => rw [h2 y (List.mem_singleton.2 rfl)]
    | y :: z :: l, h, _, h2 =>
      have := (List.pairwise_cons.1 h).1 z (List.mem_cons_self ..)
      have := h2 y (List.mem_cons_self ..)
      have := h2 z (List.mem_cons_of_mem _ (List.mem_cons_self ..))
      omega
/-- The stands that a house hears. -/
def stL (wide : Int) (ps : List Int) (w v : Int) (h : Int) : List Int := lstN (fun s => hrB wide ps w v s h.toNat) ps.length
theorem earsH_eq (hn : ps.length ≤ 30) (h : Int) : hear_ears_list (rowH wide ps w v h) = some (stL wide ps w v h) := by
  unfold rowH rowP stL
  rw [earsList_eq, lst_cut hn]
theorem hr_street {s p : Nat} (h : hrB wide ps w v s p = true) : ps.getD s 0 = 0 := by
  unfold hrB at h
  rw [Bool.and_eq_true, decide_eq_true_iff] at h
  exact h.1
/-- A house that hears no stand. -/
theorem deaf_iff (hn : ps.length ≤ 30) {H : List Int} : List.replicate 30 false ∈ askR wide ps w v H ↔ ∃ h ∈ H, stL wide ps w v h = [] := by
  rw [askR_eq, List.mem_map]
  constructor
  · rintro ⟨h, h1, h2⟩; exact ⟨h, h1, (row_false hn).1 h2⟩
  · rintro ⟨h, h1, h2⟩; exact ⟨h, h1, (row_false hn).2 h2⟩
theorem hears_iff {h : Int} {s : Int} : s ∈ stL wide ps w v h ↔ (0 ≤ s ∧ s < ps.length) ∧ hrB wide ps w v s.toNat h.toNat = true := lstN_mem
def mustL (wide : Int) (ps : List Int) (w v : Int) (H : List Int) : List Int := H.filterMap fun h => if (stL wide ps w v h).length = 1 then some ((stL wide ps w v h).getD 0 0) else none
theorem mem_mustL {H : List Int} {s : Int} : s ∈ mustL wide ps w v H ↔ ∃ h ∈ H, stL wide ps w v h = [s] := by
  unfold mustL
  rw [List.mem_filterMap]
  constructor
  · rintro ⟨h, h1, h2⟩
    refine ⟨h, h1, ?_⟩
    split at h2
    · rename_i h3
      match hl : stL wide ps w v h, h3 with
      | [x], _ =>
        rw [hl] at h2
        have : x = s := Option.some.inj h2
        rw [this]
    · cases h2
  · rintro ⟨h, h1, h2⟩
    exact ⟨h, h1, by rw [h2]; rfl⟩
theorem must_l1 (hn : ps.length ≤ 30) : ∀ (H acc : List Int), acc.length + H.length ≤ 100000 → hear_Must_l1 (askR wide ps w v H) acc = some (acc ++ mustL wide ps w v H)
  | [], acc, _ => by simp [askR, hear_Must_l1, mustL]
  | h :: H, acc, hl => by
    rw [List.length_cons] at hl
    have e : askR wide ps w v (h :: H) = rowH wide ps w v h :: askR wide ps w v H := rfl
    rw [e]
    unfold hear_Must_l1
    rw [earsH_eq hn, b1_some]
    by_cases hc : (stL wide ps w v h).length = 1
    · have em : mustL wide ps w v (h :: H) = (stL wide ps w v h).getD 0 0 :: mustL wide ps w v H := by
        unfold mustL
        rw [List.filterMap_cons_some (by rw [if_pos hc])]
      have g0 : ix (stL wide ps w v h) 0 (fun x2 => ap acc [x2] fun out3 => hear_Must_l1 (askR wide ps w v H) out3) = ap acc [(stL wide ps w v h).getD 0 0] fun out3 => hear_Must_l1 (askR wide ps w v H) out3 := ixI (i := 0) _ (by omega)
      rw [if_pos (by omega), g0, ap_t (by simp; omega), must_l1 hn H _ (by simp; omega), em, List.append_assoc]; rfl
    · have em : mustL wide ps w v (h :: H) = mustL wide ps w v H := by
        unfold mustL
        rw [List.filterMap_cons_none (by rw [if_neg hc])]
      rw [if_neg (by omega), must_l1 hn H _ (by omega), em]
theorem mustL_len (H : List Int) : (mustL wide ps w v H).length ≤ H.length := List.length_filterMap_le ..
theorem Must_eq {H : List Int} (hH : Hs wide ps w v H) : ((∃ h ∈ H, stL wide ps w v h = []) ∧ hear_Must wide ps w v H = some ([], 6)) ∨ ((∀ h ∈ H, stL wide ps w v h ≠ []) ∧ ∃ M, hear_Must wide ps w v H = some (M, 0) ∧ (∃ R, R.Perm (mustL wide ps w v H) ∧ R.Pairwise (· ≤ ·) ∧ M = cptI R) ∧ ∀ s, s ∈ M ↔ ∃ h ∈ H, stL wide ps w v h = [s]) := by
  have hn := hH.n30
  have hl := hH.len
  have hml := mustL_len (wide := wide) (ps := ps) (w := w) (v := v) H
  unfold hear_Must
  rw [asked_eq (by omega) H (by omega), hH.ask, b3_some, if_neg (fun h => h rfl), gd_t (decide_eq_true rfl), if_pos rfl, deafQ_eq, b1_some]
  by_cases hd : ∃ h ∈ H, stL wide ps w v h = []
  · exact .inl ⟨hd, by rw [if_pos (decide_eq_true ((deaf_iff hn).2 hd))]⟩
  · refine .inr ⟨fun h hh he => hd ⟨h, hh, he⟩, ?_⟩
    obtain ⟨R, h1, h2, h3⟩ := sort_eq (s := mustL wide ps w v H) (by omega)
    have hRl := h2.length_eq
    refine ⟨cptI R, ?_, ⟨R, h2, h3, rfl⟩, fun s => ?_⟩
    · rw [if_neg (by rw [decide_eq_true_iff]; exact fun h => hd ((deaf_iff hn).1 h)), must_l1 hn H [] (by simp; omega), b1_some, List.nil_append, h1, b1_some, compactI_eq (by omega), b1_some]
    · rw [mem_cptI, h2.mem_iff, mem_mustL]
theorem srvN_le (H S : List Int) : srvN wide ps w v H S ≤ H.length := List.countP_le_length
theorem srvN_all {H : List Int} (hH : ∀ x ∈ H, 0 ≤ x ∧ x < ps.length) {S : List Int} : srvN wide ps w v H S = H.length ↔ ∀ h ∈ H, ∃ s ∈ S, hrB wide ps w v s.toNat h.toNat = true := by
  unfold srvN
  rw [List.countP_eq_length]
  constructor
  · intro h x hx
    have := h x hx
    rw [List.any_eq_true] at this
    obtain ⟨s, h1, h2⟩ := this
    rw [Bool.and_eq_true] at h2
    exact ⟨s, h1, h2.2⟩
  · intro h x hx
    obtain ⟨s, h1, h2⟩ := h x hx
    rw [List.any_eq_true]
    have := hH x hx
    exact ⟨s, h1, by rw [Bool.and_eq_true, decide_eq_true_iff]; exact ⟨⟨by omega, this.1⟩, h2⟩⟩
theorem served_eq' {H : List Int} (hH : Hs wide ps w v H) {S : List Int} (hS : ∀ s ∈ S, (0 ≤ s ∧ s < ps.length) ∧ ps.getD s.toNat 0 = 0) : oyezlaw01_served wide ps w v H S = some ((srvN wide ps w v H S : Int), true) :=
  servedL_eq (by have := hH.n30; omega) hH.air (by have := hH.len; omega) fun s hs => isE_is (hS s hs)
theorem walled_l4 {l6 : List Int} {rec2 : Option Bool} : ∀ (tl pre : List Int), pre.length + tl.length = l6.length → (∀ k : Nat, k < l6.length → l6.getD k 0 ≠ -1 → (pre ++ tl).getD k 0 ≠ -1 ∧ (pre ++ tl).getD k 0 ≤ l6.getD k 0) → oyezlaw01_HearWalled_l4 l6 rec2 tl (pre.length : Int) = rec2
  | [], pre, _, _ => rfl
  | x :: tl, pre, hl, h => by
    rw [List.length_cons] at hl
    have ih := walled_l4 (l6 := l6) (rec2 := rec2) tl (pre ++ [x]) (by simp; omega) (by rw [List.append_assoc]; exact h)
    rw [List.length_append, List.length_singleton] at ih
    have hx : (pre ++ x :: tl).getD pre.length 0 = x := getA
    have hk := h pre.length (by omega)
    rw [hx] at hk
    unfold oyezlaw01_HearWalled_l4
    rw [ixI _ (by omega)]
    by_cases h5 : l6.getD pre.length 0 = -1
    · rw [if_neg (not_not_intro h5), b1_some, if_neg (by decide)]
      exact ih
    · obtain ⟨h6, h7⟩ := hk h5
      rw [if_pos h5, if_neg h6, b1_some, if_neg (by rw [decide_eq_true_iff]; omega)]
      exact ih
theorem walled_l2 (hc : chk wide ps = 0) (hw : okW w) {x : Int} (hx : x ∈ kindL 0 ps 0) {l2 : List Int} {n3 : Int} (hj : oyezlaw01_HearWalled_j1 wide ps w n3 l2 x = some true) : ∀ T : List Int, (∀ s ∈ T, s ∈ kindL 0 ps 0) → oyezlaw01_HearWalled_l2 wide ps w n3 l2 x wide (ps.set x.toNat 2) T = some true
  | [], _ => hj
  | s :: T, hT => by
    have ih := walled_l2 hc hw hx hj T fun y hy => hT y (List.mem_cons_of_mem _ hy)
    have hs := kind0.1 (hT s (List.mem_cons_self ..))
    have hx' := kind0.1 hx
    have ho := openE_of hc hw
    have hn := (openE_ok ho).2.1
    have hc2 := chk_wall hc (k := x.toNat) (by omega) hx'.2
    have ho2 := openE_of hc2 hw
    have hl2 : (ps.set x.toNat 2).length = ps.length := List.length_set
    unfold oyezlaw01_HearWalled_l2
    have e1 : standE wide ps w s = 0 := by unfold standE; rw [if_neg (not_not_intro ho), isE_is hs]
    by_cases he : s = x
    · have e2 : standE wide (ps.set x.toNat 2) w s = 8 := by
        unfold standE isE
        rw [if_neg (not_not_intro ho2), he, hl2, if_neg (not_not_intro ⟨hx'.1.1, by omega⟩), getD_set (by omega), if_pos rfl, if_pos (by decide)]
      rw [if_pos he, Needs_eq (by omega), b2_some, e2, if_neg (fun h => h rfl)]
      exact ih
    · have hne : x.toNat ≠ s.toNat := by omega
      have hs2 : (0 ≤ s ∧ s < ((ps.set x.toNat 2).length : Int)) ∧ (ps.set x.toNat 2).getD s.toNat 0 = 0 := by
        rw [hl2, getD_set (by omega), if_neg hne]; exact hs
      have e2 : standE wide (ps.set x.toNat 2) w s = 0 := by unfold standE; rw [if_neg (not_not_intro ho2), isE_is hs2]
      have t1 := (tb_ok ho hs.1).len
      have t2 := (tb_ok ho2 hs2.1).len
      rw [hl2] at t2
      rw [if_neg he, Needs_eq (by omega), b2_some, Needs_eq (by omega), b2_some, e1, e2, if_pos rfl, if_pos rfl, if_neg (fun h => h rfl), if_neg (fun h => h rfl), if_neg (by omega), decide_eq_false (by omega), b1_some, if_neg (by decide)]
      have := walled_l4 (l6 := tb wide (ps.set x.toNat 2) w s) (rec2 := oyezlaw01_HearWalled_l2 wide ps w n3 l2 x wide (ps.set x.toNat 2) T) (tb wide ps w s) [] (by rw [List.length_nil]; omega) (fun k hk h => by
        rw [List.nil_append]
        exact wall_le ho ho2 hs.1 (p := (k : Int)) (by omega) h)
      rw [← ih]
      exact this
theorem walled_true {metal : List Int} (hm : (metal.length : Int) ≤ 9223372036854775807) {which : Int} (hw : 0 ≤ which ∧ which < 256) : oyezlaw01_HearWalled metal which = some true := by
  unfold oyezlaw01_HearWalled oyezkit_Hang
  obtain ⟨wide, ps, a1, t1, h1, h2, h3, ⟨s0, h4, h4'⟩, h5⟩ := made_ok (t := 0) (plots := 24) (show 0 ≤ (0 : Int) ∧ (0 : Int) ≤ metal.length by omega) hm (by omega)
  obtain ⟨w, v, a2, t2, g1, g2, g3, _⟩ := aired_ok (t := t1) h5 hm
  have hn : ps.length ≤ 1000 := by omega
  have hne : (kindL 0 ps 0).length ≠ 0 := by
    have : (s0 : Int) ∈ kindL 0 ps 0 := kind0.2 ⟨by omega, by rw [Int.toNat_natCast]; exact h4'⟩
    intro h0
    rw [List.length_eq_zero_iff.1 h0] at this
    cases this
  have hmod : 0 ≤ Int.tmod which ((kindL 0 ps 0).length : Int) ∧ Int.tmod which ((kindL 0 ps 0).length : Int) < ((kindL 0 ps 0).length : Int) := ⟨Int.tmod_nonneg _ hw.1, Int.tmod_lt_of_pos _ (by omega)⟩
  have hxm : (kindL 0 ps 0).getD (Int.tmod which ((kindL 0 ps 0).length : Int)).toNat 0 ∈ kindL 0 ps 0 := by
    rw [List.getD_eq_getElem?_getD, List.getElem?_eq_getElem (by omega)]; exact List.getElem_mem _
  rw [b3_some, h1, b4_some, g1, b4_some, streets_eq hn, b1_some, gd_t (r64_small (by omega)), gd_t (by omega), ix_get _ hmod.1 hmod.2]
  generalize (kindL 0 ps 0).getD (Int.tmod which ((kindL 0 ps 0).length : Int)).toNat 0 = x at hxm
  have hx' := kind0.1 hxm
  have ew : wldV wide ps x = (wide, ps.set x.toNat 2, 0) := by
    unfold wldV
    rw [if_neg (not_not_intro h2), isE_is hx', if_neg (fun h => h rfl)]
  have hl2 : (ps.set x.toNat 2).length = ps.length := List.length_set
  rw [Walled_eq hn, ew, b3_some, if_neg (fun h => h rfl), if_neg (by omega), ix_get _ hx'.1.1 (by omega), getD_set (by omega), if_pos rfl, decide_eq_false (fun h => h rfl), b1_some, if_neg (by decide)]
  refine walled_l2 h2 g2 hxm ?_ _ fun _ h => h
  have hH : Hs wide ps w v (kindL 1 ps 0) := Hs.all h2 g2 (by omega)
  have hd : (∃ h ∈ kindL 1 ps 0, stL wide ps w v h = []) ↔ lstN (deafB wide ps w v) ps.length ≠ [] := by
    rw [Ne, lstN_nil]
    constructor
    · rintro ⟨h, k1, k2⟩ k3
      have k4 := kind0.1 k1
      have := k3 h.toNat (by omega)
      unfold deafB at this
      rw [decide_eq_true k4.2, Bool.true_and, decide_eq_false_iff_not] at this
      exact this k2
    · intro hn
      refine Classical.byContradiction fun hn2 => hn fun i hi => ?_
      unfold deafB
      by_cases k1 : ps.getD i 0 = 1
      · rw [decide_eq_true k1, Bool.true_and, decide_eq_false_iff_not]
        intro k2
        exact hn2 ⟨(i : Int), kind0.2 ⟨by omega, by rw [Int.toNat_natCast]; exact k1⟩, by unfold stL; rw [Int.toNat_natCast]; exact k2⟩
      · rw [decide_eq_false k1, Bool.false_and]
  unfold oyezlaw01_HearWalled_j1
  rw [housesL_eq hn, b1_some, Deaf_eq hn, if_pos hH.air, hH.air]
  rcases Must_eq hH with ⟨k1, k2⟩ | ⟨k1, M, k2, _, k4⟩
  · have k3 := hd.1 k1
    have k5 : ¬ ((lstN (deafB wide ps w v) ps.length).length : Int) = 0 := fun h => k3 (List.length_eq_zero_iff.1 (by omega))
    rw [k2, b2_some, b2_some, if_neg (fun h => h rfl), decide_eq_false (show ¬ (6 : Int) = 0 by decide), decide_eq_false k5, b1_some, if_neg (by decide), if_pos (by decide), if_pos rfl, awake_t, b1_some]
  · have k3 : lstN (deafB wide ps w v) ps.length = [] := Classical.byContradiction fun h => by
      obtain ⟨h', a, b⟩ := hd.2 h
      exact k1 h' a b
    have hcap : (kindL 0 ps 0).length ≤ ps.length := by
      have := (kindL_nodup (kind := 0) ps 0).length_le_of_subset (l₂ := (List.range ps.length).map Int.ofNat) fun y hy => by
        have := kind0.1 hy
        exact List.mem_map.2 ⟨y.toNat, List.mem_range.2 (by omega), by simp only [Int.ofNat_eq_natCast]; omega⟩
      rwa [List.length_map, List.length_range] at this
    have hdel : slices_DeleteFunc_int_int (kindL 0 ps 0) (fun xx_ : Int => oyezlaw01_HearWalled_1 xx_ x) = some ((kindL 0 ps 0).filter fun s => !decide (s = x)) := delF_eq (p := fun s => decide (s = x)) (by omega) fun s _ => rfl
    rw [k2, b2_some, b2_some, if_neg (fun h => h rfl), decide_eq_true (show (0 : Int) = 0 from rfl), k3, decide_eq_true (show (([] : List Int).length : Int) = 0 from rfl), b1_some, if_neg (by decide), if_neg (fun h => h rfl), b1_some, copy_eq (by omega), b1_some, hdel, b1_some, served_eq' hH (fun s hs => kind0.1 (List.mem_filter.1 hs).1), b2_some, if_pos rfl, b1_some, containsI_eq, b1_some, awake_t]
    have key : (srvN wide ps w v (kindL 1 ps 0) ((kindL 0 ps 0).filter fun s => !decide (s = x)) : Int) < ((kindL 1 ps 0).length : Int) ↔ x ∈ M := by
      have hle := srvN_le (wide := wide) (ps := ps) (w := w) (v := v) (kindL 1 ps 0) ((kindL 0 ps 0).filter fun s => !decide (s = x))
      have hall := srvN_all (wide := wide) (w := w) (v := v) (H := kindL 1 ps 0) (fun x hx => (kind0.1 hx).1) (S := (kindL 0 ps 0).filter fun s => !decide (s = x))
      rw [k4]
      constructor
      · intro hlt
        refine Classical.byContradiction fun hno => ?_
        have : srvN wide ps w v (kindL 1 ps 0) ((kindL 0 ps 0).filter fun s => !decide (s = x)) = (kindL 1 ps 0).length := hall.2 fun h hh => by
          refine Classical.byContradiction fun hn2 => hno ⟨h, hh, (lst_one (lstN_lt _ _)).2 ?_⟩
          have hev : ∀ y ∈ stL wide ps w v h, y = x := fun y hy => by
            refine Classical.byContradiction fun hyx => hn2 ⟨y, ?_, (hears_iff.1 hy).2⟩
            rw [List.mem_filter]
            refine ⟨kind0.2 ⟨(hears_iff.1 hy).1, hr_street (hears_iff.1 hy).2⟩, ?_⟩
            rw [decide_eq_false hyx]; rfl
          have hne := k1 h hh
          obtain ⟨y, hy⟩ : ∃ y, y ∈ stL wide ps w v h := List.exists_mem_of_ne_nil _ hne
          refine ⟨?_, hev⟩
          have e := hev y hy
          rw [← e]; exact hy
        omega
      · rintro ⟨h, hh, he⟩
        refine Classical.byContradiction fun hge => ?_
        obtain ⟨s, s1, s2⟩ := hall.1 (by omega) h hh
        rw [List.mem_filter] at s1
        have := (kind0.1 s1.1).1
        have hm : s ∈ stL wide ps w v h := hears_iff.2 ⟨this, s2⟩
        rw [he, List.mem_singleton] at hm
        subst hm
        have := s1.2
        simp at this
    have : decide ((srvN wide ps w v (kindL 1 ps 0) ((kindL 0 ps 0).filter fun s => !decide (s = x)) : Int) < ((kindL 1 ps 0).length : Int)) = decide (x ∈ M) := by
      rw [decide_eq_decide]; exact key
    rw [if_pos this, b1_some]
end
end Go.Proofs.Ytejkgppikpkkpaa
