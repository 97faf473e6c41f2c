/- The walks that this claim needs, printed by a program of mine; part 2. -/
import Derived.Test.YtfmapnhfamoecabZDND1
namespace Go.Proofs.Ytfmapnhfamoecab
open Go.SH Go.PL
set_option maxHeartbeats 1000000 in
theorem round_crier_served_1_w {b_c b_c_ : Nat} {walks_a : Option Addr} {walks_c : Nat} {walks : List (List Int)} {hears_a : Option Addr} {hears_c : Nat} {hears : List (List Int)} {houses start : Int} {notices_a : Option Addr} {notices_c : Nat} {notices : List ((List Int) × Int × Int)} {walks2 : List Int} {pairs_a : Option Addr} {pairs_c : Nat} {pairs : List (Int × Int)} {hit : List Int} {mb_c_ mb_c : Nat × Nat} {b_set_ : Nat} {set_ : Int} {mb_set_ : Nat × Nat} {F : FS} (hb_c : F b_c = some (.cells #[.pointer (some ⟨b_c_, 0, none⟩)] 73 mb_c)) (hb_c_ : F b_c_ = some (.cells ((([.slice walks_a walks.length walks_c] : List Value) ++ (([.slice hears_a hears.length hears_c] : List Value) ++ (([.int .i64 houses] : List Value) ++ (([.int .i64 start] : List Value) ++ (([.slice notices_a notices.length notices_c] : List Value) ++ (walks2.flatMap (cI .i64) ++ (([.slice pairs_a pairs.length pairs_c] : List Value) ++ (hit.flatMap (cI .i64))))))))).toArray) 101 mb_c_)) (_h_walks : RowR 1 (slE 1 (iE .i64)) F walks_a walks_c walks) (h_hears : RowR 1 (slE 1 (iE .i64)) F hears_a hears_c hears) (h_notices : RowR 3 (prE (slE 1 (iE .i64)) (prE (iE .i64) (iE .i64))) F notices_a notices_c notices) (h_walks2 : walks2.length = 25) (_h_pairs : RowR 2 (prE (iE .i64) (iE .i64)) F pairs_a pairs_c pairs) (h_hit : hit.length = 15) (hb_set_ : F b_set_ = some (.cells #[.int .i64 set_] 3 mb_set_)) {xs : List ((Int × Int) × Int)} (hr : round_crier_served_1 walks hears houses start notices walks2 pairs hit set_ = some xs) :
    IterOK Try.prog 78 #[] #[.pointer (some ⟨b_c, 0, none⟩), .pointer (some ⟨b_set_, 0, none⟩)] F (fun x : (Int × Int) × Int => #[.agg ((cP (cI .i64) (cI .i64)) x.1).toArray, .int .i64 x.2]) xs := by
 intro G0 hG0 yv J Jx hJm hJxm hy Fc L0 hG hJ0
 replace hb_c := (hG0.trans hG) _ _ hb_c
 replace hb_c_ := (hG0.trans hG) _ _ hb_c_
 replace h_hears := h_hears.mono (slE_ok (iE_ok _)) (hG0.trans hG)
 replace h_notices := h_notices.mono (prE_ok (slE_ok (iE_ok _)) (prE_ok (iE_ok _) (iE_ok _))) (hG0.trans hG)
 replace hb_set_ := (hG0.trans hG) _ _ hb_set_
 have hfull0 : xs = [] ++ xs := rfl
 show SH.Spec Try.prog 78 #[yv, .pointer (some ⟨b_c, 0, none⟩), .pointer (some ⟨b_set_, 0, none⟩)] Fc L0 _
 refine spec_of_shW (args := [yv, .pointer (some ⟨b_c, 0, none⟩), .pointer (some ⟨b_set_, 0, none⟩)]) Try.func78 rfl Try.ntmps78 (Nat.le_of_ble_eq_true rfl) ?_
 intro K _ _; rw [round_crier_served_1] at hr; refine shW_L (L' := L0 ++ []) (by simp) ?_
 refine wsr ?_
 refine ov (v_load Try.isAgg73 rfl (Has.frozen hb_c) rfl) rfl ?_
 refine ov (v_nilCheck rfl) rfl ?_
 refine ov (v_fieldAddr fa_101_0 rfl) rfl ?_
 refine ov (v_fieldAddr fa_26_1 rfl) rfl ?_
 refine ov (v_load Try.isAgg23 rfl (Has.frozen hb_c_) (li_cell (li_skip (A := ([.slice walks_a walks.length walks_c] : List Value)) (k := 1) (o := 0) rfl (li_here (B := ([.int .i64 houses] : List Value) ++ (([.int .i64 start] : List Value) ++ (([.slice notices_a notices.length notices_c] : List Value) ++ (walks2.flatMap (cI .i64) ++ (([.slice pairs_a pairs.length pairs_c] : List Value) ++ (hit.flatMap (cI .i64))))))) rfl)))) rfl ?_
 refine ov (v_lenS Try.underlying23 rfl) rfl ?_
 refine om rfl rfl (shO_nil ?_)
 refine shW_block ?_
 refine shW_lp (fun fu1 e1 F1 L1 => ∃ (tl : List (List Int)) (k : Int), tl.length = fu1 ∧ Lst hears k tl ∧ ∃ (pre1 : List ((Int × Int) × Int)) (rem2 : List ((Int × Int) × Int)) (Lj3 : LH), round_crier_served_1_l1 notices hit set_ tl k = some rem2 ∧ FExt Fc F1 ∧ L1 = (Lj3 ++ []) ∧ e1.sub [(0, yv), (1, .pointer (some ⟨b_c, 0, none⟩)), (2, .pointer (some ⟨b_set_, 0, none⟩)), (12, .int .i64 (hears.length : Int)), (13, .int .i64 k)] ∧ xs = pre1 ++ rem2 ∧ J pre1 F1 Lj3 ∧ FExt G0 F1) _ (m0 kr ⟨_, _, rfl, Lst.start _, [], xs, L0, hr, FExt.refl _, rfl, (sc rfl (sc rfl (sc rfl (sc rfl (sc rfl (sn _)))))), hfull0, hJ0, hG⟩) ?_
 rintro fu1 e1 F10 _ ⟨tl, k, hn7, hk6, pre1, rem2, Lj3, r8, hF11, rfl, he9, hfull5, hJ4, hG⟩
 refine shW_env _ he9 ?_; clear he9
 replace h_hears := h_hears.mono (slE_ok (iE_ok _)) hF11
 replace h_notices := h_notices.mono (prE_ok (slE_ok (iE_ok _)) (prE_ok (iE_ok _) (iE_ok _))) hF11
 replace hb_c_ := hF11 _ _ hb_c_
 replace hb_c := hF11 _ _ hb_c
 replace hb_set_ := hF11 _ _ hb_set_
 refine wsr ?_
 refine ov (v_lssK rfl rfl) rfl ?_
 refine shO_nil (shW_seq ?_)
 refine shW_condP rfl (fun c13 => ?_) (fun c13 => ?_)
 · obtain ⟨x, tl2, rfl, hx15, g16, hk14⟩ := Lst.succ hk6 c13
   rw [round_crier_served_1_l1] at r8
   refine shW_skip ?_
   refine shW_join (fun e1 F1 L1 => ∃ (pre17 : List ((Int × Int) × Int)) (rem18 : List ((Int × Int) × Int)) (Lj19 : LH), round_crier_served_1_j2 k (round_crier_served_1_l1 notices hit set_ tl2) = some rem18 ∧ FExt F10 F1 ∧ L1 = (Lj19 ++ []) ∧ e1.sub [(0, yv), (1, .pointer (some ⟨b_c, 0, none⟩)), (2, .pointer (some ⟨b_set_, 0, none⟩)), (12, .int .i64 (hears.length : Int)), (13, .int .i64 k)] ∧ xs = pre17 ++ rem18 ∧ J pre17 F1 Lj19 ∧ FExt G0 F1) ?_ ?_
   · refine shW_block ?_
     refine wsr (om rfl rfl (oa rfl rfl (nsr ?_)))
     refine ov (v_load Try.isAgg73 rfl (Has.frozen hb_c) rfl) rfl ?_
     refine ov (v_nilCheck rfl) rfl ?_
     refine ov (v_fieldAddr fa_101_0 rfl) rfl ?_
     refine ov (v_fieldAddr fa_26_4 rfl) rfl ?_
     refine ov (v_load Try.isAgg24 rfl (Has.frozen hb_c_) (li_cell (li_skip (A := ([.slice walks_a walks.length walks_c] : List Value)) (k := 1) (o := 3) rfl (li_skip (A := ([.slice hears_a hears.length hears_c] : List Value)) (k := 1) (o := 2) rfl (li_skip (A := ([.int .i64 houses] : List Value)) (k := 1) (o := 1) rfl (li_skip (A := ([.int .i64 start] : List Value)) (k := 1) (o := 0) rfl (li_here (B := walks2.flatMap (cI .i64) ++ (([.slice pairs_a pairs.length pairs_c] : List Value) ++ (hit.flatMap (cI .i64)))) rfl))))))) rfl ?_
     refine ov (v_lenS Try.underlying24 rfl) rfl ?_
     refine om rfl rfl (shO_nil ?_)
     refine shW_block ?_
     refine shW_lp (fun fu3 e1 F1 L1 => ∃ (tl3 : List ((List Int) × Int × Int)) (k2 : Int), tl3.length = fu3 ∧ Lst notices k2 tl3 ∧ ∃ (pre22 : List ((Int × Int) × Int)) (rem23 : List ((Int × Int) × Int)) (Lj24 : LH), round_crier_served_1_l3 hit set_ k (round_crier_served_1_l1 notices hit set_ tl2) tl3 k2 = some rem23 ∧ FExt F10 F1 ∧ L1 = (Lj24 ++ []) ∧ e1.sub [(0, yv), (1, .pointer (some ⟨b_c, 0, none⟩)), (2, .pointer (some ⟨b_set_, 0, none⟩)), (4, .int .i64 k), (12, .int .i64 (hears.length : Int)), (13, .int .i64 k), (21, .int .i64 (notices.length : Int)), (22, .int .i64 k2)] ∧ xs = pre22 ++ rem23 ∧ J pre22 F1 Lj24 ∧ FExt G0 F1) _ (m0 kr ⟨_, _, rfl, Lst.start _, pre1, rem2, Lj3, r8, FExt.refl _, rfl, (sc rfl (sc rfl (sc rfl (sc rfl (sc rfl (sc rfl (sc rfl (sc rfl (sn _))))))))), hfull5, hJ4, hG⟩) ?_
     rintro fu3 e1 F31 _ ⟨tl3, k2, hn28, hk27, pre22, rem23, Lj24, r29, hF32, rfl, he30, hfull26, hJ25, hG⟩
     refine shW_env _ he30 ?_; clear he30
     replace h_notices := h_notices.mono (prE_ok (slE_ok (iE_ok _)) (prE_ok (iE_ok _) (iE_ok _))) hF32
     replace hb_c_ := hF32 _ _ hb_c_
     replace hb_c := hF32 _ _ hb_c
     replace hb_set_ := hF32 _ _ hb_set_
     refine wsr ?_
     refine ov (v_lssK rfl rfl) rfl ?_
     refine shO_nil (shW_seq ?_)
     refine shW_condP rfl (fun c34 => ?_) (fun c34 => ?_)
     · obtain ⟨x2, tl4, rfl, hx36, g37, hk35⟩ := Lst.succ hk27 c34
       rw [round_crier_served_1_l3] at r29
       refine shW_skip (shW_seq ?_)
       refine shW_block ?_
       refine wsr (om rfl rfl (oa rfl rfl ?_))
       refine nsd (by kernel_rfl) (by kernel_rfl) (by kernel_rfl) ?_
       refine qv (v_load Try.isAgg3 rfl (Has.frozen hb_set_) rfl) rfl ?_
       refine qv (v_load Try.isAgg73 rfl (Has.frozen hb_c) rfl) rfl ?_
       refine qm rfl rfl (qm rfl rfl ?_)
       refine qv (v_nilCheck rfl) rfl ?_
       refine qv (v_fieldAddr fa_101_3 rfl) rfl ?_
       obtain ⟨g38, r39⟩ := gd_ok r29; clear r29
       refine qv (v_indexA Try.underlying99 Try.sizeOf98 rfl rfl g38) rfl ?_
       obtain ⟨g40, r41⟩ := gd_ok r39; clear r39
       obtain ⟨x3, g42, hx43, r44⟩ := ix_ok r41; clear r41
       have hq46 : (k * 3 + k2 : Int).toNat = (k : Int).toNat * 3 + (k2 : Int).toNat := by have := g38; have := g40; omega
       have hc45 := el_at2 (cI_ok .i64) h_hit hq46 hx43 (li_arr (li_skip (A := ([.slice walks_a walks.length walks_c] : List Value)) (k := 1) (o := 30) rfl (li_skip (A := ([.slice hears_a hears.length hears_c] : List Value)) (k := 1) (o := 29) rfl (li_skip (A := ([.int .i64 houses] : List Value)) (k := 1) (o := 28) rfl (li_skip (A := ([.int .i64 start] : List Value)) (k := 1) (o := 27) rfl (li_skip (A := ([.slice notices_a notices.length notices_c] : List Value)) (k := 1) (o := 26) rfl (li_skip (A := walks2.flatMap (cI .i64)) (k := 25) (o := 1) (lfl (cI_ok .i64) h_walks2) (li_skip (A := ([.slice pairs_a pairs.length pairs_c] : List Value)) (k := 1) (o := 0) rfl (li_end (lfl (cI_ok .i64) h_hit)))))))))) (li_le (li_skip (A := ([.slice walks_a walks.length walks_c] : List Value)) (k := 1) (o := 30) rfl (li_skip (A := ([.slice hears_a hears.length hears_c] : List Value)) (k := 1) (o := 29) rfl (li_skip (A := ([.int .i64 houses] : List Value)) (k := 1) (o := 28) rfl (li_skip (A := ([.int .i64 start] : List Value)) (k := 1) (o := 27) rfl (li_skip (A := ([.slice notices_a notices.length notices_c] : List Value)) (k := 1) (o := 26) rfl (li_skip (A := walks2.flatMap (cI .i64)) (k := 25) (o := 1) (lfl (cI_ok .i64) h_walks2) (li_skip (A := ([.slice pairs_a pairs.length pairs_c] : List Value)) (k := 1) (o := 0) rfl (li_end (lfl (cI_ok .i64) h_hit))))))))))
       refine qv (v_indexA Try.underlying98 Try.sizeOf3 rfl rfl g40) rfl ?_
       refine qv (v_load Try.isAgg3 rfl (Has.frozen hb_c_) ((hc45).2.2 0 (by decide))) rfl ?_
       refine qv (v_andNot rfl rfl) rfl ?_
       refine qa rfl rfl (qsr (om rfl rfl ?_))
       refine ov (v_load Try.isAgg3 rfl (Has.frozen hb_set_) rfl) rfl ?_
       refine ov (v_neq rfl rfl) rfl ?_
       refine om rfl rfl ?_
       by_cases c47 : (bandn set_ x3) ≠ set_
       · have r48 := ite_t r44 c47; clear r44
         refine shO_on (b := true) 38 rfl (Env.isT rfl c47) (om rfl rfl (shO_on (b := true) 38 rfl (Env.isT rfl c47) (om rfl rfl (shO_on (b := true) 38 rfl (Env.isT rfl c47) (om rfl rfl (shO_on (b := true) 38 rfl (Env.isT rfl c47) ?_))))))
         refine ov (v_build (v := .agg #[.int .i64 k, .int .i64 k2]) rfl (by intro w; kernel_rfl)) rfl ?_
         refine shO_on (b := true) 38 rfl (Env.isT rfl c47) (om rfl rfl (shO_on (b := true) 38 rfl (Env.isT rfl c47) ?_))
         obtain ⟨tl49, r51, hx50⟩ := yl_ok r48; clear r48
         refine o_callC (Lb := Lj24) (Lr := []) (vs := [.agg #[.int .i64 k, .int .i64 k2], .int .i64 (bandn set_ x3)]) rfl rfl rfl fP (hy pre22 ((k, k2), bandn set_ x3) tl49 (by rw [hfull26, hx50]) _ _ hG hJ25) ?_
         rintro v59 F52 Lj53 hF54 hz55; obtain ⟨yb56, rfl, hbt57, hbf58⟩ := yield_bool hz55
         replace h_notices := h_notices.mono (prE_ok (slE_ok (iE_ok _)) (prE_ok (iE_ok _) (iE_ok _))) hF54
         replace hG := hG.trans hF54
         refine shO_on (b := true) 38 rfl (Env.isT rfl c47) ?_
         refine ov (v_notB rfl) rfl ?_
         refine ov (v_pick_t (evD_true rfl c47) rfl) rfl ?_
         refine shO_nil ?_
         refine shW_cond rfl (fun c60 => ?_) (fun c60 => ?_)
         · have hJ61 := hbf58 (by simpa using c60)
           refine shW_ret (inBlock_ret (andThen_ret (andThen_ret (inBlock_ret (inBlock_ret (andThen_ret (andThen_ret (inBlock_ret ?_))))))))
           refine q_end0s (.inl rfl) Try.results78 (sr) ?_
           exact .inr (by rw [List.append_nil]; exact hJ61)
         have hJ62 := hbt57 (by simpa using c60)
         have hfull63 : xs = (pre22 ++ [((k, k2), bandn set_ x3)]) ++ tl49 := by rw [hfull26, hx50]; simp
         refine shW_skip (inBlock_n (id := 3) (shW_region ?_))
         refine ov (v_add rfl rfl (Lst.r64 hk27 c34 (RowR.lt h_notices))) rfl ?_
         refine om rfl rfl (shO_nil ?_)
         subst hn28; exact le kr ⟨_, _, rfl, hk35, pre22 ++ [((k, k2), bandn set_ x3)], tl49, Lj53, r51, (hF32.trans hF54), rfl, (sc rfl (sc rfl (sc rfl (sc rfl (sc rfl (sc rfl (sc rfl (sc rfl (sn _))))))))), hfull63, hJ62, hG⟩
       have r64 := ite_f r44 c47; clear r44
       refine shO_off (b' := false) 38 rfl (Env.isF rfl c47) rfl rfl (shO_off (b' := false) 38 rfl (Env.isF rfl c47) rfl rfl (shO_off (b' := false) 38 rfl (Env.isF rfl c47) rfl rfl (shO_off (b' := false) 38 rfl (Env.isF rfl c47) rfl rfl (shO_off (b' := false) 38 rfl (Env.isF rfl c47) rfl rfl (shO_off (b' := false) 38 rfl (Env.isF rfl c47) rfl rfl (shO_off (b' := false) 38 rfl (Env.isF rfl c47) rfl rfl ?_))))))
       refine ov (v_pick_f (evD_false rfl c47) rfl) rfl ?_
       refine shO_nil ?_
       refine shW_cond rfl (fun c65 => nomatch c65) (fun c65 => ?_)
       refine shW_skip (inBlock_n (id := 3) (shW_region ?_))
       refine ov (v_add rfl rfl (Lst.r64 hk27 c34 (RowR.lt h_notices))) rfl ?_
       refine om rfl rfl (shO_nil ?_)
       subst hn28; exact le kr ⟨_, _, rfl, hk35, pre22, rem23, Lj24, r64, hF32, rfl, (sc rfl (sc rfl (sc rfl (sc rfl (sc rfl (sc rfl (sc rfl (sc rfl (sn _))))))))), hfull26, hJ25, hG⟩
     obtain rfl := Lst.zero hk27 c34
     rw [round_crier_served_1_l3] at r29
     refine shW_exit (andThen_exit (andThen_exit ?_))
     refine inBlock_exit ?_
     refine inBlock_n (id := 1) ?_
     exact mi kr ⟨pre22, rem23, Lj24, r29, hF32, rfl, (sc rfl (sc rfl (sc rfl (sc rfl (sc rfl (sn _)))))), hfull26, hJ25, hG⟩
   rintro e1 F68 _ ⟨pre17, rem18, Lj19, r66, hF69, rfl, he67, hfull21, hJ20, hG⟩
   refine shW_env _ he67 ?_; clear he67
   replace h_hears := h_hears.mono (slE_ok (iE_ok _)) hF69
   rw [round_crier_served_1_j2] at r66
   refine shW_region ?_
   refine ov (v_add rfl rfl (Lst.r64 hk6 c13 (RowR.lt h_hears))) rfl ?_
   refine om rfl rfl (shO_nil ?_)
   subst hn7; exact le kr ⟨_, _, rfl, hk14, pre17, rem18, Lj19, r66, (hF11.trans hF69), rfl, (sc rfl (sc rfl (sc rfl (sc rfl (sc rfl (sn _)))))), hfull21, hJ20, hG⟩
 obtain rfl := Lst.zero hk6 c13
 rw [round_crier_served_1_l1] at r8
 refine shW_exit (andThen_exit (andThen_exit ?_))
 refine inBlock_exit ?_
 refine q_end0s (.inr rfl) Try.results78 (sr) ?_
 obtain rfl := inj1 r8
 exact .inl (by have e1 := hfull5; rw [List.append_nil] at e1; rw [List.append_nil, e1]; exact hJ4)
set_option maxHeartbeats 1000000 in
theorem round_crier_served_w {b_c : Nat} {walks_a : Option Addr} {walks_c : Nat} {walks : List (List Int)} {hears_a : Option Addr} {hears_c : Nat} {hears : List (List Int)} {houses start : Int} {notices_a : Option Addr} {notices_c : Nat} {notices : List ((List Int) × Int × Int)} {walks2 : List Int} {pairs_a : Option Addr} {pairs_c : Nat} {pairs : List (Int × Int)} {hit : List Int} {mb_c : Nat × Nat} {set_ : Int} {F : FS} (hb_c : F b_c = some (.cells ((([.slice walks_a walks.length walks_c] : List Value) ++ (([.slice hears_a hears.length hears_c] : List Value) ++ (([.int .i64 houses] : List Value) ++ (([.int .i64 start] : List Value) ++ (([.slice notices_a notices.length notices_c] : List Value) ++ (walks2.flatMap (cI .i64) ++ (([.slice pairs_a pairs.length pairs_c] : List Value) ++ (hit.flatMap (cI .i64))))))))).toArray) 101 mb_c)) (h_walks : RowR 1 (slE 1 (iE .i64)) F walks_a walks_c walks) (h_hears : RowR 1 (slE 1 (iE .i64)) F hears_a hears_c hears) (h_notices : RowR 3 (prE (slE 1 (iE .i64)) (prE (iE .i64) (iE .i64))) F notices_a notices_c notices) (h_walks2 : walks2.length = 25) (h_pairs : RowR 2 (prE (iE .i64) (iE .i64)) F pairs_a pairs_c pairs) (h_hit : hit.length = 15) {r : List ((Int × Int) × Int)} (hr : round_crier_served walks hears houses start notices walks2 pairs hit set_ = some r) :
    SH.Spec Try.prog 62 #[.pointer (some ⟨b_c, 0, none⟩), .int .i64 set_] F [] fun F' L' v => ∃ (rcp : Array Value), v = .func (.func 78) #[] rcp ∧ L' = [] ∧ IterOK Try.prog 78 #[] rcp F' (fun x : (Int × Int) × Int => #[.agg ((cP (cI .i64) (cI .i64)) x.1).toArray, .int .i64 x.2]) r := by
 refine spec_of_shW (args := [.pointer (some ⟨b_c, 0, none⟩), .int .i64 set_]) Try.func62 rfl Try.ntmps62 (Nat.le_of_ble_eq_true rfl) ?_
 intro K _ _; rw [round_crier_served] at hr
 refine wsr ?_
 refine o_box rfl rfl ?_; intro b1 hb1
 refine o_box rfl rfl ?_; intro b2 hb2
 refine oa rfl rfl (nsr ?_)
 refine ov (v_makeFunc rfl rfl) rfl ?_
 refine oa rfl rfl (shO_nil ?_)
 refine shW_freeze 1 rfl hb1 ?_; intro F3 hF4 hz5
 refine shW_L (L' := [(b2, .cells #[.int .i64 set_] 3 (0, 0))]) rfl ?_
 replace h_walks := h_walks.mono (slE_ok (iE_ok _)) hF4
 replace h_hears := h_hears.mono (slE_ok (iE_ok _)) hF4
 replace h_notices := h_notices.mono (prE_ok (slE_ok (iE_ok _)) (prE_ok (iE_ok _) (iE_ok _))) hF4
 replace h_pairs := h_pairs.mono (prE_ok (iE_ok _) (iE_ok _)) hF4
 replace hb_c := hF4 _ _ hb_c
 refine shW_freeze 0 rfl hb2 ?_; intro F6 hF7 hz8
 refine shW_L (L' := []) rfl ?_
 replace h_walks := h_walks.mono (slE_ok (iE_ok _)) hF7
 replace h_hears := h_hears.mono (slE_ok (iE_ok _)) hF7
 replace h_notices := h_notices.mono (prE_ok (slE_ok (iE_ok _)) (prE_ok (iE_ok _) (iE_ok _))) hF7
 replace h_pairs := h_pairs.mono (prE_ok (iE_ok _) (iE_ok _)) hF7
 replace hb_c := hF7 _ _ hb_c
 replace hz5 := hF7 _ _ hz5
 obtain ⟨l, h9, r11⟩ := b1_ok hr; clear hr
 have hit10 : IterOK Try.prog 78 #[] #[.pointer (some ⟨b1, 0, none⟩), .pointer (some ⟨b2, 0, none⟩)] F6 (fun x : (Int × Int) × Int => #[.agg ((cP (cI .i64) (cI .i64)) x.1).toArray, .int .i64 x.2]) l := round_crier_served_1_w hz5 hb_c h_walks h_hears h_notices h_walks2 h_pairs h_hit hz8 h9
 refine shW_ret ?_
 refine q_res1 Try.results62 (res_tmp rfl) (sr) ?_
 obtain rfl := inj1 r11
 exact ⟨_, rfl, rfl, hit10⟩
set_option maxHeartbeats 1000000 in
theorem slices_Reverse_round_Cry_round_Cry_w {s__a : Option Addr} {s__n s__c : Nat} {s__L : LH} {s_ : List (Int × Int)} {s__nb : Nat} {F : FS} (h_s_ : SlR s__nb 56 2 (prE (iE .i64) (iE .i64)) F s__a s__n s__c s_ s__L) {r : List (Int × Int)} (hr : slices_Reverse_round_Cry_round_Cry s_ = some r) :
    SH.Spec Try.prog 63 #[.slice s__a s__n s__c] F (s__L ++ []) fun F' L' v => ∃ (rL : LH), v = .tuple #[] ∧ L' = rL ++ [] ∧ SlR s__nb 56 2 (prE (iE .i64) (iE .i64)) F' s__a s__n s__c r rL := by
 refine spec_of_shW (args := [.slice s__a s__n s__c]) Try.func63 rfl Try.ntmps63 (Nat.le_of_ble_eq_true rfl) ?_
 intro K _ _; rw [slices_Reverse_round_Cry_round_Cry] at hr
 refine shW_L (L' := s__L ++ []) (by simp) ?_
 refine wsr (om rfl rfl ?_)
 refine ov ((v_lenS Try.underlying30 rfl).i (SlR.lenI h_s_)) rfl ?_
 obtain ⟨g1, r2⟩ := gd_ok hr; clear hr
 refine ov (v_sub rfl rfl g1) rfl ?_
 refine oa rfl rfl (oa rfl rfl (shO_nil ?_))
 refine shW_block ?_
 refine shW_lp (fun fu1 e1 F1 L1 => ∃ (s_2 : List (Int × Int)) (i : Int) (j : Int) (Lb3 : LH), slices_Reverse_round_Cry_round_Cry_l1 fu1 s_2 i j = some r ∧ F = F1 ∧ L1 = (Lb3 ++ []) ∧ e1.sub [(0, .slice s__a s__n s__c), (2, .int .i64 i), (3, .int .i64 j)] ∧ SlR s__nb 56 2 (prE (iE .i64) (iE .i64)) F1 s__a s__n s__c s_2 Lb3) FU (m0 kr ⟨s_, 0, (s_.length : Int) - 1, s__L, r2, rfl, rfl, (sc rfl (sc rfl (sc rfl (sn _)))), h_s_⟩) ?_
 rintro fu1 e1 _ _ ⟨s_2, i, j, Lb3, r7, rfl, rfl, he8, hz4⟩
 refine shW_env _ he8 ?_; clear he8
 rcases fu1 with _ | fu1
 · rw [slices_Reverse_round_Cry_round_Cry_l1] at r7; cases r7
 rw [slices_Reverse_round_Cry_round_Cry_l1] at r7
 refine shW_seq (wsr (om rfl rfl (om rfl rfl ?_)))
 refine ov (v_lssK rfl rfl) rfl ?_
 refine shO_nil ?_
 refine shW_condP rfl (fun c9 => ?_) (fun c9 => ?_)
 · have r10 := ite_t r7 c9; clear r7
   refine shW_skip (shW_seq ?_)
   refine shW_block ?_
   refine shW_drawM [(.still, 0), (.still, 1), (.still, 2), (.still, 3), (.still, 4), (.still, 5), (.still, 6), (.still, 7), (.still, 8), (.still, 9), (.still, 10), (.still, 11), (.still, 12), (.seq, 13), (.still, 14), (.seq, 15)] (by kernel_rfl) (by kernel_rfl) (trivial) (by rfl) (by kernel_rfl) ?_
   refine shM_v (v := .slice s__a s__n s__c) (ek := [(0, .slice s__a s__n s__c)]) (Ls := []) rfl rfl rfl rfl ((sc rfl (sn _))) (by kernel_rfl) sm (fun H F' L' hF' hL' => v_move rfl) ?_
   refine shM_v (v := .int .i64 i) (ek := [(2, .int .i64 i)]) (Ls := []) rfl rfl rfl rfl ((sc rfl (sn _))) (by kernel_rfl) sm (fun H F' L' hF' hL' => v_move rfl) ?_
   refine shM_v (v := .slice s__a s__n s__c) (ek := [(0, .slice s__a s__n s__c)]) (Ls := []) rfl rfl rfl rfl ((sc rfl (sn _))) (by kernel_rfl) sm (fun H F' L' hF' hL' => v_move rfl) ?_
   refine shM_v (v := .int .i64 j) (ek := [(3, .int .i64 j)]) (Ls := []) rfl rfl rfl rfl ((sc rfl (sn _))) (by kernel_rfl) sm (fun H F' L' hF' hL' => v_move rfl) ?_
   refine shM_v (v := .slice s__a s__n s__c) (ek := [(0, .slice s__a s__n s__c)]) (Ls := []) rfl rfl rfl rfl ((sc rfl (sn _))) (by kernel_rfl) sm (fun H F' L' hF' hL' => v_move rfl) ?_
   refine shM_v (v := .int .i64 j) (ek := [(3, .int .i64 j)]) (Ls := []) rfl rfl rfl rfl ((sc rfl (sn _))) (by kernel_rfl) sm (fun H F' L' hF' hL' => v_move rfl) ?_
   obtain ⟨x, g11, hx12, r13⟩ := ix_ok r10; clear r10
   obtain ⟨b14, o15, c16, vs17, ha18, hs19, hle20, ⟨_, _, rfl, rfl, rfl⟩, hl21, hc22⟩ := SlR.at (prE_ok (iE_ok _) (iE_ok _)) hz4 (L := Lb3 ++ []) fP g11.1 hx12
   refine shM_v (v := .pointer (some ⟨b14, o15 + (j : Int).toNat * 2, none⟩)) (ek := [(18, .slice s__a s__n s__c), (19, .int .i64 j)]) (Ls := []) rfl rfl rfl rfl ((sc rfl (sc rfl (sn _)))) (by kernel_rfl) sm (fun H F' L' hF' hL' => v_indexO Try.underlying30 Try.sizeOf56 rfl ha18 rfl (SlR.idx hz4 g11)) ?_
   refine shM_v (v := .agg #[.int .i64 x.1, .int .i64 x.2]) (ek := [(20, .pointer (some ⟨b14, o15 + (j : Int).toNat * 2, none⟩))]) (Ls := Lb3 ++ []) rfl rfl rfl rfl ((sc rfl (sn _))) (by kernel_rfl) (s0 sr) (fun H F' L' hF' hL' => v_loadA (cs := #[.int .i64 x.1, .int .i64 x.2]) Try.isAgg56 Try.sizeOf56 rfl (hs19.ext hF' hL') hle20 (extract_cells hle20 hl21 hc22)) ?_
   refine shM_v (v := .slice s__a s__n s__c) (ek := [(0, .slice s__a s__n s__c)]) (Ls := []) rfl rfl rfl rfl ((sc rfl (sn _))) (by kernel_rfl) sm (fun H F' L' hF' hL' => v_move rfl) ?_
   refine shM_v (v := .int .i64 i) (ek := [(2, .int .i64 i)]) (Ls := []) rfl rfl rfl rfl ((sc rfl (sn _))) (by kernel_rfl) sm (fun H F' L' hF' hL' => v_move rfl) ?_
   obtain ⟨x2, g23, hx24, r25⟩ := ix_ok r13; clear r13
   obtain ⟨b26, o27, c28, vs29, ha30, hs31, hle32, ⟨_, _, rfl, rfl, rfl⟩, hl33, hc34⟩ := SlR.at (prE_ok (iE_ok _) (iE_ok _)) hz4 (L := Lb3 ++ []) fP g23.1 hx24
   refine shM_v (v := .pointer (some ⟨b26, o27 + (i : Int).toNat * 2, none⟩)) (ek := [(22, .slice s__a s__n s__c), (23, .int .i64 i)]) (Ls := []) rfl rfl rfl rfl ((sc rfl (sc rfl (sn _)))) (by kernel_rfl) sm (fun H F' L' hF' hL' => v_indexO Try.underlying30 Try.sizeOf56 rfl ha30 rfl (SlR.idx hz4 g23)) ?_
   refine shM_v (v := .agg #[.int .i64 x2.1, .int .i64 x2.2]) (ek := [(24, .pointer (some ⟨b26, o27 + (i : Int).toNat * 2, none⟩))]) (Ls := Lb3 ++ []) rfl rfl rfl rfl ((sc rfl (sn _))) (by kernel_rfl) (s0 sr) (fun H F' L' hF' hL' => v_loadA (cs := #[.int .i64 x2.1, .int .i64 x2.2]) Try.isAgg56 Try.sizeOf56 rfl (hs31.ext hF' hL') hle32 (extract_cells hle32 hl33 hc34)) ?_
   obtain ⟨b35, o36, c37, vs38, ha39, hs40, hle41, ⟨_, _, rfl, rfl, rfl⟩, hl42, hc43⟩ := SlR.at (prE_ok (iE_ok _) (iE_ok _)) hz4 (L := Lb3 ++ []) fP g23.1 hx24
   refine shM_v (v := .pointer (some ⟨b35, o36 + (i : Int).toNat * 2, none⟩)) (ek := [(14, .slice s__a s__n s__c), (15, .int .i64 i)]) (Ls := []) rfl rfl rfl rfl ((sc rfl (sc rfl (sn _)))) (by kernel_rfl) sm (fun H F' L' hF' hL' => v_indexO Try.underlying30 Try.sizeOf56 rfl ha39 rfl (SlR.idx hz4 g23)) ?_
   refine ⟨_, [(21, .agg #[.int .i64 x.1, .int .i64 x.2]), (26, .pointer (some ⟨b35, o36 + (i : Int).toNat * 2, none⟩))], rfl, rfl, (sc rfl (sc rfl (sn _))), by kernel_rfl, ?_⟩; intro H
   obtain ⟨l, h44, r45⟩ := bv_ok r25; clear r25
   refine o_storeZ (u := (x.1, x.2)) Try.sizeOf56 (prE_ok (iE_ok _) (iE_ok _)) rfl ha39 rfl ⟨_, _, rfl, rfl, rfl⟩ (fun _ => .h) hz4 h44 g23 ?_; intro Lb46 hz47
   refine shO_nil ⟨undef, rfl, FExt.refl _, [3, 2], by kernel_rfl, .inl (.inr (fun d h => by cases h)), (List.forall_mem_cons.2 ⟨sm, (List.forall_mem_cons.2 ⟨sm, (fun _ h => absurd h List.not_mem_nil)⟩)⟩), ?_⟩
   obtain ⟨x3, g48, hx49, r50⟩ := ix_ok r45; clear r45
   obtain ⟨b51, o52, c53, vs54, ha55, hs56, hle57, ⟨_, _, rfl, rfl, rfl⟩, hl58, hc59⟩ := SlR.at (prE_ok (iE_ok _) (iE_ok _)) hz47 (L := Lb46 ++ []) fP g48.1 hx49
   refine shM_v (v := .pointer (some ⟨b51, o52 + (j : Int).toNat * 2, none⟩)) (ek := [(16, .slice s__a s__n s__c), (17, .int .i64 j)]) (Ls := []) rfl rfl rfl rfl ((sc rfl (sc rfl (sn _)))) (by kernel_rfl) sm (fun H F' L' hF' hL' => v_indexO Try.underlying30 Try.sizeOf56 rfl ha55 rfl (SlR.idx hz47 g48)) ?_
   refine ⟨_, [(25, .agg #[.int .i64 x2.1, .int .i64 x2.2]), (27, .pointer (some ⟨b51, o52 + (j : Int).toNat * 2, none⟩))], rfl, rfl, (sc rfl (sc rfl (sn _))), by kernel_rfl, ?_⟩; intro H
   obtain ⟨l2, h60, r61⟩ := bv_ok r50; clear r50
   refine o_storeZ (u := (x2.1, x2.2)) Try.sizeOf56 (prE_ok (iE_ok _) (iE_ok _)) rfl ha55 rfl ⟨_, _, rfl, rfl, rfl⟩ (fun _ => .h) hz47 h60 g48 ?_; intro Lb62 hz63
   refine shO_nil ⟨undef, rfl, FExt.refl _, [], by kernel_rfl, .inl (.inl rfl), (fun _ h => absurd h List.not_mem_nil), ?_⟩
   refine shM_nil ?_
   refine inBlock_n (id := 1) (shW_region (om rfl rfl ?_))
   obtain ⟨g64, r65⟩ := gd_ok r61; clear r61
   refine ov (v_add rfl rfl g64) rfl ?_
   refine om rfl rfl ?_
   obtain ⟨g66, r67⟩ := gd_ok r65; clear r65
   refine ov (v_sub rfl rfl g66) rfl ?_
   refine oa rfl rfl (oa rfl rfl (shO_nil ?_))
   exact le kr ⟨l2, i + 1, j - 1, Lb62, r67, rfl, rfl, (sc rfl (sc rfl (sc rfl (sn _)))), hz63⟩
 have r68 := ite_f r7 c9; clear r7
 refine shW_exit (andThen_exit (andThen_exit ?_))
 refine inBlock_exit ?_
 refine q_end0 (.inr rfl) Try.results63 ?_
 obtain rfl := inj1 r68
 exact ⟨_, rfl, rfl, hz4⟩
set_option maxHeartbeats 1000000 in
theorem round_crier_serve_w {b_c : Nat} {walks_a : Option Addr} {walks_c : Nat} {walks : List (List Int)} {hears_a : Option Addr} {hears_c : Nat} {hears : List (List Int)} {houses start : Int} {notices_a : Option Addr} {notices_c : Nat} {notices : List ((List Int) × Int × Int)} {walks2 : List Int} {pairs_a : Option Addr} {pairs_c : Nat} {pairs : List (Int × Int)} {hit : List Int} {mb_c : Nat × Nat} {set_ : Int} {ok_f : FuncId} {ok_1 ok_2 : Array Value} {ok : (Int × Int) → Option Bool} {F : FS} (hb_c : F b_c = some (.cells ((([.slice walks_a walks.length walks_c] : List Value) ++ (([.slice hears_a hears.length hears_c] : List Value) ++ (([.int .i64 houses] : List Value) ++ (([.int .i64 start] : List Value) ++ (([.slice notices_a notices.length notices_c] : List Value) ++ (walks2.flatMap (cI .i64) ++ (([.slice pairs_a pairs.length pairs_c] : List Value) ++ (hit.flatMap (cI .i64))))))))).toArray) 101 mb_c)) (h_walks : RowR 1 (slE 1 (iE .i64)) F walks_a walks_c walks) (h_hears : RowR 1 (slE 1 (iE .i64)) F hears_a hears_c hears) (h_notices : RowR 3 (prE (slE 1 (iE .i64)) (prE (iE .i64) (iE .i64))) F notices_a notices_c notices) (h_walks2 : walks2.length = 25) (h_pairs : RowR 2 (prE (iE .i64) (iE .i64)) F pairs_a pairs_c pairs) (h_hit : hit.length = 15) (h_ok : FnR Try.prog F ok_f ok_1 ok_2 (prE (iE .i64) (iE .i64)) Value.bool ok) {r : List (Int × Int)} {r2 : Int} {r3 : Bool} (hr : round_crier_serve walks hears houses start notices walks2 pairs hit set_ ok = some (r, r2, r3)) :
    SH.Spec Try.prog 31 #[.pointer (some ⟨b_c, 0, none⟩), .int .i64 set_, .agg #[.func (.func ok_f) ok_1 ok_2]] F [] fun F' L' v => ∃ (ra : Option Addr) (rn : Nat) (rc : Nat) (rL : LH), v = .tuple #[.slice ra rn rc, .int .i64 r2, .bool r3] ∧ L' = rL ++ [] ∧ SlR 0 56 2 (prE (iE .i64) (iE .i64)) F' ra rn rc r rL := by
 refine spec_of_shW (args := [.pointer (some ⟨b_c, 0, none⟩), .int .i64 set_, .agg #[.func (.func ok_f) ok_1 ok_2]]) Try.func31 rfl Try.ntmps31 (Nat.le_of_ble_eq_true rfl) ?_
 intro K _ _; rw [round_crier_serve] at hr
 refine wsr ?_
 refine o_box rfl rfl ?_; intro b1 hb1
 refine o_box rfl rfl ?_; intro b2 hb2
 refine oa rfl rfl (oa rfl rfl (oa rfl rfl (nsr ?_)))
 refine o_makeMap rfl ?_; intro b3 hb3
 refine ov (v_load Try.isAgg73 rfl (Has.own 2 rfl) rfl) rfl ?_
 refine ov (v_nilCheck rfl) rfl ?_
 refine ov (v_fieldAddr fa_101_0 rfl) rfl ?_
 refine ov (v_fieldAddr fa_26_3 rfl) rfl ?_
 refine ov (v_load Try.isAgg3 rfl (Has.frozen hb_c) (li_cell (li_skip (A := ([.slice walks_a walks.length walks_c] : List Value)) (k := 1) (o := 2) rfl (li_skip (A := ([.slice hears_a hears.length hears_c] : List Value)) (k := 1) (o := 1) rfl (li_skip (A := ([.int .i64 houses] : List Value)) (k := 1) (o := 0) rfl (li_here (B := ([.slice notices_a notices.length notices_c] : List Value) ++ (walks2.flatMap (cI .i64) ++ (([.slice pairs_a pairs.length pairs_c] : List Value) ++ (hit.flatMap (cI .i64))))) rfl)))))) rfl ?_
 refine om rfl rfl ?_
 refine ov (v_build (v := .agg #[.int .i64 start, .int .i64 set_]) rfl (by intro w; kernel_rfl)) rfl ?_
 refine ov (v_build (v := .agg #[.int .i64 0, .int .i64 0, .int .i64 0, .int .i64 0, .int .i64 0]) rfl (by intro w; kernel_rfl)) rfl ?_
 refine o_insert (i := 0) (k := (start, set_)) (v := (0, 0, 0, 0, 0)) Try.underlying120 key_117 rfl rfl rfl rfl (show MapR (vA (cP (cI .i64) (cI .i64))) (vA (cP (cI .i64) (cP (cI .i64) (cP (cI .i64) (cP (cI .i64) (cI .i64)))))) #[] ([] : List ((Int × Int) × (Int × Int × Int × Int × Int))) from MapR.nil) ?_; intro es4 cl5 hR6
 obtain ⟨met, h7, r8⟩ := bv_ok hr; clear hr
 rw [← h7] at hR6
 refine shO_L (L' := [(b3, .map es4 cl5), (b2, .cells #[.func (.func ok_f) ok_1 ok_2] 81 (0, 0)), (b1, .cells #[.pointer (some ⟨b_c, 0, none⟩)] 73 (0, 0))]) rfl ?_
 refine om rfl rfl ?_
 refine o_alloc rfl Try.zeroValue120 ?_; intro b9 hb9
 refine o_store (i := 0) Try.sizeOf120 rfl rfl rfl rfl (Nat.le_of_ble_eq_true rfl) ?_
 refine shO_L (L' := [(b9, .cells #[.map (some b3)] 120 (0, 0)), (b3, .map es4 cl5), (b2, .cells #[.func (.func ok_f) ok_1 ok_2] 81 (0, 0)), (b1, .cells #[.pointer (some ⟨b_c, 0, none⟩)] 73 (0, 0))]) rfl ?_
 refine shO_nil ?_
 obtain ⟨met2, h13, r14⟩ := b1_ok r8; clear r8
 refine shW_join (fun e1 F1 L1 => ∃ (es10 : Array MapEntry) (cl11 : Nat), FExt F F1 ∧ L1 = [(b9, .cells #[.map (some b3)] 120 (0, 0)), (b3, .map es10 cl11), (b1, .cells #[.pointer (some ⟨b_c, 0, none⟩)] 73 (0, 0))] ∧ e1.sub [(1, .int .i64 set_), (3, .pointer (some ⟨b1, 0, none⟩)), (9, .pointer (some ⟨b9, 0, none⟩))] ∧ MapR (vA (cP (cI .i64) (cI .i64))) (vA (cP (cI .i64) (cP (cI .i64) (cP (cI .i64) (cP (cI .i64) (cI .i64)))))) es10 met2) ?_ ?_
 · clear r14
   refine wsr (om rfl rfl (oa rfl rfl (shO_nil ?_)))
   refine shW_block ?_
   refine shW_lp (fun fu1 e1 F1 L1 => ∃ (met3 : List ((Int × Int) × (Int × Int × Int × Int × Int))) (left_ : Int) (es15 : Array MapEntry) (cl16 : Nat), round_crier_serve_l1 walks hears houses start notices walks2 pairs hit set_ ok fu1 met3 left_ = some met2 ∧ FExt F F1 ∧ L1 = [(b9, .cells #[.map (some b3)] 120 (0, 0)), (b3, .map es15 cl16), (b2, .cells #[.func (.func ok_f) ok_1 ok_2] 81 (0, 0)), (b1, .cells #[.pointer (some ⟨b_c, 0, none⟩)] 73 (0, 0))] ∧ e1.sub [(1, .int .i64 set_), (3, .pointer (some ⟨b1, 0, none⟩)), (5, .pointer (some ⟨b2, 0, none⟩)), (9, .pointer (some ⟨b9, 0, none⟩)), (10, .int .i64 left_)] ∧ MapR (vA (cP (cI .i64) (cI .i64))) (vA (cP (cI .i64) (cP (cI .i64) (cP (cI .i64) (cP (cI .i64) (cI .i64)))))) es15 met3) FU (m0 kr ⟨met, set_, es4, cl5, h13, FExt.refl _, rfl, (sc rfl (sc rfl (sc rfl (sc rfl (sc rfl (sn _)))))), hR6⟩) ?_
   rintro fu1 e1 F22 _ ⟨met3, left_, es15, cl16, r20, hF23, rfl, he21, hR17⟩
   refine shW_env _ he21 ?_; clear he21
   replace h_walks := h_walks.mono (slE_ok (iE_ok _)) hF23
   replace h_hears := h_hears.mono (slE_ok (iE_ok _)) hF23
   replace h_notices := h_notices.mono (prE_ok (slE_ok (iE_ok _)) (prE_ok (iE_ok _) (iE_ok _))) hF23
   replace h_pairs := h_pairs.mono (prE_ok (iE_ok _) (iE_ok _)) hF23
   replace h_ok := h_ok.mono hF23
   replace hb_c := hF23 _ _ hb_c
   rcases fu1 with _ | fu1
   · rw [round_crier_serve_l1] at r20; cases r20
   rw [round_crier_serve_l1] at r20
   refine shW_seq (wsr (om rfl rfl ?_))
   refine ov (v_gtrK rfl rfl) rfl ?_
   refine shO_nil ?_
   refine shW_condP rfl (fun c24 => ?_) (fun c24 => ?_)
   · have r25 := ite_t r20 c24; clear r20
     refine shW_skip ?_
     obtain ⟨met4, h29, r30⟩ := b1_ok r25; clear r25
     refine shW_join (fun e1 F1 L1 => ∃ (es26 : Array MapEntry) (cl27 : Nat), FExt F22 F1 ∧ L1 = [(b9, .cells #[.map (some b3)] 120 (0, 0)), (b3, .map es26 cl27), (b2, .cells #[.func (.func ok_f) ok_1 ok_2] 81 (0, 0)), (b1, .cells #[.pointer (some ⟨b_c, 0, none⟩)] 73 (0, 0))] ∧ e1.sub [(1, .int .i64 set_), (3, .pointer (some ⟨b1, 0, none⟩)), (5, .pointer (some ⟨b2, 0, none⟩)), (9, .pointer (some ⟨b9, 0, none⟩)), (10, .int .i64 left_)] ∧ MapR (vA (cP (cI .i64) (cI .i64))) (vA (cP (cI .i64) (cP (cI .i64) (cP (cI .i64) (cP (cI .i64) (cI .i64)))))) es26 met4) ?_ ?_
     · clear r30
       refine shW_block ?_
       refine shW_seq (wsr (om rfl rfl (om rfl rfl ?_)))
       refine ov (v_andNot rfl rfl) rfl ?_
       refine ov (v_neq rfl rfl) rfl ?_
       refine shO_nil ?_
       refine shW_condP rfl (fun c31 => ?_) (fun c31 => ?_)
       · have r32 := ite_t h29 c31; clear h29
         refine shW_exit (andThen_exit ?_)
         refine inBlock_exit ?_
         obtain rfl := inj1 r32
         exact mi kr ⟨es15, cl16, FExt.refl _, rfl, (sc rfl (sc rfl (sc rfl (sc rfl (sc rfl (sn _)))))), hR17⟩
       have r33 := ite_f h29 c31; clear h29
       refine shW_skip (wsr ?_)
       refine ov (v_load Try.isAgg73 rfl (Has.own 3 rfl) rfl) rfl ?_
       refine ov (v_nilCheck rfl) rfl ?_
       refine ov (v_fieldAddr fa_101_0 rfl) rfl ?_
       refine ov (v_fieldAddr fa_26_1 rfl) rfl ?_
       refine ov (v_load Try.isAgg23 rfl (Has.frozen hb_c) (li_cell (li_skip (A := ([.slice walks_a walks.length walks_c] : List Value)) (k := 1) (o := 0) rfl (li_here (B := ([.int .i64 houses] : List Value) ++ (([.int .i64 start] : List Value) ++ (([.slice notices_a notices.length notices_c] : List Value) ++ (walks2.flatMap (cI .i64) ++ (([.slice pairs_a pairs.length pairs_c] : List Value) ++ (hit.flatMap (cI .i64))))))) rfl)))) rfl ?_
       refine ov (v_lenS Try.underlying23 rfl) rfl ?_
       refine om rfl rfl (shO_nil ?_)
       refine shW_block ?_
       refine shW_lp (fun fu2 e1 F1 L1 => ∃ (tl : List (List Int)) (k : Int), tl.length = fu2 ∧ Lst hears k tl ∧ ∃ (met5 : List ((Int × Int) × (Int × Int × Int × Int × Int))) (es34 : Array MapEntry) (cl35 : Nat), round_crier_serve_l2 walks hears houses start notices walks2 pairs hit ok left_ tl k met5 = some met4 ∧ FExt F22 F1 ∧ L1 = [(b9, .cells #[.map (some b3)] 120 (0, 0)), (b3, .map es34 cl35), (b2, .cells #[.func (.func ok_f) ok_1 ok_2] 81 (0, 0)), (b1, .cells #[.pointer (some ⟨b_c, 0, none⟩)] 73 (0, 0))] ∧ e1.sub [(1, .int .i64 set_), (3, .pointer (some ⟨b1, 0, none⟩)), (5, .pointer (some ⟨b2, 0, none⟩)), (9, .pointer (some ⟨b9, 0, none⟩)), (10, .int .i64 left_), (53, .int .i64 (hears.length : Int)), (54, .int .i64 k)] ∧ MapR (vA (cP (cI .i64) (cI .i64))) (vA (cP (cI .i64) (cP (cI .i64) (cP (cI .i64) (cP (cI .i64) (cI .i64)))))) es34 met5) _ (m0 kr ⟨_, _, rfl, Lst.start _, met3, es15, cl16, r33, FExt.refl _, rfl, (sc rfl (sc rfl (sc rfl (sc rfl (sc rfl (sc rfl (sc rfl (sn _)))))))), hR17⟩) ?_
       rintro fu2 e1 F41 _ ⟨tl, k, hn38, hk37, met5, es34, cl35, r39, hF42, rfl, he40, hR36⟩
       refine shW_env _ he40 ?_; clear he40
       replace h_walks := h_walks.mono (slE_ok (iE_ok _)) hF42
       replace h_hears := h_hears.mono (slE_ok (iE_ok _)) hF42
       replace h_notices := h_notices.mono (prE_ok (slE_ok (iE_ok _)) (prE_ok (iE_ok _) (iE_ok _))) hF42
       replace h_pairs := h_pairs.mono (prE_ok (iE_ok _) (iE_ok _)) hF42
       replace h_ok := h_ok.mono hF42
       replace hb_c := hF42 _ _ hb_c
       refine wsr ?_
       refine ov (v_lssK rfl rfl) rfl ?_
       refine shO_nil (shW_seq ?_)
       refine shW_condP rfl (fun c44 => ?_) (fun c44 => ?_)
       · obtain ⟨x, tl2, rfl, hx46, g47, hk45⟩ := Lst.succ hk37 c44
         rw [round_crier_serve_l2] at r39
         refine shW_skip ?_
         obtain ⟨met6, h51, r52⟩ := b1_ok r39; clear r39
         refine shW_join (fun e1 F1 L1 => ∃ (es48 : Array MapEntry) (cl49 : Nat), FExt F41 F1 ∧ L1 = [(b9, .cells #[.map (some b3)] 120 (0, 0)), (b3, .map es48 cl49), (b2, .cells #[.func (.func ok_f) ok_1 ok_2] 81 (0, 0)), (b1, .cells #[.pointer (some ⟨b_c, 0, none⟩)] 73 (0, 0))] ∧ e1.sub [(1, .int .i64 set_), (3, .pointer (some ⟨b1, 0, none⟩)), (5, .pointer (some ⟨b2, 0, none⟩)), (9, .pointer (some ⟨b9, 0, none⟩)), (10, .int .i64 left_), (53, .int .i64 (hears.length : Int)), (54, .int .i64 k)] ∧ MapR (vA (cP (cI .i64) (cI .i64))) (vA (cP (cI .i64) (cP (cI .i64) (cP (cI .i64) (cP (cI .i64) (cI .i64)))))) es48 met6) ?_ ?_
         · clear r52
           refine shW_block ?_
           refine wsr (om rfl rfl ?_)
           refine o_alloc rfl Try.zeroValue3 ?_; intro b53 hb53
           refine o_store (i := 0) Try.sizeOf3 rfl rfl rfl rfl (Nat.le_of_ble_eq_true rfl) ?_
           refine shO_L (L' := [(b53, .cells #[.int .i64 k] 3 (0, 0)), (b9, .cells #[.map (some b3)] 120 (0, 0)), (b3, .map es34 cl35), (b2, .cells #[.func (.func ok_f) ok_1 ok_2] 81 (0, 0)), (b1, .cells #[.pointer (some ⟨b_c, 0, none⟩)] 73 (0, 0))]) rfl ?_
           refine nsr ?_
           refine ov (v_load Try.isAgg3 rfl (Has.own 0 rfl) rfl) rfl ?_
           refine om rfl rfl ?_
           refine ov (v_build (v := .agg #[.int .i64 k, .int .i64 left_]) rfl (by intro w; kernel_rfl)) rfl ?_
           refine o_alloc rfl Try.zeroValue117 ?_; intro b54 hb54
           refine o_storeA (i := 0) Try.sizeOf117 rfl rfl rfl (by simp [Value.oneCell']) rfl (Nat.le_of_ble_eq_true rfl) ?_
           refine shO_L (L' := [(b54, .cells #[.int .i64 k, .int .i64 left_] 117 (0, 0)), (b53, .cells #[.int .i64 k] 3 (0, 0)), (b9, .cells #[.map (some b3)] 120 (0, 0)), (b3, .map es34 cl35), (b2, .cells #[.func (.func ok_f) ok_1 ok_2] 81 (0, 0)), (b1, .cells #[.pointer (some ⟨b_c, 0, none⟩)] 73 (0, 0))]) rfl ?_
           refine nsr ?_
           refine ov (v_load Try.isAgg120 rfl (Has.own 2 rfl) rfl) rfl ?_
           refine ov (v_loadA (cs := #[.int .i64 k, .int .i64 left_]) Try.isAgg117 Try.sizeOf117 rfl (Has.own 0 rfl) (Nat.le_of_ble_eq_true rfl) rfl) rfl ?_
           refine ov (OpV.eq (v' := .tuple #[.agg #[.int .i64 (((mget met5 (k, left_)).getD (0, 0, 0, 0, 0)).1), .int .i64 (((mget met5 (k, left_)).getD (0, 0, 0, 0, 0)).2.1), .int .i64 (((mget met5 (k, left_)).getD (0, 0, 0, 0, 0)).2.2.1), .int .i64 (((mget met5 (k, left_)).getD (0, 0, 0, 0, 0)).2.2.2.1), .int .i64 (((mget met5 (k, left_)).getD (0, 0, 0, 0, 0)).2.2.2.2)], .bool ((mget met5 (k, left_)).isSome)]) (v_lookS2 (k := (k, left_)) (z0 := (0, 0, 0, 0, 0)) rfl Try.underlying120 key_117 Try.zeroValue119 rfl rfl (HasM.own 3 rfl) (show MapR (vA (cP (cI .i64) (cI .i64))) (vA (cP (cI .i64) (cP (cI .i64) (cP (cI .i64) (cP (cI .i64) (cI .i64)))))) es34 (met5 : List ((Int × Int) × (Int × Int × Int × Int × Int))) from hR36)) rfl) rfl ?_
           refine om rfl rfl (ox rfl rfl rfl (ox rfl rfl rfl ?_))
           refine o_alloc rfl Try.zeroValue119 ?_; intro b55 hb55
           refine o_storeA (i := 0) Try.sizeOf119 rfl rfl rfl (by simp [Value.oneCell']) rfl (Nat.le_of_ble_eq_true rfl) ?_
           refine shO_L (L' := [(b55, .cells #[.int .i64 (((mget met5 (k, left_)).getD (0, 0, 0, 0, 0)).1), .int .i64 (((mget met5 (k, left_)).getD (0, 0, 0, 0, 0)).2.1), .int .i64 (((mget met5 (k, left_)).getD (0, 0, 0, 0, 0)).2.2.1), .int .i64 (((mget met5 (k, left_)).getD (0, 0, 0, 0, 0)).2.2.2.1), .int .i64 (((mget met5 (k, left_)).getD (0, 0, 0, 0, 0)).2.2.2.2)] 119 (0, 0)), (b54, .cells #[.int .i64 k, .int .i64 left_] 117 (0, 0)), (b53, .cells #[.int .i64 k] 3 (0, 0)), (b9, .cells #[.map (some b3)] 120 (0, 0)), (b3, .map es34 cl35), (b2, .cells #[.func (.func ok_f) ok_1 ok_2] 81 (0, 0)), (b1, .cells #[.pointer (some ⟨b_c, 0, none⟩)] 73 (0, 0))]) rfl ?_
           refine oa rfl rfl (shO_nil (shW_seq (wsr (om rfl rfl ?_))))
           refine ov (v_notB rfl) rfl ?_
           refine shO_nil ?_
           refine shW_cond rfl (fun c56 => ?_) (fun c56 => ?_)
           · have r57 := bt h51 c56; clear h51
             refine shW_exit (andThen_exit ?_)
             refine inBlock_exit ?_
             obtain rfl := inj1 r57
             exact mi (kd (kd (kd kr))) ⟨es34, cl35, FExt.refl _, rfl, (sc rfl (sc rfl (sc rfl (sc rfl (sc rfl (sc rfl (sc rfl (sn _)))))))), hR36⟩
           have r58 := bf h51 c56; clear h51
           refine shW_skip (wsr ?_)
           refine ov (v_load Try.isAgg73 rfl (Has.own 6 rfl) rfl) rfl ?_
           refine om rfl rfl ?_
           obtain ⟨y, h59, r60⟩ := b1_ok r58; clear r58
           refine o_call0 rfl Try.call62 rfl rfl rfl (round_crier_served_w hb_c h_walks h_hears h_notices h_walks2 h_pairs h_hit h59) ?_; rintro _ F61 _ hF62 hn63 ⟨cp65, rfl, rfl, hit66⟩
           replace h_notices := h_notices.mono (prE_ok (slE_ok (iE_ok _)) (prE_ok (iE_ok _) (iE_ok _))) hF62
           replace h_ok := h_ok.mono hF62
           replace hb_c := hF62 _ _ hb_c
           refine shO_L (ln rfl) ?_
           refine shO_nil ?_
           refine shW_block ?_
           refine shW_rangeFunc (encs := (fun x : (Int × Int) × Int => #[.agg ((cP (cI .i64) (cI .i64)) x.1).toArray, .int .i64 x.2])) (xs := y) rfl Try.call78 rfl (fun _ => rfl) hit66 (fun pre F1 L1 => ∃ (tl3 : List ((Int × Int) × Int)) (met7 : List ((Int × Int) × (Int × Int × Int × Int × Int))) (es67 : Array MapEntry) (cl68 : Nat), y = pre ++ tl3 ∧ round_crier_serve_l3 notices walks2 ok left_ met5 k tl3 met7 = some met6 ∧ L1 = [(b55, .cells #[.int .i64 (((mget met5 (k, left_)).getD (0, 0, 0, 0, 0)).1), .int .i64 (((mget met5 (k, left_)).getD (0, 0, 0, 0, 0)).2.1), .int .i64 (((mget met5 (k, left_)).getD (0, 0, 0, 0, 0)).2.2.1), .int .i64 (((mget met5 (k, left_)).getD (0, 0, 0, 0, 0)).2.2.2.1), .int .i64 (((mget met5 (k, left_)).getD (0, 0, 0, 0, 0)).2.2.2.2)] 119 (0, 0)), (b54, .cells #[.int .i64 k, .int .i64 left_] 117 (0, 0)), (b53, .cells #[.int .i64 k] 3 (0, 0)), (b9, .cells #[.map (some b3)] 120 (0, 0)), (b3, .map es67 cl68), (b2, .cells #[.func (.func ok_f) ok_1 ok_2] 81 (0, 0)), (b1, .cells #[.pointer (some ⟨b_c, 0, none⟩)] 73 (0, 0))] ∧ MapR (vA (cP (cI .i64) (cI .i64))) (vA (cP (cI .i64) (cP (cI .i64) (cP (cI .i64) (cP (cI .i64) (cI .i64)))))) es67 met7) (fun _ _ _ => False) ?_ ?_ ?_ ?_ ?_ ?_
           · rintro pre F1 F2 L1 ⟨tl3, met7, es67, cl68, hs70, r71, rfl, hR69⟩ hx; exact ⟨tl3, met7, es67, cl68, hs70, r71, rfl, hR69⟩
           · intro c F1 F2 L1 h hx; exact h
           · exact ⟨_, met5, es34, cl35, rfl, r60, rfl, hR36⟩
           · rintro l72 wr73 Fr74 Xr75 Ha76 Hb77 hnb78 hH82 pre x2 tl4 hxs81 F79 _ hF80 ⟨tl3, met7, es67, cl68, hs70, r83, rfl, hR69⟩
             obtain rfl := rest_head hs70 hxs81
             rw [round_crier_serve_l3] at r83
             replace h_notices := h_notices.mono (prE_ok (slE_ok (iE_ok _)) (prE_ok (iE_ok _) (iE_ok _))) hF80
             replace h_ok := h_ok.mono hF80
             replace hb_c := hF80 _ _ hb_c
             refine shW_env [(1, .int .i64 set_), (3, .pointer (some ⟨b1, 0, none⟩)), (5, .pointer (some ⟨b2, 0, none⟩)), (9, .pointer (some ⟨b9, 0, none⟩)), (10, .int .i64 left_), (11, .pointer (some ⟨b53, 0, none⟩)), (12, .pointer (some ⟨b54, 0, none⟩)), (13, .pointer (some ⟨b55, 0, none⟩)), (53, .int .i64 (hears.length : Int)), (54, .int .i64 k), (71, .agg #[.int .i64 x2.1.1, .int .i64 x2.1.2]), (72, .int .i64 x2.2)] (by exact (sc rfl (sc rfl (sc rfl (sc rfl (sc rfl (sc rfl (sc rfl (sc rfl (sc rfl (sc rfl (sc rfl (sc rfl (sn _)))))))))))))) ?_
             refine wsr ?_
             refine o_alloc rfl Try.zeroValue56 ?_; intro b84 hb84
             refine o_storeA (i := 0) Try.sizeOf56 rfl rfl rfl (by simp [Value.oneCell']) rfl (Nat.le_of_ble_eq_true rfl) ?_
             refine shO_L (L' := [(b84, .cells #[.int .i64 x2.1.1, .int .i64 x2.1.2] 56 (0, 0)), (b55, .cells #[.int .i64 (((mget met5 (k, left_)).getD (0, 0, 0, 0, 0)).1), .int .i64 (((mget met5 (k, left_)).getD (0, 0, 0, 0, 0)).2.1), .int .i64 (((mget met5 (k, left_)).getD (0, 0, 0, 0, 0)).2.2.1), .int .i64 (((mget met5 (k, left_)).getD (0, 0, 0, 0, 0)).2.2.2.1), .int .i64 (((mget met5 (k, left_)).getD (0, 0, 0, 0, 0)).2.2.2.2)] 119 (0, 0)), (b54, .cells #[.int .i64 k, .int .i64 left_] 117 (0, 0)), (b53, .cells #[.int .i64 k] 3 (0, 0)), (b9, .cells #[.map (some b3)] 120 (0, 0)), (b3, .map es67 cl68), (b2, .cells #[.func (.func ok_f) ok_1 ok_2] 81 (0, 0)), (b1, .cells #[.pointer (some ⟨b_c, 0, none⟩)] 73 (0, 0))]) rfl ?_
             refine shO_nil (shW_region (oa rfl rfl (shO_nil ?_)))
             refine ⟨rfl, ?_⟩
             refine shW_block ?_
             refine wsd (by kernel_rfl) (by kernel_rfl) (by kernel_rfl) ?_
             refine qv (v_load Try.isAgg73 rfl (Has.own 7 rfl) rfl) rfl ?_
             refine qv (v_load Try.isAgg3 rfl (Has.own 3 rfl) rfl) rfl ?_
             refine qv (v_fieldAddr fa_56_0 rfl) rfl ?_
             refine qv (v_load Try.isAgg3 rfl (Has.own 0 rfl) rfl) rfl ?_
             refine qv (v_nilCheck rfl) rfl ?_
             refine qv (v_fieldAddr fa_101_1 rfl) rfl ?_
             obtain ⟨g85, r86⟩ := gd_ok r83; clear r83
             refine qv (v_indexA Try.underlying97 Try.sizeOf95 rfl rfl g85) rfl ?_
             obtain ⟨g87, r88⟩ := gd_ok r86; clear r86
             obtain ⟨x3, g89, hx90, r91⟩ := ix_ok r88; clear r88
             have hq93 : (k * 5 + x2.1.1 : Int).toNat = (k : Int).toNat * 5 + (x2.1.1 : Int).toNat := by have := g85; have := g87; omega
             have hc92 := el_at2 (cI_ok .i64) h_walks2 hq93 hx90 (li_arr (li_skip (A := ([.slice walks_a walks.length walks_c] : List Value)) (k := 1) (o := 4) rfl (li_skip (A := ([.slice hears_a hears.length hears_c] : List Value)) (k := 1) (o := 3) rfl (li_skip (A := ([.int .i64 houses] : List Value)) (k := 1) (o := 2) rfl (li_skip (A := ([.int .i64 start] : List Value)) (k := 1) (o := 1) rfl (li_skip (A := ([.slice notices_a notices.length notices_c] : List Value)) (k := 1) (o := 0) rfl (li_here (B := ([.slice pairs_a pairs.length pairs_c] : List Value) ++ (hit.flatMap (cI .i64))) (lfl (cI_ok .i64) h_walks2)))))))) (li_le (li_skip (A := ([.slice walks_a walks.length walks_c] : List Value)) (k := 1) (o := 4) rfl (li_skip (A := ([.slice hears_a hears.length hears_c] : List Value)) (k := 1) (o := 3) rfl (li_skip (A := ([.int .i64 houses] : List Value)) (k := 1) (o := 2) rfl (li_skip (A := ([.int .i64 start] : List Value)) (k := 1) (o := 1) rfl (li_skip (A := ([.slice notices_a notices.length notices_c] : List Value)) (k := 1) (o := 0) rfl (li_here (B := ([.slice pairs_a pairs.length pairs_c] : List Value) ++ (hit.flatMap (cI .i64))) (lfl (cI_ok .i64) h_walks2))))))))
             refine qv (v_indexA Try.underlying95 Try.sizeOf3 rfl rfl g87) rfl ?_
             refine qv (v_load Try.isAgg3 rfl (Has.frozen hb_c) ((hc92).2.2 0 (by decide))) rfl ?_
             refine qa rfl rfl (shQ_nil (shW_seq (wsr (om rfl rfl ?_))))
             refine ov (v_eql rfl rfl) rfl ?_
             refine shO_nil ?_
             refine shW_condP rfl (fun c94 => ?_) (fun c94 => ?_)
             · have r95 := ite_t r91 c94; clear r91
               refine shW_exit (andThen_exit ?_)
               refine inBlock_exit ?_
               refine ⟨[(b55, .cells #[.int .i64 (((mget met5 (k, left_)).getD (0, 0, 0, 0, 0)).1), .int .i64 (((mget met5 (k, left_)).getD (0, 0, 0, 0, 0)).2.1), .int .i64 (((mget met5 (k, left_)).getD (0, 0, 0, 0, 0)).2.2.1), .int .i64 (((mget met5 (k, left_)).getD (0, 0, 0, 0, 0)).2.2.2.1), .int .i64 (((mget met5 (k, left_)).getD (0, 0, 0, 0, 0)).2.2.2.2)] 119 (0, 0)), (b54, .cells #[.int .i64 k, .int .i64 left_] 117 (0, 0)), (b53, .cells #[.int .i64 k] 3 (0, 0)), (b9, .cells #[.map (some b3)] 120 (0, 0)), (b3, .map es67 cl68), (b2, .cells #[.func (.func ok_f) ok_1 ok_2] 81 (0, 0)), (b1, .cells #[.pointer (some ⟨b_c, 0, none⟩)] 73 (0, 0))], ⟨_, .refl _, s1 (s2 (s2 (s2 (s2 (s2 (s2 (s2 sr)))))))⟩, ?_⟩; exact ⟨_, met7, es67, cl68, (by rw [hxs81]; simp), r95, rfl, hR69⟩
             have r96 := ite_f r91 c94; clear r91
             refine shW_skip ?_
             refine wsd (by kernel_rfl) (by kernel_rfl) (by kernel_rfl) ?_
             refine qv (v_fieldAddr fa_119_0 rfl) rfl ?_
             refine qv (v_load Try.isAgg3 rfl (Has.own 1 rfl) rfl) rfl ?_
             refine qm rfl rfl ?_
             obtain ⟨g97, r98⟩ := gd_ok r96; clear r96
             refine qv (v_add rfl rfl g97) rfl ?_
             refine qv (v_load Try.isAgg73 rfl (Has.own 7 rfl) rfl) rfl ?_
             refine qv (v_nilCheck rfl) rfl ?_
             refine qv (v_fieldAddr fa_101_0 rfl) rfl ?_
             refine qv (v_fieldAddr fa_26_4 rfl) rfl ?_
             refine qv (v_load Try.isAgg24 rfl (Has.frozen hb_c) (li_cell (li_skip (A := ([.slice walks_a walks.length walks_c] : List Value)) (k := 1) (o := 3) rfl (li_skip (A := ([.slice hears_a hears.length hears_c] : List Value)) (k := 1) (o := 2) rfl (li_skip (A := ([.int .i64 houses] : List Value)) (k := 1) (o := 1) rfl (li_skip (A := ([.int .i64 start] : List Value)) (k := 1) (o := 0) rfl (li_here (B := walks2.flatMap (cI .i64) ++ (([.slice pairs_a pairs.length pairs_c] : List Value) ++ (hit.flatMap (cI .i64)))) rfl))))))) rfl ?_
             refine qv (v_fieldAddr fa_56_1 rfl) rfl ?_
             refine qv (v_load Try.isAgg3 rfl (Has.own 0 rfl) rfl) rfl ?_
             obtain ⟨x4, g99, hx100, r101⟩ := ix_ok r98; clear r98
             obtain ⟨b102, o103, c104, vs105, ha106, hs107, hle108, ⟨_, _, rfl, ⟨a111, c112, rfl, h113⟩, ⟨_, _, rfl, rfl, rfl⟩⟩, hl109, hc110⟩ := RowR.at (prE_ok (slE_ok (iE_ok _)) (prE_ok (iE_ok _) (iE_ok _))) h_notices ([(b84, .cells #[.int .i64 x2.1.1, .int .i64 x2.1.2] 56 (0, 0)), (b55, .cells #[.int .i64 (((mget met5 (k, left_)).getD (0, 0, 0, 0, 0)).1), .int .i64 (((mget met5 (k, left_)).getD (0, 0, 0, 0, 0)).2.1), .int .i64 (((mget met5 (k, left_)).getD (0, 0, 0, 0, 0)).2.2.1), .int .i64 (((mget met5 (k, left_)).getD (0, 0, 0, 0, 0)).2.2.2.1), .int .i64 (((mget met5 (k, left_)).getD (0, 0, 0, 0, 0)).2.2.2.2)] 119 (0, 0)), (b54, .cells #[.int .i64 k, .int .i64 left_] 117 (0, 0)), (b53, .cells #[.int .i64 k] 3 (0, 0)), (b9, .cells #[.map (some b3)] 120 (0, 0)), (b3, .map es67 cl68), (b2, .cells #[.func (.func ok_f) ok_1 ok_2] 81 (0, 0)), (b1, .cells #[.pointer (some ⟨b_c, 0, none⟩)] 73 (0, 0))]) g99.1 hx100
             refine qv (v_indexO Try.underlying24 Try.sizeOf40 rfl ha106 rfl g99) rfl ?_
             refine qv (v_fieldAddr fa_40_1 rfl) rfl ?_
             refine qv (v_load Try.isAgg3 rfl hs107 (hc110 1 (by decide))) rfl ?_
             obtain ⟨g114, r115⟩ := gd_ok r101; clear r101
             refine qv (v_add rfl rfl g114) rfl ?_
             obtain ⟨end_, h116, r117⟩ := bv_ok r115; clear r115
             refine qv ((v_assign rfl).i h116) rfl ?_
             refine qsr ?_
             refine ov (v_fieldAddr fa_56_0 rfl) rfl ?_
             refine ov (v_load Try.isAgg3 rfl (Has.own 0 rfl) rfl) rfl ?_
             refine om rfl rfl ?_
             refine ov (v_build (v := .agg #[.int .i64 x2.1.1, .int .i64 x2.2]) rfl (by intro w; kernel_rfl)) rfl ?_
             refine o_alloc rfl Try.zeroValue117 ?_; intro b118 hb118
             refine o_storeA (i := 0) Try.sizeOf117 rfl rfl rfl (by simp [Value.oneCell']) rfl (Nat.le_of_ble_eq_true rfl) ?_
             refine shO_L (L' := [(b118, .cells #[.int .i64 x2.1.1, .int .i64 x2.2] 117 (0, 0)), (b84, .cells #[.int .i64 x2.1.1, .int .i64 x2.1.2] 56 (0, 0)), (b55, .cells #[.int .i64 (((mget met5 (k, left_)).getD (0, 0, 0, 0, 0)).1), .int .i64 (((mget met5 (k, left_)).getD (0, 0, 0, 0, 0)).2.1), .int .i64 (((mget met5 (k, left_)).getD (0, 0, 0, 0, 0)).2.2.1), .int .i64 (((mget met5 (k, left_)).getD (0, 0, 0, 0, 0)).2.2.2.1), .int .i64 (((mget met5 (k, left_)).getD (0, 0, 0, 0, 0)).2.2.2.2)] 119 (0, 0)), (b54, .cells #[.int .i64 k, .int .i64 left_] 117 (0, 0)), (b53, .cells #[.int .i64 k] 3 (0, 0)), (b9, .cells #[.map (some b3)] 120 (0, 0)), (b3, .map es67 cl68), (b2, .cells #[.func (.func ok_f) ok_1 ok_2] 81 (0, 0)), (b1, .cells #[.pointer (some ⟨b_c, 0, none⟩)] 73 (0, 0))]) rfl ?_
             refine nsr ?_
             refine ov (v_load Try.isAgg120 rfl (Has.own 5 rfl) rfl) rfl ?_
             refine ov (v_loadA (cs := #[.int .i64 x2.1.1, .int .i64 x2.2]) Try.isAgg117 Try.sizeOf117 rfl (Has.own 0 rfl) (Nat.le_of_ble_eq_true rfl) rfl) rfl ?_
             refine ov (OpV.eq (v' := .tuple #[.agg #[.int .i64 (((mget met7 (x2.1.1, x2.2)).getD (0, 0, 0, 0, 0)).1), .int .i64 (((mget met7 (x2.1.1, x2.2)).getD (0, 0, 0, 0, 0)).2.1), .int .i64 (((mget met7 (x2.1.1, x2.2)).getD (0, 0, 0, 0, 0)).2.2.1), .int .i64 (((mget met7 (x2.1.1, x2.2)).getD (0, 0, 0, 0, 0)).2.2.2.1), .int .i64 (((mget met7 (x2.1.1, x2.2)).getD (0, 0, 0, 0, 0)).2.2.2.2)], .bool ((mget met7 (x2.1.1, x2.2)).isSome)]) (v_lookS2 (k := (x2.1.1, x2.2)) (z0 := (0, 0, 0, 0, 0)) rfl Try.underlying120 key_117 Try.zeroValue119 rfl rfl (HasM.own 6 rfl) (show MapR (vA (cP (cI .i64) (cI .i64))) (vA (cP (cI .i64) (cP (cI .i64) (cP (cI .i64) (cP (cI .i64) (cI .i64)))))) es67 (met7 : List ((Int × Int) × (Int × Int × Int × Int × Int))) from hR69)) rfl) rfl ?_
             refine om rfl rfl (ox rfl rfl rfl (ox rfl rfl rfl ?_))
             refine o_alloc rfl Try.zeroValue119 ?_; intro b119 hb119
             refine o_storeA (i := 0) Try.sizeOf119 rfl rfl rfl (by simp [Value.oneCell']) rfl (Nat.le_of_ble_eq_true rfl) ?_
             refine shO_L (L' := [(b119, .cells #[.int .i64 (((mget met7 (x2.1.1, x2.2)).getD (0, 0, 0, 0, 0)).1), .int .i64 (((mget met7 (x2.1.1, x2.2)).getD (0, 0, 0, 0, 0)).2.1), .int .i64 (((mget met7 (x2.1.1, x2.2)).getD (0, 0, 0, 0, 0)).2.2.1), .int .i64 (((mget met7 (x2.1.1, x2.2)).getD (0, 0, 0, 0, 0)).2.2.2.1), .int .i64 (((mget met7 (x2.1.1, x2.2)).getD (0, 0, 0, 0, 0)).2.2.2.2)] 119 (0, 0)), (b118, .cells #[.int .i64 x2.1.1, .int .i64 x2.2] 117 (0, 0)), (b84, .cells #[.int .i64 x2.1.1, .int .i64 x2.1.2] 56 (0, 0)), (b55, .cells #[.int .i64 (((mget met5 (k, left_)).getD (0, 0, 0, 0, 0)).1), .int .i64 (((mget met5 (k, left_)).getD (0, 0, 0, 0, 0)).2.1), .int .i64 (((mget met5 (k, left_)).getD (0, 0, 0, 0, 0)).2.2.1), .int .i64 (((mget met5 (k, left_)).getD (0, 0, 0, 0, 0)).2.2.2.1), .int .i64 (((mget met5 (k, left_)).getD (0, 0, 0, 0, 0)).2.2.2.2)] 119 (0, 0)), (b54, .cells #[.int .i64 k, .int .i64 left_] 117 (0, 0)), (b53, .cells #[.int .i64 k] 3 (0, 0)), (b9, .cells #[.map (some b3)] 120 (0, 0)), (b3, .map es67 cl68), (b2, .cells #[.func (.func ok_f) ok_1 ok_2] 81 (0, 0)), (b1, .cells #[.pointer (some ⟨b_c, 0, none⟩)] 73 (0, 0))]) rfl ?_
             refine oa rfl rfl (shO_nil ?_)
             obtain ⟨k2, h120, r121⟩ := b1_ok r117; clear r117
             refine shW_join (fun e1 F1 L1 => F79 = F1 ∧ L1 = [(b118, .cells #[.int .i64 x2.1.1, .int .i64 x2.2] 117 (0, 0)), (b84, .cells #[.int .i64 x2.1.1, .int .i64 x2.1.2] 56 (0, 0)), (b55, .cells #[.int .i64 (((mget met5 (k, left_)).getD (0, 0, 0, 0, 0)).1), .int .i64 (((mget met5 (k, left_)).getD (0, 0, 0, 0, 0)).2.1), .int .i64 (((mget met5 (k, left_)).getD (0, 0, 0, 0, 0)).2.2.1), .int .i64 (((mget met5 (k, left_)).getD (0, 0, 0, 0, 0)).2.2.2.1), .int .i64 (((mget met5 (k, left_)).getD (0, 0, 0, 0, 0)).2.2.2.2)] 119 (0, 0)), (b54, .cells #[.int .i64 k, .int .i64 left_] 117 (0, 0)), (b53, .cells #[.int .i64 k] 3 (0, 0)), (b9, .cells #[.map (some b3)] 120 (0, 0)), (b3, .map es67 cl68), (b2, .cells #[.func (.func ok_f) ok_1 ok_2] 81 (0, 0)), (b1, .cells #[.pointer (some ⟨b_c, 0, none⟩)] 73 (0, 0))] ∧ e1.sub [(1, .int .i64 set_), (3, .pointer (some ⟨b1, 0, none⟩)), (5, .pointer (some ⟨b2, 0, none⟩)), (9, .pointer (some ⟨b9, 0, none⟩)), (10, .int .i64 left_), (11, .pointer (some ⟨b53, 0, none⟩)), (12, .pointer (some ⟨b54, 0, none⟩)), (13, .pointer (some ⟨b55, 0, none⟩)), (15, .pointer (some ⟨b84, 0, none⟩)), (18, .int .i64 end_), (19, .pointer (some ⟨b118, 0, none⟩)), (53, .int .i64 (hears.length : Int)), (54, .int .i64 k), (71, .agg #[.int .i64 x2.1.1, .int .i64 x2.1.2]), (72, .int .i64 x2.2), (124, .bool k2)]) ?_ ?_
             · clear r121
               refine shW_region ?_
               refine ov (v_fieldAddr fa_81_0 rfl) rfl ?_
               refine ov (v_load Try.isAgg79 rfl (Has.own 8 rfl) rfl) rfl ?_
               refine ov (v_fieldAddr fa_56_1 rfl) rfl ?_
               refine ov (v_load Try.isAgg3 rfl (Has.own 2 rfl) rfl) rfl ?_
               refine om rfl rfl ?_
               obtain ⟨ok2, h122, r123⟩ := b1_ok h120; clear h120
               refine o_callV rfl h_ok.1 rfl rfl rfl (h_ok.2 _ (FExt.refl _) _ _ _ ⟨_, _, rfl, rfl, rfl⟩ h122) ?_
               refine om rfl rfl ?_
               rcases bool_two ok2 with c124 | c124
               · have r125 := bt r123 c124; clear r123
                 refine shO_on (b := true) 115 rfl (EnvB rfl c124) (om rfl rfl (shO_on (b := true) 115 rfl (EnvB rfl c124) ?_))
                 refine ov (v_notB rfl) rfl ?_
                 refine shO_on (b := true) 115 rfl (EnvB rfl c124) (om rfl rfl ?_)
                 rcases bool_two (!((mget met7 (x2.1.1, x2.2)).isSome)) with c126 | c126
                 · have r127 := bt r125 c126; clear r125
                   refine shO_off (b' := true) 118 rfl (EnvB rfl c126) rfl rfl (shO_off (b' := true) 118 rfl (EnvB rfl c126) rfl rfl (shO_off (b' := true) 118 rfl (EnvB rfl c126) rfl rfl (shO_off (b' := true) 118 rfl (EnvB rfl c126) rfl rfl (shO_on (b := true) 115 rfl (EnvB rfl c124) ?_))))
                   refine ov (v_pick_t (evB rfl c126) rfl) rfl ?_
                   refine ov (v_pick_t (evB rfl c124) rfl) rfl ?_
                   refine shO_nil ?_
                   obtain rfl := inj1 r127
                   exact mi (kd kr) ⟨rfl, rfl, (sc rfl (sc rfl (sc rfl (sc rfl (sc rfl (sc rfl (sc rfl (sc rfl (sc rfl (sc rfl (sc rfl (sc rfl (sc rfl (sc rfl (sc rfl (sc rfl (sn _)))))))))))))))))⟩
                 have r128 := bf r125 c126; clear r125
                 refine shO_on (b := false) 118 rfl (EnvB rfl c126) (om rfl rfl (shO_on (b := false) 118 rfl (EnvB rfl c126) ?_))
                 refine ov (v_fieldAddr fa_119_0 rfl) rfl ?_
                 refine shO_on (b := false) 118 rfl (EnvB rfl c126) ?_
                 refine ov (v_load Try.isAgg3 rfl (Has.own 0 rfl) rfl) rfl ?_
                 refine shO_on (b := false) 118 rfl (EnvB rfl c126) ?_
                 refine ov (v_lssK rfl rfl) rfl ?_
                 refine shO_on (b := true) 115 rfl (EnvB rfl c124) ?_
                 refine ov (v_pick_f (evB rfl c126) rfl) rfl ?_
                 refine ov (v_pick_t (evB rfl c124) rfl) rfl ?_
                 refine shO_nil ?_
                 obtain rfl := inj1 r128
                 exact mi (kd kr) ⟨rfl, rfl, (sc rfl (sc rfl (sc rfl (sc rfl (sc rfl (sc rfl (sc rfl (sc rfl (sc rfl (sc rfl (sc rfl (sc rfl (sc rfl (sc rfl (sc rfl (sc rfl (sn _)))))))))))))))))⟩
               have r129 := bf r123 c124; clear r123
               refine shO_off (b' := false) 115 rfl (EnvB rfl c124) rfl rfl (shO_off (b' := false) 115 rfl (EnvB rfl c124) rfl rfl (shO_off (b' := false) 115 rfl (EnvB rfl c124) rfl rfl (shO_offU 118 rfl rfl rfl (shO_offU 118 rfl rfl rfl (shO_offU 118 rfl rfl rfl (shO_offU 118 rfl rfl rfl (shO_off (b' := false) 115 rfl (EnvB rfl c124) rfl rfl ?_)))))))
               refine ov (v_pick_f (evB rfl c124) rfl) rfl ?_
               refine shO_nil ?_
               obtain rfl := inj1 r129
               exact mi (kd kr) ⟨rfl, rfl, (sc rfl (sc rfl (sc rfl (sc rfl (sc rfl (sc rfl (sc rfl (sc rfl (sc rfl (sc rfl (sc rfl (sc rfl (sc rfl (sc rfl (sc rfl (sc rfl (sn _)))))))))))))))))⟩
             rintro e1 _ _ ⟨rfl, rfl, he130⟩
             refine shW_env _ he130 ?_; clear he130
             refine shW_cond rfl (fun c131 => ?_) (fun c131 => ?_)
             · have r132 := bt r121 c131; clear r121
               refine shW_region ?_
               refine ov (v_load Try.isAgg120 rfl (Has.own 5 rfl) rfl) rfl ?_
               refine ov (v_loadA (cs := #[.int .i64 x2.1.1, .int .i64 x2.2]) Try.isAgg117 Try.sizeOf117 rfl (Has.own 0 rfl) (Nat.le_of_ble_eq_true rfl) rfl) rfl ?_
               refine om rfl rfl ?_
               refine ov (v_loadA (cs := #[.int .i64 x2.1.1, .int .i64 x2.1.2]) Try.isAgg56 Try.sizeOf56 rfl (Has.own 1 rfl) (Nat.le_of_ble_eq_true rfl) rfl) rfl ?_
               refine ov (v_loadA (cs := #[.int .i64 k, .int .i64 left_]) Try.isAgg117 Try.sizeOf117 rfl (Has.own 3 rfl) (Nat.le_of_ble_eq_true rfl) rfl) rfl ?_
               refine ov (v_build (v := .agg #[.int .i64 end_, .int .i64 x2.1.1, .int .i64 x2.1.2, .int .i64 k, .int .i64 left_]) rfl (by intro w; kernel_rfl)) rfl ?_
               refine o_mapUpdate (i := 6) (k := (x2.1.1, x2.2)) (v := (end_, x2.1.1, x2.1.2, k, left_)) Try.underlying120 key_117 rfl rfl rfl rfl (show MapR (vA (cP (cI .i64) (cI .i64))) (vA (cP (cI .i64) (cP (cI .i64) (cP (cI .i64) (cP (cI .i64) (cI .i64)))))) es67 (met7 : List ((Int × Int) × (Int × Int × Int × Int × Int))) from hR69) ?_; intro es133 cl134 hR135
               obtain ⟨met8, h136, r137⟩ := bv_ok r132; clear r132
               rw [← h136] at hR135
               refine shO_L (L' := [(b118, .cells #[.int .i64 x2.1.1, .int .i64 x2.2] 117 (0, 0)), (b84, .cells #[.int .i64 x2.1.1, .int .i64 x2.1.2] 56 (0, 0)), (b55, .cells #[.int .i64 (((mget met5 (k, left_)).getD (0, 0, 0, 0, 0)).1), .int .i64 (((mget met5 (k, left_)).getD (0, 0, 0, 0, 0)).2.1), .int .i64 (((mget met5 (k, left_)).getD (0, 0, 0, 0, 0)).2.2.1), .int .i64 (((mget met5 (k, left_)).getD (0, 0, 0, 0, 0)).2.2.2.1), .int .i64 (((mget met5 (k, left_)).getD (0, 0, 0, 0, 0)).2.2.2.2)] 119 (0, 0)), (b54, .cells #[.int .i64 k, .int .i64 left_] 117 (0, 0)), (b53, .cells #[.int .i64 k] 3 (0, 0)), (b9, .cells #[.map (some b3)] 120 (0, 0)), (b3, .map es133 cl134), (b2, .cells #[.func (.func ok_f) ok_1 ok_2] 81 (0, 0)), (b1, .cells #[.pointer (some ⟨b_c, 0, none⟩)] 73 (0, 0))]) rfl ?_
               refine shO_nil (inBlock_n (id := 5) ?_)
               refine ⟨[(b55, .cells #[.int .i64 (((mget met5 (k, left_)).getD (0, 0, 0, 0, 0)).1), .int .i64 (((mget met5 (k, left_)).getD (0, 0, 0, 0, 0)).2.1), .int .i64 (((mget met5 (k, left_)).getD (0, 0, 0, 0, 0)).2.2.1), .int .i64 (((mget met5 (k, left_)).getD (0, 0, 0, 0, 0)).2.2.2.1), .int .i64 (((mget met5 (k, left_)).getD (0, 0, 0, 0, 0)).2.2.2.2)] 119 (0, 0)), (b54, .cells #[.int .i64 k, .int .i64 left_] 117 (0, 0)), (b53, .cells #[.int .i64 k] 3 (0, 0)), (b9, .cells #[.map (some b3)] 120 (0, 0)), (b3, .map es133 cl134), (b2, .cells #[.func (.func ok_f) ok_1 ok_2] 81 (0, 0)), (b1, .cells #[.pointer (some ⟨b_c, 0, none⟩)] 73 (0, 0))], ⟨_, .refl _, s1 (s1 (s2 (s2 (s2 (s2 (s2 (s2 (s2 sr))))))))⟩, ?_⟩; exact ⟨_, met8, es133, cl134, (by rw [hxs81]; simp), r137, rfl, hR135⟩
             have r138 := bf r121 c131; clear r121
             refine shW_skip (inBlock_n (id := 5) ?_)
             refine ⟨[(b55, .cells #[.int .i64 (((mget met5 (k, left_)).getD (0, 0, 0, 0, 0)).1), .int .i64 (((mget met5 (k, left_)).getD (0, 0, 0, 0, 0)).2.1), .int .i64 (((mget met5 (k, left_)).getD (0, 0, 0, 0, 0)).2.2.1), .int .i64 (((mget met5 (k, left_)).getD (0, 0, 0, 0, 0)).2.2.2.1), .int .i64 (((mget met5 (k, left_)).getD (0, 0, 0, 0, 0)).2.2.2.2)] 119 (0, 0)), (b54, .cells #[.int .i64 k, .int .i64 left_] 117 (0, 0)), (b53, .cells #[.int .i64 k] 3 (0, 0)), (b9, .cells #[.map (some b3)] 120 (0, 0)), (b3, .map es67 cl68), (b2, .cells #[.func (.func ok_f) ok_1 ok_2] 81 (0, 0)), (b1, .cells #[.pointer (some ⟨b_c, 0, none⟩)] 73 (0, 0))], ⟨_, .refl _, s1 (s1 (s2 (s2 (s2 (s2 (s2 (s2 (s2 sr))))))))⟩, ?_⟩; exact ⟨_, met7, es67, cl68, (by rw [hxs81]; simp), r138, rfl, hR69⟩
           · rintro F139 _ hF140 ⟨tl3, met7, es67, cl68, hs70, r141, rfl, hR69⟩
             obtain rfl := rest_nil hs70; rw [round_crier_serve_l3] at r141
             refine inBlock_n (id := 4) (inBlock_n (id := 3) ?_)
             obtain rfl := inj1 r141
             exact mi (kd (kd (kd kr))) ⟨es67, cl68, (hF62.trans hF140), rfl, (sc rfl (sc rfl (sc rfl (sc rfl (sc rfl (sc rfl (sc rfl (sn _)))))))), hR69⟩
           intro c F1 L1 hx h; exact h.elim
         rintro e1 F143 _ ⟨es48, cl49, hF144, rfl, he142, hR50⟩
         refine shW_env _ he142 ?_; clear he142
         replace h_hears := h_hears.mono (slE_ok (iE_ok _)) hF144
         refine shW_region ?_
         refine ov (v_add rfl rfl (Lst.r64 hk37 c44 (RowR.lt h_hears))) rfl ?_
         refine om rfl rfl (shO_nil ?_)
         subst hn38; exact le kr ⟨_, _, rfl, hk45, met6, es48, cl49, r52, (hF42.trans hF144), rfl, (sc rfl (sc rfl (sc rfl (sc rfl (sc rfl (sc rfl (sc rfl (sn _)))))))), hR50⟩
       obtain rfl := Lst.zero hk37 c44
       rw [round_crier_serve_l2] at r39
       refine shW_exit (andThen_exit (andThen_exit ?_))
       refine inBlock_exit ?_
       refine inBlock_n (id := 1) ?_
       obtain rfl := inj1 r39
       exact mi kr ⟨es34, cl35, hF42, rfl, (sc rfl (sc rfl (sc rfl (sc rfl (sc rfl (sn _)))))), hR36⟩
     rintro e1 F146 _ ⟨es26, cl27, hF147, rfl, he145, hR28⟩
     refine shW_env _ he145 ?_; clear he145
     refine shW_region (om rfl rfl ?_)
     obtain ⟨g148, r149⟩ := gd_ok r30; clear r30
     refine ov (v_sub rfl rfl g148) rfl ?_
     refine oa rfl rfl (shO_nil ?_)
     exact le kr ⟨met4, left_ - 1, es26, cl27, r149, (hF23.trans hF147), rfl, (sc rfl (sc rfl (sc rfl (sc rfl (sc rfl (sn _)))))), hR28⟩
   have r150 := ite_f r20 c24; clear r20
   refine shW_exit (andThen_exit (andThen_exit ?_))
   refine inBlock_exit ?_
   obtain rfl := inj1 r150
   exact mi (kc (kc (kd kr))) ⟨es15, cl16, hF23, rfl, (sc rfl (sc rfl (sc rfl (sn _)))), hR17⟩
 rintro e1 F152 _ ⟨es10, cl11, hF153, rfl, he151, hR12⟩
 refine shW_env _ he151 ?_; clear he151
 replace h_hears := h_hears.mono (slE_ok (iE_ok _)) hF153
 replace hb_c := hF153 _ _ hb_c
 refine wsr ?_
 refine ov (v_build (v := .agg #[.int .i64 (-1), .int .i64 0]) rfl (by intro w; kernel_rfl)) rfl ?_
 refine o_alloc rfl Try.zeroValue117 ?_; intro b154 hb154
 refine o_storeA (i := 0) Try.sizeOf117 rfl rfl rfl (by simp [Value.oneCell']) rfl (Nat.le_of_ble_eq_true rfl) ?_
 refine shO_L (L' := [(b154, .cells #[.int .i64 (-1), .int .i64 0] 117 (0, 0)), (b9, .cells #[.map (some b3)] 120 (0, 0)), (b3, .map es10 cl11), (b1, .cells #[.pointer (some ⟨b_c, 0, none⟩)] 73 (0, 0))]) rfl ?_
 refine oa rfl rfl (shO_nil ?_)
 obtain ⟨end_stand, minute, h155, r156⟩ := b2_ok r14; clear r14
 refine shW_join (fun e1 F1 L1 => F152 = F1 ∧ L1 = [(b154, .cells #[.int .i64 end_stand, .int .i64 0] 117 (0, 0)), (b9, .cells #[.map (some b3)] 120 (0, 0)), (b3, .map es10 cl11)] ∧ e1.sub [(1, .int .i64 set_), (9, .pointer (some ⟨b9, 0, none⟩)), (22, .pointer (some ⟨b154, 0, none⟩)), (23, .int .i64 minute)]) ?_ ?_
 · clear r156
   refine wsr ?_
   refine ov (v_load Try.isAgg73 rfl (Has.own 3 rfl) rfl) rfl ?_
   refine ov (v_nilCheck rfl) rfl ?_
   refine ov (v_fieldAddr fa_101_0 rfl) rfl ?_
   refine ov (v_fieldAddr fa_26_1 rfl) rfl ?_
   refine ov (v_load Try.isAgg23 rfl (Has.frozen hb_c) (li_cell (li_skip (A := ([.slice walks_a walks.length walks_c] : List Value)) (k := 1) (o := 0) rfl (li_here (B := ([.int .i64 houses] : List Value) ++ (([.int .i64 start] : List Value) ++ (([.slice notices_a notices.length notices_c] : List Value) ++ (walks2.flatMap (cI .i64) ++ (([.slice pairs_a pairs.length pairs_c] : List Value) ++ (hit.flatMap (cI .i64))))))) rfl)))) rfl ?_
   refine ov (v_lenS Try.underlying23 rfl) rfl ?_
   refine om rfl rfl (shO_nil ?_)
   refine shW_block ?_
   refine kW (kc (kc (kc kn))) ?_
   refine shW_lp (fun fu4 e1 F1 L1 => ∃ (tl5 : List (List Int)) (k3 : Int), tl5.length = fu4 ∧ Lst hears k3 tl5 ∧ ∃ (end_stand2 : Int) (minute2 : Int), round_crier_serve_l4 met2 tl5 k3 end_stand2 minute2 = some (end_stand, minute) ∧ F152 = F1 ∧ L1 = [(b154, .cells #[.int .i64 end_stand2, .int .i64 0] 117 (0, 0)), (b9, .cells #[.map (some b3)] 120 (0, 0)), (b3, .map es10 cl11)] ∧ e1.sub [(1, .int .i64 set_), (9, .pointer (some ⟨b9, 0, none⟩)), (22, .pointer (some ⟨b154, 0, none⟩)), (23, .int .i64 minute2), (138, .int .i64 (hears.length : Int)), (139, .int .i64 k3)]) _ (m0 kr ⟨_, _, rfl, Lst.start _, -1, -1, h155, rfl, rfl, (sc rfl (sc rfl (sc rfl (sc rfl (sc rfl (sc rfl (sn _)))))))⟩) ?_
   rintro fu4 e1 _ _ ⟨tl5, k3, hn158, hk157, end_stand2, minute2, r159, rfl, rfl, he160⟩
   refine shW_env _ he160 ?_; clear he160
   refine wsr ?_
   refine ov (v_lssK rfl rfl) rfl ?_
   refine shO_nil (shW_seq ?_)
   refine shW_condP rfl (fun c162 => ?_) (fun c162 => ?_)
   · obtain ⟨x5, tl6, rfl, hx164, g165, hk163⟩ := Lst.succ hk157 c162
     rw [round_crier_serve_l4] at r159
     refine shW_skip (shW_seq ?_)
     refine shW_block ?_
     refine wsr (om rfl rfl (oa rfl rfl (nsr ?_)))
     refine ov (v_load Try.isAgg120 rfl (Has.own 1 rfl) rfl) rfl ?_
     refine om rfl rfl ?_
     refine ov (v_build (v := .agg #[.int .i64 k3, .int .i64 0]) rfl (by intro w; kernel_rfl)) rfl ?_
     refine ov (OpV.eq (v' := .tuple #[.agg #[.int .i64 (((mget met2 (k3, 0)).getD (0, 0, 0, 0, 0)).1), .int .i64 (((mget met2 (k3, 0)).getD (0, 0, 0, 0, 0)).2.1), .int .i64 (((mget met2 (k3, 0)).getD (0, 0, 0, 0, 0)).2.2.1), .int .i64 (((mget met2 (k3, 0)).getD (0, 0, 0, 0, 0)).2.2.2.1), .int .i64 (((mget met2 (k3, 0)).getD (0, 0, 0, 0, 0)).2.2.2.2)], .bool ((mget met2 (k3, 0)).isSome)]) (v_lookS2 (k := (k3, 0)) (z0 := (0, 0, 0, 0, 0)) rfl Try.underlying120 key_117 Try.zeroValue119 rfl rfl (HasM.own 2 rfl) (show MapR (vA (cP (cI .i64) (cI .i64))) (vA (cP (cI .i64) (cP (cI .i64) (cP (cI .i64) (cP (cI .i64) (cI .i64)))))) es10 (met2 : List ((Int × Int) × (Int × Int × Int × Int × Int))) from hR12)) rfl) rfl ?_
     refine om rfl rfl (ox rfl rfl rfl (ox rfl rfl rfl ?_))
     refine o_alloc rfl Try.zeroValue119 ?_; intro b166 hb166
     refine o_storeA (i := 0) Try.sizeOf119 rfl rfl rfl (by simp [Value.oneCell']) rfl (Nat.le_of_ble_eq_true rfl) ?_
     refine shO_L (L' := [(b166, .cells #[.int .i64 (((mget met2 (k3, 0)).getD (0, 0, 0, 0, 0)).1), .int .i64 (((mget met2 (k3, 0)).getD (0, 0, 0, 0, 0)).2.1), .int .i64 (((mget met2 (k3, 0)).getD (0, 0, 0, 0, 0)).2.2.1), .int .i64 (((mget met2 (k3, 0)).getD (0, 0, 0, 0, 0)).2.2.2.1), .int .i64 (((mget met2 (k3, 0)).getD (0, 0, 0, 0, 0)).2.2.2.2)] 119 (0, 0)), (b154, .cells #[.int .i64 end_stand2, .int .i64 0] 117 (0, 0)), (b9, .cells #[.map (some b3)] 120 (0, 0)), (b3, .map es10 cl11)]) rfl ?_
     refine oa rfl rfl (shO_nil ?_)
     obtain ⟨k4, h167, r168⟩ := b1_ok r159; clear r159
     refine shW_join (fun e1 F1 L1 => F152 = F1 ∧ L1 = [(b166, .cells #[.int .i64 (((mget met2 (k3, 0)).getD (0, 0, 0, 0, 0)).1), .int .i64 (((mget met2 (k3, 0)).getD (0, 0, 0, 0, 0)).2.1), .int .i64 (((mget met2 (k3, 0)).getD (0, 0, 0, 0, 0)).2.2.1), .int .i64 (((mget met2 (k3, 0)).getD (0, 0, 0, 0, 0)).2.2.2.1), .int .i64 (((mget met2 (k3, 0)).getD (0, 0, 0, 0, 0)).2.2.2.2)] 119 (0, 0)), (b154, .cells #[.int .i64 end_stand2, .int .i64 0] 117 (0, 0)), (b9, .cells #[.map (some b3)] 120 (0, 0)), (b3, .map es10 cl11)] ∧ e1.sub [(1, .int .i64 set_), (9, .pointer (some ⟨b9, 0, none⟩)), (22, .pointer (some ⟨b154, 0, none⟩)), (23, .int .i64 minute2), (24, .int .i64 k3), (25, .pointer (some ⟨b166, 0, none⟩)), (138, .int .i64 (hears.length : Int)), (139, .int .i64 k3), (159, .bool k4)]) ?_ ?_
     · clear r168
       refine shW_region (om rfl rfl (om rfl rfl ?_))
       rcases bool_two ((mget met2 (k3, 0)).isSome) with c169 | c169
       · have r170 := bt h167 c169; clear h167
         refine shO_on (b := true) 150 rfl (EnvB rfl c169) (om rfl rfl (shO_on (b := true) 150 rfl (EnvB rfl c169) ?_))
         refine ov (v_eql rfl rfl) rfl ?_
         refine shO_on (b := true) 150 rfl (EnvB rfl c169) (om rfl rfl ?_)
         by_cases c171 : minute2 = (-1)
         · have r172 := ite_t r170 c171; clear r170
           refine shO_off (b' := true) 153 rfl (Env.isT rfl c171) rfl rfl (shO_off (b' := true) 153 rfl (Env.isT rfl c171) rfl rfl (shO_off (b' := true) 153 rfl (Env.isT rfl c171) rfl rfl (shO_off (b' := true) 153 rfl (Env.isT rfl c171) rfl rfl (shO_on (b := true) 150 rfl (EnvB rfl c169) ?_))))
           refine ov (v_pick_t (evD_true rfl c171) rfl) rfl ?_
           refine ov (v_pick_t (evB rfl c169) rfl) rfl ?_
           refine shO_nil ?_
           obtain rfl := inj1 r172
           exact mi kr ⟨rfl, rfl, (sc rfl (sc rfl (sc rfl (sc rfl (sc rfl (sc rfl (sc rfl (sc rfl (sc rfl (sn _))))))))))⟩
         have r173 := ite_f r170 c171; clear r170
         refine shO_on (b := false) 153 rfl (Env.isF rfl c171) ?_
         refine ov (v_fieldAddr fa_119_0 rfl) rfl ?_
         refine shO_on (b := false) 153 rfl (Env.isF rfl c171) ?_
         refine ov (v_load Try.isAgg3 rfl (Has.own 0 rfl) rfl) rfl ?_
         refine shO_on (b := false) 153 rfl (Env.isF rfl c171) (om rfl rfl (shO_on (b := false) 153 rfl (Env.isF rfl c171) ?_))
         refine ov (v_lssK rfl rfl) rfl ?_
         refine shO_on (b := true) 150 rfl (EnvB rfl c169) ?_
         refine ov (v_pick_f (evD_false rfl c171) rfl) rfl ?_
         refine ov (v_pick_t (evB rfl c169) rfl) rfl ?_
         refine shO_nil ?_
         obtain rfl := inj1 r173
         exact mi kr ⟨rfl, rfl, (sc rfl (sc rfl (sc rfl (sc rfl (sc rfl (sc rfl (sc rfl (sc rfl (sc rfl (sn _))))))))))⟩
       have r174 := bf h167 c169; clear h167
       refine shO_off (b' := false) 150 rfl (EnvB rfl c169) rfl rfl (shO_off (b' := false) 150 rfl (EnvB rfl c169) rfl rfl (shO_off (b' := false) 150 rfl (EnvB rfl c169) rfl rfl (shO_offU 153 rfl rfl rfl (shO_offU 153 rfl rfl rfl (shO_offU 153 rfl rfl rfl (shO_offU 153 rfl rfl rfl (shO_off (b' := false) 150 rfl (EnvB rfl c169) rfl rfl ?_)))))))
       refine ov (v_pick_f (evB rfl c169) rfl) rfl ?_
       refine shO_nil ?_
       obtain rfl := inj1 r174
       exact mi kr ⟨rfl, rfl, (sc rfl (sc rfl (sc rfl (sc rfl (sc rfl (sc rfl (sc rfl (sc rfl (sc rfl (sn _))))))))))⟩
     rintro e1 _ _ ⟨rfl, rfl, he175⟩
     refine shW_env _ he175 ?_; clear he175
     refine shW_cond rfl (fun c176 => ?_) (fun c176 => ?_)
     · have r177 := bt r168 c176; clear r168
       refine shW_drawM [(.still, 0), (.still, 1), (.still, 2), (.still, 3), (.seq, 4), (.seq, 5)] (by kernel_rfl) (by kernel_rfl) (trivial) (by rfl) (by kernel_rfl) ?_
       refine shM_v (v := .int .i64 k3) (ek := [(24, .int .i64 k3)]) (Ls := []) rfl rfl rfl rfl ((sc rfl (sn _))) (by kernel_rfl) sm (fun H F' L' hF' hL' => v_move rfl) ?_
       refine shM_v (v := .agg #[.int .i64 k3, .int .i64 0]) (ek := [(160, .int .i64 k3)]) (Ls := []) rfl rfl rfl rfl ((sc rfl (sn _))) (by kernel_rfl) sm (fun H F' L' hF' hL' => v_build (v := .agg #[.int .i64 k3, .int .i64 0]) rfl (by intro w; kernel_rfl)) ?_
       refine shM_v (v := .pointer (some ⟨b166, 0, none⟩)) (ek := [(25, .pointer (some ⟨b166, 0, none⟩))]) (Ls := []) rfl rfl rfl rfl ((sc rfl (sn _))) (by kernel_rfl) sm (fun H F' L' hF' hL' => v_fieldAddr fa_119_0 rfl) ?_
       refine shM_v (v := .int .i64 (((mget met2 (k3, 0)).getD (0, 0, 0, 0, 0)).1)) (ek := [(162, .pointer (some ⟨b166, 0, none⟩))]) (Ls := [(b166, .cells #[.int .i64 (((mget met2 (k3, 0)).getD (0, 0, 0, 0, 0)).1), .int .i64 (((mget met2 (k3, 0)).getD (0, 0, 0, 0, 0)).2.1), .int .i64 (((mget met2 (k3, 0)).getD (0, 0, 0, 0, 0)).2.2.1), .int .i64 (((mget met2 (k3, 0)).getD (0, 0, 0, 0, 0)).2.2.2.1), .int .i64 (((mget met2 (k3, 0)).getD (0, 0, 0, 0, 0)).2.2.2.2)] 119 (0, 0))]) rfl rfl rfl rfl ((sc rfl (sn _))) (by kernel_rfl) (s0 (s2 (s1 (s1 (s1 sr))))) (fun H F' L' hF' hL' => v_load Try.isAgg3 rfl ((Has.own 0 rfl).ext hF' hL') rfl) ?_
       refine ⟨_, [(22, .pointer (some ⟨b154, 0, none⟩)), (161, .agg #[.int .i64 k3, .int .i64 0])], rfl, rfl, (sc rfl (sc rfl (sn _))), by kernel_rfl, ?_⟩; intro H
       refine o_storeA (i := 1) Try.sizeOf117 rfl rfl rfl (by simp [Value.oneCell']) rfl (Nat.le_of_ble_eq_true rfl) ?_
       refine shO_L (L' := [(b166, .cells #[.int .i64 (((mget met2 (k3, 0)).getD (0, 0, 0, 0, 0)).1), .int .i64 (((mget met2 (k3, 0)).getD (0, 0, 0, 0, 0)).2.1), .int .i64 (((mget met2 (k3, 0)).getD (0, 0, 0, 0, 0)).2.2.1), .int .i64 (((mget met2 (k3, 0)).getD (0, 0, 0, 0, 0)).2.2.2.1), .int .i64 (((mget met2 (k3, 0)).getD (0, 0, 0, 0, 0)).2.2.2.2)] 119 (0, 0)), (b154, .cells #[.int .i64 k3, .int .i64 0] 117 (0, 0)), (b9, .cells #[.map (some b3)] 120 (0, 0)), (b3, .map es10 cl11)]) rfl ?_
       refine shO_nil ⟨undef, rfl, FExt.refl _, [3, 2], by kernel_rfl, .inl (.inr (fun d h => by cases h)), (List.forall_mem_cons.2 ⟨s0 (s2 (s1 (s1 (s1 sr)))), (List.forall_mem_cons.2 ⟨sm, (fun _ h => absurd h List.not_mem_nil)⟩)⟩), ?_⟩
       refine ⟨_, [(163, .int .i64 (((mget met2 (k3, 0)).getD (0, 0, 0, 0, 0)).1))], rfl, rfl, (sc rfl (sn _)), by kernel_rfl, ?_⟩; intro H
       obtain ⟨minute3, h178, r179⟩ := bv_ok r177; clear r177
       refine ov ((v_assign rfl).i h178) rfl ?_
       refine shO_nil ⟨_, rfl, FExt.refl _, [], by kernel_rfl, .inl (.inl rfl), (fun _ h => absurd h List.not_mem_nil), ?_⟩
       refine shM_nil ?_
       refine inBlock_n (id := 7) (shW_region ?_)
       refine ov (v_add rfl rfl (Lst.r64 hk157 c162 (RowR.lt h_hears))) rfl ?_
       refine om rfl rfl (shO_nil ?_)
       subst hn158; exact le (kd kr) ⟨_, _, rfl, hk163, k3, minute3, r179, rfl, rfl, (sc rfl (sc rfl (sc rfl (sc rfl (sc rfl (sc rfl (sn _)))))))⟩
     have r180 := bf r168 c176; clear r168
     refine shW_skip (inBlock_n (id := 7) (shW_region ?_))
     refine ov (v_add rfl rfl (Lst.r64 hk157 c162 (RowR.lt h_hears))) rfl ?_
     refine om rfl rfl (shO_nil ?_)
     subst hn158; exact le (kd kr) ⟨_, _, rfl, hk163, end_stand2, minute2, r180, rfl, rfl, (sc rfl (sc rfl (sc rfl (sc rfl (sc rfl (sc rfl (sn _)))))))⟩
   obtain rfl := Lst.zero hk157 c162
   rw [round_crier_serve_l4] at r159
   refine shW_exit (andThen_exit (andThen_exit ?_))
   refine inBlock_exit ?_
   obtain ⟨rfl, rfl⟩ := inj2 r159
   exact mi kr ⟨rfl, rfl, (sc rfl (sc rfl (sc rfl (sc rfl (sn _)))))⟩
 rintro e1 _ _ ⟨rfl, rfl, he181⟩
 refine shW_env _ he181 ?_; clear he181
 refine shW_seq (wsr (om rfl rfl ?_))
 refine ov (v_eql rfl rfl) rfl ?_
 refine shO_nil ?_
 refine shW_condP rfl (fun c182 => ?_) (fun c182 => ?_)
 · have r183 := ite_t r156 c182; clear r156
   refine wsr (oa rfl rfl (oa rfl rfl (oa rfl rfl (shO_nil ?_))))
   refine kW kn ?_
   refine shW_ret (andThen_ret ?_)
   refine q_res3 Try.results31 (res_tmp rfl) (res_tmp rfl) (res_tmp rfl) (sr) ?_
   obtain ⟨rfl, rfl, rfl⟩ := inj3 r183
   exact ⟨_, _, _, [], rfl, rfl, SlR.nil _ _ _ _ _⟩
 have r184 := ite_f r156 c182; clear r156
 refine shW_skip (wsr (oa rfl rfl (shO_nil ?_)))
 obtain ⟨out, h191, r192⟩ := b1_ok r184; clear r184
 refine shW_join (fun e1 F1 L1 => ∃ (a185 : Option Addr) (n189 : Nat) (c186 : Nat) (Lb187 : LH), F152 = F1 ∧ L1 = (Lb187 ++ []) ∧ e1.sub [(23, .int .i64 minute), (27, .slice a185 n189 c186)] ∧ SlR K.w0.heap.size 56 2 (prE (iE .i64) (iE .i64)) F1 a185 n189 c186 out Lb187) ?_ ?_
 · clear r192
   refine shW_block ?_
   refine shW_lp (fun fu5 e1 F1 L1 => ∃ (end_stand3 : Int) (end_left : Int) (out2 : List (Int × Int)) (a193 : Option Addr) (n197 : Nat) (c194 : Nat) (Lb195 : LH), round_crier_serve_l5 set_ met2 fu5 end_stand3 end_left out2 = some out ∧ F152 = F1 ∧ L1 = ((b154, .cells #[.int .i64 end_stand3, .int .i64 end_left] 117 (0, 0)) :: ((b9, .cells #[.map (some b3)] 120 (0, 0)) :: ((b3, .map es10 cl11) :: (Lb195 ++ [])))) ∧ e1.sub [(1, .int .i64 set_), (9, .pointer (some ⟨b9, 0, none⟩)), (22, .pointer (some ⟨b154, 0, none⟩)), (23, .int .i64 minute), (27, .slice a193 n197 c194)] ∧ SlR K.w0.heap.size 56 2 (prE (iE .i64) (iE .i64)) F1 a193 n197 c194 out2 Lb195) FU (m0 (kc (kc (kc (ke kr)))) ⟨end_stand, 0, [], none, 0, 0, [], h191, rfl, rfl, (sc rfl (sc rfl (sc rfl (sc rfl (sc rfl (sn _)))))), SlR.nil _ _ _ _ _⟩) ?_
   rintro fu5 e1 _ _ ⟨end_stand3, end_left, out2, a193, n197, c194, Lb195, r201, rfl, rfl, he202, hz196⟩
   refine shW_env _ he202 ?_; clear he202
   rcases fu5 with _ | fu5
   · rw [round_crier_serve_l5] at r201; cases r201
   rw [round_crier_serve_l5] at r201
   refine shW_seq (wsr ?_)
   refine ov (v_fieldAddr fa_117_1 rfl) rfl ?_
   refine ov (v_load Try.isAgg3 rfl (Has.own 0 rfl) rfl) rfl ?_
   refine om rfl rfl ?_
   refine ov (v_neq rfl rfl) rfl ?_
   refine shO_nil ?_
   refine shW_condP rfl (fun c203 => ?_) (fun c203 => ?_)
   · have r204 := ite_t r201 c203; clear r201
     refine shW_skip ?_
     refine shW_block ?_
     refine wsr ?_
     refine ov (v_load Try.isAgg120 rfl (Has.own 1 rfl) rfl) rfl ?_
     refine ov (v_loadA (cs := #[.int .i64 end_stand3, .int .i64 end_left]) Try.isAgg117 Try.sizeOf117 rfl (Has.own 0 rfl) (Nat.le_of_ble_eq_true rfl) rfl) rfl ?_
     refine ov (OpV.eq (v' := .agg #[.int .i64 (((mget met2 (end_stand3, end_left)).getD (0, 0, 0, 0, 0)).1), .int .i64 (((mget met2 (end_stand3, end_left)).getD (0, 0, 0, 0, 0)).2.1), .int .i64 (((mget met2 (end_stand3, end_left)).getD (0, 0, 0, 0, 0)).2.2.1), .int .i64 (((mget met2 (end_stand3, end_left)).getD (0, 0, 0, 0, 0)).2.2.2.1), .int .i64 (((mget met2 (end_stand3, end_left)).getD (0, 0, 0, 0, 0)).2.2.2.2)]) (v_lookS1 (k := (end_stand3, end_left)) (z0 := (0, 0, 0, 0, 0)) rfl Try.underlying120 key_117 Try.zeroValue119 rfl rfl (HasM.own 2 rfl) (show MapR (vA (cP (cI .i64) (cI .i64))) (vA (cP (cI .i64) (cP (cI .i64) (cP (cI .i64) (cP (cI .i64) (cI .i64)))))) es10 (met2 : List ((Int × Int) × (Int × Int × Int × Int × Int))) from hR12)) rfl) rfl ?_
     refine o_alloc rfl Try.zeroValue119 ?_; intro b205 hb205
     refine o_storeA (i := 0) Try.sizeOf119 rfl rfl rfl (by simp [Value.oneCell']) rfl (Nat.le_of_ble_eq_true rfl) ?_
     refine shO_L (L' := (b205, .cells #[.int .i64 (((mget met2 (end_stand3, end_left)).getD (0, 0, 0, 0, 0)).1), .int .i64 (((mget met2 (end_stand3, end_left)).getD (0, 0, 0, 0, 0)).2.1), .int .i64 (((mget met2 (end_stand3, end_left)).getD (0, 0, 0, 0, 0)).2.2.1), .int .i64 (((mget met2 (end_stand3, end_left)).getD (0, 0, 0, 0, 0)).2.2.2.1), .int .i64 (((mget met2 (end_stand3, end_left)).getD (0, 0, 0, 0, 0)).2.2.2.2)] 119 (0, 0)) :: ((b154, .cells #[.int .i64 end_stand3, .int .i64 end_left] 117 (0, 0)) :: ((b9, .cells #[.map (some b3)] 120 (0, 0)) :: ((b3, .map es10 cl11) :: (Lb195 ++ []))))) rfl ?_
     refine nsr (om rfl rfl ?_)
     refine ov (v_fieldAddr fa_119_1 rfl) rfl ?_
     refine ov (v_loadA (cs := #[.int .i64 (((mget met2 (end_stand3, end_left)).getD (0, 0, 0, 0, 0)).2.1), .int .i64 (((mget met2 (end_stand3, end_left)).getD (0, 0, 0, 0, 0)).2.2.1)]) Try.isAgg56 Try.sizeOf56 rfl (Has.own 0 rfl) (Nat.le_of_ble_eq_true rfl) rfl) rfl ?_
     refine o_buildSlice (cs := #[.int .i64 (((mget met2 (end_stand3, end_left)).getD (0, 0, 0, 0, 0)).2.1), .int .i64 (((mget met2 (end_stand3, end_left)).getD (0, 0, 0, 0, 0)).2.2.1)]) rfl rfl (buildSlice_all slt_30 [.agg #[.int .i64 (((mget met2 (end_stand3, end_left)).getD (0, 0, 0, 0, 0)).2.1), .int .i64 (((mget met2 (end_stand3, end_left)).getD (0, 0, 0, 0, 0)).2.2.1)]] rfl (by decide) (by simp [Value.cells]) (by decide)) ?_; intro b206 hb206
     obtain ⟨out3, h207, g208, r209⟩ := ap_ok r204; clear r204
     refine o_appZ (xs := out2) (ys := [(((mget met2 (end_stand3, end_left)).getD (0, 0, 0, 0, 0)).2.1, ((mget met2 (end_stand3, end_left)).getD (0, 0, 0, 0, 0)).2.2.1)]) (zs := out3) rfl slt_30 rfl rfl (Nat.le_refl _) (fun _ => .c (.c (.c (.c (.c .h))))) hz196 (SrcR.box (vss := [[.int .i64 (((mget met2 (end_stand3, end_left)).getD (0, 0, 0, 0, 0)).2.1), .int .i64 (((mget met2 (end_stand3, end_left)).getD (0, 0, 0, 0, 0)).2.2.1)]]) (ys := [(((mget met2 (end_stand3, end_left)).getD (0, 0, 0, 0, 0)).2.1, ((mget met2 (end_stand3, end_left)).getD (0, 0, 0, 0, 0)).2.2.1)]) 0 rfl (prE_ok (iE_ok _) (iE_ok _)) (.cons ⟨_, _, rfl, rfl, rfl⟩ .nil) rfl rfl) h207 g208 (by decide) ?_; intro a210 n214 c211 Lb212 hz213
     refine kO (kd kr) ?_
     refine oa rfl rfl (shO_nil (shW_region ?_))
     refine ov (v_fieldAddr fa_119_2 rfl) rfl ?_
     refine ov (v_loadA (cs := #[.int .i64 (((mget met2 (end_stand3, end_left)).getD (0, 0, 0, 0, 0)).2.2.2.1), .int .i64 (((mget met2 (end_stand3, end_left)).getD (0, 0, 0, 0, 0)).2.2.2.2)]) Try.isAgg117 Try.sizeOf117 rfl (Has.own 0 rfl) (Nat.le_of_ble_eq_true rfl) rfl) rfl ?_
     refine o_storeA (i := 1) Try.sizeOf117 rfl rfl rfl (by simp [Value.oneCell']) rfl (Nat.le_of_ble_eq_true rfl) ?_
     refine shO_L (L' := (b205, .cells #[.int .i64 (((mget met2 (end_stand3, end_left)).getD (0, 0, 0, 0, 0)).1), .int .i64 (((mget met2 (end_stand3, end_left)).getD (0, 0, 0, 0, 0)).2.1), .int .i64 (((mget met2 (end_stand3, end_left)).getD (0, 0, 0, 0, 0)).2.2.1), .int .i64 (((mget met2 (end_stand3, end_left)).getD (0, 0, 0, 0, 0)).2.2.2.1), .int .i64 (((mget met2 (end_stand3, end_left)).getD (0, 0, 0, 0, 0)).2.2.2.2)] 119 (0, 0)) :: ((b154, .cells #[.int .i64 (((mget met2 (end_stand3, end_left)).getD (0, 0, 0, 0, 0)).2.2.2.1), .int .i64 (((mget met2 (end_stand3, end_left)).getD (0, 0, 0, 0, 0)).2.2.2.2)] 117 (0, 0)) :: ((b9, .cells #[.map (some b3)] 120 (0, 0)) :: ((b3, .map es10 cl11) :: (Lb212 ++ []))))) rfl ?_
     refine shO_nil (inBlock_n (id := 9) ?_)
     exact le (kd kr) ⟨((mget met2 (end_stand3, end_left)).getD (0, 0, 0, 0, 0)).2.2.2.1, ((mget met2 (end_stand3, end_left)).getD (0, 0, 0, 0, 0)).2.2.2.2, out3, a210, n214, c211, Lb212, r209, rfl, rfl, (sc rfl (sc rfl (sc rfl (sc rfl (sc rfl (sn _)))))), hz213⟩
   have r216 := ite_f r201 c203; clear r201
   refine shW_exit (andThen_exit (andThen_exit ?_))
   refine inBlock_exit ?_
   obtain rfl := inj1 r216
   exact mi (kd (kd (kd kr))) ⟨a193, n197, c194, Lb195, rfl, rfl, (sc rfl (sc rfl (sn _))), hz196⟩
 rintro e1 _ _ ⟨a185, n189, c186, Lb187, rfl, rfl, he217, hz188⟩
 refine shW_env _ he217 ?_; clear he217
 refine wsr (om rfl rfl ?_)
 obtain ⟨s_, h218, r219⟩ := b1_ok r192; clear r192
 refine o_callG (Lb := Lb187 ++ []) (Lr := []) rfl Try.call63 rfl rfl rfl (pT pR (lp (ln rfl))) (slices_Reverse_round_Cry_round_Cry_w hz188 h218) ?_; rintro _ F220 _ hF221 hd223 hn222 ⟨Lb224, rfl, rfl, hz225⟩
 refine shO_L (lp (ln rfl)) ?_
 refine nsr (om rfl rfl (om rfl rfl (oa rfl rfl (oa rfl rfl (oa rfl rfl (shO_nil (shW_ret ?_)))))))
 refine q_res3 Try.results31 (res_tmp rfl) (res_tmp rfl) (res_tmp rfl) (sr) ?_
 obtain ⟨rfl, rfl, rfl⟩ := inj3 r219
 exact ⟨_, _, _, _, rfl, rfl, hz225.any⟩
set_option maxHeartbeats 1000000 in
theorem round_crier_all_w {b_c : Nat} {walks_a : Option Addr} {walks_c : Nat} {walks : List (List Int)} {hears_a : Option Addr} {hears_c : Nat} {hears : List (List Int)} {houses start : Int} {notices_a : Option Addr} {notices_c : Nat} {notices : List ((List Int) × Int × Int)} {walks2 : List Int} {pairs_a : Option Addr} {pairs_c : Nat} {pairs : List (Int × Int)} {hit : List Int} {mb_c : Nat × Nat} {F : FS} (hb_c : F b_c = some (.cells ((([.slice walks_a walks.length walks_c] : List Value) ++ (([.slice hears_a hears.length hears_c] : List Value) ++ (([.int .i64 houses] : List Value) ++ (([.int .i64 start] : List Value) ++ (([.slice notices_a notices.length notices_c] : List Value) ++ (walks2.flatMap (cI .i64) ++ (([.slice pairs_a pairs.length pairs_c] : List Value) ++ (hit.flatMap (cI .i64))))))))).toArray) 101 mb_c)) (_h_walks : RowR 1 (slE 1 (iE .i64)) F walks_a walks_c walks) (_h_hears : RowR 1 (slE 1 (iE .i64)) F hears_a hears_c hears) (_h_notices : RowR 3 (prE (slE 1 (iE .i64)) (prE (iE .i64) (iE .i64))) F notices_a notices_c notices) (h_walks2 : walks2.length = 25) (_h_pairs : RowR 2 (prE (iE .i64) (iE .i64)) F pairs_a pairs_c pairs) (_h_hit : hit.length = 15) {r : Int} (hr : round_crier_all walks hears houses start notices walks2 pairs hit = some r) :
    SpecV Try.prog 32 #[.pointer (some ⟨b_c, 0, none⟩)] F (.int .i64 r) := by
 refine spec_of_shW (args := [.pointer (some ⟨b_c, 0, none⟩)]) Try.func32 rfl Try.ntmps32 (Nat.le_of_ble_eq_true rfl) ?_
 intro K _ _; rw [round_crier_all] at hr
 refine wsr (oa rfl rfl (nsr (om rfl rfl ?_)))
 refine ov (v_nilCheck rfl) rfl ?_
 refine ov (v_fieldAddr fa_101_2 rfl) rfl ?_
 refine ov (v_load Try.isAgg35 rfl (Has.frozen hb_c) (li_cell (li_skip (A := ([.slice walks_a walks.length walks_c] : List Value)) (k := 1) (o := 29) rfl (li_skip (A := ([.slice hears_a hears.length hears_c] : List Value)) (k := 1) (o := 28) rfl (li_skip (A := ([.int .i64 houses] : List Value)) (k := 1) (o := 27) rfl (li_skip (A := ([.int .i64 start] : List Value)) (k := 1) (o := 26) rfl (li_skip (A := ([.slice notices_a notices.length notices_c] : List Value)) (k := 1) (o := 25) rfl (li_skip (A := walks2.flatMap (cI .i64)) (k := 25) (o := 0) (lfl (cI_ok .i64) h_walks2) (li_here (B := hit.flatMap (cI .i64)) rfl))))))))) rfl ?_
 refine ov (v_lenS Try.underlying35 rfl) rfl ?_
 obtain ⟨g1, r2⟩ := gd_ok hr; clear hr
 refine ov (v_shl rfl rfl g1) rfl ?_
 obtain ⟨g3, r4⟩ := gd_ok r2; clear r2
 refine ov (v_sub rfl rfl g3) rfl ?_
 refine oa rfl rfl (shO_nil (shW_ret ?_))
 refine q_res1 Try.results32 (res_tmp rfl) (sr) ?_
 obtain rfl := inj1 r4
 exact rfl
set_option maxHeartbeats 1000000 in
theorem round_crier_by_1_w {notice minute : Int} {b_last : Nat} {last : Int} {mb_last : Nat × Nat} {b_c b_c_ : Nat} {walks_a : Option Addr} {walks_c : Nat} {walks : List (List Int)} {hears_a : Option Addr} {hears_c : Nat} {hears : List (List Int)} {houses start : Int} {notices_a : Option Addr} {notices_c : Nat} {notices : List ((List Int) × Int × Int)} {walks2 : List Int} {pairs_a : Option Addr} {pairs_c : Nat} {pairs : List (Int × Int)} {hit : List Int} {mb_c_ mb_c : Nat × Nat} {F : FS} (hb_last : F b_last = some (.cells #[.int .i64 last] 3 mb_last)) (hb_c : F b_c = some (.cells #[.pointer (some ⟨b_c_, 0, none⟩)] 73 mb_c)) (hb_c_ : F b_c_ = some (.cells ((([.slice walks_a walks.length walks_c] : List Value) ++ (([.slice hears_a hears.length hears_c] : List Value) ++ (([.int .i64 houses] : List Value) ++ (([.int .i64 start] : List Value) ++ (([.slice notices_a notices.length notices_c] : List Value) ++ (walks2.flatMap (cI .i64) ++ (([.slice pairs_a pairs.length pairs_c] : List Value) ++ (hit.flatMap (cI .i64))))))))).toArray) 101 mb_c_)) (_h_walks : RowR 1 (slE 1 (iE .i64)) F walks_a walks_c walks) (_h_hears : RowR 1 (slE 1 (iE .i64)) F hears_a hears_c hears) (h_notices : RowR 3 (prE (slE 1 (iE .i64)) (prE (iE .i64) (iE .i64))) F notices_a notices_c notices) (_h_walks2 : walks2.length = 25) (_h_pairs : RowR 2 (prE (iE .i64) (iE .i64)) F pairs_a pairs_c pairs) (_h_hit : hit.length = 15) {r : Bool} (hr : round_crier_by_1 notice minute last walks hears houses start notices walks2 pairs hit = some r) :
    SpecV Try.prog 66 #[.int .i64 notice, .int .i64 minute, .pointer (some ⟨b_last, 0, none⟩), .pointer (some ⟨b_c, 0, none⟩)] F (.bool r) := by
 refine spec_of_shW (args := [.int .i64 notice, .int .i64 minute, .pointer (some ⟨b_last, 0, none⟩), .pointer (some ⟨b_c, 0, none⟩)]) Try.func66 rfl Try.ntmps66 (Nat.le_of_ble_eq_true rfl) ?_
 intro K _ _; rw [round_crier_by_1] at hr
 refine wsr (oa rfl rfl ?_)
 refine nsd (by kernel_rfl) (by kernel_rfl) (by kernel_rfl) ?_
 refine qm rfl rfl ?_
 refine qv (v_load Try.isAgg3 rfl (Has.frozen hb_last) rfl) rfl ?_
 refine qv (v_load Try.isAgg73 rfl (Has.frozen hb_c) rfl) rfl ?_
 refine qv (v_nilCheck rfl) rfl ?_
 refine qv (v_fieldAddr fa_101_0 rfl) rfl ?_
 refine qv (v_fieldAddr fa_26_4 rfl) rfl ?_
 refine qv (v_load Try.isAgg24 rfl (Has.frozen hb_c_) (li_cell (li_skip (A := ([.slice walks_a walks.length walks_c] : List Value)) (k := 1) (o := 3) rfl (li_skip (A := ([.slice hears_a hears.length hears_c] : List Value)) (k := 1) (o := 2) rfl (li_skip (A := ([.int .i64 houses] : List Value)) (k := 1) (o := 1) rfl (li_skip (A := ([.int .i64 start] : List Value)) (k := 1) (o := 0) rfl (li_here (B := walks2.flatMap (cI .i64) ++ (([.slice pairs_a pairs.length pairs_c] : List Value) ++ (hit.flatMap (cI .i64)))) rfl))))))) rfl ?_
 refine qm rfl rfl ?_
 obtain ⟨x, g1, hx2, r3⟩ := ix_ok hr; clear hr
 obtain ⟨b4, o5, c6, vs7, ha8, hs9, hle10, ⟨_, _, rfl, ⟨a13, c14, rfl, h15⟩, ⟨_, _, rfl, rfl, rfl⟩⟩, hl11, hc12⟩ := RowR.at (prE_ok (slE_ok (iE_ok _)) (prE_ok (iE_ok _) (iE_ok _))) h_notices ([]) g1.1 hx2
 refine qv (v_indexO Try.underlying24 Try.sizeOf40 rfl ha8 rfl g1) rfl ?_
 refine qv (v_fieldAddr fa_40_2 rfl) rfl ?_
 refine qv (v_load Try.isAgg3 rfl hs9 (hc12 2 (by decide))) rfl ?_
 refine qv (v_min2 rfl rfl) rfl ?_
 refine qv (v_leqK rfl rfl) rfl ?_
 refine qa rfl rfl (shQ_nil (shW_ret ?_))
 refine q_res1 Try.results66 (res_tmp rfl) (sr) ?_
 obtain rfl := inj1 r3
 exact rfl
set_option maxHeartbeats 1000000 in
theorem round_crier_by_w {b_c : Nat} {walks_a : Option Addr} {walks_c : Nat} {walks : List (List Int)} {hears_a : Option Addr} {hears_c : Nat} {hears : List (List Int)} {houses start : Int} {notices_a : Option Addr} {notices_c : Nat} {notices : List ((List Int) × Int × Int)} {walks2 : List Int} {pairs_a : Option Addr} {pairs_c : Nat} {pairs : List (Int × Int)} {hit : List Int} {mb_c : Nat × Nat} {last : Int} {F : FS} (hb_c : F b_c = some (.cells ((([.slice walks_a walks.length walks_c] : List Value) ++ (([.slice hears_a hears.length hears_c] : List Value) ++ (([.int .i64 houses] : List Value) ++ (([.int .i64 start] : List Value) ++ (([.slice notices_a notices.length notices_c] : List Value) ++ (walks2.flatMap (cI .i64) ++ (([.slice pairs_a pairs.length pairs_c] : List Value) ++ (hit.flatMap (cI .i64))))))))).toArray) 101 mb_c)) (h_walks : RowR 1 (slE 1 (iE .i64)) F walks_a walks_c walks) (h_hears : RowR 1 (slE 1 (iE .i64)) F hears_a hears_c hears) (h_notices : RowR 3 (prE (slE 1 (iE .i64)) (prE (iE .i64) (iE .i64))) F notices_a notices_c notices) (h_walks2 : walks2.length = 25) (h_pairs : RowR 2 (prE (iE .i64) (iE .i64)) F pairs_a pairs_c pairs) (h_hit : hit.length = 15) {r : (Int × Int) → Option Bool} (hr : round_crier_by walks hears houses start notices walks2 pairs hit last = some r) :
    SH.Spec Try.prog 39 #[.pointer (some ⟨b_c, 0, none⟩), .int .i64 last] F [] fun F' L' v => ∃ (rfi : FuncId) (rfc : Array Value) (rcp : Array Value), v = .agg #[.func (.func rfi) rfc rcp] ∧ L' = [] ∧ FnR Try.prog F' rfi rfc rcp (prE (iE .i64) (iE .i64)) Value.bool r := by
 refine spec_of_shW (args := [.pointer (some ⟨b_c, 0, none⟩), .int .i64 last]) Try.func39 rfl Try.ntmps39 (Nat.le_of_ble_eq_true rfl) ?_
 intro K _ _; rw [round_crier_by] at hr
 refine wsr ?_
 refine o_box rfl rfl ?_; intro b1 hb1
 refine o_box rfl rfl ?_; intro b2 hb2
 refine o_alloc rfl Try.zeroValue81 ?_; intro b3 hb3
 refine nsr ?_
 refine ov (v_makeFunc rfl rfl) rfl ?_
 refine ov (v_build (v := .agg (#[.func (.func 66) #[] #[.pointer (some ⟨b2, 0, none⟩), .pointer (some ⟨b1, 0, none⟩)]])) rfl (by intro w; kernel_rfl)) rfl ?_
 refine o_storeA (i := 0) Try.sizeOf81 rfl rfl rfl (by simp [Value.oneCell']) rfl (Nat.le_of_ble_eq_true rfl) ?_
 refine shO_L (L' := [(b3, .cells (#[.func (.func 66) #[] #[.pointer (some ⟨b2, 0, none⟩), .pointer (some ⟨b1, 0, none⟩)]]) 81 (0, 0)), (b2, .cells #[.int .i64 last] 3 (0, 0)), (b1, .cells #[.pointer (some ⟨b_c, 0, none⟩)] 73 (0, 0))]) rfl ?_
 refine shO_nil ?_
 refine shW_freeze 1 rfl hb2 ?_; intro F4 hF5 hz6
 refine shW_L (L' := [(b3, .cells (#[.func (.func 66) #[] #[.pointer (some ⟨b2, 0, none⟩), .pointer (some ⟨b1, 0, none⟩)]]) 81 (0, 0)), (b1, .cells #[.pointer (some ⟨b_c, 0, none⟩)] 73 (0, 0))]) rfl ?_
 replace h_walks := h_walks.mono (slE_ok (iE_ok _)) hF5
 replace h_hears := h_hears.mono (slE_ok (iE_ok _)) hF5
 replace h_notices := h_notices.mono (prE_ok (slE_ok (iE_ok _)) (prE_ok (iE_ok _) (iE_ok _))) hF5
 replace h_pairs := h_pairs.mono (prE_ok (iE_ok _) (iE_ok _)) hF5
 replace hb_c := hF5 _ _ hb_c
 refine shW_freeze 1 rfl hb1 ?_; intro F7 hF8 hz9
 refine shW_L (L' := [(b3, .cells (#[.func (.func 66) #[] #[.pointer (some ⟨b2, 0, none⟩), .pointer (some ⟨b1, 0, none⟩)]]) 81 (0, 0))]) rfl ?_
 replace h_walks := h_walks.mono (slE_ok (iE_ok _)) hF8
 replace h_hears := h_hears.mono (slE_ok (iE_ok _)) hF8
 replace h_notices := h_notices.mono (prE_ok (slE_ok (iE_ok _)) (prE_ok (iE_ok _) (iE_ok _))) hF8
 replace h_pairs := h_pairs.mono (prE_ok (iE_ok _) (iE_ok _)) hF8
 replace hb_c := hF8 _ _ hb_c
 replace hz6 := hF8 _ _ hz6
 have hn10 : FnR Try.prog F7 66 #[] #[.pointer (some ⟨b2, 0, none⟩), .pointer (some ⟨b1, 0, none⟩)] (prE (iE .i64) (iE .i64)) Value.bool (fun xx_ : Int × Int => round_crier_by_1 xx_.1 xx_.2 last walks hears houses start notices walks2 pairs hit) := ⟨Try.call66, fun F2 h2 vs xx_ r ha hr => by obtain ⟨_, _, rfl, rfl, rfl⟩ := ha; exact round_crier_by_1_w (h2 _ _ hz6) (h2 _ _ hz9) (h2 _ _ hb_c) (h_walks.mono (slE_ok (iE_ok _)) h2) (h_hears.mono (slE_ok (iE_ok _)) h2) (h_notices.mono (prE_ok (slE_ok (iE_ok _)) (prE_ok (iE_ok _) (iE_ok _))) h2) h_walks2 (h_pairs.mono (prE_ok (iE_ok _) (iE_ok _)) h2) h_hit hr⟩
 refine shW_ret ?_
 refine q_res1 Try.results39 (res_cellA (cs := #[.func (.func 66) #[] #[.pointer (some ⟨b2, 0, none⟩), .pointer (some ⟨b1, 0, none⟩)]]) Try.isAgg81 Try.sizeOf81 rfl (Has.own 0 rfl) (Nat.le_of_ble_eq_true rfl) rfl) (s1 sr) ?_
 obtain rfl := inj1 hr
 exact ⟨_, _, _, rfl, rfl, hn10⟩
set_option maxHeartbeats 1000000 in
theorem round_crier_hours_w {b_c : Nat} {walks_a : Option Addr} {walks_c : Nat} {walks : List (List Int)} {hears_a : Option Addr} {hears_c : Nat} {hears : List (List Int)} {houses start : Int} {notices_a : Option Addr} {notices_c : Nat} {notices : List ((List Int) × Int × Int)} {walks2 : List Int} {pairs_a : Option Addr} {pairs_c : Nat} {pairs : List (Int × Int)} {hit : List Int} {mb_c : Nat × Nat} {F : FS} (hb_c : F b_c = some (.cells ((([.slice walks_a walks.length walks_c] : List Value) ++ (([.slice hears_a hears.length hears_c] : List Value) ++ (([.int .i64 houses] : List Value) ++ (([.int .i64 start] : List Value) ++ (([.slice notices_a notices.length notices_c] : List Value) ++ (walks2.flatMap (cI .i64) ++ (([.slice pairs_a pairs.length pairs_c] : List Value) ++ (hit.flatMap (cI .i64))))))))).toArray) 101 mb_c)) (h_walks : RowR 1 (slE 1 (iE .i64)) F walks_a walks_c walks) (h_hears : RowR 1 (slE 1 (iE .i64)) F hears_a hears_c hears) (h_notices : RowR 3 (prE (slE 1 (iE .i64)) (prE (iE .i64) (iE .i64))) F notices_a notices_c notices) (h_walks2 : walks2.length = 25) (h_pairs : RowR 2 (prE (iE .i64) (iE .i64)) F pairs_a pairs_c pairs) (h_hit : hit.length = 15) {r : (Int × Int) → Option Bool} (hr : round_crier_hours walks hears houses start notices walks2 pairs hit = some r) :
    SH.Spec Try.prog 33 #[.pointer (some ⟨b_c, 0, none⟩)] F [] fun F' L' v => ∃ (rfi : FuncId) (rfc : Array Value) (rcp : Array Value), v = .agg #[.func (.func rfi) rfc rcp] ∧ L' = [] ∧ FnR Try.prog F' rfi rfc rcp (prE (iE .i64) (iE .i64)) Value.bool r := by
 refine spec_of_shW (args := [.pointer (some ⟨b_c, 0, none⟩)]) Try.func33 rfl Try.ntmps33 (Nat.le_of_ble_eq_true rfl) ?_
 intro K _ _; rw [round_crier_hours] at hr
 refine wsr ?_
 refine o_alloc rfl Try.zeroValue81 ?_; intro b1 hb1
 refine nsr (om rfl rfl ?_)
 obtain ⟨y, h2, r3⟩ := b1_ok hr; clear hr
 refine o_call0 rfl Try.call39 rfl rfl rfl (round_crier_by_w hb_c h_walks h_hears h_notices h_walks2 h_pairs h_hit h2) ?_; rintro _ F4 _ hF5 hn6 ⟨fi8, fc9, cp10, rfl, rfl, hit11⟩
 refine shO_L (ln rfl) ?_
 refine o_storeA (i := 0) Try.sizeOf81 rfl rfl rfl (by simp [Value.oneCell']) rfl (Nat.le_of_ble_eq_true rfl) ?_
 refine shO_L (L' := [(b1, .cells #[.func (.func fi8) fc9 cp10] 81 (0, 0))]) rfl ?_
 refine shO_nil (shW_ret ?_)
 refine q_res1 Try.results33 (res_cellA (cs := #[.func (.func fi8) fc9 cp10]) Try.isAgg81 Try.sizeOf81 rfl (Has.own 0 rfl) (Nat.le_of_ble_eq_true rfl) rfl) (s1 sr) ?_
 obtain rfl := inj1 r3
 exact ⟨_, _, _, rfl, rfl, hit11⟩
set_option maxHeartbeats 1000000 in
theorem round_Best_w {walks_a : Option Addr} {walks_c : Nat} {walks : List (List Int)} {hears_a : Option Addr} {hears_c : Nat} {hears : List (List Int)} {houses start : Int} {notices_a : Option Addr} {notices_c : Nat} {notices : List ((List Int) × Int × Int)} {F : FS} (h_walks : RowR 1 (slE 1 (iE .i64)) F walks_a walks_c walks) (h_hears : RowR 1 (slE 1 (iE .i64)) F hears_a hears_c hears) (h_notices : RowR 3 (prE (slE 1 (iE .i64)) (prE (iE .i64) (iE .i64))) F notices_a notices_c notices) {r : List (Int × Int)} {r2 r3 : Int} (hr : round_Best walks hears houses start notices = some (r, r2, r3)) :
    SH.Spec Try.prog 8 #[.agg #[.slice walks_a walks.length walks_c, .slice hears_a hears.length hears_c, .int .i64 houses, .int .i64 start, .slice notices_a notices.length notices_c]] F [] fun F' L' v => ∃ (ra : Option Addr) (rn : Nat) (rc : Nat) (rL : LH), v = .tuple #[.slice ra rn rc, .int .i64 r2, .int .i64 r3] ∧ L' = rL ++ [] ∧ SlR 0 56 2 (prE (iE .i64) (iE .i64)) F' ra rn rc r rL := by
 refine spec_of_shW (args := [.agg #[.slice walks_a walks.length walks_c, .slice hears_a hears.length hears_c, .int .i64 houses, .int .i64 start, .slice notices_a notices.length notices_c]]) Try.func8 rfl Try.ntmps8 (Nat.le_of_ble_eq_true rfl) ?_
 intro K _ _; rw [round_Best] at hr
 refine wsr ?_
 refine o_box rfl rfl ?_; intro b1 hb1
 refine oa rfl rfl (oa rfl rfl (oa rfl rfl (nsr ?_)))
 refine ov (v_loadA (cs := #[.slice walks_a walks.length walks_c, .slice hears_a hears.length hears_c, .int .i64 houses, .int .i64 start, .slice notices_a notices.length notices_c]) Try.isAgg26 Try.sizeOf26 rfl (Has.own 0 rfl) (Nat.le_of_ble_eq_true rfl) rfl) rfl ?_
 obtain ⟨d, n, h2, r4⟩ := b2_ok hr; clear hr
 refine o_call0 rfl Try.call30 rfl rfl rfl (round_opened_w h_walks h_hears h_notices h2) ?_; rintro _ F5 _ hF6 hn7 ⟨v9, rfl, rfl, hp10⟩
 refine shO_L (ln rfl) ?_
 refine om rfl rfl (ox rfl rfl rfl (ox rfl rfl rfl (oa rfl rfl (oa rfl rfl (shO_nil (shW_seq (wsr (om rfl rfl ?_))))))))
 refine ov (v_neq rfl rfl) rfl ?_
 refine shO_nil ?_
 refine shW_condP rfl (fun c11 => ?_) (fun c11 => ?_)
 · have r12 := ite_t r4 c11; clear r4
   refine wsr (om rfl rfl (oa rfl rfl (oa rfl rfl (oa rfl rfl (shO_nil ?_)))))
   refine kW kn ?_
   refine shW_ret (andThen_ret ?_)
   refine q_res3 Try.results8 (res_tmp rfl) (res_tmp rfl) (res_tmp rfl) (sr) ?_
   obtain ⟨rfl, rfl, rfl⟩ := inj3 r12
   exact ⟨_, _, _, [], rfl, rfl, SlR.nil _ _ _ _ _⟩
 have r13 := ite_f r4 c11; clear r4
 refine shW_skip (wsr (om rfl rfl (om rfl rfl ?_)))
 obtain ⟨walks2, hears2, houses2, start2, notices2, walks3, pairs, hit, h14, r15⟩ := b8_ok r13; clear r13
 have h35 := hp10; rw [h14] at h35; obtain ⟨b16, c17, m18, hv19, hz20, ⟨_, _, rfl, ⟨a21, c22, rfl, h23⟩, ⟨_, _, rfl, ⟨a24, c25, rfl, h26⟩, ⟨_, _, rfl, rfl, ⟨_, _, rfl, rfl, ⟨_, _, rfl, ⟨a27, c28, rfl, h29⟩, ⟨_, _, rfl, ⟨rfl, h30⟩, ⟨_, _, rfl, ⟨a31, c32, rfl, h33⟩, ⟨rfl, h34⟩⟩⟩⟩⟩⟩⟩⟩⟩ := h35; subst hv19
 have hz20 : F5 b16 = some (.cells ((([.slice a21 walks2.length c22] : List Value) ++ (([.slice a24 hears2.length c25] : List Value) ++ (([.int .i64 houses2] : List Value) ++ (([.int .i64 start2] : List Value) ++ (([.slice a27 notices2.length c28] : List Value) ++ (walks3.flatMap (cI .i64) ++ (([.slice a31 pairs.length c32] : List Value) ++ (hit.flatMap (cI .i64))))))))).toArray) 101 m18) := hz20
 obtain ⟨n2, h36, r37⟩ := b1_ok r15; clear r15
 refine o_callV rfl Try.call32 rfl rfl rfl (round_crier_all_w hz20 h23 h26 h29 h30 h33 h34 h36) ?_
 refine om rfl rfl ?_
 obtain ⟨y, h38, r39⟩ := b1_ok r37; clear r37
 refine o_call0 rfl Try.call33 rfl rfl rfl (round_crier_hours_w hz20 h23 h26 h29 h30 h33 h34 h38) ?_; rintro _ F40 _ hF41 hn42 ⟨fi44, fc45, cp46, rfl, rfl, hit47⟩
 replace h23 := h23.mono (slE_ok (iE_ok _)) hF41
 replace h26 := h26.mono (slE_ok (iE_ok _)) hF41
 replace h29 := h29.mono (prE_ok (slE_ok (iE_ok _)) (prE_ok (iE_ok _) (iE_ok _))) hF41
 replace h33 := h33.mono (prE_ok (iE_ok _) (iE_ok _)) hF41
 replace hz20 := hF41 _ _ hz20
 refine shO_L (ln rfl) ?_
 obtain ⟨l, n3, ok, h48, r49⟩ := b3_ok r39; clear r39
 refine o_call0 rfl Try.call31 rfl rfl rfl (round_crier_serve_w hz20 h23 h26 h29 h30 h33 h34 hit47 h48) ?_; rintro _ F50 _ hF51 hn52 ⟨a54, n58, c55, Lb56, rfl, rfl, hz57⟩
 replace hz57 := hz57.new fun p hp => hn52 p (by simp [hp])
 refine shO_L (lp (ln rfl)) ?_
 refine kO (kf (fS fO) kr) ?_
 refine om rfl rfl (ox rfl rfl rfl (ox rfl rfl rfl (ox rfl rfl rfl (oa rfl rfl (oa rfl rfl (oa rfl rfl (shO_nil (shW_seq (wsr ?_)))))))))
 refine om rfl rfl ?_
 refine ov (v_notB rfl) rfl ?_
 refine shO_nil ?_
 refine shW_cond rfl (fun c60 => ?_) (fun c60 => ?_)
 · have r61 := bt r49 c60; clear r49
   refine wsr (oa rfl rfl (oa rfl rfl (oa rfl rfl (shO_nil ?_))))
   refine kW kn ?_
   refine shW_ret (andThen_ret ?_)
   refine q_res3 Try.results8 (res_tmp rfl) (res_tmp rfl) (res_tmp rfl) (sr) ?_
   obtain ⟨rfl, rfl, rfl⟩ := inj3 r61
   exact ⟨_, _, _, [], rfl, rfl, SlR.nil _ _ _ _ _⟩
 have r62 := bf r49 c60; clear r49
 refine shW_skip (wsr (om rfl rfl (om rfl rfl (oa rfl rfl (oa rfl rfl (oa rfl rfl (shO_nil ?_)))))))
 refine kW (kd kr) ?_
 refine shW_ret ?_
 refine q_res3 Try.results8 (res_tmp rfl) (res_tmp rfl) (res_tmp rfl) (sr) ?_
 obtain ⟨rfl, rfl, rfl⟩ := inj3 r62
 exact ⟨_, _, _, _, rfl, rfl, hz57.any⟩
set_option maxHeartbeats 1000000 in
theorem round_crier_chosen_w {b_c : Nat} {walks_a : Option Addr} {walks_c : Nat} {walks : List (List Int)} {hears_a : Option Addr} {hears_c : Nat} {hears : List (List Int)} {houses start : Int} {notices_a : Option Addr} {notices_c : Nat} {notices : List ((List Int) × Int × Int)} {walks2 : List Int} {pairs_a : Option Addr} {pairs_c : Nat} {pairs : List (Int × Int)} {hit : List Int} {mb_c : Nat × Nat} {set_ : Int} {F : FS} (hb_c : F b_c = some (.cells ((([.slice walks_a walks.length walks_c] : List Value) ++ (([.slice hears_a hears.length hears_c] : List Value) ++ (([.int .i64 houses] : List Value) ++ (([.int .i64 start] : List Value) ++ (([.slice notices_a notices.length notices_c] : List Value) ++ (walks2.flatMap (cI .i64) ++ (([.slice pairs_a pairs.length pairs_c] : List Value) ++ (hit.flatMap (cI .i64))))))))).toArray) 101 mb_c)) (_h_walks : RowR 1 (slE 1 (iE .i64)) F walks_a walks_c walks) (_h_hears : RowR 1 (slE 1 (iE .i64)) F hears_a hears_c hears) (_h_notices : RowR 3 (prE (slE 1 (iE .i64)) (prE (iE .i64) (iE .i64))) F notices_a notices_c notices) (h_walks2 : walks2.length = 25) (h_pairs : RowR 2 (prE (iE .i64) (iE .i64)) F pairs_a pairs_c pairs) (_h_hit : hit.length = 15) {r : List (Int × Int)} (hr : round_crier_chosen walks hears houses start notices walks2 pairs hit set_ = some r) :
    SH.Spec Try.prog 40 #[.pointer (some ⟨b_c, 0, none⟩), .int .i64 set_] F [] fun F' L' v => ∃ (ra : Option Addr) (rn : Nat) (rc : Nat) (rL : LH), v = .slice ra rn rc ∧ L' = rL ++ [] ∧ SlR 0 48 2 (prE (iE .i64) (iE .i64)) F' ra rn rc r rL := by
 refine spec_of_shW (args := [.pointer (some ⟨b_c, 0, none⟩), .int .i64 set_]) Try.func40 rfl Try.ntmps40 (Nat.le_of_ble_eq_true rfl) ?_
 intro K _ _; rw [round_crier_chosen] at hr
 refine wsr (oa rfl rfl (nsr (oa rfl rfl (shO_nil ?_))))
 obtain ⟨out, h7, r8⟩ := b1_ok hr; clear hr
 refine shW_join (fun e1 F1 L1 => ∃ (a1 : Option Addr) (n5 : Nat) (c2 : Nat) (Lb3 : LH), F = F1 ∧ L1 = (Lb3 ++ []) ∧ e1.sub [(5, .slice a1 n5 c2)] ∧ SlR K.w0.heap.size 48 2 (prE (iE .i64) (iE .i64)) F1 a1 n5 c2 out Lb3) ?_ ?_
 · clear r8
   refine wsr (om rfl rfl ?_)
   refine ov (v_nilCheck rfl) rfl ?_
   refine ov (v_fieldAddr fa_101_2 rfl) rfl ?_
   refine ov (v_load Try.isAgg35 rfl (Has.frozen hb_c) (li_cell (li_skip (A := ([.slice walks_a walks.length walks_c] : List Value)) (k := 1) (o := 29) rfl (li_skip (A := ([.slice hears_a hears.length hears_c] : List Value)) (k := 1) (o := 28) rfl (li_skip (A := ([.int .i64 houses] : List Value)) (k := 1) (o := 27) rfl (li_skip (A := ([.int .i64 start] : List Value)) (k := 1) (o := 26) rfl (li_skip (A := ([.slice notices_a notices.length notices_c] : List Value)) (k := 1) (o := 25) rfl (li_skip (A := walks2.flatMap (cI .i64)) (k := 25) (o := 0) (lfl (cI_ok .i64) h_walks2) (li_here (B := hit.flatMap (cI .i64)) rfl))))))))) rfl ?_
   refine ov (v_lenS Try.underlying35 rfl) rfl ?_
   refine om rfl rfl (shO_nil ?_)
   refine shW_block ?_
   refine shW_lp (fun fu1 e1 F1 L1 => ∃ (tl : List (Int × Int)) (k : Int), tl.length = fu1 ∧ Lst pairs k tl ∧ ∃ (out2 : List (Int × Int)) (a9 : Option Addr) (n13 : Nat) (c10 : Nat) (Lb11 : LH), round_crier_chosen_l1 set_ tl k out2 = some out ∧ F = F1 ∧ L1 = (Lb11 ++ []) ∧ e1.sub [(1, .int .i64 set_), (5, .slice a9 n13 c10), (11, .slice pairs_a pairs.length pairs_c), (12, .int .i64 (pairs.length : Int)), (13, .int .i64 k)] ∧ SlR K.w0.heap.size 48 2 (prE (iE .i64) (iE .i64)) F1 a9 n13 c10 out2 Lb11) _ (m0 (ke kr) ⟨_, _, rfl, Lst.start _, [], none, 0, 0, [], h7, rfl, rfl, (sc rfl (sc rfl (sc rfl (sc rfl (sc rfl (sn _)))))), SlR.nil _ _ _ _ _⟩) ?_
   rintro fu1 e1 _ _ ⟨tl, k, hn16, hk15, out2, a9, n13, c10, Lb11, r17, rfl, rfl, he18, hz12⟩
   refine shW_env _ he18 ?_; clear he18
   refine wsr ?_
   refine ov (v_lssK rfl rfl) rfl ?_
   refine shO_nil (shW_seq ?_)
   refine shW_condP rfl (fun c20 => ?_) (fun c20 => ?_)
   · obtain ⟨x, tl2, rfl, hx22, g23, hk21⟩ := Lst.succ hk15 c20
     rw [round_crier_chosen_l1] at r17
     refine shW_skip (shW_seq ?_)
     refine shW_block ?_
     refine wsr (om rfl rfl ?_)
     obtain ⟨b24, o25, c26, vs27, ha28, hs29, hle30, ⟨_, _, rfl, rfl, rfl⟩, hl31, hc32⟩ := RowR.at (prE_ok (iE_ok _) (iE_ok _)) h_pairs (Lb11 ++ []) g23.1 hx22
     refine ov (v_indexO Try.underlying35 Try.sizeOf48 rfl ha28 rfl g23) rfl ?_
     refine ov (v_loadA (cs := #[.int .i64 x.1, .int .i64 x.2]) Try.isAgg48 Try.sizeOf48 rfl hs29 hle30 (extract_cells hle30 hl31 hc32)) rfl ?_
     refine o_alloc rfl Try.zeroValue48 ?_; intro b33 hb33
     refine oa rfl rfl ?_
     refine o_storeA (i := 0) Try.sizeOf48 rfl rfl rfl (by simp [Value.oneCell']) rfl (Nat.le_of_ble_eq_true rfl) ?_
     refine shO_L (L' := (b33, .cells #[.int .i64 x.1, .int .i64 x.2] 48 (0, 0)) :: (Lb11 ++ [])) rfl ?_
     refine nsr (om rfl rfl (om rfl rfl ?_))
     obtain ⟨g34, r35⟩ := gd_ok r17; clear r17
     refine ov (v_shr rfl rfl g34) rfl ?_
     refine ov (v_and rfl rfl) rfl ?_
     refine ov (v_eql rfl rfl) rfl ?_
     refine shO_nil ?_
     refine shW_condP rfl (fun c36 => ?_) (fun c36 => ?_)
     · have r37 := ite_t r35 c36; clear r35
       refine shW_region (om rfl rfl ?_)
       refine ov (v_loadA (cs := #[.int .i64 x.1, .int .i64 x.2]) Try.isAgg48 Try.sizeOf48 rfl (Has.own 0 rfl) (Nat.le_of_ble_eq_true rfl) rfl) rfl ?_
       refine o_buildSlice (cs := #[.int .i64 x.1, .int .i64 x.2]) rfl rfl (buildSlice_all slt_35 [.agg #[.int .i64 x.1, .int .i64 x.2]] rfl (by decide) (by simp [Value.cells]) (by decide)) ?_; intro b38 hb38
       obtain ⟨out3, h39, g40, r41⟩ := ap_ok r37; clear r37
       refine o_appZ (xs := out2) (ys := [(x.1, x.2)]) (zs := out3) rfl slt_35 rfl rfl (Nat.le_refl _) (fun _ => .c (.c .h)) hz12 (SrcR.box (vss := [[.int .i64 x.1, .int .i64 x.2]]) (ys := [(x.1, x.2)]) 0 rfl (prE_ok (iE_ok _) (iE_ok _)) (.cons ⟨_, _, rfl, rfl, rfl⟩ .nil) rfl rfl) h39 g40 (by decide) ?_; intro a42 n46 c43 Lb44 hz45
       refine kO (kd kr) ?_
       refine oa rfl rfl (shO_nil (inBlock_n (id := 1) (shW_region ?_)))
       refine ov (v_add rfl rfl (Lst.r64 hk15 c20 (RowR.lt h_pairs))) rfl ?_
       refine om rfl rfl (shO_nil ?_)
       subst hn16; exact le (kd kr) ⟨_, _, rfl, hk21, out3, a42, n46, c43, Lb44, r41, rfl, rfl, (sc rfl (sc rfl (sc rfl (sc rfl (sc rfl (sn _)))))), hz45⟩
     have r48 := ite_f r35 c36; clear r35
     refine shW_skip (inBlock_n (id := 1) (shW_region ?_))
     refine ov (v_add rfl rfl (Lst.r64 hk15 c20 (RowR.lt h_pairs))) rfl ?_
     refine om rfl rfl (shO_nil ?_)
     subst hn16; exact le (kd kr) ⟨_, _, rfl, hk21, out2, a9, n13, c10, Lb11, r48, rfl, rfl, (sc rfl (sc rfl (sc rfl (sc rfl (sc rfl (sn _)))))), hz12⟩
   obtain rfl := Lst.zero hk15 c20
   rw [round_crier_chosen_l1] at r17
   refine shW_exit (andThen_exit (andThen_exit ?_))
   refine inBlock_exit ?_
   obtain rfl := inj1 r17
   exact mi kr ⟨a9, n13, c10, Lb11, rfl, rfl, (sc rfl (sn _)), hz12⟩
 rintro e1 _ _ ⟨a1, n5, c2, Lb3, rfl, rfl, he49, hz4⟩
 refine shW_env _ he49 ?_; clear he49
 refine wsr (om rfl rfl (oa rfl rfl (shO_nil (shW_ret ?_))))
 refine q_res1 Try.results40 (res_tmp rfl) (sr) ?_
 obtain rfl := inj1 r8
 exact ⟨_, _, _, _, rfl, rfl, hz4.any⟩
set_option maxHeartbeats 1000000 in
theorem round_crier_excludes_1B_w {rec_ : Int → Int → Int → (List (List Int)) → (List (List Int)) → Int → Int → (List ((List Int) × Int × Int)) → (List Int) → (List (Int × Int)) → (List Int) → ((Int × Int) → Option Bool) → Int → Option (Bool × Int)} (hrec : ∀ {set_ from_ many : Int} {b_c b_c_ : Nat} {walks_a : Option Addr} {walks_c : Nat} {walks : List (List Int)} {hears_a : Option Addr} {hears_c : Nat} {hears : List (List Int)} {houses start : Int} {notices_a : Option Addr} {notices_c : Nat} {notices : List ((List Int) × Int × Int)} {walks2 : List Int} {pairs_a : Option Addr} {pairs_c : Nat} {pairs : List (Int × Int)} {hit : List Int} {mb_c_ mb_c : Nat × Nat} {b_w : Nat} {ok_f : FuncId} {ok_1 ok_2 : Array Value} {ok : (Int × Int) → Option Bool} {mb_w : Nat × Nat} {b_found : Nat} {found : Int} {b_more : Nat} {mb_more : Nat × Nat} {F : FS} (_ : F b_c = some (.cells #[.pointer (some ⟨b_c_, 0, none⟩)] 73 mb_c)) (_ : F b_c_ = some (.cells ((([.slice walks_a walks.length walks_c] : List Value) ++ (([.slice hears_a hears.length hears_c] : List Value) ++ (([.int .i64 houses] : List Value) ++ (([.int .i64 start] : List Value) ++ (([.slice notices_a notices.length notices_c] : List Value) ++ (walks2.flatMap (cI .i64) ++ (([.slice pairs_a pairs.length pairs_c] : List Value) ++ (hit.flatMap (cI .i64))))))))).toArray) 101 mb_c_)) (_ : RowR 1 (slE 1 (iE .i64)) F walks_a walks_c walks) (_ : RowR 1 (slE 1 (iE .i64)) F hears_a hears_c hears) (_ : RowR 3 (prE (slE 1 (iE .i64)) (prE (iE .i64) (iE .i64))) F notices_a notices_c notices) (_ : walks2.length = 25) (_ : RowR 2 (prE (iE .i64) (iE .i64)) F pairs_a pairs_c pairs) (_ : hit.length = 15) (_ : F b_w = some (.cells #[.func (.func ok_f) ok_1 ok_2] 81 mb_w)) (_ : FnR Try.prog F ok_f ok_1 ok_2 (prE (iE .i64) (iE .i64)) Value.bool ok) (_ : F b_more = some (.cells (#[.func (.func 67) #[] #[.pointer (some ⟨b_c, 0, none⟩), .pointer (some ⟨b_w, 0, none⟩), .pointer (some ⟨b_found, 0, none⟩), .pointer (some ⟨b_more, 0, none⟩)]]) 88 mb_more)) {r : Bool} {r2 : Int} , rec_ set_ from_ many walks hears houses start notices walks2 pairs hit ok found = some (r, r2) → SH.Spec Try.prog 67 #[.int .i64 set_, .int .i64 from_, .int .i64 many, .pointer (some ⟨b_c, 0, none⟩), .pointer (some ⟨b_w, 0, none⟩), .pointer (some ⟨b_found, 0, none⟩), .pointer (some ⟨b_more, 0, none⟩)] F [(b_found, .cells #[.int .i64 found] 3 (0, 0))] fun _ L' v => v = .bool r ∧ L' = [(b_found, .cells #[.int .i64 r2] 3 (0, 0))]) {set_ from_ many : Int} {b_c b_c_ : Nat} {walks_a : Option Addr} {walks_c : Nat} {walks : List (List Int)} {hears_a : Option Addr} {hears_c : Nat} {hears : List (List Int)} {houses start : Int} {notices_a : Option Addr} {notices_c : Nat} {notices : List ((List Int) × Int × Int)} {walks2 : List Int} {pairs_a : Option Addr} {pairs_c : Nat} {pairs : List (Int × Int)} {hit : List Int} {mb_c_ mb_c : Nat × Nat} {b_w : Nat} {ok_f : FuncId} {ok_1 ok_2 : Array Value} {ok : (Int × Int) → Option Bool} {mb_w : Nat × Nat} {b_found : Nat} {found : Int} {b_more : Nat} {mb_more : Nat × Nat} {F : FS} (hb_c : F b_c = some (.cells #[.pointer (some ⟨b_c_, 0, none⟩)] 73 mb_c)) (hb_c_ : F b_c_ = some (.cells ((([.slice walks_a walks.length walks_c] : List Value) ++ (([.slice hears_a hears.length hears_c] : List Value) ++ (([.int .i64 houses] : List Value) ++ (([.int .i64 start] : List Value) ++ (([.slice notices_a notices.length notices_c] : List Value) ++ (walks2.flatMap (cI .i64) ++ (([.slice pairs_a pairs.length pairs_c] : List Value) ++ (hit.flatMap (cI .i64))))))))).toArray) 101 mb_c_)) (h_walks : RowR 1 (slE 1 (iE .i64)) F walks_a walks_c walks) (h_hears : RowR 1 (slE 1 (iE .i64)) F hears_a hears_c hears) (h_notices : RowR 3 (prE (slE 1 (iE .i64)) (prE (iE .i64) (iE .i64))) F notices_a notices_c notices) (h_walks2 : walks2.length = 25) (h_pairs : RowR 2 (prE (iE .i64) (iE .i64)) F pairs_a pairs_c pairs) (h_hit : hit.length = 15) (hb_w : F b_w = some (.cells #[.func (.func ok_f) ok_1 ok_2] 81 mb_w)) (h_ok : FnR Try.prog F ok_f ok_1 ok_2 (prE (iE .i64) (iE .i64)) Value.bool ok) (hb_more : F b_more = some (.cells (#[.func (.func 67) #[] #[.pointer (some ⟨b_c, 0, none⟩), .pointer (some ⟨b_w, 0, none⟩), .pointer (some ⟨b_found, 0, none⟩), .pointer (some ⟨b_more, 0, none⟩)]]) 88 mb_more)) {r : Bool} {r2 : Int} (hr : round_crier_excludes_1B rec_ set_ from_ many walks hears houses start notices walks2 pairs hit ok found = some (r, r2)) :
    SH.Spec Try.prog 67 #[.int .i64 set_, .int .i64 from_, .int .i64 many, .pointer (some ⟨b_c, 0, none⟩), .pointer (some ⟨b_w, 0, none⟩), .pointer (some ⟨b_found, 0, none⟩), .pointer (some ⟨b_more, 0, none⟩)] F [(b_found, .cells #[.int .i64 found] 3 (0, 0))] fun _ L' v => v = .bool r ∧ L' = [(b_found, .cells #[.int .i64 r2] 3 (0, 0))] := by
 refine spec_of_shW (args := [.int .i64 set_, .int .i64 from_, .int .i64 many, .pointer (some ⟨b_c, 0, none⟩), .pointer (some ⟨b_w, 0, none⟩), .pointer (some ⟨b_found, 0, none⟩), .pointer (some ⟨b_more, 0, none⟩)]) Try.func67 rfl Try.ntmps67 (Nat.le_of_ble_eq_true rfl) ?_
 intro K _ _; rw [round_crier_excludes_1B] at hr
 refine wsr (oa rfl rfl (shO_nil (shW_seq (wsr (om rfl rfl ?_)))))
 refine ov (v_eql rfl rfl) rfl ?_
 refine shO_nil ?_
 refine shW_condP rfl (fun c1 => ?_) (fun c1 => ?_)
 · have r3 := ite_t hr c1; clear hr
   refine wsr ?_
   refine ov (v_load Try.isAgg73 rfl (Has.frozen hb_c) rfl) rfl ?_
   refine om rfl rfl ?_
   refine ov (v_loadA (cs := #[.func (.func ok_f) ok_1 ok_2]) Try.isAgg81 Try.sizeOf81 rfl (Has.frozen hb_w) (Nat.le_of_ble_eq_true rfl) rfl) rfl ?_
   obtain ⟨l, n, ok2, h4, r5⟩ := b3_ok r3; clear r3
   refine o_call0 rfl Try.call31 rfl rfl rfl (round_crier_serve_w hb_c_ h_walks h_hears h_notices h_walks2 h_pairs h_hit h_ok h4) ?_; rintro _ F6 _ hF7 hn8 ⟨a10, n14, c11, Lb12, rfl, rfl, hz13⟩
   refine shO_L (lp (ln rfl)) ?_
   refine kO (kf (fS fO) kr) ?_
   refine om rfl rfl (ox rfl rfl rfl (ox rfl rfl rfl (ox rfl rfl rfl (oa rfl rfl (oa rfl rfl (oa rfl rfl (shO_nil (shW_seq (wsr ?_)))))))))
   refine om rfl rfl ?_
   refine ov (v_notB rfl) rfl ?_
   refine shO_nil ?_
   refine shW_cond rfl (fun c16 => ?_) (fun c16 => ?_)
   · have r17 := bt r5 c16; clear r5
     refine shW_region (om rfl rfl ?_)
     refine o_store (i := 0) Try.sizeOf3 rfl rfl rfl rfl (Nat.le_of_ble_eq_true rfl) ?_
     refine shO_L (L' := (b_found, .cells #[.int .i64 set_] 3 (0, 0)) :: (Lb12 ++ [])) rfl ?_
     refine nsr (om rfl rfl ?_)
     refine ov (v_notB rfl) rfl ?_
     refine oa rfl rfl (shO_nil ?_)
     refine kW (kc kn) ?_
     refine shW_ret (andThen_ret ?_)
     refine q_res1 Try.results67 (res_tmp rfl) (sr) ?_
     obtain ⟨rfl, rfl⟩ := inj2 r17
     exact ⟨rfl, rfl⟩
   have r18 := bf r5 c16; clear r5
   refine shW_skip (wsr (om rfl rfl ?_))
   refine ov (v_notB rfl) rfl ?_
   refine oa rfl rfl (shO_nil ?_)
   refine kW (kc kn) ?_
   refine shW_ret (andThen_ret ?_)
   refine q_res1 Try.results67 (res_tmp rfl) (sr) ?_
   obtain ⟨rfl, rfl⟩ := inj2 r18
   exact ⟨rfl, rfl⟩
 have r19 := ite_f hr c1; clear hr
 refine shW_skip ?_
 refine shW_join (fun e1 F1 L1 => ∃ (found2 : Int), round_crier_excludes_1B_j1 found2 = some (r, r2) ∧ FExt F F1 ∧ L1 = [(b_found, .cells #[.int .i64 found2] 3 (0, 0))] ∧ e1.sub []) ?_ ?_
 · refine wsr (om rfl rfl (oa rfl rfl (shO_nil ?_)))
   refine shW_block ?_
   obtain ⟨g20, r21⟩ := gd_ok r19; clear r19
   refine shW_lp (fun fu2 e1 F1 L1 => ∃ (i : Int), Ctr from_ (pairs.length : Int) i fu2 ∧ ∃ (found3 : Int), round_crier_excludes_1B_l2 set_ many walks hears houses start notices walks2 pairs hit ok rec_ fu2 i found3 = some (r, r2) ∧ FExt F F1 ∧ L1 = [(b_found, .cells #[.int .i64 found3] 3 (0, 0))] ∧ e1.sub [(0, .int .i64 set_), (2, .int .i64 many), (3, .pointer (some ⟨b_c, 0, none⟩)), (6, .pointer (some ⟨b_more, 0, none⟩)), (14, .int .i64 i)]) _ (m0 kr ⟨_, Ctr.start _ _, found, r21, FExt.refl _, rfl, (sc rfl (sc rfl (sc rfl (sc rfl (sc rfl (sn _))))))⟩) ?_
   rintro fu2 e1 F26 _ ⟨i, hk22, found3, r24, hF27, rfl, he25⟩
   refine shW_env _ he25 ?_; clear he25
   replace h_walks := h_walks.mono (slE_ok (iE_ok _)) hF27
   replace h_hears := h_hears.mono (slE_ok (iE_ok _)) hF27
   replace h_notices := h_notices.mono (prE_ok (slE_ok (iE_ok _)) (prE_ok (iE_ok _) (iE_ok _))) hF27
   replace h_pairs := h_pairs.mono (prE_ok (iE_ok _) (iE_ok _)) hF27
   replace h_ok := h_ok.mono hF27
   replace hb_c_ := hF27 _ _ hb_c_
   replace hb_c := hF27 _ _ hb_c
   replace hb_w := hF27 _ _ hb_w
   replace hb_more := hF27 _ _ hb_more
   refine shW_seq (wsr (om rfl rfl ?_))
   refine ov (v_load Try.isAgg73 rfl (Has.frozen hb_c) rfl) rfl ?_
   refine ov (v_nilCheck rfl) rfl ?_
   refine ov (v_fieldAddr fa_101_2 rfl) rfl ?_
   refine ov (v_load Try.isAgg35 rfl (Has.frozen hb_c_) (li_cell (li_skip (A := ([.slice walks_a walks.length walks_c] : List Value)) (k := 1) (o := 29) rfl (li_skip (A := ([.slice hears_a hears.length hears_c] : List Value)) (k := 1) (o := 28) rfl (li_skip (A := ([.int .i64 houses] : List Value)) (k := 1) (o := 27) rfl (li_skip (A := ([.int .i64 start] : List Value)) (k := 1) (o := 26) rfl (li_skip (A := ([.slice notices_a notices.length notices_c] : List Value)) (k := 1) (o := 25) rfl (li_skip (A := walks2.flatMap (cI .i64)) (k := 25) (o := 0) (lfl (cI_ok .i64) h_walks2) (li_here (B := hit.flatMap (cI .i64)) rfl))))))))) rfl ?_
   refine ov (v_lenS Try.underlying35 rfl) rfl ?_
   refine ov (v_lssK rfl rfl) rfl ?_
   refine shO_nil ?_
   refine shW_condP rfl (fun c29 => ?_) (fun c29 => ?_)
   · obtain ⟨fu2, rfl, hk30⟩ := Ctr.succ hk22 c29
     rw [round_crier_excludes_1B_l2] at r24
     refine shW_skip (shW_seq ?_)
     refine shW_block ?_
     refine shW_seq ?_
     refine shW_drawM [(.still, 0), (.still, 1), (.still, 2), (.still, 3), (.still, 4), (.still, 5), (.still, 6), (.still, 7), (.still, 8), (.seq, 9)] (by kernel_rfl) (by kernel_rfl) (trivial) (by rfl) (by kernel_rfl) ?_
     refine shM_v (v := .func (.func 67) #[] #[.pointer (some ⟨b_c, 0, none⟩), .pointer (some ⟨b_w, 0, none⟩), .pointer (some ⟨b_found, 0, none⟩), .pointer (some ⟨b_more, 0, none⟩)]) (ek := [(6, .pointer (some ⟨b_more, 0, none⟩))]) (Ls := []) rfl rfl rfl rfl ((sc rfl (sn _))) (by kernel_rfl) sm (fun H F' L' hF' hL' => v_load Try.isAgg88 rfl ((Has.frozen hb_more).ext hF' hL') rfl) ?_
     refine shM_v (v := .int .i64 set_) (ek := [(0, .int .i64 set_)]) (Ls := []) rfl rfl rfl rfl ((sc rfl (sn _))) (by kernel_rfl) sm (fun H F' L' hF' hL' => v_move rfl) ?_
     refine shM_v (v := .int .i64 i) (ek := [(14, .int .i64 i)]) (Ls := []) rfl rfl rfl rfl ((sc rfl (sn _))) (by kernel_rfl) sm (fun H F' L' hF' hL' => v_move rfl) ?_
     obtain ⟨g31, r32⟩ := gd_ok r24; clear r24
     refine shM_v (v := .int .i64 (shl 1 i)) (ek := [(42, .int .i64 i)]) (Ls := []) rfl rfl rfl rfl ((sc rfl (sn _))) (by kernel_rfl) sm (fun H F' L' hF' hL' => v_shl rfl rfl g31) ?_
     refine shM_v (v := .int .i64 (bor set_ (shl 1 i))) (ek := [(41, .int .i64 set_), (43, .int .i64 (shl 1 i))]) (Ls := []) rfl rfl rfl rfl ((sc rfl (sc rfl (sn _)))) (by kernel_rfl) sm (fun H F' L' hF' hL' => v_or rfl rfl) ?_
     refine shM_v (v := .int .i64 i) (ek := [(14, .int .i64 i)]) (Ls := []) rfl rfl rfl rfl ((sc rfl (sn _))) (by kernel_rfl) sm (fun H F' L' hF' hL' => v_move rfl) ?_
     refine shM_v (v := .int .i64 (i + 1)) (ek := [(45, .int .i64 i)]) (Ls := []) rfl rfl rfl rfl ((sc rfl (sn _))) (by kernel_rfl) sm (fun H F' L' hF' hL' => v_add rfl rfl (Ctr.r64 hk22 c29 g20)) ?_
     refine shM_v (v := .int .i64 many) (ek := [(2, .int .i64 many)]) (Ls := []) rfl rfl rfl rfl ((sc rfl (sn _))) (by kernel_rfl) sm (fun H F' L' hF' hL' => v_move rfl) ?_
     obtain ⟨g33, r34⟩ := gd_ok r32; clear r32
     refine shM_v (v := .int .i64 (many - 1)) (ek := [(47, .int .i64 many)]) (Ls := []) rfl rfl rfl rfl ((sc rfl (sn _))) (by kernel_rfl) sm (fun H F' L' hF' hL' => v_sub rfl rfl g33) ?_
     refine ⟨_, [(40, .func (.func 67) #[] #[.pointer (some ⟨b_c, 0, none⟩), .pointer (some ⟨b_w, 0, none⟩), .pointer (some ⟨b_found, 0, none⟩), .pointer (some ⟨b_more, 0, none⟩)]), (44, .int .i64 (bor set_ (shl 1 i))), (46, .int .i64 (i + 1)), (48, .int .i64 (many - 1))], rfl, rfl, (sc rfl (sc rfl (sc rfl (sc rfl (sn _))))), by kernel_rfl, ?_⟩; intro H
     obtain ⟨ok3, found4, h35, r36⟩ := b2_ok r34; clear r34
     refine o_callG (Lb := [(b_found, .cells #[.int .i64 found3] 3 (0, 0))]) (Lr := []) rfl Try.call67 rfl rfl rfl (pR) (hrec hb_c hb_c_ h_walks h_hears h_notices h_walks2 h_pairs h_hit hb_w h_ok hb_more h35) ?_; rintro _ F37 _ hF38 hd40 hn39 ⟨rfl, rfl⟩
     refine shO_L (lb (ln rfl)) ?_
     refine shO_nil ⟨_, rfl, hF38, [], by kernel_rfl, .inl (.inl rfl), (fun _ h => absurd h List.not_mem_nil), ?_⟩
     refine shM_nil ?_
     refine shW_cond rfl (fun c41 => ?_) (fun c41 => ?_)
     · have r42 := bt r36 c41; clear r36
       refine wsr (oa rfl rfl (shO_nil (shW_ret (inBlock_ret (andThen_ret (andThen_ret (inBlock_ret (andThen_ret ?_))))))))
       refine q_res1 Try.results67 (res_tmp rfl) (sr) ?_
       obtain ⟨rfl, rfl⟩ := inj2 r42
       exact ⟨rfl, rfl⟩
     have r43 := bf r36 c41; clear r36
     refine shW_skip (inBlock_n (id := 1) (shW_region (om rfl rfl ?_)))
     refine ov (v_add rfl rfl (Ctr.r64 hk22 c29 g20)) rfl ?_
     refine oa rfl rfl (shO_nil ?_)
     exact le kr ⟨_, hk30, found4, r43, (hF27.trans hF38), rfl, (sc rfl (sc rfl (sc rfl (sc rfl (sc rfl (sn _))))))⟩
   obtain rfl := Ctr.zero hk22 c29
   rw [round_crier_excludes_1B_l2] at r24
   refine shW_exit (andThen_exit (andThen_exit ?_))
   refine inBlock_exit ?_
   exact mi kr ⟨found3, r24, hF27, rfl, (sn _)⟩
 rintro e1 F46 _ ⟨found2, r44, hF47, rfl, he45⟩
 refine shW_env _ he45 ?_; clear he45
 rw [round_crier_excludes_1B_j1] at r44
 refine wsr (oa rfl rfl (shO_nil (shW_ret ?_)))
 refine q_res1 Try.results67 (res_tmp rfl) (sr) ?_
 obtain ⟨rfl, rfl⟩ := inj2 r44
 exact ⟨rfl, rfl⟩
set_option maxHeartbeats 1000000 in
theorem round_crier_excludes_1_w : ∀ (fu : Nat) {set_ from_ many : Int} {b_c b_c_ : Nat} {walks_a : Option Addr} {walks_c : Nat} {walks : List (List Int)} {hears_a : Option Addr} {hears_c : Nat} {hears : List (List Int)} {houses start : Int} {notices_a : Option Addr} {notices_c : Nat} {notices : List ((List Int) × Int × Int)} {walks2 : List Int} {pairs_a : Option Addr} {pairs_c : Nat} {pairs : List (Int × Int)} {hit : List Int} {mb_c_ mb_c : Nat × Nat} {b_w : Nat} {ok_f : FuncId} {ok_1 ok_2 : Array Value} {ok : (Int × Int) → Option Bool} {mb_w : Nat × Nat} {b_found : Nat} {found : Int} {b_more : Nat} {mb_more : Nat × Nat} {F : FS} (_ : F b_c = some (.cells #[.pointer (some ⟨b_c_, 0, none⟩)] 73 mb_c)) (_ : F b_c_ = some (.cells ((([.slice walks_a walks.length walks_c] : List Value) ++ (([.slice hears_a hears.length hears_c] : List Value) ++ (([.int .i64 houses] : List Value) ++ (([.int .i64 start] : List Value) ++ (([.slice notices_a notices.length notices_c] : List Value) ++ (walks2.flatMap (cI .i64) ++ (([.slice pairs_a pairs.length pairs_c] : List Value) ++ (hit.flatMap (cI .i64))))))))).toArray) 101 mb_c_)) (_ : RowR 1 (slE 1 (iE .i64)) F walks_a walks_c walks) (_ : RowR 1 (slE 1 (iE .i64)) F hears_a hears_c hears) (_ : RowR 3 (prE (slE 1 (iE .i64)) (prE (iE .i64) (iE .i64))) F notices_a notices_c notices) (_ : walks2.length = 25) (_ : RowR 2 (prE (iE .i64) (iE .i64)) F pairs_a pairs_c pairs) (_ : hit.length = 15) (_ : F b_w = some (.cells #[.func (.func ok_f) ok_1 ok_2] 81 mb_w)) (_ : FnR Try.prog F ok_f ok_1 ok_2 (prE (iE .i64) (iE .i64)) Value.bool ok) (_ : F b_more = some (.cells (#[.func (.func 67) #[] #[.pointer (some ⟨b_c, 0, none⟩), .pointer (some ⟨b_w, 0, none⟩), .pointer (some ⟨b_found, 0, none⟩), .pointer (some ⟨b_more, 0, none⟩)]]) 88 mb_more)) {r : Bool} {r2 : Int} , round_crier_excludes_1 fu set_ from_ many walks hears houses start notices walks2 pairs hit ok found = some (r, r2) → SH.Spec Try.prog 67 #[.int .i64 set_, .int .i64 from_, .int .i64 many, .pointer (some ⟨b_c, 0, none⟩), .pointer (some ⟨b_w, 0, none⟩), .pointer (some ⟨b_found, 0, none⟩), .pointer (some ⟨b_more, 0, none⟩)] F [(b_found, .cells #[.int .i64 found] 3 (0, 0))] fun _ L' v => v = .bool r ∧ L' = [(b_found, .cells #[.int .i64 r2] 3 (0, 0))] := by
  intro fu
  induction fu with
  | zero => intros; rename_i hr; rw [round_crier_excludes_1] at hr; cases hr
  | succ fu ih => intros; rename_i hr; rw [round_crier_excludes_1] at hr; exact round_crier_excludes_1B_w ih (by assumption) (by assumption) (by assumption) (by assumption) (by assumption) (by assumption) (by assumption) (by assumption) (by assumption) (by assumption) (by assumption) hr
set_option maxHeartbeats 1000000 in
theorem round_crier_excludes_w {b_c : Nat} {walks_a : Option Addr} {walks_c : Nat} {walks : List (List Int)} {hears_a : Option Addr} {hears_c : Nat} {hears : List (List Int)} {houses start : Int} {notices_a : Option Addr} {notices_c : Nat} {notices : List ((List Int) × Int × Int)} {walks2 : List Int} {pairs_a : Option Addr} {pairs_c : Nat} {pairs : List (Int × Int)} {hit : List Int} {mb_c : Nat × Nat} {ok_f : FuncId} {ok_1 ok_2 : Array Value} {ok : (Int × Int) → Option Bool} {F : FS} (hb_c : F b_c = some (.cells ((([.slice walks_a walks.length walks_c] : List Value) ++ (([.slice hears_a hears.length hears_c] : List Value) ++ (([.int .i64 houses] : List Value) ++ (([.int .i64 start] : List Value) ++ (([.slice notices_a notices.length notices_c] : List Value) ++ (walks2.flatMap (cI .i64) ++ (([.slice pairs_a pairs.length pairs_c] : List Value) ++ (hit.flatMap (cI .i64))))))))).toArray) 101 mb_c)) (h_walks : RowR 1 (slE 1 (iE .i64)) F walks_a walks_c walks) (h_hears : RowR 1 (slE 1 (iE .i64)) F hears_a hears_c hears) (h_notices : RowR 3 (prE (slE 1 (iE .i64)) (prE (iE .i64) (iE .i64))) F notices_a notices_c notices) (h_walks2 : walks2.length = 25) (h_pairs : RowR 2 (prE (iE .i64) (iE .i64)) F pairs_a pairs_c pairs) (h_hit : hit.length = 15) (h_ok : FnR Try.prog F ok_f ok_1 ok_2 (prE (iE .i64) (iE .i64)) Value.bool ok) {r : Int} (hr : round_crier_excludes walks hears houses start notices walks2 pairs hit ok = some r) :
    SpecV Try.prog 41 #[.pointer (some ⟨b_c, 0, none⟩), .agg #[.func (.func ok_f) ok_1 ok_2]] F (.int .i64 r) := by
 refine spec_of_shW (args := [.pointer (some ⟨b_c, 0, none⟩), .agg #[.func (.func ok_f) ok_1 ok_2]]) Try.func41 rfl Try.ntmps41 (Nat.le_of_ble_eq_true rfl) ?_
 intro K _ _; rw [round_crier_excludes] at hr
 refine wsr ?_
 refine o_box rfl rfl ?_; intro b1 hb1
 refine o_box rfl rfl ?_; intro b2 hb2
 refine oa rfl rfl (shO_nil ?_)
 refine shW_scope ?_
 refine wsr ?_
 refine o_alloc rfl Try.zeroValue3 ?_; intro b3 hb3
 refine o_store (i := 0) Try.sizeOf3 rfl rfl rfl rfl (Nat.le_of_ble_eq_true rfl) ?_
 refine shO_L (L' := [(b3, .cells #[.int .i64 0] 3 (0, 0)), (b2, .cells #[.func (.func ok_f) ok_1 ok_2] 81 (0, 0)), (b1, .cells #[.pointer (some ⟨b_c, 0, none⟩)] 73 (0, 0))]) rfl ?_
 refine shO_nil (shW_seq ?_)
 refine shW_label ?_
 obtain ⟨found, h4, r5⟩ := b1_ok hr; clear hr
 refine shW_join (fun e1 F1 L1 => FExt F F1 ∧ L1 = [(b3, .cells #[.int .i64 found] 3 (0, 0))] ∧ e1.sub [(5, .pointer (some ⟨b3, 0, none⟩))]) ?_ ?_
 · clear r5
   refine wsr ?_
   refine ov (v_load Try.isAgg73 rfl (Has.own 2 rfl) rfl) rfl ?_
   refine ov (v_nilCheck rfl) rfl ?_
   refine ov (v_fieldAddr fa_101_2 rfl) rfl ?_
   refine ov (v_load Try.isAgg35 rfl (Has.frozen hb_c) (li_cell (li_skip (A := ([.slice walks_a walks.length walks_c] : List Value)) (k := 1) (o := 29) rfl (li_skip (A := ([.slice hears_a hears.length hears_c] : List Value)) (k := 1) (o := 28) rfl (li_skip (A := ([.int .i64 houses] : List Value)) (k := 1) (o := 27) rfl (li_skip (A := ([.int .i64 start] : List Value)) (k := 1) (o := 26) rfl (li_skip (A := ([.slice notices_a notices.length notices_c] : List Value)) (k := 1) (o := 25) rfl (li_skip (A := walks2.flatMap (cI .i64)) (k := 25) (o := 0) (lfl (cI_ok .i64) h_walks2) (li_here (B := hit.flatMap (cI .i64)) rfl))))))))) rfl ?_
   refine ov (v_lenS Try.underlying35 rfl) rfl ?_
   obtain ⟨g6, r7⟩ := gd_ok h4; clear h4
   refine ov (v_add rfl rfl g6) rfl ?_
   refine om rfl rfl (shO_nil ?_)
   refine shW_block ?_
   refine shW_freeze 2 rfl hb1 ?_; intro F8 hF9 hz10
   refine shW_L (L' := [(b3, .cells #[.int .i64 0] 3 (0, 0)), (b2, .cells #[.func (.func ok_f) ok_1 ok_2] 81 (0, 0))]) rfl ?_
   replace h_walks := h_walks.mono (slE_ok (iE_ok _)) hF9
   replace h_hears := h_hears.mono (slE_ok (iE_ok _)) hF9
   replace h_notices := h_notices.mono (prE_ok (slE_ok (iE_ok _)) (prE_ok (iE_ok _) (iE_ok _))) hF9
   replace h_pairs := h_pairs.mono (prE_ok (iE_ok _) (iE_ok _)) hF9
   replace h_ok := h_ok.mono hF9
   replace hb_c := hF9 _ _ hb_c
   refine shW_freeze 1 rfl hb2 ?_; intro F11 hF12 hz13
   refine shW_L (L' := [(b3, .cells #[.int .i64 0] 3 (0, 0))]) rfl ?_
   replace h_walks := h_walks.mono (slE_ok (iE_ok _)) hF12
   replace h_hears := h_hears.mono (slE_ok (iE_ok _)) hF12
   replace h_notices := h_notices.mono (prE_ok (slE_ok (iE_ok _)) (prE_ok (iE_ok _) (iE_ok _))) hF12
   replace h_pairs := h_pairs.mono (prE_ok (iE_ok _) (iE_ok _)) hF12
   replace h_ok := h_ok.mono hF12
   replace hb_c := hF12 _ _ hb_c
   replace hz10 := hF12 _ _ hz10
   obtain ⟨g14, r15⟩ := gd_ok r7; clear r7
   refine shW_lpF (fun fu1 e1 F1 L1 => ∃ (k : Int), Ctr 0 ((pairs.length : Int) + 1) k fu1 ∧ ∃ (found2 : Int), round_crier_excludes_l1 walks hears houses start notices walks2 pairs hit ok fu1 k found2 = some found ∧ FExt F11 F1 ∧ L1 = [(b3, .cells #[.int .i64 found2] 3 (0, 0))] ∧ e1.sub [(2, .pointer (some ⟨b1, 0, none⟩)), (3, .pointer (some ⟨b2, 0, none⟩)), (5, .pointer (some ⟨b3, 0, none⟩)), (13, .int .i64 ((pairs.length : Int) + 1)), (14, .int .i64 k)]) _ (m0 kr ⟨_, Ctr.start _ _, 0, r15, FExt.refl _, rfl, (sc rfl (sc rfl (sc rfl (sc rfl (sc rfl (sn _))))))⟩) ?_
   rintro fu1 e1 F20 _ ⟨k, hk16, found2, r18, hF21, rfl, he19⟩
   refine shW_env _ he19 ?_; clear he19
   replace h_walks := h_walks.mono (slE_ok (iE_ok _)) hF21
   replace h_hears := h_hears.mono (slE_ok (iE_ok _)) hF21
   replace h_notices := h_notices.mono (prE_ok (slE_ok (iE_ok _)) (prE_ok (iE_ok _) (iE_ok _))) hF21
   replace h_pairs := h_pairs.mono (prE_ok (iE_ok _) (iE_ok _)) hF21
   replace h_ok := h_ok.mono hF21
   replace hb_c := hF21 _ _ hb_c
   replace hz10 := hF21 _ _ hz10
   replace hz13 := hF21 _ _ hz13
   refine wsr ?_
   refine ov (v_lssK rfl rfl) rfl ?_
   refine shO_nil (shW_seq ?_)
   refine shW_condP rfl (fun c23 => ?_) (fun c23 => ?_)
   · obtain ⟨fu1, rfl, hk24⟩ := Ctr.succ hk16 c23
     rw [round_crier_excludes_l1] at r18
     refine shW_skip (shW_seq ?_)
     refine shW_block ?_
     refine wsr (om rfl rfl (oa rfl rfl (nsr ?_)))
     refine o_alloc rfl Try.zeroValue88 ?_; intro b25 hb25
     refine nsr ?_
     refine ov (v_makeFunc rfl rfl) rfl ?_
     refine o_store (i := 0) Try.sizeOf88 rfl rfl rfl rfl (Nat.le_of_ble_eq_true rfl) ?_
     refine shO_L (L' := [(b25, .cells (#[.func (.func 67) #[] #[.pointer (some ⟨b1, 0, none⟩), .pointer (some ⟨b2, 0, none⟩), .pointer (some ⟨b3, 0, none⟩), .pointer (some ⟨b25, 0, none⟩)]]) 88 (0, 0)), (b3, .cells #[.int .i64 found2] 3 (0, 0))]) rfl ?_
     refine nsr ?_
     refine ov (v_load Try.isAgg88 rfl (Has.own 0 rfl) rfl) rfl ?_
     refine om rfl rfl ?_
     refine shO_freeze 0 rfl hb25 ?_; intro F26 hF27 hz28
     refine shO_L (L' := [(b3, .cells #[.int .i64 found2] 3 (0, 0))]) rfl ?_
     replace h_walks := h_walks.mono (slE_ok (iE_ok _)) hF27
     replace h_hears := h_hears.mono (slE_ok (iE_ok _)) hF27
     replace h_notices := h_notices.mono (prE_ok (slE_ok (iE_ok _)) (prE_ok (iE_ok _) (iE_ok _))) hF27
     replace h_pairs := h_pairs.mono (prE_ok (iE_ok _) (iE_ok _)) hF27
     replace h_ok := h_ok.mono hF27
     replace hb_c := hF27 _ _ hb_c
     replace hz10 := hF27 _ _ hz10
     replace hz13 := hF27 _ _ hz13
     obtain ⟨ok2, found3, h29, r30⟩ := b2_ok r18; clear r18
     refine o_callG (Lb := [(b3, .cells #[.int .i64 found2] 3 (0, 0))]) (Lr := []) rfl Try.call67 rfl rfl rfl (pR) ((round_crier_excludes_1_w FU) hz10 hb_c h_walks h_hears h_notices h_walks2 h_pairs h_hit hz13 h_ok hz28 h29) ?_; rintro _ F31 _ hF32 hd34 hn33 ⟨rfl, rfl⟩
     refine shO_L (lb (ln rfl)) ?_
     refine shO_nil ?_
     refine shW_cond rfl (fun c35 => ?_) (fun c35 => ?_)
     · have r36 := bt r30 c35; clear r30
       refine shW_exit ?_
       refine inBlock_other rfl ?_
       refine andThen_exit (andThen_exit ?_)
       refine inBlock_exit ?_
       obtain rfl := inj1 r36
       exact mi kr ⟨((((hF9.trans hF12).trans hF21).trans hF27).trans hF32), rfl, (sc rfl (sn _))⟩
     have r37 := bf r30 c35; clear r30
     refine shW_skip (inBlock_n (id := 1) (shW_region ?_))
     refine ov (v_add rfl rfl (Ctr.r64 hk16 c23 g14)) rfl ?_
     refine om rfl rfl (shO_nil ?_)
     refine lf ?_
     exact mf kr ⟨_, hk24, found3, r37, ((hF21.trans hF27).trans hF32), rfl, (sc rfl (sc rfl (sc rfl (sc rfl (sc rfl (sn _))))))⟩
   obtain rfl := Ctr.zero hk16 c23
   rw [round_crier_excludes_l1] at r18
   refine shW_exit (andThen_exit (andThen_exit ?_))
   refine inBlock_exit ?_
   obtain rfl := inj1 r18
   exact mi kr ⟨((hF9.trans hF12).trans hF21), rfl, (sc rfl (sn _))⟩
 rintro e1 F39 _ ⟨hF40, rfl, he38⟩
 refine shW_env _ he38 ?_; clear he38
 refine wsr ?_
 refine ov (v_load Try.isAgg3 rfl (Has.own 0 rfl) rfl) rfl ?_
 refine oa rfl rfl (shO_nil ?_)
 refine kW kn ?_
 refine shW_ret (noGoto_ret ?_)
 refine q_res1 Try.results41 (res_tmp rfl) (sr) ?_
 obtain rfl := inj1 r5
 exact rfl
set_option maxHeartbeats 1000000 in
theorem round_Before_w {walks_a : Option Addr} {walks_c : Nat} {walks : List (List Int)} {hears_a : Option Addr} {hears_c : Nat} {hears : List (List Int)} {houses start : Int} {notices_a : Option Addr} {notices_c : Nat} {notices : List ((List Int) × Int × Int)} {minute : Int} {F : FS} (h_walks : RowR 1 (slE 1 (iE .i64)) F walks_a walks_c walks) (h_hears : RowR 1 (slE 1 (iE .i64)) F hears_a hears_c hears) (h_notices : RowR 3 (prE (slE 1 (iE .i64)) (prE (iE .i64) (iE .i64))) F notices_a notices_c notices) {r : List (Int × Int)} {r2 : Int} (hr : round_Before walks hears houses start notices minute = some (r, r2)) :
    SH.Spec Try.prog 10 #[.agg #[.slice walks_a walks.length walks_c, .slice hears_a hears.length hears_c, .int .i64 houses, .int .i64 start, .slice notices_a notices.length notices_c], .int .i64 minute] F [] fun F' L' v => ∃ (ra : Option Addr) (rn : Nat) (rc : Nat) (rL : LH), v = .tuple #[.slice ra rn rc, .int .i64 r2] ∧ L' = rL ++ [] ∧ SlR 0 48 2 (prE (iE .i64) (iE .i64)) F' ra rn rc r rL := by
 refine spec_of_shW (args := [.agg #[.slice walks_a walks.length walks_c, .slice hears_a hears.length hears_c, .int .i64 houses, .int .i64 start, .slice notices_a notices.length notices_c], .int .i64 minute]) Try.func10 rfl Try.ntmps10 (Nat.le_of_ble_eq_true rfl) ?_
 intro K _ _; rw [round_Before] at hr
 refine wsr ?_
 refine o_box rfl rfl ?_; intro b1 hb1
 refine oa rfl rfl (oa rfl rfl (nsr ?_))
 refine ov (v_loadA (cs := #[.slice walks_a walks.length walks_c, .slice hears_a hears.length hears_c, .int .i64 houses, .int .i64 start, .slice notices_a notices.length notices_c]) Try.isAgg26 Try.sizeOf26 rfl (Has.own 0 rfl) (Nat.le_of_ble_eq_true rfl) rfl) rfl ?_
 obtain ⟨d, n, h2, r3⟩ := b2_ok hr; clear hr
 refine o_call0 rfl Try.call30 rfl rfl rfl (round_opened_w h_walks h_hears h_notices h2) ?_; rintro _ F4 _ hF5 hn6 ⟨v8, rfl, rfl, hp9⟩
 refine shO_L (ln rfl) ?_
 refine om rfl rfl (ox rfl rfl rfl (ox rfl rfl rfl (oa rfl rfl (oa rfl rfl (shO_nil (shW_seq ?_))))))
 refine shW_block ?_
 refine wsr (om rfl rfl ?_)
 refine ov (v_neq rfl rfl) rfl ?_
 refine oa rfl rfl (shO_nil ?_)
 refine shW_condP rfl (fun c10 => ?_) (fun c10 => ?_)
 · have r11 := ite_t r3 c10; clear r3
   refine wsr (om rfl rfl (oa rfl rfl (oa rfl rfl (shO_nil ?_))))
   refine kW kn ?_
   refine shW_ret (inBlock_ret (andThen_ret ?_))
   refine q_res2 Try.results10 (res_tmp rfl) (res_tmp rfl) (sr) ?_
   obtain ⟨rfl, rfl⟩ := inj2 r11
   exact ⟨_, _, _, [], rfl, rfl, SlR.nil _ _ _ _ _⟩
 have r12 := ite_f r3 c10; clear r3
 refine wsr (om rfl rfl ?_)
 obtain ⟨ok, h13, r14⟩ := b1_ok r12; clear r12
 refine o_callV rfl Try.call38 rfl rfl rfl (round_in_w h13) ?_
 refine ov (v_notB rfl) rfl ?_
 refine oa rfl rfl (shO_nil ?_)
 refine shW_cond rfl (fun c15 => ?_) (fun c15 => ?_)
 · have r16 := bt r14 c15; clear r14
   refine wsr (oa rfl rfl (oa rfl rfl (shO_nil ?_)))
   refine kW kn ?_
   refine shW_ret (inBlock_ret (andThen_ret ?_))
   refine q_res2 Try.results10 (res_tmp rfl) (res_tmp rfl) (sr) ?_
   obtain ⟨rfl, rfl⟩ := inj2 r16
   exact ⟨_, _, _, [], rfl, rfl, SlR.nil _ _ _ _ _⟩
 have r17 := bf r14 c15; clear r14
 refine shW_skip (inBlock_n (id := 0) (wsr (om rfl rfl (om rfl rfl ?_))))
 obtain ⟨walks2, hears2, houses2, start2, notices2, walks3, pairs, hit, h18, r19⟩ := b8_ok r17; clear r17
 have h39 := hp9; rw [h18] at h39; obtain ⟨b20, c21, m22, hv23, hz24, ⟨_, _, rfl, ⟨a25, c26, rfl, h27⟩, ⟨_, _, rfl, ⟨a28, c29, rfl, h30⟩, ⟨_, _, rfl, rfl, ⟨_, _, rfl, rfl, ⟨_, _, rfl, ⟨a31, c32, rfl, h33⟩, ⟨_, _, rfl, ⟨rfl, h34⟩, ⟨_, _, rfl, ⟨a35, c36, rfl, h37⟩, ⟨rfl, h38⟩⟩⟩⟩⟩⟩⟩⟩⟩ := h39; subst hv23
 have hz24 : F4 b20 = some (.cells ((([.slice a25 walks2.length c26] : List Value) ++ (([.slice a28 hears2.length c29] : List Value) ++ (([.int .i64 houses2] : List Value) ++ (([.int .i64 start2] : List Value) ++ (([.slice a31 notices2.length c32] : List Value) ++ (walks3.flatMap (cI .i64) ++ (([.slice a35 pairs.length c36] : List Value) ++ (hit.flatMap (cI .i64))))))))).toArray) 101 m22) := hz24
 obtain ⟨y, h40, r41⟩ := b1_ok r19; clear r19
 refine o_call0 rfl Try.call39 rfl rfl rfl (round_crier_by_w hz24 h27 h30 h33 h34 h37 h38 h40) ?_; rintro _ F42 _ hF43 hn44 ⟨fi46, fc47, cp48, rfl, rfl, hit49⟩
 replace h27 := h27.mono (slE_ok (iE_ok _)) hF43
 replace h30 := h30.mono (slE_ok (iE_ok _)) hF43
 replace h33 := h33.mono (prE_ok (slE_ok (iE_ok _)) (prE_ok (iE_ok _) (iE_ok _))) hF43
 replace h37 := h37.mono (prE_ok (iE_ok _) (iE_ok _)) hF43
 replace hz24 := hF43 _ _ hz24
 refine shO_L (ln rfl) ?_
 refine o_alloc rfl Try.zeroValue81 ?_; intro b50 hb50
 refine o_storeA (i := 0) Try.sizeOf81 rfl rfl rfl (by simp [Value.oneCell']) rfl (Nat.le_of_ble_eq_true rfl) ?_
 refine shO_L (L' := [(b50, .cells #[.func (.func fi46) fc47 cp48] 81 (0, 0)), (b1, .cells #[.slice walks_a walks.length walks_c, .slice hears_a hears.length hears_c, .int .i64 houses, .int .i64 start, .slice notices_a notices.length notices_c] 26 (0, 0))]) rfl ?_
 refine shO_nil (shW_seq (shW_seq ?_))
 refine shW_drawM [(.still, 0), (.still, 1), (.still, 3), (.seq, 2), (.seq, 4), (.still, 5), (.still, 6), (.still, 7), (.still, 8), (.still, 9), (.still, 10), (.still, 11)] (by kernel_rfl) (by kernel_rfl) (trivial) (by rfl) (by kernel_rfl) ?_
 refine shM_v (v := .pointer (some ⟨b20, 0, none⟩)) (ek := [(6, .pointer (some ⟨b20, 0, none⟩))]) (Ls := []) rfl rfl rfl rfl ((sc rfl (sn _))) (by kernel_rfl) sm (fun H F' L' hF' hL' => v_move rfl) ?_
 refine shM_v (v := .pointer (some ⟨b20, 0, none⟩)) (ek := [(6, .pointer (some ⟨b20, 0, none⟩))]) (Ls := []) rfl rfl rfl rfl ((sc rfl (sn _))) (by kernel_rfl) sm (fun H F' L' hF' hL' => v_move rfl) ?_
 refine shM_v (v := .agg #[.func (.func fi46) fc47 cp48]) (ek := [(8, .pointer (some ⟨b50, 0, none⟩))]) (Ls := [(b50, .cells #[.func (.func fi46) fc47 cp48] 81 (0, 0))]) rfl rfl rfl rfl ((sc rfl (sn _))) (by kernel_rfl) (s0 (s2 (s1 sr))) (fun H F' L' hF' hL' => v_loadA (cs := #[.func (.func fi46) fc47 cp48]) Try.isAgg81 Try.sizeOf81 rfl ((Has.own 0 rfl).ext hF' hL') (Nat.le_of_ble_eq_true rfl) rfl) ?_
 refine ⟨_, [(30, .pointer (some ⟨b20, 0, none⟩))], rfl, rfl, (sc rfl (sn _)), by kernel_rfl, ?_⟩; intro H
 obtain ⟨n2, h51, r52⟩ := b1_ok r41; clear r41
 refine o_callV rfl Try.call32 rfl rfl rfl (round_crier_all_w hz24 h27 h30 h33 h34 h37 h38 h51) ?_
 refine shO_nil ⟨_, rfl, FExt.refl _, [3, 0], by kernel_rfl, .inl (.inr (fun d h => by cases h; rfl)), (List.forall_mem_cons.2 ⟨s0 (s2 (s1 sr)), (List.forall_mem_cons.2 ⟨sm, (fun _ h => absurd h List.not_mem_nil)⟩)⟩), ?_⟩
 refine ⟨_, [(29, .pointer (some ⟨b20, 0, none⟩)), (31, .int .i64 n2), (32, .agg #[.func (.func fi46) fc47 cp48])], rfl, rfl, (sc rfl (sc rfl (sc rfl (sn _)))), by kernel_rfl, ?_⟩; intro H
 obtain ⟨l, n3, ok2, h53, r54⟩ := b3_ok r52; clear r52
 refine o_call0 rfl Try.call31 rfl rfl rfl (round_crier_serve_w hz24 h27 h30 h33 h34 h37 h38 hit49 h53) ?_; rintro _ F55 _ hF56 hn57 ⟨a59, n63, c60, Lb61, rfl, rfl, hz62⟩
 replace h27 := h27.mono (slE_ok (iE_ok _)) hF56
 replace h30 := h30.mono (slE_ok (iE_ok _)) hF56
 replace h33 := h33.mono (prE_ok (slE_ok (iE_ok _)) (prE_ok (iE_ok _) (iE_ok _))) hF56
 replace h37 := h37.mono (prE_ok (iE_ok _) (iE_ok _)) hF56
 replace hit49 := hit49.mono hF56
 replace hz24 := hF56 _ _ hz24
 refine shO_L (lp (ln rfl)) ?_
 refine kO (kf (fS fO) (kf (fS fO) kr)) ?_
 refine shO_nil ⟨_, rfl, hF56, [], by kernel_rfl, .inl (.inl rfl), (fun _ h => absurd h List.not_mem_nil), ?_⟩
 refine shM_v (v := .tuple #[.slice a59 n63 c60, .int .i64 n3, .bool ok2]) (ek := [(33, .tuple #[.slice a59 n63 c60, .int .i64 n3, .bool ok2])]) (Ls := []) rfl rfl rfl rfl ((sc rfl (sn _))) (by kernel_rfl) sm (fun H F' L' hF' hL' => v_move rfl) ?_
 refine shM_v (v := .slice a59 n63 c60) (ek := [(28, .tuple #[.slice a59 n63 c60, .int .i64 n3, .bool ok2])]) (Ls := []) rfl rfl rfl rfl ((sc rfl (sn _))) (by kernel_rfl) sm (fun H F' L' hF' hL' => v_extract rfl rfl) ?_
 refine shM_v (v := .int .i64 n3) (ek := [(28, .tuple #[.slice a59 n63 c60, .int .i64 n3, .bool ok2])]) (Ls := []) rfl rfl rfl rfl ((sc rfl (sn _))) (by kernel_rfl) sm (fun H F' L' hF' hL' => v_extract rfl rfl) ?_
 refine shM_v (v := .bool ok2) (ek := [(28, .tuple #[.slice a59 n63 c60, .int .i64 n3, .bool ok2])]) (Ls := []) rfl rfl rfl rfl ((sc rfl (sn _))) (by kernel_rfl) sm (fun H F' L' hF' hL' => v_extract rfl rfl) ?_
 refine shM_v (v := .slice a59 n63 c60) (ek := [(34, .slice a59 n63 c60)]) (Ls := []) rfl rfl rfl rfl ((sc rfl (sn _))) (by kernel_rfl) sm (fun H F' L' hF' hL' => v_assign rfl) ?_
 refine shM_v (v := .int .i64 n3) (ek := [(35, .int .i64 n3)]) (Ls := []) rfl rfl rfl rfl ((sc rfl (sn _))) (by kernel_rfl) sm (fun H F' L' hF' hL' => v_assign rfl) ?_
 refine shM_v (v := .bool ok2) (ek := [(36, .bool ok2)]) (Ls := []) rfl rfl rfl rfl ((sc rfl (sn _))) (by kernel_rfl) sm (fun H F' L' hF' hL' => v_assign rfl) ?_
 refine shM_nil ?_
 refine wsr (om rfl rfl (shO_nil ?_))
 refine shW_cond rfl (fun c65 => ?_) (fun c65 => ?_)
 · have r66 := bt r54 c65; clear r54
   refine wsr (oa rfl rfl (oa rfl rfl (shO_nil ?_)))
   refine kW kn ?_
   refine shW_ret (andThen_ret ?_)
   refine q_res2 Try.results10 (res_tmp rfl) (res_tmp rfl) (sr) ?_
   obtain ⟨rfl, rfl⟩ := inj2 r66
   exact ⟨_, _, _, [], rfl, rfl, SlR.nil _ _ _ _ _⟩
 have r67 := bf r54 c65; clear r54
 refine shW_skip (wsr (om rfl rfl (om rfl rfl ?_)))
 refine ov (v_loadA (cs := #[.func (.func fi46) fc47 cp48]) Try.isAgg81 Try.sizeOf81 rfl (Has.own 0 rfl) (Nat.le_of_ble_eq_true rfl) rfl) rfl ?_
 obtain ⟨n4, h68, r69⟩ := b1_ok r67; clear r67
 refine o_callV rfl Try.call41 rfl rfl rfl (round_crier_excludes_w hz24 h27 h30 h33 h34 h37 h38 hit49 h68) ?_
 obtain ⟨l2, h70, r71⟩ := b1_ok r69; clear r69
 refine o_call0 rfl Try.call40 rfl rfl rfl (round_crier_chosen_w hz24 h27 h30 h33 h34 h37 h38 h70) ?_; rintro _ F72 _ hF73 hn74 ⟨a76, n80, c77, Lb78, rfl, rfl, hz79⟩
 replace hz79 := hz79.new fun p hp => hn74 p (by simp [hp])
 refine shO_L (lp (ln rfl)) ?_
 refine kO (kf (fS fO) (kf (fS fO) kr)) ?_
 refine oa rfl rfl (oa rfl rfl (shO_nil ?_))
 refine kW (kd (kd (ka kn))) ?_
 refine shW_ret ?_
 refine q_res2 Try.results10 (res_tmp rfl) (res_tmp rfl) (sr) ?_
 obtain ⟨rfl, rfl⟩ := inj2 r71
 exact ⟨_, _, _, _, rfl, rfl, hz79.any⟩
set_option maxHeartbeats 1000000 in
theorem slices_IndexFunc_round_Pair_round_Pair_w {s__a : Option Addr} {s__c : Nat} {s_ : List (Int × Int)} {f_f : FuncId} {f_1 f_2 : Array Value} {f : (Int × Int) → Option Bool} {F : FS} (h_s_ : RowR 2 (prE (iE .i64) (iE .i64)) F s__a s__c s_) (h_f : FnR Try.prog F f_f f_1 f_2 (agE (prE (iE .i64) (iE .i64))) Value.bool f) {r : Int} (hr : slices_IndexFunc_round_Pair_round_Pair s_ f = some r) :
    SpecV Try.prog 72 #[.slice s__a s_.length s__c, .func (.func f_f) f_1 f_2] F (.int .i64 r) := by
 refine spec_of_shW (args := [.slice s__a s_.length s__c, .func (.func f_f) f_1 f_2]) Try.func72 rfl Try.ntmps72 (Nat.le_of_ble_eq_true rfl) ?_
 intro K _ _; rw [slices_IndexFunc_round_Pair_round_Pair] at hr
 refine wsr (oa rfl rfl (shO_nil ?_))
 refine shW_join (fun e1 F1 L1 => slices_IndexFunc_round_Pair_round_Pair_j1 = some r ∧ F = F1 ∧ L1 = [] ∧ e1.sub []) ?_ ?_
 · refine wsr (om rfl rfl ?_)
   refine ov (v_lenS Try.underlying35 rfl) rfl ?_
   refine om rfl rfl (shO_nil ?_)
   refine shW_block ?_
   refine shW_lp (fun fu2 e1 F1 L1 => ∃ (tl : List (Int × Int)) (k : Int), tl.length = fu2 ∧ Lst s_ k tl ∧ slices_IndexFunc_round_Pair_round_Pair_l2 f tl k = some r ∧ F = F1 ∧ L1 = [] ∧ e1.sub [(0, .slice s__a s_.length s__c), (1, .func (.func f_f) f_1 f_2), (7, .int .i64 (s_.length : Int)), (8, .int .i64 k)]) _ (m0 kr ⟨_, _, rfl, Lst.start _, hr, rfl, rfl, (sc rfl (sc rfl (sc rfl (sc rfl (sn _)))))⟩) ?_
   rintro fu2 e1 _ _ ⟨tl, k, hn2, hk1, r3, rfl, rfl, he4⟩
   refine shW_env _ he4 ?_; clear he4
   refine wsr ?_
   refine ov (v_lssK rfl rfl) rfl ?_
   refine shO_nil (shW_seq ?_)
   refine shW_condP rfl (fun c6 => ?_) (fun c6 => ?_)
   · obtain ⟨x, tl2, rfl, hx8, g9, hk7⟩ := Lst.succ hk1 c6
     rw [slices_IndexFunc_round_Pair_round_Pair_l2] at r3
     refine shW_skip (shW_seq ?_)
     refine shW_block ?_
     refine wsr (om rfl rfl (oa rfl rfl (nsr (om rfl rfl (om rfl rfl (om rfl rfl ?_))))))
     obtain ⟨b10, o11, c12, vs13, ha14, hs15, hle16, ⟨_, _, rfl, rfl, rfl⟩, hl17, hc18⟩ := RowR.at (prE_ok (iE_ok _) (iE_ok _)) h_s_ ([]) g9.1 hx8
     refine ov (v_indexO Try.underlying35 Try.sizeOf48 rfl ha14 rfl g9) rfl ?_
     refine ov (v_loadA (cs := #[.int .i64 x.1, .int .i64 x.2]) Try.isAgg48 Try.sizeOf48 rfl hs15 hle16 (extract_cells hle16 hl17 hc18)) rfl ?_
     obtain ⟨ok, h19, r20⟩ := b1_ok r3; clear r3
     refine o_callV rfl h_f.1 rfl rfl rfl (h_f.2 _ (FExt.refl _) _ _ _ ⟨_, rfl, ⟨_, _, rfl, rfl, rfl⟩⟩ h19) ?_
     refine shO_nil ?_
     refine shW_cond rfl (fun c21 => ?_) (fun c21 => ?_)
     · have r22 := bt r20 c21; clear r20
       refine wsr (om rfl rfl (oa rfl rfl (shO_nil (shW_ret (inBlock_ret (andThen_ret (andThen_ret (inBlock_ret (andThen_ret ?_)))))))))
       refine q_res1 Try.results72 (res_tmp rfl) (sr) ?_
       obtain rfl := inj1 r22
       exact rfl
     have r23 := bf r20 c21; clear r20
     refine shW_skip (inBlock_n (id := 1) (shW_region ?_))
     refine ov (v_add rfl rfl (Lst.r64 hk1 c6 (RowR.lt h_s_))) rfl ?_
     refine om rfl rfl (shO_nil ?_)
     subst hn2; exact le kr ⟨_, _, rfl, hk7, r23, rfl, rfl, (sc rfl (sc rfl (sc rfl (sc rfl (sn _)))))⟩
   obtain rfl := Lst.zero hk1 c6
   rw [slices_IndexFunc_round_Pair_round_Pair_l2] at r3
   refine shW_exit (andThen_exit (andThen_exit ?_))
   refine inBlock_exit ?_
   exact mi kr ⟨r3, rfl, rfl, (sn _)⟩
 rintro e1 _ _ ⟨r24, rfl, rfl, he25⟩
 refine shW_env _ he25 ?_; clear he25
 rw [slices_IndexFunc_round_Pair_round_Pair_j1] at r24
 refine wsr (oa rfl rfl (shO_nil (shW_ret ?_)))
 refine q_res1 Try.results72 (res_tmp rfl) (sr) ?_
 obtain rfl := inj1 r24
 exact rfl
set_option maxHeartbeats 1000000 in
theorem round_crier_index_1_w {notice house : Int} {b_p : Nat} {notice2 house2 : Int} {mb_p : Nat × Nat} {F : FS} (hb_p : F b_p = some (.cells #[.int .i64 notice2, .int .i64 house2] 48 mb_p)) {r : Bool} (hr : round_crier_index_1 notice house notice2 house2 = some r) :
    SpecV Try.prog 73 #[.agg #[.int .i64 notice, .int .i64 house], .pointer (some ⟨b_p, 0, none⟩)] F (.bool r) := by
 refine spec_of_shW (args := [.agg #[.int .i64 notice, .int .i64 house], .pointer (some ⟨b_p, 0, none⟩)]) Try.func73 rfl Try.ntmps73 (Nat.le_of_ble_eq_true rfl) ?_
 intro K _ _; rw [round_crier_index_1] at hr
 refine wsr ?_
 refine o_box rfl rfl ?_; intro b1 hb1
 refine oa rfl rfl (nsr ?_)
 refine ov (v_loadA (cs := #[.int .i64 notice, .int .i64 house]) Try.isAgg48 Try.sizeOf48 rfl (Has.own 0 rfl) (Nat.le_of_ble_eq_true rfl) rfl) rfl ?_
 refine ov (v_loadA (cs := #[.int .i64 notice2, .int .i64 house2]) Try.isAgg48 Try.sizeOf48 rfl (Has.frozen hb_p) (Nat.le_of_ble_eq_true rfl) rfl) rfl ?_
 refine ov (v_eqA (eqg_48 _ _ _ _) (eq_48 _ _ _ _) rfl rfl) rfl ?_
 refine oa rfl rfl (shO_nil ?_)
 refine kW kn ?_
 refine shW_ret ?_
 refine q_res1 Try.results73 (res_tmp rfl) (sr) ?_
 obtain rfl := inj1 hr
 exact rfl
set_option maxHeartbeats 1000000 in
theorem round_crier_index_w {b_c : Nat} {walks_a : Option Addr} {walks_c : Nat} {walks : List (List Int)} {hears_a : Option Addr} {hears_c : Nat} {hears : List (List Int)} {houses start : Int} {notices_a : Option Addr} {notices_c : Nat} {notices : List ((List Int) × Int × Int)} {walks2 : List Int} {pairs_a : Option Addr} {pairs_c : Nat} {pairs : List (Int × Int)} {hit : List Int} {mb_c : Nat × Nat} {notice house : Int} {F : FS} (hb_c : F b_c = some (.cells ((([.slice walks_a walks.length walks_c] : List Value) ++ (([.slice hears_a hears.length hears_c] : List Value) ++ (([.int .i64 houses] : List Value) ++ (([.int .i64 start] : List Value) ++ (([.slice notices_a notices.length notices_c] : List Value) ++ (walks2.flatMap (cI .i64) ++ (([.slice pairs_a pairs.length pairs_c] : List Value) ++ (hit.flatMap (cI .i64))))))))).toArray) 101 mb_c)) (_h_walks : RowR 1 (slE 1 (iE .i64)) F walks_a walks_c walks) (_h_hears : RowR 1 (slE 1 (iE .i64)) F hears_a hears_c hears) (_h_notices : RowR 3 (prE (slE 1 (iE .i64)) (prE (iE .i64) (iE .i64))) F notices_a notices_c notices) (h_walks2 : walks2.length = 25) (h_pairs : RowR 2 (prE (iE .i64) (iE .i64)) F pairs_a pairs_c pairs) (_h_hit : hit.length = 15) {r : Int} (hr : round_crier_index walks hears houses start notices walks2 pairs hit notice house = some r) :
    SpecV Try.prog 45 #[.pointer (some ⟨b_c, 0, none⟩), .agg #[.int .i64 notice, .int .i64 house]] F (.int .i64 r) := by
 refine spec_of_shW (args := [.pointer (some ⟨b_c, 0, none⟩), .agg #[.int .i64 notice, .int .i64 house]]) Try.func45 rfl Try.ntmps45 (Nat.le_of_ble_eq_true rfl) ?_
 intro K _ _; rw [round_crier_index] at hr
 refine wsr ?_
 refine o_box rfl rfl ?_; intro b1 hb1
 refine oa rfl rfl (nsr (om rfl rfl ?_))
 refine ov (v_nilCheck rfl) rfl ?_
 refine ov (v_fieldAddr fa_101_2 rfl) rfl ?_
 refine ov (v_load Try.isAgg35 rfl (Has.frozen hb_c) (li_cell (li_skip (A := ([.slice walks_a walks.length walks_c] : List Value)) (k := 1) (o := 29) rfl (li_skip (A := ([.slice hears_a hears.length hears_c] : List Value)) (k := 1) (o := 28) rfl (li_skip (A := ([.int .i64 houses] : List Value)) (k := 1) (o := 27) rfl (li_skip (A := ([.int .i64 start] : List Value)) (k := 1) (o := 26) rfl (li_skip (A := ([.slice notices_a notices.length notices_c] : List Value)) (k := 1) (o := 25) rfl (li_skip (A := walks2.flatMap (cI .i64)) (k := 25) (o := 0) (lfl (cI_ok .i64) h_walks2) (li_here (B := hit.flatMap (cI .i64)) rfl))))))))) rfl ?_
 refine ov (v_makeFunc rfl rfl) rfl ?_
 refine shO_freeze 0 rfl hb1 ?_; intro F2 hF3 hz4
 refine shO_L (L' := []) rfl ?_
 replace h_pairs := h_pairs.mono (prE_ok (iE_ok _) (iE_ok _)) hF3
 have hn5 : FnR Try.prog F2 73 #[] #[.pointer (some ⟨b1, 0, none⟩)] (agE (prE (iE .i64) (iE .i64))) Value.bool (fun xx_ : (Int × Int) => round_crier_index_1 xx_.1 xx_.2 notice house) := ⟨Try.call73, fun F2 h2 vs xx_ r ha hr => by obtain ⟨_, rfl, ⟨_, _, rfl, rfl, rfl⟩⟩ := ha; exact round_crier_index_1_w (h2 _ _ hz4) hr⟩
 obtain ⟨n, h6, r7⟩ := b1_ok hr; clear hr
 refine o_callV rfl Try.call72 rfl rfl rfl (slices_IndexFunc_round_Pair_round_Pair_w h_pairs hn5 h6) ?_
 refine oa rfl rfl (shO_nil (shW_ret ?_))
 refine q_res1 Try.results45 (res_tmp rfl) (sr) ?_
 obtain rfl := inj1 r7
 exact rfl
set_option maxHeartbeats 1000000 in
theorem round_crier_first_w {b_c : Nat} {walks_a : Option Addr} {walks_c : Nat} {walks : List (List Int)} {hears_a : Option Addr} {hears_c : Nat} {hears : List (List Int)} {houses start : Int} {notices_a : Option Addr} {notices_c : Nat} {notices : List ((List Int) × Int × Int)} {walks2 : List Int} {pairs_a : Option Addr} {pairs_c : Nat} {pairs : List (Int × Int)} {hit : List Int} {mb_c : Nat × Nat} {notice house : Int} {F : FS} (hb_c : F b_c = some (.cells ((([.slice walks_a walks.length walks_c] : List Value) ++ (([.slice hears_a hears.length hears_c] : List Value) ++ (([.int .i64 houses] : List Value) ++ (([.int .i64 start] : List Value) ++ (([.slice notices_a notices.length notices_c] : List Value) ++ (walks2.flatMap (cI .i64) ++ (([.slice pairs_a pairs.length pairs_c] : List Value) ++ (hit.flatMap (cI .i64))))))))).toArray) 101 mb_c)) (_h_walks : RowR 1 (slE 1 (iE .i64)) F walks_a walks_c walks) (h_hears : RowR 1 (slE 1 (iE .i64)) F hears_a hears_c hears) (h_notices : RowR 3 (prE (slE 1 (iE .i64)) (prE (iE .i64) (iE .i64))) F notices_a notices_c notices) (h_walks2 : walks2.length = 25) (_h_pairs : RowR 2 (prE (iE .i64) (iE .i64)) F pairs_a pairs_c pairs) (_h_hit : hit.length = 15) {r : Int} (hr : round_crier_first walks hears houses start notices walks2 pairs hit notice house = some r) :
    SpecV Try.prog 46 #[.pointer (some ⟨b_c, 0, none⟩), .agg #[.int .i64 notice, .int .i64 house]] F (.int .i64 r) := by
 refine spec_of_shW (args := [.pointer (some ⟨b_c, 0, none⟩), .agg #[.int .i64 notice, .int .i64 house]]) Try.func46 rfl Try.ntmps46 (Nat.le_of_ble_eq_true rfl) ?_
 intro K _ _; rw [round_crier_first] at hr
 refine wsr ?_
 refine o_box rfl rfl ?_; intro b1 hb1
 refine oa rfl rfl (nsr (oa rfl rfl (shO_nil ?_)))
 obtain ⟨out, h2, r3⟩ := b1_ok hr; clear hr
 refine shW_join (fun e1 F1 L1 => FExt F F1 ∧ L1 = [] ∧ e1.sub [(5, .int .i64 out)]) ?_ ?_
 · clear r3
   refine wsr (om rfl rfl ?_)
   refine ov (v_nilCheck rfl) rfl ?_
   refine ov (v_fieldAddr fa_101_0 rfl) rfl ?_
   refine ov (v_fieldAddr fa_26_1 rfl) rfl ?_
   refine ov (v_load Try.isAgg23 rfl (Has.frozen hb_c) (li_cell (li_skip (A := ([.slice walks_a walks.length walks_c] : List Value)) (k := 1) (o := 0) rfl (li_here (B := ([.int .i64 houses] : List Value) ++ (([.int .i64 start] : List Value) ++ (([.slice notices_a notices.length notices_c] : List Value) ++ (walks2.flatMap (cI .i64) ++ (([.slice pairs_a pairs.length pairs_c] : List Value) ++ (hit.flatMap (cI .i64))))))) rfl)))) rfl ?_
   refine ov (v_lenS Try.underlying23 rfl) rfl ?_
   refine om rfl rfl (shO_nil ?_)
   refine shW_block ?_
   refine shW_lp (fun fu1 e1 F1 L1 => ∃ (tl : List (List Int)) (k : Int), tl.length = fu1 ∧ Lst hears k tl ∧ ∃ (out2 : Int), round_crier_first_l1 start notices walks2 notice house tl k out2 = some out ∧ FExt F F1 ∧ L1 = [(b1, .cells #[.int .i64 notice, .int .i64 house] 48 (0, 0))] ∧ e1.sub [(0, .pointer (some ⟨b_c, 0, none⟩)), (3, .pointer (some ⟨b1, 0, none⟩)), (5, .int .i64 out2), (13, .slice hears_a hears.length hears_c), (14, .int .i64 (hears.length : Int)), (15, .int .i64 k)]) _ (m0 kr ⟨_, _, rfl, Lst.start _, -1, h2, FExt.refl _, rfl, (sc rfl (sc rfl (sc rfl (sc rfl (sc rfl (sc rfl (sn _)))))))⟩) ?_
   rintro fu1 e1 F8 _ ⟨tl, k, hn5, hk4, out2, r6, hF9, rfl, he7⟩
   refine shW_env _ he7 ?_; clear he7
   replace h_hears := h_hears.mono (slE_ok (iE_ok _)) hF9
   replace h_notices := h_notices.mono (prE_ok (slE_ok (iE_ok _)) (prE_ok (iE_ok _) (iE_ok _))) hF9
   replace hb_c := hF9 _ _ hb_c
   refine wsr ?_
   refine ov (v_lssK rfl rfl) rfl ?_
   refine shO_nil (shW_seq ?_)
   refine shW_condP rfl (fun c11 => ?_) (fun c11 => ?_)
   · obtain ⟨x, tl2, rfl, hx13, g14, hk12⟩ := Lst.succ hk4 c11
     rw [round_crier_first_l1] at r6
     refine shW_skip (shW_seq ?_)
     refine shW_block ?_
     refine wsr (om rfl rfl ?_)
     obtain ⟨b15, o16, c17, vs18, ha19, hs20, hle21, ⟨a24, c25, rfl, h26⟩, hl22, hc23⟩ := RowR.at (slE_ok (iE_ok _)) h_hears ([(b1, .cells #[.int .i64 notice, .int .i64 house] 48 (0, 0))]) g14.1 hx13
     refine ov (v_indexO Try.underlying23 Try.sizeOf38 rfl ha19 rfl g14) rfl ?_
     refine ov (v_load Try.isAgg38 rfl hs20 (hc23 0 (by decide))) rfl ?_
     refine oa rfl rfl (oa rfl rfl ?_)
     refine nsd (by kernel_rfl) (by kernel_rfl) (by kernel_rfl) ?_
     refine qm rfl rfl (qm rfl rfl ?_)
     refine qv (v_nilCheck rfl) rfl ?_
     refine qv (v_fieldAddr fa_101_0 rfl) rfl ?_
     refine qv (v_fieldAddr fa_26_3 rfl) rfl ?_
     refine qv (v_load Try.isAgg3 rfl (Has.frozen hb_c) (li_cell (li_skip (A := ([.slice walks_a walks.length walks_c] : List Value)) (k := 1) (o := 2) rfl (li_skip (A := ([.slice hears_a hears.length hears_c] : List Value)) (k := 1) (o := 1) rfl (li_skip (A := ([.int .i64 houses] : List Value)) (k := 1) (o := 0) rfl (li_here (B := ([.slice notices_a notices.length notices_c] : List Value) ++ (walks2.flatMap (cI .i64) ++ (([.slice pairs_a pairs.length pairs_c] : List Value) ++ (hit.flatMap (cI .i64))))) rfl)))))) rfl ?_
     refine qm rfl rfl ?_
     refine qv (v_nilCheck rfl) rfl ?_
     refine qv (v_fieldAddr fa_101_1 rfl) rfl ?_
     obtain ⟨g27, r28⟩ := gd_ok r6; clear r6
     refine qv (v_indexA Try.underlying97 Try.sizeOf95 rfl rfl g27) rfl ?_
     obtain ⟨g29, r30⟩ := gd_ok r28; clear r28
     obtain ⟨x2, g31, hx32, r33⟩ := ix_ok r30; clear r30
     have hq35 : (start * 5 + k : Int).toNat = (start : Int).toNat * 5 + (k : Int).toNat := by have := g27; have := g29; omega
     have hc34 := el_at2 (cI_ok .i64) h_walks2 hq35 hx32 (li_arr (li_skip (A := ([.slice walks_a walks.length walks_c] : List Value)) (k := 1) (o := 4) rfl (li_skip (A := ([.slice hears_a hears.length hears_c] : List Value)) (k := 1) (o := 3) rfl (li_skip (A := ([.int .i64 houses] : List Value)) (k := 1) (o := 2) rfl (li_skip (A := ([.int .i64 start] : List Value)) (k := 1) (o := 1) rfl (li_skip (A := ([.slice notices_a notices.length notices_c] : List Value)) (k := 1) (o := 0) rfl (li_here (B := ([.slice pairs_a pairs.length pairs_c] : List Value) ++ (hit.flatMap (cI .i64))) (lfl (cI_ok .i64) h_walks2)))))))) (li_le (li_skip (A := ([.slice walks_a walks.length walks_c] : List Value)) (k := 1) (o := 4) rfl (li_skip (A := ([.slice hears_a hears.length hears_c] : List Value)) (k := 1) (o := 3) rfl (li_skip (A := ([.int .i64 houses] : List Value)) (k := 1) (o := 2) rfl (li_skip (A := ([.int .i64 start] : List Value)) (k := 1) (o := 1) rfl (li_skip (A := ([.slice notices_a notices.length notices_c] : List Value)) (k := 1) (o := 0) rfl (li_here (B := ([.slice pairs_a pairs.length pairs_c] : List Value) ++ (hit.flatMap (cI .i64))) (lfl (cI_ok .i64) h_walks2))))))))
     refine qv (v_indexA Try.underlying95 Try.sizeOf3 rfl rfl g29) rfl ?_
     refine qv (v_load Try.isAgg3 rfl (Has.frozen hb_c) ((hc34).2.2 0 (by decide))) rfl ?_
     refine qa rfl rfl (shQ_nil ?_)
     obtain ⟨k2, h36, r37⟩ := b1_ok r33; clear r33
     refine shW_join (fun e1 F1 L1 => F8 = F1 ∧ L1 = [(b1, .cells #[.int .i64 notice, .int .i64 house] 48 (0, 0))] ∧ e1.sub [(0, .pointer (some ⟨b_c, 0, none⟩)), (3, .pointer (some ⟨b1, 0, none⟩)), (5, .int .i64 out2), (8, .int .i64 x2), (13, .slice hears_a hears.length hears_c), (14, .int .i64 (hears.length : Int)), (15, .int .i64 k), (39, .bool k2)]) ?_ ?_
     · clear r37
       refine shW_region (om rfl rfl ?_)
       refine ov (v_neq rfl rfl) rfl ?_
       refine om rfl rfl ?_
       by_cases c38 : x2 ≠ (-1)
       · have r39 := ite_t h36 c38; clear h36
         refine shO_on (b := true) 34 rfl (Env.isT rfl c38) (om rfl rfl (shO_on (b := true) 34 rfl (Env.isT rfl c38) ?_))
         refine ov (v_fieldAddr fa_48_1 rfl) rfl ?_
         refine shO_on (b := true) 34 rfl (Env.isT rfl c38) ?_
         refine ov (v_load Try.isAgg3 rfl (Has.own 0 rfl) rfl) rfl ?_
         refine shO_on (b := true) 34 rfl (Env.isT rfl c38) ?_
         obtain ⟨ok, h40, r41⟩ := b1_ok r39; clear r39
         refine o_callV rfl Try.call19 rfl rfl rfl (slices_Contains_int_int_w h26 h40) ?_
         refine ov (v_pick_t (evD_true rfl c38) rfl) rfl ?_
         refine shO_nil ?_
         obtain rfl := inj1 r41
         exact mi kr ⟨rfl, rfl, (sc rfl (sc rfl (sc rfl (sc rfl (sc rfl (sc rfl (sc rfl (sc rfl (sn _)))))))))⟩
       have r42 := ite_f h36 c38; clear h36
       refine shO_off (b' := false) 34 rfl (Env.isF rfl c38) rfl rfl (shO_off (b' := false) 34 rfl (Env.isF rfl c38) rfl rfl (shO_off (b' := false) 34 rfl (Env.isF rfl c38) rfl rfl (shO_off (b' := false) 34 rfl (Env.isF rfl c38) rfl rfl ?_)))
       refine ov (v_pick_f (evD_false rfl c38) rfl) rfl ?_
       refine shO_nil ?_
       obtain rfl := inj1 r42
       exact mi kr ⟨rfl, rfl, (sc rfl (sc rfl (sc rfl (sc rfl (sc rfl (sc rfl (sc rfl (sc rfl (sn _)))))))))⟩
     rintro e1 _ _ ⟨rfl, rfl, he43⟩
     refine shW_env _ he43 ?_; clear he43
     refine shW_cond rfl (fun c44 => ?_) (fun c44 => ?_)
     · have r45 := bt r37 c44; clear r37
       refine shW_drawM [(.still, 0), (.still, 1), (.still, 2), (.still, 3), (.still, 4), (.still, 5), (.still, 6), (.still, 7), (.still, 8), (.still, 9), (.still, 10), (.still, 11), (.still, 12), (.seq, 13), (.seq, 14), (.seq, 15)] (by kernel_rfl) (by kernel_rfl) (trivial) (by rfl) (by kernel_rfl) ?_
       refine shM_v (v := .int .i64 out2) (ek := [(5, .int .i64 out2)]) (Ls := []) rfl rfl rfl rfl ((sc rfl (sn _))) (by kernel_rfl) sm (fun H F' L' hF' hL' => v_move rfl) ?_
       refine shM_v (v := .int .i64 x2) (ek := [(8, .int .i64 x2)]) (Ls := []) rfl rfl rfl rfl ((sc rfl (sn _))) (by kernel_rfl) sm (fun H F' L' hF' hL' => v_move rfl) ?_
       refine shM_v (v := .pointer (some ⟨b_c, 0, none⟩)) (ek := [(0, .pointer (some ⟨b_c, 0, none⟩))]) (Ls := []) rfl rfl rfl rfl ((sc rfl (sn _))) (by kernel_rfl) sm (fun H F' L' hF' hL' => v_move rfl) ?_
       refine shM_v (v := .pointer (some ⟨b_c, 0, none⟩)) (ek := [(42, .pointer (some ⟨b_c, 0, none⟩))]) (Ls := []) rfl rfl rfl rfl ((sc rfl (sn _))) (by kernel_rfl) sm (fun H F' L' hF' hL' => v_nilCheck rfl) ?_
       refine shM_v (v := .pointer (some ⟨b_c, 0, none⟩)) (ek := [(43, .pointer (some ⟨b_c, 0, none⟩))]) (Ls := []) rfl rfl rfl rfl ((sc rfl (sn _))) (by kernel_rfl) sm (fun H F' L' hF' hL' => v_fieldAddr fa_101_0 rfl) ?_
       refine shM_v (v := .pointer (some ⟨b_c, 4, none⟩)) (ek := [(44, .pointer (some ⟨b_c, 0, none⟩))]) (Ls := []) rfl rfl rfl rfl ((sc rfl (sn _))) (by kernel_rfl) sm (fun H F' L' hF' hL' => v_fieldAddr fa_26_4 rfl) ?_
       refine shM_v (v := .slice notices_a notices.length notices_c) (ek := [(45, .pointer (some ⟨b_c, 4, none⟩))]) (Ls := []) rfl rfl rfl rfl ((sc rfl (sn _))) (by kernel_rfl) sm (fun H F' L' hF' hL' => v_load Try.isAgg24 rfl ((Has.frozen hb_c).ext hF' hL') (li_cell (li_skip (A := ([.slice walks_a walks.length walks_c] : List Value)) (k := 1) (o := 3) rfl (li_skip (A := ([.slice hears_a hears.length hears_c] : List Value)) (k := 1) (o := 2) rfl (li_skip (A := ([.int .i64 houses] : List Value)) (k := 1) (o := 1) rfl (li_skip (A := ([.int .i64 start] : List Value)) (k := 1) (o := 0) rfl (li_here (B := walks2.flatMap (cI .i64) ++ (([.slice pairs_a pairs.length pairs_c] : List Value) ++ (hit.flatMap (cI .i64)))) rfl))))))) ?_
       refine shM_v (v := .pointer (some ⟨b1, 0, none⟩)) (ek := [(3, .pointer (some ⟨b1, 0, none⟩))]) (Ls := []) rfl rfl rfl rfl ((sc rfl (sn _))) (by kernel_rfl) sm (fun H F' L' hF' hL' => v_fieldAddr fa_48_0 rfl) ?_
       refine shM_v (v := .int .i64 notice) (ek := [(47, .pointer (some ⟨b1, 0, none⟩))]) (Ls := [(b1, .cells #[.int .i64 notice, .int .i64 house] 48 (0, 0))]) rfl rfl rfl rfl ((sc rfl (sn _))) (by kernel_rfl) (s0 sr) (fun H F' L' hF' hL' => v_load Try.isAgg3 rfl ((Has.own 0 rfl).ext hF' hL') rfl) ?_
       obtain ⟨x3, g46, hx47, r48⟩ := ix_ok r45; clear r45
       obtain ⟨b49, o50, c51, vs52, ha53, hs54, hle55, ⟨_, _, rfl, ⟨a58, c59, rfl, h60⟩, ⟨_, _, rfl, rfl, rfl⟩⟩, hl56, hc57⟩ := RowR.at (prE_ok (slE_ok (iE_ok _)) (prE_ok (iE_ok _) (iE_ok _))) h_notices ([]) g46.1 hx47
       refine shM_v (v := .pointer (some ⟨b49, o50 + (notice : Int).toNat * 3, none⟩)) (ek := [(46, .slice notices_a notices.length notices_c), (48, .int .i64 notice)]) (Ls := []) rfl rfl rfl rfl ((sc rfl (sc rfl (sn _)))) (by kernel_rfl) sm (fun H F' L' hF' hL' => v_indexO Try.underlying24 Try.sizeOf40 rfl ha53 rfl g46) ?_
       refine shM_v (v := .pointer (some ⟨b49, o50 + (notice : Int).toNat * 3 + 1, none⟩)) (ek := [(49, .pointer (some ⟨b49, o50 + (notice : Int).toNat * 3, none⟩))]) (Ls := []) rfl rfl rfl rfl ((sc rfl (sn _))) (by kernel_rfl) sm (fun H F' L' hF' hL' => v_fieldAddr fa_40_1 rfl) ?_
       refine shM_v (v := .int .i64 x3.2.1) (ek := [(50, .pointer (some ⟨b49, o50 + (notice : Int).toNat * 3 + 1, none⟩))]) (Ls := []) rfl rfl rfl rfl ((sc rfl (sn _))) (by kernel_rfl) sm (fun H F' L' hF' hL' => v_load Try.isAgg3 rfl (hs54.ext hF' hL') (hc57 1 (by decide))) ?_
       obtain ⟨g61, r62⟩ := gd_ok r48; clear r48
       refine shM_v (v := .int .i64 (x2 + x3.2.1)) (ek := [(41, .int .i64 x2), (51, .int .i64 x3.2.1)]) (Ls := []) rfl rfl rfl rfl ((sc rfl (sc rfl (sn _)))) (by kernel_rfl) sm (fun H F' L' hF' hL' => v_add rfl rfl g61) ?_
       refine ⟨_, [(40, .int .i64 out2), (52, .int .i64 (x2 + x3.2.1))], rfl, rfl, (sc rfl (sc rfl (sn _))), by kernel_rfl, ?_⟩; intro H
       refine o_buildSlice (cs := #[.int .i64 out2, .int .i64 (x2 + x3.2.1)]) rfl rfl (buildSlice_all slt_38 [.int .i64 out2, .int .i64 (x2 + x3.2.1)] rfl (by decide) (by simp [Value.cells]) (by decide)) ?_; intro b63 hb63
       refine shO_nil ⟨_, rfl, FExt.refl _, [7, 5, 4, 3, 2], by kernel_rfl, .inl (.inr (fun d h => by cases h; rfl)), (List.forall_mem_cons.2 ⟨sm, (List.forall_mem_cons.2 ⟨sm, (List.forall_mem_cons.2 ⟨sm, (List.forall_mem_cons.2 ⟨sm, (List.forall_mem_cons.2 ⟨sm, (fun _ h => absurd h List.not_mem_nil)⟩)⟩)⟩)⟩)⟩), ?_⟩
       refine ⟨_, [(53, .slice (some ⟨b63, 0, none⟩) 2 2)], rfl, rfl, (sc rfl (sn _)), by kernel_rfl, ?_⟩; intro H
       refine shO_freeze 0 rfl hb63 ?_; intro F64 hF65 hz66
       refine shO_L (L' := [(b1, .cells #[.int .i64 notice, .int .i64 house] 48 (0, 0))]) rfl ?_
       replace h_hears := h_hears.mono (slE_ok (iE_ok _)) hF65
       have h67 : RowR 1 (iE .i64) F64 (some ⟨b63, 0, none⟩) 2 [out2, x2 + x3.2.1] := RowR.of_block (iE_ok _) (vss := [[.int .i64 out2], [.int .i64 (x2 + x3.2.1)]]) (xs := [out2, x2 + x3.2.1]) hz66 (.cons rfl (.cons rfl .nil)) rfl (by simp [maxLen])
       obtain ⟨n, h68, r69⟩ := b1_ok r62; clear r62
       refine o_callV rfl Try.call53 rfl rfl rfl (round_soonest_w h67 h68) ?_
       refine shO_nil ⟨_, rfl, hF65, [7, 5, 4, 3, 2], by kernel_rfl, .inl (.inr (fun d h => by cases h; rfl)), (List.forall_mem_cons.2 ⟨sm, (List.forall_mem_cons.2 ⟨sm, (List.forall_mem_cons.2 ⟨sm, (List.forall_mem_cons.2 ⟨sm, (List.forall_mem_cons.2 ⟨sm, (fun _ h => absurd h List.not_mem_nil)⟩)⟩)⟩)⟩)⟩), ?_⟩
       refine ⟨_, [(54, .int .i64 n)], rfl, rfl, (sc rfl (sn _)), by kernel_rfl, ?_⟩; intro H
       refine oa rfl rfl ?_
       refine shO_nil ⟨_, rfl, FExt.refl _, [], by kernel_rfl, .inl (.inl rfl), (fun _ h => absurd h List.not_mem_nil), ?_⟩
       refine shM_nil ?_
       refine inBlock_n (id := 1) (shW_region ?_)
       refine ov (v_add rfl rfl (Lst.r64 hk4 c11 (RowR.lt h_hears))) rfl ?_
       refine om rfl rfl (shO_nil ?_)
       subst hn5; exact le kr ⟨_, _, rfl, hk12, n, r69, (hF9.trans hF65), rfl, (sc rfl (sc rfl (sc rfl (sc rfl (sc rfl (sc rfl (sn _)))))))⟩
     have r70 := bf r37 c44; clear r37
     refine shW_skip (inBlock_n (id := 1) (shW_region ?_))
     refine ov (v_add rfl rfl (Lst.r64 hk4 c11 (RowR.lt h_hears))) rfl ?_
     refine om rfl rfl (shO_nil ?_)
     subst hn5; exact le kr ⟨_, _, rfl, hk12, out2, r70, hF9, rfl, (sc rfl (sc rfl (sc rfl (sc rfl (sc rfl (sc rfl (sn _)))))))⟩
   obtain rfl := Lst.zero hk4 c11
   rw [round_crier_first_l1] at r6
   refine shW_exit (andThen_exit (andThen_exit ?_))
   refine inBlock_exit ?_
   obtain rfl := inj1 r6
   exact mi kn ⟨hF9, rfl, (sc rfl (sn _))⟩
 rintro e1 F72 _ ⟨hF73, rfl, he71⟩
 refine shW_env _ he71 ?_; clear he71
 refine wsr (om rfl rfl (oa rfl rfl (shO_nil (shW_ret ?_))))
 refine q_res1 Try.results46 (res_tmp rfl) (sr) ?_
 obtain rfl := inj1 r3
 exact rfl
set_option maxHeartbeats 1000000 in
theorem round_Soonest_w {walks_a : Option Addr} {walks_c : Nat} {walks : List (List Int)} {hears_a : Option Addr} {hears_c : Nat} {hears : List (List Int)} {houses start : Int} {notices_a : Option Addr} {notices_c : Nat} {notices : List ((List Int) × Int × Int)} {notice house : Int} {F : FS} (h_walks : RowR 1 (slE 1 (iE .i64)) F walks_a walks_c walks) (h_hears : RowR 1 (slE 1 (iE .i64)) F hears_a hears_c hears) (h_notices : RowR 3 (prE (slE 1 (iE .i64)) (prE (iE .i64) (iE .i64))) F notices_a notices_c notices) {r r2 : Int} (hr : round_Soonest walks hears houses start notices notice house = some (r, r2)) :
    SpecV Try.prog 15 #[.agg #[.slice walks_a walks.length walks_c, .slice hears_a hears.length hears_c, .int .i64 houses, .int .i64 start, .slice notices_a notices.length notices_c], .agg #[.int .i64 notice, .int .i64 house]] F (.tuple #[.int .i64 r, .int .i64 r2]) := by
 refine spec_of_shW (args := [.agg #[.slice walks_a walks.length walks_c, .slice hears_a hears.length hears_c, .int .i64 houses, .int .i64 start, .slice notices_a notices.length notices_c], .agg #[.int .i64 notice, .int .i64 house]]) Try.func15 rfl Try.ntmps15 (Nat.le_of_ble_eq_true rfl) ?_
 intro K _ _; rw [round_Soonest] at hr
 refine wsr ?_
 refine o_box rfl rfl ?_; intro b1 hb1
 refine o_box rfl rfl ?_; intro b2 hb2
 refine oa rfl rfl (oa rfl rfl (nsr ?_))
 refine ov (v_loadA (cs := #[.slice walks_a walks.length walks_c, .slice hears_a hears.length hears_c, .int .i64 houses, .int .i64 start, .slice notices_a notices.length notices_c]) Try.isAgg26 Try.sizeOf26 rfl (Has.own 1 rfl) (Nat.le_of_ble_eq_true rfl) rfl) rfl ?_
 obtain ⟨d, n, h3, r4⟩ := b2_ok hr; clear hr
 refine o_call0 rfl Try.call30 rfl rfl rfl (round_opened_w h_walks h_hears h_notices h3) ?_; rintro _ F5 _ hF6 hn7 ⟨v9, rfl, rfl, hp10⟩
 refine shO_L (ln rfl) ?_
 refine om rfl rfl (ox rfl rfl rfl (ox rfl rfl rfl (oa rfl rfl (oa rfl rfl (shO_nil (shW_seq ?_))))))
 refine shW_block ?_
 refine wsr (om rfl rfl ?_)
 refine ov (v_neq rfl rfl) rfl ?_
 refine oa rfl rfl (shO_nil ?_)
 refine shW_condP rfl (fun c11 => ?_) (fun c11 => ?_)
 · have r12 := ite_t r4 c11; clear r4
   refine wsr (om rfl rfl (oa rfl rfl (oa rfl rfl (shO_nil ?_))))
   refine kW kn ?_
   refine shW_ret (inBlock_ret (andThen_ret ?_))
   refine q_res2 Try.results15 (res_tmp rfl) (res_tmp rfl) (sr) ?_
   obtain ⟨rfl, rfl⟩ := inj2 r12
   exact rfl
 have r13 := ite_f r4 c11; clear r4
 refine wsr (om rfl rfl ?_)
 refine ov (v_loadA (cs := #[.int .i64 notice, .int .i64 house]) Try.isAgg48 Try.sizeOf48 rfl (Has.own 0 rfl) (Nat.le_of_ble_eq_true rfl) rfl) rfl ?_
 obtain ⟨walks2, hears2, houses2, start2, notices2, walks3, pairs, hit, h14, r15⟩ := b8_ok r13; clear r13
 have h35 := hp10; rw [h14] at h35; obtain ⟨b16, c17, m18, hv19, hz20, ⟨_, _, rfl, ⟨a21, c22, rfl, h23⟩, ⟨_, _, rfl, ⟨a24, c25, rfl, h26⟩, ⟨_, _, rfl, rfl, ⟨_, _, rfl, rfl, ⟨_, _, rfl, ⟨a27, c28, rfl, h29⟩, ⟨_, _, rfl, ⟨rfl, h30⟩, ⟨_, _, rfl, ⟨a31, c32, rfl, h33⟩, ⟨rfl, h34⟩⟩⟩⟩⟩⟩⟩⟩⟩ := h35; subst hv19
 have hz20 : F5 b16 = some (.cells ((([.slice a21 walks2.length c22] : List Value) ++ (([.slice a24 hears2.length c25] : List Value) ++ (([.int .i64 houses2] : List Value) ++ (([.int .i64 start2] : List Value) ++ (([.slice a27 notices2.length c28] : List Value) ++ (walks3.flatMap (cI .i64) ++ (([.slice a31 pairs.length c32] : List Value) ++ (hit.flatMap (cI .i64))))))))).toArray) 101 m18) := hz20
 obtain ⟨n2, h36, r37⟩ := b1_ok r15; clear r15
 refine o_callV rfl Try.call45 rfl rfl rfl (round_crier_index_w hz20 h23 h26 h29 h30 h33 h34 h36) ?_
 refine ov (v_lssK rfl rfl) rfl ?_
 refine oa rfl rfl (shO_nil ?_)
 refine shW_condP rfl (fun c38 => ?_) (fun c38 => ?_)
 · have r39 := ite_t r37 c38; clear r37
   refine wsr (oa rfl rfl (oa rfl rfl (shO_nil ?_)))
   refine kW kn ?_
   refine shW_ret (inBlock_ret (andThen_ret ?_))
   refine q_res2 Try.results15 (res_tmp rfl) (res_tmp rfl) (sr) ?_
   obtain ⟨rfl, rfl⟩ := inj2 r39
   exact rfl
 have r40 := ite_f r37 c38; clear r37
 refine shW_skip (inBlock_n (id := 0) (wsr (om rfl rfl ?_)))
 refine ov (v_loadA (cs := #[.int .i64 notice, .int .i64 house]) Try.isAgg48 Try.sizeOf48 rfl (Has.own 0 rfl) (Nat.le_of_ble_eq_true rfl) rfl) rfl ?_
 obtain ⟨n3, h41, r42⟩ := b1_ok r40; clear r40
 refine o_callV rfl Try.call46 rfl rfl rfl (round_crier_first_w hz20 h23 h26 h29 h30 h33 h34 h41) ?_
 refine oa rfl rfl (shO_nil (shW_seq (wsr (om rfl rfl ?_))))
 refine ov (v_eql rfl rfl) rfl ?_
 refine shO_nil ?_
 refine shW_condP rfl (fun c43 => ?_) (fun c43 => ?_)
 · have r44 := ite_t r42 c43; clear r42
   refine wsr (oa rfl rfl (oa rfl rfl (shO_nil ?_)))
   refine kW kn ?_
   refine shW_ret (andThen_ret ?_)
   refine q_res2 Try.results15 (res_tmp rfl) (res_tmp rfl) (sr) ?_
   obtain ⟨rfl, rfl⟩ := inj2 r44
   exact rfl
 have r45 := ite_f r42 c43; clear r42
 refine shW_skip (wsr (om rfl rfl (oa rfl rfl (oa rfl rfl (shO_nil ?_)))))
 refine kW kn ?_
 refine shW_ret ?_
 refine q_res2 Try.results15 (res_tmp rfl) (res_tmp rfl) (sr) ?_
 obtain ⟨rfl, rfl⟩ := inj2 r45
 exact rfl
set_option maxHeartbeats 1000000 in
theorem round_Walk_w {walks_a : Option Addr} {walks_c : Nat} {walks : List (List Int)} {hears_a : Option Addr} {hears_c : Nat} {hears : List (List Int)} {houses start : Int} {notices_a : Option Addr} {notices_c : Nat} {notices : List ((List Int) × Int × Int)} {from_ to : Int} {F : FS} (h_walks : RowR 1 (slE 1 (iE .i64)) F walks_a walks_c walks) (h_hears : RowR 1 (slE 1 (iE .i64)) F hears_a hears_c hears) (h_notices : RowR 3 (prE (slE 1 (iE .i64)) (prE (iE .i64) (iE .i64))) F notices_a notices_c notices) {r r2 : Int} (hr : round_Walk walks hears houses start notices from_ to = some (r, r2)) :
    SpecV Try.prog 17 #[.agg #[.slice walks_a walks.length walks_c, .slice hears_a hears.length hears_c, .int .i64 houses, .int .i64 start, .slice notices_a notices.length notices_c], .int .i64 from_, .int .i64 to] F (.tuple #[.int .i64 r, .int .i64 r2]) := by
 refine spec_of_shW (args := [.agg #[.slice walks_a walks.length walks_c, .slice hears_a hears.length hears_c, .int .i64 houses, .int .i64 start, .slice notices_a notices.length notices_c], .int .i64 from_, .int .i64 to]) Try.func17 rfl Try.ntmps17 (Nat.le_of_ble_eq_true rfl) ?_
 intro K _ _; rw [round_Walk] at hr
 refine wsr ?_
 refine o_box rfl rfl ?_; intro b1 hb1
 refine oa rfl rfl (oa rfl rfl (nsr ?_))
 refine ov (v_loadA (cs := #[.slice walks_a walks.length walks_c, .slice hears_a hears.length hears_c, .int .i64 houses, .int .i64 start, .slice notices_a notices.length notices_c]) Try.isAgg26 Try.sizeOf26 rfl (Has.own 0 rfl) (Nat.le_of_ble_eq_true rfl) rfl) rfl ?_
 obtain ⟨d, n, h2, r3⟩ := b2_ok hr; clear hr
 refine o_call0 rfl Try.call30 rfl rfl rfl (round_opened_w h_walks h_hears h_notices h2) ?_; rintro _ F4 _ hF5 hn6 ⟨v8, rfl, rfl, hp9⟩
 replace h_walks := h_walks.mono (slE_ok (iE_ok _)) hF5
 replace h_hears := h_hears.mono (slE_ok (iE_ok _)) hF5
 replace h_notices := h_notices.mono (prE_ok (slE_ok (iE_ok _)) (prE_ok (iE_ok _) (iE_ok _))) hF5
 refine shO_L (ln rfl) ?_
 refine om rfl rfl (ox rfl rfl rfl (ox rfl rfl rfl (oa rfl rfl (oa rfl rfl (shO_nil (shW_seq ?_))))))
 refine shW_block ?_
 refine wsr (om rfl rfl ?_)
 refine ov (v_neq rfl rfl) rfl ?_
 refine oa rfl rfl (shO_nil ?_)
 refine shW_condP rfl (fun c10 => ?_) (fun c10 => ?_)
 · have r11 := ite_t r3 c10; clear r3
   refine wsr (om rfl rfl (oa rfl rfl (oa rfl rfl (shO_nil ?_))))
   refine kW kn ?_
   refine shW_ret (inBlock_ret (andThen_ret ?_))
   refine q_res2 Try.results17 (res_tmp rfl) (res_tmp rfl) (sr) ?_
   obtain ⟨rfl, rfl⟩ := inj2 r11
   exact rfl
 have r12 := ite_f r3 c10; clear r3
 obtain ⟨k, h13, r14⟩ := b1_ok r12; clear r12
 refine shW_join (fun e1 F1 L1 => F4 = F1 ∧ L1 = [] ∧ e1.sub [(1, .int .i64 from_), (2, .int .i64 to), (8, v8), (19, .bool k)]) ?_ ?_
 · clear r14
   refine shW_region ?_
   refine ov (v_loadA (cs := #[.slice walks_a walks.length walks_c, .slice hears_a hears.length hears_c, .int .i64 houses, .int .i64 start, .slice notices_a notices.length notices_c]) Try.isAgg26 Try.sizeOf26 rfl (Has.own 0 rfl) (Nat.le_of_ble_eq_true rfl) rfl) rfl ?_
   refine om rfl rfl ?_
   obtain ⟨ok, h15, r16⟩ := b1_ok h13; clear h13
   refine o_callV rfl Try.call49 rfl rfl rfl (round_Beat_stand_w h_walks h_hears h_notices h15) ?_
   refine ov (v_notB rfl) rfl ?_
   refine om rfl rfl ?_
   rcases bool_two (!ok) with c17 | c17
   · have r18 := bt r16 c17; clear r16
     refine shO_off (b' := true) 24 rfl (EnvB rfl c17) rfl rfl (shO_off (b' := true) 24 rfl (EnvB rfl c17) rfl rfl (shO_off (b' := true) 24 rfl (EnvB rfl c17) rfl rfl (shO_off (b' := true) 24 rfl (EnvB rfl c17) rfl rfl ?_)))
     refine ov (v_pick_t (evB rfl c17) rfl) rfl ?_
     refine oa rfl rfl (shO_nil ?_)
     obtain rfl := inj1 r18
     exact mi kn ⟨rfl, rfl, (sc rfl (sc rfl (sc rfl (sc rfl (sn _)))))⟩
   have r19 := bf r16 c17; clear r16
   refine shO_on (b := false) 24 rfl (EnvB rfl c17) ?_
   refine ov (v_loadA (cs := #[.slice walks_a walks.length walks_c, .slice hears_a hears.length hears_c, .int .i64 houses, .int .i64 start, .slice notices_a notices.length notices_c]) Try.isAgg26 Try.sizeOf26 rfl (Has.own 0 rfl) (Nat.le_of_ble_eq_true rfl) rfl) rfl ?_
   refine shO_on (b := false) 24 rfl (EnvB rfl c17) (om rfl rfl (shO_on (b := false) 24 rfl (EnvB rfl c17) ?_))
   obtain ⟨ok2, h20, r21⟩ := b1_ok r19; clear r19
   refine o_callV rfl Try.call49 rfl rfl rfl (round_Beat_stand_w h_walks h_hears h_notices h20) ?_
   refine shO_on (b := false) 24 rfl (EnvB rfl c17) ?_
   refine ov (v_notB rfl) rfl ?_
   refine ov (v_pick_f (evB rfl c17) rfl) rfl ?_
   refine oa rfl rfl (shO_nil ?_)
   obtain rfl := inj1 r21
   exact mi kn ⟨rfl, rfl, (sc rfl (sc rfl (sc rfl (sc rfl (sn _)))))⟩
 rintro e1 _ _ ⟨rfl, rfl, he22⟩
 refine shW_env _ he22 ?_; clear he22
 refine shW_cond rfl (fun c23 => ?_) (fun c23 => ?_)
 · have r24 := bt r14 c23; clear r14
   refine wsr (oa rfl rfl (oa rfl rfl (shO_nil (shW_ret (inBlock_ret (andThen_ret ?_))))))
   refine q_res2 Try.results17 (res_tmp rfl) (res_tmp rfl) (sr) ?_
   obtain ⟨rfl, rfl⟩ := inj2 r24
   exact rfl
 have r25 := bf r14 c23; clear r14
 refine wsr (om rfl rfl (om rfl rfl (om rfl rfl ?_)))
 obtain ⟨walks2, hears2, houses2, start2, notices2, walks3, pairs, hit, h26, r27⟩ := b8_ok r25; clear r25
 have h47 := hp9; rw [h26] at h47; obtain ⟨b28, c29, m30, hv31, hz32, ⟨_, _, rfl, ⟨a33, c34, rfl, h35⟩, ⟨_, _, rfl, ⟨a36, c37, rfl, h38⟩, ⟨_, _, rfl, rfl, ⟨_, _, rfl, rfl, ⟨_, _, rfl, ⟨a39, c40, rfl, h41⟩, ⟨_, _, rfl, ⟨rfl, h42⟩, ⟨_, _, rfl, ⟨a43, c44, rfl, h45⟩, ⟨rfl, h46⟩⟩⟩⟩⟩⟩⟩⟩⟩ := h47; subst hv31
 have hz32 : F4 b28 = some (.cells ((([.slice a33 walks2.length c34] : List Value) ++ (([.slice a36 hears2.length c37] : List Value) ++ (([.int .i64 houses2] : List Value) ++ (([.int .i64 start2] : List Value) ++ (([.slice a39 notices2.length c40] : List Value) ++ (walks3.flatMap (cI .i64) ++ (([.slice a43 pairs.length c44] : List Value) ++ (hit.flatMap (cI .i64))))))))).toArray) 101 m30) := hz32
 refine ov (v_nilCheck rfl) rfl ?_
 refine ov (v_fieldAddr fa_101_1 rfl) rfl ?_
 obtain ⟨g48, r49⟩ := gd_ok r27; clear r27
 refine ov (v_indexA Try.underlying97 Try.sizeOf95 rfl rfl g48) rfl ?_
 obtain ⟨g50, r51⟩ := gd_ok r49; clear r49
 obtain ⟨x, g52, hx53, r54⟩ := ix_ok r51; clear r51
 have hq56 : (from_ * 5 + to : Int).toNat = (from_ : Int).toNat * 5 + (to : Int).toNat := by have := g48; have := g50; omega
 have hc55 := el_at2 (cI_ok .i64) h42 hq56 hx53 (li_arr (li_skip (A := ([.slice a33 walks2.length c34] : List Value)) (k := 1) (o := 4) rfl (li_skip (A := ([.slice a36 hears2.length c37] : List Value)) (k := 1) (o := 3) rfl (li_skip (A := ([.int .i64 houses2] : List Value)) (k := 1) (o := 2) rfl (li_skip (A := ([.int .i64 start2] : List Value)) (k := 1) (o := 1) rfl (li_skip (A := ([.slice a39 notices2.length c40] : List Value)) (k := 1) (o := 0) rfl (li_here (B := ([.slice a43 pairs.length c44] : List Value) ++ (hit.flatMap (cI .i64))) (lfl (cI_ok .i64) h42)))))))) (li_le (li_skip (A := ([.slice a33 walks2.length c34] : List Value)) (k := 1) (o := 4) rfl (li_skip (A := ([.slice a36 hears2.length c37] : List Value)) (k := 1) (o := 3) rfl (li_skip (A := ([.int .i64 houses2] : List Value)) (k := 1) (o := 2) rfl (li_skip (A := ([.int .i64 start2] : List Value)) (k := 1) (o := 1) rfl (li_skip (A := ([.slice a39 notices2.length c40] : List Value)) (k := 1) (o := 0) rfl (li_here (B := ([.slice a43 pairs.length c44] : List Value) ++ (hit.flatMap (cI .i64))) (lfl (cI_ok .i64) h42))))))))
 refine ov (v_indexA Try.underlying95 Try.sizeOf3 rfl rfl g50) rfl ?_
 refine ov (v_load Try.isAgg3 rfl (Has.frozen hz32) ((hc55).2.2 0 (by decide))) rfl ?_
 refine ov (v_eql rfl rfl) rfl ?_
 refine oa rfl rfl (shO_nil ?_)
 refine shW_condP rfl (fun c57 => ?_) (fun c57 => ?_)
 · have r58 := ite_t r54 c57; clear r54
   refine wsr (oa rfl rfl (oa rfl rfl (shO_nil (shW_ret (inBlock_ret (andThen_ret ?_))))))
   refine q_res2 Try.results17 (res_tmp rfl) (res_tmp rfl) (sr) ?_
   obtain ⟨rfl, rfl⟩ := inj2 r58
   exact rfl
 have r59 := ite_f r54 c57; clear r54
 refine shW_skip (inBlock_n (id := 0) (wsr (om rfl rfl (om rfl rfl (om rfl rfl ?_)))))
 refine ov (v_nilCheck rfl) rfl ?_
 refine ov (v_fieldAddr fa_101_1 rfl) rfl ?_
 obtain ⟨g60, r61⟩ := gd_ok r59; clear r59
 refine ov (v_indexA Try.underlying97 Try.sizeOf95 rfl rfl g60) rfl ?_
 obtain ⟨g62, r63⟩ := gd_ok r61; clear r61
 have hq65 : (from_ * 5 + to : Int).toNat = (from_ : Int).toNat * 5 + (to : Int).toNat := by have := g60; have := g62; omega
 have hc64 := el_at2 (cI_ok .i64) h42 hq65 hx53 (li_arr (li_skip (A := ([.slice a33 walks2.length c34] : List Value)) (k := 1) (o := 4) rfl (li_skip (A := ([.slice a36 hears2.length c37] : List Value)) (k := 1) (o := 3) rfl (li_skip (A := ([.int .i64 houses2] : List Value)) (k := 1) (o := 2) rfl (li_skip (A := ([.int .i64 start2] : List Value)) (k := 1) (o := 1) rfl (li_skip (A := ([.slice a39 notices2.length c40] : List Value)) (k := 1) (o := 0) rfl (li_here (B := ([.slice a43 pairs.length c44] : List Value) ++ (hit.flatMap (cI .i64))) (lfl (cI_ok .i64) h42)))))))) (li_le (li_skip (A := ([.slice a33 walks2.length c34] : List Value)) (k := 1) (o := 4) rfl (li_skip (A := ([.slice a36 hears2.length c37] : List Value)) (k := 1) (o := 3) rfl (li_skip (A := ([.int .i64 houses2] : List Value)) (k := 1) (o := 2) rfl (li_skip (A := ([.int .i64 start2] : List Value)) (k := 1) (o := 1) rfl (li_skip (A := ([.slice a39 notices2.length c40] : List Value)) (k := 1) (o := 0) rfl (li_here (B := ([.slice a43 pairs.length c44] : List Value) ++ (hit.flatMap (cI .i64))) (lfl (cI_ok .i64) h42))))))))
 refine ov (v_indexA Try.underlying95 Try.sizeOf3 rfl rfl g62) rfl ?_
 refine ov (v_load Try.isAgg3 rfl (Has.frozen hz32) ((hc64).2.2 0 (by decide))) rfl ?_
 refine oa rfl rfl (oa rfl rfl (shO_nil (shW_ret ?_)))
 refine q_res2 Try.results17 (res_tmp rfl) (res_tmp rfl) (sr) ?_
 obtain ⟨rfl, rfl⟩ := inj2 r63
 exact rfl
set_option maxHeartbeats 1000000 in
theorem round_Beat_notice_w {walks_a : Option Addr} {walks_c : Nat} {walks : List (List Int)} {hears_a : Option Addr} {hears_c : Nat} {hears : List (List Int)} {houses start : Int} {notices_a : Option Addr} {notices_c : Nat} {notices : List ((List Int) × Int × Int)} {n : Int} {F : FS} (_h_walks : RowR 1 (slE 1 (iE .i64)) F walks_a walks_c walks) (_h_hears : RowR 1 (slE 1 (iE .i64)) F hears_a hears_c hears) (_h_notices : RowR 3 (prE (slE 1 (iE .i64)) (prE (iE .i64) (iE .i64))) F notices_a notices_c notices) {r : Bool} (hr : round_Beat_notice walks hears houses start notices n = some r) :
    SpecV Try.prog 43 #[.agg #[.slice walks_a walks.length walks_c, .slice hears_a hears.length hears_c, .int .i64 houses, .int .i64 start, .slice notices_a notices.length notices_c], .int .i64 n] F (.bool r) := by
 refine spec_of_shW (args := [.agg #[.slice walks_a walks.length walks_c, .slice hears_a hears.length hears_c, .int .i64 houses, .int .i64 start, .slice notices_a notices.length notices_c], .int .i64 n]) Try.func43 rfl Try.ntmps43 (Nat.le_of_ble_eq_true rfl) ?_
 intro K _ _; rw [round_Beat_notice] at hr
 refine wsr ?_
 refine o_box rfl rfl ?_; intro b1 hb1
 refine oa rfl rfl (nsr (om rfl rfl ?_))
 refine ov (v_fieldAddr fa_26_4 rfl) rfl ?_
 refine ov (v_load Try.isAgg24 rfl (Has.own 0 rfl) rfl) rfl ?_
 refine ov (v_lenS Try.underlying24 rfl) rfl ?_
 obtain ⟨g2, r3⟩ := gd_ok hr; clear hr
 refine ov (v_sub rfl rfl g2) rfl ?_
 obtain ⟨ok, h4, r5⟩ := b1_ok r3; clear r3
 refine o_callV rfl Try.call38 rfl rfl rfl (round_in_w h4) ?_
 refine oa rfl rfl (shO_nil ?_)
 refine kW kn ?_
 refine shW_ret ?_
 refine q_res1 Try.results43 (res_tmp rfl) (sr) ?_
 obtain rfl := inj1 r5
 exact rfl
set_option maxHeartbeats 1000000 in
theorem round_gone_w {walks_a : Option Addr} {walks_c : Nat} {walks : List (List Int)} {hears_a : Option Addr} {hears_c : Nat} {hears : List (List Int)} {houses start : Int} {notices_a : Option Addr} {notices_c : Nat} {notices : List ((List Int) × Int × Int)} {round_a : Option Addr} {round_c : Nat} {round : List (Int × Int)} {F : FS} (h_walks : RowR 1 (slE 1 (iE .i64)) F walks_a walks_c walks) (h_hears : RowR 1 (slE 1 (iE .i64)) F hears_a hears_c hears) (h_notices : RowR 3 (prE (slE 1 (iE .i64)) (prE (iE .i64) (iE .i64))) F notices_a notices_c notices) (h_round : RowR 2 (prE (iE .i64) (iE .i64)) F round_a round_c round) {r : Option ((List (List Int)) × (List (List Int)) × Int × Int × (List ((List Int) × Int × Int)) × (List Int) × (List (Int × Int)) × (List Int))} {r2 : List Int} {r3 : Int} (hr : round_gone walks hears houses start notices round = some (r, r2, r3)) :
    SH.Spec Try.prog 50 #[.agg #[.slice walks_a walks.length walks_c, .slice hears_a hears.length hears_c, .int .i64 houses, .int .i64 start, .slice notices_a notices.length notices_c], .slice round_a round.length round_c] F [] fun F' L' v => ∃ (rv : Value) (r2a : Option Addr) (r2n : Nat) (r2c : Nat) (r2L : LH), v = .tuple #[rv, .slice r2a r2n r2c, .int .i64 r3] ∧ L' = r2L ++ [] ∧ PtrR 101 (prE (slE 1 (slE 1 (iE .i64))) (prE (slE 1 (slE 1 (iE .i64))) (prE (iE .i64) (prE (iE .i64) (prE (slE 3 (prE (slE 1 (iE .i64)) (prE (iE .i64) (iE .i64)))) (prE (arE 25 (cI .i64)) (prE (slE 2 (prE (iE .i64) (iE .i64))) (arE 15 (cI .i64))))))))) F' rv r ∧ SlR 0 3 1 (iE .i64) F' r2a r2n r2c r2 r2L := by
 refine spec_of_shW (args := [.agg #[.slice walks_a walks.length walks_c, .slice hears_a hears.length hears_c, .int .i64 houses, .int .i64 start, .slice notices_a notices.length notices_c], .slice round_a round.length round_c]) Try.func50 rfl Try.ntmps50 (Nat.le_of_ble_eq_true rfl) ?_
 intro K _ _; rw [round_gone] at hr
 refine wsr ?_
 refine o_box rfl rfl ?_; intro b1 hb1
 refine oa rfl rfl (oa rfl rfl (oa rfl rfl (nsr ?_)))
 refine ov (v_loadA (cs := #[.slice walks_a walks.length walks_c, .slice hears_a hears.length hears_c, .int .i64 houses, .int .i64 start, .slice notices_a notices.length notices_c]) Try.isAgg26 Try.sizeOf26 rfl (Has.own 0 rfl) (Nat.le_of_ble_eq_true rfl) rfl) rfl ?_
 obtain ⟨d, n, h2, r4⟩ := b2_ok hr; clear hr
 refine o_call0 rfl Try.call30 rfl rfl rfl (round_opened_w h_walks h_hears h_notices h2) ?_; rintro _ F5 _ hF6 hn7 ⟨v9, rfl, rfl, hp10⟩
 replace h_walks := h_walks.mono (slE_ok (iE_ok _)) hF6
 replace h_hears := h_hears.mono (slE_ok (iE_ok _)) hF6
 replace h_notices := h_notices.mono (prE_ok (slE_ok (iE_ok _)) (prE_ok (iE_ok _) (iE_ok _))) hF6
 replace h_round := h_round.mono (prE_ok (iE_ok _) (iE_ok _)) hF6
 refine shO_L (ln rfl) ?_
 refine om rfl rfl (ox rfl rfl rfl (ox rfl rfl rfl (oa rfl rfl (oa rfl rfl (shO_nil (shW_seq ?_))))))
 refine shW_block ?_
 refine wsr (om rfl rfl ?_)
 refine ov (v_neq rfl rfl) rfl ?_
 refine oa rfl rfl (shO_nil ?_)
 refine shW_condP rfl (fun c11 => ?_) (fun c11 => ?_)
 · have r12 := ite_t r4 c11; clear r4
   refine wsr (om rfl rfl (oa rfl rfl (oa rfl rfl (oa rfl rfl (shO_nil ?_)))))
   refine kW kn ?_
   refine shW_ret (inBlock_ret (andThen_ret ?_))
   refine q_res3 Try.results50 (res_tmp rfl) (res_tmp rfl) (res_tmp rfl) (sr) ?_
   obtain ⟨rfl, rfl, rfl⟩ := inj3 r12
   exact ⟨_, _, _, _, [], rfl, rfl, rfl, SlR.nil _ _ _ _ _⟩
 have r13 := ite_f r4 c11; clear r4
 refine wsr (om rfl rfl ?_)
 refine ov (v_lenS Try.underlying30 rfl) rfl ?_
 refine ov (v_gtrK rfl rfl) rfl ?_
 refine oa rfl rfl (shO_nil ?_)
 refine shW_condP rfl (fun c14 => ?_) (fun c14 => ?_)
 · have r15 := ite_t r13 c14; clear r13
   refine wsr (oa rfl rfl (oa rfl rfl (oa rfl rfl (shO_nil ?_))))
   refine kW kn ?_
   refine shW_ret (inBlock_ret (andThen_ret ?_))
   refine q_res3 Try.results50 (res_tmp rfl) (res_tmp rfl) (res_tmp rfl) (sr) ?_
   obtain ⟨rfl, rfl, rfl⟩ := inj3 r15
   exact ⟨_, _, _, _, [], rfl, rfl, rfl, SlR.nil _ _ _ _ _⟩
 have r16 := ite_f r13 c14; clear r13
 refine shW_skip (inBlock_n (id := 0) (wsr ?_))
 refine ov (v_fieldAddr fa_26_3 rfl) rfl ?_
 refine ov (v_load Try.isAgg3 rfl (Has.own 0 rfl) rfl) rfl ?_
 refine oa rfl rfl (oa rfl rfl (nsr (oa rfl rfl (nsr ?_))))
 refine ov (v_loadA (cs := #[.slice walks_a walks.length walks_c, .slice hears_a hears.length hears_c, .int .i64 houses, .int .i64 start, .slice notices_a notices.length notices_c]) Try.isAgg26 Try.sizeOf26 rfl (Has.own 0 rfl) (Nat.le_of_ble_eq_true rfl) rfl) rfl ?_
 refine ov (v_makeFunc rfl rfl) rfl ?_
 refine oa rfl rfl (shO_nil ?_)
 refine shW_join (fun e1 F1 L1 => ∃ (out : List Int) (v17 : Value) (a19 : Option Addr) (n23 : Nat) (c20 : Nat) (Lb21 : LH), round_gone_j1 d out = some (r, r2, r3) ∧ F5 = F1 ∧ L1 = (Lb21 ++ []) ∧ e1.sub [(7, v17), (11, .slice a19 n23 c20)] ∧ PtrR 101 (prE (slE 1 (slE 1 (iE .i64))) (prE (slE 1 (slE 1 (iE .i64))) (prE (iE .i64) (prE (iE .i64) (prE (slE 3 (prE (slE 1 (iE .i64)) (prE (iE .i64) (iE .i64)))) (prE (arE 25 (cI .i64)) (prE (slE 2 (prE (iE .i64) (iE .i64))) (arE 15 (cI .i64))))))))) F1 v17 d ∧ SlR K.w0.heap.size 3 1 (iE .i64) F1 a19 n23 c20 out Lb21) ?_ ?_
 · refine wsr (om rfl rfl ?_)
   refine ov (v_lenS Try.underlying30 rfl) rfl ?_
   refine om rfl rfl (shO_nil ?_)
   refine shW_block ?_
   refine shW_lp (fun fu2 e1 F1 L1 => ∃ (tl : List (Int × Int)) (k : Int), tl.length = fu2 ∧ Lst round k tl ∧ ∃ (at_ : Int) (minute : Int) (out2 : List Int) (v25 : Value) (a27 : Option Addr) (n31 : Nat) (c28 : Nat) (Lb29 : LH), round_gone_l2 walks hears houses start notices d tl at_ minute out2 = some (r, r2, r3) ∧ F5 = F1 ∧ L1 = ((b1, .cells #[.slice walks_a walks.length walks_c, .slice hears_a hears.length hears_c, .int .i64 houses, .int .i64 start, .slice notices_a notices.length notices_c] 26 (0, 0)) :: (Lb29 ++ [])) ∧ e1.sub [(2, .pointer (some ⟨b1, 0, none⟩)), (7, v25), (9, .int .i64 at_), (10, .int .i64 minute), (11, .slice a27 n31 c28), (12, .func (.func 49) #[.agg #[.slice walks_a walks.length walks_c, .slice hears_a hears.length hears_c, .int .i64 houses, .int .i64 start, .slice notices_a notices.length notices_c]] #[]), (33, .slice round_a round.length round_c), (34, .int .i64 (round.length : Int)), (35, .int .i64 k)] ∧ PtrR 101 (prE (slE 1 (slE 1 (iE .i64))) (prE (slE 1 (slE 1 (iE .i64))) (prE (iE .i64) (prE (iE .i64) (prE (slE 3 (prE (slE 1 (iE .i64)) (prE (iE .i64) (iE .i64)))) (prE (arE 25 (cI .i64)) (prE (slE 2 (prE (iE .i64) (iE .i64))) (arE 15 (cI .i64))))))))) F1 v25 d ∧ SlR K.w0.heap.size 3 1 (iE .i64) F1 a27 n31 c28 out2 Lb29) _ (m0 (kc (ke kr)) ⟨_, _, rfl, Lst.start _, start, 0, [], v9, none, 0, 0, [], r16, rfl, rfl, (sc rfl (sc rfl (sc rfl (sc rfl (sc rfl (sc rfl (sc rfl (sc rfl (sc rfl (sn _)))))))))), hp10, SlR.nil _ _ _ _ _⟩) ?_
   rintro fu2 e1 _ _ ⟨tl, k, hn34, hk33, at_, minute, out2, v25, a27, n31, c28, Lb29, r35, rfl, rfl, he36, hp26, hz30⟩
   refine shW_env _ he36 ?_; clear he36
   refine wsr ?_
   refine ov (v_lssK rfl rfl) rfl ?_
   refine shO_nil (shW_seq ?_)
   refine shW_condP rfl (fun c38 => ?_) (fun c38 => ?_)
   · obtain ⟨x, tl2, rfl, hx40, g41, hk39⟩ := Lst.succ hk33 c38
     rw [round_gone_l2] at r35
     refine shW_skip (shW_seq ?_)
     refine shW_block ?_
     refine wsr ?_
     obtain ⟨b42, o43, c44, vs45, ha46, hs47, hle48, ⟨_, _, rfl, rfl, rfl⟩, hl49, hc50⟩ := RowR.at (prE_ok (iE_ok _) (iE_ok _)) h_round ((b1, .cells #[.slice walks_a walks.length walks_c, .slice hears_a hears.length hears_c, .int .i64 houses, .int .i64 start, .slice notices_a notices.length notices_c] 26 (0, 0)) :: (Lb29 ++ [])) g41.1 hx40
     refine ov (v_indexO Try.underlying30 Try.sizeOf56 rfl ha46 rfl g41) rfl ?_
     refine ov (v_loadA (cs := #[.int .i64 x.1, .int .i64 x.2]) Try.isAgg56 Try.sizeOf56 rfl hs47 hle48 (extract_cells hle48 hl49 hc50)) rfl ?_
     refine o_alloc rfl Try.zeroValue56 ?_; intro b51 hb51
     refine o_storeA (i := 0) Try.sizeOf56 rfl rfl rfl (by simp [Value.oneCell']) rfl (Nat.le_of_ble_eq_true rfl) ?_
     refine shO_L (L' := (b51, .cells #[.int .i64 x.1, .int .i64 x.2] 56 (0, 0)) :: ((b1, .cells #[.slice walks_a walks.length walks_c, .slice hears_a hears.length hears_c, .int .i64 houses, .int .i64 start, .slice notices_a notices.length notices_c] 26 (0, 0)) :: (Lb29 ++ []))) rfl ?_
     refine shO_nil (shW_seq ?_)
     obtain ⟨k2, h52, r53⟩ := b1_ok r35; clear r35
     refine shW_join (fun e1 F1 L1 => F5 = F1 ∧ L1 = ((b51, .cells #[.int .i64 x.1, .int .i64 x.2] 56 (0, 0)) :: ((b1, .cells #[.slice walks_a walks.length walks_c, .slice hears_a hears.length hears_c, .int .i64 houses, .int .i64 start, .slice notices_a notices.length notices_c] 26 (0, 0)) :: (Lb29 ++ []))) ∧ e1.sub [(2, .pointer (some ⟨b1, 0, none⟩)), (7, v25), (9, .int .i64 at_), (10, .int .i64 minute), (11, .slice a27 n31 c28), (12, .func (.func 49) #[.agg #[.slice walks_a walks.length walks_c, .slice hears_a hears.length hears_c, .int .i64 houses, .int .i64 start, .slice notices_a notices.length notices_c]] #[]), (14, .pointer (some ⟨b51, 0, none⟩)), (33, .slice round_a round.length round_c), (34, .int .i64 (round.length : Int)), (35, .int .i64 k), (50, .bool k2)]) ?_ ?_
     · clear r53
       refine shW_region (om rfl rfl ?_)
       refine ov (v_fieldAddr fa_56_0 rfl) rfl ?_
       refine ov (v_load Try.isAgg3 rfl (Has.own 0 rfl) rfl) rfl ?_
       obtain ⟨ok, h54, r55⟩ := b1_ok h52; clear h52
       refine o_callV rfl Try.call49 rfl rfl rfl (round_Beat_stand_w h_walks h_hears h_notices h54) ?_
       refine ov (v_notB rfl) rfl ?_
       refine om rfl rfl ?_
       rcases bool_two (!ok) with c56 | c56
       · have r57 := bt r55 c56; clear r55
         refine shO_off (b' := true) 44 rfl (EnvB rfl c56) rfl rfl (shO_off (b' := true) 44 rfl (EnvB rfl c56) rfl rfl (shO_off (b' := true) 44 rfl (EnvB rfl c56) rfl rfl (shO_off (b' := true) 44 rfl (EnvB rfl c56) rfl rfl (shO_off (b' := true) 44 rfl (EnvB rfl c56) rfl rfl ?_))))
         refine ov (v_pick_t (evB rfl c56) rfl) rfl ?_
         refine shO_nil ?_
         obtain rfl := inj1 r57
         exact mi kr ⟨rfl, rfl, (sc rfl (sc rfl (sc rfl (sc rfl (sc rfl (sc rfl (sc rfl (sc rfl (sc rfl (sc rfl (sc rfl (sn _))))))))))))⟩
       have r58 := bf r55 c56; clear r55
       refine shO_on (b := false) 44 rfl (EnvB rfl c56) ?_
       refine ov (v_loadA (cs := #[.slice walks_a walks.length walks_c, .slice hears_a hears.length hears_c, .int .i64 houses, .int .i64 start, .slice notices_a notices.length notices_c]) Try.isAgg26 Try.sizeOf26 rfl (Has.own 1 rfl) (Nat.le_of_ble_eq_true rfl) rfl) rfl ?_
       refine shO_on (b := false) 44 rfl (EnvB rfl c56) ?_
       refine ov (v_fieldAddr fa_56_1 rfl) rfl ?_
       refine shO_on (b := false) 44 rfl (EnvB rfl c56) ?_
       refine ov (v_load Try.isAgg3 rfl (Has.own 0 rfl) rfl) rfl ?_
       refine shO_on (b := false) 44 rfl (EnvB rfl c56) ?_
       obtain ⟨ok2, h59, r60⟩ := b1_ok r58; clear r58
       refine o_callV rfl Try.call43 rfl rfl rfl (round_Beat_notice_w h_walks h_hears h_notices h59) ?_
       refine shO_on (b := false) 44 rfl (EnvB rfl c56) ?_
       refine ov (v_notB rfl) rfl ?_
       refine ov (v_pick_f (evB rfl c56) rfl) rfl ?_
       refine shO_nil ?_
       obtain rfl := inj1 r60
       exact mi kr ⟨rfl, rfl, (sc rfl (sc rfl (sc rfl (sc rfl (sc rfl (sc rfl (sc rfl (sc rfl (sc rfl (sc rfl (sc rfl (sn _))))))))))))⟩
     rintro e1 _ _ ⟨rfl, rfl, he61⟩
     refine shW_env _ he61 ?_; clear he61
     refine shW_cond rfl (fun c62 => ?_) (fun c62 => ?_)
     · have r63 := bt r53 c62; clear r53
       refine wsr (oa rfl rfl (oa rfl rfl (oa rfl rfl (shO_nil ?_))))
       refine kW kn ?_
       refine shW_ret (andThen_ret (inBlock_ret (andThen_ret (andThen_ret (inBlock_ret (andThen_ret ?_))))))
       refine q_res3 Try.results50 (res_tmp rfl) (res_tmp rfl) (res_tmp rfl) (sr) ?_
       obtain ⟨rfl, rfl, rfl⟩ := inj3 r63
       exact ⟨_, _, _, _, [], rfl, rfl, rfl, SlR.nil _ _ _ _ _⟩
     have r64 := bf r53 c62; clear r53
     refine shW_skip ?_
     refine wsd (by kernel_rfl) (by kernel_rfl) (by kernel_rfl) ?_
     refine qm rfl rfl (qm rfl rfl ?_)
     refine qv (v_fieldAddr fa_56_0 rfl) rfl ?_
     refine qv (v_load Try.isAgg3 rfl (Has.own 0 rfl) rfl) rfl ?_
     obtain ⟨walks2, hears2, houses2, start2, notices2, walks3, pairs, hit, h65, r66⟩ := b8_ok r64; clear r64
     have h86 := hp26; rw [h65] at h86; obtain ⟨b67, c68, m69, hv70, hz71, ⟨_, _, rfl, ⟨a72, c73, rfl, h74⟩, ⟨_, _, rfl, ⟨a75, c76, rfl, h77⟩, ⟨_, _, rfl, rfl, ⟨_, _, rfl, rfl, ⟨_, _, rfl, ⟨a78, c79, rfl, h80⟩, ⟨_, _, rfl, ⟨rfl, h81⟩, ⟨_, _, rfl, ⟨a82, c83, rfl, h84⟩, ⟨rfl, h85⟩⟩⟩⟩⟩⟩⟩⟩⟩ := h86; subst hv70
     have hz71 : F5 b67 = some (.cells ((([.slice a72 walks2.length c73] : List Value) ++ (([.slice a75 hears2.length c76] : List Value) ++ (([.int .i64 houses2] : List Value) ++ (([.int .i64 start2] : List Value) ++ (([.slice a78 notices2.length c79] : List Value) ++ (walks3.flatMap (cI .i64) ++ (([.slice a82 pairs.length c83] : List Value) ++ (hit.flatMap (cI .i64))))))))).toArray) 101 m69) := hz71
     refine qv (v_nilCheck rfl) rfl ?_
     refine qv (v_fieldAddr fa_101_1 rfl) rfl ?_
     obtain ⟨g87, r88⟩ := gd_ok r66; clear r66
     refine qv (v_indexA Try.underlying97 Try.sizeOf95 rfl rfl g87) rfl ?_
     obtain ⟨g89, r90⟩ := gd_ok r88; clear r88
     obtain ⟨x2, g91, hx92, r93⟩ := ix_ok r90; clear r90
     have hq95 : (at_ * 5 + x.1 : Int).toNat = (at_ : Int).toNat * 5 + (x.1 : Int).toNat := by have := g87; have := g89; omega
     have hc94 := el_at2 (cI_ok .i64) h81 hq95 hx92 (li_arr (li_skip (A := ([.slice a72 walks2.length c73] : List Value)) (k := 1) (o := 4) rfl (li_skip (A := ([.slice a75 hears2.length c76] : List Value)) (k := 1) (o := 3) rfl (li_skip (A := ([.int .i64 houses2] : List Value)) (k := 1) (o := 2) rfl (li_skip (A := ([.int .i64 start2] : List Value)) (k := 1) (o := 1) rfl (li_skip (A := ([.slice a78 notices2.length c79] : List Value)) (k := 1) (o := 0) rfl (li_here (B := ([.slice a82 pairs.length c83] : List Value) ++ (hit.flatMap (cI .i64))) (lfl (cI_ok .i64) h81)))))))) (li_le (li_skip (A := ([.slice a72 walks2.length c73] : List Value)) (k := 1) (o := 4) rfl (li_skip (A := ([.slice a75 hears2.length c76] : List Value)) (k := 1) (o := 3) rfl (li_skip (A := ([.int .i64 houses2] : List Value)) (k := 1) (o := 2) rfl (li_skip (A := ([.int .i64 start2] : List Value)) (k := 1) (o := 1) rfl (li_skip (A := ([.slice a78 notices2.length c79] : List Value)) (k := 1) (o := 0) rfl (li_here (B := ([.slice a82 pairs.length c83] : List Value) ++ (hit.flatMap (cI .i64))) (lfl (cI_ok .i64) h81))))))))
     refine qv (v_indexA Try.underlying95 Try.sizeOf3 rfl rfl g89) rfl ?_
     refine qv (v_load Try.isAgg3 rfl (Has.frozen hz71) ((hc94).2.2 0 (by decide))) rfl ?_
     refine qa rfl rfl (shQ_nil (shW_seq (wsr (om rfl rfl ?_))))
     refine ov (v_eql rfl rfl) rfl ?_
     refine shO_nil ?_
     refine shW_condP rfl (fun c96 => ?_) (fun c96 => ?_)
     · have r97 := ite_t r93 c96; clear r93
       refine wsr (oa rfl rfl (oa rfl rfl (oa rfl rfl (shO_nil ?_))))
       refine kW kn ?_
       refine shW_ret (andThen_ret (inBlock_ret (andThen_ret (andThen_ret (inBlock_ret (andThen_ret ?_))))))
       refine q_res3 Try.results50 (res_tmp rfl) (res_tmp rfl) (res_tmp rfl) (sr) ?_
       obtain ⟨rfl, rfl, rfl⟩ := inj3 r97
       exact ⟨_, _, _, _, [], rfl, rfl, rfl, SlR.nil _ _ _ _ _⟩
     have r98 := ite_f r93 c96; clear r93
     refine shW_skip ?_
     refine wsd (by kernel_rfl) (by kernel_rfl) (by kernel_rfl) ?_
     refine qv (v_fieldAddr fa_56_0 rfl) rfl ?_
     refine qv (v_load Try.isAgg3 rfl (Has.own 0 rfl) rfl) rfl ?_
     refine qm rfl rfl (qm rfl rfl ?_)
     obtain ⟨g99, r100⟩ := gd_ok r98; clear r98
     refine qv (v_add rfl rfl g99) rfl ?_
     refine qv (v_fieldAddr fa_26_4 rfl) rfl ?_
     refine qv (v_load Try.isAgg24 rfl (Has.own 1 rfl) rfl) rfl ?_
     refine qv (v_fieldAddr fa_56_1 rfl) rfl ?_
     refine qv (v_load Try.isAgg3 rfl (Has.own 0 rfl) rfl) rfl ?_
     obtain ⟨x3, g101, hx102, r103⟩ := ix_ok r100; clear r100
     obtain ⟨b104, o105, c106, vs107, ha108, hs109, hle110, ⟨_, _, rfl, ⟨a113, c114, rfl, h115⟩, ⟨_, _, rfl, rfl, rfl⟩⟩, hl111, hc112⟩ := RowR.at (prE_ok (slE_ok (iE_ok _)) (prE_ok (iE_ok _) (iE_ok _))) h_notices ((b51, .cells #[.int .i64 x.1, .int .i64 x.2] 56 (0, 0)) :: ((b1, .cells #[.slice walks_a walks.length walks_c, .slice hears_a hears.length hears_c, .int .i64 houses, .int .i64 start, .slice notices_a notices.length notices_c] 26 (0, 0)) :: (Lb29 ++ []))) g101.1 hx102
     refine qv (v_indexO Try.underlying24 Try.sizeOf40 rfl ha108 rfl g101) rfl ?_
     refine qv (v_fieldAddr fa_40_1 rfl) rfl ?_
     refine qv (v_load Try.isAgg3 rfl hs109 (hc112 1 (by decide))) rfl ?_
     obtain ⟨g116, r117⟩ := gd_ok r103; clear r103
     refine qv (v_add rfl rfl g116) rfl ?_
     refine qa rfl rfl (qa rfl rfl (shQ_nil (shW_region (om rfl rfl (om rfl rfl ?_)))))
     refine o_buildSlice (cs := #[.int .i64 ((minute + x2) + x3.2.1)]) rfl rfl (buildSlice_all slt_38 [.int .i64 ((minute + x2) + x3.2.1)] rfl (by decide) (by simp [Value.cells]) (by decide)) ?_; intro b118 hb118
     obtain ⟨out3, h119, g120, r121⟩ := ap_ok r117; clear r117
     refine o_appZ (xs := out2) (ys := [(minute + x2) + x3.2.1]) (zs := out3) rfl slt_38 rfl rfl (Nat.le_refl _) (fun _ => .c (.c (.c .h))) hz30 (SrcR.box (vss := [[.int .i64 ((minute + x2) + x3.2.1)]]) (ys := [(minute + x2) + x3.2.1]) 0 rfl (iE_ok _) (.cons rfl .nil) rfl rfl) h119 g120 (by decide) ?_; intro a122 n126 c123 Lb124 hz125
     refine kO (kd kr) ?_
     refine oa rfl rfl (shO_nil (inBlock_n (id := 2) (shW_region ?_)))
     refine ov (v_add rfl rfl (Lst.r64 hk33 c38 (RowR.lt h_round))) rfl ?_
     refine om rfl rfl (shO_nil ?_)
     subst hn34; exact le (kd kr) ⟨_, _, rfl, hk39, x.1, (minute + x2) + x3.2.1, out3, .pointer (some ⟨b67, 0, none⟩), a122, n126, c123, Lb124, r121, rfl, rfl, (sc rfl (sc rfl (sc rfl (sc rfl (sc rfl (sc rfl (sc rfl (sc rfl (sc rfl (sn _)))))))))), hp26, hz125⟩
   obtain rfl := Lst.zero hk33 c38
   rw [round_gone_l2] at r35
   refine shW_exit (andThen_exit (andThen_exit ?_))
   refine inBlock_exit ?_
   exact mi (kd kr) ⟨out2, v25, a27, n31, c28, Lb29, r35, rfl, rfl, (sc rfl (sc rfl (sn _))), hp26, hz30⟩
 rintro e1 _ _ ⟨out, v17, a19, n23, c20, Lb21, r128, rfl, rfl, he129, hp18, hz22⟩
 refine shW_env _ he129 ?_; clear he129
 rw [round_gone_j1] at r128
 refine wsr (om rfl rfl (om rfl rfl (oa rfl rfl (oa rfl rfl (oa rfl rfl (shO_nil (shW_ret ?_)))))))
 refine q_res3 Try.results50 (res_tmp rfl) (res_tmp rfl) (res_tmp rfl) (sr) ?_
 obtain ⟨rfl, rfl, rfl⟩ := inj3 r128
 exact ⟨_, _, _, _, _, rfl, rfl, hp18, hz22.any⟩
set_option maxHeartbeats 1000000 in
theorem math_bits_Mul64_w {x y : Int} {F : FS} {r r2 : Int} (hr : math_bits_Mul64 x y = some (r, r2)) :
    SpecV Try.prog 82 #[.int .u64 x, .int .u64 y] F (.tuple #[.int .u64 r, .int .u64 r2]) := by
 refine spec_of_shW (args := [.int .u64 x, .int .u64 y]) Try.func82 rfl Try.ntmps82 (Nat.le_of_ble_eq_true rfl) ?_
 intro K _ _; rw [math_bits_Mul64] at hr
 refine wsr (oa rfl rfl (oa rfl rfl (nsr (om rfl rfl ?_))))
 refine ov (u_and rfl rfl rfl) rfl ?_
 refine oa rfl rfl (nsr (om rfl rfl ?_))
 refine ov (v_shr rfl rfl (by decide)) rfl ?_
 refine oa rfl rfl (nsr (om rfl rfl ?_))
 refine ov (u_and rfl rfl rfl) rfl ?_
 refine oa rfl rfl (nsr (om rfl rfl ?_))
 refine ov (v_shr rfl rfl (by decide)) rfl ?_
 refine oa rfl rfl (nsr (om rfl rfl (om rfl rfl ?_)))
 refine ov (u_mul rfl rfl rfl) rfl ?_
 obtain ⟨w0, h1, r3⟩ := bv_ok hr; clear hr
 refine ov ((v_assign rfl).i h1) rfl ?_
 refine nsr (om rfl rfl (om rfl rfl ?_))
 refine ov (u_mul rfl rfl rfl) rfl ?_
 refine om rfl rfl ?_
 refine ov (v_shr rfl rfl (by decide)) rfl ?_
 refine ov (u_add rfl rfl rfl) rfl ?_
 obtain ⟨t, h4, r5⟩ := bv_ok r3; clear r3
 refine ov ((v_assign rfl).i h4) rfl ?_
 refine nsr (om rfl rfl ?_)
 refine ov (u_and rfl rfl rfl) rfl ?_
 refine oa rfl rfl (nsr (om rfl rfl ?_))
 refine ov (v_shr rfl rfl (by decide)) rfl ?_
 refine oa rfl rfl (nsr (om rfl rfl (om rfl rfl (om rfl rfl ?_))))
 refine ov (u_mul rfl rfl rfl) rfl ?_
 refine ov (u_add rfl rfl rfl) rfl ?_
 obtain ⟨w1, h6, r7⟩ := bv_ok r5; clear r5
 refine ov ((v_assign rfl).i h6) rfl ?_
 refine nsr (om rfl rfl (om rfl rfl ?_))
 refine ov (u_mul rfl rfl rfl) rfl ?_
 refine om rfl rfl ?_
 refine ov (u_add rfl rfl rfl) rfl ?_
 refine om rfl rfl ?_
 refine ov (v_shr rfl rfl (by decide)) rfl ?_
 refine ov (u_add rfl rfl rfl) rfl ?_
 obtain ⟨hi, h8, r9⟩ := bv_ok r7; clear r7
 refine ov ((v_assign rfl).i h8) rfl ?_
 refine nsr (om rfl rfl (om rfl rfl ?_))
 refine ov (u_mul rfl rfl rfl) rfl ?_
 obtain ⟨lo, h10, r11⟩ := bv_ok r9; clear r9
 refine ov ((v_assign rfl).i h10) rfl ?_
 refine shO_nil (shW_ret ?_)
 refine q_res2 Try.results82 (res_tmp rfl) (res_tmp rfl) (sr) ?_
 obtain ⟨rfl, rfl⟩ := inj2 r11
 exact rfl
set_option maxHeartbeats 1000000 in
theorem math_bits_Mul_w {x y : Int} {F : FS} {r r2 : Int} (hr : math_bits_Mul x y = some (r, r2)) :
    SpecV Try.prog 74 #[.int .u64 x, .int .u64 y] F (.tuple #[.int .u64 r, .int .u64 r2]) := by
 refine spec_of_shW (args := [.int .u64 x, .int .u64 y]) Try.func74 rfl Try.ntmps74 (Nat.le_of_ble_eq_true rfl) ?_
 intro K _ _; rw [math_bits_Mul] at hr
 refine wsr (oa rfl rfl (oa rfl rfl (shO_nil (shW_seq ?_))))
 refine shW_cond rfl (fun c1 => nomatch c1) (fun c1 => ?_)
 refine shW_skip (wsr (om rfl rfl (om rfl rfl ?_)))
 obtain ⟨n, n2, h2, r3⟩ := b2_ok hr; clear hr
 refine o_callV rfl Try.call82 rfl rfl rfl (math_bits_Mul64_w h2) ?_
 refine om rfl rfl (ox rfl rfl rfl (ox rfl rfl rfl (oa rfl rfl (oa rfl rfl (nsr (om rfl rfl (om rfl rfl (oa rfl rfl (oa rfl rfl ?_)))))))))
 refine shO_nil (shW_ret ?_)
 refine q_res2 Try.results74 (res_tmp rfl) (res_tmp rfl) (sr) ?_
 obtain ⟨rfl, rfl⟩ := inj2 r3
 exact rfl
set_option maxHeartbeats 1000000 in
theorem slices_Repeat_int_int_w {x_a : Option Addr} {x_c : Nat} {x : List Int} {count : Int} {F : FS} (h_x : RowR 1 (iE .i64) F x_a x_c x) {r : List Int} (hr : slices_Repeat_int_int x count = some r) :
    SH.Spec Try.prog 52 #[.slice x_a x.length x_c, .int .i64 count] F [] fun F' L' v => ∃ (ra : Option Addr) (rn : Nat) (rc : Nat) (rL : LH), v = .slice ra rn rc ∧ L' = rL ++ [] ∧ SlR 0 3 1 (iE .i64) F' ra rn rc r rL := by
 refine spec_of_shW (args := [.slice x_a x.length x_c, .int .i64 count]) Try.func52 rfl Try.ntmps52 (Nat.le_of_ble_eq_true rfl) ?_
 intro K _ _; rw [slices_Repeat_int_int] at hr
 refine wsr (oa rfl rfl (shO_nil (shW_seq (wsr (om rfl rfl ?_)))))
 refine ov (v_lssK rfl rfl) rfl ?_
 refine shO_nil ?_
 obtain ⟨g2, r3⟩ := gd_ok hr; clear hr
 refine shW_condP rfl (fun c1 => absurd c1 g2) (fun c1 => ?_)
 refine shW_skip (wsr (om rfl rfl ?_))
 refine ov (v_lenS Try.underlying38 rfl) rfl ?_
 refine ov (u_conv rfl Try.underlying3 Try.underlying131 rfl) rfl ?_
 refine om rfl rfl ?_
 refine ov (u_conv rfl Try.underlying3 Try.underlying131 rfl) rfl ?_
 obtain ⟨n, n2, h4, r5⟩ := b2_ok r3; clear r3
 refine o_callV rfl Try.call74 rfl rfl rfl (math_bits_Mul_w h4) ?_
 refine om rfl rfl (ox rfl rfl rfl (ox rfl rfl rfl (oa rfl rfl (oa rfl rfl (shO_nil (shW_seq ?_))))))
 obtain ⟨k, h6, r7⟩ := b1_ok r5; clear r5
 refine shW_join (fun e1 F1 L1 => F = F1 ∧ L1 = [] ∧ e1.sub [(0, .slice x_a x.length x_c), (6, .int .u64 n2), (26, .bool k)]) ?_ ?_
 · clear r7
   refine shW_region (om rfl rfl ?_)
   refine ov (v_gtrK rfl rfl) rfl ?_
   refine om rfl rfl ?_
   by_cases c8 : 0 < n
   · have r9 := ite_t h6 c8; clear h6
     refine shO_off (b' := true) 23 rfl (Env.isT rfl c8) rfl rfl (shO_off (b' := true) 23 rfl (Env.isT rfl c8) rfl rfl ?_)
     refine ov (v_pick_t (evD_true rfl c8) rfl) rfl ?_
     refine shO_nil ?_
     obtain rfl := inj1 r9
     exact mi kr ⟨rfl, rfl, (sc rfl (sc rfl (sc rfl (sn _))))⟩
   have r10 := ite_f h6 c8; clear h6
   refine shO_on (b := false) 23 rfl (Env.isF rfl c8) (om rfl rfl (shO_on (b := false) 23 rfl (Env.isF rfl c8) ?_))
   refine ov (v_gtrK rfl rfl) rfl ?_
   refine ov (v_pick_f (evD_false rfl c8) rfl) rfl ?_
   refine shO_nil ?_
   obtain rfl := inj1 r10
   exact mi kr ⟨rfl, rfl, (sc rfl (sc rfl (sc rfl (sn _))))⟩
 rintro e1 _ _ ⟨rfl, rfl, he11⟩
 refine shW_env _ he11 ?_; clear he11
 obtain ⟨g13, r14⟩ := gd_ok r7; clear r7
 refine shW_cond rfl (fun c12 => absurd (g13.symm.trans c12) (by decide)) (fun c12 => ?_)
 refine shW_skip (wsr (om rfl rfl ?_))
 obtain ⟨g15, r16⟩ := gd_ok r14; clear r14
 refine ov (i_conv Try.underlying131 Try.underlying3 rfl g15) rfl ?_
 obtain ⟨g17, r18⟩ := gd_ok r16; clear r16
 obtain ⟨l, h19, r20⟩ := bv_ok r18; clear r18
 refine o_makeZ (R := (iE .i64)) (z0 := 0) (zs := l) rfl slt_38 (by decide) (iE_ok _) (fun _ => rfl) rfl g17 h19 (fun _ => .n) ?_; intro a21 n24 Lb22 hz23
 refine oa rfl rfl (nsr (om rfl rfl (om rfl rfl ?_)))
 obtain ⟨newslice, h26, r27⟩ := bv_ok r20; clear r20
 refine o_copyZ (ys := x) (zs := newslice) rfl slt_38 (iE_ok _) rfl rfl (fun _ => .h) hz23 (RowR.src h_x) h26 ?_; intro Lb28 hz29
 obtain ⟨n3, h30, r31⟩ := bv_ok r27; clear r27
 refine ov ((v_assign rfl).i h30) rfl ?_
 refine shO_nil ?_
 obtain ⟨newslice2, h34, r35⟩ := b1_ok r31; clear r31
 refine shW_join (fun e1 F1 L1 => ∃ (Lb32 : LH), F = F1 ∧ L1 = (Lb32 ++ []) ∧ e1.sub [(7, .slice a21 n24 n24)] ∧ SlR K.w0.heap.size 3 1 (iE .i64) F1 a21 n24 n24 newslice2 Lb32) ?_ ?_
 · clear r35
   refine shW_block ?_
   refine shW_lp (fun fu1 e1 F1 L1 => ∃ (newslice3 : List Int) (n4 : Int) (Lb36 : LH), slices_Repeat_int_int_l1 fu1 newslice3 n4 = some newslice2 ∧ F = F1 ∧ L1 = (Lb36 ++ []) ∧ e1.sub [(7, .slice a21 n24 n24), (8, .int .i64 n4)] ∧ SlR K.w0.heap.size 3 1 (iE .i64) F1 a21 n24 n24 newslice3 Lb36) FU (m0 kr ⟨newslice, n3, Lb28, h34, rfl, rfl, (sc rfl (sc rfl (sn _))), hz29⟩) ?_
   rintro fu1 e1 _ _ ⟨newslice3, n4, Lb36, r40, rfl, rfl, he41, hz37⟩
   refine shW_env _ he41 ?_; clear he41
   rcases fu1 with _ | fu1
   · rw [slices_Repeat_int_int_l1] at r40; cases r40
   rw [slices_Repeat_int_int_l1] at r40
   refine shW_seq (wsr (om rfl rfl (om rfl rfl ?_)))
   refine ov ((v_lenS Try.underlying38 rfl).i (SlR.lenI hz37)) rfl ?_
   refine ov (v_lssK rfl rfl) rfl ?_
   refine shO_nil ?_
   refine shW_condP rfl (fun c42 => ?_) (fun c42 => ?_)
   · have r43 := ite_t r40 c42; clear r40
     refine shW_skip ?_
     refine shW_block ?_
     refine shW_drawM [(.still, 0), (.still, 1), (.still, 2), (.still, 3), (.still, 4), (.still, 5), (.still, 6), (.seq, 7), (.still, 8), (.seq, 9)] (by kernel_rfl) (by kernel_rfl) (trivial) (by rfl) (by kernel_rfl) ?_
     refine shM_v (v := .int .i64 n4) (ek := [(8, .int .i64 n4)]) (Ls := []) rfl rfl rfl rfl ((sc rfl (sn _))) (by kernel_rfl) sm (fun H F' L' hF' hL' => v_move rfl) ?_
     refine shM_v (v := .slice a21 n24 n24) (ek := [(7, .slice a21 n24 n24)]) (Ls := []) rfl rfl rfl rfl ((sc rfl (sn _))) (by kernel_rfl) sm (fun H F' L' hF' hL' => v_move rfl) ?_
     refine shM_v (v := .int .i64 n4) (ek := [(8, .int .i64 n4)]) (Ls := []) rfl rfl rfl rfl ((sc rfl (sn _))) (by kernel_rfl) sm (fun H F' L' hF' hL' => v_move rfl) ?_
     obtain ⟨g44, r45⟩ := gd_ok r43; clear r43
     have gv46 := SlR.gV hz37 g44
     refine shM_v (v := .slice (vwA a21 n24 (Int.toNat n4) 1) (n24 - Int.toNat n4) (n24 - Int.toNat n4)) (ek := [(39, .slice a21 n24 n24), (40, .int .i64 n4)]) (Ls := []) rfl rfl rfl rfl ((sc rfl (sc rfl (sn _)))) (by kernel_rfl) sm (fun H F' L' hF' hL' => OpV.eq (v' := .slice (vwA a21 n24 (Int.toNat n4) 1) (n24 - Int.toNat n4) (n24 - Int.toNat n4)) (v_slice (l := n4) (h := (n24 : Nat)) Try.underlying38 Try.sizeOf3 rfl (.inr ⟨_, rfl, rfl⟩) (.inl ⟨rfl, rfl⟩) (SlR.capV hz37 gv46)) rfl) ?_
     refine shM_v (v := .slice a21 n24 n24) (ek := [(7, .slice a21 n24 n24)]) (Ls := []) rfl rfl rfl rfl ((sc rfl (sn _))) (by kernel_rfl) sm (fun H F' L' hF' hL' => v_move rfl) ?_
     refine shM_v (v := .int .i64 n4) (ek := [(8, .int .i64 n4)]) (Ls := []) rfl rfl rfl rfl ((sc rfl (sn _))) (by kernel_rfl) sm (fun H F' L' hF' hL' => v_move rfl) ?_
     obtain ⟨g47, r48⟩ := gd_ok r45; clear r45
     refine shM_v (v := .slice a21 (Int.toNat n4) n24) (ek := [(42, .slice a21 n24 n24), (43, .int .i64 n4)]) (Ls := []) rfl rfl rfl rfl ((sc rfl (sc rfl (sn _)))) (by kernel_rfl) sm (fun H F' L' hF' hL' => v_slicePre Try.underlying38 Try.sizeOf3 rfl rfl hz37 g47) ?_
     refine ⟨_, [(41, .slice (vwA a21 n24 (Int.toNat n4) 1) (n24 - Int.toNat n4) (n24 - Int.toNat n4)), (44, .slice a21 (Int.toNat n4) n24)], rfl, rfl, (sc rfl (sc rfl (sn _))), by kernel_rfl, ?_⟩; intro H
     obtain ⟨g49, r50⟩ := gd_ok r48; clear r48
     obtain ⟨l2, h51, r52⟩ := bv_ok r50; clear r50
     refine o_copyVP (l := n4) (zs := l2) rfl slt_38 (iE_ok _) rfl rfl (fun _ => .h) hz37 g49 h51 ?_; intro Lb53 hz54
     refine shO_nil ⟨_, rfl, FExt.refl _, [0], by kernel_rfl, .inl (.inr (fun d h => by cases h; rfl)), (List.forall_mem_cons.2 ⟨sm, (fun _ h => absurd h List.not_mem_nil)⟩), ?_⟩
     obtain ⟨g55, r56⟩ := gd_ok r52; clear r52
     refine shM_v (v := .int .i64 (n4 + (((Nat.min (Int.toNat n4) (newslice3.length - (Int.toNat n4))) : Nat) : Int))) (ek := [(38, .int .i64 n4), (45, .int .i64 (((Nat.min (Int.toNat n4) (newslice3.length - (Int.toNat n4))) : Nat) : Int))]) (Ls := []) rfl rfl rfl rfl ((sc rfl (sc rfl (sn _)))) (by kernel_rfl) sm (fun H F' L' hF' hL' => v_add rfl rfl g55) ?_
     refine ⟨_, [(46, .int .i64 (n4 + (((Nat.min (Int.toNat n4) (newslice3.length - (Int.toNat n4))) : Nat) : Int)))], rfl, rfl, (sc rfl (sn _)), by kernel_rfl, ?_⟩; intro H
     obtain ⟨n5, h57, r58⟩ := bv_ok r56; clear r56
     refine ov ((v_assign rfl).i h57) rfl ?_
     refine shO_nil ⟨_, rfl, FExt.refl _, [], by kernel_rfl, .inl (.inl rfl), (fun _ h => absurd h List.not_mem_nil), ?_⟩
     refine shM_nil ?_
     refine inBlock_n (id := 1) ?_
     exact le kr ⟨l2, n5, Lb53, r58, rfl, rfl, (sc rfl (sc rfl (sn _))), hz54⟩
   have r59 := ite_f r40 c42; clear r40
   refine shW_exit (andThen_exit (andThen_exit ?_))
   refine inBlock_exit ?_
   obtain rfl := inj1 r59
   exact mi kr ⟨Lb36, rfl, rfl, (sc rfl (sn _)), hz37⟩
 rintro e1 _ _ ⟨Lb32, rfl, rfl, he60, hz33⟩
 refine shW_env _ he60 ?_; clear he60
 refine wsr (om rfl rfl (oa rfl rfl (shO_nil (shW_ret ?_))))
 refine q_res1 Try.results52 (res_tmp rfl) (sr) ?_
 obtain rfl := inj1 r35
 exact ⟨_, _, _, _, rfl, rfl, hz33.any⟩
set_option maxHeartbeats 1000000 in
theorem round_Heard_w {walks_a : Option Addr} {walks_c : Nat} {walks : List (List Int)} {hears_a : Option Addr} {hears_c : Nat} {hears : List (List Int)} {houses start : Int} {notices_a : Option Addr} {notices_c : Nat} {notices : List ((List Int) × Int × Int)} {round_a : Option Addr} {round_c : Nat} {round : List (Int × Int)} {F : FS} (h_walks : RowR 1 (slE 1 (iE .i64)) F walks_a walks_c walks) (h_hears : RowR 1 (slE 1 (iE .i64)) F hears_a hears_c hears) (h_notices : RowR 3 (prE (slE 1 (iE .i64)) (prE (iE .i64) (iE .i64))) F notices_a notices_c notices) (h_round : RowR 2 (prE (iE .i64) (iE .i64)) F round_a round_c round) {r : List (List Int)} {r2 : Int} (hr : round_Heard walks hears houses start notices round = some (r, r2)) :
    SH.Spec Try.prog 22 #[.agg #[.slice walks_a walks.length walks_c, .slice hears_a hears.length hears_c, .int .i64 houses, .int .i64 start, .slice notices_a notices.length notices_c], .slice round_a round.length round_c] F [] fun F' L' v => ∃ (ra : Option Addr) (rc : Nat), v = .tuple #[.slice ra r.length rc, .int .i64 r2] ∧ L' = [] ∧ RowR 1 (slE 1 (iE .i64)) F' ra rc r := by
 refine spec_of_shW (args := [.agg #[.slice walks_a walks.length walks_c, .slice hears_a hears.length hears_c, .int .i64 houses, .int .i64 start, .slice notices_a notices.length notices_c], .slice round_a round.length round_c]) Try.func22 rfl Try.ntmps22 (Nat.le_of_ble_eq_true rfl) ?_
 intro K _ _; rw [round_Heard] at hr
 refine wsr ?_
 refine o_box rfl rfl ?_; intro b1 hb1
 refine oa rfl rfl (oa rfl rfl (nsr ?_))
 refine ov (v_loadA (cs := #[.slice walks_a walks.length walks_c, .slice hears_a hears.length hears_c, .int .i64 houses, .int .i64 start, .slice notices_a notices.length notices_c]) Try.isAgg26 Try.sizeOf26 rfl (Has.own 0 rfl) (Nat.le_of_ble_eq_true rfl) rfl) rfl ?_
 refine om rfl rfl ?_
 obtain ⟨d, l, n, h2, r3⟩ := b3_ok hr; clear hr
 refine o_call0 rfl Try.call50 rfl rfl rfl (round_gone_w h_walks h_hears h_notices h_round h2) ?_; rintro _ F4 _ hF5 hn6 ⟨v8, a10, n14, c11, Lb12, rfl, rfl, hp9, hz13⟩
 replace h_hears := h_hears.mono (slE_ok (iE_ok _)) hF5
 replace h_notices := h_notices.mono (prE_ok (slE_ok (iE_ok _)) (prE_ok (iE_ok _) (iE_ok _))) hF5
 replace h_round := h_round.mono (prE_ok (iE_ok _) (iE_ok _)) hF5
 replace hz13 := hz13.new fun p hp => hn6 p (by simp [hp])
 refine shO_L (lp (ln rfl)) ?_
 refine kO (kf (fS fO) kr) ?_
 refine om rfl rfl (ox rfl rfl rfl (ox rfl rfl rfl (ox rfl rfl rfl (oa rfl rfl (oa rfl rfl (oa rfl rfl (shO_nil (shW_seq (wsr ?_)))))))))
 refine om rfl rfl ?_
 refine ov (v_neq rfl rfl) rfl ?_
 refine shO_nil ?_
 refine shW_condP rfl (fun c16 => ?_) (fun c16 => ?_)
 · have r17 := ite_t r3 c16; clear r3
   refine wsr (om rfl rfl (oa rfl rfl (oa rfl rfl (shO_nil ?_))))
   refine kW kn ?_
   refine shW_ret (andThen_ret ?_)
   refine q_res2 Try.results22 (res_tmp rfl) (res_tmp rfl) (sr) ?_
   obtain ⟨rfl, rfl⟩ := inj2 r17
   exact ⟨_, _, rfl, rfl, RowR.nil _ _ _⟩
 have r18 := ite_f r3 c16; clear r3
 refine shW_skip (wsr (oa rfl rfl (shO_nil ?_)))
 obtain ⟨out, h25, r26⟩ := b1_ok r18; clear r18
 refine shW_join (fun e1 F1 L1 => ∃ (a19 : Option Addr) (n23 : Nat) (c20 : Nat) (Lb21 : LH), FExt F4 F1 ∧ L1 = ((b1, .cells #[.slice walks_a walks.length walks_c, .slice hears_a hears.length hears_c, .int .i64 houses, .int .i64 start, .slice notices_a notices.length notices_c] 26 (0, 0)) :: (Lb12 ++ (Lb21 ++ []))) ∧ e1.sub [(1, .slice round_a round.length round_c), (2, .pointer (some ⟨b1, 0, none⟩)), (7, .slice a10 n14 c11), (9, .slice a19 n23 c20)] ∧ NlR K.w0.heap.size 38 3 1 (iE .i64) F1 a19 n23 c20 out Lb21) ?_ ?_
 · clear r26
   refine wsr ?_
   refine ov (v_fieldAddr fa_26_4 rfl) rfl ?_
   refine ov (v_load Try.isAgg24 rfl (Has.own 0 rfl) rfl) rfl ?_
   refine ov (v_lenS Try.underlying24 rfl) rfl ?_
   refine om rfl rfl (shO_nil ?_)
   refine shW_block ?_
   refine shW_lp (fun fu1 e1 F1 L1 => ∃ (tl : List ((List Int) × Int × Int)) (k : Int), tl.length = fu1 ∧ Lst notices k tl ∧ ∃ (out2 : List (List Int)) (a27 : Option Addr) (n31 : Nat) (c28 : Nat) (Lb29 : LH), round_Heard_l1 houses tl out2 = some out ∧ FExt F4 F1 ∧ L1 = ((b1, .cells #[.slice walks_a walks.length walks_c, .slice hears_a hears.length hears_c, .int .i64 houses, .int .i64 start, .slice notices_a notices.length notices_c] 26 (0, 0)) :: (Lb12 ++ (Lb29 ++ []))) ∧ e1.sub [(1, .slice round_a round.length round_c), (2, .pointer (some ⟨b1, 0, none⟩)), (7, .slice a10 n14 c11), (9, .slice a27 n31 c28), (26, .int .i64 (notices.length : Int)), (27, .int .i64 k)] ∧ NlR K.w0.heap.size 38 3 1 (iE .i64) F1 a27 n31 c28 out2 Lb29) _ (m0 (kc (ka (ke kr))) ⟨_, _, rfl, Lst.start _, [], none, 0, 0, [], h25, FExt.refl _, rfl, (sc rfl (sc rfl (sc rfl (sc rfl (sc rfl (sc rfl (sn _))))))), NlR.nil _ _ _ _ _ _⟩) ?_
   rintro fu1 e1 F37 _ ⟨tl, k, hn34, hk33, out2, a27, n31, c28, Lb29, r35, hF38, rfl, he36, hz30⟩
   refine shW_env _ he36 ?_; clear he36
   replace h_notices := h_notices.mono (prE_ok (slE_ok (iE_ok _)) (prE_ok (iE_ok _) (iE_ok _))) hF38
   refine wsr ?_
   refine ov (v_lssK rfl rfl) rfl ?_
   refine shO_nil (shW_seq ?_)
   refine shW_condP rfl (fun c40 => ?_) (fun c40 => ?_)
   · obtain ⟨x, tl2, rfl, hx42, g43, hk41⟩ := Lst.succ hk33 c40
     rw [round_Heard_l1] at r35
     refine shW_skip (shW_seq ?_)
     refine shW_block ?_
     refine shW_region (om rfl rfl ?_)
     refine o_buildSlice (cs := #[.int .i64 (-1)]) rfl rfl (buildSlice_all slt_38 [.int .i64 (-1)] rfl (by decide) (by simp [Value.cells]) (by decide)) ?_; intro b44 hb44
     refine ov (v_fieldAddr fa_26_2 rfl) rfl ?_
     refine ov (v_load Try.isAgg3 rfl (Has.own 1 rfl) rfl) rfl ?_
     refine shO_freeze 0 rfl hb44 ?_; intro F45 hF46 hz47
     refine shO_L (L' := (b1, .cells #[.slice walks_a walks.length walks_c, .slice hears_a hears.length hears_c, .int .i64 houses, .int .i64 start, .slice notices_a notices.length notices_c] 26 (0, 0)) :: (Lb12 ++ (Lb29 ++ []))) rfl ?_
     replace h_notices := h_notices.mono (prE_ok (slE_ok (iE_ok _)) (prE_ok (iE_ok _) (iE_ok _))) hF46
     replace hz30 := hz30.mono (iE_ok _) hF46
     have h48 : RowR 1 (iE .i64) F45 (some ⟨b44, 0, none⟩) 1 [-1] := RowR.of_block (iE_ok _) (vss := [[.int .i64 (-1)]]) (xs := [-1]) hz47 (.cons rfl .nil) rfl (by simp [maxLen])
     obtain ⟨l2, h49, r50⟩ := b1_ok r35; clear r35
     refine o_call0 rfl Try.call52 rfl rfl rfl (slices_Repeat_int_int_w h48 h49) ?_; rintro _ F51 _ hF52 hn53 ⟨a55, n59, c56, Lb57, rfl, rfl, hz58⟩
     replace h_notices := h_notices.mono (prE_ok (slE_ok (iE_ok _)) (prE_ok (iE_ok _) (iE_ok _))) hF52
     replace hz30 := hz30.mono (iE_ok _) hF52
     replace hz58 := hz58.new fun p hp => hn53 p (by simp [hp])
     refine shO_L (lp (ln rfl)) ?_
     refine kO (kf (fS fO) kr) ?_
     refine o_buildSlice (cs := #[.slice a55 n59 c56]) rfl rfl (buildSlice_all slt_23 [.slice a55 n59 c56] rfl (by decide) (by simp [Value.cells]) (by decide)) ?_; intro b61 hb61
     obtain ⟨out3, h62, g63, r64⟩ := ap_ok r50; clear r50
     refine shO_split (fC (fC (fS (fS fP)))) hz30 ?_; intro hs67 Lo68 Lc69 hO65 hI66
     refine kO (kf (fS (fS fO)) (kf (fS (fS fO)) kr)) ?_
     refine o_appZ (xs := hs67) (ys := [(a55, n59, c56)]) (zs := hs67 ++ [(a55, n59, c56)]) rfl slt_23 rfl rfl (Nat.le_refl _) (fun _ => .c (.c .h)) hO65 (SrcR.box (vss := [[.slice a55 n59 c56]]) (ys := [(a55, n59, c56)]) 0 rfl hdE_ok (.cons rfl .nil) rfl rfl) rfl (lenH hI66 h62 g63) (by decide) ?_; intro a70 n71 c72 Lo73 hO74
     refine kO (kd kr) ?_
     refine shO_fold (p := fun X => NlR K.w0.heap.size 38 3 1 (iE .i64) F51 a70 n71 c72 out3 X) (InP.push hI66 rfl hO74 hz58 h62) (pT ((fC fP).trans (pA ((fC (fS fP)).trans (pA ((fC fP).trans (pA pR)))))) (lp (lp (lp (ln rfl))))) ?_; intro Lb76 hz77
     refine kO (kf (fS fO) kr) ?_
     refine oa rfl rfl (shO_nil (inBlock_n (id := 1) (shW_region ?_)))
     refine ov (v_add rfl rfl (Lst.r64 hk33 c40 (RowR.lt h_notices))) rfl ?_
     refine om rfl rfl (shO_nil ?_)
     subst hn34; exact le (kc (kg (fS fP) kr)) ⟨_, _, rfl, hk41, out3, a70, n71, c72, Lb76, r64, ((hF38.trans hF46).trans hF52), rfl, (sc rfl (sc rfl (sc rfl (sc rfl (sc rfl (sc rfl (sn _))))))), hz77⟩
   obtain rfl := Lst.zero hk33 c40
   rw [round_Heard_l1] at r35
   refine shW_exit (andThen_exit (andThen_exit ?_))
   refine inBlock_exit ?_
   obtain rfl := inj1 r35
   exact mi kr ⟨a27, n31, c28, Lb29, hF38, rfl, (sc rfl (sc rfl (sc rfl (sc rfl (sn _))))), hz30⟩
 rintro e1 F79 _ ⟨a19, n23, c20, Lb21, hF80, rfl, he78, hz22⟩
 refine shW_env _ he78 ?_; clear he78
 replace h_hears := h_hears.mono (slE_ok (iE_ok _)) hF80
 replace h_round := h_round.mono (prE_ok (iE_ok _) (iE_ok _)) hF80
 replace hz13 := hz13.mono (iE_ok _) hF80
 obtain ⟨out4, h83, r84⟩ := b1_ok r26; clear r26
 refine shW_join (fun e1 F1 L1 => ∃ (Lb81 : LH), FExt F79 F1 ∧ L1 = (Lb81 ++ []) ∧ e1.sub [(9, .slice a19 n23 c20)] ∧ NlR K.w0.heap.size 38 3 1 (iE .i64) F1 a19 n23 c20 out4 Lb81) ?_ ?_
 · clear r84
   refine wsr (om rfl rfl ?_)
   refine ov (v_lenS Try.underlying30 rfl) rfl ?_
   refine om rfl rfl (shO_nil ?_)
   refine shW_block ?_
   refine shW_lp (fun fu2 e1 F1 L1 => ∃ (tl3 : List (Int × Int)) (k2 : Int), tl3.length = fu2 ∧ Lst round k2 tl3 ∧ ∃ (out5 : List (List Int)) (Lb85 : LH), round_Heard_l2 hears l tl3 k2 out5 = some out4 ∧ FExt F79 F1 ∧ L1 = ((b1, .cells #[.slice walks_a walks.length walks_c, .slice hears_a hears.length hears_c, .int .i64 houses, .int .i64 start, .slice notices_a notices.length notices_c] 26 (0, 0)) :: (Lb12 ++ (Lb85 ++ []))) ∧ e1.sub [(2, .pointer (some ⟨b1, 0, none⟩)), (7, .slice a10 n14 c11), (9, .slice a19 n23 c20), (37, .slice round_a round.length round_c), (38, .int .i64 (round.length : Int)), (39, .int .i64 k2)] ∧ NlR K.w0.heap.size 38 3 1 (iE .i64) F1 a19 n23 c20 out5 Lb85) _ (m0 kr ⟨_, _, rfl, Lst.start _, out, Lb21, h83, FExt.refl _, rfl, (sc rfl (sc rfl (sc rfl (sc rfl (sc rfl (sc rfl (sn _))))))), hz22⟩) ?_
   rintro fu2 e1 F91 _ ⟨tl3, k2, hn88, hk87, out5, Lb85, r89, hF92, rfl, he90, hz86⟩
   refine shW_env _ he90 ?_; clear he90
   replace h_hears := h_hears.mono (slE_ok (iE_ok _)) hF92
   replace h_round := h_round.mono (prE_ok (iE_ok _) (iE_ok _)) hF92
   replace hz13 := hz13.mono (iE_ok _) hF92
   refine wsr ?_
   refine ov (v_lssK rfl rfl) rfl ?_
   refine shO_nil (shW_seq ?_)
   refine shW_condP rfl (fun c94 => ?_) (fun c94 => ?_)
   · obtain ⟨x2, tl4, rfl, hx96, g97, hk95⟩ := Lst.succ hk87 c94
     rw [round_Heard_l2] at r89
     refine shW_skip ?_
     obtain ⟨out6, h100, r101⟩ := b1_ok r89; clear r89
     refine shW_join (fun e1 F1 L1 => ∃ (Lb98 : LH), FExt F91 F1 ∧ L1 = ((b1, .cells #[.slice walks_a walks.length walks_c, .slice hears_a hears.length hears_c, .int .i64 houses, .int .i64 start, .slice notices_a notices.length notices_c] 26 (0, 0)) :: (Lb12 ++ (Lb98 ++ []))) ∧ e1.sub [(2, .pointer (some ⟨b1, 0, none⟩)), (7, .slice a10 n14 c11), (9, .slice a19 n23 c20), (37, .slice round_a round.length round_c), (38, .int .i64 (round.length : Int)), (39, .int .i64 k2)] ∧ NlR K.w0.heap.size 38 3 1 (iE .i64) F1 a19 n23 c20 out6 Lb98) ?_ ?_
     · clear r101
       refine shW_block ?_
       refine wsr (om rfl rfl ?_)
       obtain ⟨b102, o103, c104, vs105, ha106, hs107, hle108, ⟨_, _, rfl, rfl, rfl⟩, hl109, hc110⟩ := RowR.at (prE_ok (iE_ok _) (iE_ok _)) h_round ((b1, .cells #[.slice walks_a walks.length walks_c, .slice hears_a hears.length hears_c, .int .i64 houses, .int .i64 start, .slice notices_a notices.length notices_c] 26 (0, 0)) :: (Lb12 ++ (Lb85 ++ []))) g97.1 hx96
       refine ov (v_indexO Try.underlying30 Try.sizeOf56 rfl ha106 rfl g97) rfl ?_
       refine ov (v_loadA (cs := #[.int .i64 x2.1, .int .i64 x2.2]) Try.isAgg56 Try.sizeOf56 rfl hs107 hle108 (extract_cells hle108 hl109 hc110)) rfl ?_
       refine o_alloc rfl Try.zeroValue56 ?_; intro b111 hb111
       refine oa rfl rfl ?_
       refine o_storeA (i := 0) Try.sizeOf56 rfl rfl rfl (by simp [Value.oneCell']) rfl (Nat.le_of_ble_eq_true rfl) ?_
       refine shO_L (L' := (b111, .cells #[.int .i64 x2.1, .int .i64 x2.2] 56 (0, 0)) :: ((b1, .cells #[.slice walks_a walks.length walks_c, .slice hears_a hears.length hears_c, .int .i64 houses, .int .i64 start, .slice notices_a notices.length notices_c] 26 (0, 0)) :: (Lb12 ++ (Lb85 ++ [])))) rfl ?_
       refine nsr ?_
       refine ov (v_fieldAddr fa_26_1 rfl) rfl ?_
       refine ov (v_load Try.isAgg23 rfl (Has.own 1 rfl) rfl) rfl ?_
       refine ov (v_fieldAddr fa_56_0 rfl) rfl ?_
       refine ov (v_load Try.isAgg3 rfl (Has.own 0 rfl) rfl) rfl ?_
       obtain ⟨x3, g112, hx113, r114⟩ := ix_ok h100; clear h100
       obtain ⟨b115, o116, c117, vs118, ha119, hs120, hle121, ⟨a124, c125, rfl, h126⟩, hl122, hc123⟩ := RowR.at (slE_ok (iE_ok _)) h_hears ((b111, .cells #[.int .i64 x2.1, .int .i64 x2.2] 56 (0, 0)) :: ((b1, .cells #[.slice walks_a walks.length walks_c, .slice hears_a hears.length hears_c, .int .i64 houses, .int .i64 start, .slice notices_a notices.length notices_c] 26 (0, 0)) :: (Lb12 ++ (Lb85 ++ [])))) g112.1 hx113
       refine ov (v_indexO Try.underlying23 Try.sizeOf38 rfl ha119 rfl g112) rfl ?_
       refine ov (v_load Try.isAgg38 rfl hs120 (hc123 0 (by decide))) rfl ?_
       refine ov (v_lenS Try.underlying38 rfl) rfl ?_
       refine om rfl rfl (shO_nil ?_)
       refine shW_block ?_
       refine shW_lp (fun fu3 e1 F1 L1 => ∃ (tl5 : List Int) (k3 : Int), tl5.length = fu3 ∧ Lst x3 k3 tl5 ∧ ∃ (out7 : List (List Int)) (Lb127 : LH), round_Heard_l3 l k2 x2 tl5 out7 = some out6 ∧ FExt F91 F1 ∧ L1 = ((b111, .cells #[.int .i64 x2.1, .int .i64 x2.2] 56 (0, 0)) :: ((b1, .cells #[.slice walks_a walks.length walks_c, .slice hears_a hears.length hears_c, .int .i64 houses, .int .i64 start, .slice notices_a notices.length notices_c] 26 (0, 0)) :: (Lb12 ++ (Lb127 ++ [])))) ∧ e1.sub [(2, .pointer (some ⟨b1, 0, none⟩)), (7, .slice a10 n14 c11), (9, .slice a19 n23 c20), (10, .int .i64 k2), (11, .pointer (some ⟨b111, 0, none⟩)), (37, .slice round_a round.length round_c), (38, .int .i64 (round.length : Int)), (39, .int .i64 k2), (49, .slice a124 x3.length c125), (50, .int .i64 (x3.length : Int)), (51, .int .i64 k3)] ∧ NlR K.w0.heap.size 38 3 1 (iE .i64) F1 a19 n23 c20 out7 Lb127) _ (m0 kr ⟨_, _, rfl, Lst.start _, out5, Lb85, r114, FExt.refl _, rfl, (sc rfl (sc rfl (sc rfl (sc rfl (sc rfl (sc rfl (sc rfl (sc rfl (sc rfl (sc rfl (sc rfl (sn _)))))))))))), hz86⟩) ?_
       rintro fu3 e1 F133 _ ⟨tl5, k3, hn130, hk129, out7, Lb127, r131, hF134, rfl, he132, hz128⟩
       refine shW_env _ he132 ?_; clear he132
       replace h126 := h126.mono (iE_ok _) hF134
       replace hz13 := hz13.mono (iE_ok _) hF134
       refine wsr ?_
       refine ov (v_lssK rfl rfl) rfl ?_
       refine shO_nil (shW_seq ?_)
       refine shW_condP rfl (fun c136 => ?_) (fun c136 => ?_)
       · obtain ⟨x4, tl6, rfl, hx138, g139, hk137⟩ := Lst.succ hk129 c136
         rw [round_Heard_l3] at r131
         refine shW_skip (shW_seq ?_)
         refine shW_block ?_
         refine wsr ?_
         obtain ⟨b140, o141, c142, vs143, ha144, hs145, hle146, rfl, hl147, hc148⟩ := RowR.at (iE_ok _) h126 ((b111, .cells #[.int .i64 x2.1, .int .i64 x2.2] 56 (0, 0)) :: ((b1, .cells #[.slice walks_a walks.length walks_c, .slice hears_a hears.length hears_c, .int .i64 houses, .int .i64 start, .slice notices_a notices.length notices_c] 26 (0, 0)) :: (Lb12 ++ (Lb127 ++ [])))) g139.1 hx138
         refine ov (v_indexO Try.underlying38 Try.sizeOf3 rfl ha144 rfl g139) rfl ?_
         refine ov (v_load Try.isAgg3 rfl hs145 (hc148 0 (by decide))) rfl ?_
         refine oa rfl rfl (shO_nil ?_)
         obtain ⟨x5, g149, hx150, r151⟩ := ix_ok r131; clear r131
         have hn163 := (NlR.caps hz128).1
         refine shW_open (fC (fC (fS fP))) hz128 hx150 ?_; intro hs152 Lo153 Lc154 a155 n156 c157 Lb158 hh159 hO160 hz161 hI162
         refine kW (kf (fS (fS (fS fO))) (kf (fS (fS (fS fO))) kr)) ?_
         refine shW_drawM [(.still, 0), (.still, 1), (.still, 2), (.still, 3), (.still, 4), (.still, 5), (.still, 6), (.still, 7), (.still, 8), (.still, 9), (.still, 10), (.still, 11), (.still, 12), (.still, 13), (.still, 14), (.still, 15), (.still, 16), (.still, 17), (.seq, 18), (.seq, 19), (.still, 20), (.seq, 21)] (by kernel_rfl) (by kernel_rfl) (trivial) (by rfl) (by kernel_rfl) ?_
         refine shM_v (v := .slice a19 n23 c20) (ek := [(9, .slice a19 n23 c20)]) (Ls := []) rfl rfl rfl rfl ((sc rfl (sn _))) (by kernel_rfl) sm (fun H F' L' hF' hL' => v_move rfl) ?_
         refine shM_v (v := .pointer (some ⟨b111, 1, none⟩)) (ek := [(11, .pointer (some ⟨b111, 0, none⟩))]) (Ls := []) rfl rfl rfl rfl ((sc rfl (sn _))) (by kernel_rfl) sm (fun H F' L' hF' hL' => v_fieldAddr fa_56_1 rfl) ?_
         refine shM_v (v := .int .i64 x2.2) (ek := [(56, .pointer (some ⟨b111, 1, none⟩))]) (Ls := [(b111, .cells #[.int .i64 x2.1, .int .i64 x2.2] 56 (0, 0))]) rfl rfl rfl rfl ((sc rfl (sn _))) (by kernel_rfl) (s0 (s2 (s1 (s3 (s3 (s3 (s3 sr))))))) (fun H F' L' hF' hL' => v_load Try.isAgg3 rfl ((Has.own 0 rfl).ext hF' hL') rfl) ?_
         obtain ⟨b165, o166, c167, vs168, ha169, hs170, hle171, rfl, hl172, hc173⟩ := SlR.at hdE_ok hO160 (L := Lo153 ++ []) fP g149.1 hh159
         refine shM_v (v := .pointer (some ⟨b165, o166 + (x2.2 : Int).toNat * 1, none⟩)) (ek := [(55, .slice a19 n23 c20), (57, .int .i64 x2.2)]) (Ls := []) rfl rfl rfl rfl ((sc rfl (sc rfl (sn _)))) (by kernel_rfl) sm (fun H F' L' hF' hL' => v_indexO Try.underlying23 Try.sizeOf38 rfl ha169 rfl (idxN hn163 g149)) ?_
         refine shM_v (v := .slice a155 n156 c157) (ek := [(58, .pointer (some ⟨b165, o166 + (x2.2 : Int).toNat * 1, none⟩))]) (Ls := Lo153 ++ []) rfl rfl rfl rfl ((sc rfl (sn _))) (by kernel_rfl) (s0 (s1 (s1 (s4 (s3 (s3 (s3 sr))))))) (fun H F' L' hF' hL' => v_load Try.isAgg38 rfl (hs170.ext hF' hL') (hc173 0 (by decide))) ?_
         refine shM_v (v := .int .i64 x4) (ek := [(13, .int .i64 x4)]) (Ls := []) rfl rfl rfl rfl ((sc rfl (sn _))) (by kernel_rfl) sm (fun H F' L' hF' hL' => v_move rfl) ?_
         refine shM_v (v := .slice a19 n23 c20) (ek := [(9, .slice a19 n23 c20)]) (Ls := []) rfl rfl rfl rfl ((sc rfl (sn _))) (by kernel_rfl) sm (fun H F' L' hF' hL' => v_move rfl) ?_
         refine shM_v (v := .pointer (some ⟨b111, 1, none⟩)) (ek := [(11, .pointer (some ⟨b111, 0, none⟩))]) (Ls := []) rfl rfl rfl rfl ((sc rfl (sn _))) (by kernel_rfl) sm (fun H F' L' hF' hL' => v_fieldAddr fa_56_1 rfl) ?_
         refine shM_v (v := .int .i64 x2.2) (ek := [(62, .pointer (some ⟨b111, 1, none⟩))]) (Ls := [(b111, .cells #[.int .i64 x2.1, .int .i64 x2.2] 56 (0, 0))]) rfl rfl rfl rfl ((sc rfl (sn _))) (by kernel_rfl) (s0 (s2 (s1 (s3 (s3 (s3 (s3 sr))))))) (fun H F' L' hF' hL' => v_load Try.isAgg3 rfl ((Has.own 0 rfl).ext hF' hL') rfl) ?_
         obtain ⟨b174, o175, c176, vs177, ha178, hs179, hle180, rfl, hl181, hc182⟩ := SlR.at hdE_ok hO160 (L := Lo153 ++ []) fP g149.1 hh159
         refine shM_v (v := .pointer (some ⟨b174, o175 + (x2.2 : Int).toNat * 1, none⟩)) (ek := [(61, .slice a19 n23 c20), (63, .int .i64 x2.2)]) (Ls := []) rfl rfl rfl rfl ((sc rfl (sc rfl (sn _)))) (by kernel_rfl) sm (fun H F' L' hF' hL' => v_indexO Try.underlying23 Try.sizeOf38 rfl ha178 rfl (idxN hn163 g149)) ?_
         refine shM_v (v := .slice a155 n156 c157) (ek := [(64, .pointer (some ⟨b174, o175 + (x2.2 : Int).toNat * 1, none⟩))]) (Ls := Lo153 ++ []) rfl rfl rfl rfl ((sc rfl (sn _))) (by kernel_rfl) (s0 (s1 (s1 (s4 (s3 (s3 (s3 sr))))))) (fun H F' L' hF' hL' => v_load Try.isAgg38 rfl (hs179.ext hF' hL') (hc182 0 (by decide))) ?_
         refine shM_v (v := .int .i64 x4) (ek := [(13, .int .i64 x4)]) (Ls := []) rfl rfl rfl rfl ((sc rfl (sn _))) (by kernel_rfl) sm (fun H F' L' hF' hL' => v_move rfl) ?_
         obtain ⟨x6, g183, hx184, r185⟩ := ix_ok r151; clear r151
         obtain ⟨b186, o187, c188, vs189, ha190, hs191, hle192, rfl, hl193, hc194⟩ := SlR.at (iE_ok _) hz161 (L := Lb158 ++ []) fP g183.1 hx184
         refine shM_v (v := .pointer (some ⟨b186, o187 + (x4 : Int).toNat * 1, none⟩)) (ek := [(65, .slice a155 n156 c157), (66, .int .i64 x4)]) (Ls := []) rfl rfl rfl rfl ((sc rfl (sc rfl (sn _)))) (by kernel_rfl) sm (fun H F' L' hF' hL' => v_indexO Try.underlying38 Try.sizeOf3 rfl ha190 rfl (SlR.idx hz161 g183)) ?_
         refine shM_v (v := .int .i64 x6) (ek := [(67, .pointer (some ⟨b186, o187 + (x4 : Int).toNat * 1, none⟩))]) (Ls := Lb158 ++ []) rfl rfl rfl rfl ((sc rfl (sn _))) (by kernel_rfl) (s0 (s1 (s1 (s3 (s4 (s3 (s3 sr))))))) (fun H F' L' hF' hL' => v_load Try.isAgg3 rfl (hs191.ext hF' hL') (hc194 0 (by decide))) ?_
         refine shM_v (v := .slice a10 n14 c11) (ek := [(7, .slice a10 n14 c11)]) (Ls := []) rfl rfl rfl rfl ((sc rfl (sn _))) (by kernel_rfl) sm (fun H F' L' hF' hL' => v_move rfl) ?_
         refine shM_v (v := .int .i64 k2) (ek := [(10, .int .i64 k2)]) (Ls := []) rfl rfl rfl rfl ((sc rfl (sn _))) (by kernel_rfl) sm (fun H F' L' hF' hL' => v_move rfl) ?_
         obtain ⟨x7, g195, hx196, r197⟩ := ix_ok r185; clear r185
         obtain ⟨b198, o199, c200, vs201, ha202, hs203, hle204, rfl, hl205, hc206⟩ := SlR.at (iE_ok _) hz13 (L := Lb12 ++ []) fP g195.1 hx196
         refine shM_v (v := .pointer (some ⟨b198, o199 + (k2 : Int).toNat * 1, none⟩)) (ek := [(69, .slice a10 n14 c11), (70, .int .i64 k2)]) (Ls := []) rfl rfl rfl rfl ((sc rfl (sc rfl (sn _)))) (by kernel_rfl) sm (fun H F' L' hF' hL' => v_indexO Try.underlying38 Try.sizeOf3 rfl ha202 rfl (SlR.idx hz13 g195)) ?_
         refine shM_v (v := .int .i64 x7) (ek := [(71, .pointer (some ⟨b198, o199 + (k2 : Int).toNat * 1, none⟩))]) (Ls := Lb12 ++ []) rfl rfl rfl rfl ((sc rfl (sn _))) (by kernel_rfl) (s0 (s1 (s1 (s3 (s3 (s3 (s4 sr))))))) (fun H F' L' hF' hL' => v_load Try.isAgg3 rfl (hs203.ext hF' hL') (hc206 0 (by decide))) ?_
         refine ⟨_, [(68, .int .i64 x6), (72, .int .i64 x7)], rfl, rfl, (sc rfl (sc rfl (sn _))), by kernel_rfl, ?_⟩; intro H
         refine o_buildSlice (cs := #[.int .i64 x6, .int .i64 x7]) rfl rfl (buildSlice_all slt_38 [.int .i64 x6, .int .i64 x7] rfl (by decide) (by simp [Value.cells]) (by decide)) ?_; intro b207 hb207
         refine shO_nil ⟨_, rfl, FExt.refl _, [7, 5, 4, 3, 2, 1, 0], by kernel_rfl, .inl (.inr (fun d h => by cases h; rfl)), (List.forall_mem_cons.2 ⟨sm, (List.forall_mem_cons.2 ⟨sm, (List.forall_mem_cons.2 ⟨s0 (s1 (s1 (s1 (s4 (s3 (s3 (s3 sr))))))), (List.forall_mem_cons.2 ⟨sm, (List.forall_mem_cons.2 ⟨s0 (s1 (s2 (s1 (s3 (s3 (s3 (s3 sr))))))), (List.forall_mem_cons.2 ⟨sm, (List.forall_mem_cons.2 ⟨sm, (fun _ h => absurd h List.not_mem_nil)⟩)⟩)⟩)⟩)⟩)⟩)⟩), ?_⟩
         refine ⟨_, [(73, .slice (some ⟨b207, 0, none⟩) 2 2)], rfl, rfl, (sc rfl (sn _)), by kernel_rfl, ?_⟩; intro H
         refine shO_freeze 0 rfl hb207 ?_; intro F208 hF209 hz210
         refine shO_L (L' := (b111, .cells #[.int .i64 x2.1, .int .i64 x2.2] 56 (0, 0)) :: ((b1, .cells #[.slice walks_a walks.length walks_c, .slice hears_a hears.length hears_c, .int .i64 houses, .int .i64 start, .slice notices_a notices.length notices_c] 26 (0, 0)) :: (Lo153 ++ (Lb158 ++ (Lc154 ++ (Lb12 ++ [])))))) rfl ?_
         replace h126 := h126.mono (iE_ok _) hF209
         replace hO160 := hO160.mono hdE_ok hF209
         replace hI162 := hI162.mono (iE_ok _) hF209
         replace hz161 := hz161.mono (iE_ok _) hF209
         have h211 : RowR 1 (iE .i64) F208 (some ⟨b207, 0, none⟩) 2 [x6, x7] := RowR.of_block (iE_ok _) (vss := [[.int .i64 x6], [.int .i64 x7]]) (xs := [x6, x7]) hz210 (.cons rfl (.cons rfl .nil)) rfl (by simp [maxLen])
         obtain ⟨n2, h212, r213⟩ := b1_ok r197; clear r197
         refine o_callV rfl Try.call53 rfl rfl rfl (round_soonest_w h211 h212) ?_
         refine shO_nil ⟨_, rfl, hF209, [7, 5, 4, 3, 2, 1, 0], by kernel_rfl, .inl (.inr (fun d h => by cases h; rfl)), (List.forall_mem_cons.2 ⟨sm, (List.forall_mem_cons.2 ⟨sm, (List.forall_mem_cons.2 ⟨s0 (s1 (s1 (s4 (s3 (s3 (s3 sr)))))), (List.forall_mem_cons.2 ⟨sm, (List.forall_mem_cons.2 ⟨s0 (s2 (s1 (s3 (s3 (s3 (s3 sr)))))), (List.forall_mem_cons.2 ⟨sm, (List.forall_mem_cons.2 ⟨sm, (fun _ h => absurd h List.not_mem_nil)⟩)⟩)⟩)⟩)⟩)⟩)⟩), ?_⟩
         obtain ⟨b214, o215, c216, vs217, ha218, hs219, hle220, rfl, hl221, hc222⟩ := SlR.at (iE_ok _) hz161 (L := Lb158 ++ []) fP g183.1 hx184
         refine shM_v (v := .pointer (some ⟨b214, o215 + (x4 : Int).toNat * 1, none⟩)) (ek := [(59, .slice a155 n156 c157), (60, .int .i64 x4)]) (Ls := []) rfl rfl rfl rfl ((sc rfl (sc rfl (sn _)))) (by kernel_rfl) sm (fun H F' L' hF' hL' => v_indexO Try.underlying38 Try.sizeOf3 rfl ha218 rfl (SlR.idx hz161 g183)) ?_
         refine ⟨_, [(74, .int .i64 n2), (75, .pointer (some ⟨b214, o215 + (x4 : Int).toNat * 1, none⟩))], rfl, rfl, (sc rfl (sc rfl (sn _))), by kernel_rfl, ?_⟩; intro H
         obtain ⟨l3, h223, r224⟩ := bv_ok r213; clear r213
         refine o_storeZ (u := n2) Try.sizeOf3 (iE_ok _) rfl ha218 rfl rfl (fun _ => .c (.c (.s .h))) hz161 h223 g183 ?_; intro Lb225 hz226
         refine shO_nil ⟨undef, rfl, FExt.refl _, [], by kernel_rfl, .inl (.inl rfl), (fun _ h => absurd h List.not_mem_nil), ?_⟩
         refine shM_nil ?_
         refine inBlock_n (id := 5) (shW_region ?_)
         refine ov (v_add rfl rfl (Lst.r64 hk129 c136 (RowR.lt h126))) rfl ?_
         refine om rfl rfl ?_
         obtain ⟨out8, h227, r228⟩ := bv_ok r224; clear r224
         refine shO_fold (p := fun X => NlR K.w0.heap.size 38 3 1 (iE .i64) F208 a19 n23 c20 out8 X) (InH.back0 hI162 hO160 hh159 hz226 h227) (pT ((fC (fC fP)).trans (pA ((fC (fC fP)).trans (pA ((fC (fC fP)).trans (pA pR)))))) (lp (lp (lp (ln rfl))))) ?_; intro Lb229 hz230
         refine kO (kf (fS fO) (kf (fS fO) kr)) ?_
         refine shO_nil ?_
         subst hn130; exact le (kc (kc (kg (fS fP) kr))) ⟨_, _, rfl, hk137, out8, Lb229, r228, (hF134.trans hF209), rfl, (sc rfl (sc rfl (sc rfl (sc rfl (sc rfl (sc rfl (sc rfl (sc rfl (sc rfl (sc rfl (sc rfl (sn _)))))))))))), hz230⟩
       obtain rfl := Lst.zero hk129 c136
       rw [round_Heard_l3] at r131
       refine shW_exit (andThen_exit (andThen_exit ?_))
       refine inBlock_exit ?_
       refine inBlock_n (id := 3) ?_
       obtain rfl := inj1 r131
       exact mi (kd kr) ⟨Lb127, hF134, rfl, (sc rfl (sc rfl (sc rfl (sc rfl (sc rfl (sc rfl (sn _))))))), hz128⟩
     rintro e1 F232 _ ⟨Lb98, hF233, rfl, he231, hz99⟩
     refine shW_env _ he231 ?_; clear he231
     replace h_round := h_round.mono (prE_ok (iE_ok _) (iE_ok _)) hF233
     refine shW_region ?_
     refine ov (v_add rfl rfl (Lst.r64 hk87 c94 (RowR.lt h_round))) rfl ?_
     refine om rfl rfl (shO_nil ?_)
     subst hn88; exact le kr ⟨_, _, rfl, hk95, out6, Lb98, r101, (hF92.trans hF233), rfl, (sc rfl (sc rfl (sc rfl (sc rfl (sc rfl (sc rfl (sn _))))))), hz99⟩
   obtain rfl := Lst.zero hk87 c94
   rw [round_Heard_l2] at r89
   refine shW_exit (andThen_exit (andThen_exit ?_))
   refine inBlock_exit ?_
   obtain rfl := inj1 r89
   exact mi (kd (kx kr)) ⟨Lb85, hF92, rfl, (sc rfl (sn _)), hz86⟩
 rintro e1 F235 _ ⟨Lb81, hF236, rfl, he234, hz82⟩
 refine shW_env _ he234 ?_; clear he234
 refine wsr (om rfl rfl (oa rfl rfl (oa rfl rfl (shO_nil ?_))))
 obtain rfl := (NlR.caps hz82).1
 refine shW_freezeN (Nat.le_refl _) (iE_ok _) fP hz82 ?_; intro F237 hF238 h239
 refine shW_ret ?_
 refine q_res2 Try.results22 (res_tmp rfl) (res_tmp rfl) (sr) ?_
 obtain ⟨rfl, rfl⟩ := inj2 r84
 exact ⟨_, _, rfl, rfl, h239⟩
set_option maxHeartbeats 1000000 in
theorem round_Missed_w {walks_a : Option Addr} {walks_c : Nat} {walks : List (List Int)} {hears_a : Option Addr} {hears_c : Nat} {hears : List (List Int)} {houses start : Int} {notices_a : Option Addr} {notices_c : Nat} {notices : List ((List Int) × Int × Int)} {round_a : Option Addr} {round_c : Nat} {round : List (Int × Int)} {F : FS} (h_walks : RowR 1 (slE 1 (iE .i64)) F walks_a walks_c walks) (h_hears : RowR 1 (slE 1 (iE .i64)) F hears_a hears_c hears) (h_notices : RowR 3 (prE (slE 1 (iE .i64)) (prE (iE .i64) (iE .i64))) F notices_a notices_c notices) (h_round : RowR 2 (prE (iE .i64) (iE .i64)) F round_a round_c round) {r : List (Int × Int)} {r2 : Int} (hr : round_Missed walks hears houses start notices round = some (r, r2)) :
    SH.Spec Try.prog 23 #[.agg #[.slice walks_a walks.length walks_c, .slice hears_a hears.length hears_c, .int .i64 houses, .int .i64 start, .slice notices_a notices.length notices_c], .slice round_a round.length round_c] F [] fun F' L' v => ∃ (ra : Option Addr) (rn : Nat) (rc : Nat) (rL : LH), v = .tuple #[.slice ra rn rc, .int .i64 r2] ∧ L' = rL ++ [] ∧ SlR 0 48 2 (prE (iE .i64) (iE .i64)) F' ra rn rc r rL := by
 refine spec_of_shW (args := [.agg #[.slice walks_a walks.length walks_c, .slice hears_a hears.length hears_c, .int .i64 houses, .int .i64 start, .slice notices_a notices.length notices_c], .slice round_a round.length round_c]) Try.func23 rfl Try.ntmps23 (Nat.le_of_ble_eq_true rfl) ?_
 intro K _ _; rw [round_Missed] at hr
 refine wsr ?_
 refine o_box rfl rfl ?_; intro b1 hb1
 refine oa rfl rfl (oa rfl rfl (nsr ?_))
 refine ov (v_loadA (cs := #[.slice walks_a walks.length walks_c, .slice hears_a hears.length hears_c, .int .i64 houses, .int .i64 start, .slice notices_a notices.length notices_c]) Try.isAgg26 Try.sizeOf26 rfl (Has.own 0 rfl) (Nat.le_of_ble_eq_true rfl) rfl) rfl ?_
 refine om rfl rfl ?_
 obtain ⟨l, n, h2, r3⟩ := b2_ok hr; clear hr
 refine o_call0 rfl Try.call22 rfl rfl rfl (round_Heard_w h_walks h_hears h_notices h_round h2) ?_; rintro _ F4 _ hF5 hn6 ⟨a8, c9, rfl, rfl, h10⟩
 replace h_walks := h_walks.mono (slE_ok (iE_ok _)) hF5
 replace h_hears := h_hears.mono (slE_ok (iE_ok _)) hF5
 replace h_notices := h_notices.mono (prE_ok (slE_ok (iE_ok _)) (prE_ok (iE_ok _) (iE_ok _))) hF5
 refine shO_L (ln rfl) ?_
 refine om rfl rfl (ox rfl rfl rfl (ox rfl rfl rfl (oa rfl rfl (oa rfl rfl (shO_nil (shW_seq (wsr (om rfl rfl ?_))))))))
 refine ov (v_neq rfl rfl) rfl ?_
 refine shO_nil ?_
 refine shW_condP rfl (fun c11 => ?_) (fun c11 => ?_)
 · have r12 := ite_t r3 c11; clear r3
   refine wsr (om rfl rfl (oa rfl rfl (oa rfl rfl (shO_nil ?_))))
   refine kW kn ?_
   refine shW_ret (andThen_ret ?_)
   refine q_res2 Try.results23 (res_tmp rfl) (res_tmp rfl) (sr) ?_
   obtain ⟨rfl, rfl⟩ := inj2 r12
   exact ⟨_, _, _, [], rfl, rfl, SlR.nil _ _ _ _ _⟩
 have r13 := ite_f r3 c11; clear r3
 refine shW_skip (wsr ?_)
 refine ov (v_loadA (cs := #[.slice walks_a walks.length walks_c, .slice hears_a hears.length hears_c, .int .i64 houses, .int .i64 start, .slice notices_a notices.length notices_c]) Try.isAgg26 Try.sizeOf26 rfl (Has.own 0 rfl) (Nat.le_of_ble_eq_true rfl) rfl) rfl ?_
 obtain ⟨d, n2, h14, r15⟩ := b2_ok r13; clear r13
 refine o_call0 rfl Try.call30 rfl rfl rfl (round_opened_w h_walks h_hears h_notices h14) ?_; rintro _ F16 _ hF17 hn18 ⟨v20, rfl, rfl, hp21⟩
 replace h_notices := h_notices.mono (prE_ok (slE_ok (iE_ok _)) (prE_ok (iE_ok _) (iE_ok _))) hF17
 replace h10 := h10.mono (slE_ok (iE_ok _)) hF17
 refine shO_L (ln rfl) ?_
 refine om rfl rfl (ox rfl rfl rfl (ox rfl rfl rfl (oa rfl rfl (oa rfl rfl (nsr (oa rfl rfl (shO_nil ?_)))))))
 obtain ⟨out, h28, r29⟩ := b1_ok r15; clear r15
 refine shW_join (fun e1 F1 L1 => ∃ (a22 : Option Addr) (n26 : Nat) (c23 : Nat) (Lb24 : LH), F16 = F1 ∧ L1 = (Lb24 ++ []) ∧ e1.sub [(10, .slice a22 n26 c23)] ∧ SlR K.w0.heap.size 48 2 (prE (iE .i64) (iE .i64)) F1 a22 n26 c23 out Lb24) ?_ ?_
 · clear r29
   refine wsr (om rfl rfl ?_)
   obtain ⟨walks2, hears2, houses2, start2, notices2, walks3, pairs, hit, h30, r31⟩ := b8_ok h28; clear h28
   have h51 := hp21; rw [h30] at h51; obtain ⟨b32, c33, m34, hv35, hz36, ⟨_, _, rfl, ⟨a37, c38, rfl, h39⟩, ⟨_, _, rfl, ⟨a40, c41, rfl, h42⟩, ⟨_, _, rfl, rfl, ⟨_, _, rfl, rfl, ⟨_, _, rfl, ⟨a43, c44, rfl, h45⟩, ⟨_, _, rfl, ⟨rfl, h46⟩, ⟨_, _, rfl, ⟨a47, c48, rfl, h49⟩, ⟨rfl, h50⟩⟩⟩⟩⟩⟩⟩⟩⟩ := h51; subst hv35
   have hz36 : F16 b32 = some (.cells ((([.slice a37 walks2.length c38] : List Value) ++ (([.slice a40 hears2.length c41] : List Value) ++ (([.int .i64 houses2] : List Value) ++ (([.int .i64 start2] : List Value) ++ (([.slice a43 notices2.length c44] : List Value) ++ (walks3.flatMap (cI .i64) ++ (([.slice a47 pairs.length c48] : List Value) ++ (hit.flatMap (cI .i64))))))))).toArray) 101 m34) := hz36
   refine ov (v_nilCheck rfl) rfl ?_
   refine ov (v_fieldAddr fa_101_2 rfl) rfl ?_
   refine ov (v_load Try.isAgg35 rfl (Has.frozen hz36) (li_cell (li_skip (A := ([.slice a37 walks2.length c38] : List Value)) (k := 1) (o := 29) rfl (li_skip (A := ([.slice a40 hears2.length c41] : List Value)) (k := 1) (o := 28) rfl (li_skip (A := ([.int .i64 houses2] : List Value)) (k := 1) (o := 27) rfl (li_skip (A := ([.int .i64 start2] : List Value)) (k := 1) (o := 26) rfl (li_skip (A := ([.slice a43 notices2.length c44] : List Value)) (k := 1) (o := 25) rfl (li_skip (A := walks3.flatMap (cI .i64)) (k := 25) (o := 0) (lfl (cI_ok .i64) h46) (li_here (B := hit.flatMap (cI .i64)) rfl))))))))) rfl ?_
   refine ov (v_lenS Try.underlying35 rfl) rfl ?_
   refine om rfl rfl (shO_nil ?_)
   refine shW_block ?_
   refine shW_lp (fun fu1 e1 F1 L1 => ∃ (tl : List (Int × Int)) (k : Int), tl.length = fu1 ∧ Lst pairs k tl ∧ ∃ (out2 : List (Int × Int)) (a52 : Option Addr) (n56 : Nat) (c53 : Nat) (Lb54 : LH), round_Missed_l1 notices l tl out2 = some out ∧ F16 = F1 ∧ L1 = ((b1, .cells #[.slice walks_a walks.length walks_c, .slice hears_a hears.length hears_c, .int .i64 houses, .int .i64 start, .slice notices_a notices.length notices_c] 26 (0, 0)) :: (Lb54 ++ [])) ∧ e1.sub [(2, .pointer (some ⟨b1, 0, none⟩)), (6, .slice a8 l.length c9), (10, .slice a52 n56 c53), (30, .slice a47 pairs.length c48), (31, .int .i64 (pairs.length : Int)), (32, .int .i64 k)] ∧ SlR K.w0.heap.size 48 2 (prE (iE .i64) (iE .i64)) F1 a52 n56 c53 out2 Lb54) _ (m0 (kc (ke kr)) ⟨_, _, rfl, Lst.start _, [], none, 0, 0, [], r31, rfl, rfl, (sc rfl (sc rfl (sc rfl (sc rfl (sc rfl (sc rfl (sn _))))))), SlR.nil _ _ _ _ _⟩) ?_
   rintro fu1 e1 _ _ ⟨tl, k, hn59, hk58, out2, a52, n56, c53, Lb54, r60, rfl, rfl, he61, hz55⟩
   refine shW_env _ he61 ?_; clear he61
   refine wsr ?_
   refine ov (v_lssK rfl rfl) rfl ?_
   refine shO_nil (shW_seq ?_)
   refine shW_condP rfl (fun c63 => ?_) (fun c63 => ?_)
   · obtain ⟨x, tl2, rfl, hx65, g66, hk64⟩ := Lst.succ hk58 c63
     rw [round_Missed_l1] at r60
     refine shW_skip (shW_seq ?_)
     refine shW_block ?_
     refine wsr ?_
     obtain ⟨b67, o68, c69, vs70, ha71, hs72, hle73, ⟨_, _, rfl, rfl, rfl⟩, hl74, hc75⟩ := RowR.at (prE_ok (iE_ok _) (iE_ok _)) h49 ((b1, .cells #[.slice walks_a walks.length walks_c, .slice hears_a hears.length hears_c, .int .i64 houses, .int .i64 start, .slice notices_a notices.length notices_c] 26 (0, 0)) :: (Lb54 ++ [])) g66.1 hx65
     refine ov (v_indexO Try.underlying35 Try.sizeOf48 rfl ha71 rfl g66) rfl ?_
     refine ov (v_loadA (cs := #[.int .i64 x.1, .int .i64 x.2]) Try.isAgg48 Try.sizeOf48 rfl hs72 hle73 (extract_cells hle73 hl74 hc75)) rfl ?_
     refine o_alloc rfl Try.zeroValue48 ?_; intro b76 hb76
     refine o_storeA (i := 0) Try.sizeOf48 rfl rfl rfl (by simp [Value.oneCell']) rfl (Nat.le_of_ble_eq_true rfl) ?_
     refine shO_L (L' := (b76, .cells #[.int .i64 x.1, .int .i64 x.2] 48 (0, 0)) :: ((b1, .cells #[.slice walks_a walks.length walks_c, .slice hears_a hears.length hears_c, .int .i64 houses, .int .i64 start, .slice notices_a notices.length notices_c] 26 (0, 0)) :: (Lb54 ++ []))) rfl ?_
     refine nsd (by kernel_rfl) (by kernel_rfl) (by kernel_rfl) ?_
     refine qm rfl rfl ?_
     refine qv (v_fieldAddr fa_48_0 rfl) rfl ?_
     refine qv (v_load Try.isAgg3 rfl (Has.own 0 rfl) rfl) rfl ?_
     obtain ⟨x2, g77, hx78, r79⟩ := ix_ok r60; clear r60
     obtain ⟨b80, o81, c82, vs83, ha84, hs85, hle86, ⟨a89, c90, rfl, h91⟩, hl87, hc88⟩ := RowR.at (slE_ok (iE_ok _)) h10 ((b76, .cells #[.int .i64 x.1, .int .i64 x.2] 48 (0, 0)) :: ((b1, .cells #[.slice walks_a walks.length walks_c, .slice hears_a hears.length hears_c, .int .i64 houses, .int .i64 start, .slice notices_a notices.length notices_c] 26 (0, 0)) :: (Lb54 ++ []))) g77.1 hx78
     refine qv (v_indexO Try.underlying23 Try.sizeOf38 rfl ha84 rfl g77) rfl ?_
     refine qv (v_load Try.isAgg38 rfl hs85 (hc88 0 (by decide))) rfl ?_
     refine qv (v_fieldAddr fa_48_1 rfl) rfl ?_
     refine qv (v_load Try.isAgg3 rfl (Has.own 0 rfl) rfl) rfl ?_
     obtain ⟨x3, g92, hx93, r94⟩ := ix_ok r79; clear r79
     obtain ⟨b95, o96, c97, vs98, ha99, hs100, hle101, rfl, hl102, hc103⟩ := RowR.at (iE_ok _) h91 ((b76, .cells #[.int .i64 x.1, .int .i64 x.2] 48 (0, 0)) :: ((b1, .cells #[.slice walks_a walks.length walks_c, .slice hears_a hears.length hears_c, .int .i64 houses, .int .i64 start, .slice notices_a notices.length notices_c] 26 (0, 0)) :: (Lb54 ++ []))) g92.1 hx93
     refine qv (v_indexO Try.underlying38 Try.sizeOf3 rfl ha99 rfl g92) rfl ?_
     refine qv (v_load Try.isAgg3 rfl hs100 (hc103 0 (by decide))) rfl ?_
     refine qv (v_fieldAddr fa_26_4 rfl) rfl ?_
     refine qv (v_load Try.isAgg24 rfl (Has.own 1 rfl) rfl) rfl ?_
     refine qv (v_fieldAddr fa_48_0 rfl) rfl ?_
     refine qv (v_load Try.isAgg3 rfl (Has.own 0 rfl) rfl) rfl ?_
     obtain ⟨x4, g104, hx105, r106⟩ := ix_ok r94; clear r94
     obtain ⟨b107, o108, c109, vs110, ha111, hs112, hle113, ⟨_, _, rfl, ⟨a116, c117, rfl, h118⟩, ⟨_, _, rfl, rfl, rfl⟩⟩, hl114, hc115⟩ := RowR.at (prE_ok (slE_ok (iE_ok _)) (prE_ok (iE_ok _) (iE_ok _))) h_notices ((b76, .cells #[.int .i64 x.1, .int .i64 x.2] 48 (0, 0)) :: ((b1, .cells #[.slice walks_a walks.length walks_c, .slice hears_a hears.length hears_c, .int .i64 houses, .int .i64 start, .slice notices_a notices.length notices_c] 26 (0, 0)) :: (Lb54 ++ []))) g104.1 hx105
     refine qv (v_indexO Try.underlying24 Try.sizeOf40 rfl ha111 rfl g104) rfl ?_
     refine qv (v_fieldAddr fa_40_2 rfl) rfl ?_
     refine qv (v_load Try.isAgg3 rfl hs112 (hc115 2 (by decide))) rfl ?_
     obtain ⟨ok, h119, r120⟩ := b1_ok r106; clear r106
     refine shQ_callV rfl Try.call38 rfl rfl rfl (round_in_w h119) ?_
     refine qv (v_notB rfl) rfl ?_
     refine shQ_nil ?_
     refine shW_cond rfl (fun c121 => ?_) (fun c121 => ?_)
     · have r122 := bt r120 c121; clear r120
       refine shW_region (om rfl rfl ?_)
       refine ov (v_loadA (cs := #[.int .i64 x.1, .int .i64 x.2]) Try.isAgg48 Try.sizeOf48 rfl (Has.own 0 rfl) (Nat.le_of_ble_eq_true rfl) rfl) rfl ?_
       refine o_buildSlice (cs := #[.int .i64 x.1, .int .i64 x.2]) rfl rfl (buildSlice_all slt_35 [.agg #[.int .i64 x.1, .int .i64 x.2]] rfl (by decide) (by simp [Value.cells]) (by decide)) ?_; intro b123 hb123
       obtain ⟨out3, h124, g125, r126⟩ := ap_ok r122; clear r122
       refine o_appZ (xs := out2) (ys := [(x.1, x.2)]) (zs := out3) rfl slt_35 rfl rfl (Nat.le_refl _) (fun _ => .c (.c (.c .h))) hz55 (SrcR.box (vss := [[.int .i64 x.1, .int .i64 x.2]]) (ys := [(x.1, x.2)]) 0 rfl (prE_ok (iE_ok _) (iE_ok _)) (.cons ⟨_, _, rfl, rfl, rfl⟩ .nil) rfl rfl) h124 g125 (by decide) ?_; intro a127 n131 c128 Lb129 hz130
       refine kO (kd kr) ?_
       refine oa rfl rfl (shO_nil (inBlock_n (id := 1) (shW_region ?_)))
       refine ov (v_add rfl rfl (Lst.r64 hk58 c63 (RowR.lt h49))) rfl ?_
       refine om rfl rfl (shO_nil ?_)
       subst hn59; exact le (kd kr) ⟨_, _, rfl, hk64, out3, a127, n131, c128, Lb129, r126, rfl, rfl, (sc rfl (sc rfl (sc rfl (sc rfl (sc rfl (sc rfl (sn _))))))), hz130⟩
     have r133 := bf r120 c121; clear r120
     refine shW_skip (inBlock_n (id := 1) (shW_region ?_))
     refine ov (v_add rfl rfl (Lst.r64 hk58 c63 (RowR.lt h49))) rfl ?_
     refine om rfl rfl (shO_nil ?_)
     subst hn59; exact le (kd kr) ⟨_, _, rfl, hk64, out2, a52, n56, c53, Lb54, r133, rfl, rfl, (sc rfl (sc rfl (sc rfl (sc rfl (sc rfl (sc rfl (sn _))))))), hz55⟩
   obtain rfl := Lst.zero hk58 c63
   rw [round_Missed_l1] at r60
   refine shW_exit (andThen_exit (andThen_exit ?_))
   refine inBlock_exit ?_
   obtain rfl := inj1 r60
   exact mi (kd kr) ⟨a52, n56, c53, Lb54, rfl, rfl, (sc rfl (sn _)), hz55⟩
 rintro e1 _ _ ⟨a22, n26, c23, Lb24, rfl, rfl, he134, hz25⟩
 refine shW_env _ he134 ?_; clear he134
 refine wsr (om rfl rfl (oa rfl rfl (oa rfl rfl (shO_nil (shW_ret ?_)))))
 refine q_res2 Try.results23 (res_tmp rfl) (res_tmp rfl) (sr) ?_
 obtain ⟨rfl, rfl⟩ := inj2 r29
 exact ⟨_, _, _, _, rfl, rfl, hz25.any⟩
set_option maxHeartbeats 1000000 in
theorem round_Hurry_1_1_w {n minute : Int} {b_x : Nat} {x : Int} {mb_x : Nat × Nat} {b_x_ : Nat} {x2 : Int} {mb_x_ : Nat × Nat} {b_x__ b_x___ : Nat} {walks_a : Option Addr} {walks_c : Nat} {walks : List (List Int)} {hears_a : Option Addr} {hears_c : Nat} {hears : List (List Int)} {houses start : Int} {notices_a : Option Addr} {notices_c : Nat} {notices : List ((List Int) × Int × Int)} {walks2 : List Int} {pairs_a : Option Addr} {pairs_c : Nat} {pairs : List (Int × Int)} {hit : List Int} {mb_x___ mb_x__ : Nat × Nat} {F : FS} (hb_x : F b_x = some (.cells #[.int .i64 x] 3 mb_x)) (hb_x_ : F b_x_ = some (.cells #[.int .i64 x2] 3 mb_x_)) (hb_x__ : F b_x__ = some (.cells #[.pointer (some ⟨b_x___, 0, none⟩)] 73 mb_x__)) (hb_x___ : F b_x___ = some (.cells ((([.slice walks_a walks.length walks_c] : List Value) ++ (([.slice hears_a hears.length hears_c] : List Value) ++ (([.int .i64 houses] : List Value) ++ (([.int .i64 start] : List Value) ++ (([.slice notices_a notices.length notices_c] : List Value) ++ (walks2.flatMap (cI .i64) ++ (([.slice pairs_a pairs.length pairs_c] : List Value) ++ (hit.flatMap (cI .i64))))))))).toArray) 101 mb_x___)) (_h_walks : RowR 1 (slE 1 (iE .i64)) F walks_a walks_c walks) (_h_hears : RowR 1 (slE 1 (iE .i64)) F hears_a hears_c hears) (h_notices : RowR 3 (prE (slE 1 (iE .i64)) (prE (iE .i64) (iE .i64))) F notices_a notices_c notices) (_h_walks2 : walks2.length = 25) (_h_pairs : RowR 2 (prE (iE .i64) (iE .i64)) F pairs_a pairs_c pairs) (_h_hit : hit.length = 15) {r : Bool} (hr : round_Hurry_1_1 n minute x x2 walks hears houses start notices walks2 pairs hit = some r) :
    SpecV Try.prog 57 #[.int .i64 n, .int .i64 minute, .pointer (some ⟨b_x, 0, none⟩), .pointer (some ⟨b_x_, 0, none⟩), .pointer (some ⟨b_x__, 0, none⟩)] F (.bool r) := by
 refine spec_of_shW (args := [.int .i64 n, .int .i64 minute, .pointer (some ⟨b_x, 0, none⟩), .pointer (some ⟨b_x_, 0, none⟩), .pointer (some ⟨b_x__, 0, none⟩)]) Try.func57 rfl Try.ntmps57 (Nat.le_of_ble_eq_true rfl) ?_
 intro K _ _; rw [round_Hurry_1_1] at hr
 refine wsr (oa rfl rfl (nsr (om rfl rfl ?_)))
 refine ov (v_load Try.isAgg3 rfl (Has.frozen hb_x) rfl) rfl ?_
 refine ov (v_eql rfl rfl) rfl ?_
 refine om rfl rfl ?_
 by_cases c1 : n = x
 · have r2 := ite_t hr c1; clear hr
   refine shO_on (b := true) 11 rfl (Env.isT rfl c1) (om rfl rfl (shO_on (b := true) 11 rfl (Env.isT rfl c1) ?_))
   refine ov (v_load Try.isAgg3 rfl (Has.frozen hb_x_) rfl) rfl ?_
   refine shO_on (b := true) 11 rfl (Env.isT rfl c1) ?_
   refine ov (v_leqK rfl rfl) rfl ?_
   refine ov (v_pick_t (evD_true rfl c1) rfl) rfl ?_
   refine om rfl rfl ?_
   by_cases c3 : minute ≤ x2
   · have r4 := ite_t r2 c3; clear r2
     refine shO_off (b' := true) 16 rfl (Env.isT rfl c3) rfl rfl (shO_off (b' := true) 16 rfl (Env.isT rfl c3) rfl rfl (shO_off (b' := true) 16 rfl (Env.isT rfl c3) rfl rfl (shO_off (b' := true) 16 rfl (Env.isT rfl c3) rfl rfl (shO_offU 20 rfl rfl rfl (shO_offU 20 rfl rfl rfl (shO_offU 20 rfl rfl rfl (shO_offU 20 rfl rfl rfl (shO_offU 20 rfl rfl rfl (shO_offU 20 rfl rfl rfl ?_)))))))))
     refine shO_offU 20 rfl rfl rfl (shO_offU 20 rfl rfl rfl (shO_offU 20 rfl rfl rfl (shO_offU 20 rfl rfl rfl (shO_offU 20 rfl rfl rfl (shO_off (b' := true) 16 rfl (Env.isT rfl c3) rfl rfl ?_)))))
     refine ov (v_pick_t (evD_true rfl c3) rfl) rfl ?_
     refine oa rfl rfl (shO_nil (shW_ret ?_))
     refine q_res1 Try.results57 (res_tmp rfl) (sr) ?_
     obtain rfl := inj1 r4
     exact rfl
   have r5 := ite_f r2 c3; clear r2
   refine shO_on (b := false) 16 rfl (Env.isF rfl c3) (om rfl rfl (shO_on (b := false) 16 rfl (Env.isF rfl c3) ?_))
   refine ov (v_load Try.isAgg3 rfl (Has.frozen hb_x) rfl) rfl ?_
   refine shO_on (b := false) 16 rfl (Env.isF rfl c3) ?_
   refine ov (v_neq rfl rfl) rfl ?_
   refine shO_on (b := false) 16 rfl (Env.isF rfl c3) (om rfl rfl ?_)
   by_cases c6 : n ≠ x
   · have r7 := ite_t r5 c6; clear r5
     refine shO_on (b := true) 20 rfl (Env.isT rfl c6) (om rfl rfl (shO_on (b := true) 20 rfl (Env.isT rfl c6) ?_))
     refine ov (v_load Try.isAgg73 rfl (Has.frozen hb_x__) rfl) rfl ?_
     refine shO_on (b := true) 20 rfl (Env.isT rfl c6) ?_
     refine ov (v_nilCheck rfl) rfl ?_
     refine shO_on (b := true) 20 rfl (Env.isT rfl c6) ?_
     refine ov (v_fieldAddr fa_101_0 rfl) rfl ?_
     refine shO_on (b := true) 20 rfl (Env.isT rfl c6) ?_
     refine ov (v_fieldAddr fa_26_4 rfl) rfl ?_
     refine shO_on (b := true) 20 rfl (Env.isT rfl c6) ?_
     refine ov (v_load Try.isAgg24 rfl (Has.frozen hb_x___) (li_cell (li_skip (A := ([.slice walks_a walks.length walks_c] : List Value)) (k := 1) (o := 3) rfl (li_skip (A := ([.slice hears_a hears.length hears_c] : List Value)) (k := 1) (o := 2) rfl (li_skip (A := ([.int .i64 houses] : List Value)) (k := 1) (o := 1) rfl (li_skip (A := ([.int .i64 start] : List Value)) (k := 1) (o := 0) rfl (li_here (B := walks2.flatMap (cI .i64) ++ (([.slice pairs_a pairs.length pairs_c] : List Value) ++ (hit.flatMap (cI .i64)))) rfl))))))) rfl ?_
     refine shO_on (b := true) 20 rfl (Env.isT rfl c6) (om rfl rfl (shO_on (b := true) 20 rfl (Env.isT rfl c6) ?_))
     obtain ⟨x3, g8, hx9, r10⟩ := ix_ok r7; clear r7
     obtain ⟨b11, o12, c13, vs14, ha15, hs16, hle17, ⟨_, _, rfl, ⟨a20, c21, rfl, h22⟩, ⟨_, _, rfl, rfl, rfl⟩⟩, hl18, hc19⟩ := RowR.at (prE_ok (slE_ok (iE_ok _)) (prE_ok (iE_ok _) (iE_ok _))) h_notices ([]) g8.1 hx9
     refine ov (v_indexO Try.underlying24 Try.sizeOf40 rfl ha15 rfl g8) rfl ?_
     refine shO_on (b := true) 20 rfl (Env.isT rfl c6) ?_
     refine ov (v_fieldAddr fa_40_2 rfl) rfl ?_
     refine shO_on (b := true) 20 rfl (Env.isT rfl c6) ?_
     refine ov (v_load Try.isAgg3 rfl hs16 (hc19 2 (by decide))) rfl ?_
     refine shO_on (b := true) 20 rfl (Env.isT rfl c6) ?_
     refine ov (v_leqK rfl rfl) rfl ?_
     refine shO_on (b := false) 16 rfl (Env.isF rfl c3) ?_
     refine ov (v_pick_t (evD_true rfl c6) rfl) rfl ?_
     refine ov (v_pick_f (evD_false rfl c3) rfl) rfl ?_
     refine oa rfl rfl (shO_nil (shW_ret ?_))
     refine q_res1 Try.results57 (res_tmp rfl) (sr) ?_
     obtain rfl := inj1 r10
     exact rfl
   have r23 := ite_f r5 c6; clear r5
   refine shO_off (b' := false) 20 rfl (Env.isF rfl c6) rfl rfl (shO_off (b' := false) 20 rfl (Env.isF rfl c6) rfl rfl (shO_off (b' := false) 20 rfl (Env.isF rfl c6) rfl rfl (shO_off (b' := false) 20 rfl (Env.isF rfl c6) rfl rfl (shO_off (b' := false) 20 rfl (Env.isF rfl c6) rfl rfl (shO_off (b' := false) 20 rfl (Env.isF rfl c6) rfl rfl (shO_off (b' := false) 20 rfl (Env.isF rfl c6) rfl rfl (shO_off (b' := false) 20 rfl (Env.isF rfl c6) rfl rfl (shO_off (b' := false) 20 rfl (Env.isF rfl c6) rfl rfl (shO_off (b' := false) 20 rfl (Env.isF rfl c6) rfl rfl ?_)))))))))
   refine shO_off (b' := false) 20 rfl (Env.isF rfl c6) rfl rfl (shO_on (b := false) 16 rfl (Env.isF rfl c3) ?_)
   refine ov (v_pick_f (evD_false rfl c6) rfl) rfl ?_
   refine ov (v_pick_f (evD_false rfl c3) rfl) rfl ?_
   refine oa rfl rfl (shO_nil (shW_ret ?_))
   refine q_res1 Try.results57 (res_tmp rfl) (sr) ?_
   obtain rfl := inj1 r23
   exact rfl
 have r24 := ite_f hr c1; clear hr
 refine shO_off (b' := false) 11 rfl (Env.isF rfl c1) rfl rfl (shO_off (b' := false) 11 rfl (Env.isF rfl c1) rfl rfl (shO_off (b' := false) 11 rfl (Env.isF rfl c1) rfl rfl ?_))
 refine ov (v_pick_f (evD_false rfl c1) rfl) rfl ?_
 refine om rfl rfl (shO_on (b := false) 16 rfl rfl (om rfl rfl (shO_on (b := false) 16 rfl rfl ?_)))
 refine ov (v_load Try.isAgg3 rfl (Has.frozen hb_x) rfl) rfl ?_
 refine shO_on (b := false) 16 rfl rfl ?_
 refine ov (v_neq rfl rfl) rfl ?_
 refine shO_on (b := false) 16 rfl rfl (om rfl rfl ?_)
 by_cases c25 : n ≠ x
 · have r26 := ite_t r24 c25; clear r24
   refine shO_on (b := true) 20 rfl (Env.isT rfl c25) (om rfl rfl (shO_on (b := true) 20 rfl (Env.isT rfl c25) ?_))
   refine ov (v_load Try.isAgg73 rfl (Has.frozen hb_x__) rfl) rfl ?_
   refine shO_on (b := true) 20 rfl (Env.isT rfl c25) ?_
   refine ov (v_nilCheck rfl) rfl ?_
   refine shO_on (b := true) 20 rfl (Env.isT rfl c25) ?_
   refine ov (v_fieldAddr fa_101_0 rfl) rfl ?_
   refine shO_on (b := true) 20 rfl (Env.isT rfl c25) ?_
   refine ov (v_fieldAddr fa_26_4 rfl) rfl ?_
   refine shO_on (b := true) 20 rfl (Env.isT rfl c25) ?_
   refine ov (v_load Try.isAgg24 rfl (Has.frozen hb_x___) (li_cell (li_skip (A := ([.slice walks_a walks.length walks_c] : List Value)) (k := 1) (o := 3) rfl (li_skip (A := ([.slice hears_a hears.length hears_c] : List Value)) (k := 1) (o := 2) rfl (li_skip (A := ([.int .i64 houses] : List Value)) (k := 1) (o := 1) rfl (li_skip (A := ([.int .i64 start] : List Value)) (k := 1) (o := 0) rfl (li_here (B := walks2.flatMap (cI .i64) ++ (([.slice pairs_a pairs.length pairs_c] : List Value) ++ (hit.flatMap (cI .i64)))) rfl))))))) rfl ?_
   refine shO_on (b := true) 20 rfl (Env.isT rfl c25) (om rfl rfl (shO_on (b := true) 20 rfl (Env.isT rfl c25) ?_))
   obtain ⟨x4, g27, hx28, r29⟩ := ix_ok r26; clear r26
   obtain ⟨b30, o31, c32, vs33, ha34, hs35, hle36, ⟨_, _, rfl, ⟨a39, c40, rfl, h41⟩, ⟨_, _, rfl, rfl, rfl⟩⟩, hl37, hc38⟩ := RowR.at (prE_ok (slE_ok (iE_ok _)) (prE_ok (iE_ok _) (iE_ok _))) h_notices ([]) g27.1 hx28
   refine ov (v_indexO Try.underlying24 Try.sizeOf40 rfl ha34 rfl g27) rfl ?_
   refine shO_on (b := true) 20 rfl (Env.isT rfl c25) ?_
   refine ov (v_fieldAddr fa_40_2 rfl) rfl ?_
   refine shO_on (b := true) 20 rfl (Env.isT rfl c25) ?_
   refine ov (v_load Try.isAgg3 rfl hs35 (hc38 2 (by decide))) rfl ?_
   refine shO_on (b := true) 20 rfl (Env.isT rfl c25) ?_
   refine ov (v_leqK rfl rfl) rfl ?_
   refine shO_on (b := false) 16 rfl rfl ?_
   refine ov (v_pick_t (evD_true rfl c25) rfl) rfl ?_
   refine ov (v_pick_f rfl rfl) rfl ?_
   refine oa rfl rfl (shO_nil (shW_ret ?_))
   refine q_res1 Try.results57 (res_tmp rfl) (sr) ?_
   obtain rfl := inj1 r29
   exact rfl
 have r42 := ite_f r24 c25; clear r24
 refine shO_off (b' := false) 20 rfl (Env.isF rfl c25) rfl rfl (shO_off (b' := false) 20 rfl (Env.isF rfl c25) rfl rfl (shO_off (b' := false) 20 rfl (Env.isF rfl c25) rfl rfl (shO_off (b' := false) 20 rfl (Env.isF rfl c25) rfl rfl (shO_off (b' := false) 20 rfl (Env.isF rfl c25) rfl rfl (shO_off (b' := false) 20 rfl (Env.isF rfl c25) rfl rfl (shO_off (b' := false) 20 rfl (Env.isF rfl c25) rfl rfl (shO_off (b' := false) 20 rfl (Env.isF rfl c25) rfl rfl (shO_off (b' := false) 20 rfl (Env.isF rfl c25) rfl rfl (shO_off (b' := false) 20 rfl (Env.isF rfl c25) rfl rfl ?_)))))))))
 refine shO_off (b' := false) 20 rfl (Env.isF rfl c25) rfl rfl (shO_on (b := false) 16 rfl rfl ?_)
 refine ov (v_pick_f (evD_false rfl c25) rfl) rfl ?_
 refine ov (v_pick_f rfl rfl) rfl ?_
 refine oa rfl rfl (shO_nil (shW_ret ?_))
 refine q_res1 Try.results57 (res_tmp rfl) (sr) ?_
 obtain rfl := inj1 r42
 exact rfl
end Go.Proofs.Ytfmapnhfamoecab
