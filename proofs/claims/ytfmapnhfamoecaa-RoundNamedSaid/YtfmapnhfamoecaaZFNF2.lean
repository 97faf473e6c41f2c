/- The walks that this claim needs, printed by a program of mine; part 2. -/
import Derived.Test.YtfmapnhfamoecaaZFNF1
namespace Go.Proofs.Ytfmapnhfamoecaa
open Go.SH Go.PL
set_option maxHeartbeats 1000000 in
theorem round_crier_served_1_w {b_c b_c_ : Nat} {walks_a : Option Addr} {walks_c : Nat} {walks : List (List Int)} {hears_a : Option Addr} {hears_c : Nat} {hears : List (List Int)} {houses start : Int} {notices_a : Option Addr} {notices_c : Nat} {notices : List ((List Int) × Int × Int)} {walks2 : List Int} {pairs_a : Option Addr} {pairs_c : Nat} {pairs : List (Int × Int)} {hit : List Int} {mb_c_ mb_c : Nat × Nat} {b_set_ : Nat} {set_ : Int} {mb_set_ : Nat × Nat} {F : FS} (hb_c : F b_c = some (.cells #[.pointer (some ⟨b_c_, 0, none⟩)] 67 mb_c)) (hb_c_ : F b_c_ = some (.cells ((([.slice walks_a walks.length walks_c] : List Value) ++ (([.slice hears_a hears.length hears_c] : List Value) ++ (([.int .i64 houses] : List Value) ++ (([.int .i64 start] : List Value) ++ (([.slice notices_a notices.length notices_c] : List Value) ++ (walks2.flatMap (cI .i64) ++ (([.slice pairs_a pairs.length pairs_c] : List Value) ++ (hit.flatMap (cI .i64))))))))).toArray) 102 mb_c_)) (_h_walks : RowR 1 (slE 1 (iE .i64)) F walks_a walks_c walks) (h_hears : RowR 1 (slE 1 (iE .i64)) F hears_a hears_c hears) (h_notices : RowR 3 (prE (slE 1 (iE .i64)) (prE (iE .i64) (iE .i64))) F notices_a notices_c notices) (h_walks2 : walks2.length = 25) (_h_pairs : RowR 2 (prE (iE .i64) (iE .i64)) F pairs_a pairs_c pairs) (h_hit : hit.length = 15) (hb_set_ : F b_set_ = some (.cells #[.int .i64 set_] 3 mb_set_)) {xs : List ((Int × Int) × Int)} (hr : round_crier_served_1 walks hears houses start notices walks2 pairs hit set_ = some xs) :
    IterOK Try.prog 78 #[] #[.pointer (some ⟨b_c, 0, none⟩), .pointer (some ⟨b_set_, 0, none⟩)] F (fun x : (Int × Int) × Int => #[.agg ((cP (cI .i64) (cI .i64)) x.1).toArray, .int .i64 x.2]) xs := by
 intro G0 hG0 yv J Jx hJm hJxm hy Fc L0 hG hJ0
 replace hb_c := (hG0.trans hG) _ _ hb_c
 replace hb_c_ := (hG0.trans hG) _ _ hb_c_
 replace h_hears := h_hears.mono (slE_ok (iE_ok _)) (hG0.trans hG)
 replace h_notices := h_notices.mono (prE_ok (slE_ok (iE_ok _)) (prE_ok (iE_ok _) (iE_ok _))) (hG0.trans hG)
 replace hb_set_ := (hG0.trans hG) _ _ hb_set_
 have hfull0 : xs = [] ++ xs := rfl
 show SH.Spec Try.prog 78 #[yv, .pointer (some ⟨b_c, 0, none⟩), .pointer (some ⟨b_set_, 0, none⟩)] Fc L0 _
 refine spec_of_shW (args := [yv, .pointer (some ⟨b_c, 0, none⟩), .pointer (some ⟨b_set_, 0, none⟩)]) Try.func78 rfl Try.ntmps78 (nbL rfl) ?_
 intro K _ _; rw [round_crier_served_1] at hr; refine shW_L (L' := L0 ++ []) (by simp) ?_
 refine wsr ?_
 refine ov (v_load Try.isAgg67 rfl (Has.frozen hb_c) rfl) rfl ?_
 refine ov (v_nilCheck rfl) rfl ?_
 refine ov (v_fieldAddr fa_102_0 rfl) rfl ?_
 refine ov (v_fieldAddr fa_26_1 rfl) rfl ?_
 refine ov (v_load Try.isAgg23 rfl (Has.frozen hb_c_) (li_cell (li_skip (A := ([.slice walks_a walks.length walks_c] : List Value)) (k := 1) (o := 0) rfl (li_here (B := ([.int .i64 houses] : List Value) ++ (([.int .i64 start] : List Value) ++ (([.slice notices_a notices.length notices_c] : List Value) ++ (walks2.flatMap (cI .i64) ++ (([.slice pairs_a pairs.length pairs_c] : List Value) ++ (hit.flatMap (cI .i64))))))) rfl)))) rfl ?_
 refine ov (v_lenS Try.underlying23 rfl) rfl ?_
 refine om rfl rfl (shO_nil ?_)
 refine shW_block ?_
 refine shW_lp (fun fu1 e1 F1 L1 => ∃ (tl : List (List Int)) (k : Int), tl.length = fu1 ∧ Lst hears k tl ∧ ∃ (pre1 : List ((Int × Int) × Int)) (rem2 : List ((Int × Int) × Int)) (Lj3 : LH), round_crier_served_1_l1 notices hit set_ tl k = some rem2 ∧ FExt Fc F1 ∧ L1 = (Lj3 ++ []) ∧ e1.sub [(0, yv), (1, .pointer (some ⟨b_c, 0, none⟩)), (2, .pointer (some ⟨b_set_, 0, none⟩)), (12, .int .i64 (hears.length : Int)), (13, .int .i64 k)] ∧ xs = pre1 ++ rem2 ∧ J pre1 F1 Lj3 ∧ FExt G0 F1) _ (m0 kr ⟨_, _, rfl, Lst.start _, [], xs, L0, hr, FExt.refl _, rfl, (sc rfl (sc rfl (sc rfl (sc rfl (sc rfl (sn _)))))), hfull0, hJ0, hG⟩) ?_
 rintro fu1 e1 F10 _ ⟨tl, k, hn7, hk6, pre1, rem2, Lj3, r8, hF11, rfl, he9, hfull5, hJ4, hG⟩
 refine shW_env _ he9 ?_
 replace h_hears := h_hears.mono (slE_ok (iE_ok _)) hF11
 replace h_notices := h_notices.mono (prE_ok (slE_ok (iE_ok _)) (prE_ok (iE_ok _) (iE_ok _))) hF11
 replace hb_c_ := hF11 _ _ hb_c_
 replace hb_c := hF11 _ _ hb_c
 replace hb_set_ := hF11 _ _ hb_set_
 refine wsr ?_
 refine ov (v_lssK rfl rfl) rfl ?_
 refine shO_nil (shW_seq ?_)
 refine shW_condP rfl (fun c13 => ?_) (fun c13 => ?_)
 · obtain ⟨x, tl2, rfl, hx15, g16, hk14⟩ := Lst.succ hk6 c13
   rw [round_crier_served_1_l1] at r8
   refine shW_skip ?_
   refine shW_join (fun e1 F1 L1 => ∃ (pre17 : List ((Int × Int) × Int)) (rem18 : List ((Int × Int) × Int)) (Lj19 : LH), round_crier_served_1_j2 k (round_crier_served_1_l1 notices hit set_ tl2) = some rem18 ∧ FExt F10 F1 ∧ L1 = (Lj19 ++ []) ∧ e1.sub [(0, yv), (1, .pointer (some ⟨b_c, 0, none⟩)), (2, .pointer (some ⟨b_set_, 0, none⟩)), (12, .int .i64 (hears.length : Int)), (13, .int .i64 k)] ∧ xs = pre17 ++ rem18 ∧ J pre17 F1 Lj19 ∧ FExt G0 F1) ?_ ?_
   · refine shW_block ?_
     refine wsr (om rfl rfl (oa rfl rfl (nsr ?_)))
     refine ov (v_load Try.isAgg67 rfl (Has.frozen hb_c) rfl) rfl ?_
     refine ov (v_nilCheck rfl) rfl ?_
     refine ov (v_fieldAddr fa_102_0 rfl) rfl ?_
     refine ov (v_fieldAddr fa_26_4 rfl) rfl ?_
     refine ov (v_load Try.isAgg24 rfl (Has.frozen hb_c_) (li_cell (li_skip (A := ([.slice walks_a walks.length walks_c] : List Value)) (k := 1) (o := 3) rfl (li_skip (A := ([.slice hears_a hears.length hears_c] : List Value)) (k := 1) (o := 2) rfl (li_skip (A := ([.int .i64 houses] : List Value)) (k := 1) (o := 1) rfl (li_skip (A := ([.int .i64 start] : List Value)) (k := 1) (o := 0) rfl (li_here (B := walks2.flatMap (cI .i64) ++ (([.slice pairs_a pairs.length pairs_c] : List Value) ++ (hit.flatMap (cI .i64)))) rfl))))))) rfl ?_
     refine ov (v_lenS Try.underlying24 rfl) rfl ?_
     refine om rfl rfl (shO_nil ?_)
     refine shW_block ?_
     refine shW_lp (fun fu3 e1 F1 L1 => ∃ (tl3 : List ((List Int) × Int × Int)) (k2 : Int), tl3.length = fu3 ∧ Lst notices k2 tl3 ∧ ∃ (pre22 : List ((Int × Int) × Int)) (rem23 : List ((Int × Int) × Int)) (Lj24 : LH), round_crier_served_1_l3 hit set_ k (round_crier_served_1_l1 notices hit set_ tl2) tl3 k2 = some rem23 ∧ FExt F10 F1 ∧ L1 = (Lj24 ++ []) ∧ e1.sub [(0, yv), (1, .pointer (some ⟨b_c, 0, none⟩)), (2, .pointer (some ⟨b_set_, 0, none⟩)), (4, .int .i64 k), (12, .int .i64 (hears.length : Int)), (13, .int .i64 k), (21, .int .i64 (notices.length : Int)), (22, .int .i64 k2)] ∧ xs = pre22 ++ rem23 ∧ J pre22 F1 Lj24 ∧ FExt G0 F1) _ (m0 kr ⟨_, _, rfl, Lst.start _, pre1, rem2, Lj3, r8, FExt.refl _, rfl, (sc rfl (sc rfl (sc rfl (sc rfl (sc rfl (sc rfl (sc rfl (sc rfl (sn _))))))))), hfull5, hJ4, hG⟩) ?_
     rintro fu3 e1 F31 _ ⟨tl3, k2, hn28, hk27, pre22, rem23, Lj24, r29, hF32, rfl, he30, hfull26, hJ25, hG⟩
     refine shW_env _ he30 ?_
     replace h_notices := h_notices.mono (prE_ok (slE_ok (iE_ok _)) (prE_ok (iE_ok _) (iE_ok _))) hF32
     replace hb_c_ := hF32 _ _ hb_c_
     replace hb_c := hF32 _ _ hb_c
     replace hb_set_ := hF32 _ _ hb_set_
     refine wsr ?_
     refine ov (v_lssK rfl rfl) rfl ?_
     refine shO_nil (shW_seq ?_)
     refine shW_condP rfl (fun c34 => ?_) (fun c34 => ?_)
     · obtain ⟨x2, tl4, rfl, hx36, g37, hk35⟩ := Lst.succ hk27 c34
       rw [round_crier_served_1_l3] at r29
       refine shW_skip (shW_seq ?_)
       refine shW_block ?_
       refine wsr (om rfl rfl (oa rfl rfl ?_))
       refine nsd (by kernel_rfl) (by kernel_rfl) (by kernel_rfl) ?_
       refine qv (v_load Try.isAgg3 rfl (Has.frozen hb_set_) rfl) rfl ?_
       refine qv (v_load Try.isAgg67 rfl (Has.frozen hb_c) rfl) rfl ?_
       refine qm rfl rfl (qm rfl rfl ?_)
       refine qv (v_nilCheck rfl) rfl ?_
       refine qv (v_fieldAddr fa_102_3 rfl) rfl ?_
       obtain ⟨g38, r39⟩ := gd_ok r29
       refine qv (v_indexA Try.underlying100 Try.sizeOf99 rfl rfl g38) rfl ?_
       obtain ⟨g40, r41⟩ := gd_ok r39
       obtain ⟨x3, g42, hx43, r44⟩ := ix_ok r41
       have hq46 : (k * 3 + k2 : Int).toNat = (k : Int).toNat * 3 + (k2 : Int).toNat := by have := g38; have := g40; omega
       have hc45 := el_at2 (cI_ok .i64) h_hit hq46 hx43 (li_arr (li_skip (A := ([.slice walks_a walks.length walks_c] : List Value)) (k := 1) (o := 30) rfl (li_skip (A := ([.slice hears_a hears.length hears_c] : List Value)) (k := 1) (o := 29) rfl (li_skip (A := ([.int .i64 houses] : List Value)) (k := 1) (o := 28) rfl (li_skip (A := ([.int .i64 start] : List Value)) (k := 1) (o := 27) rfl (li_skip (A := ([.slice notices_a notices.length notices_c] : List Value)) (k := 1) (o := 26) rfl (li_skip (A := walks2.flatMap (cI .i64)) (k := 25) (o := 1) (lfl (cI_ok .i64) h_walks2) (li_skip (A := ([.slice pairs_a pairs.length pairs_c] : List Value)) (k := 1) (o := 0) rfl (li_end (lfl (cI_ok .i64) h_hit)))))))))) (li_le (li_skip (A := ([.slice walks_a walks.length walks_c] : List Value)) (k := 1) (o := 30) rfl (li_skip (A := ([.slice hears_a hears.length hears_c] : List Value)) (k := 1) (o := 29) rfl (li_skip (A := ([.int .i64 houses] : List Value)) (k := 1) (o := 28) rfl (li_skip (A := ([.int .i64 start] : List Value)) (k := 1) (o := 27) rfl (li_skip (A := ([.slice notices_a notices.length notices_c] : List Value)) (k := 1) (o := 26) rfl (li_skip (A := walks2.flatMap (cI .i64)) (k := 25) (o := 1) (lfl (cI_ok .i64) h_walks2) (li_skip (A := ([.slice pairs_a pairs.length pairs_c] : List Value)) (k := 1) (o := 0) rfl (li_end (lfl (cI_ok .i64) h_hit))))))))))
       refine qv (v_indexA Try.underlying99 Try.sizeOf3 rfl rfl g40) rfl ?_
       refine qv (v_load Try.isAgg3 rfl (Has.frozen hb_c_) ((hc45).2.2 0 (by decide))) rfl ?_
       refine qv (v_andNot rfl rfl) rfl ?_
       refine qa rfl rfl (qsr (om rfl rfl ?_))
       refine ov (v_load Try.isAgg3 rfl (Has.frozen hb_set_) rfl) rfl ?_
       refine ov (v_neq rfl rfl) rfl ?_
       refine om rfl rfl ?_
       by_cases c47 : (bandn set_ x3) ≠ set_
       · have r48 := ite_t r44 c47
         refine shO_on (b := true) 38 rfl (Env.isT rfl c47) (om rfl rfl (shO_on (b := true) 38 rfl (Env.isT rfl c47) (om rfl rfl (shO_on (b := true) 38 rfl (Env.isT rfl c47) (om rfl rfl (shO_on (b := true) 38 rfl (Env.isT rfl c47) ?_))))))
         refine ov (v_build (v := .agg #[.int .i64 k, .int .i64 k2]) rfl (by intro w; kernel_rfl)) rfl ?_
         refine shO_on (b := true) 38 rfl (Env.isT rfl c47) (om rfl rfl (shO_on (b := true) 38 rfl (Env.isT rfl c47) ?_))
         obtain ⟨tl49, r51, hx50⟩ := yl_ok r48
         refine o_callC (Lb := Lj24) (Lr := []) (vs := [.agg #[.int .i64 k, .int .i64 k2], .int .i64 (bandn set_ x3)]) rfl rfl rfl fP (hy pre22 ((k, k2), bandn set_ x3) tl49 (by rw [hfull26, hx50]) _ _ hG hJ25) ?_
         rintro v59 F52 Lj53 hF54 hz55; obtain ⟨yb56, rfl, hbt57, hbf58⟩ := yield_bool hz55
         replace h_notices := h_notices.mono (prE_ok (slE_ok (iE_ok _)) (prE_ok (iE_ok _) (iE_ok _))) hF54
         replace hG := hG.trans hF54
         refine shO_on (b := true) 38 rfl (Env.isT rfl c47) ?_
         refine ov (v_notB rfl) rfl ?_
         refine ov (v_pick_t (evD_true rfl c47) rfl) rfl ?_
         refine shO_nil ?_
         refine shW_cond rfl (fun c60 => ?_) (fun c60 => ?_)
         · have hJ61 := hbf58 (by simpa using c60)
           refine shW_ret (inBlock_ret (andThen_ret (andThen_ret (inBlock_ret (inBlock_ret (andThen_ret (andThen_ret (inBlock_ret ?_))))))))
           refine q_end0s (.inl rfl) Try.results78 (sr) ?_
           exact .inr (by rw [List.append_nil]; exact hJ61)
         have hJ62 := hbt57 (by simpa using c60)
         have hfull63 : xs = (pre22 ++ [((k, k2), bandn set_ x3)]) ++ tl49 := by rw [hfull26, hx50]; simp
         refine shW_skip (inBlock_n (id := 3) (shW_region ?_))
         refine ov (v_add rfl rfl (Lst.r64 hk27 c34 (RowR.lt h_notices))) rfl ?_
         refine om rfl rfl (shO_nil ?_)
         subst hn28; exact le kr ⟨_, _, rfl, hk35, pre22 ++ [((k, k2), bandn set_ x3)], tl49, Lj53, r51, (hF32.trans hF54), rfl, (sc rfl (sc rfl (sc rfl (sc rfl (sc rfl (sc rfl (sc rfl (sc rfl (sn _))))))))), hfull63, hJ62, hG⟩
       have r64 := ite_f r44 c47
       refine shO_off (b' := false) 38 rfl (Env.isF rfl c47) rfl rfl (shO_off (b' := false) 38 rfl (Env.isF rfl c47) rfl rfl (shO_off (b' := false) 38 rfl (Env.isF rfl c47) rfl rfl (shO_off (b' := false) 38 rfl (Env.isF rfl c47) rfl rfl (shO_off (b' := false) 38 rfl (Env.isF rfl c47) rfl rfl (shO_off (b' := false) 38 rfl (Env.isF rfl c47) rfl rfl (shO_off (b' := false) 38 rfl (Env.isF rfl c47) rfl rfl ?_))))))
       refine ov (v_pick_f (evD_false rfl c47) rfl) rfl ?_
       refine shO_nil ?_
       refine shW_cond rfl (fun c65 => nomatch c65) (fun c65 => ?_)
       refine shW_skip (inBlock_n (id := 3) (shW_region ?_))
       refine ov (v_add rfl rfl (Lst.r64 hk27 c34 (RowR.lt h_notices))) rfl ?_
       refine om rfl rfl (shO_nil ?_)
       subst hn28; exact le kr ⟨_, _, rfl, hk35, pre22, rem23, Lj24, r64, hF32, rfl, (sc rfl (sc rfl (sc rfl (sc rfl (sc rfl (sc rfl (sc rfl (sc rfl (sn _))))))))), hfull26, hJ25, hG⟩
     obtain rfl := Lst.zero hk27 c34
     rw [round_crier_served_1_l3] at r29
     refine shW_exit (andThen_exit (andThen_exit ?_))
     refine inBlock_exit ?_
     refine inBlock_n (id := 1) ?_
     exact mi kr ⟨pre22, rem23, Lj24, r29, hF32, rfl, (sc rfl (sc rfl (sc rfl (sc rfl (sc rfl (sn _)))))), hfull26, hJ25, hG⟩
   rintro e1 F68 _ ⟨pre17, rem18, Lj19, r66, hF69, rfl, he67, hfull21, hJ20, hG⟩
   refine shW_env _ he67 ?_
   replace h_hears := h_hears.mono (slE_ok (iE_ok _)) hF69
   rw [round_crier_served_1_j2] at r66
   refine shW_region ?_
   refine ov (v_add rfl rfl (Lst.r64 hk6 c13 (RowR.lt h_hears))) rfl ?_
   refine om rfl rfl (shO_nil ?_)
   subst hn7; exact le kr ⟨_, _, rfl, hk14, pre17, rem18, Lj19, r66, (hF11.trans hF69), rfl, (sc rfl (sc rfl (sc rfl (sc rfl (sc rfl (sn _)))))), hfull21, hJ20, hG⟩
 obtain rfl := Lst.zero hk6 c13
 rw [round_crier_served_1_l1] at r8
 refine shW_exit (andThen_exit (andThen_exit ?_))
 refine inBlock_exit ?_
 refine q_end0s (.inr rfl) Try.results78 (sr) ?_
 obtain rfl := inj1 r8
 exact .inl (by have e1 := hfull5; rw [List.append_nil] at e1; rw [List.append_nil, e1]; exact hJ4)
set_option maxHeartbeats 1000000 in
theorem round_crier_served_w {b_c : Nat} {walks_a : Option Addr} {walks_c : Nat} {walks : List (List Int)} {hears_a : Option Addr} {hears_c : Nat} {hears : List (List Int)} {houses start : Int} {notices_a : Option Addr} {notices_c : Nat} {notices : List ((List Int) × Int × Int)} {walks2 : List Int} {pairs_a : Option Addr} {pairs_c : Nat} {pairs : List (Int × Int)} {hit : List Int} {mb_c : Nat × Nat} {set_ : Int} {F : FS} (hb_c : F b_c = some (.cells ((([.slice walks_a walks.length walks_c] : List Value) ++ (([.slice hears_a hears.length hears_c] : List Value) ++ (([.int .i64 houses] : List Value) ++ (([.int .i64 start] : List Value) ++ (([.slice notices_a notices.length notices_c] : List Value) ++ (walks2.flatMap (cI .i64) ++ (([.slice pairs_a pairs.length pairs_c] : List Value) ++ (hit.flatMap (cI .i64))))))))).toArray) 102 mb_c)) (h_walks : RowR 1 (slE 1 (iE .i64)) F walks_a walks_c walks) (h_hears : RowR 1 (slE 1 (iE .i64)) F hears_a hears_c hears) (h_notices : RowR 3 (prE (slE 1 (iE .i64)) (prE (iE .i64) (iE .i64))) F notices_a notices_c notices) (h_walks2 : walks2.length = 25) (h_pairs : RowR 2 (prE (iE .i64) (iE .i64)) F pairs_a pairs_c pairs) (h_hit : hit.length = 15) {r : List ((Int × Int) × Int)} (hr : round_crier_served walks hears houses start notices walks2 pairs hit set_ = some r) :
    SH.Spec Try.prog 56 #[.pointer (some ⟨b_c, 0, none⟩), .int .i64 set_] F [] fun F' L' v => ∃ (rcp : Array Value), v = .func (.func 78) #[] rcp ∧ L' = [] ∧ IterOK Try.prog 78 #[] rcp F' (fun x : (Int × Int) × Int => #[.agg ((cP (cI .i64) (cI .i64)) x.1).toArray, .int .i64 x.2]) r := by
 refine spec_of_shW (args := [.pointer (some ⟨b_c, 0, none⟩), .int .i64 set_]) Try.func56 rfl Try.ntmps56 (nbL rfl) ?_
 intro K _ _; rw [round_crier_served] at hr
 refine wsr ?_
 refine o_box rfl rfl ?_; intro b1 hb1
 refine o_box rfl rfl ?_; intro b2 hb2
 refine oa rfl rfl (nsr ?_)
 refine ov (v_makeFunc rfl rfl) rfl ?_
 refine oa rfl rfl (shO_nil ?_)
 refine shW_freeze 1 rfl hb1 ?_; intro F3 hF4 hz5
 refine shW_L (L' := [(b2, .cells #[.int .i64 set_] 3 (0, 0))]) rfl ?_
 replace h_walks := h_walks.mono (slE_ok (iE_ok _)) hF4
 replace h_hears := h_hears.mono (slE_ok (iE_ok _)) hF4
 replace h_notices := h_notices.mono (prE_ok (slE_ok (iE_ok _)) (prE_ok (iE_ok _) (iE_ok _))) hF4
 replace h_pairs := h_pairs.mono (prE_ok (iE_ok _) (iE_ok _)) hF4
 replace hb_c := hF4 _ _ hb_c
 refine shW_freeze 0 rfl hb2 ?_; intro F6 hF7 hz8
 refine shW_L (L' := []) rfl ?_
 replace h_walks := h_walks.mono (slE_ok (iE_ok _)) hF7
 replace h_hears := h_hears.mono (slE_ok (iE_ok _)) hF7
 replace h_notices := h_notices.mono (prE_ok (slE_ok (iE_ok _)) (prE_ok (iE_ok _) (iE_ok _))) hF7
 replace h_pairs := h_pairs.mono (prE_ok (iE_ok _) (iE_ok _)) hF7
 replace hb_c := hF7 _ _ hb_c
 replace hz5 := hF7 _ _ hz5
 obtain ⟨l, h9, r11⟩ := b1_ok hr
 have hit10 : IterOK Try.prog 78 #[] #[.pointer (some ⟨b1, 0, none⟩), .pointer (some ⟨b2, 0, none⟩)] F6 (fun x : (Int × Int) × Int => #[.agg ((cP (cI .i64) (cI .i64)) x.1).toArray, .int .i64 x.2]) l := round_crier_served_1_w hz5 hb_c h_walks h_hears h_notices h_walks2 h_pairs h_hit hz8 h9
 refine shW_ret ?_
 refine q_res1 Try.results56 (res_tmp rfl) (sr) ?_
 obtain rfl := inj1 r11
 exact ⟨_, rfl, rfl, hit10⟩
set_option maxHeartbeats 1000000 in
theorem slices_Reverse_round_Cry_round_Cry_w {s__a : Option Addr} {s__n s__c : Nat} {s__L : LH} {s_ : List (Int × Int)} {s__nb : Nat} {F : FS} (h_s_ : SlR s__nb 93 2 (prE (iE .i64) (iE .i64)) F s__a s__n s__c s_ s__L) {r : List (Int × Int)} (hr : slices_Reverse_round_Cry_round_Cry s_ = some r) :
    SH.Spec Try.prog 57 #[.slice s__a s__n s__c] F (s__L ++ []) fun F' L' v => ∃ (rL : LH), v = .tuple #[] ∧ L' = rL ++ [] ∧ SlR s__nb 93 2 (prE (iE .i64) (iE .i64)) F' s__a s__n s__c r rL := by
 refine spec_of_shW (args := [.slice s__a s__n s__c]) Try.func57 rfl Try.ntmps57 (nbL rfl) ?_
 intro K _ _; rw [slices_Reverse_round_Cry_round_Cry] at hr
 refine shW_L (L' := s__L ++ []) (by simp) ?_
 refine wsr (om rfl rfl ?_)
 refine ov ((v_lenS Try.underlying34 rfl).i (SlR.lenI h_s_)) rfl ?_
 obtain ⟨g1, r2⟩ := gd_ok hr
 refine ov (v_sub rfl rfl g1) rfl ?_
 refine oa rfl rfl (oa rfl rfl (shO_nil ?_))
 refine shW_block ?_
 refine shW_lp (fun fu1 e1 F1 L1 => ∃ (s_2 : List (Int × Int)) (i : Int) (j : Int) (Lb3 : LH), slices_Reverse_round_Cry_round_Cry_l1 fu1 s_2 i j = some r ∧ F = F1 ∧ L1 = (Lb3 ++ []) ∧ e1.sub [(0, .slice s__a s__n s__c), (2, .int .i64 i), (3, .int .i64 j)] ∧ SlR s__nb 93 2 (prE (iE .i64) (iE .i64)) F1 s__a s__n s__c s_2 Lb3) FU (m0 kr ⟨s_, 0, (s_.length : Int) - 1, s__L, r2, rfl, rfl, (sc rfl (sc rfl (sc rfl (sn _)))), h_s_⟩) ?_
 rintro fu1 e1 _ _ ⟨s_2, i, j, Lb3, r7, rfl, rfl, he8, hz4⟩
 refine shW_env _ he8 ?_
 rcases fu1 with _ | fu1
 · rw [slices_Reverse_round_Cry_round_Cry_l1] at r7; cases r7
 rw [slices_Reverse_round_Cry_round_Cry_l1] at r7
 refine shW_seq (wsr (om rfl rfl (om rfl rfl ?_)))
 refine ov (v_lssK rfl rfl) rfl ?_
 refine shO_nil ?_
 refine shW_condP rfl (fun c9 => ?_) (fun c9 => ?_)
 · have r10 := ite_t r7 c9
   refine shW_skip (shW_seq ?_)
   refine shW_block ?_
   refine shW_drawM [(.still, 0), (.still, 1), (.still, 2), (.still, 3), (.still, 4), (.still, 5), (.still, 6), (.still, 7), (.still, 8), (.still, 9), (.still, 10), (.still, 11), (.still, 12), (.seq, 13), (.still, 14), (.seq, 15)] (by kernel_rfl) (by kernel_rfl) (trivial) (by rfl) (by kernel_rfl) ?_
   refine shM_v (v := .slice s__a s__n s__c) (ek := [(0, .slice s__a s__n s__c)]) (Ls := []) rfl rfl rfl rfl ((sc rfl (sn _))) (by kernel_rfl) sm (fun H F' L' hF' hL' => v_move rfl) ?_
   refine shM_v (v := .int .i64 i) (ek := [(2, .int .i64 i)]) (Ls := []) rfl rfl rfl rfl ((sc rfl (sn _))) (by kernel_rfl) sm (fun H F' L' hF' hL' => v_move rfl) ?_
   refine shM_v (v := .slice s__a s__n s__c) (ek := [(0, .slice s__a s__n s__c)]) (Ls := []) rfl rfl rfl rfl ((sc rfl (sn _))) (by kernel_rfl) sm (fun H F' L' hF' hL' => v_move rfl) ?_
   refine shM_v (v := .int .i64 j) (ek := [(3, .int .i64 j)]) (Ls := []) rfl rfl rfl rfl ((sc rfl (sn _))) (by kernel_rfl) sm (fun H F' L' hF' hL' => v_move rfl) ?_
   refine shM_v (v := .slice s__a s__n s__c) (ek := [(0, .slice s__a s__n s__c)]) (Ls := []) rfl rfl rfl rfl ((sc rfl (sn _))) (by kernel_rfl) sm (fun H F' L' hF' hL' => v_move rfl) ?_
   refine shM_v (v := .int .i64 j) (ek := [(3, .int .i64 j)]) (Ls := []) rfl rfl rfl rfl ((sc rfl (sn _))) (by kernel_rfl) sm (fun H F' L' hF' hL' => v_move rfl) ?_
   obtain ⟨x, g11, hx12, r13⟩ := ix_ok r10
   obtain ⟨b14, o15, c16, vs17, ha18, hs19, hle20, ⟨_, _, rfl, rfl, rfl⟩, hl21, hc22⟩ := SlR.at (prE_ok (iE_ok _) (iE_ok _)) hz4 (L := Lb3 ++ []) fP g11.1 hx12
   refine shM_v (v := .pointer (some ⟨b14, o15 + (j : Int).toNat * 2, none⟩)) (ek := [(18, .slice s__a s__n s__c), (19, .int .i64 j)]) (Ls := []) rfl rfl rfl rfl ((sc rfl (sc rfl (sn _)))) (by kernel_rfl) sm (fun H F' L' hF' hL' => v_indexO Try.underlying34 Try.sizeOf93 rfl ha18 rfl (SlR.idx hz4 g11)) ?_
   refine shM_v (v := .agg #[.int .i64 x.1, .int .i64 x.2]) (ek := [(20, .pointer (some ⟨b14, o15 + (j : Int).toNat * 2, none⟩))]) (Ls := Lb3 ++ []) rfl rfl rfl rfl ((sc rfl (sn _))) (by kernel_rfl) (s0 sr) (fun H F' L' hF' hL' => v_loadA (cs := #[.int .i64 x.1, .int .i64 x.2]) Try.isAgg93 Try.sizeOf93 rfl (hs19.ext hF' hL') hle20 (extract_cells hle20 hl21 hc22)) ?_
   refine shM_v (v := .slice s__a s__n s__c) (ek := [(0, .slice s__a s__n s__c)]) (Ls := []) rfl rfl rfl rfl ((sc rfl (sn _))) (by kernel_rfl) sm (fun H F' L' hF' hL' => v_move rfl) ?_
   refine shM_v (v := .int .i64 i) (ek := [(2, .int .i64 i)]) (Ls := []) rfl rfl rfl rfl ((sc rfl (sn _))) (by kernel_rfl) sm (fun H F' L' hF' hL' => v_move rfl) ?_
   obtain ⟨x2, g23, hx24, r25⟩ := ix_ok r13
   obtain ⟨b26, o27, c28, vs29, ha30, hs31, hle32, ⟨_, _, rfl, rfl, rfl⟩, hl33, hc34⟩ := SlR.at (prE_ok (iE_ok _) (iE_ok _)) hz4 (L := Lb3 ++ []) fP g23.1 hx24
   refine shM_v (v := .pointer (some ⟨b26, o27 + (i : Int).toNat * 2, none⟩)) (ek := [(22, .slice s__a s__n s__c), (23, .int .i64 i)]) (Ls := []) rfl rfl rfl rfl ((sc rfl (sc rfl (sn _)))) (by kernel_rfl) sm (fun H F' L' hF' hL' => v_indexO Try.underlying34 Try.sizeOf93 rfl ha30 rfl (SlR.idx hz4 g23)) ?_
   refine shM_v (v := .agg #[.int .i64 x2.1, .int .i64 x2.2]) (ek := [(24, .pointer (some ⟨b26, o27 + (i : Int).toNat * 2, none⟩))]) (Ls := Lb3 ++ []) rfl rfl rfl rfl ((sc rfl (sn _))) (by kernel_rfl) (s0 sr) (fun H F' L' hF' hL' => v_loadA (cs := #[.int .i64 x2.1, .int .i64 x2.2]) Try.isAgg93 Try.sizeOf93 rfl (hs31.ext hF' hL') hle32 (extract_cells hle32 hl33 hc34)) ?_
   obtain ⟨b35, o36, c37, vs38, ha39, hs40, hle41, ⟨_, _, rfl, rfl, rfl⟩, hl42, hc43⟩ := SlR.at (prE_ok (iE_ok _) (iE_ok _)) hz4 (L := Lb3 ++ []) fP g23.1 hx24
   refine shM_v (v := .pointer (some ⟨b35, o36 + (i : Int).toNat * 2, none⟩)) (ek := [(14, .slice s__a s__n s__c), (15, .int .i64 i)]) (Ls := []) rfl rfl rfl rfl ((sc rfl (sc rfl (sn _)))) (by kernel_rfl) sm (fun H F' L' hF' hL' => v_indexO Try.underlying34 Try.sizeOf93 rfl ha39 rfl (SlR.idx hz4 g23)) ?_
   refine ⟨_, [(21, .agg #[.int .i64 x.1, .int .i64 x.2]), (26, .pointer (some ⟨b35, o36 + (i : Int).toNat * 2, none⟩))], rfl, rfl, (sc rfl (sc rfl (sn _))), by kernel_rfl, ?_⟩; intro H
   obtain ⟨l, h44, r45⟩ := bv_ok r25
   refine o_storeZ (u := (x.1, x.2)) Try.sizeOf93 (prE_ok (iE_ok _) (iE_ok _)) rfl ha39 rfl ⟨_, _, rfl, rfl, rfl⟩ (fun _ => .h) hz4 h44 g23 ?_; intro Lb46 hz47
   refine shO_nil ⟨undef, rfl, FExt.refl _, [3, 2], by kernel_rfl, .inl (.inr (fun d h => by cases h)), (List.forall_mem_cons.2 ⟨sm, (List.forall_mem_cons.2 ⟨sm, (fun _ h => absurd h List.not_mem_nil)⟩)⟩), ?_⟩
   obtain ⟨x3, g48, hx49, r50⟩ := ix_ok r45
   obtain ⟨b51, o52, c53, vs54, ha55, hs56, hle57, ⟨_, _, rfl, rfl, rfl⟩, hl58, hc59⟩ := SlR.at (prE_ok (iE_ok _) (iE_ok _)) hz47 (L := Lb46 ++ []) fP g48.1 hx49
   refine shM_v (v := .pointer (some ⟨b51, o52 + (j : Int).toNat * 2, none⟩)) (ek := [(16, .slice s__a s__n s__c), (17, .int .i64 j)]) (Ls := []) rfl rfl rfl rfl ((sc rfl (sc rfl (sn _)))) (by kernel_rfl) sm (fun H F' L' hF' hL' => v_indexO Try.underlying34 Try.sizeOf93 rfl ha55 rfl (SlR.idx hz47 g48)) ?_
   refine ⟨_, [(25, .agg #[.int .i64 x2.1, .int .i64 x2.2]), (27, .pointer (some ⟨b51, o52 + (j : Int).toNat * 2, none⟩))], rfl, rfl, (sc rfl (sc rfl (sn _))), by kernel_rfl, ?_⟩; intro H
   obtain ⟨l2, h60, r61⟩ := bv_ok r50
   refine o_storeZ (u := (x2.1, x2.2)) Try.sizeOf93 (prE_ok (iE_ok _) (iE_ok _)) rfl ha55 rfl ⟨_, _, rfl, rfl, rfl⟩ (fun _ => .h) hz47 h60 g48 ?_; intro Lb62 hz63
   refine shO_nil ⟨undef, rfl, FExt.refl _, [], by kernel_rfl, .inl (.inl rfl), (fun _ h => absurd h List.not_mem_nil), ?_⟩
   refine shM_nil ?_
   refine inBlock_n (id := 1) (shW_region (om rfl rfl ?_))
   obtain ⟨g64, r65⟩ := gd_ok r61
   refine ov (v_add rfl rfl g64) rfl ?_
   refine om rfl rfl ?_
   obtain ⟨g66, r67⟩ := gd_ok r65
   refine ov (v_sub rfl rfl g66) rfl ?_
   refine oa rfl rfl (oa rfl rfl (shO_nil ?_))
   exact le kr ⟨l2, i + 1, j - 1, Lb62, r67, rfl, rfl, (sc rfl (sc rfl (sc rfl (sn _)))), hz63⟩
 have r68 := ite_f r7 c9
 refine shW_exit (andThen_exit (andThen_exit ?_))
 refine inBlock_exit ?_
 refine q_end0 (.inr rfl) Try.results57 ?_
 obtain rfl := inj1 r68
 exact ⟨_, rfl, rfl, hz4⟩
set_option maxHeartbeats 1000000 in
theorem round_crier_serve_w {b_c : Nat} {walks_a : Option Addr} {walks_c : Nat} {walks : List (List Int)} {hears_a : Option Addr} {hears_c : Nat} {hears : List (List Int)} {houses start : Int} {notices_a : Option Addr} {notices_c : Nat} {notices : List ((List Int) × Int × Int)} {walks2 : List Int} {pairs_a : Option Addr} {pairs_c : Nat} {pairs : List (Int × Int)} {hit : List Int} {mb_c : Nat × Nat} {set_ : Int} {ok_f : FuncId} {ok_1 ok_2 : Array Value} {ok : (Int × Int) → Option Bool} {F : FS} (hb_c : F b_c = some (.cells ((([.slice walks_a walks.length walks_c] : List Value) ++ (([.slice hears_a hears.length hears_c] : List Value) ++ (([.int .i64 houses] : List Value) ++ (([.int .i64 start] : List Value) ++ (([.slice notices_a notices.length notices_c] : List Value) ++ (walks2.flatMap (cI .i64) ++ (([.slice pairs_a pairs.length pairs_c] : List Value) ++ (hit.flatMap (cI .i64))))))))).toArray) 102 mb_c)) (h_walks : RowR 1 (slE 1 (iE .i64)) F walks_a walks_c walks) (h_hears : RowR 1 (slE 1 (iE .i64)) F hears_a hears_c hears) (h_notices : RowR 3 (prE (slE 1 (iE .i64)) (prE (iE .i64) (iE .i64))) F notices_a notices_c notices) (h_walks2 : walks2.length = 25) (h_pairs : RowR 2 (prE (iE .i64) (iE .i64)) F pairs_a pairs_c pairs) (h_hit : hit.length = 15) (h_ok : FnR Try.prog F ok_f ok_1 ok_2 (prE (iE .i64) (iE .i64)) Value.bool ok) {r : List (Int × Int)} {r2 : Int} {r3 : Bool} (hr : round_crier_serve walks hears houses start notices walks2 pairs hit set_ ok = some (r, r2, r3)) :
    SH.Spec Try.prog 27 #[.pointer (some ⟨b_c, 0, none⟩), .int .i64 set_, .agg #[.func (.func ok_f) ok_1 ok_2]] F [] fun F' L' v => ∃ (ra : Option Addr) (rn : Nat) (rc : Nat) (rL : LH), v = .tuple #[.slice ra rn rc, .int .i64 r2, .bool r3] ∧ L' = rL ++ [] ∧ SlR 0 93 2 (prE (iE .i64) (iE .i64)) F' ra rn rc r rL := by
 refine spec_of_shW (args := [.pointer (some ⟨b_c, 0, none⟩), .int .i64 set_, .agg #[.func (.func ok_f) ok_1 ok_2]]) Try.func27 rfl Try.ntmps27 (nbL rfl) ?_
 intro K _ _; rw [round_crier_serve] at hr
 refine wsr ?_
 refine o_box rfl rfl ?_; intro b1 hb1
 refine o_box rfl rfl ?_; intro b2 hb2
 refine oa rfl rfl (oa rfl rfl (oa rfl rfl (nsr ?_)))
 refine o_makeMap rfl ?_; intro b3 hb3
 refine ov (v_load Try.isAgg67 rfl (Has.own 2 rfl) rfl) rfl ?_
 refine ov (v_nilCheck rfl) rfl ?_
 refine ov (v_fieldAddr fa_102_0 rfl) rfl ?_
 refine ov (v_fieldAddr fa_26_3 rfl) rfl ?_
 refine ov (v_load Try.isAgg3 rfl (Has.frozen hb_c) (li_cell (li_skip (A := ([.slice walks_a walks.length walks_c] : List Value)) (k := 1) (o := 2) rfl (li_skip (A := ([.slice hears_a hears.length hears_c] : List Value)) (k := 1) (o := 1) rfl (li_skip (A := ([.int .i64 houses] : List Value)) (k := 1) (o := 0) rfl (li_here (B := ([.slice notices_a notices.length notices_c] : List Value) ++ (walks2.flatMap (cI .i64) ++ (([.slice pairs_a pairs.length pairs_c] : List Value) ++ (hit.flatMap (cI .i64))))) rfl)))))) rfl ?_
 refine om rfl rfl ?_
 refine ov (v_build (v := .agg #[.int .i64 start, .int .i64 set_]) rfl (by intro w; kernel_rfl)) rfl ?_
 refine ov (v_build (v := .agg #[.int .i64 0, .int .i64 0, .int .i64 0, .int .i64 0, .int .i64 0]) rfl (by intro w; kernel_rfl)) rfl ?_
 refine o_insert (i := 0) (k := (start, set_)) (v := (0, 0, 0, 0, 0)) Try.underlying113 key_110 rfl rfl rfl rfl (show MapR (vA (cP (cI .i64) (cI .i64))) (vA (cP (cI .i64) (cP (cI .i64) (cP (cI .i64) (cP (cI .i64) (cI .i64)))))) #[] ([] : List ((Int × Int) × (Int × Int × Int × Int × Int))) from MapR.nil) ?_; intro es4 cl5 hR6
 obtain ⟨met, h7, r8⟩ := bv_ok hr
 rw [← h7] at hR6
 refine shO_L (L' := [(b3, .map es4 cl5), (b2, .cells #[.func (.func ok_f) ok_1 ok_2] 76 (0, 0)), (b1, .cells #[.pointer (some ⟨b_c, 0, none⟩)] 67 (0, 0))]) rfl ?_
 refine om rfl rfl ?_
 refine o_alloc rfl Try.zeroValue113 ?_; intro b9 hb9
 refine o_store (i := 0) Try.sizeOf113 rfl rfl rfl rfl (nbL rfl) ?_
 refine shO_L (L' := [(b9, .cells #[.map (some b3)] 113 (0, 0)), (b3, .map es4 cl5), (b2, .cells #[.func (.func ok_f) ok_1 ok_2] 76 (0, 0)), (b1, .cells #[.pointer (some ⟨b_c, 0, none⟩)] 67 (0, 0))]) rfl ?_
 refine shO_nil ?_
 obtain ⟨met2, h13, r14⟩ := b1_ok r8
 refine shW_join (fun e1 F1 L1 => ∃ (es10 : Array MapEntry) (cl11 : Nat), FExt F F1 ∧ L1 = [(b9, .cells #[.map (some b3)] 113 (0, 0)), (b3, .map es10 cl11), (b1, .cells #[.pointer (some ⟨b_c, 0, none⟩)] 67 (0, 0))] ∧ e1.sub [(1, .int .i64 set_), (3, .pointer (some ⟨b1, 0, none⟩)), (9, .pointer (some ⟨b9, 0, none⟩))] ∧ MapR (vA (cP (cI .i64) (cI .i64))) (vA (cP (cI .i64) (cP (cI .i64) (cP (cI .i64) (cP (cI .i64) (cI .i64)))))) es10 met2) ?_ ?_
 · clear r14
   refine wsr (om rfl rfl (oa rfl rfl (shO_nil ?_)))
   refine shW_block ?_
   refine shW_lp (fun fu1 e1 F1 L1 => ∃ (met3 : List ((Int × Int) × (Int × Int × Int × Int × Int))) (left_ : Int) (es15 : Array MapEntry) (cl16 : Nat), round_crier_serve_l1 walks hears houses start notices walks2 pairs hit set_ ok fu1 met3 left_ = some met2 ∧ FExt F F1 ∧ L1 = [(b9, .cells #[.map (some b3)] 113 (0, 0)), (b3, .map es15 cl16), (b2, .cells #[.func (.func ok_f) ok_1 ok_2] 76 (0, 0)), (b1, .cells #[.pointer (some ⟨b_c, 0, none⟩)] 67 (0, 0))] ∧ e1.sub [(1, .int .i64 set_), (3, .pointer (some ⟨b1, 0, none⟩)), (5, .pointer (some ⟨b2, 0, none⟩)), (9, .pointer (some ⟨b9, 0, none⟩)), (10, .int .i64 left_)] ∧ MapR (vA (cP (cI .i64) (cI .i64))) (vA (cP (cI .i64) (cP (cI .i64) (cP (cI .i64) (cP (cI .i64) (cI .i64)))))) es15 met3) FU (m0 kr ⟨met, set_, es4, cl5, h13, FExt.refl _, rfl, (sc rfl (sc rfl (sc rfl (sc rfl (sc rfl (sn _)))))), hR6⟩) ?_
   rintro fu1 e1 F22 _ ⟨met3, left_, es15, cl16, r20, hF23, rfl, he21, hR17⟩
   refine shW_env _ he21 ?_
   replace h_walks := h_walks.mono (slE_ok (iE_ok _)) hF23
   replace h_hears := h_hears.mono (slE_ok (iE_ok _)) hF23
   replace h_notices := h_notices.mono (prE_ok (slE_ok (iE_ok _)) (prE_ok (iE_ok _) (iE_ok _))) hF23
   replace h_pairs := h_pairs.mono (prE_ok (iE_ok _) (iE_ok _)) hF23
   replace h_ok := h_ok.mono hF23
   replace hb_c := hF23 _ _ hb_c
   rcases fu1 with _ | fu1
   · rw [round_crier_serve_l1] at r20; cases r20
   rw [round_crier_serve_l1] at r20
   refine shW_seq (wsr (om rfl rfl ?_))
   refine ov (v_gtrK rfl rfl) rfl ?_
   refine shO_nil ?_
   refine shW_condP rfl (fun c24 => ?_) (fun c24 => ?_)
   · have r25 := ite_t r20 c24
     refine shW_skip ?_
     obtain ⟨met4, h29, r30⟩ := b1_ok r25
     refine shW_join (fun e1 F1 L1 => ∃ (es26 : Array MapEntry) (cl27 : Nat), FExt F22 F1 ∧ L1 = [(b9, .cells #[.map (some b3)] 113 (0, 0)), (b3, .map es26 cl27), (b2, .cells #[.func (.func ok_f) ok_1 ok_2] 76 (0, 0)), (b1, .cells #[.pointer (some ⟨b_c, 0, none⟩)] 67 (0, 0))] ∧ e1.sub [(1, .int .i64 set_), (3, .pointer (some ⟨b1, 0, none⟩)), (5, .pointer (some ⟨b2, 0, none⟩)), (9, .pointer (some ⟨b9, 0, none⟩)), (10, .int .i64 left_)] ∧ MapR (vA (cP (cI .i64) (cI .i64))) (vA (cP (cI .i64) (cP (cI .i64) (cP (cI .i64) (cP (cI .i64) (cI .i64)))))) es26 met4) ?_ ?_
     · clear r30
       refine shW_block ?_
       refine shW_seq (wsr (om rfl rfl (om rfl rfl ?_)))
       refine ov (v_andNot rfl rfl) rfl ?_
       refine ov (v_neq rfl rfl) rfl ?_
       refine shO_nil ?_
       refine shW_condP rfl (fun c31 => ?_) (fun c31 => ?_)
       · have r32 := ite_t h29 c31
         refine shW_exit (andThen_exit ?_)
         refine inBlock_exit ?_
         obtain rfl := inj1 r32
         exact mi kr ⟨es15, cl16, FExt.refl _, rfl, (sc rfl (sc rfl (sc rfl (sc rfl (sc rfl (sn _)))))), hR17⟩
       have r33 := ite_f h29 c31
       refine shW_skip (wsr ?_)
       refine ov (v_load Try.isAgg67 rfl (Has.own 3 rfl) rfl) rfl ?_
       refine ov (v_nilCheck rfl) rfl ?_
       refine ov (v_fieldAddr fa_102_0 rfl) rfl ?_
       refine ov (v_fieldAddr fa_26_1 rfl) rfl ?_
       refine ov (v_load Try.isAgg23 rfl (Has.frozen hb_c) (li_cell (li_skip (A := ([.slice walks_a walks.length walks_c] : List Value)) (k := 1) (o := 0) rfl (li_here (B := ([.int .i64 houses] : List Value) ++ (([.int .i64 start] : List Value) ++ (([.slice notices_a notices.length notices_c] : List Value) ++ (walks2.flatMap (cI .i64) ++ (([.slice pairs_a pairs.length pairs_c] : List Value) ++ (hit.flatMap (cI .i64))))))) rfl)))) rfl ?_
       refine ov (v_lenS Try.underlying23 rfl) rfl ?_
       refine om rfl rfl (shO_nil ?_)
       refine shW_block ?_
       refine shW_lp (fun fu2 e1 F1 L1 => ∃ (tl : List (List Int)) (k : Int), tl.length = fu2 ∧ Lst hears k tl ∧ ∃ (met5 : List ((Int × Int) × (Int × Int × Int × Int × Int))) (es34 : Array MapEntry) (cl35 : Nat), round_crier_serve_l2 walks hears houses start notices walks2 pairs hit ok left_ tl k met5 = some met4 ∧ FExt F22 F1 ∧ L1 = [(b9, .cells #[.map (some b3)] 113 (0, 0)), (b3, .map es34 cl35), (b2, .cells #[.func (.func ok_f) ok_1 ok_2] 76 (0, 0)), (b1, .cells #[.pointer (some ⟨b_c, 0, none⟩)] 67 (0, 0))] ∧ e1.sub [(1, .int .i64 set_), (3, .pointer (some ⟨b1, 0, none⟩)), (5, .pointer (some ⟨b2, 0, none⟩)), (9, .pointer (some ⟨b9, 0, none⟩)), (10, .int .i64 left_), (53, .int .i64 (hears.length : Int)), (54, .int .i64 k)] ∧ MapR (vA (cP (cI .i64) (cI .i64))) (vA (cP (cI .i64) (cP (cI .i64) (cP (cI .i64) (cP (cI .i64) (cI .i64)))))) es34 met5) _ (m0 kr ⟨_, _, rfl, Lst.start _, met3, es15, cl16, r33, FExt.refl _, rfl, (sc rfl (sc rfl (sc rfl (sc rfl (sc rfl (sc rfl (sc rfl (sn _)))))))), hR17⟩) ?_
       rintro fu2 e1 F41 _ ⟨tl, k, hn38, hk37, met5, es34, cl35, r39, hF42, rfl, he40, hR36⟩
       refine shW_env _ he40 ?_
       replace h_walks := h_walks.mono (slE_ok (iE_ok _)) hF42
       replace h_hears := h_hears.mono (slE_ok (iE_ok _)) hF42
       replace h_notices := h_notices.mono (prE_ok (slE_ok (iE_ok _)) (prE_ok (iE_ok _) (iE_ok _))) hF42
       replace h_pairs := h_pairs.mono (prE_ok (iE_ok _) (iE_ok _)) hF42
       replace h_ok := h_ok.mono hF42
       replace hb_c := hF42 _ _ hb_c
       refine wsr ?_
       refine ov (v_lssK rfl rfl) rfl ?_
       refine shO_nil (shW_seq ?_)
       refine shW_condP rfl (fun c44 => ?_) (fun c44 => ?_)
       · obtain ⟨x, tl2, rfl, hx46, g47, hk45⟩ := Lst.succ hk37 c44
         rw [round_crier_serve_l2] at r39
         refine shW_skip ?_
         obtain ⟨met6, h51, r52⟩ := b1_ok r39
         refine shW_join (fun e1 F1 L1 => ∃ (es48 : Array MapEntry) (cl49 : Nat), FExt F41 F1 ∧ L1 = [(b9, .cells #[.map (some b3)] 113 (0, 0)), (b3, .map es48 cl49), (b2, .cells #[.func (.func ok_f) ok_1 ok_2] 76 (0, 0)), (b1, .cells #[.pointer (some ⟨b_c, 0, none⟩)] 67 (0, 0))] ∧ e1.sub [(1, .int .i64 set_), (3, .pointer (some ⟨b1, 0, none⟩)), (5, .pointer (some ⟨b2, 0, none⟩)), (9, .pointer (some ⟨b9, 0, none⟩)), (10, .int .i64 left_), (53, .int .i64 (hears.length : Int)), (54, .int .i64 k)] ∧ MapR (vA (cP (cI .i64) (cI .i64))) (vA (cP (cI .i64) (cP (cI .i64) (cP (cI .i64) (cP (cI .i64) (cI .i64)))))) es48 met6) ?_ ?_
         · clear r52
           refine shW_block ?_
           refine wsr (om rfl rfl ?_)
           refine o_alloc rfl Try.zeroValue3 ?_; intro b53 hb53
           refine o_store (i := 0) Try.sizeOf3 rfl rfl rfl rfl (nbL rfl) ?_
           refine shO_L (L' := [(b53, .cells #[.int .i64 k] 3 (0, 0)), (b9, .cells #[.map (some b3)] 113 (0, 0)), (b3, .map es34 cl35), (b2, .cells #[.func (.func ok_f) ok_1 ok_2] 76 (0, 0)), (b1, .cells #[.pointer (some ⟨b_c, 0, none⟩)] 67 (0, 0))]) rfl ?_
           refine nsr ?_
           refine ov (v_load Try.isAgg3 rfl (Has.own 0 rfl) rfl) rfl ?_
           refine om rfl rfl ?_
           refine ov (v_build (v := .agg #[.int .i64 k, .int .i64 left_]) rfl (by intro w; kernel_rfl)) rfl ?_
           refine o_alloc rfl Try.zeroValue110 ?_; intro b54 hb54
           refine o_storeA (i := 0) Try.sizeOf110 rfl rfl rfl (by simp [Value.oneCell']) rfl (nbL rfl) ?_
           refine shO_L (L' := [(b54, .cells #[.int .i64 k, .int .i64 left_] 110 (0, 0)), (b53, .cells #[.int .i64 k] 3 (0, 0)), (b9, .cells #[.map (some b3)] 113 (0, 0)), (b3, .map es34 cl35), (b2, .cells #[.func (.func ok_f) ok_1 ok_2] 76 (0, 0)), (b1, .cells #[.pointer (some ⟨b_c, 0, none⟩)] 67 (0, 0))]) rfl ?_
           refine nsr ?_
           refine ov (v_load Try.isAgg113 rfl (Has.own 2 rfl) rfl) rfl ?_
           refine ov (v_loadA (cs := #[.int .i64 k, .int .i64 left_]) Try.isAgg110 Try.sizeOf110 rfl (Has.own 0 rfl) (nbL rfl) rfl) rfl ?_
           refine ov (OpV.eq (v' := .tuple #[.agg #[.int .i64 (((mget met5 (k, left_)).getD (0, 0, 0, 0, 0)).1), .int .i64 (((mget met5 (k, left_)).getD (0, 0, 0, 0, 0)).2.1), .int .i64 (((mget met5 (k, left_)).getD (0, 0, 0, 0, 0)).2.2.1), .int .i64 (((mget met5 (k, left_)).getD (0, 0, 0, 0, 0)).2.2.2.1), .int .i64 (((mget met5 (k, left_)).getD (0, 0, 0, 0, 0)).2.2.2.2)], .bool ((mget met5 (k, left_)).isSome)]) (v_lookS2 (k := (k, left_)) (z0 := (0, 0, 0, 0, 0)) rfl Try.underlying113 key_110 Try.zeroValue112 rfl rfl (HasM.own 3 rfl) (show MapR (vA (cP (cI .i64) (cI .i64))) (vA (cP (cI .i64) (cP (cI .i64) (cP (cI .i64) (cP (cI .i64) (cI .i64)))))) es34 (met5 : List ((Int × Int) × (Int × Int × Int × Int × Int))) from hR36)) rfl) rfl ?_
           refine om rfl rfl (ox rfl rfl rfl (ox rfl rfl rfl ?_))
           refine o_alloc rfl Try.zeroValue112 ?_; intro b55 hb55
           refine o_storeA (i := 0) Try.sizeOf112 rfl rfl rfl (by simp [Value.oneCell']) rfl (nbL rfl) ?_
           refine shO_L (L' := [(b55, .cells #[.int .i64 (((mget met5 (k, left_)).getD (0, 0, 0, 0, 0)).1), .int .i64 (((mget met5 (k, left_)).getD (0, 0, 0, 0, 0)).2.1), .int .i64 (((mget met5 (k, left_)).getD (0, 0, 0, 0, 0)).2.2.1), .int .i64 (((mget met5 (k, left_)).getD (0, 0, 0, 0, 0)).2.2.2.1), .int .i64 (((mget met5 (k, left_)).getD (0, 0, 0, 0, 0)).2.2.2.2)] 112 (0, 0)), (b54, .cells #[.int .i64 k, .int .i64 left_] 110 (0, 0)), (b53, .cells #[.int .i64 k] 3 (0, 0)), (b9, .cells #[.map (some b3)] 113 (0, 0)), (b3, .map es34 cl35), (b2, .cells #[.func (.func ok_f) ok_1 ok_2] 76 (0, 0)), (b1, .cells #[.pointer (some ⟨b_c, 0, none⟩)] 67 (0, 0))]) rfl ?_
           refine oa rfl rfl (shO_nil (shW_seq (wsr (om rfl rfl ?_))))
           refine ov (v_notB rfl) rfl ?_
           refine shO_nil ?_
           refine shW_cond rfl (fun c56 => ?_) (fun c56 => ?_)
           · have r57 := bt h51 c56
             refine shW_exit (andThen_exit ?_)
             refine inBlock_exit ?_
             obtain rfl := inj1 r57
             exact mi (kd (kd (kd kr))) ⟨es34, cl35, FExt.refl _, rfl, (sc rfl (sc rfl (sc rfl (sc rfl (sc rfl (sc rfl (sc rfl (sn _)))))))), hR36⟩
           have r58 := bf h51 c56
           refine shW_skip (wsr ?_)
           refine ov (v_load Try.isAgg67 rfl (Has.own 6 rfl) rfl) rfl ?_
           refine om rfl rfl ?_
           obtain ⟨y, h59, r60⟩ := b1_ok r58
           refine o_call0 rfl Try.call56 rfl rfl rfl (round_crier_served_w hb_c h_walks h_hears h_notices h_walks2 h_pairs h_hit h59) ?_; rintro _ F61 _ hF62 hn63 ⟨cp65, rfl, rfl, hit66⟩
           replace h_notices := h_notices.mono (prE_ok (slE_ok (iE_ok _)) (prE_ok (iE_ok _) (iE_ok _))) hF62
           replace h_ok := h_ok.mono hF62
           replace hb_c := hF62 _ _ hb_c
           refine shO_L (ln rfl) ?_
           refine shO_nil ?_
           refine shW_block ?_
           refine shW_rangeFunc (encs := (fun x : (Int × Int) × Int => #[.agg ((cP (cI .i64) (cI .i64)) x.1).toArray, .int .i64 x.2])) (xs := y) rfl Try.call78 rfl (fun _ => rfl) hit66 (fun pre F1 L1 => ∃ (tl3 : List ((Int × Int) × Int)) (met7 : List ((Int × Int) × (Int × Int × Int × Int × Int))) (es67 : Array MapEntry) (cl68 : Nat), y = pre ++ tl3 ∧ round_crier_serve_l3 notices walks2 ok left_ met5 k tl3 met7 = some met6 ∧ L1 = [(b55, .cells #[.int .i64 (((mget met5 (k, left_)).getD (0, 0, 0, 0, 0)).1), .int .i64 (((mget met5 (k, left_)).getD (0, 0, 0, 0, 0)).2.1), .int .i64 (((mget met5 (k, left_)).getD (0, 0, 0, 0, 0)).2.2.1), .int .i64 (((mget met5 (k, left_)).getD (0, 0, 0, 0, 0)).2.2.2.1), .int .i64 (((mget met5 (k, left_)).getD (0, 0, 0, 0, 0)).2.2.2.2)] 112 (0, 0)), (b54, .cells #[.int .i64 k, .int .i64 left_] 110 (0, 0)), (b53, .cells #[.int .i64 k] 3 (0, 0)), (b9, .cells #[.map (some b3)] 113 (0, 0)), (b3, .map es67 cl68), (b2, .cells #[.func (.func ok_f) ok_1 ok_2] 76 (0, 0)), (b1, .cells #[.pointer (some ⟨b_c, 0, none⟩)] 67 (0, 0))] ∧ MapR (vA (cP (cI .i64) (cI .i64))) (vA (cP (cI .i64) (cP (cI .i64) (cP (cI .i64) (cP (cI .i64) (cI .i64)))))) es67 met7) (fun _ _ _ => False) ?_ ?_ ?_ ?_ ?_ ?_
           · rintro pre F1 F2 L1 ⟨tl3, met7, es67, cl68, hs70, r71, rfl, hR69⟩ hx; exact ⟨tl3, met7, es67, cl68, hs70, r71, rfl, hR69⟩
           · intro c F1 F2 L1 h hx; exact h
           · exact ⟨_, met5, es34, cl35, rfl, r60, rfl, hR36⟩
           · rintro l72 wr73 Fr74 Xr75 Ha76 Hb77 hnb78 hH82 pre x2 tl4 hxs81 F79 _ hF80 ⟨tl3, met7, es67, cl68, hs70, r83, rfl, hR69⟩
             obtain rfl := rest_head hs70 hxs81
             rw [round_crier_serve_l3] at r83
             replace h_notices := h_notices.mono (prE_ok (slE_ok (iE_ok _)) (prE_ok (iE_ok _) (iE_ok _))) hF80
             replace h_ok := h_ok.mono hF80
             replace hb_c := hF80 _ _ hb_c
             refine shW_env [(1, .int .i64 set_), (3, .pointer (some ⟨b1, 0, none⟩)), (5, .pointer (some ⟨b2, 0, none⟩)), (9, .pointer (some ⟨b9, 0, none⟩)), (10, .int .i64 left_), (11, .pointer (some ⟨b53, 0, none⟩)), (12, .pointer (some ⟨b54, 0, none⟩)), (13, .pointer (some ⟨b55, 0, none⟩)), (53, .int .i64 (hears.length : Int)), (54, .int .i64 k), (71, .agg #[.int .i64 x2.1.1, .int .i64 x2.1.2]), (72, .int .i64 x2.2)] (by exact (sc rfl (sc rfl (sc rfl (sc rfl (sc rfl (sc rfl (sc rfl (sc rfl (sc rfl (sc rfl (sc rfl (sc rfl (sn _)))))))))))))) ?_
             refine wsr ?_
             refine o_alloc rfl Try.zeroValue93 ?_; intro b84 hb84
             refine o_storeA (i := 0) Try.sizeOf93 rfl rfl rfl (by simp [Value.oneCell']) rfl (nbL rfl) ?_
             refine shO_L (L' := [(b84, .cells #[.int .i64 x2.1.1, .int .i64 x2.1.2] 93 (0, 0)), (b55, .cells #[.int .i64 (((mget met5 (k, left_)).getD (0, 0, 0, 0, 0)).1), .int .i64 (((mget met5 (k, left_)).getD (0, 0, 0, 0, 0)).2.1), .int .i64 (((mget met5 (k, left_)).getD (0, 0, 0, 0, 0)).2.2.1), .int .i64 (((mget met5 (k, left_)).getD (0, 0, 0, 0, 0)).2.2.2.1), .int .i64 (((mget met5 (k, left_)).getD (0, 0, 0, 0, 0)).2.2.2.2)] 112 (0, 0)), (b54, .cells #[.int .i64 k, .int .i64 left_] 110 (0, 0)), (b53, .cells #[.int .i64 k] 3 (0, 0)), (b9, .cells #[.map (some b3)] 113 (0, 0)), (b3, .map es67 cl68), (b2, .cells #[.func (.func ok_f) ok_1 ok_2] 76 (0, 0)), (b1, .cells #[.pointer (some ⟨b_c, 0, none⟩)] 67 (0, 0))]) rfl ?_
             refine shO_nil (shW_region (oa rfl rfl (shO_nil ?_)))
             refine ⟨rfl, ?_⟩
             refine shW_block ?_
             refine wsd (by kernel_rfl) (by kernel_rfl) (by kernel_rfl) ?_
             refine qv (v_load Try.isAgg67 rfl (Has.own 7 rfl) rfl) rfl ?_
             refine qv (v_load Try.isAgg3 rfl (Has.own 3 rfl) rfl) rfl ?_
             refine qv (v_fieldAddr fa_93_0 rfl) rfl ?_
             refine qv (v_load Try.isAgg3 rfl (Has.own 0 rfl) rfl) rfl ?_
             refine qv (v_nilCheck rfl) rfl ?_
             refine qv (v_fieldAddr fa_102_1 rfl) rfl ?_
             obtain ⟨g85, r86⟩ := gd_ok r83
             refine qv (v_indexA Try.underlying98 Try.sizeOf96 rfl rfl g85) rfl ?_
             obtain ⟨g87, r88⟩ := gd_ok r86
             obtain ⟨x3, g89, hx90, r91⟩ := ix_ok r88
             have hq93 : (k * 5 + x2.1.1 : Int).toNat = (k : Int).toNat * 5 + (x2.1.1 : Int).toNat := by have := g85; have := g87; omega
             have hc92 := el_at2 (cI_ok .i64) h_walks2 hq93 hx90 (li_arr (li_skip (A := ([.slice walks_a walks.length walks_c] : List Value)) (k := 1) (o := 4) rfl (li_skip (A := ([.slice hears_a hears.length hears_c] : List Value)) (k := 1) (o := 3) rfl (li_skip (A := ([.int .i64 houses] : List Value)) (k := 1) (o := 2) rfl (li_skip (A := ([.int .i64 start] : List Value)) (k := 1) (o := 1) rfl (li_skip (A := ([.slice notices_a notices.length notices_c] : List Value)) (k := 1) (o := 0) rfl (li_here (B := ([.slice pairs_a pairs.length pairs_c] : List Value) ++ (hit.flatMap (cI .i64))) (lfl (cI_ok .i64) h_walks2)))))))) (li_le (li_skip (A := ([.slice walks_a walks.length walks_c] : List Value)) (k := 1) (o := 4) rfl (li_skip (A := ([.slice hears_a hears.length hears_c] : List Value)) (k := 1) (o := 3) rfl (li_skip (A := ([.int .i64 houses] : List Value)) (k := 1) (o := 2) rfl (li_skip (A := ([.int .i64 start] : List Value)) (k := 1) (o := 1) rfl (li_skip (A := ([.slice notices_a notices.length notices_c] : List Value)) (k := 1) (o := 0) rfl (li_here (B := ([.slice pairs_a pairs.length pairs_c] : List Value) ++ (hit.flatMap (cI .i64))) (lfl (cI_ok .i64) h_walks2))))))))
             refine qv (v_indexA Try.underlying96 Try.sizeOf3 rfl rfl g87) rfl ?_
             refine qv (v_load Try.isAgg3 rfl (Has.frozen hb_c) ((hc92).2.2 0 (by decide))) rfl ?_
             refine qa rfl rfl (shQ_nil (shW_seq (wsr (om rfl rfl ?_))))
             refine ov (v_eql rfl rfl) rfl ?_
             refine shO_nil ?_
             refine shW_condP rfl (fun c94 => ?_) (fun c94 => ?_)
             · have r95 := ite_t r91 c94
               refine shW_exit (andThen_exit ?_)
               refine inBlock_exit ?_
               refine ⟨[(b55, .cells #[.int .i64 (((mget met5 (k, left_)).getD (0, 0, 0, 0, 0)).1), .int .i64 (((mget met5 (k, left_)).getD (0, 0, 0, 0, 0)).2.1), .int .i64 (((mget met5 (k, left_)).getD (0, 0, 0, 0, 0)).2.2.1), .int .i64 (((mget met5 (k, left_)).getD (0, 0, 0, 0, 0)).2.2.2.1), .int .i64 (((mget met5 (k, left_)).getD (0, 0, 0, 0, 0)).2.2.2.2)] 112 (0, 0)), (b54, .cells #[.int .i64 k, .int .i64 left_] 110 (0, 0)), (b53, .cells #[.int .i64 k] 3 (0, 0)), (b9, .cells #[.map (some b3)] 113 (0, 0)), (b3, .map es67 cl68), (b2, .cells #[.func (.func ok_f) ok_1 ok_2] 76 (0, 0)), (b1, .cells #[.pointer (some ⟨b_c, 0, none⟩)] 67 (0, 0))], ⟨_, .refl _, s1 (s2 (s2 (s2 (s2 (s2 (s2 (s2 sr)))))))⟩, ?_⟩; exact ⟨_, met7, es67, cl68, (by rw [hxs81]; simp), r95, rfl, hR69⟩
             have r96 := ite_f r91 c94
             refine shW_skip ?_
             refine wsd (by kernel_rfl) (by kernel_rfl) (by kernel_rfl) ?_
             refine qv (v_fieldAddr fa_112_0 rfl) rfl ?_
             refine qv (v_load Try.isAgg3 rfl (Has.own 1 rfl) rfl) rfl ?_
             refine qm rfl rfl ?_
             obtain ⟨g97, r98⟩ := gd_ok r96
             refine qv (v_add rfl rfl g97) rfl ?_
             refine qv (v_load Try.isAgg67 rfl (Has.own 7 rfl) rfl) rfl ?_
             refine qv (v_nilCheck rfl) rfl ?_
             refine qv (v_fieldAddr fa_102_0 rfl) rfl ?_
             refine qv (v_fieldAddr fa_26_4 rfl) rfl ?_
             refine qv (v_load Try.isAgg24 rfl (Has.frozen hb_c) (li_cell (li_skip (A := ([.slice walks_a walks.length walks_c] : List Value)) (k := 1) (o := 3) rfl (li_skip (A := ([.slice hears_a hears.length hears_c] : List Value)) (k := 1) (o := 2) rfl (li_skip (A := ([.int .i64 houses] : List Value)) (k := 1) (o := 1) rfl (li_skip (A := ([.int .i64 start] : List Value)) (k := 1) (o := 0) rfl (li_here (B := walks2.flatMap (cI .i64) ++ (([.slice pairs_a pairs.length pairs_c] : List Value) ++ (hit.flatMap (cI .i64)))) rfl))))))) rfl ?_
             refine qv (v_fieldAddr fa_93_1 rfl) rfl ?_
             refine qv (v_load Try.isAgg3 rfl (Has.own 0 rfl) rfl) rfl ?_
             obtain ⟨x4, g99, hx100, r101⟩ := ix_ok r98
             obtain ⟨b102, o103, c104, vs105, ha106, hs107, hle108, ⟨_, _, rfl, ⟨a111, c112, rfl, h113⟩, ⟨_, _, rfl, rfl, rfl⟩⟩, hl109, hc110⟩ := RowR.at (prE_ok (slE_ok (iE_ok _)) (prE_ok (iE_ok _) (iE_ok _))) h_notices ([(b84, .cells #[.int .i64 x2.1.1, .int .i64 x2.1.2] 93 (0, 0)), (b55, .cells #[.int .i64 (((mget met5 (k, left_)).getD (0, 0, 0, 0, 0)).1), .int .i64 (((mget met5 (k, left_)).getD (0, 0, 0, 0, 0)).2.1), .int .i64 (((mget met5 (k, left_)).getD (0, 0, 0, 0, 0)).2.2.1), .int .i64 (((mget met5 (k, left_)).getD (0, 0, 0, 0, 0)).2.2.2.1), .int .i64 (((mget met5 (k, left_)).getD (0, 0, 0, 0, 0)).2.2.2.2)] 112 (0, 0)), (b54, .cells #[.int .i64 k, .int .i64 left_] 110 (0, 0)), (b53, .cells #[.int .i64 k] 3 (0, 0)), (b9, .cells #[.map (some b3)] 113 (0, 0)), (b3, .map es67 cl68), (b2, .cells #[.func (.func ok_f) ok_1 ok_2] 76 (0, 0)), (b1, .cells #[.pointer (some ⟨b_c, 0, none⟩)] 67 (0, 0))]) g99.1 hx100
             refine qv (v_indexO Try.underlying24 Try.sizeOf39 rfl ha106 rfl g99) rfl ?_
             refine qv (v_fieldAddr fa_39_1 rfl) rfl ?_
             refine qv (v_load Try.isAgg3 rfl hs107 (hc110 1 (by decide))) rfl ?_
             obtain ⟨g114, r115⟩ := gd_ok r101
             refine qv (v_add rfl rfl g114) rfl ?_
             obtain ⟨end_, h116, r117⟩ := bv_ok r115
             refine qv ((v_assign rfl).i h116) rfl ?_
             refine qsr ?_
             refine ov (v_fieldAddr fa_93_0 rfl) rfl ?_
             refine ov (v_load Try.isAgg3 rfl (Has.own 0 rfl) rfl) rfl ?_
             refine om rfl rfl ?_
             refine ov (v_build (v := .agg #[.int .i64 x2.1.1, .int .i64 x2.2]) rfl (by intro w; kernel_rfl)) rfl ?_
             refine o_alloc rfl Try.zeroValue110 ?_; intro b118 hb118
             refine o_storeA (i := 0) Try.sizeOf110 rfl rfl rfl (by simp [Value.oneCell']) rfl (nbL rfl) ?_
             refine shO_L (L' := [(b118, .cells #[.int .i64 x2.1.1, .int .i64 x2.2] 110 (0, 0)), (b84, .cells #[.int .i64 x2.1.1, .int .i64 x2.1.2] 93 (0, 0)), (b55, .cells #[.int .i64 (((mget met5 (k, left_)).getD (0, 0, 0, 0, 0)).1), .int .i64 (((mget met5 (k, left_)).getD (0, 0, 0, 0, 0)).2.1), .int .i64 (((mget met5 (k, left_)).getD (0, 0, 0, 0, 0)).2.2.1), .int .i64 (((mget met5 (k, left_)).getD (0, 0, 0, 0, 0)).2.2.2.1), .int .i64 (((mget met5 (k, left_)).getD (0, 0, 0, 0, 0)).2.2.2.2)] 112 (0, 0)), (b54, .cells #[.int .i64 k, .int .i64 left_] 110 (0, 0)), (b53, .cells #[.int .i64 k] 3 (0, 0)), (b9, .cells #[.map (some b3)] 113 (0, 0)), (b3, .map es67 cl68), (b2, .cells #[.func (.func ok_f) ok_1 ok_2] 76 (0, 0)), (b1, .cells #[.pointer (some ⟨b_c, 0, none⟩)] 67 (0, 0))]) rfl ?_
             refine nsr ?_
             refine ov (v_load Try.isAgg113 rfl (Has.own 5 rfl) rfl) rfl ?_
             refine ov (v_loadA (cs := #[.int .i64 x2.1.1, .int .i64 x2.2]) Try.isAgg110 Try.sizeOf110 rfl (Has.own 0 rfl) (nbL rfl) rfl) rfl ?_
             refine ov (OpV.eq (v' := .tuple #[.agg #[.int .i64 (((mget met7 (x2.1.1, x2.2)).getD (0, 0, 0, 0, 0)).1), .int .i64 (((mget met7 (x2.1.1, x2.2)).getD (0, 0, 0, 0, 0)).2.1), .int .i64 (((mget met7 (x2.1.1, x2.2)).getD (0, 0, 0, 0, 0)).2.2.1), .int .i64 (((mget met7 (x2.1.1, x2.2)).getD (0, 0, 0, 0, 0)).2.2.2.1), .int .i64 (((mget met7 (x2.1.1, x2.2)).getD (0, 0, 0, 0, 0)).2.2.2.2)], .bool ((mget met7 (x2.1.1, x2.2)).isSome)]) (v_lookS2 (k := (x2.1.1, x2.2)) (z0 := (0, 0, 0, 0, 0)) rfl Try.underlying113 key_110 Try.zeroValue112 rfl rfl (HasM.own 6 rfl) (show MapR (vA (cP (cI .i64) (cI .i64))) (vA (cP (cI .i64) (cP (cI .i64) (cP (cI .i64) (cP (cI .i64) (cI .i64)))))) es67 (met7 : List ((Int × Int) × (Int × Int × Int × Int × Int))) from hR69)) rfl) rfl ?_
             refine om rfl rfl (ox rfl rfl rfl (ox rfl rfl rfl ?_))
             refine o_alloc rfl Try.zeroValue112 ?_; intro b119 hb119
             refine o_storeA (i := 0) Try.sizeOf112 rfl rfl rfl (by simp [Value.oneCell']) rfl (nbL rfl) ?_
             refine shO_L (L' := [(b119, .cells #[.int .i64 (((mget met7 (x2.1.1, x2.2)).getD (0, 0, 0, 0, 0)).1), .int .i64 (((mget met7 (x2.1.1, x2.2)).getD (0, 0, 0, 0, 0)).2.1), .int .i64 (((mget met7 (x2.1.1, x2.2)).getD (0, 0, 0, 0, 0)).2.2.1), .int .i64 (((mget met7 (x2.1.1, x2.2)).getD (0, 0, 0, 0, 0)).2.2.2.1), .int .i64 (((mget met7 (x2.1.1, x2.2)).getD (0, 0, 0, 0, 0)).2.2.2.2)] 112 (0, 0)), (b118, .cells #[.int .i64 x2.1.1, .int .i64 x2.2] 110 (0, 0)), (b84, .cells #[.int .i64 x2.1.1, .int .i64 x2.1.2] 93 (0, 0)), (b55, .cells #[.int .i64 (((mget met5 (k, left_)).getD (0, 0, 0, 0, 0)).1), .int .i64 (((mget met5 (k, left_)).getD (0, 0, 0, 0, 0)).2.1), .int .i64 (((mget met5 (k, left_)).getD (0, 0, 0, 0, 0)).2.2.1), .int .i64 (((mget met5 (k, left_)).getD (0, 0, 0, 0, 0)).2.2.2.1), .int .i64 (((mget met5 (k, left_)).getD (0, 0, 0, 0, 0)).2.2.2.2)] 112 (0, 0)), (b54, .cells #[.int .i64 k, .int .i64 left_] 110 (0, 0)), (b53, .cells #[.int .i64 k] 3 (0, 0)), (b9, .cells #[.map (some b3)] 113 (0, 0)), (b3, .map es67 cl68), (b2, .cells #[.func (.func ok_f) ok_1 ok_2] 76 (0, 0)), (b1, .cells #[.pointer (some ⟨b_c, 0, none⟩)] 67 (0, 0))]) rfl ?_
             refine oa rfl rfl (shO_nil ?_)
             obtain ⟨k2, h120, r121⟩ := b1_ok r117
             refine shW_join (fun e1 F1 L1 => F79 = F1 ∧ L1 = [(b118, .cells #[.int .i64 x2.1.1, .int .i64 x2.2] 110 (0, 0)), (b84, .cells #[.int .i64 x2.1.1, .int .i64 x2.1.2] 93 (0, 0)), (b55, .cells #[.int .i64 (((mget met5 (k, left_)).getD (0, 0, 0, 0, 0)).1), .int .i64 (((mget met5 (k, left_)).getD (0, 0, 0, 0, 0)).2.1), .int .i64 (((mget met5 (k, left_)).getD (0, 0, 0, 0, 0)).2.2.1), .int .i64 (((mget met5 (k, left_)).getD (0, 0, 0, 0, 0)).2.2.2.1), .int .i64 (((mget met5 (k, left_)).getD (0, 0, 0, 0, 0)).2.2.2.2)] 112 (0, 0)), (b54, .cells #[.int .i64 k, .int .i64 left_] 110 (0, 0)), (b53, .cells #[.int .i64 k] 3 (0, 0)), (b9, .cells #[.map (some b3)] 113 (0, 0)), (b3, .map es67 cl68), (b2, .cells #[.func (.func ok_f) ok_1 ok_2] 76 (0, 0)), (b1, .cells #[.pointer (some ⟨b_c, 0, none⟩)] 67 (0, 0))] ∧ e1.sub [(1, .int .i64 set_), (3, .pointer (some ⟨b1, 0, none⟩)), (5, .pointer (some ⟨b2, 0, none⟩)), (9, .pointer (some ⟨b9, 0, none⟩)), (10, .int .i64 left_), (11, .pointer (some ⟨b53, 0, none⟩)), (12, .pointer (some ⟨b54, 0, none⟩)), (13, .pointer (some ⟨b55, 0, none⟩)), (15, .pointer (some ⟨b84, 0, none⟩)), (18, .int .i64 end_), (19, .pointer (some ⟨b118, 0, none⟩)), (53, .int .i64 (hears.length : Int)), (54, .int .i64 k), (71, .agg #[.int .i64 x2.1.1, .int .i64 x2.1.2]), (72, .int .i64 x2.2), (124, .bool k2)]) ?_ ?_
             · clear r121
               refine shW_region ?_
               refine ov (v_fieldAddr fa_76_0 rfl) rfl ?_
               refine ov (v_load Try.isAgg74 rfl (Has.own 8 rfl) rfl) rfl ?_
               refine ov (v_fieldAddr fa_93_1 rfl) rfl ?_
               refine ov (v_load Try.isAgg3 rfl (Has.own 2 rfl) rfl) rfl ?_
               refine om rfl rfl ?_
               obtain ⟨ok2, h122, r123⟩ := b1_ok h120
               refine o_callV rfl h_ok.1 rfl rfl rfl (h_ok.2 _ (FExt.refl _) _ _ _ ⟨_, _, rfl, rfl, rfl⟩ h122) ?_
               refine om rfl rfl ?_
               rcases bool_two ok2 with c124 | c124
               · have r125 := bt r123 c124
                 refine shO_on (b := true) 115 rfl (EnvB rfl c124) (om rfl rfl (shO_on (b := true) 115 rfl (EnvB rfl c124) ?_))
                 refine ov (v_notB rfl) rfl ?_
                 refine shO_on (b := true) 115 rfl (EnvB rfl c124) (om rfl rfl ?_)
                 rcases bool_two (!((mget met7 (x2.1.1, x2.2)).isSome)) with c126 | c126
                 · have r127 := bt r125 c126
                   refine shO_off (b' := true) 118 rfl (EnvB rfl c126) rfl rfl (shO_off (b' := true) 118 rfl (EnvB rfl c126) rfl rfl (shO_off (b' := true) 118 rfl (EnvB rfl c126) rfl rfl (shO_off (b' := true) 118 rfl (EnvB rfl c126) rfl rfl (shO_on (b := true) 115 rfl (EnvB rfl c124) ?_))))
                   refine ov (v_pick_t (evB rfl c126) rfl) rfl ?_
                   refine ov (v_pick_t (evB rfl c124) rfl) rfl ?_
                   refine shO_nil ?_
                   obtain rfl := inj1 r127
                   exact mi (kd kr) ⟨rfl, rfl, (sc rfl (sc rfl (sc rfl (sc rfl (sc rfl (sc rfl (sc rfl (sc rfl (sc rfl (sc rfl (sc rfl (sc rfl (sc rfl (sc rfl (sc rfl (sc rfl (sn _)))))))))))))))))⟩
                 have r128 := bf r125 c126
                 refine shO_on (b := false) 118 rfl (EnvB rfl c126) (om rfl rfl (shO_on (b := false) 118 rfl (EnvB rfl c126) ?_))
                 refine ov (v_fieldAddr fa_112_0 rfl) rfl ?_
                 refine shO_on (b := false) 118 rfl (EnvB rfl c126) ?_
                 refine ov (v_load Try.isAgg3 rfl (Has.own 0 rfl) rfl) rfl ?_
                 refine shO_on (b := false) 118 rfl (EnvB rfl c126) ?_
                 refine ov (v_lssK rfl rfl) rfl ?_
                 refine shO_on (b := true) 115 rfl (EnvB rfl c124) ?_
                 refine ov (v_pick_f (evB rfl c126) rfl) rfl ?_
                 refine ov (v_pick_t (evB rfl c124) rfl) rfl ?_
                 refine shO_nil ?_
                 obtain rfl := inj1 r128
                 exact mi (kd kr) ⟨rfl, rfl, (sc rfl (sc rfl (sc rfl (sc rfl (sc rfl (sc rfl (sc rfl (sc rfl (sc rfl (sc rfl (sc rfl (sc rfl (sc rfl (sc rfl (sc rfl (sc rfl (sn _)))))))))))))))))⟩
               have r129 := bf r123 c124
               refine shO_off (b' := false) 115 rfl (EnvB rfl c124) rfl rfl (shO_off (b' := false) 115 rfl (EnvB rfl c124) rfl rfl (shO_off (b' := false) 115 rfl (EnvB rfl c124) rfl rfl (shO_offU 118 rfl rfl rfl (shO_offU 118 rfl rfl rfl (shO_offU 118 rfl rfl rfl (shO_offU 118 rfl rfl rfl (shO_off (b' := false) 115 rfl (EnvB rfl c124) rfl rfl ?_)))))))
               refine ov (v_pick_f (evB rfl c124) rfl) rfl ?_
               refine shO_nil ?_
               obtain rfl := inj1 r129
               exact mi (kd kr) ⟨rfl, rfl, (sc rfl (sc rfl (sc rfl (sc rfl (sc rfl (sc rfl (sc rfl (sc rfl (sc rfl (sc rfl (sc rfl (sc rfl (sc rfl (sc rfl (sc rfl (sc rfl (sn _)))))))))))))))))⟩
             rintro e1 _ _ ⟨rfl, rfl, he130⟩
             refine shW_env _ he130 ?_
             refine shW_cond rfl (fun c131 => ?_) (fun c131 => ?_)
             · have r132 := bt r121 c131
               refine shW_region ?_
               refine ov (v_load Try.isAgg113 rfl (Has.own 5 rfl) rfl) rfl ?_
               refine ov (v_loadA (cs := #[.int .i64 x2.1.1, .int .i64 x2.2]) Try.isAgg110 Try.sizeOf110 rfl (Has.own 0 rfl) (nbL rfl) rfl) rfl ?_
               refine om rfl rfl ?_
               refine ov (v_loadA (cs := #[.int .i64 x2.1.1, .int .i64 x2.1.2]) Try.isAgg93 Try.sizeOf93 rfl (Has.own 1 rfl) (nbL rfl) rfl) rfl ?_
               refine ov (v_loadA (cs := #[.int .i64 k, .int .i64 left_]) Try.isAgg110 Try.sizeOf110 rfl (Has.own 3 rfl) (nbL rfl) rfl) rfl ?_
               refine ov (v_build (v := .agg #[.int .i64 end_, .int .i64 x2.1.1, .int .i64 x2.1.2, .int .i64 k, .int .i64 left_]) rfl (by intro w; kernel_rfl)) rfl ?_
               refine o_mapUpdate (i := 6) (k := (x2.1.1, x2.2)) (v := (end_, x2.1.1, x2.1.2, k, left_)) Try.underlying113 key_110 rfl rfl rfl rfl (show MapR (vA (cP (cI .i64) (cI .i64))) (vA (cP (cI .i64) (cP (cI .i64) (cP (cI .i64) (cP (cI .i64) (cI .i64)))))) es67 (met7 : List ((Int × Int) × (Int × Int × Int × Int × Int))) from hR69) ?_; intro es133 cl134 hR135
               obtain ⟨met8, h136, r137⟩ := bv_ok r132
               rw [← h136] at hR135
               refine shO_L (L' := [(b118, .cells #[.int .i64 x2.1.1, .int .i64 x2.2] 110 (0, 0)), (b84, .cells #[.int .i64 x2.1.1, .int .i64 x2.1.2] 93 (0, 0)), (b55, .cells #[.int .i64 (((mget met5 (k, left_)).getD (0, 0, 0, 0, 0)).1), .int .i64 (((mget met5 (k, left_)).getD (0, 0, 0, 0, 0)).2.1), .int .i64 (((mget met5 (k, left_)).getD (0, 0, 0, 0, 0)).2.2.1), .int .i64 (((mget met5 (k, left_)).getD (0, 0, 0, 0, 0)).2.2.2.1), .int .i64 (((mget met5 (k, left_)).getD (0, 0, 0, 0, 0)).2.2.2.2)] 112 (0, 0)), (b54, .cells #[.int .i64 k, .int .i64 left_] 110 (0, 0)), (b53, .cells #[.int .i64 k] 3 (0, 0)), (b9, .cells #[.map (some b3)] 113 (0, 0)), (b3, .map es133 cl134), (b2, .cells #[.func (.func ok_f) ok_1 ok_2] 76 (0, 0)), (b1, .cells #[.pointer (some ⟨b_c, 0, none⟩)] 67 (0, 0))]) rfl ?_
               refine shO_nil (inBlock_n (id := 5) ?_)
               refine ⟨[(b55, .cells #[.int .i64 (((mget met5 (k, left_)).getD (0, 0, 0, 0, 0)).1), .int .i64 (((mget met5 (k, left_)).getD (0, 0, 0, 0, 0)).2.1), .int .i64 (((mget met5 (k, left_)).getD (0, 0, 0, 0, 0)).2.2.1), .int .i64 (((mget met5 (k, left_)).getD (0, 0, 0, 0, 0)).2.2.2.1), .int .i64 (((mget met5 (k, left_)).getD (0, 0, 0, 0, 0)).2.2.2.2)] 112 (0, 0)), (b54, .cells #[.int .i64 k, .int .i64 left_] 110 (0, 0)), (b53, .cells #[.int .i64 k] 3 (0, 0)), (b9, .cells #[.map (some b3)] 113 (0, 0)), (b3, .map es133 cl134), (b2, .cells #[.func (.func ok_f) ok_1 ok_2] 76 (0, 0)), (b1, .cells #[.pointer (some ⟨b_c, 0, none⟩)] 67 (0, 0))], ⟨_, .refl _, s1 (s1 (s2 (s2 (s2 (s2 (s2 (s2 (s2 sr))))))))⟩, ?_⟩; exact ⟨_, met8, es133, cl134, (by rw [hxs81]; simp), r137, rfl, hR135⟩
             have r138 := bf r121 c131
             refine shW_skip (inBlock_n (id := 5) ?_)
             refine ⟨[(b55, .cells #[.int .i64 (((mget met5 (k, left_)).getD (0, 0, 0, 0, 0)).1), .int .i64 (((mget met5 (k, left_)).getD (0, 0, 0, 0, 0)).2.1), .int .i64 (((mget met5 (k, left_)).getD (0, 0, 0, 0, 0)).2.2.1), .int .i64 (((mget met5 (k, left_)).getD (0, 0, 0, 0, 0)).2.2.2.1), .int .i64 (((mget met5 (k, left_)).getD (0, 0, 0, 0, 0)).2.2.2.2)] 112 (0, 0)), (b54, .cells #[.int .i64 k, .int .i64 left_] 110 (0, 0)), (b53, .cells #[.int .i64 k] 3 (0, 0)), (b9, .cells #[.map (some b3)] 113 (0, 0)), (b3, .map es67 cl68), (b2, .cells #[.func (.func ok_f) ok_1 ok_2] 76 (0, 0)), (b1, .cells #[.pointer (some ⟨b_c, 0, none⟩)] 67 (0, 0))], ⟨_, .refl _, s1 (s1 (s2 (s2 (s2 (s2 (s2 (s2 (s2 sr))))))))⟩, ?_⟩; exact ⟨_, met7, es67, cl68, (by rw [hxs81]; simp), r138, rfl, hR69⟩
           · rintro F139 _ hF140 ⟨tl3, met7, es67, cl68, hs70, r141, rfl, hR69⟩
             obtain rfl := rest_nil hs70; rw [round_crier_serve_l3] at r141
             refine inBlock_n (id := 4) (inBlock_n (id := 3) ?_)
             obtain rfl := inj1 r141
             exact mi (kd (kd (kd kr))) ⟨es67, cl68, (hF62.trans hF140), rfl, (sc rfl (sc rfl (sc rfl (sc rfl (sc rfl (sc rfl (sc rfl (sn _)))))))), hR69⟩
           intro c F1 L1 hx h; exact h.elim
         rintro e1 F143 _ ⟨es48, cl49, hF144, rfl, he142, hR50⟩
         refine shW_env _ he142 ?_
         replace h_hears := h_hears.mono (slE_ok (iE_ok _)) hF144
         refine shW_region ?_
         refine ov (v_add rfl rfl (Lst.r64 hk37 c44 (RowR.lt h_hears))) rfl ?_
         refine om rfl rfl (shO_nil ?_)
         subst hn38; exact le kr ⟨_, _, rfl, hk45, met6, es48, cl49, r52, (hF42.trans hF144), rfl, (sc rfl (sc rfl (sc rfl (sc rfl (sc rfl (sc rfl (sc rfl (sn _)))))))), hR50⟩
       obtain rfl := Lst.zero hk37 c44
       rw [round_crier_serve_l2] at r39
       refine shW_exit (andThen_exit (andThen_exit ?_))
       refine inBlock_exit ?_
       refine inBlock_n (id := 1) ?_
       obtain rfl := inj1 r39
       exact mi kr ⟨es34, cl35, hF42, rfl, (sc rfl (sc rfl (sc rfl (sc rfl (sc rfl (sn _)))))), hR36⟩
     rintro e1 F146 _ ⟨es26, cl27, hF147, rfl, he145, hR28⟩
     refine shW_env _ he145 ?_
     refine shW_region (om rfl rfl ?_)
     obtain ⟨g148, r149⟩ := gd_ok r30
     refine ov (v_sub rfl rfl g148) rfl ?_
     refine oa rfl rfl (shO_nil ?_)
     exact le kr ⟨met4, left_ - 1, es26, cl27, r149, (hF23.trans hF147), rfl, (sc rfl (sc rfl (sc rfl (sc rfl (sc rfl (sn _)))))), hR28⟩
   have r150 := ite_f r20 c24
   refine shW_exit (andThen_exit (andThen_exit ?_))
   refine inBlock_exit ?_
   obtain rfl := inj1 r150
   exact mi (kc (kc (kd kr))) ⟨es15, cl16, hF23, rfl, (sc rfl (sc rfl (sc rfl (sn _)))), hR17⟩
 rintro e1 F152 _ ⟨es10, cl11, hF153, rfl, he151, hR12⟩
 refine shW_env _ he151 ?_
 replace h_hears := h_hears.mono (slE_ok (iE_ok _)) hF153
 replace hb_c := hF153 _ _ hb_c
 refine wsr ?_
 refine ov (v_build (v := .agg #[.int .i64 (-1), .int .i64 0]) rfl (by intro w; kernel_rfl)) rfl ?_
 refine o_alloc rfl Try.zeroValue110 ?_; intro b154 hb154
 refine o_storeA (i := 0) Try.sizeOf110 rfl rfl rfl (by simp [Value.oneCell']) rfl (nbL rfl) ?_
 refine shO_L (L' := [(b154, .cells #[.int .i64 (-1), .int .i64 0] 110 (0, 0)), (b9, .cells #[.map (some b3)] 113 (0, 0)), (b3, .map es10 cl11), (b1, .cells #[.pointer (some ⟨b_c, 0, none⟩)] 67 (0, 0))]) rfl ?_
 refine oa rfl rfl (shO_nil ?_)
 obtain ⟨end_stand, minute, h155, r156⟩ := b2_ok r14
 refine shW_join (fun e1 F1 L1 => F152 = F1 ∧ L1 = [(b154, .cells #[.int .i64 end_stand, .int .i64 0] 110 (0, 0)), (b9, .cells #[.map (some b3)] 113 (0, 0)), (b3, .map es10 cl11)] ∧ e1.sub [(1, .int .i64 set_), (9, .pointer (some ⟨b9, 0, none⟩)), (22, .pointer (some ⟨b154, 0, none⟩)), (23, .int .i64 minute)]) ?_ ?_
 · clear r156
   refine wsr ?_
   refine ov (v_load Try.isAgg67 rfl (Has.own 3 rfl) rfl) rfl ?_
   refine ov (v_nilCheck rfl) rfl ?_
   refine ov (v_fieldAddr fa_102_0 rfl) rfl ?_
   refine ov (v_fieldAddr fa_26_1 rfl) rfl ?_
   refine ov (v_load Try.isAgg23 rfl (Has.frozen hb_c) (li_cell (li_skip (A := ([.slice walks_a walks.length walks_c] : List Value)) (k := 1) (o := 0) rfl (li_here (B := ([.int .i64 houses] : List Value) ++ (([.int .i64 start] : List Value) ++ (([.slice notices_a notices.length notices_c] : List Value) ++ (walks2.flatMap (cI .i64) ++ (([.slice pairs_a pairs.length pairs_c] : List Value) ++ (hit.flatMap (cI .i64))))))) rfl)))) rfl ?_
   refine ov (v_lenS Try.underlying23 rfl) rfl ?_
   refine om rfl rfl (shO_nil ?_)
   refine shW_block ?_
   refine kW (kc (kc (kc kn))) ?_
   refine shW_lp (fun fu4 e1 F1 L1 => ∃ (tl5 : List (List Int)) (k3 : Int), tl5.length = fu4 ∧ Lst hears k3 tl5 ∧ ∃ (end_stand2 : Int) (minute2 : Int), round_crier_serve_l4 met2 tl5 k3 end_stand2 minute2 = some (end_stand, minute) ∧ F152 = F1 ∧ L1 = [(b154, .cells #[.int .i64 end_stand2, .int .i64 0] 110 (0, 0)), (b9, .cells #[.map (some b3)] 113 (0, 0)), (b3, .map es10 cl11)] ∧ e1.sub [(1, .int .i64 set_), (9, .pointer (some ⟨b9, 0, none⟩)), (22, .pointer (some ⟨b154, 0, none⟩)), (23, .int .i64 minute2), (138, .int .i64 (hears.length : Int)), (139, .int .i64 k3)]) _ (m0 kr ⟨_, _, rfl, Lst.start _, -1, -1, h155, rfl, rfl, (sc rfl (sc rfl (sc rfl (sc rfl (sc rfl (sc rfl (sn _)))))))⟩) ?_
   rintro fu4 e1 _ _ ⟨tl5, k3, hn158, hk157, end_stand2, minute2, r159, rfl, rfl, he160⟩
   refine shW_env _ he160 ?_
   refine wsr ?_
   refine ov (v_lssK rfl rfl) rfl ?_
   refine shO_nil (shW_seq ?_)
   refine shW_condP rfl (fun c162 => ?_) (fun c162 => ?_)
   · obtain ⟨x5, tl6, rfl, hx164, g165, hk163⟩ := Lst.succ hk157 c162
     rw [round_crier_serve_l4] at r159
     refine shW_skip (shW_seq ?_)
     refine shW_block ?_
     refine wsr (om rfl rfl (oa rfl rfl (nsr ?_)))
     refine ov (v_load Try.isAgg113 rfl (Has.own 1 rfl) rfl) rfl ?_
     refine om rfl rfl ?_
     refine ov (v_build (v := .agg #[.int .i64 k3, .int .i64 0]) rfl (by intro w; kernel_rfl)) rfl ?_
     refine ov (OpV.eq (v' := .tuple #[.agg #[.int .i64 (((mget met2 (k3, 0)).getD (0, 0, 0, 0, 0)).1), .int .i64 (((mget met2 (k3, 0)).getD (0, 0, 0, 0, 0)).2.1), .int .i64 (((mget met2 (k3, 0)).getD (0, 0, 0, 0, 0)).2.2.1), .int .i64 (((mget met2 (k3, 0)).getD (0, 0, 0, 0, 0)).2.2.2.1), .int .i64 (((mget met2 (k3, 0)).getD (0, 0, 0, 0, 0)).2.2.2.2)], .bool ((mget met2 (k3, 0)).isSome)]) (v_lookS2 (k := (k3, 0)) (z0 := (0, 0, 0, 0, 0)) rfl Try.underlying113 key_110 Try.zeroValue112 rfl rfl (HasM.own 2 rfl) (show MapR (vA (cP (cI .i64) (cI .i64))) (vA (cP (cI .i64) (cP (cI .i64) (cP (cI .i64) (cP (cI .i64) (cI .i64)))))) es10 (met2 : List ((Int × Int) × (Int × Int × Int × Int × Int))) from hR12)) rfl) rfl ?_
     refine om rfl rfl (ox rfl rfl rfl (ox rfl rfl rfl ?_))
     refine o_alloc rfl Try.zeroValue112 ?_; intro b166 hb166
     refine o_storeA (i := 0) Try.sizeOf112 rfl rfl rfl (by simp [Value.oneCell']) rfl (nbL rfl) ?_
     refine shO_L (L' := [(b166, .cells #[.int .i64 (((mget met2 (k3, 0)).getD (0, 0, 0, 0, 0)).1), .int .i64 (((mget met2 (k3, 0)).getD (0, 0, 0, 0, 0)).2.1), .int .i64 (((mget met2 (k3, 0)).getD (0, 0, 0, 0, 0)).2.2.1), .int .i64 (((mget met2 (k3, 0)).getD (0, 0, 0, 0, 0)).2.2.2.1), .int .i64 (((mget met2 (k3, 0)).getD (0, 0, 0, 0, 0)).2.2.2.2)] 112 (0, 0)), (b154, .cells #[.int .i64 end_stand2, .int .i64 0] 110 (0, 0)), (b9, .cells #[.map (some b3)] 113 (0, 0)), (b3, .map es10 cl11)]) rfl ?_
     refine oa rfl rfl (shO_nil ?_)
     obtain ⟨k4, h167, r168⟩ := b1_ok r159
     refine shW_join (fun e1 F1 L1 => F152 = F1 ∧ L1 = [(b166, .cells #[.int .i64 (((mget met2 (k3, 0)).getD (0, 0, 0, 0, 0)).1), .int .i64 (((mget met2 (k3, 0)).getD (0, 0, 0, 0, 0)).2.1), .int .i64 (((mget met2 (k3, 0)).getD (0, 0, 0, 0, 0)).2.2.1), .int .i64 (((mget met2 (k3, 0)).getD (0, 0, 0, 0, 0)).2.2.2.1), .int .i64 (((mget met2 (k3, 0)).getD (0, 0, 0, 0, 0)).2.2.2.2)] 112 (0, 0)), (b154, .cells #[.int .i64 end_stand2, .int .i64 0] 110 (0, 0)), (b9, .cells #[.map (some b3)] 113 (0, 0)), (b3, .map es10 cl11)] ∧ e1.sub [(1, .int .i64 set_), (9, .pointer (some ⟨b9, 0, none⟩)), (22, .pointer (some ⟨b154, 0, none⟩)), (23, .int .i64 minute2), (24, .int .i64 k3), (25, .pointer (some ⟨b166, 0, none⟩)), (138, .int .i64 (hears.length : Int)), (139, .int .i64 k3), (159, .bool k4)]) ?_ ?_
     · clear r168
       refine shW_region (om rfl rfl (om rfl rfl ?_))
       rcases bool_two ((mget met2 (k3, 0)).isSome) with c169 | c169
       · have r170 := bt h167 c169
         refine shO_on (b := true) 150 rfl (EnvB rfl c169) (om rfl rfl (shO_on (b := true) 150 rfl (EnvB rfl c169) ?_))
         refine ov (v_eql rfl rfl) rfl ?_
         refine shO_on (b := true) 150 rfl (EnvB rfl c169) (om rfl rfl ?_)
         by_cases c171 : minute2 = (-1)
         · have r172 := ite_t r170 c171
           refine shO_off (b' := true) 153 rfl (Env.isT rfl c171) rfl rfl (shO_off (b' := true) 153 rfl (Env.isT rfl c171) rfl rfl (shO_off (b' := true) 153 rfl (Env.isT rfl c171) rfl rfl (shO_off (b' := true) 153 rfl (Env.isT rfl c171) rfl rfl (shO_on (b := true) 150 rfl (EnvB rfl c169) ?_))))
           refine ov (v_pick_t (evD_true rfl c171) rfl) rfl ?_
           refine ov (v_pick_t (evB rfl c169) rfl) rfl ?_
           refine shO_nil ?_
           obtain rfl := inj1 r172
           exact mi kr ⟨rfl, rfl, (sc rfl (sc rfl (sc rfl (sc rfl (sc rfl (sc rfl (sc rfl (sc rfl (sc rfl (sn _))))))))))⟩
         have r173 := ite_f r170 c171
         refine shO_on (b := false) 153 rfl (Env.isF rfl c171) ?_
         refine ov (v_fieldAddr fa_112_0 rfl) rfl ?_
         refine shO_on (b := false) 153 rfl (Env.isF rfl c171) ?_
         refine ov (v_load Try.isAgg3 rfl (Has.own 0 rfl) rfl) rfl ?_
         refine shO_on (b := false) 153 rfl (Env.isF rfl c171) (om rfl rfl (shO_on (b := false) 153 rfl (Env.isF rfl c171) ?_))
         refine ov (v_lssK rfl rfl) rfl ?_
         refine shO_on (b := true) 150 rfl (EnvB rfl c169) ?_
         refine ov (v_pick_f (evD_false rfl c171) rfl) rfl ?_
         refine ov (v_pick_t (evB rfl c169) rfl) rfl ?_
         refine shO_nil ?_
         obtain rfl := inj1 r173
         exact mi kr ⟨rfl, rfl, (sc rfl (sc rfl (sc rfl (sc rfl (sc rfl (sc rfl (sc rfl (sc rfl (sc rfl (sn _))))))))))⟩
       have r174 := bf h167 c169
       refine shO_off (b' := false) 150 rfl (EnvB rfl c169) rfl rfl (shO_off (b' := false) 150 rfl (EnvB rfl c169) rfl rfl (shO_off (b' := false) 150 rfl (EnvB rfl c169) rfl rfl (shO_offU 153 rfl rfl rfl (shO_offU 153 rfl rfl rfl (shO_offU 153 rfl rfl rfl (shO_offU 153 rfl rfl rfl (shO_off (b' := false) 150 rfl (EnvB rfl c169) rfl rfl ?_)))))))
       refine ov (v_pick_f (evB rfl c169) rfl) rfl ?_
       refine shO_nil ?_
       obtain rfl := inj1 r174
       exact mi kr ⟨rfl, rfl, (sc rfl (sc rfl (sc rfl (sc rfl (sc rfl (sc rfl (sc rfl (sc rfl (sc rfl (sn _))))))))))⟩
     rintro e1 _ _ ⟨rfl, rfl, he175⟩
     refine shW_env _ he175 ?_
     refine shW_cond rfl (fun c176 => ?_) (fun c176 => ?_)
     · have r177 := bt r168 c176
       refine shW_drawM [(.still, 0), (.still, 1), (.still, 2), (.still, 3), (.seq, 4), (.seq, 5)] (by kernel_rfl) (by kernel_rfl) (trivial) (by rfl) (by kernel_rfl) ?_
       refine shM_v (v := .int .i64 k3) (ek := [(24, .int .i64 k3)]) (Ls := []) rfl rfl rfl rfl ((sc rfl (sn _))) (by kernel_rfl) sm (fun H F' L' hF' hL' => v_move rfl) ?_
       refine shM_v (v := .agg #[.int .i64 k3, .int .i64 0]) (ek := [(160, .int .i64 k3)]) (Ls := []) rfl rfl rfl rfl ((sc rfl (sn _))) (by kernel_rfl) sm (fun H F' L' hF' hL' => v_build (v := .agg #[.int .i64 k3, .int .i64 0]) rfl (by intro w; kernel_rfl)) ?_
       refine shM_v (v := .pointer (some ⟨b166, 0, none⟩)) (ek := [(25, .pointer (some ⟨b166, 0, none⟩))]) (Ls := []) rfl rfl rfl rfl ((sc rfl (sn _))) (by kernel_rfl) sm (fun H F' L' hF' hL' => v_fieldAddr fa_112_0 rfl) ?_
       refine shM_v (v := .int .i64 (((mget met2 (k3, 0)).getD (0, 0, 0, 0, 0)).1)) (ek := [(162, .pointer (some ⟨b166, 0, none⟩))]) (Ls := [(b166, .cells #[.int .i64 (((mget met2 (k3, 0)).getD (0, 0, 0, 0, 0)).1), .int .i64 (((mget met2 (k3, 0)).getD (0, 0, 0, 0, 0)).2.1), .int .i64 (((mget met2 (k3, 0)).getD (0, 0, 0, 0, 0)).2.2.1), .int .i64 (((mget met2 (k3, 0)).getD (0, 0, 0, 0, 0)).2.2.2.1), .int .i64 (((mget met2 (k3, 0)).getD (0, 0, 0, 0, 0)).2.2.2.2)] 112 (0, 0))]) rfl rfl rfl rfl ((sc rfl (sn _))) (by kernel_rfl) (s0 (s2 (s1 (s1 (s1 sr))))) (fun H F' L' hF' hL' => v_load Try.isAgg3 rfl ((Has.own 0 rfl).ext hF' hL') rfl) ?_
       refine ⟨_, [(22, .pointer (some ⟨b154, 0, none⟩)), (161, .agg #[.int .i64 k3, .int .i64 0])], rfl, rfl, (sc rfl (sc rfl (sn _))), by kernel_rfl, ?_⟩; intro H
       refine o_storeA (i := 1) Try.sizeOf110 rfl rfl rfl (by simp [Value.oneCell']) rfl (nbL rfl) ?_
       refine shO_L (L' := [(b166, .cells #[.int .i64 (((mget met2 (k3, 0)).getD (0, 0, 0, 0, 0)).1), .int .i64 (((mget met2 (k3, 0)).getD (0, 0, 0, 0, 0)).2.1), .int .i64 (((mget met2 (k3, 0)).getD (0, 0, 0, 0, 0)).2.2.1), .int .i64 (((mget met2 (k3, 0)).getD (0, 0, 0, 0, 0)).2.2.2.1), .int .i64 (((mget met2 (k3, 0)).getD (0, 0, 0, 0, 0)).2.2.2.2)] 112 (0, 0)), (b154, .cells #[.int .i64 k3, .int .i64 0] 110 (0, 0)), (b9, .cells #[.map (some b3)] 113 (0, 0)), (b3, .map es10 cl11)]) rfl ?_
       refine shO_nil ⟨undef, rfl, FExt.refl _, [3, 2], by kernel_rfl, .inl (.inr (fun d h => by cases h)), (List.forall_mem_cons.2 ⟨s0 (s2 (s1 (s1 (s1 sr)))), (List.forall_mem_cons.2 ⟨sm, (fun _ h => absurd h List.not_mem_nil)⟩)⟩), ?_⟩
       refine ⟨_, [(163, .int .i64 (((mget met2 (k3, 0)).getD (0, 0, 0, 0, 0)).1))], rfl, rfl, (sc rfl (sn _)), by kernel_rfl, ?_⟩; intro H
       obtain ⟨minute3, h178, r179⟩ := bv_ok r177
       refine ov ((v_assign rfl).i h178) rfl ?_
       refine shO_nil ⟨_, rfl, FExt.refl _, [], by kernel_rfl, .inl (.inl rfl), (fun _ h => absurd h List.not_mem_nil), ?_⟩
       refine shM_nil ?_
       refine inBlock_n (id := 7) (shW_region ?_)
       refine ov (v_add rfl rfl (Lst.r64 hk157 c162 (RowR.lt h_hears))) rfl ?_
       refine om rfl rfl (shO_nil ?_)
       subst hn158; exact le (kd kr) ⟨_, _, rfl, hk163, k3, minute3, r179, rfl, rfl, (sc rfl (sc rfl (sc rfl (sc rfl (sc rfl (sc rfl (sn _)))))))⟩
     have r180 := bf r168 c176
     refine shW_skip (inBlock_n (id := 7) (shW_region ?_))
     refine ov (v_add rfl rfl (Lst.r64 hk157 c162 (RowR.lt h_hears))) rfl ?_
     refine om rfl rfl (shO_nil ?_)
     subst hn158; exact le (kd kr) ⟨_, _, rfl, hk163, end_stand2, minute2, r180, rfl, rfl, (sc rfl (sc rfl (sc rfl (sc rfl (sc rfl (sc rfl (sn _)))))))⟩
   obtain rfl := Lst.zero hk157 c162
   rw [round_crier_serve_l4] at r159
   refine shW_exit (andThen_exit (andThen_exit ?_))
   refine inBlock_exit ?_
   obtain ⟨rfl, rfl⟩ := inj2 r159
   exact mi kr ⟨rfl, rfl, (sc rfl (sc rfl (sc rfl (sc rfl (sn _)))))⟩
 rintro e1 _ _ ⟨rfl, rfl, he181⟩
 refine shW_env _ he181 ?_
 refine shW_seq (wsr (om rfl rfl ?_))
 refine ov (v_eql rfl rfl) rfl ?_
 refine shO_nil ?_
 refine shW_condP rfl (fun c182 => ?_) (fun c182 => ?_)
 · have r183 := ite_t r156 c182
   refine wsr (oa rfl rfl (oa rfl rfl (oa rfl rfl (shO_nil ?_))))
   refine kW kn ?_
   refine shW_ret (andThen_ret ?_)
   refine q_res3 Try.results27 (res_tmp rfl) (res_tmp rfl) (res_tmp rfl) (sr) ?_
   obtain ⟨rfl, rfl, rfl⟩ := inj3 r183
   exact ⟨_, _, _, [], rfl, rfl, SlR.nil _ _ _ _ _⟩
 have r184 := ite_f r156 c182
 refine shW_skip (wsr (oa rfl rfl (shO_nil ?_)))
 obtain ⟨out, h191, r192⟩ := b1_ok r184
 refine shW_join (fun e1 F1 L1 => ∃ (a185 : Option Addr) (n189 : Nat) (c186 : Nat) (Lb187 : LH), F152 = F1 ∧ L1 = (Lb187 ++ []) ∧ e1.sub [(23, .int .i64 minute), (27, .slice a185 n189 c186)] ∧ SlR K.w0.heap.size 93 2 (prE (iE .i64) (iE .i64)) F1 a185 n189 c186 out Lb187) ?_ ?_
 · clear r192
   refine shW_block ?_
   refine shW_lp (fun fu5 e1 F1 L1 => ∃ (end_stand3 : Int) (end_left : Int) (out2 : List (Int × Int)) (a193 : Option Addr) (n197 : Nat) (c194 : Nat) (Lb195 : LH), round_crier_serve_l5 set_ met2 fu5 end_stand3 end_left out2 = some out ∧ F152 = F1 ∧ L1 = ((b154, .cells #[.int .i64 end_stand3, .int .i64 end_left] 110 (0, 0)) :: ((b9, .cells #[.map (some b3)] 113 (0, 0)) :: ((b3, .map es10 cl11) :: (Lb195 ++ [])))) ∧ e1.sub [(1, .int .i64 set_), (9, .pointer (some ⟨b9, 0, none⟩)), (22, .pointer (some ⟨b154, 0, none⟩)), (23, .int .i64 minute), (27, .slice a193 n197 c194)] ∧ SlR K.w0.heap.size 93 2 (prE (iE .i64) (iE .i64)) F1 a193 n197 c194 out2 Lb195) FU (m0 (kc (kc (kc (ke kr)))) ⟨end_stand, 0, [], none, 0, 0, [], h191, rfl, rfl, (sc rfl (sc rfl (sc rfl (sc rfl (sc rfl (sn _)))))), SlR.nil _ _ _ _ _⟩) ?_
   rintro fu5 e1 _ _ ⟨end_stand3, end_left, out2, a193, n197, c194, Lb195, r201, rfl, rfl, he202, hz196⟩
   refine shW_env _ he202 ?_
   rcases fu5 with _ | fu5
   · rw [round_crier_serve_l5] at r201; cases r201
   rw [round_crier_serve_l5] at r201
   refine shW_seq (wsr ?_)
   refine ov (v_fieldAddr fa_110_1 rfl) rfl ?_
   refine ov (v_load Try.isAgg3 rfl (Has.own 0 rfl) rfl) rfl ?_
   refine om rfl rfl ?_
   refine ov (v_neq rfl rfl) rfl ?_
   refine shO_nil ?_
   refine shW_condP rfl (fun c203 => ?_) (fun c203 => ?_)
   · have r204 := ite_t r201 c203
     refine shW_skip ?_
     refine shW_block ?_
     refine wsr ?_
     refine ov (v_load Try.isAgg113 rfl (Has.own 1 rfl) rfl) rfl ?_
     refine ov (v_loadA (cs := #[.int .i64 end_stand3, .int .i64 end_left]) Try.isAgg110 Try.sizeOf110 rfl (Has.own 0 rfl) (nbL rfl) rfl) rfl ?_
     refine ov (OpV.eq (v' := .agg #[.int .i64 (((mget met2 (end_stand3, end_left)).getD (0, 0, 0, 0, 0)).1), .int .i64 (((mget met2 (end_stand3, end_left)).getD (0, 0, 0, 0, 0)).2.1), .int .i64 (((mget met2 (end_stand3, end_left)).getD (0, 0, 0, 0, 0)).2.2.1), .int .i64 (((mget met2 (end_stand3, end_left)).getD (0, 0, 0, 0, 0)).2.2.2.1), .int .i64 (((mget met2 (end_stand3, end_left)).getD (0, 0, 0, 0, 0)).2.2.2.2)]) (v_lookS1 (k := (end_stand3, end_left)) (z0 := (0, 0, 0, 0, 0)) rfl Try.underlying113 key_110 Try.zeroValue112 rfl rfl (HasM.own 2 rfl) (show MapR (vA (cP (cI .i64) (cI .i64))) (vA (cP (cI .i64) (cP (cI .i64) (cP (cI .i64) (cP (cI .i64) (cI .i64)))))) es10 (met2 : List ((Int × Int) × (Int × Int × Int × Int × Int))) from hR12)) rfl) rfl ?_
     refine o_alloc rfl Try.zeroValue112 ?_; intro b205 hb205
     refine o_storeA (i := 0) Try.sizeOf112 rfl rfl rfl (by simp [Value.oneCell']) rfl (nbL rfl) ?_
     refine shO_L (L' := (b205, .cells #[.int .i64 (((mget met2 (end_stand3, end_left)).getD (0, 0, 0, 0, 0)).1), .int .i64 (((mget met2 (end_stand3, end_left)).getD (0, 0, 0, 0, 0)).2.1), .int .i64 (((mget met2 (end_stand3, end_left)).getD (0, 0, 0, 0, 0)).2.2.1), .int .i64 (((mget met2 (end_stand3, end_left)).getD (0, 0, 0, 0, 0)).2.2.2.1), .int .i64 (((mget met2 (end_stand3, end_left)).getD (0, 0, 0, 0, 0)).2.2.2.2)] 112 (0, 0)) :: ((b154, .cells #[.int .i64 end_stand3, .int .i64 end_left] 110 (0, 0)) :: ((b9, .cells #[.map (some b3)] 113 (0, 0)) :: ((b3, .map es10 cl11) :: (Lb195 ++ []))))) rfl ?_
     refine nsr (om rfl rfl ?_)
     refine ov (v_fieldAddr fa_112_1 rfl) rfl ?_
     refine ov (v_loadA (cs := #[.int .i64 (((mget met2 (end_stand3, end_left)).getD (0, 0, 0, 0, 0)).2.1), .int .i64 (((mget met2 (end_stand3, end_left)).getD (0, 0, 0, 0, 0)).2.2.1)]) Try.isAgg93 Try.sizeOf93 rfl (Has.own 0 rfl) (nbL rfl) rfl) rfl ?_
     refine o_buildSlice (cs := #[.int .i64 (((mget met2 (end_stand3, end_left)).getD (0, 0, 0, 0, 0)).2.1), .int .i64 (((mget met2 (end_stand3, end_left)).getD (0, 0, 0, 0, 0)).2.2.1)]) rfl rfl (buildSlice_all slt_34 [.agg #[.int .i64 (((mget met2 (end_stand3, end_left)).getD (0, 0, 0, 0, 0)).2.1), .int .i64 (((mget met2 (end_stand3, end_left)).getD (0, 0, 0, 0, 0)).2.2.1)]] rfl (by decide) (by simp [Value.cells]) (by decide)) ?_; intro b206 hb206
     obtain ⟨out3, h207, g208, r209⟩ := ap_ok r204
     refine o_appZ (xs := out2) (ys := [(((mget met2 (end_stand3, end_left)).getD (0, 0, 0, 0, 0)).2.1, ((mget met2 (end_stand3, end_left)).getD (0, 0, 0, 0, 0)).2.2.1)]) (zs := out3) rfl slt_34 rfl rfl (Nat.le_refl _) (fun _ => .c (.c (.c (.c (.c .h))))) hz196 (SrcR.box (vss := [[.int .i64 (((mget met2 (end_stand3, end_left)).getD (0, 0, 0, 0, 0)).2.1), .int .i64 (((mget met2 (end_stand3, end_left)).getD (0, 0, 0, 0, 0)).2.2.1)]]) (ys := [(((mget met2 (end_stand3, end_left)).getD (0, 0, 0, 0, 0)).2.1, ((mget met2 (end_stand3, end_left)).getD (0, 0, 0, 0, 0)).2.2.1)]) 0 rfl (prE_ok (iE_ok _) (iE_ok _)) (.cons ⟨_, _, rfl, rfl, rfl⟩ .nil) rfl rfl) h207 g208 (by decide) ?_; intro a210 n214 c211 Lb212 hz213
     refine kO (kd kr) ?_
     refine oa rfl rfl (shO_nil (shW_region ?_))
     refine ov (v_fieldAddr fa_112_2 rfl) rfl ?_
     refine ov (v_loadA (cs := #[.int .i64 (((mget met2 (end_stand3, end_left)).getD (0, 0, 0, 0, 0)).2.2.2.1), .int .i64 (((mget met2 (end_stand3, end_left)).getD (0, 0, 0, 0, 0)).2.2.2.2)]) Try.isAgg110 Try.sizeOf110 rfl (Has.own 0 rfl) (nbL rfl) rfl) rfl ?_
     refine o_storeA (i := 1) Try.sizeOf110 rfl rfl rfl (by simp [Value.oneCell']) rfl (nbL rfl) ?_
     refine shO_L (L' := (b205, .cells #[.int .i64 (((mget met2 (end_stand3, end_left)).getD (0, 0, 0, 0, 0)).1), .int .i64 (((mget met2 (end_stand3, end_left)).getD (0, 0, 0, 0, 0)).2.1), .int .i64 (((mget met2 (end_stand3, end_left)).getD (0, 0, 0, 0, 0)).2.2.1), .int .i64 (((mget met2 (end_stand3, end_left)).getD (0, 0, 0, 0, 0)).2.2.2.1), .int .i64 (((mget met2 (end_stand3, end_left)).getD (0, 0, 0, 0, 0)).2.2.2.2)] 112 (0, 0)) :: ((b154, .cells #[.int .i64 (((mget met2 (end_stand3, end_left)).getD (0, 0, 0, 0, 0)).2.2.2.1), .int .i64 (((mget met2 (end_stand3, end_left)).getD (0, 0, 0, 0, 0)).2.2.2.2)] 110 (0, 0)) :: ((b9, .cells #[.map (some b3)] 113 (0, 0)) :: ((b3, .map es10 cl11) :: (Lb212 ++ []))))) rfl ?_
     refine shO_nil (inBlock_n (id := 9) ?_)
     exact le (kd kr) ⟨((mget met2 (end_stand3, end_left)).getD (0, 0, 0, 0, 0)).2.2.2.1, ((mget met2 (end_stand3, end_left)).getD (0, 0, 0, 0, 0)).2.2.2.2, out3, a210, n214, c211, Lb212, r209, rfl, rfl, (sc rfl (sc rfl (sc rfl (sc rfl (sc rfl (sn _)))))), hz213⟩
   have r216 := ite_f r201 c203
   refine shW_exit (andThen_exit (andThen_exit ?_))
   refine inBlock_exit ?_
   obtain rfl := inj1 r216
   exact mi (kd (kd (kd kr))) ⟨a193, n197, c194, Lb195, rfl, rfl, (sc rfl (sc rfl (sn _))), hz196⟩
 rintro e1 _ _ ⟨a185, n189, c186, Lb187, rfl, rfl, he217, hz188⟩
 refine shW_env _ he217 ?_
 refine wsr (om rfl rfl ?_)
 obtain ⟨s_, h218, r219⟩ := b1_ok r192
 refine o_callG (Lb := Lb187 ++ []) (Lr := []) rfl Try.call57 rfl rfl rfl (pT pR (lp (ln rfl))) (slices_Reverse_round_Cry_round_Cry_w hz188 h218) ?_; rintro _ F220 _ hF221 hd223 hn222 ⟨Lb224, rfl, rfl, hz225⟩
 refine shO_L (lp (ln rfl)) ?_
 refine nsr (om rfl rfl (om rfl rfl (oa rfl rfl (oa rfl rfl (oa rfl rfl (shO_nil (shW_ret ?_)))))))
 refine q_res3 Try.results27 (res_tmp rfl) (res_tmp rfl) (res_tmp rfl) (sr) ?_
 obtain ⟨rfl, rfl, rfl⟩ := inj3 r219
 exact ⟨_, _, _, _, rfl, rfl, hz225.any⟩
set_option maxHeartbeats 1000000 in
theorem round_crier_of_w {b_c : Nat} {walks_a : Option Addr} {walks_c : Nat} {walks : List (List Int)} {hears_a : Option Addr} {hears_c : Nat} {hears : List (List Int)} {houses start : Int} {notices_a : Option Addr} {notices_c : Nat} {notices : List ((List Int) × Int × Int)} {walks2 : List Int} {pairs_a : Option Addr} {pairs_c : Nat} {pairs : List (Int × Int)} {hit : List Int} {mb_c : Nat × Nat} {notices2_a : Option Addr} {notices2_c : Nat} {notices2 : List Int} {F : FS} (hb_c : F b_c = some (.cells ((([.slice walks_a walks.length walks_c] : List Value) ++ (([.slice hears_a hears.length hears_c] : List Value) ++ (([.int .i64 houses] : List Value) ++ (([.int .i64 start] : List Value) ++ (([.slice notices_a notices.length notices_c] : List Value) ++ (walks2.flatMap (cI .i64) ++ (([.slice pairs_a pairs.length pairs_c] : List Value) ++ (hit.flatMap (cI .i64))))))))).toArray) 102 mb_c)) (_h_walks : RowR 1 (slE 1 (iE .i64)) F walks_a walks_c walks) (_h_hears : RowR 1 (slE 1 (iE .i64)) F hears_a hears_c hears) (_h_notices : RowR 3 (prE (slE 1 (iE .i64)) (prE (iE .i64) (iE .i64))) F notices_a notices_c notices) (h_walks2 : walks2.length = 25) (h_pairs : RowR 2 (prE (iE .i64) (iE .i64)) F pairs_a pairs_c pairs) (_h_hit : hit.length = 15) (h_notices2 : RowR 1 (iE .i64) F notices2_a notices2_c notices2) {r : Int} (hr : round_crier_of walks hears houses start notices walks2 pairs hit notices2 = some r) :
    SpecV Try.prog 28 #[.pointer (some ⟨b_c, 0, none⟩), .slice notices2_a notices2.length notices2_c] F (.int .i64 r) := by
 refine spec_of_shW (args := [.pointer (some ⟨b_c, 0, none⟩), .slice notices2_a notices2.length notices2_c]) Try.func28 rfl Try.ntmps28 (nbL rfl) ?_
 intro K _ _; rw [round_crier_of] at hr
 refine wsr (oa rfl rfl (nsr (oa rfl rfl (shO_nil ?_))))
 obtain ⟨set_, h1, r2⟩ := b1_ok hr
 refine shW_join (fun e1 F1 L1 => F = F1 ∧ L1 = [] ∧ e1.sub [(5, .int .i64 set_)]) ?_ ?_
 · clear r2
   refine wsr (om rfl rfl ?_)
   refine ov (v_nilCheck rfl) rfl ?_
   refine ov (v_fieldAddr fa_102_2 rfl) rfl ?_
   refine ov (v_load Try.isAgg44 rfl (Has.frozen hb_c) (li_cell (li_skip (A := ([.slice walks_a walks.length walks_c] : List Value)) (k := 1) (o := 29) rfl (li_skip (A := ([.slice hears_a hears.length hears_c] : List Value)) (k := 1) (o := 28) rfl (li_skip (A := ([.int .i64 houses] : List Value)) (k := 1) (o := 27) rfl (li_skip (A := ([.int .i64 start] : List Value)) (k := 1) (o := 26) rfl (li_skip (A := ([.slice notices_a notices.length notices_c] : List Value)) (k := 1) (o := 25) rfl (li_skip (A := walks2.flatMap (cI .i64)) (k := 25) (o := 0) (lfl (cI_ok .i64) h_walks2) (li_here (B := hit.flatMap (cI .i64)) rfl))))))))) rfl ?_
   refine ov (v_lenS Try.underlying44 rfl) rfl ?_
   refine om rfl rfl (shO_nil ?_)
   refine shW_block ?_
   refine shW_lp (fun fu1 e1 F1 L1 => ∃ (tl : List (Int × Int)) (k : Int), tl.length = fu1 ∧ Lst pairs k tl ∧ ∃ (set_2 : Int), round_crier_of_l1 notices2 tl k set_2 = some set_ ∧ F = F1 ∧ L1 = [] ∧ e1.sub [(1, .slice notices2_a notices2.length notices2_c), (5, .int .i64 set_2), (11, .slice pairs_a pairs.length pairs_c), (12, .int .i64 (pairs.length : Int)), (13, .int .i64 k)]) _ (m0 kr ⟨_, _, rfl, Lst.start _, 0, h1, rfl, rfl, (sc rfl (sc rfl (sc rfl (sc rfl (sc rfl (sn _))))))⟩) ?_
   rintro fu1 e1 _ _ ⟨tl, k, hn4, hk3, set_2, r5, rfl, rfl, he6⟩
   refine shW_env _ he6 ?_
   refine wsr ?_
   refine ov (v_lssK rfl rfl) rfl ?_
   refine shO_nil (shW_seq ?_)
   refine shW_condP rfl (fun c8 => ?_) (fun c8 => ?_)
   · obtain ⟨x, tl2, rfl, hx10, g11, hk9⟩ := Lst.succ hk3 c8
     rw [round_crier_of_l1] at r5
     refine shW_skip (shW_seq ?_)
     refine shW_block ?_
     refine wsr (om rfl rfl ?_)
     obtain ⟨b12, o13, c14, vs15, ha16, hs17, hle18, ⟨_, _, rfl, rfl, rfl⟩, hl19, hc20⟩ := RowR.at (prE_ok (iE_ok _) (iE_ok _)) h_pairs ([]) g11.1 hx10
     refine ov (v_indexO Try.underlying44 Try.sizeOf54 rfl ha16 rfl g11) rfl ?_
     refine ov (v_loadA (cs := #[.int .i64 x.1, .int .i64 x.2]) Try.isAgg54 Try.sizeOf54 rfl hs17 hle18 (extract_cells hle18 hl19 hc20)) rfl ?_
     refine o_alloc rfl Try.zeroValue54 ?_; intro b21 hb21
     refine oa rfl rfl ?_
     refine o_storeA (i := 0) Try.sizeOf54 rfl rfl rfl (by simp [Value.oneCell']) rfl (nbL rfl) ?_
     refine shO_L (L' := [(b21, .cells #[.int .i64 x.1, .int .i64 x.2] 54 (0, 0))]) rfl ?_
     refine nsr (om rfl rfl ?_)
     refine ov (v_fieldAddr fa_54_0 rfl) rfl ?_
     refine ov (v_load Try.isAgg3 rfl (Has.own 0 rfl) rfl) rfl ?_
     obtain ⟨ok, h22, r23⟩ := b1_ok r5
     refine o_callV rfl Try.call55 rfl rfl rfl (slices_Contains_int_int_w h_notices2 h22) ?_
     refine shO_nil ?_
     refine shW_cond rfl (fun c24 => ?_) (fun c24 => ?_)
     · have r25 := bt r23 c24
       refine shW_region (om rfl rfl (om rfl rfl ?_))
       obtain ⟨g26, r27⟩ := gd_ok r25
       refine ov (v_shl rfl rfl g26) rfl ?_
       refine ov (v_or rfl rfl) rfl ?_
       refine oa rfl rfl (shO_nil (inBlock_n (id := 1) (shW_region ?_)))
       refine ov (v_add rfl rfl (Lst.r64 hk3 c8 (RowR.lt h_pairs))) rfl ?_
       refine om rfl rfl (shO_nil ?_)
       subst hn4; exact le kn ⟨_, _, rfl, hk9, bor set_2 (shl 1 k), r27, rfl, rfl, (sc rfl (sc rfl (sc rfl (sc rfl (sc rfl (sn _))))))⟩
     have r28 := bf r23 c24
     refine shW_skip (inBlock_n (id := 1) (shW_region ?_))
     refine ov (v_add rfl rfl (Lst.r64 hk3 c8 (RowR.lt h_pairs))) rfl ?_
     refine om rfl rfl (shO_nil ?_)
     subst hn4; exact le kn ⟨_, _, rfl, hk9, set_2, r28, rfl, rfl, (sc rfl (sc rfl (sc rfl (sc rfl (sc rfl (sn _))))))⟩
   obtain rfl := Lst.zero hk3 c8
   rw [round_crier_of_l1] at r5
   refine shW_exit (andThen_exit (andThen_exit ?_))
   refine inBlock_exit ?_
   obtain rfl := inj1 r5
   exact mi kr ⟨rfl, rfl, (sc rfl (sn _))⟩
 rintro e1 _ _ ⟨rfl, rfl, he29⟩
 refine shW_env _ he29 ?_
 refine wsr (om rfl rfl (oa rfl rfl (shO_nil (shW_ret ?_))))
 refine q_res1 Try.results28 (res_tmp rfl) (sr) ?_
 obtain rfl := inj1 r2
 exact rfl
set_option maxHeartbeats 1000000 in
theorem round_crier_by_1_w {notice minute : Int} {b_last : Nat} {last : Int} {mb_last : Nat × Nat} {b_c b_c_ : Nat} {walks_a : Option Addr} {walks_c : Nat} {walks : List (List Int)} {hears_a : Option Addr} {hears_c : Nat} {hears : List (List Int)} {houses start : Int} {notices_a : Option Addr} {notices_c : Nat} {notices : List ((List Int) × Int × Int)} {walks2 : List Int} {pairs_a : Option Addr} {pairs_c : Nat} {pairs : List (Int × Int)} {hit : List Int} {mb_c_ mb_c : Nat × Nat} {F : FS} (hb_last : F b_last = some (.cells #[.int .i64 last] 3 mb_last)) (hb_c : F b_c = some (.cells #[.pointer (some ⟨b_c_, 0, none⟩)] 67 mb_c)) (hb_c_ : F b_c_ = some (.cells ((([.slice walks_a walks.length walks_c] : List Value) ++ (([.slice hears_a hears.length hears_c] : List Value) ++ (([.int .i64 houses] : List Value) ++ (([.int .i64 start] : List Value) ++ (([.slice notices_a notices.length notices_c] : List Value) ++ (walks2.flatMap (cI .i64) ++ (([.slice pairs_a pairs.length pairs_c] : List Value) ++ (hit.flatMap (cI .i64))))))))).toArray) 102 mb_c_)) (_h_walks : RowR 1 (slE 1 (iE .i64)) F walks_a walks_c walks) (_h_hears : RowR 1 (slE 1 (iE .i64)) F hears_a hears_c hears) (h_notices : RowR 3 (prE (slE 1 (iE .i64)) (prE (iE .i64) (iE .i64))) F notices_a notices_c notices) (_h_walks2 : walks2.length = 25) (_h_pairs : RowR 2 (prE (iE .i64) (iE .i64)) F pairs_a pairs_c pairs) (_h_hit : hit.length = 15) {r : Bool} (hr : round_crier_by_1 notice minute last walks hears houses start notices walks2 pairs hit = some r) :
    SpecV Try.prog 79 #[.int .i64 notice, .int .i64 minute, .pointer (some ⟨b_last, 0, none⟩), .pointer (some ⟨b_c, 0, none⟩)] F (.bool r) := by
 refine spec_of_shW (args := [.int .i64 notice, .int .i64 minute, .pointer (some ⟨b_last, 0, none⟩), .pointer (some ⟨b_c, 0, none⟩)]) Try.func79 rfl Try.ntmps79 (nbL rfl) ?_
 intro K _ _; rw [round_crier_by_1] at hr
 refine wsr (oa rfl rfl ?_)
 refine nsd (by kernel_rfl) (by kernel_rfl) (by kernel_rfl) ?_
 refine qm rfl rfl ?_
 refine qv (v_load Try.isAgg3 rfl (Has.frozen hb_last) rfl) rfl ?_
 refine qv (v_load Try.isAgg67 rfl (Has.frozen hb_c) rfl) rfl ?_
 refine qv (v_nilCheck rfl) rfl ?_
 refine qv (v_fieldAddr fa_102_0 rfl) rfl ?_
 refine qv (v_fieldAddr fa_26_4 rfl) rfl ?_
 refine qv (v_load Try.isAgg24 rfl (Has.frozen hb_c_) (li_cell (li_skip (A := ([.slice walks_a walks.length walks_c] : List Value)) (k := 1) (o := 3) rfl (li_skip (A := ([.slice hears_a hears.length hears_c] : List Value)) (k := 1) (o := 2) rfl (li_skip (A := ([.int .i64 houses] : List Value)) (k := 1) (o := 1) rfl (li_skip (A := ([.int .i64 start] : List Value)) (k := 1) (o := 0) rfl (li_here (B := walks2.flatMap (cI .i64) ++ (([.slice pairs_a pairs.length pairs_c] : List Value) ++ (hit.flatMap (cI .i64)))) rfl))))))) rfl ?_
 refine qm rfl rfl ?_
 obtain ⟨x, g1, hx2, r3⟩ := ix_ok hr
 obtain ⟨b4, o5, c6, vs7, ha8, hs9, hle10, ⟨_, _, rfl, ⟨a13, c14, rfl, h15⟩, ⟨_, _, rfl, rfl, rfl⟩⟩, hl11, hc12⟩ := RowR.at (prE_ok (slE_ok (iE_ok _)) (prE_ok (iE_ok _) (iE_ok _))) h_notices ([]) g1.1 hx2
 refine qv (v_indexO Try.underlying24 Try.sizeOf39 rfl ha8 rfl g1) rfl ?_
 refine qv (v_fieldAddr fa_39_2 rfl) rfl ?_
 refine qv (v_load Try.isAgg3 rfl hs9 (hc12 2 (by decide))) rfl ?_
 refine qv (v_min2 rfl rfl) rfl ?_
 refine qv (v_leqK rfl rfl) rfl ?_
 refine qa rfl rfl (shQ_nil (shW_ret ?_))
 refine q_res1 Try.results79 (res_tmp rfl) (sr) ?_
 obtain rfl := inj1 r3
 exact rfl
set_option maxHeartbeats 1000000 in
theorem round_crier_by_w {b_c : Nat} {walks_a : Option Addr} {walks_c : Nat} {walks : List (List Int)} {hears_a : Option Addr} {hears_c : Nat} {hears : List (List Int)} {houses start : Int} {notices_a : Option Addr} {notices_c : Nat} {notices : List ((List Int) × Int × Int)} {walks2 : List Int} {pairs_a : Option Addr} {pairs_c : Nat} {pairs : List (Int × Int)} {hit : List Int} {mb_c : Nat × Nat} {last : Int} {F : FS} (hb_c : F b_c = some (.cells ((([.slice walks_a walks.length walks_c] : List Value) ++ (([.slice hears_a hears.length hears_c] : List Value) ++ (([.int .i64 houses] : List Value) ++ (([.int .i64 start] : List Value) ++ (([.slice notices_a notices.length notices_c] : List Value) ++ (walks2.flatMap (cI .i64) ++ (([.slice pairs_a pairs.length pairs_c] : List Value) ++ (hit.flatMap (cI .i64))))))))).toArray) 102 mb_c)) (h_walks : RowR 1 (slE 1 (iE .i64)) F walks_a walks_c walks) (h_hears : RowR 1 (slE 1 (iE .i64)) F hears_a hears_c hears) (h_notices : RowR 3 (prE (slE 1 (iE .i64)) (prE (iE .i64) (iE .i64))) F notices_a notices_c notices) (h_walks2 : walks2.length = 25) (h_pairs : RowR 2 (prE (iE .i64) (iE .i64)) F pairs_a pairs_c pairs) (h_hit : hit.length = 15) {r : (Int × Int) → Option Bool} (hr : round_crier_by walks hears houses start notices walks2 pairs hit last = some r) :
    SH.Spec Try.prog 58 #[.pointer (some ⟨b_c, 0, none⟩), .int .i64 last] F [] fun F' L' v => ∃ (rfi : FuncId) (rfc : Array Value) (rcp : Array Value), v = .agg #[.func (.func rfi) rfc rcp] ∧ L' = [] ∧ FnR Try.prog F' rfi rfc rcp (prE (iE .i64) (iE .i64)) Value.bool r := by
 refine spec_of_shW (args := [.pointer (some ⟨b_c, 0, none⟩), .int .i64 last]) Try.func58 rfl Try.ntmps58 (nbL rfl) ?_
 intro K _ _; rw [round_crier_by] at hr
 refine wsr ?_
 refine o_box rfl rfl ?_; intro b1 hb1
 refine o_box rfl rfl ?_; intro b2 hb2
 refine o_alloc rfl Try.zeroValue76 ?_; intro b3 hb3
 refine nsr ?_
 refine ov (v_makeFunc rfl rfl) rfl ?_
 refine ov (v_build (v := .agg (#[.func (.func 79) #[] #[.pointer (some ⟨b2, 0, none⟩), .pointer (some ⟨b1, 0, none⟩)]])) rfl (by intro w; kernel_rfl)) rfl ?_
 refine o_storeA (i := 0) Try.sizeOf76 rfl rfl rfl (by simp [Value.oneCell']) rfl (nbL rfl) ?_
 refine shO_L (L' := [(b3, .cells (#[.func (.func 79) #[] #[.pointer (some ⟨b2, 0, none⟩), .pointer (some ⟨b1, 0, none⟩)]]) 76 (0, 0)), (b2, .cells #[.int .i64 last] 3 (0, 0)), (b1, .cells #[.pointer (some ⟨b_c, 0, none⟩)] 67 (0, 0))]) rfl ?_
 refine shO_nil ?_
 refine shW_freeze 1 rfl hb2 ?_; intro F4 hF5 hz6
 refine shW_L (L' := [(b3, .cells (#[.func (.func 79) #[] #[.pointer (some ⟨b2, 0, none⟩), .pointer (some ⟨b1, 0, none⟩)]]) 76 (0, 0)), (b1, .cells #[.pointer (some ⟨b_c, 0, none⟩)] 67 (0, 0))]) rfl ?_
 replace h_walks := h_walks.mono (slE_ok (iE_ok _)) hF5
 replace h_hears := h_hears.mono (slE_ok (iE_ok _)) hF5
 replace h_notices := h_notices.mono (prE_ok (slE_ok (iE_ok _)) (prE_ok (iE_ok _) (iE_ok _))) hF5
 replace h_pairs := h_pairs.mono (prE_ok (iE_ok _) (iE_ok _)) hF5
 replace hb_c := hF5 _ _ hb_c
 refine shW_freeze 1 rfl hb1 ?_; intro F7 hF8 hz9
 refine shW_L (L' := [(b3, .cells (#[.func (.func 79) #[] #[.pointer (some ⟨b2, 0, none⟩), .pointer (some ⟨b1, 0, none⟩)]]) 76 (0, 0))]) rfl ?_
 replace h_walks := h_walks.mono (slE_ok (iE_ok _)) hF8
 replace h_hears := h_hears.mono (slE_ok (iE_ok _)) hF8
 replace h_notices := h_notices.mono (prE_ok (slE_ok (iE_ok _)) (prE_ok (iE_ok _) (iE_ok _))) hF8
 replace h_pairs := h_pairs.mono (prE_ok (iE_ok _) (iE_ok _)) hF8
 replace hb_c := hF8 _ _ hb_c
 replace hz6 := hF8 _ _ hz6
 have hn10 : FnR Try.prog F7 79 #[] #[.pointer (some ⟨b2, 0, none⟩), .pointer (some ⟨b1, 0, none⟩)] (prE (iE .i64) (iE .i64)) Value.bool (fun xx_ : Int × Int => round_crier_by_1 xx_.1 xx_.2 last walks hears houses start notices walks2 pairs hit) := ⟨Try.call79, fun F2 h2 vs xx_ r ha hr => by obtain ⟨_, _, rfl, rfl, rfl⟩ := ha; exact round_crier_by_1_w (h2 _ _ hz6) (h2 _ _ hz9) (h2 _ _ hb_c) (h_walks.mono (slE_ok (iE_ok _)) h2) (h_hears.mono (slE_ok (iE_ok _)) h2) (h_notices.mono (prE_ok (slE_ok (iE_ok _)) (prE_ok (iE_ok _) (iE_ok _))) h2) h_walks2 (h_pairs.mono (prE_ok (iE_ok _) (iE_ok _)) h2) h_hit hr⟩
 refine shW_ret ?_
 refine q_res1 Try.results58 (res_cellA (cs := #[.func (.func 79) #[] #[.pointer (some ⟨b2, 0, none⟩), .pointer (some ⟨b1, 0, none⟩)]]) Try.isAgg76 Try.sizeOf76 rfl (Has.own 0 rfl) (nbL rfl) rfl) (s1 sr) ?_
 obtain rfl := inj1 hr
 exact ⟨_, _, _, rfl, rfl, hn10⟩
set_option maxHeartbeats 1000000 in
theorem round_crier_hours_w {b_c : Nat} {walks_a : Option Addr} {walks_c : Nat} {walks : List (List Int)} {hears_a : Option Addr} {hears_c : Nat} {hears : List (List Int)} {houses start : Int} {notices_a : Option Addr} {notices_c : Nat} {notices : List ((List Int) × Int × Int)} {walks2 : List Int} {pairs_a : Option Addr} {pairs_c : Nat} {pairs : List (Int × Int)} {hit : List Int} {mb_c : Nat × Nat} {F : FS} (hb_c : F b_c = some (.cells ((([.slice walks_a walks.length walks_c] : List Value) ++ (([.slice hears_a hears.length hears_c] : List Value) ++ (([.int .i64 houses] : List Value) ++ (([.int .i64 start] : List Value) ++ (([.slice notices_a notices.length notices_c] : List Value) ++ (walks2.flatMap (cI .i64) ++ (([.slice pairs_a pairs.length pairs_c] : List Value) ++ (hit.flatMap (cI .i64))))))))).toArray) 102 mb_c)) (h_walks : RowR 1 (slE 1 (iE .i64)) F walks_a walks_c walks) (h_hears : RowR 1 (slE 1 (iE .i64)) F hears_a hears_c hears) (h_notices : RowR 3 (prE (slE 1 (iE .i64)) (prE (iE .i64) (iE .i64))) F notices_a notices_c notices) (h_walks2 : walks2.length = 25) (h_pairs : RowR 2 (prE (iE .i64) (iE .i64)) F pairs_a pairs_c pairs) (h_hit : hit.length = 15) {r : (Int × Int) → Option Bool} (hr : round_crier_hours walks hears houses start notices walks2 pairs hit = some r) :
    SH.Spec Try.prog 29 #[.pointer (some ⟨b_c, 0, none⟩)] F [] fun F' L' v => ∃ (rfi : FuncId) (rfc : Array Value) (rcp : Array Value), v = .agg #[.func (.func rfi) rfc rcp] ∧ L' = [] ∧ FnR Try.prog F' rfi rfc rcp (prE (iE .i64) (iE .i64)) Value.bool r := by
 refine spec_of_shW (args := [.pointer (some ⟨b_c, 0, none⟩)]) Try.func29 rfl Try.ntmps29 (nbL rfl) ?_
 intro K _ _; rw [round_crier_hours] at hr
 refine wsr ?_
 refine o_alloc rfl Try.zeroValue76 ?_; intro b1 hb1
 refine nsr (om rfl rfl ?_)
 obtain ⟨y, h2, r3⟩ := b1_ok hr
 refine o_call0 rfl Try.call58 rfl rfl rfl (round_crier_by_w hb_c h_walks h_hears h_notices h_walks2 h_pairs h_hit h2) ?_; rintro _ F4 _ hF5 hn6 ⟨fi8, fc9, cp10, rfl, rfl, hit11⟩
 refine shO_L (ln rfl) ?_
 refine o_storeA (i := 0) Try.sizeOf76 rfl rfl rfl (by simp [Value.oneCell']) rfl (nbL rfl) ?_
 refine shO_L (L' := [(b1, .cells #[.func (.func fi8) fc9 cp10] 76 (0, 0))]) rfl ?_
 refine shO_nil (shW_ret ?_)
 refine q_res1 Try.results29 (res_cellA (cs := #[.func (.func fi8) fc9 cp10]) Try.isAgg76 Try.sizeOf76 rfl (Has.own 0 rfl) (nbL rfl) rfl) (s1 sr) ?_
 obtain rfl := inj1 r3
 exact ⟨_, _, _, rfl, rfl, hit11⟩
set_option maxHeartbeats 1000000 in
theorem round_Two_w {walks_a : Option Addr} {walks_c : Nat} {walks : List (List Int)} {hears_a : Option Addr} {hears_c : Nat} {hears : List (List Int)} {houses start : Int} {notices_a : Option Addr} {notices_c : Nat} {notices : List ((List Int) × Int × Int)} {F : FS} (h_walks : RowR 1 (slE 1 (iE .i64)) F walks_a walks_c walks) (h_hears : RowR 1 (slE 1 (iE .i64)) F hears_a hears_c hears) (h_notices : RowR 3 (prE (slE 1 (iE .i64)) (prE (iE .i64) (iE .i64))) F notices_a notices_c notices) {r : List Int} {r2 r3 : Int} (hr : round_Two walks hears houses start notices = some (r, r2, r3)) :
    SH.Spec Try.prog 8 #[.agg #[.slice walks_a walks.length walks_c, .slice hears_a hears.length hears_c, .int .i64 houses, .int .i64 start, .slice notices_a notices.length notices_c]] F [] fun F' L' v => ∃ (ra : Option Addr) (rn : Nat) (rc : Nat) (rL : LH), v = .tuple #[.slice ra rn rc, .int .i64 r2, .int .i64 r3] ∧ L' = rL ++ [] ∧ SlR 0 3 1 (iE .i64) F' ra rn rc r rL := by
 refine spec_of_shW (args := [.agg #[.slice walks_a walks.length walks_c, .slice hears_a hears.length hears_c, .int .i64 houses, .int .i64 start, .slice notices_a notices.length notices_c]]) Try.func8 rfl Try.ntmps8 (nbL rfl) ?_
 intro K _ _; rw [round_Two] at hr
 refine wsr ?_
 refine o_box rfl rfl ?_; intro b1 hb1
 refine oa rfl rfl (oa rfl rfl (oa rfl rfl (nsr ?_)))
 refine ov (v_loadA (cs := #[.slice walks_a walks.length walks_c, .slice hears_a hears.length hears_c, .int .i64 houses, .int .i64 start, .slice notices_a notices.length notices_c]) Try.isAgg26 Try.sizeOf26 rfl (Has.own 0 rfl) (nbL rfl) rfl) rfl ?_
 obtain ⟨d, n, h2, r4⟩ := b2_ok hr
 refine o_call0 rfl Try.call26 rfl rfl rfl (round_opened_w h_walks h_hears h_notices h2) ?_; rintro _ F5 _ hF6 hn7 ⟨v9, rfl, rfl, hp10⟩
 refine shO_L (ln rfl) ?_
 refine om rfl rfl (ox rfl rfl rfl (ox rfl rfl rfl (oa rfl rfl (oa rfl rfl (shO_nil (shW_seq (wsr (om rfl rfl ?_))))))))
 refine ov (v_neq rfl rfl) rfl ?_
 refine shO_nil ?_
 refine shW_condP rfl (fun c11 => ?_) (fun c11 => ?_)
 · have r12 := ite_t r4 c11
   refine wsr (om rfl rfl (oa rfl rfl (oa rfl rfl (oa rfl rfl (shO_nil ?_)))))
   refine kW kn ?_
   refine shW_ret (andThen_ret ?_)
   refine q_res3 Try.results8 (res_tmp rfl) (res_tmp rfl) (res_tmp rfl) (sr) ?_
   obtain ⟨rfl, rfl, rfl⟩ := inj3 r12
   exact ⟨_, _, _, [], rfl, rfl, SlR.nil _ _ _ _ _⟩
 have r13 := ite_f r4 c11
 refine shW_skip (wsr (oa rfl rfl (nsr (oa rfl rfl (shO_nil ?_)))))
 obtain ⟨out, best, h20, r21⟩ := b2_ok r13
 refine shW_join (fun e1 F1 L1 => ∃ (a14 : Option Addr) (n18 : Nat) (c15 : Nat) (Lb16 : LH), FExt F5 F1 ∧ L1 = (Lb16 ++ []) ∧ e1.sub [(7, .slice a14 n18 c15), (8, .int .i64 best)] ∧ SlR K.w0.heap.size 3 1 (iE .i64) F1 a14 n18 c15 out Lb16) ?_ ?_
 · clear r21
   refine wsr ?_
   refine ov (v_fieldAddr fa_26_4 rfl) rfl ?_
   refine ov (v_load Try.isAgg24 rfl (Has.own 0 rfl) rfl) rfl ?_
   refine ov (v_lenS Try.underlying24 rfl) rfl ?_
   obtain ⟨g22, r23⟩ := gd_ok h20
   refine ov (v_shl rfl rfl g22) rfl ?_
   refine om rfl rfl (shO_nil ?_)
   refine shW_block ?_
   obtain ⟨g32, r33⟩ := gd_ok r23
   refine shW_lp (fun fu1 e1 F1 L1 => ∃ (k : Int), Ctr 0 (shl 1 (notices.length : Int)) k fu1 ∧ ∃ (out2 : List Int) (best2 : Int) (v24 : Value) (a26 : Option Addr) (n30 : Nat) (c27 : Nat) (Lb28 : LH), round_Two_l1 notices d fu1 k out2 best2 = some (out, best) ∧ FExt F5 F1 ∧ L1 = ((b1, .cells #[.slice walks_a walks.length walks_c, .slice hears_a hears.length hears_c, .int .i64 houses, .int .i64 start, .slice notices_a notices.length notices_c] 26 (0, 0)) :: (Lb28 ++ [])) ∧ e1.sub [(1, .pointer (some ⟨b1, 0, none⟩)), (5, v24), (7, .slice a26 n30 c27), (8, .int .i64 best2), (31, .int .i64 (shl 1 (notices.length : Int))), (32, .int .i64 k)] ∧ PtrR 102 (prE (slE 1 (slE 1 (iE .i64))) (prE (slE 1 (slE 1 (iE .i64))) (prE (iE .i64) (prE (iE .i64) (prE (slE 3 (prE (slE 1 (iE .i64)) (prE (iE .i64) (iE .i64)))) (prE (arE 25 (cI .i64)) (prE (slE 2 (prE (iE .i64) (iE .i64))) (arE 15 (cI .i64))))))))) F1 v24 d ∧ SlR K.w0.heap.size 3 1 (iE .i64) F1 a26 n30 c27 out2 Lb28) _ (m0 (kc (ke kr)) ⟨_, Ctr.start _ _, [], -1, v9, none, 0, 0, [], r33, FExt.refl _, rfl, (sc rfl (sc rfl (sc rfl (sc rfl (sc rfl (sc rfl (sn _))))))), hp10, SlR.nil _ _ _ _ _⟩) ?_
   rintro fu1 e1 F38 _ ⟨k, hk34, out2, best2, v24, a26, n30, c27, Lb28, r36, hF39, rfl, he37, hp25, hz29⟩
   refine shW_env _ he37 ?_
   refine wsr ?_
   refine ov (v_lssK rfl rfl) rfl ?_
   refine shO_nil (shW_seq ?_)
   refine shW_condP rfl (fun c41 => ?_) (fun c41 => ?_)
   · obtain ⟨fu1, rfl, hk42⟩ := Ctr.succ hk34 c41
     rw [round_Two_l1] at r36
     refine shW_skip ?_
     obtain ⟨out3, best3, h51, r52⟩ := b2_ok r36
     refine shW_join (fun e1 F1 L1 => ∃ (v43 : Value) (a45 : Option Addr) (n49 : Nat) (c46 : Nat) (Lb47 : LH), FExt F38 F1 ∧ L1 = ((b1, .cells #[.slice walks_a walks.length walks_c, .slice hears_a hears.length hears_c, .int .i64 houses, .int .i64 start, .slice notices_a notices.length notices_c] 26 (0, 0)) :: (Lb47 ++ [])) ∧ e1.sub [(1, .pointer (some ⟨b1, 0, none⟩)), (5, v43), (7, .slice a45 n49 c46), (8, .int .i64 best3), (31, .int .i64 (shl 1 (notices.length : Int))), (32, .int .i64 k)] ∧ PtrR 102 (prE (slE 1 (slE 1 (iE .i64))) (prE (slE 1 (slE 1 (iE .i64))) (prE (iE .i64) (prE (iE .i64) (prE (slE 3 (prE (slE 1 (iE .i64)) (prE (iE .i64) (iE .i64)))) (prE (arE 25 (cI .i64)) (prE (slE 2 (prE (iE .i64) (iE .i64))) (arE 15 (cI .i64))))))))) F1 v43 d ∧ SlR K.w0.heap.size 3 1 (iE .i64) F1 a45 n49 c46 out3 Lb47) ?_ ?_
     · clear r52
       refine shW_block ?_
       refine wsr (om rfl rfl (oa rfl rfl (nsr ?_)))
       refine ov (v_fieldAddr fa_26_4 rfl) rfl ?_
       refine ov (v_load Try.isAgg24 rfl (Has.own 0 rfl) rfl) rfl ?_
       refine ov (v_lenS Try.underlying24 rfl) rfl ?_
       obtain ⟨g53, r54⟩ := gd_ok h51
       obtain ⟨l, h55, r56⟩ := bv_ok r54
       refine o_makeZ (R := (iE .i64)) (z0 := 0) (zs := l) rfl slt_30 (by decide) (iE_ok _) (fun _ => rfl) rfl g53 h55 (fun _ => .c .n) ?_; intro a57 n60 Lb58 hz59
       refine oa rfl rfl (nsr ?_)
       refine o_alloc rfl Try.zeroValue70 ?_; intro b62 hb62
       refine shO_nil ?_
       obtain ⟨who, l_l, l_l2, h77, r78⟩ := b3_ok r56
       refine shW_join (fun e1 F1 L1 => ∃ (Lb63 : LH) (a65 : Option Addr) (n69 : Nat) (c66 : Nat) (Lb67 : LH) (a71 : Option Addr) (n75 : Nat) (c72 : Nat) (Lb73 : LH), F38 = F1 ∧ L1 = ((b62, .cells #[.slice a65 n69 c66, .slice a71 n75 c72] 70 (0, 0)) :: ((b1, .cells #[.slice walks_a walks.length walks_c, .slice hears_a hears.length hears_c, .int .i64 houses, .int .i64 start, .slice notices_a notices.length notices_c] 26 (0, 0)) :: (Lb28 ++ (Lb63 ++ (Lb67 ++ (Lb73 ++ [])))))) ∧ e1.sub [(1, .pointer (some ⟨b1, 0, none⟩)), (5, v24), (7, .slice a26 n30 c27), (8, .int .i64 best2), (10, .slice a57 n60 n60), (11, .pointer (some ⟨b62, 0, none⟩)), (31, .int .i64 (shl 1 (notices.length : Int))), (32, .int .i64 k)] ∧ SlR K.w0.heap.size 3 1 (iE .i64) F1 a57 n60 n60 who Lb63 ∧ SlR K.w0.heap.size 3 1 (iE .i64) F1 a65 n69 c66 l_l Lb67 ∧ SlR K.w0.heap.size 3 1 (iE .i64) F1 a71 n75 c72 l_l2 Lb73) ?_ ?_
       · clear r78
         refine wsr (om rfl rfl ?_)
         refine ov ((v_lenS Try.underlying30 rfl).i (SlR.lenI hz59)) rfl ?_
         refine om rfl rfl (shO_nil ?_)
         refine shW_block ?_
         obtain ⟨g93, r94⟩ := gd_ok h77
         refine shW_lp (fun fu2 e1 F1 L1 => ∃ (k2 : Int), Ctr 0 (l.length : Int) k2 fu2 ∧ ∃ (who2 : List Int) (l_l3 : List Int) (l_l4 : List Int) (Lb79 : LH) (a81 : Option Addr) (n85 : Nat) (c82 : Nat) (Lb83 : LH) (a87 : Option Addr) (n91 : Nat) (c88 : Nat) (Lb89 : LH), round_Two_l2 k fu2 k2 who2 l_l3 l_l4 = some (who, l_l, l_l2) ∧ F38 = F1 ∧ L1 = ((b62, .cells #[.slice a81 n85 c82, .slice a87 n91 c88] 70 (0, 0)) :: ((b1, .cells #[.slice walks_a walks.length walks_c, .slice hears_a hears.length hears_c, .int .i64 houses, .int .i64 start, .slice notices_a notices.length notices_c] 26 (0, 0)) :: (Lb28 ++ (Lb79 ++ (Lb83 ++ (Lb89 ++ [])))))) ∧ e1.sub [(1, .pointer (some ⟨b1, 0, none⟩)), (5, v24), (7, .slice a26 n30 c27), (8, .int .i64 best2), (9, .int .i64 k), (10, .slice a57 n60 n60), (11, .pointer (some ⟨b62, 0, none⟩)), (31, .int .i64 (shl 1 (notices.length : Int))), (32, .int .i64 k), (40, .int .i64 (l.length : Int)), (41, .int .i64 k2)] ∧ SlR K.w0.heap.size 3 1 (iE .i64) F1 a57 n60 n60 who2 Lb79 ∧ SlR K.w0.heap.size 3 1 (iE .i64) F1 a81 n85 c82 l_l3 Lb83 ∧ SlR K.w0.heap.size 3 1 (iE .i64) F1 a87 n91 c88 l_l4 Lb89) _ (m0 (kc (kc (kg (fS fP) (ka (ke (ke kr)))))) ⟨_, Ctr.start _ _, l, [], [], Lb58, none, 0, 0, [], none, 0, 0, [], r94, rfl, rfl, (sc rfl (sc rfl (sc rfl (sc rfl (sc rfl (sc rfl (sc rfl (sc rfl (sc rfl (sc rfl (sc rfl (sn _)))))))))))), hz59, SlR.nil _ _ _ _ _, SlR.nil _ _ _ _ _⟩) ?_
         rintro fu2 e1 _ _ ⟨k2, hk95, who2, l_l3, l_l4, Lb79, a81, n85, c82, Lb83, a87, n91, c88, Lb89, r97, rfl, rfl, he98, hz80, hz84, hz90⟩
         refine shW_env _ he98 ?_
         refine wsr ?_
         refine ov (v_lssK rfl rfl) rfl ?_
         refine shO_nil (shW_seq ?_)
         refine shW_condP rfl (fun c100 => ?_) (fun c100 => ?_)
         · obtain ⟨fu2, rfl, hk101⟩ := Ctr.succ hk95 c100
           rw [round_Two_l2] at r97
           refine shW_skip (shW_seq ?_)
           refine shW_block ?_
           refine wsr (om rfl rfl (oa rfl rfl (nsr (om rfl rfl (om rfl rfl (om rfl rfl (om rfl rfl ?_)))))))
           refine ov ((v_lenS Try.underlying30 rfl).i (SlR.lenI hz80)) rfl ?_
           obtain ⟨g102, r103⟩ := gd_ok r97
           refine ov (v_sub rfl rfl g102) rfl ?_
           refine om rfl rfl ?_
           obtain ⟨g104, r105⟩ := gd_ok r103
           refine ov (v_sub rfl rfl g104) rfl ?_
           obtain ⟨g106, r107⟩ := gd_ok r105
           refine ov (v_shr rfl rfl g106) rfl ?_
           refine ov (v_and rfl rfl) rfl ?_
           obtain ⟨x, g108, hx109, r110⟩ := ix_ok r107
           obtain ⟨b111, o112, c113, vs114, ha115, hs116, hle117, rfl, hl118, hc119⟩ := SlR.at (iE_ok _) hz80 (L := (b62, .cells #[.slice a81 n85 c82, .slice a87 n91 c88] 70 (0, 0)) :: ((b1, .cells #[.slice walks_a walks.length walks_c, .slice hears_a hears.length hears_c, .int .i64 houses, .int .i64 start, .slice notices_a notices.length notices_c] 26 (0, 0)) :: (Lb28 ++ (Lb79 ++ (Lb83 ++ (Lb89 ++ [])))))) (fC (fC (fS fP))) g108.1 hx109
           refine ov (v_indexO Try.underlying30 Try.sizeOf3 rfl ha115 rfl (SlR.idx hz80 g108)) rfl ?_
           obtain ⟨who3, h120, r121⟩ := bv_ok r110
           refine o_storeZ (u := band (shr k (((who2.length : Int) - 1) - k2)) 1) Try.sizeOf3 (iE_ok _) rfl ha115 rfl rfl (fun _ => .c (.c (.s .h))) hz80 h120 g108 ?_; intro Lb122 hz123
           refine shO_nil ?_
           refine shW_drawM [(.still, 0), (.still, 1), (.still, 2), (.still, 3), (.still, 4), (.still, 5), (.still, 6), (.still, 7), (.still, 8), (.still, 9), (.still, 10), (.seq, 11), (.seq, 12), (.still, 13), (.seq, 14)] (by kernel_rfl) (by kernel_rfl) (trivial) (by rfl) (by kernel_rfl) ?_
           refine shM_v (v := .slice a57 n60 n60) (ek := [(10, .slice a57 n60 n60)]) (Ls := []) rfl rfl rfl rfl ((sc rfl (sn _))) (by kernel_rfl) sm (fun H F' L' hF' hL' => v_move rfl) ?_
           refine shM_v (v := .int .i64 k2) (ek := [(12, .int .i64 k2)]) (Ls := []) rfl rfl rfl rfl ((sc rfl (sn _))) (by kernel_rfl) sm (fun H F' L' hF' hL' => v_move rfl) ?_
           obtain ⟨x2, g124, hx125, r126⟩ := ix_ok r121
           obtain ⟨b127, o128, c129, vs130, ha131, hs132, hle133, rfl, hl134, hc135⟩ := SlR.at (iE_ok _) hz123 (L := Lb122 ++ []) fP g124.1 hx125
           refine shM_v (v := .pointer (some ⟨b127, o128 + (k2 : Int).toNat * 1, none⟩)) (ek := [(55, .slice a57 n60 n60), (56, .int .i64 k2)]) (Ls := []) rfl rfl rfl rfl ((sc rfl (sc rfl (sn _)))) (by kernel_rfl) sm (fun H F' L' hF' hL' => v_indexO Try.underlying30 Try.sizeOf3 rfl ha131 rfl (SlR.idx hz123 g124)) ?_
           refine shM_v (v := .int .i64 x2) (ek := [(57, .pointer (some ⟨b127, o128 + (k2 : Int).toNat * 1, none⟩))]) (Ls := Lb122 ++ []) rfl rfl rfl rfl ((sc rfl (sn _))) (by kernel_rfl) (s0 (s1 (s1 (s3 (s4 (s3 (s3 sr))))))) (fun H F' L' hF' hL' => v_load Try.isAgg3 rfl (hs132.ext hF' hL') (hc135 0 (by decide))) ?_
           refine shM_v (v := .slice a57 n60 n60) (ek := [(10, .slice a57 n60 n60)]) (Ls := []) rfl rfl rfl rfl ((sc rfl (sn _))) (by kernel_rfl) sm (fun H F' L' hF' hL' => v_move rfl) ?_
           refine shM_v (v := .int .i64 k2) (ek := [(12, .int .i64 k2)]) (Ls := []) rfl rfl rfl rfl ((sc rfl (sn _))) (by kernel_rfl) sm (fun H F' L' hF' hL' => v_move rfl) ?_
           obtain ⟨b136, o137, c138, vs139, ha140, hs141, hle142, rfl, hl143, hc144⟩ := SlR.at (iE_ok _) hz123 (L := Lb122 ++ []) fP g124.1 hx125
           refine shM_v (v := .pointer (some ⟨b136, o137 + (k2 : Int).toNat * 1, none⟩)) (ek := [(59, .slice a57 n60 n60), (60, .int .i64 k2)]) (Ls := []) rfl rfl rfl rfl ((sc rfl (sc rfl (sn _)))) (by kernel_rfl) sm (fun H F' L' hF' hL' => v_indexO Try.underlying30 Try.sizeOf3 rfl ha140 rfl (SlR.idx hz123 g124)) ?_
           refine shM_v (v := .int .i64 x2) (ek := [(61, .pointer (some ⟨b136, o137 + (k2 : Int).toNat * 1, none⟩))]) (Ls := Lb122 ++ []) rfl rfl rfl rfl ((sc rfl (sn _))) (by kernel_rfl) (s0 (s1 (s1 (s3 (s4 (s3 (s3 sr))))))) (fun H F' L' hF' hL' => v_load Try.isAgg3 rfl (hs141.ext hF' hL') (hc144 0 (by decide))) ?_
           by_cases c145 : x2 = 0
           · have r146 := ite_t r126 c145
             refine shM_v (v := .pointer (some ⟨b62, 0, none⟩)) (ek := [(11, .pointer (some ⟨b62, 0, none⟩)), (62, .int .i64 x2)]) (Ls := []) rfl rfl rfl rfl ((sc rfl (sc rfl (sn _)))) (by kernel_rfl) sm (fun H F' L' hF' hL' => OpV.eq (v' := .pointer (some ⟨b62, 0, none⟩)) (v_indexA Try.underlying70 Try.sizeOf30 rfl rfl (by have := c145; omega)) (by rw [c145]; rfl)) ?_
             refine shM_v (v := .slice a81 n85 c82) (ek := [(63, .pointer (some ⟨b62, 0, none⟩))]) (Ls := [(b62, .cells #[.slice a81 n85 c82, .slice a87 n91 c88] 70 (0, 0))]) rfl rfl rfl rfl ((sc rfl (sn _))) (by kernel_rfl) (s0 (s2 (s1 (s3 (s3 (s3 (s3 sr))))))) (fun H F' L' hF' hL' => v_load Try.isAgg30 rfl ((Has.own 0 rfl).ext hF' hL') rfl) ?_
             refine shM_v (v := .int .i64 k2) (ek := [(12, .int .i64 k2)]) (Ls := []) rfl rfl rfl rfl ((sc rfl (sn _))) (by kernel_rfl) sm (fun H F' L' hF' hL' => v_move rfl) ?_
             refine ⟨_, [(65, .int .i64 k2)], rfl, rfl, (sc rfl (sn _)), by kernel_rfl, ?_⟩; intro H
             refine o_buildSlice (cs := #[.int .i64 k2]) rfl rfl (buildSlice_all slt_30 [.int .i64 k2] rfl (by decide) (by simp [Value.cells]) (by decide)) ?_; intro b147 hb147
             refine shO_nil ⟨_, rfl, FExt.refl _, [9, 8, 7, 6, 5, 4, 3, 2, 1, 0], by kernel_rfl, .inl (.inr (fun d h => by cases h; rfl)), (List.forall_mem_cons.2 ⟨s0 (s1 (s2 (s1 (s3 (s3 (s3 (s3 sr))))))), (List.forall_mem_cons.2 ⟨sm, (List.forall_mem_cons.2 ⟨s0 (s1 (s1 (s1 (s3 (s4 (s3 (s3 sr))))))), (List.forall_mem_cons.2 ⟨sm, (List.forall_mem_cons.2 ⟨sm, (List.forall_mem_cons.2 ⟨sm, (List.forall_mem_cons.2 ⟨s0 (s1 (s1 (s1 (s3 (s4 (s3 (s3 sr))))))), (List.forall_mem_cons.2 ⟨sm, (List.forall_mem_cons.2 ⟨sm, (List.forall_mem_cons.2 ⟨sm, (fun _ h => absurd h List.not_mem_nil)⟩)⟩)⟩)⟩)⟩)⟩)⟩)⟩)⟩)⟩), ?_⟩
             refine ⟨_, [(64, .slice a81 n85 c82), (66, .slice (some ⟨b147, 0, none⟩) 1 1)], rfl, rfl, (sc rfl (sc rfl (sn _))), by kernel_rfl, ?_⟩; intro H
             obtain ⟨l2, h148, g149, r150⟩ := ap_ok r146
             refine o_appZ (xs := l_l3) (ys := [k2]) (zs := l2) rfl slt_30 rfl rfl (Nat.le_refl _) (fun _ => .c (.c (.c (.s (.s .h))))) hz84 (SrcR.box (vss := [[.int .i64 k2]]) (ys := [k2]) 0 rfl (iE_ok _) (.cons rfl .nil) rfl rfl) h148 g149 (by decide) ?_; intro a151 n155 c152 Lb153 hz154
             refine kO (kd kr) ?_
             refine shO_nil ⟨_, rfl, FExt.refl _, [3, 2, 1, 0], by kernel_rfl, .inl (.inr (fun d h => by cases h; rfl)), (List.forall_mem_cons.2 ⟨s0 (s1 (s1 (s3 (s4 (s3 (s3 sr)))))), (List.forall_mem_cons.2 ⟨sm, (List.forall_mem_cons.2 ⟨sm, (List.forall_mem_cons.2 ⟨sm, (fun _ h => absurd h List.not_mem_nil)⟩)⟩)⟩)⟩), ?_⟩
             refine shM_v (v := .pointer (some ⟨b62, 0, none⟩)) (ek := [(11, .pointer (some ⟨b62, 0, none⟩)), (58, .int .i64 x2)]) (Ls := []) rfl rfl rfl rfl ((sc rfl (sc rfl (sn _)))) (by kernel_rfl) sm (fun H F' L' hF' hL' => OpV.eq (v' := .pointer (some ⟨b62, 0, none⟩)) (v_indexA Try.underlying70 Try.sizeOf30 rfl rfl (by have := c145; omega)) (by rw [c145]; rfl)) ?_
             refine ⟨_, [(67, .slice a151 n155 c152), (68, .pointer (some ⟨b62, 0, none⟩))], rfl, rfl, (sc rfl (sc rfl (sn _))), by kernel_rfl, ?_⟩; intro H
             refine o_store (i := 0) Try.sizeOf30 rfl rfl rfl rfl (nbL rfl) ?_
             refine shO_L (L' := (b62, .cells #[.slice a151 n155 c152, .slice a87 n91 c88] 70 (0, 0)) :: ((b1, .cells #[.slice walks_a walks.length walks_c, .slice hears_a hears.length hears_c, .int .i64 houses, .int .i64 start, .slice notices_a notices.length notices_c] 26 (0, 0)) :: (Lb28 ++ (Lb122 ++ (Lb153 ++ (Lb89 ++ [])))))) rfl ?_
             refine shO_nil ⟨undef, rfl, FExt.refl _, [], by kernel_rfl, .inl (.inl rfl), (fun _ h => absurd h List.not_mem_nil), ?_⟩
             refine shM_nil ?_
             refine inBlock_n (id := 3) (shW_region ?_)
             refine ov (v_add rfl rfl (Ctr.r64 hk95 c100 g93)) rfl ?_
             refine om rfl rfl (shO_nil ?_)
             exact le kr ⟨_, hk101, who3, l2, l_l4, Lb122, a151, n155, c152, Lb153, a87, n91, c88, Lb89, r150, rfl, rfl, (sc rfl (sc rfl (sc rfl (sc rfl (sc rfl (sc rfl (sc rfl (sc rfl (sc rfl (sc rfl (sc rfl (sn _)))))))))))), hz123, hz154, hz90⟩
           have r157 := ite_f r126 c145
           obtain ⟨g158, r159⟩ := gd_ok r157
           refine shM_v (v := .pointer (some ⟨b62, 1, none⟩)) (ek := [(11, .pointer (some ⟨b62, 0, none⟩)), (62, .int .i64 x2)]) (Ls := []) rfl rfl rfl rfl ((sc rfl (sc rfl (sn _)))) (by kernel_rfl) sm (fun H F' L' hF' hL' => OpV.eq (v' := .pointer (some ⟨b62, 1, none⟩)) (v_indexA Try.underlying70 Try.sizeOf30 rfl rfl (by have := g158; omega)) (by rw [g158]; rfl)) ?_
           refine shM_v (v := .slice a87 n91 c88) (ek := [(63, .pointer (some ⟨b62, 1, none⟩))]) (Ls := [(b62, .cells #[.slice a81 n85 c82, .slice a87 n91 c88] 70 (0, 0))]) rfl rfl rfl rfl ((sc rfl (sn _))) (by kernel_rfl) (s0 (s2 (s1 (s3 (s3 (s3 (s3 sr))))))) (fun H F' L' hF' hL' => v_load Try.isAgg30 rfl ((Has.own 0 rfl).ext hF' hL') rfl) ?_
           refine shM_v (v := .int .i64 k2) (ek := [(12, .int .i64 k2)]) (Ls := []) rfl rfl rfl rfl ((sc rfl (sn _))) (by kernel_rfl) sm (fun H F' L' hF' hL' => v_move rfl) ?_
           refine ⟨_, [(65, .int .i64 k2)], rfl, rfl, (sc rfl (sn _)), by kernel_rfl, ?_⟩; intro H
           refine o_buildSlice (cs := #[.int .i64 k2]) rfl rfl (buildSlice_all slt_30 [.int .i64 k2] rfl (by decide) (by simp [Value.cells]) (by decide)) ?_; intro b160 hb160
           refine shO_nil ⟨_, rfl, FExt.refl _, [9, 8, 7, 6, 5, 4, 3, 2, 1, 0], by kernel_rfl, .inl (.inr (fun d h => by cases h; rfl)), (List.forall_mem_cons.2 ⟨s0 (s1 (s2 (s1 (s3 (s3 (s3 (s3 sr))))))), (List.forall_mem_cons.2 ⟨sm, (List.forall_mem_cons.2 ⟨s0 (s1 (s1 (s1 (s3 (s4 (s3 (s3 sr))))))), (List.forall_mem_cons.2 ⟨sm, (List.forall_mem_cons.2 ⟨sm, (List.forall_mem_cons.2 ⟨sm, (List.forall_mem_cons.2 ⟨s0 (s1 (s1 (s1 (s3 (s4 (s3 (s3 sr))))))), (List.forall_mem_cons.2 ⟨sm, (List.forall_mem_cons.2 ⟨sm, (List.forall_mem_cons.2 ⟨sm, (fun _ h => absurd h List.not_mem_nil)⟩)⟩)⟩)⟩)⟩)⟩)⟩)⟩)⟩)⟩), ?_⟩
           refine ⟨_, [(64, .slice a87 n91 c88), (66, .slice (some ⟨b160, 0, none⟩) 1 1)], rfl, rfl, (sc rfl (sc rfl (sn _))), by kernel_rfl, ?_⟩; intro H
           obtain ⟨l3, h161, g162, r163⟩ := ap_ok r159
           refine o_appZ (xs := l_l4) (ys := [k2]) (zs := l3) rfl slt_30 rfl rfl (Nat.le_refl _) (fun _ => .c (.c (.c (.s (.s (.s .h)))))) hz90 (SrcR.box (vss := [[.int .i64 k2]]) (ys := [k2]) 0 rfl (iE_ok _) (.cons rfl .nil) rfl rfl) h161 g162 (by decide) ?_; intro a164 n168 c165 Lb166 hz167
           refine kO (kd kr) ?_
           refine shO_nil ⟨_, rfl, FExt.refl _, [3, 2, 1, 0], by kernel_rfl, .inl (.inr (fun d h => by cases h; rfl)), (List.forall_mem_cons.2 ⟨s0 (s1 (s1 (s3 (s4 (s3 (s3 sr)))))), (List.forall_mem_cons.2 ⟨sm, (List.forall_mem_cons.2 ⟨sm, (List.forall_mem_cons.2 ⟨sm, (fun _ h => absurd h List.not_mem_nil)⟩)⟩)⟩)⟩), ?_⟩
           obtain ⟨g170, r171⟩ := gd_ok r163
           refine shM_v (v := .pointer (some ⟨b62, 1, none⟩)) (ek := [(11, .pointer (some ⟨b62, 0, none⟩)), (58, .int .i64 x2)]) (Ls := []) rfl rfl rfl rfl ((sc rfl (sc rfl (sn _)))) (by kernel_rfl) sm (fun H F' L' hF' hL' => OpV.eq (v' := .pointer (some ⟨b62, 1, none⟩)) (v_indexA Try.underlying70 Try.sizeOf30 rfl rfl (by have := g170; omega)) (by rw [g170]; rfl)) ?_
           refine ⟨_, [(67, .slice a164 n168 c165), (68, .pointer (some ⟨b62, 1, none⟩))], rfl, rfl, (sc rfl (sc rfl (sn _))), by kernel_rfl, ?_⟩; intro H
           refine o_store (i := 0) Try.sizeOf30 rfl rfl rfl rfl (nbL rfl) ?_
           refine shO_L (L' := (b62, .cells #[.slice a81 n85 c82, .slice a164 n168 c165] 70 (0, 0)) :: ((b1, .cells #[.slice walks_a walks.length walks_c, .slice hears_a hears.length hears_c, .int .i64 houses, .int .i64 start, .slice notices_a notices.length notices_c] 26 (0, 0)) :: (Lb28 ++ (Lb122 ++ (Lb83 ++ (Lb166 ++ [])))))) rfl ?_
           refine shO_nil ⟨undef, rfl, FExt.refl _, [], by kernel_rfl, .inl (.inl rfl), (fun _ h => absurd h List.not_mem_nil), ?_⟩
           refine shM_nil ?_
           refine inBlock_n (id := 3) (shW_region ?_)
           refine ov (v_add rfl rfl (Ctr.r64 hk95 c100 g93)) rfl ?_
           refine om rfl rfl (shO_nil ?_)
           exact le kr ⟨_, hk101, who3, l_l3, l3, Lb122, a81, n85, c82, Lb83, a164, n168, c165, Lb166, r171, rfl, rfl, (sc rfl (sc rfl (sc rfl (sc rfl (sc rfl (sc rfl (sc rfl (sc rfl (sc rfl (sc rfl (sc rfl (sn _)))))))))))), hz123, hz84, hz167⟩
         obtain rfl := Ctr.zero hk95 c100
         rw [round_Two_l2] at r97
         refine shW_exit (andThen_exit (andThen_exit ?_))
         refine inBlock_exit ?_
         obtain ⟨rfl, rfl, rfl⟩ := inj3 r97
         exact mi kr ⟨Lb79, a81, n85, c82, Lb83, a87, n91, c88, Lb89, rfl, rfl, (sc rfl (sc rfl (sc rfl (sc rfl (sc rfl (sc rfl (sc rfl (sc rfl (sn _))))))))), hz80, hz84, hz90⟩
       rintro e1 _ _ ⟨Lb63, a65, n69, c66, Lb67, a71, n75, c72, Lb73, rfl, rfl, he172, hz64, hz68, hz74⟩
       refine shW_env _ he172 ?_
       refine wsr (om rfl rfl (om rfl rfl ?_))
       refine ov (OpV.eq (v' := .pointer (some ⟨b62, 0, none⟩)) (v_indexA Try.underlying70 Try.sizeOf30 rfl rfl (by decide)) rfl) rfl ?_
       refine ov (v_load Try.isAgg30 rfl (Has.own 0 rfl) rfl) rfl ?_
       obtain ⟨walks2, hears2, houses2, start2, notices2, walks3, pairs, hit, h173, r174⟩ := b8_ok r78
       have h194 := hp25; rw [h173] at h194; obtain ⟨b175, c176, m177, hv178, hz179, ⟨_, _, rfl, ⟨a180, c181, rfl, h182⟩, ⟨_, _, rfl, ⟨a183, c184, rfl, h185⟩, ⟨_, _, rfl, rfl, ⟨_, _, rfl, rfl, ⟨_, _, rfl, ⟨a186, c187, rfl, h188⟩, ⟨_, _, rfl, ⟨rfl, h189⟩, ⟨_, _, rfl, ⟨a190, c191, rfl, h192⟩, ⟨rfl, h193⟩⟩⟩⟩⟩⟩⟩⟩⟩ := h194; subst hv178
       have hz179 : F38 b175 = some (.cells ((([.slice a180 walks2.length c181] : List Value) ++ (([.slice a183 hears2.length c184] : List Value) ++ (([.int .i64 houses2] : List Value) ++ (([.int .i64 start2] : List Value) ++ (([.slice a186 notices2.length c187] : List Value) ++ (walks3.flatMap (cI .i64) ++ (([.slice a190 pairs.length c191] : List Value) ++ (hit.flatMap (cI .i64))))))))).toArray) 102 m177) := hz179
       obtain ⟨n2, h195, r196⟩ := b1_ok r174
       refine o_callT (Lt := Lb67 ++ []) (Lr := (b62, .cells #[.slice a65 n69 c66, .slice a71 n75 c72] 70 (0, 0)) :: ((b1, .cells #[.slice walks_a walks.length walks_c, .slice hears_a hears.length hears_c, .int .i64 houses, .int .i64 start, .slice notices_a notices.length notices_c] 26 (0, 0)) :: (Lb28 ++ (Lb63 ++ (Lb73 ++ []))))) rfl Try.call28 rfl rfl rfl (pT ((fC (fC (fS (fS fP)))).trans (pA pR)) (lp (ln rfl))) (fun F2 h2 h3 => by rw [(SlR.caps hz68).1]; exact round_crier_of_w (h2 _ _ hz179) (h182.mono (slE_ok (iE_ok _)) h2) (h185.mono (slE_ok (iE_ok _)) h2) (h188.mono (prE_ok (slE_ok (iE_ok _)) (prE_ok (iE_ok _) (iE_ok _))) h2) h189 (h192.mono (prE_ok (iE_ok _) (iE_ok _)) h2) h193 (hz68.row (iE_ok _) h2 (fun p hp => h3 p (List.mem_append_left _ hp))) h195) ?_
       refine om rfl rfl ?_
       obtain ⟨y, h197, r198⟩ := b1_ok r196
       refine o_call0 rfl Try.call29 rfl rfl rfl (round_crier_hours_w hz179 h182 h185 h188 h189 h192 h193 h197) ?_; rintro _ F199 _ hF200 hn201 ⟨fi203, fc204, cp205, rfl, rfl, hit206⟩
       replace hp25 := hp25.mono (prE_ok (slE_ok (slE_ok (iE_ok _))) (prE_ok (slE_ok (slE_ok (iE_ok _))) (prE_ok (iE_ok _) (prE_ok (iE_ok _) (prE_ok (slE_ok (prE_ok (slE_ok (iE_ok _)) (prE_ok (iE_ok _) (iE_ok _)))) (prE_ok (arE_ok (n := 25) (sz := 1) (cI_ok .i64)) (prE_ok (slE_ok (prE_ok (iE_ok _) (iE_ok _))) (arE_ok (n := 15) (sz := 1) (cI_ok .i64))))))))) hF200
       replace h182 := h182.mono (slE_ok (iE_ok _)) hF200
       replace h185 := h185.mono (slE_ok (iE_ok _)) hF200
       replace h188 := h188.mono (prE_ok (slE_ok (iE_ok _)) (prE_ok (iE_ok _) (iE_ok _))) hF200
       replace h192 := h192.mono (prE_ok (iE_ok _) (iE_ok _)) hF200
       replace hz29 := hz29.mono (iE_ok _) hF200
       replace hz64 := hz64.mono (iE_ok _) hF200
       replace hz74 := hz74.mono (iE_ok _) hF200
       replace hz179 := hF200 _ _ hz179
       refine shO_L (ln rfl) ?_
       obtain ⟨l4, n3, ok, h207, r208⟩ := b3_ok r198
       refine o_call0 rfl Try.call27 rfl rfl rfl (round_crier_serve_w hz179 h182 h185 h188 h189 h192 h193 hit206 h207) ?_; rintro _ F209 _ hF210 hn211 ⟨a213, n217, c214, Lb215, rfl, rfl, hz216⟩
       replace hp25 := hp25.mono (prE_ok (slE_ok (slE_ok (iE_ok _))) (prE_ok (slE_ok (slE_ok (iE_ok _))) (prE_ok (iE_ok _) (prE_ok (iE_ok _) (prE_ok (slE_ok (prE_ok (slE_ok (iE_ok _)) (prE_ok (iE_ok _) (iE_ok _)))) (prE_ok (arE_ok (n := 25) (sz := 1) (cI_ok .i64)) (prE_ok (slE_ok (prE_ok (iE_ok _) (iE_ok _))) (arE_ok (n := 15) (sz := 1) (cI_ok .i64))))))))) hF210
       replace h182 := h182.mono (slE_ok (iE_ok _)) hF210
       replace h185 := h185.mono (slE_ok (iE_ok _)) hF210
       replace h188 := h188.mono (prE_ok (slE_ok (iE_ok _)) (prE_ok (iE_ok _) (iE_ok _))) hF210
       replace h192 := h192.mono (prE_ok (iE_ok _) (iE_ok _)) hF210
       replace hz29 := hz29.mono (iE_ok _) hF210
       replace hz64 := hz64.mono (iE_ok _) hF210
       replace hz74 := hz74.mono (iE_ok _) hF210
       replace hz179 := hF210 _ _ hz179
       refine shO_L (lp (ln rfl)) ?_
       refine kO (kf (fS fO) (kf (fS fO) kr)) ?_
       refine om rfl rfl (ox rfl rfl rfl (ox rfl rfl rfl (ox rfl rfl rfl (oa rfl rfl (oa rfl rfl (oa rfl rfl (nsr (om rfl rfl (om rfl rfl ?_)))))))))
       refine ov (OpV.eq (v' := .pointer (some ⟨b62, 1, none⟩)) (v_indexA Try.underlying70 Try.sizeOf30 rfl rfl (by decide)) rfl) rfl ?_
       refine ov (v_load Try.isAgg30 rfl (Has.own 0 rfl) rfl) rfl ?_
       obtain ⟨n4, h219, r220⟩ := b1_ok r208
       refine o_callT (Lt := Lb73 ++ []) (Lr := (b62, .cells #[.slice a65 n69 c66, .slice a71 n75 c72] 70 (0, 0)) :: ((b1, .cells #[.slice walks_a walks.length walks_c, .slice hears_a hears.length hears_c, .int .i64 houses, .int .i64 start, .slice notices_a notices.length notices_c] 26 (0, 0)) :: (Lb215 ++ (Lb28 ++ (Lb63 ++ (Lb67 ++ [])))))) rfl Try.call28 rfl rfl rfl (pT ((fC (fC (fS (fS (fS (fS fP)))))).trans (pA pR)) (lp (ln rfl))) (fun F2 h2 h3 => by rw [(SlR.caps hz74).1]; exact round_crier_of_w (h2 _ _ hz179) (h182.mono (slE_ok (iE_ok _)) h2) (h185.mono (slE_ok (iE_ok _)) h2) (h188.mono (prE_ok (slE_ok (iE_ok _)) (prE_ok (iE_ok _) (iE_ok _))) h2) h189 (h192.mono (prE_ok (iE_ok _) (iE_ok _)) h2) h193 (hz74.row (iE_ok _) h2 (fun p hp => h3 p (List.mem_append_left _ hp))) h219) ?_
       refine om rfl rfl ?_
       obtain ⟨y2, h221, r222⟩ := b1_ok r220
       refine o_call0 rfl Try.call29 rfl rfl rfl (round_crier_hours_w hz179 h182 h185 h188 h189 h192 h193 h221) ?_; rintro _ F223 _ hF224 hn225 ⟨fi227, fc228, cp229, rfl, rfl, hit230⟩
       replace hp25 := hp25.mono (prE_ok (slE_ok (slE_ok (iE_ok _))) (prE_ok (slE_ok (slE_ok (iE_ok _))) (prE_ok (iE_ok _) (prE_ok (iE_ok _) (prE_ok (slE_ok (prE_ok (slE_ok (iE_ok _)) (prE_ok (iE_ok _) (iE_ok _)))) (prE_ok (arE_ok (n := 25) (sz := 1) (cI_ok .i64)) (prE_ok (slE_ok (prE_ok (iE_ok _) (iE_ok _))) (arE_ok (n := 15) (sz := 1) (cI_ok .i64))))))))) hF224
       replace h182 := h182.mono (slE_ok (iE_ok _)) hF224
       replace h185 := h185.mono (slE_ok (iE_ok _)) hF224
       replace h188 := h188.mono (prE_ok (slE_ok (iE_ok _)) (prE_ok (iE_ok _) (iE_ok _))) hF224
       replace h192 := h192.mono (prE_ok (iE_ok _) (iE_ok _)) hF224
       replace hz29 := hz29.mono (iE_ok _) hF224
       replace hz64 := hz64.mono (iE_ok _) hF224
       replace hz179 := hF224 _ _ hz179
       refine shO_L (ln rfl) ?_
       obtain ⟨l5, n5, ok2, h231, r232⟩ := b3_ok r222
       refine o_call0 rfl Try.call27 rfl rfl rfl (round_crier_serve_w hz179 h182 h185 h188 h189 h192 h193 hit230 h231) ?_; rintro _ F233 _ hF234 hn235 ⟨a237, n241, c238, Lb239, rfl, rfl, hz240⟩
       replace hp25 := hp25.mono (prE_ok (slE_ok (slE_ok (iE_ok _))) (prE_ok (slE_ok (slE_ok (iE_ok _))) (prE_ok (iE_ok _) (prE_ok (iE_ok _) (prE_ok (slE_ok (prE_ok (slE_ok (iE_ok _)) (prE_ok (iE_ok _) (iE_ok _)))) (prE_ok (arE_ok (n := 25) (sz := 1) (cI_ok .i64)) (prE_ok (slE_ok (prE_ok (iE_ok _) (iE_ok _))) (arE_ok (n := 15) (sz := 1) (cI_ok .i64))))))))) hF234
       replace hz29 := hz29.mono (iE_ok _) hF234
       replace hz64 := hz64.mono (iE_ok _) hF234
       refine shO_L (lp (ln rfl)) ?_
       refine kO (kf (fS fO) (kf (fS fO) kr)) ?_
       refine om rfl rfl (ox rfl rfl rfl (ox rfl rfl rfl (ox rfl rfl rfl (oa rfl rfl (oa rfl rfl (oa rfl rfl (nsr (om rfl rfl (om rfl rfl ?_)))))))))
       refine ov (v_max2 rfl rfl) rfl ?_
       refine oa rfl rfl (shO_nil ?_)
       obtain ⟨k3, h243, r244⟩ := b1_ok r232
       refine shW_join (fun e1 F1 L1 => F233 = F1 ∧ L1 = ((b1, .cells #[.slice walks_a walks.length walks_c, .slice hears_a hears.length hears_c, .int .i64 houses, .int .i64 start, .slice notices_a notices.length notices_c] 26 (0, 0)) :: (Lb28 ++ (Lb63 ++ []))) ∧ e1.sub [(1, .pointer (some ⟨b1, 0, none⟩)), (5, .pointer (some ⟨b175, 0, none⟩)), (7, .slice a26 n30 c27), (8, .int .i64 best2), (10, .slice a57 n60 n60), (19, .int .i64 (if n5 > n3 then n5 else n3)), (31, .int .i64 (shl 1 (notices.length : Int))), (32, .int .i64 k), (109, .bool k3)]) ?_ ?_
       · clear r244
         refine shW_region (om rfl rfl (om rfl rfl ?_))
         rcases bool_two ok with c245 | c245
         · have r246 := bt h243 c245
           refine shO_on (b := true) 98 rfl (EnvB rfl c245) (om rfl rfl ?_)
           refine ov (v_pick_t (evB rfl c245) rfl) rfl ?_
           refine om rfl rfl ?_
           rcases bool_two ok2 with c247 | c247
           · have r248 := bt r246 c247
             refine shO_on (b := true) 101 rfl (EnvB rfl c247) (om rfl rfl (shO_on (b := true) 101 rfl (EnvB rfl c247) ?_))
             refine ov (v_eql rfl rfl) rfl ?_
             refine shO_on (b := true) 101 rfl (EnvB rfl c247) (om rfl rfl ?_)
             by_cases c249 : best2 = (-1)
             · have r250 := ite_t r248 c249
               refine shO_off (b' := true) 104 rfl (Env.isT rfl c249) rfl rfl (shO_off (b' := true) 104 rfl (Env.isT rfl c249) rfl rfl (shO_off (b' := true) 104 rfl (Env.isT rfl c249) rfl rfl (shO_on (b := true) 101 rfl (EnvB rfl c247) ?_)))
               refine ov (v_pick_t (evD_true rfl c249) rfl) rfl ?_
               refine ov (v_pick_t (evB rfl c247) rfl) rfl ?_
               refine shO_nil ?_
               obtain rfl := inj1 r250
               exact mi (kd (kc (kx (kx (ka (ka kn)))))) ⟨rfl, rfl, (sc rfl (sc rfl (sc rfl (sc rfl (sc rfl (sc rfl (sc rfl (sc rfl (sc rfl (sn _))))))))))⟩
             have r251 := ite_f r248 c249
             refine shO_on (b := false) 104 rfl (Env.isF rfl c249) (om rfl rfl (shO_on (b := false) 104 rfl (Env.isF rfl c249) (om rfl rfl (shO_on (b := false) 104 rfl (Env.isF rfl c249) ?_))))
             refine ov (v_lssK rfl rfl) rfl ?_
             refine shO_on (b := true) 101 rfl (EnvB rfl c247) ?_
             refine ov (v_pick_f (evD_false rfl c249) rfl) rfl ?_
             refine ov (v_pick_t (evB rfl c247) rfl) rfl ?_
             refine shO_nil ?_
             obtain rfl := inj1 r251
             exact mi (kd (kc (kx (kx (ka (ka kn)))))) ⟨rfl, rfl, (sc rfl (sc rfl (sc rfl (sc rfl (sc rfl (sc rfl (sc rfl (sc rfl (sc rfl (sn _))))))))))⟩
           have r252 := bf r246 c247
           refine shO_off (b' := false) 101 rfl (EnvB rfl c247) rfl rfl (shO_off (b' := false) 101 rfl (EnvB rfl c247) rfl rfl (shO_off (b' := false) 101 rfl (EnvB rfl c247) rfl rfl (shO_offU 104 rfl rfl rfl (shO_offU 104 rfl rfl rfl (shO_offU 104 rfl rfl rfl (shO_off (b' := false) 101 rfl (EnvB rfl c247) rfl rfl ?_))))))
           refine ov (v_pick_f (evB rfl c247) rfl) rfl ?_
           refine shO_nil ?_
           obtain rfl := inj1 r252
           exact mi (kd (kc (kx (kx (ka (ka kn)))))) ⟨rfl, rfl, (sc rfl (sc rfl (sc rfl (sc rfl (sc rfl (sc rfl (sc rfl (sc rfl (sc rfl (sn _))))))))))⟩
         have r253 := bf h243 c245
         refine shO_off (b' := false) 98 rfl (EnvB rfl c245) rfl rfl ?_
         refine ov (v_pick_f (evB rfl c245) rfl) rfl ?_
         refine om rfl rfl (shO_off (b' := false) 101 rfl rfl rfl rfl (shO_off (b' := false) 101 rfl rfl rfl rfl (shO_off (b' := false) 101 rfl rfl rfl rfl (shO_offU 104 rfl rfl rfl (shO_offU 104 rfl rfl rfl (shO_offU 104 rfl rfl rfl (shO_off (b' := false) 101 rfl rfl rfl rfl ?_)))))))
         refine ov (v_pick_f rfl rfl) rfl ?_
         refine shO_nil ?_
         obtain rfl := inj1 r253
         exact mi (kd (kc (kx (kx (ka (ka kn)))))) ⟨rfl, rfl, (sc rfl (sc rfl (sc rfl (sc rfl (sc rfl (sc rfl (sc rfl (sc rfl (sc rfl (sn _))))))))))⟩
       rintro e1 _ _ ⟨rfl, rfl, he254⟩
       refine shW_env _ he254 ?_
       refine shW_cond rfl (fun c255 => ?_) (fun c255 => ?_)
       · have r256 := bt r244 c255
         refine shW_region (om rfl rfl (om rfl rfl (oa rfl rfl (oa rfl rfl (shO_nil (inBlock_n (id := 1) ?_))))))
         obtain ⟨rfl, rfl⟩ := inj2 r256
         exact mi (kc (kx kr)) ⟨.pointer (some ⟨b175, 0, none⟩), a57, n60, n60, Lb63, (((hF200.trans hF210).trans hF224).trans hF234), rfl, (sc rfl (sc rfl (sc rfl (sc rfl (sc rfl (sc rfl (sn _))))))), hp25, hz64⟩
       have r257 := bf r244 c255
       refine shW_skip (inBlock_n (id := 1) ?_)
       obtain ⟨rfl, rfl⟩ := inj2 r257
       exact mi (kc (ka kn)) ⟨.pointer (some ⟨b175, 0, none⟩), a26, n30, c27, Lb28, (((hF200.trans hF210).trans hF224).trans hF234), rfl, (sc rfl (sc rfl (sc rfl (sc rfl (sc rfl (sc rfl (sn _))))))), hp25, hz29⟩
     rintro e1 F259 _ ⟨v43, a45, n49, c46, Lb47, hF260, rfl, he258, hp44, hz48⟩
     refine shW_env _ he258 ?_
     refine shW_region ?_
     refine ov (v_add rfl rfl (Ctr.r64 hk34 c41 g32)) rfl ?_
     refine om rfl rfl (shO_nil ?_)
     exact le kr ⟨_, hk42, out3, best3, v43, a45, n49, c46, Lb47, r52, (hF39.trans hF260), rfl, (sc rfl (sc rfl (sc rfl (sc rfl (sc rfl (sc rfl (sn _))))))), hp44, hz48⟩
   obtain rfl := Ctr.zero hk34 c41
   rw [round_Two_l1] at r36
   refine shW_exit (andThen_exit (andThen_exit ?_))
   refine inBlock_exit ?_
   obtain ⟨rfl, rfl⟩ := inj2 r36
   exact mi (kd kr) ⟨a26, n30, c27, Lb28, hF39, rfl, (sc rfl (sc rfl (sn _))), hz29⟩
 rintro e1 F262 _ ⟨a14, n18, c15, Lb16, hF263, rfl, he261, hz17⟩
 refine shW_env _ he261 ?_
 refine shW_seq (wsr (om rfl rfl ?_))
 refine ov (v_eql rfl rfl) rfl ?_
 refine shO_nil ?_
 refine shW_condP rfl (fun c264 => ?_) (fun c264 => ?_)
 · have r265 := ite_t r21 c264
   refine wsr (oa rfl rfl (oa rfl rfl (oa rfl rfl (shO_nil ?_))))
   refine kW kn ?_
   refine shW_ret (andThen_ret ?_)
   refine q_res3 Try.results8 (res_tmp rfl) (res_tmp rfl) (res_tmp rfl) (sr) ?_
   obtain ⟨rfl, rfl, rfl⟩ := inj3 r265
   exact ⟨_, _, _, [], rfl, rfl, SlR.nil _ _ _ _ _⟩
 have r266 := ite_f r21 c264
 refine shW_skip (wsr (om rfl rfl (om rfl rfl (oa rfl rfl (oa rfl rfl (oa rfl rfl (shO_nil (shW_ret ?_))))))))
 refine q_res3 Try.results8 (res_tmp rfl) (res_tmp rfl) (res_tmp rfl) (sr) ?_
 obtain ⟨rfl, rfl, rfl⟩ := inj3 r266
 exact ⟨_, _, _, _, rfl, rfl, hz17.any⟩
set_option maxHeartbeats 1000000 in
theorem round_crier_all_w {b_c : Nat} {walks_a : Option Addr} {walks_c : Nat} {walks : List (List Int)} {hears_a : Option Addr} {hears_c : Nat} {hears : List (List Int)} {houses start : Int} {notices_a : Option Addr} {notices_c : Nat} {notices : List ((List Int) × Int × Int)} {walks2 : List Int} {pairs_a : Option Addr} {pairs_c : Nat} {pairs : List (Int × Int)} {hit : List Int} {mb_c : Nat × Nat} {F : FS} (hb_c : F b_c = some (.cells ((([.slice walks_a walks.length walks_c] : List Value) ++ (([.slice hears_a hears.length hears_c] : List Value) ++ (([.int .i64 houses] : List Value) ++ (([.int .i64 start] : List Value) ++ (([.slice notices_a notices.length notices_c] : List Value) ++ (walks2.flatMap (cI .i64) ++ (([.slice pairs_a pairs.length pairs_c] : List Value) ++ (hit.flatMap (cI .i64))))))))).toArray) 102 mb_c)) (_h_walks : RowR 1 (slE 1 (iE .i64)) F walks_a walks_c walks) (_h_hears : RowR 1 (slE 1 (iE .i64)) F hears_a hears_c hears) (_h_notices : RowR 3 (prE (slE 1 (iE .i64)) (prE (iE .i64) (iE .i64))) F notices_a notices_c notices) (h_walks2 : walks2.length = 25) (_h_pairs : RowR 2 (prE (iE .i64) (iE .i64)) F pairs_a pairs_c pairs) (_h_hit : hit.length = 15) {r : Int} (hr : round_crier_all walks hears houses start notices walks2 pairs hit = some r) :
    SpecV Try.prog 30 #[.pointer (some ⟨b_c, 0, none⟩)] F (.int .i64 r) := by
 refine spec_of_shW (args := [.pointer (some ⟨b_c, 0, none⟩)]) Try.func30 rfl Try.ntmps30 (nbL rfl) ?_
 intro K _ _; rw [round_crier_all] at hr
 refine wsr (oa rfl rfl (nsr (om rfl rfl ?_)))
 refine ov (v_nilCheck rfl) rfl ?_
 refine ov (v_fieldAddr fa_102_2 rfl) rfl ?_
 refine ov (v_load Try.isAgg44 rfl (Has.frozen hb_c) (li_cell (li_skip (A := ([.slice walks_a walks.length walks_c] : List Value)) (k := 1) (o := 29) rfl (li_skip (A := ([.slice hears_a hears.length hears_c] : List Value)) (k := 1) (o := 28) rfl (li_skip (A := ([.int .i64 houses] : List Value)) (k := 1) (o := 27) rfl (li_skip (A := ([.int .i64 start] : List Value)) (k := 1) (o := 26) rfl (li_skip (A := ([.slice notices_a notices.length notices_c] : List Value)) (k := 1) (o := 25) rfl (li_skip (A := walks2.flatMap (cI .i64)) (k := 25) (o := 0) (lfl (cI_ok .i64) h_walks2) (li_here (B := hit.flatMap (cI .i64)) rfl))))))))) rfl ?_
 refine ov (v_lenS Try.underlying44 rfl) rfl ?_
 obtain ⟨g1, r2⟩ := gd_ok hr
 refine ov (v_shl rfl rfl g1) rfl ?_
 obtain ⟨g3, r4⟩ := gd_ok r2
 refine ov (v_sub rfl rfl g3) rfl ?_
 refine oa rfl rfl (shO_nil (shW_ret ?_))
 refine q_res1 Try.results30 (res_tmp rfl) (sr) ?_
 obtain rfl := inj1 r4
 exact rfl
set_option maxHeartbeats 1000000 in
theorem round_Best_w {walks_a : Option Addr} {walks_c : Nat} {walks : List (List Int)} {hears_a : Option Addr} {hears_c : Nat} {hears : List (List Int)} {houses start : Int} {notices_a : Option Addr} {notices_c : Nat} {notices : List ((List Int) × Int × Int)} {F : FS} (h_walks : RowR 1 (slE 1 (iE .i64)) F walks_a walks_c walks) (h_hears : RowR 1 (slE 1 (iE .i64)) F hears_a hears_c hears) (h_notices : RowR 3 (prE (slE 1 (iE .i64)) (prE (iE .i64) (iE .i64))) F notices_a notices_c notices) {r : List (Int × Int)} {r2 r3 : Int} (hr : round_Best walks hears houses start notices = some (r, r2, r3)) :
    SH.Spec Try.prog 9 #[.agg #[.slice walks_a walks.length walks_c, .slice hears_a hears.length hears_c, .int .i64 houses, .int .i64 start, .slice notices_a notices.length notices_c]] F [] fun F' L' v => ∃ (ra : Option Addr) (rn : Nat) (rc : Nat) (rL : LH), v = .tuple #[.slice ra rn rc, .int .i64 r2, .int .i64 r3] ∧ L' = rL ++ [] ∧ SlR 0 93 2 (prE (iE .i64) (iE .i64)) F' ra rn rc r rL := by
 refine spec_of_shW (args := [.agg #[.slice walks_a walks.length walks_c, .slice hears_a hears.length hears_c, .int .i64 houses, .int .i64 start, .slice notices_a notices.length notices_c]]) Try.func9 rfl Try.ntmps9 (nbL rfl) ?_
 intro K _ _; rw [round_Best] at hr
 refine wsr ?_
 refine o_box rfl rfl ?_; intro b1 hb1
 refine oa rfl rfl (oa rfl rfl (oa rfl rfl (nsr ?_)))
 refine ov (v_loadA (cs := #[.slice walks_a walks.length walks_c, .slice hears_a hears.length hears_c, .int .i64 houses, .int .i64 start, .slice notices_a notices.length notices_c]) Try.isAgg26 Try.sizeOf26 rfl (Has.own 0 rfl) (nbL rfl) rfl) rfl ?_
 obtain ⟨d, n, h2, r4⟩ := b2_ok hr
 refine o_call0 rfl Try.call26 rfl rfl rfl (round_opened_w h_walks h_hears h_notices h2) ?_; rintro _ F5 _ hF6 hn7 ⟨v9, rfl, rfl, hp10⟩
 refine shO_L (ln rfl) ?_
 refine om rfl rfl (ox rfl rfl rfl (ox rfl rfl rfl (oa rfl rfl (oa rfl rfl (shO_nil (shW_seq (wsr (om rfl rfl ?_))))))))
 refine ov (v_neq rfl rfl) rfl ?_
 refine shO_nil ?_
 refine shW_condP rfl (fun c11 => ?_) (fun c11 => ?_)
 · have r12 := ite_t r4 c11
   refine wsr (om rfl rfl (oa rfl rfl (oa rfl rfl (oa rfl rfl (shO_nil ?_)))))
   refine kW kn ?_
   refine shW_ret (andThen_ret ?_)
   refine q_res3 Try.results9 (res_tmp rfl) (res_tmp rfl) (res_tmp rfl) (sr) ?_
   obtain ⟨rfl, rfl, rfl⟩ := inj3 r12
   exact ⟨_, _, _, [], rfl, rfl, SlR.nil _ _ _ _ _⟩
 have r13 := ite_f r4 c11
 refine shW_skip (wsr (om rfl rfl (om rfl rfl ?_)))
 obtain ⟨walks2, hears2, houses2, start2, notices2, walks3, pairs, hit, h14, r15⟩ := b8_ok r13
 have h35 := hp10; rw [h14] at h35; obtain ⟨b16, c17, m18, hv19, hz20, ⟨_, _, rfl, ⟨a21, c22, rfl, h23⟩, ⟨_, _, rfl, ⟨a24, c25, rfl, h26⟩, ⟨_, _, rfl, rfl, ⟨_, _, rfl, rfl, ⟨_, _, rfl, ⟨a27, c28, rfl, h29⟩, ⟨_, _, rfl, ⟨rfl, h30⟩, ⟨_, _, rfl, ⟨a31, c32, rfl, h33⟩, ⟨rfl, h34⟩⟩⟩⟩⟩⟩⟩⟩⟩ := h35; subst hv19
 have hz20 : F5 b16 = some (.cells ((([.slice a21 walks2.length c22] : List Value) ++ (([.slice a24 hears2.length c25] : List Value) ++ (([.int .i64 houses2] : List Value) ++ (([.int .i64 start2] : List Value) ++ (([.slice a27 notices2.length c28] : List Value) ++ (walks3.flatMap (cI .i64) ++ (([.slice a31 pairs.length c32] : List Value) ++ (hit.flatMap (cI .i64))))))))).toArray) 102 m18) := hz20
 obtain ⟨n2, h36, r37⟩ := b1_ok r15
 refine o_callV rfl Try.call30 rfl rfl rfl (round_crier_all_w hz20 h23 h26 h29 h30 h33 h34 h36) ?_
 refine om rfl rfl ?_
 obtain ⟨y, h38, r39⟩ := b1_ok r37
 refine o_call0 rfl Try.call29 rfl rfl rfl (round_crier_hours_w hz20 h23 h26 h29 h30 h33 h34 h38) ?_; rintro _ F40 _ hF41 hn42 ⟨fi44, fc45, cp46, rfl, rfl, hit47⟩
 replace h23 := h23.mono (slE_ok (iE_ok _)) hF41
 replace h26 := h26.mono (slE_ok (iE_ok _)) hF41
 replace h29 := h29.mono (prE_ok (slE_ok (iE_ok _)) (prE_ok (iE_ok _) (iE_ok _))) hF41
 replace h33 := h33.mono (prE_ok (iE_ok _) (iE_ok _)) hF41
 replace hz20 := hF41 _ _ hz20
 refine shO_L (ln rfl) ?_
 obtain ⟨l, n3, ok, h48, r49⟩ := b3_ok r39
 refine o_call0 rfl Try.call27 rfl rfl rfl (round_crier_serve_w hz20 h23 h26 h29 h30 h33 h34 hit47 h48) ?_; rintro _ F50 _ hF51 hn52 ⟨a54, n58, c55, Lb56, rfl, rfl, hz57⟩
 replace hz57 := hz57.new fun p hp => hn52 p (by simp [hp])
 refine shO_L (lp (ln rfl)) ?_
 refine kO (kf (fS fO) kr) ?_
 refine om rfl rfl (ox rfl rfl rfl (ox rfl rfl rfl (ox rfl rfl rfl (oa rfl rfl (oa rfl rfl (oa rfl rfl (shO_nil (shW_seq (wsr ?_)))))))))
 refine om rfl rfl ?_
 refine ov (v_notB rfl) rfl ?_
 refine shO_nil ?_
 refine shW_cond rfl (fun c60 => ?_) (fun c60 => ?_)
 · have r61 := bt r49 c60
   refine wsr (oa rfl rfl (oa rfl rfl (oa rfl rfl (shO_nil ?_))))
   refine kW kn ?_
   refine shW_ret (andThen_ret ?_)
   refine q_res3 Try.results9 (res_tmp rfl) (res_tmp rfl) (res_tmp rfl) (sr) ?_
   obtain ⟨rfl, rfl, rfl⟩ := inj3 r61
   exact ⟨_, _, _, [], rfl, rfl, SlR.nil _ _ _ _ _⟩
 have r62 := bf r49 c60
 refine shW_skip (wsr (om rfl rfl (om rfl rfl (oa rfl rfl (oa rfl rfl (oa rfl rfl (shO_nil ?_)))))))
 refine kW (kd kr) ?_
 refine shW_ret ?_
 refine q_res3 Try.results9 (res_tmp rfl) (res_tmp rfl) (res_tmp rfl) (sr) ?_
 obtain ⟨rfl, rfl, rfl⟩ := inj3 r62
 exact ⟨_, _, _, _, rfl, rfl, hz57.any⟩
set_option maxHeartbeats 1000000 in
theorem oyezkit_Copy_int_w {l_a : Option Addr} {l_c : Nat} {l : List Int} {F : FS} (h_l : RowR 1 (iE .i64) F l_a l_c l) {r : List Int} (hr : oyezkit_Copy_int l = some r) :
    SH.Spec Try.prog 33 #[.slice l_a l.length l_c] F [] fun F' L' v => ∃ (ra : Option Addr) (rn : Nat) (rc : Nat) (rL : LH), v = .slice ra rn rc ∧ L' = rL ++ [] ∧ SlR 0 3 1 (iE .i64) F' ra rn rc r rL := by
 refine spec_of_shW (args := [.slice l_a l.length l_c]) Try.func33 rfl Try.ntmps33 (nbL rfl) ?_
 intro K _ _; rw [oyezkit_Copy_int] at hr
 refine wsr (oa rfl rfl (nsr (om rfl rfl ?_)))
 refine ov (v_lenS Try.underlying30 rfl) rfl ?_
 obtain ⟨g1, r2⟩ := gd_ok hr
 obtain ⟨l2, h3, r4⟩ := bv_ok r2
 refine o_makeZ (R := (iE .i64)) (z0 := 0) (zs := l2) rfl slt_30 (by decide) (iE_ok _) (fun _ => rfl) rfl g1 h3 (fun _ => .n) ?_; intro a5 n8 Lb6 hz7
 refine oa rfl rfl (nsr (om rfl rfl (om rfl rfl ?_)))
 obtain ⟨out, h10, r11⟩ := bv_ok r4
 refine o_copyZ (ys := l) (zs := out) rfl slt_30 (iE_ok _) rfl rfl (fun _ => .h) hz7 (RowR.src h_l) h10 ?_; intro Lb12 hz13
 refine nsr (om rfl rfl (oa rfl rfl (shO_nil (shW_ret ?_))))
 refine q_res1 Try.results33 (res_tmp rfl) (sr) ?_
 obtain rfl := inj1 r11
 exact ⟨_, _, _, _, rfl, rfl, hz13.any⟩
set_option maxHeartbeats 1000000 in
theorem oyezkit_CopyRows_int_w {l_a : Option Addr} {l_c : Nat} {l : List (List Int)} {F : FS} (h_l : RowR 1 (slE 1 (iE .i64)) F l_a l_c l) {r : List (List Int)} (hr : oyezkit_CopyRows_int l = some r) :
    SH.Spec Try.prog 31 #[.slice l_a l.length l_c] F [] fun F' L' v => ∃ (ra : Option Addr) (rn : Nat) (rc : Nat) (rL : LH), v = .slice ra rn rc ∧ L' = rL ++ [] ∧ NlR 0 30 3 1 (iE .i64) F' ra rn rc r rL := by
 refine spec_of_shW (args := [.slice l_a l.length l_c]) Try.func31 rfl Try.ntmps31 (nbL rfl) ?_
 intro K _ _; rw [oyezkit_CopyRows_int] at hr
 refine wsr (oa rfl rfl (nsr (om rfl rfl ?_)))
 refine ov (v_lenS Try.underlying23 rfl) rfl ?_
 obtain ⟨g1, r2⟩ := gd_ok hr
 obtain ⟨l2, h3, r4⟩ := bv_ok r2
 refine o_makeZ (R := hdE) (z0 := (none, 0, 0)) (zs := List.replicate ((l.length : Int) : Int).toNat (none, 0, 0)) rfl slt_23 (by decide) hdE_ok (fun _ => rfl) rfl g1 rfl (fun _ => .n) ?_; intro a5 n8 Lb6 hO9
 have hz7 : NlR K.w0.heap.size 30 3 1 (iE .i64) F a5 n8 n8 l2 Lb6 := NlR.made hO9 h3
 refine oa rfl rfl (shO_nil ?_)
 obtain ⟨out, h13, r14⟩ := b1_ok r4
 refine shW_join (fun e1 F1 L1 => ∃ (Lb11 : LH), FExt F F1 ∧ L1 = (Lb11 ++ []) ∧ e1.sub [(3, .slice a5 n8 n8)] ∧ NlR K.w0.heap.size 30 3 1 (iE .i64) F1 a5 n8 n8 out Lb11) ?_ ?_
 · clear r14
   refine wsr (om rfl rfl ?_)
   refine ov (v_lenS Try.underlying23 rfl) rfl ?_
   refine om rfl rfl (shO_nil ?_)
   refine shW_block ?_
   refine shW_lp (fun fu1 e1 F1 L1 => ∃ (tl : List (List Int)) (k : Int), tl.length = fu1 ∧ Lst l k tl ∧ ∃ (out2 : List (List Int)) (Lb15 : LH), oyezkit_CopyRows_int_l1 tl k out2 = some out ∧ FExt F F1 ∧ L1 = (Lb15 ++ []) ∧ e1.sub [(3, .slice a5 n8 n8), (9, .slice l_a l.length l_c), (10, .int .i64 (l.length : Int)), (11, .int .i64 k)] ∧ NlR K.w0.heap.size 30 3 1 (iE .i64) F1 a5 n8 n8 out2 Lb15) _ (m0 kr ⟨_, _, rfl, Lst.start _, l2, Lb6, h13, FExt.refl _, rfl, (sc rfl (sc rfl (sc rfl (sc rfl (sn _))))), hz7⟩) ?_
   rintro fu1 e1 F21 _ ⟨tl, k, hn18, hk17, out2, Lb15, r19, hF22, rfl, he20, hz16⟩
   refine shW_env _ he20 ?_
   replace h_l := h_l.mono (slE_ok (iE_ok _)) hF22
   refine wsr ?_
   refine ov (v_lssK rfl rfl) rfl ?_
   refine shO_nil (shW_seq ?_)
   refine shW_condP rfl (fun c24 => ?_) (fun c24 => ?_)
   · obtain ⟨x, tl2, rfl, hx26, g27, hk25⟩ := Lst.succ hk17 c24
     rw [oyezkit_CopyRows_int_l1] at r19
     refine shW_skip (shW_seq ?_)
     refine shW_block ?_
     refine wsr (om rfl rfl ?_)
     obtain ⟨b28, o29, c30, vs31, ha32, hs33, hle34, ⟨a37, c38, rfl, h39⟩, hl35, hc36⟩ := RowR.at (slE_ok (iE_ok _)) h_l (Lb15 ++ []) g27.1 hx26
     refine ov (v_indexO Try.underlying23 Try.sizeOf30 rfl ha32 rfl g27) rfl ?_
     refine ov (v_load Try.isAgg30 rfl hs33 (hc36 0 (by decide))) rfl ?_
     refine oa rfl rfl (oa rfl rfl (shO_nil (shW_region (om rfl rfl (om rfl rfl (om rfl rfl ?_))))))
     obtain ⟨l3, h40, r41⟩ := b1_ok r19
     refine o_call0 rfl Try.call33 rfl rfl rfl (oyezkit_Copy_int_w h39 h40) ?_; rintro _ F42 _ hF43 hn44 ⟨a46, n50, c47, Lb48, rfl, rfl, hz49⟩
     replace h_l := h_l.mono (slE_ok (iE_ok _)) hF43
     replace hz16 := hz16.mono (iE_ok _) hF43
     replace hz49 := hz49.new fun p hp => hn44 p (by simp [hp])
     refine shO_L (lp (ln rfl)) ?_
     obtain ⟨x2, g52, hx53, r54⟩ := ix_ok r41
     have hn66 := (NlR.caps hz16).1
     refine shO_open (fS fP) hz16 hx53 ?_; intro hs55 Lo56 Lc57 a58 n59 c60 Lb61 hh62 hO63 hz64 hI65
     obtain ⟨b68, o69, c70, vs71, ha72, hs73, hle74, rfl, hl75, hc76⟩ := SlR.at hdE_ok hO63 (L := Lo56 ++ (Lb61 ++ (Lc57 ++ (Lb48 ++ [])))) fP g52.1 hh62
     refine ov (v_indexO Try.underlying23 Try.sizeOf30 rfl ha72 rfl (idxN hn66 g52)) rfl ?_
     refine o_storeZ (zs := hs55.set (k : Int).toNat (a46, n50, c47)) (u := (a46, n50, c47)) Try.sizeOf30 hdE_ok rfl ha72 rfl rfl (fun _ => .h) hO63 rfl (idxH hn66 hO63 g52) ?_; intro Lo77 hO78
     refine kO (ka (kx kr)) ?_
     obtain ⟨out3, h79, r80⟩ := bv_ok r54
     refine shO_fold (p := fun X => NlR K.w0.heap.size 30 3 1 (iE .i64) F42 a5 n8 n8 out3 X) (InH.back hI65 hO78 hz49 h79) (pT (pA ((fS fP).trans (pA pR))) (lp (lp (lp (ln rfl))))) ?_; intro Lb81 hz82
     refine shO_nil (inBlock_n (id := 1) (shW_region ?_))
     refine ov (v_add rfl rfl (Lst.r64 hk17 c24 (RowR.lt h_l))) rfl ?_
     refine om rfl rfl (shO_nil ?_)
     subst hn18; exact le kr ⟨_, _, rfl, hk25, out3, Lb81, r80, (hF22.trans hF43), rfl, (sc rfl (sc rfl (sc rfl (sc rfl (sn _))))), hz82⟩
   obtain rfl := Lst.zero hk17 c24
   rw [oyezkit_CopyRows_int_l1] at r19
   refine shW_exit (andThen_exit (andThen_exit ?_))
   refine inBlock_exit ?_
   obtain rfl := inj1 r19
   exact mi kr ⟨Lb15, hF22, rfl, (sc rfl (sn _)), hz16⟩
 rintro e1 F84 _ ⟨Lb11, hF85, rfl, he83, hz12⟩
 refine shW_env _ he83 ?_
 refine wsr (om rfl rfl (oa rfl rfl (shO_nil (shW_ret ?_))))
 refine q_res1 Try.results31 (res_tmp rfl) (sr) ?_
 obtain rfl := inj1 r14
 exact ⟨_, _, _, _, rfl, rfl, hz12.any⟩
set_option maxHeartbeats 1000000 in
theorem oyezkit_Copy_Notice_w {l_a : Option Addr} {l_c : Nat} {l : List ((List Int) × Int × Int)} {F : FS} (h_l : RowR 3 (prE (slE 1 (iE .i64)) (prE (iE .i64) (iE .i64))) F l_a l_c l) {r : List ((List Int) × Int × Int)} (hr : oyezkit_Copy_Notice l = some r) :
    SH.Spec Try.prog 32 #[.slice l_a l.length l_c] F [] fun F' L' v => ∃ (ra : Option Addr) (rn : Nat) (rc : Nat) (rL : LH), v = .slice ra rn rc ∧ L' = rL ++ [] ∧ SlR 0 39 3 (prE (slE 1 (iE .i64)) (prE (iE .i64) (iE .i64))) F' ra rn rc r rL := by
 refine spec_of_shW (args := [.slice l_a l.length l_c]) Try.func32 rfl Try.ntmps32 (nbL rfl) ?_
 intro K _ _; rw [oyezkit_Copy_Notice] at hr
 refine wsr (oa rfl rfl (nsr (om rfl rfl ?_)))
 refine ov (v_lenS Try.underlying24 rfl) rfl ?_
 obtain ⟨g1, r2⟩ := gd_ok hr
 obtain ⟨l2, h3, r4⟩ := bv_ok r2
 refine o_makeZ (R := (prE (slE 1 (iE .i64)) (prE (iE .i64) (iE .i64)))) (z0 := ([], 0, 0)) (zs := l2) rfl slt_24 (by decide) (prE_ok (slE_ok (iE_ok _)) (prE_ok (iE_ok _) (iE_ok _))) (fun _ => ⟨_, _, rfl, ⟨_, _, rfl, RowR.nil _ _ _⟩, ⟨_, _, rfl, rfl, rfl⟩⟩) rfl g1 h3 (fun _ => .n) ?_; intro a5 n8 Lb6 hz7
 refine oa rfl rfl (nsr (om rfl rfl (om rfl rfl ?_)))
 obtain ⟨out, h10, r11⟩ := bv_ok r4
 refine o_copyZ (ys := l) (zs := out) rfl slt_24 (prE_ok (slE_ok (iE_ok _)) (prE_ok (iE_ok _) (iE_ok _))) rfl rfl (fun _ => .h) hz7 (RowR.src h_l) h10 ?_; intro Lb12 hz13
 refine nsr (om rfl rfl (oa rfl rfl (shO_nil (shW_ret ?_))))
 refine q_res1 Try.results32 (res_tmp rfl) (sr) ?_
 obtain rfl := inj1 r11
 exact ⟨_, _, _, _, rfl, rfl, hz13.any⟩
set_option maxHeartbeats 1000000 in
theorem oyezlaw03_Own_w {walks_a : Option Addr} {walks_c : Nat} {walks : List (List Int)} {hears_a : Option Addr} {hears_c : Nat} {hears : List (List Int)} {houses start : Int} {notices_a : Option Addr} {notices_c : Nat} {notices : List ((List Int) × Int × Int)} {F : FS} (h_walks : RowR 1 (slE 1 (iE .i64)) F walks_a walks_c walks) (h_hears : RowR 1 (slE 1 (iE .i64)) F hears_a hears_c hears) (h_notices : RowR 3 (prE (slE 1 (iE .i64)) (prE (iE .i64) (iE .i64))) F notices_a notices_c notices) {r r2 : List (List Int)} {r3 r4 : Int} {r5 : List ((List Int) × Int × Int)} (hr : oyezlaw03_Own walks hears houses start notices = some (r, r2, r3, r4, r5)) :
    SH.Spec Try.prog 11 #[.agg #[.slice walks_a walks.length walks_c, .slice hears_a hears.length hears_c, .int .i64 houses, .int .i64 start, .slice notices_a notices.length notices_c]] F [] fun F' L' v => ∃ (ra : Option Addr) (rn : Nat) (rc : Nat) (rL : LH) (r2a : Option Addr) (r2n : Nat) (r2c : Nat) (r2L : LH) (r5a : Option Addr) (r5n : Nat) (r5c : Nat) (r5L : LH), v = .agg #[.slice ra rn rc, .slice r2a r2n r2c, .int .i64 r3, .int .i64 r4, .slice r5a r5n r5c] ∧ L' = rL ++ (r2L ++ (r5L ++ [])) ∧ NlR 0 30 3 1 (iE .i64) F' ra rn rc r rL ∧ NlR 0 30 3 1 (iE .i64) F' r2a r2n r2c r2 r2L ∧ SlR 0 39 3 (prE (slE 1 (iE .i64)) (prE (iE .i64) (iE .i64))) F' r5a r5n r5c r5 r5L := by
 refine spec_of_shW (args := [.agg #[.slice walks_a walks.length walks_c, .slice hears_a hears.length hears_c, .int .i64 houses, .int .i64 start, .slice notices_a notices.length notices_c]]) Try.func11 rfl Try.ntmps11 (nbL rfl) ?_
 intro K _ _; rw [oyezlaw03_Own] at hr
 refine wsr ?_
 refine o_box rfl rfl ?_; intro b1 hb1
 refine o_alloc rfl Try.zeroValue26 ?_; intro b2 hb2
 refine shO_nil (shW_seq ?_)
 refine shW_drawM [(.still, 0), (.still, 1), (.still, 3), (.still, 4), (.still, 6), (.still, 7), (.seq, 2), (.still, 9), (.seq, 5), (.seq, 8), (.seq, 10), (.still, 11), (.seq, 12), (.still, 13), (.seq, 14)] (by kernel_rfl) (by kernel_rfl) (trivial) (by rfl) (by kernel_rfl) ?_
 refine shM_v (v := .pointer (some ⟨b1, 0, none⟩)) (ek := [(1, .pointer (some ⟨b1, 0, none⟩))]) (Ls := []) rfl rfl rfl rfl ((sc rfl (sn _))) (by kernel_rfl) sm (fun H F' L' hF' hL' => v_fieldAddr fa_26_0 rfl) ?_
 refine shM_v (v := .slice walks_a walks.length walks_c) (ek := [(5, .pointer (some ⟨b1, 0, none⟩))]) (Ls := [(b1, .cells #[.slice walks_a walks.length walks_c, .slice hears_a hears.length hears_c, .int .i64 houses, .int .i64 start, .slice notices_a notices.length notices_c] 26 (0, 0))]) rfl rfl rfl rfl ((sc rfl (sn _))) (by kernel_rfl) (s0 (s1 (s2 sr))) (fun H F' L' hF' hL' => v_load Try.isAgg23 rfl ((Has.own 0 rfl).ext hF' hL') rfl) ?_
 refine shM_v (v := .pointer (some ⟨b1, 1, none⟩)) (ek := [(1, .pointer (some ⟨b1, 0, none⟩))]) (Ls := []) rfl rfl rfl rfl ((sc rfl (sn _))) (by kernel_rfl) sm (fun H F' L' hF' hL' => v_fieldAddr fa_26_1 rfl) ?_
 refine shM_v (v := .slice hears_a hears.length hears_c) (ek := [(8, .pointer (some ⟨b1, 1, none⟩))]) (Ls := [(b1, .cells #[.slice walks_a walks.length walks_c, .slice hears_a hears.length hears_c, .int .i64 houses, .int .i64 start, .slice notices_a notices.length notices_c] 26 (0, 0))]) rfl rfl rfl rfl ((sc rfl (sn _))) (by kernel_rfl) (s0 (s1 (s2 sr))) (fun H F' L' hF' hL' => v_load Try.isAgg23 rfl ((Has.own 0 rfl).ext hF' hL') rfl) ?_
 refine shM_v (v := .pointer (some ⟨b1, 4, none⟩)) (ek := [(1, .pointer (some ⟨b1, 0, none⟩))]) (Ls := []) rfl rfl rfl rfl ((sc rfl (sn _))) (by kernel_rfl) sm (fun H F' L' hF' hL' => v_fieldAddr fa_26_4 rfl) ?_
 refine shM_v (v := .slice notices_a notices.length notices_c) (ek := [(11, .pointer (some ⟨b1, 4, none⟩))]) (Ls := [(b1, .cells #[.slice walks_a walks.length walks_c, .slice hears_a hears.length hears_c, .int .i64 houses, .int .i64 start, .slice notices_a notices.length notices_c] 26 (0, 0))]) rfl rfl rfl rfl ((sc rfl (sn _))) (by kernel_rfl) (s0 (s1 (s2 sr))) (fun H F' L' hF' hL' => v_load Try.isAgg24 rfl ((Has.own 0 rfl).ext hF' hL') rfl) ?_
 refine ⟨_, [(6, .slice walks_a walks.length walks_c)], rfl, rfl, (sc rfl (sn _)), by kernel_rfl, ?_⟩; intro H
 obtain ⟨l, h3, r6⟩ := b1_ok hr
 refine o_call0 rfl Try.call31 rfl rfl rfl (oyezkit_CopyRows_int_w h_walks h3) ?_; rintro _ F7 _ hF8 hn9 ⟨a11, n15, c12, Lb13, rfl, rfl, hz14⟩
 replace h_hears := h_hears.mono (slE_ok (iE_ok _)) hF8
 replace h_notices := h_notices.mono (prE_ok (slE_ok (iE_ok _)) (prE_ok (iE_ok _) (iE_ok _))) hF8
 replace hz14 := hz14.new fun p hp => hn9 p (by simp [hp])
 refine shO_L (lp (ln rfl)) ?_
 refine kO (kf (fS fO) (kf (fS fO) kr)) ?_
 refine shO_nil ⟨_, rfl, hF8, [7, 6, 4, 3], by kernel_rfl, .inl (.inr (fun d h => by cases h; rfl)), (List.forall_mem_cons.2 ⟨s0 (s1 (s2 (s3 sr))), (List.forall_mem_cons.2 ⟨sm, (List.forall_mem_cons.2 ⟨s0 (s1 (s2 (s3 sr))), (List.forall_mem_cons.2 ⟨sm, (fun _ h => absurd h List.not_mem_nil)⟩)⟩)⟩)⟩), ?_⟩
 refine shM_v (v := .pointer (some ⟨b1, 0, none⟩)) (ek := [(1, .pointer (some ⟨b1, 0, none⟩))]) (Ls := []) rfl rfl rfl rfl ((sc rfl (sn _))) (by kernel_rfl) sm (fun H F' L' hF' hL' => v_fieldAddr fa_26_0 rfl) ?_
 refine ⟨_, [(9, .slice hears_a hears.length hears_c)], rfl, rfl, (sc rfl (sn _)), by kernel_rfl, ?_⟩; intro H
 obtain ⟨l2, h17, r18⟩ := b1_ok r6
 refine o_call0 rfl Try.call31 rfl rfl rfl (oyezkit_CopyRows_int_w h_hears h17) ?_; rintro _ F19 _ hF20 hn21 ⟨a23, n27, c24, Lb25, rfl, rfl, hz26⟩
 replace h_notices := h_notices.mono (prE_ok (slE_ok (iE_ok _)) (prE_ok (iE_ok _) (iE_ok _))) hF20
 replace hz14 := hz14.mono (iE_ok _) hF20
 replace hz26 := hz26.new fun p hp => hn21 p (by simp [hp])
 refine shO_L (lp (ln rfl)) ?_
 refine kO (kf (fS fO) (kf (fS fO) kr)) ?_
 refine shO_nil ⟨_, rfl, hF20, [9, 7, 6], by kernel_rfl, .inl (.inr (fun d h => by cases h; rfl)), (List.forall_mem_cons.2 ⟨sm, (List.forall_mem_cons.2 ⟨s0 (s1 (s2 (s3 (s3 sr)))), (List.forall_mem_cons.2 ⟨sm, (fun _ h => absurd h List.not_mem_nil)⟩)⟩)⟩), ?_⟩
 refine ⟨_, [(12, .slice notices_a notices.length notices_c)], rfl, rfl, (sc rfl (sn _)), by kernel_rfl, ?_⟩; intro H
 obtain ⟨l3, h29, r30⟩ := b1_ok r18
 refine o_call0 rfl Try.call32 rfl rfl rfl (oyezkit_Copy_Notice_w h_notices h29) ?_; rintro _ F31 _ hF32 hn33 ⟨a35, n39, c36, Lb37, rfl, rfl, hz38⟩
 replace hz14 := hz14.mono (iE_ok _) hF32
 replace hz26 := hz26.mono (iE_ok _) hF32
 replace hz38 := hz38.new fun p hp => hn33 p (by simp [hp])
 refine shO_L (lp (ln rfl)) ?_
 refine kO (kf (fS fO) (kf (fS fO) kr)) ?_
 refine shO_nil ⟨_, rfl, hF32, [9], by kernel_rfl, .inl (.inr (fun d h => by cases h; rfl)), (List.forall_mem_cons.2 ⟨sm, (fun _ h => absurd h List.not_mem_nil)⟩), ?_⟩
 refine ⟨_, [(7, .slice a11 n15 c12), (14, .pointer (some ⟨b1, 0, none⟩))], rfl, rfl, (sc rfl (sc rfl (sn _))), by kernel_rfl, ?_⟩; intro H
 refine o_store (i := 1) Try.sizeOf23 rfl rfl rfl rfl (nbL rfl) ?_
 refine shO_L (L' := (b2, .cells #[.slice none 0 0, .slice none 0 0, .int .i64 0, .int .i64 0, .slice none 0 0] 26 (0, 0)) :: ((b1, .cells #[.slice a11 n15 c12, .slice hears_a hears.length hears_c, .int .i64 houses, .int .i64 start, .slice notices_a notices.length notices_c] 26 (0, 0)) :: (Lb37 ++ (Lb25 ++ (Lb13 ++ []))))) rfl ?_
 refine shO_nil ⟨undef, rfl, FExt.refl _, [], by kernel_rfl, .inl (.inl rfl), (fun _ h => absurd h List.not_mem_nil), ?_⟩
 refine shM_v (v := .pointer (some ⟨b1, 1, none⟩)) (ek := [(1, .pointer (some ⟨b1, 0, none⟩))]) (Ls := []) rfl rfl rfl rfl ((sc rfl (sn _))) (by kernel_rfl) sm (fun H F' L' hF' hL' => v_fieldAddr fa_26_1 rfl) ?_
 refine ⟨_, [(10, .slice a23 n27 c24), (15, .pointer (some ⟨b1, 1, none⟩))], rfl, rfl, (sc rfl (sc rfl (sn _))), by kernel_rfl, ?_⟩; intro H
 refine o_store (i := 1) Try.sizeOf23 rfl rfl rfl rfl (nbL rfl) ?_
 refine shO_L (L' := (b2, .cells #[.slice none 0 0, .slice none 0 0, .int .i64 0, .int .i64 0, .slice none 0 0] 26 (0, 0)) :: ((b1, .cells #[.slice a11 n15 c12, .slice a23 n27 c24, .int .i64 houses, .int .i64 start, .slice notices_a notices.length notices_c] 26 (0, 0)) :: (Lb37 ++ (Lb25 ++ (Lb13 ++ []))))) rfl ?_
 refine shO_nil ⟨undef, rfl, FExt.refl _, [], by kernel_rfl, .inl (.inl rfl), (fun _ h => absurd h List.not_mem_nil), ?_⟩
 refine shM_v (v := .pointer (some ⟨b1, 4, none⟩)) (ek := [(1, .pointer (some ⟨b1, 0, none⟩))]) (Ls := []) rfl rfl rfl rfl ((sc rfl (sn _))) (by kernel_rfl) sm (fun H F' L' hF' hL' => v_fieldAddr fa_26_4 rfl) ?_
 refine ⟨_, [(13, .slice a35 n39 c36), (16, .pointer (some ⟨b1, 4, none⟩))], rfl, rfl, (sc rfl (sc rfl (sn _))), by kernel_rfl, ?_⟩; intro H
 refine o_store (i := 1) Try.sizeOf24 rfl rfl rfl rfl (nbL rfl) ?_
 refine shO_L (L' := (b2, .cells #[.slice none 0 0, .slice none 0 0, .int .i64 0, .int .i64 0, .slice none 0 0] 26 (0, 0)) :: ((b1, .cells #[.slice a11 n15 c12, .slice a23 n27 c24, .int .i64 houses, .int .i64 start, .slice a35 n39 c36] 26 (0, 0)) :: (Lb37 ++ (Lb25 ++ (Lb13 ++ []))))) rfl ?_
 refine shO_nil ⟨undef, rfl, FExt.refl _, [], by kernel_rfl, .inl (.inl rfl), (fun _ h => absurd h List.not_mem_nil), ?_⟩
 refine shM_nil ?_
 obtain ⟨b_notices, h43, r44⟩ := b1_ok r30
 refine shW_join (fun e1 F1 L1 => ∃ (Lb41 : LH), FExt F31 F1 ∧ L1 = ((b2, .cells #[.slice none 0 0, .slice none 0 0, .int .i64 0, .int .i64 0, .slice none 0 0] 26 (0, 0)) :: ((b1, .cells #[.slice a11 n15 c12, .slice a23 n27 c24, .int .i64 houses, .int .i64 start, .slice a35 n39 c36] 26 (0, 0)) :: (Lb13 ++ (Lb25 ++ (Lb41 ++ []))))) ∧ e1.sub [(1, .pointer (some ⟨b1, 0, none⟩)), (2, .pointer (some ⟨b2, 0, none⟩))] ∧ SlR K.w0.heap.size 39 3 (prE (slE 1 (iE .i64)) (prE (iE .i64) (iE .i64))) F1 a35 n39 c36 b_notices Lb41) ?_ ?_
 · clear r44
   refine wsr ?_
   refine ov (v_fieldAddr fa_26_4 rfl) rfl ?_
   refine ov (v_load Try.isAgg24 rfl (Has.own 1 rfl) rfl) rfl ?_
   refine ov ((v_lenS Try.underlying24 rfl).i (SlR.lenI hz38)) rfl ?_
   refine om rfl rfl (shO_nil ?_)
   refine shW_block ?_
   obtain ⟨g47, r48⟩ := gd_ok h43
   refine shW_lp (fun fu1 e1 F1 L1 => ∃ (k : Int), Ctr 0 (l3.length : Int) k fu1 ∧ ∃ (b_notices2 : List ((List Int) × Int × Int)) (Lb45 : LH), oyezlaw03_Own_l1 fu1 k b_notices2 = some b_notices ∧ FExt F31 F1 ∧ L1 = ((b2, .cells #[.slice none 0 0, .slice none 0 0, .int .i64 0, .int .i64 0, .slice none 0 0] 26 (0, 0)) :: ((b1, .cells #[.slice a11 n15 c12, .slice a23 n27 c24, .int .i64 houses, .int .i64 start, .slice a35 n39 c36] 26 (0, 0)) :: (Lb13 ++ (Lb25 ++ (Lb45 ++ []))))) ∧ e1.sub [(1, .pointer (some ⟨b1, 0, none⟩)), (2, .pointer (some ⟨b2, 0, none⟩)), (18, .slice a35 n39 c36), (19, .int .i64 (l3.length : Int)), (20, .int .i64 k)] ∧ SlR K.w0.heap.size 39 3 (prE (slE 1 (iE .i64)) (prE (iE .i64) (iE .i64))) F1 a35 n39 c36 b_notices2 Lb45) _ (m0 (kc (kc (kg (fS (fS fP)) (kg (fS fP) kr)))) ⟨_, Ctr.start _ _, l3, Lb37, r48, FExt.refl _, rfl, (sc rfl (sc rfl (sc rfl (sc rfl (sc rfl (sn _)))))), hz38⟩) ?_
   rintro fu1 e1 F53 _ ⟨k, hk49, b_notices2, Lb45, r51, hF54, rfl, he52, hz46⟩
   refine shW_env _ he52 ?_
   refine wsr ?_
   refine ov (v_lssK rfl rfl) rfl ?_
   refine shO_nil (shW_seq ?_)
   refine shW_condP rfl (fun c56 => ?_) (fun c56 => ?_)
   · obtain ⟨fu1, rfl, hk57⟩ := Ctr.succ hk49 c56
     rw [oyezlaw03_Own_l1] at r51
     refine shW_skip (shW_seq ?_)
     refine shW_block ?_
     refine wsr (om rfl rfl ?_)
     obtain ⟨x, g58, hx59, r60⟩ := ix_ok r51
     obtain ⟨b61, o62, c63, vs64, ha65, hs66, hle67, ⟨_, _, rfl, ⟨a70, c71, rfl, h72⟩, ⟨_, _, rfl, rfl, rfl⟩⟩, hl68, hc69⟩ := SlR.at (prE_ok (slE_ok (iE_ok _)) (prE_ok (iE_ok _) (iE_ok _))) hz46 (L := (b2, .cells #[.slice none 0 0, .slice none 0 0, .int .i64 0, .int .i64 0, .slice none 0 0] 26 (0, 0)) :: ((b1, .cells #[.slice a11 n15 c12, .slice a23 n27 c24, .int .i64 houses, .int .i64 start, .slice a35 n39 c36] 26 (0, 0)) :: (Lb13 ++ (Lb25 ++ (Lb45 ++ []))))) (fC (fC (fS (fS fP)))) g58.1 hx59
     refine ov (v_indexO Try.underlying24 Try.sizeOf39 rfl ha65 rfl (SlR.idx hz46 g58)) rfl ?_
     refine ov (v_loadA (cs := #[.slice a70 x.1.length c71, .int .i64 x.2.1, .int .i64 x.2.2]) Try.isAgg39 Try.sizeOf39 rfl hs66 hle67 (extract_cells hle67 hl68 hc69)) rfl ?_
     refine o_alloc rfl Try.zeroValue39 ?_; intro b73 hb73
     refine oa rfl rfl ?_
     refine o_storeA (i := 0) Try.sizeOf39 rfl rfl rfl (by simp [Value.oneCell']) rfl (nbL rfl) ?_
     refine shO_L (L' := (b73, .cells #[.slice a70 x.1.length c71, .int .i64 x.2.1, .int .i64 x.2.2] 39 (0, 0)) :: ((b2, .cells #[.slice none 0 0, .slice none 0 0, .int .i64 0, .int .i64 0, .slice none 0 0] 26 (0, 0)) :: ((b1, .cells #[.slice a11 n15 c12, .slice a23 n27 c24, .int .i64 houses, .int .i64 start, .slice a35 n39 c36] 26 (0, 0)) :: (Lb13 ++ (Lb25 ++ (Lb45 ++ [])))))) rfl ?_
     refine shO_nil ?_
     refine shW_drawM [(.still, 0), (.still, 1), (.still, 2), (.still, 3), (.still, 4), (.seq, 5), (.still, 6), (.still, 7), (.seq, 8)] (by kernel_rfl) (by kernel_rfl) (trivial) (by rfl) (by kernel_rfl) ?_
     refine shM_v (v := .pointer (some ⟨b1, 4, none⟩)) (ek := [(1, .pointer (some ⟨b1, 0, none⟩))]) (Ls := []) rfl rfl rfl rfl ((sc rfl (sn _))) (by kernel_rfl) sm (fun H F' L' hF' hL' => v_fieldAddr fa_26_4 rfl) ?_
     refine shM_v (v := .slice a35 n39 c36) (ek := [(25, .pointer (some ⟨b1, 4, none⟩))]) (Ls := [(b1, .cells #[.slice a11 n15 c12, .slice a23 n27 c24, .int .i64 houses, .int .i64 start, .slice a35 n39 c36] 26 (0, 0))]) rfl rfl rfl rfl ((sc rfl (sn _))) (by kernel_rfl) (s0 (s1 (s1 (s2 (s3 (s3 (s3 sr))))))) (fun H F' L' hF' hL' => v_load Try.isAgg24 rfl ((Has.own 0 rfl).ext hF' hL') rfl) ?_
     refine shM_v (v := .int .i64 k) (ek := [(3, .int .i64 k)]) (Ls := []) rfl rfl rfl rfl ((sc rfl (sn _))) (by kernel_rfl) sm (fun H F' L' hF' hL' => v_move rfl) ?_
     refine shM_v (v := .pointer (some ⟨b73, 0, none⟩)) (ek := [(4, .pointer (some ⟨b73, 0, none⟩))]) (Ls := []) rfl rfl rfl rfl ((sc rfl (sn _))) (by kernel_rfl) sm (fun H F' L' hF' hL' => v_fieldAddr fa_39_0 rfl) ?_
     refine shM_v (v := .slice a70 x.1.length c71) (ek := [(28, .pointer (some ⟨b73, 0, none⟩))]) (Ls := [(b73, .cells #[.slice a70 x.1.length c71, .int .i64 x.2.1, .int .i64 x.2.2] 39 (0, 0))]) rfl rfl rfl rfl ((sc rfl (sn _))) (by kernel_rfl) (s0 (s2 (s1 (s1 (s3 (s3 (s3 sr))))))) (fun H F' L' hF' hL' => v_load Try.isAgg30 rfl ((Has.own 0 rfl).ext hF' hL') rfl) ?_
     refine ⟨_, [(29, .slice a70 x.1.length c71)], rfl, rfl, (sc rfl (sn _)), by kernel_rfl, ?_⟩; intro H
     obtain ⟨l4, h74, r75⟩ := b1_ok r60
     refine o_call0 rfl Try.call33 rfl rfl rfl (oyezkit_Copy_int_w h72 h74) ?_; rintro _ F76 _ hF77 hn78 ⟨a80, n84, c81, Lb82, rfl, rfl, hz83⟩
     replace hz46 := hz46.mono (prE_ok (slE_ok (iE_ok _)) (prE_ok (iE_ok _) (iE_ok _))) hF77
     replace hz83 := hz83.new fun p hp => hn78 p (by simp [hp])
     refine shO_L (lp (ln rfl)) ?_
     refine kO (kf (fS fO) (kf (fS fO) (kf (fS fO) kr))) ?_
     refine shO_nil ⟨_, rfl, hF77, [2, 1, 0], by kernel_rfl, .inl (.inr (fun d h => by cases h; rfl)), (List.forall_mem_cons.2 ⟨sm, (List.forall_mem_cons.2 ⟨s0 (s1 (s1 (s2 (s3 (s3 (s3 (s3 sr))))))), (List.forall_mem_cons.2 ⟨sm, (fun _ h => absurd h List.not_mem_nil)⟩)⟩)⟩), ?_⟩
     obtain ⟨b86, o87, c88, vs89, ha90, hs91, hle92, ⟨_, _, rfl, ⟨a95, c96, rfl, h97⟩, ⟨_, _, rfl, rfl, rfl⟩⟩, hl93, hc94⟩ := SlR.at (prE_ok (slE_ok (iE_ok _)) (prE_ok (iE_ok _) (iE_ok _))) hz46 (L := Lb45 ++ []) fP g58.1 hx59
     refine shM_v (v := .pointer (some ⟨b86, o87 + (k : Int).toNat * 3, none⟩)) (ek := [(26, .slice a35 n39 c36), (27, .int .i64 k)]) (Ls := []) rfl rfl rfl rfl ((sc rfl (sc rfl (sn _)))) (by kernel_rfl) sm (fun H F' L' hF' hL' => v_indexO Try.underlying24 Try.sizeOf39 rfl ha90 rfl (SlR.idx hz46 g58)) ?_
     refine shM_v (v := .pointer (some ⟨b86, o87 + (k : Int).toNat * 3, none⟩)) (ek := [(31, .pointer (some ⟨b86, o87 + (k : Int).toNat * 3, none⟩))]) (Ls := []) rfl rfl rfl rfl ((sc rfl (sn _))) (by kernel_rfl) sm (fun H F' L' hF' hL' => OpV.eq (v_fieldAddr fa_39_0 rfl) rfl) ?_
     refine ⟨_, [(30, .slice a80 n84 c81), (32, .pointer (some ⟨b86, o87 + (k : Int).toNat * 3, none⟩))], rfl, rfl, (sc rfl (sc rfl (sn _))), by kernel_rfl, ?_⟩; intro H
     obtain rfl := (SlR.caps hz83).1
     refine shO_freezeR (Nat.le_refl _) (iE_ok _) (fC (fC (fC fP))) hz83 ?_; intro F98 hF99 h100
     replace hz46 := hz46.mono (prE_ok (slE_ok (iE_ok _)) (prE_ok (iE_ok _) (iE_ok _))) hF99
     obtain ⟨l5, h104, r105⟩ := bv_ok r75
     refine o_storeZP (zs := l5) (off := 0) (x0 := x) (u := (l4, x.2.1, x.2.2)) Try.sizeOf30 (prE_ok (slE_ok (iE_ok _)) (prE_ok (iE_ok _) (iE_ok _))) rfl ha90 rfl rfl (by decide) hx59 (fun vs h => by obtain ⟨_, _, rfl, ⟨a101, c102, rfl, h103⟩, ⟨_, _, rfl, rfl, rfl⟩⟩ := h; exact ⟨_, _, rfl, ⟨_, _, rfl, h100⟩, ⟨_, _, rfl, rfl, rfl⟩⟩) (fun _ => .c (.c (.c (.s (.s .h))))) hz46 h104 g58 ?_; intro Lb106 hz107
     refine shO_nil ⟨undef, rfl, hF99, [], by kernel_rfl, .inl (.inl rfl), (fun _ h => absurd h List.not_mem_nil), ?_⟩
     refine shM_nil ?_
     refine inBlock_n (id := 1) (shW_region ?_)
     refine ov (v_add rfl rfl (Ctr.r64 hk49 c56 g47)) rfl ?_
     refine om rfl rfl (shO_nil ?_)
     exact le (kd kr) ⟨_, hk57, l5, Lb106, r105, ((hF54.trans hF77).trans hF99), rfl, (sc rfl (sc rfl (sc rfl (sc rfl (sc rfl (sn _)))))), hz107⟩
   obtain rfl := Ctr.zero hk49 c56
   rw [oyezlaw03_Own_l1] at r51
   refine shW_exit (andThen_exit (andThen_exit ?_))
   refine inBlock_exit ?_
   obtain rfl := inj1 r51
   exact mi kr ⟨Lb45, hF54, rfl, (sc rfl (sc rfl (sn _))), hz46⟩
 rintro e1 F109 _ ⟨Lb41, hF110, rfl, he108, hz42⟩
 refine shW_env _ he108 ?_
 replace hz14 := hz14.mono (iE_ok _) hF110
 replace hz26 := hz26.mono (iE_ok _) hF110
 refine wsr ?_
 refine ov (v_loadA (cs := #[.slice a11 n15 c12, .slice a23 n27 c24, .int .i64 houses, .int .i64 start, .slice a35 n39 c36]) Try.isAgg26 Try.sizeOf26 rfl (Has.own 1 rfl) (nbL rfl) rfl) rfl ?_
 refine o_storeA (i := 0) Try.sizeOf26 rfl rfl rfl (by simp [Value.oneCell']) rfl (nbL rfl) ?_
 refine shO_L (L' := (b2, .cells #[.slice a11 n15 c12, .slice a23 n27 c24, .int .i64 houses, .int .i64 start, .slice a35 n39 c36] 26 (0, 0)) :: ((b1, .cells #[.slice a11 n15 c12, .slice a23 n27 c24, .int .i64 houses, .int .i64 start, .slice a35 n39 c36] 26 (0, 0)) :: (Lb13 ++ (Lb25 ++ (Lb41 ++ []))))) rfl ?_
 refine shO_nil ?_
 refine kW (kc (kd kr)) ?_
 refine shW_ret ?_
 refine q_res1 Try.results11 (res_cellA (cs := #[.slice a11 n15 c12, .slice a23 n27 c24, .int .i64 houses, .int .i64 start, .slice a35 n39 c36]) Try.isAgg26 Try.sizeOf26 rfl (Has.own 0 rfl) (nbL rfl) rfl) (s1 (s4 (s4 (s4 sr)))) ?_
 obtain ⟨rfl, rfl, rfl, rfl, rfl⟩ := inj5 r44
 exact ⟨_, _, _, _, _, _, _, _, _, _, _, _, rfl, rfl, hz14.any, hz26.any, hz42.any⟩
set_option maxHeartbeats 1000000 in
theorem slices_Equal_int_int_w {s1_a : Option Addr} {s1_c : Nat} {s1 : List Int} {s2_a : Option Addr} {s2_c : Nat} {s2 : List Int} {F : FS} (h_s1 : RowR 1 (iE .i64) F s1_a s1_c s1) (h_s2 : RowR 1 (iE .i64) F s2_a s2_c s2) {r : Bool} (hr : slices_Equal_int_int s1 s2 = some r) :
    SpecV Try.prog 50 #[.slice s1_a s1.length s1_c, .slice s2_a s2.length s2_c] F (.bool r) := by
 refine spec_of_shW (args := [.slice s1_a s1.length s1_c, .slice s2_a s2.length s2_c]) Try.func50 rfl Try.ntmps50 (nbL rfl) ?_
 intro K _ _; rw [slices_Equal_int_int] at hr
 refine wsr (oa rfl rfl (shO_nil (shW_seq (wsr (om rfl rfl ?_)))))
 refine ov (v_lenS Try.underlying30 rfl) rfl ?_
 refine om rfl rfl ?_
 refine ov (v_lenS Try.underlying30 rfl) rfl ?_
 refine ov (v_neq rfl rfl) rfl ?_
 refine shO_nil ?_
 refine shW_condP rfl (fun c1 => ?_) (fun c1 => ?_)
 · have r2 := ite_t hr c1
   refine wsr (oa rfl rfl (shO_nil (shW_ret (andThen_ret ?_))))
   refine q_res1 Try.results50 (res_tmp rfl) (sr) ?_
   obtain rfl := inj1 r2
   exact rfl
 have r3 := ite_f hr c1
 refine shW_skip ?_
 refine shW_join (fun e1 F1 L1 => slices_Equal_int_int_j1 = some r ∧ F = F1 ∧ L1 = [] ∧ e1.sub []) ?_ ?_
 · refine wsr (om rfl rfl ?_)
   refine ov (v_lenS Try.underlying30 rfl) rfl ?_
   refine om rfl rfl (shO_nil ?_)
   refine shW_block ?_
   refine shW_lp (fun fu2 e1 F1 L1 => ∃ (tl : List Int) (k : Int), tl.length = fu2 ∧ Lst s1 k tl ∧ slices_Equal_int_int_l2 s2 tl k = some r ∧ F = F1 ∧ L1 = [] ∧ e1.sub [(0, .slice s1_a s1.length s1_c), (1, .slice s2_a s2.length s2_c), (12, .int .i64 (s1.length : Int)), (13, .int .i64 k)]) _ (m0 kr ⟨_, _, rfl, Lst.start _, r3, rfl, rfl, (sc rfl (sc rfl (sc rfl (sc rfl (sn _)))))⟩) ?_
   rintro fu2 e1 _ _ ⟨tl, k, hn5, hk4, r6, rfl, rfl, he7⟩
   refine shW_env _ he7 ?_
   refine wsr ?_
   refine ov (v_lssK rfl rfl) rfl ?_
   refine shO_nil (shW_seq ?_)
   refine shW_condP rfl (fun c9 => ?_) (fun c9 => ?_)
   · obtain ⟨x, tl2, rfl, hx11, g12, hk10⟩ := Lst.succ hk4 c9
     rw [slices_Equal_int_int_l2] at r6
     refine shW_skip (shW_seq ?_)
     refine shW_block ?_
     refine wsr (om rfl rfl (oa rfl rfl ?_))
     refine nsd (by kernel_rfl) (by kernel_rfl) (by kernel_rfl) ?_
     refine qm rfl rfl (qm rfl rfl ?_)
     obtain ⟨b13, o14, c15, vs16, ha17, hs18, hle19, rfl, hl20, hc21⟩ := RowR.at (iE_ok _) h_s1 ([]) g12.1 hx11
     refine qv (v_indexO Try.underlying30 Try.sizeOf3 rfl ha17 rfl g12) rfl ?_
     refine qv (v_load Try.isAgg3 rfl hs18 (hc21 0 (by decide))) rfl ?_
     refine qm rfl rfl (qm rfl rfl ?_)
     obtain ⟨x2, g22, hx23, r24⟩ := ix_ok r6
     obtain ⟨b25, o26, c27, vs28, ha29, hs30, hle31, rfl, hl32, hc33⟩ := RowR.at (iE_ok _) h_s2 ([]) g22.1 hx23
     refine qv (v_indexO Try.underlying30 Try.sizeOf3 rfl ha29 rfl g22) rfl ?_
     refine qv (v_load Try.isAgg3 rfl hs30 (hc33 0 (by decide))) rfl ?_
     refine qv (v_neq rfl rfl) rfl ?_
     refine shQ_nil ?_
     refine shW_condP rfl (fun c34 => ?_) (fun c34 => ?_)
     · have r35 := ite_t r24 c34
       refine wsr (oa rfl rfl (shO_nil (shW_ret (inBlock_ret (andThen_ret (andThen_ret (inBlock_ret (andThen_ret ?_))))))))
       refine q_res1 Try.results50 (res_tmp rfl) (sr) ?_
       obtain rfl := inj1 r35
       exact rfl
     have r36 := ite_f r24 c34
     refine shW_skip (inBlock_n (id := 1) (shW_region ?_))
     refine ov (v_add rfl rfl (Lst.r64 hk4 c9 (RowR.lt h_s1))) rfl ?_
     refine om rfl rfl (shO_nil ?_)
     subst hn5; exact le kr ⟨_, _, rfl, hk10, r36, rfl, rfl, (sc rfl (sc rfl (sc rfl (sc rfl (sn _)))))⟩
   obtain rfl := Lst.zero hk4 c9
   rw [slices_Equal_int_int_l2] at r6
   refine shW_exit (andThen_exit (andThen_exit ?_))
   refine inBlock_exit ?_
   exact mi kr ⟨r6, rfl, rfl, (sn _)⟩
 rintro e1 _ _ ⟨r37, rfl, rfl, he38⟩
 refine shW_env _ he38 ?_
 rw [slices_Equal_int_int_j1] at r37
 refine wsr (oa rfl rfl (shO_nil (shW_ret ?_)))
 refine q_res1 Try.results50 (res_tmp rfl) (sr) ?_
 obtain rfl := inj1 r37
 exact rfl
theorem oyezkit_Like_int_w {a_a : Option Addr} {a_c : Nat} {a : List Int} {b_a : Option Addr} {b_c : Nat} {b : List Int} {F : FS} (h_a : RowR 1 (iE .i64) F a_a a_c a) (h_b : RowR 1 (iE .i64) F b_a b_c b) {r : Bool} (hr : oyezkit_Like_int a b = some r) :
    SpecV Try.prog 22 #[.slice a_a a.length a_c, .slice b_a b.length b_c] F (.bool r) := by
 refine spec_of_shW (args := [.slice a_a a.length a_c, .slice b_a b.length b_c]) Try.func22 rfl Try.ntmps22 (nbL rfl) ?_
 intro K _ _; rw [oyezkit_Like_int] at hr
 refine wsr (oa rfl rfl (nsr (om rfl rfl (om rfl rfl ?_))))
 obtain ⟨ok, h1, r2⟩ := b1_ok hr
 refine o_callV rfl Try.call50 rfl rfl rfl (slices_Equal_int_int_w h_a h_b h1) ?_
 refine oa rfl rfl (shO_nil (shW_ret ?_))
 refine q_res1 Try.results22 (res_tmp rfl) (sr) ?_
 obtain rfl := inj1 r2
 exact rfl
set_option maxHeartbeats 1000000 in
theorem oyezlaw03_Three_w {F : FS} {r r2 : List (List Int)} {r3 r4 : Int} {r5 : List ((List Int) × Int × Int)} (hr : oyezlaw03_Three = some (r, r2, r3, r4, r5)) :
    SH.Spec Try.prog 34 #[] F [] fun F' L' v => ∃ (ra : Option Addr) (rn : Nat) (rc : Nat) (rL : LH) (r2a : Option Addr) (r2n : Nat) (r2c : Nat) (r2L : LH) (r5a : Option Addr) (r5n : Nat) (r5c : Nat) (r5L : LH), v = .agg #[.slice ra rn rc, .slice r2a r2n r2c, .int .i64 r3, .int .i64 r4, .slice r5a r5n r5c] ∧ L' = rL ++ (r2L ++ (r5L ++ [])) ∧ SlR 0 30 1 (slE 1 (iE .i64)) F' ra rn rc r rL ∧ SlR 0 30 1 (slE 1 (iE .i64)) F' r2a r2n r2c r2 r2L ∧ SlR 0 39 3 (prE (slE 1 (iE .i64)) (prE (iE .i64) (iE .i64))) F' r5a r5n r5c r5 r5L := by
 refine spec_of_shW (args := []) Try.func34 rfl Try.ntmps34 (nbL rfl) ?_
 intro K _ _; rw [oyezlaw03_Three] at hr
 refine wsr ?_
 refine o_alloc rfl Try.zeroValue26 ?_; intro b1 hb1
 refine nsr ?_
 refine o_buildSlice (cs := #[.int .i64 0, .int .i64 2, .int .i64 (-1)]) rfl rfl (buildSlice_all slt_30 [.int .i64 0, .int .i64 2, .int .i64 (-1)] rfl (by decide) (by simp [Value.cells]) (by decide)) ?_; intro b2 hb2
 refine o_buildSlice (cs := #[.int .i64 2, .int .i64 0, .int .i64 2]) rfl rfl (buildSlice_all slt_30 [.int .i64 2, .int .i64 0, .int .i64 2] rfl (by decide) (by simp [Value.cells]) (by decide)) ?_; intro b3 hb3
 refine o_buildSlice (cs := #[.int .i64 (-1), .int .i64 2, .int .i64 0]) rfl rfl (buildSlice_all slt_30 [.int .i64 (-1), .int .i64 2, .int .i64 0] rfl (by decide) (by simp [Value.cells]) (by decide)) ?_; intro b4 hb4
 refine o_buildSlice (cs := #[.slice (some ⟨b2, 0, none⟩) 3 3, .slice (some ⟨b3, 0, none⟩) 3 3, .slice (some ⟨b4, 0, none⟩) 3 3]) rfl rfl (buildSlice_all slt_23 [.slice (some ⟨b2, 0, none⟩) 3 3, .slice (some ⟨b3, 0, none⟩) 3 3, .slice (some ⟨b4, 0, none⟩) 3 3] rfl (by decide) (by simp [Value.cells]) (by decide)) ?_; intro b5 hb5
 refine o_buildSlice (cs := #[.int .i64 0]) rfl rfl (buildSlice_all slt_30 [.int .i64 0] rfl (by decide) (by simp [Value.cells]) (by decide)) ?_; intro b6 hb6
 refine o_buildSlice (cs := #[.int .i64 1]) rfl rfl (buildSlice_all slt_30 [.int .i64 1] rfl (by decide) (by simp [Value.cells]) (by decide)) ?_; intro b7 hb7
 refine o_buildSlice (cs := #[.int .i64 1, .int .i64 2]) rfl rfl (buildSlice_all slt_30 [.int .i64 1, .int .i64 2] rfl (by decide) (by simp [Value.cells]) (by decide)) ?_; intro b8 hb8
 refine o_buildSlice (cs := #[.slice (some ⟨b6, 0, none⟩) 1 1, .slice (some ⟨b7, 0, none⟩) 1 1, .slice (some ⟨b8, 0, none⟩) 2 2]) rfl rfl (buildSlice_all slt_23 [.slice (some ⟨b6, 0, none⟩) 1 1, .slice (some ⟨b7, 0, none⟩) 1 1, .slice (some ⟨b8, 0, none⟩) 2 2] rfl (by decide) (by simp [Value.cells]) (by decide)) ?_; intro b9 hb9
 refine o_buildSlice (cs := #[.int .i64 0, .int .i64 2]) rfl rfl (buildSlice_all slt_30 [.int .i64 0, .int .i64 2] rfl (by decide) (by simp [Value.cells]) (by decide)) ?_; intro b10 hb10
 refine ov (v_build (v := .agg #[.slice (some ⟨b10, 0, none⟩) 2 2, .int .i64 3, .int .i64 12]) rfl (by intro w; kernel_rfl)) rfl ?_
 refine o_buildSlice (cs := #[.int .i64 1]) rfl rfl (buildSlice_all slt_30 [.int .i64 1] rfl (by decide) (by simp [Value.cells]) (by decide)) ?_; intro b11 hb11
 refine ov (v_build (v := .agg #[.slice (some ⟨b11, 0, none⟩) 1 1, .int .i64 1, .int .i64 20]) rfl (by intro w; kernel_rfl)) rfl ?_
 refine o_buildSlice (cs := #[.slice (some ⟨b10, 0, none⟩) 2 2, .int .i64 3, .int .i64 12, .slice (some ⟨b11, 0, none⟩) 1 1, .int .i64 1, .int .i64 20]) rfl rfl (buildSlice_all slt_24 [.agg #[.slice (some ⟨b10, 0, none⟩) 2 2, .int .i64 3, .int .i64 12], .agg #[.slice (some ⟨b11, 0, none⟩) 1 1, .int .i64 1, .int .i64 20]] rfl (by decide) (by simp [Value.cells]) (by decide)) ?_; intro b12 hb12
 refine ov (v_build (v := .agg #[.slice (some ⟨b5, 0, none⟩) 3 3, .slice (some ⟨b9, 0, none⟩) 3 3, .int .i64 3, .int .i64 0, .slice (some ⟨b12, 0, none⟩) 2 2]) rfl (by intro w; kernel_rfl)) rfl ?_
 refine shO_freeze 10 rfl hb2 ?_; intro F13 hF14 hz15
 refine shO_L (L' := [(b12, .cells #[.slice (some ⟨b10, 0, none⟩) 2 2, .int .i64 3, .int .i64 12, .slice (some ⟨b11, 0, none⟩) 1 1, .int .i64 1, .int .i64 20] 39 (0, 0)), (b11, .cells #[.int .i64 1] 3 (0, 0)), (b10, .cells #[.int .i64 0, .int .i64 2] 3 (0, 0)), (b9, .cells #[.slice (some ⟨b6, 0, none⟩) 1 1, .slice (some ⟨b7, 0, none⟩) 1 1, .slice (some ⟨b8, 0, none⟩) 2 2] 30 (0, 0)), (b8, .cells #[.int .i64 1, .int .i64 2] 3 (0, 0)), (b7, .cells #[.int .i64 1] 3 (0, 0)), (b6, .cells #[.int .i64 0] 3 (0, 0)), (b5, .cells #[.slice (some ⟨b2, 0, none⟩) 3 3, .slice (some ⟨b3, 0, none⟩) 3 3, .slice (some ⟨b4, 0, none⟩) 3 3] 30 (0, 0)), (b4, .cells #[.int .i64 (-1), .int .i64 2, .int .i64 0] 3 (0, 0)), (b3, .cells #[.int .i64 2, .int .i64 0, .int .i64 2] 3 (0, 0)), (b1, .cells #[.slice none 0 0, .slice none 0 0, .int .i64 0, .int .i64 0, .slice none 0 0] 26 (0, 0))]) rfl ?_
 have h16 : RowR 1 (iE .i64) F13 (some ⟨b2, 0, none⟩) 3 [0, 2, -1] := RowR.of_block (iE_ok _) (vss := [[.int .i64 0], [.int .i64 2], [.int .i64 (-1)]]) (xs := [0, 2, -1]) hz15 (.cons rfl (.cons rfl (.cons rfl .nil))) rfl (by simp [maxLen])
 refine shO_freeze 9 rfl hb3 ?_; intro F17 hF18 hz19
 refine shO_L (L' := [(b12, .cells #[.slice (some ⟨b10, 0, none⟩) 2 2, .int .i64 3, .int .i64 12, .slice (some ⟨b11, 0, none⟩) 1 1, .int .i64 1, .int .i64 20] 39 (0, 0)), (b11, .cells #[.int .i64 1] 3 (0, 0)), (b10, .cells #[.int .i64 0, .int .i64 2] 3 (0, 0)), (b9, .cells #[.slice (some ⟨b6, 0, none⟩) 1 1, .slice (some ⟨b7, 0, none⟩) 1 1, .slice (some ⟨b8, 0, none⟩) 2 2] 30 (0, 0)), (b8, .cells #[.int .i64 1, .int .i64 2] 3 (0, 0)), (b7, .cells #[.int .i64 1] 3 (0, 0)), (b6, .cells #[.int .i64 0] 3 (0, 0)), (b5, .cells (#[.slice (some ⟨b2, 0, none⟩) [0, 2, -1].length 3, .slice (some ⟨b3, 0, none⟩) 3 3, .slice (some ⟨b4, 0, none⟩) 3 3]) 30 (0, 0)), (b4, .cells #[.int .i64 (-1), .int .i64 2, .int .i64 0] 3 (0, 0)), (b1, .cells #[.slice none 0 0, .slice none 0 0, .int .i64 0, .int .i64 0, .slice none 0 0] 26 (0, 0))]) rfl ?_
 replace h16 := h16.mono (iE_ok _) hF18
 have h20 : RowR 1 (iE .i64) F17 (some ⟨b3, 0, none⟩) 3 [2, 0, 2] := RowR.of_block (iE_ok _) (vss := [[.int .i64 2], [.int .i64 0], [.int .i64 2]]) (xs := [2, 0, 2]) hz19 (.cons rfl (.cons rfl (.cons rfl .nil))) rfl (by simp [maxLen])
 refine shO_freeze 8 rfl hb4 ?_; intro F21 hF22 hz23
 refine shO_L (L' := [(b12, .cells #[.slice (some ⟨b10, 0, none⟩) 2 2, .int .i64 3, .int .i64 12, .slice (some ⟨b11, 0, none⟩) 1 1, .int .i64 1, .int .i64 20] 39 (0, 0)), (b11, .cells #[.int .i64 1] 3 (0, 0)), (b10, .cells #[.int .i64 0, .int .i64 2] 3 (0, 0)), (b9, .cells #[.slice (some ⟨b6, 0, none⟩) 1 1, .slice (some ⟨b7, 0, none⟩) 1 1, .slice (some ⟨b8, 0, none⟩) 2 2] 30 (0, 0)), (b8, .cells #[.int .i64 1, .int .i64 2] 3 (0, 0)), (b7, .cells #[.int .i64 1] 3 (0, 0)), (b6, .cells #[.int .i64 0] 3 (0, 0)), (b5, .cells (#[.slice (some ⟨b2, 0, none⟩) [0, 2, -1].length 3, .slice (some ⟨b3, 0, none⟩) [2, 0, 2].length 3, .slice (some ⟨b4, 0, none⟩) 3 3]) 30 (0, 0)), (b1, .cells #[.slice none 0 0, .slice none 0 0, .int .i64 0, .int .i64 0, .slice none 0 0] 26 (0, 0))]) rfl ?_
 replace h16 := h16.mono (iE_ok _) hF22
 replace h20 := h20.mono (iE_ok _) hF22
 have h24 : RowR 1 (iE .i64) F21 (some ⟨b4, 0, none⟩) 3 [-1, 2, 0] := RowR.of_block (iE_ok _) (vss := [[.int .i64 (-1)], [.int .i64 2], [.int .i64 0]]) (xs := [-1, 2, 0]) hz23 (.cons rfl (.cons rfl (.cons rfl .nil))) rfl (by simp [maxLen])
 have hz26 : SlR K.w0.heap.size 30 1 (slE 1 (iE .i64)) F21 (some ⟨b5, 0, none⟩) 3 3 [[0, 2, -1], [2, 0, 2], [-1, 2, 0]] [(b5, .cells (#[.slice (some ⟨b2, 0, none⟩) [0, 2, -1].length 3, .slice (some ⟨b3, 0, none⟩) [2, 0, 2].length 3, .slice (some ⟨b4, 0, none⟩) [-1, 2, 0].length 3]) 30 (0, 0))] := SlR.of_block (vss := [[.slice (some ⟨b2, 0, none⟩) [0, 2, -1].length 3], [.slice (some ⟨b3, 0, none⟩) [2, 0, 2].length 3], [.slice (some ⟨b4, 0, none⟩) [-1, 2, 0].length 3]]) (slE_ok (iE_ok _)) hb5 (.cons ⟨_, _, rfl, h16⟩ (.cons ⟨_, _, rfl, h20⟩ (.cons ⟨_, _, rfl, h24⟩ .nil))) rfl rfl (by simp [maxLen])
 generalize hLLb25 : ([(b5, .cells (#[.slice (some ⟨b2, 0, none⟩) [0, 2, -1].length 3, .slice (some ⟨b3, 0, none⟩) [2, 0, 2].length 3, .slice (some ⟨b4, 0, none⟩) [-1, 2, 0].length 3]) 30 (0, 0))] : LH) = Lb25 at hz26
 refine shO_perm (L' := Lb25 ++ [(b12, .cells #[.slice (some ⟨b10, 0, none⟩) 2 2, .int .i64 3, .int .i64 12, .slice (some ⟨b11, 0, none⟩) 1 1, .int .i64 1, .int .i64 20] 39 (0, 0)), (b11, .cells #[.int .i64 1] 3 (0, 0)), (b10, .cells #[.int .i64 0, .int .i64 2] 3 (0, 0)), (b9, .cells #[.slice (some ⟨b6, 0, none⟩) 1 1, .slice (some ⟨b7, 0, none⟩) 1 1, .slice (some ⟨b8, 0, none⟩) 2 2] 30 (0, 0)), (b8, .cells #[.int .i64 1, .int .i64 2] 3 (0, 0)), (b7, .cells #[.int .i64 1] 3 (0, 0)), (b6, .cells #[.int .i64 0] 3 (0, 0)), (b1, .cells #[.slice none 0 0, .slice none 0 0, .int .i64 0, .int .i64 0, .slice none 0 0] 26 (0, 0))]) (by rw [← hLLb25]; exact (fC (fC (fC (fC (fC (fC (fC fO)))))))) ?_
 refine shO_perm (L' := (b12, .cells #[.slice (some ⟨b10, 0, none⟩) 2 2, .int .i64 3, .int .i64 12, .slice (some ⟨b11, 0, none⟩) 1 1, .int .i64 1, .int .i64 20] 39 (0, 0)) :: ((b11, .cells #[.int .i64 1] 3 (0, 0)) :: ((b10, .cells #[.int .i64 0, .int .i64 2] 3 (0, 0)) :: ((b9, .cells #[.slice (some ⟨b6, 0, none⟩) 1 1, .slice (some ⟨b7, 0, none⟩) 1 1, .slice (some ⟨b8, 0, none⟩) 2 2] 30 (0, 0)) :: ((b8, .cells #[.int .i64 1, .int .i64 2] 3 (0, 0)) :: ((b7, .cells #[.int .i64 1] 3 (0, 0)) :: ((b6, .cells #[.int .i64 0] 3 (0, 0)) :: ((b1, .cells #[.slice none 0 0, .slice none 0 0, .int .i64 0, .int .i64 0, .slice none 0 0] 26 (0, 0)) :: (Lb25 ++ []))))))))) (List.Perm.symm (fC (fC (fC (fC (fC (fC (fC (fC fP))))))))) ?_
 refine shO_freeze 6 rfl hb6 ?_; intro F28 hF29 hz30
 refine shO_L (L' := (b12, .cells #[.slice (some ⟨b10, 0, none⟩) 2 2, .int .i64 3, .int .i64 12, .slice (some ⟨b11, 0, none⟩) 1 1, .int .i64 1, .int .i64 20] 39 (0, 0)) :: ((b11, .cells #[.int .i64 1] 3 (0, 0)) :: ((b10, .cells #[.int .i64 0, .int .i64 2] 3 (0, 0)) :: ((b9, .cells #[.slice (some ⟨b6, 0, none⟩) 1 1, .slice (some ⟨b7, 0, none⟩) 1 1, .slice (some ⟨b8, 0, none⟩) 2 2] 30 (0, 0)) :: ((b8, .cells #[.int .i64 1, .int .i64 2] 3 (0, 0)) :: ((b7, .cells #[.int .i64 1] 3 (0, 0)) :: ((b1, .cells #[.slice none 0 0, .slice none 0 0, .int .i64 0, .int .i64 0, .slice none 0 0] 26 (0, 0)) :: (Lb25 ++ [])))))))) rfl ?_
 replace hz26 := hz26.mono (slE_ok (iE_ok _)) hF29
 have h31 : RowR 1 (iE .i64) F28 (some ⟨b6, 0, none⟩) 1 [0] := RowR.of_block (iE_ok _) (vss := [[.int .i64 0]]) (xs := [0]) hz30 (.cons rfl .nil) rfl (by simp [maxLen])
 refine shO_freeze 5 rfl hb7 ?_; intro F32 hF33 hz34
 refine shO_L (L' := (b12, .cells #[.slice (some ⟨b10, 0, none⟩) 2 2, .int .i64 3, .int .i64 12, .slice (some ⟨b11, 0, none⟩) 1 1, .int .i64 1, .int .i64 20] 39 (0, 0)) :: ((b11, .cells #[.int .i64 1] 3 (0, 0)) :: ((b10, .cells #[.int .i64 0, .int .i64 2] 3 (0, 0)) :: ((b9, .cells (#[.slice (some ⟨b6, 0, none⟩) [0].length 1, .slice (some ⟨b7, 0, none⟩) 1 1, .slice (some ⟨b8, 0, none⟩) 2 2]) 30 (0, 0)) :: ((b8, .cells #[.int .i64 1, .int .i64 2] 3 (0, 0)) :: ((b1, .cells #[.slice none 0 0, .slice none 0 0, .int .i64 0, .int .i64 0, .slice none 0 0] 26 (0, 0)) :: (Lb25 ++ []))))))) rfl ?_
 replace h31 := h31.mono (iE_ok _) hF33
 replace hz26 := hz26.mono (slE_ok (iE_ok _)) hF33
 have h35 : RowR 1 (iE .i64) F32 (some ⟨b7, 0, none⟩) 1 [1] := RowR.of_block (iE_ok _) (vss := [[.int .i64 1]]) (xs := [1]) hz34 (.cons rfl .nil) rfl (by simp [maxLen])
 refine shO_freeze 4 rfl hb8 ?_; intro F36 hF37 hz38
 refine shO_L (L' := (b12, .cells #[.slice (some ⟨b10, 0, none⟩) 2 2, .int .i64 3, .int .i64 12, .slice (some ⟨b11, 0, none⟩) 1 1, .int .i64 1, .int .i64 20] 39 (0, 0)) :: ((b11, .cells #[.int .i64 1] 3 (0, 0)) :: ((b10, .cells #[.int .i64 0, .int .i64 2] 3 (0, 0)) :: ((b9, .cells (#[.slice (some ⟨b6, 0, none⟩) [0].length 1, .slice (some ⟨b7, 0, none⟩) [1].length 1, .slice (some ⟨b8, 0, none⟩) 2 2]) 30 (0, 0)) :: ((b1, .cells #[.slice none 0 0, .slice none 0 0, .int .i64 0, .int .i64 0, .slice none 0 0] 26 (0, 0)) :: (Lb25 ++ [])))))) rfl ?_
 replace h31 := h31.mono (iE_ok _) hF37
 replace h35 := h35.mono (iE_ok _) hF37
 replace hz26 := hz26.mono (slE_ok (iE_ok _)) hF37
 have h39 : RowR 1 (iE .i64) F36 (some ⟨b8, 0, none⟩) 2 [1, 2] := RowR.of_block (iE_ok _) (vss := [[.int .i64 1], [.int .i64 2]]) (xs := [1, 2]) hz38 (.cons rfl (.cons rfl .nil)) rfl (by simp [maxLen])
 have hz41 : SlR K.w0.heap.size 30 1 (slE 1 (iE .i64)) F36 (some ⟨b9, 0, none⟩) 3 3 [[0], [1], [1, 2]] [(b9, .cells (#[.slice (some ⟨b6, 0, none⟩) [0].length 1, .slice (some ⟨b7, 0, none⟩) [1].length 1, .slice (some ⟨b8, 0, none⟩) [1, 2].length 2]) 30 (0, 0))] := SlR.of_block (vss := [[.slice (some ⟨b6, 0, none⟩) [0].length 1], [.slice (some ⟨b7, 0, none⟩) [1].length 1], [.slice (some ⟨b8, 0, none⟩) [1, 2].length 2]]) (slE_ok (iE_ok _)) hb9 (.cons ⟨_, _, rfl, h31⟩ (.cons ⟨_, _, rfl, h35⟩ (.cons ⟨_, _, rfl, h39⟩ .nil))) rfl rfl (by simp [maxLen])
 generalize hLLb40 : ([(b9, .cells (#[.slice (some ⟨b6, 0, none⟩) [0].length 1, .slice (some ⟨b7, 0, none⟩) [1].length 1, .slice (some ⟨b8, 0, none⟩) [1, 2].length 2]) 30 (0, 0))] : LH) = Lb40 at hz41
 refine shO_perm (L' := Lb40 ++ ((b12, .cells #[.slice (some ⟨b10, 0, none⟩) 2 2, .int .i64 3, .int .i64 12, .slice (some ⟨b11, 0, none⟩) 1 1, .int .i64 1, .int .i64 20] 39 (0, 0)) :: ((b11, .cells #[.int .i64 1] 3 (0, 0)) :: ((b10, .cells #[.int .i64 0, .int .i64 2] 3 (0, 0)) :: ((b1, .cells #[.slice none 0 0, .slice none 0 0, .int .i64 0, .int .i64 0, .slice none 0 0] 26 (0, 0)) :: (Lb25 ++ [])))))) (by rw [← hLLb40]; exact (fC (fC (fC fO)))) ?_
 refine shO_perm (L' := (b12, .cells #[.slice (some ⟨b10, 0, none⟩) 2 2, .int .i64 3, .int .i64 12, .slice (some ⟨b11, 0, none⟩) 1 1, .int .i64 1, .int .i64 20] 39 (0, 0)) :: ((b11, .cells #[.int .i64 1] 3 (0, 0)) :: ((b10, .cells #[.int .i64 0, .int .i64 2] 3 (0, 0)) :: ((b1, .cells #[.slice none 0 0, .slice none 0 0, .int .i64 0, .int .i64 0, .slice none 0 0] 26 (0, 0)) :: (Lb40 ++ (Lb25 ++ [])))))) (List.Perm.symm (fC (fC (fC (fC fP))))) ?_
 refine shO_freeze 2 rfl hb10 ?_; intro F43 hF44 hz45
 refine shO_L (L' := (b12, .cells #[.slice (some ⟨b10, 0, none⟩) 2 2, .int .i64 3, .int .i64 12, .slice (some ⟨b11, 0, none⟩) 1 1, .int .i64 1, .int .i64 20] 39 (0, 0)) :: ((b11, .cells #[.int .i64 1] 3 (0, 0)) :: ((b1, .cells #[.slice none 0 0, .slice none 0 0, .int .i64 0, .int .i64 0, .slice none 0 0] 26 (0, 0)) :: (Lb40 ++ (Lb25 ++ []))))) rfl ?_
 replace hz26 := hz26.mono (slE_ok (iE_ok _)) hF44
 replace hz41 := hz41.mono (slE_ok (iE_ok _)) hF44
 have h46 : RowR 1 (iE .i64) F43 (some ⟨b10, 0, none⟩) 2 [0, 2] := RowR.of_block (iE_ok _) (vss := [[.int .i64 0], [.int .i64 2]]) (xs := [0, 2]) hz45 (.cons rfl (.cons rfl .nil)) rfl (by simp [maxLen])
 refine shO_freeze 1 rfl hb11 ?_; intro F47 hF48 hz49
 refine shO_L (L' := (b12, .cells (#[.slice (some ⟨b10, 0, none⟩) [0, 2].length 2, .int .i64 3, .int .i64 12, .slice (some ⟨b11, 0, none⟩) 1 1, .int .i64 1, .int .i64 20]) 39 (0, 0)) :: ((b1, .cells #[.slice none 0 0, .slice none 0 0, .int .i64 0, .int .i64 0, .slice none 0 0] 26 (0, 0)) :: (Lb40 ++ (Lb25 ++ [])))) rfl ?_
 replace h46 := h46.mono (iE_ok _) hF48
 replace hz26 := hz26.mono (slE_ok (iE_ok _)) hF48
 replace hz41 := hz41.mono (slE_ok (iE_ok _)) hF48
 have h50 : RowR 1 (iE .i64) F47 (some ⟨b11, 0, none⟩) 1 [1] := RowR.of_block (iE_ok _) (vss := [[.int .i64 1]]) (xs := [1]) hz49 (.cons rfl .nil) rfl (by simp [maxLen])
 have hz52 : SlR K.w0.heap.size 39 3 (prE (slE 1 (iE .i64)) (prE (iE .i64) (iE .i64))) F47 (some ⟨b12, 0, none⟩) 2 2 [([0, 2], 3, 12), ([1], 1, 20)] [(b12, .cells (#[.slice (some ⟨b10, 0, none⟩) [0, 2].length 2, .int .i64 3, .int .i64 12, .slice (some ⟨b11, 0, none⟩) [1].length 1, .int .i64 1, .int .i64 20]) 39 (0, 0))] := SlR.of_block (vss := [[.slice (some ⟨b10, 0, none⟩) [0, 2].length 2, .int .i64 3, .int .i64 12], [.slice (some ⟨b11, 0, none⟩) [1].length 1, .int .i64 1, .int .i64 20]]) (prE_ok (slE_ok (iE_ok _)) (prE_ok (iE_ok _) (iE_ok _))) hb12 (.cons ⟨_, _, rfl, ⟨_, _, rfl, h46⟩, ⟨_, _, rfl, rfl, rfl⟩⟩ (.cons ⟨_, _, rfl, ⟨_, _, rfl, h50⟩, ⟨_, _, rfl, rfl, rfl⟩⟩ .nil)) rfl rfl (by simp [maxLen])
 generalize hLLb51 : ([(b12, .cells (#[.slice (some ⟨b10, 0, none⟩) [0, 2].length 2, .int .i64 3, .int .i64 12, .slice (some ⟨b11, 0, none⟩) [1].length 1, .int .i64 1, .int .i64 20]) 39 (0, 0))] : LH) = Lb51 at hz52
 refine shO_perm (L' := Lb51 ++ ((b1, .cells #[.slice none 0 0, .slice none 0 0, .int .i64 0, .int .i64 0, .slice none 0 0] 26 (0, 0)) :: (Lb40 ++ (Lb25 ++ [])))) (by rw [← hLLb51]; exact fO) ?_
 refine shO_perm (L' := (b1, .cells #[.slice none 0 0, .slice none 0 0, .int .i64 0, .int .i64 0, .slice none 0 0] 26 (0, 0)) :: (Lb51 ++ (Lb40 ++ (Lb25 ++ [])))) (List.Perm.symm (fC fP)) ?_
 refine o_storeA (i := 0) Try.sizeOf26 rfl rfl rfl (by simp [Value.oneCell']) rfl (nbL rfl) ?_
 refine shO_L (L' := (b1, .cells #[.slice (some ⟨b5, 0, none⟩) 3 3, .slice (some ⟨b9, 0, none⟩) 3 3, .int .i64 3, .int .i64 0, .slice (some ⟨b12, 0, none⟩) 2 2] 26 (0, 0)) :: (Lb51 ++ (Lb40 ++ (Lb25 ++ [])))) rfl ?_
 refine shO_nil ?_
 refine kW (kc (kg (fS (fS fP)) (kg (fS fP) kr))) ?_
 refine shW_ret ?_
 refine q_res1 Try.results34 (res_cellA (cs := #[.slice (some ⟨b5, 0, none⟩) 3 3, .slice (some ⟨b9, 0, none⟩) 3 3, .int .i64 3, .int .i64 0, .slice (some ⟨b12, 0, none⟩) 2 2]) Try.isAgg26 Try.sizeOf26 rfl (Has.own 0 rfl) (nbL rfl) rfl) (s1 (s4 (s4 (s4 sr)))) ?_
 obtain ⟨rfl, rfl, rfl, rfl, rfl⟩ := inj5 hr
 exact ⟨_, _, _, _, _, _, _, _, _, _, _, _, rfl, rfl, hz26.any, hz41.any, hz52.any⟩
set_option maxHeartbeats 1000000 in
theorem round_Beat_notice_w {walks_a : Option Addr} {walks_c : Nat} {walks : List (List Int)} {hears_a : Option Addr} {hears_c : Nat} {hears : List (List Int)} {houses start : Int} {notices_a : Option Addr} {notices_c : Nat} {notices : List ((List Int) × Int × Int)} {n : Int} {F : FS} (_h_walks : RowR 1 (slE 1 (iE .i64)) F walks_a walks_c walks) (_h_hears : RowR 1 (slE 1 (iE .i64)) F hears_a hears_c hears) (_h_notices : RowR 3 (prE (slE 1 (iE .i64)) (prE (iE .i64) (iE .i64))) F notices_a notices_c notices) {r : Bool} (hr : round_Beat_notice walks hears houses start notices n = some r) :
    SpecV Try.prog 64 #[.agg #[.slice walks_a walks.length walks_c, .slice hears_a hears.length hears_c, .int .i64 houses, .int .i64 start, .slice notices_a notices.length notices_c], .int .i64 n] F (.bool r) := by
 refine spec_of_shW (args := [.agg #[.slice walks_a walks.length walks_c, .slice hears_a hears.length hears_c, .int .i64 houses, .int .i64 start, .slice notices_a notices.length notices_c], .int .i64 n]) Try.func64 rfl Try.ntmps64 (nbL rfl) ?_
 intro K _ _; rw [round_Beat_notice] at hr
 refine wsr ?_
 refine o_box rfl rfl ?_; intro b1 hb1
 refine oa rfl rfl (nsr (om rfl rfl ?_))
 refine ov (v_fieldAddr fa_26_4 rfl) rfl ?_
 refine ov (v_load Try.isAgg24 rfl (Has.own 0 rfl) rfl) rfl ?_
 refine ov (v_lenS Try.underlying24 rfl) rfl ?_
 obtain ⟨g2, r3⟩ := gd_ok hr
 refine ov (v_sub rfl rfl g2) rfl ?_
 obtain ⟨ok, h4, r5⟩ := b1_ok r3
 refine o_callV rfl Try.call60 rfl rfl rfl (round_in_w h4) ?_
 refine oa rfl rfl (shO_nil ?_)
 refine kW kn ?_
 refine shW_ret ?_
 refine q_res1 Try.results64 (res_tmp rfl) (sr) ?_
 obtain rfl := inj1 r5
 exact rfl
set_option maxHeartbeats 1000000 in
theorem round_gone_w {walks_a : Option Addr} {walks_c : Nat} {walks : List (List Int)} {hears_a : Option Addr} {hears_c : Nat} {hears : List (List Int)} {houses start : Int} {notices_a : Option Addr} {notices_c : Nat} {notices : List ((List Int) × Int × Int)} {round_a : Option Addr} {round_c : Nat} {round : List (Int × Int)} {F : FS} (h_walks : RowR 1 (slE 1 (iE .i64)) F walks_a walks_c walks) (h_hears : RowR 1 (slE 1 (iE .i64)) F hears_a hears_c hears) (h_notices : RowR 3 (prE (slE 1 (iE .i64)) (prE (iE .i64) (iE .i64))) F notices_a notices_c notices) (h_round : RowR 2 (prE (iE .i64) (iE .i64)) F round_a round_c round) {r : Option ((List (List Int)) × (List (List Int)) × Int × Int × (List ((List Int) × Int × Int)) × (List Int) × (List (Int × Int)) × (List Int))} {r2 : List Int} {r3 : Int} (hr : round_gone walks hears houses start notices round = some (r, r2, r3)) :
    SH.Spec Try.prog 70 #[.agg #[.slice walks_a walks.length walks_c, .slice hears_a hears.length hears_c, .int .i64 houses, .int .i64 start, .slice notices_a notices.length notices_c], .slice round_a round.length round_c] F [] fun F' L' v => ∃ (rv : Value) (r2a : Option Addr) (r2n : Nat) (r2c : Nat) (r2L : LH), v = .tuple #[rv, .slice r2a r2n r2c, .int .i64 r3] ∧ L' = r2L ++ [] ∧ PtrR 102 (prE (slE 1 (slE 1 (iE .i64))) (prE (slE 1 (slE 1 (iE .i64))) (prE (iE .i64) (prE (iE .i64) (prE (slE 3 (prE (slE 1 (iE .i64)) (prE (iE .i64) (iE .i64)))) (prE (arE 25 (cI .i64)) (prE (slE 2 (prE (iE .i64) (iE .i64))) (arE 15 (cI .i64))))))))) F' rv r ∧ SlR 0 3 1 (iE .i64) F' r2a r2n r2c r2 r2L := by
 refine spec_of_shW (args := [.agg #[.slice walks_a walks.length walks_c, .slice hears_a hears.length hears_c, .int .i64 houses, .int .i64 start, .slice notices_a notices.length notices_c], .slice round_a round.length round_c]) Try.func70 rfl Try.ntmps70 (nbL rfl) ?_
 intro K _ _; rw [round_gone] at hr
 refine wsr ?_
 refine o_box rfl rfl ?_; intro b1 hb1
 refine oa rfl rfl (oa rfl rfl (oa rfl rfl (nsr ?_)))
 refine ov (v_loadA (cs := #[.slice walks_a walks.length walks_c, .slice hears_a hears.length hears_c, .int .i64 houses, .int .i64 start, .slice notices_a notices.length notices_c]) Try.isAgg26 Try.sizeOf26 rfl (Has.own 0 rfl) (nbL rfl) rfl) rfl ?_
 obtain ⟨d, n, h2, r4⟩ := b2_ok hr
 refine o_call0 rfl Try.call26 rfl rfl rfl (round_opened_w h_walks h_hears h_notices h2) ?_; rintro _ F5 _ hF6 hn7 ⟨v9, rfl, rfl, hp10⟩
 replace h_walks := h_walks.mono (slE_ok (iE_ok _)) hF6
 replace h_hears := h_hears.mono (slE_ok (iE_ok _)) hF6
 replace h_notices := h_notices.mono (prE_ok (slE_ok (iE_ok _)) (prE_ok (iE_ok _) (iE_ok _))) hF6
 replace h_round := h_round.mono (prE_ok (iE_ok _) (iE_ok _)) hF6
 refine shO_L (ln rfl) ?_
 refine om rfl rfl (ox rfl rfl rfl (ox rfl rfl rfl (oa rfl rfl (oa rfl rfl (shO_nil (shW_seq ?_))))))
 refine shW_block ?_
 refine wsr (om rfl rfl ?_)
 refine ov (v_neq rfl rfl) rfl ?_
 refine oa rfl rfl (shO_nil ?_)
 refine shW_condP rfl (fun c11 => ?_) (fun c11 => ?_)
 · have r12 := ite_t r4 c11
   refine wsr (om rfl rfl (oa rfl rfl (oa rfl rfl (oa rfl rfl (shO_nil ?_)))))
   refine kW kn ?_
   refine shW_ret (inBlock_ret (andThen_ret ?_))
   refine q_res3 Try.results70 (res_tmp rfl) (res_tmp rfl) (res_tmp rfl) (sr) ?_
   obtain ⟨rfl, rfl, rfl⟩ := inj3 r12
   exact ⟨_, _, _, _, [], rfl, rfl, rfl, SlR.nil _ _ _ _ _⟩
 have r13 := ite_f r4 c11
 refine wsr (om rfl rfl ?_)
 refine ov (v_lenS Try.underlying34 rfl) rfl ?_
 refine ov (v_gtrK rfl rfl) rfl ?_
 refine oa rfl rfl (shO_nil ?_)
 refine shW_condP rfl (fun c14 => ?_) (fun c14 => ?_)
 · have r15 := ite_t r13 c14
   refine wsr (oa rfl rfl (oa rfl rfl (oa rfl rfl (shO_nil ?_))))
   refine kW kn ?_
   refine shW_ret (inBlock_ret (andThen_ret ?_))
   refine q_res3 Try.results70 (res_tmp rfl) (res_tmp rfl) (res_tmp rfl) (sr) ?_
   obtain ⟨rfl, rfl, rfl⟩ := inj3 r15
   exact ⟨_, _, _, _, [], rfl, rfl, rfl, SlR.nil _ _ _ _ _⟩
 have r16 := ite_f r13 c14
 refine shW_skip (inBlock_n (id := 0) (wsr ?_))
 refine ov (v_fieldAddr fa_26_3 rfl) rfl ?_
 refine ov (v_load Try.isAgg3 rfl (Has.own 0 rfl) rfl) rfl ?_
 refine oa rfl rfl (oa rfl rfl (nsr (oa rfl rfl (nsr ?_))))
 refine ov (v_loadA (cs := #[.slice walks_a walks.length walks_c, .slice hears_a hears.length hears_c, .int .i64 houses, .int .i64 start, .slice notices_a notices.length notices_c]) Try.isAgg26 Try.sizeOf26 rfl (Has.own 0 rfl) (nbL rfl) rfl) rfl ?_
 refine ov (v_makeFunc rfl rfl) rfl ?_
 refine oa rfl rfl (shO_nil ?_)
 refine shW_join (fun e1 F1 L1 => ∃ (out : List Int) (v17 : Value) (a19 : Option Addr) (n23 : Nat) (c20 : Nat) (Lb21 : LH), round_gone_j1 d out = some (r, r2, r3) ∧ F5 = F1 ∧ L1 = (Lb21 ++ []) ∧ e1.sub [(7, v17), (11, .slice a19 n23 c20)] ∧ PtrR 102 (prE (slE 1 (slE 1 (iE .i64))) (prE (slE 1 (slE 1 (iE .i64))) (prE (iE .i64) (prE (iE .i64) (prE (slE 3 (prE (slE 1 (iE .i64)) (prE (iE .i64) (iE .i64)))) (prE (arE 25 (cI .i64)) (prE (slE 2 (prE (iE .i64) (iE .i64))) (arE 15 (cI .i64))))))))) F1 v17 d ∧ SlR K.w0.heap.size 3 1 (iE .i64) F1 a19 n23 c20 out Lb21) ?_ ?_
 · refine wsr (om rfl rfl ?_)
   refine ov (v_lenS Try.underlying34 rfl) rfl ?_
   refine om rfl rfl (shO_nil ?_)
   refine shW_block ?_
   refine shW_lp (fun fu2 e1 F1 L1 => ∃ (tl : List (Int × Int)) (k : Int), tl.length = fu2 ∧ Lst round k tl ∧ ∃ (at_ : Int) (minute : Int) (out2 : List Int) (v25 : Value) (a27 : Option Addr) (n31 : Nat) (c28 : Nat) (Lb29 : LH), round_gone_l2 walks hears houses start notices d tl at_ minute out2 = some (r, r2, r3) ∧ F5 = F1 ∧ L1 = ((b1, .cells #[.slice walks_a walks.length walks_c, .slice hears_a hears.length hears_c, .int .i64 houses, .int .i64 start, .slice notices_a notices.length notices_c] 26 (0, 0)) :: (Lb29 ++ [])) ∧ e1.sub [(2, .pointer (some ⟨b1, 0, none⟩)), (7, v25), (9, .int .i64 at_), (10, .int .i64 minute), (11, .slice a27 n31 c28), (12, .func (.func 42) #[.agg #[.slice walks_a walks.length walks_c, .slice hears_a hears.length hears_c, .int .i64 houses, .int .i64 start, .slice notices_a notices.length notices_c]] #[]), (33, .slice round_a round.length round_c), (34, .int .i64 (round.length : Int)), (35, .int .i64 k)] ∧ PtrR 102 (prE (slE 1 (slE 1 (iE .i64))) (prE (slE 1 (slE 1 (iE .i64))) (prE (iE .i64) (prE (iE .i64) (prE (slE 3 (prE (slE 1 (iE .i64)) (prE (iE .i64) (iE .i64)))) (prE (arE 25 (cI .i64)) (prE (slE 2 (prE (iE .i64) (iE .i64))) (arE 15 (cI .i64))))))))) F1 v25 d ∧ SlR K.w0.heap.size 3 1 (iE .i64) F1 a27 n31 c28 out2 Lb29) _ (m0 (kc (ke kr)) ⟨_, _, rfl, Lst.start _, start, 0, [], v9, none, 0, 0, [], r16, rfl, rfl, (sc rfl (sc rfl (sc rfl (sc rfl (sc rfl (sc rfl (sc rfl (sc rfl (sc rfl (sn _)))))))))), hp10, SlR.nil _ _ _ _ _⟩) ?_
   rintro fu2 e1 _ _ ⟨tl, k, hn34, hk33, at_, minute, out2, v25, a27, n31, c28, Lb29, r35, rfl, rfl, he36, hp26, hz30⟩
   refine shW_env _ he36 ?_
   refine wsr ?_
   refine ov (v_lssK rfl rfl) rfl ?_
   refine shO_nil (shW_seq ?_)
   refine shW_condP rfl (fun c38 => ?_) (fun c38 => ?_)
   · obtain ⟨x, tl2, rfl, hx40, g41, hk39⟩ := Lst.succ hk33 c38
     rw [round_gone_l2] at r35
     refine shW_skip (shW_seq ?_)
     refine shW_block ?_
     refine wsr ?_
     obtain ⟨b42, o43, c44, vs45, ha46, hs47, hle48, ⟨_, _, rfl, rfl, rfl⟩, hl49, hc50⟩ := RowR.at (prE_ok (iE_ok _) (iE_ok _)) h_round ((b1, .cells #[.slice walks_a walks.length walks_c, .slice hears_a hears.length hears_c, .int .i64 houses, .int .i64 start, .slice notices_a notices.length notices_c] 26 (0, 0)) :: (Lb29 ++ [])) g41.1 hx40
     refine ov (v_indexO Try.underlying34 Try.sizeOf93 rfl ha46 rfl g41) rfl ?_
     refine ov (v_loadA (cs := #[.int .i64 x.1, .int .i64 x.2]) Try.isAgg93 Try.sizeOf93 rfl hs47 hle48 (extract_cells hle48 hl49 hc50)) rfl ?_
     refine o_alloc rfl Try.zeroValue93 ?_; intro b51 hb51
     refine o_storeA (i := 0) Try.sizeOf93 rfl rfl rfl (by simp [Value.oneCell']) rfl (nbL rfl) ?_
     refine shO_L (L' := (b51, .cells #[.int .i64 x.1, .int .i64 x.2] 93 (0, 0)) :: ((b1, .cells #[.slice walks_a walks.length walks_c, .slice hears_a hears.length hears_c, .int .i64 houses, .int .i64 start, .slice notices_a notices.length notices_c] 26 (0, 0)) :: (Lb29 ++ []))) rfl ?_
     refine shO_nil (shW_seq ?_)
     obtain ⟨k2, h52, r53⟩ := b1_ok r35
     refine shW_join (fun e1 F1 L1 => F5 = F1 ∧ L1 = ((b51, .cells #[.int .i64 x.1, .int .i64 x.2] 93 (0, 0)) :: ((b1, .cells #[.slice walks_a walks.length walks_c, .slice hears_a hears.length hears_c, .int .i64 houses, .int .i64 start, .slice notices_a notices.length notices_c] 26 (0, 0)) :: (Lb29 ++ []))) ∧ e1.sub [(2, .pointer (some ⟨b1, 0, none⟩)), (7, v25), (9, .int .i64 at_), (10, .int .i64 minute), (11, .slice a27 n31 c28), (12, .func (.func 42) #[.agg #[.slice walks_a walks.length walks_c, .slice hears_a hears.length hears_c, .int .i64 houses, .int .i64 start, .slice notices_a notices.length notices_c]] #[]), (14, .pointer (some ⟨b51, 0, none⟩)), (33, .slice round_a round.length round_c), (34, .int .i64 (round.length : Int)), (35, .int .i64 k), (50, .bool k2)]) ?_ ?_
     · clear r53
       refine shW_region (om rfl rfl ?_)
       refine ov (v_fieldAddr fa_93_0 rfl) rfl ?_
       refine ov (v_load Try.isAgg3 rfl (Has.own 0 rfl) rfl) rfl ?_
       obtain ⟨ok, h54, r55⟩ := b1_ok h52
       refine o_callV rfl Try.call42 rfl rfl rfl (round_Beat_stand_w h_walks h_hears h_notices h54) ?_
       refine ov (v_notB rfl) rfl ?_
       refine om rfl rfl ?_
       rcases bool_two (!ok) with c56 | c56
       · have r57 := bt r55 c56
         refine shO_off (b' := true) 44 rfl (EnvB rfl c56) rfl rfl (shO_off (b' := true) 44 rfl (EnvB rfl c56) rfl rfl (shO_off (b' := true) 44 rfl (EnvB rfl c56) rfl rfl (shO_off (b' := true) 44 rfl (EnvB rfl c56) rfl rfl (shO_off (b' := true) 44 rfl (EnvB rfl c56) rfl rfl ?_))))
         refine ov (v_pick_t (evB rfl c56) rfl) rfl ?_
         refine shO_nil ?_
         obtain rfl := inj1 r57
         exact mi kr ⟨rfl, rfl, (sc rfl (sc rfl (sc rfl (sc rfl (sc rfl (sc rfl (sc rfl (sc rfl (sc rfl (sc rfl (sc rfl (sn _))))))))))))⟩
       have r58 := bf r55 c56
       refine shO_on (b := false) 44 rfl (EnvB rfl c56) ?_
       refine ov (v_loadA (cs := #[.slice walks_a walks.length walks_c, .slice hears_a hears.length hears_c, .int .i64 houses, .int .i64 start, .slice notices_a notices.length notices_c]) Try.isAgg26 Try.sizeOf26 rfl (Has.own 1 rfl) (nbL rfl) rfl) rfl ?_
       refine shO_on (b := false) 44 rfl (EnvB rfl c56) ?_
       refine ov (v_fieldAddr fa_93_1 rfl) rfl ?_
       refine shO_on (b := false) 44 rfl (EnvB rfl c56) ?_
       refine ov (v_load Try.isAgg3 rfl (Has.own 0 rfl) rfl) rfl ?_
       refine shO_on (b := false) 44 rfl (EnvB rfl c56) ?_
       obtain ⟨ok2, h59, r60⟩ := b1_ok r58
       refine o_callV rfl Try.call64 rfl rfl rfl (round_Beat_notice_w h_walks h_hears h_notices h59) ?_
       refine shO_on (b := false) 44 rfl (EnvB rfl c56) ?_
       refine ov (v_notB rfl) rfl ?_
       refine ov (v_pick_f (evB rfl c56) rfl) rfl ?_
       refine shO_nil ?_
       obtain rfl := inj1 r60
       exact mi kr ⟨rfl, rfl, (sc rfl (sc rfl (sc rfl (sc rfl (sc rfl (sc rfl (sc rfl (sc rfl (sc rfl (sc rfl (sc rfl (sn _))))))))))))⟩
     rintro e1 _ _ ⟨rfl, rfl, he61⟩
     refine shW_env _ he61 ?_
     refine shW_cond rfl (fun c62 => ?_) (fun c62 => ?_)
     · have r63 := bt r53 c62
       refine wsr (oa rfl rfl (oa rfl rfl (oa rfl rfl (shO_nil ?_))))
       refine kW kn ?_
       refine shW_ret (andThen_ret (inBlock_ret (andThen_ret (andThen_ret (inBlock_ret (andThen_ret ?_))))))
       refine q_res3 Try.results70 (res_tmp rfl) (res_tmp rfl) (res_tmp rfl) (sr) ?_
       obtain ⟨rfl, rfl, rfl⟩ := inj3 r63
       exact ⟨_, _, _, _, [], rfl, rfl, rfl, SlR.nil _ _ _ _ _⟩
     have r64 := bf r53 c62
     refine shW_skip ?_
     refine wsd (by kernel_rfl) (by kernel_rfl) (by kernel_rfl) ?_
     refine qm rfl rfl (qm rfl rfl ?_)
     refine qv (v_fieldAddr fa_93_0 rfl) rfl ?_
     refine qv (v_load Try.isAgg3 rfl (Has.own 0 rfl) rfl) rfl ?_
     obtain ⟨walks2, hears2, houses2, start2, notices2, walks3, pairs, hit, h65, r66⟩ := b8_ok r64
     have h86 := hp26; rw [h65] at h86; obtain ⟨b67, c68, m69, hv70, hz71, ⟨_, _, rfl, ⟨a72, c73, rfl, h74⟩, ⟨_, _, rfl, ⟨a75, c76, rfl, h77⟩, ⟨_, _, rfl, rfl, ⟨_, _, rfl, rfl, ⟨_, _, rfl, ⟨a78, c79, rfl, h80⟩, ⟨_, _, rfl, ⟨rfl, h81⟩, ⟨_, _, rfl, ⟨a82, c83, rfl, h84⟩, ⟨rfl, h85⟩⟩⟩⟩⟩⟩⟩⟩⟩ := h86; subst hv70
     have hz71 : F5 b67 = some (.cells ((([.slice a72 walks2.length c73] : List Value) ++ (([.slice a75 hears2.length c76] : List Value) ++ (([.int .i64 houses2] : List Value) ++ (([.int .i64 start2] : List Value) ++ (([.slice a78 notices2.length c79] : List Value) ++ (walks3.flatMap (cI .i64) ++ (([.slice a82 pairs.length c83] : List Value) ++ (hit.flatMap (cI .i64))))))))).toArray) 102 m69) := hz71
     refine qv (v_nilCheck rfl) rfl ?_
     refine qv (v_fieldAddr fa_102_1 rfl) rfl ?_
     obtain ⟨g87, r88⟩ := gd_ok r66
     refine qv (v_indexA Try.underlying98 Try.sizeOf96 rfl rfl g87) rfl ?_
     obtain ⟨g89, r90⟩ := gd_ok r88
     obtain ⟨x2, g91, hx92, r93⟩ := ix_ok r90
     have hq95 : (at_ * 5 + x.1 : Int).toNat = (at_ : Int).toNat * 5 + (x.1 : Int).toNat := by have := g87; have := g89; omega
     have hc94 := el_at2 (cI_ok .i64) h81 hq95 hx92 (li_arr (li_skip (A := ([.slice a72 walks2.length c73] : List Value)) (k := 1) (o := 4) rfl (li_skip (A := ([.slice a75 hears2.length c76] : List Value)) (k := 1) (o := 3) rfl (li_skip (A := ([.int .i64 houses2] : List Value)) (k := 1) (o := 2) rfl (li_skip (A := ([.int .i64 start2] : List Value)) (k := 1) (o := 1) rfl (li_skip (A := ([.slice a78 notices2.length c79] : List Value)) (k := 1) (o := 0) rfl (li_here (B := ([.slice a82 pairs.length c83] : List Value) ++ (hit.flatMap (cI .i64))) (lfl (cI_ok .i64) h81)))))))) (li_le (li_skip (A := ([.slice a72 walks2.length c73] : List Value)) (k := 1) (o := 4) rfl (li_skip (A := ([.slice a75 hears2.length c76] : List Value)) (k := 1) (o := 3) rfl (li_skip (A := ([.int .i64 houses2] : List Value)) (k := 1) (o := 2) rfl (li_skip (A := ([.int .i64 start2] : List Value)) (k := 1) (o := 1) rfl (li_skip (A := ([.slice a78 notices2.length c79] : List Value)) (k := 1) (o := 0) rfl (li_here (B := ([.slice a82 pairs.length c83] : List Value) ++ (hit.flatMap (cI .i64))) (lfl (cI_ok .i64) h81))))))))
     refine qv (v_indexA Try.underlying96 Try.sizeOf3 rfl rfl g89) rfl ?_
     refine qv (v_load Try.isAgg3 rfl (Has.frozen hz71) ((hc94).2.2 0 (by decide))) rfl ?_
     refine qa rfl rfl (shQ_nil (shW_seq (wsr (om rfl rfl ?_))))
     refine ov (v_eql rfl rfl) rfl ?_
     refine shO_nil ?_
     refine shW_condP rfl (fun c96 => ?_) (fun c96 => ?_)
     · have r97 := ite_t r93 c96
       refine wsr (oa rfl rfl (oa rfl rfl (oa rfl rfl (shO_nil ?_))))
       refine kW kn ?_
       refine shW_ret (andThen_ret (inBlock_ret (andThen_ret (andThen_ret (inBlock_ret (andThen_ret ?_))))))
       refine q_res3 Try.results70 (res_tmp rfl) (res_tmp rfl) (res_tmp rfl) (sr) ?_
       obtain ⟨rfl, rfl, rfl⟩ := inj3 r97
       exact ⟨_, _, _, _, [], rfl, rfl, rfl, SlR.nil _ _ _ _ _⟩
     have r98 := ite_f r93 c96
     refine shW_skip ?_
     refine wsd (by kernel_rfl) (by kernel_rfl) (by kernel_rfl) ?_
     refine qv (v_fieldAddr fa_93_0 rfl) rfl ?_
     refine qv (v_load Try.isAgg3 rfl (Has.own 0 rfl) rfl) rfl ?_
     refine qm rfl rfl (qm rfl rfl ?_)
     obtain ⟨g99, r100⟩ := gd_ok r98
     refine qv (v_add rfl rfl g99) rfl ?_
     refine qv (v_fieldAddr fa_26_4 rfl) rfl ?_
     refine qv (v_load Try.isAgg24 rfl (Has.own 1 rfl) rfl) rfl ?_
     refine qv (v_fieldAddr fa_93_1 rfl) rfl ?_
     refine qv (v_load Try.isAgg3 rfl (Has.own 0 rfl) rfl) rfl ?_
     obtain ⟨x3, g101, hx102, r103⟩ := ix_ok r100
     obtain ⟨b104, o105, c106, vs107, ha108, hs109, hle110, ⟨_, _, rfl, ⟨a113, c114, rfl, h115⟩, ⟨_, _, rfl, rfl, rfl⟩⟩, hl111, hc112⟩ := RowR.at (prE_ok (slE_ok (iE_ok _)) (prE_ok (iE_ok _) (iE_ok _))) h_notices ((b51, .cells #[.int .i64 x.1, .int .i64 x.2] 93 (0, 0)) :: ((b1, .cells #[.slice walks_a walks.length walks_c, .slice hears_a hears.length hears_c, .int .i64 houses, .int .i64 start, .slice notices_a notices.length notices_c] 26 (0, 0)) :: (Lb29 ++ []))) g101.1 hx102
     refine qv (v_indexO Try.underlying24 Try.sizeOf39 rfl ha108 rfl g101) rfl ?_
     refine qv (v_fieldAddr fa_39_1 rfl) rfl ?_
     refine qv (v_load Try.isAgg3 rfl hs109 (hc112 1 (by decide))) rfl ?_
     obtain ⟨g116, r117⟩ := gd_ok r103
     refine qv (v_add rfl rfl g116) rfl ?_
     refine qa rfl rfl (qa rfl rfl (shQ_nil (shW_region (om rfl rfl (om rfl rfl ?_)))))
     refine o_buildSlice (cs := #[.int .i64 ((minute + x2) + x3.2.1)]) rfl rfl (buildSlice_all slt_30 [.int .i64 ((minute + x2) + x3.2.1)] rfl (by decide) (by simp [Value.cells]) (by decide)) ?_; intro b118 hb118
     obtain ⟨out3, h119, g120, r121⟩ := ap_ok r117
     refine o_appZ (xs := out2) (ys := [(minute + x2) + x3.2.1]) (zs := out3) rfl slt_30 rfl rfl (Nat.le_refl _) (fun _ => .c (.c (.c .h))) hz30 (SrcR.box (vss := [[.int .i64 ((minute + x2) + x3.2.1)]]) (ys := [(minute + x2) + x3.2.1]) 0 rfl (iE_ok _) (.cons rfl .nil) rfl rfl) h119 g120 (by decide) ?_; intro a122 n126 c123 Lb124 hz125
     refine kO (kd kr) ?_
     refine oa rfl rfl (shO_nil (inBlock_n (id := 2) (shW_region ?_)))
     refine ov (v_add rfl rfl (Lst.r64 hk33 c38 (RowR.lt h_round))) rfl ?_
     refine om rfl rfl (shO_nil ?_)
     subst hn34; exact le (kd kr) ⟨_, _, rfl, hk39, x.1, (minute + x2) + x3.2.1, out3, .pointer (some ⟨b67, 0, none⟩), a122, n126, c123, Lb124, r121, rfl, rfl, (sc rfl (sc rfl (sc rfl (sc rfl (sc rfl (sc rfl (sc rfl (sc rfl (sc rfl (sn _)))))))))), hp26, hz125⟩
   obtain rfl := Lst.zero hk33 c38
   rw [round_gone_l2] at r35
   refine shW_exit (andThen_exit (andThen_exit ?_))
   refine inBlock_exit ?_
   exact mi (kd kr) ⟨out2, v25, a27, n31, c28, Lb29, r35, rfl, rfl, (sc rfl (sc rfl (sn _))), hp26, hz30⟩
 rintro e1 _ _ ⟨out, v17, a19, n23, c20, Lb21, r128, rfl, rfl, he129, hp18, hz22⟩
 refine shW_env _ he129 ?_
 rw [round_gone_j1] at r128
 refine wsr (om rfl rfl (om rfl rfl (oa rfl rfl (oa rfl rfl (oa rfl rfl (shO_nil (shW_ret ?_)))))))
 refine q_res3 Try.results70 (res_tmp rfl) (res_tmp rfl) (res_tmp rfl) (sr) ?_
 obtain ⟨rfl, rfl, rfl⟩ := inj3 r128
 exact ⟨_, _, _, _, _, rfl, rfl, hp18, hz22.any⟩
set_option maxHeartbeats 1000000 in
theorem math_bits_Mul64_w {x y : Int} {F : FS} {r r2 : Int} (hr : math_bits_Mul64 x y = some (r, r2)) :
    SpecV Try.prog 101 #[.int .u64 x, .int .u64 y] F (.tuple #[.int .u64 r, .int .u64 r2]) := by
 refine spec_of_shW (args := [.int .u64 x, .int .u64 y]) Try.func101 rfl Try.ntmps101 (nbL rfl) ?_
 intro K _ _; rw [math_bits_Mul64] at hr
 refine wsr (oa rfl rfl (oa rfl rfl (nsr (om rfl rfl ?_))))
 refine ov (u_and rfl rfl rfl) rfl ?_
 refine oa rfl rfl (nsr (om rfl rfl ?_))
 refine ov (v_shr rfl rfl (by decide)) rfl ?_
 refine oa rfl rfl (nsr (om rfl rfl ?_))
 refine ov (u_and rfl rfl rfl) rfl ?_
 refine oa rfl rfl (nsr (om rfl rfl ?_))
 refine ov (v_shr rfl rfl (by decide)) rfl ?_
 refine oa rfl rfl (nsr (om rfl rfl (om rfl rfl ?_)))
 refine ov (u_mul rfl rfl rfl) rfl ?_
 obtain ⟨w0, h1, r3⟩ := bv_ok hr
 refine ov ((v_assign rfl).i h1) rfl ?_
 refine nsr (om rfl rfl (om rfl rfl ?_))
 refine ov (u_mul rfl rfl rfl) rfl ?_
 refine om rfl rfl ?_
 refine ov (v_shr rfl rfl (by decide)) rfl ?_
 refine ov (u_add rfl rfl rfl) rfl ?_
 obtain ⟨t, h4, r5⟩ := bv_ok r3
 refine ov ((v_assign rfl).i h4) rfl ?_
 refine nsr (om rfl rfl ?_)
 refine ov (u_and rfl rfl rfl) rfl ?_
 refine oa rfl rfl (nsr (om rfl rfl ?_))
 refine ov (v_shr rfl rfl (by decide)) rfl ?_
 refine oa rfl rfl (nsr (om rfl rfl (om rfl rfl (om rfl rfl ?_))))
 refine ov (u_mul rfl rfl rfl) rfl ?_
 refine ov (u_add rfl rfl rfl) rfl ?_
 obtain ⟨w1, h6, r7⟩ := bv_ok r5
 refine ov ((v_assign rfl).i h6) rfl ?_
 refine nsr (om rfl rfl (om rfl rfl ?_))
 refine ov (u_mul rfl rfl rfl) rfl ?_
 refine om rfl rfl ?_
 refine ov (u_add rfl rfl rfl) rfl ?_
 refine om rfl rfl ?_
 refine ov (v_shr rfl rfl (by decide)) rfl ?_
 refine ov (u_add rfl rfl rfl) rfl ?_
 obtain ⟨hi, h8, r9⟩ := bv_ok r7
 refine ov ((v_assign rfl).i h8) rfl ?_
 refine nsr (om rfl rfl (om rfl rfl ?_))
 refine ov (u_mul rfl rfl rfl) rfl ?_
 obtain ⟨lo, h10, r11⟩ := bv_ok r9
 refine ov ((v_assign rfl).i h10) rfl ?_
 refine shO_nil (shW_ret ?_)
 refine q_res2 Try.results101 (res_tmp rfl) (res_tmp rfl) (sr) ?_
 obtain ⟨rfl, rfl⟩ := inj2 r11
 exact rfl
theorem math_bits_Mul_w {x y : Int} {F : FS} {r r2 : Int} (hr : math_bits_Mul x y = some (r, r2)) :
    SpecV Try.prog 87 #[.int .u64 x, .int .u64 y] F (.tuple #[.int .u64 r, .int .u64 r2]) := by
 refine spec_of_shW (args := [.int .u64 x, .int .u64 y]) Try.func87 rfl Try.ntmps87 (nbL rfl) ?_
 intro K _ _; rw [math_bits_Mul] at hr
 refine wsr (oa rfl rfl (oa rfl rfl (shO_nil (shW_seq ?_))))
 refine shW_cond rfl (fun c1 => nomatch c1) (fun c1 => ?_)
 refine shW_skip (wsr (om rfl rfl (om rfl rfl ?_)))
 obtain ⟨n, n2, h2, r3⟩ := b2_ok hr
 refine o_callV rfl Try.call101 rfl rfl rfl (math_bits_Mul64_w h2) ?_
 refine om rfl rfl (ox rfl rfl rfl (ox rfl rfl rfl (oa rfl rfl (oa rfl rfl (nsr (om rfl rfl (om rfl rfl (oa rfl rfl (oa rfl rfl ?_)))))))))
 refine shO_nil (shW_ret ?_)
 refine q_res2 Try.results87 (res_tmp rfl) (res_tmp rfl) (sr) ?_
 obtain ⟨rfl, rfl⟩ := inj2 r3
 exact rfl
set_option maxHeartbeats 1000000 in
theorem slices_Repeat_int_int_w {x_a : Option Addr} {x_c : Nat} {x : List Int} {count : Int} {F : FS} (h_x : RowR 1 (iE .i64) F x_a x_c x) {r : List Int} (hr : slices_Repeat_int_int x count = some r) :
    SH.Spec Try.prog 80 #[.slice x_a x.length x_c, .int .i64 count] F [] fun F' L' v => ∃ (ra : Option Addr) (rn : Nat) (rc : Nat) (rL : LH), v = .slice ra rn rc ∧ L' = rL ++ [] ∧ SlR 0 3 1 (iE .i64) F' ra rn rc r rL := by
 refine spec_of_shW (args := [.slice x_a x.length x_c, .int .i64 count]) Try.func80 rfl Try.ntmps80 (nbL rfl) ?_
 intro K _ _; rw [slices_Repeat_int_int] at hr
 refine wsr (oa rfl rfl (shO_nil (shW_seq (wsr (om rfl rfl ?_)))))
 refine ov (v_lssK rfl rfl) rfl ?_
 refine shO_nil ?_
 obtain ⟨g2, r3⟩ := gd_ok hr
 refine shW_condP rfl (fun c1 => absurd c1 g2) (fun c1 => ?_)
 refine shW_skip (wsr (om rfl rfl ?_))
 refine ov (v_lenS Try.underlying30 rfl) rfl ?_
 refine ov (u_conv rfl Try.underlying3 Try.underlying131 rfl) rfl ?_
 refine om rfl rfl ?_
 refine ov (u_conv rfl Try.underlying3 Try.underlying131 rfl) rfl ?_
 obtain ⟨n, n2, h4, r5⟩ := b2_ok r3
 refine o_callV rfl Try.call87 rfl rfl rfl (math_bits_Mul_w h4) ?_
 refine om rfl rfl (ox rfl rfl rfl (ox rfl rfl rfl (oa rfl rfl (oa rfl rfl (shO_nil (shW_seq ?_))))))
 obtain ⟨k, h6, r7⟩ := b1_ok r5
 refine shW_join (fun e1 F1 L1 => F = F1 ∧ L1 = [] ∧ e1.sub [(0, .slice x_a x.length x_c), (6, .int .u64 n2), (26, .bool k)]) ?_ ?_
 · clear r7
   refine shW_region (om rfl rfl ?_)
   refine ov (v_gtrK rfl rfl) rfl ?_
   refine om rfl rfl ?_
   by_cases c8 : 0 < n
   · have r9 := ite_t h6 c8
     refine shO_off (b' := true) 23 rfl (Env.isT rfl c8) rfl rfl (shO_off (b' := true) 23 rfl (Env.isT rfl c8) rfl rfl ?_)
     refine ov (v_pick_t (evD_true rfl c8) rfl) rfl ?_
     refine shO_nil ?_
     obtain rfl := inj1 r9
     exact mi kr ⟨rfl, rfl, (sc rfl (sc rfl (sc rfl (sn _))))⟩
   have r10 := ite_f h6 c8
   refine shO_on (b := false) 23 rfl (Env.isF rfl c8) (om rfl rfl (shO_on (b := false) 23 rfl (Env.isF rfl c8) ?_))
   refine ov (v_gtrK rfl rfl) rfl ?_
   refine ov (v_pick_f (evD_false rfl c8) rfl) rfl ?_
   refine shO_nil ?_
   obtain rfl := inj1 r10
   exact mi kr ⟨rfl, rfl, (sc rfl (sc rfl (sc rfl (sn _))))⟩
 rintro e1 _ _ ⟨rfl, rfl, he11⟩
 refine shW_env _ he11 ?_
 obtain ⟨g13, r14⟩ := gd_ok r7
 refine shW_cond rfl (fun c12 => absurd (g13.symm.trans c12) (by decide)) (fun c12 => ?_)
 refine shW_skip (wsr (om rfl rfl ?_))
 obtain ⟨g15, r16⟩ := gd_ok r14
 refine ov (i_conv Try.underlying131 Try.underlying3 rfl g15) rfl ?_
 obtain ⟨g17, r18⟩ := gd_ok r16
 obtain ⟨l, h19, r20⟩ := bv_ok r18
 refine o_makeZ (R := (iE .i64)) (z0 := 0) (zs := l) rfl slt_30 (by decide) (iE_ok _) (fun _ => rfl) rfl g17 h19 (fun _ => .n) ?_; intro a21 n24 Lb22 hz23
 refine oa rfl rfl (nsr (om rfl rfl (om rfl rfl ?_)))
 obtain ⟨newslice, h26, r27⟩ := bv_ok r20
 refine o_copyZ (ys := x) (zs := newslice) rfl slt_30 (iE_ok _) rfl rfl (fun _ => .h) hz23 (RowR.src h_x) h26 ?_; intro Lb28 hz29
 obtain ⟨n3, h30, r31⟩ := bv_ok r27
 refine ov ((v_assign rfl).i h30) rfl ?_
 refine shO_nil ?_
 obtain ⟨newslice2, h34, r35⟩ := b1_ok r31
 refine shW_join (fun e1 F1 L1 => ∃ (Lb32 : LH), F = F1 ∧ L1 = (Lb32 ++ []) ∧ e1.sub [(7, .slice a21 n24 n24)] ∧ SlR K.w0.heap.size 3 1 (iE .i64) F1 a21 n24 n24 newslice2 Lb32) ?_ ?_
 · clear r35
   refine shW_block ?_
   refine shW_lp (fun fu1 e1 F1 L1 => ∃ (newslice3 : List Int) (n4 : Int) (Lb36 : LH), slices_Repeat_int_int_l1 fu1 newslice3 n4 = some newslice2 ∧ F = F1 ∧ L1 = (Lb36 ++ []) ∧ e1.sub [(7, .slice a21 n24 n24), (8, .int .i64 n4)] ∧ SlR K.w0.heap.size 3 1 (iE .i64) F1 a21 n24 n24 newslice3 Lb36) FU (m0 kr ⟨newslice, n3, Lb28, h34, rfl, rfl, (sc rfl (sc rfl (sn _))), hz29⟩) ?_
   rintro fu1 e1 _ _ ⟨newslice3, n4, Lb36, r40, rfl, rfl, he41, hz37⟩
   refine shW_env _ he41 ?_
   rcases fu1 with _ | fu1
   · rw [slices_Repeat_int_int_l1] at r40; cases r40
   rw [slices_Repeat_int_int_l1] at r40
   refine shW_seq (wsr (om rfl rfl (om rfl rfl ?_)))
   refine ov ((v_lenS Try.underlying30 rfl).i (SlR.lenI hz37)) rfl ?_
   refine ov (v_lssK rfl rfl) rfl ?_
   refine shO_nil ?_
   refine shW_condP rfl (fun c42 => ?_) (fun c42 => ?_)
   · have r43 := ite_t r40 c42
     refine shW_skip ?_
     refine shW_block ?_
     refine shW_drawM [(.still, 0), (.still, 1), (.still, 2), (.still, 3), (.still, 4), (.still, 5), (.still, 6), (.seq, 7), (.still, 8), (.seq, 9)] (by kernel_rfl) (by kernel_rfl) (trivial) (by rfl) (by kernel_rfl) ?_
     refine shM_v (v := .int .i64 n4) (ek := [(8, .int .i64 n4)]) (Ls := []) rfl rfl rfl rfl ((sc rfl (sn _))) (by kernel_rfl) sm (fun H F' L' hF' hL' => v_move rfl) ?_
     refine shM_v (v := .slice a21 n24 n24) (ek := [(7, .slice a21 n24 n24)]) (Ls := []) rfl rfl rfl rfl ((sc rfl (sn _))) (by kernel_rfl) sm (fun H F' L' hF' hL' => v_move rfl) ?_
     refine shM_v (v := .int .i64 n4) (ek := [(8, .int .i64 n4)]) (Ls := []) rfl rfl rfl rfl ((sc rfl (sn _))) (by kernel_rfl) sm (fun H F' L' hF' hL' => v_move rfl) ?_
     obtain ⟨g44, r45⟩ := gd_ok r43
     have gv46 := SlR.gV hz37 g44
     refine shM_v (v := .slice (vwA a21 n24 (Int.toNat n4) 1) (n24 - Int.toNat n4) (n24 - Int.toNat n4)) (ek := [(39, .slice a21 n24 n24), (40, .int .i64 n4)]) (Ls := []) rfl rfl rfl rfl ((sc rfl (sc rfl (sn _)))) (by kernel_rfl) sm (fun H F' L' hF' hL' => OpV.eq (v' := .slice (vwA a21 n24 (Int.toNat n4) 1) (n24 - Int.toNat n4) (n24 - Int.toNat n4)) (v_slice (l := n4) (h := (n24 : Nat)) Try.underlying30 Try.sizeOf3 rfl (.inr ⟨_, rfl, rfl⟩) (.inl ⟨rfl, rfl⟩) (SlR.capV hz37 gv46)) rfl) ?_
     refine shM_v (v := .slice a21 n24 n24) (ek := [(7, .slice a21 n24 n24)]) (Ls := []) rfl rfl rfl rfl ((sc rfl (sn _))) (by kernel_rfl) sm (fun H F' L' hF' hL' => v_move rfl) ?_
     refine shM_v (v := .int .i64 n4) (ek := [(8, .int .i64 n4)]) (Ls := []) rfl rfl rfl rfl ((sc rfl (sn _))) (by kernel_rfl) sm (fun H F' L' hF' hL' => v_move rfl) ?_
     obtain ⟨g47, r48⟩ := gd_ok r45
     refine shM_v (v := .slice a21 (Int.toNat n4) n24) (ek := [(42, .slice a21 n24 n24), (43, .int .i64 n4)]) (Ls := []) rfl rfl rfl rfl ((sc rfl (sc rfl (sn _)))) (by kernel_rfl) sm (fun H F' L' hF' hL' => v_slicePre Try.underlying30 Try.sizeOf3 rfl rfl hz37 g47) ?_
     refine ⟨_, [(41, .slice (vwA a21 n24 (Int.toNat n4) 1) (n24 - Int.toNat n4) (n24 - Int.toNat n4)), (44, .slice a21 (Int.toNat n4) n24)], rfl, rfl, (sc rfl (sc rfl (sn _))), by kernel_rfl, ?_⟩; intro H
     obtain ⟨g49, r50⟩ := gd_ok r48
     obtain ⟨l2, h51, r52⟩ := bv_ok r50
     refine o_copyVP (l := n4) (zs := l2) rfl slt_30 (iE_ok _) rfl rfl (fun _ => .h) hz37 g49 h51 ?_; intro Lb53 hz54
     refine shO_nil ⟨_, rfl, FExt.refl _, [0], by kernel_rfl, .inl (.inr (fun d h => by cases h; rfl)), (List.forall_mem_cons.2 ⟨sm, (fun _ h => absurd h List.not_mem_nil)⟩), ?_⟩
     obtain ⟨g55, r56⟩ := gd_ok r52
     refine shM_v (v := .int .i64 (n4 + (((Nat.min (Int.toNat n4) (newslice3.length - (Int.toNat n4))) : Nat) : Int))) (ek := [(38, .int .i64 n4), (45, .int .i64 (((Nat.min (Int.toNat n4) (newslice3.length - (Int.toNat n4))) : Nat) : Int))]) (Ls := []) rfl rfl rfl rfl ((sc rfl (sc rfl (sn _)))) (by kernel_rfl) sm (fun H F' L' hF' hL' => v_add rfl rfl g55) ?_
     refine ⟨_, [(46, .int .i64 (n4 + (((Nat.min (Int.toNat n4) (newslice3.length - (Int.toNat n4))) : Nat) : Int)))], rfl, rfl, (sc rfl (sn _)), by kernel_rfl, ?_⟩; intro H
     obtain ⟨n5, h57, r58⟩ := bv_ok r56
     refine ov ((v_assign rfl).i h57) rfl ?_
     refine shO_nil ⟨_, rfl, FExt.refl _, [], by kernel_rfl, .inl (.inl rfl), (fun _ h => absurd h List.not_mem_nil), ?_⟩
     refine shM_nil ?_
     refine inBlock_n (id := 1) ?_
     exact le kr ⟨l2, n5, Lb53, r58, rfl, rfl, (sc rfl (sc rfl (sn _))), hz54⟩
   have r59 := ite_f r40 c42
   refine shW_exit (andThen_exit (andThen_exit ?_))
   refine inBlock_exit ?_
   obtain rfl := inj1 r59
   exact mi kr ⟨Lb36, rfl, rfl, (sc rfl (sn _)), hz37⟩
 rintro e1 _ _ ⟨Lb32, rfl, rfl, he60, hz33⟩
 refine shW_env _ he60 ?_
 refine wsr (om rfl rfl (oa rfl rfl (shO_nil (shW_ret ?_))))
 refine q_res1 Try.results80 (res_tmp rfl) (sr) ?_
 obtain rfl := inj1 r35
 exact ⟨_, _, _, _, rfl, rfl, hz33.any⟩
set_option maxHeartbeats 1000000 in
theorem round_Heard_w {walks_a : Option Addr} {walks_c : Nat} {walks : List (List Int)} {hears_a : Option Addr} {hears_c : Nat} {hears : List (List Int)} {houses start : Int} {notices_a : Option Addr} {notices_c : Nat} {notices : List ((List Int) × Int × Int)} {round_a : Option Addr} {round_c : Nat} {round : List (Int × Int)} {F : FS} (h_walks : RowR 1 (slE 1 (iE .i64)) F walks_a walks_c walks) (h_hears : RowR 1 (slE 1 (iE .i64)) F hears_a hears_c hears) (h_notices : RowR 3 (prE (slE 1 (iE .i64)) (prE (iE .i64) (iE .i64))) F notices_a notices_c notices) (h_round : RowR 2 (prE (iE .i64) (iE .i64)) F round_a round_c round) {r : List (List Int)} {r2 : Int} (hr : round_Heard walks hears houses start notices round = some (r, r2)) :
    SH.Spec Try.prog 59 #[.agg #[.slice walks_a walks.length walks_c, .slice hears_a hears.length hears_c, .int .i64 houses, .int .i64 start, .slice notices_a notices.length notices_c], .slice round_a round.length round_c] F [] fun F' L' v => ∃ (ra : Option Addr) (rc : Nat), v = .tuple #[.slice ra r.length rc, .int .i64 r2] ∧ L' = [] ∧ RowR 1 (slE 1 (iE .i64)) F' ra rc r := by
 refine spec_of_shW (args := [.agg #[.slice walks_a walks.length walks_c, .slice hears_a hears.length hears_c, .int .i64 houses, .int .i64 start, .slice notices_a notices.length notices_c], .slice round_a round.length round_c]) Try.func59 rfl Try.ntmps59 (nbL rfl) ?_
 intro K _ _; rw [round_Heard] at hr
 refine wsr ?_
 refine o_box rfl rfl ?_; intro b1 hb1
 refine oa rfl rfl (oa rfl rfl (nsr ?_))
 refine ov (v_loadA (cs := #[.slice walks_a walks.length walks_c, .slice hears_a hears.length hears_c, .int .i64 houses, .int .i64 start, .slice notices_a notices.length notices_c]) Try.isAgg26 Try.sizeOf26 rfl (Has.own 0 rfl) (nbL rfl) rfl) rfl ?_
 refine om rfl rfl ?_
 obtain ⟨d, l, n, h2, r3⟩ := b3_ok hr
 refine o_call0 rfl Try.call70 rfl rfl rfl (round_gone_w h_walks h_hears h_notices h_round h2) ?_; rintro _ F4 _ hF5 hn6 ⟨v8, a10, n14, c11, Lb12, rfl, rfl, hp9, hz13⟩
 replace h_hears := h_hears.mono (slE_ok (iE_ok _)) hF5
 replace h_notices := h_notices.mono (prE_ok (slE_ok (iE_ok _)) (prE_ok (iE_ok _) (iE_ok _))) hF5
 replace h_round := h_round.mono (prE_ok (iE_ok _) (iE_ok _)) hF5
 replace hz13 := hz13.new fun p hp => hn6 p (by simp [hp])
 refine shO_L (lp (ln rfl)) ?_
 refine kO (kf (fS fO) kr) ?_
 refine om rfl rfl (ox rfl rfl rfl (ox rfl rfl rfl (ox rfl rfl rfl (oa rfl rfl (oa rfl rfl (oa rfl rfl (shO_nil (shW_seq (wsr ?_)))))))))
 refine om rfl rfl ?_
 refine ov (v_neq rfl rfl) rfl ?_
 refine shO_nil ?_
 refine shW_condP rfl (fun c16 => ?_) (fun c16 => ?_)
 · have r17 := ite_t r3 c16
   refine wsr (om rfl rfl (oa rfl rfl (oa rfl rfl (shO_nil ?_))))
   refine kW kn ?_
   refine shW_ret (andThen_ret ?_)
   refine q_res2 Try.results59 (res_tmp rfl) (res_tmp rfl) (sr) ?_
   obtain ⟨rfl, rfl⟩ := inj2 r17
   exact ⟨_, _, rfl, rfl, RowR.nil _ _ _⟩
 have r18 := ite_f r3 c16
 refine shW_skip (wsr (oa rfl rfl (shO_nil ?_)))
 obtain ⟨out, h25, r26⟩ := b1_ok r18
 refine shW_join (fun e1 F1 L1 => ∃ (a19 : Option Addr) (n23 : Nat) (c20 : Nat) (Lb21 : LH), FExt F4 F1 ∧ L1 = ((b1, .cells #[.slice walks_a walks.length walks_c, .slice hears_a hears.length hears_c, .int .i64 houses, .int .i64 start, .slice notices_a notices.length notices_c] 26 (0, 0)) :: (Lb12 ++ (Lb21 ++ []))) ∧ e1.sub [(1, .slice round_a round.length round_c), (2, .pointer (some ⟨b1, 0, none⟩)), (7, .slice a10 n14 c11), (9, .slice a19 n23 c20)] ∧ NlR K.w0.heap.size 30 3 1 (iE .i64) F1 a19 n23 c20 out Lb21) ?_ ?_
 · clear r26
   refine wsr ?_
   refine ov (v_fieldAddr fa_26_4 rfl) rfl ?_
   refine ov (v_load Try.isAgg24 rfl (Has.own 0 rfl) rfl) rfl ?_
   refine ov (v_lenS Try.underlying24 rfl) rfl ?_
   refine om rfl rfl (shO_nil ?_)
   refine shW_block ?_
   refine shW_lp (fun fu1 e1 F1 L1 => ∃ (tl : List ((List Int) × Int × Int)) (k : Int), tl.length = fu1 ∧ Lst notices k tl ∧ ∃ (out2 : List (List Int)) (a27 : Option Addr) (n31 : Nat) (c28 : Nat) (Lb29 : LH), round_Heard_l1 houses tl out2 = some out ∧ FExt F4 F1 ∧ L1 = ((b1, .cells #[.slice walks_a walks.length walks_c, .slice hears_a hears.length hears_c, .int .i64 houses, .int .i64 start, .slice notices_a notices.length notices_c] 26 (0, 0)) :: (Lb12 ++ (Lb29 ++ []))) ∧ e1.sub [(1, .slice round_a round.length round_c), (2, .pointer (some ⟨b1, 0, none⟩)), (7, .slice a10 n14 c11), (9, .slice a27 n31 c28), (26, .int .i64 (notices.length : Int)), (27, .int .i64 k)] ∧ NlR K.w0.heap.size 30 3 1 (iE .i64) F1 a27 n31 c28 out2 Lb29) _ (m0 (kc (ka (ke kr))) ⟨_, _, rfl, Lst.start _, [], none, 0, 0, [], h25, FExt.refl _, rfl, (sc rfl (sc rfl (sc rfl (sc rfl (sc rfl (sc rfl (sn _))))))), NlR.nil _ _ _ _ _ _⟩) ?_
   rintro fu1 e1 F37 _ ⟨tl, k, hn34, hk33, out2, a27, n31, c28, Lb29, r35, hF38, rfl, he36, hz30⟩
   refine shW_env _ he36 ?_
   replace h_notices := h_notices.mono (prE_ok (slE_ok (iE_ok _)) (prE_ok (iE_ok _) (iE_ok _))) hF38
   refine wsr ?_
   refine ov (v_lssK rfl rfl) rfl ?_
   refine shO_nil (shW_seq ?_)
   refine shW_condP rfl (fun c40 => ?_) (fun c40 => ?_)
   · obtain ⟨x, tl2, rfl, hx42, g43, hk41⟩ := Lst.succ hk33 c40
     rw [round_Heard_l1] at r35
     refine shW_skip (shW_seq ?_)
     refine shW_block ?_
     refine shW_region (om rfl rfl ?_)
     refine o_buildSlice (cs := #[.int .i64 (-1)]) rfl rfl (buildSlice_all slt_30 [.int .i64 (-1)] rfl (by decide) (by simp [Value.cells]) (by decide)) ?_; intro b44 hb44
     refine ov (v_fieldAddr fa_26_2 rfl) rfl ?_
     refine ov (v_load Try.isAgg3 rfl (Has.own 1 rfl) rfl) rfl ?_
     refine shO_freeze 0 rfl hb44 ?_; intro F45 hF46 hz47
     refine shO_L (L' := (b1, .cells #[.slice walks_a walks.length walks_c, .slice hears_a hears.length hears_c, .int .i64 houses, .int .i64 start, .slice notices_a notices.length notices_c] 26 (0, 0)) :: (Lb12 ++ (Lb29 ++ []))) rfl ?_
     replace h_notices := h_notices.mono (prE_ok (slE_ok (iE_ok _)) (prE_ok (iE_ok _) (iE_ok _))) hF46
     replace hz30 := hz30.mono (iE_ok _) hF46
     have h48 : RowR 1 (iE .i64) F45 (some ⟨b44, 0, none⟩) 1 [-1] := RowR.of_block (iE_ok _) (vss := [[.int .i64 (-1)]]) (xs := [-1]) hz47 (.cons rfl .nil) rfl (by simp [maxLen])
     obtain ⟨l2, h49, r50⟩ := b1_ok r35
     refine o_call0 rfl Try.call80 rfl rfl rfl (slices_Repeat_int_int_w h48 h49) ?_; rintro _ F51 _ hF52 hn53 ⟨a55, n59, c56, Lb57, rfl, rfl, hz58⟩
     replace h_notices := h_notices.mono (prE_ok (slE_ok (iE_ok _)) (prE_ok (iE_ok _) (iE_ok _))) hF52
     replace hz30 := hz30.mono (iE_ok _) hF52
     replace hz58 := hz58.new fun p hp => hn53 p (by simp [hp])
     refine shO_L (lp (ln rfl)) ?_
     refine kO (kf (fS fO) kr) ?_
     refine o_buildSlice (cs := #[.slice a55 n59 c56]) rfl rfl (buildSlice_all slt_23 [.slice a55 n59 c56] rfl (by decide) (by simp [Value.cells]) (by decide)) ?_; intro b61 hb61
     obtain ⟨out3, h62, g63, r64⟩ := ap_ok r50
     refine shO_split (fC (fC (fS (fS fP)))) hz30 ?_; intro hs67 Lo68 Lc69 hO65 hI66
     refine kO (kf (fS (fS fO)) (kf (fS (fS fO)) kr)) ?_
     refine o_appZ (xs := hs67) (ys := [(a55, n59, c56)]) (zs := hs67 ++ [(a55, n59, c56)]) rfl slt_23 rfl rfl (Nat.le_refl _) (fun _ => .c (.c .h)) hO65 (SrcR.box (vss := [[.slice a55 n59 c56]]) (ys := [(a55, n59, c56)]) 0 rfl hdE_ok (.cons rfl .nil) rfl rfl) rfl (lenH hI66 h62 g63) (by decide) ?_; intro a70 n71 c72 Lo73 hO74
     refine kO (kd kr) ?_
     refine shO_fold (p := fun X => NlR K.w0.heap.size 30 3 1 (iE .i64) F51 a70 n71 c72 out3 X) (InP.push hI66 rfl hO74 hz58 h62) (pT ((fC fP).trans (pA ((fC (fS fP)).trans (pA ((fC fP).trans (pA pR)))))) (lp (lp (lp (ln rfl))))) ?_; intro Lb76 hz77
     refine kO (kf (fS fO) kr) ?_
     refine oa rfl rfl (shO_nil (inBlock_n (id := 1) (shW_region ?_)))
     refine ov (v_add rfl rfl (Lst.r64 hk33 c40 (RowR.lt h_notices))) rfl ?_
     refine om rfl rfl (shO_nil ?_)
     subst hn34; exact le (kc (kg (fS fP) kr)) ⟨_, _, rfl, hk41, out3, a70, n71, c72, Lb76, r64, ((hF38.trans hF46).trans hF52), rfl, (sc rfl (sc rfl (sc rfl (sc rfl (sc rfl (sc rfl (sn _))))))), hz77⟩
   obtain rfl := Lst.zero hk33 c40
   rw [round_Heard_l1] at r35
   refine shW_exit (andThen_exit (andThen_exit ?_))
   refine inBlock_exit ?_
   obtain rfl := inj1 r35
   exact mi kr ⟨a27, n31, c28, Lb29, hF38, rfl, (sc rfl (sc rfl (sc rfl (sc rfl (sn _))))), hz30⟩
 rintro e1 F79 _ ⟨a19, n23, c20, Lb21, hF80, rfl, he78, hz22⟩
 refine shW_env _ he78 ?_
 replace h_hears := h_hears.mono (slE_ok (iE_ok _)) hF80
 replace h_round := h_round.mono (prE_ok (iE_ok _) (iE_ok _)) hF80
 replace hz13 := hz13.mono (iE_ok _) hF80
 obtain ⟨out4, h83, r84⟩ := b1_ok r26
 refine shW_join (fun e1 F1 L1 => ∃ (Lb81 : LH), FExt F79 F1 ∧ L1 = (Lb81 ++ []) ∧ e1.sub [(9, .slice a19 n23 c20)] ∧ NlR K.w0.heap.size 30 3 1 (iE .i64) F1 a19 n23 c20 out4 Lb81) ?_ ?_
 · clear r84
   refine wsr (om rfl rfl ?_)
   refine ov (v_lenS Try.underlying34 rfl) rfl ?_
   refine om rfl rfl (shO_nil ?_)
   refine shW_block ?_
   refine shW_lp (fun fu2 e1 F1 L1 => ∃ (tl3 : List (Int × Int)) (k2 : Int), tl3.length = fu2 ∧ Lst round k2 tl3 ∧ ∃ (out5 : List (List Int)) (Lb85 : LH), round_Heard_l2 hears l tl3 k2 out5 = some out4 ∧ FExt F79 F1 ∧ L1 = ((b1, .cells #[.slice walks_a walks.length walks_c, .slice hears_a hears.length hears_c, .int .i64 houses, .int .i64 start, .slice notices_a notices.length notices_c] 26 (0, 0)) :: (Lb12 ++ (Lb85 ++ []))) ∧ e1.sub [(2, .pointer (some ⟨b1, 0, none⟩)), (7, .slice a10 n14 c11), (9, .slice a19 n23 c20), (37, .slice round_a round.length round_c), (38, .int .i64 (round.length : Int)), (39, .int .i64 k2)] ∧ NlR K.w0.heap.size 30 3 1 (iE .i64) F1 a19 n23 c20 out5 Lb85) _ (m0 kr ⟨_, _, rfl, Lst.start _, out, Lb21, h83, FExt.refl _, rfl, (sc rfl (sc rfl (sc rfl (sc rfl (sc rfl (sc rfl (sn _))))))), hz22⟩) ?_
   rintro fu2 e1 F91 _ ⟨tl3, k2, hn88, hk87, out5, Lb85, r89, hF92, rfl, he90, hz86⟩
   refine shW_env _ he90 ?_
   replace h_hears := h_hears.mono (slE_ok (iE_ok _)) hF92
   replace h_round := h_round.mono (prE_ok (iE_ok _) (iE_ok _)) hF92
   replace hz13 := hz13.mono (iE_ok _) hF92
   refine wsr ?_
   refine ov (v_lssK rfl rfl) rfl ?_
   refine shO_nil (shW_seq ?_)
   refine shW_condP rfl (fun c94 => ?_) (fun c94 => ?_)
   · obtain ⟨x2, tl4, rfl, hx96, g97, hk95⟩ := Lst.succ hk87 c94
     rw [round_Heard_l2] at r89
     refine shW_skip ?_
     obtain ⟨out6, h100, r101⟩ := b1_ok r89
     refine shW_join (fun e1 F1 L1 => ∃ (Lb98 : LH), FExt F91 F1 ∧ L1 = ((b1, .cells #[.slice walks_a walks.length walks_c, .slice hears_a hears.length hears_c, .int .i64 houses, .int .i64 start, .slice notices_a notices.length notices_c] 26 (0, 0)) :: (Lb12 ++ (Lb98 ++ []))) ∧ e1.sub [(2, .pointer (some ⟨b1, 0, none⟩)), (7, .slice a10 n14 c11), (9, .slice a19 n23 c20), (37, .slice round_a round.length round_c), (38, .int .i64 (round.length : Int)), (39, .int .i64 k2)] ∧ NlR K.w0.heap.size 30 3 1 (iE .i64) F1 a19 n23 c20 out6 Lb98) ?_ ?_
     · clear r101
       refine shW_block ?_
       refine wsr (om rfl rfl ?_)
       obtain ⟨b102, o103, c104, vs105, ha106, hs107, hle108, ⟨_, _, rfl, rfl, rfl⟩, hl109, hc110⟩ := RowR.at (prE_ok (iE_ok _) (iE_ok _)) h_round ((b1, .cells #[.slice walks_a walks.length walks_c, .slice hears_a hears.length hears_c, .int .i64 houses, .int .i64 start, .slice notices_a notices.length notices_c] 26 (0, 0)) :: (Lb12 ++ (Lb85 ++ []))) g97.1 hx96
       refine ov (v_indexO Try.underlying34 Try.sizeOf93 rfl ha106 rfl g97) rfl ?_
       refine ov (v_loadA (cs := #[.int .i64 x2.1, .int .i64 x2.2]) Try.isAgg93 Try.sizeOf93 rfl hs107 hle108 (extract_cells hle108 hl109 hc110)) rfl ?_
       refine o_alloc rfl Try.zeroValue93 ?_; intro b111 hb111
       refine oa rfl rfl ?_
       refine o_storeA (i := 0) Try.sizeOf93 rfl rfl rfl (by simp [Value.oneCell']) rfl (nbL rfl) ?_
       refine shO_L (L' := (b111, .cells #[.int .i64 x2.1, .int .i64 x2.2] 93 (0, 0)) :: ((b1, .cells #[.slice walks_a walks.length walks_c, .slice hears_a hears.length hears_c, .int .i64 houses, .int .i64 start, .slice notices_a notices.length notices_c] 26 (0, 0)) :: (Lb12 ++ (Lb85 ++ [])))) rfl ?_
       refine nsr ?_
       refine ov (v_fieldAddr fa_26_1 rfl) rfl ?_
       refine ov (v_load Try.isAgg23 rfl (Has.own 1 rfl) rfl) rfl ?_
       refine ov (v_fieldAddr fa_93_0 rfl) rfl ?_
       refine ov (v_load Try.isAgg3 rfl (Has.own 0 rfl) rfl) rfl ?_
       obtain ⟨x3, g112, hx113, r114⟩ := ix_ok h100
       obtain ⟨b115, o116, c117, vs118, ha119, hs120, hle121, ⟨a124, c125, rfl, h126⟩, hl122, hc123⟩ := RowR.at (slE_ok (iE_ok _)) h_hears ((b111, .cells #[.int .i64 x2.1, .int .i64 x2.2] 93 (0, 0)) :: ((b1, .cells #[.slice walks_a walks.length walks_c, .slice hears_a hears.length hears_c, .int .i64 houses, .int .i64 start, .slice notices_a notices.length notices_c] 26 (0, 0)) :: (Lb12 ++ (Lb85 ++ [])))) g112.1 hx113
       refine ov (v_indexO Try.underlying23 Try.sizeOf30 rfl ha119 rfl g112) rfl ?_
       refine ov (v_load Try.isAgg30 rfl hs120 (hc123 0 (by decide))) rfl ?_
       refine ov (v_lenS Try.underlying30 rfl) rfl ?_
       refine om rfl rfl (shO_nil ?_)
       refine shW_block ?_
       refine shW_lp (fun fu3 e1 F1 L1 => ∃ (tl5 : List Int) (k3 : Int), tl5.length = fu3 ∧ Lst x3 k3 tl5 ∧ ∃ (out7 : List (List Int)) (Lb127 : LH), round_Heard_l3 l k2 x2 tl5 out7 = some out6 ∧ FExt F91 F1 ∧ L1 = ((b111, .cells #[.int .i64 x2.1, .int .i64 x2.2] 93 (0, 0)) :: ((b1, .cells #[.slice walks_a walks.length walks_c, .slice hears_a hears.length hears_c, .int .i64 houses, .int .i64 start, .slice notices_a notices.length notices_c] 26 (0, 0)) :: (Lb12 ++ (Lb127 ++ [])))) ∧ e1.sub [(2, .pointer (some ⟨b1, 0, none⟩)), (7, .slice a10 n14 c11), (9, .slice a19 n23 c20), (10, .int .i64 k2), (11, .pointer (some ⟨b111, 0, none⟩)), (37, .slice round_a round.length round_c), (38, .int .i64 (round.length : Int)), (39, .int .i64 k2), (49, .slice a124 x3.length c125), (50, .int .i64 (x3.length : Int)), (51, .int .i64 k3)] ∧ NlR K.w0.heap.size 30 3 1 (iE .i64) F1 a19 n23 c20 out7 Lb127) _ (m0 kr ⟨_, _, rfl, Lst.start _, out5, Lb85, r114, FExt.refl _, rfl, (sc rfl (sc rfl (sc rfl (sc rfl (sc rfl (sc rfl (sc rfl (sc rfl (sc rfl (sc rfl (sc rfl (sn _)))))))))))), hz86⟩) ?_
       rintro fu3 e1 F133 _ ⟨tl5, k3, hn130, hk129, out7, Lb127, r131, hF134, rfl, he132, hz128⟩
       refine shW_env _ he132 ?_
       replace h126 := h126.mono (iE_ok _) hF134
       replace hz13 := hz13.mono (iE_ok _) hF134
       refine wsr ?_
       refine ov (v_lssK rfl rfl) rfl ?_
       refine shO_nil (shW_seq ?_)
       refine shW_condP rfl (fun c136 => ?_) (fun c136 => ?_)
       · obtain ⟨x4, tl6, rfl, hx138, g139, hk137⟩ := Lst.succ hk129 c136
         rw [round_Heard_l3] at r131
         refine shW_skip (shW_seq ?_)
         refine shW_block ?_
         refine wsr ?_
         obtain ⟨b140, o141, c142, vs143, ha144, hs145, hle146, rfl, hl147, hc148⟩ := RowR.at (iE_ok _) h126 ((b111, .cells #[.int .i64 x2.1, .int .i64 x2.2] 93 (0, 0)) :: ((b1, .cells #[.slice walks_a walks.length walks_c, .slice hears_a hears.length hears_c, .int .i64 houses, .int .i64 start, .slice notices_a notices.length notices_c] 26 (0, 0)) :: (Lb12 ++ (Lb127 ++ [])))) g139.1 hx138
         refine ov (v_indexO Try.underlying30 Try.sizeOf3 rfl ha144 rfl g139) rfl ?_
         refine ov (v_load Try.isAgg3 rfl hs145 (hc148 0 (by decide))) rfl ?_
         refine oa rfl rfl (shO_nil ?_)
         obtain ⟨x5, g149, hx150, r151⟩ := ix_ok r131
         have hn163 := (NlR.caps hz128).1
         refine shW_open (fC (fC (fS fP))) hz128 hx150 ?_; intro hs152 Lo153 Lc154 a155 n156 c157 Lb158 hh159 hO160 hz161 hI162
         refine kW (kf (fS (fS (fS fO))) (kf (fS (fS (fS fO))) kr)) ?_
         refine shW_drawM [(.still, 0), (.still, 1), (.still, 2), (.still, 3), (.still, 4), (.still, 5), (.still, 6), (.still, 7), (.still, 8), (.still, 9), (.still, 10), (.still, 11), (.still, 12), (.still, 13), (.still, 14), (.still, 15), (.still, 16), (.still, 17), (.seq, 18), (.seq, 19), (.still, 20), (.seq, 21)] (by kernel_rfl) (by kernel_rfl) (trivial) (by rfl) (by kernel_rfl) ?_
         refine shM_v (v := .slice a19 n23 c20) (ek := [(9, .slice a19 n23 c20)]) (Ls := []) rfl rfl rfl rfl ((sc rfl (sn _))) (by kernel_rfl) sm (fun H F' L' hF' hL' => v_move rfl) ?_
         refine shM_v (v := .pointer (some ⟨b111, 1, none⟩)) (ek := [(11, .pointer (some ⟨b111, 0, none⟩))]) (Ls := []) rfl rfl rfl rfl ((sc rfl (sn _))) (by kernel_rfl) sm (fun H F' L' hF' hL' => v_fieldAddr fa_93_1 rfl) ?_
         refine shM_v (v := .int .i64 x2.2) (ek := [(56, .pointer (some ⟨b111, 1, none⟩))]) (Ls := [(b111, .cells #[.int .i64 x2.1, .int .i64 x2.2] 93 (0, 0))]) rfl rfl rfl rfl ((sc rfl (sn _))) (by kernel_rfl) (s0 (s2 (s1 (s3 (s3 (s3 (s3 sr))))))) (fun H F' L' hF' hL' => v_load Try.isAgg3 rfl ((Has.own 0 rfl).ext hF' hL') rfl) ?_
         obtain ⟨b165, o166, c167, vs168, ha169, hs170, hle171, rfl, hl172, hc173⟩ := SlR.at hdE_ok hO160 (L := Lo153 ++ []) fP g149.1 hh159
         refine shM_v (v := .pointer (some ⟨b165, o166 + (x2.2 : Int).toNat * 1, none⟩)) (ek := [(55, .slice a19 n23 c20), (57, .int .i64 x2.2)]) (Ls := []) rfl rfl rfl rfl ((sc rfl (sc rfl (sn _)))) (by kernel_rfl) sm (fun H F' L' hF' hL' => v_indexO Try.underlying23 Try.sizeOf30 rfl ha169 rfl (idxN hn163 g149)) ?_
         refine shM_v (v := .slice a155 n156 c157) (ek := [(58, .pointer (some ⟨b165, o166 + (x2.2 : Int).toNat * 1, none⟩))]) (Ls := Lo153 ++ []) rfl rfl rfl rfl ((sc rfl (sn _))) (by kernel_rfl) (s0 (s1 (s1 (s4 (s3 (s3 (s3 sr))))))) (fun H F' L' hF' hL' => v_load Try.isAgg30 rfl (hs170.ext hF' hL') (hc173 0 (by decide))) ?_
         refine shM_v (v := .int .i64 x4) (ek := [(13, .int .i64 x4)]) (Ls := []) rfl rfl rfl rfl ((sc rfl (sn _))) (by kernel_rfl) sm (fun H F' L' hF' hL' => v_move rfl) ?_
         refine shM_v (v := .slice a19 n23 c20) (ek := [(9, .slice a19 n23 c20)]) (Ls := []) rfl rfl rfl rfl ((sc rfl (sn _))) (by kernel_rfl) sm (fun H F' L' hF' hL' => v_move rfl) ?_
         refine shM_v (v := .pointer (some ⟨b111, 1, none⟩)) (ek := [(11, .pointer (some ⟨b111, 0, none⟩))]) (Ls := []) rfl rfl rfl rfl ((sc rfl (sn _))) (by kernel_rfl) sm (fun H F' L' hF' hL' => v_fieldAddr fa_93_1 rfl) ?_
         refine shM_v (v := .int .i64 x2.2) (ek := [(62, .pointer (some ⟨b111, 1, none⟩))]) (Ls := [(b111, .cells #[.int .i64 x2.1, .int .i64 x2.2] 93 (0, 0))]) rfl rfl rfl rfl ((sc rfl (sn _))) (by kernel_rfl) (s0 (s2 (s1 (s3 (s3 (s3 (s3 sr))))))) (fun H F' L' hF' hL' => v_load Try.isAgg3 rfl ((Has.own 0 rfl).ext hF' hL') rfl) ?_
         obtain ⟨b174, o175, c176, vs177, ha178, hs179, hle180, rfl, hl181, hc182⟩ := SlR.at hdE_ok hO160 (L := Lo153 ++ []) fP g149.1 hh159
         refine shM_v (v := .pointer (some ⟨b174, o175 + (x2.2 : Int).toNat * 1, none⟩)) (ek := [(61, .slice a19 n23 c20), (63, .int .i64 x2.2)]) (Ls := []) rfl rfl rfl rfl ((sc rfl (sc rfl (sn _)))) (by kernel_rfl) sm (fun H F' L' hF' hL' => v_indexO Try.underlying23 Try.sizeOf30 rfl ha178 rfl (idxN hn163 g149)) ?_
         refine shM_v (v := .slice a155 n156 c157) (ek := [(64, .pointer (some ⟨b174, o175 + (x2.2 : Int).toNat * 1, none⟩))]) (Ls := Lo153 ++ []) rfl rfl rfl rfl ((sc rfl (sn _))) (by kernel_rfl) (s0 (s1 (s1 (s4 (s3 (s3 (s3 sr))))))) (fun H F' L' hF' hL' => v_load Try.isAgg30 rfl (hs179.ext hF' hL') (hc182 0 (by decide))) ?_
         refine shM_v (v := .int .i64 x4) (ek := [(13, .int .i64 x4)]) (Ls := []) rfl rfl rfl rfl ((sc rfl (sn _))) (by kernel_rfl) sm (fun H F' L' hF' hL' => v_move rfl) ?_
         obtain ⟨x6, g183, hx184, r185⟩ := ix_ok r151
         obtain ⟨b186, o187, c188, vs189, ha190, hs191, hle192, rfl, hl193, hc194⟩ := SlR.at (iE_ok _) hz161 (L := Lb158 ++ []) fP g183.1 hx184
         refine shM_v (v := .pointer (some ⟨b186, o187 + (x4 : Int).toNat * 1, none⟩)) (ek := [(65, .slice a155 n156 c157), (66, .int .i64 x4)]) (Ls := []) rfl rfl rfl rfl ((sc rfl (sc rfl (sn _)))) (by kernel_rfl) sm (fun H F' L' hF' hL' => v_indexO Try.underlying30 Try.sizeOf3 rfl ha190 rfl (SlR.idx hz161 g183)) ?_
         refine shM_v (v := .int .i64 x6) (ek := [(67, .pointer (some ⟨b186, o187 + (x4 : Int).toNat * 1, none⟩))]) (Ls := Lb158 ++ []) rfl rfl rfl rfl ((sc rfl (sn _))) (by kernel_rfl) (s0 (s1 (s1 (s3 (s4 (s3 (s3 sr))))))) (fun H F' L' hF' hL' => v_load Try.isAgg3 rfl (hs191.ext hF' hL') (hc194 0 (by decide))) ?_
         refine shM_v (v := .slice a10 n14 c11) (ek := [(7, .slice a10 n14 c11)]) (Ls := []) rfl rfl rfl rfl ((sc rfl (sn _))) (by kernel_rfl) sm (fun H F' L' hF' hL' => v_move rfl) ?_
         refine shM_v (v := .int .i64 k2) (ek := [(10, .int .i64 k2)]) (Ls := []) rfl rfl rfl rfl ((sc rfl (sn _))) (by kernel_rfl) sm (fun H F' L' hF' hL' => v_move rfl) ?_
         obtain ⟨x7, g195, hx196, r197⟩ := ix_ok r185
         obtain ⟨b198, o199, c200, vs201, ha202, hs203, hle204, rfl, hl205, hc206⟩ := SlR.at (iE_ok _) hz13 (L := Lb12 ++ []) fP g195.1 hx196
         refine shM_v (v := .pointer (some ⟨b198, o199 + (k2 : Int).toNat * 1, none⟩)) (ek := [(69, .slice a10 n14 c11), (70, .int .i64 k2)]) (Ls := []) rfl rfl rfl rfl ((sc rfl (sc rfl (sn _)))) (by kernel_rfl) sm (fun H F' L' hF' hL' => v_indexO Try.underlying30 Try.sizeOf3 rfl ha202 rfl (SlR.idx hz13 g195)) ?_
         refine shM_v (v := .int .i64 x7) (ek := [(71, .pointer (some ⟨b198, o199 + (k2 : Int).toNat * 1, none⟩))]) (Ls := Lb12 ++ []) rfl rfl rfl rfl ((sc rfl (sn _))) (by kernel_rfl) (s0 (s1 (s1 (s3 (s3 (s3 (s4 sr))))))) (fun H F' L' hF' hL' => v_load Try.isAgg3 rfl (hs203.ext hF' hL') (hc206 0 (by decide))) ?_
         refine ⟨_, [(68, .int .i64 x6), (72, .int .i64 x7)], rfl, rfl, (sc rfl (sc rfl (sn _))), by kernel_rfl, ?_⟩; intro H
         refine o_buildSlice (cs := #[.int .i64 x6, .int .i64 x7]) rfl rfl (buildSlice_all slt_30 [.int .i64 x6, .int .i64 x7] rfl (by decide) (by simp [Value.cells]) (by decide)) ?_; intro b207 hb207
         refine shO_nil ⟨_, rfl, FExt.refl _, [7, 5, 4, 3, 2, 1, 0], by kernel_rfl, .inl (.inr (fun d h => by cases h; rfl)), (List.forall_mem_cons.2 ⟨sm, (List.forall_mem_cons.2 ⟨sm, (List.forall_mem_cons.2 ⟨s0 (s1 (s1 (s1 (s4 (s3 (s3 (s3 sr))))))), (List.forall_mem_cons.2 ⟨sm, (List.forall_mem_cons.2 ⟨s0 (s1 (s2 (s1 (s3 (s3 (s3 (s3 sr))))))), (List.forall_mem_cons.2 ⟨sm, (List.forall_mem_cons.2 ⟨sm, (fun _ h => absurd h List.not_mem_nil)⟩)⟩)⟩)⟩)⟩)⟩)⟩), ?_⟩
         refine ⟨_, [(73, .slice (some ⟨b207, 0, none⟩) 2 2)], rfl, rfl, (sc rfl (sn _)), by kernel_rfl, ?_⟩; intro H
         refine shO_freeze 0 rfl hb207 ?_; intro F208 hF209 hz210
         refine shO_L (L' := (b111, .cells #[.int .i64 x2.1, .int .i64 x2.2] 93 (0, 0)) :: ((b1, .cells #[.slice walks_a walks.length walks_c, .slice hears_a hears.length hears_c, .int .i64 houses, .int .i64 start, .slice notices_a notices.length notices_c] 26 (0, 0)) :: (Lo153 ++ (Lb158 ++ (Lc154 ++ (Lb12 ++ [])))))) rfl ?_
         replace h126 := h126.mono (iE_ok _) hF209
         replace hO160 := hO160.mono hdE_ok hF209
         replace hI162 := hI162.mono (iE_ok _) hF209
         replace hz161 := hz161.mono (iE_ok _) hF209
         have h211 : RowR 1 (iE .i64) F208 (some ⟨b207, 0, none⟩) 2 [x6, x7] := RowR.of_block (iE_ok _) (vss := [[.int .i64 x6], [.int .i64 x7]]) (xs := [x6, x7]) hz210 (.cons rfl (.cons rfl .nil)) rfl (by simp [maxLen])
         obtain ⟨n2, h212, r213⟩ := b1_ok r197
         refine o_callV rfl Try.call73 rfl rfl rfl (round_soonest_w h211 h212) ?_
         refine shO_nil ⟨_, rfl, hF209, [7, 5, 4, 3, 2, 1, 0], by kernel_rfl, .inl (.inr (fun d h => by cases h; rfl)), (List.forall_mem_cons.2 ⟨sm, (List.forall_mem_cons.2 ⟨sm, (List.forall_mem_cons.2 ⟨s0 (s1 (s1 (s4 (s3 (s3 (s3 sr)))))), (List.forall_mem_cons.2 ⟨sm, (List.forall_mem_cons.2 ⟨s0 (s2 (s1 (s3 (s3 (s3 (s3 sr)))))), (List.forall_mem_cons.2 ⟨sm, (List.forall_mem_cons.2 ⟨sm, (fun _ h => absurd h List.not_mem_nil)⟩)⟩)⟩)⟩)⟩)⟩)⟩), ?_⟩
         obtain ⟨b214, o215, c216, vs217, ha218, hs219, hle220, rfl, hl221, hc222⟩ := SlR.at (iE_ok _) hz161 (L := Lb158 ++ []) fP g183.1 hx184
         refine shM_v (v := .pointer (some ⟨b214, o215 + (x4 : Int).toNat * 1, none⟩)) (ek := [(59, .slice a155 n156 c157), (60, .int .i64 x4)]) (Ls := []) rfl rfl rfl rfl ((sc rfl (sc rfl (sn _)))) (by kernel_rfl) sm (fun H F' L' hF' hL' => v_indexO Try.underlying30 Try.sizeOf3 rfl ha218 rfl (SlR.idx hz161 g183)) ?_
         refine ⟨_, [(74, .int .i64 n2), (75, .pointer (some ⟨b214, o215 + (x4 : Int).toNat * 1, none⟩))], rfl, rfl, (sc rfl (sc rfl (sn _))), by kernel_rfl, ?_⟩; intro H
         obtain ⟨l3, h223, r224⟩ := bv_ok r213
         refine o_storeZ (u := n2) Try.sizeOf3 (iE_ok _) rfl ha218 rfl rfl (fun _ => .c (.c (.s .h))) hz161 h223 g183 ?_; intro Lb225 hz226
         refine shO_nil ⟨undef, rfl, FExt.refl _, [], by kernel_rfl, .inl (.inl rfl), (fun _ h => absurd h List.not_mem_nil), ?_⟩
         refine shM_nil ?_
         refine inBlock_n (id := 5) (shW_region ?_)
         refine ov (v_add rfl rfl (Lst.r64 hk129 c136 (RowR.lt h126))) rfl ?_
         refine om rfl rfl ?_
         obtain ⟨out8, h227, r228⟩ := bv_ok r224
         refine shO_fold (p := fun X => NlR K.w0.heap.size 30 3 1 (iE .i64) F208 a19 n23 c20 out8 X) (InH.back0 hI162 hO160 hh159 hz226 h227) (pT ((fC (fC fP)).trans (pA ((fC (fC fP)).trans (pA ((fC (fC fP)).trans (pA pR)))))) (lp (lp (lp (ln rfl))))) ?_; intro Lb229 hz230
         refine kO (kf (fS fO) (kf (fS fO) kr)) ?_
         refine shO_nil ?_
         subst hn130; exact le (kc (kc (kg (fS fP) kr))) ⟨_, _, rfl, hk137, out8, Lb229, r228, (hF134.trans hF209), rfl, (sc rfl (sc rfl (sc rfl (sc rfl (sc rfl (sc rfl (sc rfl (sc rfl (sc rfl (sc rfl (sc rfl (sn _)))))))))))), hz230⟩
       obtain rfl := Lst.zero hk129 c136
       rw [round_Heard_l3] at r131
       refine shW_exit (andThen_exit (andThen_exit ?_))
       refine inBlock_exit ?_
       refine inBlock_n (id := 3) ?_
       obtain rfl := inj1 r131
       exact mi (kd kr) ⟨Lb127, hF134, rfl, (sc rfl (sc rfl (sc rfl (sc rfl (sc rfl (sc rfl (sn _))))))), hz128⟩
     rintro e1 F232 _ ⟨Lb98, hF233, rfl, he231, hz99⟩
     refine shW_env _ he231 ?_
     replace h_round := h_round.mono (prE_ok (iE_ok _) (iE_ok _)) hF233
     refine shW_region ?_
     refine ov (v_add rfl rfl (Lst.r64 hk87 c94 (RowR.lt h_round))) rfl ?_
     refine om rfl rfl (shO_nil ?_)
     subst hn88; exact le kr ⟨_, _, rfl, hk95, out6, Lb98, r101, (hF92.trans hF233), rfl, (sc rfl (sc rfl (sc rfl (sc rfl (sc rfl (sc rfl (sn _))))))), hz99⟩
   obtain rfl := Lst.zero hk87 c94
   rw [round_Heard_l2] at r89
   refine shW_exit (andThen_exit (andThen_exit ?_))
   refine inBlock_exit ?_
   obtain rfl := inj1 r89
   exact mi (kd (kx kr)) ⟨Lb85, hF92, rfl, (sc rfl (sn _)), hz86⟩
 rintro e1 F235 _ ⟨Lb81, hF236, rfl, he234, hz82⟩
 refine shW_env _ he234 ?_
 refine wsr (om rfl rfl (oa rfl rfl (oa rfl rfl (shO_nil ?_))))
 obtain rfl := (NlR.caps hz82).1
 refine shW_freezeN (Nat.le_refl _) (iE_ok _) fP hz82 ?_; intro F237 hF238 h239
 refine shW_ret ?_
 refine q_res2 Try.results59 (res_tmp rfl) (res_tmp rfl) (sr) ?_
 obtain ⟨rfl, rfl⟩ := inj2 r84
 exact ⟨_, _, rfl, rfl, h239⟩
set_option maxHeartbeats 1000000 in
theorem round_Missed_w {walks_a : Option Addr} {walks_c : Nat} {walks : List (List Int)} {hears_a : Option Addr} {hears_c : Nat} {hears : List (List Int)} {houses start : Int} {notices_a : Option Addr} {notices_c : Nat} {notices : List ((List Int) × Int × Int)} {round_a : Option Addr} {round_c : Nat} {round : List (Int × Int)} {F : FS} (h_walks : RowR 1 (slE 1 (iE .i64)) F walks_a walks_c walks) (h_hears : RowR 1 (slE 1 (iE .i64)) F hears_a hears_c hears) (h_notices : RowR 3 (prE (slE 1 (iE .i64)) (prE (iE .i64) (iE .i64))) F notices_a notices_c notices) (h_round : RowR 2 (prE (iE .i64) (iE .i64)) F round_a round_c round) {r : List (Int × Int)} {r2 : Int} (hr : round_Missed walks hears houses start notices round = some (r, r2)) :
    SH.Spec Try.prog 35 #[.agg #[.slice walks_a walks.length walks_c, .slice hears_a hears.length hears_c, .int .i64 houses, .int .i64 start, .slice notices_a notices.length notices_c], .slice round_a round.length round_c] F [] fun F' L' v => ∃ (ra : Option Addr) (rn : Nat) (rc : Nat) (rL : LH), v = .tuple #[.slice ra rn rc, .int .i64 r2] ∧ L' = rL ++ [] ∧ SlR 0 54 2 (prE (iE .i64) (iE .i64)) F' ra rn rc r rL := by
 refine spec_of_shW (args := [.agg #[.slice walks_a walks.length walks_c, .slice hears_a hears.length hears_c, .int .i64 houses, .int .i64 start, .slice notices_a notices.length notices_c], .slice round_a round.length round_c]) Try.func35 rfl Try.ntmps35 (nbL rfl) ?_
 intro K _ _; rw [round_Missed] at hr
 refine wsr ?_
 refine o_box rfl rfl ?_; intro b1 hb1
 refine oa rfl rfl (oa rfl rfl (nsr ?_))
 refine ov (v_loadA (cs := #[.slice walks_a walks.length walks_c, .slice hears_a hears.length hears_c, .int .i64 houses, .int .i64 start, .slice notices_a notices.length notices_c]) Try.isAgg26 Try.sizeOf26 rfl (Has.own 0 rfl) (nbL rfl) rfl) rfl ?_
 refine om rfl rfl ?_
 obtain ⟨l, n, h2, r3⟩ := b2_ok hr
 refine o_call0 rfl Try.call59 rfl rfl rfl (round_Heard_w h_walks h_hears h_notices h_round h2) ?_; rintro _ F4 _ hF5 hn6 ⟨a8, c9, rfl, rfl, h10⟩
 replace h_walks := h_walks.mono (slE_ok (iE_ok _)) hF5
 replace h_hears := h_hears.mono (slE_ok (iE_ok _)) hF5
 replace h_notices := h_notices.mono (prE_ok (slE_ok (iE_ok _)) (prE_ok (iE_ok _) (iE_ok _))) hF5
 refine shO_L (ln rfl) ?_
 refine om rfl rfl (ox rfl rfl rfl (ox rfl rfl rfl (oa rfl rfl (oa rfl rfl (shO_nil (shW_seq (wsr (om rfl rfl ?_))))))))
 refine ov (v_neq rfl rfl) rfl ?_
 refine shO_nil ?_
 refine shW_condP rfl (fun c11 => ?_) (fun c11 => ?_)
 · have r12 := ite_t r3 c11
   refine wsr (om rfl rfl (oa rfl rfl (oa rfl rfl (shO_nil ?_))))
   refine kW kn ?_
   refine shW_ret (andThen_ret ?_)
   refine q_res2 Try.results35 (res_tmp rfl) (res_tmp rfl) (sr) ?_
   obtain ⟨rfl, rfl⟩ := inj2 r12
   exact ⟨_, _, _, [], rfl, rfl, SlR.nil _ _ _ _ _⟩
 have r13 := ite_f r3 c11
 refine shW_skip (wsr ?_)
 refine ov (v_loadA (cs := #[.slice walks_a walks.length walks_c, .slice hears_a hears.length hears_c, .int .i64 houses, .int .i64 start, .slice notices_a notices.length notices_c]) Try.isAgg26 Try.sizeOf26 rfl (Has.own 0 rfl) (nbL rfl) rfl) rfl ?_
 obtain ⟨d, n2, h14, r15⟩ := b2_ok r13
 refine o_call0 rfl Try.call26 rfl rfl rfl (round_opened_w h_walks h_hears h_notices h14) ?_; rintro _ F16 _ hF17 hn18 ⟨v20, rfl, rfl, hp21⟩
 replace h_notices := h_notices.mono (prE_ok (slE_ok (iE_ok _)) (prE_ok (iE_ok _) (iE_ok _))) hF17
 replace h10 := h10.mono (slE_ok (iE_ok _)) hF17
 refine shO_L (ln rfl) ?_
 refine om rfl rfl (ox rfl rfl rfl (ox rfl rfl rfl (oa rfl rfl (oa rfl rfl (nsr (oa rfl rfl (shO_nil ?_)))))))
 obtain ⟨out, h28, r29⟩ := b1_ok r15
 refine shW_join (fun e1 F1 L1 => ∃ (a22 : Option Addr) (n26 : Nat) (c23 : Nat) (Lb24 : LH), F16 = F1 ∧ L1 = (Lb24 ++ []) ∧ e1.sub [(10, .slice a22 n26 c23)] ∧ SlR K.w0.heap.size 54 2 (prE (iE .i64) (iE .i64)) F1 a22 n26 c23 out Lb24) ?_ ?_
 · clear r29
   refine wsr (om rfl rfl ?_)
   obtain ⟨walks2, hears2, houses2, start2, notices2, walks3, pairs, hit, h30, r31⟩ := b8_ok h28
   have h51 := hp21; rw [h30] at h51; obtain ⟨b32, c33, m34, hv35, hz36, ⟨_, _, rfl, ⟨a37, c38, rfl, h39⟩, ⟨_, _, rfl, ⟨a40, c41, rfl, h42⟩, ⟨_, _, rfl, rfl, ⟨_, _, rfl, rfl, ⟨_, _, rfl, ⟨a43, c44, rfl, h45⟩, ⟨_, _, rfl, ⟨rfl, h46⟩, ⟨_, _, rfl, ⟨a47, c48, rfl, h49⟩, ⟨rfl, h50⟩⟩⟩⟩⟩⟩⟩⟩⟩ := h51; subst hv35
   have hz36 : F16 b32 = some (.cells ((([.slice a37 walks2.length c38] : List Value) ++ (([.slice a40 hears2.length c41] : List Value) ++ (([.int .i64 houses2] : List Value) ++ (([.int .i64 start2] : List Value) ++ (([.slice a43 notices2.length c44] : List Value) ++ (walks3.flatMap (cI .i64) ++ (([.slice a47 pairs.length c48] : List Value) ++ (hit.flatMap (cI .i64))))))))).toArray) 102 m34) := hz36
   refine ov (v_nilCheck rfl) rfl ?_
   refine ov (v_fieldAddr fa_102_2 rfl) rfl ?_
   refine ov (v_load Try.isAgg44 rfl (Has.frozen hz36) (li_cell (li_skip (A := ([.slice a37 walks2.length c38] : List Value)) (k := 1) (o := 29) rfl (li_skip (A := ([.slice a40 hears2.length c41] : List Value)) (k := 1) (o := 28) rfl (li_skip (A := ([.int .i64 houses2] : List Value)) (k := 1) (o := 27) rfl (li_skip (A := ([.int .i64 start2] : List Value)) (k := 1) (o := 26) rfl (li_skip (A := ([.slice a43 notices2.length c44] : List Value)) (k := 1) (o := 25) rfl (li_skip (A := walks3.flatMap (cI .i64)) (k := 25) (o := 0) (lfl (cI_ok .i64) h46) (li_here (B := hit.flatMap (cI .i64)) rfl))))))))) rfl ?_
   refine ov (v_lenS Try.underlying44 rfl) rfl ?_
   refine om rfl rfl (shO_nil ?_)
   refine shW_block ?_
   refine shW_lp (fun fu1 e1 F1 L1 => ∃ (tl : List (Int × Int)) (k : Int), tl.length = fu1 ∧ Lst pairs k tl ∧ ∃ (out2 : List (Int × Int)) (a52 : Option Addr) (n56 : Nat) (c53 : Nat) (Lb54 : LH), round_Missed_l1 notices l tl out2 = some out ∧ F16 = F1 ∧ L1 = ((b1, .cells #[.slice walks_a walks.length walks_c, .slice hears_a hears.length hears_c, .int .i64 houses, .int .i64 start, .slice notices_a notices.length notices_c] 26 (0, 0)) :: (Lb54 ++ [])) ∧ e1.sub [(2, .pointer (some ⟨b1, 0, none⟩)), (6, .slice a8 l.length c9), (10, .slice a52 n56 c53), (30, .slice a47 pairs.length c48), (31, .int .i64 (pairs.length : Int)), (32, .int .i64 k)] ∧ SlR K.w0.heap.size 54 2 (prE (iE .i64) (iE .i64)) F1 a52 n56 c53 out2 Lb54) _ (m0 (kc (ke kr)) ⟨_, _, rfl, Lst.start _, [], none, 0, 0, [], r31, rfl, rfl, (sc rfl (sc rfl (sc rfl (sc rfl (sc rfl (sc rfl (sn _))))))), SlR.nil _ _ _ _ _⟩) ?_
   rintro fu1 e1 _ _ ⟨tl, k, hn59, hk58, out2, a52, n56, c53, Lb54, r60, rfl, rfl, he61, hz55⟩
   refine shW_env _ he61 ?_
   refine wsr ?_
   refine ov (v_lssK rfl rfl) rfl ?_
   refine shO_nil (shW_seq ?_)
   refine shW_condP rfl (fun c63 => ?_) (fun c63 => ?_)
   · obtain ⟨x, tl2, rfl, hx65, g66, hk64⟩ := Lst.succ hk58 c63
     rw [round_Missed_l1] at r60
     refine shW_skip (shW_seq ?_)
     refine shW_block ?_
     refine wsr ?_
     obtain ⟨b67, o68, c69, vs70, ha71, hs72, hle73, ⟨_, _, rfl, rfl, rfl⟩, hl74, hc75⟩ := RowR.at (prE_ok (iE_ok _) (iE_ok _)) h49 ((b1, .cells #[.slice walks_a walks.length walks_c, .slice hears_a hears.length hears_c, .int .i64 houses, .int .i64 start, .slice notices_a notices.length notices_c] 26 (0, 0)) :: (Lb54 ++ [])) g66.1 hx65
     refine ov (v_indexO Try.underlying44 Try.sizeOf54 rfl ha71 rfl g66) rfl ?_
     refine ov (v_loadA (cs := #[.int .i64 x.1, .int .i64 x.2]) Try.isAgg54 Try.sizeOf54 rfl hs72 hle73 (extract_cells hle73 hl74 hc75)) rfl ?_
     refine o_alloc rfl Try.zeroValue54 ?_; intro b76 hb76
     refine o_storeA (i := 0) Try.sizeOf54 rfl rfl rfl (by simp [Value.oneCell']) rfl (nbL rfl) ?_
     refine shO_L (L' := (b76, .cells #[.int .i64 x.1, .int .i64 x.2] 54 (0, 0)) :: ((b1, .cells #[.slice walks_a walks.length walks_c, .slice hears_a hears.length hears_c, .int .i64 houses, .int .i64 start, .slice notices_a notices.length notices_c] 26 (0, 0)) :: (Lb54 ++ []))) rfl ?_
     refine nsd (by kernel_rfl) (by kernel_rfl) (by kernel_rfl) ?_
     refine qm rfl rfl ?_
     refine qv (v_fieldAddr fa_54_0 rfl) rfl ?_
     refine qv (v_load Try.isAgg3 rfl (Has.own 0 rfl) rfl) rfl ?_
     obtain ⟨x2, g77, hx78, r79⟩ := ix_ok r60
     obtain ⟨b80, o81, c82, vs83, ha84, hs85, hle86, ⟨a89, c90, rfl, h91⟩, hl87, hc88⟩ := RowR.at (slE_ok (iE_ok _)) h10 ((b76, .cells #[.int .i64 x.1, .int .i64 x.2] 54 (0, 0)) :: ((b1, .cells #[.slice walks_a walks.length walks_c, .slice hears_a hears.length hears_c, .int .i64 houses, .int .i64 start, .slice notices_a notices.length notices_c] 26 (0, 0)) :: (Lb54 ++ []))) g77.1 hx78
     refine qv (v_indexO Try.underlying23 Try.sizeOf30 rfl ha84 rfl g77) rfl ?_
     refine qv (v_load Try.isAgg30 rfl hs85 (hc88 0 (by decide))) rfl ?_
     refine qv (v_fieldAddr fa_54_1 rfl) rfl ?_
     refine qv (v_load Try.isAgg3 rfl (Has.own 0 rfl) rfl) rfl ?_
     obtain ⟨x3, g92, hx93, r94⟩ := ix_ok r79
     obtain ⟨b95, o96, c97, vs98, ha99, hs100, hle101, rfl, hl102, hc103⟩ := RowR.at (iE_ok _) h91 ((b76, .cells #[.int .i64 x.1, .int .i64 x.2] 54 (0, 0)) :: ((b1, .cells #[.slice walks_a walks.length walks_c, .slice hears_a hears.length hears_c, .int .i64 houses, .int .i64 start, .slice notices_a notices.length notices_c] 26 (0, 0)) :: (Lb54 ++ []))) g92.1 hx93
     refine qv (v_indexO Try.underlying30 Try.sizeOf3 rfl ha99 rfl g92) rfl ?_
     refine qv (v_load Try.isAgg3 rfl hs100 (hc103 0 (by decide))) rfl ?_
     refine qv (v_fieldAddr fa_26_4 rfl) rfl ?_
     refine qv (v_load Try.isAgg24 rfl (Has.own 1 rfl) rfl) rfl ?_
     refine qv (v_fieldAddr fa_54_0 rfl) rfl ?_
     refine qv (v_load Try.isAgg3 rfl (Has.own 0 rfl) rfl) rfl ?_
     obtain ⟨x4, g104, hx105, r106⟩ := ix_ok r94
     obtain ⟨b107, o108, c109, vs110, ha111, hs112, hle113, ⟨_, _, rfl, ⟨a116, c117, rfl, h118⟩, ⟨_, _, rfl, rfl, rfl⟩⟩, hl114, hc115⟩ := RowR.at (prE_ok (slE_ok (iE_ok _)) (prE_ok (iE_ok _) (iE_ok _))) h_notices ((b76, .cells #[.int .i64 x.1, .int .i64 x.2] 54 (0, 0)) :: ((b1, .cells #[.slice walks_a walks.length walks_c, .slice hears_a hears.length hears_c, .int .i64 houses, .int .i64 start, .slice notices_a notices.length notices_c] 26 (0, 0)) :: (Lb54 ++ []))) g104.1 hx105
     refine qv (v_indexO Try.underlying24 Try.sizeOf39 rfl ha111 rfl g104) rfl ?_
     refine qv (v_fieldAddr fa_39_2 rfl) rfl ?_
     refine qv (v_load Try.isAgg3 rfl hs112 (hc115 2 (by decide))) rfl ?_
     obtain ⟨ok, h119, r120⟩ := b1_ok r106
     refine shQ_callV rfl Try.call60 rfl rfl rfl (round_in_w h119) ?_
     refine qv (v_notB rfl) rfl ?_
     refine shQ_nil ?_
     refine shW_cond rfl (fun c121 => ?_) (fun c121 => ?_)
     · have r122 := bt r120 c121
       refine shW_region (om rfl rfl ?_)
       refine ov (v_loadA (cs := #[.int .i64 x.1, .int .i64 x.2]) Try.isAgg54 Try.sizeOf54 rfl (Has.own 0 rfl) (nbL rfl) rfl) rfl ?_
       refine o_buildSlice (cs := #[.int .i64 x.1, .int .i64 x.2]) rfl rfl (buildSlice_all slt_44 [.agg #[.int .i64 x.1, .int .i64 x.2]] rfl (by decide) (by simp [Value.cells]) (by decide)) ?_; intro b123 hb123
       obtain ⟨out3, h124, g125, r126⟩ := ap_ok r122
       refine o_appZ (xs := out2) (ys := [(x.1, x.2)]) (zs := out3) rfl slt_44 rfl rfl (Nat.le_refl _) (fun _ => .c (.c (.c .h))) hz55 (SrcR.box (vss := [[.int .i64 x.1, .int .i64 x.2]]) (ys := [(x.1, x.2)]) 0 rfl (prE_ok (iE_ok _) (iE_ok _)) (.cons ⟨_, _, rfl, rfl, rfl⟩ .nil) rfl rfl) h124 g125 (by decide) ?_; intro a127 n131 c128 Lb129 hz130
       refine kO (kd kr) ?_
       refine oa rfl rfl (shO_nil (inBlock_n (id := 1) (shW_region ?_)))
       refine ov (v_add rfl rfl (Lst.r64 hk58 c63 (RowR.lt h49))) rfl ?_
       refine om rfl rfl (shO_nil ?_)
       subst hn59; exact le (kd kr) ⟨_, _, rfl, hk64, out3, a127, n131, c128, Lb129, r126, rfl, rfl, (sc rfl (sc rfl (sc rfl (sc rfl (sc rfl (sc rfl (sn _))))))), hz130⟩
     have r133 := bf r120 c121
     refine shW_skip (inBlock_n (id := 1) (shW_region ?_))
     refine ov (v_add rfl rfl (Lst.r64 hk58 c63 (RowR.lt h49))) rfl ?_
     refine om rfl rfl (shO_nil ?_)
     subst hn59; exact le (kd kr) ⟨_, _, rfl, hk64, out2, a52, n56, c53, Lb54, r133, rfl, rfl, (sc rfl (sc rfl (sc rfl (sc rfl (sc rfl (sc rfl (sn _))))))), hz55⟩
   obtain rfl := Lst.zero hk58 c63
   rw [round_Missed_l1] at r60
   refine shW_exit (andThen_exit (andThen_exit ?_))
   refine inBlock_exit ?_
   obtain rfl := inj1 r60
   exact mi (kd kr) ⟨a52, n56, c53, Lb54, rfl, rfl, (sc rfl (sn _)), hz55⟩
 rintro e1 _ _ ⟨a22, n26, c23, Lb24, rfl, rfl, he134, hz25⟩
 refine shW_env _ he134 ?_
 refine wsr (om rfl rfl (oa rfl rfl (oa rfl rfl (shO_nil (shW_ret ?_)))))
 refine q_res2 Try.results35 (res_tmp rfl) (res_tmp rfl) (sr) ?_
 obtain ⟨rfl, rfl⟩ := inj2 r29
 exact ⟨_, _, _, _, rfl, rfl, hz25.any⟩
end Go.Proofs.Ytfmapnhfamoecaa
