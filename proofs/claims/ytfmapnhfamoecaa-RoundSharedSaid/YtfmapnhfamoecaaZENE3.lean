/- The walks that this claim needs, printed by a program of mine; part 3. -/
import Derived.Test.YtfmapnhfamoecaaZENE2
namespace Go.Proofs.Ytfmapnhfamoecaa
open Go.SH Go.PL
set_option maxHeartbeats 1000000 in
theorem round_Walk_w {walks_a : Option Addr} {walks_c : Nat} {walks : List (List Int)} {hears_a : Option Addr} {hears_c : Nat} {hears : List (List Int)} {houses : Int} {start : Int} {notices_a : Option Addr} {notices_c : Nat} {notices : List ((List Int) × Int × Int)} {from_ : Int} {to : Int} {F : FS} (h_walks : RowR 1 (slE 1 (iE .i64)) F walks_a walks_c walks) (h_hears : RowR 1 (slE 1 (iE .i64)) F hears_a hears_c hears) (h_notices : RowR 3 (prE (slE 1 (iE .i64)) (prE (iE .i64) (iE .i64))) F notices_a notices_c notices) {r : Int} {r2 : Int} (hr : round_Walk walks hears houses start notices from_ to = some (r, r2)) :
    SpecV Try.prog 36 #[.agg #[.slice walks_a walks.length walks_c, .slice hears_a hears.length hears_c, .int .i64 houses, .int .i64 start, .slice notices_a notices.length notices_c], .int .i64 from_, .int .i64 to] F (.tuple #[.int .i64 r, .int .i64 r2]) := by
 refine spec_of_shW (args := [.agg #[.slice walks_a walks.length walks_c, .slice hears_a hears.length hears_c, .int .i64 houses, .int .i64 start, .slice notices_a notices.length notices_c], .int .i64 from_, .int .i64 to]) Try.func36 rfl Try.ntmps36 (Nat.le_of_ble_eq_true rfl) ?_
 intro K _ _; rw [round_Walk] at hr
 refine wsr ?_
 refine o_box rfl rfl ?_; intro b1 hb1
 refine oa rfl rfl (oa rfl rfl (nsr ?_))
 refine ov (v_loadA (cs := #[.slice walks_a walks.length walks_c, .slice hears_a hears.length hears_c, .int .i64 houses, .int .i64 start, .slice notices_a notices.length notices_c]) Try.isAgg26 Try.sizeOf26 rfl (Has.own 0 rfl) (Nat.le_of_ble_eq_true rfl) rfl) rfl ?_
 obtain ⟨d, n, h2, r3⟩ := b2_ok hr; clear hr
 refine o_call0 rfl Try.call26 rfl rfl rfl (round_opened_w h_walks h_hears h_notices h2) ?_; rintro _ F4 _ hF5 hn6 ⟨v8, rfl, rfl, hp9⟩
 replace h_walks := h_walks.mono (slE_ok (iE_ok _)) hF5
 replace h_hears := h_hears.mono (slE_ok (iE_ok _)) hF5
 replace h_notices := h_notices.mono (prE_ok (slE_ok (iE_ok _)) (prE_ok (iE_ok _) (iE_ok _))) hF5
 refine shO_L (ln rfl) ?_
 refine om rfl rfl (ox rfl rfl rfl (ox rfl rfl rfl (oa rfl rfl (oa rfl rfl (shO_nil (shW_seq ?_))))))
 refine shW_block ?_
 refine wsr (om rfl rfl ?_)
 refine ov (v_neq rfl rfl) rfl ?_
 refine oa rfl rfl (shO_nil ?_)
 refine shW_condP rfl (fun c10 => ?_) (fun c10 => ?_)
 · have r11 := ite_t r3 c10; clear r3
   refine wsr (om rfl rfl (oa rfl rfl (oa rfl rfl (shO_nil ?_))))
   refine kW kn ?_
   refine shW_ret (inBlock_ret (andThen_ret ?_))
   refine q_res2 Try.results36 (res_tmp rfl) (res_tmp rfl) (sr) ?_
   obtain ⟨rfl, rfl⟩ := inj2 r11
   exact rfl
 have r12 := ite_f r3 c10; clear r3
 obtain ⟨k, h13, r14⟩ := b1_ok r12; clear r12
 refine shW_join (fun e1 F1 L1 => F4 = F1 ∧ L1 = [] ∧ e1.sub [(1, .int .i64 from_), (2, .int .i64 to), (8, v8), (19, .bool k)]) ?_ ?_
 · clear r14
   refine shW_region ?_
   refine ov (v_loadA (cs := #[.slice walks_a walks.length walks_c, .slice hears_a hears.length hears_c, .int .i64 houses, .int .i64 start, .slice notices_a notices.length notices_c]) Try.isAgg26 Try.sizeOf26 rfl (Has.own 0 rfl) (Nat.le_of_ble_eq_true rfl) rfl) rfl ?_
   refine om rfl rfl ?_
   obtain ⟨ok, h15, r16⟩ := b1_ok h13; clear h13
   refine o_callV rfl Try.call42 rfl rfl rfl (round_Beat_stand_w h_walks h_hears h_notices h15) ?_
   refine ov (v_notB rfl) rfl ?_
   refine om rfl rfl ?_
   rcases bool_two (!ok) with c17 | c17
   · have r18 := bt r16 c17; clear r16
     refine shO_off (b' := true) 24 rfl (EnvB rfl c17) rfl rfl (shO_off (b' := true) 24 rfl (EnvB rfl c17) rfl rfl (shO_off (b' := true) 24 rfl (EnvB rfl c17) rfl rfl (shO_off (b' := true) 24 rfl (EnvB rfl c17) rfl rfl ?_)))
     refine ov (v_pick_t (evB rfl c17) rfl) rfl ?_
     refine oa rfl rfl (shO_nil ?_)
     obtain rfl := inj1 r18
     exact mi kn ⟨rfl, rfl, (sc rfl (sc rfl (sc rfl (sc rfl (sn _)))))⟩
   have r19 := bf r16 c17; clear r16
   refine shO_on (b := false) 24 rfl (EnvB rfl c17) ?_
   refine ov (v_loadA (cs := #[.slice walks_a walks.length walks_c, .slice hears_a hears.length hears_c, .int .i64 houses, .int .i64 start, .slice notices_a notices.length notices_c]) Try.isAgg26 Try.sizeOf26 rfl (Has.own 0 rfl) (Nat.le_of_ble_eq_true rfl) rfl) rfl ?_
   refine shO_on (b := false) 24 rfl (EnvB rfl c17) (om rfl rfl (shO_on (b := false) 24 rfl (EnvB rfl c17) ?_))
   obtain ⟨ok2, h20, r21⟩ := b1_ok r19; clear r19
   refine o_callV rfl Try.call42 rfl rfl rfl (round_Beat_stand_w h_walks h_hears h_notices h20) ?_
   refine shO_on (b := false) 24 rfl (EnvB rfl c17) ?_
   refine ov (v_notB rfl) rfl ?_
   refine ov (v_pick_f (evB rfl c17) rfl) rfl ?_
   refine oa rfl rfl (shO_nil ?_)
   obtain rfl := inj1 r21
   exact mi kn ⟨rfl, rfl, (sc rfl (sc rfl (sc rfl (sc rfl (sn _)))))⟩
 rintro e1 _ _ ⟨rfl, rfl, he22⟩
 refine shW_env _ he22 ?_; clear he22
 refine shW_cond rfl (fun c23 => ?_) (fun c23 => ?_)
 · have r24 := bt r14 c23; clear r14
   refine wsr (oa rfl rfl (oa rfl rfl (shO_nil (shW_ret (inBlock_ret (andThen_ret ?_))))))
   refine q_res2 Try.results36 (res_tmp rfl) (res_tmp rfl) (sr) ?_
   obtain ⟨rfl, rfl⟩ := inj2 r24
   exact rfl
 have r25 := bf r14 c23; clear r14
 refine wsr (om rfl rfl (om rfl rfl (om rfl rfl ?_)))
 obtain ⟨walks2, hears2, houses2, start2, notices2, walks3, pairs, hit, h26, r27⟩ := b8_ok r25; clear r25
 have h47 := hp9; rw [h26] at h47; obtain ⟨b28, c29, m30, hv31, hz32, ⟨_, _, rfl, ⟨a33, c34, rfl, h35⟩, ⟨_, _, rfl, ⟨a36, c37, rfl, h38⟩, ⟨_, _, rfl, rfl, ⟨_, _, rfl, rfl, ⟨_, _, rfl, ⟨a39, c40, rfl, h41⟩, ⟨_, _, rfl, ⟨rfl, h42⟩, ⟨_, _, rfl, ⟨a43, c44, rfl, h45⟩, ⟨rfl, h46⟩⟩⟩⟩⟩⟩⟩⟩⟩ := h47; subst hv31
 have hz32 : F4 b28 = some (.cells ((([.slice a33 walks2.length c34] : List Value) ++ (([.slice a36 hears2.length c37] : List Value) ++ (([.int .i64 houses2] : List Value) ++ (([.int .i64 start2] : List Value) ++ (([.slice a39 notices2.length c40] : List Value) ++ (walks3.flatMap (cI .i64) ++ (([.slice a43 pairs.length c44] : List Value) ++ (hit.flatMap (cI .i64))))))))).toArray) 102 m30) := hz32
 refine ov (v_nilCheck rfl) rfl ?_
 refine ov (v_fieldAddr fa_102_1 rfl) rfl ?_
 obtain ⟨g48, r49⟩ := gd_ok r27; clear r27
 refine ov (v_indexA Try.underlying98 Try.sizeOf96 rfl rfl g48) rfl ?_
 obtain ⟨g50, r51⟩ := gd_ok r49; clear r49
 obtain ⟨x, g52, hx53, r54⟩ := ix_ok r51; clear r51
 have hq56 : (from_ * 5 + to : Int).toNat = (from_ : Int).toNat * 5 + (to : Int).toNat := by have := g48; have := g50; omega
 have hc55 := el_at2 (cI_ok .i64) h42 hq56 hx53 (li_arr (li_skip (A := ([.slice a33 walks2.length c34] : List Value)) (k := 1) (o := 4) rfl (li_skip (A := ([.slice a36 hears2.length c37] : List Value)) (k := 1) (o := 3) rfl (li_skip (A := ([.int .i64 houses2] : List Value)) (k := 1) (o := 2) rfl (li_skip (A := ([.int .i64 start2] : List Value)) (k := 1) (o := 1) rfl (li_skip (A := ([.slice a39 notices2.length c40] : List Value)) (k := 1) (o := 0) rfl (li_here (B := ([.slice a43 pairs.length c44] : List Value) ++ (hit.flatMap (cI .i64))) (lfl (cI_ok .i64) h42)))))))) (li_le (li_skip (A := ([.slice a33 walks2.length c34] : List Value)) (k := 1) (o := 4) rfl (li_skip (A := ([.slice a36 hears2.length c37] : List Value)) (k := 1) (o := 3) rfl (li_skip (A := ([.int .i64 houses2] : List Value)) (k := 1) (o := 2) rfl (li_skip (A := ([.int .i64 start2] : List Value)) (k := 1) (o := 1) rfl (li_skip (A := ([.slice a39 notices2.length c40] : List Value)) (k := 1) (o := 0) rfl (li_here (B := ([.slice a43 pairs.length c44] : List Value) ++ (hit.flatMap (cI .i64))) (lfl (cI_ok .i64) h42))))))))
 refine ov (v_indexA Try.underlying96 Try.sizeOf3 rfl rfl g50) rfl ?_
 refine ov (v_load Try.isAgg3 rfl (Has.frozen hz32) ((hc55).2.2 0 (by decide))) rfl ?_
 refine ov (v_eql rfl rfl) rfl ?_
 refine oa rfl rfl (shO_nil ?_)
 refine shW_condP rfl (fun c57 => ?_) (fun c57 => ?_)
 · have r58 := ite_t r54 c57; clear r54
   refine wsr (oa rfl rfl (oa rfl rfl (shO_nil (shW_ret (inBlock_ret (andThen_ret ?_))))))
   refine q_res2 Try.results36 (res_tmp rfl) (res_tmp rfl) (sr) ?_
   obtain ⟨rfl, rfl⟩ := inj2 r58
   exact rfl
 have r59 := ite_f r54 c57; clear r54
 refine shW_skip (inBlock_n (id := 0) (wsr (om rfl rfl (om rfl rfl (om rfl rfl ?_)))))
 refine ov (v_nilCheck rfl) rfl ?_
 refine ov (v_fieldAddr fa_102_1 rfl) rfl ?_
 obtain ⟨g60, r61⟩ := gd_ok r59; clear r59
 refine ov (v_indexA Try.underlying98 Try.sizeOf96 rfl rfl g60) rfl ?_
 obtain ⟨g62, r63⟩ := gd_ok r61; clear r61
 have hq65 : (from_ * 5 + to : Int).toNat = (from_ : Int).toNat * 5 + (to : Int).toNat := by have := g60; have := g62; omega
 have hc64 := el_at2 (cI_ok .i64) h42 hq65 hx53 (li_arr (li_skip (A := ([.slice a33 walks2.length c34] : List Value)) (k := 1) (o := 4) rfl (li_skip (A := ([.slice a36 hears2.length c37] : List Value)) (k := 1) (o := 3) rfl (li_skip (A := ([.int .i64 houses2] : List Value)) (k := 1) (o := 2) rfl (li_skip (A := ([.int .i64 start2] : List Value)) (k := 1) (o := 1) rfl (li_skip (A := ([.slice a39 notices2.length c40] : List Value)) (k := 1) (o := 0) rfl (li_here (B := ([.slice a43 pairs.length c44] : List Value) ++ (hit.flatMap (cI .i64))) (lfl (cI_ok .i64) h42)))))))) (li_le (li_skip (A := ([.slice a33 walks2.length c34] : List Value)) (k := 1) (o := 4) rfl (li_skip (A := ([.slice a36 hears2.length c37] : List Value)) (k := 1) (o := 3) rfl (li_skip (A := ([.int .i64 houses2] : List Value)) (k := 1) (o := 2) rfl (li_skip (A := ([.int .i64 start2] : List Value)) (k := 1) (o := 1) rfl (li_skip (A := ([.slice a39 notices2.length c40] : List Value)) (k := 1) (o := 0) rfl (li_here (B := ([.slice a43 pairs.length c44] : List Value) ++ (hit.flatMap (cI .i64))) (lfl (cI_ok .i64) h42))))))))
 refine ov (v_indexA Try.underlying96 Try.sizeOf3 rfl rfl g62) rfl ?_
 refine ov (v_load Try.isAgg3 rfl (Has.frozen hz32) ((hc64).2.2 0 (by decide))) rfl ?_
 refine oa rfl rfl (oa rfl rfl (shO_nil (shW_ret ?_)))
 refine q_res2 Try.results36 (res_tmp rfl) (res_tmp rfl) (sr) ?_
 obtain ⟨rfl, rfl⟩ := inj2 r63
 exact rfl
set_option maxHeartbeats 1000000 in
theorem round_crier_chosen_w {b_c : Nat} {walks_a : Option Addr} {walks_c : Nat} {walks : List (List Int)} {hears_a : Option Addr} {hears_c : Nat} {hears : List (List Int)} {houses : Int} {start : Int} {notices_a : Option Addr} {notices_c : Nat} {notices : List ((List Int) × Int × Int)} {walks2 : List Int} {pairs_a : Option Addr} {pairs_c : Nat} {pairs : List (Int × Int)} {hit : List Int} {mb_c : Nat × Nat} {set_ : Int} {F : FS} (hb_c : F b_c = some (.cells ((([.slice walks_a walks.length walks_c] : List Value) ++ (([.slice hears_a hears.length hears_c] : List Value) ++ (([.int .i64 houses] : List Value) ++ (([.int .i64 start] : List Value) ++ (([.slice notices_a notices.length notices_c] : List Value) ++ (walks2.flatMap (cI .i64) ++ (([.slice pairs_a pairs.length pairs_c] : List Value) ++ (hit.flatMap (cI .i64))))))))).toArray) 102 mb_c)) (_h_walks : RowR 1 (slE 1 (iE .i64)) F walks_a walks_c walks) (_h_hears : RowR 1 (slE 1 (iE .i64)) F hears_a hears_c hears) (_h_notices : RowR 3 (prE (slE 1 (iE .i64)) (prE (iE .i64) (iE .i64))) F notices_a notices_c notices) (h_walks2 : walks2.length = 25) (h_pairs : RowR 2 (prE (iE .i64) (iE .i64)) F pairs_a pairs_c pairs) (_h_hit : hit.length = 15) {r : List (Int × Int)} (hr : round_crier_chosen walks hears houses start notices walks2 pairs hit set_ = some r) :
    SH.Spec Try.prog 61 #[.pointer (some ⟨b_c, 0, none⟩), .int .i64 set_] F [] fun F' L' v => ∃ (ra : Option Addr) (rn : Nat) (rc : Nat) (rL : LH), v = .slice ra rn rc ∧ L' = rL ++ [] ∧ SlR 0 54 2 (prE (iE .i64) (iE .i64)) F' ra rn rc r rL := by
 refine spec_of_shW (args := [.pointer (some ⟨b_c, 0, none⟩), .int .i64 set_]) Try.func61 rfl Try.ntmps61 (Nat.le_of_ble_eq_true rfl) ?_
 intro K _ _; rw [round_crier_chosen] at hr
 refine wsr (oa rfl rfl (nsr (oa rfl rfl (shO_nil ?_))))
 obtain ⟨out, h7, r8⟩ := b1_ok hr; clear hr
 refine shW_join (fun e1 F1 L1 => ∃ (a1 : Option Addr) (n5 : Nat) (c2 : Nat) (Lb3 : LH), F = F1 ∧ L1 = (Lb3 ++ []) ∧ e1.sub [(5, .slice a1 n5 c2)] ∧ SlR K.w0.heap.size 54 2 (prE (iE .i64) (iE .i64)) F1 a1 n5 c2 out Lb3) ?_ ?_
 · clear r8
   refine wsr (om rfl rfl ?_)
   refine ov (v_nilCheck rfl) rfl ?_
   refine ov (v_fieldAddr fa_102_2 rfl) rfl ?_
   refine ov (v_load Try.isAgg44 rfl (Has.frozen hb_c) (li_cell (li_skip (A := ([.slice walks_a walks.length walks_c] : List Value)) (k := 1) (o := 29) rfl (li_skip (A := ([.slice hears_a hears.length hears_c] : List Value)) (k := 1) (o := 28) rfl (li_skip (A := ([.int .i64 houses] : List Value)) (k := 1) (o := 27) rfl (li_skip (A := ([.int .i64 start] : List Value)) (k := 1) (o := 26) rfl (li_skip (A := ([.slice notices_a notices.length notices_c] : List Value)) (k := 1) (o := 25) rfl (li_skip (A := walks2.flatMap (cI .i64)) (k := 25) (o := 0) (lfl (cI_ok .i64) h_walks2) (li_here (B := hit.flatMap (cI .i64)) rfl))))))))) rfl ?_
   refine ov (v_lenS Try.underlying44 rfl) rfl ?_
   refine om rfl rfl (shO_nil ?_)
   refine shW_block ?_
   refine shW_lp (fun fu1 e1 F1 L1 => ∃ (tl : List (Int × Int)) (k : Int), tl.length = fu1 ∧ Lst pairs k tl ∧ ∃ (out2 : List (Int × Int)) (a9 : Option Addr) (n13 : Nat) (c10 : Nat) (Lb11 : LH), round_crier_chosen_l1 set_ tl k out2 = some out ∧ F = F1 ∧ L1 = (Lb11 ++ []) ∧ e1.sub [(1, .int .i64 set_), (5, .slice a9 n13 c10), (11, .slice pairs_a pairs.length pairs_c), (12, .int .i64 (pairs.length : Int)), (13, .int .i64 k)] ∧ SlR K.w0.heap.size 54 2 (prE (iE .i64) (iE .i64)) F1 a9 n13 c10 out2 Lb11) _ (m0 (ke kr) ⟨_, _, rfl, Lst.start _, [], none, 0, 0, [], h7, rfl, rfl, (sc rfl (sc rfl (sc rfl (sc rfl (sc rfl (sn _)))))), SlR.nil _ _ _ _ _⟩) ?_
   rintro fu1 e1 _ _ ⟨tl, k, hn16, hk15, out2, a9, n13, c10, Lb11, r17, rfl, rfl, he18, hz12⟩
   refine shW_env _ he18 ?_; clear he18
   refine wsr ?_
   refine ov (v_lssK rfl rfl) rfl ?_
   refine shO_nil (shW_seq ?_)
   refine shW_condP rfl (fun c20 => ?_) (fun c20 => ?_)
   · obtain ⟨x, tl2, rfl, hx22, g23, hk21⟩ := Lst.succ hk15 c20
     rw [round_crier_chosen_l1] at r17
     refine shW_skip (shW_seq ?_)
     refine shW_block ?_
     refine wsr (om rfl rfl ?_)
     obtain ⟨b24, o25, c26, vs27, ha28, hs29, hle30, ⟨_, _, rfl, rfl, rfl⟩, hl31, hc32⟩ := RowR.at (prE_ok (iE_ok _) (iE_ok _)) h_pairs (Lb11 ++ []) g23.1 hx22
     refine ov (v_indexO Try.underlying44 Try.sizeOf54 rfl ha28 rfl g23) rfl ?_
     refine ov (v_loadA (cs := #[.int .i64 x.1, .int .i64 x.2]) Try.isAgg54 Try.sizeOf54 rfl hs29 hle30 (extract_cells hle30 hl31 hc32)) rfl ?_
     refine o_alloc rfl Try.zeroValue54 ?_; intro b33 hb33
     refine oa rfl rfl ?_
     refine o_storeA (i := 0) Try.sizeOf54 rfl rfl rfl (by simp [Value.oneCell']) rfl (Nat.le_of_ble_eq_true rfl) ?_
     refine shO_L (L' := (b33, .cells #[.int .i64 x.1, .int .i64 x.2] 54 (0, 0)) :: (Lb11 ++ [])) rfl ?_
     refine nsr (om rfl rfl (om rfl rfl ?_))
     obtain ⟨g34, r35⟩ := gd_ok r17; clear r17
     refine ov (v_shr rfl rfl g34) rfl ?_
     refine ov (v_and rfl rfl) rfl ?_
     refine ov (v_eql rfl rfl) rfl ?_
     refine shO_nil ?_
     refine shW_condP rfl (fun c36 => ?_) (fun c36 => ?_)
     · have r37 := ite_t r35 c36; clear r35
       refine shW_region (om rfl rfl ?_)
       refine ov (v_loadA (cs := #[.int .i64 x.1, .int .i64 x.2]) Try.isAgg54 Try.sizeOf54 rfl (Has.own 0 rfl) (Nat.le_of_ble_eq_true rfl) rfl) rfl ?_
       refine o_buildSlice (cs := #[.int .i64 x.1, .int .i64 x.2]) rfl rfl (buildSlice_all slt_44 [.agg #[.int .i64 x.1, .int .i64 x.2]] rfl (by decide) (by simp [Value.cells]) (by decide)) ?_; intro b38 hb38
       obtain ⟨out3, h39, g40, r41⟩ := ap_ok r37; clear r37
       refine o_appZ (xs := out2) (ys := [(x.1, x.2)]) (zs := out3) rfl slt_44 rfl rfl (Nat.le_refl _) (fun _ => .c (.c .h)) hz12 (SrcR.box (vss := [[.int .i64 x.1, .int .i64 x.2]]) (ys := [(x.1, x.2)]) 0 rfl (prE_ok (iE_ok _) (iE_ok _)) (.cons ⟨_, _, rfl, rfl, rfl⟩ .nil) rfl rfl) h39 g40 (by decide) ?_; intro a42 n46 c43 Lb44 hz45
       refine kO (kd kr) ?_
       refine oa rfl rfl (shO_nil (inBlock_n (id := 1) (shW_region ?_)))
       refine ov (v_add rfl rfl (Lst.r64 hk15 c20 (RowR.lt h_pairs))) rfl ?_
       refine om rfl rfl (shO_nil ?_)
       subst hn16; exact le (kd kr) ⟨_, _, rfl, hk21, out3, a42, n46, c43, Lb44, r41, rfl, rfl, (sc rfl (sc rfl (sc rfl (sc rfl (sc rfl (sn _)))))), hz45⟩
     have r48 := ite_f r35 c36; clear r35
     refine shW_skip (inBlock_n (id := 1) (shW_region ?_))
     refine ov (v_add rfl rfl (Lst.r64 hk15 c20 (RowR.lt h_pairs))) rfl ?_
     refine om rfl rfl (shO_nil ?_)
     subst hn16; exact le (kd kr) ⟨_, _, rfl, hk21, out2, a9, n13, c10, Lb11, r48, rfl, rfl, (sc rfl (sc rfl (sc rfl (sc rfl (sc rfl (sn _)))))), hz12⟩
   obtain rfl := Lst.zero hk15 c20
   rw [round_crier_chosen_l1] at r17
   refine shW_exit (andThen_exit (andThen_exit ?_))
   refine inBlock_exit ?_
   obtain rfl := inj1 r17
   exact mi kr ⟨a9, n13, c10, Lb11, rfl, rfl, (sc rfl (sn _)), hz12⟩
 rintro e1 _ _ ⟨a1, n5, c2, Lb3, rfl, rfl, he49, hz4⟩
 refine shW_env _ he49 ?_; clear he49
 refine wsr (om rfl rfl (oa rfl rfl (shO_nil (shW_ret ?_))))
 refine q_res1 Try.results61 (res_tmp rfl) (sr) ?_
 obtain rfl := inj1 r8
 exact ⟨_, _, _, _, rfl, rfl, hz4.any⟩
set_option maxHeartbeats 1000000 in
theorem round_crier_excludes_1B_w {rec_ : Int → Int → Int → (List (List Int)) → (List (List Int)) → Int → Int → (List ((List Int) × Int × Int)) → (List Int) → (List (Int × Int)) → (List Int) → ((Int × Int) → Option Bool) → Int → Option (Bool × Int)} (hrec : ∀ {set_ : Int} {from_ : Int} {many : Int} {b_c : Nat} {b_c_ : Nat} {walks_a : Option Addr} {walks_c : Nat} {walks : List (List Int)} {hears_a : Option Addr} {hears_c : Nat} {hears : List (List Int)} {houses : Int} {start : Int} {notices_a : Option Addr} {notices_c : Nat} {notices : List ((List Int) × Int × Int)} {walks2 : List Int} {pairs_a : Option Addr} {pairs_c : Nat} {pairs : List (Int × Int)} {hit : List Int} {mb_c_ : Nat × Nat} {mb_c : Nat × Nat} {b_w : Nat} {ok_f : FuncId} {ok_1 : Array Value} {ok_2 : Array Value} {ok : (Int × Int) → Option Bool} {mb_w : Nat × Nat} {b_found : Nat} {found : Int} {b_more : Nat} {mb_more : Nat × Nat} {F : FS} (_ : F b_c = some (.cells #[.pointer (some ⟨b_c_, 0, none⟩)] 67 mb_c)) (_ : F b_c_ = some (.cells ((([.slice walks_a walks.length walks_c] : List Value) ++ (([.slice hears_a hears.length hears_c] : List Value) ++ (([.int .i64 houses] : List Value) ++ (([.int .i64 start] : List Value) ++ (([.slice notices_a notices.length notices_c] : List Value) ++ (walks2.flatMap (cI .i64) ++ (([.slice pairs_a pairs.length pairs_c] : List Value) ++ (hit.flatMap (cI .i64))))))))).toArray) 102 mb_c_)) (_ : RowR 1 (slE 1 (iE .i64)) F walks_a walks_c walks) (_ : RowR 1 (slE 1 (iE .i64)) F hears_a hears_c hears) (_ : RowR 3 (prE (slE 1 (iE .i64)) (prE (iE .i64) (iE .i64))) F notices_a notices_c notices) (_ : walks2.length = 25) (_ : RowR 2 (prE (iE .i64) (iE .i64)) F pairs_a pairs_c pairs) (_ : hit.length = 15) (_ : F b_w = some (.cells #[.func (.func ok_f) ok_1 ok_2] 76 mb_w)) (_ : FnR Try.prog F ok_f ok_1 ok_2 (prE (iE .i64) (iE .i64)) Value.bool ok) (_ : F b_more = some (.cells (#[.func (.func 81) #[] #[.pointer (some ⟨b_c, 0, none⟩), .pointer (some ⟨b_w, 0, none⟩), .pointer (some ⟨b_found, 0, none⟩), .pointer (some ⟨b_more, 0, none⟩)]]) 122 mb_more)) {r : Bool} {r2 : Int} , rec_ set_ from_ many walks hears houses start notices walks2 pairs hit ok found = some (r, r2) → SH.Spec Try.prog 81 #[.int .i64 set_, .int .i64 from_, .int .i64 many, .pointer (some ⟨b_c, 0, none⟩), .pointer (some ⟨b_w, 0, none⟩), .pointer (some ⟨b_found, 0, none⟩), .pointer (some ⟨b_more, 0, none⟩)] F [(b_found, .cells #[.int .i64 found] 3 (0, 0))] fun _ L' v => v = .bool r ∧ L' = [(b_found, .cells #[.int .i64 r2] 3 (0, 0))]) {set_ : Int} {from_ : Int} {many : Int} {b_c : Nat} {b_c_ : Nat} {walks_a : Option Addr} {walks_c : Nat} {walks : List (List Int)} {hears_a : Option Addr} {hears_c : Nat} {hears : List (List Int)} {houses : Int} {start : Int} {notices_a : Option Addr} {notices_c : Nat} {notices : List ((List Int) × Int × Int)} {walks2 : List Int} {pairs_a : Option Addr} {pairs_c : Nat} {pairs : List (Int × Int)} {hit : List Int} {mb_c_ : Nat × Nat} {mb_c : Nat × Nat} {b_w : Nat} {ok_f : FuncId} {ok_1 : Array Value} {ok_2 : Array Value} {ok : (Int × Int) → Option Bool} {mb_w : Nat × Nat} {b_found : Nat} {found : Int} {b_more : Nat} {mb_more : Nat × Nat} {F : FS} (hb_c : F b_c = some (.cells #[.pointer (some ⟨b_c_, 0, none⟩)] 67 mb_c)) (hb_c_ : F b_c_ = some (.cells ((([.slice walks_a walks.length walks_c] : List Value) ++ (([.slice hears_a hears.length hears_c] : List Value) ++ (([.int .i64 houses] : List Value) ++ (([.int .i64 start] : List Value) ++ (([.slice notices_a notices.length notices_c] : List Value) ++ (walks2.flatMap (cI .i64) ++ (([.slice pairs_a pairs.length pairs_c] : List Value) ++ (hit.flatMap (cI .i64))))))))).toArray) 102 mb_c_)) (h_walks : RowR 1 (slE 1 (iE .i64)) F walks_a walks_c walks) (h_hears : RowR 1 (slE 1 (iE .i64)) F hears_a hears_c hears) (h_notices : RowR 3 (prE (slE 1 (iE .i64)) (prE (iE .i64) (iE .i64))) F notices_a notices_c notices) (h_walks2 : walks2.length = 25) (h_pairs : RowR 2 (prE (iE .i64) (iE .i64)) F pairs_a pairs_c pairs) (h_hit : hit.length = 15) (hb_w : F b_w = some (.cells #[.func (.func ok_f) ok_1 ok_2] 76 mb_w)) (h_ok : FnR Try.prog F ok_f ok_1 ok_2 (prE (iE .i64) (iE .i64)) Value.bool ok) (hb_more : F b_more = some (.cells (#[.func (.func 81) #[] #[.pointer (some ⟨b_c, 0, none⟩), .pointer (some ⟨b_w, 0, none⟩), .pointer (some ⟨b_found, 0, none⟩), .pointer (some ⟨b_more, 0, none⟩)]]) 122 mb_more)) {r : Bool} {r2 : Int} (hr : round_crier_excludes_1B rec_ set_ from_ many walks hears houses start notices walks2 pairs hit ok found = some (r, r2)) :
    SH.Spec Try.prog 81 #[.int .i64 set_, .int .i64 from_, .int .i64 many, .pointer (some ⟨b_c, 0, none⟩), .pointer (some ⟨b_w, 0, none⟩), .pointer (some ⟨b_found, 0, none⟩), .pointer (some ⟨b_more, 0, none⟩)] F [(b_found, .cells #[.int .i64 found] 3 (0, 0))] fun _ L' v => v = .bool r ∧ L' = [(b_found, .cells #[.int .i64 r2] 3 (0, 0))] := by
 refine spec_of_shW (args := [.int .i64 set_, .int .i64 from_, .int .i64 many, .pointer (some ⟨b_c, 0, none⟩), .pointer (some ⟨b_w, 0, none⟩), .pointer (some ⟨b_found, 0, none⟩), .pointer (some ⟨b_more, 0, none⟩)]) Try.func81 rfl Try.ntmps81 (Nat.le_of_ble_eq_true rfl) ?_
 intro K _ _; rw [round_crier_excludes_1B] at hr
 refine wsr (oa rfl rfl (shO_nil (shW_seq (wsr (om rfl rfl ?_)))))
 refine ov (v_eql rfl rfl) rfl ?_
 refine shO_nil ?_
 refine shW_condP rfl (fun c1 => ?_) (fun c1 => ?_)
 · have r3 := ite_t hr c1; clear hr
   refine wsr ?_
   refine ov (v_load Try.isAgg67 rfl (Has.frozen hb_c) rfl) rfl ?_
   refine om rfl rfl ?_
   refine ov (v_loadA (cs := #[.func (.func ok_f) ok_1 ok_2]) Try.isAgg76 Try.sizeOf76 rfl (Has.frozen hb_w) (Nat.le_of_ble_eq_true rfl) rfl) rfl ?_
   obtain ⟨l, n, ok2, h4, r5⟩ := b3_ok r3; clear r3
   refine o_call0 rfl Try.call27 rfl rfl rfl (round_crier_serve_w hb_c_ h_walks h_hears h_notices h_walks2 h_pairs h_hit h_ok h4) ?_; rintro _ F6 _ hF7 hn8 ⟨a10, n14, c11, Lb12, rfl, rfl, hz13⟩
   refine shO_L (lp (ln rfl)) ?_
   refine kO (kf (fS fO) kr) ?_
   refine om rfl rfl (ox rfl rfl rfl (ox rfl rfl rfl (ox rfl rfl rfl (oa rfl rfl (oa rfl rfl (oa rfl rfl (shO_nil (shW_seq (wsr ?_)))))))))
   refine om rfl rfl ?_
   refine ov (v_notB rfl) rfl ?_
   refine shO_nil ?_
   refine shW_cond rfl (fun c16 => ?_) (fun c16 => ?_)
   · have r17 := bt r5 c16; clear r5
     refine shW_region (om rfl rfl ?_)
     refine o_store (i := 0) Try.sizeOf3 rfl rfl rfl rfl (Nat.le_of_ble_eq_true rfl) ?_
     refine shO_L (L' := (b_found, .cells #[.int .i64 set_] 3 (0, 0)) :: (Lb12 ++ [])) rfl ?_
     refine nsr (om rfl rfl ?_)
     refine ov (v_notB rfl) rfl ?_
     refine oa rfl rfl (shO_nil ?_)
     refine kW (kc kn) ?_
     refine shW_ret (andThen_ret ?_)
     refine q_res1 Try.results81 (res_tmp rfl) (sr) ?_
     obtain ⟨rfl, rfl⟩ := inj2 r17
     exact ⟨rfl, rfl⟩
   have r18 := bf r5 c16; clear r5
   refine shW_skip (wsr (om rfl rfl ?_))
   refine ov (v_notB rfl) rfl ?_
   refine oa rfl rfl (shO_nil ?_)
   refine kW (kc kn) ?_
   refine shW_ret (andThen_ret ?_)
   refine q_res1 Try.results81 (res_tmp rfl) (sr) ?_
   obtain ⟨rfl, rfl⟩ := inj2 r18
   exact ⟨rfl, rfl⟩
 have r19 := ite_f hr c1; clear hr
 refine shW_skip ?_
 refine shW_join (fun e1 F1 L1 => ∃ (found2 : Int), round_crier_excludes_1B_j1 found2 = some (r, r2) ∧ FExt F F1 ∧ L1 = [(b_found, .cells #[.int .i64 found2] 3 (0, 0))] ∧ e1.sub []) ?_ ?_
 · refine wsr (om rfl rfl (oa rfl rfl (shO_nil ?_)))
   refine shW_block ?_
   obtain ⟨g20, r21⟩ := gd_ok r19; clear r19
   refine shW_lp (fun fu2 e1 F1 L1 => ∃ (i : Int), Ctr from_ (pairs.length : Int) i fu2 ∧ ∃ (found3 : Int), round_crier_excludes_1B_l2 set_ many walks hears houses start notices walks2 pairs hit ok rec_ fu2 i found3 = some (r, r2) ∧ FExt F F1 ∧ L1 = [(b_found, .cells #[.int .i64 found3] 3 (0, 0))] ∧ e1.sub [(0, .int .i64 set_), (2, .int .i64 many), (3, .pointer (some ⟨b_c, 0, none⟩)), (6, .pointer (some ⟨b_more, 0, none⟩)), (14, .int .i64 i)]) _ (m0 kr ⟨_, Ctr.start _ _, found, r21, FExt.refl _, rfl, (sc rfl (sc rfl (sc rfl (sc rfl (sc rfl (sn _))))))⟩) ?_
   rintro fu2 e1 F26 _ ⟨i, hk22, found3, r24, hF27, rfl, he25⟩
   refine shW_env _ he25 ?_; clear he25
   replace h_walks := h_walks.mono (slE_ok (iE_ok _)) hF27
   replace h_hears := h_hears.mono (slE_ok (iE_ok _)) hF27
   replace h_notices := h_notices.mono (prE_ok (slE_ok (iE_ok _)) (prE_ok (iE_ok _) (iE_ok _))) hF27
   replace h_pairs := h_pairs.mono (prE_ok (iE_ok _) (iE_ok _)) hF27
   replace h_ok := h_ok.mono hF27
   replace hb_c_ := hF27 _ _ hb_c_
   replace hb_c := hF27 _ _ hb_c
   replace hb_w := hF27 _ _ hb_w
   replace hb_more := hF27 _ _ hb_more
   refine shW_seq (wsr (om rfl rfl ?_))
   refine ov (v_load Try.isAgg67 rfl (Has.frozen hb_c) rfl) rfl ?_
   refine ov (v_nilCheck rfl) rfl ?_
   refine ov (v_fieldAddr fa_102_2 rfl) rfl ?_
   refine ov (v_load Try.isAgg44 rfl (Has.frozen hb_c_) (li_cell (li_skip (A := ([.slice walks_a walks.length walks_c] : List Value)) (k := 1) (o := 29) rfl (li_skip (A := ([.slice hears_a hears.length hears_c] : List Value)) (k := 1) (o := 28) rfl (li_skip (A := ([.int .i64 houses] : List Value)) (k := 1) (o := 27) rfl (li_skip (A := ([.int .i64 start] : List Value)) (k := 1) (o := 26) rfl (li_skip (A := ([.slice notices_a notices.length notices_c] : List Value)) (k := 1) (o := 25) rfl (li_skip (A := walks2.flatMap (cI .i64)) (k := 25) (o := 0) (lfl (cI_ok .i64) h_walks2) (li_here (B := hit.flatMap (cI .i64)) rfl))))))))) rfl ?_
   refine ov (v_lenS Try.underlying44 rfl) rfl ?_
   refine ov (v_lssK rfl rfl) rfl ?_
   refine shO_nil ?_
   refine shW_condP rfl (fun c29 => ?_) (fun c29 => ?_)
   · obtain ⟨fu2, rfl, hk30⟩ := Ctr.succ hk22 c29
     rw [round_crier_excludes_1B_l2] at r24
     refine shW_skip (shW_seq ?_)
     refine shW_block ?_
     refine shW_seq ?_
     refine shW_drawM [(.still, 0), (.still, 1), (.still, 2), (.still, 3), (.still, 4), (.still, 5), (.still, 6), (.still, 7), (.still, 8), (.seq, 9)] (by kernel_rfl) (by kernel_rfl) (trivial) (by rfl) (by kernel_rfl) ?_
     refine shM_v (v := .func (.func 81) #[] #[.pointer (some ⟨b_c, 0, none⟩), .pointer (some ⟨b_w, 0, none⟩), .pointer (some ⟨b_found, 0, none⟩), .pointer (some ⟨b_more, 0, none⟩)]) (ek := [(6, .pointer (some ⟨b_more, 0, none⟩))]) (Ls := []) rfl rfl rfl rfl ((sc rfl (sn _))) (by kernel_rfl) sm (fun H F' L' hF' hL' => v_load Try.isAgg122 rfl ((Has.frozen hb_more).ext hF' hL') rfl) ?_
     refine shM_v (v := .int .i64 set_) (ek := [(0, .int .i64 set_)]) (Ls := []) rfl rfl rfl rfl ((sc rfl (sn _))) (by kernel_rfl) sm (fun H F' L' hF' hL' => v_move rfl) ?_
     refine shM_v (v := .int .i64 i) (ek := [(14, .int .i64 i)]) (Ls := []) rfl rfl rfl rfl ((sc rfl (sn _))) (by kernel_rfl) sm (fun H F' L' hF' hL' => v_move rfl) ?_
     obtain ⟨g31, r32⟩ := gd_ok r24; clear r24
     refine shM_v (v := .int .i64 (shl 1 i)) (ek := [(42, .int .i64 i)]) (Ls := []) rfl rfl rfl rfl ((sc rfl (sn _))) (by kernel_rfl) sm (fun H F' L' hF' hL' => v_shl rfl rfl g31) ?_
     refine shM_v (v := .int .i64 (bor set_ (shl 1 i))) (ek := [(41, .int .i64 set_), (43, .int .i64 (shl 1 i))]) (Ls := []) rfl rfl rfl rfl ((sc rfl (sc rfl (sn _)))) (by kernel_rfl) sm (fun H F' L' hF' hL' => v_or rfl rfl) ?_
     refine shM_v (v := .int .i64 i) (ek := [(14, .int .i64 i)]) (Ls := []) rfl rfl rfl rfl ((sc rfl (sn _))) (by kernel_rfl) sm (fun H F' L' hF' hL' => v_move rfl) ?_
     refine shM_v (v := .int .i64 (i + 1)) (ek := [(45, .int .i64 i)]) (Ls := []) rfl rfl rfl rfl ((sc rfl (sn _))) (by kernel_rfl) sm (fun H F' L' hF' hL' => v_add rfl rfl (Ctr.r64 hk22 c29 g20)) ?_
     refine shM_v (v := .int .i64 many) (ek := [(2, .int .i64 many)]) (Ls := []) rfl rfl rfl rfl ((sc rfl (sn _))) (by kernel_rfl) sm (fun H F' L' hF' hL' => v_move rfl) ?_
     obtain ⟨g33, r34⟩ := gd_ok r32; clear r32
     refine shM_v (v := .int .i64 (many - 1)) (ek := [(47, .int .i64 many)]) (Ls := []) rfl rfl rfl rfl ((sc rfl (sn _))) (by kernel_rfl) sm (fun H F' L' hF' hL' => v_sub rfl rfl g33) ?_
     refine ⟨_, [(40, .func (.func 81) #[] #[.pointer (some ⟨b_c, 0, none⟩), .pointer (some ⟨b_w, 0, none⟩), .pointer (some ⟨b_found, 0, none⟩), .pointer (some ⟨b_more, 0, none⟩)]), (44, .int .i64 (bor set_ (shl 1 i))), (46, .int .i64 (i + 1)), (48, .int .i64 (many - 1))], rfl, rfl, (sc rfl (sc rfl (sc rfl (sc rfl (sn _))))), by kernel_rfl, ?_⟩; intro H
     obtain ⟨ok3, found4, h35, r36⟩ := b2_ok r34; clear r34
     refine o_callG (Lb := [(b_found, .cells #[.int .i64 found3] 3 (0, 0))]) (Lr := []) rfl Try.call81 rfl rfl rfl (pR) (hrec hb_c hb_c_ h_walks h_hears h_notices h_walks2 h_pairs h_hit hb_w h_ok hb_more h35) ?_; rintro _ F37 _ hF38 hd40 hn39 ⟨rfl, rfl⟩
     refine shO_L (lb (ln rfl)) ?_
     refine shO_nil ⟨_, rfl, hF38, [], by kernel_rfl, .inl (.inl rfl), (fun _ h => absurd h List.not_mem_nil), ?_⟩
     refine shM_nil ?_
     refine shW_cond rfl (fun c41 => ?_) (fun c41 => ?_)
     · have r42 := bt r36 c41; clear r36
       refine wsr (oa rfl rfl (shO_nil (shW_ret (inBlock_ret (andThen_ret (andThen_ret (inBlock_ret (andThen_ret ?_))))))))
       refine q_res1 Try.results81 (res_tmp rfl) (sr) ?_
       obtain ⟨rfl, rfl⟩ := inj2 r42
       exact ⟨rfl, rfl⟩
     have r43 := bf r36 c41; clear r36
     refine shW_skip (inBlock_n (id := 1) (shW_region (om rfl rfl ?_)))
     refine ov (v_add rfl rfl (Ctr.r64 hk22 c29 g20)) rfl ?_
     refine oa rfl rfl (shO_nil ?_)
     exact le kr ⟨_, hk30, found4, r43, (hF27.trans hF38), rfl, (sc rfl (sc rfl (sc rfl (sc rfl (sc rfl (sn _))))))⟩
   obtain rfl := Ctr.zero hk22 c29
   rw [round_crier_excludes_1B_l2] at r24
   refine shW_exit (andThen_exit (andThen_exit ?_))
   refine inBlock_exit ?_
   exact mi kr ⟨found3, r24, hF27, rfl, (sn _)⟩
 rintro e1 F46 _ ⟨found2, r44, hF47, rfl, he45⟩
 refine shW_env _ he45 ?_; clear he45
 rw [round_crier_excludes_1B_j1] at r44
 refine wsr (oa rfl rfl (shO_nil (shW_ret ?_)))
 refine q_res1 Try.results81 (res_tmp rfl) (sr) ?_
 obtain ⟨rfl, rfl⟩ := inj2 r44
 exact ⟨rfl, rfl⟩
set_option maxHeartbeats 1000000 in
theorem round_crier_excludes_1_w : ∀ (fu : Nat) {set_ : Int} {from_ : Int} {many : Int} {b_c : Nat} {b_c_ : Nat} {walks_a : Option Addr} {walks_c : Nat} {walks : List (List Int)} {hears_a : Option Addr} {hears_c : Nat} {hears : List (List Int)} {houses : Int} {start : Int} {notices_a : Option Addr} {notices_c : Nat} {notices : List ((List Int) × Int × Int)} {walks2 : List Int} {pairs_a : Option Addr} {pairs_c : Nat} {pairs : List (Int × Int)} {hit : List Int} {mb_c_ : Nat × Nat} {mb_c : Nat × Nat} {b_w : Nat} {ok_f : FuncId} {ok_1 : Array Value} {ok_2 : Array Value} {ok : (Int × Int) → Option Bool} {mb_w : Nat × Nat} {b_found : Nat} {found : Int} {b_more : Nat} {mb_more : Nat × Nat} {F : FS} (_ : F b_c = some (.cells #[.pointer (some ⟨b_c_, 0, none⟩)] 67 mb_c)) (_ : F b_c_ = some (.cells ((([.slice walks_a walks.length walks_c] : List Value) ++ (([.slice hears_a hears.length hears_c] : List Value) ++ (([.int .i64 houses] : List Value) ++ (([.int .i64 start] : List Value) ++ (([.slice notices_a notices.length notices_c] : List Value) ++ (walks2.flatMap (cI .i64) ++ (([.slice pairs_a pairs.length pairs_c] : List Value) ++ (hit.flatMap (cI .i64))))))))).toArray) 102 mb_c_)) (_ : RowR 1 (slE 1 (iE .i64)) F walks_a walks_c walks) (_ : RowR 1 (slE 1 (iE .i64)) F hears_a hears_c hears) (_ : RowR 3 (prE (slE 1 (iE .i64)) (prE (iE .i64) (iE .i64))) F notices_a notices_c notices) (_ : walks2.length = 25) (_ : RowR 2 (prE (iE .i64) (iE .i64)) F pairs_a pairs_c pairs) (_ : hit.length = 15) (_ : F b_w = some (.cells #[.func (.func ok_f) ok_1 ok_2] 76 mb_w)) (_ : FnR Try.prog F ok_f ok_1 ok_2 (prE (iE .i64) (iE .i64)) Value.bool ok) (_ : F b_more = some (.cells (#[.func (.func 81) #[] #[.pointer (some ⟨b_c, 0, none⟩), .pointer (some ⟨b_w, 0, none⟩), .pointer (some ⟨b_found, 0, none⟩), .pointer (some ⟨b_more, 0, none⟩)]]) 122 mb_more)) {r : Bool} {r2 : Int} , round_crier_excludes_1 fu set_ from_ many walks hears houses start notices walks2 pairs hit ok found = some (r, r2) → SH.Spec Try.prog 81 #[.int .i64 set_, .int .i64 from_, .int .i64 many, .pointer (some ⟨b_c, 0, none⟩), .pointer (some ⟨b_w, 0, none⟩), .pointer (some ⟨b_found, 0, none⟩), .pointer (some ⟨b_more, 0, none⟩)] F [(b_found, .cells #[.int .i64 found] 3 (0, 0))] fun _ L' v => v = .bool r ∧ L' = [(b_found, .cells #[.int .i64 r2] 3 (0, 0))] := by
  intro fu
  induction fu with
  | zero => intros; rename_i hr; rw [round_crier_excludes_1] at hr; cases hr
  | succ fu ih => intros; rename_i hr; rw [round_crier_excludes_1] at hr; exact round_crier_excludes_1B_w ih (by assumption) (by assumption) (by assumption) (by assumption) (by assumption) (by assumption) (by assumption) (by assumption) (by assumption) (by assumption) (by assumption) hr
set_option maxHeartbeats 1000000 in
theorem round_crier_excludes_w {b_c : Nat} {walks_a : Option Addr} {walks_c : Nat} {walks : List (List Int)} {hears_a : Option Addr} {hears_c : Nat} {hears : List (List Int)} {houses : Int} {start : Int} {notices_a : Option Addr} {notices_c : Nat} {notices : List ((List Int) × Int × Int)} {walks2 : List Int} {pairs_a : Option Addr} {pairs_c : Nat} {pairs : List (Int × Int)} {hit : List Int} {mb_c : Nat × Nat} {ok_f : FuncId} {ok_1 : Array Value} {ok_2 : Array Value} {ok : (Int × Int) → Option Bool} {F : FS} (hb_c : F b_c = some (.cells ((([.slice walks_a walks.length walks_c] : List Value) ++ (([.slice hears_a hears.length hears_c] : List Value) ++ (([.int .i64 houses] : List Value) ++ (([.int .i64 start] : List Value) ++ (([.slice notices_a notices.length notices_c] : List Value) ++ (walks2.flatMap (cI .i64) ++ (([.slice pairs_a pairs.length pairs_c] : List Value) ++ (hit.flatMap (cI .i64))))))))).toArray) 102 mb_c)) (h_walks : RowR 1 (slE 1 (iE .i64)) F walks_a walks_c walks) (h_hears : RowR 1 (slE 1 (iE .i64)) F hears_a hears_c hears) (h_notices : RowR 3 (prE (slE 1 (iE .i64)) (prE (iE .i64) (iE .i64))) F notices_a notices_c notices) (h_walks2 : walks2.length = 25) (h_pairs : RowR 2 (prE (iE .i64) (iE .i64)) F pairs_a pairs_c pairs) (h_hit : hit.length = 15) (h_ok : FnR Try.prog F ok_f ok_1 ok_2 (prE (iE .i64) (iE .i64)) Value.bool ok) {r : Int} (hr : round_crier_excludes walks hears houses start notices walks2 pairs hit ok = some r) :
    SpecV Try.prog 62 #[.pointer (some ⟨b_c, 0, none⟩), .agg #[.func (.func ok_f) ok_1 ok_2]] F (.int .i64 r) := by
 refine spec_of_shW (args := [.pointer (some ⟨b_c, 0, none⟩), .agg #[.func (.func ok_f) ok_1 ok_2]]) Try.func62 rfl Try.ntmps62 (Nat.le_of_ble_eq_true rfl) ?_
 intro K _ _; rw [round_crier_excludes] at hr
 refine wsr ?_
 refine o_box rfl rfl ?_; intro b1 hb1
 refine o_box rfl rfl ?_; intro b2 hb2
 refine oa rfl rfl (shO_nil ?_)
 refine shW_scope ?_
 refine wsr ?_
 refine o_alloc rfl Try.zeroValue3 ?_; intro b3 hb3
 refine o_store (i := 0) Try.sizeOf3 rfl rfl rfl rfl (Nat.le_of_ble_eq_true rfl) ?_
 refine shO_L (L' := [(b3, .cells #[.int .i64 0] 3 (0, 0)), (b2, .cells #[.func (.func ok_f) ok_1 ok_2] 76 (0, 0)), (b1, .cells #[.pointer (some ⟨b_c, 0, none⟩)] 67 (0, 0))]) rfl ?_
 refine shO_nil (shW_seq ?_)
 refine shW_label ?_
 obtain ⟨found, h4, r5⟩ := b1_ok hr; clear hr
 refine shW_join (fun e1 F1 L1 => FExt F F1 ∧ L1 = [(b3, .cells #[.int .i64 found] 3 (0, 0))] ∧ e1.sub [(5, .pointer (some ⟨b3, 0, none⟩))]) ?_ ?_
 · clear r5
   refine wsr ?_
   refine ov (v_load Try.isAgg67 rfl (Has.own 2 rfl) rfl) rfl ?_
   refine ov (v_nilCheck rfl) rfl ?_
   refine ov (v_fieldAddr fa_102_2 rfl) rfl ?_
   refine ov (v_load Try.isAgg44 rfl (Has.frozen hb_c) (li_cell (li_skip (A := ([.slice walks_a walks.length walks_c] : List Value)) (k := 1) (o := 29) rfl (li_skip (A := ([.slice hears_a hears.length hears_c] : List Value)) (k := 1) (o := 28) rfl (li_skip (A := ([.int .i64 houses] : List Value)) (k := 1) (o := 27) rfl (li_skip (A := ([.int .i64 start] : List Value)) (k := 1) (o := 26) rfl (li_skip (A := ([.slice notices_a notices.length notices_c] : List Value)) (k := 1) (o := 25) rfl (li_skip (A := walks2.flatMap (cI .i64)) (k := 25) (o := 0) (lfl (cI_ok .i64) h_walks2) (li_here (B := hit.flatMap (cI .i64)) rfl))))))))) rfl ?_
   refine ov (v_lenS Try.underlying44 rfl) rfl ?_
   obtain ⟨g6, r7⟩ := gd_ok h4; clear h4
   refine ov (v_add rfl rfl g6) rfl ?_
   refine om rfl rfl (shO_nil ?_)
   refine shW_block ?_
   refine shW_freeze 2 rfl hb1 ?_; intro F8 hF9 hz10
   refine shW_L (L' := [(b3, .cells #[.int .i64 0] 3 (0, 0)), (b2, .cells #[.func (.func ok_f) ok_1 ok_2] 76 (0, 0))]) rfl ?_
   replace h_walks := h_walks.mono (slE_ok (iE_ok _)) hF9
   replace h_hears := h_hears.mono (slE_ok (iE_ok _)) hF9
   replace h_notices := h_notices.mono (prE_ok (slE_ok (iE_ok _)) (prE_ok (iE_ok _) (iE_ok _))) hF9
   replace h_pairs := h_pairs.mono (prE_ok (iE_ok _) (iE_ok _)) hF9
   replace h_ok := h_ok.mono hF9
   replace hb_c := hF9 _ _ hb_c
   refine shW_freeze 1 rfl hb2 ?_; intro F11 hF12 hz13
   refine shW_L (L' := [(b3, .cells #[.int .i64 0] 3 (0, 0))]) rfl ?_
   replace h_walks := h_walks.mono (slE_ok (iE_ok _)) hF12
   replace h_hears := h_hears.mono (slE_ok (iE_ok _)) hF12
   replace h_notices := h_notices.mono (prE_ok (slE_ok (iE_ok _)) (prE_ok (iE_ok _) (iE_ok _))) hF12
   replace h_pairs := h_pairs.mono (prE_ok (iE_ok _) (iE_ok _)) hF12
   replace h_ok := h_ok.mono hF12
   replace hb_c := hF12 _ _ hb_c
   replace hz10 := hF12 _ _ hz10
   obtain ⟨g14, r15⟩ := gd_ok r7; clear r7
   refine shW_lpF (fun fu1 e1 F1 L1 => ∃ (k : Int), Ctr 0 ((pairs.length : Int) + 1) k fu1 ∧ ∃ (found2 : Int), round_crier_excludes_l1 walks hears houses start notices walks2 pairs hit ok fu1 k found2 = some found ∧ FExt F11 F1 ∧ L1 = [(b3, .cells #[.int .i64 found2] 3 (0, 0))] ∧ e1.sub [(2, .pointer (some ⟨b1, 0, none⟩)), (3, .pointer (some ⟨b2, 0, none⟩)), (5, .pointer (some ⟨b3, 0, none⟩)), (13, .int .i64 ((pairs.length : Int) + 1)), (14, .int .i64 k)]) _ (m0 kr ⟨_, Ctr.start _ _, 0, r15, FExt.refl _, rfl, (sc rfl (sc rfl (sc rfl (sc rfl (sc rfl (sn _))))))⟩) ?_
   rintro fu1 e1 F20 _ ⟨k, hk16, found2, r18, hF21, rfl, he19⟩
   refine shW_env _ he19 ?_; clear he19
   replace h_walks := h_walks.mono (slE_ok (iE_ok _)) hF21
   replace h_hears := h_hears.mono (slE_ok (iE_ok _)) hF21
   replace h_notices := h_notices.mono (prE_ok (slE_ok (iE_ok _)) (prE_ok (iE_ok _) (iE_ok _))) hF21
   replace h_pairs := h_pairs.mono (prE_ok (iE_ok _) (iE_ok _)) hF21
   replace h_ok := h_ok.mono hF21
   replace hb_c := hF21 _ _ hb_c
   replace hz10 := hF21 _ _ hz10
   replace hz13 := hF21 _ _ hz13
   refine wsr ?_
   refine ov (v_lssK rfl rfl) rfl ?_
   refine shO_nil (shW_seq ?_)
   refine shW_condP rfl (fun c23 => ?_) (fun c23 => ?_)
   · obtain ⟨fu1, rfl, hk24⟩ := Ctr.succ hk16 c23
     rw [round_crier_excludes_l1] at r18
     refine shW_skip (shW_seq ?_)
     refine shW_block ?_
     refine wsr (om rfl rfl (oa rfl rfl (nsr ?_)))
     refine o_alloc rfl Try.zeroValue122 ?_; intro b25 hb25
     refine nsr ?_
     refine ov (v_makeFunc rfl rfl) rfl ?_
     refine o_store (i := 0) Try.sizeOf122 rfl rfl rfl rfl (Nat.le_of_ble_eq_true rfl) ?_
     refine shO_L (L' := [(b25, .cells (#[.func (.func 81) #[] #[.pointer (some ⟨b1, 0, none⟩), .pointer (some ⟨b2, 0, none⟩), .pointer (some ⟨b3, 0, none⟩), .pointer (some ⟨b25, 0, none⟩)]]) 122 (0, 0)), (b3, .cells #[.int .i64 found2] 3 (0, 0))]) rfl ?_
     refine nsr ?_
     refine ov (v_load Try.isAgg122 rfl (Has.own 0 rfl) rfl) rfl ?_
     refine om rfl rfl ?_
     refine shO_freeze 0 rfl hb25 ?_; intro F26 hF27 hz28
     refine shO_L (L' := [(b3, .cells #[.int .i64 found2] 3 (0, 0))]) rfl ?_
     replace h_walks := h_walks.mono (slE_ok (iE_ok _)) hF27
     replace h_hears := h_hears.mono (slE_ok (iE_ok _)) hF27
     replace h_notices := h_notices.mono (prE_ok (slE_ok (iE_ok _)) (prE_ok (iE_ok _) (iE_ok _))) hF27
     replace h_pairs := h_pairs.mono (prE_ok (iE_ok _) (iE_ok _)) hF27
     replace h_ok := h_ok.mono hF27
     replace hb_c := hF27 _ _ hb_c
     replace hz10 := hF27 _ _ hz10
     replace hz13 := hF27 _ _ hz13
     obtain ⟨ok2, found3, h29, r30⟩ := b2_ok r18; clear r18
     refine o_callG (Lb := [(b3, .cells #[.int .i64 found2] 3 (0, 0))]) (Lr := []) rfl Try.call81 rfl rfl rfl (pR) ((round_crier_excludes_1_w FU) hz10 hb_c h_walks h_hears h_notices h_walks2 h_pairs h_hit hz13 h_ok hz28 h29) ?_; rintro _ F31 _ hF32 hd34 hn33 ⟨rfl, rfl⟩
     refine shO_L (lb (ln rfl)) ?_
     refine shO_nil ?_
     refine shW_cond rfl (fun c35 => ?_) (fun c35 => ?_)
     · have r36 := bt r30 c35; clear r30
       refine shW_exit ?_
       refine inBlock_other rfl ?_
       refine andThen_exit (andThen_exit ?_)
       refine inBlock_exit ?_
       obtain rfl := inj1 r36
       exact mi kr ⟨((((hF9.trans hF12).trans hF21).trans hF27).trans hF32), rfl, (sc rfl (sn _))⟩
     have r37 := bf r30 c35; clear r30
     refine shW_skip (inBlock_n (id := 1) (shW_region ?_))
     refine ov (v_add rfl rfl (Ctr.r64 hk16 c23 g14)) rfl ?_
     refine om rfl rfl (shO_nil ?_)
     refine lf ?_
     exact mf kr ⟨_, hk24, found3, r37, ((hF21.trans hF27).trans hF32), rfl, (sc rfl (sc rfl (sc rfl (sc rfl (sc rfl (sn _))))))⟩
   obtain rfl := Ctr.zero hk16 c23
   rw [round_crier_excludes_l1] at r18
   refine shW_exit (andThen_exit (andThen_exit ?_))
   refine inBlock_exit ?_
   obtain rfl := inj1 r18
   exact mi kr ⟨((hF9.trans hF12).trans hF21), rfl, (sc rfl (sn _))⟩
 rintro e1 F39 _ ⟨hF40, rfl, he38⟩
 refine shW_env _ he38 ?_; clear he38
 refine wsr ?_
 refine ov (v_load Try.isAgg3 rfl (Has.own 0 rfl) rfl) rfl ?_
 refine oa rfl rfl (shO_nil ?_)
 refine kW kn ?_
 refine shW_ret (noGoto_ret ?_)
 refine q_res1 Try.results62 (res_tmp rfl) (sr) ?_
 obtain rfl := inj1 r5
 exact rfl
set_option maxHeartbeats 1000000 in
theorem round_Before_w {walks_a : Option Addr} {walks_c : Nat} {walks : List (List Int)} {hears_a : Option Addr} {hears_c : Nat} {hears : List (List Int)} {houses : Int} {start : Int} {notices_a : Option Addr} {notices_c : Nat} {notices : List ((List Int) × Int × Int)} {minute : Int} {F : FS} (h_walks : RowR 1 (slE 1 (iE .i64)) F walks_a walks_c walks) (h_hears : RowR 1 (slE 1 (iE .i64)) F hears_a hears_c hears) (h_notices : RowR 3 (prE (slE 1 (iE .i64)) (prE (iE .i64) (iE .i64))) F notices_a notices_c notices) {r : List (Int × Int)} {r2 : Int} (hr : round_Before walks hears houses start notices minute = some (r, r2)) :
    SH.Spec Try.prog 37 #[.agg #[.slice walks_a walks.length walks_c, .slice hears_a hears.length hears_c, .int .i64 houses, .int .i64 start, .slice notices_a notices.length notices_c], .int .i64 minute] F [] fun F' L' v => ∃ (ra : Option Addr) (rn : Nat) (rc : Nat) (rL : LH), v = .tuple #[.slice ra rn rc, .int .i64 r2] ∧ L' = rL ++ [] ∧ SlR 0 54 2 (prE (iE .i64) (iE .i64)) F' ra rn rc r rL := by
 refine spec_of_shW (args := [.agg #[.slice walks_a walks.length walks_c, .slice hears_a hears.length hears_c, .int .i64 houses, .int .i64 start, .slice notices_a notices.length notices_c], .int .i64 minute]) Try.func37 rfl Try.ntmps37 (Nat.le_of_ble_eq_true rfl) ?_
 intro K _ _; rw [round_Before] at hr
 refine wsr ?_
 refine o_box rfl rfl ?_; intro b1 hb1
 refine oa rfl rfl (oa rfl rfl (nsr ?_))
 refine ov (v_loadA (cs := #[.slice walks_a walks.length walks_c, .slice hears_a hears.length hears_c, .int .i64 houses, .int .i64 start, .slice notices_a notices.length notices_c]) Try.isAgg26 Try.sizeOf26 rfl (Has.own 0 rfl) (Nat.le_of_ble_eq_true rfl) rfl) rfl ?_
 obtain ⟨d, n, h2, r3⟩ := b2_ok hr; clear hr
 refine o_call0 rfl Try.call26 rfl rfl rfl (round_opened_w h_walks h_hears h_notices h2) ?_; rintro _ F4 _ hF5 hn6 ⟨v8, rfl, rfl, hp9⟩
 refine shO_L (ln rfl) ?_
 refine om rfl rfl (ox rfl rfl rfl (ox rfl rfl rfl (oa rfl rfl (oa rfl rfl (shO_nil (shW_seq ?_))))))
 refine shW_block ?_
 refine wsr (om rfl rfl ?_)
 refine ov (v_neq rfl rfl) rfl ?_
 refine oa rfl rfl (shO_nil ?_)
 refine shW_condP rfl (fun c10 => ?_) (fun c10 => ?_)
 · have r11 := ite_t r3 c10; clear r3
   refine wsr (om rfl rfl (oa rfl rfl (oa rfl rfl (shO_nil ?_))))
   refine kW kn ?_
   refine shW_ret (inBlock_ret (andThen_ret ?_))
   refine q_res2 Try.results37 (res_tmp rfl) (res_tmp rfl) (sr) ?_
   obtain ⟨rfl, rfl⟩ := inj2 r11
   exact ⟨_, _, _, [], rfl, rfl, SlR.nil _ _ _ _ _⟩
 have r12 := ite_f r3 c10; clear r3
 refine wsr (om rfl rfl ?_)
 obtain ⟨ok, h13, r14⟩ := b1_ok r12; clear r12
 refine o_callV rfl Try.call60 rfl rfl rfl (round_in_w h13) ?_
 refine ov (v_notB rfl) rfl ?_
 refine oa rfl rfl (shO_nil ?_)
 refine shW_cond rfl (fun c15 => ?_) (fun c15 => ?_)
 · have r16 := bt r14 c15; clear r14
   refine wsr (oa rfl rfl (oa rfl rfl (shO_nil ?_)))
   refine kW kn ?_
   refine shW_ret (inBlock_ret (andThen_ret ?_))
   refine q_res2 Try.results37 (res_tmp rfl) (res_tmp rfl) (sr) ?_
   obtain ⟨rfl, rfl⟩ := inj2 r16
   exact ⟨_, _, _, [], rfl, rfl, SlR.nil _ _ _ _ _⟩
 have r17 := bf r14 c15; clear r14
 refine shW_skip (inBlock_n (id := 0) (wsr (om rfl rfl (om rfl rfl ?_))))
 obtain ⟨walks2, hears2, houses2, start2, notices2, walks3, pairs, hit, h18, r19⟩ := b8_ok r17; clear r17
 have h39 := hp9; rw [h18] at h39; obtain ⟨b20, c21, m22, hv23, hz24, ⟨_, _, rfl, ⟨a25, c26, rfl, h27⟩, ⟨_, _, rfl, ⟨a28, c29, rfl, h30⟩, ⟨_, _, rfl, rfl, ⟨_, _, rfl, rfl, ⟨_, _, rfl, ⟨a31, c32, rfl, h33⟩, ⟨_, _, rfl, ⟨rfl, h34⟩, ⟨_, _, rfl, ⟨a35, c36, rfl, h37⟩, ⟨rfl, h38⟩⟩⟩⟩⟩⟩⟩⟩⟩ := h39; subst hv23
 have hz24 : F4 b20 = some (.cells ((([.slice a25 walks2.length c26] : List Value) ++ (([.slice a28 hears2.length c29] : List Value) ++ (([.int .i64 houses2] : List Value) ++ (([.int .i64 start2] : List Value) ++ (([.slice a31 notices2.length c32] : List Value) ++ (walks3.flatMap (cI .i64) ++ (([.slice a35 pairs.length c36] : List Value) ++ (hit.flatMap (cI .i64))))))))).toArray) 102 m22) := hz24
 obtain ⟨y, h40, r41⟩ := b1_ok r19; clear r19
 refine o_call0 rfl Try.call58 rfl rfl rfl (round_crier_by_w hz24 h27 h30 h33 h34 h37 h38 h40) ?_; rintro _ F42 _ hF43 hn44 ⟨fi46, fc47, cp48, rfl, rfl, hit49⟩
 replace h27 := h27.mono (slE_ok (iE_ok _)) hF43
 replace h30 := h30.mono (slE_ok (iE_ok _)) hF43
 replace h33 := h33.mono (prE_ok (slE_ok (iE_ok _)) (prE_ok (iE_ok _) (iE_ok _))) hF43
 replace h37 := h37.mono (prE_ok (iE_ok _) (iE_ok _)) hF43
 replace hz24 := hF43 _ _ hz24
 refine shO_L (ln rfl) ?_
 refine o_alloc rfl Try.zeroValue76 ?_; intro b50 hb50
 refine o_storeA (i := 0) Try.sizeOf76 rfl rfl rfl (by simp [Value.oneCell']) rfl (Nat.le_of_ble_eq_true rfl) ?_
 refine shO_L (L' := [(b50, .cells #[.func (.func fi46) fc47 cp48] 76 (0, 0)), (b1, .cells #[.slice walks_a walks.length walks_c, .slice hears_a hears.length hears_c, .int .i64 houses, .int .i64 start, .slice notices_a notices.length notices_c] 26 (0, 0))]) rfl ?_
 refine shO_nil (shW_seq (shW_seq ?_))
 refine shW_drawM [(.still, 0), (.still, 1), (.still, 3), (.seq, 2), (.seq, 4), (.still, 5), (.still, 6), (.still, 7), (.still, 8), (.still, 9), (.still, 10), (.still, 11)] (by kernel_rfl) (by kernel_rfl) (trivial) (by rfl) (by kernel_rfl) ?_
 refine shM_v (v := .pointer (some ⟨b20, 0, none⟩)) (ek := [(6, .pointer (some ⟨b20, 0, none⟩))]) (Ls := []) rfl rfl rfl rfl ((sc rfl (sn _))) (by kernel_rfl) sm (fun H F' L' hF' hL' => v_move rfl) ?_
 refine shM_v (v := .pointer (some ⟨b20, 0, none⟩)) (ek := [(6, .pointer (some ⟨b20, 0, none⟩))]) (Ls := []) rfl rfl rfl rfl ((sc rfl (sn _))) (by kernel_rfl) sm (fun H F' L' hF' hL' => v_move rfl) ?_
 refine shM_v (v := .agg #[.func (.func fi46) fc47 cp48]) (ek := [(8, .pointer (some ⟨b50, 0, none⟩))]) (Ls := [(b50, .cells #[.func (.func fi46) fc47 cp48] 76 (0, 0))]) rfl rfl rfl rfl ((sc rfl (sn _))) (by kernel_rfl) (s0 (s2 (s1 sr))) (fun H F' L' hF' hL' => v_loadA (cs := #[.func (.func fi46) fc47 cp48]) Try.isAgg76 Try.sizeOf76 rfl ((Has.own 0 rfl).ext hF' hL') (Nat.le_of_ble_eq_true rfl) rfl) ?_
 refine ⟨_, [(30, .pointer (some ⟨b20, 0, none⟩))], rfl, rfl, (sc rfl (sn _)), by kernel_rfl, ?_⟩; intro H
 obtain ⟨n2, h51, r52⟩ := b1_ok r41; clear r41
 refine o_callV rfl Try.call30 rfl rfl rfl (round_crier_all_w hz24 h27 h30 h33 h34 h37 h38 h51) ?_
 refine shO_nil ⟨_, rfl, FExt.refl _, [3, 0], by kernel_rfl, .inl (.inr (fun d h => by cases h; rfl)), (List.forall_mem_cons.2 ⟨s0 (s2 (s1 sr)), (List.forall_mem_cons.2 ⟨sm, (fun _ h => absurd h List.not_mem_nil)⟩)⟩), ?_⟩
 refine ⟨_, [(29, .pointer (some ⟨b20, 0, none⟩)), (31, .int .i64 n2), (32, .agg #[.func (.func fi46) fc47 cp48])], rfl, rfl, (sc rfl (sc rfl (sc rfl (sn _)))), by kernel_rfl, ?_⟩; intro H
 obtain ⟨l, n3, ok2, h53, r54⟩ := b3_ok r52; clear r52
 refine o_call0 rfl Try.call27 rfl rfl rfl (round_crier_serve_w hz24 h27 h30 h33 h34 h37 h38 hit49 h53) ?_; rintro _ F55 _ hF56 hn57 ⟨a59, n63, c60, Lb61, rfl, rfl, hz62⟩
 replace h27 := h27.mono (slE_ok (iE_ok _)) hF56
 replace h30 := h30.mono (slE_ok (iE_ok _)) hF56
 replace h33 := h33.mono (prE_ok (slE_ok (iE_ok _)) (prE_ok (iE_ok _) (iE_ok _))) hF56
 replace h37 := h37.mono (prE_ok (iE_ok _) (iE_ok _)) hF56
 replace hit49 := hit49.mono hF56
 replace hz24 := hF56 _ _ hz24
 refine shO_L (lp (ln rfl)) ?_
 refine kO (kf (fS fO) (kf (fS fO) kr)) ?_
 refine shO_nil ⟨_, rfl, hF56, [], by kernel_rfl, .inl (.inl rfl), (fun _ h => absurd h List.not_mem_nil), ?_⟩
 refine shM_v (v := .tuple #[.slice a59 n63 c60, .int .i64 n3, .bool ok2]) (ek := [(33, .tuple #[.slice a59 n63 c60, .int .i64 n3, .bool ok2])]) (Ls := []) rfl rfl rfl rfl ((sc rfl (sn _))) (by kernel_rfl) sm (fun H F' L' hF' hL' => v_move rfl) ?_
 refine shM_v (v := .slice a59 n63 c60) (ek := [(28, .tuple #[.slice a59 n63 c60, .int .i64 n3, .bool ok2])]) (Ls := []) rfl rfl rfl rfl ((sc rfl (sn _))) (by kernel_rfl) sm (fun H F' L' hF' hL' => v_extract rfl rfl) ?_
 refine shM_v (v := .int .i64 n3) (ek := [(28, .tuple #[.slice a59 n63 c60, .int .i64 n3, .bool ok2])]) (Ls := []) rfl rfl rfl rfl ((sc rfl (sn _))) (by kernel_rfl) sm (fun H F' L' hF' hL' => v_extract rfl rfl) ?_
 refine shM_v (v := .bool ok2) (ek := [(28, .tuple #[.slice a59 n63 c60, .int .i64 n3, .bool ok2])]) (Ls := []) rfl rfl rfl rfl ((sc rfl (sn _))) (by kernel_rfl) sm (fun H F' L' hF' hL' => v_extract rfl rfl) ?_
 refine shM_v (v := .slice a59 n63 c60) (ek := [(34, .slice a59 n63 c60)]) (Ls := []) rfl rfl rfl rfl ((sc rfl (sn _))) (by kernel_rfl) sm (fun H F' L' hF' hL' => v_assign rfl) ?_
 refine shM_v (v := .int .i64 n3) (ek := [(35, .int .i64 n3)]) (Ls := []) rfl rfl rfl rfl ((sc rfl (sn _))) (by kernel_rfl) sm (fun H F' L' hF' hL' => v_assign rfl) ?_
 refine shM_v (v := .bool ok2) (ek := [(36, .bool ok2)]) (Ls := []) rfl rfl rfl rfl ((sc rfl (sn _))) (by kernel_rfl) sm (fun H F' L' hF' hL' => v_assign rfl) ?_
 refine shM_nil ?_
 refine wsr (om rfl rfl (shO_nil ?_))
 refine shW_cond rfl (fun c65 => ?_) (fun c65 => ?_)
 · have r66 := bt r54 c65; clear r54
   refine wsr (oa rfl rfl (oa rfl rfl (shO_nil ?_)))
   refine kW kn ?_
   refine shW_ret (andThen_ret ?_)
   refine q_res2 Try.results37 (res_tmp rfl) (res_tmp rfl) (sr) ?_
   obtain ⟨rfl, rfl⟩ := inj2 r66
   exact ⟨_, _, _, [], rfl, rfl, SlR.nil _ _ _ _ _⟩
 have r67 := bf r54 c65; clear r54
 refine shW_skip (wsr (om rfl rfl (om rfl rfl ?_)))
 refine ov (v_loadA (cs := #[.func (.func fi46) fc47 cp48]) Try.isAgg76 Try.sizeOf76 rfl (Has.own 0 rfl) (Nat.le_of_ble_eq_true rfl) rfl) rfl ?_
 obtain ⟨n4, h68, r69⟩ := b1_ok r67; clear r67
 refine o_callV rfl Try.call62 rfl rfl rfl (round_crier_excludes_w hz24 h27 h30 h33 h34 h37 h38 hit49 h68) ?_
 obtain ⟨l2, h70, r71⟩ := b1_ok r69; clear r69
 refine o_call0 rfl Try.call61 rfl rfl rfl (round_crier_chosen_w hz24 h27 h30 h33 h34 h37 h38 h70) ?_; rintro _ F72 _ hF73 hn74 ⟨a76, n80, c77, Lb78, rfl, rfl, hz79⟩
 replace hz79 := hz79.new fun p hp => hn74 p (by simp [hp])
 refine shO_L (lp (ln rfl)) ?_
 refine kO (kf (fS fO) (kf (fS fO) kr)) ?_
 refine oa rfl rfl (oa rfl rfl (shO_nil ?_))
 refine kW (kd (kd (ka kn))) ?_
 refine shW_ret ?_
 refine q_res2 Try.results37 (res_tmp rfl) (res_tmp rfl) (sr) ?_
 obtain ⟨rfl, rfl⟩ := inj2 r71
 exact ⟨_, _, _, _, rfl, rfl, hz79.any⟩
set_option maxHeartbeats 1000000 in
theorem slices_Equal_round_Pair_round_Pair_w {s1_a : Option Addr} {s1_c : Nat} {s1 : List (Int × Int)} {s2_a : Option Addr} {s2_c : Nat} {s2 : List (Int × Int)} {F : FS} (h_s1 : RowR 2 (prE (iE .i64) (iE .i64)) F s1_a s1_c s1) (h_s2 : RowR 2 (prE (iE .i64) (iE .i64)) F s2_a s2_c s2) {r : Bool} (hr : slices_Equal_round_Pair_round_Pair s1 s2 = some r) :
    SpecV Try.prog 63 #[.slice s1_a s1.length s1_c, .slice s2_a s2.length s2_c] F (.bool r) := by
 refine spec_of_shW (args := [.slice s1_a s1.length s1_c, .slice s2_a s2.length s2_c]) Try.func63 rfl Try.ntmps63 (Nat.le_of_ble_eq_true rfl) ?_
 intro K _ _; rw [slices_Equal_round_Pair_round_Pair] at hr
 refine wsr (oa rfl rfl (shO_nil (shW_seq (wsr (om rfl rfl ?_)))))
 refine ov (v_lenS Try.underlying44 rfl) rfl ?_
 refine om rfl rfl ?_
 refine ov (v_lenS Try.underlying44 rfl) rfl ?_
 refine ov (v_neq rfl rfl) rfl ?_
 refine shO_nil ?_
 refine shW_condP rfl (fun c1 => ?_) (fun c1 => ?_)
 · have r2 := ite_t hr c1; clear hr
   refine wsr (oa rfl rfl (shO_nil (shW_ret (andThen_ret ?_))))
   refine q_res1 Try.results63 (res_tmp rfl) (sr) ?_
   obtain rfl := inj1 r2
   exact rfl
 have r3 := ite_f hr c1; clear hr
 refine shW_skip ?_
 refine shW_join (fun e1 F1 L1 => slices_Equal_round_Pair_round_Pair_j1 = some r ∧ F = F1 ∧ L1 = [] ∧ e1.sub []) ?_ ?_
 · refine wsr (om rfl rfl ?_)
   refine ov (v_lenS Try.underlying44 rfl) rfl ?_
   refine om rfl rfl (shO_nil ?_)
   refine shW_block ?_
   refine shW_lp (fun fu2 e1 F1 L1 => ∃ (tl : List (Int × Int)) (k : Int), tl.length = fu2 ∧ Lst s1 k tl ∧ slices_Equal_round_Pair_round_Pair_l2 s2 tl k = some r ∧ F = F1 ∧ L1 = [] ∧ e1.sub [(0, .slice s1_a s1.length s1_c), (1, .slice s2_a s2.length s2_c), (12, .int .i64 (s1.length : Int)), (13, .int .i64 k)]) _ (m0 kr ⟨_, _, rfl, Lst.start _, r3, rfl, rfl, (sc rfl (sc rfl (sc rfl (sc rfl (sn _)))))⟩) ?_
   rintro fu2 e1 _ _ ⟨tl, k, hn5, hk4, r6, rfl, rfl, he7⟩
   refine shW_env _ he7 ?_; clear he7
   refine wsr ?_
   refine ov (v_lssK rfl rfl) rfl ?_
   refine shO_nil (shW_seq ?_)
   refine shW_condP rfl (fun c9 => ?_) (fun c9 => ?_)
   · obtain ⟨x, tl2, rfl, hx11, g12, hk10⟩ := Lst.succ hk4 c9
     rw [slices_Equal_round_Pair_round_Pair_l2] at r6
     refine shW_skip (shW_seq ?_)
     refine shW_block ?_
     refine wsr (om rfl rfl (oa rfl rfl ?_))
     refine nsd (by kernel_rfl) (by kernel_rfl) (by kernel_rfl) ?_
     refine qm rfl rfl (qm rfl rfl ?_)
     obtain ⟨b13, o14, c15, vs16, ha17, hs18, hle19, ⟨_, _, rfl, rfl, rfl⟩, hl20, hc21⟩ := RowR.at (prE_ok (iE_ok _) (iE_ok _)) h_s1 ([]) g12.1 hx11
     refine qv (v_indexO Try.underlying44 Try.sizeOf54 rfl ha17 rfl g12) rfl ?_
     refine qv (v_loadA (cs := #[.int .i64 x.1, .int .i64 x.2]) Try.isAgg54 Try.sizeOf54 rfl hs18 hle19 (extract_cells hle19 hl20 hc21)) rfl ?_
     refine qm rfl rfl (qm rfl rfl ?_)
     obtain ⟨x2, g22, hx23, r24⟩ := ix_ok r6; clear r6
     obtain ⟨b25, o26, c27, vs28, ha29, hs30, hle31, ⟨_, _, rfl, rfl, rfl⟩, hl32, hc33⟩ := RowR.at (prE_ok (iE_ok _) (iE_ok _)) h_s2 ([]) g22.1 hx23
     refine qv (v_indexO Try.underlying44 Try.sizeOf54 rfl ha29 rfl g22) rfl ?_
     refine qv (v_loadA (cs := #[.int .i64 x2.1, .int .i64 x2.2]) Try.isAgg54 Try.sizeOf54 rfl hs30 hle31 (extract_cells hle31 hl32 hc33)) rfl ?_
     refine qv (v_neA (eqgn_54 _ _ _ _) (fun w => ne_of_eq (eq_54 _ _ _ _ w)) rfl rfl) rfl ?_
     refine shQ_nil ?_
     refine shW_condP rfl (fun c34 => ?_) (fun c34 => ?_)
     · have r35 := ite_t r24 c34; clear r24
       refine wsr (oa rfl rfl (shO_nil (shW_ret (inBlock_ret (andThen_ret (andThen_ret (inBlock_ret (andThen_ret ?_))))))))
       refine q_res1 Try.results63 (res_tmp rfl) (sr) ?_
       obtain rfl := inj1 r35
       exact rfl
     have r36 := ite_f r24 c34; clear r24
     refine shW_skip (inBlock_n (id := 1) (shW_region ?_))
     refine ov (v_add rfl rfl (Lst.r64 hk4 c9 (RowR.lt h_s1))) rfl ?_
     refine om rfl rfl (shO_nil ?_)
     subst hn5; exact le kr ⟨_, _, rfl, hk10, r36, rfl, rfl, (sc rfl (sc rfl (sc rfl (sc rfl (sn _)))))⟩
   obtain rfl := Lst.zero hk4 c9
   rw [slices_Equal_round_Pair_round_Pair_l2] at r6
   refine shW_exit (andThen_exit (andThen_exit ?_))
   refine inBlock_exit ?_
   exact mi kr ⟨r6, rfl, rfl, (sn _)⟩
 rintro e1 _ _ ⟨r37, rfl, rfl, he38⟩
 refine shW_env _ he38 ?_; clear he38
 rw [slices_Equal_round_Pair_round_Pair_j1] at r37
 refine wsr (oa rfl rfl (shO_nil (shW_ret ?_)))
 refine q_res1 Try.results63 (res_tmp rfl) (sr) ?_
 obtain rfl := inj1 r37
 exact rfl
set_option maxHeartbeats 1000000 in
theorem oyezkit_Like_Pair_w {a_a : Option Addr} {a_c : Nat} {a : List (Int × Int)} {b_a : Option Addr} {b_c : Nat} {b : List (Int × Int)} {F : FS} (h_a : RowR 2 (prE (iE .i64) (iE .i64)) F a_a a_c a) (h_b : RowR 2 (prE (iE .i64) (iE .i64)) F b_a b_c b) {r : Bool} (hr : oyezkit_Like_Pair a b = some r) :
    SpecV Try.prog 38 #[.slice a_a a.length a_c, .slice b_a b.length b_c] F (.bool r) := by
 refine spec_of_shW (args := [.slice a_a a.length a_c, .slice b_a b.length b_c]) Try.func38 rfl Try.ntmps38 (Nat.le_of_ble_eq_true rfl) ?_
 intro K _ _; rw [oyezkit_Like_Pair] at hr
 refine wsr (oa rfl rfl (nsr (om rfl rfl (om rfl rfl ?_))))
 obtain ⟨ok, h1, r2⟩ := b1_ok hr; clear hr
 refine o_callV rfl Try.call63 rfl rfl rfl (slices_Equal_round_Pair_round_Pair_w h_a h_b h1) ?_
 refine oa rfl rfl (shO_nil (shW_ret ?_))
 refine q_res1 Try.results38 (res_tmp rfl) (sr) ?_
 obtain rfl := inj1 r2
 exact rfl
set_option maxHeartbeats 1000000 in
theorem round_Hurry_1_1_w {n : Int} {minute : Int} {b_x : Nat} {x : Int} {mb_x : Nat × Nat} {b_x_ : Nat} {x2 : Int} {mb_x_ : Nat × Nat} {b_x__ : Nat} {b_x___ : Nat} {walks_a : Option Addr} {walks_c : Nat} {walks : List (List Int)} {hears_a : Option Addr} {hears_c : Nat} {hears : List (List Int)} {houses : Int} {start : Int} {notices_a : Option Addr} {notices_c : Nat} {notices : List ((List Int) × Int × Int)} {walks2 : List Int} {pairs_a : Option Addr} {pairs_c : Nat} {pairs : List (Int × Int)} {hit : List Int} {mb_x___ : Nat × Nat} {mb_x__ : Nat × Nat} {F : FS} (hb_x : F b_x = some (.cells #[.int .i64 x] 3 mb_x)) (hb_x_ : F b_x_ = some (.cells #[.int .i64 x2] 3 mb_x_)) (hb_x__ : F b_x__ = some (.cells #[.pointer (some ⟨b_x___, 0, none⟩)] 67 mb_x__)) (hb_x___ : F b_x___ = some (.cells ((([.slice walks_a walks.length walks_c] : List Value) ++ (([.slice hears_a hears.length hears_c] : List Value) ++ (([.int .i64 houses] : List Value) ++ (([.int .i64 start] : List Value) ++ (([.slice notices_a notices.length notices_c] : List Value) ++ (walks2.flatMap (cI .i64) ++ (([.slice pairs_a pairs.length pairs_c] : List Value) ++ (hit.flatMap (cI .i64))))))))).toArray) 102 mb_x___)) (_h_walks : RowR 1 (slE 1 (iE .i64)) F walks_a walks_c walks) (_h_hears : RowR 1 (slE 1 (iE .i64)) F hears_a hears_c hears) (h_notices : RowR 3 (prE (slE 1 (iE .i64)) (prE (iE .i64) (iE .i64))) F notices_a notices_c notices) (_h_walks2 : walks2.length = 25) (_h_pairs : RowR 2 (prE (iE .i64) (iE .i64)) F pairs_a pairs_c pairs) (_h_hit : hit.length = 15) {r : Bool} (hr : round_Hurry_1_1 n minute x x2 walks hears houses start notices walks2 pairs hit = some r) :
    SpecV Try.prog 66 #[.int .i64 n, .int .i64 minute, .pointer (some ⟨b_x, 0, none⟩), .pointer (some ⟨b_x_, 0, none⟩), .pointer (some ⟨b_x__, 0, none⟩)] F (.bool r) := by
 refine spec_of_shW (args := [.int .i64 n, .int .i64 minute, .pointer (some ⟨b_x, 0, none⟩), .pointer (some ⟨b_x_, 0, none⟩), .pointer (some ⟨b_x__, 0, none⟩)]) Try.func66 rfl Try.ntmps66 (Nat.le_of_ble_eq_true rfl) ?_
 intro K _ _; rw [round_Hurry_1_1] at hr
 refine wsr (oa rfl rfl (nsr (om rfl rfl ?_)))
 refine ov (v_load Try.isAgg3 rfl (Has.frozen hb_x) rfl) rfl ?_
 refine ov (v_eql rfl rfl) rfl ?_
 refine om rfl rfl ?_
 by_cases c1 : n = x
 · have r2 := ite_t hr c1; clear hr
   refine shO_on (b := true) 11 rfl (Env.isT rfl c1) (om rfl rfl (shO_on (b := true) 11 rfl (Env.isT rfl c1) ?_))
   refine ov (v_load Try.isAgg3 rfl (Has.frozen hb_x_) rfl) rfl ?_
   refine shO_on (b := true) 11 rfl (Env.isT rfl c1) ?_
   refine ov (v_leqK rfl rfl) rfl ?_
   refine ov (v_pick_t (evD_true rfl c1) rfl) rfl ?_
   refine om rfl rfl ?_
   by_cases c3 : minute ≤ x2
   · have r4 := ite_t r2 c3; clear r2
     refine shO_off (b' := true) 16 rfl (Env.isT rfl c3) rfl rfl (shO_off (b' := true) 16 rfl (Env.isT rfl c3) rfl rfl (shO_off (b' := true) 16 rfl (Env.isT rfl c3) rfl rfl (shO_off (b' := true) 16 rfl (Env.isT rfl c3) rfl rfl (shO_offU 20 rfl rfl rfl (shO_offU 20 rfl rfl rfl (shO_offU 20 rfl rfl rfl (shO_offU 20 rfl rfl rfl (shO_offU 20 rfl rfl rfl (shO_offU 20 rfl rfl rfl ?_)))))))))
     refine shO_offU 20 rfl rfl rfl (shO_offU 20 rfl rfl rfl (shO_offU 20 rfl rfl rfl (shO_offU 20 rfl rfl rfl (shO_offU 20 rfl rfl rfl (shO_off (b' := true) 16 rfl (Env.isT rfl c3) rfl rfl ?_)))))
     refine ov (v_pick_t (evD_true rfl c3) rfl) rfl ?_
     refine oa rfl rfl (shO_nil (shW_ret ?_))
     refine q_res1 Try.results66 (res_tmp rfl) (sr) ?_
     obtain rfl := inj1 r4
     exact rfl
   have r5 := ite_f r2 c3; clear r2
   refine shO_on (b := false) 16 rfl (Env.isF rfl c3) (om rfl rfl (shO_on (b := false) 16 rfl (Env.isF rfl c3) ?_))
   refine ov (v_load Try.isAgg3 rfl (Has.frozen hb_x) rfl) rfl ?_
   refine shO_on (b := false) 16 rfl (Env.isF rfl c3) ?_
   refine ov (v_neq rfl rfl) rfl ?_
   refine shO_on (b := false) 16 rfl (Env.isF rfl c3) (om rfl rfl ?_)
   by_cases c6 : n ≠ x
   · have r7 := ite_t r5 c6; clear r5
     refine shO_on (b := true) 20 rfl (Env.isT rfl c6) (om rfl rfl (shO_on (b := true) 20 rfl (Env.isT rfl c6) ?_))
     refine ov (v_load Try.isAgg67 rfl (Has.frozen hb_x__) rfl) rfl ?_
     refine shO_on (b := true) 20 rfl (Env.isT rfl c6) ?_
     refine ov (v_nilCheck rfl) rfl ?_
     refine shO_on (b := true) 20 rfl (Env.isT rfl c6) ?_
     refine ov (v_fieldAddr fa_102_0 rfl) rfl ?_
     refine shO_on (b := true) 20 rfl (Env.isT rfl c6) ?_
     refine ov (v_fieldAddr fa_26_4 rfl) rfl ?_
     refine shO_on (b := true) 20 rfl (Env.isT rfl c6) ?_
     refine ov (v_load Try.isAgg24 rfl (Has.frozen hb_x___) (li_cell (li_skip (A := ([.slice walks_a walks.length walks_c] : List Value)) (k := 1) (o := 3) rfl (li_skip (A := ([.slice hears_a hears.length hears_c] : List Value)) (k := 1) (o := 2) rfl (li_skip (A := ([.int .i64 houses] : List Value)) (k := 1) (o := 1) rfl (li_skip (A := ([.int .i64 start] : List Value)) (k := 1) (o := 0) rfl (li_here (B := walks2.flatMap (cI .i64) ++ (([.slice pairs_a pairs.length pairs_c] : List Value) ++ (hit.flatMap (cI .i64)))) rfl))))))) rfl ?_
     refine shO_on (b := true) 20 rfl (Env.isT rfl c6) (om rfl rfl (shO_on (b := true) 20 rfl (Env.isT rfl c6) ?_))
     obtain ⟨x3, g8, hx9, r10⟩ := ix_ok r7; clear r7
     obtain ⟨b11, o12, c13, vs14, ha15, hs16, hle17, ⟨_, _, rfl, ⟨a20, c21, rfl, h22⟩, ⟨_, _, rfl, rfl, rfl⟩⟩, hl18, hc19⟩ := RowR.at (prE_ok (slE_ok (iE_ok _)) (prE_ok (iE_ok _) (iE_ok _))) h_notices ([]) g8.1 hx9
     refine ov (v_indexO Try.underlying24 Try.sizeOf39 rfl ha15 rfl g8) rfl ?_
     refine shO_on (b := true) 20 rfl (Env.isT rfl c6) ?_
     refine ov (v_fieldAddr fa_39_2 rfl) rfl ?_
     refine shO_on (b := true) 20 rfl (Env.isT rfl c6) ?_
     refine ov (v_load Try.isAgg3 rfl hs16 (hc19 2 (by decide))) rfl ?_
     refine shO_on (b := true) 20 rfl (Env.isT rfl c6) ?_
     refine ov (v_leqK rfl rfl) rfl ?_
     refine shO_on (b := false) 16 rfl (Env.isF rfl c3) ?_
     refine ov (v_pick_t (evD_true rfl c6) rfl) rfl ?_
     refine ov (v_pick_f (evD_false rfl c3) rfl) rfl ?_
     refine oa rfl rfl (shO_nil (shW_ret ?_))
     refine q_res1 Try.results66 (res_tmp rfl) (sr) ?_
     obtain rfl := inj1 r10
     exact rfl
   have r23 := ite_f r5 c6; clear r5
   refine shO_off (b' := false) 20 rfl (Env.isF rfl c6) rfl rfl (shO_off (b' := false) 20 rfl (Env.isF rfl c6) rfl rfl (shO_off (b' := false) 20 rfl (Env.isF rfl c6) rfl rfl (shO_off (b' := false) 20 rfl (Env.isF rfl c6) rfl rfl (shO_off (b' := false) 20 rfl (Env.isF rfl c6) rfl rfl (shO_off (b' := false) 20 rfl (Env.isF rfl c6) rfl rfl (shO_off (b' := false) 20 rfl (Env.isF rfl c6) rfl rfl (shO_off (b' := false) 20 rfl (Env.isF rfl c6) rfl rfl (shO_off (b' := false) 20 rfl (Env.isF rfl c6) rfl rfl (shO_off (b' := false) 20 rfl (Env.isF rfl c6) rfl rfl ?_)))))))))
   refine shO_off (b' := false) 20 rfl (Env.isF rfl c6) rfl rfl (shO_on (b := false) 16 rfl (Env.isF rfl c3) ?_)
   refine ov (v_pick_f (evD_false rfl c6) rfl) rfl ?_
   refine ov (v_pick_f (evD_false rfl c3) rfl) rfl ?_
   refine oa rfl rfl (shO_nil (shW_ret ?_))
   refine q_res1 Try.results66 (res_tmp rfl) (sr) ?_
   obtain rfl := inj1 r23
   exact rfl
 have r24 := ite_f hr c1; clear hr
 refine shO_off (b' := false) 11 rfl (Env.isF rfl c1) rfl rfl (shO_off (b' := false) 11 rfl (Env.isF rfl c1) rfl rfl (shO_off (b' := false) 11 rfl (Env.isF rfl c1) rfl rfl ?_))
 refine ov (v_pick_f (evD_false rfl c1) rfl) rfl ?_
 refine om rfl rfl (shO_on (b := false) 16 rfl rfl (om rfl rfl (shO_on (b := false) 16 rfl rfl ?_)))
 refine ov (v_load Try.isAgg3 rfl (Has.frozen hb_x) rfl) rfl ?_
 refine shO_on (b := false) 16 rfl rfl ?_
 refine ov (v_neq rfl rfl) rfl ?_
 refine shO_on (b := false) 16 rfl rfl (om rfl rfl ?_)
 by_cases c25 : n ≠ x
 · have r26 := ite_t r24 c25; clear r24
   refine shO_on (b := true) 20 rfl (Env.isT rfl c25) (om rfl rfl (shO_on (b := true) 20 rfl (Env.isT rfl c25) ?_))
   refine ov (v_load Try.isAgg67 rfl (Has.frozen hb_x__) rfl) rfl ?_
   refine shO_on (b := true) 20 rfl (Env.isT rfl c25) ?_
   refine ov (v_nilCheck rfl) rfl ?_
   refine shO_on (b := true) 20 rfl (Env.isT rfl c25) ?_
   refine ov (v_fieldAddr fa_102_0 rfl) rfl ?_
   refine shO_on (b := true) 20 rfl (Env.isT rfl c25) ?_
   refine ov (v_fieldAddr fa_26_4 rfl) rfl ?_
   refine shO_on (b := true) 20 rfl (Env.isT rfl c25) ?_
   refine ov (v_load Try.isAgg24 rfl (Has.frozen hb_x___) (li_cell (li_skip (A := ([.slice walks_a walks.length walks_c] : List Value)) (k := 1) (o := 3) rfl (li_skip (A := ([.slice hears_a hears.length hears_c] : List Value)) (k := 1) (o := 2) rfl (li_skip (A := ([.int .i64 houses] : List Value)) (k := 1) (o := 1) rfl (li_skip (A := ([.int .i64 start] : List Value)) (k := 1) (o := 0) rfl (li_here (B := walks2.flatMap (cI .i64) ++ (([.slice pairs_a pairs.length pairs_c] : List Value) ++ (hit.flatMap (cI .i64)))) rfl))))))) rfl ?_
   refine shO_on (b := true) 20 rfl (Env.isT rfl c25) (om rfl rfl (shO_on (b := true) 20 rfl (Env.isT rfl c25) ?_))
   obtain ⟨x4, g27, hx28, r29⟩ := ix_ok r26; clear r26
   obtain ⟨b30, o31, c32, vs33, ha34, hs35, hle36, ⟨_, _, rfl, ⟨a39, c40, rfl, h41⟩, ⟨_, _, rfl, rfl, rfl⟩⟩, hl37, hc38⟩ := RowR.at (prE_ok (slE_ok (iE_ok _)) (prE_ok (iE_ok _) (iE_ok _))) h_notices ([]) g27.1 hx28
   refine ov (v_indexO Try.underlying24 Try.sizeOf39 rfl ha34 rfl g27) rfl ?_
   refine shO_on (b := true) 20 rfl (Env.isT rfl c25) ?_
   refine ov (v_fieldAddr fa_39_2 rfl) rfl ?_
   refine shO_on (b := true) 20 rfl (Env.isT rfl c25) ?_
   refine ov (v_load Try.isAgg3 rfl hs35 (hc38 2 (by decide))) rfl ?_
   refine shO_on (b := true) 20 rfl (Env.isT rfl c25) ?_
   refine ov (v_leqK rfl rfl) rfl ?_
   refine shO_on (b := false) 16 rfl rfl ?_
   refine ov (v_pick_t (evD_true rfl c25) rfl) rfl ?_
   refine ov (v_pick_f rfl rfl) rfl ?_
   refine oa rfl rfl (shO_nil (shW_ret ?_))
   refine q_res1 Try.results66 (res_tmp rfl) (sr) ?_
   obtain rfl := inj1 r29
   exact rfl
 have r42 := ite_f r24 c25; clear r24
 refine shO_off (b' := false) 20 rfl (Env.isF rfl c25) rfl rfl (shO_off (b' := false) 20 rfl (Env.isF rfl c25) rfl rfl (shO_off (b' := false) 20 rfl (Env.isF rfl c25) rfl rfl (shO_off (b' := false) 20 rfl (Env.isF rfl c25) rfl rfl (shO_off (b' := false) 20 rfl (Env.isF rfl c25) rfl rfl (shO_off (b' := false) 20 rfl (Env.isF rfl c25) rfl rfl (shO_off (b' := false) 20 rfl (Env.isF rfl c25) rfl rfl (shO_off (b' := false) 20 rfl (Env.isF rfl c25) rfl rfl (shO_off (b' := false) 20 rfl (Env.isF rfl c25) rfl rfl (shO_off (b' := false) 20 rfl (Env.isF rfl c25) rfl rfl ?_)))))))))
 refine shO_off (b' := false) 20 rfl (Env.isF rfl c25) rfl rfl (shO_on (b := false) 16 rfl rfl ?_)
 refine ov (v_pick_f (evD_false rfl c25) rfl) rfl ?_
 refine ov (v_pick_f rfl rfl) rfl ?_
 refine oa rfl rfl (shO_nil (shW_ret ?_))
 refine q_res1 Try.results66 (res_tmp rfl) (sr) ?_
 obtain rfl := inj1 r42
 exact rfl
set_option maxHeartbeats 1000000 in
theorem round_Hurry_1_w {hour : Int} {b_c : Nat} {b_c_ : Nat} {walks_a : Option Addr} {walks_c : Nat} {walks : List (List Int)} {hears_a : Option Addr} {hears_c : Nat} {hears : List (List Int)} {houses : Int} {start : Int} {notices_a : Option Addr} {notices_c : Nat} {notices : List ((List Int) × Int × Int)} {walks2 : List Int} {pairs_a : Option Addr} {pairs_c : Nat} {pairs : List (Int × Int)} {hit : List Int} {mb_c_ : Nat × Nat} {mb_c : Nat × Nat} {b_notice : Nat} {notice : Int} {mb_notice : Nat × Nat} {F : FS} (hb_c : F b_c = some (.cells #[.pointer (some ⟨b_c_, 0, none⟩)] 67 mb_c)) (hb_c_ : F b_c_ = some (.cells ((([.slice walks_a walks.length walks_c] : List Value) ++ (([.slice hears_a hears.length hears_c] : List Value) ++ (([.int .i64 houses] : List Value) ++ (([.int .i64 start] : List Value) ++ (([.slice notices_a notices.length notices_c] : List Value) ++ (walks2.flatMap (cI .i64) ++ (([.slice pairs_a pairs.length pairs_c] : List Value) ++ (hit.flatMap (cI .i64))))))))).toArray) 102 mb_c_)) (h_walks : RowR 1 (slE 1 (iE .i64)) F walks_a walks_c walks) (h_hears : RowR 1 (slE 1 (iE .i64)) F hears_a hears_c hears) (h_notices : RowR 3 (prE (slE 1 (iE .i64)) (prE (iE .i64) (iE .i64))) F notices_a notices_c notices) (h_walks2 : walks2.length = 25) (h_pairs : RowR 2 (prE (iE .i64) (iE .i64)) F pairs_a pairs_c pairs) (h_hit : hit.length = 15) (hb_notice : F b_notice = some (.cells #[.int .i64 notice] 3 mb_notice)) {r : Bool} (hr : round_Hurry_1 hour walks hears houses start notices walks2 pairs hit notice = some r) :
    SpecV Try.prog 65 #[.int .i64 hour, .pointer (some ⟨b_c, 0, none⟩), .pointer (some ⟨b_notice, 0, none⟩)] F (.bool r) := by
 refine spec_of_shW (args := [.int .i64 hour, .pointer (some ⟨b_c, 0, none⟩), .pointer (some ⟨b_notice, 0, none⟩)]) Try.func65 rfl Try.ntmps65 (Nat.le_of_ble_eq_true rfl) ?_
 intro K _ _; rw [round_Hurry_1] at hr
 refine wsr ?_
 refine o_box rfl rfl ?_; intro b1 hb1
 refine oa rfl rfl (shO_nil (shW_seq ?_))
 refine shW_drawM [(.still, 0), (.still, 1), (.still, 3), (.still, 4), (.seq, 2), (.seq, 5), (.still, 6), (.still, 7), (.still, 8), (.still, 9), (.still, 10), (.still, 11), (.still, 12)] (by kernel_rfl) (by kernel_rfl) (trivial) (by rfl) (by kernel_rfl) ?_
 refine shM_v (v := .pointer (some ⟨b_c_, 0, none⟩)) (ek := [(1, .pointer (some ⟨b_c, 0, none⟩))]) (Ls := []) rfl rfl rfl rfl ((sc rfl (sn _))) (by kernel_rfl) sm (fun H F' L' hF' hL' => v_load Try.isAgg67 rfl ((Has.frozen hb_c).ext hF' hL') rfl) ?_
 refine shM_v (v := .pointer (some ⟨b_c_, 0, none⟩)) (ek := [(1, .pointer (some ⟨b_c, 0, none⟩))]) (Ls := []) rfl rfl rfl rfl ((sc rfl (sn _))) (by kernel_rfl) sm (fun H F' L' hF' hL' => v_load Try.isAgg67 rfl ((Has.frozen hb_c).ext hF' hL') rfl) ?_
 refine shM_v (v := .func (.func 66) #[] #[.pointer (some ⟨b_notice, 0, none⟩), .pointer (some ⟨b1, 0, none⟩), .pointer (some ⟨b_c, 0, none⟩)]) (ek := [(1, .pointer (some ⟨b_c, 0, none⟩)), (2, .pointer (some ⟨b_notice, 0, none⟩)), (3, .pointer (some ⟨b1, 0, none⟩))]) (Ls := []) rfl rfl rfl rfl ((sc rfl (sc rfl (sc rfl (sn _))))) (by kernel_rfl) sm (fun H F' L' hF' hL' => v_makeFunc rfl rfl) ?_
 refine shM_v (v := .agg (#[.func (.func 66) #[] #[.pointer (some ⟨b_notice, 0, none⟩), .pointer (some ⟨b1, 0, none⟩), .pointer (some ⟨b_c, 0, none⟩)]])) (ek := [(12, .func (.func 66) #[] #[.pointer (some ⟨b_notice, 0, none⟩), .pointer (some ⟨b1, 0, none⟩), .pointer (some ⟨b_c, 0, none⟩)])]) (Ls := []) rfl rfl rfl rfl ((sc rfl (sn _))) (by kernel_rfl) sm (fun H F' L' hF' hL' => v_build (v := .agg (#[.func (.func 66) #[] #[.pointer (some ⟨b_notice, 0, none⟩), .pointer (some ⟨b1, 0, none⟩), .pointer (some ⟨b_c, 0, none⟩)]])) rfl (by intro w; kernel_rfl)) ?_
 refine ⟨_, [(10, .pointer (some ⟨b_c_, 0, none⟩))], rfl, rfl, (sc rfl (sn _)), by kernel_rfl, ?_⟩; intro H
 obtain ⟨n, h2, r3⟩ := b1_ok hr; clear hr
 refine o_callV rfl Try.call30 rfl rfl rfl (round_crier_all_w hb_c_ h_walks h_hears h_notices h_walks2 h_pairs h_hit h2) ?_
 refine shO_nil ⟨_, rfl, FExt.refl _, [4, 3, 0], by kernel_rfl, .inl (.inr (fun d h => by cases h; rfl)), (List.forall_mem_cons.2 ⟨sm, (List.forall_mem_cons.2 ⟨sm, (List.forall_mem_cons.2 ⟨sm, (fun _ h => absurd h List.not_mem_nil)⟩)⟩)⟩), ?_⟩
 refine ⟨_, [(9, .pointer (some ⟨b_c_, 0, none⟩)), (11, .int .i64 n), (13, .agg (#[.func (.func 66) #[] #[.pointer (some ⟨b_notice, 0, none⟩), .pointer (some ⟨b1, 0, none⟩), .pointer (some ⟨b_c, 0, none⟩)]]))], rfl, rfl, (sc rfl (sc rfl (sc rfl (sn _)))), by kernel_rfl, ?_⟩; intro H
 refine shO_freeze 0 rfl hb1 ?_; intro F4 hF5 hz6
 refine shO_L (L' := []) rfl ?_
 replace h_walks := h_walks.mono (slE_ok (iE_ok _)) hF5
 replace h_hears := h_hears.mono (slE_ok (iE_ok _)) hF5
 replace h_notices := h_notices.mono (prE_ok (slE_ok (iE_ok _)) (prE_ok (iE_ok _) (iE_ok _))) hF5
 replace h_pairs := h_pairs.mono (prE_ok (iE_ok _) (iE_ok _)) hF5
 replace hb_c_ := hF5 _ _ hb_c_
 replace hb_c := hF5 _ _ hb_c
 replace hb_notice := hF5 _ _ hb_notice
 have hn7 : FnR Try.prog F4 66 #[] #[.pointer (some ⟨b_notice, 0, none⟩), .pointer (some ⟨b1, 0, none⟩), .pointer (some ⟨b_c, 0, none⟩)] (prE (iE .i64) (iE .i64)) Value.bool (fun xx_ : Int × Int => round_Hurry_1_1 xx_.1 xx_.2 notice hour walks hears houses start notices walks2 pairs hit) := ⟨Try.call66, fun F2 h2 vs xx_ r ha hr => by obtain ⟨_, _, rfl, rfl, rfl⟩ := ha; exact round_Hurry_1_1_w (h2 _ _ hb_notice) (h2 _ _ hz6) (h2 _ _ hb_c) (h2 _ _ hb_c_) (h_walks.mono (slE_ok (iE_ok _)) h2) (h_hears.mono (slE_ok (iE_ok _)) h2) (h_notices.mono (prE_ok (slE_ok (iE_ok _)) (prE_ok (iE_ok _) (iE_ok _))) h2) h_walks2 (h_pairs.mono (prE_ok (iE_ok _) (iE_ok _)) h2) h_hit hr⟩
 obtain ⟨l, n2, ok, h8, r9⟩ := b3_ok r3; clear r3
 refine o_call0 rfl Try.call27 rfl rfl rfl (round_crier_serve_w hb_c_ h_walks h_hears h_notices h_walks2 h_pairs h_hit hn7 h8) ?_; rintro _ F10 _ hF11 hn12 ⟨a14, n18, c15, Lb16, rfl, rfl, hz17⟩
 refine shO_L (lp (ln rfl)) ?_
 refine shO_nil ⟨_, rfl, (hF5.trans hF11), [], by kernel_rfl, .inl (.inl rfl), (fun _ h => absurd h List.not_mem_nil), ?_⟩
 refine shM_v (v := .tuple #[.slice a14 n18 c15, .int .i64 n2, .bool ok]) (ek := [(14, .tuple #[.slice a14 n18 c15, .int .i64 n2, .bool ok])]) (Ls := []) rfl rfl rfl rfl ((sc rfl (sn _))) (by kernel_rfl) sm (fun H F' L' hF' hL' => v_move rfl) ?_
 refine shM_v (v := .slice a14 n18 c15) (ek := [(8, .tuple #[.slice a14 n18 c15, .int .i64 n2, .bool ok])]) (Ls := []) rfl rfl rfl rfl ((sc rfl (sn _))) (by kernel_rfl) sm (fun H F' L' hF' hL' => v_extract rfl rfl) ?_
 refine shM_v (v := .int .i64 n2) (ek := [(8, .tuple #[.slice a14 n18 c15, .int .i64 n2, .bool ok])]) (Ls := []) rfl rfl rfl rfl ((sc rfl (sn _))) (by kernel_rfl) sm (fun H F' L' hF' hL' => v_extract rfl rfl) ?_
 refine shM_v (v := .bool ok) (ek := [(8, .tuple #[.slice a14 n18 c15, .int .i64 n2, .bool ok])]) (Ls := []) rfl rfl rfl rfl ((sc rfl (sn _))) (by kernel_rfl) sm (fun H F' L' hF' hL' => v_extract rfl rfl) ?_
 refine shM_v (v := .slice a14 n18 c15) (ek := [(15, .slice a14 n18 c15)]) (Ls := []) rfl rfl rfl rfl ((sc rfl (sn _))) (by kernel_rfl) sm (fun H F' L' hF' hL' => v_assign rfl) ?_
 refine shM_v (v := .int .i64 n2) (ek := [(16, .int .i64 n2)]) (Ls := []) rfl rfl rfl rfl ((sc rfl (sn _))) (by kernel_rfl) sm (fun H F' L' hF' hL' => v_assign rfl) ?_
 refine shM_v (v := .bool ok) (ek := [(17, .bool ok)]) (Ls := []) rfl rfl rfl rfl ((sc rfl (sn _))) (by kernel_rfl) sm (fun H F' L' hF' hL' => v_assign rfl) ?_
 refine shM_nil ?_
 refine wsr (om rfl rfl (oa rfl rfl (shO_nil ?_)))
 refine kW kn ?_
 refine shW_ret ?_
 refine q_res1 Try.results65 (res_tmp rfl) (sr) ?_
 obtain rfl := inj1 r9
 exact rfl
set_option maxHeartbeats 1000000 in
theorem round_Hurry_w {walks_a : Option Addr} {walks_c : Nat} {walks : List (List Int)} {hears_a : Option Addr} {hears_c : Nat} {hears : List (List Int)} {houses : Int} {start : Int} {notices_a : Option Addr} {notices_c : Nat} {notices : List ((List Int) × Int × Int)} {notice : Int} {F : FS} (h_walks : RowR 1 (slE 1 (iE .i64)) F walks_a walks_c walks) (h_hears : RowR 1 (slE 1 (iE .i64)) F hears_a hears_c hears) (h_notices : RowR 3 (prE (slE 1 (iE .i64)) (prE (iE .i64) (iE .i64))) F notices_a notices_c notices) {r : Int} {r2 : Int} (hr : round_Hurry walks hears houses start notices notice = some (r, r2)) :
    SpecV Try.prog 39 #[.agg #[.slice walks_a walks.length walks_c, .slice hears_a hears.length hears_c, .int .i64 houses, .int .i64 start, .slice notices_a notices.length notices_c], .int .i64 notice] F (.tuple #[.int .i64 r, .int .i64 r2]) := by
 refine spec_of_shW (args := [.agg #[.slice walks_a walks.length walks_c, .slice hears_a hears.length hears_c, .int .i64 houses, .int .i64 start, .slice notices_a notices.length notices_c], .int .i64 notice]) Try.func39 rfl Try.ntmps39 (Nat.le_of_ble_eq_true rfl) ?_
 intro K _ _; rw [round_Hurry] at hr
 refine wsr ?_
 refine o_box rfl rfl ?_; intro b1 hb1
 refine o_box rfl rfl ?_; intro b2 hb2
 refine oa rfl rfl (oa rfl rfl (nsr ?_))
 refine ov (v_loadA (cs := #[.slice walks_a walks.length walks_c, .slice hears_a hears.length hears_c, .int .i64 houses, .int .i64 start, .slice notices_a notices.length notices_c]) Try.isAgg26 Try.sizeOf26 rfl (Has.own 1 rfl) (Nat.le_of_ble_eq_true rfl) rfl) rfl ?_
 obtain ⟨d, n, h3, r4⟩ := b2_ok hr; clear hr
 refine o_call0 rfl Try.call26 rfl rfl rfl (round_opened_w h_walks h_hears h_notices h3) ?_; rintro _ F5 _ hF6 hn7 ⟨v9, rfl, rfl, hp10⟩
 replace h_walks := h_walks.mono (slE_ok (iE_ok _)) hF6
 replace h_hears := h_hears.mono (slE_ok (iE_ok _)) hF6
 replace h_notices := h_notices.mono (prE_ok (slE_ok (iE_ok _)) (prE_ok (iE_ok _) (iE_ok _))) hF6
 refine shO_L (ln rfl) ?_
 refine om rfl rfl (ox rfl rfl rfl (ox rfl rfl rfl ?_))
 refine o_alloc rfl Try.zeroValue67 ?_; intro b11 hb11
 refine o_store (i := 0) Try.sizeOf67 rfl rfl (PtrR.one hp10) rfl (Nat.le_of_ble_eq_true rfl) ?_
 refine shO_L (L' := [(b11, .cells #[v9] 67 (0, 0)), (b2, .cells #[.int .i64 notice] 3 (0, 0)), (b1, .cells #[.slice walks_a walks.length walks_c, .slice hears_a hears.length hears_c, .int .i64 houses, .int .i64 start, .slice notices_a notices.length notices_c] 26 (0, 0))]) rfl ?_
 refine oa rfl rfl (shO_nil (shW_seq ?_))
 refine shW_block ?_
 refine wsr (om rfl rfl ?_)
 refine ov (v_neq rfl rfl) rfl ?_
 refine oa rfl rfl (shO_nil ?_)
 refine shW_condP rfl (fun c12 => ?_) (fun c12 => ?_)
 · have r13 := ite_t r4 c12; clear r4
   refine wsr (om rfl rfl (oa rfl rfl (oa rfl rfl (shO_nil ?_))))
   refine kW kn ?_
   refine shW_ret (inBlock_ret (andThen_ret ?_))
   refine q_res2 Try.results39 (res_tmp rfl) (res_tmp rfl) (sr) ?_
   obtain ⟨rfl, rfl⟩ := inj2 r13
   exact rfl
 have r14 := ite_f r4 c12; clear r4
 refine wsr ?_
 refine ov (v_loadA (cs := #[.slice walks_a walks.length walks_c, .slice hears_a hears.length hears_c, .int .i64 houses, .int .i64 start, .slice notices_a notices.length notices_c]) Try.isAgg26 Try.sizeOf26 rfl (Has.own 2 rfl) (Nat.le_of_ble_eq_true rfl) rfl) rfl ?_
 refine ov (v_load Try.isAgg3 rfl (Has.own 1 rfl) rfl) rfl ?_
 obtain ⟨ok, h15, r16⟩ := b1_ok r14; clear r14
 refine o_callV rfl Try.call64 rfl rfl rfl (round_Beat_notice_w h_walks h_hears h_notices h15) ?_
 refine ov (v_notB rfl) rfl ?_
 refine oa rfl rfl (shO_nil ?_)
 refine shW_cond rfl (fun c17 => ?_) (fun c17 => ?_)
 · have r18 := bt r16 c17; clear r16
   refine wsr (oa rfl rfl (oa rfl rfl (shO_nil ?_)))
   refine kW kn ?_
   refine shW_ret (inBlock_ret (andThen_ret ?_))
   refine q_res2 Try.results39 (res_tmp rfl) (res_tmp rfl) (sr) ?_
   obtain ⟨rfl, rfl⟩ := inj2 r18
   exact rfl
 have r19 := bf r16 c17; clear r16
 refine shW_skip (inBlock_n (id := 0) (wsr ?_))
 refine ov (v_makeFunc rfl rfl) rfl ?_
 refine oa rfl rfl (shO_nil (shW_seq (wsr (om rfl rfl ?_))))
 refine shO_freeze 0 rfl hb11 ?_; intro F20 hF21 hz22
 refine shO_L (L' := [(b2, .cells #[.int .i64 notice] 3 (0, 0)), (b1, .cells #[.slice walks_a walks.length walks_c, .slice hears_a hears.length hears_c, .int .i64 houses, .int .i64 start, .slice notices_a notices.length notices_c] 26 (0, 0))]) rfl ?_
 replace hp10 := hp10.mono (prE_ok (slE_ok (slE_ok (iE_ok _))) (prE_ok (slE_ok (slE_ok (iE_ok _))) (prE_ok (iE_ok _) (prE_ok (iE_ok _) (prE_ok (slE_ok (prE_ok (slE_ok (iE_ok _)) (prE_ok (iE_ok _) (iE_ok _)))) (prE_ok (arE_ok (n := 25) (sz := 1) (cI_ok .i64)) (prE_ok (slE_ok (prE_ok (iE_ok _) (iE_ok _))) (arE_ok (n := 15) (sz := 1) (cI_ok .i64))))))))) hF21
 obtain ⟨walks2, hears2, houses2, start2, notices2, walks3, pairs, hit, h23, r24⟩ := b8_ok r19; clear r19
 have h44 := hp10; rw [h23] at h44; obtain ⟨b25, c26, m27, hv28, hz29, ⟨_, _, rfl, ⟨a30, c31, rfl, h32⟩, ⟨_, _, rfl, ⟨a33, c34, rfl, h35⟩, ⟨_, _, rfl, rfl, ⟨_, _, rfl, rfl, ⟨_, _, rfl, ⟨a36, c37, rfl, h38⟩, ⟨_, _, rfl, ⟨rfl, h39⟩, ⟨_, _, rfl, ⟨a40, c41, rfl, h42⟩, ⟨rfl, h43⟩⟩⟩⟩⟩⟩⟩⟩⟩ := h44; subst hv28
 have hz29 : F20 b25 = some (.cells ((([.slice a30 walks2.length c31] : List Value) ++ (([.slice a33 hears2.length c34] : List Value) ++ (([.int .i64 houses2] : List Value) ++ (([.int .i64 start2] : List Value) ++ (([.slice a36 notices2.length c37] : List Value) ++ (walks3.flatMap (cI .i64) ++ (([.slice a40 pairs.length c41] : List Value) ++ (hit.flatMap (cI .i64))))))))).toArray) 102 m27) := hz29
 refine shO_freeze 0 rfl hb2 ?_; intro F45 hF46 hz47
 refine shO_L (L' := [(b1, .cells #[.slice walks_a walks.length walks_c, .slice hears_a hears.length hears_c, .int .i64 houses, .int .i64 start, .slice notices_a notices.length notices_c] 26 (0, 0))]) rfl ?_
 replace h32 := h32.mono (slE_ok (iE_ok _)) hF46
 replace h35 := h35.mono (slE_ok (iE_ok _)) hF46
 replace h38 := h38.mono (prE_ok (slE_ok (iE_ok _)) (prE_ok (iE_ok _) (iE_ok _))) hF46
 replace h42 := h42.mono (prE_ok (iE_ok _) (iE_ok _)) hF46
 replace hz22 := hF46 _ _ hz22
 replace hz29 := hF46 _ _ hz29
 obtain ⟨ok2, h48, r49⟩ := b1_ok r24; clear r24
 refine o_callV rfl Try.call65 rfl rfl rfl (round_Hurry_1_w hz22 hz29 h32 h35 h38 h39 h42 h43 hz47 h48) ?_
 refine ov (v_notB rfl) rfl ?_
 refine shO_nil ?_
 refine shW_cond rfl (fun c50 => ?_) (fun c50 => ?_)
 · have r51 := bt r49 c50; clear r49
   refine wsr (oa rfl rfl (oa rfl rfl (shO_nil ?_)))
   refine kW kn ?_
   refine shW_ret (andThen_ret ?_)
   refine q_res2 Try.results39 (res_tmp rfl) (res_tmp rfl) (sr) ?_
   obtain ⟨rfl, rfl⟩ := inj2 r51
   exact rfl
 have r52 := bf r49 c50; clear r49
 refine shW_skip (wsr (oa rfl rfl (oa rfl rfl (shO_nil ?_))))
 obtain ⟨lo, h53, r54⟩ := b1_ok r52; clear r52
 refine shW_join (fun e1 F1 L1 => F45 = F1 ∧ L1 = [] ∧ e1.sub [(9, .int .i64 lo)]) ?_ ?_
 · clear r54
   refine shW_block ?_
   refine kW kn ?_
   refine shW_lp (fun fu1 e1 F1 L1 => ∃ (lo2 : Int) (hi : Int), round_Hurry_l1 notice walks2 hears2 houses2 start2 notices2 walks3 pairs hit fu1 lo2 hi = some lo ∧ F45 = F1 ∧ L1 = [] ∧ e1.sub [(8, .func (.func 65) #[] #[.pointer (some ⟨b11, 0, none⟩), .pointer (some ⟨b2, 0, none⟩)]), (9, .int .i64 lo2), (10, .int .i64 hi)]) FU (m0 kr ⟨0, 200, h53, rfl, rfl, (sc rfl (sc rfl (sc rfl (sn _))))⟩) ?_
   rintro fu1 e1 _ _ ⟨lo2, hi, r57, rfl, rfl, he58⟩
   refine shW_env _ he58 ?_; clear he58
   rcases fu1 with _ | fu1
   · rw [round_Hurry_l1] at r57; cases r57
   rw [round_Hurry_l1] at r57
   refine shW_seq (wsr (om rfl rfl (om rfl rfl ?_)))
   refine ov (v_lssK rfl rfl) rfl ?_
   refine shO_nil ?_
   refine shW_condP rfl (fun c59 => ?_) (fun c59 => ?_)
   · have r60 := ite_t r57 c59; clear r57
     refine shW_skip ?_
     refine shW_block ?_
     refine wsr (om rfl rfl (om rfl rfl ?_))
     obtain ⟨g61, r62⟩ := gd_ok r60; clear r60
     refine ov (v_add rfl rfl g61) rfl ?_
     obtain ⟨g63, r64⟩ := gd_ok r62; clear r62
     refine ov (v_quoT rfl rfl g63) rfl ?_
     refine oa rfl rfl (nsr (om rfl rfl (om rfl rfl ?_)))
     obtain ⟨ok3, h65, r66⟩ := b1_ok r64; clear r64
     refine o_callV rfl Try.call65 rfl rfl rfl (round_Hurry_1_w hz22 hz29 h32 h35 h38 h39 h42 h43 hz47 h65) ?_
     refine shO_nil ?_
     refine shW_cond rfl (fun c67 => ?_) (fun c67 => ?_)
     · have r68 := bt r66 c67; clear r66
       refine shW_region (om rfl rfl (oa rfl rfl (shO_nil (inBlock_n (id := 2) ?_))))
       exact le kr ⟨lo2, Int.tdiv (lo2 + hi) 2, r68, rfl, rfl, (sc rfl (sc rfl (sc rfl (sn _))))⟩
     have r69 := bf r66 c67; clear r66
     refine shW_region (om rfl rfl ?_)
     obtain ⟨g70, r71⟩ := gd_ok r69; clear r69
     refine ov (v_add rfl rfl g70) rfl ?_
     refine oa rfl rfl (shO_nil (inBlock_n (id := 2) ?_))
     exact le kr ⟨(Int.tdiv (lo2 + hi) 2) + 1, hi, r71, rfl, rfl, (sc rfl (sc rfl (sc rfl (sn _))))⟩
   have r72 := ite_f r57 c59; clear r57
   refine shW_exit (andThen_exit (andThen_exit ?_))
   refine inBlock_exit ?_
   obtain rfl := inj1 r72
   exact mi kr ⟨rfl, rfl, (sc rfl (sn _))⟩
 rintro e1 _ _ ⟨rfl, rfl, he73⟩
 refine shW_env _ he73 ?_; clear he73
 refine wsr (om rfl rfl (oa rfl rfl (oa rfl rfl (shO_nil (shW_ret ?_)))))
 refine q_res2 Try.results39 (res_tmp rfl) (res_tmp rfl) (sr) ?_
 obtain ⟨rfl, rfl⟩ := inj2 r54
 exact rfl
set_option maxHeartbeats 1000000 in
theorem slices_IndexFunc_round_Pair_round_Pair_w {s__a : Option Addr} {s__c : Nat} {s_ : List (Int × Int)} {f_f : FuncId} {f_1 : Array Value} {f_2 : Array Value} {f : (Int × Int) → Option Bool} {F : FS} (h_s_ : RowR 2 (prE (iE .i64) (iE .i64)) F s__a s__c s_) (h_f : FnR Try.prog F f_f f_1 f_2 (agE (prE (iE .i64) (iE .i64))) Value.bool f) {r : Int} (hr : slices_IndexFunc_round_Pair_round_Pair s_ f = some r) :
    SpecV Try.prog 71 #[.slice s__a s_.length s__c, .func (.func f_f) f_1 f_2] F (.int .i64 r) := by
 refine spec_of_shW (args := [.slice s__a s_.length s__c, .func (.func f_f) f_1 f_2]) Try.func71 rfl Try.ntmps71 (Nat.le_of_ble_eq_true rfl) ?_
 intro K _ _; rw [slices_IndexFunc_round_Pair_round_Pair] at hr
 refine wsr (oa rfl rfl (shO_nil ?_))
 refine shW_join (fun e1 F1 L1 => slices_IndexFunc_round_Pair_round_Pair_j1 = some r ∧ F = F1 ∧ L1 = [] ∧ e1.sub []) ?_ ?_
 · refine wsr (om rfl rfl ?_)
   refine ov (v_lenS Try.underlying44 rfl) rfl ?_
   refine om rfl rfl (shO_nil ?_)
   refine shW_block ?_
   refine shW_lp (fun fu2 e1 F1 L1 => ∃ (tl : List (Int × Int)) (k : Int), tl.length = fu2 ∧ Lst s_ k tl ∧ slices_IndexFunc_round_Pair_round_Pair_l2 f tl k = some r ∧ F = F1 ∧ L1 = [] ∧ e1.sub [(0, .slice s__a s_.length s__c), (1, .func (.func f_f) f_1 f_2), (7, .int .i64 (s_.length : Int)), (8, .int .i64 k)]) _ (m0 kr ⟨_, _, rfl, Lst.start _, hr, rfl, rfl, (sc rfl (sc rfl (sc rfl (sc rfl (sn _)))))⟩) ?_
   rintro fu2 e1 _ _ ⟨tl, k, hn2, hk1, r3, rfl, rfl, he4⟩
   refine shW_env _ he4 ?_; clear he4
   refine wsr ?_
   refine ov (v_lssK rfl rfl) rfl ?_
   refine shO_nil (shW_seq ?_)
   refine shW_condP rfl (fun c6 => ?_) (fun c6 => ?_)
   · obtain ⟨x, tl2, rfl, hx8, g9, hk7⟩ := Lst.succ hk1 c6
     rw [slices_IndexFunc_round_Pair_round_Pair_l2] at r3
     refine shW_skip (shW_seq ?_)
     refine shW_block ?_
     refine wsr (om rfl rfl (oa rfl rfl (nsr (om rfl rfl (om rfl rfl (om rfl rfl ?_))))))
     obtain ⟨b10, o11, c12, vs13, ha14, hs15, hle16, ⟨_, _, rfl, rfl, rfl⟩, hl17, hc18⟩ := RowR.at (prE_ok (iE_ok _) (iE_ok _)) h_s_ ([]) g9.1 hx8
     refine ov (v_indexO Try.underlying44 Try.sizeOf54 rfl ha14 rfl g9) rfl ?_
     refine ov (v_loadA (cs := #[.int .i64 x.1, .int .i64 x.2]) Try.isAgg54 Try.sizeOf54 rfl hs15 hle16 (extract_cells hle16 hl17 hc18)) rfl ?_
     obtain ⟨ok, h19, r20⟩ := b1_ok r3; clear r3
     refine o_callV rfl h_f.1 rfl rfl rfl (h_f.2 _ (FExt.refl _) _ _ _ ⟨_, rfl, ⟨_, _, rfl, rfl, rfl⟩⟩ h19) ?_
     refine shO_nil ?_
     refine shW_cond rfl (fun c21 => ?_) (fun c21 => ?_)
     · have r22 := bt r20 c21; clear r20
       refine wsr (om rfl rfl (oa rfl rfl (shO_nil (shW_ret (inBlock_ret (andThen_ret (andThen_ret (inBlock_ret (andThen_ret ?_)))))))))
       refine q_res1 Try.results71 (res_tmp rfl) (sr) ?_
       obtain rfl := inj1 r22
       exact rfl
     have r23 := bf r20 c21; clear r20
     refine shW_skip (inBlock_n (id := 1) (shW_region ?_))
     refine ov (v_add rfl rfl (Lst.r64 hk1 c6 (RowR.lt h_s_))) rfl ?_
     refine om rfl rfl (shO_nil ?_)
     subst hn2; exact le kr ⟨_, _, rfl, hk7, r23, rfl, rfl, (sc rfl (sc rfl (sc rfl (sc rfl (sn _)))))⟩
   obtain rfl := Lst.zero hk1 c6
   rw [slices_IndexFunc_round_Pair_round_Pair_l2] at r3
   refine shW_exit (andThen_exit (andThen_exit ?_))
   refine inBlock_exit ?_
   exact mi kr ⟨r3, rfl, rfl, (sn _)⟩
 rintro e1 _ _ ⟨r24, rfl, rfl, he25⟩
 refine shW_env _ he25 ?_; clear he25
 rw [slices_IndexFunc_round_Pair_round_Pair_j1] at r24
 refine wsr (oa rfl rfl (shO_nil (shW_ret ?_)))
 refine q_res1 Try.results71 (res_tmp rfl) (sr) ?_
 obtain rfl := inj1 r24
 exact rfl
set_option maxHeartbeats 1000000 in
theorem round_crier_index_1_w {notice : Int} {house : Int} {b_p : Nat} {notice2 : Int} {house2 : Int} {mb_p : Nat × Nat} {F : FS} (hb_p : F b_p = some (.cells #[.int .i64 notice2, .int .i64 house2] 54 mb_p)) {r : Bool} (hr : round_crier_index_1 notice house notice2 house2 = some r) :
    SpecV Try.prog 72 #[.agg #[.int .i64 notice, .int .i64 house], .pointer (some ⟨b_p, 0, none⟩)] F (.bool r) := by
 refine spec_of_shW (args := [.agg #[.int .i64 notice, .int .i64 house], .pointer (some ⟨b_p, 0, none⟩)]) Try.func72 rfl Try.ntmps72 (Nat.le_of_ble_eq_true rfl) ?_
 intro K _ _; rw [round_crier_index_1] at hr
 refine wsr ?_
 refine o_box rfl rfl ?_; intro b1 hb1
 refine oa rfl rfl (nsr ?_)
 refine ov (v_loadA (cs := #[.int .i64 notice, .int .i64 house]) Try.isAgg54 Try.sizeOf54 rfl (Has.own 0 rfl) (Nat.le_of_ble_eq_true rfl) rfl) rfl ?_
 refine ov (v_loadA (cs := #[.int .i64 notice2, .int .i64 house2]) Try.isAgg54 Try.sizeOf54 rfl (Has.frozen hb_p) (Nat.le_of_ble_eq_true rfl) rfl) rfl ?_
 refine ov (v_eqA (eqg_54 _ _ _ _) (eq_54 _ _ _ _) rfl rfl) rfl ?_
 refine oa rfl rfl (shO_nil ?_)
 refine kW kn ?_
 refine shW_ret ?_
 refine q_res1 Try.results72 (res_tmp rfl) (sr) ?_
 obtain rfl := inj1 hr
 exact rfl
set_option maxHeartbeats 1000000 in
theorem round_crier_index_w {b_c : Nat} {walks_a : Option Addr} {walks_c : Nat} {walks : List (List Int)} {hears_a : Option Addr} {hears_c : Nat} {hears : List (List Int)} {houses : Int} {start : Int} {notices_a : Option Addr} {notices_c : Nat} {notices : List ((List Int) × Int × Int)} {walks2 : List Int} {pairs_a : Option Addr} {pairs_c : Nat} {pairs : List (Int × Int)} {hit : List Int} {mb_c : Nat × Nat} {notice : Int} {house : Int} {F : FS} (hb_c : F b_c = some (.cells ((([.slice walks_a walks.length walks_c] : List Value) ++ (([.slice hears_a hears.length hears_c] : List Value) ++ (([.int .i64 houses] : List Value) ++ (([.int .i64 start] : List Value) ++ (([.slice notices_a notices.length notices_c] : List Value) ++ (walks2.flatMap (cI .i64) ++ (([.slice pairs_a pairs.length pairs_c] : List Value) ++ (hit.flatMap (cI .i64))))))))).toArray) 102 mb_c)) (_h_walks : RowR 1 (slE 1 (iE .i64)) F walks_a walks_c walks) (_h_hears : RowR 1 (slE 1 (iE .i64)) F hears_a hears_c hears) (_h_notices : RowR 3 (prE (slE 1 (iE .i64)) (prE (iE .i64) (iE .i64))) F notices_a notices_c notices) (h_walks2 : walks2.length = 25) (h_pairs : RowR 2 (prE (iE .i64) (iE .i64)) F pairs_a pairs_c pairs) (_h_hit : hit.length = 15) {r : Int} (hr : round_crier_index walks hears houses start notices walks2 pairs hit notice house = some r) :
    SpecV Try.prog 47 #[.pointer (some ⟨b_c, 0, none⟩), .agg #[.int .i64 notice, .int .i64 house]] F (.int .i64 r) := by
 refine spec_of_shW (args := [.pointer (some ⟨b_c, 0, none⟩), .agg #[.int .i64 notice, .int .i64 house]]) Try.func47 rfl Try.ntmps47 (Nat.le_of_ble_eq_true rfl) ?_
 intro K _ _; rw [round_crier_index] at hr
 refine wsr ?_
 refine o_box rfl rfl ?_; intro b1 hb1
 refine oa rfl rfl (nsr (om rfl rfl ?_))
 refine ov (v_nilCheck rfl) rfl ?_
 refine ov (v_fieldAddr fa_102_2 rfl) rfl ?_
 refine ov (v_load Try.isAgg44 rfl (Has.frozen hb_c) (li_cell (li_skip (A := ([.slice walks_a walks.length walks_c] : List Value)) (k := 1) (o := 29) rfl (li_skip (A := ([.slice hears_a hears.length hears_c] : List Value)) (k := 1) (o := 28) rfl (li_skip (A := ([.int .i64 houses] : List Value)) (k := 1) (o := 27) rfl (li_skip (A := ([.int .i64 start] : List Value)) (k := 1) (o := 26) rfl (li_skip (A := ([.slice notices_a notices.length notices_c] : List Value)) (k := 1) (o := 25) rfl (li_skip (A := walks2.flatMap (cI .i64)) (k := 25) (o := 0) (lfl (cI_ok .i64) h_walks2) (li_here (B := hit.flatMap (cI .i64)) rfl))))))))) rfl ?_
 refine ov (v_makeFunc rfl rfl) rfl ?_
 refine shO_freeze 0 rfl hb1 ?_; intro F2 hF3 hz4
 refine shO_L (L' := []) rfl ?_
 replace h_pairs := h_pairs.mono (prE_ok (iE_ok _) (iE_ok _)) hF3
 have hn5 : FnR Try.prog F2 72 #[] #[.pointer (some ⟨b1, 0, none⟩)] (agE (prE (iE .i64) (iE .i64))) Value.bool (fun xx_ : (Int × Int) => round_crier_index_1 xx_.1 xx_.2 notice house) := ⟨Try.call72, fun F2 h2 vs xx_ r ha hr => by obtain ⟨_, rfl, ⟨_, _, rfl, rfl, rfl⟩⟩ := ha; exact round_crier_index_1_w (h2 _ _ hz4) hr⟩
 obtain ⟨n, h6, r7⟩ := b1_ok hr; clear hr
 refine o_callV rfl Try.call71 rfl rfl rfl (slices_IndexFunc_round_Pair_round_Pair_w h_pairs hn5 h6) ?_
 refine oa rfl rfl (shO_nil (shW_ret ?_))
 refine q_res1 Try.results47 (res_tmp rfl) (sr) ?_
 obtain rfl := inj1 r7
 exact rfl
set_option maxHeartbeats 1000000 in
theorem round_crier_first_w {b_c : Nat} {walks_a : Option Addr} {walks_c : Nat} {walks : List (List Int)} {hears_a : Option Addr} {hears_c : Nat} {hears : List (List Int)} {houses : Int} {start : Int} {notices_a : Option Addr} {notices_c : Nat} {notices : List ((List Int) × Int × Int)} {walks2 : List Int} {pairs_a : Option Addr} {pairs_c : Nat} {pairs : List (Int × Int)} {hit : List Int} {mb_c : Nat × Nat} {notice : Int} {house : Int} {F : FS} (hb_c : F b_c = some (.cells ((([.slice walks_a walks.length walks_c] : List Value) ++ (([.slice hears_a hears.length hears_c] : List Value) ++ (([.int .i64 houses] : List Value) ++ (([.int .i64 start] : List Value) ++ (([.slice notices_a notices.length notices_c] : List Value) ++ (walks2.flatMap (cI .i64) ++ (([.slice pairs_a pairs.length pairs_c] : List Value) ++ (hit.flatMap (cI .i64))))))))).toArray) 102 mb_c)) (_h_walks : RowR 1 (slE 1 (iE .i64)) F walks_a walks_c walks) (h_hears : RowR 1 (slE 1 (iE .i64)) F hears_a hears_c hears) (h_notices : RowR 3 (prE (slE 1 (iE .i64)) (prE (iE .i64) (iE .i64))) F notices_a notices_c notices) (h_walks2 : walks2.length = 25) (_h_pairs : RowR 2 (prE (iE .i64) (iE .i64)) F pairs_a pairs_c pairs) (_h_hit : hit.length = 15) {r : Int} (hr : round_crier_first walks hears houses start notices walks2 pairs hit notice house = some r) :
    SpecV Try.prog 67 #[.pointer (some ⟨b_c, 0, none⟩), .agg #[.int .i64 notice, .int .i64 house]] F (.int .i64 r) := by
 refine spec_of_shW (args := [.pointer (some ⟨b_c, 0, none⟩), .agg #[.int .i64 notice, .int .i64 house]]) Try.func67 rfl Try.ntmps67 (Nat.le_of_ble_eq_true rfl) ?_
 intro K _ _; rw [round_crier_first] at hr
 refine wsr ?_
 refine o_box rfl rfl ?_; intro b1 hb1
 refine oa rfl rfl (nsr (oa rfl rfl (shO_nil ?_)))
 obtain ⟨out, h2, r3⟩ := b1_ok hr; clear hr
 refine shW_join (fun e1 F1 L1 => FExt F F1 ∧ L1 = [] ∧ e1.sub [(5, .int .i64 out)]) ?_ ?_
 · clear r3
   refine wsr (om rfl rfl ?_)
   refine ov (v_nilCheck rfl) rfl ?_
   refine ov (v_fieldAddr fa_102_0 rfl) rfl ?_
   refine ov (v_fieldAddr fa_26_1 rfl) rfl ?_
   refine ov (v_load Try.isAgg23 rfl (Has.frozen hb_c) (li_cell (li_skip (A := ([.slice walks_a walks.length walks_c] : List Value)) (k := 1) (o := 0) rfl (li_here (B := ([.int .i64 houses] : List Value) ++ (([.int .i64 start] : List Value) ++ (([.slice notices_a notices.length notices_c] : List Value) ++ (walks2.flatMap (cI .i64) ++ (([.slice pairs_a pairs.length pairs_c] : List Value) ++ (hit.flatMap (cI .i64))))))) rfl)))) rfl ?_
   refine ov (v_lenS Try.underlying23 rfl) rfl ?_
   refine om rfl rfl (shO_nil ?_)
   refine shW_block ?_
   refine shW_lp (fun fu1 e1 F1 L1 => ∃ (tl : List (List Int)) (k : Int), tl.length = fu1 ∧ Lst hears k tl ∧ ∃ (out2 : Int), round_crier_first_l1 start notices walks2 notice house tl k out2 = some out ∧ FExt F F1 ∧ L1 = [(b1, .cells #[.int .i64 notice, .int .i64 house] 54 (0, 0))] ∧ e1.sub [(0, .pointer (some ⟨b_c, 0, none⟩)), (3, .pointer (some ⟨b1, 0, none⟩)), (5, .int .i64 out2), (13, .slice hears_a hears.length hears_c), (14, .int .i64 (hears.length : Int)), (15, .int .i64 k)]) _ (m0 kr ⟨_, _, rfl, Lst.start _, -1, h2, FExt.refl _, rfl, (sc rfl (sc rfl (sc rfl (sc rfl (sc rfl (sc rfl (sn _)))))))⟩) ?_
   rintro fu1 e1 F8 _ ⟨tl, k, hn5, hk4, out2, r6, hF9, rfl, he7⟩
   refine shW_env _ he7 ?_; clear he7
   replace h_hears := h_hears.mono (slE_ok (iE_ok _)) hF9
   replace h_notices := h_notices.mono (prE_ok (slE_ok (iE_ok _)) (prE_ok (iE_ok _) (iE_ok _))) hF9
   replace hb_c := hF9 _ _ hb_c
   refine wsr ?_
   refine ov (v_lssK rfl rfl) rfl ?_
   refine shO_nil (shW_seq ?_)
   refine shW_condP rfl (fun c11 => ?_) (fun c11 => ?_)
   · obtain ⟨x, tl2, rfl, hx13, g14, hk12⟩ := Lst.succ hk4 c11
     rw [round_crier_first_l1] at r6
     refine shW_skip (shW_seq ?_)
     refine shW_block ?_
     refine wsr (om rfl rfl ?_)
     obtain ⟨b15, o16, c17, vs18, ha19, hs20, hle21, ⟨a24, c25, rfl, h26⟩, hl22, hc23⟩ := RowR.at (slE_ok (iE_ok _)) h_hears ([(b1, .cells #[.int .i64 notice, .int .i64 house] 54 (0, 0))]) g14.1 hx13
     refine ov (v_indexO Try.underlying23 Try.sizeOf30 rfl ha19 rfl g14) rfl ?_
     refine ov (v_load Try.isAgg30 rfl hs20 (hc23 0 (by decide))) rfl ?_
     refine oa rfl rfl (oa rfl rfl ?_)
     refine nsd (by kernel_rfl) (by kernel_rfl) (by kernel_rfl) ?_
     refine qm rfl rfl (qm rfl rfl ?_)
     refine qv (v_nilCheck rfl) rfl ?_
     refine qv (v_fieldAddr fa_102_0 rfl) rfl ?_
     refine qv (v_fieldAddr fa_26_3 rfl) rfl ?_
     refine qv (v_load Try.isAgg3 rfl (Has.frozen hb_c) (li_cell (li_skip (A := ([.slice walks_a walks.length walks_c] : List Value)) (k := 1) (o := 2) rfl (li_skip (A := ([.slice hears_a hears.length hears_c] : List Value)) (k := 1) (o := 1) rfl (li_skip (A := ([.int .i64 houses] : List Value)) (k := 1) (o := 0) rfl (li_here (B := ([.slice notices_a notices.length notices_c] : List Value) ++ (walks2.flatMap (cI .i64) ++ (([.slice pairs_a pairs.length pairs_c] : List Value) ++ (hit.flatMap (cI .i64))))) rfl)))))) rfl ?_
     refine qm rfl rfl ?_
     refine qv (v_nilCheck rfl) rfl ?_
     refine qv (v_fieldAddr fa_102_1 rfl) rfl ?_
     obtain ⟨g27, r28⟩ := gd_ok r6; clear r6
     refine qv (v_indexA Try.underlying98 Try.sizeOf96 rfl rfl g27) rfl ?_
     obtain ⟨g29, r30⟩ := gd_ok r28; clear r28
     obtain ⟨x2, g31, hx32, r33⟩ := ix_ok r30; clear r30
     have hq35 : (start * 5 + k : Int).toNat = (start : Int).toNat * 5 + (k : Int).toNat := by have := g27; have := g29; omega
     have hc34 := el_at2 (cI_ok .i64) h_walks2 hq35 hx32 (li_arr (li_skip (A := ([.slice walks_a walks.length walks_c] : List Value)) (k := 1) (o := 4) rfl (li_skip (A := ([.slice hears_a hears.length hears_c] : List Value)) (k := 1) (o := 3) rfl (li_skip (A := ([.int .i64 houses] : List Value)) (k := 1) (o := 2) rfl (li_skip (A := ([.int .i64 start] : List Value)) (k := 1) (o := 1) rfl (li_skip (A := ([.slice notices_a notices.length notices_c] : List Value)) (k := 1) (o := 0) rfl (li_here (B := ([.slice pairs_a pairs.length pairs_c] : List Value) ++ (hit.flatMap (cI .i64))) (lfl (cI_ok .i64) h_walks2)))))))) (li_le (li_skip (A := ([.slice walks_a walks.length walks_c] : List Value)) (k := 1) (o := 4) rfl (li_skip (A := ([.slice hears_a hears.length hears_c] : List Value)) (k := 1) (o := 3) rfl (li_skip (A := ([.int .i64 houses] : List Value)) (k := 1) (o := 2) rfl (li_skip (A := ([.int .i64 start] : List Value)) (k := 1) (o := 1) rfl (li_skip (A := ([.slice notices_a notices.length notices_c] : List Value)) (k := 1) (o := 0) rfl (li_here (B := ([.slice pairs_a pairs.length pairs_c] : List Value) ++ (hit.flatMap (cI .i64))) (lfl (cI_ok .i64) h_walks2))))))))
     refine qv (v_indexA Try.underlying96 Try.sizeOf3 rfl rfl g29) rfl ?_
     refine qv (v_load Try.isAgg3 rfl (Has.frozen hb_c) ((hc34).2.2 0 (by decide))) rfl ?_
     refine qa rfl rfl (shQ_nil ?_)
     obtain ⟨k2, h36, r37⟩ := b1_ok r33; clear r33
     refine shW_join (fun e1 F1 L1 => F8 = F1 ∧ L1 = [(b1, .cells #[.int .i64 notice, .int .i64 house] 54 (0, 0))] ∧ e1.sub [(0, .pointer (some ⟨b_c, 0, none⟩)), (3, .pointer (some ⟨b1, 0, none⟩)), (5, .int .i64 out2), (8, .int .i64 x2), (13, .slice hears_a hears.length hears_c), (14, .int .i64 (hears.length : Int)), (15, .int .i64 k), (39, .bool k2)]) ?_ ?_
     · clear r37
       refine shW_region (om rfl rfl ?_)
       refine ov (v_neq rfl rfl) rfl ?_
       refine om rfl rfl ?_
       by_cases c38 : x2 ≠ (-1)
       · have r39 := ite_t h36 c38; clear h36
         refine shO_on (b := true) 34 rfl (Env.isT rfl c38) (om rfl rfl (shO_on (b := true) 34 rfl (Env.isT rfl c38) ?_))
         refine ov (v_fieldAddr fa_54_1 rfl) rfl ?_
         refine shO_on (b := true) 34 rfl (Env.isT rfl c38) ?_
         refine ov (v_load Try.isAgg3 rfl (Has.own 0 rfl) rfl) rfl ?_
         refine shO_on (b := true) 34 rfl (Env.isT rfl c38) ?_
         obtain ⟨ok, h40, r41⟩ := b1_ok r39; clear r39
         refine o_callV rfl Try.call55 rfl rfl rfl (slices_Contains_int_int_w h26 h40) ?_
         refine ov (v_pick_t (evD_true rfl c38) rfl) rfl ?_
         refine shO_nil ?_
         obtain rfl := inj1 r41
         exact mi kr ⟨rfl, rfl, (sc rfl (sc rfl (sc rfl (sc rfl (sc rfl (sc rfl (sc rfl (sc rfl (sn _)))))))))⟩
       have r42 := ite_f h36 c38; clear h36
       refine shO_off (b' := false) 34 rfl (Env.isF rfl c38) rfl rfl (shO_off (b' := false) 34 rfl (Env.isF rfl c38) rfl rfl (shO_off (b' := false) 34 rfl (Env.isF rfl c38) rfl rfl (shO_off (b' := false) 34 rfl (Env.isF rfl c38) rfl rfl ?_)))
       refine ov (v_pick_f (evD_false rfl c38) rfl) rfl ?_
       refine shO_nil ?_
       obtain rfl := inj1 r42
       exact mi kr ⟨rfl, rfl, (sc rfl (sc rfl (sc rfl (sc rfl (sc rfl (sc rfl (sc rfl (sc rfl (sn _)))))))))⟩
     rintro e1 _ _ ⟨rfl, rfl, he43⟩
     refine shW_env _ he43 ?_; clear he43
     refine shW_cond rfl (fun c44 => ?_) (fun c44 => ?_)
     · have r45 := bt r37 c44; clear r37
       refine shW_drawM [(.still, 0), (.still, 1), (.still, 2), (.still, 3), (.still, 4), (.still, 5), (.still, 6), (.still, 7), (.still, 8), (.still, 9), (.still, 10), (.still, 11), (.still, 12), (.seq, 13), (.seq, 14), (.seq, 15)] (by kernel_rfl) (by kernel_rfl) (trivial) (by rfl) (by kernel_rfl) ?_
       refine shM_v (v := .int .i64 out2) (ek := [(5, .int .i64 out2)]) (Ls := []) rfl rfl rfl rfl ((sc rfl (sn _))) (by kernel_rfl) sm (fun H F' L' hF' hL' => v_move rfl) ?_
       refine shM_v (v := .int .i64 x2) (ek := [(8, .int .i64 x2)]) (Ls := []) rfl rfl rfl rfl ((sc rfl (sn _))) (by kernel_rfl) sm (fun H F' L' hF' hL' => v_move rfl) ?_
       refine shM_v (v := .pointer (some ⟨b_c, 0, none⟩)) (ek := [(0, .pointer (some ⟨b_c, 0, none⟩))]) (Ls := []) rfl rfl rfl rfl ((sc rfl (sn _))) (by kernel_rfl) sm (fun H F' L' hF' hL' => v_move rfl) ?_
       refine shM_v (v := .pointer (some ⟨b_c, 0, none⟩)) (ek := [(42, .pointer (some ⟨b_c, 0, none⟩))]) (Ls := []) rfl rfl rfl rfl ((sc rfl (sn _))) (by kernel_rfl) sm (fun H F' L' hF' hL' => v_nilCheck rfl) ?_
       refine shM_v (v := .pointer (some ⟨b_c, 0, none⟩)) (ek := [(43, .pointer (some ⟨b_c, 0, none⟩))]) (Ls := []) rfl rfl rfl rfl ((sc rfl (sn _))) (by kernel_rfl) sm (fun H F' L' hF' hL' => v_fieldAddr fa_102_0 rfl) ?_
       refine shM_v (v := .pointer (some ⟨b_c, 4, none⟩)) (ek := [(44, .pointer (some ⟨b_c, 0, none⟩))]) (Ls := []) rfl rfl rfl rfl ((sc rfl (sn _))) (by kernel_rfl) sm (fun H F' L' hF' hL' => v_fieldAddr fa_26_4 rfl) ?_
       refine shM_v (v := .slice notices_a notices.length notices_c) (ek := [(45, .pointer (some ⟨b_c, 4, none⟩))]) (Ls := []) rfl rfl rfl rfl ((sc rfl (sn _))) (by kernel_rfl) sm (fun H F' L' hF' hL' => v_load Try.isAgg24 rfl ((Has.frozen hb_c).ext hF' hL') (li_cell (li_skip (A := ([.slice walks_a walks.length walks_c] : List Value)) (k := 1) (o := 3) rfl (li_skip (A := ([.slice hears_a hears.length hears_c] : List Value)) (k := 1) (o := 2) rfl (li_skip (A := ([.int .i64 houses] : List Value)) (k := 1) (o := 1) rfl (li_skip (A := ([.int .i64 start] : List Value)) (k := 1) (o := 0) rfl (li_here (B := walks2.flatMap (cI .i64) ++ (([.slice pairs_a pairs.length pairs_c] : List Value) ++ (hit.flatMap (cI .i64)))) rfl))))))) ?_
       refine shM_v (v := .pointer (some ⟨b1, 0, none⟩)) (ek := [(3, .pointer (some ⟨b1, 0, none⟩))]) (Ls := []) rfl rfl rfl rfl ((sc rfl (sn _))) (by kernel_rfl) sm (fun H F' L' hF' hL' => v_fieldAddr fa_54_0 rfl) ?_
       refine shM_v (v := .int .i64 notice) (ek := [(47, .pointer (some ⟨b1, 0, none⟩))]) (Ls := [(b1, .cells #[.int .i64 notice, .int .i64 house] 54 (0, 0))]) rfl rfl rfl rfl ((sc rfl (sn _))) (by kernel_rfl) (s0 sr) (fun H F' L' hF' hL' => v_load Try.isAgg3 rfl ((Has.own 0 rfl).ext hF' hL') rfl) ?_
       obtain ⟨x3, g46, hx47, r48⟩ := ix_ok r45; clear r45
       obtain ⟨b49, o50, c51, vs52, ha53, hs54, hle55, ⟨_, _, rfl, ⟨a58, c59, rfl, h60⟩, ⟨_, _, rfl, rfl, rfl⟩⟩, hl56, hc57⟩ := RowR.at (prE_ok (slE_ok (iE_ok _)) (prE_ok (iE_ok _) (iE_ok _))) h_notices ([]) g46.1 hx47
       refine shM_v (v := .pointer (some ⟨b49, o50 + (notice : Int).toNat * 3, none⟩)) (ek := [(46, .slice notices_a notices.length notices_c), (48, .int .i64 notice)]) (Ls := []) rfl rfl rfl rfl ((sc rfl (sc rfl (sn _)))) (by kernel_rfl) sm (fun H F' L' hF' hL' => v_indexO Try.underlying24 Try.sizeOf39 rfl ha53 rfl g46) ?_
       refine shM_v (v := .pointer (some ⟨b49, o50 + (notice : Int).toNat * 3 + 1, none⟩)) (ek := [(49, .pointer (some ⟨b49, o50 + (notice : Int).toNat * 3, none⟩))]) (Ls := []) rfl rfl rfl rfl ((sc rfl (sn _))) (by kernel_rfl) sm (fun H F' L' hF' hL' => v_fieldAddr fa_39_1 rfl) ?_
       refine shM_v (v := .int .i64 x3.2.1) (ek := [(50, .pointer (some ⟨b49, o50 + (notice : Int).toNat * 3 + 1, none⟩))]) (Ls := []) rfl rfl rfl rfl ((sc rfl (sn _))) (by kernel_rfl) sm (fun H F' L' hF' hL' => v_load Try.isAgg3 rfl (hs54.ext hF' hL') (hc57 1 (by decide))) ?_
       obtain ⟨g61, r62⟩ := gd_ok r48; clear r48
       refine shM_v (v := .int .i64 (x2 + x3.2.1)) (ek := [(41, .int .i64 x2), (51, .int .i64 x3.2.1)]) (Ls := []) rfl rfl rfl rfl ((sc rfl (sc rfl (sn _)))) (by kernel_rfl) sm (fun H F' L' hF' hL' => v_add rfl rfl g61) ?_
       refine ⟨_, [(40, .int .i64 out2), (52, .int .i64 (x2 + x3.2.1))], rfl, rfl, (sc rfl (sc rfl (sn _))), by kernel_rfl, ?_⟩; intro H
       refine o_buildSlice (cs := #[.int .i64 out2, .int .i64 (x2 + x3.2.1)]) rfl rfl (buildSlice_all slt_30 [.int .i64 out2, .int .i64 (x2 + x3.2.1)] rfl (by decide) (by simp [Value.cells]) (by decide)) ?_; intro b63 hb63
       refine shO_nil ⟨_, rfl, FExt.refl _, [7, 5, 4, 3, 2], by kernel_rfl, .inl (.inr (fun d h => by cases h; rfl)), (List.forall_mem_cons.2 ⟨sm, (List.forall_mem_cons.2 ⟨sm, (List.forall_mem_cons.2 ⟨sm, (List.forall_mem_cons.2 ⟨sm, (List.forall_mem_cons.2 ⟨sm, (fun _ h => absurd h List.not_mem_nil)⟩)⟩)⟩)⟩)⟩), ?_⟩
       refine ⟨_, [(53, .slice (some ⟨b63, 0, none⟩) 2 2)], rfl, rfl, (sc rfl (sn _)), by kernel_rfl, ?_⟩; intro H
       refine shO_freeze 0 rfl hb63 ?_; intro F64 hF65 hz66
       refine shO_L (L' := [(b1, .cells #[.int .i64 notice, .int .i64 house] 54 (0, 0))]) rfl ?_
       replace h_hears := h_hears.mono (slE_ok (iE_ok _)) hF65
       have h67 : RowR 1 (iE .i64) F64 (some ⟨b63, 0, none⟩) 2 [out2, x2 + x3.2.1] := RowR.of_block (iE_ok _) (vss := [[.int .i64 out2], [.int .i64 (x2 + x3.2.1)]]) (xs := [out2, x2 + x3.2.1]) hz66 (.cons rfl (.cons rfl .nil)) rfl (by simp [maxLen])
       obtain ⟨n, h68, r69⟩ := b1_ok r62; clear r62
       refine o_callV rfl Try.call73 rfl rfl rfl (round_soonest_w h67 h68) ?_
       refine shO_nil ⟨_, rfl, hF65, [7, 5, 4, 3, 2], by kernel_rfl, .inl (.inr (fun d h => by cases h; rfl)), (List.forall_mem_cons.2 ⟨sm, (List.forall_mem_cons.2 ⟨sm, (List.forall_mem_cons.2 ⟨sm, (List.forall_mem_cons.2 ⟨sm, (List.forall_mem_cons.2 ⟨sm, (fun _ h => absurd h List.not_mem_nil)⟩)⟩)⟩)⟩)⟩), ?_⟩
       refine ⟨_, [(54, .int .i64 n)], rfl, rfl, (sc rfl (sn _)), by kernel_rfl, ?_⟩; intro H
       refine oa rfl rfl ?_
       refine shO_nil ⟨_, rfl, FExt.refl _, [], by kernel_rfl, .inl (.inl rfl), (fun _ h => absurd h List.not_mem_nil), ?_⟩
       refine shM_nil ?_
       refine inBlock_n (id := 1) (shW_region ?_)
       refine ov (v_add rfl rfl (Lst.r64 hk4 c11 (RowR.lt h_hears))) rfl ?_
       refine om rfl rfl (shO_nil ?_)
       subst hn5; exact le kr ⟨_, _, rfl, hk12, n, r69, (hF9.trans hF65), rfl, (sc rfl (sc rfl (sc rfl (sc rfl (sc rfl (sc rfl (sn _)))))))⟩
     have r70 := bf r37 c44; clear r37
     refine shW_skip (inBlock_n (id := 1) (shW_region ?_))
     refine ov (v_add rfl rfl (Lst.r64 hk4 c11 (RowR.lt h_hears))) rfl ?_
     refine om rfl rfl (shO_nil ?_)
     subst hn5; exact le kr ⟨_, _, rfl, hk12, out2, r70, hF9, rfl, (sc rfl (sc rfl (sc rfl (sc rfl (sc rfl (sc rfl (sn _)))))))⟩
   obtain rfl := Lst.zero hk4 c11
   rw [round_crier_first_l1] at r6
   refine shW_exit (andThen_exit (andThen_exit ?_))
   refine inBlock_exit ?_
   obtain rfl := inj1 r6
   exact mi kn ⟨hF9, rfl, (sc rfl (sn _))⟩
 rintro e1 F72 _ ⟨hF73, rfl, he71⟩
 refine shW_env _ he71 ?_; clear he71
 refine wsr (om rfl rfl (oa rfl rfl (shO_nil (shW_ret ?_))))
 refine q_res1 Try.results67 (res_tmp rfl) (sr) ?_
 obtain rfl := inj1 r3
 exact rfl
set_option maxHeartbeats 1000000 in
theorem round_Soonest_w {walks_a : Option Addr} {walks_c : Nat} {walks : List (List Int)} {hears_a : Option Addr} {hears_c : Nat} {hears : List (List Int)} {houses : Int} {start : Int} {notices_a : Option Addr} {notices_c : Nat} {notices : List ((List Int) × Int × Int)} {notice : Int} {house : Int} {F : FS} (h_walks : RowR 1 (slE 1 (iE .i64)) F walks_a walks_c walks) (h_hears : RowR 1 (slE 1 (iE .i64)) F hears_a hears_c hears) (h_notices : RowR 3 (prE (slE 1 (iE .i64)) (prE (iE .i64) (iE .i64))) F notices_a notices_c notices) {r : Int} {r2 : Int} (hr : round_Soonest walks hears houses start notices notice house = some (r, r2)) :
    SpecV Try.prog 40 #[.agg #[.slice walks_a walks.length walks_c, .slice hears_a hears.length hears_c, .int .i64 houses, .int .i64 start, .slice notices_a notices.length notices_c], .agg #[.int .i64 notice, .int .i64 house]] F (.tuple #[.int .i64 r, .int .i64 r2]) := by
 refine spec_of_shW (args := [.agg #[.slice walks_a walks.length walks_c, .slice hears_a hears.length hears_c, .int .i64 houses, .int .i64 start, .slice notices_a notices.length notices_c], .agg #[.int .i64 notice, .int .i64 house]]) Try.func40 rfl Try.ntmps40 (Nat.le_of_ble_eq_true rfl) ?_
 intro K _ _; rw [round_Soonest] at hr
 refine wsr ?_
 refine o_box rfl rfl ?_; intro b1 hb1
 refine o_box rfl rfl ?_; intro b2 hb2
 refine oa rfl rfl (oa rfl rfl (nsr ?_))
 refine ov (v_loadA (cs := #[.slice walks_a walks.length walks_c, .slice hears_a hears.length hears_c, .int .i64 houses, .int .i64 start, .slice notices_a notices.length notices_c]) Try.isAgg26 Try.sizeOf26 rfl (Has.own 1 rfl) (Nat.le_of_ble_eq_true rfl) rfl) rfl ?_
 obtain ⟨d, n, h3, r4⟩ := b2_ok hr; clear hr
 refine o_call0 rfl Try.call26 rfl rfl rfl (round_opened_w h_walks h_hears h_notices h3) ?_; rintro _ F5 _ hF6 hn7 ⟨v9, rfl, rfl, hp10⟩
 refine shO_L (ln rfl) ?_
 refine om rfl rfl (ox rfl rfl rfl (ox rfl rfl rfl (oa rfl rfl (oa rfl rfl (shO_nil (shW_seq ?_))))))
 refine shW_block ?_
 refine wsr (om rfl rfl ?_)
 refine ov (v_neq rfl rfl) rfl ?_
 refine oa rfl rfl (shO_nil ?_)
 refine shW_condP rfl (fun c11 => ?_) (fun c11 => ?_)
 · have r12 := ite_t r4 c11; clear r4
   refine wsr (om rfl rfl (oa rfl rfl (oa rfl rfl (shO_nil ?_))))
   refine kW kn ?_
   refine shW_ret (inBlock_ret (andThen_ret ?_))
   refine q_res2 Try.results40 (res_tmp rfl) (res_tmp rfl) (sr) ?_
   obtain ⟨rfl, rfl⟩ := inj2 r12
   exact rfl
 have r13 := ite_f r4 c11; clear r4
 refine wsr (om rfl rfl ?_)
 refine ov (v_loadA (cs := #[.int .i64 notice, .int .i64 house]) Try.isAgg54 Try.sizeOf54 rfl (Has.own 0 rfl) (Nat.le_of_ble_eq_true rfl) rfl) rfl ?_
 obtain ⟨walks2, hears2, houses2, start2, notices2, walks3, pairs, hit, h14, r15⟩ := b8_ok r13; clear r13
 have h35 := hp10; rw [h14] at h35; obtain ⟨b16, c17, m18, hv19, hz20, ⟨_, _, rfl, ⟨a21, c22, rfl, h23⟩, ⟨_, _, rfl, ⟨a24, c25, rfl, h26⟩, ⟨_, _, rfl, rfl, ⟨_, _, rfl, rfl, ⟨_, _, rfl, ⟨a27, c28, rfl, h29⟩, ⟨_, _, rfl, ⟨rfl, h30⟩, ⟨_, _, rfl, ⟨a31, c32, rfl, h33⟩, ⟨rfl, h34⟩⟩⟩⟩⟩⟩⟩⟩⟩ := h35; subst hv19
 have hz20 : F5 b16 = some (.cells ((([.slice a21 walks2.length c22] : List Value) ++ (([.slice a24 hears2.length c25] : List Value) ++ (([.int .i64 houses2] : List Value) ++ (([.int .i64 start2] : List Value) ++ (([.slice a27 notices2.length c28] : List Value) ++ (walks3.flatMap (cI .i64) ++ (([.slice a31 pairs.length c32] : List Value) ++ (hit.flatMap (cI .i64))))))))).toArray) 102 m18) := hz20
 obtain ⟨n2, h36, r37⟩ := b1_ok r15; clear r15
 refine o_callV rfl Try.call47 rfl rfl rfl (round_crier_index_w hz20 h23 h26 h29 h30 h33 h34 h36) ?_
 refine ov (v_lssK rfl rfl) rfl ?_
 refine oa rfl rfl (shO_nil ?_)
 refine shW_condP rfl (fun c38 => ?_) (fun c38 => ?_)
 · have r39 := ite_t r37 c38; clear r37
   refine wsr (oa rfl rfl (oa rfl rfl (shO_nil ?_)))
   refine kW kn ?_
   refine shW_ret (inBlock_ret (andThen_ret ?_))
   refine q_res2 Try.results40 (res_tmp rfl) (res_tmp rfl) (sr) ?_
   obtain ⟨rfl, rfl⟩ := inj2 r39
   exact rfl
 have r40 := ite_f r37 c38; clear r37
 refine shW_skip (inBlock_n (id := 0) (wsr (om rfl rfl ?_)))
 refine ov (v_loadA (cs := #[.int .i64 notice, .int .i64 house]) Try.isAgg54 Try.sizeOf54 rfl (Has.own 0 rfl) (Nat.le_of_ble_eq_true rfl) rfl) rfl ?_
 obtain ⟨n3, h41, r42⟩ := b1_ok r40; clear r40
 refine o_callV rfl Try.call67 rfl rfl rfl (round_crier_first_w hz20 h23 h26 h29 h30 h33 h34 h41) ?_
 refine oa rfl rfl (shO_nil (shW_seq (wsr (om rfl rfl ?_))))
 refine ov (v_eql rfl rfl) rfl ?_
 refine shO_nil ?_
 refine shW_condP rfl (fun c43 => ?_) (fun c43 => ?_)
 · have r44 := ite_t r42 c43; clear r42
   refine wsr (oa rfl rfl (oa rfl rfl (shO_nil ?_)))
   refine kW kn ?_
   refine shW_ret (andThen_ret ?_)
   refine q_res2 Try.results40 (res_tmp rfl) (res_tmp rfl) (sr) ?_
   obtain ⟨rfl, rfl⟩ := inj2 r44
   exact rfl
 have r45 := ite_f r42 c43; clear r42
 refine shW_skip (wsr (om rfl rfl (oa rfl rfl (oa rfl rfl (shO_nil ?_)))))
 refine kW kn ?_
 refine shW_ret ?_
 refine q_res2 Try.results40 (res_tmp rfl) (res_tmp rfl) (sr) ?_
 obtain ⟨rfl, rfl⟩ := inj2 r45
 exact rfl
set_option maxHeartbeats 1000000 in
theorem oyezlaw03_awake_w {F : FS} {r : Bool} (hr : oyezlaw03_awake = some r) :
    SpecV Try.prog 12 #[] F (.bool r) := by
 refine spec_of_shW (args := []) Try.func12 rfl Try.ntmps12 (Nat.le_of_ble_eq_true rfl) ?_
 intro K _ _; rw [oyezlaw03_awake] at hr
 refine wsr (oa rfl rfl (nsr ?_))
 obtain ⟨l, l2, n, n2, l3, h1, r2⟩ := b5_ok hr; clear hr
 refine o_call0 rfl Try.call34 rfl rfl rfl (oyezlaw03_Three_w h1) ?_; rintro _ F3 _ hF4 hn5 ⟨a7, n11, c8, Lb9, a13, n17, c14, Lb15, a19, n23, c20, Lb21, rfl, rfl, hz10, hz16, hz22⟩
 replace hz10 := hz10.new fun p hp => hn5 p (by simp [hp])
 replace hz16 := hz16.new fun p hp => hn5 p (by simp [hp])
 replace hz22 := hz22.new fun p hp => hn5 p (by simp [hp])
 refine shO_L (lp (lp (lp (ln rfl)))) ?_
 obtain ⟨l4, n3, n4, h25, r26⟩ := b3_ok r2; clear r2
 refine o_callTO (Lb := []) (Lt := Lb9 ++ (Lb15 ++ (Lb21 ++ []))) (Lr := []) rfl Try.call9 rfl rfl rfl (pT pR (ln (lp (lp (lp (ln rfl)))))) (fun F2 h2 h3 => by rw [(SlR.caps hz10).1]; rw [(SlR.caps hz16).1]; rw [(SlR.caps hz22).1]; exact round_Best_w (hz10.row (slE_ok (iE_ok _)) h2 (fun p hp => h3 p (List.mem_append_left _ hp))) (hz16.row (slE_ok (iE_ok _)) h2 (fun p hp => h3 p (List.mem_append_right _ (List.mem_append_left _ hp)))) (hz22.row (prE_ok (slE_ok (iE_ok _)) (prE_ok (iE_ok _) (iE_ok _))) h2 (fun p hp => h3 p (List.mem_append_right _ (List.mem_append_right _ (List.mem_append_left _ hp))))) h25) (fun _ _ _ _ hq => by obtain ⟨a31, n35, c32, Lb33, rfl, rfl, hz34⟩ := hq; exact ⟨_, _, _, _, rfl, rfl, hz34.flat (fun _ _ h => h)⟩) ?_; rintro _ F27 _ hF28 hd30 hn29 ⟨a31, n35, c32, Lb33, rfl, rfl, hz34⟩
 have hn37 := newp (Lb' := []) (by rfl) hd30 hn29
 replace hz34 := hz34.new fun p hp => hn37 p (by simp [hp])
 refine shO_L (lp (ln (lp (lp (lp (ln rfl)))))) ?_
 refine om rfl rfl (ox rfl rfl rfl (ox rfl rfl rfl (ox rfl rfl rfl (oa rfl rfl (oa rfl rfl (oa rfl rfl (nsr ?_)))))))
 obtain ⟨l5, l6, n5, n6, l7, h38, r39⟩ := b5_ok r26; clear r26
 refine o_call0 rfl Try.call34 rfl rfl rfl (oyezlaw03_Three_w h38) ?_; rintro _ F40 _ hF41 hn42 ⟨a44, n48, c45, Lb46, a50, n54, c51, Lb52, a56, n60, c57, Lb58, rfl, rfl, hz47, hz53, hz59⟩
 replace hz34 := hz34.mono (prE_ok (iE_ok _) (iE_ok _)) hF41
 replace hz47 := hz47.new fun p hp => hn42 p (by simp [hp])
 replace hz53 := hz53.new fun p hp => hn42 p (by simp [hp])
 replace hz59 := hz59.new fun p hp => hn42 p (by simp [hp])
 refine shO_L (lp (lp (lp (ln rfl)))) ?_
 refine om rfl rfl ?_
 obtain ⟨l8, n7, h62, r63⟩ := b2_ok r39; clear r39
 refine o_callTO (Lb := []) (Lt := Lb46 ++ (Lb52 ++ (Lb58 ++ (Lb33 ++ [])))) (Lr := Lb9 ++ (Lb15 ++ (Lb21 ++ []))) rfl Try.call35 rfl rfl rfl (pT pR (ln (lp (lp (lp (lp (ln rfl))))))) (fun F2 h2 h3 => by rw [(SlR.caps hz47).1]; rw [(SlR.caps hz53).1]; rw [(SlR.caps hz59).1]; rw [(SlR.caps hz34).1]; exact round_Missed_w (hz47.row (slE_ok (iE_ok _)) h2 (fun p hp => h3 p (List.mem_append_left _ hp))) (hz53.row (slE_ok (iE_ok _)) h2 (fun p hp => h3 p (List.mem_append_right _ (List.mem_append_left _ hp)))) (hz59.row (prE_ok (slE_ok (iE_ok _)) (prE_ok (iE_ok _) (iE_ok _))) h2 (fun p hp => h3 p (List.mem_append_right _ (List.mem_append_right _ (List.mem_append_left _ hp))))) (hz34.row (prE_ok (iE_ok _) (iE_ok _)) h2 (fun p hp => h3 p (List.mem_append_right _ (List.mem_append_right _ (List.mem_append_right _ (List.mem_append_left _ hp)))))) h62) (fun _ _ _ _ hq => by obtain ⟨a68, n72, c69, Lb70, rfl, rfl, hz71⟩ := hq; exact ⟨_, _, _, _, rfl, rfl, hz71.flat (fun _ _ h => h)⟩) ?_; rintro _ F64 _ hF65 hd67 hn66 ⟨a68, n72, c69, Lb70, rfl, rfl, hz71⟩
 have hn74 := newp (Lb' := []) (by rfl) hd67 hn66
 replace hz71 := hz71.new fun p hp => hn74 p (by simp [hp])
 refine shO_L (lp (ln (lp (lp (lp (lp (ln rfl))))))) ?_
 refine om rfl rfl (ox rfl rfl rfl (ox rfl rfl rfl (oa rfl rfl (oa rfl rfl (nsr ?_)))))
 obtain ⟨l9, l10, n8, n9, l11, h75, r76⟩ := b5_ok r63; clear r63
 refine o_call0 rfl Try.call34 rfl rfl rfl (oyezlaw03_Three_w h75) ?_; rintro _ F77 _ hF78 hn79 ⟨a81, n85, c82, Lb83, a87, n91, c88, Lb89, a93, n97, c94, Lb95, rfl, rfl, hz84, hz90, hz96⟩
 replace hz71 := hz71.mono (prE_ok (iE_ok _) (iE_ok _)) hF78
 replace hz84 := hz84.new fun p hp => hn79 p (by simp [hp])
 replace hz90 := hz90.new fun p hp => hn79 p (by simp [hp])
 replace hz96 := hz96.new fun p hp => hn79 p (by simp [hp])
 refine shO_L (lp (lp (lp (ln rfl)))) ?_
 obtain ⟨n10, n11, h99, r100⟩ := b2_ok r76; clear r76
 refine o_callT (Lt := Lb83 ++ (Lb89 ++ (Lb95 ++ []))) (Lr := Lb70 ++ (Lb46 ++ (Lb52 ++ (Lb58 ++ (Lb33 ++ (Lb9 ++ (Lb15 ++ (Lb21 ++ [])))))))) rfl Try.call36 rfl rfl rfl (pT pR (lp (lp (lp (ln rfl))))) (fun F2 h2 h3 => by rw [(SlR.caps hz84).1]; rw [(SlR.caps hz90).1]; rw [(SlR.caps hz96).1]; exact round_Walk_w (hz84.row (slE_ok (iE_ok _)) h2 (fun p hp => h3 p (List.mem_append_left _ hp))) (hz90.row (slE_ok (iE_ok _)) h2 (fun p hp => h3 p (List.mem_append_right _ (List.mem_append_left _ hp)))) (hz96.row (prE_ok (slE_ok (iE_ok _)) (prE_ok (iE_ok _) (iE_ok _))) h2 (fun p hp => h3 p (List.mem_append_right _ (List.mem_append_right _ (List.mem_append_left _ hp))))) h99) ?_
 refine om rfl rfl (ox rfl rfl rfl (ox rfl rfl rfl (oa rfl rfl (oa rfl rfl (nsr ?_)))))
 obtain ⟨l12, l13, n12, n13, l14, h101, r102⟩ := b5_ok r100; clear r100
 refine o_call0 rfl Try.call34 rfl rfl rfl (oyezlaw03_Three_w h101) ?_; rintro _ F103 _ hF104 hn105 ⟨a107, n111, c108, Lb109, a113, n117, c114, Lb115, a119, n123, c120, Lb121, rfl, rfl, hz110, hz116, hz122⟩
 replace hz71 := hz71.mono (prE_ok (iE_ok _) (iE_ok _)) hF104
 replace hz110 := hz110.new fun p hp => hn105 p (by simp [hp])
 replace hz116 := hz116.new fun p hp => hn105 p (by simp [hp])
 replace hz122 := hz122.new fun p hp => hn105 p (by simp [hp])
 refine shO_L (lp (lp (lp (ln rfl)))) ?_
 obtain ⟨l15, n14, h125, r126⟩ := b2_ok r102; clear r102
 refine o_callTO (Lb := []) (Lt := Lb109 ++ (Lb115 ++ (Lb121 ++ []))) (Lr := Lb83 ++ (Lb89 ++ (Lb95 ++ (Lb70 ++ (Lb46 ++ (Lb52 ++ (Lb58 ++ (Lb33 ++ (Lb9 ++ (Lb15 ++ (Lb21 ++ []))))))))))) rfl Try.call37 rfl rfl rfl (pT pR (ln (lp (lp (lp (ln rfl)))))) (fun F2 h2 h3 => by rw [(SlR.caps hz110).1]; rw [(SlR.caps hz116).1]; rw [(SlR.caps hz122).1]; exact round_Before_w (hz110.row (slE_ok (iE_ok _)) h2 (fun p hp => h3 p (List.mem_append_left _ hp))) (hz116.row (slE_ok (iE_ok _)) h2 (fun p hp => h3 p (List.mem_append_right _ (List.mem_append_left _ hp)))) (hz122.row (prE_ok (slE_ok (iE_ok _)) (prE_ok (iE_ok _) (iE_ok _))) h2 (fun p hp => h3 p (List.mem_append_right _ (List.mem_append_right _ (List.mem_append_left _ hp))))) h125) (fun _ _ _ _ hq => by obtain ⟨a131, n135, c132, Lb133, rfl, rfl, hz134⟩ := hq; exact ⟨_, _, _, _, rfl, rfl, hz134.flat (fun _ _ h => h)⟩) ?_; rintro _ F127 _ hF128 hd130 hn129 ⟨a131, n135, c132, Lb133, rfl, rfl, hz134⟩
 replace hz71 := hz71.mono (prE_ok (iE_ok _) (iE_ok _)) hF128
 have hn137 := newp (Lb' := []) (by rfl) hd130 hn129
 replace hz134 := hz134.new fun p hp => hn137 p (by simp [hp])
 refine shO_L (lp (ln (lp (lp (lp (ln rfl)))))) ?_
 refine om rfl rfl (ox rfl rfl rfl (ox rfl rfl rfl (oa rfl rfl (oa rfl rfl (shO_nil (shW_seq ?_))))))
 obtain ⟨k, h138, r139⟩ := b1_ok r126; clear r126
 refine shW_join (fun e1 F1 L1 => FExt F127 F1 ∧ L1 = [] ∧ e1.sub [(71, .bool k)]) ?_ ?_
 · clear r139
   refine shW_region (om rfl rfl ?_)
   refine ov (v_neq rfl rfl) rfl ?_
   refine om rfl rfl ?_
   by_cases c140 : n4 ≠ 0
   · have r141 := ite_t h138 c140; clear h138
     refine shO_off (b' := true) 38 rfl (Env.isT rfl c140) rfl rfl (shO_off (b' := true) 38 rfl (Env.isT rfl c140) rfl rfl ?_)
     refine ov (v_pick_t (evD_true rfl c140) rfl) rfl ?_
     refine om rfl rfl (shO_off (b' := true) 42 rfl rfl rfl rfl (shO_off (b' := true) 42 rfl rfl rfl rfl ?_))
     refine ov (v_pick_t rfl rfl) rfl ?_
     refine om rfl rfl (shO_off (b' := true) 46 rfl rfl rfl rfl (shO_off (b' := true) 46 rfl rfl rfl rfl ?_))
     refine ov (v_pick_t rfl rfl) rfl ?_
     refine om rfl rfl (shO_off (b' := true) 50 rfl rfl rfl rfl (shO_off (b' := true) 50 rfl rfl rfl rfl ?_))
     refine ov (v_pick_t rfl rfl) rfl ?_
     refine om rfl rfl (shO_off (b' := true) 54 rfl rfl rfl rfl (shO_off (b' := true) 54 rfl rfl rfl rfl (shO_off (b' := true) 54 rfl rfl rfl rfl ?_)))
     refine ov (v_pick_t rfl rfl) rfl ?_
     refine om rfl rfl (shO_off (b' := true) 59 rfl rfl rfl rfl (shO_off (b' := true) 59 rfl rfl rfl rfl ?_))
     refine ov (v_pick_t rfl rfl) rfl ?_
     refine om rfl rfl (shO_off (b' := true) 63 rfl rfl rfl rfl (shO_off (b' := true) 63 rfl rfl rfl rfl (shO_off (b' := true) 63 rfl rfl rfl rfl (shO_off (b' := true) 63 rfl rfl rfl rfl (shO_off (b' := true) 63 rfl rfl rfl rfl (shO_off (b' := true) 63 rfl rfl rfl rfl (shO_off (b' := true) 63 rfl rfl rfl rfl ?_)))))))
     refine ov (v_pick_t rfl rfl) rfl ?_
     refine shO_nil ?_
     obtain rfl := inj1 r141
     exact mi kn ⟨FExt.refl _, rfl, (sc rfl (sn _))⟩
   have r142 := ite_f h138 c140; clear h138
   refine shO_on (b := false) 38 rfl (Env.isF rfl c140) (om rfl rfl (shO_on (b := false) 38 rfl (Env.isF rfl c140) ?_))
   refine ov (v_neq rfl rfl) rfl ?_
   refine ov (v_pick_f (evD_false rfl c140) rfl) rfl ?_
   refine om rfl rfl ?_
   by_cases c143 : n7 ≠ 0
   · have r144 := ite_t r142 c143; clear r142
     refine shO_off (b' := true) 42 rfl (Env.isT rfl c143) rfl rfl (shO_off (b' := true) 42 rfl (Env.isT rfl c143) rfl rfl ?_)
     refine ov (v_pick_t (evD_true rfl c143) rfl) rfl ?_
     refine om rfl rfl (shO_off (b' := true) 46 rfl rfl rfl rfl (shO_off (b' := true) 46 rfl rfl rfl rfl ?_))
     refine ov (v_pick_t rfl rfl) rfl ?_
     refine om rfl rfl (shO_off (b' := true) 50 rfl rfl rfl rfl (shO_off (b' := true) 50 rfl rfl rfl rfl ?_))
     refine ov (v_pick_t rfl rfl) rfl ?_
     refine om rfl rfl (shO_off (b' := true) 54 rfl rfl rfl rfl (shO_off (b' := true) 54 rfl rfl rfl rfl (shO_off (b' := true) 54 rfl rfl rfl rfl ?_)))
     refine ov (v_pick_t rfl rfl) rfl ?_
     refine om rfl rfl (shO_off (b' := true) 59 rfl rfl rfl rfl (shO_off (b' := true) 59 rfl rfl rfl rfl ?_))
     refine ov (v_pick_t rfl rfl) rfl ?_
     refine om rfl rfl (shO_off (b' := true) 63 rfl rfl rfl rfl (shO_off (b' := true) 63 rfl rfl rfl rfl (shO_off (b' := true) 63 rfl rfl rfl rfl (shO_off (b' := true) 63 rfl rfl rfl rfl (shO_off (b' := true) 63 rfl rfl rfl rfl (shO_off (b' := true) 63 rfl rfl rfl rfl (shO_off (b' := true) 63 rfl rfl rfl rfl ?_)))))))
     refine ov (v_pick_t rfl rfl) rfl ?_
     refine shO_nil ?_
     obtain rfl := inj1 r144
     exact mi kn ⟨FExt.refl _, rfl, (sc rfl (sn _))⟩
   have r145 := ite_f r142 c143; clear r142
   refine shO_on (b := false) 42 rfl (Env.isF rfl c143) (om rfl rfl (shO_on (b := false) 42 rfl (Env.isF rfl c143) ?_))
   refine ov (v_neq rfl rfl) rfl ?_
   refine ov (v_pick_f (evD_false rfl c143) rfl) rfl ?_
   refine om rfl rfl ?_
   by_cases c146 : n11 ≠ 0
   · have r147 := ite_t r145 c146; clear r145
     refine shO_off (b' := true) 46 rfl (Env.isT rfl c146) rfl rfl (shO_off (b' := true) 46 rfl (Env.isT rfl c146) rfl rfl ?_)
     refine ov (v_pick_t (evD_true rfl c146) rfl) rfl ?_
     refine om rfl rfl (shO_off (b' := true) 50 rfl rfl rfl rfl (shO_off (b' := true) 50 rfl rfl rfl rfl ?_))
     refine ov (v_pick_t rfl rfl) rfl ?_
     refine om rfl rfl (shO_off (b' := true) 54 rfl rfl rfl rfl (shO_off (b' := true) 54 rfl rfl rfl rfl (shO_off (b' := true) 54 rfl rfl rfl rfl ?_)))
     refine ov (v_pick_t rfl rfl) rfl ?_
     refine om rfl rfl (shO_off (b' := true) 59 rfl rfl rfl rfl (shO_off (b' := true) 59 rfl rfl rfl rfl ?_))
     refine ov (v_pick_t rfl rfl) rfl ?_
     refine om rfl rfl (shO_off (b' := true) 63 rfl rfl rfl rfl (shO_off (b' := true) 63 rfl rfl rfl rfl (shO_off (b' := true) 63 rfl rfl rfl rfl (shO_off (b' := true) 63 rfl rfl rfl rfl (shO_off (b' := true) 63 rfl rfl rfl rfl (shO_off (b' := true) 63 rfl rfl rfl rfl (shO_off (b' := true) 63 rfl rfl rfl rfl ?_)))))))
     refine ov (v_pick_t rfl rfl) rfl ?_
     refine shO_nil ?_
     obtain rfl := inj1 r147
     exact mi kn ⟨FExt.refl _, rfl, (sc rfl (sn _))⟩
   have r148 := ite_f r145 c146; clear r145
   refine shO_on (b := false) 46 rfl (Env.isF rfl c146) (om rfl rfl (shO_on (b := false) 46 rfl (Env.isF rfl c146) ?_))
   refine ov (v_neq rfl rfl) rfl ?_
   refine ov (v_pick_f (evD_false rfl c146) rfl) rfl ?_
   refine om rfl rfl ?_
   by_cases c149 : n14 ≠ 0
   · have r150 := ite_t r148 c149; clear r148
     refine shO_off (b' := true) 50 rfl (Env.isT rfl c149) rfl rfl (shO_off (b' := true) 50 rfl (Env.isT rfl c149) rfl rfl ?_)
     refine ov (v_pick_t (evD_true rfl c149) rfl) rfl ?_
     refine om rfl rfl (shO_off (b' := true) 54 rfl rfl rfl rfl (shO_off (b' := true) 54 rfl rfl rfl rfl (shO_off (b' := true) 54 rfl rfl rfl rfl ?_)))
     refine ov (v_pick_t rfl rfl) rfl ?_
     refine om rfl rfl (shO_off (b' := true) 59 rfl rfl rfl rfl (shO_off (b' := true) 59 rfl rfl rfl rfl ?_))
     refine ov (v_pick_t rfl rfl) rfl ?_
     refine om rfl rfl (shO_off (b' := true) 63 rfl rfl rfl rfl (shO_off (b' := true) 63 rfl rfl rfl rfl (shO_off (b' := true) 63 rfl rfl rfl rfl (shO_off (b' := true) 63 rfl rfl rfl rfl (shO_off (b' := true) 63 rfl rfl rfl rfl (shO_off (b' := true) 63 rfl rfl rfl rfl (shO_off (b' := true) 63 rfl rfl rfl rfl ?_)))))))
     refine ov (v_pick_t rfl rfl) rfl ?_
     refine shO_nil ?_
     obtain rfl := inj1 r150
     exact mi kn ⟨FExt.refl _, rfl, (sc rfl (sn _))⟩
   have r151 := ite_f r148 c149; clear r148
   refine shO_on (b := false) 50 rfl (Env.isF rfl c149) (om rfl rfl (shO_on (b := false) 50 rfl (Env.isF rfl c149) ?_))
   refine ov (v_neq rfl rfl) rfl ?_
   refine ov (v_pick_f (evD_false rfl c149) rfl) rfl ?_
   refine om rfl rfl ?_
   by_cases c152 : n3 ≠ 11
   · have r153 := ite_t r151 c152; clear r151
     refine shO_off (b' := true) 54 rfl (Env.isT rfl c152) rfl rfl (shO_off (b' := true) 54 rfl (Env.isT rfl c152) rfl rfl (shO_off (b' := true) 54 rfl (Env.isT rfl c152) rfl rfl ?_))
     refine ov (v_pick_t (evD_true rfl c152) rfl) rfl ?_
     refine om rfl rfl (shO_off (b' := true) 59 rfl rfl rfl rfl (shO_off (b' := true) 59 rfl rfl rfl rfl ?_))
     refine ov (v_pick_t rfl rfl) rfl ?_
     refine om rfl rfl (shO_off (b' := true) 63 rfl rfl rfl rfl (shO_off (b' := true) 63 rfl rfl rfl rfl (shO_off (b' := true) 63 rfl rfl rfl rfl (shO_off (b' := true) 63 rfl rfl rfl rfl (shO_off (b' := true) 63 rfl rfl rfl rfl (shO_off (b' := true) 63 rfl rfl rfl rfl (shO_off (b' := true) 63 rfl rfl rfl rfl ?_)))))))
     refine ov (v_pick_t rfl rfl) rfl ?_
     refine shO_nil ?_
     obtain rfl := inj1 r153
     exact mi kn ⟨FExt.refl _, rfl, (sc rfl (sn _))⟩
   have r154 := ite_f r151 c152; clear r151
   refine shO_on (b := false) 54 rfl (Env.isF rfl c152) (om rfl rfl (shO_on (b := false) 54 rfl (Env.isF rfl c152) ?_))
   refine ov ((v_lenS Try.underlying44 rfl).i (SlR.lenI hz71)) rfl ?_
   refine shO_on (b := false) 54 rfl (Env.isF rfl c152) ?_
   refine ov (v_gtrK rfl rfl) rfl ?_
   refine ov (v_pick_f (evD_false rfl c152) rfl) rfl ?_
   refine om rfl rfl ?_
   by_cases c155 : 0 < (l8.length : Int)
   · have r156 := ite_t r154 c155; clear r154
     refine shO_off (b' := true) 59 rfl (Env.isT rfl c155) rfl rfl (shO_off (b' := true) 59 rfl (Env.isT rfl c155) rfl rfl ?_)
     refine ov (v_pick_t (evD_true rfl c155) rfl) rfl ?_
     refine om rfl rfl (shO_off (b' := true) 63 rfl rfl rfl rfl (shO_off (b' := true) 63 rfl rfl rfl rfl (shO_off (b' := true) 63 rfl rfl rfl rfl (shO_off (b' := true) 63 rfl rfl rfl rfl (shO_off (b' := true) 63 rfl rfl rfl rfl (shO_off (b' := true) 63 rfl rfl rfl rfl (shO_off (b' := true) 63 rfl rfl rfl rfl ?_)))))))
     refine ov (v_pick_t rfl rfl) rfl ?_
     refine shO_nil ?_
     obtain rfl := inj1 r156
     exact mi kn ⟨FExt.refl _, rfl, (sc rfl (sn _))⟩
   have r157 := ite_f r154 c155; clear r154
   refine shO_on (b := false) 59 rfl (Env.isF rfl c155) (om rfl rfl (shO_on (b := false) 59 rfl (Env.isF rfl c155) ?_))
   refine ov (v_neq rfl rfl) rfl ?_
   refine ov (v_pick_f (evD_false rfl c155) rfl) rfl ?_
   refine om rfl rfl ?_
   by_cases c158 : n10 ≠ 4
   · have r159 := ite_t r157 c158; clear r157
     refine shO_off (b' := true) 63 rfl (Env.isT rfl c158) rfl rfl (shO_off (b' := true) 63 rfl (Env.isT rfl c158) rfl rfl (shO_off (b' := true) 63 rfl (Env.isT rfl c158) rfl rfl (shO_off (b' := true) 63 rfl (Env.isT rfl c158) rfl rfl (shO_off (b' := true) 63 rfl (Env.isT rfl c158) rfl rfl (shO_off (b' := true) 63 rfl (Env.isT rfl c158) rfl rfl (shO_off (b' := true) 63 rfl (Env.isT rfl c158) rfl rfl ?_))))))
     refine ov (v_pick_t (evD_true rfl c158) rfl) rfl ?_
     refine shO_nil ?_
     obtain rfl := inj1 r159
     exact mi kn ⟨FExt.refl _, rfl, (sc rfl (sn _))⟩
   have r160 := ite_f r157 c158; clear r157
   refine shO_on (b := false) 63 rfl (Env.isF rfl c158) (om rfl rfl (shO_on (b := false) 63 rfl (Env.isF rfl c158) ?_))
   refine ov (v_build (v := .agg #[.int .i64 0, .int .i64 0]) rfl (by intro w; kernel_rfl)) rfl ?_
   refine shO_on (b := false) 63 rfl (Env.isF rfl c158) ?_
   refine ov (v_build (v := .agg #[.int .i64 0, .int .i64 2]) rfl (by intro w; kernel_rfl)) rfl ?_
   refine shO_on (b := false) 63 rfl (Env.isF rfl c158) ?_
   refine ov (v_build (v := .agg #[.int .i64 1, .int .i64 1]) rfl (by intro w; kernel_rfl)) rfl ?_
   refine shO_on (b := false) 63 rfl (Env.isF rfl c158) ?_
   refine o_buildSlice (cs := #[.int .i64 0, .int .i64 0, .int .i64 0, .int .i64 2, .int .i64 1, .int .i64 1]) rfl rfl (buildSlice_all slt_44 [.agg #[.int .i64 0, .int .i64 0], .agg #[.int .i64 0, .int .i64 2], .agg #[.int .i64 1, .int .i64 1]] rfl (by decide) (by simp [Value.cells]) (by decide)) ?_; intro b161 hb161
   refine shO_on (b := false) 63 rfl (Env.isF rfl c158) ?_
   refine shO_freeze 0 rfl hb161 ?_; intro F162 hF163 hz164
   refine shO_L (L' := Lb133 ++ (Lb109 ++ (Lb115 ++ (Lb121 ++ (Lb83 ++ (Lb89 ++ (Lb95 ++ (Lb70 ++ (Lb46 ++ (Lb52 ++ (Lb58 ++ (Lb33 ++ (Lb9 ++ (Lb15 ++ (Lb21 ++ []))))))))))))))) rfl ?_
   replace hz134 := hz134.mono (prE_ok (iE_ok _) (iE_ok _)) hF163
   have h165 : RowR 2 (prE (iE .i64) (iE .i64)) F162 (some ⟨b161, 0, none⟩) 3 [(0, 0), (0, 2), (1, 1)] := RowR.of_block (prE_ok (iE_ok _) (iE_ok _)) (vss := [[.int .i64 0, .int .i64 0], [.int .i64 0, .int .i64 2], [.int .i64 1, .int .i64 1]]) (xs := [(0, 0), (0, 2), (1, 1)]) hz164 (.cons ⟨_, _, rfl, rfl, rfl⟩ (.cons ⟨_, _, rfl, rfl, rfl⟩ (.cons ⟨_, _, rfl, rfl, rfl⟩ .nil))) rfl (by simp [maxLen])
   obtain ⟨ok, h166, r167⟩ := b1_ok r160; clear r160
   refine o_callT (Lt := Lb133 ++ []) (Lr := Lb109 ++ (Lb115 ++ (Lb121 ++ (Lb83 ++ (Lb89 ++ (Lb95 ++ (Lb70 ++ (Lb46 ++ (Lb52 ++ (Lb58 ++ (Lb33 ++ (Lb9 ++ (Lb15 ++ (Lb21 ++ [])))))))))))))) rfl Try.call38 rfl rfl rfl (pT pR (lp (ln rfl))) (fun F2 h2 h3 => by rw [(SlR.caps hz134).1]; exact oyezkit_Like_Pair_w (hz134.row (prE_ok (iE_ok _) (iE_ok _)) h2 (fun p hp => h3 p (List.mem_append_left _ hp))) (h165.mono (prE_ok (iE_ok _) (iE_ok _)) h2) h166) ?_
   refine shO_on (b := false) 63 rfl (Env.isF rfl c158) ?_
   refine ov (v_notB rfl) rfl ?_
   refine ov (v_pick_f (evD_false rfl c158) rfl) rfl ?_
   refine shO_nil ?_
   obtain rfl := inj1 r167
   exact mi kn ⟨hF163, rfl, (sc rfl (sn _))⟩
 rintro e1 F169 _ ⟨hF170, rfl, he168⟩
 refine shW_env _ he168 ?_; clear he168
 refine shW_cond rfl (fun c171 => ?_) (fun c171 => ?_)
 · have r172 := bt r139 c171; clear r139
   refine wsr (oa rfl rfl (shO_nil (shW_ret (andThen_ret ?_))))
   refine q_res1 Try.results12 (res_tmp rfl) (sr) ?_
   obtain rfl := inj1 r172
   exact rfl
 have r173 := bf r139 c171; clear r139
 refine shW_skip (wsr ?_)
 obtain ⟨l16, l17, n15, n16, l18, h174, r175⟩ := b5_ok r173; clear r173
 refine o_call0 rfl Try.call34 rfl rfl rfl (oyezlaw03_Three_w h174) ?_; rintro _ F176 _ hF177 hn178 ⟨a180, n184, c181, Lb182, a186, n190, c187, Lb188, a192, n196, c193, Lb194, rfl, rfl, hz183, hz189, hz195⟩
 replace hz183 := hz183.new fun p hp => hn178 p (by simp [hp])
 replace hz189 := hz189.new fun p hp => hn178 p (by simp [hp])
 replace hz195 := hz195.new fun p hp => hn178 p (by simp [hp])
 refine shO_L (lp (lp (lp (ln rfl)))) ?_
 obtain ⟨n17, n18, h198, r199⟩ := b2_ok r175; clear r175
 refine o_callT (Lt := Lb182 ++ (Lb188 ++ (Lb194 ++ []))) (Lr := []) rfl Try.call39 rfl rfl rfl (pT pR (lp (lp (lp (ln rfl))))) (fun F2 h2 h3 => by rw [(SlR.caps hz183).1]; rw [(SlR.caps hz189).1]; rw [(SlR.caps hz195).1]; exact round_Hurry_w (hz183.row (slE_ok (iE_ok _)) h2 (fun p hp => h3 p (List.mem_append_left _ hp))) (hz189.row (slE_ok (iE_ok _)) h2 (fun p hp => h3 p (List.mem_append_right _ (List.mem_append_left _ hp)))) (hz195.row (prE_ok (slE_ok (iE_ok _)) (prE_ok (iE_ok _) (iE_ok _))) h2 (fun p hp => h3 p (List.mem_append_right _ (List.mem_append_right _ (List.mem_append_left _ hp))))) h198) ?_
 refine om rfl rfl (ox rfl rfl rfl (ox rfl rfl rfl (oa rfl rfl (oa rfl rfl (nsr ?_)))))
 obtain ⟨l19, l20, n19, n20, l21, h200, r201⟩ := b5_ok r199; clear r199
 refine o_call0 rfl Try.call34 rfl rfl rfl (oyezlaw03_Three_w h200) ?_; rintro _ F202 _ hF203 hn204 ⟨a206, n210, c207, Lb208, a212, n216, c213, Lb214, a218, n222, c219, Lb220, rfl, rfl, hz209, hz215, hz221⟩
 replace hz209 := hz209.new fun p hp => hn204 p (by simp [hp])
 replace hz215 := hz215.new fun p hp => hn204 p (by simp [hp])
 replace hz221 := hz221.new fun p hp => hn204 p (by simp [hp])
 refine shO_L (lp (lp (lp (ln rfl)))) ?_
 refine ov (v_build (v := .agg #[.int .i64 0, .int .i64 2]) rfl (by intro w; kernel_rfl)) rfl ?_
 obtain ⟨n21, n22, h224, r225⟩ := b2_ok r201; clear r201
 refine o_callT (Lt := Lb208 ++ (Lb214 ++ (Lb220 ++ []))) (Lr := Lb182 ++ (Lb188 ++ (Lb194 ++ []))) rfl Try.call40 rfl rfl rfl (pT pR (lp (lp (lp (ln rfl))))) (fun F2 h2 h3 => by rw [(SlR.caps hz209).1]; rw [(SlR.caps hz215).1]; rw [(SlR.caps hz221).1]; exact round_Soonest_w (hz209.row (slE_ok (iE_ok _)) h2 (fun p hp => h3 p (List.mem_append_left _ hp))) (hz215.row (slE_ok (iE_ok _)) h2 (fun p hp => h3 p (List.mem_append_right _ (List.mem_append_left _ hp)))) (hz221.row (prE_ok (slE_ok (iE_ok _)) (prE_ok (iE_ok _) (iE_ok _))) h2 (fun p hp => h3 p (List.mem_append_right _ (List.mem_append_right _ (List.mem_append_left _ hp))))) h224) ?_
 refine om rfl rfl (ox rfl rfl rfl (ox rfl rfl rfl (oa rfl rfl (oa rfl rfl (nsr ?_)))))
 obtain ⟨l22, l23, n23, n24, l24, h226, r227⟩ := b5_ok r225; clear r225
 refine o_call0 rfl Try.call34 rfl rfl rfl (oyezlaw03_Three_w h226) ?_; rintro _ F228 _ hF229 hn230 ⟨a232, n236, c233, Lb234, a238, n242, c239, Lb240, a244, n248, c245, Lb246, rfl, rfl, hz235, hz241, hz247⟩
 replace hz235 := hz235.new fun p hp => hn230 p (by simp [hp])
 replace hz241 := hz241.new fun p hp => hn230 p (by simp [hp])
 replace hz247 := hz247.new fun p hp => hn230 p (by simp [hp])
 refine shO_L (lp (lp (lp (ln rfl)))) ?_
 obtain ⟨l25, n25, n26, h250, r251⟩ := b3_ok r227; clear r227
 refine o_callTO (Lb := []) (Lt := Lb234 ++ (Lb240 ++ (Lb246 ++ []))) (Lr := Lb208 ++ (Lb214 ++ (Lb220 ++ (Lb182 ++ (Lb188 ++ (Lb194 ++ [])))))) rfl Try.call8 rfl rfl rfl (pT pR (ln (lp (lp (lp (ln rfl)))))) (fun F2 h2 h3 => by rw [(SlR.caps hz235).1]; rw [(SlR.caps hz241).1]; rw [(SlR.caps hz247).1]; exact round_Two_w (hz235.row (slE_ok (iE_ok _)) h2 (fun p hp => h3 p (List.mem_append_left _ hp))) (hz241.row (slE_ok (iE_ok _)) h2 (fun p hp => h3 p (List.mem_append_right _ (List.mem_append_left _ hp)))) (hz247.row (prE_ok (slE_ok (iE_ok _)) (prE_ok (iE_ok _) (iE_ok _))) h2 (fun p hp => h3 p (List.mem_append_right _ (List.mem_append_right _ (List.mem_append_left _ hp))))) h250) (fun _ _ _ _ hq => by obtain ⟨a256, n260, c257, Lb258, rfl, rfl, hz259⟩ := hq; exact ⟨_, _, _, _, rfl, rfl, hz259.flat (fun _ _ h => h)⟩) ?_; rintro _ F252 _ hF253 hd255 hn254 ⟨a256, n260, c257, Lb258, rfl, rfl, hz259⟩
 have hn262 := newp (Lb' := []) (by rfl) hd255 hn254
 replace hz259 := hz259.new fun p hp => hn262 p (by simp [hp])
 refine shO_L (lp (ln (lp (lp (lp (ln rfl)))))) ?_
 refine om rfl rfl (ox rfl rfl rfl (ox rfl rfl rfl (ox rfl rfl rfl (oa rfl rfl (oa rfl rfl (oa rfl rfl (nsr (om rfl rfl ?_))))))))
 refine ov (v_eql rfl rfl) rfl ?_
 refine om rfl rfl ?_
 by_cases c263 : n18 = 0
 · have r264 := ite_t r251 c263; clear r251
   refine shO_on (b := true) 91 rfl (Env.isT rfl c263) (om rfl rfl (shO_on (b := true) 91 rfl (Env.isT rfl c263) ?_))
   refine ov (v_eql rfl rfl) rfl ?_
   refine ov (v_pick_t (evD_true rfl c263) rfl) rfl ?_
   refine om rfl rfl ?_
   by_cases c265 : n22 = 0
   · have r266 := ite_t r264 c265; clear r264
     refine shO_on (b := true) 95 rfl (Env.isT rfl c265) (om rfl rfl (shO_on (b := true) 95 rfl (Env.isT rfl c265) ?_))
     refine ov (v_eql rfl rfl) rfl ?_
     refine ov (v_pick_t (evD_true rfl c265) rfl) rfl ?_
     refine om rfl rfl ?_
     by_cases c267 : n26 = 0
     · have r268 := ite_t r266 c267; clear r266
       refine shO_on (b := true) 99 rfl (Env.isT rfl c267) (om rfl rfl (shO_on (b := true) 99 rfl (Env.isT rfl c267) ?_))
       refine ov (v_eql rfl rfl) rfl ?_
       refine ov (v_pick_t (evD_true rfl c267) rfl) rfl ?_
       refine om rfl rfl ?_
       by_cases c269 : n17 = 6
       · have r270 := ite_t r268 c269; clear r268
         refine shO_on (b := true) 103 rfl (Env.isT rfl c269) (om rfl rfl (shO_on (b := true) 103 rfl (Env.isT rfl c269) ?_))
         refine ov (v_eql rfl rfl) rfl ?_
         refine ov (v_pick_t (evD_true rfl c269) rfl) rfl ?_
         refine om rfl rfl ?_
         by_cases c271 : n21 = 7
         · have r272 := ite_t r270 c271; clear r270
           refine shO_on (b := true) 107 rfl (Env.isT rfl c271) (om rfl rfl (shO_on (b := true) 107 rfl (Env.isT rfl c271) ?_))
           refine ov (v_eql rfl rfl) rfl ?_
           refine ov (v_pick_t (evD_true rfl c271) rfl) rfl ?_
           refine om rfl rfl ?_
           by_cases c273 : n25 = 10
           · have r274 := ite_t r272 c273; clear r272
             refine shO_on (b := true) 111 rfl (Env.isT rfl c273) (om rfl rfl (shO_on (b := true) 111 rfl (Env.isT rfl c273) ?_))
             refine o_buildSlice (cs := #[.int .i64 0, .int .i64 1]) rfl rfl (buildSlice_all slt_30 [.int .i64 0, .int .i64 1] rfl (by decide) (by simp [Value.cells]) (by decide)) ?_; intro b275 hb275
             refine shO_on (b := true) 111 rfl (Env.isT rfl c273) ?_
             refine shO_freeze 0 rfl hb275 ?_; intro F276 hF277 hz278
             refine shO_L (L' := Lb258 ++ (Lb234 ++ (Lb240 ++ (Lb246 ++ (Lb208 ++ (Lb214 ++ (Lb220 ++ (Lb182 ++ (Lb188 ++ (Lb194 ++ [])))))))))) rfl ?_
             replace hz259 := hz259.mono (iE_ok _) hF277
             have h279 : RowR 1 (iE .i64) F276 (some ⟨b275, 0, none⟩) 2 [0, 1] := RowR.of_block (iE_ok _) (vss := [[.int .i64 0], [.int .i64 1]]) (xs := [0, 1]) hz278 (.cons rfl (.cons rfl .nil)) rfl (by simp [maxLen])
             obtain ⟨ok2, h280, r281⟩ := b1_ok r274; clear r274
             refine o_callT (Lt := Lb258 ++ []) (Lr := Lb234 ++ (Lb240 ++ (Lb246 ++ (Lb208 ++ (Lb214 ++ (Lb220 ++ (Lb182 ++ (Lb188 ++ (Lb194 ++ []))))))))) rfl Try.call22 rfl rfl rfl (pT pR (lp (ln rfl))) (fun F2 h2 h3 => by rw [(SlR.caps hz259).1]; exact oyezkit_Like_int_w (hz259.row (iE_ok _) h2 (fun p hp => h3 p (List.mem_append_left _ hp))) (h279.mono (iE_ok _) h2) h280) ?_
             refine ov (v_pick_t (evD_true rfl c273) rfl) rfl ?_
             refine oa rfl rfl (shO_nil ?_)
             refine kW kn ?_
             refine shW_ret ?_
             refine q_res1 Try.results12 (res_tmp rfl) (sr) ?_
             obtain rfl := inj1 r281
             exact rfl
           have r282 := ite_f r272 c273; clear r272
           refine shO_off (b' := false) 111 rfl (Env.isF rfl c273) rfl rfl (shO_off (b' := false) 111 rfl (Env.isF rfl c273) rfl rfl (shO_off (b' := false) 111 rfl (Env.isF rfl c273) rfl rfl ?_))
           refine ov (v_pick_f (evD_false rfl c273) rfl) rfl ?_
           refine oa rfl rfl (shO_nil ?_)
           refine kW kn ?_
           refine shW_ret ?_
           refine q_res1 Try.results12 (res_tmp rfl) (sr) ?_
           obtain rfl := inj1 r282
           exact rfl
         have r283 := ite_f r270 c271; clear r270
         refine shO_off (b' := false) 107 rfl (Env.isF rfl c271) rfl rfl (shO_off (b' := false) 107 rfl (Env.isF rfl c271) rfl rfl ?_)
         refine ov (v_pick_f (evD_false rfl c271) rfl) rfl ?_
         refine om rfl rfl (shO_off (b' := false) 111 rfl rfl rfl rfl (shO_off (b' := false) 111 rfl rfl rfl rfl (shO_off (b' := false) 111 rfl rfl rfl rfl ?_)))
         refine ov (v_pick_f rfl rfl) rfl ?_
         refine oa rfl rfl (shO_nil ?_)
         refine kW kn ?_
         refine shW_ret ?_
         refine q_res1 Try.results12 (res_tmp rfl) (sr) ?_
         obtain rfl := inj1 r283
         exact rfl
       have r284 := ite_f r268 c269; clear r268
       refine shO_off (b' := false) 103 rfl (Env.isF rfl c269) rfl rfl (shO_off (b' := false) 103 rfl (Env.isF rfl c269) rfl rfl ?_)
       refine ov (v_pick_f (evD_false rfl c269) rfl) rfl ?_
       refine om rfl rfl (shO_off (b' := false) 107 rfl rfl rfl rfl (shO_off (b' := false) 107 rfl rfl rfl rfl ?_))
       refine ov (v_pick_f rfl rfl) rfl ?_
       refine om rfl rfl (shO_off (b' := false) 111 rfl rfl rfl rfl (shO_off (b' := false) 111 rfl rfl rfl rfl (shO_off (b' := false) 111 rfl rfl rfl rfl ?_)))
       refine ov (v_pick_f rfl rfl) rfl ?_
       refine oa rfl rfl (shO_nil ?_)
       refine kW kn ?_
       refine shW_ret ?_
       refine q_res1 Try.results12 (res_tmp rfl) (sr) ?_
       obtain rfl := inj1 r284
       exact rfl
     have r285 := ite_f r266 c267; clear r266
     refine shO_off (b' := false) 99 rfl (Env.isF rfl c267) rfl rfl (shO_off (b' := false) 99 rfl (Env.isF rfl c267) rfl rfl ?_)
     refine ov (v_pick_f (evD_false rfl c267) rfl) rfl ?_
     refine om rfl rfl (shO_off (b' := false) 103 rfl rfl rfl rfl (shO_off (b' := false) 103 rfl rfl rfl rfl ?_))
     refine ov (v_pick_f rfl rfl) rfl ?_
     refine om rfl rfl (shO_off (b' := false) 107 rfl rfl rfl rfl (shO_off (b' := false) 107 rfl rfl rfl rfl ?_))
     refine ov (v_pick_f rfl rfl) rfl ?_
     refine om rfl rfl (shO_off (b' := false) 111 rfl rfl rfl rfl (shO_off (b' := false) 111 rfl rfl rfl rfl (shO_off (b' := false) 111 rfl rfl rfl rfl ?_)))
     refine ov (v_pick_f rfl rfl) rfl ?_
     refine oa rfl rfl (shO_nil ?_)
     refine kW kn ?_
     refine shW_ret ?_
     refine q_res1 Try.results12 (res_tmp rfl) (sr) ?_
     obtain rfl := inj1 r285
     exact rfl
   have r286 := ite_f r264 c265; clear r264
   refine shO_off (b' := false) 95 rfl (Env.isF rfl c265) rfl rfl (shO_off (b' := false) 95 rfl (Env.isF rfl c265) rfl rfl ?_)
   refine ov (v_pick_f (evD_false rfl c265) rfl) rfl ?_
   refine om rfl rfl (shO_off (b' := false) 99 rfl rfl rfl rfl (shO_off (b' := false) 99 rfl rfl rfl rfl ?_))
   refine ov (v_pick_f rfl rfl) rfl ?_
   refine om rfl rfl (shO_off (b' := false) 103 rfl rfl rfl rfl (shO_off (b' := false) 103 rfl rfl rfl rfl ?_))
   refine ov (v_pick_f rfl rfl) rfl ?_
   refine om rfl rfl (shO_off (b' := false) 107 rfl rfl rfl rfl (shO_off (b' := false) 107 rfl rfl rfl rfl ?_))
   refine ov (v_pick_f rfl rfl) rfl ?_
   refine om rfl rfl (shO_off (b' := false) 111 rfl rfl rfl rfl (shO_off (b' := false) 111 rfl rfl rfl rfl (shO_off (b' := false) 111 rfl rfl rfl rfl ?_)))
   refine ov (v_pick_f rfl rfl) rfl ?_
   refine oa rfl rfl (shO_nil ?_)
   refine kW kn ?_
   refine shW_ret ?_
   refine q_res1 Try.results12 (res_tmp rfl) (sr) ?_
   obtain rfl := inj1 r286
   exact rfl
 have r287 := ite_f r251 c263; clear r251
 refine shO_off (b' := false) 91 rfl (Env.isF rfl c263) rfl rfl (shO_off (b' := false) 91 rfl (Env.isF rfl c263) rfl rfl ?_)
 refine ov (v_pick_f (evD_false rfl c263) rfl) rfl ?_
 refine om rfl rfl (shO_off (b' := false) 95 rfl rfl rfl rfl (shO_off (b' := false) 95 rfl rfl rfl rfl ?_))
 refine ov (v_pick_f rfl rfl) rfl ?_
 refine om rfl rfl (shO_off (b' := false) 99 rfl rfl rfl rfl (shO_off (b' := false) 99 rfl rfl rfl rfl ?_))
 refine ov (v_pick_f rfl rfl) rfl ?_
 refine om rfl rfl (shO_off (b' := false) 103 rfl rfl rfl rfl (shO_off (b' := false) 103 rfl rfl rfl rfl ?_))
 refine ov (v_pick_f rfl rfl) rfl ?_
 refine om rfl rfl (shO_off (b' := false) 107 rfl rfl rfl rfl (shO_off (b' := false) 107 rfl rfl rfl rfl ?_))
 refine ov (v_pick_f rfl rfl) rfl ?_
 refine om rfl rfl (shO_off (b' := false) 111 rfl rfl rfl rfl (shO_off (b' := false) 111 rfl rfl rfl rfl (shO_off (b' := false) 111 rfl rfl rfl rfl ?_)))
 refine ov (v_pick_f rfl rfl) rfl ?_
 refine oa rfl rfl (shO_nil ?_)
 refine kW kn ?_
 refine shW_ret ?_
 refine q_res1 Try.results12 (res_tmp rfl) (sr) ?_
 obtain rfl := inj1 r287
 exact rfl
set_option maxHeartbeats 1000000 in
theorem oyezlaw03_RoundShared_1_w {who_a : Option Addr} {who_c : Nat} {who : List Int} {b_x : Nat} {walks_a : Option Addr} {walks_c : Nat} {walks : List (List Int)} {hears_a : Option Addr} {hears_c : Nat} {hears : List (List Int)} {houses : Int} {start : Int} {notices_a : Option Addr} {notices_c : Nat} {notices : List ((List Int) × Int × Int)} {mb_x : Nat × Nat} {F : FS} (h_who : RowR 1 (iE .i64) F who_a who_c who) (hb_x : F b_x = some (.cells #[.slice walks_a walks.length walks_c, .slice hears_a hears.length hears_c, .int .i64 houses, .int .i64 start, .slice notices_a notices.length notices_c] 26 mb_x)) (h_walks : RowR 1 (slE 1 (iE .i64)) F walks_a walks_c walks) (h_hears : RowR 1 (slE 1 (iE .i64)) F hears_a hears_c hears) (h_notices : RowR 3 (prE (slE 1 (iE .i64)) (prE (iE .i64) (iE .i64))) F notices_a notices_c notices) {r : Int} {r2 : Bool} (hr : oyezlaw03_RoundShared_1 who walks hears houses start notices = some (r, r2)) :
    SpecV Try.prog 10 #[.slice who_a who.length who_c, .pointer (some ⟨b_x, 0, none⟩)] F (.tuple #[.int .i64 r, .bool r2]) := by
 refine spec_of_shW (args := [.slice who_a who.length who_c, .pointer (some ⟨b_x, 0, none⟩)]) Try.func10 rfl Try.ntmps10 (Nat.le_of_ble_eq_true rfl) ?_
 intro K _ _; rw [oyezlaw03_RoundShared_1] at hr
 refine wsr (oa rfl rfl (oa rfl rfl (nsr (oa rfl rfl (shO_nil ?_)))))
 refine shW_join (fun e1 F1 L1 => ∃ (out : Int), oyezlaw03_RoundShared_1_j1 out = some (r, r2) ∧ FExt F F1 ∧ L1 = [] ∧ e1.sub [(5, .int .i64 out)]) ?_ ?_
 · refine wsr (om rfl rfl (shO_nil ?_))
   refine shW_block ?_
   obtain ⟨g1, r3⟩ := gd_ok hr; clear hr
   refine shW_lp (fun fu2 e1 F1 L1 => ∃ (k : Int), Ctr 0 2 k fu2 ∧ ∃ (out2 : Int), oyezlaw03_RoundShared_1_l2 who walks hears houses start notices fu2 k out2 = some (r, r2) ∧ FExt F F1 ∧ L1 = [] ∧ e1.sub [(0, .slice who_a who.length who_c), (1, .pointer (some ⟨b_x, 0, none⟩)), (5, .int .i64 out2), (13, .int .i64 k)]) _ (m0 kr ⟨_, Ctr.start _ _, 0, r3, FExt.refl _, rfl, (sc rfl (sc rfl (sc rfl (sc rfl (sn _)))))⟩) ?_
   rintro fu2 e1 F8 _ ⟨k, hk4, out2, r6, hF9, rfl, he7⟩
   refine shW_env _ he7 ?_; clear he7
   replace h_who := h_who.mono (iE_ok _) hF9
   replace h_walks := h_walks.mono (slE_ok (iE_ok _)) hF9
   replace h_hears := h_hears.mono (slE_ok (iE_ok _)) hF9
   replace h_notices := h_notices.mono (prE_ok (slE_ok (iE_ok _)) (prE_ok (iE_ok _) (iE_ok _))) hF9
   replace hb_x := hF9 _ _ hb_x
   refine wsr ?_
   refine ov (v_lssK rfl rfl) rfl ?_
   refine shO_nil (shW_seq ?_)
   refine shW_condP rfl (fun c11 => ?_) (fun c11 => ?_)
   · obtain ⟨fu2, rfl, hk12⟩ := Ctr.succ hk4 c11
     rw [oyezlaw03_RoundShared_1_l2] at r6
     refine shW_skip ?_
     refine shW_join (fun e1 F1 L1 => ∃ (out3 : Int), oyezlaw03_RoundShared_1_j3 k (oyezlaw03_RoundShared_1_l2 who walks hears houses start notices fu2) out3 = some (r, r2) ∧ FExt F8 F1 ∧ L1 = [] ∧ e1.sub [(0, .slice who_a who.length who_c), (1, .pointer (some ⟨b_x, 0, none⟩)), (5, .int .i64 out3), (13, .int .i64 k)]) ?_ ?_
     · refine shW_block ?_
       refine wsr (om rfl rfl (oa rfl rfl (nsr ?_)))
       refine ov (v_loadA (cs := #[.slice walks_a walks.length walks_c, .slice hears_a hears.length hears_c, .int .i64 houses, .int .i64 start, .slice notices_a notices.length notices_c]) Try.isAgg26 Try.sizeOf26 rfl (Has.frozen hb_x) (Nat.le_of_ble_eq_true rfl) rfl) rfl ?_
       obtain ⟨l, l2, n, n2, l3, h13, r14⟩ := b5_ok r6; clear r6
       refine o_call0 rfl Try.call11 rfl rfl rfl (oyezlaw03_Own_w h_walks h_hears h_notices h13) ?_; rintro _ F15 _ hF16 hn17 ⟨a19, n23, c20, Lb21, a25, n29, c26, Lb27, a31, n35, c32, Lb33, rfl, rfl, hz22, hz28, hz34⟩
       replace h_who := h_who.mono (iE_ok _) hF16
       replace h_notices := h_notices.mono (prE_ok (slE_ok (iE_ok _)) (prE_ok (iE_ok _) (iE_ok _))) hF16
       replace hb_x := hF16 _ _ hb_x
       replace hz22 := hz22.new fun p hp => hn17 p (by simp [hp])
       replace hz28 := hz28.new fun p hp => hn17 p (by simp [hp])
       refine shO_L (lp (lp (lp (ln rfl)))) ?_
       refine o_alloc rfl Try.zeroValue26 ?_; intro b37 hb37
       refine o_storeA (i := 0) Try.sizeOf26 rfl rfl rfl (by simp [Value.oneCell']) rfl (Nat.le_of_ble_eq_true rfl) ?_
       refine shO_L (L' := (b37, .cells #[.slice a19 n23 c20, .slice a25 n29 c26, .int .i64 n, .int .i64 n2, .slice a31 n35 c32] 26 (0, 0)) :: (Lb21 ++ (Lb27 ++ (Lb33 ++ [])))) rfl ?_
       refine nsr ?_
       refine ov (v_fieldAddr fa_26_4 rfl) rfl ?_
       refine o_store (i := 0) Try.sizeOf24 rfl rfl rfl rfl (Nat.le_of_ble_eq_true rfl) ?_
       refine shO_L (L' := (b37, .cells #[.slice a19 n23 c20, .slice a25 n29 c26, .int .i64 n, .int .i64 n2, .slice none 0 0] 26 (0, 0)) :: (Lb21 ++ (Lb27 ++ (Lb33 ++ [])))) rfl ?_
       refine shO_nil ?_
       obtain ⟨own_notices, h44, r45⟩ := b1_ok r14; clear r14
       refine shW_join (fun e1 F1 L1 => ∃ (a38 : Option Addr) (n42 : Nat) (c39 : Nat) (Lb40 : LH), F15 = F1 ∧ L1 = ((b37, .cells #[.slice a19 n23 c20, .slice a25 n29 c26, .int .i64 n, .int .i64 n2, .slice a38 n42 c39] 26 (0, 0)) :: (Lb21 ++ (Lb27 ++ (Lb40 ++ [])))) ∧ e1.sub [(0, .slice who_a who.length who_c), (1, .pointer (some ⟨b_x, 0, none⟩)), (5, .int .i64 out2), (7, .pointer (some ⟨b37, 0, none⟩)), (13, .int .i64 k)] ∧ SlR K.w0.heap.size 39 3 (prE (slE 1 (iE .i64)) (prE (iE .i64) (iE .i64))) F1 a38 n42 c39 own_notices Lb40) ?_ ?_
       · clear r45
         refine wsr ?_
         refine ov (v_fieldAddr fa_26_4 rfl) rfl ?_
         refine ov (v_load Try.isAgg24 rfl (Has.frozen hb_x) rfl) rfl ?_
         refine ov (v_lenS Try.underlying24 rfl) rfl ?_
         refine om rfl rfl (shO_nil ?_)
         refine shW_block ?_
         refine kW (kc (ka (ka kn))) ?_
         refine shW_lp (fun fu4 e1 F1 L1 => ∃ (tl : List ((List Int) × Int × Int)) (k2 : Int), tl.length = fu4 ∧ Lst notices k2 tl ∧ ∃ (own_notices2 : List ((List Int) × Int × Int)) (a46 : Option Addr) (n50 : Nat) (c47 : Nat) (Lb48 : LH), oyezlaw03_RoundShared_1_l4 who k tl k2 own_notices2 = some own_notices ∧ F15 = F1 ∧ L1 = ((b37, .cells #[.slice a19 n23 c20, .slice a25 n29 c26, .int .i64 n, .int .i64 n2, .slice a46 n50 c47] 26 (0, 0)) :: (Lb21 ++ (Lb27 ++ (Lb48 ++ [])))) ∧ e1.sub [(0, .slice who_a who.length who_c), (1, .pointer (some ⟨b_x, 0, none⟩)), (5, .int .i64 out2), (6, .int .i64 k), (7, .pointer (some ⟨b37, 0, none⟩)), (13, .int .i64 k), (20, .slice notices_a notices.length notices_c), (21, .int .i64 (notices.length : Int)), (22, .int .i64 k2)] ∧ SlR K.w0.heap.size 39 3 (prE (slE 1 (iE .i64)) (prE (iE .i64) (iE .i64))) F1 a46 n50 c47 own_notices2 Lb48) _ (m0 (kc (ka (ka (ke kr)))) ⟨_, _, rfl, Lst.start _, [], none, 0, 0, [], h44, rfl, rfl, (sc rfl (sc rfl (sc rfl (sc rfl (sc rfl (sc rfl (sc rfl (sc rfl (sc rfl (sn _)))))))))), SlR.nil _ _ _ _ _⟩) ?_
         rintro fu4 e1 _ _ ⟨tl, k2, hn53, hk52, own_notices2, a46, n50, c47, Lb48, r54, rfl, rfl, he55, hz49⟩
         refine shW_env _ he55 ?_; clear he55
         refine wsr ?_
         refine ov (v_lssK rfl rfl) rfl ?_
         refine shO_nil (shW_seq ?_)
         refine shW_condP rfl (fun c57 => ?_) (fun c57 => ?_)
         · obtain ⟨x, tl2, rfl, hx59, g60, hk58⟩ := Lst.succ hk52 c57
           rw [oyezlaw03_RoundShared_1_l4] at r54
           refine shW_skip (shW_seq ?_)
           refine shW_block ?_
           refine wsr (om rfl rfl ?_)
           obtain ⟨b61, o62, c63, vs64, ha65, hs66, hle67, ⟨_, _, rfl, ⟨a70, c71, rfl, h72⟩, ⟨_, _, rfl, rfl, rfl⟩⟩, hl68, hc69⟩ := RowR.at (prE_ok (slE_ok (iE_ok _)) (prE_ok (iE_ok _) (iE_ok _))) h_notices ((b37, .cells #[.slice a19 n23 c20, .slice a25 n29 c26, .int .i64 n, .int .i64 n2, .slice a46 n50 c47] 26 (0, 0)) :: (Lb21 ++ (Lb27 ++ (Lb48 ++ [])))) g60.1 hx59
           refine ov (v_indexO Try.underlying24 Try.sizeOf39 rfl ha65 rfl g60) rfl ?_
           refine ov (v_loadA (cs := #[.slice a70 x.1.length c71, .int .i64 x.2.1, .int .i64 x.2.2]) Try.isAgg39 Try.sizeOf39 rfl hs66 hle67 (extract_cells hle67 hl68 hc69)) rfl ?_
           refine o_alloc rfl Try.zeroValue39 ?_; intro b73 hb73
           refine oa rfl rfl ?_
           refine o_storeA (i := 0) Try.sizeOf39 rfl rfl rfl (by simp [Value.oneCell']) rfl (Nat.le_of_ble_eq_true rfl) ?_
           refine shO_L (L' := (b73, .cells #[.slice a70 x.1.length c71, .int .i64 x.2.1, .int .i64 x.2.2] 39 (0, 0)) :: ((b37, .cells #[.slice a19 n23 c20, .slice a25 n29 c26, .int .i64 n, .int .i64 n2, .slice a46 n50 c47] 26 (0, 0)) :: (Lb21 ++ (Lb27 ++ (Lb48 ++ []))))) rfl ?_
           refine nsr (om rfl rfl (om rfl rfl ?_))
           obtain ⟨x2, g74, hx75, r76⟩ := ix_ok r54; clear r54
           obtain ⟨b77, o78, c79, vs80, ha81, hs82, hle83, rfl, hl84, hc85⟩ := RowR.at (iE_ok _) h_who ((b73, .cells #[.slice a70 x.1.length c71, .int .i64 x.2.1, .int .i64 x.2.2] 39 (0, 0)) :: ((b37, .cells #[.slice a19 n23 c20, .slice a25 n29 c26, .int .i64 n, .int .i64 n2, .slice a46 n50 c47] 26 (0, 0)) :: (Lb21 ++ (Lb27 ++ (Lb48 ++ []))))) g74.1 hx75
           refine ov (v_indexO Try.underlying30 Try.sizeOf3 rfl ha81 rfl g74) rfl ?_
           refine ov (v_load Try.isAgg3 rfl hs82 (hc85 0 (by decide))) rfl ?_
           refine om rfl rfl ?_
           refine ov (v_eql rfl rfl) rfl ?_
           refine shO_nil ?_
           refine shW_condP rfl (fun c86 => ?_) (fun c86 => ?_)
           · have r87 := ite_t r76 c86; clear r76
             refine shW_region ?_
             refine ov (v_fieldAddr fa_26_4 rfl) rfl ?_
             refine ov (v_load Try.isAgg24 rfl (Has.own 1 rfl) rfl) rfl ?_
             refine ov (v_loadA (cs := #[.slice a70 x.1.length c71, .int .i64 x.2.1, .int .i64 x.2.2]) Try.isAgg39 Try.sizeOf39 rfl (Has.own 0 rfl) (Nat.le_of_ble_eq_true rfl) rfl) rfl ?_
             refine o_buildSlice (cs := #[.slice a70 x.1.length c71, .int .i64 x.2.1, .int .i64 x.2.2]) rfl rfl (buildSlice_all slt_24 [.agg #[.slice a70 x.1.length c71, .int .i64 x.2.1, .int .i64 x.2.2]] rfl (by decide) (by simp [Value.cells]) (by decide)) ?_; intro b88 hb88
             obtain ⟨own, h89, g90, r91⟩ := ap_ok r87; clear r87
             refine o_appZ (xs := own_notices2) (ys := [(x.1, x.2.1, x.2.2)]) (zs := own) rfl slt_24 rfl rfl (Nat.le_refl _) (fun _ => .c (.c (.c (.s (.s .h))))) hz49 (SrcR.box (vss := [[.slice a70 x.1.length c71, .int .i64 x.2.1, .int .i64 x.2.2]]) (ys := [(x.1, x.2.1, x.2.2)]) 0 rfl (prE_ok (slE_ok (iE_ok _)) (prE_ok (iE_ok _) (iE_ok _))) (.cons ⟨_, _, rfl, ⟨_, _, rfl, h72⟩, ⟨_, _, rfl, rfl, rfl⟩⟩ .nil) rfl rfl) h89 g90 (by decide) ?_; intro a92 n96 c93 Lb94 hz95
             refine kO (kd kr) ?_
             refine ov (v_fieldAddr fa_26_4 rfl) rfl ?_
             refine o_store (i := 1) Try.sizeOf24 rfl rfl rfl rfl (Nat.le_of_ble_eq_true rfl) ?_
             refine shO_L (L' := (b73, .cells #[.slice a70 x.1.length c71, .int .i64 x.2.1, .int .i64 x.2.2] 39 (0, 0)) :: ((b37, .cells #[.slice a19 n23 c20, .slice a25 n29 c26, .int .i64 n, .int .i64 n2, .slice a92 n96 c93] 26 (0, 0)) :: (Lb21 ++ (Lb27 ++ (Lb94 ++ []))))) rfl ?_
             refine shO_nil (inBlock_n (id := 3) (shW_region ?_))
             refine ov (v_add rfl rfl (Lst.r64 hk52 c57 (RowR.lt h_notices))) rfl ?_
             refine om rfl rfl (shO_nil ?_)
             subst hn53; exact le (kd kr) ⟨_, _, rfl, hk58, own, a92, n96, c93, Lb94, r91, rfl, rfl, (sc rfl (sc rfl (sc rfl (sc rfl (sc rfl (sc rfl (sc rfl (sc rfl (sc rfl (sn _)))))))))), hz95⟩
           have r98 := ite_f r76 c86; clear r76
           refine shW_skip (inBlock_n (id := 3) (shW_region ?_))
           refine ov (v_add rfl rfl (Lst.r64 hk52 c57 (RowR.lt h_notices))) rfl ?_
           refine om rfl rfl (shO_nil ?_)
           subst hn53; exact le (kd kr) ⟨_, _, rfl, hk58, own_notices2, a46, n50, c47, Lb48, r98, rfl, rfl, (sc rfl (sc rfl (sc rfl (sc rfl (sc rfl (sc rfl (sc rfl (sc rfl (sc rfl (sn _)))))))))), hz49⟩
         obtain rfl := Lst.zero hk52 c57
         rw [oyezlaw03_RoundShared_1_l4] at r54
         refine shW_exit (andThen_exit (andThen_exit ?_))
         refine inBlock_exit ?_
         obtain rfl := inj1 r54
         exact mi kr ⟨a46, n50, c47, Lb48, rfl, rfl, (sc rfl (sc rfl (sc rfl (sc rfl (sc rfl (sn _)))))), hz49⟩
       rintro e1 _ _ ⟨a38, n42, c39, Lb40, rfl, rfl, he99, hz41⟩
       refine shW_env _ he99 ?_; clear he99
       refine wsr ?_
       refine ov (v_loadA (cs := #[.slice a19 n23 c20, .slice a25 n29 c26, .int .i64 n, .int .i64 n2, .slice a38 n42 c39]) Try.isAgg26 Try.sizeOf26 rfl (Has.own 0 rfl) (Nat.le_of_ble_eq_true rfl) rfl) rfl ?_
       obtain ⟨l4, n3, n4, h100, r101⟩ := b3_ok r45; clear r45
       refine o_callTO (Lb := []) (Lt := Lb21 ++ (Lb27 ++ (Lb40 ++ []))) (Lr := [(b37, .cells #[.slice a19 n23 c20, .slice a25 n29 c26, .int .i64 n, .int .i64 n2, .slice a38 n42 c39] 26 (0, 0))]) rfl Try.call9 rfl rfl rfl (pT ((fC fP).trans (pA ((fC fP).trans (pA ((fC fP).trans (pA pR)))))) (ln (lp (lp (lp (ln rfl)))))) (fun F2 h2 h3 => by rw [(NlR.caps hz22).1]; rw [(NlR.caps hz28).1]; rw [(SlR.caps hz41).1]; exact round_Best_w (hz22.row (iE_ok _) h2 (fun p hp => h3 p (List.mem_append_left _ hp))) (hz28.row (iE_ok _) h2 (fun p hp => h3 p (List.mem_append_right _ (List.mem_append_left _ hp)))) (hz41.row (prE_ok (slE_ok (iE_ok _)) (prE_ok (iE_ok _) (iE_ok _))) h2 (fun p hp => h3 p (List.mem_append_right _ (List.mem_append_right _ (List.mem_append_left _ hp))))) h100) (fun _ _ _ _ hq => by obtain ⟨a106, n110, c107, Lb108, rfl, rfl, hz109⟩ := hq; exact ⟨_, _, _, _, rfl, rfl, hz109.flat (fun _ _ h => h)⟩) ?_; rintro _ F102 _ hF103 hd105 hn104 ⟨a106, n110, c107, Lb108, rfl, rfl, hz109⟩
       refine shO_L (lp (ln (lp (lp (lp (ln rfl)))))) ?_
       refine kO (kf (fS (fS (fS (fS fO)))) kr) ?_
       refine om rfl rfl (ox rfl rfl rfl (ox rfl rfl rfl (ox rfl rfl rfl (oa rfl rfl (oa rfl rfl (oa rfl rfl (shO_nil (shW_seq (wsr ?_)))))))))
       refine om rfl rfl ?_
       refine ov (v_neq rfl rfl) rfl ?_
       refine shO_nil ?_
       refine shW_condP rfl (fun c113 => ?_) (fun c113 => ?_)
       · have r114 := ite_t r101 c113; clear r101
         refine wsr (oa rfl rfl (oa rfl rfl (shO_nil ?_)))
         refine kW kn ?_
         refine shW_ret (andThen_ret (inBlock_ret (andThen_ret (andThen_ret (inBlock_ret (andThen_ret ?_))))))
         refine q_res2 Try.results10 (res_tmp rfl) (res_tmp rfl) (sr) ?_
         obtain ⟨rfl, rfl⟩ := inj2 r114
         exact rfl
       have r115 := ite_f r101 c113; clear r101
       refine shW_skip (shW_region (om rfl rfl (om rfl rfl ?_)))
       refine ov (v_max2 rfl rfl) rfl ?_
       obtain ⟨out4, h116, r117⟩ := bv_ok r115; clear r115
       refine ov ((v_assign rfl).i h116) rfl ?_
       refine shO_nil (inBlock_n (id := 1) ?_)
       exact mi kn ⟨out4, r117, (hF16.trans hF103), rfl, (sc rfl (sc rfl (sc rfl (sc rfl (sn _)))))⟩
     rintro e1 F120 _ ⟨out3, r118, hF121, rfl, he119⟩
     refine shW_env _ he119 ?_; clear he119
     rw [oyezlaw03_RoundShared_1_j3] at r118
     refine shW_region ?_
     refine ov (v_add rfl rfl (Ctr.r64 hk4 c11 g1)) rfl ?_
     refine om rfl rfl (shO_nil ?_)
     exact le kr ⟨_, hk12, out3, r118, (hF9.trans hF121), rfl, (sc rfl (sc rfl (sc rfl (sc rfl (sn _)))))⟩
   obtain rfl := Ctr.zero hk4 c11
   rw [oyezlaw03_RoundShared_1_l2] at r6
   refine shW_exit (andThen_exit (andThen_exit ?_))
   refine inBlock_exit ?_
   exact mi kr ⟨out2, r6, hF9, rfl, (sc rfl (sn _))⟩
 rintro e1 F124 _ ⟨out, r122, hF125, rfl, he123⟩
 refine shW_env _ he123 ?_; clear he123
 rw [oyezlaw03_RoundShared_1_j1] at r122
 refine wsr (om rfl rfl (oa rfl rfl (oa rfl rfl (shO_nil (shW_ret ?_)))))
 refine q_res2 Try.results10 (res_tmp rfl) (res_tmp rfl) (sr) ?_
 obtain ⟨rfl, rfl⟩ := inj2 r122
 exact rfl
set_option maxHeartbeats 1000000 in
theorem oyezlaw03_RoundShared_w {numbers_a : Option Addr} {numbers_c : Nat} {numbers : List Int} {share : Int} {F : FS} (h_numbers : RowR 1 (iE .u8) F numbers_a numbers_c numbers) {r : Bool} (hr : oyezlaw03_RoundShared numbers share = some r) :
    SpecV Try.prog 3 #[.slice numbers_a numbers.length numbers_c, .int .u8 share] F (.bool r) := by
 refine spec_of_shW (args := [.slice numbers_a numbers.length numbers_c, .int .u8 share]) Try.func3 rfl Try.ntmps3 (Nat.le_of_ble_eq_true rfl) ?_
 intro K _ _; rw [oyezlaw03_RoundShared] at hr
 refine wsr (oa rfl rfl (nsr (om rfl rfl ?_)))
 obtain ⟨metal, at_, turn, h1, r2⟩ := b3_ok hr; clear hr
 refine o_call0 rfl Try.call7 rfl rfl rfl (oyezkit_Hang_w h_numbers h1) ?_; rintro _ F3 _ hF4 hn5 ⟨b7, a8, c9, rfl, rfl, h10⟩
 refine shO_L (lb (ln rfl)) ?_
 obtain ⟨l, l2, n, n2, l3, at_2, turn2, h11, r12⟩ := b7_ok r2; clear r2
 refine o_callG (Lb := [(b7, .cells #[.slice a8 metal.length c9, .int .i64 at_, .int .u32 turn] 66 (0, 0))]) (Lr := []) rfl Try.call6 rfl rfl rfl (pR) (oyezlaw03_Made_w h10 h11) ?_; rintro _ F13 _ hF14 hd16 hn15 ⟨a17, c18, a20, c21, a23, n27, c24, Lb25, rfl, rfl, h19, h22, hz26⟩
 have hn29 := newp (Lb' := [(b7, .cells #[.slice a8 metal.length c9, .int .i64 at_2, .int .u32 turn2] 66 (0, 0))]) (by rfl) hd16 hn15
 replace hz26 := hz26.new fun p hp => hn29 p (by simp [hp])
 refine shO_L (lb (lp (ln rfl))) ?_
 refine o_alloc rfl Try.zeroValue26 ?_; intro b30 hb30
 refine o_storeA (i := 0) Try.sizeOf26 rfl rfl rfl (by simp [Value.oneCell']) rfl (Nat.le_of_ble_eq_true rfl) ?_
 refine shO_L (L' := (b30, .cells #[.slice a17 l.length c18, .slice a20 l2.length c21, .int .i64 n, .int .i64 n2, .slice a23 n27 c24] 26 (0, 0)) :: ((b7, .cells #[.slice a8 metal.length c9, .int .i64 at_2, .int .u32 turn2] 66 (0, 0)) :: (Lb25 ++ []))) rfl ?_
 refine nsr ?_
 refine ov (v_loadA (cs := #[.slice a17 l.length c18, .slice a20 l2.length c21, .int .i64 n, .int .i64 n2, .slice a23 n27 c24]) Try.isAgg26 Try.sizeOf26 rfl (Has.own 0 rfl) (Nat.le_of_ble_eq_true rfl) rfl) rfl ?_
 obtain ⟨l4, n3, n4, h31, r32⟩ := b3_ok r12; clear r12
 refine o_callTO (Lb := []) (Lt := Lb25 ++ []) (Lr := [(b30, .cells #[.slice a17 l.length c18, .slice a20 l2.length c21, .int .i64 n, .int .i64 n2, .slice a23 n27 c24] 26 (0, 0)), (b7, .cells #[.slice a8 metal.length c9, .int .i64 at_2, .int .u32 turn2] 66 (0, 0))]) rfl Try.call8 rfl rfl rfl (pT ((fC (fC fP)).trans (pA pR)) (ln (lp (ln rfl)))) (fun F2 h2 h3 => by rw [(SlR.caps hz26).1]; exact round_Two_w (h19.mono (slE_ok (iE_ok _)) h2) (h22.mono (slE_ok (iE_ok _)) h2) (hz26.row (prE_ok (slE_ok (iE_ok _)) (prE_ok (iE_ok _) (iE_ok _))) h2 (fun p hp => h3 p (List.mem_append_left _ hp))) h31) (fun _ _ _ _ hq => by obtain ⟨a37, n41, c38, Lb39, rfl, rfl, hz40⟩ := hq; exact ⟨_, _, _, _, rfl, rfl, hz40.flat (fun _ _ h => h)⟩) ?_; rintro _ F33 _ hF34 hd36 hn35 ⟨a37, n41, c38, Lb39, rfl, rfl, hz40⟩
 replace h19 := h19.mono (slE_ok (iE_ok _)) hF34
 replace h22 := h22.mono (slE_ok (iE_ok _)) hF34
 replace hz26 := hz26.mono (prE_ok (slE_ok (iE_ok _)) (prE_ok (iE_ok _) (iE_ok _))) hF34
 have hn43 := newp (Lb' := []) (by rfl) hd36 hn35
 replace hz40 := hz40.new fun p hp => hn43 p (by simp [hp])
 refine shO_L (lp (ln (lp (ln rfl)))) ?_
 refine kO (kf (fS (fS fO)) (kf (fS (fS fO)) kr)) ?_
 refine om rfl rfl (ox rfl rfl rfl (ox rfl rfl rfl (ox rfl rfl rfl (oa rfl rfl (oa rfl rfl (oa rfl rfl (nsr ?_)))))))
 refine ov (v_loadA (cs := #[.slice a17 l.length c18, .slice a20 l2.length c21, .int .i64 n, .int .i64 n2, .slice a23 n27 c24]) Try.isAgg26 Try.sizeOf26 rfl (Has.own 0 rfl) (Nat.le_of_ble_eq_true rfl) rfl) rfl ?_
 obtain ⟨l5, n5, n6, h44, r45⟩ := b3_ok r32; clear r32
 refine o_callTO (Lb := []) (Lt := Lb25 ++ []) (Lr := (b30, .cells #[.slice a17 l.length c18, .slice a20 l2.length c21, .int .i64 n, .int .i64 n2, .slice a23 n27 c24] 26 (0, 0)) :: ((b7, .cells #[.slice a8 metal.length c9, .int .i64 at_2, .int .u32 turn2] 66 (0, 0)) :: (Lb39 ++ []))) rfl Try.call9 rfl rfl rfl (pT ((fC (fC (fS fP))).trans (pA pR)) (ln (lp (ln rfl)))) (fun F2 h2 h3 => by rw [(SlR.caps hz26).1]; exact round_Best_w (h19.mono (slE_ok (iE_ok _)) h2) (h22.mono (slE_ok (iE_ok _)) h2) (hz26.row (prE_ok (slE_ok (iE_ok _)) (prE_ok (iE_ok _) (iE_ok _))) h2 (fun p hp => h3 p (List.mem_append_left _ hp))) h44) (fun _ _ _ _ hq => by obtain ⟨a50, n54, c51, Lb52, rfl, rfl, hz53⟩ := hq; exact ⟨_, _, _, _, rfl, rfl, hz53.flat (fun _ _ h => h)⟩) ?_; rintro _ F46 _ hF47 hd49 hn48 ⟨a50, n54, c51, Lb52, rfl, rfl, hz53⟩
 replace h19 := h19.mono (slE_ok (iE_ok _)) hF47
 replace h22 := h22.mono (slE_ok (iE_ok _)) hF47
 replace hz26 := hz26.mono (prE_ok (slE_ok (iE_ok _)) (prE_ok (iE_ok _) (iE_ok _))) hF47
 replace hz40 := hz40.mono (iE_ok _) hF47
 refine shO_L (lp (ln (lp (ln rfl)))) ?_
 refine kO (kf (fS (fS fO)) (kf (fS (fS fO)) kr)) ?_
 refine om rfl rfl (ox rfl rfl rfl (ox rfl rfl rfl (ox rfl rfl rfl (oa rfl rfl (oa rfl rfl (oa rfl rfl (shO_nil (shW_seq ?_))))))))
 obtain ⟨k, h57, r58⟩ := b1_ok r45; clear r45
 refine shW_join (fun e1 F1 L1 => F46 = F1 ∧ L1 = ((b30, .cells #[.slice a17 l.length c18, .slice a20 l2.length c21, .int .i64 n, .int .i64 n2, .slice a23 n27 c24] 26 (0, 0)) :: (Lb25 ++ (Lb39 ++ []))) ∧ e1.sub [(1, .int .u8 share), (5, .pointer (some ⟨b30, 0, none⟩)), (6, .slice a37 n41 c38), (7, .int .i64 n3), (8, .int .i64 n4), (67, .bool k)]) ?_ ?_
 · clear r58
   refine shW_region (om rfl rfl ?_)
   refine ov (v_neq rfl rfl) rfl ?_
   refine om rfl rfl ?_
   by_cases c59 : n4 ≠ 0
   · have r60 := ite_t h57 c59; clear h57
     refine shO_on (b := true) 39 rfl (Env.isT rfl c59) (om rfl rfl (shO_on (b := true) 39 rfl (Env.isT rfl c59) ?_))
     refine ov (v_neq rfl rfl) rfl ?_
     refine ov (v_pick_t (evD_true rfl c59) rfl) rfl ?_
     refine om rfl rfl ?_
     by_cases c61 : n4 ≠ 6
     · have r62 := ite_t r60 c61; clear r60
       refine shO_off (b' := true) 43 rfl (Env.isT rfl c61) rfl rfl (shO_off (b' := true) 43 rfl (Env.isT rfl c61) rfl rfl (shO_off (b' := true) 43 rfl (Env.isT rfl c61) rfl rfl (shO_offU 46 rfl rfl rfl (shO_offU 46 rfl rfl rfl (shO_offU 46 rfl rfl rfl (shO_offU 49 rfl rfl rfl (shO_offU 49 rfl rfl rfl (shO_offU 49 rfl rfl rfl (shO_offU 46 rfl rfl rfl ?_)))))))))
       refine shO_off (b' := true) 43 rfl (Env.isT rfl c61) rfl rfl ?_
       refine ov (v_pick_t (evD_true rfl c61) rfl) rfl ?_
       refine om rfl rfl (shO_off (b' := true) 56 rfl rfl rfl rfl (shO_off (b' := true) 56 rfl rfl rfl rfl (shO_off (b' := true) 56 rfl rfl rfl rfl (shO_offU 59 rfl rfl rfl (shO_offU 59 rfl rfl rfl (shO_offU 59 rfl rfl rfl (shO_offU 59 rfl rfl rfl (shO_offU 59 rfl rfl rfl (shO_offU 59 rfl rfl rfl ?_)))))))))
       refine shO_off (b' := true) 56 rfl rfl rfl rfl ?_
       refine ov (v_pick_t rfl rfl) rfl ?_
       refine shO_nil ?_
       obtain rfl := inj1 r62
       exact mi (kc (kd (kx kr))) ⟨rfl, rfl, (sc rfl (sc rfl (sc rfl (sc rfl (sc rfl (sc rfl (sn _)))))))⟩
     have r63 := ite_f r60 c61; clear r60
     refine shO_on (b := false) 43 rfl (Env.isF rfl c61) (om rfl rfl (shO_on (b := false) 43 rfl (Env.isF rfl c61) ?_))
     refine ov (v_eql rfl rfl) rfl ?_
     refine shO_on (b := false) 43 rfl (Env.isF rfl c61) (om rfl rfl ?_)
     by_cases c64 : n6 = 0
     · have r65 := ite_t r63 c64; clear r63
       refine shO_on (b := true) 46 rfl (Env.isT rfl c64) (om rfl rfl (shO_on (b := true) 46 rfl (Env.isT rfl c64) ?_))
       refine ov (v_neq rfl rfl) rfl ?_
       refine shO_on (b := true) 46 rfl (Env.isT rfl c64) (om rfl rfl (shO_off (b' := true) 49 rfl (Env.isT rfl c59) rfl rfl (shO_off (b' := true) 49 rfl (Env.isT rfl c59) rfl rfl (shO_off (b' := true) 49 rfl (Env.isT rfl c59) rfl rfl (shO_on (b := true) 46 rfl (Env.isT rfl c64) ?_)))))
       refine ov (v_pick_t (evD_true rfl c59) rfl) rfl ?_
       refine shO_on (b := false) 43 rfl (Env.isF rfl c61) ?_
       refine ov (v_pick_t (evD_true rfl c64) rfl) rfl ?_
       refine ov (v_pick_f (evD_false rfl c61) rfl) rfl ?_
       refine om rfl rfl (shO_off (b' := true) 56 rfl rfl rfl rfl (shO_off (b' := true) 56 rfl rfl rfl rfl (shO_off (b' := true) 56 rfl rfl rfl rfl (shO_offU 59 rfl rfl rfl (shO_offU 59 rfl rfl rfl (shO_offU 59 rfl rfl rfl (shO_offU 59 rfl rfl rfl (shO_offU 59 rfl rfl rfl (shO_offU 59 rfl rfl rfl ?_)))))))))
       refine shO_off (b' := true) 56 rfl rfl rfl rfl ?_
       refine ov (v_pick_t rfl rfl) rfl ?_
       refine shO_nil ?_
       obtain rfl := inj1 r65
       exact mi (kc (kd (kx kr))) ⟨rfl, rfl, (sc rfl (sc rfl (sc rfl (sc rfl (sc rfl (sc rfl (sn _)))))))⟩
     have r66 := ite_f r63 c64; clear r63
     refine shO_off (b' := false) 46 rfl (Env.isF rfl c64) rfl rfl (shO_off (b' := false) 46 rfl (Env.isF rfl c64) rfl rfl (shO_off (b' := false) 46 rfl (Env.isF rfl c64) rfl rfl (shO_offU 49 rfl rfl rfl (shO_offU 49 rfl rfl rfl (shO_offU 49 rfl rfl rfl (shO_off (b' := false) 46 rfl (Env.isF rfl c64) rfl rfl (shO_on (b := false) 43 rfl (Env.isF rfl c61) ?_)))))))
     refine ov (v_pick_f (evD_false rfl c64) rfl) rfl ?_
     refine ov (v_pick_f (evD_false rfl c61) rfl) rfl ?_
     refine om rfl rfl (shO_on (b := false) 56 rfl rfl (om rfl rfl (shO_on (b := false) 56 rfl rfl ?_)))
     refine ov (v_eql rfl rfl) rfl ?_
     refine shO_on (b := false) 56 rfl rfl (om rfl rfl ?_)
     by_cases c67 : n4 = 0
     · have r68 := ite_t r66 c67; clear r66
       refine shO_on (b := true) 59 rfl (Env.isT rfl c67) (om rfl rfl (shO_on (b := true) 59 rfl (Env.isT rfl c67) ?_))
       refine ov ((v_lenS Try.underlying30 rfl).i (SlR.lenI hz40)) rfl ?_
       refine shO_on (b := true) 59 rfl (Env.isT rfl c67) ?_
       refine ov (v_fieldAddr fa_26_4 rfl) rfl ?_
       refine shO_on (b := true) 59 rfl (Env.isT rfl c67) ?_
       refine ov (v_load Try.isAgg24 rfl (Has.own 0 rfl) rfl) rfl ?_
       refine shO_on (b := true) 59 rfl (Env.isT rfl c67) ?_
       refine ov ((v_lenS Try.underlying24 rfl).i (SlR.lenI hz26)) rfl ?_
       refine shO_on (b := true) 59 rfl (Env.isT rfl c67) ?_
       refine ov (v_neq rfl rfl) rfl ?_
       refine shO_on (b := false) 56 rfl rfl ?_
       refine ov (v_pick_t (evD_true rfl c67) rfl) rfl ?_
       refine ov (v_pick_f rfl rfl) rfl ?_
       refine shO_nil ?_
       obtain rfl := inj1 r68
       exact mi (kc (kd (kx kr))) ⟨rfl, rfl, (sc rfl (sc rfl (sc rfl (sc rfl (sc rfl (sc rfl (sn _)))))))⟩
     have r69 := ite_f r66 c67; clear r66
     refine shO_off (b' := false) 59 rfl (Env.isF rfl c67) rfl rfl (shO_off (b' := false) 59 rfl (Env.isF rfl c67) rfl rfl (shO_off (b' := false) 59 rfl (Env.isF rfl c67) rfl rfl (shO_off (b' := false) 59 rfl (Env.isF rfl c67) rfl rfl (shO_off (b' := false) 59 rfl (Env.isF rfl c67) rfl rfl (shO_off (b' := false) 59 rfl (Env.isF rfl c67) rfl rfl (shO_on (b := false) 56 rfl rfl ?_))))))
     refine ov (v_pick_f (evD_false rfl c67) rfl) rfl ?_
     refine ov (v_pick_f rfl rfl) rfl ?_
     refine shO_nil ?_
     obtain rfl := inj1 r69
     exact mi (kc (kd (kx kr))) ⟨rfl, rfl, (sc rfl (sc rfl (sc rfl (sc rfl (sc rfl (sc rfl (sn _)))))))⟩
   have r70 := ite_f h57 c59; clear h57
   refine shO_off (b' := false) 39 rfl (Env.isF rfl c59) rfl rfl (shO_off (b' := false) 39 rfl (Env.isF rfl c59) rfl rfl ?_)
   refine ov (v_pick_f (evD_false rfl c59) rfl) rfl ?_
   refine om rfl rfl (shO_on (b := false) 43 rfl rfl (om rfl rfl (shO_on (b := false) 43 rfl rfl ?_)))
   refine ov (v_eql rfl rfl) rfl ?_
   refine shO_on (b := false) 43 rfl rfl (om rfl rfl ?_)
   by_cases c71 : n6 = 0
   · have r72 := ite_t r70 c71; clear r70
     refine shO_on (b := true) 46 rfl (Env.isT rfl c71) (om rfl rfl (shO_on (b := true) 46 rfl (Env.isT rfl c71) ?_))
     refine ov (v_neq rfl rfl) rfl ?_
     refine shO_on (b := true) 46 rfl (Env.isT rfl c71) (om rfl rfl (shO_on (b := false) 49 rfl (Env.isF rfl c59) (om rfl rfl (shO_on (b := false) 49 rfl (Env.isF rfl c59) (om rfl rfl (shO_on (b := false) 49 rfl (Env.isF rfl c59) ?_))))))
     refine ov (v_gtrK rfl rfl) rfl ?_
     refine shO_on (b := true) 46 rfl (Env.isT rfl c71) ?_
     refine ov (v_pick_f (evD_false rfl c59) rfl) rfl ?_
     refine shO_on (b := false) 43 rfl rfl ?_
     refine ov (v_pick_t (evD_true rfl c71) rfl) rfl ?_
     refine ov (v_pick_f rfl rfl) rfl ?_
     refine om rfl rfl ?_
     by_cases c73 : n5 < n3
     · have r74 := ite_t r72 c73; clear r72
       refine shO_off (b' := true) 56 rfl (Env.isT rfl c73) rfl rfl (shO_off (b' := true) 56 rfl (Env.isT rfl c73) rfl rfl (shO_off (b' := true) 56 rfl (Env.isT rfl c73) rfl rfl (shO_offU 59 rfl rfl rfl (shO_offU 59 rfl rfl rfl (shO_offU 59 rfl rfl rfl (shO_offU 59 rfl rfl rfl (shO_offU 59 rfl rfl rfl (shO_offU 59 rfl rfl rfl (shO_off (b' := true) 56 rfl (Env.isT rfl c73) rfl rfl ?_)))))))))
       refine ov (v_pick_t (evD_true rfl c73) rfl) rfl ?_
       refine shO_nil ?_
       obtain rfl := inj1 r74
       exact mi (kc (kd (kx kr))) ⟨rfl, rfl, (sc rfl (sc rfl (sc rfl (sc rfl (sc rfl (sc rfl (sn _)))))))⟩
     have r75 := ite_f r72 c73; clear r72
     refine shO_on (b := false) 56 rfl (Env.isF rfl c73) (om rfl rfl (shO_on (b := false) 56 rfl (Env.isF rfl c73) ?_))
     refine ov (v_eql rfl rfl) rfl ?_
     refine shO_on (b := false) 56 rfl (Env.isF rfl c73) (om rfl rfl ?_)
     by_cases c76 : n4 = 0
     · have r77 := ite_t r75 c76; clear r75
       refine shO_on (b := true) 59 rfl (Env.isT rfl c76) (om rfl rfl (shO_on (b := true) 59 rfl (Env.isT rfl c76) ?_))
       refine ov ((v_lenS Try.underlying30 rfl).i (SlR.lenI hz40)) rfl ?_
       refine shO_on (b := true) 59 rfl (Env.isT rfl c76) ?_
       refine ov (v_fieldAddr fa_26_4 rfl) rfl ?_
       refine shO_on (b := true) 59 rfl (Env.isT rfl c76) ?_
       refine ov (v_load Try.isAgg24 rfl (Has.own 0 rfl) rfl) rfl ?_
       refine shO_on (b := true) 59 rfl (Env.isT rfl c76) ?_
       refine ov ((v_lenS Try.underlying24 rfl).i (SlR.lenI hz26)) rfl ?_
       refine shO_on (b := true) 59 rfl (Env.isT rfl c76) ?_
       refine ov (v_neq rfl rfl) rfl ?_
       refine shO_on (b := false) 56 rfl (Env.isF rfl c73) ?_
       refine ov (v_pick_t (evD_true rfl c76) rfl) rfl ?_
       refine ov (v_pick_f (evD_false rfl c73) rfl) rfl ?_
       refine shO_nil ?_
       obtain rfl := inj1 r77
       exact mi (kc (kd (kx kr))) ⟨rfl, rfl, (sc rfl (sc rfl (sc rfl (sc rfl (sc rfl (sc rfl (sn _)))))))⟩
     have r78 := ite_f r75 c76; clear r75
     refine shO_off (b' := false) 59 rfl (Env.isF rfl c76) rfl rfl (shO_off (b' := false) 59 rfl (Env.isF rfl c76) rfl rfl (shO_off (b' := false) 59 rfl (Env.isF rfl c76) rfl rfl (shO_off (b' := false) 59 rfl (Env.isF rfl c76) rfl rfl (shO_off (b' := false) 59 rfl (Env.isF rfl c76) rfl rfl (shO_off (b' := false) 59 rfl (Env.isF rfl c76) rfl rfl (shO_on (b := false) 56 rfl (Env.isF rfl c73) ?_))))))
     refine ov (v_pick_f (evD_false rfl c76) rfl) rfl ?_
     refine ov (v_pick_f (evD_false rfl c73) rfl) rfl ?_
     refine shO_nil ?_
     obtain rfl := inj1 r78
     exact mi (kc (kd (kx kr))) ⟨rfl, rfl, (sc rfl (sc rfl (sc rfl (sc rfl (sc rfl (sc rfl (sn _)))))))⟩
   have r79 := ite_f r70 c71; clear r70
   refine shO_off (b' := false) 46 rfl (Env.isF rfl c71) rfl rfl (shO_off (b' := false) 46 rfl (Env.isF rfl c71) rfl rfl (shO_off (b' := false) 46 rfl (Env.isF rfl c71) rfl rfl (shO_offU 49 rfl rfl rfl (shO_offU 49 rfl rfl rfl (shO_offU 49 rfl rfl rfl (shO_off (b' := false) 46 rfl (Env.isF rfl c71) rfl rfl (shO_on (b := false) 43 rfl rfl ?_)))))))
   refine ov (v_pick_f (evD_false rfl c71) rfl) rfl ?_
   refine ov (v_pick_f rfl rfl) rfl ?_
   refine om rfl rfl (shO_on (b := false) 56 rfl rfl (om rfl rfl (shO_on (b := false) 56 rfl rfl ?_)))
   refine ov (v_eql rfl rfl) rfl ?_
   refine shO_on (b := false) 56 rfl rfl (om rfl rfl ?_)
   by_cases c80 : n4 = 0
   · have r81 := ite_t r79 c80; clear r79
     refine shO_on (b := true) 59 rfl (Env.isT rfl c80) (om rfl rfl (shO_on (b := true) 59 rfl (Env.isT rfl c80) ?_))
     refine ov ((v_lenS Try.underlying30 rfl).i (SlR.lenI hz40)) rfl ?_
     refine shO_on (b := true) 59 rfl (Env.isT rfl c80) ?_
     refine ov (v_fieldAddr fa_26_4 rfl) rfl ?_
     refine shO_on (b := true) 59 rfl (Env.isT rfl c80) ?_
     refine ov (v_load Try.isAgg24 rfl (Has.own 0 rfl) rfl) rfl ?_
     refine shO_on (b := true) 59 rfl (Env.isT rfl c80) ?_
     refine ov ((v_lenS Try.underlying24 rfl).i (SlR.lenI hz26)) rfl ?_
     refine shO_on (b := true) 59 rfl (Env.isT rfl c80) ?_
     refine ov (v_neq rfl rfl) rfl ?_
     refine shO_on (b := false) 56 rfl rfl ?_
     refine ov (v_pick_t (evD_true rfl c80) rfl) rfl ?_
     refine ov (v_pick_f rfl rfl) rfl ?_
     refine shO_nil ?_
     obtain rfl := inj1 r81
     exact mi (kc (kd (kx kr))) ⟨rfl, rfl, (sc rfl (sc rfl (sc rfl (sc rfl (sc rfl (sc rfl (sn _)))))))⟩
   have r82 := ite_f r79 c80; clear r79
   refine shO_off (b' := false) 59 rfl (Env.isF rfl c80) rfl rfl (shO_off (b' := false) 59 rfl (Env.isF rfl c80) rfl rfl (shO_off (b' := false) 59 rfl (Env.isF rfl c80) rfl rfl (shO_off (b' := false) 59 rfl (Env.isF rfl c80) rfl rfl (shO_off (b' := false) 59 rfl (Env.isF rfl c80) rfl rfl (shO_off (b' := false) 59 rfl (Env.isF rfl c80) rfl rfl (shO_on (b := false) 56 rfl rfl ?_))))))
   refine ov (v_pick_f (evD_false rfl c80) rfl) rfl ?_
   refine ov (v_pick_f rfl rfl) rfl ?_
   refine shO_nil ?_
   obtain rfl := inj1 r82
   exact mi (kc (kd (kx kr))) ⟨rfl, rfl, (sc rfl (sc rfl (sc rfl (sc rfl (sc rfl (sc rfl (sn _)))))))⟩
 rintro e1 _ _ ⟨rfl, rfl, he83⟩
 refine shW_env _ he83 ?_; clear he83
 refine shW_cond rfl (fun c84 => ?_) (fun c84 => ?_)
 · have r85 := bt r58 c84; clear r58
   refine wsr (oa rfl rfl (shO_nil ?_))
   refine kW kn ?_
   refine shW_ret (andThen_ret ?_)
   refine q_res1 Try.results3 (res_tmp rfl) (sr) ?_
   obtain rfl := inj1 r85
   exact rfl
 have r86 := bf r58 c84; clear r58
 refine shW_skip (wsr ?_)
 refine ov (v_makeFunc rfl rfl) rfl ?_
 refine oa rfl rfl (nsr ?_)
 refine ov (v_fieldAddr fa_26_4 rfl) rfl ?_
 refine ov (v_load Try.isAgg24 rfl (Has.own 0 rfl) rfl) rfl ?_
 refine ov ((v_lenS Try.underlying24 rfl).i (SlR.lenI hz26)) rfl ?_
 obtain ⟨g87, r88⟩ := gd_ok r86; clear r86
 obtain ⟨l6, h89, r90⟩ := bv_ok r88; clear r88
 refine o_makeZ (R := (iE .i64)) (z0 := 0) (zs := l6) rfl slt_30 (by decide) (iE_ok _) (fun _ => rfl) rfl g87 h89 (fun _ => .c .n) ?_; intro a91 n94 Lb92 hz93
 refine oa rfl rfl (shO_nil ?_)
 obtain ⟨other, h98, r99⟩ := b1_ok r90; clear r90
 refine shW_join (fun e1 F1 L1 => ∃ (Lb96 : LH), F46 = F1 ∧ L1 = ((b30, .cells #[.slice a17 l.length c18, .slice a20 l2.length c21, .int .i64 n, .int .i64 n2, .slice a23 n27 c24] 26 (0, 0)) :: (Lb39 ++ (Lb25 ++ (Lb96 ++ [])))) ∧ e1.sub [(6, .slice a37 n41 c38), (7, .int .i64 n3), (8, .int .i64 n4), (12, .func (.func 10) #[] #[.pointer (some ⟨b30, 0, none⟩)]), (13, .slice a91 n94 n94)] ∧ SlR K.w0.heap.size 3 1 (iE .i64) F1 a91 n94 n94 other Lb96) ?_ ?_
 · clear r99
   refine wsr (om rfl rfl ?_)
   refine ov ((v_lenS Try.underlying30 rfl).i (SlR.lenI hz93)) rfl ?_
   refine om rfl rfl (shO_nil ?_)
   refine shW_block ?_
   obtain ⟨g102, r103⟩ := gd_ok h98; clear h98
   refine shW_lp (fun fu1 e1 F1 L1 => ∃ (k2 : Int), Ctr 0 (l6.length : Int) k2 fu1 ∧ ∃ (other2 : List Int) (Lb100 : LH), oyezlaw03_RoundShared_l1 share fu1 k2 other2 = some other ∧ F46 = F1 ∧ L1 = ((b30, .cells #[.slice a17 l.length c18, .slice a20 l2.length c21, .int .i64 n, .int .i64 n2, .slice a23 n27 c24] 26 (0, 0)) :: (Lb39 ++ (Lb25 ++ (Lb100 ++ [])))) ∧ e1.sub [(1, .int .u8 share), (6, .slice a37 n41 c38), (7, .int .i64 n3), (8, .int .i64 n4), (12, .func (.func 10) #[] #[.pointer (some ⟨b30, 0, none⟩)]), (13, .slice a91 n94 n94), (74, .int .i64 (l6.length : Int)), (75, .int .i64 k2)] ∧ SlR K.w0.heap.size 3 1 (iE .i64) F1 a91 n94 n94 other2 Lb100) _ (m0 (kc (kg (fS (fS fP)) (kg (fS fP) kr))) ⟨_, Ctr.start _ _, l6, Lb92, r103, rfl, rfl, (sc rfl (sc rfl (sc rfl (sc rfl (sc rfl (sc rfl (sc rfl (sc rfl (sn _))))))))), hz93⟩) ?_
   rintro fu1 e1 _ _ ⟨k2, hk104, other2, Lb100, r106, rfl, rfl, he107, hz101⟩
   refine shW_env _ he107 ?_; clear he107
   refine wsr ?_
   refine ov (v_lssK rfl rfl) rfl ?_
   refine shO_nil (shW_seq ?_)
   refine shW_condP rfl (fun c109 => ?_) (fun c109 => ?_)
   · obtain ⟨fu1, rfl, hk110⟩ := Ctr.succ hk104 c109
     rw [oyezlaw03_RoundShared_l1] at r106
     refine shW_skip (shW_seq ?_)
     refine shW_block ?_
     refine wsr (om rfl rfl (oa rfl rfl (shO_nil (shW_region (om rfl rfl (om rfl rfl (om rfl rfl ?_)))))))
     obtain ⟨g111, r112⟩ := gd_ok r106; clear r106
     refine ov (i_conv Try.underlying5 Try.underlying3 rfl g111) rfl ?_
     refine om rfl rfl ?_
     obtain ⟨g113, r114⟩ := gd_ok r112; clear r112
     refine ov (v_shr rfl rfl g113) rfl ?_
     refine ov (v_and rfl rfl) rfl ?_
     obtain ⟨x, g115, hx116, r117⟩ := ix_ok r114; clear r114
     obtain ⟨b118, o119, c120, vs121, ha122, hs123, hle124, rfl, hl125, hc126⟩ := SlR.at (iE_ok _) hz101 (L := (b30, .cells #[.slice a17 l.length c18, .slice a20 l2.length c21, .int .i64 n, .int .i64 n2, .slice a23 n27 c24] 26 (0, 0)) :: (Lb39 ++ (Lb25 ++ (Lb100 ++ [])))) (fC (fS (fS fP))) g115.1 hx116
     refine ov (v_indexO Try.underlying30 Try.sizeOf3 rfl ha122 rfl (SlR.idx hz101 g115)) rfl ?_
     obtain ⟨other3, h127, r128⟩ := bv_ok r117; clear r117
     refine o_storeZ (u := band (shr share k2) 1) Try.sizeOf3 (iE_ok _) rfl ha122 rfl rfl (fun _ => .c (.s (.s .h))) hz101 h127 g115 ?_; intro Lb129 hz130
     refine shO_nil (inBlock_n (id := 1) (shW_region ?_))
     refine ov (v_add rfl rfl (Ctr.r64 hk104 c109 g102)) rfl ?_
     refine om rfl rfl (shO_nil ?_)
     exact le kr ⟨_, hk110, other3, Lb129, r128, rfl, rfl, (sc rfl (sc rfl (sc rfl (sc rfl (sc rfl (sc rfl (sc rfl (sc rfl (sn _))))))))), hz130⟩
   obtain rfl := Ctr.zero hk104 c109
   rw [oyezlaw03_RoundShared_l1] at r106
   refine shW_exit (andThen_exit (andThen_exit ?_))
   refine inBlock_exit ?_
   obtain rfl := inj1 r106
   exact mi kr ⟨Lb100, rfl, rfl, (sc rfl (sc rfl (sc rfl (sc rfl (sc rfl (sn _)))))), hz101⟩
 rintro e1 _ _ ⟨Lb96, rfl, rfl, he131, hz97⟩
 refine shW_env _ he131 ?_; clear he131
 refine wsr (om rfl rfl (om rfl rfl ?_))
 obtain rfl := (SlR.caps hz26).1
 refine shO_freezeR (Nat.le_refl _) (prE_ok (slE_ok (iE_ok _)) (prE_ok (iE_ok _) (iE_ok _))) (fC (fS fP)) hz26 ?_; intro F132 hF133 h134
 replace h19 := h19.mono (slE_ok (iE_ok _)) hF133
 replace h22 := h22.mono (slE_ok (iE_ok _)) hF133
 replace hz40 := hz40.mono (iE_ok _) hF133
 replace hz97 := hz97.mono (iE_ok _) hF133
 refine shO_freeze 0 rfl hb30 ?_; intro F135 hF136 hz137
 refine shO_L (L' := Lb39 ++ (Lb96 ++ [])) rfl ?_
 replace h19 := h19.mono (slE_ok (iE_ok _)) hF136
 replace h22 := h22.mono (slE_ok (iE_ok _)) hF136
 replace h134 := h134.mono (prE_ok (slE_ok (iE_ok _)) (prE_ok (iE_ok _) (iE_ok _))) hF136
 replace hz40 := hz40.mono (iE_ok _) hF136
 replace hz97 := hz97.mono (iE_ok _) hF136
 obtain ⟨n7, ok, h138, r139⟩ := b2_ok r99; clear r99
 refine o_callT (Lt := Lb96 ++ []) (Lr := Lb39 ++ []) rfl Try.call10 rfl rfl rfl (pT ((fS fP).trans (pA pR)) (lp (ln rfl))) (fun F2 h2 h3 => by have h0 := oyezlaw03_RoundShared_1_w (hz97.row (iE_ok _) h2 (fun p hp => h3 p (List.mem_append_left _ hp))) (h2 _ _ hz137) (h19.mono (slE_ok (iE_ok _)) h2) (h22.mono (slE_ok (iE_ok _)) h2) (h134.mono (prE_ok (slE_ok (iE_ok _)) (prE_ok (iE_ok _) (iE_ok _))) h2) h138; rw [← (SlR.caps hz97).1] at h0; exact h0) ?_
 refine om rfl rfl (ox rfl rfl rfl (ox rfl rfl rfl (oa rfl rfl (oa rfl rfl (shO_nil (shW_seq ?_))))))
 obtain ⟨k3, h140, r141⟩ := b1_ok r139; clear r139
 refine shW_join (fun e1 F1 L1 => F135 = F1 ∧ L1 = (Lb39 ++ (Lb96 ++ [])) ∧ e1.sub [(6, .slice a37 n41 c38), (7, .int .i64 n3), (8, .int .i64 n4), (12, .func (.func 10) #[] #[.pointer (some ⟨b30, 0, none⟩)]), (13, .slice a91 n94 n94), (102, .bool k3)]) ?_ ?_
 · clear r141
   refine shW_region (om rfl rfl (om rfl rfl ?_))
   rcases bool_two ok with c142 | c142
   · have r143 := bt h140 c142; clear h140
     refine shO_on (b := true) 94 rfl (EnvB rfl c142) (om rfl rfl (shO_on (b := true) 94 rfl (EnvB rfl c142) ?_))
     refine ov (v_neq rfl rfl) rfl ?_
     refine shO_on (b := true) 94 rfl (EnvB rfl c142) (om rfl rfl ?_)
     by_cases c144 : n4 ≠ 0
     · have r145 := ite_t r143 c144; clear r143
       refine shO_off (b' := true) 97 rfl (Env.isT rfl c144) rfl rfl (shO_off (b' := true) 97 rfl (Env.isT rfl c144) rfl rfl (shO_off (b' := true) 97 rfl (Env.isT rfl c144) rfl rfl (shO_on (b := true) 94 rfl (EnvB rfl c142) ?_)))
       refine ov (v_pick_t (evD_true rfl c144) rfl) rfl ?_
       refine ov (v_pick_t (evB rfl c142) rfl) rfl ?_
       refine shO_nil ?_
       obtain rfl := inj1 r145
       exact mi kr ⟨rfl, rfl, (sc rfl (sc rfl (sc rfl (sc rfl (sc rfl (sc rfl (sn _)))))))⟩
     have r146 := ite_f r143 c144; clear r143
     refine shO_on (b := false) 97 rfl (Env.isF rfl c144) (om rfl rfl (shO_on (b := false) 97 rfl (Env.isF rfl c144) (om rfl rfl (shO_on (b := false) 97 rfl (Env.isF rfl c144) ?_))))
     refine ov (v_lssK rfl rfl) rfl ?_
     refine shO_on (b := true) 94 rfl (EnvB rfl c142) ?_
     refine ov (v_pick_f (evD_false rfl c144) rfl) rfl ?_
     refine ov (v_pick_t (evB rfl c142) rfl) rfl ?_
     refine shO_nil ?_
     obtain rfl := inj1 r146
     exact mi kr ⟨rfl, rfl, (sc rfl (sc rfl (sc rfl (sc rfl (sc rfl (sc rfl (sn _)))))))⟩
   have r147 := bf h140 c142; clear h140
   refine shO_off (b' := false) 94 rfl (EnvB rfl c142) rfl rfl (shO_off (b' := false) 94 rfl (EnvB rfl c142) rfl rfl (shO_off (b' := false) 94 rfl (EnvB rfl c142) rfl rfl (shO_offU 97 rfl rfl rfl (shO_offU 97 rfl rfl rfl (shO_offU 97 rfl rfl rfl (shO_off (b' := false) 94 rfl (EnvB rfl c142) rfl rfl ?_))))))
   refine ov (v_pick_f (evB rfl c142) rfl) rfl ?_
   refine shO_nil ?_
   obtain rfl := inj1 r147
   exact mi kr ⟨rfl, rfl, (sc rfl (sc rfl (sc rfl (sc rfl (sc rfl (sc rfl (sn _)))))))⟩
 rintro e1 _ _ ⟨rfl, rfl, he148⟩
 refine shW_env _ he148 ?_; clear he148
 refine shW_cond rfl (fun c149 => ?_) (fun c149 => ?_)
 · have r150 := bt r141 c149; clear r141
   refine wsr (oa rfl rfl (shO_nil ?_))
   refine kW kn ?_
   refine shW_ret (andThen_ret ?_)
   refine q_res1 Try.results3 (res_tmp rfl) (sr) ?_
   obtain rfl := inj1 r150
   exact rfl
 have r151 := bf r141 c149; clear r141
 refine shW_skip (shW_seq (wsr (om rfl rfl ?_)))
 refine ov (v_neq rfl rfl) rfl ?_
 refine shO_nil ?_
 refine shW_condP rfl (fun c152 => ?_) (fun c152 => ?_)
 · have r153 := ite_t r151 c152; clear r151
   refine wsr ?_
   obtain ⟨ok2, h154, r155⟩ := b1_ok r153; clear r153
   refine o_callV rfl Try.call12 rfl rfl rfl (oyezlaw03_awake_w h154) ?_
   refine oa rfl rfl (shO_nil ?_)
   refine kW kn ?_
   refine shW_ret (andThen_ret ?_)
   refine q_res1 Try.results3 (res_tmp rfl) (sr) ?_
   obtain rfl := inj1 r155
   exact rfl
 have r156 := ite_f r151 c152; clear r151
 refine shW_skip ?_
 refine shW_join (fun e1 F1 L1 => ∃ (other4 : List Int) (Lb157 : LH), oyezlaw03_RoundShared_j2 l l2 n n2 l3 l4 n3 other4 = some r ∧ F135 = F1 ∧ L1 = (Lb39 ++ (Lb157 ++ [])) ∧ e1.sub [(6, .slice a37 n41 c38), (7, .int .i64 n3), (12, .func (.func 10) #[] #[.pointer (some ⟨b30, 0, none⟩)]), (13, .slice a91 n94 n94)] ∧ SlR K.w0.heap.size 3 1 (iE .i64) F1 a91 n94 n94 other4 Lb157) ?_ ?_
 · refine wsr (om rfl rfl ?_)
   refine ov ((v_lenS Try.underlying30 rfl).i (SlR.lenI hz40)) rfl ?_
   refine om rfl rfl (shO_nil ?_)
   refine shW_block ?_
   refine shW_lp (fun fu3 e1 F1 L1 => ∃ (tl : List Int) (k4 : Int), tl.length = fu3 ∧ Lst l4 k4 tl ∧ ∃ (other5 : List Int) (Lb159 : LH), oyezlaw03_RoundShared_l3 l l2 n n2 l3 l4 n3 tl k4 other5 = some r ∧ F135 = F1 ∧ L1 = (Lb39 ++ (Lb159 ++ [])) ∧ e1.sub [(6, .slice a37 n41 c38), (7, .int .i64 n3), (12, .func (.func 10) #[] #[.pointer (some ⟨b30, 0, none⟩)]), (13, .slice a91 n94 n94), (106, .slice a37 n41 c38), (107, .int .i64 (l4.length : Int)), (108, .int .i64 k4)] ∧ SlR K.w0.heap.size 3 1 (iE .i64) F1 a91 n94 n94 other5 Lb159) _ (m0 kr ⟨_, _, rfl, Lst.start _, other, Lb96, r156, rfl, rfl, (sc rfl (sc rfl (sc rfl (sc rfl (sc rfl (sc rfl (sc rfl (sn _)))))))), hz97⟩) ?_
   rintro fu3 e1 _ _ ⟨tl, k4, hn162, hk161, other5, Lb159, r163, rfl, rfl, he164, hz160⟩
   refine shW_env _ he164 ?_; clear he164
   refine wsr ?_
   refine ov (v_lssK rfl rfl) rfl ?_
   refine shO_nil (shW_seq ?_)
   refine shW_condP rfl (fun c166 => ?_) (fun c166 => ?_)
   · obtain ⟨x2, tl2, rfl, hx168, g169, hk167⟩ := Lst.succ hk161 c166
     rw [oyezlaw03_RoundShared_l3] at r163
     refine shW_skip (shW_seq ?_)
     refine shW_block ?_
     refine wsr (om rfl rfl ?_)
     obtain ⟨b170, o171, c172, vs173, ha174, hs175, hle176, rfl, hl177, hc178⟩ := SlR.at (iE_ok _) hz40 (L := Lb39 ++ (Lb159 ++ [])) fP g169.1 hx168
     refine ov (v_indexO Try.underlying30 Try.sizeOf3 rfl ha174 rfl (SlR.idx hz40 g169)) rfl ?_
     refine ov (v_load Try.isAgg3 rfl hs175 (hc178 0 (by decide))) rfl ?_
     refine oa rfl rfl (oa rfl rfl (shO_nil (shW_seq ?_)))
     obtain ⟨k5, h179, r180⟩ := b1_ok r163; clear r163
     refine shW_join (fun e1 F1 L1 => F135 = F1 ∧ L1 = (Lb39 ++ (Lb159 ++ [])) ∧ e1.sub [(6, .slice a37 n41 c38), (7, .int .i64 n3), (12, .func (.func 10) #[] #[.pointer (some ⟨b30, 0, none⟩)]), (13, .slice a91 n94 n94), (17, .int .i64 k4), (18, .int .i64 x2), (106, .slice a37 n41 c38), (107, .int .i64 (l4.length : Int)), (108, .int .i64 k4), (118, .bool k5)]) ?_ ?_
     · clear r180
       refine shW_region (om rfl rfl ?_)
       refine ov (v_neq rfl rfl) rfl ?_
       refine om rfl rfl ?_
       by_cases c181 : x2 ≠ 0
       · have r182 := ite_t h179 c181; clear h179
         refine shO_on (b := true) 115 rfl (Env.isT rfl c181) (om rfl rfl (shO_on (b := true) 115 rfl (Env.isT rfl c181) ?_))
         refine ov (v_neq rfl rfl) rfl ?_
         refine ov (v_pick_t (evD_true rfl c181) rfl) rfl ?_
         refine shO_nil ?_
         obtain rfl := inj1 r182
         exact mi kr ⟨rfl, rfl, (sc rfl (sc rfl (sc rfl (sc rfl (sc rfl (sc rfl (sc rfl (sc rfl (sc rfl (sc rfl (sn _)))))))))))⟩
       have r183 := ite_f h179 c181; clear h179
       refine shO_off (b' := false) 115 rfl (Env.isF rfl c181) rfl rfl (shO_off (b' := false) 115 rfl (Env.isF rfl c181) rfl rfl ?_)
       refine ov (v_pick_f (evD_false rfl c181) rfl) rfl ?_
       refine shO_nil ?_
       obtain rfl := inj1 r183
       exact mi kr ⟨rfl, rfl, (sc rfl (sc rfl (sc rfl (sc rfl (sc rfl (sc rfl (sc rfl (sc rfl (sc rfl (sc rfl (sn _)))))))))))⟩
     rintro e1 _ _ ⟨rfl, rfl, he184⟩
     refine shW_env _ he184 ?_; clear he184
     refine shW_cond rfl (fun c185 => ?_) (fun c185 => ?_)
     · have r186 := bt r180 c185; clear r180
       refine wsr (oa rfl rfl (shO_nil ?_))
       refine kW kn ?_
       refine shW_ret (andThen_ret (inBlock_ret (andThen_ret (andThen_ret (inBlock_ret (andThen_ret ?_))))))
       refine q_res1 Try.results3 (res_tmp rfl) (sr) ?_
       obtain rfl := inj1 r186
       exact rfl
     have r187 := bf r180 c185; clear r180
     refine shW_skip (shW_region (om rfl rfl (om rfl rfl (om rfl rfl ?_))))
     obtain ⟨g188, r189⟩ := gd_ok r187; clear r187
     refine ov (v_sub rfl rfl g188) rfl ?_
     obtain ⟨x3, g190, hx191, r192⟩ := ix_ok r189; clear r189
     obtain ⟨b193, o194, c195, vs196, ha197, hs198, hle199, rfl, hl200, hc201⟩ := SlR.at (iE_ok _) hz160 (L := Lb39 ++ (Lb159 ++ [])) (fS fP) g190.1 hx191
     refine ov (v_indexO Try.underlying30 Try.sizeOf3 rfl ha197 rfl (SlR.idx hz160 g190)) rfl ?_
     obtain ⟨other6, h202, r203⟩ := bv_ok r192; clear r192
     refine o_storeZ (u := 1 - x2) Try.sizeOf3 (iE_ok _) rfl ha197 rfl rfl (fun _ => .s .h) hz160 h202 g190 ?_; intro Lb204 hz205
     refine shO_nil (inBlock_n (id := 3) (shW_region ?_))
     refine ov (v_add rfl rfl (Lst.r64 hk161 c166 (SlR.llt hz40))) rfl ?_
     refine om rfl rfl (shO_nil ?_)
     subst hn162; exact le kr ⟨_, _, rfl, hk167, other6, Lb204, r203, rfl, rfl, (sc rfl (sc rfl (sc rfl (sc rfl (sc rfl (sc rfl (sc rfl (sn _)))))))), hz205⟩
   obtain rfl := Lst.zero hk161 c166
   rw [oyezlaw03_RoundShared_l3] at r163
   refine shW_exit (andThen_exit (andThen_exit ?_))
   refine inBlock_exit ?_
   exact mi kr ⟨other5, Lb159, r163, rfl, rfl, (sc rfl (sc rfl (sc rfl (sc rfl (sn _))))), hz160⟩
 rintro e1 _ _ ⟨other4, Lb157, r206, rfl, rfl, he207, hz158⟩
 refine shW_env _ he207 ?_; clear he207
 rw [oyezlaw03_RoundShared_j2] at r206
 refine wsr (om rfl rfl (om rfl rfl ?_))
 obtain ⟨n8, ok3, h208, r209⟩ := b2_ok r206; clear r206
 refine o_callT (Lt := Lb39 ++ []) (Lr := Lb157 ++ []) rfl Try.call10 rfl rfl rfl (pT pR (lp (ln rfl))) (fun F2 h2 h3 => by rw [(SlR.caps hz40).1]; exact oyezlaw03_RoundShared_1_w (hz40.row (iE_ok _) h2 (fun p hp => h3 p (List.mem_append_left _ hp))) (h2 _ _ hz137) (h19.mono (slE_ok (iE_ok _)) h2) (h22.mono (slE_ok (iE_ok _)) h2) (h134.mono (prE_ok (slE_ok (iE_ok _)) (prE_ok (iE_ok _) (iE_ok _))) h2) h208) ?_
 refine om rfl rfl (ox rfl rfl rfl (ox rfl rfl rfl (oa rfl rfl (oa rfl rfl (nsr (om rfl rfl (om rfl rfl ?_)))))))
 obtain ⟨n9, ok4, h210, r211⟩ := b2_ok r209; clear r209
 refine o_callT (Lt := Lb157 ++ []) (Lr := Lb39 ++ []) rfl Try.call10 rfl rfl rfl (pT ((fS fP).trans (pA pR)) (lp (ln rfl))) (fun F2 h2 h3 => by have h0 := oyezlaw03_RoundShared_1_w (hz158.row (iE_ok _) h2 (fun p hp => h3 p (List.mem_append_left _ hp))) (h2 _ _ hz137) (h19.mono (slE_ok (iE_ok _)) h2) (h22.mono (slE_ok (iE_ok _)) h2) (h134.mono (prE_ok (slE_ok (iE_ok _)) (prE_ok (iE_ok _) (iE_ok _))) h2) h210; rw [← (SlR.caps hz158).1] at h0; exact h0) ?_
 refine om rfl rfl (ox rfl rfl rfl (ox rfl rfl rfl (oa rfl rfl (oa rfl rfl (nsr (om rfl rfl (om rfl rfl ?_)))))))
 rcases bool_two ok3 with c212 | c212
 · have r213 := bt r211 c212; clear r211
   refine shO_on (b := true) 138 rfl (EnvB rfl c212) (om rfl rfl ?_)
   refine ov (v_pick_t (evB rfl c212) rfl) rfl ?_
   refine om rfl rfl ?_
   rcases bool_two ok4 with c214 | c214
   · have r215 := bt r213 c214; clear r213
     refine shO_on (b := true) 141 rfl (EnvB rfl c214) (om rfl rfl (shO_on (b := true) 141 rfl (EnvB rfl c214) (om rfl rfl (shO_on (b := true) 141 rfl (EnvB rfl c214) ?_))))
     refine ov (v_eql rfl rfl) rfl ?_
     refine ov (v_pick_t (evB rfl c214) rfl) rfl ?_
     refine om rfl rfl ?_
     by_cases c216 : n8 = n3
     · have r217 := ite_t r215 c216; clear r215
       refine shO_on (b := true) 146 rfl (Env.isT rfl c216) (om rfl rfl (shO_on (b := true) 146 rfl (Env.isT rfl c216) (om rfl rfl (shO_on (b := true) 146 rfl (Env.isT rfl c216) ?_))))
       refine ov (v_eql rfl rfl) rfl ?_
       refine ov (v_pick_t (evD_true rfl c216) rfl) rfl ?_
       refine om rfl rfl ?_
       by_cases c218 : n9 = n3
       · have r219 := ite_t r217 c218; clear r217
         refine shO_on (b := true) 151 rfl (Env.isT rfl c218) (om rfl rfl (shO_on (b := true) 151 rfl (Env.isT rfl c218) ?_))
         refine ov ((v_lenS Try.underlying30 rfl).i (SlR.lenI hz40)) rfl ?_
         refine shO_on (b := true) 151 rfl (Env.isT rfl c218) ?_
         refine ov (v_eql rfl rfl) rfl ?_
         refine shO_on (b := true) 151 rfl (Env.isT rfl c218) (om rfl rfl ?_)
         by_cases c220 : (l4.length : Int) = 0
         · have r221 := ite_t r219 c220; clear r219
           refine shO_off (b' := true) 155 rfl (Env.isT rfl c220) rfl rfl (shO_off (b' := true) 155 rfl (Env.isT rfl c220) rfl rfl (shO_off (b' := true) 155 rfl (Env.isT rfl c220) rfl rfl (shO_off (b' := true) 155 rfl (Env.isT rfl c220) rfl rfl (shO_on (b := true) 151 rfl (Env.isT rfl c218) ?_))))
           refine ov (v_pick_t (evD_true rfl c220) rfl) rfl ?_
           refine ov (v_pick_t (evD_true rfl c218) rfl) rfl ?_
           refine om rfl rfl (shO_on (b := true) 162 rfl rfl ?_)
           obtain ⟨ok5, h222, r223⟩ := b1_ok r221; clear r221
           refine o_callV rfl Try.call12 rfl rfl rfl (oyezlaw03_awake_w h222) ?_
           refine ov (v_pick_t rfl rfl) rfl ?_
           refine oa rfl rfl (shO_nil ?_)
           refine kW kn ?_
           refine shW_ret ?_
           refine q_res1 Try.results3 (res_tmp rfl) (sr) ?_
           obtain rfl := inj1 r223
           exact rfl
         have r224 := ite_f r219 c220; clear r219
         refine shO_on (b := false) 155 rfl (Env.isF rfl c220) (om rfl rfl (shO_on (b := false) 155 rfl (Env.isF rfl c220) ?_))
         obtain ⟨x4, g225, hx226, r227⟩ := ix_ok r224; clear r224
         obtain ⟨b228, o229, c230, vs231, ha232, hs233, hle234, rfl, hl235, hc236⟩ := SlR.at (iE_ok _) hz40 (L := Lb39 ++ (Lb157 ++ [])) fP g225.1 hx226
         refine ov (v_indexO Try.underlying30 Try.sizeOf3 rfl ha232 rfl (SlR.idx hz40 g225)) rfl ?_
         refine shO_on (b := false) 155 rfl (Env.isF rfl c220) ?_
         refine ov (v_load Try.isAgg3 rfl hs233 (hc236 0 (by decide))) rfl ?_
         refine shO_on (b := false) 155 rfl (Env.isF rfl c220) ?_
         refine ov (v_eql rfl rfl) rfl ?_
         refine shO_on (b := true) 151 rfl (Env.isT rfl c218) ?_
         refine ov (v_pick_f (evD_false rfl c220) rfl) rfl ?_
         refine ov (v_pick_t (evD_true rfl c218) rfl) rfl ?_
         refine om rfl rfl ?_
         by_cases c237 : x4 = 0
         · have r238 := ite_t r227 c237; clear r227
           refine shO_on (b := true) 162 rfl (Env.isT rfl c237) ?_
           obtain ⟨ok6, h239, r240⟩ := b1_ok r238; clear r238
           refine o_callV rfl Try.call12 rfl rfl rfl (oyezlaw03_awake_w h239) ?_
           refine ov (v_pick_t (evD_true rfl c237) rfl) rfl ?_
           refine oa rfl rfl (shO_nil ?_)
           refine kW kn ?_
           refine shW_ret ?_
           refine q_res1 Try.results3 (res_tmp rfl) (sr) ?_
           obtain rfl := inj1 r240
           exact rfl
         have r241 := ite_f r227 c237; clear r227
         refine shO_off (b' := false) 162 rfl (Env.isF rfl c237) rfl rfl ?_
         refine ov (v_pick_f (evD_false rfl c237) rfl) rfl ?_
         refine oa rfl rfl (shO_nil ?_)
         refine kW kn ?_
         refine shW_ret ?_
         refine q_res1 Try.results3 (res_tmp rfl) (sr) ?_
         obtain rfl := inj1 r241
         exact rfl
       have r242 := ite_f r217 c218; clear r217
       refine shO_off (b' := false) 151 rfl (Env.isF rfl c218) rfl rfl (shO_off (b' := false) 151 rfl (Env.isF rfl c218) rfl rfl (shO_off (b' := false) 151 rfl (Env.isF rfl c218) rfl rfl (shO_off (b' := false) 151 rfl (Env.isF rfl c218) rfl rfl (shO_offU 155 rfl rfl rfl (shO_offU 155 rfl rfl rfl (shO_offU 155 rfl rfl rfl (shO_offU 155 rfl rfl rfl (shO_off (b' := false) 151 rfl (Env.isF rfl c218) rfl rfl ?_))))))))
       refine ov (v_pick_f (evD_false rfl c218) rfl) rfl ?_
       refine om rfl rfl (shO_off (b' := false) 162 rfl rfl rfl rfl ?_)
       refine ov (v_pick_f rfl rfl) rfl ?_
       refine oa rfl rfl (shO_nil ?_)
       refine kW kn ?_
       refine shW_ret ?_
       refine q_res1 Try.results3 (res_tmp rfl) (sr) ?_
       obtain rfl := inj1 r242
       exact rfl
     have r243 := ite_f r215 c216; clear r215
     refine shO_off (b' := false) 146 rfl (Env.isF rfl c216) rfl rfl (shO_off (b' := false) 146 rfl (Env.isF rfl c216) rfl rfl (shO_off (b' := false) 146 rfl (Env.isF rfl c216) rfl rfl ?_))
     refine ov (v_pick_f (evD_false rfl c216) rfl) rfl ?_
     refine om rfl rfl (shO_off (b' := false) 151 rfl rfl rfl rfl (shO_off (b' := false) 151 rfl rfl rfl rfl (shO_off (b' := false) 151 rfl rfl rfl rfl (shO_off (b' := false) 151 rfl rfl rfl rfl (shO_offU 155 rfl rfl rfl (shO_offU 155 rfl rfl rfl (shO_offU 155 rfl rfl rfl (shO_offU 155 rfl rfl rfl (shO_off (b' := false) 151 rfl rfl rfl rfl ?_)))))))))
     refine ov (v_pick_f rfl rfl) rfl ?_
     refine om rfl rfl (shO_off (b' := false) 162 rfl rfl rfl rfl ?_)
     refine ov (v_pick_f rfl rfl) rfl ?_
     refine oa rfl rfl (shO_nil ?_)
     refine kW kn ?_
     refine shW_ret ?_
     refine q_res1 Try.results3 (res_tmp rfl) (sr) ?_
     obtain rfl := inj1 r243
     exact rfl
   have r244 := bf r213 c214; clear r213
   refine shO_off (b' := false) 141 rfl (EnvB rfl c214) rfl rfl (shO_off (b' := false) 141 rfl (EnvB rfl c214) rfl rfl (shO_off (b' := false) 141 rfl (EnvB rfl c214) rfl rfl ?_))
   refine ov (v_pick_f (evB rfl c214) rfl) rfl ?_
   refine om rfl rfl (shO_off (b' := false) 146 rfl rfl rfl rfl (shO_off (b' := false) 146 rfl rfl rfl rfl (shO_off (b' := false) 146 rfl rfl rfl rfl ?_)))
   refine ov (v_pick_f rfl rfl) rfl ?_
   refine om rfl rfl (shO_off (b' := false) 151 rfl rfl rfl rfl (shO_off (b' := false) 151 rfl rfl rfl rfl (shO_off (b' := false) 151 rfl rfl rfl rfl (shO_off (b' := false) 151 rfl rfl rfl rfl (shO_offU 155 rfl rfl rfl (shO_offU 155 rfl rfl rfl (shO_offU 155 rfl rfl rfl (shO_offU 155 rfl rfl rfl (shO_off (b' := false) 151 rfl rfl rfl rfl ?_)))))))))
   refine ov (v_pick_f rfl rfl) rfl ?_
   refine om rfl rfl (shO_off (b' := false) 162 rfl rfl rfl rfl ?_)
   refine ov (v_pick_f rfl rfl) rfl ?_
   refine oa rfl rfl (shO_nil ?_)
   refine kW kn ?_
   refine shW_ret ?_
   refine q_res1 Try.results3 (res_tmp rfl) (sr) ?_
   obtain rfl := inj1 r244
   exact rfl
 have r245 := bf r211 c212; clear r211
 refine shO_off (b' := false) 138 rfl (EnvB rfl c212) rfl rfl ?_
 refine ov (v_pick_f (evB rfl c212) rfl) rfl ?_
 refine om rfl rfl (shO_off (b' := false) 141 rfl rfl rfl rfl (shO_off (b' := false) 141 rfl rfl rfl rfl (shO_off (b' := false) 141 rfl rfl rfl rfl ?_)))
 refine ov (v_pick_f rfl rfl) rfl ?_
 refine om rfl rfl (shO_off (b' := false) 146 rfl rfl rfl rfl (shO_off (b' := false) 146 rfl rfl rfl rfl (shO_off (b' := false) 146 rfl rfl rfl rfl ?_)))
 refine ov (v_pick_f rfl rfl) rfl ?_
 refine om rfl rfl (shO_off (b' := false) 151 rfl rfl rfl rfl (shO_off (b' := false) 151 rfl rfl rfl rfl (shO_off (b' := false) 151 rfl rfl rfl rfl (shO_off (b' := false) 151 rfl rfl rfl rfl (shO_offU 155 rfl rfl rfl (shO_offU 155 rfl rfl rfl (shO_offU 155 rfl rfl rfl (shO_offU 155 rfl rfl rfl (shO_off (b' := false) 151 rfl rfl rfl rfl ?_)))))))))
 refine ov (v_pick_f rfl rfl) rfl ?_
 refine om rfl rfl (shO_off (b' := false) 162 rfl rfl rfl rfl ?_)
 refine ov (v_pick_f rfl rfl) rfl ?_
 refine oa rfl rfl (shO_nil ?_)
 refine kW kn ?_
 refine shW_ret ?_
 refine q_res1 Try.results3 (res_tmp rfl) (sr) ?_
 obtain rfl := inj1 r245
 exact rfl
end Go.Proofs.Ytfmapnhfamoecaa
