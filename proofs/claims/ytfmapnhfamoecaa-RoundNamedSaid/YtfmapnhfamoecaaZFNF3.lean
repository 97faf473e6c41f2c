/- The walks that this claim needs, printed by a program of mine; part 3. -/
import Derived.Test.YtfmapnhfamoecaaZFNF2
namespace Go.Proofs.Ytfmapnhfamoecaa
open Go.SH Go.PL
set_option maxHeartbeats 1000000 in
theorem round_Walk_w {walks_a : Option Addr} {walks_c : Nat} {walks : List (List Int)} {hears_a : Option Addr} {hears_c : Nat} {hears : List (List Int)} {houses start : Int} {notices_a : Option Addr} {notices_c : Nat} {notices : List ((List Int) × Int × Int)} {from_ to : Int} {F : FS} (h_walks : RowR 1 (slE 1 (iE .i64)) F walks_a walks_c walks) (h_hears : RowR 1 (slE 1 (iE .i64)) F hears_a hears_c hears) (h_notices : RowR 3 (prE (slE 1 (iE .i64)) (prE (iE .i64) (iE .i64))) F notices_a notices_c notices) {r r2 : Int} (hr : round_Walk walks hears houses start notices from_ to = some (r, r2)) :
    SpecV Try.prog 36 #[.agg #[.slice walks_a walks.length walks_c, .slice hears_a hears.length hears_c, .int .i64 houses, .int .i64 start, .slice notices_a notices.length notices_c], .int .i64 from_, .int .i64 to] F (.tuple #[.int .i64 r, .int .i64 r2]) := by
 refine spec_of_shW (args := [.agg #[.slice walks_a walks.length walks_c, .slice hears_a hears.length hears_c, .int .i64 houses, .int .i64 start, .slice notices_a notices.length notices_c], .int .i64 from_, .int .i64 to]) Try.func36 rfl Try.ntmps36 (nbL rfl) ?_
 intro K _ _; rw [round_Walk] at hr
 refine wsr ?_
 refine o_box rfl rfl ?_; intro b1 hb1
 refine oa rfl rfl (oa rfl rfl (nsr ?_))
 refine ov (v_loadA (cs := #[.slice walks_a walks.length walks_c, .slice hears_a hears.length hears_c, .int .i64 houses, .int .i64 start, .slice notices_a notices.length notices_c]) Try.isAgg26 Try.sizeOf26 rfl (Has.own 0 rfl) (nbL rfl) rfl) rfl ?_
 obtain ⟨d, n, h2, r3⟩ := b2_ok hr
 refine o_call0 rfl Try.call26 rfl rfl rfl (round_opened_w h_walks h_hears h_notices h2) ?_; rintro _ F4 _ hF5 hn6 ⟨v8, rfl, rfl, hp9⟩
 replace h_walks := h_walks.mono (slE_ok (iE_ok _)) hF5
 replace h_hears := h_hears.mono (slE_ok (iE_ok _)) hF5
 replace h_notices := h_notices.mono (prE_ok (slE_ok (iE_ok _)) (prE_ok (iE_ok _) (iE_ok _))) hF5
 refine shO_L (ln rfl) ?_
 refine om rfl rfl (ox rfl rfl rfl (ox rfl rfl rfl (oa rfl rfl (oa rfl rfl (shO_nil (shW_seq ?_))))))
 refine shW_block ?_
 refine wsr (om rfl rfl ?_)
 refine ov (v_neq rfl rfl) rfl ?_
 refine oa rfl rfl (shO_nil ?_)
 refine shW_condP rfl (fun c10 => ?_) (fun c10 => ?_)
 · have r11 := ite_t r3 c10
   refine wsr (om rfl rfl (oa rfl rfl (oa rfl rfl (shO_nil ?_))))
   refine kW kn ?_
   refine shW_ret (inBlock_ret (andThen_ret ?_))
   refine q_res2 Try.results36 (res_tmp rfl) (res_tmp rfl) (sr) ?_
   obtain ⟨rfl, rfl⟩ := inj2 r11
   exact rfl
 have r12 := ite_f r3 c10
 obtain ⟨k, h13, r14⟩ := b1_ok r12
 refine shW_join (fun e1 F1 L1 => F4 = F1 ∧ L1 = [] ∧ e1.sub [(1, .int .i64 from_), (2, .int .i64 to), (8, v8), (19, .bool k)]) ?_ ?_
 · clear r14
   refine shW_region ?_
   refine ov (v_loadA (cs := #[.slice walks_a walks.length walks_c, .slice hears_a hears.length hears_c, .int .i64 houses, .int .i64 start, .slice notices_a notices.length notices_c]) Try.isAgg26 Try.sizeOf26 rfl (Has.own 0 rfl) (nbL rfl) rfl) rfl ?_
   refine om rfl rfl ?_
   obtain ⟨ok, h15, r16⟩ := b1_ok h13
   refine o_callV rfl Try.call42 rfl rfl rfl (round_Beat_stand_w h_walks h_hears h_notices h15) ?_
   refine ov (v_notB rfl) rfl ?_
   refine om rfl rfl ?_
   rcases bool_two (!ok) with c17 | c17
   · have r18 := bt r16 c17
     refine shO_off (b' := true) 24 rfl (EnvB rfl c17) rfl rfl (shO_off (b' := true) 24 rfl (EnvB rfl c17) rfl rfl (shO_off (b' := true) 24 rfl (EnvB rfl c17) rfl rfl (shO_off (b' := true) 24 rfl (EnvB rfl c17) rfl rfl ?_)))
     refine ov (v_pick_t (evB rfl c17) rfl) rfl ?_
     refine oa rfl rfl (shO_nil ?_)
     obtain rfl := inj1 r18
     exact mi kn ⟨rfl, rfl, (sc rfl (sc rfl (sc rfl (sc rfl (sn _)))))⟩
   have r19 := bf r16 c17
   refine shO_on (b := false) 24 rfl (EnvB rfl c17) ?_
   refine ov (v_loadA (cs := #[.slice walks_a walks.length walks_c, .slice hears_a hears.length hears_c, .int .i64 houses, .int .i64 start, .slice notices_a notices.length notices_c]) Try.isAgg26 Try.sizeOf26 rfl (Has.own 0 rfl) (nbL rfl) rfl) rfl ?_
   refine shO_on (b := false) 24 rfl (EnvB rfl c17) (om rfl rfl (shO_on (b := false) 24 rfl (EnvB rfl c17) ?_))
   obtain ⟨ok2, h20, r21⟩ := b1_ok r19
   refine o_callV rfl Try.call42 rfl rfl rfl (round_Beat_stand_w h_walks h_hears h_notices h20) ?_
   refine shO_on (b := false) 24 rfl (EnvB rfl c17) ?_
   refine ov (v_notB rfl) rfl ?_
   refine ov (v_pick_f (evB rfl c17) rfl) rfl ?_
   refine oa rfl rfl (shO_nil ?_)
   obtain rfl := inj1 r21
   exact mi kn ⟨rfl, rfl, (sc rfl (sc rfl (sc rfl (sc rfl (sn _)))))⟩
 rintro e1 _ _ ⟨rfl, rfl, he22⟩
 refine shW_env _ he22 ?_
 refine shW_cond rfl (fun c23 => ?_) (fun c23 => ?_)
 · have r24 := bt r14 c23
   refine wsr (oa rfl rfl (oa rfl rfl (shO_nil (shW_ret (inBlock_ret (andThen_ret ?_))))))
   refine q_res2 Try.results36 (res_tmp rfl) (res_tmp rfl) (sr) ?_
   obtain ⟨rfl, rfl⟩ := inj2 r24
   exact rfl
 have r25 := bf r14 c23
 refine wsr (om rfl rfl (om rfl rfl (om rfl rfl ?_)))
 obtain ⟨walks2, hears2, houses2, start2, notices2, walks3, pairs, hit, h26, r27⟩ := b8_ok r25
 have h47 := hp9; rw [h26] at h47; obtain ⟨b28, c29, m30, hv31, hz32, ⟨_, _, rfl, ⟨a33, c34, rfl, h35⟩, ⟨_, _, rfl, ⟨a36, c37, rfl, h38⟩, ⟨_, _, rfl, rfl, ⟨_, _, rfl, rfl, ⟨_, _, rfl, ⟨a39, c40, rfl, h41⟩, ⟨_, _, rfl, ⟨rfl, h42⟩, ⟨_, _, rfl, ⟨a43, c44, rfl, h45⟩, ⟨rfl, h46⟩⟩⟩⟩⟩⟩⟩⟩⟩ := h47; subst hv31
 have hz32 : F4 b28 = some (.cells ((([.slice a33 walks2.length c34] : List Value) ++ (([.slice a36 hears2.length c37] : List Value) ++ (([.int .i64 houses2] : List Value) ++ (([.int .i64 start2] : List Value) ++ (([.slice a39 notices2.length c40] : List Value) ++ (walks3.flatMap (cI .i64) ++ (([.slice a43 pairs.length c44] : List Value) ++ (hit.flatMap (cI .i64))))))))).toArray) 102 m30) := hz32
 refine ov (v_nilCheck rfl) rfl ?_
 refine ov (v_fieldAddr fa_102_1 rfl) rfl ?_
 obtain ⟨g48, r49⟩ := gd_ok r27
 refine ov (v_indexA Try.underlying98 Try.sizeOf96 rfl rfl g48) rfl ?_
 obtain ⟨g50, r51⟩ := gd_ok r49
 obtain ⟨x, g52, hx53, r54⟩ := ix_ok r51
 have hq56 : (from_ * 5 + to : Int).toNat = (from_ : Int).toNat * 5 + (to : Int).toNat := by have := g48; have := g50; omega
 have hc55 := el_at2 (cI_ok .i64) h42 hq56 hx53 (li_arr (li_skip (A := ([.slice a33 walks2.length c34] : List Value)) (k := 1) (o := 4) rfl (li_skip (A := ([.slice a36 hears2.length c37] : List Value)) (k := 1) (o := 3) rfl (li_skip (A := ([.int .i64 houses2] : List Value)) (k := 1) (o := 2) rfl (li_skip (A := ([.int .i64 start2] : List Value)) (k := 1) (o := 1) rfl (li_skip (A := ([.slice a39 notices2.length c40] : List Value)) (k := 1) (o := 0) rfl (li_here (B := ([.slice a43 pairs.length c44] : List Value) ++ (hit.flatMap (cI .i64))) (lfl (cI_ok .i64) h42)))))))) (li_le (li_skip (A := ([.slice a33 walks2.length c34] : List Value)) (k := 1) (o := 4) rfl (li_skip (A := ([.slice a36 hears2.length c37] : List Value)) (k := 1) (o := 3) rfl (li_skip (A := ([.int .i64 houses2] : List Value)) (k := 1) (o := 2) rfl (li_skip (A := ([.int .i64 start2] : List Value)) (k := 1) (o := 1) rfl (li_skip (A := ([.slice a39 notices2.length c40] : List Value)) (k := 1) (o := 0) rfl (li_here (B := ([.slice a43 pairs.length c44] : List Value) ++ (hit.flatMap (cI .i64))) (lfl (cI_ok .i64) h42))))))))
 refine ov (v_indexA Try.underlying96 Try.sizeOf3 rfl rfl g50) rfl ?_
 refine ov (v_load Try.isAgg3 rfl (Has.frozen hz32) ((hc55).2.2 0 (by decide))) rfl ?_
 refine ov (v_eql rfl rfl) rfl ?_
 refine oa rfl rfl (shO_nil ?_)
 refine shW_condP rfl (fun c57 => ?_) (fun c57 => ?_)
 · have r58 := ite_t r54 c57
   refine wsr (oa rfl rfl (oa rfl rfl (shO_nil (shW_ret (inBlock_ret (andThen_ret ?_))))))
   refine q_res2 Try.results36 (res_tmp rfl) (res_tmp rfl) (sr) ?_
   obtain ⟨rfl, rfl⟩ := inj2 r58
   exact rfl
 have r59 := ite_f r54 c57
 refine shW_skip (inBlock_n (id := 0) (wsr (om rfl rfl (om rfl rfl (om rfl rfl ?_)))))
 refine ov (v_nilCheck rfl) rfl ?_
 refine ov (v_fieldAddr fa_102_1 rfl) rfl ?_
 obtain ⟨g60, r61⟩ := gd_ok r59
 refine ov (v_indexA Try.underlying98 Try.sizeOf96 rfl rfl g60) rfl ?_
 obtain ⟨g62, r63⟩ := gd_ok r61
 have hq65 : (from_ * 5 + to : Int).toNat = (from_ : Int).toNat * 5 + (to : Int).toNat := by have := g60; have := g62; omega
 have hc64 := el_at2 (cI_ok .i64) h42 hq65 hx53 (li_arr (li_skip (A := ([.slice a33 walks2.length c34] : List Value)) (k := 1) (o := 4) rfl (li_skip (A := ([.slice a36 hears2.length c37] : List Value)) (k := 1) (o := 3) rfl (li_skip (A := ([.int .i64 houses2] : List Value)) (k := 1) (o := 2) rfl (li_skip (A := ([.int .i64 start2] : List Value)) (k := 1) (o := 1) rfl (li_skip (A := ([.slice a39 notices2.length c40] : List Value)) (k := 1) (o := 0) rfl (li_here (B := ([.slice a43 pairs.length c44] : List Value) ++ (hit.flatMap (cI .i64))) (lfl (cI_ok .i64) h42)))))))) (li_le (li_skip (A := ([.slice a33 walks2.length c34] : List Value)) (k := 1) (o := 4) rfl (li_skip (A := ([.slice a36 hears2.length c37] : List Value)) (k := 1) (o := 3) rfl (li_skip (A := ([.int .i64 houses2] : List Value)) (k := 1) (o := 2) rfl (li_skip (A := ([.int .i64 start2] : List Value)) (k := 1) (o := 1) rfl (li_skip (A := ([.slice a39 notices2.length c40] : List Value)) (k := 1) (o := 0) rfl (li_here (B := ([.slice a43 pairs.length c44] : List Value) ++ (hit.flatMap (cI .i64))) (lfl (cI_ok .i64) h42))))))))
 refine ov (v_indexA Try.underlying96 Try.sizeOf3 rfl rfl g62) rfl ?_
 refine ov (v_load Try.isAgg3 rfl (Has.frozen hz32) ((hc64).2.2 0 (by decide))) rfl ?_
 refine oa rfl rfl (oa rfl rfl (shO_nil (shW_ret ?_)))
 refine q_res2 Try.results36 (res_tmp rfl) (res_tmp rfl) (sr) ?_
 obtain ⟨rfl, rfl⟩ := inj2 r63
 exact rfl
set_option maxHeartbeats 1000000 in
theorem round_crier_chosen_w {b_c : Nat} {walks_a : Option Addr} {walks_c : Nat} {walks : List (List Int)} {hears_a : Option Addr} {hears_c : Nat} {hears : List (List Int)} {houses start : Int} {notices_a : Option Addr} {notices_c : Nat} {notices : List ((List Int) × Int × Int)} {walks2 : List Int} {pairs_a : Option Addr} {pairs_c : Nat} {pairs : List (Int × Int)} {hit : List Int} {mb_c : Nat × Nat} {set_ : Int} {F : FS} (hb_c : F b_c = some (.cells ((([.slice walks_a walks.length walks_c] : List Value) ++ (([.slice hears_a hears.length hears_c] : List Value) ++ (([.int .i64 houses] : List Value) ++ (([.int .i64 start] : List Value) ++ (([.slice notices_a notices.length notices_c] : List Value) ++ (walks2.flatMap (cI .i64) ++ (([.slice pairs_a pairs.length pairs_c] : List Value) ++ (hit.flatMap (cI .i64))))))))).toArray) 102 mb_c)) (_h_walks : RowR 1 (slE 1 (iE .i64)) F walks_a walks_c walks) (_h_hears : RowR 1 (slE 1 (iE .i64)) F hears_a hears_c hears) (_h_notices : RowR 3 (prE (slE 1 (iE .i64)) (prE (iE .i64) (iE .i64))) F notices_a notices_c notices) (h_walks2 : walks2.length = 25) (h_pairs : RowR 2 (prE (iE .i64) (iE .i64)) F pairs_a pairs_c pairs) (_h_hit : hit.length = 15) {r : List (Int × Int)} (hr : round_crier_chosen walks hears houses start notices walks2 pairs hit set_ = some r) :
    SH.Spec Try.prog 61 #[.pointer (some ⟨b_c, 0, none⟩), .int .i64 set_] F [] fun F' L' v => ∃ (ra : Option Addr) (rn : Nat) (rc : Nat) (rL : LH), v = .slice ra rn rc ∧ L' = rL ++ [] ∧ SlR 0 54 2 (prE (iE .i64) (iE .i64)) F' ra rn rc r rL := by
 refine spec_of_shW (args := [.pointer (some ⟨b_c, 0, none⟩), .int .i64 set_]) Try.func61 rfl Try.ntmps61 (nbL rfl) ?_
 intro K _ _; rw [round_crier_chosen] at hr
 refine wsr (oa rfl rfl (nsr (oa rfl rfl (shO_nil ?_))))
 obtain ⟨out, h7, r8⟩ := b1_ok hr
 refine shW_join (fun e1 F1 L1 => ∃ (a1 : Option Addr) (n5 : Nat) (c2 : Nat) (Lb3 : LH), F = F1 ∧ L1 = (Lb3 ++ []) ∧ e1.sub [(5, .slice a1 n5 c2)] ∧ SlR K.w0.heap.size 54 2 (prE (iE .i64) (iE .i64)) F1 a1 n5 c2 out Lb3) ?_ ?_
 · clear r8
   refine wsr (om rfl rfl ?_)
   refine ov (v_nilCheck rfl) rfl ?_
   refine ov (v_fieldAddr fa_102_2 rfl) rfl ?_
   refine ov (v_load Try.isAgg44 rfl (Has.frozen hb_c) (li_cell (li_skip (A := ([.slice walks_a walks.length walks_c] : List Value)) (k := 1) (o := 29) rfl (li_skip (A := ([.slice hears_a hears.length hears_c] : List Value)) (k := 1) (o := 28) rfl (li_skip (A := ([.int .i64 houses] : List Value)) (k := 1) (o := 27) rfl (li_skip (A := ([.int .i64 start] : List Value)) (k := 1) (o := 26) rfl (li_skip (A := ([.slice notices_a notices.length notices_c] : List Value)) (k := 1) (o := 25) rfl (li_skip (A := walks2.flatMap (cI .i64)) (k := 25) (o := 0) (lfl (cI_ok .i64) h_walks2) (li_here (B := hit.flatMap (cI .i64)) rfl))))))))) rfl ?_
   refine ov (v_lenS Try.underlying44 rfl) rfl ?_
   refine om rfl rfl (shO_nil ?_)
   refine shW_block ?_
   refine shW_lp (fun fu1 e1 F1 L1 => ∃ (tl : List (Int × Int)) (k : Int), tl.length = fu1 ∧ Lst pairs k tl ∧ ∃ (out2 : List (Int × Int)) (a9 : Option Addr) (n13 : Nat) (c10 : Nat) (Lb11 : LH), round_crier_chosen_l1 set_ tl k out2 = some out ∧ F = F1 ∧ L1 = (Lb11 ++ []) ∧ e1.sub [(1, .int .i64 set_), (5, .slice a9 n13 c10), (11, .slice pairs_a pairs.length pairs_c), (12, .int .i64 (pairs.length : Int)), (13, .int .i64 k)] ∧ SlR K.w0.heap.size 54 2 (prE (iE .i64) (iE .i64)) F1 a9 n13 c10 out2 Lb11) _ (m0 (ke kr) ⟨_, _, rfl, Lst.start _, [], none, 0, 0, [], h7, rfl, rfl, (sc rfl (sc rfl (sc rfl (sc rfl (sc rfl (sn _)))))), SlR.nil _ _ _ _ _⟩) ?_
   rintro fu1 e1 _ _ ⟨tl, k, hn16, hk15, out2, a9, n13, c10, Lb11, r17, rfl, rfl, he18, hz12⟩
   refine shW_env _ he18 ?_
   refine wsr ?_
   refine ov (v_lssK rfl rfl) rfl ?_
   refine shO_nil (shW_seq ?_)
   refine shW_condP rfl (fun c20 => ?_) (fun c20 => ?_)
   · obtain ⟨x, tl2, rfl, hx22, g23, hk21⟩ := Lst.succ hk15 c20
     rw [round_crier_chosen_l1] at r17
     refine shW_skip (shW_seq ?_)
     refine shW_block ?_
     refine wsr (om rfl rfl ?_)
     obtain ⟨b24, o25, c26, vs27, ha28, hs29, hle30, ⟨_, _, rfl, rfl, rfl⟩, hl31, hc32⟩ := RowR.at (prE_ok (iE_ok _) (iE_ok _)) h_pairs (Lb11 ++ []) g23.1 hx22
     refine ov (v_indexO Try.underlying44 Try.sizeOf54 rfl ha28 rfl g23) rfl ?_
     refine ov (v_loadA (cs := #[.int .i64 x.1, .int .i64 x.2]) Try.isAgg54 Try.sizeOf54 rfl hs29 hle30 (extract_cells hle30 hl31 hc32)) rfl ?_
     refine o_alloc rfl Try.zeroValue54 ?_; intro b33 hb33
     refine oa rfl rfl ?_
     refine o_storeA (i := 0) Try.sizeOf54 rfl rfl rfl (by simp [Value.oneCell']) rfl (nbL rfl) ?_
     refine shO_L (L' := (b33, .cells #[.int .i64 x.1, .int .i64 x.2] 54 (0, 0)) :: (Lb11 ++ [])) rfl ?_
     refine nsr (om rfl rfl (om rfl rfl ?_))
     obtain ⟨g34, r35⟩ := gd_ok r17
     refine ov (v_shr rfl rfl g34) rfl ?_
     refine ov (v_and rfl rfl) rfl ?_
     refine ov (v_eql rfl rfl) rfl ?_
     refine shO_nil ?_
     refine shW_condP rfl (fun c36 => ?_) (fun c36 => ?_)
     · have r37 := ite_t r35 c36
       refine shW_region (om rfl rfl ?_)
       refine ov (v_loadA (cs := #[.int .i64 x.1, .int .i64 x.2]) Try.isAgg54 Try.sizeOf54 rfl (Has.own 0 rfl) (nbL rfl) rfl) rfl ?_
       refine o_buildSlice (cs := #[.int .i64 x.1, .int .i64 x.2]) rfl rfl (buildSlice_all slt_44 [.agg #[.int .i64 x.1, .int .i64 x.2]] rfl (by decide) (by simp [Value.cells]) (by decide)) ?_; intro b38 hb38
       obtain ⟨out3, h39, g40, r41⟩ := ap_ok r37
       refine o_appZ (xs := out2) (ys := [(x.1, x.2)]) (zs := out3) rfl slt_44 rfl rfl (Nat.le_refl _) (fun _ => .c (.c .h)) hz12 (SrcR.box (vss := [[.int .i64 x.1, .int .i64 x.2]]) (ys := [(x.1, x.2)]) 0 rfl (prE_ok (iE_ok _) (iE_ok _)) (.cons ⟨_, _, rfl, rfl, rfl⟩ .nil) rfl rfl) h39 g40 (by decide) ?_; intro a42 n46 c43 Lb44 hz45
       refine kO (kd kr) ?_
       refine oa rfl rfl (shO_nil (inBlock_n (id := 1) (shW_region ?_)))
       refine ov (v_add rfl rfl (Lst.r64 hk15 c20 (RowR.lt h_pairs))) rfl ?_
       refine om rfl rfl (shO_nil ?_)
       subst hn16; exact le (kd kr) ⟨_, _, rfl, hk21, out3, a42, n46, c43, Lb44, r41, rfl, rfl, (sc rfl (sc rfl (sc rfl (sc rfl (sc rfl (sn _)))))), hz45⟩
     have r48 := ite_f r35 c36
     refine shW_skip (inBlock_n (id := 1) (shW_region ?_))
     refine ov (v_add rfl rfl (Lst.r64 hk15 c20 (RowR.lt h_pairs))) rfl ?_
     refine om rfl rfl (shO_nil ?_)
     subst hn16; exact le (kd kr) ⟨_, _, rfl, hk21, out2, a9, n13, c10, Lb11, r48, rfl, rfl, (sc rfl (sc rfl (sc rfl (sc rfl (sc rfl (sn _)))))), hz12⟩
   obtain rfl := Lst.zero hk15 c20
   rw [round_crier_chosen_l1] at r17
   refine shW_exit (andThen_exit (andThen_exit ?_))
   refine inBlock_exit ?_
   obtain rfl := inj1 r17
   exact mi kr ⟨a9, n13, c10, Lb11, rfl, rfl, (sc rfl (sn _)), hz12⟩
 rintro e1 _ _ ⟨a1, n5, c2, Lb3, rfl, rfl, he49, hz4⟩
 refine shW_env _ he49 ?_
 refine wsr (om rfl rfl (oa rfl rfl (shO_nil (shW_ret ?_))))
 refine q_res1 Try.results61 (res_tmp rfl) (sr) ?_
 obtain rfl := inj1 r8
 exact ⟨_, _, _, _, rfl, rfl, hz4.any⟩
set_option maxHeartbeats 1000000 in
theorem round_crier_excludes_1B_w {rec_ : Int → Int → Int → (List (List Int)) → (List (List Int)) → Int → Int → (List ((List Int) × Int × Int)) → (List Int) → (List (Int × Int)) → (List Int) → ((Int × Int) → Option Bool) → Int → Option (Bool × Int)} (hrec : ∀ {set_ from_ many : Int} {b_c b_c_ : Nat} {walks_a : Option Addr} {walks_c : Nat} {walks : List (List Int)} {hears_a : Option Addr} {hears_c : Nat} {hears : List (List Int)} {houses start : Int} {notices_a : Option Addr} {notices_c : Nat} {notices : List ((List Int) × Int × Int)} {walks2 : List Int} {pairs_a : Option Addr} {pairs_c : Nat} {pairs : List (Int × Int)} {hit : List Int} {mb_c_ mb_c : Nat × Nat} {b_w : Nat} {ok_f : FuncId} {ok_1 ok_2 : Array Value} {ok : (Int × Int) → Option Bool} {mb_w : Nat × Nat} {b_found : Nat} {found : Int} {b_more : Nat} {mb_more : Nat × Nat} {F : FS} (_ : F b_c = some (.cells #[.pointer (some ⟨b_c_, 0, none⟩)] 67 mb_c)) (_ : F b_c_ = some (.cells ((([.slice walks_a walks.length walks_c] : List Value) ++ (([.slice hears_a hears.length hears_c] : List Value) ++ (([.int .i64 houses] : List Value) ++ (([.int .i64 start] : List Value) ++ (([.slice notices_a notices.length notices_c] : List Value) ++ (walks2.flatMap (cI .i64) ++ (([.slice pairs_a pairs.length pairs_c] : List Value) ++ (hit.flatMap (cI .i64))))))))).toArray) 102 mb_c_)) (_ : RowR 1 (slE 1 (iE .i64)) F walks_a walks_c walks) (_ : RowR 1 (slE 1 (iE .i64)) F hears_a hears_c hears) (_ : RowR 3 (prE (slE 1 (iE .i64)) (prE (iE .i64) (iE .i64))) F notices_a notices_c notices) (_ : walks2.length = 25) (_ : RowR 2 (prE (iE .i64) (iE .i64)) F pairs_a pairs_c pairs) (_ : hit.length = 15) (_ : F b_w = some (.cells #[.func (.func ok_f) ok_1 ok_2] 76 mb_w)) (_ : FnR Try.prog F ok_f ok_1 ok_2 (prE (iE .i64) (iE .i64)) Value.bool ok) (_ : F b_more = some (.cells (#[.func (.func 81) #[] #[.pointer (some ⟨b_c, 0, none⟩), .pointer (some ⟨b_w, 0, none⟩), .pointer (some ⟨b_found, 0, none⟩), .pointer (some ⟨b_more, 0, none⟩)]]) 122 mb_more)) {r : Bool} {r2 : Int} , rec_ set_ from_ many walks hears houses start notices walks2 pairs hit ok found = some (r, r2) → SH.Spec Try.prog 81 #[.int .i64 set_, .int .i64 from_, .int .i64 many, .pointer (some ⟨b_c, 0, none⟩), .pointer (some ⟨b_w, 0, none⟩), .pointer (some ⟨b_found, 0, none⟩), .pointer (some ⟨b_more, 0, none⟩)] F [(b_found, .cells #[.int .i64 found] 3 (0, 0))] fun _ L' v => v = .bool r ∧ L' = [(b_found, .cells #[.int .i64 r2] 3 (0, 0))]) {set_ from_ many : Int} {b_c b_c_ : Nat} {walks_a : Option Addr} {walks_c : Nat} {walks : List (List Int)} {hears_a : Option Addr} {hears_c : Nat} {hears : List (List Int)} {houses start : Int} {notices_a : Option Addr} {notices_c : Nat} {notices : List ((List Int) × Int × Int)} {walks2 : List Int} {pairs_a : Option Addr} {pairs_c : Nat} {pairs : List (Int × Int)} {hit : List Int} {mb_c_ mb_c : Nat × Nat} {b_w : Nat} {ok_f : FuncId} {ok_1 ok_2 : Array Value} {ok : (Int × Int) → Option Bool} {mb_w : Nat × Nat} {b_found : Nat} {found : Int} {b_more : Nat} {mb_more : Nat × Nat} {F : FS} (hb_c : F b_c = some (.cells #[.pointer (some ⟨b_c_, 0, none⟩)] 67 mb_c)) (hb_c_ : F b_c_ = some (.cells ((([.slice walks_a walks.length walks_c] : List Value) ++ (([.slice hears_a hears.length hears_c] : List Value) ++ (([.int .i64 houses] : List Value) ++ (([.int .i64 start] : List Value) ++ (([.slice notices_a notices.length notices_c] : List Value) ++ (walks2.flatMap (cI .i64) ++ (([.slice pairs_a pairs.length pairs_c] : List Value) ++ (hit.flatMap (cI .i64))))))))).toArray) 102 mb_c_)) (h_walks : RowR 1 (slE 1 (iE .i64)) F walks_a walks_c walks) (h_hears : RowR 1 (slE 1 (iE .i64)) F hears_a hears_c hears) (h_notices : RowR 3 (prE (slE 1 (iE .i64)) (prE (iE .i64) (iE .i64))) F notices_a notices_c notices) (h_walks2 : walks2.length = 25) (h_pairs : RowR 2 (prE (iE .i64) (iE .i64)) F pairs_a pairs_c pairs) (h_hit : hit.length = 15) (hb_w : F b_w = some (.cells #[.func (.func ok_f) ok_1 ok_2] 76 mb_w)) (h_ok : FnR Try.prog F ok_f ok_1 ok_2 (prE (iE .i64) (iE .i64)) Value.bool ok) (hb_more : F b_more = some (.cells (#[.func (.func 81) #[] #[.pointer (some ⟨b_c, 0, none⟩), .pointer (some ⟨b_w, 0, none⟩), .pointer (some ⟨b_found, 0, none⟩), .pointer (some ⟨b_more, 0, none⟩)]]) 122 mb_more)) {r : Bool} {r2 : Int} (hr : round_crier_excludes_1B rec_ set_ from_ many walks hears houses start notices walks2 pairs hit ok found = some (r, r2)) :
    SH.Spec Try.prog 81 #[.int .i64 set_, .int .i64 from_, .int .i64 many, .pointer (some ⟨b_c, 0, none⟩), .pointer (some ⟨b_w, 0, none⟩), .pointer (some ⟨b_found, 0, none⟩), .pointer (some ⟨b_more, 0, none⟩)] F [(b_found, .cells #[.int .i64 found] 3 (0, 0))] fun _ L' v => v = .bool r ∧ L' = [(b_found, .cells #[.int .i64 r2] 3 (0, 0))] := by
 refine spec_of_shW (args := [.int .i64 set_, .int .i64 from_, .int .i64 many, .pointer (some ⟨b_c, 0, none⟩), .pointer (some ⟨b_w, 0, none⟩), .pointer (some ⟨b_found, 0, none⟩), .pointer (some ⟨b_more, 0, none⟩)]) Try.func81 rfl Try.ntmps81 (nbL rfl) ?_
 intro K _ _; rw [round_crier_excludes_1B] at hr
 refine wsr (oa rfl rfl (shO_nil (shW_seq (wsr (om rfl rfl ?_)))))
 refine ov (v_eql rfl rfl) rfl ?_
 refine shO_nil ?_
 refine shW_condP rfl (fun c1 => ?_) (fun c1 => ?_)
 · have r3 := ite_t hr c1
   refine wsr ?_
   refine ov (v_load Try.isAgg67 rfl (Has.frozen hb_c) rfl) rfl ?_
   refine om rfl rfl ?_
   refine ov (v_loadA (cs := #[.func (.func ok_f) ok_1 ok_2]) Try.isAgg76 Try.sizeOf76 rfl (Has.frozen hb_w) (nbL rfl) rfl) rfl ?_
   obtain ⟨l, n, ok2, h4, r5⟩ := b3_ok r3
   refine o_call0 rfl Try.call27 rfl rfl rfl (round_crier_serve_w hb_c_ h_walks h_hears h_notices h_walks2 h_pairs h_hit h_ok h4) ?_; rintro _ F6 _ hF7 hn8 ⟨a10, n14, c11, Lb12, rfl, rfl, hz13⟩
   refine shO_L (lp (ln rfl)) ?_
   refine kO (kf (fS fO) kr) ?_
   refine om rfl rfl (ox rfl rfl rfl (ox rfl rfl rfl (ox rfl rfl rfl (oa rfl rfl (oa rfl rfl (oa rfl rfl (shO_nil (shW_seq (wsr ?_)))))))))
   refine om rfl rfl ?_
   refine ov (v_notB rfl) rfl ?_
   refine shO_nil ?_
   refine shW_cond rfl (fun c16 => ?_) (fun c16 => ?_)
   · have r17 := bt r5 c16
     refine shW_region (om rfl rfl ?_)
     refine o_store (i := 0) Try.sizeOf3 rfl rfl rfl rfl (nbL rfl) ?_
     refine shO_L (L' := (b_found, .cells #[.int .i64 set_] 3 (0, 0)) :: (Lb12 ++ [])) rfl ?_
     refine nsr (om rfl rfl ?_)
     refine ov (v_notB rfl) rfl ?_
     refine oa rfl rfl (shO_nil ?_)
     refine kW (kc kn) ?_
     refine shW_ret (andThen_ret ?_)
     refine q_res1 Try.results81 (res_tmp rfl) (sr) ?_
     obtain ⟨rfl, rfl⟩ := inj2 r17
     exact ⟨rfl, rfl⟩
   have r18 := bf r5 c16
   refine shW_skip (wsr (om rfl rfl ?_))
   refine ov (v_notB rfl) rfl ?_
   refine oa rfl rfl (shO_nil ?_)
   refine kW (kc kn) ?_
   refine shW_ret (andThen_ret ?_)
   refine q_res1 Try.results81 (res_tmp rfl) (sr) ?_
   obtain ⟨rfl, rfl⟩ := inj2 r18
   exact ⟨rfl, rfl⟩
 have r19 := ite_f hr c1
 refine shW_skip ?_
 refine shW_join (fun e1 F1 L1 => ∃ (found2 : Int), round_crier_excludes_1B_j1 found2 = some (r, r2) ∧ FExt F F1 ∧ L1 = [(b_found, .cells #[.int .i64 found2] 3 (0, 0))] ∧ e1.sub []) ?_ ?_
 · refine wsr (om rfl rfl (oa rfl rfl (shO_nil ?_)))
   refine shW_block ?_
   obtain ⟨g20, r21⟩ := gd_ok r19
   refine shW_lp (fun fu2 e1 F1 L1 => ∃ (i : Int), Ctr from_ (pairs.length : Int) i fu2 ∧ ∃ (found3 : Int), round_crier_excludes_1B_l2 set_ many walks hears houses start notices walks2 pairs hit ok rec_ fu2 i found3 = some (r, r2) ∧ FExt F F1 ∧ L1 = [(b_found, .cells #[.int .i64 found3] 3 (0, 0))] ∧ e1.sub [(0, .int .i64 set_), (2, .int .i64 many), (3, .pointer (some ⟨b_c, 0, none⟩)), (6, .pointer (some ⟨b_more, 0, none⟩)), (14, .int .i64 i)]) _ (m0 kr ⟨_, Ctr.start _ _, found, r21, FExt.refl _, rfl, (sc rfl (sc rfl (sc rfl (sc rfl (sc rfl (sn _))))))⟩) ?_
   rintro fu2 e1 F26 _ ⟨i, hk22, found3, r24, hF27, rfl, he25⟩
   refine shW_env _ he25 ?_
   replace h_walks := h_walks.mono (slE_ok (iE_ok _)) hF27
   replace h_hears := h_hears.mono (slE_ok (iE_ok _)) hF27
   replace h_notices := h_notices.mono (prE_ok (slE_ok (iE_ok _)) (prE_ok (iE_ok _) (iE_ok _))) hF27
   replace h_pairs := h_pairs.mono (prE_ok (iE_ok _) (iE_ok _)) hF27
   replace h_ok := h_ok.mono hF27
   replace hb_c_ := hF27 _ _ hb_c_
   replace hb_c := hF27 _ _ hb_c
   replace hb_w := hF27 _ _ hb_w
   replace hb_more := hF27 _ _ hb_more
   refine shW_seq (wsr (om rfl rfl ?_))
   refine ov (v_load Try.isAgg67 rfl (Has.frozen hb_c) rfl) rfl ?_
   refine ov (v_nilCheck rfl) rfl ?_
   refine ov (v_fieldAddr fa_102_2 rfl) rfl ?_
   refine ov (v_load Try.isAgg44 rfl (Has.frozen hb_c_) (li_cell (li_skip (A := ([.slice walks_a walks.length walks_c] : List Value)) (k := 1) (o := 29) rfl (li_skip (A := ([.slice hears_a hears.length hears_c] : List Value)) (k := 1) (o := 28) rfl (li_skip (A := ([.int .i64 houses] : List Value)) (k := 1) (o := 27) rfl (li_skip (A := ([.int .i64 start] : List Value)) (k := 1) (o := 26) rfl (li_skip (A := ([.slice notices_a notices.length notices_c] : List Value)) (k := 1) (o := 25) rfl (li_skip (A := walks2.flatMap (cI .i64)) (k := 25) (o := 0) (lfl (cI_ok .i64) h_walks2) (li_here (B := hit.flatMap (cI .i64)) rfl))))))))) rfl ?_
   refine ov (v_lenS Try.underlying44 rfl) rfl ?_
   refine ov (v_lssK rfl rfl) rfl ?_
   refine shO_nil ?_
   refine shW_condP rfl (fun c29 => ?_) (fun c29 => ?_)
   · obtain ⟨fu2, rfl, hk30⟩ := Ctr.succ hk22 c29
     rw [round_crier_excludes_1B_l2] at r24
     refine shW_skip (shW_seq ?_)
     refine shW_block ?_
     refine shW_seq ?_
     refine shW_drawM [(.still, 0), (.still, 1), (.still, 2), (.still, 3), (.still, 4), (.still, 5), (.still, 6), (.still, 7), (.still, 8), (.seq, 9)] (by kernel_rfl) (by kernel_rfl) (trivial) (by rfl) (by kernel_rfl) ?_
     refine shM_v (v := .func (.func 81) #[] #[.pointer (some ⟨b_c, 0, none⟩), .pointer (some ⟨b_w, 0, none⟩), .pointer (some ⟨b_found, 0, none⟩), .pointer (some ⟨b_more, 0, none⟩)]) (ek := [(6, .pointer (some ⟨b_more, 0, none⟩))]) (Ls := []) rfl rfl rfl rfl ((sc rfl (sn _))) (by kernel_rfl) sm (fun H F' L' hF' hL' => v_load Try.isAgg122 rfl ((Has.frozen hb_more).ext hF' hL') rfl) ?_
     refine shM_v (v := .int .i64 set_) (ek := [(0, .int .i64 set_)]) (Ls := []) rfl rfl rfl rfl ((sc rfl (sn _))) (by kernel_rfl) sm (fun H F' L' hF' hL' => v_move rfl) ?_
     refine shM_v (v := .int .i64 i) (ek := [(14, .int .i64 i)]) (Ls := []) rfl rfl rfl rfl ((sc rfl (sn _))) (by kernel_rfl) sm (fun H F' L' hF' hL' => v_move rfl) ?_
     obtain ⟨g31, r32⟩ := gd_ok r24
     refine shM_v (v := .int .i64 (shl 1 i)) (ek := [(42, .int .i64 i)]) (Ls := []) rfl rfl rfl rfl ((sc rfl (sn _))) (by kernel_rfl) sm (fun H F' L' hF' hL' => v_shl rfl rfl g31) ?_
     refine shM_v (v := .int .i64 (bor set_ (shl 1 i))) (ek := [(41, .int .i64 set_), (43, .int .i64 (shl 1 i))]) (Ls := []) rfl rfl rfl rfl ((sc rfl (sc rfl (sn _)))) (by kernel_rfl) sm (fun H F' L' hF' hL' => v_or rfl rfl) ?_
     refine shM_v (v := .int .i64 i) (ek := [(14, .int .i64 i)]) (Ls := []) rfl rfl rfl rfl ((sc rfl (sn _))) (by kernel_rfl) sm (fun H F' L' hF' hL' => v_move rfl) ?_
     refine shM_v (v := .int .i64 (i + 1)) (ek := [(45, .int .i64 i)]) (Ls := []) rfl rfl rfl rfl ((sc rfl (sn _))) (by kernel_rfl) sm (fun H F' L' hF' hL' => v_add rfl rfl (Ctr.r64 hk22 c29 g20)) ?_
     refine shM_v (v := .int .i64 many) (ek := [(2, .int .i64 many)]) (Ls := []) rfl rfl rfl rfl ((sc rfl (sn _))) (by kernel_rfl) sm (fun H F' L' hF' hL' => v_move rfl) ?_
     obtain ⟨g33, r34⟩ := gd_ok r32
     refine shM_v (v := .int .i64 (many - 1)) (ek := [(47, .int .i64 many)]) (Ls := []) rfl rfl rfl rfl ((sc rfl (sn _))) (by kernel_rfl) sm (fun H F' L' hF' hL' => v_sub rfl rfl g33) ?_
     refine ⟨_, [(40, .func (.func 81) #[] #[.pointer (some ⟨b_c, 0, none⟩), .pointer (some ⟨b_w, 0, none⟩), .pointer (some ⟨b_found, 0, none⟩), .pointer (some ⟨b_more, 0, none⟩)]), (44, .int .i64 (bor set_ (shl 1 i))), (46, .int .i64 (i + 1)), (48, .int .i64 (many - 1))], rfl, rfl, (sc rfl (sc rfl (sc rfl (sc rfl (sn _))))), by kernel_rfl, ?_⟩; intro H
     obtain ⟨ok3, found4, h35, r36⟩ := b2_ok r34
     refine o_callG (Lb := [(b_found, .cells #[.int .i64 found3] 3 (0, 0))]) (Lr := []) rfl Try.call81 rfl rfl rfl (pR) (hrec hb_c hb_c_ h_walks h_hears h_notices h_walks2 h_pairs h_hit hb_w h_ok hb_more h35) ?_; rintro _ F37 _ hF38 hd40 hn39 ⟨rfl, rfl⟩
     refine shO_L (lb (ln rfl)) ?_
     refine shO_nil ⟨_, rfl, hF38, [], by kernel_rfl, .inl (.inl rfl), (fun _ h => absurd h List.not_mem_nil), ?_⟩
     refine shM_nil ?_
     refine shW_cond rfl (fun c41 => ?_) (fun c41 => ?_)
     · have r42 := bt r36 c41
       refine wsr (oa rfl rfl (shO_nil (shW_ret (inBlock_ret (andThen_ret (andThen_ret (inBlock_ret (andThen_ret ?_))))))))
       refine q_res1 Try.results81 (res_tmp rfl) (sr) ?_
       obtain ⟨rfl, rfl⟩ := inj2 r42
       exact ⟨rfl, rfl⟩
     have r43 := bf r36 c41
     refine shW_skip (inBlock_n (id := 1) (shW_region (om rfl rfl ?_)))
     refine ov (v_add rfl rfl (Ctr.r64 hk22 c29 g20)) rfl ?_
     refine oa rfl rfl (shO_nil ?_)
     exact le kr ⟨_, hk30, found4, r43, (hF27.trans hF38), rfl, (sc rfl (sc rfl (sc rfl (sc rfl (sc rfl (sn _))))))⟩
   obtain rfl := Ctr.zero hk22 c29
   rw [round_crier_excludes_1B_l2] at r24
   refine shW_exit (andThen_exit (andThen_exit ?_))
   refine inBlock_exit ?_
   exact mi kr ⟨found3, r24, hF27, rfl, (sn _)⟩
 rintro e1 F46 _ ⟨found2, r44, hF47, rfl, he45⟩
 refine shW_env _ he45 ?_
 rw [round_crier_excludes_1B_j1] at r44
 refine wsr (oa rfl rfl (shO_nil (shW_ret ?_)))
 refine q_res1 Try.results81 (res_tmp rfl) (sr) ?_
 obtain ⟨rfl, rfl⟩ := inj2 r44
 exact ⟨rfl, rfl⟩
set_option maxHeartbeats 1000000 in
theorem round_crier_excludes_1_w : ∀ (fu : Nat) {set_ from_ many : Int} {b_c b_c_ : Nat} {walks_a : Option Addr} {walks_c : Nat} {walks : List (List Int)} {hears_a : Option Addr} {hears_c : Nat} {hears : List (List Int)} {houses start : Int} {notices_a : Option Addr} {notices_c : Nat} {notices : List ((List Int) × Int × Int)} {walks2 : List Int} {pairs_a : Option Addr} {pairs_c : Nat} {pairs : List (Int × Int)} {hit : List Int} {mb_c_ mb_c : Nat × Nat} {b_w : Nat} {ok_f : FuncId} {ok_1 ok_2 : Array Value} {ok : (Int × Int) → Option Bool} {mb_w : Nat × Nat} {b_found : Nat} {found : Int} {b_more : Nat} {mb_more : Nat × Nat} {F : FS} (_ : F b_c = some (.cells #[.pointer (some ⟨b_c_, 0, none⟩)] 67 mb_c)) (_ : F b_c_ = some (.cells ((([.slice walks_a walks.length walks_c] : List Value) ++ (([.slice hears_a hears.length hears_c] : List Value) ++ (([.int .i64 houses] : List Value) ++ (([.int .i64 start] : List Value) ++ (([.slice notices_a notices.length notices_c] : List Value) ++ (walks2.flatMap (cI .i64) ++ (([.slice pairs_a pairs.length pairs_c] : List Value) ++ (hit.flatMap (cI .i64))))))))).toArray) 102 mb_c_)) (_ : RowR 1 (slE 1 (iE .i64)) F walks_a walks_c walks) (_ : RowR 1 (slE 1 (iE .i64)) F hears_a hears_c hears) (_ : RowR 3 (prE (slE 1 (iE .i64)) (prE (iE .i64) (iE .i64))) F notices_a notices_c notices) (_ : walks2.length = 25) (_ : RowR 2 (prE (iE .i64) (iE .i64)) F pairs_a pairs_c pairs) (_ : hit.length = 15) (_ : F b_w = some (.cells #[.func (.func ok_f) ok_1 ok_2] 76 mb_w)) (_ : FnR Try.prog F ok_f ok_1 ok_2 (prE (iE .i64) (iE .i64)) Value.bool ok) (_ : F b_more = some (.cells (#[.func (.func 81) #[] #[.pointer (some ⟨b_c, 0, none⟩), .pointer (some ⟨b_w, 0, none⟩), .pointer (some ⟨b_found, 0, none⟩), .pointer (some ⟨b_more, 0, none⟩)]]) 122 mb_more)) {r : Bool} {r2 : Int} , round_crier_excludes_1 fu set_ from_ many walks hears houses start notices walks2 pairs hit ok found = some (r, r2) → SH.Spec Try.prog 81 #[.int .i64 set_, .int .i64 from_, .int .i64 many, .pointer (some ⟨b_c, 0, none⟩), .pointer (some ⟨b_w, 0, none⟩), .pointer (some ⟨b_found, 0, none⟩), .pointer (some ⟨b_more, 0, none⟩)] F [(b_found, .cells #[.int .i64 found] 3 (0, 0))] fun _ L' v => v = .bool r ∧ L' = [(b_found, .cells #[.int .i64 r2] 3 (0, 0))] := by
  intro fu
  induction fu with
  | zero => intros; rename_i hr; rw [round_crier_excludes_1] at hr; cases hr
  | succ fu ih => intros; rename_i hr; rw [round_crier_excludes_1] at hr; exact round_crier_excludes_1B_w ih (by assumption) (by assumption) (by assumption) (by assumption) (by assumption) (by assumption) (by assumption) (by assumption) (by assumption) (by assumption) (by assumption) hr
set_option maxHeartbeats 1000000 in
theorem round_crier_excludes_w {b_c : Nat} {walks_a : Option Addr} {walks_c : Nat} {walks : List (List Int)} {hears_a : Option Addr} {hears_c : Nat} {hears : List (List Int)} {houses start : Int} {notices_a : Option Addr} {notices_c : Nat} {notices : List ((List Int) × Int × Int)} {walks2 : List Int} {pairs_a : Option Addr} {pairs_c : Nat} {pairs : List (Int × Int)} {hit : List Int} {mb_c : Nat × Nat} {ok_f : FuncId} {ok_1 ok_2 : Array Value} {ok : (Int × Int) → Option Bool} {F : FS} (hb_c : F b_c = some (.cells ((([.slice walks_a walks.length walks_c] : List Value) ++ (([.slice hears_a hears.length hears_c] : List Value) ++ (([.int .i64 houses] : List Value) ++ (([.int .i64 start] : List Value) ++ (([.slice notices_a notices.length notices_c] : List Value) ++ (walks2.flatMap (cI .i64) ++ (([.slice pairs_a pairs.length pairs_c] : List Value) ++ (hit.flatMap (cI .i64))))))))).toArray) 102 mb_c)) (h_walks : RowR 1 (slE 1 (iE .i64)) F walks_a walks_c walks) (h_hears : RowR 1 (slE 1 (iE .i64)) F hears_a hears_c hears) (h_notices : RowR 3 (prE (slE 1 (iE .i64)) (prE (iE .i64) (iE .i64))) F notices_a notices_c notices) (h_walks2 : walks2.length = 25) (h_pairs : RowR 2 (prE (iE .i64) (iE .i64)) F pairs_a pairs_c pairs) (h_hit : hit.length = 15) (h_ok : FnR Try.prog F ok_f ok_1 ok_2 (prE (iE .i64) (iE .i64)) Value.bool ok) {r : Int} (hr : round_crier_excludes walks hears houses start notices walks2 pairs hit ok = some r) :
    SpecV Try.prog 62 #[.pointer (some ⟨b_c, 0, none⟩), .agg #[.func (.func ok_f) ok_1 ok_2]] F (.int .i64 r) := by
 refine spec_of_shW (args := [.pointer (some ⟨b_c, 0, none⟩), .agg #[.func (.func ok_f) ok_1 ok_2]]) Try.func62 rfl Try.ntmps62 (nbL rfl) ?_
 intro K _ _; rw [round_crier_excludes] at hr
 refine wsr ?_
 refine o_box rfl rfl ?_; intro b1 hb1
 refine o_box rfl rfl ?_; intro b2 hb2
 refine oa rfl rfl (shO_nil ?_)
 refine shW_scope ?_
 refine wsr ?_
 refine o_alloc rfl Try.zeroValue3 ?_; intro b3 hb3
 refine o_store (i := 0) Try.sizeOf3 rfl rfl rfl rfl (nbL rfl) ?_
 refine shO_L (L' := [(b3, .cells #[.int .i64 0] 3 (0, 0)), (b2, .cells #[.func (.func ok_f) ok_1 ok_2] 76 (0, 0)), (b1, .cells #[.pointer (some ⟨b_c, 0, none⟩)] 67 (0, 0))]) rfl ?_
 refine shO_nil (shW_seq ?_)
 refine shW_label ?_
 obtain ⟨found, h4, r5⟩ := b1_ok hr
 refine shW_join (fun e1 F1 L1 => FExt F F1 ∧ L1 = [(b3, .cells #[.int .i64 found] 3 (0, 0))] ∧ e1.sub [(5, .pointer (some ⟨b3, 0, none⟩))]) ?_ ?_
 · clear r5
   refine wsr ?_
   refine ov (v_load Try.isAgg67 rfl (Has.own 2 rfl) rfl) rfl ?_
   refine ov (v_nilCheck rfl) rfl ?_
   refine ov (v_fieldAddr fa_102_2 rfl) rfl ?_
   refine ov (v_load Try.isAgg44 rfl (Has.frozen hb_c) (li_cell (li_skip (A := ([.slice walks_a walks.length walks_c] : List Value)) (k := 1) (o := 29) rfl (li_skip (A := ([.slice hears_a hears.length hears_c] : List Value)) (k := 1) (o := 28) rfl (li_skip (A := ([.int .i64 houses] : List Value)) (k := 1) (o := 27) rfl (li_skip (A := ([.int .i64 start] : List Value)) (k := 1) (o := 26) rfl (li_skip (A := ([.slice notices_a notices.length notices_c] : List Value)) (k := 1) (o := 25) rfl (li_skip (A := walks2.flatMap (cI .i64)) (k := 25) (o := 0) (lfl (cI_ok .i64) h_walks2) (li_here (B := hit.flatMap (cI .i64)) rfl))))))))) rfl ?_
   refine ov (v_lenS Try.underlying44 rfl) rfl ?_
   obtain ⟨g6, r7⟩ := gd_ok h4
   refine ov (v_add rfl rfl g6) rfl ?_
   refine om rfl rfl (shO_nil ?_)
   refine shW_block ?_
   refine shW_freeze 2 rfl hb1 ?_; intro F8 hF9 hz10
   refine shW_L (L' := [(b3, .cells #[.int .i64 0] 3 (0, 0)), (b2, .cells #[.func (.func ok_f) ok_1 ok_2] 76 (0, 0))]) rfl ?_
   replace h_walks := h_walks.mono (slE_ok (iE_ok _)) hF9
   replace h_hears := h_hears.mono (slE_ok (iE_ok _)) hF9
   replace h_notices := h_notices.mono (prE_ok (slE_ok (iE_ok _)) (prE_ok (iE_ok _) (iE_ok _))) hF9
   replace h_pairs := h_pairs.mono (prE_ok (iE_ok _) (iE_ok _)) hF9
   replace h_ok := h_ok.mono hF9
   replace hb_c := hF9 _ _ hb_c
   refine shW_freeze 1 rfl hb2 ?_; intro F11 hF12 hz13
   refine shW_L (L' := [(b3, .cells #[.int .i64 0] 3 (0, 0))]) rfl ?_
   replace h_walks := h_walks.mono (slE_ok (iE_ok _)) hF12
   replace h_hears := h_hears.mono (slE_ok (iE_ok _)) hF12
   replace h_notices := h_notices.mono (prE_ok (slE_ok (iE_ok _)) (prE_ok (iE_ok _) (iE_ok _))) hF12
   replace h_pairs := h_pairs.mono (prE_ok (iE_ok _) (iE_ok _)) hF12
   replace h_ok := h_ok.mono hF12
   replace hb_c := hF12 _ _ hb_c
   replace hz10 := hF12 _ _ hz10
   obtain ⟨g14, r15⟩ := gd_ok r7
   refine shW_lpF (fun fu1 e1 F1 L1 => ∃ (k : Int), Ctr 0 ((pairs.length : Int) + 1) k fu1 ∧ ∃ (found2 : Int), round_crier_excludes_l1 walks hears houses start notices walks2 pairs hit ok fu1 k found2 = some found ∧ FExt F11 F1 ∧ L1 = [(b3, .cells #[.int .i64 found2] 3 (0, 0))] ∧ e1.sub [(2, .pointer (some ⟨b1, 0, none⟩)), (3, .pointer (some ⟨b2, 0, none⟩)), (5, .pointer (some ⟨b3, 0, none⟩)), (13, .int .i64 ((pairs.length : Int) + 1)), (14, .int .i64 k)]) _ (m0 kr ⟨_, Ctr.start _ _, 0, r15, FExt.refl _, rfl, (sc rfl (sc rfl (sc rfl (sc rfl (sc rfl (sn _))))))⟩) ?_
   rintro fu1 e1 F20 _ ⟨k, hk16, found2, r18, hF21, rfl, he19⟩
   refine shW_env _ he19 ?_
   replace h_walks := h_walks.mono (slE_ok (iE_ok _)) hF21
   replace h_hears := h_hears.mono (slE_ok (iE_ok _)) hF21
   replace h_notices := h_notices.mono (prE_ok (slE_ok (iE_ok _)) (prE_ok (iE_ok _) (iE_ok _))) hF21
   replace h_pairs := h_pairs.mono (prE_ok (iE_ok _) (iE_ok _)) hF21
   replace h_ok := h_ok.mono hF21
   replace hb_c := hF21 _ _ hb_c
   replace hz10 := hF21 _ _ hz10
   replace hz13 := hF21 _ _ hz13
   refine wsr ?_
   refine ov (v_lssK rfl rfl) rfl ?_
   refine shO_nil (shW_seq ?_)
   refine shW_condP rfl (fun c23 => ?_) (fun c23 => ?_)
   · obtain ⟨fu1, rfl, hk24⟩ := Ctr.succ hk16 c23
     rw [round_crier_excludes_l1] at r18
     refine shW_skip (shW_seq ?_)
     refine shW_block ?_
     refine wsr (om rfl rfl (oa rfl rfl (nsr ?_)))
     refine o_alloc rfl Try.zeroValue122 ?_; intro b25 hb25
     refine nsr ?_
     refine ov (v_makeFunc rfl rfl) rfl ?_
     refine o_store (i := 0) Try.sizeOf122 rfl rfl rfl rfl (nbL rfl) ?_
     refine shO_L (L' := [(b25, .cells (#[.func (.func 81) #[] #[.pointer (some ⟨b1, 0, none⟩), .pointer (some ⟨b2, 0, none⟩), .pointer (some ⟨b3, 0, none⟩), .pointer (some ⟨b25, 0, none⟩)]]) 122 (0, 0)), (b3, .cells #[.int .i64 found2] 3 (0, 0))]) rfl ?_
     refine nsr ?_
     refine ov (v_load Try.isAgg122 rfl (Has.own 0 rfl) rfl) rfl ?_
     refine om rfl rfl ?_
     refine shO_freeze 0 rfl hb25 ?_; intro F26 hF27 hz28
     refine shO_L (L' := [(b3, .cells #[.int .i64 found2] 3 (0, 0))]) rfl ?_
     replace h_walks := h_walks.mono (slE_ok (iE_ok _)) hF27
     replace h_hears := h_hears.mono (slE_ok (iE_ok _)) hF27
     replace h_notices := h_notices.mono (prE_ok (slE_ok (iE_ok _)) (prE_ok (iE_ok _) (iE_ok _))) hF27
     replace h_pairs := h_pairs.mono (prE_ok (iE_ok _) (iE_ok _)) hF27
     replace h_ok := h_ok.mono hF27
     replace hb_c := hF27 _ _ hb_c
     replace hz10 := hF27 _ _ hz10
     replace hz13 := hF27 _ _ hz13
     obtain ⟨ok2, found3, h29, r30⟩ := b2_ok r18
     refine o_callG (Lb := [(b3, .cells #[.int .i64 found2] 3 (0, 0))]) (Lr := []) rfl Try.call81 rfl rfl rfl (pR) ((round_crier_excludes_1_w FU) hz10 hb_c h_walks h_hears h_notices h_walks2 h_pairs h_hit hz13 h_ok hz28 h29) ?_; rintro _ F31 _ hF32 hd34 hn33 ⟨rfl, rfl⟩
     refine shO_L (lb (ln rfl)) ?_
     refine shO_nil ?_
     refine shW_cond rfl (fun c35 => ?_) (fun c35 => ?_)
     · have r36 := bt r30 c35
       refine shW_exit ?_
       refine inBlock_other rfl ?_
       refine andThen_exit (andThen_exit ?_)
       refine inBlock_exit ?_
       obtain rfl := inj1 r36
       exact mi kr ⟨((((hF9.trans hF12).trans hF21).trans hF27).trans hF32), rfl, (sc rfl (sn _))⟩
     have r37 := bf r30 c35
     refine shW_skip (inBlock_n (id := 1) (shW_region ?_))
     refine ov (v_add rfl rfl (Ctr.r64 hk16 c23 g14)) rfl ?_
     refine om rfl rfl (shO_nil ?_)
     refine lf ?_
     exact mf kr ⟨_, hk24, found3, r37, ((hF21.trans hF27).trans hF32), rfl, (sc rfl (sc rfl (sc rfl (sc rfl (sc rfl (sn _))))))⟩
   obtain rfl := Ctr.zero hk16 c23
   rw [round_crier_excludes_l1] at r18
   refine shW_exit (andThen_exit (andThen_exit ?_))
   refine inBlock_exit ?_
   obtain rfl := inj1 r18
   exact mi kr ⟨((hF9.trans hF12).trans hF21), rfl, (sc rfl (sn _))⟩
 rintro e1 F39 _ ⟨hF40, rfl, he38⟩
 refine shW_env _ he38 ?_
 refine wsr ?_
 refine ov (v_load Try.isAgg3 rfl (Has.own 0 rfl) rfl) rfl ?_
 refine oa rfl rfl (shO_nil ?_)
 refine kW kn ?_
 refine shW_ret (noGoto_ret ?_)
 refine q_res1 Try.results62 (res_tmp rfl) (sr) ?_
 obtain rfl := inj1 r5
 exact rfl
set_option maxHeartbeats 1000000 in
theorem round_Before_w {walks_a : Option Addr} {walks_c : Nat} {walks : List (List Int)} {hears_a : Option Addr} {hears_c : Nat} {hears : List (List Int)} {houses start : Int} {notices_a : Option Addr} {notices_c : Nat} {notices : List ((List Int) × Int × Int)} {minute : Int} {F : FS} (h_walks : RowR 1 (slE 1 (iE .i64)) F walks_a walks_c walks) (h_hears : RowR 1 (slE 1 (iE .i64)) F hears_a hears_c hears) (h_notices : RowR 3 (prE (slE 1 (iE .i64)) (prE (iE .i64) (iE .i64))) F notices_a notices_c notices) {r : List (Int × Int)} {r2 : Int} (hr : round_Before walks hears houses start notices minute = some (r, r2)) :
    SH.Spec Try.prog 37 #[.agg #[.slice walks_a walks.length walks_c, .slice hears_a hears.length hears_c, .int .i64 houses, .int .i64 start, .slice notices_a notices.length notices_c], .int .i64 minute] F [] fun F' L' v => ∃ (ra : Option Addr) (rn : Nat) (rc : Nat) (rL : LH), v = .tuple #[.slice ra rn rc, .int .i64 r2] ∧ L' = rL ++ [] ∧ SlR 0 54 2 (prE (iE .i64) (iE .i64)) F' ra rn rc r rL := by
 refine spec_of_shW (args := [.agg #[.slice walks_a walks.length walks_c, .slice hears_a hears.length hears_c, .int .i64 houses, .int .i64 start, .slice notices_a notices.length notices_c], .int .i64 minute]) Try.func37 rfl Try.ntmps37 (nbL rfl) ?_
 intro K _ _; rw [round_Before] at hr
 refine wsr ?_
 refine o_box rfl rfl ?_; intro b1 hb1
 refine oa rfl rfl (oa rfl rfl (nsr ?_))
 refine ov (v_loadA (cs := #[.slice walks_a walks.length walks_c, .slice hears_a hears.length hears_c, .int .i64 houses, .int .i64 start, .slice notices_a notices.length notices_c]) Try.isAgg26 Try.sizeOf26 rfl (Has.own 0 rfl) (nbL rfl) rfl) rfl ?_
 obtain ⟨d, n, h2, r3⟩ := b2_ok hr
 refine o_call0 rfl Try.call26 rfl rfl rfl (round_opened_w h_walks h_hears h_notices h2) ?_; rintro _ F4 _ hF5 hn6 ⟨v8, rfl, rfl, hp9⟩
 refine shO_L (ln rfl) ?_
 refine om rfl rfl (ox rfl rfl rfl (ox rfl rfl rfl (oa rfl rfl (oa rfl rfl (shO_nil (shW_seq ?_))))))
 refine shW_block ?_
 refine wsr (om rfl rfl ?_)
 refine ov (v_neq rfl rfl) rfl ?_
 refine oa rfl rfl (shO_nil ?_)
 refine shW_condP rfl (fun c10 => ?_) (fun c10 => ?_)
 · have r11 := ite_t r3 c10
   refine wsr (om rfl rfl (oa rfl rfl (oa rfl rfl (shO_nil ?_))))
   refine kW kn ?_
   refine shW_ret (inBlock_ret (andThen_ret ?_))
   refine q_res2 Try.results37 (res_tmp rfl) (res_tmp rfl) (sr) ?_
   obtain ⟨rfl, rfl⟩ := inj2 r11
   exact ⟨_, _, _, [], rfl, rfl, SlR.nil _ _ _ _ _⟩
 have r12 := ite_f r3 c10
 refine wsr (om rfl rfl ?_)
 obtain ⟨ok, h13, r14⟩ := b1_ok r12
 refine o_callV rfl Try.call60 rfl rfl rfl (round_in_w h13) ?_
 refine ov (v_notB rfl) rfl ?_
 refine oa rfl rfl (shO_nil ?_)
 refine shW_cond rfl (fun c15 => ?_) (fun c15 => ?_)
 · have r16 := bt r14 c15
   refine wsr (oa rfl rfl (oa rfl rfl (shO_nil ?_)))
   refine kW kn ?_
   refine shW_ret (inBlock_ret (andThen_ret ?_))
   refine q_res2 Try.results37 (res_tmp rfl) (res_tmp rfl) (sr) ?_
   obtain ⟨rfl, rfl⟩ := inj2 r16
   exact ⟨_, _, _, [], rfl, rfl, SlR.nil _ _ _ _ _⟩
 have r17 := bf r14 c15
 refine shW_skip (inBlock_n (id := 0) (wsr (om rfl rfl (om rfl rfl ?_))))
 obtain ⟨walks2, hears2, houses2, start2, notices2, walks3, pairs, hit, h18, r19⟩ := b8_ok r17
 have h39 := hp9; rw [h18] at h39; obtain ⟨b20, c21, m22, hv23, hz24, ⟨_, _, rfl, ⟨a25, c26, rfl, h27⟩, ⟨_, _, rfl, ⟨a28, c29, rfl, h30⟩, ⟨_, _, rfl, rfl, ⟨_, _, rfl, rfl, ⟨_, _, rfl, ⟨a31, c32, rfl, h33⟩, ⟨_, _, rfl, ⟨rfl, h34⟩, ⟨_, _, rfl, ⟨a35, c36, rfl, h37⟩, ⟨rfl, h38⟩⟩⟩⟩⟩⟩⟩⟩⟩ := h39; subst hv23
 have hz24 : F4 b20 = some (.cells ((([.slice a25 walks2.length c26] : List Value) ++ (([.slice a28 hears2.length c29] : List Value) ++ (([.int .i64 houses2] : List Value) ++ (([.int .i64 start2] : List Value) ++ (([.slice a31 notices2.length c32] : List Value) ++ (walks3.flatMap (cI .i64) ++ (([.slice a35 pairs.length c36] : List Value) ++ (hit.flatMap (cI .i64))))))))).toArray) 102 m22) := hz24
 obtain ⟨y, h40, r41⟩ := b1_ok r19
 refine o_call0 rfl Try.call58 rfl rfl rfl (round_crier_by_w hz24 h27 h30 h33 h34 h37 h38 h40) ?_; rintro _ F42 _ hF43 hn44 ⟨fi46, fc47, cp48, rfl, rfl, hit49⟩
 replace h27 := h27.mono (slE_ok (iE_ok _)) hF43
 replace h30 := h30.mono (slE_ok (iE_ok _)) hF43
 replace h33 := h33.mono (prE_ok (slE_ok (iE_ok _)) (prE_ok (iE_ok _) (iE_ok _))) hF43
 replace h37 := h37.mono (prE_ok (iE_ok _) (iE_ok _)) hF43
 replace hz24 := hF43 _ _ hz24
 refine shO_L (ln rfl) ?_
 refine o_alloc rfl Try.zeroValue76 ?_; intro b50 hb50
 refine o_storeA (i := 0) Try.sizeOf76 rfl rfl rfl (by simp [Value.oneCell']) rfl (nbL rfl) ?_
 refine shO_L (L' := [(b50, .cells #[.func (.func fi46) fc47 cp48] 76 (0, 0)), (b1, .cells #[.slice walks_a walks.length walks_c, .slice hears_a hears.length hears_c, .int .i64 houses, .int .i64 start, .slice notices_a notices.length notices_c] 26 (0, 0))]) rfl ?_
 refine shO_nil (shW_seq (shW_seq ?_))
 refine shW_drawM [(.still, 0), (.still, 1), (.still, 3), (.seq, 2), (.seq, 4), (.still, 5), (.still, 6), (.still, 7), (.still, 8), (.still, 9), (.still, 10), (.still, 11)] (by kernel_rfl) (by kernel_rfl) (trivial) (by rfl) (by kernel_rfl) ?_
 refine shM_v (v := .pointer (some ⟨b20, 0, none⟩)) (ek := [(6, .pointer (some ⟨b20, 0, none⟩))]) (Ls := []) rfl rfl rfl rfl ((sc rfl (sn _))) (by kernel_rfl) sm (fun H F' L' hF' hL' => v_move rfl) ?_
 refine shM_v (v := .pointer (some ⟨b20, 0, none⟩)) (ek := [(6, .pointer (some ⟨b20, 0, none⟩))]) (Ls := []) rfl rfl rfl rfl ((sc rfl (sn _))) (by kernel_rfl) sm (fun H F' L' hF' hL' => v_move rfl) ?_
 refine shM_v (v := .agg #[.func (.func fi46) fc47 cp48]) (ek := [(8, .pointer (some ⟨b50, 0, none⟩))]) (Ls := [(b50, .cells #[.func (.func fi46) fc47 cp48] 76 (0, 0))]) rfl rfl rfl rfl ((sc rfl (sn _))) (by kernel_rfl) (s0 (s2 (s1 sr))) (fun H F' L' hF' hL' => v_loadA (cs := #[.func (.func fi46) fc47 cp48]) Try.isAgg76 Try.sizeOf76 rfl ((Has.own 0 rfl).ext hF' hL') (nbL rfl) rfl) ?_
 refine ⟨_, [(30, .pointer (some ⟨b20, 0, none⟩))], rfl, rfl, (sc rfl (sn _)), by kernel_rfl, ?_⟩; intro H
 obtain ⟨n2, h51, r52⟩ := b1_ok r41
 refine o_callV rfl Try.call30 rfl rfl rfl (round_crier_all_w hz24 h27 h30 h33 h34 h37 h38 h51) ?_
 refine shO_nil ⟨_, rfl, FExt.refl _, [3, 0], by kernel_rfl, .inl (.inr (fun d h => by cases h; rfl)), (List.forall_mem_cons.2 ⟨s0 (s2 (s1 sr)), (List.forall_mem_cons.2 ⟨sm, (fun _ h => absurd h List.not_mem_nil)⟩)⟩), ?_⟩
 refine ⟨_, [(29, .pointer (some ⟨b20, 0, none⟩)), (31, .int .i64 n2), (32, .agg #[.func (.func fi46) fc47 cp48])], rfl, rfl, (sc rfl (sc rfl (sc rfl (sn _)))), by kernel_rfl, ?_⟩; intro H
 obtain ⟨l, n3, ok2, h53, r54⟩ := b3_ok r52
 refine o_call0 rfl Try.call27 rfl rfl rfl (round_crier_serve_w hz24 h27 h30 h33 h34 h37 h38 hit49 h53) ?_; rintro _ F55 _ hF56 hn57 ⟨a59, n63, c60, Lb61, rfl, rfl, hz62⟩
 replace h27 := h27.mono (slE_ok (iE_ok _)) hF56
 replace h30 := h30.mono (slE_ok (iE_ok _)) hF56
 replace h33 := h33.mono (prE_ok (slE_ok (iE_ok _)) (prE_ok (iE_ok _) (iE_ok _))) hF56
 replace h37 := h37.mono (prE_ok (iE_ok _) (iE_ok _)) hF56
 replace hit49 := hit49.mono hF56
 replace hz24 := hF56 _ _ hz24
 refine shO_L (lp (ln rfl)) ?_
 refine kO (kf (fS fO) (kf (fS fO) kr)) ?_
 refine shO_nil ⟨_, rfl, hF56, [], by kernel_rfl, .inl (.inl rfl), (fun _ h => absurd h List.not_mem_nil), ?_⟩
 refine shM_v (v := .tuple #[.slice a59 n63 c60, .int .i64 n3, .bool ok2]) (ek := [(33, .tuple #[.slice a59 n63 c60, .int .i64 n3, .bool ok2])]) (Ls := []) rfl rfl rfl rfl ((sc rfl (sn _))) (by kernel_rfl) sm (fun H F' L' hF' hL' => v_move rfl) ?_
 refine shM_v (v := .slice a59 n63 c60) (ek := [(28, .tuple #[.slice a59 n63 c60, .int .i64 n3, .bool ok2])]) (Ls := []) rfl rfl rfl rfl ((sc rfl (sn _))) (by kernel_rfl) sm (fun H F' L' hF' hL' => v_extract rfl rfl) ?_
 refine shM_v (v := .int .i64 n3) (ek := [(28, .tuple #[.slice a59 n63 c60, .int .i64 n3, .bool ok2])]) (Ls := []) rfl rfl rfl rfl ((sc rfl (sn _))) (by kernel_rfl) sm (fun H F' L' hF' hL' => v_extract rfl rfl) ?_
 refine shM_v (v := .bool ok2) (ek := [(28, .tuple #[.slice a59 n63 c60, .int .i64 n3, .bool ok2])]) (Ls := []) rfl rfl rfl rfl ((sc rfl (sn _))) (by kernel_rfl) sm (fun H F' L' hF' hL' => v_extract rfl rfl) ?_
 refine shM_v (v := .slice a59 n63 c60) (ek := [(34, .slice a59 n63 c60)]) (Ls := []) rfl rfl rfl rfl ((sc rfl (sn _))) (by kernel_rfl) sm (fun H F' L' hF' hL' => v_assign rfl) ?_
 refine shM_v (v := .int .i64 n3) (ek := [(35, .int .i64 n3)]) (Ls := []) rfl rfl rfl rfl ((sc rfl (sn _))) (by kernel_rfl) sm (fun H F' L' hF' hL' => v_assign rfl) ?_
 refine shM_v (v := .bool ok2) (ek := [(36, .bool ok2)]) (Ls := []) rfl rfl rfl rfl ((sc rfl (sn _))) (by kernel_rfl) sm (fun H F' L' hF' hL' => v_assign rfl) ?_
 refine shM_nil ?_
 refine wsr (om rfl rfl (shO_nil ?_))
 refine shW_cond rfl (fun c65 => ?_) (fun c65 => ?_)
 · have r66 := bt r54 c65
   refine wsr (oa rfl rfl (oa rfl rfl (shO_nil ?_)))
   refine kW kn ?_
   refine shW_ret (andThen_ret ?_)
   refine q_res2 Try.results37 (res_tmp rfl) (res_tmp rfl) (sr) ?_
   obtain ⟨rfl, rfl⟩ := inj2 r66
   exact ⟨_, _, _, [], rfl, rfl, SlR.nil _ _ _ _ _⟩
 have r67 := bf r54 c65
 refine shW_skip (wsr (om rfl rfl (om rfl rfl ?_)))
 refine ov (v_loadA (cs := #[.func (.func fi46) fc47 cp48]) Try.isAgg76 Try.sizeOf76 rfl (Has.own 0 rfl) (nbL rfl) rfl) rfl ?_
 obtain ⟨n4, h68, r69⟩ := b1_ok r67
 refine o_callV rfl Try.call62 rfl rfl rfl (round_crier_excludes_w hz24 h27 h30 h33 h34 h37 h38 hit49 h68) ?_
 obtain ⟨l2, h70, r71⟩ := b1_ok r69
 refine o_call0 rfl Try.call61 rfl rfl rfl (round_crier_chosen_w hz24 h27 h30 h33 h34 h37 h38 h70) ?_; rintro _ F72 _ hF73 hn74 ⟨a76, n80, c77, Lb78, rfl, rfl, hz79⟩
 replace hz79 := hz79.new fun p hp => hn74 p (by simp [hp])
 refine shO_L (lp (ln rfl)) ?_
 refine kO (kf (fS fO) (kf (fS fO) kr)) ?_
 refine oa rfl rfl (oa rfl rfl (shO_nil ?_))
 refine kW (kd (kd (ka kn))) ?_
 refine shW_ret ?_
 refine q_res2 Try.results37 (res_tmp rfl) (res_tmp rfl) (sr) ?_
 obtain ⟨rfl, rfl⟩ := inj2 r71
 exact ⟨_, _, _, _, rfl, rfl, hz79.any⟩
set_option maxHeartbeats 1000000 in
theorem slices_Equal_round_Pair_round_Pair_w {s1_a : Option Addr} {s1_c : Nat} {s1 : List (Int × Int)} {s2_a : Option Addr} {s2_c : Nat} {s2 : List (Int × Int)} {F : FS} (h_s1 : RowR 2 (prE (iE .i64) (iE .i64)) F s1_a s1_c s1) (h_s2 : RowR 2 (prE (iE .i64) (iE .i64)) F s2_a s2_c s2) {r : Bool} (hr : slices_Equal_round_Pair_round_Pair s1 s2 = some r) :
    SpecV Try.prog 63 #[.slice s1_a s1.length s1_c, .slice s2_a s2.length s2_c] F (.bool r) := by
 refine spec_of_shW (args := [.slice s1_a s1.length s1_c, .slice s2_a s2.length s2_c]) Try.func63 rfl Try.ntmps63 (nbL rfl) ?_
 intro K _ _; rw [slices_Equal_round_Pair_round_Pair] at hr
 refine wsr (oa rfl rfl (shO_nil (shW_seq (wsr (om rfl rfl ?_)))))
 refine ov (v_lenS Try.underlying44 rfl) rfl ?_
 refine om rfl rfl ?_
 refine ov (v_lenS Try.underlying44 rfl) rfl ?_
 refine ov (v_neq rfl rfl) rfl ?_
 refine shO_nil ?_
 refine shW_condP rfl (fun c1 => ?_) (fun c1 => ?_)
 · have r2 := ite_t hr c1
   refine wsr (oa rfl rfl (shO_nil (shW_ret (andThen_ret ?_))))
   refine q_res1 Try.results63 (res_tmp rfl) (sr) ?_
   obtain rfl := inj1 r2
   exact rfl
 have r3 := ite_f hr c1
 refine shW_skip ?_
 refine shW_join (fun e1 F1 L1 => slices_Equal_round_Pair_round_Pair_j1 = some r ∧ F = F1 ∧ L1 = [] ∧ e1.sub []) ?_ ?_
 · refine wsr (om rfl rfl ?_)
   refine ov (v_lenS Try.underlying44 rfl) rfl ?_
   refine om rfl rfl (shO_nil ?_)
   refine shW_block ?_
   refine shW_lp (fun fu2 e1 F1 L1 => ∃ (tl : List (Int × Int)) (k : Int), tl.length = fu2 ∧ Lst s1 k tl ∧ slices_Equal_round_Pair_round_Pair_l2 s2 tl k = some r ∧ F = F1 ∧ L1 = [] ∧ e1.sub [(0, .slice s1_a s1.length s1_c), (1, .slice s2_a s2.length s2_c), (12, .int .i64 (s1.length : Int)), (13, .int .i64 k)]) _ (m0 kr ⟨_, _, rfl, Lst.start _, r3, rfl, rfl, (sc rfl (sc rfl (sc rfl (sc rfl (sn _)))))⟩) ?_
   rintro fu2 e1 _ _ ⟨tl, k, hn5, hk4, r6, rfl, rfl, he7⟩
   refine shW_env _ he7 ?_
   refine wsr ?_
   refine ov (v_lssK rfl rfl) rfl ?_
   refine shO_nil (shW_seq ?_)
   refine shW_condP rfl (fun c9 => ?_) (fun c9 => ?_)
   · obtain ⟨x, tl2, rfl, hx11, g12, hk10⟩ := Lst.succ hk4 c9
     rw [slices_Equal_round_Pair_round_Pair_l2] at r6
     refine shW_skip (shW_seq ?_)
     refine shW_block ?_
     refine wsr (om rfl rfl (oa rfl rfl ?_))
     refine nsd (by kernel_rfl) (by kernel_rfl) (by kernel_rfl) ?_
     refine qm rfl rfl (qm rfl rfl ?_)
     obtain ⟨b13, o14, c15, vs16, ha17, hs18, hle19, ⟨_, _, rfl, rfl, rfl⟩, hl20, hc21⟩ := RowR.at (prE_ok (iE_ok _) (iE_ok _)) h_s1 ([]) g12.1 hx11
     refine qv (v_indexO Try.underlying44 Try.sizeOf54 rfl ha17 rfl g12) rfl ?_
     refine qv (v_loadA (cs := #[.int .i64 x.1, .int .i64 x.2]) Try.isAgg54 Try.sizeOf54 rfl hs18 hle19 (extract_cells hle19 hl20 hc21)) rfl ?_
     refine qm rfl rfl (qm rfl rfl ?_)
     obtain ⟨x2, g22, hx23, r24⟩ := ix_ok r6
     obtain ⟨b25, o26, c27, vs28, ha29, hs30, hle31, ⟨_, _, rfl, rfl, rfl⟩, hl32, hc33⟩ := RowR.at (prE_ok (iE_ok _) (iE_ok _)) h_s2 ([]) g22.1 hx23
     refine qv (v_indexO Try.underlying44 Try.sizeOf54 rfl ha29 rfl g22) rfl ?_
     refine qv (v_loadA (cs := #[.int .i64 x2.1, .int .i64 x2.2]) Try.isAgg54 Try.sizeOf54 rfl hs30 hle31 (extract_cells hle31 hl32 hc33)) rfl ?_
     refine qv (v_neA (eqgn_54 _ _ _ _) (fun w => ne_of_eq (eq_54 _ _ _ _ w)) rfl rfl) rfl ?_
     refine shQ_nil ?_
     refine shW_condP rfl (fun c34 => ?_) (fun c34 => ?_)
     · have r35 := ite_t r24 c34
       refine wsr (oa rfl rfl (shO_nil (shW_ret (inBlock_ret (andThen_ret (andThen_ret (inBlock_ret (andThen_ret ?_))))))))
       refine q_res1 Try.results63 (res_tmp rfl) (sr) ?_
       obtain rfl := inj1 r35
       exact rfl
     have r36 := ite_f r24 c34
     refine shW_skip (inBlock_n (id := 1) (shW_region ?_))
     refine ov (v_add rfl rfl (Lst.r64 hk4 c9 (RowR.lt h_s1))) rfl ?_
     refine om rfl rfl (shO_nil ?_)
     subst hn5; exact le kr ⟨_, _, rfl, hk10, r36, rfl, rfl, (sc rfl (sc rfl (sc rfl (sc rfl (sn _)))))⟩
   obtain rfl := Lst.zero hk4 c9
   rw [slices_Equal_round_Pair_round_Pair_l2] at r6
   refine shW_exit (andThen_exit (andThen_exit ?_))
   refine inBlock_exit ?_
   exact mi kr ⟨r6, rfl, rfl, (sn _)⟩
 rintro e1 _ _ ⟨r37, rfl, rfl, he38⟩
 refine shW_env _ he38 ?_
 rw [slices_Equal_round_Pair_round_Pair_j1] at r37
 refine wsr (oa rfl rfl (shO_nil (shW_ret ?_)))
 refine q_res1 Try.results63 (res_tmp rfl) (sr) ?_
 obtain rfl := inj1 r37
 exact rfl
theorem oyezkit_Like_Pair_w {a_a : Option Addr} {a_c : Nat} {a : List (Int × Int)} {b_a : Option Addr} {b_c : Nat} {b : List (Int × Int)} {F : FS} (h_a : RowR 2 (prE (iE .i64) (iE .i64)) F a_a a_c a) (h_b : RowR 2 (prE (iE .i64) (iE .i64)) F b_a b_c b) {r : Bool} (hr : oyezkit_Like_Pair a b = some r) :
    SpecV Try.prog 38 #[.slice a_a a.length a_c, .slice b_a b.length b_c] F (.bool r) := by
 refine spec_of_shW (args := [.slice a_a a.length a_c, .slice b_a b.length b_c]) Try.func38 rfl Try.ntmps38 (nbL rfl) ?_
 intro K _ _; rw [oyezkit_Like_Pair] at hr
 refine wsr (oa rfl rfl (nsr (om rfl rfl (om rfl rfl ?_))))
 obtain ⟨ok, h1, r2⟩ := b1_ok hr
 refine o_callV rfl Try.call63 rfl rfl rfl (slices_Equal_round_Pair_round_Pair_w h_a h_b h1) ?_
 refine oa rfl rfl (shO_nil (shW_ret ?_))
 refine q_res1 Try.results38 (res_tmp rfl) (sr) ?_
 obtain rfl := inj1 r2
 exact rfl
set_option maxHeartbeats 1000000 in
theorem round_Hurry_1_1_w {n minute : Int} {b_x : Nat} {x : Int} {mb_x : Nat × Nat} {b_x_ : Nat} {x2 : Int} {mb_x_ : Nat × Nat} {b_x__ b_x___ : Nat} {walks_a : Option Addr} {walks_c : Nat} {walks : List (List Int)} {hears_a : Option Addr} {hears_c : Nat} {hears : List (List Int)} {houses start : Int} {notices_a : Option Addr} {notices_c : Nat} {notices : List ((List Int) × Int × Int)} {walks2 : List Int} {pairs_a : Option Addr} {pairs_c : Nat} {pairs : List (Int × Int)} {hit : List Int} {mb_x___ mb_x__ : Nat × Nat} {F : FS} (hb_x : F b_x = some (.cells #[.int .i64 x] 3 mb_x)) (hb_x_ : F b_x_ = some (.cells #[.int .i64 x2] 3 mb_x_)) (hb_x__ : F b_x__ = some (.cells #[.pointer (some ⟨b_x___, 0, none⟩)] 67 mb_x__)) (hb_x___ : F b_x___ = some (.cells ((([.slice walks_a walks.length walks_c] : List Value) ++ (([.slice hears_a hears.length hears_c] : List Value) ++ (([.int .i64 houses] : List Value) ++ (([.int .i64 start] : List Value) ++ (([.slice notices_a notices.length notices_c] : List Value) ++ (walks2.flatMap (cI .i64) ++ (([.slice pairs_a pairs.length pairs_c] : List Value) ++ (hit.flatMap (cI .i64))))))))).toArray) 102 mb_x___)) (_h_walks : RowR 1 (slE 1 (iE .i64)) F walks_a walks_c walks) (_h_hears : RowR 1 (slE 1 (iE .i64)) F hears_a hears_c hears) (h_notices : RowR 3 (prE (slE 1 (iE .i64)) (prE (iE .i64) (iE .i64))) F notices_a notices_c notices) (_h_walks2 : walks2.length = 25) (_h_pairs : RowR 2 (prE (iE .i64) (iE .i64)) F pairs_a pairs_c pairs) (_h_hit : hit.length = 15) {r : Bool} (hr : round_Hurry_1_1 n minute x x2 walks hears houses start notices walks2 pairs hit = some r) :
    SpecV Try.prog 66 #[.int .i64 n, .int .i64 minute, .pointer (some ⟨b_x, 0, none⟩), .pointer (some ⟨b_x_, 0, none⟩), .pointer (some ⟨b_x__, 0, none⟩)] F (.bool r) := by
 refine spec_of_shW (args := [.int .i64 n, .int .i64 minute, .pointer (some ⟨b_x, 0, none⟩), .pointer (some ⟨b_x_, 0, none⟩), .pointer (some ⟨b_x__, 0, none⟩)]) Try.func66 rfl Try.ntmps66 (nbL rfl) ?_
 intro K _ _; rw [round_Hurry_1_1] at hr
 refine wsr (oa rfl rfl (nsr (om rfl rfl ?_)))
 refine ov (v_load Try.isAgg3 rfl (Has.frozen hb_x) rfl) rfl ?_
 refine ov (v_eql rfl rfl) rfl ?_
 refine om rfl rfl ?_
 by_cases c1 : n = x
 · have r2 := ite_t hr c1
   refine shO_on (b := true) 11 rfl (Env.isT rfl c1) (om rfl rfl (shO_on (b := true) 11 rfl (Env.isT rfl c1) ?_))
   refine ov (v_load Try.isAgg3 rfl (Has.frozen hb_x_) rfl) rfl ?_
   refine shO_on (b := true) 11 rfl (Env.isT rfl c1) ?_
   refine ov (v_leqK rfl rfl) rfl ?_
   refine ov (v_pick_t (evD_true rfl c1) rfl) rfl ?_
   refine om rfl rfl ?_
   by_cases c3 : minute ≤ x2
   · have r4 := ite_t r2 c3
     refine shO_off (b' := true) 16 rfl (Env.isT rfl c3) rfl rfl (shO_off (b' := true) 16 rfl (Env.isT rfl c3) rfl rfl (shO_off (b' := true) 16 rfl (Env.isT rfl c3) rfl rfl (shO_off (b' := true) 16 rfl (Env.isT rfl c3) rfl rfl (shO_offU 20 rfl rfl rfl (shO_offU 20 rfl rfl rfl (shO_offU 20 rfl rfl rfl (shO_offU 20 rfl rfl rfl (shO_offU 20 rfl rfl rfl (shO_offU 20 rfl rfl rfl ?_)))))))))
     refine shO_offU 20 rfl rfl rfl (shO_offU 20 rfl rfl rfl (shO_offU 20 rfl rfl rfl (shO_offU 20 rfl rfl rfl (shO_offU 20 rfl rfl rfl (shO_off (b' := true) 16 rfl (Env.isT rfl c3) rfl rfl ?_)))))
     refine ov (v_pick_t (evD_true rfl c3) rfl) rfl ?_
     refine oa rfl rfl (shO_nil (shW_ret ?_))
     refine q_res1 Try.results66 (res_tmp rfl) (sr) ?_
     obtain rfl := inj1 r4
     exact rfl
   have r5 := ite_f r2 c3
   refine shO_on (b := false) 16 rfl (Env.isF rfl c3) (om rfl rfl (shO_on (b := false) 16 rfl (Env.isF rfl c3) ?_))
   refine ov (v_load Try.isAgg3 rfl (Has.frozen hb_x) rfl) rfl ?_
   refine shO_on (b := false) 16 rfl (Env.isF rfl c3) ?_
   refine ov (v_neq rfl rfl) rfl ?_
   refine shO_on (b := false) 16 rfl (Env.isF rfl c3) (om rfl rfl ?_)
   by_cases c6 : n ≠ x
   · have r7 := ite_t r5 c6
     refine shO_on (b := true) 20 rfl (Env.isT rfl c6) (om rfl rfl (shO_on (b := true) 20 rfl (Env.isT rfl c6) ?_))
     refine ov (v_load Try.isAgg67 rfl (Has.frozen hb_x__) rfl) rfl ?_
     refine shO_on (b := true) 20 rfl (Env.isT rfl c6) ?_
     refine ov (v_nilCheck rfl) rfl ?_
     refine shO_on (b := true) 20 rfl (Env.isT rfl c6) ?_
     refine ov (v_fieldAddr fa_102_0 rfl) rfl ?_
     refine shO_on (b := true) 20 rfl (Env.isT rfl c6) ?_
     refine ov (v_fieldAddr fa_26_4 rfl) rfl ?_
     refine shO_on (b := true) 20 rfl (Env.isT rfl c6) ?_
     refine ov (v_load Try.isAgg24 rfl (Has.frozen hb_x___) (li_cell (li_skip (A := ([.slice walks_a walks.length walks_c] : List Value)) (k := 1) (o := 3) rfl (li_skip (A := ([.slice hears_a hears.length hears_c] : List Value)) (k := 1) (o := 2) rfl (li_skip (A := ([.int .i64 houses] : List Value)) (k := 1) (o := 1) rfl (li_skip (A := ([.int .i64 start] : List Value)) (k := 1) (o := 0) rfl (li_here (B := walks2.flatMap (cI .i64) ++ (([.slice pairs_a pairs.length pairs_c] : List Value) ++ (hit.flatMap (cI .i64)))) rfl))))))) rfl ?_
     refine shO_on (b := true) 20 rfl (Env.isT rfl c6) (om rfl rfl (shO_on (b := true) 20 rfl (Env.isT rfl c6) ?_))
     obtain ⟨x3, g8, hx9, r10⟩ := ix_ok r7
     obtain ⟨b11, o12, c13, vs14, ha15, hs16, hle17, ⟨_, _, rfl, ⟨a20, c21, rfl, h22⟩, ⟨_, _, rfl, rfl, rfl⟩⟩, hl18, hc19⟩ := RowR.at (prE_ok (slE_ok (iE_ok _)) (prE_ok (iE_ok _) (iE_ok _))) h_notices ([]) g8.1 hx9
     refine ov (v_indexO Try.underlying24 Try.sizeOf39 rfl ha15 rfl g8) rfl ?_
     refine shO_on (b := true) 20 rfl (Env.isT rfl c6) ?_
     refine ov (v_fieldAddr fa_39_2 rfl) rfl ?_
     refine shO_on (b := true) 20 rfl (Env.isT rfl c6) ?_
     refine ov (v_load Try.isAgg3 rfl hs16 (hc19 2 (by decide))) rfl ?_
     refine shO_on (b := true) 20 rfl (Env.isT rfl c6) ?_
     refine ov (v_leqK rfl rfl) rfl ?_
     refine shO_on (b := false) 16 rfl (Env.isF rfl c3) ?_
     refine ov (v_pick_t (evD_true rfl c6) rfl) rfl ?_
     refine ov (v_pick_f (evD_false rfl c3) rfl) rfl ?_
     refine oa rfl rfl (shO_nil (shW_ret ?_))
     refine q_res1 Try.results66 (res_tmp rfl) (sr) ?_
     obtain rfl := inj1 r10
     exact rfl
   have r23 := ite_f r5 c6
   refine shO_off (b' := false) 20 rfl (Env.isF rfl c6) rfl rfl (shO_off (b' := false) 20 rfl (Env.isF rfl c6) rfl rfl (shO_off (b' := false) 20 rfl (Env.isF rfl c6) rfl rfl (shO_off (b' := false) 20 rfl (Env.isF rfl c6) rfl rfl (shO_off (b' := false) 20 rfl (Env.isF rfl c6) rfl rfl (shO_off (b' := false) 20 rfl (Env.isF rfl c6) rfl rfl (shO_off (b' := false) 20 rfl (Env.isF rfl c6) rfl rfl (shO_off (b' := false) 20 rfl (Env.isF rfl c6) rfl rfl (shO_off (b' := false) 20 rfl (Env.isF rfl c6) rfl rfl (shO_off (b' := false) 20 rfl (Env.isF rfl c6) rfl rfl ?_)))))))))
   refine shO_off (b' := false) 20 rfl (Env.isF rfl c6) rfl rfl (shO_on (b := false) 16 rfl (Env.isF rfl c3) ?_)
   refine ov (v_pick_f (evD_false rfl c6) rfl) rfl ?_
   refine ov (v_pick_f (evD_false rfl c3) rfl) rfl ?_
   refine oa rfl rfl (shO_nil (shW_ret ?_))
   refine q_res1 Try.results66 (res_tmp rfl) (sr) ?_
   obtain rfl := inj1 r23
   exact rfl
 have r24 := ite_f hr c1
 refine shO_off (b' := false) 11 rfl (Env.isF rfl c1) rfl rfl (shO_off (b' := false) 11 rfl (Env.isF rfl c1) rfl rfl (shO_off (b' := false) 11 rfl (Env.isF rfl c1) rfl rfl ?_))
 refine ov (v_pick_f (evD_false rfl c1) rfl) rfl ?_
 refine om rfl rfl (shO_on (b := false) 16 rfl rfl (om rfl rfl (shO_on (b := false) 16 rfl rfl ?_)))
 refine ov (v_load Try.isAgg3 rfl (Has.frozen hb_x) rfl) rfl ?_
 refine shO_on (b := false) 16 rfl rfl ?_
 refine ov (v_neq rfl rfl) rfl ?_
 refine shO_on (b := false) 16 rfl rfl (om rfl rfl ?_)
 by_cases c25 : n ≠ x
 · have r26 := ite_t r24 c25
   refine shO_on (b := true) 20 rfl (Env.isT rfl c25) (om rfl rfl (shO_on (b := true) 20 rfl (Env.isT rfl c25) ?_))
   refine ov (v_load Try.isAgg67 rfl (Has.frozen hb_x__) rfl) rfl ?_
   refine shO_on (b := true) 20 rfl (Env.isT rfl c25) ?_
   refine ov (v_nilCheck rfl) rfl ?_
   refine shO_on (b := true) 20 rfl (Env.isT rfl c25) ?_
   refine ov (v_fieldAddr fa_102_0 rfl) rfl ?_
   refine shO_on (b := true) 20 rfl (Env.isT rfl c25) ?_
   refine ov (v_fieldAddr fa_26_4 rfl) rfl ?_
   refine shO_on (b := true) 20 rfl (Env.isT rfl c25) ?_
   refine ov (v_load Try.isAgg24 rfl (Has.frozen hb_x___) (li_cell (li_skip (A := ([.slice walks_a walks.length walks_c] : List Value)) (k := 1) (o := 3) rfl (li_skip (A := ([.slice hears_a hears.length hears_c] : List Value)) (k := 1) (o := 2) rfl (li_skip (A := ([.int .i64 houses] : List Value)) (k := 1) (o := 1) rfl (li_skip (A := ([.int .i64 start] : List Value)) (k := 1) (o := 0) rfl (li_here (B := walks2.flatMap (cI .i64) ++ (([.slice pairs_a pairs.length pairs_c] : List Value) ++ (hit.flatMap (cI .i64)))) rfl))))))) rfl ?_
   refine shO_on (b := true) 20 rfl (Env.isT rfl c25) (om rfl rfl (shO_on (b := true) 20 rfl (Env.isT rfl c25) ?_))
   obtain ⟨x4, g27, hx28, r29⟩ := ix_ok r26
   obtain ⟨b30, o31, c32, vs33, ha34, hs35, hle36, ⟨_, _, rfl, ⟨a39, c40, rfl, h41⟩, ⟨_, _, rfl, rfl, rfl⟩⟩, hl37, hc38⟩ := RowR.at (prE_ok (slE_ok (iE_ok _)) (prE_ok (iE_ok _) (iE_ok _))) h_notices ([]) g27.1 hx28
   refine ov (v_indexO Try.underlying24 Try.sizeOf39 rfl ha34 rfl g27) rfl ?_
   refine shO_on (b := true) 20 rfl (Env.isT rfl c25) ?_
   refine ov (v_fieldAddr fa_39_2 rfl) rfl ?_
   refine shO_on (b := true) 20 rfl (Env.isT rfl c25) ?_
   refine ov (v_load Try.isAgg3 rfl hs35 (hc38 2 (by decide))) rfl ?_
   refine shO_on (b := true) 20 rfl (Env.isT rfl c25) ?_
   refine ov (v_leqK rfl rfl) rfl ?_
   refine shO_on (b := false) 16 rfl rfl ?_
   refine ov (v_pick_t (evD_true rfl c25) rfl) rfl ?_
   refine ov (v_pick_f rfl rfl) rfl ?_
   refine oa rfl rfl (shO_nil (shW_ret ?_))
   refine q_res1 Try.results66 (res_tmp rfl) (sr) ?_
   obtain rfl := inj1 r29
   exact rfl
 have r42 := ite_f r24 c25
 refine shO_off (b' := false) 20 rfl (Env.isF rfl c25) rfl rfl (shO_off (b' := false) 20 rfl (Env.isF rfl c25) rfl rfl (shO_off (b' := false) 20 rfl (Env.isF rfl c25) rfl rfl (shO_off (b' := false) 20 rfl (Env.isF rfl c25) rfl rfl (shO_off (b' := false) 20 rfl (Env.isF rfl c25) rfl rfl (shO_off (b' := false) 20 rfl (Env.isF rfl c25) rfl rfl (shO_off (b' := false) 20 rfl (Env.isF rfl c25) rfl rfl (shO_off (b' := false) 20 rfl (Env.isF rfl c25) rfl rfl (shO_off (b' := false) 20 rfl (Env.isF rfl c25) rfl rfl (shO_off (b' := false) 20 rfl (Env.isF rfl c25) rfl rfl ?_)))))))))
 refine shO_off (b' := false) 20 rfl (Env.isF rfl c25) rfl rfl (shO_on (b := false) 16 rfl rfl ?_)
 refine ov (v_pick_f (evD_false rfl c25) rfl) rfl ?_
 refine ov (v_pick_f rfl rfl) rfl ?_
 refine oa rfl rfl (shO_nil (shW_ret ?_))
 refine q_res1 Try.results66 (res_tmp rfl) (sr) ?_
 obtain rfl := inj1 r42
 exact rfl
set_option maxHeartbeats 1000000 in
theorem round_Hurry_1_w {hour : Int} {b_c b_c_ : Nat} {walks_a : Option Addr} {walks_c : Nat} {walks : List (List Int)} {hears_a : Option Addr} {hears_c : Nat} {hears : List (List Int)} {houses start : Int} {notices_a : Option Addr} {notices_c : Nat} {notices : List ((List Int) × Int × Int)} {walks2 : List Int} {pairs_a : Option Addr} {pairs_c : Nat} {pairs : List (Int × Int)} {hit : List Int} {mb_c_ mb_c : Nat × Nat} {b_notice : Nat} {notice : Int} {mb_notice : Nat × Nat} {F : FS} (hb_c : F b_c = some (.cells #[.pointer (some ⟨b_c_, 0, none⟩)] 67 mb_c)) (hb_c_ : F b_c_ = some (.cells ((([.slice walks_a walks.length walks_c] : List Value) ++ (([.slice hears_a hears.length hears_c] : List Value) ++ (([.int .i64 houses] : List Value) ++ (([.int .i64 start] : List Value) ++ (([.slice notices_a notices.length notices_c] : List Value) ++ (walks2.flatMap (cI .i64) ++ (([.slice pairs_a pairs.length pairs_c] : List Value) ++ (hit.flatMap (cI .i64))))))))).toArray) 102 mb_c_)) (h_walks : RowR 1 (slE 1 (iE .i64)) F walks_a walks_c walks) (h_hears : RowR 1 (slE 1 (iE .i64)) F hears_a hears_c hears) (h_notices : RowR 3 (prE (slE 1 (iE .i64)) (prE (iE .i64) (iE .i64))) F notices_a notices_c notices) (h_walks2 : walks2.length = 25) (h_pairs : RowR 2 (prE (iE .i64) (iE .i64)) F pairs_a pairs_c pairs) (h_hit : hit.length = 15) (hb_notice : F b_notice = some (.cells #[.int .i64 notice] 3 mb_notice)) {r : Bool} (hr : round_Hurry_1 hour walks hears houses start notices walks2 pairs hit notice = some r) :
    SpecV Try.prog 65 #[.int .i64 hour, .pointer (some ⟨b_c, 0, none⟩), .pointer (some ⟨b_notice, 0, none⟩)] F (.bool r) := by
 refine spec_of_shW (args := [.int .i64 hour, .pointer (some ⟨b_c, 0, none⟩), .pointer (some ⟨b_notice, 0, none⟩)]) Try.func65 rfl Try.ntmps65 (nbL rfl) ?_
 intro K _ _; rw [round_Hurry_1] at hr
 refine wsr ?_
 refine o_box rfl rfl ?_; intro b1 hb1
 refine oa rfl rfl (shO_nil (shW_seq ?_))
 refine shW_drawM [(.still, 0), (.still, 1), (.still, 3), (.still, 4), (.seq, 2), (.seq, 5), (.still, 6), (.still, 7), (.still, 8), (.still, 9), (.still, 10), (.still, 11), (.still, 12)] (by kernel_rfl) (by kernel_rfl) (trivial) (by rfl) (by kernel_rfl) ?_
 refine shM_v (v := .pointer (some ⟨b_c_, 0, none⟩)) (ek := [(1, .pointer (some ⟨b_c, 0, none⟩))]) (Ls := []) rfl rfl rfl rfl ((sc rfl (sn _))) (by kernel_rfl) sm (fun H F' L' hF' hL' => v_load Try.isAgg67 rfl ((Has.frozen hb_c).ext hF' hL') rfl) ?_
 refine shM_v (v := .pointer (some ⟨b_c_, 0, none⟩)) (ek := [(1, .pointer (some ⟨b_c, 0, none⟩))]) (Ls := []) rfl rfl rfl rfl ((sc rfl (sn _))) (by kernel_rfl) sm (fun H F' L' hF' hL' => v_load Try.isAgg67 rfl ((Has.frozen hb_c).ext hF' hL') rfl) ?_
 refine shM_v (v := .func (.func 66) #[] #[.pointer (some ⟨b_notice, 0, none⟩), .pointer (some ⟨b1, 0, none⟩), .pointer (some ⟨b_c, 0, none⟩)]) (ek := [(1, .pointer (some ⟨b_c, 0, none⟩)), (2, .pointer (some ⟨b_notice, 0, none⟩)), (3, .pointer (some ⟨b1, 0, none⟩))]) (Ls := []) rfl rfl rfl rfl ((sc rfl (sc rfl (sc rfl (sn _))))) (by kernel_rfl) sm (fun H F' L' hF' hL' => v_makeFunc rfl rfl) ?_
 refine shM_v (v := .agg (#[.func (.func 66) #[] #[.pointer (some ⟨b_notice, 0, none⟩), .pointer (some ⟨b1, 0, none⟩), .pointer (some ⟨b_c, 0, none⟩)]])) (ek := [(12, .func (.func 66) #[] #[.pointer (some ⟨b_notice, 0, none⟩), .pointer (some ⟨b1, 0, none⟩), .pointer (some ⟨b_c, 0, none⟩)])]) (Ls := []) rfl rfl rfl rfl ((sc rfl (sn _))) (by kernel_rfl) sm (fun H F' L' hF' hL' => v_build (v := .agg (#[.func (.func 66) #[] #[.pointer (some ⟨b_notice, 0, none⟩), .pointer (some ⟨b1, 0, none⟩), .pointer (some ⟨b_c, 0, none⟩)]])) rfl (by intro w; kernel_rfl)) ?_
 refine ⟨_, [(10, .pointer (some ⟨b_c_, 0, none⟩))], rfl, rfl, (sc rfl (sn _)), by kernel_rfl, ?_⟩; intro H
 obtain ⟨n, h2, r3⟩ := b1_ok hr
 refine o_callV rfl Try.call30 rfl rfl rfl (round_crier_all_w hb_c_ h_walks h_hears h_notices h_walks2 h_pairs h_hit h2) ?_
 refine shO_nil ⟨_, rfl, FExt.refl _, [4, 3, 0], by kernel_rfl, .inl (.inr (fun d h => by cases h; rfl)), (List.forall_mem_cons.2 ⟨sm, (List.forall_mem_cons.2 ⟨sm, (List.forall_mem_cons.2 ⟨sm, (fun _ h => absurd h List.not_mem_nil)⟩)⟩)⟩), ?_⟩
 refine ⟨_, [(9, .pointer (some ⟨b_c_, 0, none⟩)), (11, .int .i64 n), (13, .agg (#[.func (.func 66) #[] #[.pointer (some ⟨b_notice, 0, none⟩), .pointer (some ⟨b1, 0, none⟩), .pointer (some ⟨b_c, 0, none⟩)]]))], rfl, rfl, (sc rfl (sc rfl (sc rfl (sn _)))), by kernel_rfl, ?_⟩; intro H
 refine shO_freeze 0 rfl hb1 ?_; intro F4 hF5 hz6
 refine shO_L (L' := []) rfl ?_
 replace h_walks := h_walks.mono (slE_ok (iE_ok _)) hF5
 replace h_hears := h_hears.mono (slE_ok (iE_ok _)) hF5
 replace h_notices := h_notices.mono (prE_ok (slE_ok (iE_ok _)) (prE_ok (iE_ok _) (iE_ok _))) hF5
 replace h_pairs := h_pairs.mono (prE_ok (iE_ok _) (iE_ok _)) hF5
 replace hb_c_ := hF5 _ _ hb_c_
 replace hb_c := hF5 _ _ hb_c
 replace hb_notice := hF5 _ _ hb_notice
 have hn7 : FnR Try.prog F4 66 #[] #[.pointer (some ⟨b_notice, 0, none⟩), .pointer (some ⟨b1, 0, none⟩), .pointer (some ⟨b_c, 0, none⟩)] (prE (iE .i64) (iE .i64)) Value.bool (fun xx_ : Int × Int => round_Hurry_1_1 xx_.1 xx_.2 notice hour walks hears houses start notices walks2 pairs hit) := ⟨Try.call66, fun F2 h2 vs xx_ r ha hr => by obtain ⟨_, _, rfl, rfl, rfl⟩ := ha; exact round_Hurry_1_1_w (h2 _ _ hb_notice) (h2 _ _ hz6) (h2 _ _ hb_c) (h2 _ _ hb_c_) (h_walks.mono (slE_ok (iE_ok _)) h2) (h_hears.mono (slE_ok (iE_ok _)) h2) (h_notices.mono (prE_ok (slE_ok (iE_ok _)) (prE_ok (iE_ok _) (iE_ok _))) h2) h_walks2 (h_pairs.mono (prE_ok (iE_ok _) (iE_ok _)) h2) h_hit hr⟩
 obtain ⟨l, n2, ok, h8, r9⟩ := b3_ok r3
 refine o_call0 rfl Try.call27 rfl rfl rfl (round_crier_serve_w hb_c_ h_walks h_hears h_notices h_walks2 h_pairs h_hit hn7 h8) ?_; rintro _ F10 _ hF11 hn12 ⟨a14, n18, c15, Lb16, rfl, rfl, hz17⟩
 refine shO_L (lp (ln rfl)) ?_
 refine shO_nil ⟨_, rfl, (hF5.trans hF11), [], by kernel_rfl, .inl (.inl rfl), (fun _ h => absurd h List.not_mem_nil), ?_⟩
 refine shM_v (v := .tuple #[.slice a14 n18 c15, .int .i64 n2, .bool ok]) (ek := [(14, .tuple #[.slice a14 n18 c15, .int .i64 n2, .bool ok])]) (Ls := []) rfl rfl rfl rfl ((sc rfl (sn _))) (by kernel_rfl) sm (fun H F' L' hF' hL' => v_move rfl) ?_
 refine shM_v (v := .slice a14 n18 c15) (ek := [(8, .tuple #[.slice a14 n18 c15, .int .i64 n2, .bool ok])]) (Ls := []) rfl rfl rfl rfl ((sc rfl (sn _))) (by kernel_rfl) sm (fun H F' L' hF' hL' => v_extract rfl rfl) ?_
 refine shM_v (v := .int .i64 n2) (ek := [(8, .tuple #[.slice a14 n18 c15, .int .i64 n2, .bool ok])]) (Ls := []) rfl rfl rfl rfl ((sc rfl (sn _))) (by kernel_rfl) sm (fun H F' L' hF' hL' => v_extract rfl rfl) ?_
 refine shM_v (v := .bool ok) (ek := [(8, .tuple #[.slice a14 n18 c15, .int .i64 n2, .bool ok])]) (Ls := []) rfl rfl rfl rfl ((sc rfl (sn _))) (by kernel_rfl) sm (fun H F' L' hF' hL' => v_extract rfl rfl) ?_
 refine shM_v (v := .slice a14 n18 c15) (ek := [(15, .slice a14 n18 c15)]) (Ls := []) rfl rfl rfl rfl ((sc rfl (sn _))) (by kernel_rfl) sm (fun H F' L' hF' hL' => v_assign rfl) ?_
 refine shM_v (v := .int .i64 n2) (ek := [(16, .int .i64 n2)]) (Ls := []) rfl rfl rfl rfl ((sc rfl (sn _))) (by kernel_rfl) sm (fun H F' L' hF' hL' => v_assign rfl) ?_
 refine shM_v (v := .bool ok) (ek := [(17, .bool ok)]) (Ls := []) rfl rfl rfl rfl ((sc rfl (sn _))) (by kernel_rfl) sm (fun H F' L' hF' hL' => v_assign rfl) ?_
 refine shM_nil ?_
 refine wsr (om rfl rfl (oa rfl rfl (shO_nil ?_)))
 refine kW kn ?_
 refine shW_ret ?_
 refine q_res1 Try.results65 (res_tmp rfl) (sr) ?_
 obtain rfl := inj1 r9
 exact rfl
set_option maxHeartbeats 1000000 in
theorem round_Hurry_w {walks_a : Option Addr} {walks_c : Nat} {walks : List (List Int)} {hears_a : Option Addr} {hears_c : Nat} {hears : List (List Int)} {houses start : Int} {notices_a : Option Addr} {notices_c : Nat} {notices : List ((List Int) × Int × Int)} {notice : Int} {F : FS} (h_walks : RowR 1 (slE 1 (iE .i64)) F walks_a walks_c walks) (h_hears : RowR 1 (slE 1 (iE .i64)) F hears_a hears_c hears) (h_notices : RowR 3 (prE (slE 1 (iE .i64)) (prE (iE .i64) (iE .i64))) F notices_a notices_c notices) {r r2 : Int} (hr : round_Hurry walks hears houses start notices notice = some (r, r2)) :
    SpecV Try.prog 39 #[.agg #[.slice walks_a walks.length walks_c, .slice hears_a hears.length hears_c, .int .i64 houses, .int .i64 start, .slice notices_a notices.length notices_c], .int .i64 notice] F (.tuple #[.int .i64 r, .int .i64 r2]) := by
 refine spec_of_shW (args := [.agg #[.slice walks_a walks.length walks_c, .slice hears_a hears.length hears_c, .int .i64 houses, .int .i64 start, .slice notices_a notices.length notices_c], .int .i64 notice]) Try.func39 rfl Try.ntmps39 (nbL rfl) ?_
 intro K _ _; rw [round_Hurry] at hr
 refine wsr ?_
 refine o_box rfl rfl ?_; intro b1 hb1
 refine o_box rfl rfl ?_; intro b2 hb2
 refine oa rfl rfl (oa rfl rfl (nsr ?_))
 refine ov (v_loadA (cs := #[.slice walks_a walks.length walks_c, .slice hears_a hears.length hears_c, .int .i64 houses, .int .i64 start, .slice notices_a notices.length notices_c]) Try.isAgg26 Try.sizeOf26 rfl (Has.own 1 rfl) (nbL rfl) rfl) rfl ?_
 obtain ⟨d, n, h3, r4⟩ := b2_ok hr
 refine o_call0 rfl Try.call26 rfl rfl rfl (round_opened_w h_walks h_hears h_notices h3) ?_; rintro _ F5 _ hF6 hn7 ⟨v9, rfl, rfl, hp10⟩
 replace h_walks := h_walks.mono (slE_ok (iE_ok _)) hF6
 replace h_hears := h_hears.mono (slE_ok (iE_ok _)) hF6
 replace h_notices := h_notices.mono (prE_ok (slE_ok (iE_ok _)) (prE_ok (iE_ok _) (iE_ok _))) hF6
 refine shO_L (ln rfl) ?_
 refine om rfl rfl (ox rfl rfl rfl (ox rfl rfl rfl ?_))
 refine o_alloc rfl Try.zeroValue67 ?_; intro b11 hb11
 refine o_store (i := 0) Try.sizeOf67 rfl rfl (PtrR.one hp10) rfl (nbL rfl) ?_
 refine shO_L (L' := [(b11, .cells #[v9] 67 (0, 0)), (b2, .cells #[.int .i64 notice] 3 (0, 0)), (b1, .cells #[.slice walks_a walks.length walks_c, .slice hears_a hears.length hears_c, .int .i64 houses, .int .i64 start, .slice notices_a notices.length notices_c] 26 (0, 0))]) rfl ?_
 refine oa rfl rfl (shO_nil (shW_seq ?_))
 refine shW_block ?_
 refine wsr (om rfl rfl ?_)
 refine ov (v_neq rfl rfl) rfl ?_
 refine oa rfl rfl (shO_nil ?_)
 refine shW_condP rfl (fun c12 => ?_) (fun c12 => ?_)
 · have r13 := ite_t r4 c12
   refine wsr (om rfl rfl (oa rfl rfl (oa rfl rfl (shO_nil ?_))))
   refine kW kn ?_
   refine shW_ret (inBlock_ret (andThen_ret ?_))
   refine q_res2 Try.results39 (res_tmp rfl) (res_tmp rfl) (sr) ?_
   obtain ⟨rfl, rfl⟩ := inj2 r13
   exact rfl
 have r14 := ite_f r4 c12
 refine wsr ?_
 refine ov (v_loadA (cs := #[.slice walks_a walks.length walks_c, .slice hears_a hears.length hears_c, .int .i64 houses, .int .i64 start, .slice notices_a notices.length notices_c]) Try.isAgg26 Try.sizeOf26 rfl (Has.own 2 rfl) (nbL rfl) rfl) rfl ?_
 refine ov (v_load Try.isAgg3 rfl (Has.own 1 rfl) rfl) rfl ?_
 obtain ⟨ok, h15, r16⟩ := b1_ok r14
 refine o_callV rfl Try.call64 rfl rfl rfl (round_Beat_notice_w h_walks h_hears h_notices h15) ?_
 refine ov (v_notB rfl) rfl ?_
 refine oa rfl rfl (shO_nil ?_)
 refine shW_cond rfl (fun c17 => ?_) (fun c17 => ?_)
 · have r18 := bt r16 c17
   refine wsr (oa rfl rfl (oa rfl rfl (shO_nil ?_)))
   refine kW kn ?_
   refine shW_ret (inBlock_ret (andThen_ret ?_))
   refine q_res2 Try.results39 (res_tmp rfl) (res_tmp rfl) (sr) ?_
   obtain ⟨rfl, rfl⟩ := inj2 r18
   exact rfl
 have r19 := bf r16 c17
 refine shW_skip (inBlock_n (id := 0) (wsr ?_))
 refine ov (v_makeFunc rfl rfl) rfl ?_
 refine oa rfl rfl (shO_nil (shW_seq (wsr (om rfl rfl ?_))))
 refine shO_freeze 0 rfl hb11 ?_; intro F20 hF21 hz22
 refine shO_L (L' := [(b2, .cells #[.int .i64 notice] 3 (0, 0)), (b1, .cells #[.slice walks_a walks.length walks_c, .slice hears_a hears.length hears_c, .int .i64 houses, .int .i64 start, .slice notices_a notices.length notices_c] 26 (0, 0))]) rfl ?_
 replace hp10 := hp10.mono (prE_ok (slE_ok (slE_ok (iE_ok _))) (prE_ok (slE_ok (slE_ok (iE_ok _))) (prE_ok (iE_ok _) (prE_ok (iE_ok _) (prE_ok (slE_ok (prE_ok (slE_ok (iE_ok _)) (prE_ok (iE_ok _) (iE_ok _)))) (prE_ok (arE_ok (n := 25) (sz := 1) (cI_ok .i64)) (prE_ok (slE_ok (prE_ok (iE_ok _) (iE_ok _))) (arE_ok (n := 15) (sz := 1) (cI_ok .i64))))))))) hF21
 obtain ⟨walks2, hears2, houses2, start2, notices2, walks3, pairs, hit, h23, r24⟩ := b8_ok r19
 have h44 := hp10; rw [h23] at h44; obtain ⟨b25, c26, m27, hv28, hz29, ⟨_, _, rfl, ⟨a30, c31, rfl, h32⟩, ⟨_, _, rfl, ⟨a33, c34, rfl, h35⟩, ⟨_, _, rfl, rfl, ⟨_, _, rfl, rfl, ⟨_, _, rfl, ⟨a36, c37, rfl, h38⟩, ⟨_, _, rfl, ⟨rfl, h39⟩, ⟨_, _, rfl, ⟨a40, c41, rfl, h42⟩, ⟨rfl, h43⟩⟩⟩⟩⟩⟩⟩⟩⟩ := h44; subst hv28
 have hz29 : F20 b25 = some (.cells ((([.slice a30 walks2.length c31] : List Value) ++ (([.slice a33 hears2.length c34] : List Value) ++ (([.int .i64 houses2] : List Value) ++ (([.int .i64 start2] : List Value) ++ (([.slice a36 notices2.length c37] : List Value) ++ (walks3.flatMap (cI .i64) ++ (([.slice a40 pairs.length c41] : List Value) ++ (hit.flatMap (cI .i64))))))))).toArray) 102 m27) := hz29
 refine shO_freeze 0 rfl hb2 ?_; intro F45 hF46 hz47
 refine shO_L (L' := [(b1, .cells #[.slice walks_a walks.length walks_c, .slice hears_a hears.length hears_c, .int .i64 houses, .int .i64 start, .slice notices_a notices.length notices_c] 26 (0, 0))]) rfl ?_
 replace h32 := h32.mono (slE_ok (iE_ok _)) hF46
 replace h35 := h35.mono (slE_ok (iE_ok _)) hF46
 replace h38 := h38.mono (prE_ok (slE_ok (iE_ok _)) (prE_ok (iE_ok _) (iE_ok _))) hF46
 replace h42 := h42.mono (prE_ok (iE_ok _) (iE_ok _)) hF46
 replace hz22 := hF46 _ _ hz22
 replace hz29 := hF46 _ _ hz29
 obtain ⟨ok2, h48, r49⟩ := b1_ok r24
 refine o_callV rfl Try.call65 rfl rfl rfl (round_Hurry_1_w hz22 hz29 h32 h35 h38 h39 h42 h43 hz47 h48) ?_
 refine ov (v_notB rfl) rfl ?_
 refine shO_nil ?_
 refine shW_cond rfl (fun c50 => ?_) (fun c50 => ?_)
 · have r51 := bt r49 c50
   refine wsr (oa rfl rfl (oa rfl rfl (shO_nil ?_)))
   refine kW kn ?_
   refine shW_ret (andThen_ret ?_)
   refine q_res2 Try.results39 (res_tmp rfl) (res_tmp rfl) (sr) ?_
   obtain ⟨rfl, rfl⟩ := inj2 r51
   exact rfl
 have r52 := bf r49 c50
 refine shW_skip (wsr (oa rfl rfl (oa rfl rfl (shO_nil ?_))))
 obtain ⟨lo, h53, r54⟩ := b1_ok r52
 refine shW_join (fun e1 F1 L1 => F45 = F1 ∧ L1 = [] ∧ e1.sub [(9, .int .i64 lo)]) ?_ ?_
 · clear r54
   refine shW_block ?_
   refine kW kn ?_
   refine shW_lp (fun fu1 e1 F1 L1 => ∃ (lo2 : Int) (hi : Int), round_Hurry_l1 notice walks2 hears2 houses2 start2 notices2 walks3 pairs hit fu1 lo2 hi = some lo ∧ F45 = F1 ∧ L1 = [] ∧ e1.sub [(8, .func (.func 65) #[] #[.pointer (some ⟨b11, 0, none⟩), .pointer (some ⟨b2, 0, none⟩)]), (9, .int .i64 lo2), (10, .int .i64 hi)]) FU (m0 kr ⟨0, 200, h53, rfl, rfl, (sc rfl (sc rfl (sc rfl (sn _))))⟩) ?_
   rintro fu1 e1 _ _ ⟨lo2, hi, r57, rfl, rfl, he58⟩
   refine shW_env _ he58 ?_
   rcases fu1 with _ | fu1
   · rw [round_Hurry_l1] at r57; cases r57
   rw [round_Hurry_l1] at r57
   refine shW_seq (wsr (om rfl rfl (om rfl rfl ?_)))
   refine ov (v_lssK rfl rfl) rfl ?_
   refine shO_nil ?_
   refine shW_condP rfl (fun c59 => ?_) (fun c59 => ?_)
   · have r60 := ite_t r57 c59
     refine shW_skip ?_
     refine shW_block ?_
     refine wsr (om rfl rfl (om rfl rfl ?_))
     obtain ⟨g61, r62⟩ := gd_ok r60
     refine ov (v_add rfl rfl g61) rfl ?_
     obtain ⟨g63, r64⟩ := gd_ok r62
     refine ov (v_quoT rfl rfl g63) rfl ?_
     refine oa rfl rfl (nsr (om rfl rfl (om rfl rfl ?_)))
     obtain ⟨ok3, h65, r66⟩ := b1_ok r64
     refine o_callV rfl Try.call65 rfl rfl rfl (round_Hurry_1_w hz22 hz29 h32 h35 h38 h39 h42 h43 hz47 h65) ?_
     refine shO_nil ?_
     refine shW_cond rfl (fun c67 => ?_) (fun c67 => ?_)
     · have r68 := bt r66 c67
       refine shW_region (om rfl rfl (oa rfl rfl (shO_nil (inBlock_n (id := 2) ?_))))
       exact le kr ⟨lo2, Int.tdiv (lo2 + hi) 2, r68, rfl, rfl, (sc rfl (sc rfl (sc rfl (sn _))))⟩
     have r69 := bf r66 c67
     refine shW_region (om rfl rfl ?_)
     obtain ⟨g70, r71⟩ := gd_ok r69
     refine ov (v_add rfl rfl g70) rfl ?_
     refine oa rfl rfl (shO_nil (inBlock_n (id := 2) ?_))
     exact le kr ⟨(Int.tdiv (lo2 + hi) 2) + 1, hi, r71, rfl, rfl, (sc rfl (sc rfl (sc rfl (sn _))))⟩
   have r72 := ite_f r57 c59
   refine shW_exit (andThen_exit (andThen_exit ?_))
   refine inBlock_exit ?_
   obtain rfl := inj1 r72
   exact mi kr ⟨rfl, rfl, (sc rfl (sn _))⟩
 rintro e1 _ _ ⟨rfl, rfl, he73⟩
 refine shW_env _ he73 ?_
 refine wsr (om rfl rfl (oa rfl rfl (oa rfl rfl (shO_nil (shW_ret ?_)))))
 refine q_res2 Try.results39 (res_tmp rfl) (res_tmp rfl) (sr) ?_
 obtain ⟨rfl, rfl⟩ := inj2 r54
 exact rfl
set_option maxHeartbeats 1000000 in
theorem slices_IndexFunc_round_Pair_round_Pair_w {s__a : Option Addr} {s__c : Nat} {s_ : List (Int × Int)} {f_f : FuncId} {f_1 f_2 : Array Value} {f : (Int × Int) → Option Bool} {F : FS} (h_s_ : RowR 2 (prE (iE .i64) (iE .i64)) F s__a s__c s_) (h_f : FnR Try.prog F f_f f_1 f_2 (agE (prE (iE .i64) (iE .i64))) Value.bool f) {r : Int} (hr : slices_IndexFunc_round_Pair_round_Pair s_ f = some r) :
    SpecV Try.prog 71 #[.slice s__a s_.length s__c, .func (.func f_f) f_1 f_2] F (.int .i64 r) := by
 refine spec_of_shW (args := [.slice s__a s_.length s__c, .func (.func f_f) f_1 f_2]) Try.func71 rfl Try.ntmps71 (nbL rfl) ?_
 intro K _ _; rw [slices_IndexFunc_round_Pair_round_Pair] at hr
 refine wsr (oa rfl rfl (shO_nil ?_))
 refine shW_join (fun e1 F1 L1 => slices_IndexFunc_round_Pair_round_Pair_j1 = some r ∧ F = F1 ∧ L1 = [] ∧ e1.sub []) ?_ ?_
 · refine wsr (om rfl rfl ?_)
   refine ov (v_lenS Try.underlying44 rfl) rfl ?_
   refine om rfl rfl (shO_nil ?_)
   refine shW_block ?_
   refine shW_lp (fun fu2 e1 F1 L1 => ∃ (tl : List (Int × Int)) (k : Int), tl.length = fu2 ∧ Lst s_ k tl ∧ slices_IndexFunc_round_Pair_round_Pair_l2 f tl k = some r ∧ F = F1 ∧ L1 = [] ∧ e1.sub [(0, .slice s__a s_.length s__c), (1, .func (.func f_f) f_1 f_2), (7, .int .i64 (s_.length : Int)), (8, .int .i64 k)]) _ (m0 kr ⟨_, _, rfl, Lst.start _, hr, rfl, rfl, (sc rfl (sc rfl (sc rfl (sc rfl (sn _)))))⟩) ?_
   rintro fu2 e1 _ _ ⟨tl, k, hn2, hk1, r3, rfl, rfl, he4⟩
   refine shW_env _ he4 ?_
   refine wsr ?_
   refine ov (v_lssK rfl rfl) rfl ?_
   refine shO_nil (shW_seq ?_)
   refine shW_condP rfl (fun c6 => ?_) (fun c6 => ?_)
   · obtain ⟨x, tl2, rfl, hx8, g9, hk7⟩ := Lst.succ hk1 c6
     rw [slices_IndexFunc_round_Pair_round_Pair_l2] at r3
     refine shW_skip (shW_seq ?_)
     refine shW_block ?_
     refine wsr (om rfl rfl (oa rfl rfl (nsr (om rfl rfl (om rfl rfl (om rfl rfl ?_))))))
     obtain ⟨b10, o11, c12, vs13, ha14, hs15, hle16, ⟨_, _, rfl, rfl, rfl⟩, hl17, hc18⟩ := RowR.at (prE_ok (iE_ok _) (iE_ok _)) h_s_ ([]) g9.1 hx8
     refine ov (v_indexO Try.underlying44 Try.sizeOf54 rfl ha14 rfl g9) rfl ?_
     refine ov (v_loadA (cs := #[.int .i64 x.1, .int .i64 x.2]) Try.isAgg54 Try.sizeOf54 rfl hs15 hle16 (extract_cells hle16 hl17 hc18)) rfl ?_
     obtain ⟨ok, h19, r20⟩ := b1_ok r3
     refine o_callV rfl h_f.1 rfl rfl rfl (h_f.2 _ (FExt.refl _) _ _ _ ⟨_, rfl, ⟨_, _, rfl, rfl, rfl⟩⟩ h19) ?_
     refine shO_nil ?_
     refine shW_cond rfl (fun c21 => ?_) (fun c21 => ?_)
     · have r22 := bt r20 c21
       refine wsr (om rfl rfl (oa rfl rfl (shO_nil (shW_ret (inBlock_ret (andThen_ret (andThen_ret (inBlock_ret (andThen_ret ?_)))))))))
       refine q_res1 Try.results71 (res_tmp rfl) (sr) ?_
       obtain rfl := inj1 r22
       exact rfl
     have r23 := bf r20 c21
     refine shW_skip (inBlock_n (id := 1) (shW_region ?_))
     refine ov (v_add rfl rfl (Lst.r64 hk1 c6 (RowR.lt h_s_))) rfl ?_
     refine om rfl rfl (shO_nil ?_)
     subst hn2; exact le kr ⟨_, _, rfl, hk7, r23, rfl, rfl, (sc rfl (sc rfl (sc rfl (sc rfl (sn _)))))⟩
   obtain rfl := Lst.zero hk1 c6
   rw [slices_IndexFunc_round_Pair_round_Pair_l2] at r3
   refine shW_exit (andThen_exit (andThen_exit ?_))
   refine inBlock_exit ?_
   exact mi kr ⟨r3, rfl, rfl, (sn _)⟩
 rintro e1 _ _ ⟨r24, rfl, rfl, he25⟩
 refine shW_env _ he25 ?_
 rw [slices_IndexFunc_round_Pair_round_Pair_j1] at r24
 refine wsr (oa rfl rfl (shO_nil (shW_ret ?_)))
 refine q_res1 Try.results71 (res_tmp rfl) (sr) ?_
 obtain rfl := inj1 r24
 exact rfl
theorem round_crier_index_1_w {notice house : Int} {b_p : Nat} {notice2 house2 : Int} {mb_p : Nat × Nat} {F : FS} (hb_p : F b_p = some (.cells #[.int .i64 notice2, .int .i64 house2] 54 mb_p)) {r : Bool} (hr : round_crier_index_1 notice house notice2 house2 = some r) :
    SpecV Try.prog 72 #[.agg #[.int .i64 notice, .int .i64 house], .pointer (some ⟨b_p, 0, none⟩)] F (.bool r) := by
 refine spec_of_shW (args := [.agg #[.int .i64 notice, .int .i64 house], .pointer (some ⟨b_p, 0, none⟩)]) Try.func72 rfl Try.ntmps72 (nbL rfl) ?_
 intro K _ _; rw [round_crier_index_1] at hr
 refine wsr ?_
 refine o_box rfl rfl ?_; intro b1 hb1
 refine oa rfl rfl (nsr ?_)
 refine ov (v_loadA (cs := #[.int .i64 notice, .int .i64 house]) Try.isAgg54 Try.sizeOf54 rfl (Has.own 0 rfl) (nbL rfl) rfl) rfl ?_
 refine ov (v_loadA (cs := #[.int .i64 notice2, .int .i64 house2]) Try.isAgg54 Try.sizeOf54 rfl (Has.frozen hb_p) (nbL rfl) rfl) rfl ?_
 refine ov (v_eqA (eqg_54 _ _ _ _) (eq_54 _ _ _ _) rfl rfl) rfl ?_
 refine oa rfl rfl (shO_nil ?_)
 refine kW kn ?_
 refine shW_ret ?_
 refine q_res1 Try.results72 (res_tmp rfl) (sr) ?_
 obtain rfl := inj1 hr
 exact rfl
set_option maxHeartbeats 1000000 in
theorem round_crier_index_w {b_c : Nat} {walks_a : Option Addr} {walks_c : Nat} {walks : List (List Int)} {hears_a : Option Addr} {hears_c : Nat} {hears : List (List Int)} {houses start : Int} {notices_a : Option Addr} {notices_c : Nat} {notices : List ((List Int) × Int × Int)} {walks2 : List Int} {pairs_a : Option Addr} {pairs_c : Nat} {pairs : List (Int × Int)} {hit : List Int} {mb_c : Nat × Nat} {notice house : Int} {F : FS} (hb_c : F b_c = some (.cells ((([.slice walks_a walks.length walks_c] : List Value) ++ (([.slice hears_a hears.length hears_c] : List Value) ++ (([.int .i64 houses] : List Value) ++ (([.int .i64 start] : List Value) ++ (([.slice notices_a notices.length notices_c] : List Value) ++ (walks2.flatMap (cI .i64) ++ (([.slice pairs_a pairs.length pairs_c] : List Value) ++ (hit.flatMap (cI .i64))))))))).toArray) 102 mb_c)) (_h_walks : RowR 1 (slE 1 (iE .i64)) F walks_a walks_c walks) (_h_hears : RowR 1 (slE 1 (iE .i64)) F hears_a hears_c hears) (_h_notices : RowR 3 (prE (slE 1 (iE .i64)) (prE (iE .i64) (iE .i64))) F notices_a notices_c notices) (h_walks2 : walks2.length = 25) (h_pairs : RowR 2 (prE (iE .i64) (iE .i64)) F pairs_a pairs_c pairs) (_h_hit : hit.length = 15) {r : Int} (hr : round_crier_index walks hears houses start notices walks2 pairs hit notice house = some r) :
    SpecV Try.prog 47 #[.pointer (some ⟨b_c, 0, none⟩), .agg #[.int .i64 notice, .int .i64 house]] F (.int .i64 r) := by
 refine spec_of_shW (args := [.pointer (some ⟨b_c, 0, none⟩), .agg #[.int .i64 notice, .int .i64 house]]) Try.func47 rfl Try.ntmps47 (nbL rfl) ?_
 intro K _ _; rw [round_crier_index] at hr
 refine wsr ?_
 refine o_box rfl rfl ?_; intro b1 hb1
 refine oa rfl rfl (nsr (om rfl rfl ?_))
 refine ov (v_nilCheck rfl) rfl ?_
 refine ov (v_fieldAddr fa_102_2 rfl) rfl ?_
 refine ov (v_load Try.isAgg44 rfl (Has.frozen hb_c) (li_cell (li_skip (A := ([.slice walks_a walks.length walks_c] : List Value)) (k := 1) (o := 29) rfl (li_skip (A := ([.slice hears_a hears.length hears_c] : List Value)) (k := 1) (o := 28) rfl (li_skip (A := ([.int .i64 houses] : List Value)) (k := 1) (o := 27) rfl (li_skip (A := ([.int .i64 start] : List Value)) (k := 1) (o := 26) rfl (li_skip (A := ([.slice notices_a notices.length notices_c] : List Value)) (k := 1) (o := 25) rfl (li_skip (A := walks2.flatMap (cI .i64)) (k := 25) (o := 0) (lfl (cI_ok .i64) h_walks2) (li_here (B := hit.flatMap (cI .i64)) rfl))))))))) rfl ?_
 refine ov (v_makeFunc rfl rfl) rfl ?_
 refine shO_freeze 0 rfl hb1 ?_; intro F2 hF3 hz4
 refine shO_L (L' := []) rfl ?_
 replace h_pairs := h_pairs.mono (prE_ok (iE_ok _) (iE_ok _)) hF3
 have hn5 : FnR Try.prog F2 72 #[] #[.pointer (some ⟨b1, 0, none⟩)] (agE (prE (iE .i64) (iE .i64))) Value.bool (fun xx_ : (Int × Int) => round_crier_index_1 xx_.1 xx_.2 notice house) := ⟨Try.call72, fun F2 h2 vs xx_ r ha hr => by obtain ⟨_, rfl, ⟨_, _, rfl, rfl, rfl⟩⟩ := ha; exact round_crier_index_1_w (h2 _ _ hz4) hr⟩
 obtain ⟨n, h6, r7⟩ := b1_ok hr
 refine o_callV rfl Try.call71 rfl rfl rfl (slices_IndexFunc_round_Pair_round_Pair_w h_pairs hn5 h6) ?_
 refine oa rfl rfl (shO_nil (shW_ret ?_))
 refine q_res1 Try.results47 (res_tmp rfl) (sr) ?_
 obtain rfl := inj1 r7
 exact rfl
set_option maxHeartbeats 1000000 in
theorem round_crier_first_w {b_c : Nat} {walks_a : Option Addr} {walks_c : Nat} {walks : List (List Int)} {hears_a : Option Addr} {hears_c : Nat} {hears : List (List Int)} {houses start : Int} {notices_a : Option Addr} {notices_c : Nat} {notices : List ((List Int) × Int × Int)} {walks2 : List Int} {pairs_a : Option Addr} {pairs_c : Nat} {pairs : List (Int × Int)} {hit : List Int} {mb_c : Nat × Nat} {notice house : Int} {F : FS} (hb_c : F b_c = some (.cells ((([.slice walks_a walks.length walks_c] : List Value) ++ (([.slice hears_a hears.length hears_c] : List Value) ++ (([.int .i64 houses] : List Value) ++ (([.int .i64 start] : List Value) ++ (([.slice notices_a notices.length notices_c] : List Value) ++ (walks2.flatMap (cI .i64) ++ (([.slice pairs_a pairs.length pairs_c] : List Value) ++ (hit.flatMap (cI .i64))))))))).toArray) 102 mb_c)) (_h_walks : RowR 1 (slE 1 (iE .i64)) F walks_a walks_c walks) (h_hears : RowR 1 (slE 1 (iE .i64)) F hears_a hears_c hears) (h_notices : RowR 3 (prE (slE 1 (iE .i64)) (prE (iE .i64) (iE .i64))) F notices_a notices_c notices) (h_walks2 : walks2.length = 25) (_h_pairs : RowR 2 (prE (iE .i64) (iE .i64)) F pairs_a pairs_c pairs) (_h_hit : hit.length = 15) {r : Int} (hr : round_crier_first walks hears houses start notices walks2 pairs hit notice house = some r) :
    SpecV Try.prog 67 #[.pointer (some ⟨b_c, 0, none⟩), .agg #[.int .i64 notice, .int .i64 house]] F (.int .i64 r) := by
 refine spec_of_shW (args := [.pointer (some ⟨b_c, 0, none⟩), .agg #[.int .i64 notice, .int .i64 house]]) Try.func67 rfl Try.ntmps67 (nbL rfl) ?_
 intro K _ _; rw [round_crier_first] at hr
 refine wsr ?_
 refine o_box rfl rfl ?_; intro b1 hb1
 refine oa rfl rfl (nsr (oa rfl rfl (shO_nil ?_)))
 obtain ⟨out, h2, r3⟩ := b1_ok hr
 refine shW_join (fun e1 F1 L1 => FExt F F1 ∧ L1 = [] ∧ e1.sub [(5, .int .i64 out)]) ?_ ?_
 · clear r3
   refine wsr (om rfl rfl ?_)
   refine ov (v_nilCheck rfl) rfl ?_
   refine ov (v_fieldAddr fa_102_0 rfl) rfl ?_
   refine ov (v_fieldAddr fa_26_1 rfl) rfl ?_
   refine ov (v_load Try.isAgg23 rfl (Has.frozen hb_c) (li_cell (li_skip (A := ([.slice walks_a walks.length walks_c] : List Value)) (k := 1) (o := 0) rfl (li_here (B := ([.int .i64 houses] : List Value) ++ (([.int .i64 start] : List Value) ++ (([.slice notices_a notices.length notices_c] : List Value) ++ (walks2.flatMap (cI .i64) ++ (([.slice pairs_a pairs.length pairs_c] : List Value) ++ (hit.flatMap (cI .i64))))))) rfl)))) rfl ?_
   refine ov (v_lenS Try.underlying23 rfl) rfl ?_
   refine om rfl rfl (shO_nil ?_)
   refine shW_block ?_
   refine shW_lp (fun fu1 e1 F1 L1 => ∃ (tl : List (List Int)) (k : Int), tl.length = fu1 ∧ Lst hears k tl ∧ ∃ (out2 : Int), round_crier_first_l1 start notices walks2 notice house tl k out2 = some out ∧ FExt F F1 ∧ L1 = [(b1, .cells #[.int .i64 notice, .int .i64 house] 54 (0, 0))] ∧ e1.sub [(0, .pointer (some ⟨b_c, 0, none⟩)), (3, .pointer (some ⟨b1, 0, none⟩)), (5, .int .i64 out2), (13, .slice hears_a hears.length hears_c), (14, .int .i64 (hears.length : Int)), (15, .int .i64 k)]) _ (m0 kr ⟨_, _, rfl, Lst.start _, -1, h2, FExt.refl _, rfl, (sc rfl (sc rfl (sc rfl (sc rfl (sc rfl (sc rfl (sn _)))))))⟩) ?_
   rintro fu1 e1 F8 _ ⟨tl, k, hn5, hk4, out2, r6, hF9, rfl, he7⟩
   refine shW_env _ he7 ?_
   replace h_hears := h_hears.mono (slE_ok (iE_ok _)) hF9
   replace h_notices := h_notices.mono (prE_ok (slE_ok (iE_ok _)) (prE_ok (iE_ok _) (iE_ok _))) hF9
   replace hb_c := hF9 _ _ hb_c
   refine wsr ?_
   refine ov (v_lssK rfl rfl) rfl ?_
   refine shO_nil (shW_seq ?_)
   refine shW_condP rfl (fun c11 => ?_) (fun c11 => ?_)
   · obtain ⟨x, tl2, rfl, hx13, g14, hk12⟩ := Lst.succ hk4 c11
     rw [round_crier_first_l1] at r6
     refine shW_skip (shW_seq ?_)
     refine shW_block ?_
     refine wsr (om rfl rfl ?_)
     obtain ⟨b15, o16, c17, vs18, ha19, hs20, hle21, ⟨a24, c25, rfl, h26⟩, hl22, hc23⟩ := RowR.at (slE_ok (iE_ok _)) h_hears ([(b1, .cells #[.int .i64 notice, .int .i64 house] 54 (0, 0))]) g14.1 hx13
     refine ov (v_indexO Try.underlying23 Try.sizeOf30 rfl ha19 rfl g14) rfl ?_
     refine ov (v_load Try.isAgg30 rfl hs20 (hc23 0 (by decide))) rfl ?_
     refine oa rfl rfl (oa rfl rfl ?_)
     refine nsd (by kernel_rfl) (by kernel_rfl) (by kernel_rfl) ?_
     refine qm rfl rfl (qm rfl rfl ?_)
     refine qv (v_nilCheck rfl) rfl ?_
     refine qv (v_fieldAddr fa_102_0 rfl) rfl ?_
     refine qv (v_fieldAddr fa_26_3 rfl) rfl ?_
     refine qv (v_load Try.isAgg3 rfl (Has.frozen hb_c) (li_cell (li_skip (A := ([.slice walks_a walks.length walks_c] : List Value)) (k := 1) (o := 2) rfl (li_skip (A := ([.slice hears_a hears.length hears_c] : List Value)) (k := 1) (o := 1) rfl (li_skip (A := ([.int .i64 houses] : List Value)) (k := 1) (o := 0) rfl (li_here (B := ([.slice notices_a notices.length notices_c] : List Value) ++ (walks2.flatMap (cI .i64) ++ (([.slice pairs_a pairs.length pairs_c] : List Value) ++ (hit.flatMap (cI .i64))))) rfl)))))) rfl ?_
     refine qm rfl rfl ?_
     refine qv (v_nilCheck rfl) rfl ?_
     refine qv (v_fieldAddr fa_102_1 rfl) rfl ?_
     obtain ⟨g27, r28⟩ := gd_ok r6
     refine qv (v_indexA Try.underlying98 Try.sizeOf96 rfl rfl g27) rfl ?_
     obtain ⟨g29, r30⟩ := gd_ok r28
     obtain ⟨x2, g31, hx32, r33⟩ := ix_ok r30
     have hq35 : (start * 5 + k : Int).toNat = (start : Int).toNat * 5 + (k : Int).toNat := by have := g27; have := g29; omega
     have hc34 := el_at2 (cI_ok .i64) h_walks2 hq35 hx32 (li_arr (li_skip (A := ([.slice walks_a walks.length walks_c] : List Value)) (k := 1) (o := 4) rfl (li_skip (A := ([.slice hears_a hears.length hears_c] : List Value)) (k := 1) (o := 3) rfl (li_skip (A := ([.int .i64 houses] : List Value)) (k := 1) (o := 2) rfl (li_skip (A := ([.int .i64 start] : List Value)) (k := 1) (o := 1) rfl (li_skip (A := ([.slice notices_a notices.length notices_c] : List Value)) (k := 1) (o := 0) rfl (li_here (B := ([.slice pairs_a pairs.length pairs_c] : List Value) ++ (hit.flatMap (cI .i64))) (lfl (cI_ok .i64) h_walks2)))))))) (li_le (li_skip (A := ([.slice walks_a walks.length walks_c] : List Value)) (k := 1) (o := 4) rfl (li_skip (A := ([.slice hears_a hears.length hears_c] : List Value)) (k := 1) (o := 3) rfl (li_skip (A := ([.int .i64 houses] : List Value)) (k := 1) (o := 2) rfl (li_skip (A := ([.int .i64 start] : List Value)) (k := 1) (o := 1) rfl (li_skip (A := ([.slice notices_a notices.length notices_c] : List Value)) (k := 1) (o := 0) rfl (li_here (B := ([.slice pairs_a pairs.length pairs_c] : List Value) ++ (hit.flatMap (cI .i64))) (lfl (cI_ok .i64) h_walks2))))))))
     refine qv (v_indexA Try.underlying96 Try.sizeOf3 rfl rfl g29) rfl ?_
     refine qv (v_load Try.isAgg3 rfl (Has.frozen hb_c) ((hc34).2.2 0 (by decide))) rfl ?_
     refine qa rfl rfl (shQ_nil ?_)
     obtain ⟨k2, h36, r37⟩ := b1_ok r33
     refine shW_join (fun e1 F1 L1 => F8 = F1 ∧ L1 = [(b1, .cells #[.int .i64 notice, .int .i64 house] 54 (0, 0))] ∧ e1.sub [(0, .pointer (some ⟨b_c, 0, none⟩)), (3, .pointer (some ⟨b1, 0, none⟩)), (5, .int .i64 out2), (8, .int .i64 x2), (13, .slice hears_a hears.length hears_c), (14, .int .i64 (hears.length : Int)), (15, .int .i64 k), (39, .bool k2)]) ?_ ?_
     · clear r37
       refine shW_region (om rfl rfl ?_)
       refine ov (v_neq rfl rfl) rfl ?_
       refine om rfl rfl ?_
       by_cases c38 : x2 ≠ (-1)
       · have r39 := ite_t h36 c38
         refine shO_on (b := true) 34 rfl (Env.isT rfl c38) (om rfl rfl (shO_on (b := true) 34 rfl (Env.isT rfl c38) ?_))
         refine ov (v_fieldAddr fa_54_1 rfl) rfl ?_
         refine shO_on (b := true) 34 rfl (Env.isT rfl c38) ?_
         refine ov (v_load Try.isAgg3 rfl (Has.own 0 rfl) rfl) rfl ?_
         refine shO_on (b := true) 34 rfl (Env.isT rfl c38) ?_
         obtain ⟨ok, h40, r41⟩ := b1_ok r39
         refine o_callV rfl Try.call55 rfl rfl rfl (slices_Contains_int_int_w h26 h40) ?_
         refine ov (v_pick_t (evD_true rfl c38) rfl) rfl ?_
         refine shO_nil ?_
         obtain rfl := inj1 r41
         exact mi kr ⟨rfl, rfl, (sc rfl (sc rfl (sc rfl (sc rfl (sc rfl (sc rfl (sc rfl (sc rfl (sn _)))))))))⟩
       have r42 := ite_f h36 c38
       refine shO_off (b' := false) 34 rfl (Env.isF rfl c38) rfl rfl (shO_off (b' := false) 34 rfl (Env.isF rfl c38) rfl rfl (shO_off (b' := false) 34 rfl (Env.isF rfl c38) rfl rfl (shO_off (b' := false) 34 rfl (Env.isF rfl c38) rfl rfl ?_)))
       refine ov (v_pick_f (evD_false rfl c38) rfl) rfl ?_
       refine shO_nil ?_
       obtain rfl := inj1 r42
       exact mi kr ⟨rfl, rfl, (sc rfl (sc rfl (sc rfl (sc rfl (sc rfl (sc rfl (sc rfl (sc rfl (sn _)))))))))⟩
     rintro e1 _ _ ⟨rfl, rfl, he43⟩
     refine shW_env _ he43 ?_
     refine shW_cond rfl (fun c44 => ?_) (fun c44 => ?_)
     · have r45 := bt r37 c44
       refine shW_drawM [(.still, 0), (.still, 1), (.still, 2), (.still, 3), (.still, 4), (.still, 5), (.still, 6), (.still, 7), (.still, 8), (.still, 9), (.still, 10), (.still, 11), (.still, 12), (.seq, 13), (.seq, 14), (.seq, 15)] (by kernel_rfl) (by kernel_rfl) (trivial) (by rfl) (by kernel_rfl) ?_
       refine shM_v (v := .int .i64 out2) (ek := [(5, .int .i64 out2)]) (Ls := []) rfl rfl rfl rfl ((sc rfl (sn _))) (by kernel_rfl) sm (fun H F' L' hF' hL' => v_move rfl) ?_
       refine shM_v (v := .int .i64 x2) (ek := [(8, .int .i64 x2)]) (Ls := []) rfl rfl rfl rfl ((sc rfl (sn _))) (by kernel_rfl) sm (fun H F' L' hF' hL' => v_move rfl) ?_
       refine shM_v (v := .pointer (some ⟨b_c, 0, none⟩)) (ek := [(0, .pointer (some ⟨b_c, 0, none⟩))]) (Ls := []) rfl rfl rfl rfl ((sc rfl (sn _))) (by kernel_rfl) sm (fun H F' L' hF' hL' => v_move rfl) ?_
       refine shM_v (v := .pointer (some ⟨b_c, 0, none⟩)) (ek := [(42, .pointer (some ⟨b_c, 0, none⟩))]) (Ls := []) rfl rfl rfl rfl ((sc rfl (sn _))) (by kernel_rfl) sm (fun H F' L' hF' hL' => v_nilCheck rfl) ?_
       refine shM_v (v := .pointer (some ⟨b_c, 0, none⟩)) (ek := [(43, .pointer (some ⟨b_c, 0, none⟩))]) (Ls := []) rfl rfl rfl rfl ((sc rfl (sn _))) (by kernel_rfl) sm (fun H F' L' hF' hL' => v_fieldAddr fa_102_0 rfl) ?_
       refine shM_v (v := .pointer (some ⟨b_c, 4, none⟩)) (ek := [(44, .pointer (some ⟨b_c, 0, none⟩))]) (Ls := []) rfl rfl rfl rfl ((sc rfl (sn _))) (by kernel_rfl) sm (fun H F' L' hF' hL' => v_fieldAddr fa_26_4 rfl) ?_
       refine shM_v (v := .slice notices_a notices.length notices_c) (ek := [(45, .pointer (some ⟨b_c, 4, none⟩))]) (Ls := []) rfl rfl rfl rfl ((sc rfl (sn _))) (by kernel_rfl) sm (fun H F' L' hF' hL' => v_load Try.isAgg24 rfl ((Has.frozen hb_c).ext hF' hL') (li_cell (li_skip (A := ([.slice walks_a walks.length walks_c] : List Value)) (k := 1) (o := 3) rfl (li_skip (A := ([.slice hears_a hears.length hears_c] : List Value)) (k := 1) (o := 2) rfl (li_skip (A := ([.int .i64 houses] : List Value)) (k := 1) (o := 1) rfl (li_skip (A := ([.int .i64 start] : List Value)) (k := 1) (o := 0) rfl (li_here (B := walks2.flatMap (cI .i64) ++ (([.slice pairs_a pairs.length pairs_c] : List Value) ++ (hit.flatMap (cI .i64)))) rfl))))))) ?_
       refine shM_v (v := .pointer (some ⟨b1, 0, none⟩)) (ek := [(3, .pointer (some ⟨b1, 0, none⟩))]) (Ls := []) rfl rfl rfl rfl ((sc rfl (sn _))) (by kernel_rfl) sm (fun H F' L' hF' hL' => v_fieldAddr fa_54_0 rfl) ?_
       refine shM_v (v := .int .i64 notice) (ek := [(47, .pointer (some ⟨b1, 0, none⟩))]) (Ls := [(b1, .cells #[.int .i64 notice, .int .i64 house] 54 (0, 0))]) rfl rfl rfl rfl ((sc rfl (sn _))) (by kernel_rfl) (s0 sr) (fun H F' L' hF' hL' => v_load Try.isAgg3 rfl ((Has.own 0 rfl).ext hF' hL') rfl) ?_
       obtain ⟨x3, g46, hx47, r48⟩ := ix_ok r45
       obtain ⟨b49, o50, c51, vs52, ha53, hs54, hle55, ⟨_, _, rfl, ⟨a58, c59, rfl, h60⟩, ⟨_, _, rfl, rfl, rfl⟩⟩, hl56, hc57⟩ := RowR.at (prE_ok (slE_ok (iE_ok _)) (prE_ok (iE_ok _) (iE_ok _))) h_notices ([]) g46.1 hx47
       refine shM_v (v := .pointer (some ⟨b49, o50 + (notice : Int).toNat * 3, none⟩)) (ek := [(46, .slice notices_a notices.length notices_c), (48, .int .i64 notice)]) (Ls := []) rfl rfl rfl rfl ((sc rfl (sc rfl (sn _)))) (by kernel_rfl) sm (fun H F' L' hF' hL' => v_indexO Try.underlying24 Try.sizeOf39 rfl ha53 rfl g46) ?_
       refine shM_v (v := .pointer (some ⟨b49, o50 + (notice : Int).toNat * 3 + 1, none⟩)) (ek := [(49, .pointer (some ⟨b49, o50 + (notice : Int).toNat * 3, none⟩))]) (Ls := []) rfl rfl rfl rfl ((sc rfl (sn _))) (by kernel_rfl) sm (fun H F' L' hF' hL' => v_fieldAddr fa_39_1 rfl) ?_
       refine shM_v (v := .int .i64 x3.2.1) (ek := [(50, .pointer (some ⟨b49, o50 + (notice : Int).toNat * 3 + 1, none⟩))]) (Ls := []) rfl rfl rfl rfl ((sc rfl (sn _))) (by kernel_rfl) sm (fun H F' L' hF' hL' => v_load Try.isAgg3 rfl (hs54.ext hF' hL') (hc57 1 (by decide))) ?_
       obtain ⟨g61, r62⟩ := gd_ok r48
       refine shM_v (v := .int .i64 (x2 + x3.2.1)) (ek := [(41, .int .i64 x2), (51, .int .i64 x3.2.1)]) (Ls := []) rfl rfl rfl rfl ((sc rfl (sc rfl (sn _)))) (by kernel_rfl) sm (fun H F' L' hF' hL' => v_add rfl rfl g61) ?_
       refine ⟨_, [(40, .int .i64 out2), (52, .int .i64 (x2 + x3.2.1))], rfl, rfl, (sc rfl (sc rfl (sn _))), by kernel_rfl, ?_⟩; intro H
       refine o_buildSlice (cs := #[.int .i64 out2, .int .i64 (x2 + x3.2.1)]) rfl rfl (buildSlice_all slt_30 [.int .i64 out2, .int .i64 (x2 + x3.2.1)] rfl (by decide) (by simp [Value.cells]) (by decide)) ?_; intro b63 hb63
       refine shO_nil ⟨_, rfl, FExt.refl _, [7, 5, 4, 3, 2], by kernel_rfl, .inl (.inr (fun d h => by cases h; rfl)), (List.forall_mem_cons.2 ⟨sm, (List.forall_mem_cons.2 ⟨sm, (List.forall_mem_cons.2 ⟨sm, (List.forall_mem_cons.2 ⟨sm, (List.forall_mem_cons.2 ⟨sm, (fun _ h => absurd h List.not_mem_nil)⟩)⟩)⟩)⟩)⟩), ?_⟩
       refine ⟨_, [(53, .slice (some ⟨b63, 0, none⟩) 2 2)], rfl, rfl, (sc rfl (sn _)), by kernel_rfl, ?_⟩; intro H
       refine shO_freeze 0 rfl hb63 ?_; intro F64 hF65 hz66
       refine shO_L (L' := [(b1, .cells #[.int .i64 notice, .int .i64 house] 54 (0, 0))]) rfl ?_
       replace h_hears := h_hears.mono (slE_ok (iE_ok _)) hF65
       have h67 : RowR 1 (iE .i64) F64 (some ⟨b63, 0, none⟩) 2 [out2, x2 + x3.2.1] := RowR.of_block (iE_ok _) (vss := [[.int .i64 out2], [.int .i64 (x2 + x3.2.1)]]) (xs := [out2, x2 + x3.2.1]) hz66 (.cons rfl (.cons rfl .nil)) rfl (by simp [maxLen])
       obtain ⟨n, h68, r69⟩ := b1_ok r62
       refine o_callV rfl Try.call73 rfl rfl rfl (round_soonest_w h67 h68) ?_
       refine shO_nil ⟨_, rfl, hF65, [7, 5, 4, 3, 2], by kernel_rfl, .inl (.inr (fun d h => by cases h; rfl)), (List.forall_mem_cons.2 ⟨sm, (List.forall_mem_cons.2 ⟨sm, (List.forall_mem_cons.2 ⟨sm, (List.forall_mem_cons.2 ⟨sm, (List.forall_mem_cons.2 ⟨sm, (fun _ h => absurd h List.not_mem_nil)⟩)⟩)⟩)⟩)⟩), ?_⟩
       refine ⟨_, [(54, .int .i64 n)], rfl, rfl, (sc rfl (sn _)), by kernel_rfl, ?_⟩; intro H
       refine oa rfl rfl ?_
       refine shO_nil ⟨_, rfl, FExt.refl _, [], by kernel_rfl, .inl (.inl rfl), (fun _ h => absurd h List.not_mem_nil), ?_⟩
       refine shM_nil ?_
       refine inBlock_n (id := 1) (shW_region ?_)
       refine ov (v_add rfl rfl (Lst.r64 hk4 c11 (RowR.lt h_hears))) rfl ?_
       refine om rfl rfl (shO_nil ?_)
       subst hn5; exact le kr ⟨_, _, rfl, hk12, n, r69, (hF9.trans hF65), rfl, (sc rfl (sc rfl (sc rfl (sc rfl (sc rfl (sc rfl (sn _)))))))⟩
     have r70 := bf r37 c44
     refine shW_skip (inBlock_n (id := 1) (shW_region ?_))
     refine ov (v_add rfl rfl (Lst.r64 hk4 c11 (RowR.lt h_hears))) rfl ?_
     refine om rfl rfl (shO_nil ?_)
     subst hn5; exact le kr ⟨_, _, rfl, hk12, out2, r70, hF9, rfl, (sc rfl (sc rfl (sc rfl (sc rfl (sc rfl (sc rfl (sn _)))))))⟩
   obtain rfl := Lst.zero hk4 c11
   rw [round_crier_first_l1] at r6
   refine shW_exit (andThen_exit (andThen_exit ?_))
   refine inBlock_exit ?_
   obtain rfl := inj1 r6
   exact mi kn ⟨hF9, rfl, (sc rfl (sn _))⟩
 rintro e1 F72 _ ⟨hF73, rfl, he71⟩
 refine shW_env _ he71 ?_
 refine wsr (om rfl rfl (oa rfl rfl (shO_nil (shW_ret ?_))))
 refine q_res1 Try.results67 (res_tmp rfl) (sr) ?_
 obtain rfl := inj1 r3
 exact rfl
set_option maxHeartbeats 1000000 in
theorem round_Soonest_w {walks_a : Option Addr} {walks_c : Nat} {walks : List (List Int)} {hears_a : Option Addr} {hears_c : Nat} {hears : List (List Int)} {houses start : Int} {notices_a : Option Addr} {notices_c : Nat} {notices : List ((List Int) × Int × Int)} {notice house : Int} {F : FS} (h_walks : RowR 1 (slE 1 (iE .i64)) F walks_a walks_c walks) (h_hears : RowR 1 (slE 1 (iE .i64)) F hears_a hears_c hears) (h_notices : RowR 3 (prE (slE 1 (iE .i64)) (prE (iE .i64) (iE .i64))) F notices_a notices_c notices) {r r2 : Int} (hr : round_Soonest walks hears houses start notices notice house = some (r, r2)) :
    SpecV Try.prog 40 #[.agg #[.slice walks_a walks.length walks_c, .slice hears_a hears.length hears_c, .int .i64 houses, .int .i64 start, .slice notices_a notices.length notices_c], .agg #[.int .i64 notice, .int .i64 house]] F (.tuple #[.int .i64 r, .int .i64 r2]) := by
 refine spec_of_shW (args := [.agg #[.slice walks_a walks.length walks_c, .slice hears_a hears.length hears_c, .int .i64 houses, .int .i64 start, .slice notices_a notices.length notices_c], .agg #[.int .i64 notice, .int .i64 house]]) Try.func40 rfl Try.ntmps40 (nbL rfl) ?_
 intro K _ _; rw [round_Soonest] at hr
 refine wsr ?_
 refine o_box rfl rfl ?_; intro b1 hb1
 refine o_box rfl rfl ?_; intro b2 hb2
 refine oa rfl rfl (oa rfl rfl (nsr ?_))
 refine ov (v_loadA (cs := #[.slice walks_a walks.length walks_c, .slice hears_a hears.length hears_c, .int .i64 houses, .int .i64 start, .slice notices_a notices.length notices_c]) Try.isAgg26 Try.sizeOf26 rfl (Has.own 1 rfl) (nbL rfl) rfl) rfl ?_
 obtain ⟨d, n, h3, r4⟩ := b2_ok hr
 refine o_call0 rfl Try.call26 rfl rfl rfl (round_opened_w h_walks h_hears h_notices h3) ?_; rintro _ F5 _ hF6 hn7 ⟨v9, rfl, rfl, hp10⟩
 refine shO_L (ln rfl) ?_
 refine om rfl rfl (ox rfl rfl rfl (ox rfl rfl rfl (oa rfl rfl (oa rfl rfl (shO_nil (shW_seq ?_))))))
 refine shW_block ?_
 refine wsr (om rfl rfl ?_)
 refine ov (v_neq rfl rfl) rfl ?_
 refine oa rfl rfl (shO_nil ?_)
 refine shW_condP rfl (fun c11 => ?_) (fun c11 => ?_)
 · have r12 := ite_t r4 c11
   refine wsr (om rfl rfl (oa rfl rfl (oa rfl rfl (shO_nil ?_))))
   refine kW kn ?_
   refine shW_ret (inBlock_ret (andThen_ret ?_))
   refine q_res2 Try.results40 (res_tmp rfl) (res_tmp rfl) (sr) ?_
   obtain ⟨rfl, rfl⟩ := inj2 r12
   exact rfl
 have r13 := ite_f r4 c11
 refine wsr (om rfl rfl ?_)
 refine ov (v_loadA (cs := #[.int .i64 notice, .int .i64 house]) Try.isAgg54 Try.sizeOf54 rfl (Has.own 0 rfl) (nbL rfl) rfl) rfl ?_
 obtain ⟨walks2, hears2, houses2, start2, notices2, walks3, pairs, hit, h14, r15⟩ := b8_ok r13
 have h35 := hp10; rw [h14] at h35; obtain ⟨b16, c17, m18, hv19, hz20, ⟨_, _, rfl, ⟨a21, c22, rfl, h23⟩, ⟨_, _, rfl, ⟨a24, c25, rfl, h26⟩, ⟨_, _, rfl, rfl, ⟨_, _, rfl, rfl, ⟨_, _, rfl, ⟨a27, c28, rfl, h29⟩, ⟨_, _, rfl, ⟨rfl, h30⟩, ⟨_, _, rfl, ⟨a31, c32, rfl, h33⟩, ⟨rfl, h34⟩⟩⟩⟩⟩⟩⟩⟩⟩ := h35; subst hv19
 have hz20 : F5 b16 = some (.cells ((([.slice a21 walks2.length c22] : List Value) ++ (([.slice a24 hears2.length c25] : List Value) ++ (([.int .i64 houses2] : List Value) ++ (([.int .i64 start2] : List Value) ++ (([.slice a27 notices2.length c28] : List Value) ++ (walks3.flatMap (cI .i64) ++ (([.slice a31 pairs.length c32] : List Value) ++ (hit.flatMap (cI .i64))))))))).toArray) 102 m18) := hz20
 obtain ⟨n2, h36, r37⟩ := b1_ok r15
 refine o_callV rfl Try.call47 rfl rfl rfl (round_crier_index_w hz20 h23 h26 h29 h30 h33 h34 h36) ?_
 refine ov (v_lssK rfl rfl) rfl ?_
 refine oa rfl rfl (shO_nil ?_)
 refine shW_condP rfl (fun c38 => ?_) (fun c38 => ?_)
 · have r39 := ite_t r37 c38
   refine wsr (oa rfl rfl (oa rfl rfl (shO_nil ?_)))
   refine kW kn ?_
   refine shW_ret (inBlock_ret (andThen_ret ?_))
   refine q_res2 Try.results40 (res_tmp rfl) (res_tmp rfl) (sr) ?_
   obtain ⟨rfl, rfl⟩ := inj2 r39
   exact rfl
 have r40 := ite_f r37 c38
 refine shW_skip (inBlock_n (id := 0) (wsr (om rfl rfl ?_)))
 refine ov (v_loadA (cs := #[.int .i64 notice, .int .i64 house]) Try.isAgg54 Try.sizeOf54 rfl (Has.own 0 rfl) (nbL rfl) rfl) rfl ?_
 obtain ⟨n3, h41, r42⟩ := b1_ok r40
 refine o_callV rfl Try.call67 rfl rfl rfl (round_crier_first_w hz20 h23 h26 h29 h30 h33 h34 h41) ?_
 refine oa rfl rfl (shO_nil (shW_seq (wsr (om rfl rfl ?_))))
 refine ov (v_eql rfl rfl) rfl ?_
 refine shO_nil ?_
 refine shW_condP rfl (fun c43 => ?_) (fun c43 => ?_)
 · have r44 := ite_t r42 c43
   refine wsr (oa rfl rfl (oa rfl rfl (shO_nil ?_)))
   refine kW kn ?_
   refine shW_ret (andThen_ret ?_)
   refine q_res2 Try.results40 (res_tmp rfl) (res_tmp rfl) (sr) ?_
   obtain ⟨rfl, rfl⟩ := inj2 r44
   exact rfl
 have r45 := ite_f r42 c43
 refine shW_skip (wsr (om rfl rfl (oa rfl rfl (oa rfl rfl (shO_nil ?_)))))
 refine kW kn ?_
 refine shW_ret ?_
 refine q_res2 Try.results40 (res_tmp rfl) (res_tmp rfl) (sr) ?_
 obtain ⟨rfl, rfl⟩ := inj2 r45
 exact rfl
set_option maxHeartbeats 1000000 in
theorem oyezlaw03_awake_w {F : FS} {r : Bool} (hr : oyezlaw03_awake = some r) :
    SpecV Try.prog 12 #[] F (.bool r) := by
 refine spec_of_shW (args := []) Try.func12 rfl Try.ntmps12 (nbL rfl) ?_
 intro K _ _; rw [oyezlaw03_awake] at hr
 refine wsr (oa rfl rfl (nsr ?_))
 obtain ⟨l, l2, n, n2, l3, h1, r2⟩ := b5_ok hr
 refine o_call0 rfl Try.call34 rfl rfl rfl (oyezlaw03_Three_w h1) ?_; rintro _ F3 _ hF4 hn5 ⟨a7, n11, c8, Lb9, a13, n17, c14, Lb15, a19, n23, c20, Lb21, rfl, rfl, hz10, hz16, hz22⟩
 replace hz10 := hz10.new fun p hp => hn5 p (by simp [hp])
 replace hz16 := hz16.new fun p hp => hn5 p (by simp [hp])
 replace hz22 := hz22.new fun p hp => hn5 p (by simp [hp])
 refine shO_L (lp (lp (lp (ln rfl)))) ?_
 obtain ⟨l4, n3, n4, h25, r26⟩ := b3_ok r2
 refine o_callTO (Lb := []) (Lt := Lb9 ++ (Lb15 ++ (Lb21 ++ []))) (Lr := []) rfl Try.call9 rfl rfl rfl (pT pR (ln (lp (lp (lp (ln rfl)))))) (fun F2 h2 h3 => by rw [(SlR.caps hz10).1]; rw [(SlR.caps hz16).1]; rw [(SlR.caps hz22).1]; exact round_Best_w (hz10.row (slE_ok (iE_ok _)) h2 (fun p hp => h3 p (List.mem_append_left _ hp))) (hz16.row (slE_ok (iE_ok _)) h2 (fun p hp => h3 p (List.mem_append_right _ (List.mem_append_left _ hp)))) (hz22.row (prE_ok (slE_ok (iE_ok _)) (prE_ok (iE_ok _) (iE_ok _))) h2 (fun p hp => h3 p (List.mem_append_right _ (List.mem_append_right _ (List.mem_append_left _ hp))))) h25) (fun _ _ _ _ hq => by obtain ⟨a31, n35, c32, Lb33, rfl, rfl, hz34⟩ := hq; exact ⟨_, _, _, _, rfl, rfl, hz34.flat (fun _ _ h => h)⟩) ?_; rintro _ F27 _ hF28 hd30 hn29 ⟨a31, n35, c32, Lb33, rfl, rfl, hz34⟩
 have hn37 := newp (Lb' := []) (by rfl) hd30 hn29
 replace hz34 := hz34.new fun p hp => hn37 p (by simp [hp])
 refine shO_L (lp (ln (lp (lp (lp (ln rfl)))))) ?_
 refine om rfl rfl (ox rfl rfl rfl (ox rfl rfl rfl (ox rfl rfl rfl (oa rfl rfl (oa rfl rfl (oa rfl rfl (nsr ?_)))))))
 obtain ⟨l5, l6, n5, n6, l7, h38, r39⟩ := b5_ok r26
 refine o_call0 rfl Try.call34 rfl rfl rfl (oyezlaw03_Three_w h38) ?_; rintro _ F40 _ hF41 hn42 ⟨a44, n48, c45, Lb46, a50, n54, c51, Lb52, a56, n60, c57, Lb58, rfl, rfl, hz47, hz53, hz59⟩
 replace hz34 := hz34.mono (prE_ok (iE_ok _) (iE_ok _)) hF41
 replace hz47 := hz47.new fun p hp => hn42 p (by simp [hp])
 replace hz53 := hz53.new fun p hp => hn42 p (by simp [hp])
 replace hz59 := hz59.new fun p hp => hn42 p (by simp [hp])
 refine shO_L (lp (lp (lp (ln rfl)))) ?_
 refine om rfl rfl ?_
 obtain ⟨l8, n7, h62, r63⟩ := b2_ok r39
 refine o_callTO (Lb := []) (Lt := Lb46 ++ (Lb52 ++ (Lb58 ++ (Lb33 ++ [])))) (Lr := Lb9 ++ (Lb15 ++ (Lb21 ++ []))) rfl Try.call35 rfl rfl rfl (pT pR (ln (lp (lp (lp (lp (ln rfl))))))) (fun F2 h2 h3 => by rw [(SlR.caps hz47).1]; rw [(SlR.caps hz53).1]; rw [(SlR.caps hz59).1]; rw [(SlR.caps hz34).1]; exact round_Missed_w (hz47.row (slE_ok (iE_ok _)) h2 (fun p hp => h3 p (List.mem_append_left _ hp))) (hz53.row (slE_ok (iE_ok _)) h2 (fun p hp => h3 p (List.mem_append_right _ (List.mem_append_left _ hp)))) (hz59.row (prE_ok (slE_ok (iE_ok _)) (prE_ok (iE_ok _) (iE_ok _))) h2 (fun p hp => h3 p (List.mem_append_right _ (List.mem_append_right _ (List.mem_append_left _ hp))))) (hz34.row (prE_ok (iE_ok _) (iE_ok _)) h2 (fun p hp => h3 p (List.mem_append_right _ (List.mem_append_right _ (List.mem_append_right _ (List.mem_append_left _ hp)))))) h62) (fun _ _ _ _ hq => by obtain ⟨a68, n72, c69, Lb70, rfl, rfl, hz71⟩ := hq; exact ⟨_, _, _, _, rfl, rfl, hz71.flat (fun _ _ h => h)⟩) ?_; rintro _ F64 _ hF65 hd67 hn66 ⟨a68, n72, c69, Lb70, rfl, rfl, hz71⟩
 have hn74 := newp (Lb' := []) (by rfl) hd67 hn66
 replace hz71 := hz71.new fun p hp => hn74 p (by simp [hp])
 refine shO_L (lp (ln (lp (lp (lp (lp (ln rfl))))))) ?_
 refine om rfl rfl (ox rfl rfl rfl (ox rfl rfl rfl (oa rfl rfl (oa rfl rfl (nsr ?_)))))
 obtain ⟨l9, l10, n8, n9, l11, h75, r76⟩ := b5_ok r63
 refine o_call0 rfl Try.call34 rfl rfl rfl (oyezlaw03_Three_w h75) ?_; rintro _ F77 _ hF78 hn79 ⟨a81, n85, c82, Lb83, a87, n91, c88, Lb89, a93, n97, c94, Lb95, rfl, rfl, hz84, hz90, hz96⟩
 replace hz71 := hz71.mono (prE_ok (iE_ok _) (iE_ok _)) hF78
 replace hz84 := hz84.new fun p hp => hn79 p (by simp [hp])
 replace hz90 := hz90.new fun p hp => hn79 p (by simp [hp])
 replace hz96 := hz96.new fun p hp => hn79 p (by simp [hp])
 refine shO_L (lp (lp (lp (ln rfl)))) ?_
 obtain ⟨n10, n11, h99, r100⟩ := b2_ok r76
 refine o_callT (Lt := Lb83 ++ (Lb89 ++ (Lb95 ++ []))) (Lr := Lb70 ++ (Lb46 ++ (Lb52 ++ (Lb58 ++ (Lb33 ++ (Lb9 ++ (Lb15 ++ (Lb21 ++ [])))))))) rfl Try.call36 rfl rfl rfl (pT pR (lp (lp (lp (ln rfl))))) (fun F2 h2 h3 => by rw [(SlR.caps hz84).1]; rw [(SlR.caps hz90).1]; rw [(SlR.caps hz96).1]; exact round_Walk_w (hz84.row (slE_ok (iE_ok _)) h2 (fun p hp => h3 p (List.mem_append_left _ hp))) (hz90.row (slE_ok (iE_ok _)) h2 (fun p hp => h3 p (List.mem_append_right _ (List.mem_append_left _ hp)))) (hz96.row (prE_ok (slE_ok (iE_ok _)) (prE_ok (iE_ok _) (iE_ok _))) h2 (fun p hp => h3 p (List.mem_append_right _ (List.mem_append_right _ (List.mem_append_left _ hp))))) h99) ?_
 refine om rfl rfl (ox rfl rfl rfl (ox rfl rfl rfl (oa rfl rfl (oa rfl rfl (nsr ?_)))))
 obtain ⟨l12, l13, n12, n13, l14, h101, r102⟩ := b5_ok r100
 refine o_call0 rfl Try.call34 rfl rfl rfl (oyezlaw03_Three_w h101) ?_; rintro _ F103 _ hF104 hn105 ⟨a107, n111, c108, Lb109, a113, n117, c114, Lb115, a119, n123, c120, Lb121, rfl, rfl, hz110, hz116, hz122⟩
 replace hz71 := hz71.mono (prE_ok (iE_ok _) (iE_ok _)) hF104
 replace hz110 := hz110.new fun p hp => hn105 p (by simp [hp])
 replace hz116 := hz116.new fun p hp => hn105 p (by simp [hp])
 replace hz122 := hz122.new fun p hp => hn105 p (by simp [hp])
 refine shO_L (lp (lp (lp (ln rfl)))) ?_
 obtain ⟨l15, n14, h125, r126⟩ := b2_ok r102
 refine o_callTO (Lb := []) (Lt := Lb109 ++ (Lb115 ++ (Lb121 ++ []))) (Lr := Lb83 ++ (Lb89 ++ (Lb95 ++ (Lb70 ++ (Lb46 ++ (Lb52 ++ (Lb58 ++ (Lb33 ++ (Lb9 ++ (Lb15 ++ (Lb21 ++ []))))))))))) rfl Try.call37 rfl rfl rfl (pT pR (ln (lp (lp (lp (ln rfl)))))) (fun F2 h2 h3 => by rw [(SlR.caps hz110).1]; rw [(SlR.caps hz116).1]; rw [(SlR.caps hz122).1]; exact round_Before_w (hz110.row (slE_ok (iE_ok _)) h2 (fun p hp => h3 p (List.mem_append_left _ hp))) (hz116.row (slE_ok (iE_ok _)) h2 (fun p hp => h3 p (List.mem_append_right _ (List.mem_append_left _ hp)))) (hz122.row (prE_ok (slE_ok (iE_ok _)) (prE_ok (iE_ok _) (iE_ok _))) h2 (fun p hp => h3 p (List.mem_append_right _ (List.mem_append_right _ (List.mem_append_left _ hp))))) h125) (fun _ _ _ _ hq => by obtain ⟨a131, n135, c132, Lb133, rfl, rfl, hz134⟩ := hq; exact ⟨_, _, _, _, rfl, rfl, hz134.flat (fun _ _ h => h)⟩) ?_; rintro _ F127 _ hF128 hd130 hn129 ⟨a131, n135, c132, Lb133, rfl, rfl, hz134⟩
 replace hz71 := hz71.mono (prE_ok (iE_ok _) (iE_ok _)) hF128
 have hn137 := newp (Lb' := []) (by rfl) hd130 hn129
 replace hz134 := hz134.new fun p hp => hn137 p (by simp [hp])
 refine shO_L (lp (ln (lp (lp (lp (ln rfl)))))) ?_
 refine om rfl rfl (ox rfl rfl rfl (ox rfl rfl rfl (oa rfl rfl (oa rfl rfl (shO_nil (shW_seq ?_))))))
 obtain ⟨k, h138, r139⟩ := b1_ok r126
 refine shW_join (fun e1 F1 L1 => FExt F127 F1 ∧ L1 = [] ∧ e1.sub [(71, .bool k)]) ?_ ?_
 · clear r139
   refine shW_region (om rfl rfl ?_)
   refine ov (v_neq rfl rfl) rfl ?_
   refine om rfl rfl ?_
   by_cases c140 : n4 ≠ 0
   · have r141 := ite_t h138 c140
     refine shO_off (b' := true) 38 rfl (Env.isT rfl c140) rfl rfl (shO_off (b' := true) 38 rfl (Env.isT rfl c140) rfl rfl ?_)
     refine ov (v_pick_t (evD_true rfl c140) rfl) rfl ?_
     refine om rfl rfl (shO_off (b' := true) 42 rfl rfl rfl rfl (shO_off (b' := true) 42 rfl rfl rfl rfl ?_))
     refine ov (v_pick_t rfl rfl) rfl ?_
     refine om rfl rfl (shO_off (b' := true) 46 rfl rfl rfl rfl (shO_off (b' := true) 46 rfl rfl rfl rfl ?_))
     refine ov (v_pick_t rfl rfl) rfl ?_
     refine om rfl rfl (shO_off (b' := true) 50 rfl rfl rfl rfl (shO_off (b' := true) 50 rfl rfl rfl rfl ?_))
     refine ov (v_pick_t rfl rfl) rfl ?_
     refine om rfl rfl (shO_off (b' := true) 54 rfl rfl rfl rfl (shO_off (b' := true) 54 rfl rfl rfl rfl (shO_off (b' := true) 54 rfl rfl rfl rfl ?_)))
     refine ov (v_pick_t rfl rfl) rfl ?_
     refine om rfl rfl (shO_off (b' := true) 59 rfl rfl rfl rfl (shO_off (b' := true) 59 rfl rfl rfl rfl ?_))
     refine ov (v_pick_t rfl rfl) rfl ?_
     refine om rfl rfl (shO_off (b' := true) 63 rfl rfl rfl rfl (shO_off (b' := true) 63 rfl rfl rfl rfl (shO_off (b' := true) 63 rfl rfl rfl rfl (shO_off (b' := true) 63 rfl rfl rfl rfl (shO_off (b' := true) 63 rfl rfl rfl rfl (shO_off (b' := true) 63 rfl rfl rfl rfl (shO_off (b' := true) 63 rfl rfl rfl rfl ?_)))))))
     refine ov (v_pick_t rfl rfl) rfl ?_
     refine shO_nil ?_
     obtain rfl := inj1 r141
     exact mi kn ⟨FExt.refl _, rfl, (sc rfl (sn _))⟩
   have r142 := ite_f h138 c140
   refine shO_on (b := false) 38 rfl (Env.isF rfl c140) (om rfl rfl (shO_on (b := false) 38 rfl (Env.isF rfl c140) ?_))
   refine ov (v_neq rfl rfl) rfl ?_
   refine ov (v_pick_f (evD_false rfl c140) rfl) rfl ?_
   refine om rfl rfl ?_
   by_cases c143 : n7 ≠ 0
   · have r144 := ite_t r142 c143
     refine shO_off (b' := true) 42 rfl (Env.isT rfl c143) rfl rfl (shO_off (b' := true) 42 rfl (Env.isT rfl c143) rfl rfl ?_)
     refine ov (v_pick_t (evD_true rfl c143) rfl) rfl ?_
     refine om rfl rfl (shO_off (b' := true) 46 rfl rfl rfl rfl (shO_off (b' := true) 46 rfl rfl rfl rfl ?_))
     refine ov (v_pick_t rfl rfl) rfl ?_
     refine om rfl rfl (shO_off (b' := true) 50 rfl rfl rfl rfl (shO_off (b' := true) 50 rfl rfl rfl rfl ?_))
     refine ov (v_pick_t rfl rfl) rfl ?_
     refine om rfl rfl (shO_off (b' := true) 54 rfl rfl rfl rfl (shO_off (b' := true) 54 rfl rfl rfl rfl (shO_off (b' := true) 54 rfl rfl rfl rfl ?_)))
     refine ov (v_pick_t rfl rfl) rfl ?_
     refine om rfl rfl (shO_off (b' := true) 59 rfl rfl rfl rfl (shO_off (b' := true) 59 rfl rfl rfl rfl ?_))
     refine ov (v_pick_t rfl rfl) rfl ?_
     refine om rfl rfl (shO_off (b' := true) 63 rfl rfl rfl rfl (shO_off (b' := true) 63 rfl rfl rfl rfl (shO_off (b' := true) 63 rfl rfl rfl rfl (shO_off (b' := true) 63 rfl rfl rfl rfl (shO_off (b' := true) 63 rfl rfl rfl rfl (shO_off (b' := true) 63 rfl rfl rfl rfl (shO_off (b' := true) 63 rfl rfl rfl rfl ?_)))))))
     refine ov (v_pick_t rfl rfl) rfl ?_
     refine shO_nil ?_
     obtain rfl := inj1 r144
     exact mi kn ⟨FExt.refl _, rfl, (sc rfl (sn _))⟩
   have r145 := ite_f r142 c143
   refine shO_on (b := false) 42 rfl (Env.isF rfl c143) (om rfl rfl (shO_on (b := false) 42 rfl (Env.isF rfl c143) ?_))
   refine ov (v_neq rfl rfl) rfl ?_
   refine ov (v_pick_f (evD_false rfl c143) rfl) rfl ?_
   refine om rfl rfl ?_
   by_cases c146 : n11 ≠ 0
   · have r147 := ite_t r145 c146
     refine shO_off (b' := true) 46 rfl (Env.isT rfl c146) rfl rfl (shO_off (b' := true) 46 rfl (Env.isT rfl c146) rfl rfl ?_)
     refine ov (v_pick_t (evD_true rfl c146) rfl) rfl ?_
     refine om rfl rfl (shO_off (b' := true) 50 rfl rfl rfl rfl (shO_off (b' := true) 50 rfl rfl rfl rfl ?_))
     refine ov (v_pick_t rfl rfl) rfl ?_
     refine om rfl rfl (shO_off (b' := true) 54 rfl rfl rfl rfl (shO_off (b' := true) 54 rfl rfl rfl rfl (shO_off (b' := true) 54 rfl rfl rfl rfl ?_)))
     refine ov (v_pick_t rfl rfl) rfl ?_
     refine om rfl rfl (shO_off (b' := true) 59 rfl rfl rfl rfl (shO_off (b' := true) 59 rfl rfl rfl rfl ?_))
     refine ov (v_pick_t rfl rfl) rfl ?_
     refine om rfl rfl (shO_off (b' := true) 63 rfl rfl rfl rfl (shO_off (b' := true) 63 rfl rfl rfl rfl (shO_off (b' := true) 63 rfl rfl rfl rfl (shO_off (b' := true) 63 rfl rfl rfl rfl (shO_off (b' := true) 63 rfl rfl rfl rfl (shO_off (b' := true) 63 rfl rfl rfl rfl (shO_off (b' := true) 63 rfl rfl rfl rfl ?_)))))))
     refine ov (v_pick_t rfl rfl) rfl ?_
     refine shO_nil ?_
     obtain rfl := inj1 r147
     exact mi kn ⟨FExt.refl _, rfl, (sc rfl (sn _))⟩
   have r148 := ite_f r145 c146
   refine shO_on (b := false) 46 rfl (Env.isF rfl c146) (om rfl rfl (shO_on (b := false) 46 rfl (Env.isF rfl c146) ?_))
   refine ov (v_neq rfl rfl) rfl ?_
   refine ov (v_pick_f (evD_false rfl c146) rfl) rfl ?_
   refine om rfl rfl ?_
   by_cases c149 : n14 ≠ 0
   · have r150 := ite_t r148 c149
     refine shO_off (b' := true) 50 rfl (Env.isT rfl c149) rfl rfl (shO_off (b' := true) 50 rfl (Env.isT rfl c149) rfl rfl ?_)
     refine ov (v_pick_t (evD_true rfl c149) rfl) rfl ?_
     refine om rfl rfl (shO_off (b' := true) 54 rfl rfl rfl rfl (shO_off (b' := true) 54 rfl rfl rfl rfl (shO_off (b' := true) 54 rfl rfl rfl rfl ?_)))
     refine ov (v_pick_t rfl rfl) rfl ?_
     refine om rfl rfl (shO_off (b' := true) 59 rfl rfl rfl rfl (shO_off (b' := true) 59 rfl rfl rfl rfl ?_))
     refine ov (v_pick_t rfl rfl) rfl ?_
     refine om rfl rfl (shO_off (b' := true) 63 rfl rfl rfl rfl (shO_off (b' := true) 63 rfl rfl rfl rfl (shO_off (b' := true) 63 rfl rfl rfl rfl (shO_off (b' := true) 63 rfl rfl rfl rfl (shO_off (b' := true) 63 rfl rfl rfl rfl (shO_off (b' := true) 63 rfl rfl rfl rfl (shO_off (b' := true) 63 rfl rfl rfl rfl ?_)))))))
     refine ov (v_pick_t rfl rfl) rfl ?_
     refine shO_nil ?_
     obtain rfl := inj1 r150
     exact mi kn ⟨FExt.refl _, rfl, (sc rfl (sn _))⟩
   have r151 := ite_f r148 c149
   refine shO_on (b := false) 50 rfl (Env.isF rfl c149) (om rfl rfl (shO_on (b := false) 50 rfl (Env.isF rfl c149) ?_))
   refine ov (v_neq rfl rfl) rfl ?_
   refine ov (v_pick_f (evD_false rfl c149) rfl) rfl ?_
   refine om rfl rfl ?_
   by_cases c152 : n3 ≠ 11
   · have r153 := ite_t r151 c152
     refine shO_off (b' := true) 54 rfl (Env.isT rfl c152) rfl rfl (shO_off (b' := true) 54 rfl (Env.isT rfl c152) rfl rfl (shO_off (b' := true) 54 rfl (Env.isT rfl c152) rfl rfl ?_))
     refine ov (v_pick_t (evD_true rfl c152) rfl) rfl ?_
     refine om rfl rfl (shO_off (b' := true) 59 rfl rfl rfl rfl (shO_off (b' := true) 59 rfl rfl rfl rfl ?_))
     refine ov (v_pick_t rfl rfl) rfl ?_
     refine om rfl rfl (shO_off (b' := true) 63 rfl rfl rfl rfl (shO_off (b' := true) 63 rfl rfl rfl rfl (shO_off (b' := true) 63 rfl rfl rfl rfl (shO_off (b' := true) 63 rfl rfl rfl rfl (shO_off (b' := true) 63 rfl rfl rfl rfl (shO_off (b' := true) 63 rfl rfl rfl rfl (shO_off (b' := true) 63 rfl rfl rfl rfl ?_)))))))
     refine ov (v_pick_t rfl rfl) rfl ?_
     refine shO_nil ?_
     obtain rfl := inj1 r153
     exact mi kn ⟨FExt.refl _, rfl, (sc rfl (sn _))⟩
   have r154 := ite_f r151 c152
   refine shO_on (b := false) 54 rfl (Env.isF rfl c152) (om rfl rfl (shO_on (b := false) 54 rfl (Env.isF rfl c152) ?_))
   refine ov ((v_lenS Try.underlying44 rfl).i (SlR.lenI hz71)) rfl ?_
   refine shO_on (b := false) 54 rfl (Env.isF rfl c152) ?_
   refine ov (v_gtrK rfl rfl) rfl ?_
   refine ov (v_pick_f (evD_false rfl c152) rfl) rfl ?_
   refine om rfl rfl ?_
   by_cases c155 : 0 < (l8.length : Int)
   · have r156 := ite_t r154 c155
     refine shO_off (b' := true) 59 rfl (Env.isT rfl c155) rfl rfl (shO_off (b' := true) 59 rfl (Env.isT rfl c155) rfl rfl ?_)
     refine ov (v_pick_t (evD_true rfl c155) rfl) rfl ?_
     refine om rfl rfl (shO_off (b' := true) 63 rfl rfl rfl rfl (shO_off (b' := true) 63 rfl rfl rfl rfl (shO_off (b' := true) 63 rfl rfl rfl rfl (shO_off (b' := true) 63 rfl rfl rfl rfl (shO_off (b' := true) 63 rfl rfl rfl rfl (shO_off (b' := true) 63 rfl rfl rfl rfl (shO_off (b' := true) 63 rfl rfl rfl rfl ?_)))))))
     refine ov (v_pick_t rfl rfl) rfl ?_
     refine shO_nil ?_
     obtain rfl := inj1 r156
     exact mi kn ⟨FExt.refl _, rfl, (sc rfl (sn _))⟩
   have r157 := ite_f r154 c155
   refine shO_on (b := false) 59 rfl (Env.isF rfl c155) (om rfl rfl (shO_on (b := false) 59 rfl (Env.isF rfl c155) ?_))
   refine ov (v_neq rfl rfl) rfl ?_
   refine ov (v_pick_f (evD_false rfl c155) rfl) rfl ?_
   refine om rfl rfl ?_
   by_cases c158 : n10 ≠ 4
   · have r159 := ite_t r157 c158
     refine shO_off (b' := true) 63 rfl (Env.isT rfl c158) rfl rfl (shO_off (b' := true) 63 rfl (Env.isT rfl c158) rfl rfl (shO_off (b' := true) 63 rfl (Env.isT rfl c158) rfl rfl (shO_off (b' := true) 63 rfl (Env.isT rfl c158) rfl rfl (shO_off (b' := true) 63 rfl (Env.isT rfl c158) rfl rfl (shO_off (b' := true) 63 rfl (Env.isT rfl c158) rfl rfl (shO_off (b' := true) 63 rfl (Env.isT rfl c158) rfl rfl ?_))))))
     refine ov (v_pick_t (evD_true rfl c158) rfl) rfl ?_
     refine shO_nil ?_
     obtain rfl := inj1 r159
     exact mi kn ⟨FExt.refl _, rfl, (sc rfl (sn _))⟩
   have r160 := ite_f r157 c158
   refine shO_on (b := false) 63 rfl (Env.isF rfl c158) (om rfl rfl (shO_on (b := false) 63 rfl (Env.isF rfl c158) ?_))
   refine ov (v_build (v := .agg #[.int .i64 0, .int .i64 0]) rfl (by intro w; kernel_rfl)) rfl ?_
   refine shO_on (b := false) 63 rfl (Env.isF rfl c158) ?_
   refine ov (v_build (v := .agg #[.int .i64 0, .int .i64 2]) rfl (by intro w; kernel_rfl)) rfl ?_
   refine shO_on (b := false) 63 rfl (Env.isF rfl c158) ?_
   refine ov (v_build (v := .agg #[.int .i64 1, .int .i64 1]) rfl (by intro w; kernel_rfl)) rfl ?_
   refine shO_on (b := false) 63 rfl (Env.isF rfl c158) ?_
   refine o_buildSlice (cs := #[.int .i64 0, .int .i64 0, .int .i64 0, .int .i64 2, .int .i64 1, .int .i64 1]) rfl rfl (buildSlice_all slt_44 [.agg #[.int .i64 0, .int .i64 0], .agg #[.int .i64 0, .int .i64 2], .agg #[.int .i64 1, .int .i64 1]] rfl (by decide) (by simp [Value.cells]) (by decide)) ?_; intro b161 hb161
   refine shO_on (b := false) 63 rfl (Env.isF rfl c158) ?_
   refine shO_freeze 0 rfl hb161 ?_; intro F162 hF163 hz164
   refine shO_L (L' := Lb133 ++ (Lb109 ++ (Lb115 ++ (Lb121 ++ (Lb83 ++ (Lb89 ++ (Lb95 ++ (Lb70 ++ (Lb46 ++ (Lb52 ++ (Lb58 ++ (Lb33 ++ (Lb9 ++ (Lb15 ++ (Lb21 ++ []))))))))))))))) rfl ?_
   replace hz134 := hz134.mono (prE_ok (iE_ok _) (iE_ok _)) hF163
   have h165 : RowR 2 (prE (iE .i64) (iE .i64)) F162 (some ⟨b161, 0, none⟩) 3 [(0, 0), (0, 2), (1, 1)] := RowR.of_block (prE_ok (iE_ok _) (iE_ok _)) (vss := [[.int .i64 0, .int .i64 0], [.int .i64 0, .int .i64 2], [.int .i64 1, .int .i64 1]]) (xs := [(0, 0), (0, 2), (1, 1)]) hz164 (.cons ⟨_, _, rfl, rfl, rfl⟩ (.cons ⟨_, _, rfl, rfl, rfl⟩ (.cons ⟨_, _, rfl, rfl, rfl⟩ .nil))) rfl (by simp [maxLen])
   obtain ⟨ok, h166, r167⟩ := b1_ok r160
   refine o_callT (Lt := Lb133 ++ []) (Lr := Lb109 ++ (Lb115 ++ (Lb121 ++ (Lb83 ++ (Lb89 ++ (Lb95 ++ (Lb70 ++ (Lb46 ++ (Lb52 ++ (Lb58 ++ (Lb33 ++ (Lb9 ++ (Lb15 ++ (Lb21 ++ [])))))))))))))) rfl Try.call38 rfl rfl rfl (pT pR (lp (ln rfl))) (fun F2 h2 h3 => by rw [(SlR.caps hz134).1]; exact oyezkit_Like_Pair_w (hz134.row (prE_ok (iE_ok _) (iE_ok _)) h2 (fun p hp => h3 p (List.mem_append_left _ hp))) (h165.mono (prE_ok (iE_ok _) (iE_ok _)) h2) h166) ?_
   refine shO_on (b := false) 63 rfl (Env.isF rfl c158) ?_
   refine ov (v_notB rfl) rfl ?_
   refine ov (v_pick_f (evD_false rfl c158) rfl) rfl ?_
   refine shO_nil ?_
   obtain rfl := inj1 r167
   exact mi kn ⟨hF163, rfl, (sc rfl (sn _))⟩
 rintro e1 F169 _ ⟨hF170, rfl, he168⟩
 refine shW_env _ he168 ?_
 refine shW_cond rfl (fun c171 => ?_) (fun c171 => ?_)
 · have r172 := bt r139 c171
   refine wsr (oa rfl rfl (shO_nil (shW_ret (andThen_ret ?_))))
   refine q_res1 Try.results12 (res_tmp rfl) (sr) ?_
   obtain rfl := inj1 r172
   exact rfl
 have r173 := bf r139 c171
 refine shW_skip (wsr ?_)
 obtain ⟨l16, l17, n15, n16, l18, h174, r175⟩ := b5_ok r173
 refine o_call0 rfl Try.call34 rfl rfl rfl (oyezlaw03_Three_w h174) ?_; rintro _ F176 _ hF177 hn178 ⟨a180, n184, c181, Lb182, a186, n190, c187, Lb188, a192, n196, c193, Lb194, rfl, rfl, hz183, hz189, hz195⟩
 replace hz183 := hz183.new fun p hp => hn178 p (by simp [hp])
 replace hz189 := hz189.new fun p hp => hn178 p (by simp [hp])
 replace hz195 := hz195.new fun p hp => hn178 p (by simp [hp])
 refine shO_L (lp (lp (lp (ln rfl)))) ?_
 obtain ⟨n17, n18, h198, r199⟩ := b2_ok r175
 refine o_callT (Lt := Lb182 ++ (Lb188 ++ (Lb194 ++ []))) (Lr := []) rfl Try.call39 rfl rfl rfl (pT pR (lp (lp (lp (ln rfl))))) (fun F2 h2 h3 => by rw [(SlR.caps hz183).1]; rw [(SlR.caps hz189).1]; rw [(SlR.caps hz195).1]; exact round_Hurry_w (hz183.row (slE_ok (iE_ok _)) h2 (fun p hp => h3 p (List.mem_append_left _ hp))) (hz189.row (slE_ok (iE_ok _)) h2 (fun p hp => h3 p (List.mem_append_right _ (List.mem_append_left _ hp)))) (hz195.row (prE_ok (slE_ok (iE_ok _)) (prE_ok (iE_ok _) (iE_ok _))) h2 (fun p hp => h3 p (List.mem_append_right _ (List.mem_append_right _ (List.mem_append_left _ hp))))) h198) ?_
 refine om rfl rfl (ox rfl rfl rfl (ox rfl rfl rfl (oa rfl rfl (oa rfl rfl (nsr ?_)))))
 obtain ⟨l19, l20, n19, n20, l21, h200, r201⟩ := b5_ok r199
 refine o_call0 rfl Try.call34 rfl rfl rfl (oyezlaw03_Three_w h200) ?_; rintro _ F202 _ hF203 hn204 ⟨a206, n210, c207, Lb208, a212, n216, c213, Lb214, a218, n222, c219, Lb220, rfl, rfl, hz209, hz215, hz221⟩
 replace hz209 := hz209.new fun p hp => hn204 p (by simp [hp])
 replace hz215 := hz215.new fun p hp => hn204 p (by simp [hp])
 replace hz221 := hz221.new fun p hp => hn204 p (by simp [hp])
 refine shO_L (lp (lp (lp (ln rfl)))) ?_
 refine ov (v_build (v := .agg #[.int .i64 0, .int .i64 2]) rfl (by intro w; kernel_rfl)) rfl ?_
 obtain ⟨n21, n22, h224, r225⟩ := b2_ok r201
 refine o_callT (Lt := Lb208 ++ (Lb214 ++ (Lb220 ++ []))) (Lr := Lb182 ++ (Lb188 ++ (Lb194 ++ []))) rfl Try.call40 rfl rfl rfl (pT pR (lp (lp (lp (ln rfl))))) (fun F2 h2 h3 => by rw [(SlR.caps hz209).1]; rw [(SlR.caps hz215).1]; rw [(SlR.caps hz221).1]; exact round_Soonest_w (hz209.row (slE_ok (iE_ok _)) h2 (fun p hp => h3 p (List.mem_append_left _ hp))) (hz215.row (slE_ok (iE_ok _)) h2 (fun p hp => h3 p (List.mem_append_right _ (List.mem_append_left _ hp)))) (hz221.row (prE_ok (slE_ok (iE_ok _)) (prE_ok (iE_ok _) (iE_ok _))) h2 (fun p hp => h3 p (List.mem_append_right _ (List.mem_append_right _ (List.mem_append_left _ hp))))) h224) ?_
 refine om rfl rfl (ox rfl rfl rfl (ox rfl rfl rfl (oa rfl rfl (oa rfl rfl (nsr ?_)))))
 obtain ⟨l22, l23, n23, n24, l24, h226, r227⟩ := b5_ok r225
 refine o_call0 rfl Try.call34 rfl rfl rfl (oyezlaw03_Three_w h226) ?_; rintro _ F228 _ hF229 hn230 ⟨a232, n236, c233, Lb234, a238, n242, c239, Lb240, a244, n248, c245, Lb246, rfl, rfl, hz235, hz241, hz247⟩
 replace hz235 := hz235.new fun p hp => hn230 p (by simp [hp])
 replace hz241 := hz241.new fun p hp => hn230 p (by simp [hp])
 replace hz247 := hz247.new fun p hp => hn230 p (by simp [hp])
 refine shO_L (lp (lp (lp (ln rfl)))) ?_
 obtain ⟨l25, n25, n26, h250, r251⟩ := b3_ok r227
 refine o_callTO (Lb := []) (Lt := Lb234 ++ (Lb240 ++ (Lb246 ++ []))) (Lr := Lb208 ++ (Lb214 ++ (Lb220 ++ (Lb182 ++ (Lb188 ++ (Lb194 ++ [])))))) rfl Try.call8 rfl rfl rfl (pT pR (ln (lp (lp (lp (ln rfl)))))) (fun F2 h2 h3 => by rw [(SlR.caps hz235).1]; rw [(SlR.caps hz241).1]; rw [(SlR.caps hz247).1]; exact round_Two_w (hz235.row (slE_ok (iE_ok _)) h2 (fun p hp => h3 p (List.mem_append_left _ hp))) (hz241.row (slE_ok (iE_ok _)) h2 (fun p hp => h3 p (List.mem_append_right _ (List.mem_append_left _ hp)))) (hz247.row (prE_ok (slE_ok (iE_ok _)) (prE_ok (iE_ok _) (iE_ok _))) h2 (fun p hp => h3 p (List.mem_append_right _ (List.mem_append_right _ (List.mem_append_left _ hp))))) h250) (fun _ _ _ _ hq => by obtain ⟨a256, n260, c257, Lb258, rfl, rfl, hz259⟩ := hq; exact ⟨_, _, _, _, rfl, rfl, hz259.flat (fun _ _ h => h)⟩) ?_; rintro _ F252 _ hF253 hd255 hn254 ⟨a256, n260, c257, Lb258, rfl, rfl, hz259⟩
 have hn262 := newp (Lb' := []) (by rfl) hd255 hn254
 replace hz259 := hz259.new fun p hp => hn262 p (by simp [hp])
 refine shO_L (lp (ln (lp (lp (lp (ln rfl)))))) ?_
 refine om rfl rfl (ox rfl rfl rfl (ox rfl rfl rfl (ox rfl rfl rfl (oa rfl rfl (oa rfl rfl (oa rfl rfl (nsr (om rfl rfl ?_))))))))
 refine ov (v_eql rfl rfl) rfl ?_
 refine om rfl rfl ?_
 by_cases c263 : n18 = 0
 · have r264 := ite_t r251 c263
   refine shO_on (b := true) 91 rfl (Env.isT rfl c263) (om rfl rfl (shO_on (b := true) 91 rfl (Env.isT rfl c263) ?_))
   refine ov (v_eql rfl rfl) rfl ?_
   refine ov (v_pick_t (evD_true rfl c263) rfl) rfl ?_
   refine om rfl rfl ?_
   by_cases c265 : n22 = 0
   · have r266 := ite_t r264 c265
     refine shO_on (b := true) 95 rfl (Env.isT rfl c265) (om rfl rfl (shO_on (b := true) 95 rfl (Env.isT rfl c265) ?_))
     refine ov (v_eql rfl rfl) rfl ?_
     refine ov (v_pick_t (evD_true rfl c265) rfl) rfl ?_
     refine om rfl rfl ?_
     by_cases c267 : n26 = 0
     · have r268 := ite_t r266 c267
       refine shO_on (b := true) 99 rfl (Env.isT rfl c267) (om rfl rfl (shO_on (b := true) 99 rfl (Env.isT rfl c267) ?_))
       refine ov (v_eql rfl rfl) rfl ?_
       refine ov (v_pick_t (evD_true rfl c267) rfl) rfl ?_
       refine om rfl rfl ?_
       by_cases c269 : n17 = 6
       · have r270 := ite_t r268 c269
         refine shO_on (b := true) 103 rfl (Env.isT rfl c269) (om rfl rfl (shO_on (b := true) 103 rfl (Env.isT rfl c269) ?_))
         refine ov (v_eql rfl rfl) rfl ?_
         refine ov (v_pick_t (evD_true rfl c269) rfl) rfl ?_
         refine om rfl rfl ?_
         by_cases c271 : n21 = 7
         · have r272 := ite_t r270 c271
           refine shO_on (b := true) 107 rfl (Env.isT rfl c271) (om rfl rfl (shO_on (b := true) 107 rfl (Env.isT rfl c271) ?_))
           refine ov (v_eql rfl rfl) rfl ?_
           refine ov (v_pick_t (evD_true rfl c271) rfl) rfl ?_
           refine om rfl rfl ?_
           by_cases c273 : n25 = 10
           · have r274 := ite_t r272 c273
             refine shO_on (b := true) 111 rfl (Env.isT rfl c273) (om rfl rfl (shO_on (b := true) 111 rfl (Env.isT rfl c273) ?_))
             refine o_buildSlice (cs := #[.int .i64 0, .int .i64 1]) rfl rfl (buildSlice_all slt_30 [.int .i64 0, .int .i64 1] rfl (by decide) (by simp [Value.cells]) (by decide)) ?_; intro b275 hb275
             refine shO_on (b := true) 111 rfl (Env.isT rfl c273) ?_
             refine shO_freeze 0 rfl hb275 ?_; intro F276 hF277 hz278
             refine shO_L (L' := Lb258 ++ (Lb234 ++ (Lb240 ++ (Lb246 ++ (Lb208 ++ (Lb214 ++ (Lb220 ++ (Lb182 ++ (Lb188 ++ (Lb194 ++ [])))))))))) rfl ?_
             replace hz259 := hz259.mono (iE_ok _) hF277
             have h279 : RowR 1 (iE .i64) F276 (some ⟨b275, 0, none⟩) 2 [0, 1] := RowR.of_block (iE_ok _) (vss := [[.int .i64 0], [.int .i64 1]]) (xs := [0, 1]) hz278 (.cons rfl (.cons rfl .nil)) rfl (by simp [maxLen])
             obtain ⟨ok2, h280, r281⟩ := b1_ok r274
             refine o_callT (Lt := Lb258 ++ []) (Lr := Lb234 ++ (Lb240 ++ (Lb246 ++ (Lb208 ++ (Lb214 ++ (Lb220 ++ (Lb182 ++ (Lb188 ++ (Lb194 ++ []))))))))) rfl Try.call22 rfl rfl rfl (pT pR (lp (ln rfl))) (fun F2 h2 h3 => by rw [(SlR.caps hz259).1]; exact oyezkit_Like_int_w (hz259.row (iE_ok _) h2 (fun p hp => h3 p (List.mem_append_left _ hp))) (h279.mono (iE_ok _) h2) h280) ?_
             refine ov (v_pick_t (evD_true rfl c273) rfl) rfl ?_
             refine oa rfl rfl (shO_nil ?_)
             refine kW kn ?_
             refine shW_ret ?_
             refine q_res1 Try.results12 (res_tmp rfl) (sr) ?_
             obtain rfl := inj1 r281
             exact rfl
           have r282 := ite_f r272 c273
           refine shO_off (b' := false) 111 rfl (Env.isF rfl c273) rfl rfl (shO_off (b' := false) 111 rfl (Env.isF rfl c273) rfl rfl (shO_off (b' := false) 111 rfl (Env.isF rfl c273) rfl rfl ?_))
           refine ov (v_pick_f (evD_false rfl c273) rfl) rfl ?_
           refine oa rfl rfl (shO_nil ?_)
           refine kW kn ?_
           refine shW_ret ?_
           refine q_res1 Try.results12 (res_tmp rfl) (sr) ?_
           obtain rfl := inj1 r282
           exact rfl
         have r283 := ite_f r270 c271
         refine shO_off (b' := false) 107 rfl (Env.isF rfl c271) rfl rfl (shO_off (b' := false) 107 rfl (Env.isF rfl c271) rfl rfl ?_)
         refine ov (v_pick_f (evD_false rfl c271) rfl) rfl ?_
         refine om rfl rfl (shO_off (b' := false) 111 rfl rfl rfl rfl (shO_off (b' := false) 111 rfl rfl rfl rfl (shO_off (b' := false) 111 rfl rfl rfl rfl ?_)))
         refine ov (v_pick_f rfl rfl) rfl ?_
         refine oa rfl rfl (shO_nil ?_)
         refine kW kn ?_
         refine shW_ret ?_
         refine q_res1 Try.results12 (res_tmp rfl) (sr) ?_
         obtain rfl := inj1 r283
         exact rfl
       have r284 := ite_f r268 c269
       refine shO_off (b' := false) 103 rfl (Env.isF rfl c269) rfl rfl (shO_off (b' := false) 103 rfl (Env.isF rfl c269) rfl rfl ?_)
       refine ov (v_pick_f (evD_false rfl c269) rfl) rfl ?_
       refine om rfl rfl (shO_off (b' := false) 107 rfl rfl rfl rfl (shO_off (b' := false) 107 rfl rfl rfl rfl ?_))
       refine ov (v_pick_f rfl rfl) rfl ?_
       refine om rfl rfl (shO_off (b' := false) 111 rfl rfl rfl rfl (shO_off (b' := false) 111 rfl rfl rfl rfl (shO_off (b' := false) 111 rfl rfl rfl rfl ?_)))
       refine ov (v_pick_f rfl rfl) rfl ?_
       refine oa rfl rfl (shO_nil ?_)
       refine kW kn ?_
       refine shW_ret ?_
       refine q_res1 Try.results12 (res_tmp rfl) (sr) ?_
       obtain rfl := inj1 r284
       exact rfl
     have r285 := ite_f r266 c267
     refine shO_off (b' := false) 99 rfl (Env.isF rfl c267) rfl rfl (shO_off (b' := false) 99 rfl (Env.isF rfl c267) rfl rfl ?_)
     refine ov (v_pick_f (evD_false rfl c267) rfl) rfl ?_
     refine om rfl rfl (shO_off (b' := false) 103 rfl rfl rfl rfl (shO_off (b' := false) 103 rfl rfl rfl rfl ?_))
     refine ov (v_pick_f rfl rfl) rfl ?_
     refine om rfl rfl (shO_off (b' := false) 107 rfl rfl rfl rfl (shO_off (b' := false) 107 rfl rfl rfl rfl ?_))
     refine ov (v_pick_f rfl rfl) rfl ?_
     refine om rfl rfl (shO_off (b' := false) 111 rfl rfl rfl rfl (shO_off (b' := false) 111 rfl rfl rfl rfl (shO_off (b' := false) 111 rfl rfl rfl rfl ?_)))
     refine ov (v_pick_f rfl rfl) rfl ?_
     refine oa rfl rfl (shO_nil ?_)
     refine kW kn ?_
     refine shW_ret ?_
     refine q_res1 Try.results12 (res_tmp rfl) (sr) ?_
     obtain rfl := inj1 r285
     exact rfl
   have r286 := ite_f r264 c265
   refine shO_off (b' := false) 95 rfl (Env.isF rfl c265) rfl rfl (shO_off (b' := false) 95 rfl (Env.isF rfl c265) rfl rfl ?_)
   refine ov (v_pick_f (evD_false rfl c265) rfl) rfl ?_
   refine om rfl rfl (shO_off (b' := false) 99 rfl rfl rfl rfl (shO_off (b' := false) 99 rfl rfl rfl rfl ?_))
   refine ov (v_pick_f rfl rfl) rfl ?_
   refine om rfl rfl (shO_off (b' := false) 103 rfl rfl rfl rfl (shO_off (b' := false) 103 rfl rfl rfl rfl ?_))
   refine ov (v_pick_f rfl rfl) rfl ?_
   refine om rfl rfl (shO_off (b' := false) 107 rfl rfl rfl rfl (shO_off (b' := false) 107 rfl rfl rfl rfl ?_))
   refine ov (v_pick_f rfl rfl) rfl ?_
   refine om rfl rfl (shO_off (b' := false) 111 rfl rfl rfl rfl (shO_off (b' := false) 111 rfl rfl rfl rfl (shO_off (b' := false) 111 rfl rfl rfl rfl ?_)))
   refine ov (v_pick_f rfl rfl) rfl ?_
   refine oa rfl rfl (shO_nil ?_)
   refine kW kn ?_
   refine shW_ret ?_
   refine q_res1 Try.results12 (res_tmp rfl) (sr) ?_
   obtain rfl := inj1 r286
   exact rfl
 have r287 := ite_f r251 c263
 refine shO_off (b' := false) 91 rfl (Env.isF rfl c263) rfl rfl (shO_off (b' := false) 91 rfl (Env.isF rfl c263) rfl rfl ?_)
 refine ov (v_pick_f (evD_false rfl c263) rfl) rfl ?_
 refine om rfl rfl (shO_off (b' := false) 95 rfl rfl rfl rfl (shO_off (b' := false) 95 rfl rfl rfl rfl ?_))
 refine ov (v_pick_f rfl rfl) rfl ?_
 refine om rfl rfl (shO_off (b' := false) 99 rfl rfl rfl rfl (shO_off (b' := false) 99 rfl rfl rfl rfl ?_))
 refine ov (v_pick_f rfl rfl) rfl ?_
 refine om rfl rfl (shO_off (b' := false) 103 rfl rfl rfl rfl (shO_off (b' := false) 103 rfl rfl rfl rfl ?_))
 refine ov (v_pick_f rfl rfl) rfl ?_
 refine om rfl rfl (shO_off (b' := false) 107 rfl rfl rfl rfl (shO_off (b' := false) 107 rfl rfl rfl rfl ?_))
 refine ov (v_pick_f rfl rfl) rfl ?_
 refine om rfl rfl (shO_off (b' := false) 111 rfl rfl rfl rfl (shO_off (b' := false) 111 rfl rfl rfl rfl (shO_off (b' := false) 111 rfl rfl rfl rfl ?_)))
 refine ov (v_pick_f rfl rfl) rfl ?_
 refine oa rfl rfl (shO_nil ?_)
 refine kW kn ?_
 refine shW_ret ?_
 refine q_res1 Try.results12 (res_tmp rfl) (sr) ?_
 obtain rfl := inj1 r287
 exact rfl
set_option maxHeartbeats 1000000 in
theorem round_Excludes_w {walks_a : Option Addr} {walks_c : Nat} {walks : List (List Int)} {hears_a : Option Addr} {hears_c : Nat} {hears : List (List Int)} {houses start : Int} {notices_a : Option Addr} {notices_c : Nat} {notices : List ((List Int) × Int × Int)} {F : FS} (h_walks : RowR 1 (slE 1 (iE .i64)) F walks_a walks_c walks) (h_hears : RowR 1 (slE 1 (iE .i64)) F hears_a hears_c hears) (h_notices : RowR 3 (prE (slE 1 (iE .i64)) (prE (iE .i64) (iE .i64))) F notices_a notices_c notices) {r : List (Int × Int)} {r2 : Int} (hr : round_Excludes walks hears houses start notices = some (r, r2)) :
    SH.Spec Try.prog 13 #[.agg #[.slice walks_a walks.length walks_c, .slice hears_a hears.length hears_c, .int .i64 houses, .int .i64 start, .slice notices_a notices.length notices_c]] F [] fun F' L' v => ∃ (ra : Option Addr) (rn : Nat) (rc : Nat) (rL : LH), v = .tuple #[.slice ra rn rc, .int .i64 r2] ∧ L' = rL ++ [] ∧ SlR 0 54 2 (prE (iE .i64) (iE .i64)) F' ra rn rc r rL := by
 refine spec_of_shW (args := [.agg #[.slice walks_a walks.length walks_c, .slice hears_a hears.length hears_c, .int .i64 houses, .int .i64 start, .slice notices_a notices.length notices_c]]) Try.func13 rfl Try.ntmps13 (nbL rfl) ?_
 intro K _ _; rw [round_Excludes] at hr
 refine wsr ?_
 refine o_box rfl rfl ?_; intro b1 hb1
 refine oa rfl rfl (oa rfl rfl (nsr ?_))
 refine ov (v_loadA (cs := #[.slice walks_a walks.length walks_c, .slice hears_a hears.length hears_c, .int .i64 houses, .int .i64 start, .slice notices_a notices.length notices_c]) Try.isAgg26 Try.sizeOf26 rfl (Has.own 0 rfl) (nbL rfl) rfl) rfl ?_
 obtain ⟨l, n, h2, r3⟩ := b2_ok hr
 refine o_call0 rfl Try.call37 rfl rfl rfl (round_Before_w h_walks h_hears h_notices h2) ?_; rintro _ F4 _ hF5 hn6 ⟨a8, n12, c9, Lb10, rfl, rfl, hz11⟩
 replace hz11 := hz11.new fun p hp => hn6 p (by simp [hp])
 refine shO_L (lp (ln rfl)) ?_
 refine kO (kf (fS fO) kr) ?_
 refine ox rfl rfl rfl (ox rfl rfl rfl (oa rfl rfl (oa rfl rfl (shO_nil ?_))))
 refine kW (kd kr) ?_
 refine shW_ret ?_
 refine q_res2 Try.results13 (res_tmp rfl) (res_tmp rfl) (sr) ?_
 obtain ⟨rfl, rfl⟩ := inj2 r3
 exact ⟨_, _, _, _, rfl, rfl, hz11.any⟩
set_option maxHeartbeats 1000000 in
theorem slices_Clone_int_int_w {s__a : Option Addr} {s__c : Nat} {s_ : List Int} {F : FS} (h_s_ : RowR 1 (iE .i64) F s__a s__c s_) {r : List Int} (hr : slices_Clone_int_int s_ = some r) :
    SH.Spec Try.prog 49 #[.slice s__a s_.length s__c] F [] fun F' L' v => ∃ (ra : Option Addr) (rn : Nat) (rc : Nat) (rL : LH), v = .slice ra rn rc ∧ L' = rL ++ [] ∧ SlR 0 3 1 (iE .i64) F' ra rn rc r rL := by
 refine spec_of_shW (args := [.slice s__a s_.length s__c]) Try.func49 rfl Try.ntmps49 (nbL rfl) ?_
 intro K _ _; rw [slices_Clone_int_int] at hr
 refine wsr (oa rfl rfl (shO_nil (shW_seq (wsr (om rfl rfl ?_)))))
 refine ov (v_eqlNil Try.underlying30 rfl) rfl ?_
 refine shO_nil ?_
 refine shW_cond rfl (fun c1 => ?_) (fun c1 => ?_)
 · have r2 := nilIf_t hr (RowR.isNone h_s_ c1)
   refine wsr (oa rfl rfl (shO_nil (shW_ret (andThen_ret ?_))))
   refine q_res1 Try.results49 (res_tmp rfl) (sr) ?_
   obtain rfl := inj1 r2
   exact ⟨_, _, _, [], rfl, rfl, SlR.nil _ _ _ _ _⟩
 have r3 := nilIf_f hr
 refine shW_skip (wsr ?_)
 refine o_buildSlice (cs := #[]) rfl rfl (buildSlice_none slt_30) ?_; intro b4 hb4
 refine om rfl rfl ?_
 have hz6 : SlR K.w0.heap.size 3 1 (iE .i64) F (some ⟨b4, 0, none⟩) 0 0 ([] : List Int) [(b4, .cells #[] 3 (0, 0))] := SlR.of_block (vss := []) (iE_ok _) hb4 .nil rfl rfl (by simp [maxLen])
 generalize hLLb5 : ([(b4, .cells #[] 3 (0, 0))] : LH) = Lb5 at hz6
 refine shO_perm (L' := Lb5 ++ []) (by rw [← hLLb5]; exact fO) ?_
 obtain ⟨l, h8, g9, r10⟩ := ap_ok r3
 refine o_appZ (xs := ([] : List Int)) (ys := s_) (zs := l) rfl slt_30 rfl rfl (Nat.le_refl _) (fun _ => .h) hz6 (RowR.src h_s_) h8 g9 (by decide) ?_; intro a11 n15 c12 Lb13 hz14
 refine oa rfl rfl (shO_nil (shW_ret ?_))
 refine q_res1 Try.results49 (res_tmp rfl) (sr) ?_
 obtain rfl := inj1 r10
 exact ⟨_, _, _, _, rfl, rfl, hz14.any⟩
set_option maxHeartbeats 1000000 in
theorem round_Most_1B_w {rec_ : (List Int) → Int → (List (List Int)) → (List (List Int)) → Int → Int → (List ((List Int) × Int × Int)) → (List Int) → (List (Int × Int)) → (List Int) → (List Int) → (List (List Int)) → (List (List Int)) → Int → Int → (List ((List Int) × Int × Int)) → Option ((List Int))} (hrec : ∀ {l_a : Option Addr} {l_c : Nat} {l : List Int} {from_ : Int} {b_c b_c_ : Nat} {walks_a : Option Addr} {walks_c : Nat} {walks : List (List Int)} {hears_a : Option Addr} {hears_c : Nat} {hears : List (List Int)} {houses start : Int} {notices_a : Option Addr} {notices_c : Nat} {notices : List ((List Int) × Int × Int)} {walks2 : List Int} {pairs_a : Option Addr} {pairs_c : Nat} {pairs : List (Int × Int)} {hit : List Int} {mb_c_ mb_c : Nat × Nat} {b_out : Nat} {out_a : Option Addr} {out_c : Nat} {out : List Int} {b_b : Nat} {walks3_a : Option Addr} {walks3_c : Nat} {walks3 : List (List Int)} {hears2_a : Option Addr} {hears2_c : Nat} {hears2 : List (List Int)} {houses2 start2 : Int} {notices2_a : Option Addr} {notices2_c : Nat} {notices2 : List ((List Int) × Int × Int)} {mb_b : Nat × Nat} {b_more : Nat} {mb_more : Nat × Nat} {F : FS} (_ : RowR 1 (iE .i64) F l_a l_c l) (_ : F b_c = some (.cells #[.pointer (some ⟨b_c_, 0, none⟩)] 67 mb_c)) (_ : F b_c_ = some (.cells ((([.slice walks_a walks.length walks_c] : List Value) ++ (([.slice hears_a hears.length hears_c] : List Value) ++ (([.int .i64 houses] : List Value) ++ (([.int .i64 start] : List Value) ++ (([.slice notices_a notices.length notices_c] : List Value) ++ (walks2.flatMap (cI .i64) ++ (([.slice pairs_a pairs.length pairs_c] : List Value) ++ (hit.flatMap (cI .i64))))))))).toArray) 102 mb_c_)) (_ : RowR 1 (slE 1 (iE .i64)) F walks_a walks_c walks) (_ : RowR 1 (slE 1 (iE .i64)) F hears_a hears_c hears) (_ : RowR 3 (prE (slE 1 (iE .i64)) (prE (iE .i64) (iE .i64))) F notices_a notices_c notices) (_ : walks2.length = 25) (_ : RowR 2 (prE (iE .i64) (iE .i64)) F pairs_a pairs_c pairs) (_ : hit.length = 15) (_ : RowR 1 (iE .i64) F out_a out_c out) (_ : F b_b = some (.cells #[.slice walks3_a walks3.length walks3_c, .slice hears2_a hears2.length hears2_c, .int .i64 houses2, .int .i64 start2, .slice notices2_a notices2.length notices2_c] 26 mb_b)) (_ : RowR 1 (slE 1 (iE .i64)) F walks3_a walks3_c walks3) (_ : RowR 1 (slE 1 (iE .i64)) F hears2_a hears2_c hears2) (_ : RowR 3 (prE (slE 1 (iE .i64)) (prE (iE .i64) (iE .i64))) F notices2_a notices2_c notices2) (_ : F b_more = some (.cells (#[.func (.func 48) #[] #[.pointer (some ⟨b_c, 0, none⟩), .pointer (some ⟨b_out, 0, none⟩), .pointer (some ⟨b_b, 0, none⟩), .pointer (some ⟨b_more, 0, none⟩)]]) 95 mb_more)) {r : List Int} , rec_ l from_ walks hears houses start notices walks2 pairs hit out walks3 hears2 houses2 start2 notices2 = some r → SH.Spec Try.prog 48 #[.slice l_a l.length l_c, .int .i64 from_, .pointer (some ⟨b_c, 0, none⟩), .pointer (some ⟨b_out, 0, none⟩), .pointer (some ⟨b_b, 0, none⟩), .pointer (some ⟨b_more, 0, none⟩)] F [(b_out, .cells #[.slice out_a out.length out_c] 30 (0, 0))] fun F' L' v => ∃ (ra : Option Addr) (rc : Nat), v = .tuple #[] ∧ L' = [(b_out, .cells #[.slice ra r.length rc] 30 (0, 0))] ∧ RowR 1 (iE .i64) F' ra rc r) {l_a : Option Addr} {l_c : Nat} {l : List Int} {from_ : Int} {b_c b_c_ : Nat} {walks_a : Option Addr} {walks_c : Nat} {walks : List (List Int)} {hears_a : Option Addr} {hears_c : Nat} {hears : List (List Int)} {houses start : Int} {notices_a : Option Addr} {notices_c : Nat} {notices : List ((List Int) × Int × Int)} {walks2 : List Int} {pairs_a : Option Addr} {pairs_c : Nat} {pairs : List (Int × Int)} {hit : List Int} {mb_c_ mb_c : Nat × Nat} {b_out : Nat} {out_a : Option Addr} {out_c : Nat} {out : List Int} {b_b : Nat} {walks3_a : Option Addr} {walks3_c : Nat} {walks3 : List (List Int)} {hears2_a : Option Addr} {hears2_c : Nat} {hears2 : List (List Int)} {houses2 start2 : Int} {notices2_a : Option Addr} {notices2_c : Nat} {notices2 : List ((List Int) × Int × Int)} {mb_b : Nat × Nat} {b_more : Nat} {mb_more : Nat × Nat} {F : FS} (h_l : RowR 1 (iE .i64) F l_a l_c l) (hb_c : F b_c = some (.cells #[.pointer (some ⟨b_c_, 0, none⟩)] 67 mb_c)) (hb_c_ : F b_c_ = some (.cells ((([.slice walks_a walks.length walks_c] : List Value) ++ (([.slice hears_a hears.length hears_c] : List Value) ++ (([.int .i64 houses] : List Value) ++ (([.int .i64 start] : List Value) ++ (([.slice notices_a notices.length notices_c] : List Value) ++ (walks2.flatMap (cI .i64) ++ (([.slice pairs_a pairs.length pairs_c] : List Value) ++ (hit.flatMap (cI .i64))))))))).toArray) 102 mb_c_)) (h_walks : RowR 1 (slE 1 (iE .i64)) F walks_a walks_c walks) (h_hears : RowR 1 (slE 1 (iE .i64)) F hears_a hears_c hears) (h_notices : RowR 3 (prE (slE 1 (iE .i64)) (prE (iE .i64) (iE .i64))) F notices_a notices_c notices) (h_walks2 : walks2.length = 25) (h_pairs : RowR 2 (prE (iE .i64) (iE .i64)) F pairs_a pairs_c pairs) (h_hit : hit.length = 15) (h_out : RowR 1 (iE .i64) F out_a out_c out) (hb_b : F b_b = some (.cells #[.slice walks3_a walks3.length walks3_c, .slice hears2_a hears2.length hears2_c, .int .i64 houses2, .int .i64 start2, .slice notices2_a notices2.length notices2_c] 26 mb_b)) (h_walks3 : RowR 1 (slE 1 (iE .i64)) F walks3_a walks3_c walks3) (h_hears2 : RowR 1 (slE 1 (iE .i64)) F hears2_a hears2_c hears2) (h_notices2 : RowR 3 (prE (slE 1 (iE .i64)) (prE (iE .i64) (iE .i64))) F notices2_a notices2_c notices2) (hb_more : F b_more = some (.cells (#[.func (.func 48) #[] #[.pointer (some ⟨b_c, 0, none⟩), .pointer (some ⟨b_out, 0, none⟩), .pointer (some ⟨b_b, 0, none⟩), .pointer (some ⟨b_more, 0, none⟩)]]) 95 mb_more)) {r : List Int} (hr : round_Most_1B rec_ l from_ walks hears houses start notices walks2 pairs hit out walks3 hears2 houses2 start2 notices2 = some r) :
    SH.Spec Try.prog 48 #[.slice l_a l.length l_c, .int .i64 from_, .pointer (some ⟨b_c, 0, none⟩), .pointer (some ⟨b_out, 0, none⟩), .pointer (some ⟨b_b, 0, none⟩), .pointer (some ⟨b_more, 0, none⟩)] F [(b_out, .cells #[.slice out_a out.length out_c] 30 (0, 0))] fun F' L' v => ∃ (ra : Option Addr) (rc : Nat), v = .tuple #[] ∧ L' = [(b_out, .cells #[.slice ra r.length rc] 30 (0, 0))] ∧ RowR 1 (iE .i64) F' ra rc r := by
 refine spec_of_shW (args := [.slice l_a l.length l_c, .int .i64 from_, .pointer (some ⟨b_c, 0, none⟩), .pointer (some ⟨b_out, 0, none⟩), .pointer (some ⟨b_b, 0, none⟩), .pointer (some ⟨b_more, 0, none⟩)]) Try.func48 rfl Try.ntmps48 (nbL rfl) ?_
 intro K _ _; rw [round_Most_1B] at hr
 refine shW_seq (shW_seq ?_)
 refine shW_drawM [(.still, 0), (.still, 1), (.still, 2), (.still, 4), (.seq, 3), (.seq, 5), (.seq, 6), (.still, 7), (.still, 8), (.still, 9), (.still, 10), (.still, 11), (.still, 12), (.still, 13)] (by kernel_rfl) (by kernel_rfl) (trivial) (by rfl) (by kernel_rfl) ?_
 refine shM_v (v := .pointer (some ⟨b_c_, 0, none⟩)) (ek := [(2, .pointer (some ⟨b_c, 0, none⟩))]) (Ls := []) rfl rfl rfl rfl ((sc rfl (sn _))) (by kernel_rfl) sm (fun H F' L' hF' hL' => v_load Try.isAgg67 rfl ((Has.frozen hb_c).ext hF' hL') rfl) ?_
 refine shM_v (v := .pointer (some ⟨b_c_, 0, none⟩)) (ek := [(2, .pointer (some ⟨b_c, 0, none⟩))]) (Ls := []) rfl rfl rfl rfl ((sc rfl (sn _))) (by kernel_rfl) sm (fun H F' L' hF' hL' => v_load Try.isAgg67 rfl ((Has.frozen hb_c).ext hF' hL') rfl) ?_
 refine shM_v (v := .slice l_a l.length l_c) (ek := [(0, .slice l_a l.length l_c)]) (Ls := []) rfl rfl rfl rfl ((sc rfl (sn _))) (by kernel_rfl) sm (fun H F' L' hF' hL' => v_move rfl) ?_
 refine shM_v (v := .pointer (some ⟨b_c_, 0, none⟩)) (ek := [(2, .pointer (some ⟨b_c, 0, none⟩))]) (Ls := []) rfl rfl rfl rfl ((sc rfl (sn _))) (by kernel_rfl) sm (fun H F' L' hF' hL' => v_load Try.isAgg67 rfl ((Has.frozen hb_c).ext hF' hL') rfl) ?_
 refine ⟨_, [(14, .pointer (some ⟨b_c_, 0, none⟩)), (15, .slice l_a l.length l_c)], rfl, rfl, (sc rfl (sc rfl (sn _))), by kernel_rfl, ?_⟩; intro H
 obtain ⟨n, h1, r2⟩ := b1_ok hr
 refine o_callV rfl Try.call28 rfl rfl rfl (round_crier_of_w hb_c_ h_walks h_hears h_notices h_walks2 h_pairs h_hit h_l h1) ?_
 refine shO_nil ⟨_, rfl, FExt.refl _, [4, 0], by kernel_rfl, .inl (.inr (fun d h => by cases h; rfl)), (List.forall_mem_cons.2 ⟨sm, (List.forall_mem_cons.2 ⟨sm, (fun _ h => absurd h List.not_mem_nil)⟩)⟩), ?_⟩
 refine ⟨_, [(17, .pointer (some ⟨b_c_, 0, none⟩))], rfl, rfl, (sc rfl (sn _)), by kernel_rfl, ?_⟩; intro H
 obtain ⟨y, h3, r4⟩ := b1_ok r2
 refine o_call0 rfl Try.call29 rfl rfl rfl (round_crier_hours_w hb_c_ h_walks h_hears h_notices h_walks2 h_pairs h_hit h3) ?_; rintro _ F5 _ hF6 hn7 ⟨fi9, fc10, cp11, rfl, rfl, hit12⟩
 replace h_l := h_l.mono (iE_ok _) hF6
 replace h_walks := h_walks.mono (slE_ok (iE_ok _)) hF6
 replace h_hears := h_hears.mono (slE_ok (iE_ok _)) hF6
 replace h_notices := h_notices.mono (prE_ok (slE_ok (iE_ok _)) (prE_ok (iE_ok _) (iE_ok _))) hF6
 replace h_pairs := h_pairs.mono (prE_ok (iE_ok _) (iE_ok _)) hF6
 replace h_out := h_out.mono (iE_ok _) hF6
 replace h_walks3 := h_walks3.mono (slE_ok (iE_ok _)) hF6
 replace h_hears2 := h_hears2.mono (slE_ok (iE_ok _)) hF6
 replace h_notices2 := h_notices2.mono (prE_ok (slE_ok (iE_ok _)) (prE_ok (iE_ok _) (iE_ok _))) hF6
 replace hb_c_ := hF6 _ _ hb_c_
 replace hb_c := hF6 _ _ hb_c
 replace hb_b := hF6 _ _ hb_b
 replace hb_more := hF6 _ _ hb_more
 refine shO_L (ln rfl) ?_
 refine shO_nil ⟨_, rfl, hF6, [0], by kernel_rfl, .inl (.inr (fun d h => by cases h; rfl)), (List.forall_mem_cons.2 ⟨sm, (fun _ h => absurd h List.not_mem_nil)⟩), ?_⟩
 refine ⟨_, [(13, .pointer (some ⟨b_c_, 0, none⟩)), (16, .int .i64 n), (18, .agg #[.func (.func fi9) fc10 cp11])], rfl, rfl, (sc rfl (sc rfl (sc rfl (sn _)))), by kernel_rfl, ?_⟩; intro H
 obtain ⟨l2, n2, ok, h13, r14⟩ := b3_ok r4
 refine o_call0 rfl Try.call27 rfl rfl rfl (round_crier_serve_w hb_c_ h_walks h_hears h_notices h_walks2 h_pairs h_hit hit12 h13) ?_; rintro _ F15 _ hF16 hn17 ⟨a19, n23, c20, Lb21, rfl, rfl, hz22⟩
 replace h_l := h_l.mono (iE_ok _) hF16
 replace h_walks := h_walks.mono (slE_ok (iE_ok _)) hF16
 replace h_hears := h_hears.mono (slE_ok (iE_ok _)) hF16
 replace h_notices := h_notices.mono (prE_ok (slE_ok (iE_ok _)) (prE_ok (iE_ok _) (iE_ok _))) hF16
 replace h_pairs := h_pairs.mono (prE_ok (iE_ok _) (iE_ok _)) hF16
 replace h_out := h_out.mono (iE_ok _) hF16
 replace h_walks3 := h_walks3.mono (slE_ok (iE_ok _)) hF16
 replace h_hears2 := h_hears2.mono (slE_ok (iE_ok _)) hF16
 replace h_notices2 := h_notices2.mono (prE_ok (slE_ok (iE_ok _)) (prE_ok (iE_ok _) (iE_ok _))) hF16
 replace hb_c_ := hF16 _ _ hb_c_
 replace hb_c := hF16 _ _ hb_c
 replace hb_b := hF16 _ _ hb_b
 replace hb_more := hF16 _ _ hb_more
 refine shO_L (lp (ln rfl)) ?_
 refine kO (kf (fS fO) kr) ?_
 refine shO_nil ⟨_, rfl, hF16, [], by kernel_rfl, .inl (.inl rfl), (fun _ h => absurd h List.not_mem_nil), ?_⟩
 refine shM_v (v := .tuple #[.slice a19 n23 c20, .int .i64 n2, .bool ok]) (ek := [(19, .tuple #[.slice a19 n23 c20, .int .i64 n2, .bool ok])]) (Ls := []) rfl rfl rfl rfl ((sc rfl (sn _))) (by kernel_rfl) sm (fun H F' L' hF' hL' => v_move rfl) ?_
 refine shM_v (v := .slice a19 n23 c20) (ek := [(12, .tuple #[.slice a19 n23 c20, .int .i64 n2, .bool ok])]) (Ls := []) rfl rfl rfl rfl ((sc rfl (sn _))) (by kernel_rfl) sm (fun H F' L' hF' hL' => v_extract rfl rfl) ?_
 refine shM_v (v := .int .i64 n2) (ek := [(12, .tuple #[.slice a19 n23 c20, .int .i64 n2, .bool ok])]) (Ls := []) rfl rfl rfl rfl ((sc rfl (sn _))) (by kernel_rfl) sm (fun H F' L' hF' hL' => v_extract rfl rfl) ?_
 refine shM_v (v := .bool ok) (ek := [(12, .tuple #[.slice a19 n23 c20, .int .i64 n2, .bool ok])]) (Ls := []) rfl rfl rfl rfl ((sc rfl (sn _))) (by kernel_rfl) sm (fun H F' L' hF' hL' => v_extract rfl rfl) ?_
 refine shM_v (v := .slice a19 n23 c20) (ek := [(20, .slice a19 n23 c20)]) (Ls := []) rfl rfl rfl rfl ((sc rfl (sn _))) (by kernel_rfl) sm (fun H F' L' hF' hL' => v_assign rfl) ?_
 refine shM_v (v := .int .i64 n2) (ek := [(21, .int .i64 n2)]) (Ls := []) rfl rfl rfl rfl ((sc rfl (sn _))) (by kernel_rfl) sm (fun H F' L' hF' hL' => v_assign rfl) ?_
 refine shM_v (v := .bool ok) (ek := [(22, .bool ok)]) (Ls := []) rfl rfl rfl rfl ((sc rfl (sn _))) (by kernel_rfl) sm (fun H F' L' hF' hL' => v_assign rfl) ?_
 refine shM_nil ?_
 refine wsr (om rfl rfl ?_)
 refine ov (v_notB rfl) rfl ?_
 refine shO_nil ?_
 refine shW_cond rfl (fun c25 => ?_) (fun c25 => ?_)
 · have r26 := bt r14 c25
   refine kW (kc kn) ?_
   refine shW_ret (andThen_ret ?_)
   refine q_end0 (.inl rfl) Try.results48 ?_
   obtain rfl := inj1 r26
   exact ⟨_, _, rfl, rfl, h_out⟩
 have r27 := bf r14 c25
 refine shW_skip ?_
 obtain ⟨out2, h31, r32⟩ := b1_ok r27
 refine shW_join (fun e1 F1 L1 => ∃ (a28 : Option Addr) (c29 : Nat), F15 = F1 ∧ L1 = [(b_out, .cells #[.slice a28 out2.length c29] 30 (0, 0))] ∧ e1.sub [(0, .slice l_a l.length l_c), (1, .int .i64 from_), (4, .pointer (some ⟨b_b, 0, none⟩)), (5, .pointer (some ⟨b_more, 0, none⟩))] ∧ RowR 1 (iE .i64) F1 a28 c29 out2) ?_ ?_
 · clear r32
   refine wsr (om rfl rfl ?_)
   refine ov (v_lenS Try.underlying30 rfl) rfl ?_
   refine ov (v_load Try.isAgg30 rfl (Has.own 0 rfl) rfl) rfl ?_
   refine ov (v_lenS Try.underlying30 rfl) rfl ?_
   refine ov (v_gtrK rfl rfl) rfl ?_
   refine shO_nil ?_
   refine shW_condP rfl (fun c33 => ?_) (fun c33 => ?_)
   · have r34 := ite_t h31 c33
     refine shW_region (om rfl rfl ?_)
     refine o_store (i := 0) Try.sizeOf30 rfl rfl rfl rfl (nbL rfl) ?_
     refine shO_L (L' := (b_out, .cells #[.slice l_a l.length l_c] 30 (0, 0)) :: (Lb21 ++ [])) rfl ?_
     refine shO_nil ?_
     obtain rfl := inj1 r34
     exact mi (kc kn) ⟨l_a, l_c, rfl, rfl, (sc rfl (sc rfl (sc rfl (sc rfl (sn _))))), h_l⟩
   have r35 := ite_f h31 c33
   refine shW_skip ?_
   obtain rfl := inj1 r35
   exact mi (kc kn) ⟨out_a, out_c, rfl, rfl, (sc rfl (sc rfl (sc rfl (sc rfl (sn _))))), h_out⟩
 rintro e1 _ _ ⟨a28, c29, rfl, rfl, he36, h30⟩
 refine shW_env _ he36 ?_
 refine wsr (om rfl rfl (oa rfl rfl (shO_nil ?_)))
 refine shW_block ?_
 obtain ⟨g40, r41⟩ := gd_ok r32
 refine shW_lp (fun fu1 e1 F1 L1 => ∃ (n3 : Int), Ctr from_ (notices2.length : Int) n3 fu1 ∧ ∃ (out3 : List Int) (a37 : Option Addr) (c38 : Nat), round_Most_1B_l1 l walks hears houses start notices walks2 pairs hit walks3 hears2 houses2 start2 notices2 rec_ fu1 n3 out3 = some r ∧ FExt F15 F1 ∧ L1 = [(b_out, .cells #[.slice a37 out3.length c38] 30 (0, 0))] ∧ e1.sub [(0, .slice l_a l.length l_c), (4, .pointer (some ⟨b_b, 0, none⟩)), (5, .pointer (some ⟨b_more, 0, none⟩)), (11, .int .i64 n3)] ∧ RowR 1 (iE .i64) F1 a37 c38 out3) _ (m0 kr ⟨_, Ctr.start _ _, out2, a28, c29, r41, FExt.refl _, rfl, (sc rfl (sc rfl (sc rfl (sc rfl (sn _))))), h30⟩) ?_
 rintro fu1 e1 F46 _ ⟨n3, hk42, out3, a37, c38, r44, hF47, rfl, he45, h39⟩
 refine shW_env _ he45 ?_
 replace h_l := h_l.mono (iE_ok _) hF47
 replace h_walks := h_walks.mono (slE_ok (iE_ok _)) hF47
 replace h_hears := h_hears.mono (slE_ok (iE_ok _)) hF47
 replace h_notices := h_notices.mono (prE_ok (slE_ok (iE_ok _)) (prE_ok (iE_ok _) (iE_ok _))) hF47
 replace h_pairs := h_pairs.mono (prE_ok (iE_ok _) (iE_ok _)) hF47
 replace h_walks3 := h_walks3.mono (slE_ok (iE_ok _)) hF47
 replace h_hears2 := h_hears2.mono (slE_ok (iE_ok _)) hF47
 replace h_notices2 := h_notices2.mono (prE_ok (slE_ok (iE_ok _)) (prE_ok (iE_ok _) (iE_ok _))) hF47
 replace hb_c_ := hF47 _ _ hb_c_
 replace hb_c := hF47 _ _ hb_c
 replace hb_b := hF47 _ _ hb_b
 replace hb_more := hF47 _ _ hb_more
 refine shW_seq (wsr (om rfl rfl ?_))
 refine ov (v_fieldAddr fa_26_4 rfl) rfl ?_
 refine ov (v_load Try.isAgg24 rfl (Has.frozen hb_b) rfl) rfl ?_
 refine ov (v_lenS Try.underlying24 rfl) rfl ?_
 refine ov (v_lssK rfl rfl) rfl ?_
 refine shO_nil ?_
 refine shW_condP rfl (fun c49 => ?_) (fun c49 => ?_)
 · obtain ⟨fu1, rfl, hk50⟩ := Ctr.succ hk42 c49
   rw [round_Most_1B_l1] at r44
   refine shW_skip (shW_seq ?_)
   refine shW_block ?_
   refine shW_drawM [(.still, 0), (.still, 1), (.still, 3), (.pre, 4), (.still, 6), (.still, 7), (.seq, 2), (.alloc (.cells #[.int .i64 n3] 3 (0, 0)) (fun b => .slice (some ⟨b, 0, none⟩) 1 1) [(42, .int .i64 n3)], 4), (.seq, 5), (.seq, 8)] (by kernel_rfl) (by kernel_rfl) (⟨⟨_, _, rfl, rfl, rfl, rfl, rfl, mk_build rfl (buildSlice_all slt_30 [.int .i64 n3] rfl (by decide) (by simp [Value.cells]) (by decide))⟩, trivial⟩) (by rfl) (by kernel_rfl) ?_
   refine shM_v (v := .func (.func 48) #[] #[.pointer (some ⟨b_c, 0, none⟩), .pointer (some ⟨b_out, 0, none⟩), .pointer (some ⟨b_b, 0, none⟩), .pointer (some ⟨b_more, 0, none⟩)]) (ek := [(5, .pointer (some ⟨b_more, 0, none⟩))]) (Ls := []) rfl rfl rfl rfl ((sc rfl (sn _))) (by kernel_rfl) sm (fun H F' L' hF' hL' => v_load Try.isAgg95 rfl ((Has.frozen hb_more).ext hF' hL') rfl) ?_
   refine shM_v (v := .slice l_a l.length l_c) (ek := [(0, .slice l_a l.length l_c)]) (Ls := []) rfl rfl rfl rfl ((sc rfl (sn _))) (by kernel_rfl) sm (fun H F' L' hF' hL' => v_move rfl) ?_
   refine shM_v (v := .int .i64 n3) (ek := [(11, .int .i64 n3)]) (Ls := []) rfl rfl rfl rfl ((sc rfl (sn _))) (by kernel_rfl) sm (fun H F' L' hF' hL' => v_move rfl) ?_
   refine ⟨⟨_, rfl, (sc rfl (sn _)), by kernel_rfl⟩, ?_⟩
   refine shM_v (v := .int .i64 n3) (ek := [(11, .int .i64 n3)]) (Ls := []) rfl rfl rfl rfl ((sc rfl (sn _))) (by kernel_rfl) sm (fun H F' L' hF' hL' => v_move rfl) ?_
   refine shM_v (v := .int .i64 (n3 + 1)) (ek := [(45, .int .i64 n3)]) (Ls := []) rfl rfl rfl rfl ((sc rfl (sn _))) (by kernel_rfl) sm (fun H F' L' hF' hL' => v_add rfl rfl (Ctr.r64 hk42 c49 g40)) ?_
   refine ⟨_, [(40, .slice l_a l.length l_c)], rfl, rfl, (sc rfl (sn _)), by kernel_rfl, ?_⟩; intro H
   obtain ⟨l3, h51, r52⟩ := b1_ok r44
   refine o_call0 rfl Try.call49 rfl rfl rfl (slices_Clone_int_int_w h_l h51) ?_; rintro _ F53 _ hF54 hn55 ⟨a57, n61, c58, Lb59, rfl, rfl, hz60⟩
   replace h_walks := h_walks.mono (slE_ok (iE_ok _)) hF54
   replace h_hears := h_hears.mono (slE_ok (iE_ok _)) hF54
   replace h_notices := h_notices.mono (prE_ok (slE_ok (iE_ok _)) (prE_ok (iE_ok _) (iE_ok _))) hF54
   replace h_pairs := h_pairs.mono (prE_ok (iE_ok _) (iE_ok _)) hF54
   replace h_walks3 := h_walks3.mono (slE_ok (iE_ok _)) hF54
   replace h_hears2 := h_hears2.mono (slE_ok (iE_ok _)) hF54
   replace h_notices2 := h_notices2.mono (prE_ok (slE_ok (iE_ok _)) (prE_ok (iE_ok _) (iE_ok _))) hF54
   replace h39 := h39.mono (iE_ok _) hF54
   replace hb_c_ := hF54 _ _ hb_c_
   replace hb_c := hF54 _ _ hb_c
   replace hb_b := hF54 _ _ hb_b
   replace hb_more := hF54 _ _ hb_more
   replace hz60 := hz60.new fun p hp => hn55 p (by simp [hp])
   refine shO_L (lp (ln rfl)) ?_
   refine kO (kf (fS fO) kr) ?_
   refine shO_nil ⟨_, rfl, hF54, [7, 6, 3, 0], by kernel_rfl, .inl (.inr (fun d h => by cases h; rfl)), (List.forall_mem_cons.2 ⟨sm, (List.forall_mem_cons.2 ⟨sm, (List.forall_mem_cons.2 ⟨sm, (List.forall_mem_cons.2 ⟨sm, (fun _ h => absurd h List.not_mem_nil)⟩)⟩)⟩)⟩), ?_⟩
   refine shM_bs rfl ?_; intro b63 hb63
   refine shM_L (L' := (b63, .cells #[.int .i64 n3] 3 (0, 0)) :: ((b_out, .cells #[.slice a37 out3.length c38] 30 (0, 0)) :: (Lb59 ++ []))) rfl ?_
   refine ⟨_, [(41, .slice a57 n61 c58), (43, .slice (some ⟨b63, 0, none⟩) 1 1)], rfl, rfl, (sc rfl (sc rfl (sn _))), by kernel_rfl, ?_⟩; intro H
   obtain ⟨l4, h64, g65, r66⟩ := ap_ok r52
   refine o_appZ (xs := l3) (ys := [n3]) (zs := l4) rfl slt_30 rfl rfl (Nat.le_refl _) (fun _ => .c (.c .h)) hz60 (SrcR.box (vss := [[.int .i64 n3]]) (ys := [n3]) 0 rfl (iE_ok _) (.cons rfl .nil) rfl rfl) h64 g65 (by decide) ?_; intro a67 n71 c68 Lb69 hz70
   refine kO (kd kr) ?_
   refine shO_nil ⟨_, rfl, FExt.refl _, [7, 6, 0], by kernel_rfl, .inl (.inr (fun d h => by cases h; rfl)), (List.forall_mem_cons.2 ⟨sm, (List.forall_mem_cons.2 ⟨sm, (List.forall_mem_cons.2 ⟨sm, (fun _ h => absurd h List.not_mem_nil)⟩)⟩)⟩), ?_⟩
   refine ⟨_, [(39, .func (.func 48) #[] #[.pointer (some ⟨b_c, 0, none⟩), .pointer (some ⟨b_out, 0, none⟩), .pointer (some ⟨b_b, 0, none⟩), .pointer (some ⟨b_more, 0, none⟩)]), (44, .slice a67 n71 c68), (46, .int .i64 (n3 + 1))], rfl, rfl, (sc rfl (sc rfl (sc rfl (sn _)))), by kernel_rfl, ?_⟩; intro H
   obtain rfl := (SlR.caps hz70).1
   refine shO_freezeR (Nat.le_refl _) (iE_ok _) (fC fP) hz70 ?_; intro F73 hF74 h75
   replace h_walks := h_walks.mono (slE_ok (iE_ok _)) hF74
   replace h_hears := h_hears.mono (slE_ok (iE_ok _)) hF74
   replace h_notices := h_notices.mono (prE_ok (slE_ok (iE_ok _)) (prE_ok (iE_ok _) (iE_ok _))) hF74
   replace h_pairs := h_pairs.mono (prE_ok (iE_ok _) (iE_ok _)) hF74
   replace h_walks3 := h_walks3.mono (slE_ok (iE_ok _)) hF74
   replace h_hears2 := h_hears2.mono (slE_ok (iE_ok _)) hF74
   replace h_notices2 := h_notices2.mono (prE_ok (slE_ok (iE_ok _)) (prE_ok (iE_ok _) (iE_ok _))) hF74
   replace h39 := h39.mono (iE_ok _) hF74
   replace hb_c_ := hF74 _ _ hb_c_
   replace hb_c := hF74 _ _ hb_c
   replace hb_b := hF74 _ _ hb_b
   replace hb_more := hF74 _ _ hb_more
   obtain ⟨out4, h76, r77⟩ := b1_ok r66
   refine o_callG (Lb := [(b_out, .cells #[.slice a37 out3.length c38] 30 (0, 0))]) (Lr := []) rfl Try.call48 rfl rfl rfl (pR) (hrec h75 hb_c hb_c_ h_walks h_hears h_notices h_walks2 h_pairs h_hit h39 hb_b h_walks3 h_hears2 h_notices2 hb_more h76) ?_; rintro _ F78 _ hF79 hd81 hn80 ⟨a82, c83, rfl, rfl, h84⟩
   refine shO_L (lb (ln rfl)) ?_
   refine shO_nil ⟨_, rfl, (hF74.trans hF79), [], by kernel_rfl, .inl (.inl rfl), (fun _ h => absurd h List.not_mem_nil), ?_⟩
   refine shM_nil ?_
   refine inBlock_n (id := 1) (shW_region (om rfl rfl ?_))
   refine ov (v_add rfl rfl (Ctr.r64 hk42 c49 g40)) rfl ?_
   refine oa rfl rfl (shO_nil ?_)
   exact le kr ⟨_, hk50, out4, a82, c83, r77, (((hF47.trans hF54).trans hF74).trans hF79), rfl, (sc rfl (sc rfl (sc rfl (sc rfl (sn _))))), h84⟩
 obtain rfl := Ctr.zero hk42 c49
 rw [round_Most_1B_l1] at r44
 refine shW_exit (andThen_exit (andThen_exit ?_))
 refine inBlock_exit ?_
 refine q_end0 (.inr rfl) Try.results48 ?_
 obtain rfl := inj1 r44
 exact ⟨_, _, rfl, rfl, h39⟩
set_option maxHeartbeats 1000000 in
theorem round_Most_1_w : ∀ (fu : Nat) {l_a : Option Addr} {l_c : Nat} {l : List Int} {from_ : Int} {b_c b_c_ : Nat} {walks_a : Option Addr} {walks_c : Nat} {walks : List (List Int)} {hears_a : Option Addr} {hears_c : Nat} {hears : List (List Int)} {houses start : Int} {notices_a : Option Addr} {notices_c : Nat} {notices : List ((List Int) × Int × Int)} {walks2 : List Int} {pairs_a : Option Addr} {pairs_c : Nat} {pairs : List (Int × Int)} {hit : List Int} {mb_c_ mb_c : Nat × Nat} {b_out : Nat} {out_a : Option Addr} {out_c : Nat} {out : List Int} {b_b : Nat} {walks3_a : Option Addr} {walks3_c : Nat} {walks3 : List (List Int)} {hears2_a : Option Addr} {hears2_c : Nat} {hears2 : List (List Int)} {houses2 start2 : Int} {notices2_a : Option Addr} {notices2_c : Nat} {notices2 : List ((List Int) × Int × Int)} {mb_b : Nat × Nat} {b_more : Nat} {mb_more : Nat × Nat} {F : FS} (_ : RowR 1 (iE .i64) F l_a l_c l) (_ : F b_c = some (.cells #[.pointer (some ⟨b_c_, 0, none⟩)] 67 mb_c)) (_ : F b_c_ = some (.cells ((([.slice walks_a walks.length walks_c] : List Value) ++ (([.slice hears_a hears.length hears_c] : List Value) ++ (([.int .i64 houses] : List Value) ++ (([.int .i64 start] : List Value) ++ (([.slice notices_a notices.length notices_c] : List Value) ++ (walks2.flatMap (cI .i64) ++ (([.slice pairs_a pairs.length pairs_c] : List Value) ++ (hit.flatMap (cI .i64))))))))).toArray) 102 mb_c_)) (_ : RowR 1 (slE 1 (iE .i64)) F walks_a walks_c walks) (_ : RowR 1 (slE 1 (iE .i64)) F hears_a hears_c hears) (_ : RowR 3 (prE (slE 1 (iE .i64)) (prE (iE .i64) (iE .i64))) F notices_a notices_c notices) (_ : walks2.length = 25) (_ : RowR 2 (prE (iE .i64) (iE .i64)) F pairs_a pairs_c pairs) (_ : hit.length = 15) (_ : RowR 1 (iE .i64) F out_a out_c out) (_ : F b_b = some (.cells #[.slice walks3_a walks3.length walks3_c, .slice hears2_a hears2.length hears2_c, .int .i64 houses2, .int .i64 start2, .slice notices2_a notices2.length notices2_c] 26 mb_b)) (_ : RowR 1 (slE 1 (iE .i64)) F walks3_a walks3_c walks3) (_ : RowR 1 (slE 1 (iE .i64)) F hears2_a hears2_c hears2) (_ : RowR 3 (prE (slE 1 (iE .i64)) (prE (iE .i64) (iE .i64))) F notices2_a notices2_c notices2) (_ : F b_more = some (.cells (#[.func (.func 48) #[] #[.pointer (some ⟨b_c, 0, none⟩), .pointer (some ⟨b_out, 0, none⟩), .pointer (some ⟨b_b, 0, none⟩), .pointer (some ⟨b_more, 0, none⟩)]]) 95 mb_more)) {r : List Int} , round_Most_1 fu l from_ walks hears houses start notices walks2 pairs hit out walks3 hears2 houses2 start2 notices2 = some r → SH.Spec Try.prog 48 #[.slice l_a l.length l_c, .int .i64 from_, .pointer (some ⟨b_c, 0, none⟩), .pointer (some ⟨b_out, 0, none⟩), .pointer (some ⟨b_b, 0, none⟩), .pointer (some ⟨b_more, 0, none⟩)] F [(b_out, .cells #[.slice out_a out.length out_c] 30 (0, 0))] fun F' L' v => ∃ (ra : Option Addr) (rc : Nat), v = .tuple #[] ∧ L' = [(b_out, .cells #[.slice ra r.length rc] 30 (0, 0))] ∧ RowR 1 (iE .i64) F' ra rc r := by
  intro fu
  induction fu with
  | zero => intros; rename_i hr; rw [round_Most_1] at hr; cases hr
  | succ fu ih => intros; rename_i hr; rw [round_Most_1] at hr; exact round_Most_1B_w ih (by assumption) (by assumption) (by assumption) (by assumption) (by assumption) (by assumption) (by assumption) (by assumption) (by assumption) (by assumption) (by assumption) (by assumption) (by assumption) (by assumption) (by assumption) hr
set_option maxHeartbeats 1000000 in
theorem round_Most_w {walks_a : Option Addr} {walks_c : Nat} {walks : List (List Int)} {hears_a : Option Addr} {hears_c : Nat} {hears : List (List Int)} {houses start : Int} {notices_a : Option Addr} {notices_c : Nat} {notices : List ((List Int) × Int × Int)} {F : FS} (h_walks : RowR 1 (slE 1 (iE .i64)) F walks_a walks_c walks) (h_hears : RowR 1 (slE 1 (iE .i64)) F hears_a hears_c hears) (h_notices : RowR 3 (prE (slE 1 (iE .i64)) (prE (iE .i64) (iE .i64))) F notices_a notices_c notices) {r : List Int} {r2 : Int} (hr : round_Most walks hears houses start notices = some (r, r2)) :
    SH.Spec Try.prog 21 #[.agg #[.slice walks_a walks.length walks_c, .slice hears_a hears.length hears_c, .int .i64 houses, .int .i64 start, .slice notices_a notices.length notices_c]] F [] fun F' L' v => ∃ (ra : Option Addr) (rc : Nat), v = .tuple #[.slice ra r.length rc, .int .i64 r2] ∧ L' = [] ∧ RowR 1 (iE .i64) F' ra rc r := by
 refine spec_of_shW (args := [.agg #[.slice walks_a walks.length walks_c, .slice hears_a hears.length hears_c, .int .i64 houses, .int .i64 start, .slice notices_a notices.length notices_c]]) Try.func21 rfl Try.ntmps21 (nbL rfl) ?_
 intro K _ _; rw [round_Most] at hr
 refine wsr ?_
 refine o_box rfl rfl ?_; intro b1 hb1
 refine oa rfl rfl (oa rfl rfl (nsr ?_))
 refine ov (v_loadA (cs := #[.slice walks_a walks.length walks_c, .slice hears_a hears.length hears_c, .int .i64 houses, .int .i64 start, .slice notices_a notices.length notices_c]) Try.isAgg26 Try.sizeOf26 rfl (Has.own 0 rfl) (nbL rfl) rfl) rfl ?_
 obtain ⟨d, n, h2, r3⟩ := b2_ok hr
 refine o_call0 rfl Try.call26 rfl rfl rfl (round_opened_w h_walks h_hears h_notices h2) ?_; rintro _ F4 _ hF5 hn6 ⟨v8, rfl, rfl, hp9⟩
 replace h_walks := h_walks.mono (slE_ok (iE_ok _)) hF5
 replace h_hears := h_hears.mono (slE_ok (iE_ok _)) hF5
 replace h_notices := h_notices.mono (prE_ok (slE_ok (iE_ok _)) (prE_ok (iE_ok _) (iE_ok _))) hF5
 refine shO_L (ln rfl) ?_
 refine om rfl rfl (ox rfl rfl rfl (ox rfl rfl rfl ?_))
 refine o_alloc rfl Try.zeroValue67 ?_; intro b10 hb10
 refine o_store (i := 0) Try.sizeOf67 rfl rfl (PtrR.one hp9) rfl (nbL rfl) ?_
 refine shO_L (L' := [(b10, .cells #[v8] 67 (0, 0)), (b1, .cells #[.slice walks_a walks.length walks_c, .slice hears_a hears.length hears_c, .int .i64 houses, .int .i64 start, .slice notices_a notices.length notices_c] 26 (0, 0))]) rfl ?_
 refine oa rfl rfl (shO_nil (shW_seq (wsr (om rfl rfl ?_))))
 refine ov (v_neq rfl rfl) rfl ?_
 refine shO_nil ?_
 refine shW_condP rfl (fun c11 => ?_) (fun c11 => ?_)
 · have r12 := ite_t r3 c11
   refine wsr (om rfl rfl (oa rfl rfl (oa rfl rfl (shO_nil ?_))))
   refine kW kn ?_
   refine shW_ret (andThen_ret ?_)
   refine q_res2 Try.results21 (res_tmp rfl) (res_tmp rfl) (sr) ?_
   obtain ⟨rfl, rfl⟩ := inj2 r12
   exact ⟨_, _, rfl, rfl, RowR.nil _ _ _⟩
 have r13 := ite_f r3 c11
 refine shW_skip (wsr ?_)
 refine o_alloc rfl Try.zeroValue30 ?_; intro b14 hb14
 refine nsr ?_
 refine o_alloc rfl Try.zeroValue95 ?_; intro b15 hb15
 refine nsr ?_
 refine ov (v_makeFunc rfl rfl) rfl ?_
 refine o_store (i := 0) Try.sizeOf95 rfl rfl rfl rfl (nbL rfl) ?_
 refine shO_L (L' := [(b15, .cells (#[.func (.func 48) #[] #[.pointer (some ⟨b10, 0, none⟩), .pointer (some ⟨b14, 0, none⟩), .pointer (some ⟨b1, 0, none⟩), .pointer (some ⟨b15, 0, none⟩)]]) 95 (0, 0)), (b14, .cells #[.slice none 0 0] 30 (0, 0)), (b10, .cells #[v8] 67 (0, 0)), (b1, .cells #[.slice walks_a walks.length walks_c, .slice hears_a hears.length hears_c, .int .i64 houses, .int .i64 start, .slice notices_a notices.length notices_c] 26 (0, 0))]) rfl ?_
 refine nsr ?_
 refine ov (v_load Try.isAgg95 rfl (Has.own 0 rfl) rfl) rfl ?_
 refine shO_freeze 2 rfl hb10 ?_; intro F16 hF17 hz18
 refine shO_L (L' := [(b15, .cells (#[.func (.func 48) #[] #[.pointer (some ⟨b10, 0, none⟩), .pointer (some ⟨b14, 0, none⟩), .pointer (some ⟨b1, 0, none⟩), .pointer (some ⟨b15, 0, none⟩)]]) 95 (0, 0)), (b14, .cells #[.slice none 0 0] 30 (0, 0)), (b1, .cells #[.slice walks_a walks.length walks_c, .slice hears_a hears.length hears_c, .int .i64 houses, .int .i64 start, .slice notices_a notices.length notices_c] 26 (0, 0))]) rfl ?_
 replace h_walks := h_walks.mono (slE_ok (iE_ok _)) hF17
 replace h_hears := h_hears.mono (slE_ok (iE_ok _)) hF17
 replace h_notices := h_notices.mono (prE_ok (slE_ok (iE_ok _)) (prE_ok (iE_ok _) (iE_ok _))) hF17
 replace hp9 := hp9.mono (prE_ok (slE_ok (slE_ok (iE_ok _))) (prE_ok (slE_ok (slE_ok (iE_ok _))) (prE_ok (iE_ok _) (prE_ok (iE_ok _) (prE_ok (slE_ok (prE_ok (slE_ok (iE_ok _)) (prE_ok (iE_ok _) (iE_ok _)))) (prE_ok (arE_ok (n := 25) (sz := 1) (cI_ok .i64)) (prE_ok (slE_ok (prE_ok (iE_ok _) (iE_ok _))) (arE_ok (n := 15) (sz := 1) (cI_ok .i64))))))))) hF17
 obtain ⟨walks2, hears2, houses2, start2, notices2, walks3, pairs, hit, h19, r20⟩ := b8_ok r13
 have h40 := hp9; rw [h19] at h40; obtain ⟨b21, c22, m23, hv24, hz25, ⟨_, _, rfl, ⟨a26, c27, rfl, h28⟩, ⟨_, _, rfl, ⟨a29, c30, rfl, h31⟩, ⟨_, _, rfl, rfl, ⟨_, _, rfl, rfl, ⟨_, _, rfl, ⟨a32, c33, rfl, h34⟩, ⟨_, _, rfl, ⟨rfl, h35⟩, ⟨_, _, rfl, ⟨a36, c37, rfl, h38⟩, ⟨rfl, h39⟩⟩⟩⟩⟩⟩⟩⟩⟩ := h40; subst hv24
 have hz25 : F16 b21 = some (.cells ((([.slice a26 walks2.length c27] : List Value) ++ (([.slice a29 hears2.length c30] : List Value) ++ (([.int .i64 houses2] : List Value) ++ (([.int .i64 start2] : List Value) ++ (([.slice a32 notices2.length c33] : List Value) ++ (walks3.flatMap (cI .i64) ++ (([.slice a36 pairs.length c37] : List Value) ++ (hit.flatMap (cI .i64))))))))).toArray) 102 m23) := hz25
 refine shO_freeze 2 rfl hb1 ?_; intro F41 hF42 hz43
 refine shO_L (L' := [(b15, .cells (#[.func (.func 48) #[] #[.pointer (some ⟨b10, 0, none⟩), .pointer (some ⟨b14, 0, none⟩), .pointer (some ⟨b1, 0, none⟩), .pointer (some ⟨b15, 0, none⟩)]]) 95 (0, 0)), (b14, .cells #[.slice none 0 0] 30 (0, 0))]) rfl ?_
 replace h_walks := h_walks.mono (slE_ok (iE_ok _)) hF42
 replace h_hears := h_hears.mono (slE_ok (iE_ok _)) hF42
 replace h_notices := h_notices.mono (prE_ok (slE_ok (iE_ok _)) (prE_ok (iE_ok _) (iE_ok _))) hF42
 replace h28 := h28.mono (slE_ok (iE_ok _)) hF42
 replace h31 := h31.mono (slE_ok (iE_ok _)) hF42
 replace h34 := h34.mono (prE_ok (slE_ok (iE_ok _)) (prE_ok (iE_ok _) (iE_ok _))) hF42
 replace h38 := h38.mono (prE_ok (iE_ok _) (iE_ok _)) hF42
 replace hz18 := hF42 _ _ hz18
 replace hz25 := hF42 _ _ hz25
 refine shO_freeze 0 rfl hb15 ?_; intro F44 hF45 hz46
 refine shO_L (L' := [(b14, .cells #[.slice none 0 0] 30 (0, 0))]) rfl ?_
 replace h_walks := h_walks.mono (slE_ok (iE_ok _)) hF45
 replace h_hears := h_hears.mono (slE_ok (iE_ok _)) hF45
 replace h_notices := h_notices.mono (prE_ok (slE_ok (iE_ok _)) (prE_ok (iE_ok _) (iE_ok _))) hF45
 replace h28 := h28.mono (slE_ok (iE_ok _)) hF45
 replace h31 := h31.mono (slE_ok (iE_ok _)) hF45
 replace h34 := h34.mono (prE_ok (slE_ok (iE_ok _)) (prE_ok (iE_ok _) (iE_ok _))) hF45
 replace h38 := h38.mono (prE_ok (iE_ok _) (iE_ok _)) hF45
 replace hz18 := hF45 _ _ hz18
 replace hz25 := hF45 _ _ hz25
 replace hz43 := hF45 _ _ hz43
 obtain ⟨out, h47, r48⟩ := b1_ok r20
 refine o_callG (Lb := [(b14, .cells #[.slice none 0 0] 30 (0, 0))]) (Lr := []) rfl Try.call48 rfl rfl rfl (pR) ((round_Most_1_w FU) (RowR.nil _ _ _) hz18 hz25 h28 h31 h34 h35 h38 h39 (RowR.nil _ _ _) hz43 h_walks h_hears h_notices hz46 h47) ?_; rintro _ F49 _ hF50 hd52 hn51 ⟨a53, c54, rfl, rfl, h55⟩
 refine shO_L (lb (ln rfl)) ?_
 refine nsr ?_
 refine ov (v_load Try.isAgg30 rfl (Has.own 0 rfl) rfl) rfl ?_
 refine oa rfl rfl (oa rfl rfl (shO_nil ?_))
 refine kW kn ?_
 refine shW_ret ?_
 refine q_res2 Try.results21 (res_tmp rfl) (res_tmp rfl) (sr) ?_
 obtain ⟨rfl, rfl⟩ := inj2 r48
 exact ⟨_, _, rfl, rfl, h55⟩
set_option maxHeartbeats 1000000 in
theorem oyezlaw03_RoundNamed_1_w {l_a : Option Addr} {l_c : Nat} {l : List Int} {b_x : Nat} {x_a : Option Addr} {x_c : Nat} {x : List Int} {mb_x : Nat × Nat} {F : FS} (h_l : RowR 1 (iE .i64) F l_a l_c l) (hb_x : F b_x = some (.cells #[.slice x_a x.length x_c] 30 mb_x)) (h_x : RowR 1 (iE .i64) F x_a x_c x) {r : List Int} (hr : oyezlaw03_RoundNamed_1 l x = some r) :
    SH.Spec Try.prog 20 #[.slice l_a l.length l_c, .pointer (some ⟨b_x, 0, none⟩)] F [] fun F' L' v => ∃ (ra : Option Addr) (rn : Nat) (rc : Nat) (rL : LH), v = .slice ra rn rc ∧ L' = rL ++ [] ∧ SlR 0 3 1 (iE .i64) F' ra rn rc r rL := by
 refine spec_of_shW (args := [.slice l_a l.length l_c, .pointer (some ⟨b_x, 0, none⟩)]) Try.func20 rfl Try.ntmps20 (nbL rfl) ?_
 intro K _ _; rw [oyezlaw03_RoundNamed_1] at hr
 refine wsr (oa rfl rfl (nsr (oa rfl rfl (shO_nil ?_))))
 obtain ⟨out, h7, r8⟩ := b1_ok hr
 refine shW_join (fun e1 F1 L1 => ∃ (a1 : Option Addr) (n5 : Nat) (c2 : Nat) (Lb3 : LH), F = F1 ∧ L1 = (Lb3 ++ []) ∧ e1.sub [(4, .slice a1 n5 c2)] ∧ SlR K.w0.heap.size 3 1 (iE .i64) F1 a1 n5 c2 out Lb3) ?_ ?_
 · clear r8
   refine wsr (om rfl rfl ?_)
   refine ov (v_lenS Try.underlying30 rfl) rfl ?_
   refine om rfl rfl (shO_nil ?_)
   refine shW_block ?_
   refine shW_lp (fun fu1 e1 F1 L1 => ∃ (tl : List Int) (k : Int), tl.length = fu1 ∧ Lst l k tl ∧ ∃ (out2 : List Int) (a9 : Option Addr) (n13 : Nat) (c10 : Nat) (Lb11 : LH), oyezlaw03_RoundNamed_1_l1 x tl out2 = some out ∧ F = F1 ∧ L1 = (Lb11 ++ []) ∧ e1.sub [(1, .pointer (some ⟨b_x, 0, none⟩)), (4, .slice a9 n13 c10), (7, .slice l_a l.length l_c), (8, .int .i64 (l.length : Int)), (9, .int .i64 k)] ∧ SlR K.w0.heap.size 3 1 (iE .i64) F1 a9 n13 c10 out2 Lb11) _ (m0 (ke kr) ⟨_, _, rfl, Lst.start _, [], none, 0, 0, [], h7, rfl, rfl, (sc rfl (sc rfl (sc rfl (sc rfl (sc rfl (sn _)))))), SlR.nil _ _ _ _ _⟩) ?_
   rintro fu1 e1 _ _ ⟨tl, k, hn16, hk15, out2, a9, n13, c10, Lb11, r17, rfl, rfl, he18, hz12⟩
   refine shW_env _ he18 ?_
   refine wsr ?_
   refine ov (v_lssK rfl rfl) rfl ?_
   refine shO_nil (shW_seq ?_)
   refine shW_condP rfl (fun c20 => ?_) (fun c20 => ?_)
   · obtain ⟨x2, tl2, rfl, hx22, g23, hk21⟩ := Lst.succ hk15 c20
     rw [oyezlaw03_RoundNamed_1_l1] at r17
     refine shW_skip (shW_seq ?_)
     refine shW_block ?_
     refine wsr ?_
     obtain ⟨b24, o25, c26, vs27, ha28, hs29, hle30, rfl, hl31, hc32⟩ := RowR.at (iE_ok _) h_l (Lb11 ++ []) g23.1 hx22
     refine ov (v_indexO Try.underlying30 Try.sizeOf3 rfl ha28 rfl g23) rfl ?_
     refine ov (v_load Try.isAgg3 rfl hs29 (hc32 0 (by decide))) rfl ?_
     refine oa rfl rfl (shO_nil (shW_region (om rfl rfl ?_)))
     refine ov (v_load Try.isAgg30 rfl (Has.frozen hb_x) rfl) rfl ?_
     refine om rfl rfl ?_
     obtain ⟨x3, g33, hx34, r35⟩ := ix_ok r17
     obtain ⟨b36, o37, c38, vs39, ha40, hs41, hle42, rfl, hl43, hc44⟩ := RowR.at (iE_ok _) h_x (Lb11 ++ []) g33.1 hx34
     refine ov (v_indexO Try.underlying30 Try.sizeOf3 rfl ha40 rfl g33) rfl ?_
     refine ov (v_load Try.isAgg3 rfl hs41 (hc44 0 (by decide))) rfl ?_
     refine o_buildSlice (cs := #[.int .i64 x3]) rfl rfl (buildSlice_all slt_30 [.int .i64 x3] rfl (by decide) (by simp [Value.cells]) (by decide)) ?_; intro b45 hb45
     obtain ⟨out3, h46, g47, r48⟩ := ap_ok r35
     refine o_appZ (xs := out2) (ys := [x3]) (zs := out3) rfl slt_30 rfl rfl (Nat.le_refl _) (fun _ => .c .h) hz12 (SrcR.box (vss := [[.int .i64 x3]]) (ys := [x3]) 0 rfl (iE_ok _) (.cons rfl .nil) rfl rfl) h46 g47 (by decide) ?_; intro a49 n53 c50 Lb51 hz52
     refine kO (kd kr) ?_
     refine oa rfl rfl (shO_nil (inBlock_n (id := 1) (shW_region ?_)))
     refine ov (v_add rfl rfl (Lst.r64 hk15 c20 (RowR.lt h_l))) rfl ?_
     refine om rfl rfl (shO_nil ?_)
     subst hn16; exact le kr ⟨_, _, rfl, hk21, out3, a49, n53, c50, Lb51, r48, rfl, rfl, (sc rfl (sc rfl (sc rfl (sc rfl (sc rfl (sn _)))))), hz52⟩
   obtain rfl := Lst.zero hk15 c20
   rw [oyezlaw03_RoundNamed_1_l1] at r17
   refine shW_exit (andThen_exit (andThen_exit ?_))
   refine inBlock_exit ?_
   obtain rfl := inj1 r17
   exact mi kr ⟨a9, n13, c10, Lb11, rfl, rfl, (sc rfl (sn _)), hz12⟩
 rintro e1 _ _ ⟨a1, n5, c2, Lb3, rfl, rfl, he55, hz4⟩
 refine shW_env _ he55 ?_
 refine wsr (om rfl rfl (oa rfl rfl (shO_nil (shW_ret ?_))))
 refine q_res1 Try.results20 (res_tmp rfl) (sr) ?_
 obtain rfl := inj1 r8
 exact ⟨_, _, _, _, rfl, rfl, hz4.any⟩
set_option maxHeartbeats 1000000 in
theorem oyezlaw03_RoundNamed_w {numbers_a : Option Addr} {numbers_c : Nat} {numbers : List Int} {names_a : Option Addr} {names_c : Nat} {names : List Int} {F : FS} (h_numbers : RowR 1 (iE .u8) F numbers_a numbers_c numbers) (h_names : RowR 1 (iE .u8) F names_a names_c names) {r : Bool} (hr : oyezlaw03_RoundNamed numbers names = some r) :
    SpecV Try.prog 5 #[.slice numbers_a numbers.length numbers_c, .slice names_a names.length names_c] F (.bool r) := by
 refine spec_of_shW (args := [.slice numbers_a numbers.length numbers_c, .slice names_a names.length names_c]) Try.func5 rfl Try.ntmps5 (nbL rfl) ?_
 intro K _ _; rw [oyezlaw03_RoundNamed] at hr
 refine wsr (oa rfl rfl (nsr (om rfl rfl ?_)))
 obtain ⟨metal, at_, turn, h1, r2⟩ := b3_ok hr
 refine o_call0 rfl Try.call7 rfl rfl rfl (oyezkit_Hang_w h_numbers h1) ?_; rintro _ F3 _ hF4 hn5 ⟨b7, a8, c9, rfl, rfl, h10⟩
 replace h_names := h_names.mono (iE_ok _) hF4
 refine shO_L (lb (ln rfl)) ?_
 obtain ⟨l, l2, n, n2, l3, at_2, turn2, h11, r12⟩ := b7_ok r2
 refine o_callG (Lb := [(b7, .cells #[.slice a8 metal.length c9, .int .i64 at_, .int .u32 turn] 66 (0, 0))]) (Lr := []) rfl Try.call6 rfl rfl rfl (pR) (oyezlaw03_Made_w h10 h11) ?_; rintro _ F13 _ hF14 hd16 hn15 ⟨a17, c18, a20, c21, a23, n27, c24, Lb25, rfl, rfl, h19, h22, hz26⟩
 replace h_names := h_names.mono (iE_ok _) hF14
 have hn29 := newp (Lb' := [(b7, .cells #[.slice a8 metal.length c9, .int .i64 at_2, .int .u32 turn2] 66 (0, 0))]) (by rfl) hd16 hn15
 replace hz26 := hz26.new fun p hp => hn29 p (by simp [hp])
 refine shO_L (lb (lp (ln rfl))) ?_
 refine o_alloc rfl Try.zeroValue26 ?_; intro b30 hb30
 refine o_storeA (i := 0) Try.sizeOf26 rfl rfl rfl (by simp [Value.oneCell']) rfl (nbL rfl) ?_
 refine shO_L (L' := (b30, .cells #[.slice a17 l.length c18, .slice a20 l2.length c21, .int .i64 n, .int .i64 n2, .slice a23 n27 c24] 26 (0, 0)) :: ((b7, .cells #[.slice a8 metal.length c9, .int .i64 at_2, .int .u32 turn2] 66 (0, 0)) :: (Lb25 ++ []))) rfl ?_
 refine nsr (om rfl rfl ?_)
 obtain ⟨metal2, at_3, turn3, h31, r32⟩ := b3_ok r12
 refine o_call0 rfl Try.call7 rfl rfl rfl (oyezkit_Hang_w h_names h31) ?_; rintro _ F33 _ hF34 hn35 ⟨b37, a38, c39, rfl, rfl, h40⟩
 replace h19 := h19.mono (slE_ok (iE_ok _)) hF34
 replace h22 := h22.mono (slE_ok (iE_ok _)) hF34
 replace hz26 := hz26.mono (prE_ok (slE_ok (iE_ok _)) (prE_ok (iE_ok _) (iE_ok _))) hF34
 refine shO_L (lb (ln rfl)) ?_
 refine oa rfl rfl (shO_nil (shW_seq ?_))
 refine shW_drawM [(.pre, 9), (.still, 0), (.still, 1), (.still, 2), (.still, 3), (.still, 5), (.still, 6), (.still, 7), (.seq, 4), (.seq, 8), (.alloc (.cells (.slice none 0 0 : Value).cells 30 (0, 0)) (fun b => .pointer (some ⟨b, 0, none⟩)) [], 9), (.still, 10), (.seq, 11)] (by kernel_rfl) (by kernel_rfl) (⟨⟨_, _, rfl, rfl, rfl, rfl, rfl, mk_alloc Try.zeroValue30⟩, trivial⟩) (by rfl) (by kernel_rfl) ?_
 refine ⟨⟨[], rfl, sn _, by kernel_rfl⟩, ?_⟩
 refine shM_v (v := .pointer (some ⟨b37, 0, none⟩)) (ek := [(6, .pointer (some ⟨b37, 0, none⟩))]) (Ls := []) rfl rfl rfl rfl ((sc rfl (sn _))) (by kernel_rfl) sm (fun H F' L' hF' hL' => v_move rfl) ?_
 refine shM_v (v := .pointer (some ⟨b30, 1, none⟩)) (ek := [(5, .pointer (some ⟨b30, 0, none⟩))]) (Ls := []) rfl rfl rfl rfl ((sc rfl (sn _))) (by kernel_rfl) sm (fun H F' L' hF' hL' => v_fieldAddr fa_26_1 rfl) ?_
 refine shM_v (v := .slice a20 l2.length c21) (ek := [(43, .pointer (some ⟨b30, 1, none⟩))]) (Ls := [(b30, .cells #[.slice a17 l.length c18, .slice a20 l2.length c21, .int .i64 n, .int .i64 n2, .slice a23 n27 c24] 26 (0, 0))]) rfl rfl rfl rfl ((sc rfl (sn _))) (by kernel_rfl) (s0 (s1 (s2 (s1 (s3 sr))))) (fun H F' L' hF' hL' => v_load Try.isAgg23 rfl ((Has.own 0 rfl).ext hF' hL') rfl) ?_
 refine shM_v (v := .int .i64 (l2.length : Int)) (ek := [(44, .slice a20 l2.length c21)]) (Ls := []) rfl rfl rfl rfl ((sc rfl (sn _))) (by kernel_rfl) sm (fun H F' L' hF' hL' => v_lenS Try.underlying23 rfl) ?_
 refine shM_v (v := .pointer (some ⟨b37, 0, none⟩)) (ek := [(6, .pointer (some ⟨b37, 0, none⟩))]) (Ls := []) rfl rfl rfl rfl ((sc rfl (sn _))) (by kernel_rfl) sm (fun H F' L' hF' hL' => v_move rfl) ?_
 refine shM_v (v := .pointer (some ⟨b30, 2, none⟩)) (ek := [(5, .pointer (some ⟨b30, 0, none⟩))]) (Ls := []) rfl rfl rfl rfl ((sc rfl (sn _))) (by kernel_rfl) sm (fun H F' L' hF' hL' => v_fieldAddr fa_26_2 rfl) ?_
 refine shM_v (v := .int .i64 n) (ek := [(48, .pointer (some ⟨b30, 2, none⟩))]) (Ls := [(b30, .cells #[.slice a17 l.length c18, .slice a20 l2.length c21, .int .i64 n, .int .i64 n2, .slice a23 n27 c24] 26 (0, 0))]) rfl rfl rfl rfl ((sc rfl (sn _))) (by kernel_rfl) (s0 (s1 (s2 (s1 (s3 sr))))) (fun H F' L' hF' hL' => v_load Try.isAgg3 rfl ((Has.own 0 rfl).ext hF' hL') rfl) ?_
 refine ⟨_, [(42, .pointer (some ⟨b37, 0, none⟩)), (45, .int .i64 (l2.length : Int))], rfl, rfl, (sc rfl (sc rfl (sn _))), by kernel_rfl, ?_⟩; intro H
 obtain ⟨l4, at_4, turn4, h41, r42⟩ := b3_ok r32
 refine o_callG (Lb := [(b37, .cells #[.slice a38 metal2.length c39, .int .i64 at_3, .int .u32 turn3] 66 (0, 0))]) (Lr := (b30, .cells #[.slice a17 l.length c18, .slice a20 l2.length c21, .int .i64 n, .int .i64 n2, .slice a23 n27 c24] 26 (0, 0)) :: ((b7, .cells #[.slice a8 metal.length c9, .int .i64 at_2, .int .u32 turn2] 66 (0, 0)) :: (Lb25 ++ []))) rfl Try.call19 rfl rfl rfl (pR) (oyezkit_Bell_Rung_w h40 h41) ?_; rintro _ F43 _ hF44 hd46 hn45 ⟨a47, n51, c48, Lb49, rfl, rfl, hz50⟩
 replace h19 := h19.mono (slE_ok (iE_ok _)) hF44
 replace h22 := h22.mono (slE_ok (iE_ok _)) hF44
 replace h40 := h40.mono (iE_ok _) hF44
 replace hz26 := hz26.mono (prE_ok (slE_ok (iE_ok _)) (prE_ok (iE_ok _) (iE_ok _))) hF44
 have hn53 := newp (Lb' := [(b37, .cells #[.slice a38 metal2.length c39, .int .i64 at_4, .int .u32 turn4] 66 (0, 0))]) (by rfl) hd46 hn45
 replace hz50 := hz50.new fun p hp => hn53 p (by simp [hp])
 refine shO_L (lb (lp (ln rfl))) ?_
 refine kO (kc (kf (fS fO) (kf (fS fO) kr))) ?_
 refine shO_nil ⟨_, rfl, hF44, [7, 6, 5], by kernel_rfl, .inl (.inr (fun d h => by cases h; rfl)), (List.forall_mem_cons.2 ⟨s0 (s1 (s2 (s1 (s3 (s3 sr))))), (List.forall_mem_cons.2 ⟨sm, (List.forall_mem_cons.2 ⟨sm, (fun _ h => absurd h List.not_mem_nil)⟩)⟩)⟩), ?_⟩
 refine ⟨_, [(47, .pointer (some ⟨b37, 0, none⟩)), (49, .int .i64 n)], rfl, rfl, (sc rfl (sc rfl (sn _))), by kernel_rfl, ?_⟩; intro H
 obtain ⟨l5, at_5, turn5, h54, r55⟩ := b3_ok r42
 refine o_callG (Lb := [(b37, .cells #[.slice a38 metal2.length c39, .int .i64 at_4, .int .u32 turn4] 66 (0, 0))]) (Lr := (b30, .cells #[.slice a17 l.length c18, .slice a20 l2.length c21, .int .i64 n, .int .i64 n2, .slice a23 n27 c24] 26 (0, 0)) :: ((b7, .cells #[.slice a8 metal.length c9, .int .i64 at_2, .int .u32 turn2] 66 (0, 0)) :: (Lb49 ++ (Lb25 ++ [])))) rfl Try.call19 rfl rfl rfl (pR) (oyezkit_Bell_Rung_w h40 h54) ?_; rintro _ F56 _ hF57 hd59 hn58 ⟨a60, n64, c61, Lb62, rfl, rfl, hz63⟩
 replace h19 := h19.mono (slE_ok (iE_ok _)) hF57
 replace h22 := h22.mono (slE_ok (iE_ok _)) hF57
 replace hz26 := hz26.mono (prE_ok (slE_ok (iE_ok _)) (prE_ok (iE_ok _) (iE_ok _))) hF57
 replace hz50 := hz50.mono (iE_ok _) hF57
 have hn66 := newp (Lb' := [(b37, .cells #[.slice a38 metal2.length c39, .int .i64 at_5, .int .u32 turn5] 66 (0, 0))]) (by rfl) hd59 hn58
 replace hz63 := hz63.new fun p hp => hn66 p (by simp [hp])
 refine shO_L (lb (lp (ln rfl))) ?_
 refine kO (kc (kf (fS fO) (kf (fS fO) kr))) ?_
 refine shO_nil ⟨_, rfl, hF57, [], by kernel_rfl, .inl (.inl rfl), (fun _ h => absurd h List.not_mem_nil), ?_⟩
 refine shM_ptr rfl ?_; intro b67 hb67
 refine shM_L (L' := (b67, .cells #[.slice none 0 0] 30 (0, 0)) :: ((b37, .cells #[.slice a38 metal2.length c39, .int .i64 at_5, .int .u32 turn5] 66 (0, 0)) :: ((b30, .cells #[.slice a17 l.length c18, .slice a20 l2.length c21, .int .i64 n, .int .i64 n2, .slice a23 n27 c24] 26 (0, 0)) :: ((b7, .cells #[.slice a8 metal.length c9, .int .i64 at_2, .int .u32 turn2] 66 (0, 0)) :: (Lb62 ++ (Lb49 ++ (Lb25 ++ []))))))) rfl ?_
 refine shM_v (v := .slice a47 n51 c48) (ek := [(46, .slice a47 n51 c48)]) (Ls := []) rfl rfl rfl rfl ((sc rfl (sn _))) (by kernel_rfl) sm (fun H F' L' hF' hL' => v_assign rfl) ?_
 refine ⟨_, [(8, .pointer (some ⟨b67, 0, none⟩)), (50, .slice a60 n64 c61)], rfl, rfl, (sc rfl (sc rfl (sn _))), by kernel_rfl, ?_⟩; intro H
 refine o_store (i := 0) Try.sizeOf30 rfl rfl rfl rfl (nbL rfl) ?_
 refine shO_L (L' := (b67, .cells #[.slice a60 n64 c61] 30 (0, 0)) :: ((b37, .cells #[.slice a38 metal2.length c39, .int .i64 at_5, .int .u32 turn5] 66 (0, 0)) :: ((b30, .cells #[.slice a17 l.length c18, .slice a20 l2.length c21, .int .i64 n, .int .i64 n2, .slice a23 n27 c24] 26 (0, 0)) :: ((b7, .cells #[.slice a8 metal.length c9, .int .i64 at_2, .int .u32 turn2] 66 (0, 0)) :: (Lb62 ++ (Lb49 ++ (Lb25 ++ []))))))) rfl ?_
 refine shO_nil ⟨undef, rfl, FExt.refl _, [], by kernel_rfl, .inl (.inl rfl), (fun _ h => absurd h List.not_mem_nil), ?_⟩
 refine shM_nil ?_
 refine wsr ?_
 refine ov (v_loadA (cs := #[.slice a17 l.length c18, .slice a20 l2.length c21, .int .i64 n, .int .i64 n2, .slice a23 n27 c24]) Try.isAgg26 Try.sizeOf26 rfl (Has.own 2 rfl) (nbL rfl) rfl) rfl ?_
 obtain rfl := (SlR.caps hz26).1
 refine shO_freezeR (Nat.le_refl _) (prE_ok (slE_ok (iE_ok _)) (prE_ok (iE_ok _) (iE_ok _))) (fC (fC (fC (fC (fS (fS fP)))))) hz26 ?_; intro F68 hF69 h70
 replace h19 := h19.mono (slE_ok (iE_ok _)) hF69
 replace h22 := h22.mono (slE_ok (iE_ok _)) hF69
 replace hz50 := hz50.mono (iE_ok _) hF69
 replace hz63 := hz63.mono (iE_ok _) hF69
 obtain ⟨l6, l7, n3, n4, l8, h71, r72⟩ := b5_ok r55
 refine o_call0 rfl Try.call11 rfl rfl rfl (oyezlaw03_Own_w h19 h22 h70 h71) ?_; rintro _ F73 _ hF74 hn75 ⟨a77, n81, c78, Lb79, a83, n87, c84, Lb85, a89, n93, c90, Lb91, rfl, rfl, hz80, hz86, hz92⟩
 replace h19 := h19.mono (slE_ok (iE_ok _)) hF74
 replace h22 := h22.mono (slE_ok (iE_ok _)) hF74
 replace h70 := h70.mono (prE_ok (slE_ok (iE_ok _)) (prE_ok (iE_ok _) (iE_ok _))) hF74
 replace hz50 := hz50.mono (iE_ok _) hF74
 replace hz63 := hz63.mono (iE_ok _) hF74
 replace hz80 := hz80.new fun p hp => hn75 p (by simp [hp])
 replace hz86 := hz86.new fun p hp => hn75 p (by simp [hp])
 replace hz92 := hz92.new fun p hp => hn75 p (by simp [hp])
 refine shO_L (lp (lp (lp (ln rfl)))) ?_
 refine kO (kf (fS (fS (fS fO))) (kf (fS (fS (fS fO))) (kf (fS (fS (fS fO))) (kf (fS (fS (fS fO))) kr)))) ?_
 refine o_alloc rfl Try.zeroValue26 ?_; intro b95 hb95
 refine o_storeA (i := 0) Try.sizeOf26 rfl rfl rfl (by simp [Value.oneCell']) rfl (nbL rfl) ?_
 refine shO_L (L' := (b95, .cells #[.slice a77 n81 c78, .slice a83 n87 c84, .int .i64 n3, .int .i64 n4, .slice a89 n93 c90] 26 (0, 0)) :: ((b67, .cells #[.slice a60 n64 c61] 30 (0, 0)) :: ((b37, .cells #[.slice a38 metal2.length c39, .int .i64 at_5, .int .u32 turn5] 66 (0, 0)) :: ((b30, .cells #[.slice a17 l.length c18, .slice a20 l2.length c21, .int .i64 n, .int .i64 n2, .slice a23 l3.length c24] 26 (0, 0)) :: ((b7, .cells #[.slice a8 metal.length c9, .int .i64 at_2, .int .u32 turn2] 66 (0, 0)) :: (Lb79 ++ (Lb85 ++ (Lb91 ++ (Lb62 ++ (Lb49 ++ [])))))))))) rfl ?_
 refine nsr ?_
 refine ov (v_makeFunc rfl rfl) rfl ?_
 refine oa rfl rfl (shO_nil ?_)
 obtain ⟨u_walks, u_hears, x, h104, r105⟩ := b3_ok r72
 refine shW_join (fun e1 F1 L1 => ∃ (Lb96 : LH) (Lb98 : LH) (a101 : Option Addr) (c102 : Nat), FExt F73 F1 ∧ L1 = ((b95, .cells #[.slice a77 n81 c78, .slice a83 n87 c84, .int .i64 n3, .int .i64 n4, .slice a89 n93 c90] 26 (0, 0)) :: ((b30, .cells #[.slice a17 l.length c18, .slice a20 l2.length c21, .int .i64 n, .int .i64 n2, .slice a23 l3.length c24] 26 (0, 0)) :: (Lb49 ++ (Lb96 ++ (Lb98 ++ (Lb91 ++ [])))))) ∧ e1.sub [(5, .pointer (some ⟨b30, 0, none⟩)), (7, .slice a47 n51 c48), (9, .pointer (some ⟨b95, 0, none⟩)), (10, .func (.func 20) #[] #[.pointer (some ⟨b67, 0, none⟩)])] ∧ NlR K.w0.heap.size 30 3 1 (iE .i64) F1 a77 n81 c78 u_walks Lb96 ∧ NlR K.w0.heap.size 30 3 1 (iE .i64) F1 a83 n87 c84 u_hears Lb98 ∧ RowR 1 (iE .i64) F1 a101 c102 x ∧ F1 b67 = some (.cells #[.slice a101 x.length c102] 30 (0, 0))) ?_ ?_
 · clear r105
   refine wsr ?_
   refine ov (v_fieldAddr fa_26_1 rfl) rfl ?_
   refine ov (v_load Try.isAgg23 rfl (Has.own 3 rfl) rfl) rfl ?_
   refine ov (v_lenS Try.underlying23 rfl) rfl ?_
   refine om rfl rfl (shO_nil ?_)
   refine shW_block ?_
   refine kW (kc (kc (kd (kc (kd kr))))) ?_
   obtain rfl := (SlR.caps hz63).1
   refine shW_freezeR (Nat.le_refl _) (iE_ok _) (fC (fC (fC (fS (fS (fS fP)))))) hz63 ?_; intro F106 hF107 h108
   replace h19 := h19.mono (slE_ok (iE_ok _)) hF107
   replace h22 := h22.mono (slE_ok (iE_ok _)) hF107
   replace hz50 := hz50.mono (iE_ok _) hF107
   replace hz80 := hz80.mono (iE_ok _) hF107
   replace hz86 := hz86.mono (iE_ok _) hF107
   refine shW_freeze 1 rfl hb67 ?_; intro F109 hF110 hz111
   refine shW_L (L' := (b95, .cells #[.slice a77 n81 c78, .slice a83 n87 c84, .int .i64 n3, .int .i64 n4, .slice a89 n93 c90] 26 (0, 0)) :: ((b30, .cells #[.slice a17 l.length c18, .slice a20 l2.length c21, .int .i64 n, .int .i64 n2, .slice a23 l3.length c24] 26 (0, 0)) :: (Lb79 ++ (Lb85 ++ (Lb91 ++ (Lb49 ++ [])))))) rfl ?_
   replace h19 := h19.mono (slE_ok (iE_ok _)) hF110
   replace h22 := h22.mono (slE_ok (iE_ok _)) hF110
   replace h108 := h108.mono (iE_ok _) hF110
   replace hz50 := hz50.mono (iE_ok _) hF110
   replace hz80 := hz80.mono (iE_ok _) hF110
   replace hz86 := hz86.mono (iE_ok _) hF110
   refine shW_lpF (fun fu1 e1 F1 L1 => ∃ (tl : List (List Int)) (k : Int), tl.length = fu1 ∧ Lst l2 k tl ∧ ∃ (u_walks2 : List (List Int)) (u_hears2 : List (List Int)) (Lb112 : LH) (Lb114 : LH), oyezlaw03_RoundNamed_l1 l l4 l5 tl k u_walks2 u_hears2 = some (u_walks, u_hears, x) ∧ FExt F109 F1 ∧ L1 = ((b95, .cells #[.slice a77 n81 c78, .slice a83 n87 c84, .int .i64 n3, .int .i64 n4, .slice a89 n93 c90] 26 (0, 0)) :: ((b30, .cells #[.slice a17 l.length c18, .slice a20 l2.length c21, .int .i64 n, .int .i64 n2, .slice a23 l3.length c24] 26 (0, 0)) :: (Lb49 ++ (Lb112 ++ (Lb114 ++ (Lb91 ++ [])))))) ∧ e1.sub [(5, .pointer (some ⟨b30, 0, none⟩)), (7, .slice a47 n51 c48), (9, .pointer (some ⟨b95, 0, none⟩)), (10, .func (.func 20) #[] #[.pointer (some ⟨b67, 0, none⟩)]), (55, .slice a20 l2.length c21), (56, .int .i64 (l2.length : Int)), (57, .int .i64 k)] ∧ NlR K.w0.heap.size 30 3 1 (iE .i64) F1 a77 n81 c78 u_walks2 Lb112 ∧ NlR K.w0.heap.size 30 3 1 (iE .i64) F1 a83 n87 c84 u_hears2 Lb114) _ (m0 (kc (kc (kg (fS (fS (fS fP))) kr))) ⟨_, _, rfl, Lst.start _, l6, l7, Lb79, Lb85, h104, FExt.refl _, rfl, (sc rfl (sc rfl (sc rfl (sc rfl (sc rfl (sc rfl (sc rfl (sn _)))))))), hz80, hz86⟩) ?_
   rintro fu1 e1 F120 _ ⟨tl, k, hn117, hk116, u_walks2, u_hears2, Lb112, Lb114, r118, hF121, rfl, he119, hz113, hz115⟩
   refine shW_env _ he119 ?_
   replace h19 := h19.mono (slE_ok (iE_ok _)) hF121
   replace h22 := h22.mono (slE_ok (iE_ok _)) hF121
   replace h108 := h108.mono (iE_ok _) hF121
   replace hz50 := hz50.mono (iE_ok _) hF121
   replace hz111 := hF121 _ _ hz111
   refine wsr ?_
   refine ov (v_lssK rfl rfl) rfl ?_
   refine shO_nil (shW_seq ?_)
   refine shW_condP rfl (fun c123 => ?_) (fun c123 => ?_)
   · obtain ⟨x2, tl2, rfl, hx125, g126, hk124⟩ := Lst.succ hk116 c123
     rw [oyezlaw03_RoundNamed_l1] at r118
     refine shW_skip ?_
     obtain ⟨u_walks3, u_hears3, h131, r132⟩ := b2_ok r118
     refine shW_join (fun e1 F1 L1 => ∃ (Lb127 : LH) (Lb129 : LH), FExt F120 F1 ∧ L1 = ((b95, .cells #[.slice a77 n81 c78, .slice a83 n87 c84, .int .i64 n3, .int .i64 n4, .slice a89 n93 c90] 26 (0, 0)) :: ((b30, .cells #[.slice a17 l.length c18, .slice a20 l2.length c21, .int .i64 n, .int .i64 n2, .slice a23 l3.length c24] 26 (0, 0)) :: (Lb49 ++ (Lb127 ++ (Lb129 ++ (Lb91 ++ [])))))) ∧ e1.sub [(5, .pointer (some ⟨b30, 0, none⟩)), (7, .slice a47 n51 c48), (9, .pointer (some ⟨b95, 0, none⟩)), (10, .func (.func 20) #[] #[.pointer (some ⟨b67, 0, none⟩)]), (55, .slice a20 l2.length c21), (56, .int .i64 (l2.length : Int)), (57, .int .i64 k)] ∧ NlR K.w0.heap.size 30 3 1 (iE .i64) F1 a77 n81 c78 u_walks3 Lb127 ∧ NlR K.w0.heap.size 30 3 1 (iE .i64) F1 a83 n87 c84 u_hears3 Lb129) ?_ ?_
     · clear r132
       refine shW_block ?_
       refine wsr (om rfl rfl ?_)
       obtain ⟨b133, o134, c135, vs136, ha137, hs138, hle139, ⟨a142, c143, rfl, h144⟩, hl140, hc141⟩ := RowR.at (slE_ok (iE_ok _)) h22 ((b95, .cells #[.slice a77 n81 c78, .slice a83 n87 c84, .int .i64 n3, .int .i64 n4, .slice a89 n93 c90] 26 (0, 0)) :: ((b30, .cells #[.slice a17 l.length c18, .slice a20 l2.length c21, .int .i64 n, .int .i64 n2, .slice a23 l3.length c24] 26 (0, 0)) :: (Lb49 ++ (Lb112 ++ (Lb114 ++ (Lb91 ++ [])))))) g126.1 hx125
       refine ov (v_indexO Try.underlying23 Try.sizeOf30 rfl ha137 rfl g126) rfl ?_
       refine ov (v_load Try.isAgg30 rfl hs138 (hc141 0 (by decide))) rfl ?_
       refine oa rfl rfl (oa rfl rfl (shO_nil (shW_seq ?_)))
       obtain ⟨x3, g145, hx146, r147⟩ := ix_ok h131
       obtain ⟨x4, g148, hx149, r150⟩ := ix_ok r147
       have hn162 := (NlR.caps hz115).1
       refine shW_open (fC (fC (fS (fS fP)))) hz115 hx149 ?_; intro hs151 Lo152 Lc153 a154 n155 c156 Lb157 hh158 hO159 hz160 hI161
       refine kW (kf (fS (fS (fS fO))) (kf (fS (fS (fS fO))) kr)) ?_
       refine shW_drawM [(.still, 0), (.still, 1), (.still, 2), (.still, 3), (.still, 4), (.still, 5), (.still, 6), (.still, 7), (.seq, 8), (.still, 9), (.seq, 10)] (by kernel_rfl) (by kernel_rfl) (trivial) (by rfl) (by kernel_rfl) ?_
       refine shM_v (v := .pointer (some ⟨b95, 1, none⟩)) (ek := [(9, .pointer (some ⟨b95, 0, none⟩))]) (Ls := []) rfl rfl rfl rfl ((sc rfl (sn _))) (by kernel_rfl) sm (fun H F' L' hF' hL' => v_fieldAddr fa_26_1 rfl) ?_
       refine shM_v (v := .slice a83 n87 c84) (ek := [(62, .pointer (some ⟨b95, 1, none⟩))]) (Ls := [(b95, .cells #[.slice a77 n81 c78, .slice a83 n87 c84, .int .i64 n3, .int .i64 n4, .slice a89 n93 c90] 26 (0, 0))]) rfl rfl rfl rfl ((sc rfl (sn _))) (by kernel_rfl) (s0 (s2 (s1 (s3 (s3 (s3 (s3 (s3 (s3 sr))))))))) (fun H F' L' hF' hL' => v_load Try.isAgg23 rfl ((Has.own 0 rfl).ext hF' hL') rfl) ?_
       refine shM_v (v := .slice a47 n51 c48) (ek := [(7, .slice a47 n51 c48)]) (Ls := []) rfl rfl rfl rfl ((sc rfl (sn _))) (by kernel_rfl) sm (fun H F' L' hF' hL' => v_move rfl) ?_
       refine shM_v (v := .int .i64 k) (ek := [(11, .int .i64 k)]) (Ls := []) rfl rfl rfl rfl ((sc rfl (sn _))) (by kernel_rfl) sm (fun H F' L' hF' hL' => v_move rfl) ?_
       obtain ⟨b164, o165, c166, vs167, ha168, hs169, hle170, rfl, hl171, hc172⟩ := SlR.at (iE_ok _) hz50 (L := Lb49 ++ []) fP g145.1 hx146
       refine shM_v (v := .pointer (some ⟨b164, o165 + (k : Int).toNat * 1, none⟩)) (ek := [(64, .slice a47 n51 c48), (65, .int .i64 k)]) (Ls := []) rfl rfl rfl rfl ((sc rfl (sc rfl (sn _)))) (by kernel_rfl) sm (fun H F' L' hF' hL' => v_indexO Try.underlying30 Try.sizeOf3 rfl ha168 rfl (SlR.idx hz50 g145)) ?_
       refine shM_v (v := .int .i64 x3) (ek := [(66, .pointer (some ⟨b164, o165 + (k : Int).toNat * 1, none⟩))]) (Ls := Lb49 ++ []) rfl rfl rfl rfl ((sc rfl (sn _))) (by kernel_rfl) (s0 (s1 (s1 (s3 (s3 (s3 (s4 (s3 (s3 sr))))))))) (fun H F' L' hF' hL' => v_load Try.isAgg3 rfl (hs169.ext hF' hL') (hc172 0 (by decide))) ?_
       refine shM_v (v := .func (.func 20) #[] #[.pointer (some ⟨b67, 0, none⟩)]) (ek := [(10, .func (.func 20) #[] #[.pointer (some ⟨b67, 0, none⟩)])]) (Ls := []) rfl rfl rfl rfl ((sc rfl (sn _))) (by kernel_rfl) sm (fun H F' L' hF' hL' => v_move rfl) ?_
       refine shM_v (v := .slice a142 x2.length c143) (ek := [(12, .slice a142 x2.length c143)]) (Ls := []) rfl rfl rfl rfl ((sc rfl (sn _))) (by kernel_rfl) sm (fun H F' L' hF' hL' => v_move rfl) ?_
       refine ⟨_, [(68, .func (.func 20) #[] #[.pointer (some ⟨b67, 0, none⟩)]), (69, .slice a142 x2.length c143)], rfl, rfl, (sc rfl (sc rfl (sn _))), by kernel_rfl, ?_⟩; intro H
       obtain ⟨l9, h173, r174⟩ := b1_ok r150
       refine o_call0 rfl Try.call20 rfl rfl rfl (oyezlaw03_RoundNamed_1_w h144 hz111 h108 h173) ?_; rintro _ F175 _ hF176 hn177 ⟨a179, n183, c180, Lb181, rfl, rfl, hz182⟩
       replace h19 := h19.mono (slE_ok (iE_ok _)) hF176
       replace hz50 := hz50.mono (iE_ok _) hF176
       replace hO159 := hO159.mono hdE_ok hF176
       replace hI161 := hI161.mono (iE_ok _) hF176
       replace hz113 := hz113.mono (iE_ok _) hF176
       replace hz182 := hz182.new fun p hp => hn177 p (by simp [hp])
       refine shO_L (lp (ln rfl)) ?_
       refine kO (kf (fS fO) (kf (fS fO) kr)) ?_
       refine shO_nil ⟨_, rfl, hF176, [5, 4, 3, 2, 1, 0], by kernel_rfl, .inl (.inr (fun d h => by cases h; rfl)), (List.forall_mem_cons.2 ⟨s0 (s1 (s1 (s3 (s3 (s3 (s3 (s4 (s3 (s3 sr))))))))), (List.forall_mem_cons.2 ⟨sm, (List.forall_mem_cons.2 ⟨sm, (List.forall_mem_cons.2 ⟨sm, (List.forall_mem_cons.2 ⟨s0 (s2 (s1 (s3 (s3 (s3 (s3 (s3 (s3 (s3 sr))))))))), (List.forall_mem_cons.2 ⟨sm, (fun _ h => absurd h List.not_mem_nil)⟩)⟩)⟩)⟩)⟩)⟩), ?_⟩
       obtain ⟨b185, o186, c187, vs188, ha189, hs190, hle191, rfl, hl192, hc193⟩ := SlR.at hdE_ok hO159 (L := Lo152 ++ []) fP g148.1 hh158
       refine shM_v (v := .pointer (some ⟨b185, o186 + (x3 : Int).toNat * 1, none⟩)) (ek := [(63, .slice a83 n87 c84), (67, .int .i64 x3)]) (Ls := []) rfl rfl rfl rfl ((sc rfl (sc rfl (sn _)))) (by kernel_rfl) sm (fun H F' L' hF' hL' => v_indexO Try.underlying23 Try.sizeOf30 rfl ha189 rfl (idxN hn162 g148)) ?_
       refine ⟨_, [(70, .slice a179 n183 c180), (71, .pointer (some ⟨b185, o186 + (x3 : Int).toNat * 1, none⟩))], rfl, rfl, (sc rfl (sc rfl (sn _))), by kernel_rfl, ?_⟩; intro H
       refine o_storeZ (zs := hs151.set (x3 : Int).toNat (a179, n183, c180)) (u := (a179, n183, c180)) Try.sizeOf30 hdE_ok rfl ha189 rfl rfl (fun _ => .c (.c (.s .h))) hO159 rfl (idxH hn162 hO159 g148) ?_; intro Lo194 hO195
       refine kO (kc (kc (ka (ka (kx kr))))) ?_
       obtain ⟨l10, h196, r197⟩ := bv_ok r174
       refine shO_fold (p := fun X => NlR K.w0.heap.size 30 3 1 (iE .i64) F175 a83 n87 c84 l10 X) (InH.back hI161 hO195 hz182 h196) (pT ((fC (fC (fS fP))).trans (pA ((fC (fC fP)).trans (pA ((fC (fC fP)).trans (pA pR)))))) (lp (lp (lp (ln rfl))))) ?_; intro Lb198 hz199
       refine kO (kf (fS fO) (kf (fS fO) kr)) ?_
       refine shO_nil ⟨undef, rfl, FExt.refl _, [], by kernel_rfl, .inl (.inl rfl), (fun _ h => absurd h List.not_mem_nil), ?_⟩
       refine shM_nil ?_
       refine wsr ?_
       refine ov (v_fieldAddr fa_26_0 rfl) rfl ?_
       refine ov (v_load Try.isAgg23 rfl (Has.own 1 rfl) rfl) rfl ?_
       refine om rfl rfl ?_
       obtain ⟨x5, g200, hx201, r202⟩ := ix_ok r197
       obtain ⟨b203, o204, c205, vs206, ha207, hs208, hle209, ⟨a212, c213, rfl, h214⟩, hl210, hc211⟩ := RowR.at (slE_ok (iE_ok _)) h19 ((b95, .cells #[.slice a77 n81 c78, .slice a83 n87 c84, .int .i64 n3, .int .i64 n4, .slice a89 n93 c90] 26 (0, 0)) :: ((b30, .cells #[.slice a17 l.length c18, .slice a20 l2.length c21, .int .i64 n, .int .i64 n2, .slice a23 l3.length c24] 26 (0, 0)) :: (Lb198 ++ (Lb49 ++ (Lb112 ++ (Lb91 ++ [])))))) g200.1 hx201
       refine ov (v_indexO Try.underlying23 Try.sizeOf30 rfl ha207 rfl g200) rfl ?_
       refine ov (v_load Try.isAgg30 rfl hs208 (hc211 0 (by decide))) rfl ?_
       refine ov (v_lenS Try.underlying30 rfl) rfl ?_
       refine om rfl rfl (shO_nil ?_)
       refine shW_block ?_
       refine shW_lp (fun fu2 e1 F1 L1 => ∃ (tl3 : List Int) (k2 : Int), tl3.length = fu2 ∧ Lst x5 k2 tl3 ∧ ∃ (u_walks4 : List (List Int)) (Lb215 : LH), oyezlaw03_RoundNamed_l2 l4 x3 l10 tl3 k2 u_walks4 = some (u_walks3, u_hears3) ∧ F175 = F1 ∧ L1 = ((b95, .cells #[.slice a77 n81 c78, .slice a83 n87 c84, .int .i64 n3, .int .i64 n4, .slice a89 n93 c90] 26 (0, 0)) :: ((b30, .cells #[.slice a17 l.length c18, .slice a20 l2.length c21, .int .i64 n, .int .i64 n2, .slice a23 l3.length c24] 26 (0, 0)) :: (Lb49 ++ (Lb215 ++ (Lb198 ++ (Lb91 ++ [])))))) ∧ e1.sub [(5, .pointer (some ⟨b30, 0, none⟩)), (7, .slice a47 n51 c48), (9, .pointer (some ⟨b95, 0, none⟩)), (10, .func (.func 20) #[] #[.pointer (some ⟨b67, 0, none⟩)]), (11, .int .i64 k), (55, .slice a20 l2.length c21), (56, .int .i64 (l2.length : Int)), (57, .int .i64 k), (76, .slice a212 x5.length c213), (77, .int .i64 (x5.length : Int)), (78, .int .i64 k2)] ∧ NlR K.w0.heap.size 30 3 1 (iE .i64) F1 a77 n81 c78 u_walks4 Lb215) _ (m0 (kc (kc (kg (fS fP) (kg (fS fP) kr)))) ⟨_, _, rfl, Lst.start _, u_walks2, Lb112, r202, rfl, rfl, (sc rfl (sc rfl (sc rfl (sc rfl (sc rfl (sc rfl (sc rfl (sc rfl (sc rfl (sc rfl (sc rfl (sn _)))))))))))), hz113⟩) ?_
       rintro fu2 e1 _ _ ⟨tl3, k2, hn218, hk217, u_walks4, Lb215, r219, rfl, rfl, he220, hz216⟩
       refine shW_env _ he220 ?_
       refine wsr ?_
       refine ov (v_lssK rfl rfl) rfl ?_
       refine shO_nil (shW_seq ?_)
       refine shW_condP rfl (fun c222 => ?_) (fun c222 => ?_)
       · obtain ⟨x6, tl4, rfl, hx224, g225, hk223⟩ := Lst.succ hk217 c222
         rw [oyezlaw03_RoundNamed_l2] at r219
         refine shW_skip (shW_seq ?_)
         refine shW_block ?_
         refine wsr (om rfl rfl ?_)
         obtain ⟨b226, o227, c228, vs229, ha230, hs231, hle232, rfl, hl233, hc234⟩ := RowR.at (iE_ok _) h214 ((b95, .cells #[.slice a77 n81 c78, .slice a83 n87 c84, .int .i64 n3, .int .i64 n4, .slice a89 n93 c90] 26 (0, 0)) :: ((b30, .cells #[.slice a17 l.length c18, .slice a20 l2.length c21, .int .i64 n, .int .i64 n2, .slice a23 l3.length c24] 26 (0, 0)) :: (Lb49 ++ (Lb215 ++ (Lb198 ++ (Lb91 ++ [])))))) g225.1 hx224
         refine ov (v_indexO Try.underlying30 Try.sizeOf3 rfl ha230 rfl g225) rfl ?_
         refine ov (v_load Try.isAgg3 rfl hs231 (hc234 0 (by decide))) rfl ?_
         refine oa rfl rfl (oa rfl rfl (shO_nil ?_))
         obtain ⟨x7, g235, hx236, r237⟩ := ix_ok r219
         have hn249 := (NlR.caps hz216).1
         refine shW_open (fC (fC (fS fP))) hz216 hx236 ?_; intro hs238 Lo239 Lc240 a241 n242 c243 Lb244 hh245 hO246 hz247 hI248
         refine kW (kf (fS (fS (fS fO))) (kf (fS (fS (fS fO))) kr)) ?_
         refine shW_drawM [(.still, 0), (.still, 1), (.still, 2), (.still, 3), (.still, 4), (.still, 5), (.still, 6), (.still, 7), (.still, 8), (.still, 9), (.still, 10), (.still, 11), (.still, 12), (.still, 13), (.seq, 14)] (by kernel_rfl) (by kernel_rfl) (trivial) (by rfl) (by kernel_rfl) ?_
         refine shM_v (v := .pointer (some ⟨b95, 0, none⟩)) (ek := [(9, .pointer (some ⟨b95, 0, none⟩))]) (Ls := []) rfl rfl rfl rfl ((sc rfl (sn _))) (by kernel_rfl) sm (fun H F' L' hF' hL' => v_fieldAddr fa_26_0 rfl) ?_
         refine shM_v (v := .slice a77 n81 c78) (ek := [(83, .pointer (some ⟨b95, 0, none⟩))]) (Ls := [(b95, .cells #[.slice a77 n81 c78, .slice a83 n87 c84, .int .i64 n3, .int .i64 n4, .slice a89 n93 c90] 26 (0, 0))]) rfl rfl rfl rfl ((sc rfl (sn _))) (by kernel_rfl) (s0 (s2 (s1 (s3 (s3 (s3 (s3 (s3 (s3 sr))))))))) (fun H F' L' hF' hL' => v_load Try.isAgg23 rfl ((Has.own 0 rfl).ext hF' hL') rfl) ?_
         refine shM_v (v := .slice a47 n51 c48) (ek := [(7, .slice a47 n51 c48)]) (Ls := []) rfl rfl rfl rfl ((sc rfl (sn _))) (by kernel_rfl) sm (fun H F' L' hF' hL' => v_move rfl) ?_
         refine shM_v (v := .int .i64 k) (ek := [(11, .int .i64 k)]) (Ls := []) rfl rfl rfl rfl ((sc rfl (sn _))) (by kernel_rfl) sm (fun H F' L' hF' hL' => v_move rfl) ?_
         obtain ⟨b251, o252, c253, vs254, ha255, hs256, hle257, rfl, hl258, hc259⟩ := SlR.at (iE_ok _) hz50 (L := Lb49 ++ []) fP g145.1 hx146
         refine shM_v (v := .pointer (some ⟨b251, o252 + (k : Int).toNat * 1, none⟩)) (ek := [(85, .slice a47 n51 c48), (86, .int .i64 k)]) (Ls := []) rfl rfl rfl rfl ((sc rfl (sc rfl (sn _)))) (by kernel_rfl) sm (fun H F' L' hF' hL' => v_indexO Try.underlying30 Try.sizeOf3 rfl ha255 rfl (SlR.idx hz50 g145)) ?_
         refine shM_v (v := .int .i64 x3) (ek := [(87, .pointer (some ⟨b251, o252 + (k : Int).toNat * 1, none⟩))]) (Ls := Lb49 ++ []) rfl rfl rfl rfl ((sc rfl (sn _))) (by kernel_rfl) (s0 (s1 (s1 (s3 (s3 (s3 (s4 (s3 (s3 sr))))))))) (fun H F' L' hF' hL' => v_load Try.isAgg3 rfl (hs256.ext hF' hL') (hc259 0 (by decide))) ?_
         obtain ⟨b260, o261, c262, vs263, ha264, hs265, hle266, rfl, hl267, hc268⟩ := SlR.at hdE_ok hO246 (L := Lo239 ++ []) fP g235.1 hh245
         refine shM_v (v := .pointer (some ⟨b260, o261 + (x3 : Int).toNat * 1, none⟩)) (ek := [(84, .slice a77 n81 c78), (88, .int .i64 x3)]) (Ls := []) rfl rfl rfl rfl ((sc rfl (sc rfl (sn _)))) (by kernel_rfl) sm (fun H F' L' hF' hL' => v_indexO Try.underlying23 Try.sizeOf30 rfl ha264 rfl (idxN hn249 g235)) ?_
         refine shM_v (v := .slice a241 n242 c243) (ek := [(89, .pointer (some ⟨b260, o261 + (x3 : Int).toNat * 1, none⟩))]) (Ls := Lo239 ++ []) rfl rfl rfl rfl ((sc rfl (sn _))) (by kernel_rfl) (s0 (s1 (s1 (s4 (s3 (s3 (s3 (s3 (s3 sr))))))))) (fun H F' L' hF' hL' => v_load Try.isAgg30 rfl (hs265.ext hF' hL') (hc268 0 (by decide))) ?_
         refine shM_v (v := .slice a47 n51 c48) (ek := [(7, .slice a47 n51 c48)]) (Ls := []) rfl rfl rfl rfl ((sc rfl (sn _))) (by kernel_rfl) sm (fun H F' L' hF' hL' => v_move rfl) ?_
         refine shM_v (v := .int .i64 k2) (ek := [(13, .int .i64 k2)]) (Ls := []) rfl rfl rfl rfl ((sc rfl (sn _))) (by kernel_rfl) sm (fun H F' L' hF' hL' => v_move rfl) ?_
         obtain ⟨x8, g269, hx270, r271⟩ := ix_ok r237
         obtain ⟨b272, o273, c274, vs275, ha276, hs277, hle278, rfl, hl279, hc280⟩ := SlR.at (iE_ok _) hz50 (L := Lb49 ++ []) fP g269.1 hx270
         refine shM_v (v := .pointer (some ⟨b272, o273 + (k2 : Int).toNat * 1, none⟩)) (ek := [(91, .slice a47 n51 c48), (92, .int .i64 k2)]) (Ls := []) rfl rfl rfl rfl ((sc rfl (sc rfl (sn _)))) (by kernel_rfl) sm (fun H F' L' hF' hL' => v_indexO Try.underlying30 Try.sizeOf3 rfl ha276 rfl (SlR.idx hz50 g269)) ?_
         refine shM_v (v := .int .i64 x8) (ek := [(93, .pointer (some ⟨b272, o273 + (k2 : Int).toNat * 1, none⟩))]) (Ls := Lb49 ++ []) rfl rfl rfl rfl ((sc rfl (sn _))) (by kernel_rfl) (s0 (s1 (s1 (s3 (s3 (s3 (s4 (s3 (s3 sr))))))))) (fun H F' L' hF' hL' => v_load Try.isAgg3 rfl (hs277.ext hF' hL') (hc280 0 (by decide))) ?_
         refine shM_v (v := .int .i64 x6) (ek := [(14, .int .i64 x6)]) (Ls := []) rfl rfl rfl rfl ((sc rfl (sn _))) (by kernel_rfl) sm (fun H F' L' hF' hL' => v_move rfl) ?_
         obtain ⟨x9, g281, hx282, r283⟩ := ix_ok r271
         obtain ⟨b284, o285, c286, vs287, ha288, hs289, hle290, rfl, hl291, hc292⟩ := SlR.at (iE_ok _) hz247 (L := Lb244 ++ []) fP g281.1 hx282
         refine shM_v (v := .pointer (some ⟨b284, o285 + (x8 : Int).toNat * 1, none⟩)) (ek := [(90, .slice a241 n242 c243), (94, .int .i64 x8)]) (Ls := []) rfl rfl rfl rfl ((sc rfl (sc rfl (sn _)))) (by kernel_rfl) sm (fun H F' L' hF' hL' => v_indexO Try.underlying30 Try.sizeOf3 rfl ha288 rfl (SlR.idx hz247 g281)) ?_
         refine ⟨_, [(95, .int .i64 x6), (96, .pointer (some ⟨b284, o285 + (x8 : Int).toNat * 1, none⟩))], rfl, rfl, (sc rfl (sc rfl (sn _))), by kernel_rfl, ?_⟩; intro H
         obtain ⟨l11, h293, r294⟩ := bv_ok r283
         refine o_storeZ (u := x6) Try.sizeOf3 (iE_ok _) rfl ha288 rfl rfl (fun _ => .c (.c (.s .h))) hz247 h293 g281 ?_; intro Lb295 hz296
         refine shO_nil ⟨undef, rfl, FExt.refl _, [], by kernel_rfl, .inl (.inl rfl), (fun _ h => absurd h List.not_mem_nil), ?_⟩
         refine shM_nil ?_
         refine inBlock_n (id := 3) (shW_region ?_)
         refine ov (v_add rfl rfl (Lst.r64 hk217 c222 (RowR.lt h214))) rfl ?_
         refine om rfl rfl ?_
         obtain ⟨u, h297, r298⟩ := bv_ok r294
         refine shO_fold (p := fun X => NlR K.w0.heap.size 30 3 1 (iE .i64) F175 a77 n81 c78 u X) (InH.back0 hI248 hO246 hh245 hz296 h297) (pT ((fC (fC fP)).trans (pA ((fC (fC fP)).trans (pA ((fC (fC fP)).trans (pA pR)))))) (lp (lp (lp (ln rfl))))) ?_; intro Lb299 hz300
         refine kO (kf (fS fO) (kf (fS fO) kr)) ?_
         refine shO_nil ?_
         subst hn218; exact le (kc (kc (kg (fS fP) kr))) ⟨_, _, rfl, hk223, u, Lb299, r298, rfl, rfl, (sc rfl (sc rfl (sc rfl (sc rfl (sc rfl (sc rfl (sc rfl (sc rfl (sc rfl (sc rfl (sc rfl (sn _)))))))))))), hz300⟩
       obtain rfl := Lst.zero hk217 c222
       rw [oyezlaw03_RoundNamed_l2] at r219
       refine shW_exit (andThen_exit (andThen_exit ?_))
       refine inBlock_exit ?_
       refine inBlock_n (id := 1) ?_
       obtain ⟨rfl, rfl⟩ := inj2 r219
       exact mi kr ⟨Lb215, Lb198, hF176, rfl, (sc rfl (sc rfl (sc rfl (sc rfl (sc rfl (sc rfl (sc rfl (sn _)))))))), hz216, hz199⟩
     rintro e1 F302 _ ⟨Lb127, Lb129, hF303, rfl, he301, hz128, hz130⟩
     refine shW_env _ he301 ?_
     replace h22 := h22.mono (slE_ok (iE_ok _)) hF303
     refine shW_region ?_
     refine ov (v_add rfl rfl (Lst.r64 hk116 c123 (RowR.lt h22))) rfl ?_
     refine om rfl rfl (shO_nil ?_)
     subst hn117; refine lf ?_
     exact mf kr ⟨_, _, rfl, hk124, u_walks3, u_hears3, Lb127, Lb129, r132, (hF121.trans hF303), rfl, (sc rfl (sc rfl (sc rfl (sc rfl (sc rfl (sc rfl (sc rfl (sn _)))))))), hz128, hz130⟩
   obtain rfl := Lst.zero hk116 c123
   rw [oyezlaw03_RoundNamed_l1] at r118
   refine shW_exit (andThen_exit (andThen_exit ?_))
   refine inBlock_exit ?_
   obtain ⟨rfl, rfl, rfl⟩ := inj3 r118
   exact mi kr ⟨Lb112, Lb114, a60, c61, ((hF107.trans hF110).trans hF121), rfl, (sc rfl (sc rfl (sc rfl (sc rfl (sn _))))), hz113, hz115, h108, hz111⟩
 rintro e1 F305 _ ⟨Lb96, Lb98, a101, c102, hF306, rfl, he304, hz97, hz99, h103, hz100⟩
 refine shW_env _ he304 ?_
 replace h19 := h19.mono (slE_ok (iE_ok _)) hF306
 replace h22 := h22.mono (slE_ok (iE_ok _)) hF306
 replace h70 := h70.mono (prE_ok (slE_ok (iE_ok _)) (prE_ok (iE_ok _) (iE_ok _))) hF306
 replace hz50 := hz50.mono (iE_ok _) hF306
 replace hz92 := hz92.mono (prE_ok (slE_ok (iE_ok _)) (prE_ok (iE_ok _) (iE_ok _))) hF306
 refine wsr (om rfl rfl ?_)
 refine ov (v_fieldAddr fa_26_3 rfl) rfl ?_
 refine ov (v_load Try.isAgg3 rfl (Has.own 1 rfl) rfl) rfl ?_
 obtain ⟨x10, g307, hx308, r309⟩ := ix_ok r105
 obtain ⟨b310, o311, c312, vs313, ha314, hs315, hle316, rfl, hl317, hc318⟩ := SlR.at (iE_ok _) hz50 (L := (b95, .cells #[.slice a77 n81 c78, .slice a83 n87 c84, .int .i64 n3, .int .i64 n4, .slice a89 n93 c90] 26 (0, 0)) :: ((b30, .cells #[.slice a17 l.length c18, .slice a20 l2.length c21, .int .i64 n, .int .i64 n2, .slice a23 l3.length c24] 26 (0, 0)) :: (Lb49 ++ (Lb96 ++ (Lb98 ++ (Lb91 ++ [])))))) (fC (fC fP)) g307.1 hx308
 refine ov (v_indexO Try.underlying30 Try.sizeOf3 rfl ha314 rfl (SlR.idx hz50 g307)) rfl ?_
 refine ov (v_load Try.isAgg3 rfl hs315 (hc318 0 (by decide))) rfl ?_
 refine ov (v_fieldAddr fa_26_3 rfl) rfl ?_
 refine o_store (i := 0) Try.sizeOf3 rfl rfl rfl rfl (nbL rfl) ?_
 refine shO_L (L' := (b95, .cells #[.slice a77 n81 c78, .slice a83 n87 c84, .int .i64 n3, .int .i64 x10, .slice a89 n93 c90] 26 (0, 0)) :: ((b30, .cells #[.slice a17 l.length c18, .slice a20 l2.length c21, .int .i64 n, .int .i64 n2, .slice a23 l3.length c24] 26 (0, 0)) :: (Lb49 ++ (Lb96 ++ (Lb98 ++ (Lb91 ++ [])))))) rfl ?_
 refine shO_nil ?_
 obtain ⟨u_notices, h321, r322⟩ := b1_ok r309
 refine shW_join (fun e1 F1 L1 => ∃ (Lb319 : LH), FExt F305 F1 ∧ L1 = ((b95, .cells #[.slice a77 n81 c78, .slice a83 n87 c84, .int .i64 n3, .int .i64 x10, .slice a89 n93 c90] 26 (0, 0)) :: ((b30, .cells #[.slice a17 l.length c18, .slice a20 l2.length c21, .int .i64 n, .int .i64 n2, .slice a23 l3.length c24] 26 (0, 0)) :: (Lb96 ++ (Lb98 ++ (Lb319 ++ []))))) ∧ e1.sub [(5, .pointer (some ⟨b30, 0, none⟩)), (9, .pointer (some ⟨b95, 0, none⟩))] ∧ SlR K.w0.heap.size 39 3 (prE (slE 1 (iE .i64)) (prE (iE .i64) (iE .i64))) F1 a89 n93 c90 u_notices Lb319) ?_ ?_
 · clear r322
   refine wsr ?_
   refine ov (v_fieldAddr fa_26_4 rfl) rfl ?_
   refine ov (v_load Try.isAgg24 rfl (Has.own 1 rfl) rfl) rfl ?_
   refine ov (v_lenS Try.underlying24 rfl) rfl ?_
   refine om rfl rfl (shO_nil ?_)
   refine shW_block ?_
   refine kW (kc (kc (kx kr))) ?_
   refine shW_lp (fun fu3 e1 F1 L1 => ∃ (tl5 : List ((List Int) × Int × Int)) (k3 : Int), tl5.length = fu3 ∧ Lst l3 k3 tl5 ∧ ∃ (u_notices2 : List ((List Int) × Int × Int)) (Lb323 : LH), oyezlaw03_RoundNamed_l3 x tl5 k3 u_notices2 = some u_notices ∧ FExt F305 F1 ∧ L1 = ((b95, .cells #[.slice a77 n81 c78, .slice a83 n87 c84, .int .i64 n3, .int .i64 x10, .slice a89 n93 c90] 26 (0, 0)) :: ((b30, .cells #[.slice a17 l.length c18, .slice a20 l2.length c21, .int .i64 n, .int .i64 n2, .slice a23 l3.length c24] 26 (0, 0)) :: (Lb96 ++ (Lb98 ++ (Lb323 ++ []))))) ∧ e1.sub [(5, .pointer (some ⟨b30, 0, none⟩)), (9, .pointer (some ⟨b95, 0, none⟩)), (10, .func (.func 20) #[] #[.pointer (some ⟨b67, 0, none⟩)]), (106, .slice a23 l3.length c24), (107, .int .i64 (l3.length : Int)), (108, .int .i64 k3)] ∧ SlR K.w0.heap.size 39 3 (prE (slE 1 (iE .i64)) (prE (iE .i64) (iE .i64))) F1 a89 n93 c90 u_notices2 Lb323) _ (m0 kr ⟨_, _, rfl, Lst.start _, l8, Lb91, h321, FExt.refl _, rfl, (sc rfl (sc rfl (sc rfl (sc rfl (sc rfl (sc rfl (sn _))))))), hz92⟩) ?_
   rintro fu3 e1 F329 _ ⟨tl5, k3, hn326, hk325, u_notices2, Lb323, r327, hF330, rfl, he328, hz324⟩
   refine shW_env _ he328 ?_
   replace h70 := h70.mono (prE_ok (slE_ok (iE_ok _)) (prE_ok (iE_ok _) (iE_ok _))) hF330
   replace h103 := h103.mono (iE_ok _) hF330
   replace hz100 := hF330 _ _ hz100
   refine wsr ?_
   refine ov (v_lssK rfl rfl) rfl ?_
   refine shO_nil (shW_seq ?_)
   refine shW_condP rfl (fun c332 => ?_) (fun c332 => ?_)
   · obtain ⟨x11, tl6, rfl, hx334, g335, hk333⟩ := Lst.succ hk325 c332
     rw [oyezlaw03_RoundNamed_l3] at r327
     refine shW_skip (shW_seq ?_)
     refine shW_block ?_
     refine wsr (om rfl rfl ?_)
     obtain ⟨b336, o337, c338, vs339, ha340, hs341, hle342, ⟨_, _, rfl, ⟨a345, c346, rfl, h347⟩, ⟨_, _, rfl, rfl, rfl⟩⟩, hl343, hc344⟩ := RowR.at (prE_ok (slE_ok (iE_ok _)) (prE_ok (iE_ok _) (iE_ok _))) h70 ((b95, .cells #[.slice a77 n81 c78, .slice a83 n87 c84, .int .i64 n3, .int .i64 x10, .slice a89 n93 c90] 26 (0, 0)) :: ((b30, .cells #[.slice a17 l.length c18, .slice a20 l2.length c21, .int .i64 n, .int .i64 n2, .slice a23 l3.length c24] 26 (0, 0)) :: (Lb96 ++ (Lb98 ++ (Lb323 ++ []))))) g335.1 hx334
     refine ov (v_indexO Try.underlying24 Try.sizeOf39 rfl ha340 rfl g335) rfl ?_
     refine ov (v_loadA (cs := #[.slice a345 x11.1.length c346, .int .i64 x11.2.1, .int .i64 x11.2.2]) Try.isAgg39 Try.sizeOf39 rfl hs341 hle342 (extract_cells hle342 hl343 hc344)) rfl ?_
     refine o_alloc rfl Try.zeroValue39 ?_; intro b348 hb348
     refine oa rfl rfl ?_
     refine o_storeA (i := 0) Try.sizeOf39 rfl rfl rfl (by simp [Value.oneCell']) rfl (nbL rfl) ?_
     refine shO_L (L' := (b348, .cells #[.slice a345 x11.1.length c346, .int .i64 x11.2.1, .int .i64 x11.2.2] 39 (0, 0)) :: ((b95, .cells #[.slice a77 n81 c78, .slice a83 n87 c84, .int .i64 n3, .int .i64 x10, .slice a89 n93 c90] 26 (0, 0)) :: ((b30, .cells #[.slice a17 l.length c18, .slice a20 l2.length c21, .int .i64 n, .int .i64 n2, .slice a23 l3.length c24] 26 (0, 0)) :: (Lb96 ++ (Lb98 ++ (Lb323 ++ [])))))) rfl ?_
     refine shO_nil ?_
     refine shW_drawM [(.still, 0), (.still, 1), (.still, 2), (.still, 3), (.still, 4), (.still, 5), (.seq, 6), (.still, 7), (.still, 8), (.seq, 9)] (by kernel_rfl) (by kernel_rfl) (trivial) (by rfl) (by kernel_rfl) ?_
     refine shM_v (v := .pointer (some ⟨b95, 4, none⟩)) (ek := [(9, .pointer (some ⟨b95, 0, none⟩))]) (Ls := []) rfl rfl rfl rfl ((sc rfl (sn _))) (by kernel_rfl) sm (fun H F' L' hF' hL' => v_fieldAddr fa_26_4 rfl) ?_
     refine shM_v (v := .slice a89 n93 c90) (ek := [(113, .pointer (some ⟨b95, 4, none⟩))]) (Ls := [(b95, .cells #[.slice a77 n81 c78, .slice a83 n87 c84, .int .i64 n3, .int .i64 x10, .slice a89 n93 c90] 26 (0, 0))]) rfl rfl rfl rfl ((sc rfl (sn _))) (by kernel_rfl) (s0 (s1 (s2 (s1 (s3 (s3 (s3 sr))))))) (fun H F' L' hF' hL' => v_load Try.isAgg24 rfl ((Has.own 0 rfl).ext hF' hL') rfl) ?_
     refine shM_v (v := .int .i64 k3) (ek := [(15, .int .i64 k3)]) (Ls := []) rfl rfl rfl rfl ((sc rfl (sn _))) (by kernel_rfl) sm (fun H F' L' hF' hL' => v_move rfl) ?_
     refine shM_v (v := .func (.func 20) #[] #[.pointer (some ⟨b67, 0, none⟩)]) (ek := [(10, .func (.func 20) #[] #[.pointer (some ⟨b67, 0, none⟩)])]) (Ls := []) rfl rfl rfl rfl ((sc rfl (sn _))) (by kernel_rfl) sm (fun H F' L' hF' hL' => v_move rfl) ?_
     refine shM_v (v := .pointer (some ⟨b348, 0, none⟩)) (ek := [(16, .pointer (some ⟨b348, 0, none⟩))]) (Ls := []) rfl rfl rfl rfl ((sc rfl (sn _))) (by kernel_rfl) sm (fun H F' L' hF' hL' => v_fieldAddr fa_39_0 rfl) ?_
     refine shM_v (v := .slice a345 x11.1.length c346) (ek := [(117, .pointer (some ⟨b348, 0, none⟩))]) (Ls := [(b348, .cells #[.slice a345 x11.1.length c346, .int .i64 x11.2.1, .int .i64 x11.2.2] 39 (0, 0))]) rfl rfl rfl rfl ((sc rfl (sn _))) (by kernel_rfl) (s0 (s2 (s1 (s1 (s3 (s3 (s3 sr))))))) (fun H F' L' hF' hL' => v_load Try.isAgg30 rfl ((Has.own 0 rfl).ext hF' hL') rfl) ?_
     refine ⟨_, [(116, .func (.func 20) #[] #[.pointer (some ⟨b67, 0, none⟩)]), (118, .slice a345 x11.1.length c346)], rfl, rfl, (sc rfl (sc rfl (sn _))), by kernel_rfl, ?_⟩; intro H
     obtain ⟨l12, h349, r350⟩ := b1_ok r327
     refine o_call0 rfl Try.call20 rfl rfl rfl (oyezlaw03_RoundNamed_1_w h347 hz100 h103 h349) ?_; rintro _ F351 _ hF352 hn353 ⟨a355, n359, c356, Lb357, rfl, rfl, hz358⟩
     replace h70 := h70.mono (prE_ok (slE_ok (iE_ok _)) (prE_ok (iE_ok _) (iE_ok _))) hF352
     replace hz324 := hz324.mono (prE_ok (slE_ok (iE_ok _)) (prE_ok (iE_ok _) (iE_ok _))) hF352
     replace hz358 := hz358.new fun p hp => hn353 p (by simp [hp])
     refine shO_L (lp (ln rfl)) ?_
     refine kO (kf (fS fO) (kf (fS fO) (kf (fS fO) kr))) ?_
     refine shO_nil ⟨_, rfl, hF352, [2, 1, 0], by kernel_rfl, .inl (.inr (fun d h => by cases h; rfl)), (List.forall_mem_cons.2 ⟨sm, (List.forall_mem_cons.2 ⟨s0 (s1 (s2 (s1 (s3 (s3 (s3 (s3 sr))))))), (List.forall_mem_cons.2 ⟨sm, (fun _ h => absurd h List.not_mem_nil)⟩)⟩)⟩), ?_⟩
     obtain ⟨x12, g361, hx362, r363⟩ := ix_ok r350
     obtain ⟨b364, o365, c366, vs367, ha368, hs369, hle370, ⟨_, _, rfl, ⟨a373, c374, rfl, h375⟩, ⟨_, _, rfl, rfl, rfl⟩⟩, hl371, hc372⟩ := SlR.at (prE_ok (slE_ok (iE_ok _)) (prE_ok (iE_ok _) (iE_ok _))) hz324 (L := Lb323 ++ []) fP g361.1 hx362
     refine shM_v (v := .pointer (some ⟨b364, o365 + (k3 : Int).toNat * 3, none⟩)) (ek := [(114, .slice a89 n93 c90), (115, .int .i64 k3)]) (Ls := []) rfl rfl rfl rfl ((sc rfl (sc rfl (sn _)))) (by kernel_rfl) sm (fun H F' L' hF' hL' => v_indexO Try.underlying24 Try.sizeOf39 rfl ha368 rfl (SlR.idx hz324 g361)) ?_
     refine shM_v (v := .pointer (some ⟨b364, o365 + (k3 : Int).toNat * 3, none⟩)) (ek := [(120, .pointer (some ⟨b364, o365 + (k3 : Int).toNat * 3, none⟩))]) (Ls := []) rfl rfl rfl rfl ((sc rfl (sn _))) (by kernel_rfl) sm (fun H F' L' hF' hL' => OpV.eq (v_fieldAddr fa_39_0 rfl) rfl) ?_
     refine ⟨_, [(119, .slice a355 n359 c356), (121, .pointer (some ⟨b364, o365 + (k3 : Int).toNat * 3, none⟩))], rfl, rfl, (sc rfl (sc rfl (sn _))), by kernel_rfl, ?_⟩; intro H
     obtain rfl := (SlR.caps hz358).1
     refine shO_freezeR (Nat.le_refl _) (iE_ok _) (fC (fC (fC fP))) hz358 ?_; intro F376 hF377 h378
     replace h70 := h70.mono (prE_ok (slE_ok (iE_ok _)) (prE_ok (iE_ok _) (iE_ok _))) hF377
     replace hz324 := hz324.mono (prE_ok (slE_ok (iE_ok _)) (prE_ok (iE_ok _) (iE_ok _))) hF377
     obtain ⟨l13, h382, r383⟩ := bv_ok r363
     refine o_storeZP (zs := l13) (off := 0) (x0 := x12) (u := (l12, x12.2.1, x12.2.2)) Try.sizeOf30 (prE_ok (slE_ok (iE_ok _)) (prE_ok (iE_ok _) (iE_ok _))) rfl ha368 rfl rfl (by decide) hx362 (fun vs h => by obtain ⟨_, _, rfl, ⟨a379, c380, rfl, h381⟩, ⟨_, _, rfl, rfl, rfl⟩⟩ := h; exact ⟨_, _, rfl, ⟨_, _, rfl, h378⟩, ⟨_, _, rfl, rfl, rfl⟩⟩) (fun _ => .c (.c (.c (.s (.s .h))))) hz324 h382 g361 ?_; intro Lb384 hz385
     refine shO_nil ⟨undef, rfl, hF377, [], by kernel_rfl, .inl (.inl rfl), (fun _ h => absurd h List.not_mem_nil), ?_⟩
     refine shM_nil ?_
     refine inBlock_n (id := 5) (shW_region ?_)
     refine ov (v_add rfl rfl (Lst.r64 hk325 c332 (RowR.lt h70))) rfl ?_
     refine om rfl rfl (shO_nil ?_)
     subst hn326; exact le (kd kr) ⟨_, _, rfl, hk333, l13, Lb384, r383, ((hF330.trans hF352).trans hF377), rfl, (sc rfl (sc rfl (sc rfl (sc rfl (sc rfl (sc rfl (sn _))))))), hz385⟩
   obtain rfl := Lst.zero hk325 c332
   rw [oyezlaw03_RoundNamed_l3] at r327
   refine shW_exit (andThen_exit (andThen_exit ?_))
   refine inBlock_exit ?_
   obtain rfl := inj1 r327
   exact mi kr ⟨Lb323, hF330, rfl, (sc rfl (sc rfl (sn _))), hz324⟩
 rintro e1 F387 _ ⟨Lb319, hF388, rfl, he386, hz320⟩
 refine shW_env _ he386 ?_
 replace h19 := h19.mono (slE_ok (iE_ok _)) hF388
 replace h22 := h22.mono (slE_ok (iE_ok _)) hF388
 replace h70 := h70.mono (prE_ok (slE_ok (iE_ok _)) (prE_ok (iE_ok _) (iE_ok _))) hF388
 replace hz97 := hz97.mono (iE_ok _) hF388
 replace hz99 := hz99.mono (iE_ok _) hF388
 refine wsr ?_
 refine ov (v_loadA (cs := #[.slice a17 l.length c18, .slice a20 l2.length c21, .int .i64 n, .int .i64 n2, .slice a23 l3.length c24]) Try.isAgg26 Try.sizeOf26 rfl (Has.own 1 rfl) (nbL rfl) rfl) rfl ?_
 obtain ⟨l14, n5, n6, h389, r390⟩ := b3_ok r322
 refine o_call0 rfl Try.call9 rfl rfl rfl (round_Best_w h19 h22 h70 h389) ?_; rintro _ F391 _ hF392 hn393 ⟨a395, n399, c396, Lb397, rfl, rfl, hz398⟩
 replace h19 := h19.mono (slE_ok (iE_ok _)) hF392
 replace h22 := h22.mono (slE_ok (iE_ok _)) hF392
 replace h70 := h70.mono (prE_ok (slE_ok (iE_ok _)) (prE_ok (iE_ok _) (iE_ok _))) hF392
 replace hz97 := hz97.mono (iE_ok _) hF392
 replace hz99 := hz99.mono (iE_ok _) hF392
 replace hz320 := hz320.mono (prE_ok (slE_ok (iE_ok _)) (prE_ok (iE_ok _) (iE_ok _))) hF392
 refine shO_L (lp (ln rfl)) ?_
 refine kO (kf (fS fO) (kf (fS fO) kr)) ?_
 refine om rfl rfl (ox rfl rfl rfl (ox rfl rfl rfl (ox rfl rfl rfl (oa rfl rfl (oa rfl rfl (oa rfl rfl (nsr ?_)))))))
 refine ov (v_loadA (cs := #[.slice a77 n81 c78, .slice a83 n87 c84, .int .i64 n3, .int .i64 x10, .slice a89 n93 c90]) Try.isAgg26 Try.sizeOf26 rfl (Has.own 0 rfl) (nbL rfl) rfl) rfl ?_
 obtain ⟨l15, n7, n8, h401, r402⟩ := b3_ok r390
 refine o_callTO (Lb := []) (Lt := Lb96 ++ (Lb98 ++ (Lb319 ++ []))) (Lr := (b95, .cells #[.slice a77 n81 c78, .slice a83 n87 c84, .int .i64 n3, .int .i64 x10, .slice a89 n93 c90] 26 (0, 0)) :: ((b30, .cells #[.slice a17 l.length c18, .slice a20 l2.length c21, .int .i64 n, .int .i64 n2, .slice a23 l3.length c24] 26 (0, 0)) :: (Lb397 ++ []))) rfl Try.call9 rfl rfl rfl (pT ((fC (fC (fS fP))).trans (pA ((fC (fC (fS fP))).trans (pA ((fC (fC (fS fP))).trans (pA pR)))))) (ln (lp (lp (lp (ln rfl)))))) (fun F2 h2 h3 => by rw [(NlR.caps hz97).1]; rw [(NlR.caps hz99).1]; rw [(SlR.caps hz320).1]; exact round_Best_w (hz97.row (iE_ok _) h2 (fun p hp => h3 p (List.mem_append_left _ hp))) (hz99.row (iE_ok _) h2 (fun p hp => h3 p (List.mem_append_right _ (List.mem_append_left _ hp)))) (hz320.row (prE_ok (slE_ok (iE_ok _)) (prE_ok (iE_ok _) (iE_ok _))) h2 (fun p hp => h3 p (List.mem_append_right _ (List.mem_append_right _ (List.mem_append_left _ hp))))) h401) (fun _ _ _ _ hq => by obtain ⟨a407, n411, c408, Lb409, rfl, rfl, hz410⟩ := hq; exact ⟨_, _, _, _, rfl, rfl, hz410.flat (fun _ _ h => h)⟩) ?_; rintro _ F403 _ hF404 hd406 hn405 ⟨a407, n411, c408, Lb409, rfl, rfl, hz410⟩
 replace h19 := h19.mono (slE_ok (iE_ok _)) hF404
 replace h22 := h22.mono (slE_ok (iE_ok _)) hF404
 replace h70 := h70.mono (prE_ok (slE_ok (iE_ok _)) (prE_ok (iE_ok _) (iE_ok _))) hF404
 replace hz97 := hz97.mono (iE_ok _) hF404
 replace hz99 := hz99.mono (iE_ok _) hF404
 replace hz320 := hz320.mono (prE_ok (slE_ok (iE_ok _)) (prE_ok (iE_ok _) (iE_ok _))) hF404
 refine shO_L (lp (ln (lp (lp (lp (ln rfl)))))) ?_
 refine kO (kf (fS (fS (fS (fS fO)))) (kf (fS (fS (fS (fS fO)))) kr)) ?_
 refine om rfl rfl (ox rfl rfl rfl (ox rfl rfl rfl (ox rfl rfl rfl (oa rfl rfl (oa rfl rfl (oa rfl rfl (nsr ?_)))))))
 refine ov (v_loadA (cs := #[.slice a17 l.length c18, .slice a20 l2.length c21, .int .i64 n, .int .i64 n2, .slice a23 l3.length c24]) Try.isAgg26 Try.sizeOf26 rfl (Has.own 1 rfl) (nbL rfl) rfl) rfl ?_
 obtain ⟨l16, n9, h414, r415⟩ := b2_ok r402
 refine o_call0 rfl Try.call21 rfl rfl rfl (round_Most_w h19 h22 h70 h414) ?_; rintro _ F416 _ hF417 hn418 ⟨a420, c421, rfl, rfl, h422⟩
 replace h19 := h19.mono (slE_ok (iE_ok _)) hF417
 replace h22 := h22.mono (slE_ok (iE_ok _)) hF417
 replace h70 := h70.mono (prE_ok (slE_ok (iE_ok _)) (prE_ok (iE_ok _) (iE_ok _))) hF417
 replace hz97 := hz97.mono (iE_ok _) hF417
 replace hz99 := hz99.mono (iE_ok _) hF417
 replace hz320 := hz320.mono (prE_ok (slE_ok (iE_ok _)) (prE_ok (iE_ok _) (iE_ok _))) hF417
 refine shO_L (ln rfl) ?_
 refine om rfl rfl (ox rfl rfl rfl (ox rfl rfl rfl (oa rfl rfl (oa rfl rfl (nsr ?_)))))
 refine ov (v_loadA (cs := #[.slice a77 n81 c78, .slice a83 n87 c84, .int .i64 n3, .int .i64 x10, .slice a89 n93 c90]) Try.isAgg26 Try.sizeOf26 rfl (Has.own 0 rfl) (nbL rfl) rfl) rfl ?_
 obtain rfl := (NlR.caps hz97).1
 refine shO_freezeN (Nat.le_refl _) (iE_ok _) (fC (fC (fS fP))) hz97 ?_; intro F423 hF424 h425
 replace h19 := h19.mono (slE_ok (iE_ok _)) hF424
 replace h22 := h22.mono (slE_ok (iE_ok _)) hF424
 replace h70 := h70.mono (prE_ok (slE_ok (iE_ok _)) (prE_ok (iE_ok _) (iE_ok _))) hF424
 replace h422 := h422.mono (iE_ok _) hF424
 replace hz99 := hz99.mono (iE_ok _) hF424
 replace hz320 := hz320.mono (prE_ok (slE_ok (iE_ok _)) (prE_ok (iE_ok _) (iE_ok _))) hF424
 obtain rfl := (NlR.caps hz99).1
 refine shO_freezeN (Nat.le_refl _) (iE_ok _) (fC (fC (fS fP))) hz99 ?_; intro F426 hF427 h428
 replace h19 := h19.mono (slE_ok (iE_ok _)) hF427
 replace h22 := h22.mono (slE_ok (iE_ok _)) hF427
 replace h70 := h70.mono (prE_ok (slE_ok (iE_ok _)) (prE_ok (iE_ok _) (iE_ok _))) hF427
 replace h422 := h422.mono (iE_ok _) hF427
 replace h425 := h425.mono (slE_ok (iE_ok _)) hF427
 replace hz320 := hz320.mono (prE_ok (slE_ok (iE_ok _)) (prE_ok (iE_ok _) (iE_ok _))) hF427
 obtain rfl := (SlR.caps hz320).1
 refine shO_freezeR (Nat.le_refl _) (prE_ok (slE_ok (iE_ok _)) (prE_ok (iE_ok _) (iE_ok _))) (fC (fC (fS fP))) hz320 ?_; intro F429 hF430 h431
 replace h19 := h19.mono (slE_ok (iE_ok _)) hF430
 replace h22 := h22.mono (slE_ok (iE_ok _)) hF430
 replace h70 := h70.mono (prE_ok (slE_ok (iE_ok _)) (prE_ok (iE_ok _) (iE_ok _))) hF430
 replace h422 := h422.mono (iE_ok _) hF430
 replace h425 := h425.mono (slE_ok (iE_ok _)) hF430
 replace h428 := h428.mono (slE_ok (iE_ok _)) hF430
 obtain ⟨l17, n10, h432, r433⟩ := b2_ok r415
 refine o_call0 rfl Try.call21 rfl rfl rfl (round_Most_w h425 h428 h431 h432) ?_; rintro _ F434 _ hF435 hn436 ⟨a438, c439, rfl, rfl, h440⟩
 replace h19 := h19.mono (slE_ok (iE_ok _)) hF435
 replace h22 := h22.mono (slE_ok (iE_ok _)) hF435
 replace h70 := h70.mono (prE_ok (slE_ok (iE_ok _)) (prE_ok (iE_ok _) (iE_ok _))) hF435
 replace h422 := h422.mono (iE_ok _) hF435
 replace h425 := h425.mono (slE_ok (iE_ok _)) hF435
 replace h428 := h428.mono (slE_ok (iE_ok _)) hF435
 replace h431 := h431.mono (prE_ok (slE_ok (iE_ok _)) (prE_ok (iE_ok _) (iE_ok _))) hF435
 refine shO_L (ln rfl) ?_
 refine om rfl rfl (ox rfl rfl rfl (ox rfl rfl rfl (oa rfl rfl (oa rfl rfl (nsr ?_)))))
 refine ov (v_loadA (cs := #[.slice a17 l.length c18, .slice a20 l2.length c21, .int .i64 n, .int .i64 n2, .slice a23 l3.length c24]) Try.isAgg26 Try.sizeOf26 rfl (Has.own 1 rfl) (nbL rfl) rfl) rfl ?_
 obtain ⟨l18, n11, h441, r442⟩ := b2_ok r433
 refine o_call0 rfl Try.call13 rfl rfl rfl (round_Excludes_w h19 h22 h70 h441) ?_; rintro _ F443 _ hF444 hn445 ⟨a447, n451, c448, Lb449, rfl, rfl, hz450⟩
 replace h19 := h19.mono (slE_ok (iE_ok _)) hF444
 replace h22 := h22.mono (slE_ok (iE_ok _)) hF444
 replace h70 := h70.mono (prE_ok (slE_ok (iE_ok _)) (prE_ok (iE_ok _) (iE_ok _))) hF444
 replace h422 := h422.mono (iE_ok _) hF444
 replace h425 := h425.mono (slE_ok (iE_ok _)) hF444
 replace h428 := h428.mono (slE_ok (iE_ok _)) hF444
 replace h431 := h431.mono (prE_ok (slE_ok (iE_ok _)) (prE_ok (iE_ok _) (iE_ok _))) hF444
 replace h440 := h440.mono (iE_ok _) hF444
 replace hz450 := hz450.new fun p hp => hn445 p (by simp [hp])
 refine shO_L (lp (ln rfl)) ?_
 refine kO (kf (fS fO) (kf (fS fO) kr)) ?_
 refine om rfl rfl (ox rfl rfl rfl (ox rfl rfl rfl (oa rfl rfl (oa rfl rfl (nsr ?_)))))
 refine ov (v_loadA (cs := #[.slice a77 u_walks.length c78, .slice a83 u_hears.length c84, .int .i64 n3, .int .i64 x10, .slice a89 u_notices.length c90]) Try.isAgg26 Try.sizeOf26 rfl (Has.own 0 rfl) (nbL rfl) rfl) rfl ?_
 obtain ⟨l19, n12, h453, r454⟩ := b2_ok r442
 refine o_call0 rfl Try.call13 rfl rfl rfl (round_Excludes_w h425 h428 h431 h453) ?_; rintro _ F455 _ hF456 hn457 ⟨a459, n463, c460, Lb461, rfl, rfl, hz462⟩
 replace h19 := h19.mono (slE_ok (iE_ok _)) hF456
 replace h22 := h22.mono (slE_ok (iE_ok _)) hF456
 replace h70 := h70.mono (prE_ok (slE_ok (iE_ok _)) (prE_ok (iE_ok _) (iE_ok _))) hF456
 replace h422 := h422.mono (iE_ok _) hF456
 replace h425 := h425.mono (slE_ok (iE_ok _)) hF456
 replace h428 := h428.mono (slE_ok (iE_ok _)) hF456
 replace h431 := h431.mono (prE_ok (slE_ok (iE_ok _)) (prE_ok (iE_ok _) (iE_ok _))) hF456
 replace h440 := h440.mono (iE_ok _) hF456
 replace hz450 := hz450.mono (prE_ok (iE_ok _) (iE_ok _)) hF456
 replace hz462 := hz462.new fun p hp => hn457 p (by simp [hp])
 refine shO_L (lp (ln rfl)) ?_
 refine kO (kf (fS fO) (kf (fS fO) kr)) ?_
 refine om rfl rfl (ox rfl rfl rfl (ox rfl rfl rfl (oa rfl rfl (oa rfl rfl (nsr ?_)))))
 refine ov (v_loadA (cs := #[.slice a17 l.length c18, .slice a20 l2.length c21, .int .i64 n, .int .i64 n2, .slice a23 l3.length c24]) Try.isAgg26 Try.sizeOf26 rfl (Has.own 1 rfl) (nbL rfl) rfl) rfl ?_
 obtain ⟨l20, n13, n14, h465, r466⟩ := b3_ok r454
 refine o_call0 rfl Try.call8 rfl rfl rfl (round_Two_w h19 h22 h70 h465) ?_; rintro _ F467 _ hF468 hn469 ⟨a471, n475, c472, Lb473, rfl, rfl, hz474⟩
 replace h422 := h422.mono (iE_ok _) hF468
 replace h425 := h425.mono (slE_ok (iE_ok _)) hF468
 replace h428 := h428.mono (slE_ok (iE_ok _)) hF468
 replace h431 := h431.mono (prE_ok (slE_ok (iE_ok _)) (prE_ok (iE_ok _) (iE_ok _))) hF468
 replace h440 := h440.mono (iE_ok _) hF468
 replace hz450 := hz450.mono (prE_ok (iE_ok _) (iE_ok _)) hF468
 replace hz462 := hz462.mono (prE_ok (iE_ok _) (iE_ok _)) hF468
 refine shO_L (lp (ln rfl)) ?_
 refine kO (kf (fS fO) (kf (fS fO) kr)) ?_
 refine om rfl rfl (ox rfl rfl rfl (ox rfl rfl rfl (ox rfl rfl rfl (oa rfl rfl (oa rfl rfl (oa rfl rfl (nsr ?_)))))))
 refine ov (v_loadA (cs := #[.slice a77 u_walks.length c78, .slice a83 u_hears.length c84, .int .i64 n3, .int .i64 x10, .slice a89 u_notices.length c90]) Try.isAgg26 Try.sizeOf26 rfl (Has.own 0 rfl) (nbL rfl) rfl) rfl ?_
 obtain ⟨l21, n15, n16, h477, r478⟩ := b3_ok r466
 refine o_call0 rfl Try.call8 rfl rfl rfl (round_Two_w h425 h428 h431 h477) ?_; rintro _ F479 _ hF480 hn481 ⟨a483, n487, c484, Lb485, rfl, rfl, hz486⟩
 replace h422 := h422.mono (iE_ok _) hF480
 replace h440 := h440.mono (iE_ok _) hF480
 replace hz450 := hz450.mono (prE_ok (iE_ok _) (iE_ok _)) hF480
 replace hz462 := hz462.mono (prE_ok (iE_ok _) (iE_ok _)) hF480
 refine shO_L (lp (ln rfl)) ?_
 refine kO (kf (fS fO) (kf (fS fO) kr)) ?_
 refine om rfl rfl (ox rfl rfl rfl (ox rfl rfl rfl (ox rfl rfl rfl (oa rfl rfl (oa rfl rfl (oa rfl rfl (nsr (om rfl rfl (om rfl rfl ?_)))))))))
 refine ov (v_eql rfl rfl) rfl ?_
 refine om rfl rfl ?_
 by_cases c489 : n6 = n8
 · have r490 := ite_t r478 c489
   refine shO_on (b := true) 170 rfl (Env.isT rfl c489) (om rfl rfl (shO_on (b := true) 170 rfl (Env.isT rfl c489) (om rfl rfl (shO_on (b := true) 170 rfl (Env.isT rfl c489) ?_))))
   refine ov (v_eql rfl rfl) rfl ?_
   refine ov (v_pick_t (evD_true rfl c489) rfl) rfl ?_
   refine om rfl rfl ?_
   by_cases c491 : n5 = n7
   · have r492 := ite_t r490 c491
     refine shO_on (b := true) 175 rfl (Env.isT rfl c491) (om rfl rfl (shO_on (b := true) 175 rfl (Env.isT rfl c491) ?_))
     refine ov (v_eql rfl rfl) rfl ?_
     refine ov (v_pick_t (evD_true rfl c491) rfl) rfl ?_
     refine om rfl rfl ?_
     by_cases c493 : n9 = 0
     · have r494 := ite_t r492 c493
       refine shO_on (b := true) 179 rfl (Env.isT rfl c493) (om rfl rfl (shO_on (b := true) 179 rfl (Env.isT rfl c493) ?_))
       refine ov (v_eql rfl rfl) rfl ?_
       refine ov (v_pick_t (evD_true rfl c493) rfl) rfl ?_
       refine om rfl rfl ?_
       by_cases c495 : n10 = 0
       · have r496 := ite_t r494 c495
         refine shO_on (b := true) 183 rfl (Env.isT rfl c495) (om rfl rfl (shO_on (b := true) 183 rfl (Env.isT rfl c495) (om rfl rfl (shO_on (b := true) 183 rfl (Env.isT rfl c495) ?_))))
         obtain ⟨ok, h497, r498⟩ := b1_ok r496
         refine o_callV rfl Try.call22 rfl rfl rfl (oyezkit_Like_int_w h422 h440 h497) ?_
         refine ov (v_pick_t (evD_true rfl c495) rfl) rfl ?_
         refine om rfl rfl ?_
         rcases bool_two ok with c499 | c499
         · have r500 := bt r498 c499
           refine shO_on (b := true) 188 rfl (EnvB rfl c499) (om rfl rfl (shO_on (b := true) 188 rfl (EnvB rfl c499) (om rfl rfl (shO_on (b := true) 188 rfl (EnvB rfl c499) ?_))))
           refine ov (v_eql rfl rfl) rfl ?_
           refine ov (v_pick_t (evB rfl c499) rfl) rfl ?_
           refine om rfl rfl ?_
           by_cases c501 : n11 = n12
           · have r502 := ite_t r500 c501
             refine shO_on (b := true) 193 rfl (Env.isT rfl c501) (om rfl rfl (shO_on (b := true) 193 rfl (Env.isT rfl c501) ?_))
             refine ov ((v_lenS Try.underlying44 rfl).i (SlR.lenI hz450)) rfl ?_
             refine shO_on (b := true) 193 rfl (Env.isT rfl c501) (om rfl rfl (shO_on (b := true) 193 rfl (Env.isT rfl c501) ?_))
             refine ov ((v_lenS Try.underlying44 rfl).i (SlR.lenI hz462)) rfl ?_
             refine shO_on (b := true) 193 rfl (Env.isT rfl c501) ?_
             refine ov (v_eql rfl rfl) rfl ?_
             refine ov (v_pick_t (evD_true rfl c501) rfl) rfl ?_
             refine om rfl rfl ?_
             by_cases c503 : (l18.length : Int) = (l19.length : Int)
             · have r504 := ite_t r502 c503
               refine shO_on (b := true) 200 rfl (Env.isT rfl c503) (om rfl rfl (shO_on (b := true) 200 rfl (Env.isT rfl c503) (om rfl rfl (shO_on (b := true) 200 rfl (Env.isT rfl c503) ?_))))
               refine ov (v_eql rfl rfl) rfl ?_
               refine ov (v_pick_t (evD_true rfl c503) rfl) rfl ?_
               refine om rfl rfl ?_
               by_cases c505 : n14 = n16
               · have r506 := ite_t r504 c505
                 refine shO_on (b := true) 205 rfl (Env.isT rfl c505) (om rfl rfl (shO_on (b := true) 205 rfl (Env.isT rfl c505) (om rfl rfl (shO_on (b := true) 205 rfl (Env.isT rfl c505) ?_))))
                 refine ov (v_eql rfl rfl) rfl ?_
                 refine ov (v_pick_t (evD_true rfl c505) rfl) rfl ?_
                 refine om rfl rfl ?_
                 by_cases c507 : n13 = n15
                 · have r508 := ite_t r506 c507
                   refine shO_on (b := true) 210 rfl (Env.isT rfl c507) ?_
                   obtain ⟨ok2, h509, r510⟩ := b1_ok r508
                   refine o_callV rfl Try.call12 rfl rfl rfl (oyezlaw03_awake_w h509) ?_
                   refine ov (v_pick_t (evD_true rfl c507) rfl) rfl ?_
                   refine oa rfl rfl (shO_nil ?_)
                   refine kW kn ?_
                   refine shW_ret ?_
                   refine q_res1 Try.results5 (res_tmp rfl) (sr) ?_
                   obtain rfl := inj1 r510
                   exact rfl
                 have r511 := ite_f r506 c507
                 refine shO_off (b' := false) 210 rfl (Env.isF rfl c507) rfl rfl ?_
                 refine ov (v_pick_f (evD_false rfl c507) rfl) rfl ?_
                 refine oa rfl rfl (shO_nil ?_)
                 refine kW kn ?_
                 refine shW_ret ?_
                 refine q_res1 Try.results5 (res_tmp rfl) (sr) ?_
                 obtain rfl := inj1 r511
                 exact rfl
               have r512 := ite_f r504 c505
               refine shO_off (b' := false) 205 rfl (Env.isF rfl c505) rfl rfl (shO_off (b' := false) 205 rfl (Env.isF rfl c505) rfl rfl (shO_off (b' := false) 205 rfl (Env.isF rfl c505) rfl rfl ?_))
               refine ov (v_pick_f (evD_false rfl c505) rfl) rfl ?_
               refine om rfl rfl (shO_off (b' := false) 210 rfl rfl rfl rfl ?_)
               refine ov (v_pick_f rfl rfl) rfl ?_
               refine oa rfl rfl (shO_nil ?_)
               refine kW kn ?_
               refine shW_ret ?_
               refine q_res1 Try.results5 (res_tmp rfl) (sr) ?_
               obtain rfl := inj1 r512
               exact rfl
             have r513 := ite_f r502 c503
             refine shO_off (b' := false) 200 rfl (Env.isF rfl c503) rfl rfl (shO_off (b' := false) 200 rfl (Env.isF rfl c503) rfl rfl (shO_off (b' := false) 200 rfl (Env.isF rfl c503) rfl rfl ?_))
             refine ov (v_pick_f (evD_false rfl c503) rfl) rfl ?_
             refine om rfl rfl (shO_off (b' := false) 205 rfl rfl rfl rfl (shO_off (b' := false) 205 rfl rfl rfl rfl (shO_off (b' := false) 205 rfl rfl rfl rfl ?_)))
             refine ov (v_pick_f rfl rfl) rfl ?_
             refine om rfl rfl (shO_off (b' := false) 210 rfl rfl rfl rfl ?_)
             refine ov (v_pick_f rfl rfl) rfl ?_
             refine oa rfl rfl (shO_nil ?_)
             refine kW kn ?_
             refine shW_ret ?_
             refine q_res1 Try.results5 (res_tmp rfl) (sr) ?_
             obtain rfl := inj1 r513
             exact rfl
           have r514 := ite_f r500 c501
           refine shO_off (b' := false) 193 rfl (Env.isF rfl c501) rfl rfl (shO_off (b' := false) 193 rfl (Env.isF rfl c501) rfl rfl (shO_off (b' := false) 193 rfl (Env.isF rfl c501) rfl rfl (shO_off (b' := false) 193 rfl (Env.isF rfl c501) rfl rfl (shO_off (b' := false) 193 rfl (Env.isF rfl c501) rfl rfl ?_))))
           refine ov (v_pick_f (evD_false rfl c501) rfl) rfl ?_
           refine om rfl rfl (shO_off (b' := false) 200 rfl rfl rfl rfl (shO_off (b' := false) 200 rfl rfl rfl rfl (shO_off (b' := false) 200 rfl rfl rfl rfl ?_)))
           refine ov (v_pick_f rfl rfl) rfl ?_
           refine om rfl rfl (shO_off (b' := false) 205 rfl rfl rfl rfl (shO_off (b' := false) 205 rfl rfl rfl rfl (shO_off (b' := false) 205 rfl rfl rfl rfl ?_)))
           refine ov (v_pick_f rfl rfl) rfl ?_
           refine om rfl rfl (shO_off (b' := false) 210 rfl rfl rfl rfl ?_)
           refine ov (v_pick_f rfl rfl) rfl ?_
           refine oa rfl rfl (shO_nil ?_)
           refine kW kn ?_
           refine shW_ret ?_
           refine q_res1 Try.results5 (res_tmp rfl) (sr) ?_
           obtain rfl := inj1 r514
           exact rfl
         have r515 := bf r498 c499
         refine shO_off (b' := false) 188 rfl (EnvB rfl c499) rfl rfl (shO_off (b' := false) 188 rfl (EnvB rfl c499) rfl rfl (shO_off (b' := false) 188 rfl (EnvB rfl c499) rfl rfl ?_))
         refine ov (v_pick_f (evB rfl c499) rfl) rfl ?_
         refine om rfl rfl (shO_off (b' := false) 193 rfl rfl rfl rfl (shO_off (b' := false) 193 rfl rfl rfl rfl (shO_off (b' := false) 193 rfl rfl rfl rfl (shO_off (b' := false) 193 rfl rfl rfl rfl (shO_off (b' := false) 193 rfl rfl rfl rfl ?_)))))
         refine ov (v_pick_f rfl rfl) rfl ?_
         refine om rfl rfl (shO_off (b' := false) 200 rfl rfl rfl rfl (shO_off (b' := false) 200 rfl rfl rfl rfl (shO_off (b' := false) 200 rfl rfl rfl rfl ?_)))
         refine ov (v_pick_f rfl rfl) rfl ?_
         refine om rfl rfl (shO_off (b' := false) 205 rfl rfl rfl rfl (shO_off (b' := false) 205 rfl rfl rfl rfl (shO_off (b' := false) 205 rfl rfl rfl rfl ?_)))
         refine ov (v_pick_f rfl rfl) rfl ?_
         refine om rfl rfl (shO_off (b' := false) 210 rfl rfl rfl rfl ?_)
         refine ov (v_pick_f rfl rfl) rfl ?_
         refine oa rfl rfl (shO_nil ?_)
         refine kW kn ?_
         refine shW_ret ?_
         refine q_res1 Try.results5 (res_tmp rfl) (sr) ?_
         obtain rfl := inj1 r515
         exact rfl
       have r516 := ite_f r494 c495
       refine shO_off (b' := false) 183 rfl (Env.isF rfl c495) rfl rfl (shO_off (b' := false) 183 rfl (Env.isF rfl c495) rfl rfl (shO_off (b' := false) 183 rfl (Env.isF rfl c495) rfl rfl ?_))
       refine ov (v_pick_f (evD_false rfl c495) rfl) rfl ?_
       refine om rfl rfl (shO_off (b' := false) 188 rfl rfl rfl rfl (shO_off (b' := false) 188 rfl rfl rfl rfl (shO_off (b' := false) 188 rfl rfl rfl rfl ?_)))
       refine ov (v_pick_f rfl rfl) rfl ?_
       refine om rfl rfl (shO_off (b' := false) 193 rfl rfl rfl rfl (shO_off (b' := false) 193 rfl rfl rfl rfl (shO_off (b' := false) 193 rfl rfl rfl rfl (shO_off (b' := false) 193 rfl rfl rfl rfl (shO_off (b' := false) 193 rfl rfl rfl rfl ?_)))))
       refine ov (v_pick_f rfl rfl) rfl ?_
       refine om rfl rfl (shO_off (b' := false) 200 rfl rfl rfl rfl (shO_off (b' := false) 200 rfl rfl rfl rfl (shO_off (b' := false) 200 rfl rfl rfl rfl ?_)))
       refine ov (v_pick_f rfl rfl) rfl ?_
       refine om rfl rfl (shO_off (b' := false) 205 rfl rfl rfl rfl (shO_off (b' := false) 205 rfl rfl rfl rfl (shO_off (b' := false) 205 rfl rfl rfl rfl ?_)))
       refine ov (v_pick_f rfl rfl) rfl ?_
       refine om rfl rfl (shO_off (b' := false) 210 rfl rfl rfl rfl ?_)
       refine ov (v_pick_f rfl rfl) rfl ?_
       refine oa rfl rfl (shO_nil ?_)
       refine kW kn ?_
       refine shW_ret ?_
       refine q_res1 Try.results5 (res_tmp rfl) (sr) ?_
       obtain rfl := inj1 r516
       exact rfl
     have r517 := ite_f r492 c493
     refine shO_off (b' := false) 179 rfl (Env.isF rfl c493) rfl rfl (shO_off (b' := false) 179 rfl (Env.isF rfl c493) rfl rfl ?_)
     refine ov (v_pick_f (evD_false rfl c493) rfl) rfl ?_
     refine om rfl rfl (shO_off (b' := false) 183 rfl rfl rfl rfl (shO_off (b' := false) 183 rfl rfl rfl rfl (shO_off (b' := false) 183 rfl rfl rfl rfl ?_)))
     refine ov (v_pick_f rfl rfl) rfl ?_
     refine om rfl rfl (shO_off (b' := false) 188 rfl rfl rfl rfl (shO_off (b' := false) 188 rfl rfl rfl rfl (shO_off (b' := false) 188 rfl rfl rfl rfl ?_)))
     refine ov (v_pick_f rfl rfl) rfl ?_
     refine om rfl rfl (shO_off (b' := false) 193 rfl rfl rfl rfl (shO_off (b' := false) 193 rfl rfl rfl rfl (shO_off (b' := false) 193 rfl rfl rfl rfl (shO_off (b' := false) 193 rfl rfl rfl rfl (shO_off (b' := false) 193 rfl rfl rfl rfl ?_)))))
     refine ov (v_pick_f rfl rfl) rfl ?_
     refine om rfl rfl (shO_off (b' := false) 200 rfl rfl rfl rfl (shO_off (b' := false) 200 rfl rfl rfl rfl (shO_off (b' := false) 200 rfl rfl rfl rfl ?_)))
     refine ov (v_pick_f rfl rfl) rfl ?_
     refine om rfl rfl (shO_off (b' := false) 205 rfl rfl rfl rfl (shO_off (b' := false) 205 rfl rfl rfl rfl (shO_off (b' := false) 205 rfl rfl rfl rfl ?_)))
     refine ov (v_pick_f rfl rfl) rfl ?_
     refine om rfl rfl (shO_off (b' := false) 210 rfl rfl rfl rfl ?_)
     refine ov (v_pick_f rfl rfl) rfl ?_
     refine oa rfl rfl (shO_nil ?_)
     refine kW kn ?_
     refine shW_ret ?_
     refine q_res1 Try.results5 (res_tmp rfl) (sr) ?_
     obtain rfl := inj1 r517
     exact rfl
   have r518 := ite_f r490 c491
   refine shO_off (b' := false) 175 rfl (Env.isF rfl c491) rfl rfl (shO_off (b' := false) 175 rfl (Env.isF rfl c491) rfl rfl ?_)
   refine ov (v_pick_f (evD_false rfl c491) rfl) rfl ?_
   refine om rfl rfl (shO_off (b' := false) 179 rfl rfl rfl rfl (shO_off (b' := false) 179 rfl rfl rfl rfl ?_))
   refine ov (v_pick_f rfl rfl) rfl ?_
   refine om rfl rfl (shO_off (b' := false) 183 rfl rfl rfl rfl (shO_off (b' := false) 183 rfl rfl rfl rfl (shO_off (b' := false) 183 rfl rfl rfl rfl ?_)))
   refine ov (v_pick_f rfl rfl) rfl ?_
   refine om rfl rfl (shO_off (b' := false) 188 rfl rfl rfl rfl (shO_off (b' := false) 188 rfl rfl rfl rfl (shO_off (b' := false) 188 rfl rfl rfl rfl ?_)))
   refine ov (v_pick_f rfl rfl) rfl ?_
   refine om rfl rfl (shO_off (b' := false) 193 rfl rfl rfl rfl (shO_off (b' := false) 193 rfl rfl rfl rfl (shO_off (b' := false) 193 rfl rfl rfl rfl (shO_off (b' := false) 193 rfl rfl rfl rfl (shO_off (b' := false) 193 rfl rfl rfl rfl ?_)))))
   refine ov (v_pick_f rfl rfl) rfl ?_
   refine om rfl rfl (shO_off (b' := false) 200 rfl rfl rfl rfl (shO_off (b' := false) 200 rfl rfl rfl rfl (shO_off (b' := false) 200 rfl rfl rfl rfl ?_)))
   refine ov (v_pick_f rfl rfl) rfl ?_
   refine om rfl rfl (shO_off (b' := false) 205 rfl rfl rfl rfl (shO_off (b' := false) 205 rfl rfl rfl rfl (shO_off (b' := false) 205 rfl rfl rfl rfl ?_)))
   refine ov (v_pick_f rfl rfl) rfl ?_
   refine om rfl rfl (shO_off (b' := false) 210 rfl rfl rfl rfl ?_)
   refine ov (v_pick_f rfl rfl) rfl ?_
   refine oa rfl rfl (shO_nil ?_)
   refine kW kn ?_
   refine shW_ret ?_
   refine q_res1 Try.results5 (res_tmp rfl) (sr) ?_
   obtain rfl := inj1 r518
   exact rfl
 have r519 := ite_f r478 c489
 refine shO_off (b' := false) 170 rfl (Env.isF rfl c489) rfl rfl (shO_off (b' := false) 170 rfl (Env.isF rfl c489) rfl rfl (shO_off (b' := false) 170 rfl (Env.isF rfl c489) rfl rfl ?_))
 refine ov (v_pick_f (evD_false rfl c489) rfl) rfl ?_
 refine om rfl rfl (shO_off (b' := false) 175 rfl rfl rfl rfl (shO_off (b' := false) 175 rfl rfl rfl rfl ?_))
 refine ov (v_pick_f rfl rfl) rfl ?_
 refine om rfl rfl (shO_off (b' := false) 179 rfl rfl rfl rfl (shO_off (b' := false) 179 rfl rfl rfl rfl ?_))
 refine ov (v_pick_f rfl rfl) rfl ?_
 refine om rfl rfl (shO_off (b' := false) 183 rfl rfl rfl rfl (shO_off (b' := false) 183 rfl rfl rfl rfl (shO_off (b' := false) 183 rfl rfl rfl rfl ?_)))
 refine ov (v_pick_f rfl rfl) rfl ?_
 refine om rfl rfl (shO_off (b' := false) 188 rfl rfl rfl rfl (shO_off (b' := false) 188 rfl rfl rfl rfl (shO_off (b' := false) 188 rfl rfl rfl rfl ?_)))
 refine ov (v_pick_f rfl rfl) rfl ?_
 refine om rfl rfl (shO_off (b' := false) 193 rfl rfl rfl rfl (shO_off (b' := false) 193 rfl rfl rfl rfl (shO_off (b' := false) 193 rfl rfl rfl rfl (shO_off (b' := false) 193 rfl rfl rfl rfl (shO_off (b' := false) 193 rfl rfl rfl rfl ?_)))))
 refine ov (v_pick_f rfl rfl) rfl ?_
 refine om rfl rfl (shO_off (b' := false) 200 rfl rfl rfl rfl (shO_off (b' := false) 200 rfl rfl rfl rfl (shO_off (b' := false) 200 rfl rfl rfl rfl ?_)))
 refine ov (v_pick_f rfl rfl) rfl ?_
 refine om rfl rfl (shO_off (b' := false) 205 rfl rfl rfl rfl (shO_off (b' := false) 205 rfl rfl rfl rfl (shO_off (b' := false) 205 rfl rfl rfl rfl ?_)))
 refine ov (v_pick_f rfl rfl) rfl ?_
 refine om rfl rfl (shO_off (b' := false) 210 rfl rfl rfl rfl ?_)
 refine ov (v_pick_f rfl rfl) rfl ?_
 refine oa rfl rfl (shO_nil ?_)
 refine kW kn ?_
 refine shW_ret ?_
 refine q_res1 Try.results5 (res_tmp rfl) (sr) ?_
 obtain rfl := inj1 r519
 exact rfl
end Go.Proofs.Ytfmapnhfamoecaa
