/- The walks that this claim needs, printed by a program of mine; part 3. -/
import Derived.Test.YtfmapnhfamoecabZBNB2
namespace Go.Proofs.Ytfmapnhfamoecab
open Go.SH Go.PL
set_option maxHeartbeats 1000000 in
theorem round_Hurry_1_w {hour : Int} {b_c : Nat} {b_c_ : Nat} {walks_a : Option Addr} {walks_c : Nat} {walks : List (List Int)} {hears_a : Option Addr} {hears_c : Nat} {hears : List (List Int)} {houses : Int} {start : Int} {notices_a : Option Addr} {notices_c : Nat} {notices : List ((List Int) × Int × Int)} {walks2 : List Int} {pairs_a : Option Addr} {pairs_c : Nat} {pairs : List (Int × Int)} {hit : List Int} {mb_c_ : Nat × Nat} {mb_c : Nat × Nat} {b_notice : Nat} {notice : Int} {mb_notice : Nat × Nat} {F : FS} (hb_c : F b_c = some (.cells #[.pointer (some ⟨b_c_, 0, none⟩)] 73 mb_c)) (hb_c_ : F b_c_ = some (.cells ((([.slice walks_a walks.length walks_c] : List Value) ++ (([.slice hears_a hears.length hears_c] : List Value) ++ (([.int .i64 houses] : List Value) ++ (([.int .i64 start] : List Value) ++ (([.slice notices_a notices.length notices_c] : List Value) ++ (walks2.flatMap (cI .i64) ++ (([.slice pairs_a pairs.length pairs_c] : List Value) ++ (hit.flatMap (cI .i64))))))))).toArray) 101 mb_c_)) (h_walks : RowR 1 (slE 1 (iE .i64)) F walks_a walks_c walks) (h_hears : RowR 1 (slE 1 (iE .i64)) F hears_a hears_c hears) (h_notices : RowR 3 (prE (slE 1 (iE .i64)) (prE (iE .i64) (iE .i64))) F notices_a notices_c notices) (h_walks2 : walks2.length = 25) (h_pairs : RowR 2 (prE (iE .i64) (iE .i64)) F pairs_a pairs_c pairs) (h_hit : hit.length = 15) (hb_notice : F b_notice = some (.cells #[.int .i64 notice] 3 mb_notice)) {r : Bool} (hr : round_Hurry_1 hour walks hears houses start notices walks2 pairs hit notice = some r) :
    SpecV Try.prog 56 #[.int .i64 hour, .pointer (some ⟨b_c, 0, none⟩), .pointer (some ⟨b_notice, 0, none⟩)] F (.bool r) := by
 refine spec_of_shW (args := [.int .i64 hour, .pointer (some ⟨b_c, 0, none⟩), .pointer (some ⟨b_notice, 0, none⟩)]) Try.func56 rfl Try.ntmps56 (Nat.le_of_ble_eq_true rfl) ?_
 intro K _ _; rw [round_Hurry_1] at hr
 refine wsr ?_
 refine o_box rfl rfl ?_; intro b1 hb1
 refine oa rfl rfl (shO_nil (shW_seq ?_))
 refine shW_drawM [(.still, 0), (.still, 1), (.still, 3), (.still, 4), (.seq, 2), (.seq, 5), (.still, 6), (.still, 7), (.still, 8), (.still, 9), (.still, 10), (.still, 11), (.still, 12)] (by kernel_rfl) (by kernel_rfl) (trivial) (by rfl) (by kernel_rfl) ?_
 refine shM_v (v := .pointer (some ⟨b_c_, 0, none⟩)) (ek := [(1, .pointer (some ⟨b_c, 0, none⟩))]) (Ls := []) rfl rfl rfl rfl ((sc rfl (sn _))) (by kernel_rfl) sm (fun H F' L' hF' hL' => v_load Try.isAgg73 rfl ((Has.frozen hb_c).ext hF' hL') rfl) ?_
 refine shM_v (v := .pointer (some ⟨b_c_, 0, none⟩)) (ek := [(1, .pointer (some ⟨b_c, 0, none⟩))]) (Ls := []) rfl rfl rfl rfl ((sc rfl (sn _))) (by kernel_rfl) sm (fun H F' L' hF' hL' => v_load Try.isAgg73 rfl ((Has.frozen hb_c).ext hF' hL') rfl) ?_
 refine shM_v (v := .func (.func 57) #[] #[.pointer (some ⟨b_notice, 0, none⟩), .pointer (some ⟨b1, 0, none⟩), .pointer (some ⟨b_c, 0, none⟩)]) (ek := [(1, .pointer (some ⟨b_c, 0, none⟩)), (2, .pointer (some ⟨b_notice, 0, none⟩)), (3, .pointer (some ⟨b1, 0, none⟩))]) (Ls := []) rfl rfl rfl rfl ((sc rfl (sc rfl (sc rfl (sn _))))) (by kernel_rfl) sm (fun H F' L' hF' hL' => v_makeFunc rfl rfl) ?_
 refine shM_v (v := .agg (#[.func (.func 57) #[] #[.pointer (some ⟨b_notice, 0, none⟩), .pointer (some ⟨b1, 0, none⟩), .pointer (some ⟨b_c, 0, none⟩)]])) (ek := [(12, .func (.func 57) #[] #[.pointer (some ⟨b_notice, 0, none⟩), .pointer (some ⟨b1, 0, none⟩), .pointer (some ⟨b_c, 0, none⟩)])]) (Ls := []) rfl rfl rfl rfl ((sc rfl (sn _))) (by kernel_rfl) sm (fun H F' L' hF' hL' => v_build (v := .agg (#[.func (.func 57) #[] #[.pointer (some ⟨b_notice, 0, none⟩), .pointer (some ⟨b1, 0, none⟩), .pointer (some ⟨b_c, 0, none⟩)]])) rfl (by intro w; kernel_rfl)) ?_
 refine ⟨_, [(10, .pointer (some ⟨b_c_, 0, none⟩))], rfl, rfl, (sc rfl (sn _)), by kernel_rfl, ?_⟩; intro H
 obtain ⟨n, h2, r3⟩ := b1_ok hr; clear hr
 refine o_callV rfl Try.call32 rfl rfl rfl (round_crier_all_w hb_c_ h_walks h_hears h_notices h_walks2 h_pairs h_hit h2) ?_
 refine shO_nil ⟨_, rfl, FExt.refl _, [4, 3, 0], by kernel_rfl, .inl (.inr (fun d h => by cases h; rfl)), (List.forall_mem_cons.2 ⟨sm, (List.forall_mem_cons.2 ⟨sm, (List.forall_mem_cons.2 ⟨sm, (fun _ h => absurd h List.not_mem_nil)⟩)⟩)⟩), ?_⟩
 refine ⟨_, [(9, .pointer (some ⟨b_c_, 0, none⟩)), (11, .int .i64 n), (13, .agg (#[.func (.func 57) #[] #[.pointer (some ⟨b_notice, 0, none⟩), .pointer (some ⟨b1, 0, none⟩), .pointer (some ⟨b_c, 0, none⟩)]]))], rfl, rfl, (sc rfl (sc rfl (sc rfl (sn _)))), by kernel_rfl, ?_⟩; intro H
 refine shO_freeze 0 rfl hb1 ?_; intro F4 hF5 hz6
 refine shO_L (L' := []) rfl ?_
 replace h_walks := h_walks.mono (slE_ok (iE_ok _)) hF5
 replace h_hears := h_hears.mono (slE_ok (iE_ok _)) hF5
 replace h_notices := h_notices.mono (prE_ok (slE_ok (iE_ok _)) (prE_ok (iE_ok _) (iE_ok _))) hF5
 replace h_pairs := h_pairs.mono (prE_ok (iE_ok _) (iE_ok _)) hF5
 replace hb_c_ := hF5 _ _ hb_c_
 replace hb_c := hF5 _ _ hb_c
 replace hb_notice := hF5 _ _ hb_notice
 have hn7 : FnR Try.prog F4 57 #[] #[.pointer (some ⟨b_notice, 0, none⟩), .pointer (some ⟨b1, 0, none⟩), .pointer (some ⟨b_c, 0, none⟩)] (prE (iE .i64) (iE .i64)) Value.bool (fun xx_ : Int × Int => round_Hurry_1_1 xx_.1 xx_.2 notice hour walks hears houses start notices walks2 pairs hit) := ⟨Try.call57, fun F2 h2 vs xx_ r ha hr => by obtain ⟨_, _, rfl, rfl, rfl⟩ := ha; exact round_Hurry_1_1_w (h2 _ _ hb_notice) (h2 _ _ hz6) (h2 _ _ hb_c) (h2 _ _ hb_c_) (h_walks.mono (slE_ok (iE_ok _)) h2) (h_hears.mono (slE_ok (iE_ok _)) h2) (h_notices.mono (prE_ok (slE_ok (iE_ok _)) (prE_ok (iE_ok _) (iE_ok _))) h2) h_walks2 (h_pairs.mono (prE_ok (iE_ok _) (iE_ok _)) h2) h_hit hr⟩
 obtain ⟨l, n2, ok, h8, r9⟩ := b3_ok r3; clear r3
 refine o_call0 rfl Try.call31 rfl rfl rfl (round_crier_serve_w hb_c_ h_walks h_hears h_notices h_walks2 h_pairs h_hit hn7 h8) ?_; rintro _ F10 _ hF11 hn12 ⟨a14, n18, c15, Lb16, rfl, rfl, hz17⟩
 refine shO_L (lp (ln rfl)) ?_
 refine shO_nil ⟨_, rfl, (hF5.trans hF11), [], by kernel_rfl, .inl (.inl rfl), (fun _ h => absurd h List.not_mem_nil), ?_⟩
 refine shM_v (v := .tuple #[.slice a14 n18 c15, .int .i64 n2, .bool ok]) (ek := [(14, .tuple #[.slice a14 n18 c15, .int .i64 n2, .bool ok])]) (Ls := []) rfl rfl rfl rfl ((sc rfl (sn _))) (by kernel_rfl) sm (fun H F' L' hF' hL' => v_move rfl) ?_
 refine shM_v (v := .slice a14 n18 c15) (ek := [(8, .tuple #[.slice a14 n18 c15, .int .i64 n2, .bool ok])]) (Ls := []) rfl rfl rfl rfl ((sc rfl (sn _))) (by kernel_rfl) sm (fun H F' L' hF' hL' => v_extract rfl rfl) ?_
 refine shM_v (v := .int .i64 n2) (ek := [(8, .tuple #[.slice a14 n18 c15, .int .i64 n2, .bool ok])]) (Ls := []) rfl rfl rfl rfl ((sc rfl (sn _))) (by kernel_rfl) sm (fun H F' L' hF' hL' => v_extract rfl rfl) ?_
 refine shM_v (v := .bool ok) (ek := [(8, .tuple #[.slice a14 n18 c15, .int .i64 n2, .bool ok])]) (Ls := []) rfl rfl rfl rfl ((sc rfl (sn _))) (by kernel_rfl) sm (fun H F' L' hF' hL' => v_extract rfl rfl) ?_
 refine shM_v (v := .slice a14 n18 c15) (ek := [(15, .slice a14 n18 c15)]) (Ls := []) rfl rfl rfl rfl ((sc rfl (sn _))) (by kernel_rfl) sm (fun H F' L' hF' hL' => v_assign rfl) ?_
 refine shM_v (v := .int .i64 n2) (ek := [(16, .int .i64 n2)]) (Ls := []) rfl rfl rfl rfl ((sc rfl (sn _))) (by kernel_rfl) sm (fun H F' L' hF' hL' => v_assign rfl) ?_
 refine shM_v (v := .bool ok) (ek := [(17, .bool ok)]) (Ls := []) rfl rfl rfl rfl ((sc rfl (sn _))) (by kernel_rfl) sm (fun H F' L' hF' hL' => v_assign rfl) ?_
 refine shM_nil ?_
 refine wsr (om rfl rfl (oa rfl rfl (shO_nil ?_)))
 refine kW kn ?_
 refine shW_ret ?_
 refine q_res1 Try.results56 (res_tmp rfl) (sr) ?_
 obtain rfl := inj1 r9
 exact rfl
set_option maxHeartbeats 1000000 in
theorem round_Hurry_w {walks_a : Option Addr} {walks_c : Nat} {walks : List (List Int)} {hears_a : Option Addr} {hears_c : Nat} {hears : List (List Int)} {houses : Int} {start : Int} {notices_a : Option Addr} {notices_c : Nat} {notices : List ((List Int) × Int × Int)} {notice : Int} {F : FS} (h_walks : RowR 1 (slE 1 (iE .i64)) F walks_a walks_c walks) (h_hears : RowR 1 (slE 1 (iE .i64)) F hears_a hears_c hears) (h_notices : RowR 3 (prE (slE 1 (iE .i64)) (prE (iE .i64) (iE .i64))) F notices_a notices_c notices) {r : Int} {r2 : Int} (hr : round_Hurry walks hears houses start notices notice = some (r, r2)) :
    SpecV Try.prog 25 #[.agg #[.slice walks_a walks.length walks_c, .slice hears_a hears.length hears_c, .int .i64 houses, .int .i64 start, .slice notices_a notices.length notices_c], .int .i64 notice] F (.tuple #[.int .i64 r, .int .i64 r2]) := by
 refine spec_of_shW (args := [.agg #[.slice walks_a walks.length walks_c, .slice hears_a hears.length hears_c, .int .i64 houses, .int .i64 start, .slice notices_a notices.length notices_c], .int .i64 notice]) Try.func25 rfl Try.ntmps25 (Nat.le_of_ble_eq_true rfl) ?_
 intro K _ _; rw [round_Hurry] at hr
 refine wsr ?_
 refine o_box rfl rfl ?_; intro b1 hb1
 refine o_box rfl rfl ?_; intro b2 hb2
 refine oa rfl rfl (oa rfl rfl (nsr ?_))
 refine ov (v_loadA (cs := #[.slice walks_a walks.length walks_c, .slice hears_a hears.length hears_c, .int .i64 houses, .int .i64 start, .slice notices_a notices.length notices_c]) Try.isAgg26 Try.sizeOf26 rfl (Has.own 1 rfl) (Nat.le_of_ble_eq_true rfl) rfl) rfl ?_
 obtain ⟨d, n, h3, r4⟩ := b2_ok hr; clear hr
 refine o_call0 rfl Try.call30 rfl rfl rfl (round_opened_w h_walks h_hears h_notices h3) ?_; rintro _ F5 _ hF6 hn7 ⟨v9, rfl, rfl, hp10⟩
 replace h_walks := h_walks.mono (slE_ok (iE_ok _)) hF6
 replace h_hears := h_hears.mono (slE_ok (iE_ok _)) hF6
 replace h_notices := h_notices.mono (prE_ok (slE_ok (iE_ok _)) (prE_ok (iE_ok _) (iE_ok _))) hF6
 refine shO_L (ln rfl) ?_
 refine om rfl rfl (ox rfl rfl rfl (ox rfl rfl rfl ?_))
 refine o_alloc rfl Try.zeroValue73 ?_; intro b11 hb11
 refine o_store (i := 0) Try.sizeOf73 rfl rfl (PtrR.one hp10) rfl (Nat.le_of_ble_eq_true rfl) ?_
 refine shO_L (L' := [(b11, .cells #[v9] 73 (0, 0)), (b2, .cells #[.int .i64 notice] 3 (0, 0)), (b1, .cells #[.slice walks_a walks.length walks_c, .slice hears_a hears.length hears_c, .int .i64 houses, .int .i64 start, .slice notices_a notices.length notices_c] 26 (0, 0))]) rfl ?_
 refine oa rfl rfl (shO_nil (shW_seq ?_))
 refine shW_block ?_
 refine wsr (om rfl rfl ?_)
 refine ov (v_neq rfl rfl) rfl ?_
 refine oa rfl rfl (shO_nil ?_)
 refine shW_condP rfl (fun c12 => ?_) (fun c12 => ?_)
 · have r13 := ite_t r4 c12; clear r4
   refine wsr (om rfl rfl (oa rfl rfl (oa rfl rfl (shO_nil ?_))))
   refine kW kn ?_
   refine shW_ret (inBlock_ret (andThen_ret ?_))
   refine q_res2 Try.results25 (res_tmp rfl) (res_tmp rfl) (sr) ?_
   obtain ⟨rfl, rfl⟩ := inj2 r13
   exact rfl
 have r14 := ite_f r4 c12; clear r4
 refine wsr ?_
 refine ov (v_loadA (cs := #[.slice walks_a walks.length walks_c, .slice hears_a hears.length hears_c, .int .i64 houses, .int .i64 start, .slice notices_a notices.length notices_c]) Try.isAgg26 Try.sizeOf26 rfl (Has.own 2 rfl) (Nat.le_of_ble_eq_true rfl) rfl) rfl ?_
 refine ov (v_load Try.isAgg3 rfl (Has.own 1 rfl) rfl) rfl ?_
 obtain ⟨ok, h15, r16⟩ := b1_ok r14; clear r14
 refine o_callV rfl Try.call43 rfl rfl rfl (round_Beat_notice_w h_walks h_hears h_notices h15) ?_
 refine ov (v_notB rfl) rfl ?_
 refine oa rfl rfl (shO_nil ?_)
 refine shW_cond rfl (fun c17 => ?_) (fun c17 => ?_)
 · have r18 := bt r16 c17; clear r16
   refine wsr (oa rfl rfl (oa rfl rfl (shO_nil ?_)))
   refine kW kn ?_
   refine shW_ret (inBlock_ret (andThen_ret ?_))
   refine q_res2 Try.results25 (res_tmp rfl) (res_tmp rfl) (sr) ?_
   obtain ⟨rfl, rfl⟩ := inj2 r18
   exact rfl
 have r19 := bf r16 c17; clear r16
 refine shW_skip (inBlock_n (id := 0) (wsr ?_))
 refine ov (v_makeFunc rfl rfl) rfl ?_
 refine oa rfl rfl (shO_nil (shW_seq (wsr (om rfl rfl ?_))))
 refine shO_freeze 0 rfl hb11 ?_; intro F20 hF21 hz22
 refine shO_L (L' := [(b2, .cells #[.int .i64 notice] 3 (0, 0)), (b1, .cells #[.slice walks_a walks.length walks_c, .slice hears_a hears.length hears_c, .int .i64 houses, .int .i64 start, .slice notices_a notices.length notices_c] 26 (0, 0))]) rfl ?_
 replace hp10 := hp10.mono (prE_ok (slE_ok (slE_ok (iE_ok _))) (prE_ok (slE_ok (slE_ok (iE_ok _))) (prE_ok (iE_ok _) (prE_ok (iE_ok _) (prE_ok (slE_ok (prE_ok (slE_ok (iE_ok _)) (prE_ok (iE_ok _) (iE_ok _)))) (prE_ok (arE_ok (n := 25) (sz := 1) (cI_ok .i64)) (prE_ok (slE_ok (prE_ok (iE_ok _) (iE_ok _))) (arE_ok (n := 15) (sz := 1) (cI_ok .i64))))))))) hF21
 obtain ⟨walks2, hears2, houses2, start2, notices2, walks3, pairs, hit, h23, r24⟩ := b8_ok r19; clear r19
 have h44 := hp10; rw [h23] at h44; obtain ⟨b25, c26, m27, hv28, hz29, ⟨_, _, rfl, ⟨a30, c31, rfl, h32⟩, ⟨_, _, rfl, ⟨a33, c34, rfl, h35⟩, ⟨_, _, rfl, rfl, ⟨_, _, rfl, rfl, ⟨_, _, rfl, ⟨a36, c37, rfl, h38⟩, ⟨_, _, rfl, ⟨rfl, h39⟩, ⟨_, _, rfl, ⟨a40, c41, rfl, h42⟩, ⟨rfl, h43⟩⟩⟩⟩⟩⟩⟩⟩⟩ := h44; subst hv28
 have hz29 : F20 b25 = some (.cells ((([.slice a30 walks2.length c31] : List Value) ++ (([.slice a33 hears2.length c34] : List Value) ++ (([.int .i64 houses2] : List Value) ++ (([.int .i64 start2] : List Value) ++ (([.slice a36 notices2.length c37] : List Value) ++ (walks3.flatMap (cI .i64) ++ (([.slice a40 pairs.length c41] : List Value) ++ (hit.flatMap (cI .i64))))))))).toArray) 101 m27) := hz29
 refine shO_freeze 0 rfl hb2 ?_; intro F45 hF46 hz47
 refine shO_L (L' := [(b1, .cells #[.slice walks_a walks.length walks_c, .slice hears_a hears.length hears_c, .int .i64 houses, .int .i64 start, .slice notices_a notices.length notices_c] 26 (0, 0))]) rfl ?_
 replace h32 := h32.mono (slE_ok (iE_ok _)) hF46
 replace h35 := h35.mono (slE_ok (iE_ok _)) hF46
 replace h38 := h38.mono (prE_ok (slE_ok (iE_ok _)) (prE_ok (iE_ok _) (iE_ok _))) hF46
 replace h42 := h42.mono (prE_ok (iE_ok _) (iE_ok _)) hF46
 replace hz22 := hF46 _ _ hz22
 replace hz29 := hF46 _ _ hz29
 obtain ⟨ok2, h48, r49⟩ := b1_ok r24; clear r24
 refine o_callV rfl Try.call56 rfl rfl rfl (round_Hurry_1_w hz22 hz29 h32 h35 h38 h39 h42 h43 hz47 h48) ?_
 refine ov (v_notB rfl) rfl ?_
 refine shO_nil ?_
 refine shW_cond rfl (fun c50 => ?_) (fun c50 => ?_)
 · have r51 := bt r49 c50; clear r49
   refine wsr (oa rfl rfl (oa rfl rfl (shO_nil ?_)))
   refine kW kn ?_
   refine shW_ret (andThen_ret ?_)
   refine q_res2 Try.results25 (res_tmp rfl) (res_tmp rfl) (sr) ?_
   obtain ⟨rfl, rfl⟩ := inj2 r51
   exact rfl
 have r52 := bf r49 c50; clear r49
 refine shW_skip (wsr (oa rfl rfl (oa rfl rfl (shO_nil ?_))))
 obtain ⟨lo, h53, r54⟩ := b1_ok r52; clear r52
 refine shW_join (fun e1 F1 L1 => F45 = F1 ∧ L1 = [] ∧ e1.sub [(9, .int .i64 lo)]) ?_ ?_
 · clear r54
   refine shW_block ?_
   refine kW kn ?_
   refine shW_lp (fun fu1 e1 F1 L1 => ∃ (lo2 : Int) (hi : Int), round_Hurry_l1 notice walks2 hears2 houses2 start2 notices2 walks3 pairs hit fu1 lo2 hi = some lo ∧ F45 = F1 ∧ L1 = [] ∧ e1.sub [(8, .func (.func 56) #[] #[.pointer (some ⟨b11, 0, none⟩), .pointer (some ⟨b2, 0, none⟩)]), (9, .int .i64 lo2), (10, .int .i64 hi)]) FU (m0 kr ⟨0, 200, h53, rfl, rfl, (sc rfl (sc rfl (sc rfl (sn _))))⟩) ?_
   rintro fu1 e1 _ _ ⟨lo2, hi, r57, rfl, rfl, he58⟩
   refine shW_env _ he58 ?_; clear he58
   rcases fu1 with _ | fu1
   · rw [round_Hurry_l1] at r57; cases r57
   rw [round_Hurry_l1] at r57
   refine shW_seq (wsr (om rfl rfl (om rfl rfl ?_)))
   refine ov (v_lssK rfl rfl) rfl ?_
   refine shO_nil ?_
   refine shW_condP rfl (fun c59 => ?_) (fun c59 => ?_)
   · have r60 := ite_t r57 c59; clear r57
     refine shW_skip ?_
     refine shW_block ?_
     refine wsr (om rfl rfl (om rfl rfl ?_))
     obtain ⟨g61, r62⟩ := gd_ok r60; clear r60
     refine ov (v_add rfl rfl g61) rfl ?_
     obtain ⟨g63, r64⟩ := gd_ok r62; clear r62
     refine ov (v_quoT rfl rfl g63) rfl ?_
     refine oa rfl rfl (nsr (om rfl rfl (om rfl rfl ?_)))
     obtain ⟨ok3, h65, r66⟩ := b1_ok r64; clear r64
     refine o_callV rfl Try.call56 rfl rfl rfl (round_Hurry_1_w hz22 hz29 h32 h35 h38 h39 h42 h43 hz47 h65) ?_
     refine shO_nil ?_
     refine shW_cond rfl (fun c67 => ?_) (fun c67 => ?_)
     · have r68 := bt r66 c67; clear r66
       refine shW_region (om rfl rfl (oa rfl rfl (shO_nil (inBlock_n (id := 2) ?_))))
       exact le kr ⟨lo2, Int.tdiv (lo2 + hi) 2, r68, rfl, rfl, (sc rfl (sc rfl (sc rfl (sn _))))⟩
     have r69 := bf r66 c67; clear r66
     refine shW_region (om rfl rfl ?_)
     obtain ⟨g70, r71⟩ := gd_ok r69; clear r69
     refine ov (v_add rfl rfl g70) rfl ?_
     refine oa rfl rfl (shO_nil (inBlock_n (id := 2) ?_))
     exact le kr ⟨(Int.tdiv (lo2 + hi) 2) + 1, hi, r71, rfl, rfl, (sc rfl (sc rfl (sc rfl (sn _))))⟩
   have r72 := ite_f r57 c59; clear r57
   refine shW_exit (andThen_exit (andThen_exit ?_))
   refine inBlock_exit ?_
   obtain rfl := inj1 r72
   exact mi kr ⟨rfl, rfl, (sc rfl (sn _))⟩
 rintro e1 _ _ ⟨rfl, rfl, he73⟩
 refine shW_env _ he73 ?_; clear he73
 refine wsr (om rfl rfl (oa rfl rfl (oa rfl rfl (shO_nil (shW_ret ?_)))))
 refine q_res2 Try.results25 (res_tmp rfl) (res_tmp rfl) (sr) ?_
 obtain ⟨rfl, rfl⟩ := inj2 r54
 exact rfl
set_option maxHeartbeats 1000000 in
theorem oyezlaw03_Three_w {F : FS} {r : List (List Int)} {r2 : List (List Int)} {r3 : Int} {r4 : Int} {r5 : List ((List Int) × Int × Int)} (hr : oyezlaw03_Three = some (r, r2, r3, r4, r5)) :
    SH.Spec Try.prog 34 #[] F [] fun F' L' v => ∃ (ra : Option Addr) (rn : Nat) (rc : Nat) (rL : LH) (r2a : Option Addr) (r2n : Nat) (r2c : Nat) (r2L : LH) (r5a : Option Addr) (r5n : Nat) (r5c : Nat) (r5L : LH), v = .agg #[.slice ra rn rc, .slice r2a r2n r2c, .int .i64 r3, .int .i64 r4, .slice r5a r5n r5c] ∧ L' = rL ++ (r2L ++ (r5L ++ [])) ∧ SlR 0 38 1 (slE 1 (iE .i64)) F' ra rn rc r rL ∧ SlR 0 38 1 (slE 1 (iE .i64)) F' r2a r2n r2c r2 r2L ∧ SlR 0 40 3 (prE (slE 1 (iE .i64)) (prE (iE .i64) (iE .i64))) F' r5a r5n r5c r5 r5L := by
 refine spec_of_shW (args := []) Try.func34 rfl Try.ntmps34 (Nat.le_of_ble_eq_true rfl) ?_
 intro K _ _; rw [oyezlaw03_Three] at hr
 refine wsr ?_
 refine o_alloc rfl Try.zeroValue26 ?_; intro b1 hb1
 refine nsr ?_
 refine o_buildSlice (cs := #[.int .i64 0, .int .i64 2, .int .i64 (-1)]) rfl rfl (buildSlice_all slt_38 [.int .i64 0, .int .i64 2, .int .i64 (-1)] rfl (by decide) (by simp [Value.cells]) (by decide)) ?_; intro b2 hb2
 refine o_buildSlice (cs := #[.int .i64 2, .int .i64 0, .int .i64 2]) rfl rfl (buildSlice_all slt_38 [.int .i64 2, .int .i64 0, .int .i64 2] rfl (by decide) (by simp [Value.cells]) (by decide)) ?_; intro b3 hb3
 refine o_buildSlice (cs := #[.int .i64 (-1), .int .i64 2, .int .i64 0]) rfl rfl (buildSlice_all slt_38 [.int .i64 (-1), .int .i64 2, .int .i64 0] rfl (by decide) (by simp [Value.cells]) (by decide)) ?_; intro b4 hb4
 refine o_buildSlice (cs := #[.slice (some ⟨b2, 0, none⟩) 3 3, .slice (some ⟨b3, 0, none⟩) 3 3, .slice (some ⟨b4, 0, none⟩) 3 3]) rfl rfl (buildSlice_all slt_23 [.slice (some ⟨b2, 0, none⟩) 3 3, .slice (some ⟨b3, 0, none⟩) 3 3, .slice (some ⟨b4, 0, none⟩) 3 3] rfl (by decide) (by simp [Value.cells]) (by decide)) ?_; intro b5 hb5
 refine o_buildSlice (cs := #[.int .i64 0]) rfl rfl (buildSlice_all slt_38 [.int .i64 0] rfl (by decide) (by simp [Value.cells]) (by decide)) ?_; intro b6 hb6
 refine o_buildSlice (cs := #[.int .i64 1]) rfl rfl (buildSlice_all slt_38 [.int .i64 1] rfl (by decide) (by simp [Value.cells]) (by decide)) ?_; intro b7 hb7
 refine o_buildSlice (cs := #[.int .i64 1, .int .i64 2]) rfl rfl (buildSlice_all slt_38 [.int .i64 1, .int .i64 2] rfl (by decide) (by simp [Value.cells]) (by decide)) ?_; intro b8 hb8
 refine o_buildSlice (cs := #[.slice (some ⟨b6, 0, none⟩) 1 1, .slice (some ⟨b7, 0, none⟩) 1 1, .slice (some ⟨b8, 0, none⟩) 2 2]) rfl rfl (buildSlice_all slt_23 [.slice (some ⟨b6, 0, none⟩) 1 1, .slice (some ⟨b7, 0, none⟩) 1 1, .slice (some ⟨b8, 0, none⟩) 2 2] rfl (by decide) (by simp [Value.cells]) (by decide)) ?_; intro b9 hb9
 refine o_buildSlice (cs := #[.int .i64 0, .int .i64 2]) rfl rfl (buildSlice_all slt_38 [.int .i64 0, .int .i64 2] rfl (by decide) (by simp [Value.cells]) (by decide)) ?_; intro b10 hb10
 refine ov (v_build (v := .agg #[.slice (some ⟨b10, 0, none⟩) 2 2, .int .i64 3, .int .i64 12]) rfl (by intro w; kernel_rfl)) rfl ?_
 refine o_buildSlice (cs := #[.int .i64 1]) rfl rfl (buildSlice_all slt_38 [.int .i64 1] rfl (by decide) (by simp [Value.cells]) (by decide)) ?_; intro b11 hb11
 refine ov (v_build (v := .agg #[.slice (some ⟨b11, 0, none⟩) 1 1, .int .i64 1, .int .i64 20]) rfl (by intro w; kernel_rfl)) rfl ?_
 refine o_buildSlice (cs := #[.slice (some ⟨b10, 0, none⟩) 2 2, .int .i64 3, .int .i64 12, .slice (some ⟨b11, 0, none⟩) 1 1, .int .i64 1, .int .i64 20]) rfl rfl (buildSlice_all slt_24 [.agg #[.slice (some ⟨b10, 0, none⟩) 2 2, .int .i64 3, .int .i64 12], .agg #[.slice (some ⟨b11, 0, none⟩) 1 1, .int .i64 1, .int .i64 20]] rfl (by decide) (by simp [Value.cells]) (by decide)) ?_; intro b12 hb12
 refine ov (v_build (v := .agg #[.slice (some ⟨b5, 0, none⟩) 3 3, .slice (some ⟨b9, 0, none⟩) 3 3, .int .i64 3, .int .i64 0, .slice (some ⟨b12, 0, none⟩) 2 2]) rfl (by intro w; kernel_rfl)) rfl ?_
 refine shO_freeze 10 rfl hb2 ?_; intro F13 hF14 hz15
 refine shO_L (L' := [(b12, .cells #[.slice (some ⟨b10, 0, none⟩) 2 2, .int .i64 3, .int .i64 12, .slice (some ⟨b11, 0, none⟩) 1 1, .int .i64 1, .int .i64 20] 40 (0, 0)), (b11, .cells #[.int .i64 1] 3 (0, 0)), (b10, .cells #[.int .i64 0, .int .i64 2] 3 (0, 0)), (b9, .cells #[.slice (some ⟨b6, 0, none⟩) 1 1, .slice (some ⟨b7, 0, none⟩) 1 1, .slice (some ⟨b8, 0, none⟩) 2 2] 38 (0, 0)), (b8, .cells #[.int .i64 1, .int .i64 2] 3 (0, 0)), (b7, .cells #[.int .i64 1] 3 (0, 0)), (b6, .cells #[.int .i64 0] 3 (0, 0)), (b5, .cells #[.slice (some ⟨b2, 0, none⟩) 3 3, .slice (some ⟨b3, 0, none⟩) 3 3, .slice (some ⟨b4, 0, none⟩) 3 3] 38 (0, 0)), (b4, .cells #[.int .i64 (-1), .int .i64 2, .int .i64 0] 3 (0, 0)), (b3, .cells #[.int .i64 2, .int .i64 0, .int .i64 2] 3 (0, 0)), (b1, .cells #[.slice none 0 0, .slice none 0 0, .int .i64 0, .int .i64 0, .slice none 0 0] 26 (0, 0))]) rfl ?_
 have h16 : RowR 1 (iE .i64) F13 (some ⟨b2, 0, none⟩) 3 [0, 2, -1] := RowR.of_block (iE_ok _) (vss := [[.int .i64 0], [.int .i64 2], [.int .i64 (-1)]]) (xs := [0, 2, -1]) hz15 (.cons rfl (.cons rfl (.cons rfl .nil))) rfl (by simp [maxLen])
 refine shO_freeze 9 rfl hb3 ?_; intro F17 hF18 hz19
 refine shO_L (L' := [(b12, .cells #[.slice (some ⟨b10, 0, none⟩) 2 2, .int .i64 3, .int .i64 12, .slice (some ⟨b11, 0, none⟩) 1 1, .int .i64 1, .int .i64 20] 40 (0, 0)), (b11, .cells #[.int .i64 1] 3 (0, 0)), (b10, .cells #[.int .i64 0, .int .i64 2] 3 (0, 0)), (b9, .cells #[.slice (some ⟨b6, 0, none⟩) 1 1, .slice (some ⟨b7, 0, none⟩) 1 1, .slice (some ⟨b8, 0, none⟩) 2 2] 38 (0, 0)), (b8, .cells #[.int .i64 1, .int .i64 2] 3 (0, 0)), (b7, .cells #[.int .i64 1] 3 (0, 0)), (b6, .cells #[.int .i64 0] 3 (0, 0)), (b5, .cells (#[.slice (some ⟨b2, 0, none⟩) [0, 2, -1].length 3, .slice (some ⟨b3, 0, none⟩) 3 3, .slice (some ⟨b4, 0, none⟩) 3 3]) 38 (0, 0)), (b4, .cells #[.int .i64 (-1), .int .i64 2, .int .i64 0] 3 (0, 0)), (b1, .cells #[.slice none 0 0, .slice none 0 0, .int .i64 0, .int .i64 0, .slice none 0 0] 26 (0, 0))]) rfl ?_
 replace h16 := h16.mono (iE_ok _) hF18
 have h20 : RowR 1 (iE .i64) F17 (some ⟨b3, 0, none⟩) 3 [2, 0, 2] := RowR.of_block (iE_ok _) (vss := [[.int .i64 2], [.int .i64 0], [.int .i64 2]]) (xs := [2, 0, 2]) hz19 (.cons rfl (.cons rfl (.cons rfl .nil))) rfl (by simp [maxLen])
 refine shO_freeze 8 rfl hb4 ?_; intro F21 hF22 hz23
 refine shO_L (L' := [(b12, .cells #[.slice (some ⟨b10, 0, none⟩) 2 2, .int .i64 3, .int .i64 12, .slice (some ⟨b11, 0, none⟩) 1 1, .int .i64 1, .int .i64 20] 40 (0, 0)), (b11, .cells #[.int .i64 1] 3 (0, 0)), (b10, .cells #[.int .i64 0, .int .i64 2] 3 (0, 0)), (b9, .cells #[.slice (some ⟨b6, 0, none⟩) 1 1, .slice (some ⟨b7, 0, none⟩) 1 1, .slice (some ⟨b8, 0, none⟩) 2 2] 38 (0, 0)), (b8, .cells #[.int .i64 1, .int .i64 2] 3 (0, 0)), (b7, .cells #[.int .i64 1] 3 (0, 0)), (b6, .cells #[.int .i64 0] 3 (0, 0)), (b5, .cells (#[.slice (some ⟨b2, 0, none⟩) [0, 2, -1].length 3, .slice (some ⟨b3, 0, none⟩) [2, 0, 2].length 3, .slice (some ⟨b4, 0, none⟩) 3 3]) 38 (0, 0)), (b1, .cells #[.slice none 0 0, .slice none 0 0, .int .i64 0, .int .i64 0, .slice none 0 0] 26 (0, 0))]) rfl ?_
 replace h16 := h16.mono (iE_ok _) hF22
 replace h20 := h20.mono (iE_ok _) hF22
 have h24 : RowR 1 (iE .i64) F21 (some ⟨b4, 0, none⟩) 3 [-1, 2, 0] := RowR.of_block (iE_ok _) (vss := [[.int .i64 (-1)], [.int .i64 2], [.int .i64 0]]) (xs := [-1, 2, 0]) hz23 (.cons rfl (.cons rfl (.cons rfl .nil))) rfl (by simp [maxLen])
 have hz26 : SlR K.w0.heap.size 38 1 (slE 1 (iE .i64)) F21 (some ⟨b5, 0, none⟩) 3 3 [[0, 2, -1], [2, 0, 2], [-1, 2, 0]] [(b5, .cells (#[.slice (some ⟨b2, 0, none⟩) [0, 2, -1].length 3, .slice (some ⟨b3, 0, none⟩) [2, 0, 2].length 3, .slice (some ⟨b4, 0, none⟩) [-1, 2, 0].length 3]) 38 (0, 0))] := SlR.of_block (vss := [[.slice (some ⟨b2, 0, none⟩) [0, 2, -1].length 3], [.slice (some ⟨b3, 0, none⟩) [2, 0, 2].length 3], [.slice (some ⟨b4, 0, none⟩) [-1, 2, 0].length 3]]) (slE_ok (iE_ok _)) hb5 (.cons ⟨_, _, rfl, h16⟩ (.cons ⟨_, _, rfl, h20⟩ (.cons ⟨_, _, rfl, h24⟩ .nil))) rfl rfl (by simp [maxLen])
 generalize hLLb25 : ([(b5, .cells (#[.slice (some ⟨b2, 0, none⟩) [0, 2, -1].length 3, .slice (some ⟨b3, 0, none⟩) [2, 0, 2].length 3, .slice (some ⟨b4, 0, none⟩) [-1, 2, 0].length 3]) 38 (0, 0))] : LH) = Lb25 at hz26
 refine shO_perm (L' := Lb25 ++ [(b12, .cells #[.slice (some ⟨b10, 0, none⟩) 2 2, .int .i64 3, .int .i64 12, .slice (some ⟨b11, 0, none⟩) 1 1, .int .i64 1, .int .i64 20] 40 (0, 0)), (b11, .cells #[.int .i64 1] 3 (0, 0)), (b10, .cells #[.int .i64 0, .int .i64 2] 3 (0, 0)), (b9, .cells #[.slice (some ⟨b6, 0, none⟩) 1 1, .slice (some ⟨b7, 0, none⟩) 1 1, .slice (some ⟨b8, 0, none⟩) 2 2] 38 (0, 0)), (b8, .cells #[.int .i64 1, .int .i64 2] 3 (0, 0)), (b7, .cells #[.int .i64 1] 3 (0, 0)), (b6, .cells #[.int .i64 0] 3 (0, 0)), (b1, .cells #[.slice none 0 0, .slice none 0 0, .int .i64 0, .int .i64 0, .slice none 0 0] 26 (0, 0))]) (by rw [← hLLb25]; exact (fC (fC (fC (fC (fC (fC (fC fO)))))))) ?_
 refine shO_perm (L' := (b12, .cells #[.slice (some ⟨b10, 0, none⟩) 2 2, .int .i64 3, .int .i64 12, .slice (some ⟨b11, 0, none⟩) 1 1, .int .i64 1, .int .i64 20] 40 (0, 0)) :: ((b11, .cells #[.int .i64 1] 3 (0, 0)) :: ((b10, .cells #[.int .i64 0, .int .i64 2] 3 (0, 0)) :: ((b9, .cells #[.slice (some ⟨b6, 0, none⟩) 1 1, .slice (some ⟨b7, 0, none⟩) 1 1, .slice (some ⟨b8, 0, none⟩) 2 2] 38 (0, 0)) :: ((b8, .cells #[.int .i64 1, .int .i64 2] 3 (0, 0)) :: ((b7, .cells #[.int .i64 1] 3 (0, 0)) :: ((b6, .cells #[.int .i64 0] 3 (0, 0)) :: ((b1, .cells #[.slice none 0 0, .slice none 0 0, .int .i64 0, .int .i64 0, .slice none 0 0] 26 (0, 0)) :: (Lb25 ++ []))))))))) (List.Perm.symm (fC (fC (fC (fC (fC (fC (fC (fC fP))))))))) ?_
 refine shO_freeze 6 rfl hb6 ?_; intro F28 hF29 hz30
 refine shO_L (L' := (b12, .cells #[.slice (some ⟨b10, 0, none⟩) 2 2, .int .i64 3, .int .i64 12, .slice (some ⟨b11, 0, none⟩) 1 1, .int .i64 1, .int .i64 20] 40 (0, 0)) :: ((b11, .cells #[.int .i64 1] 3 (0, 0)) :: ((b10, .cells #[.int .i64 0, .int .i64 2] 3 (0, 0)) :: ((b9, .cells #[.slice (some ⟨b6, 0, none⟩) 1 1, .slice (some ⟨b7, 0, none⟩) 1 1, .slice (some ⟨b8, 0, none⟩) 2 2] 38 (0, 0)) :: ((b8, .cells #[.int .i64 1, .int .i64 2] 3 (0, 0)) :: ((b7, .cells #[.int .i64 1] 3 (0, 0)) :: ((b1, .cells #[.slice none 0 0, .slice none 0 0, .int .i64 0, .int .i64 0, .slice none 0 0] 26 (0, 0)) :: (Lb25 ++ [])))))))) rfl ?_
 replace hz26 := hz26.mono (slE_ok (iE_ok _)) hF29
 have h31 : RowR 1 (iE .i64) F28 (some ⟨b6, 0, none⟩) 1 [0] := RowR.of_block (iE_ok _) (vss := [[.int .i64 0]]) (xs := [0]) hz30 (.cons rfl .nil) rfl (by simp [maxLen])
 refine shO_freeze 5 rfl hb7 ?_; intro F32 hF33 hz34
 refine shO_L (L' := (b12, .cells #[.slice (some ⟨b10, 0, none⟩) 2 2, .int .i64 3, .int .i64 12, .slice (some ⟨b11, 0, none⟩) 1 1, .int .i64 1, .int .i64 20] 40 (0, 0)) :: ((b11, .cells #[.int .i64 1] 3 (0, 0)) :: ((b10, .cells #[.int .i64 0, .int .i64 2] 3 (0, 0)) :: ((b9, .cells (#[.slice (some ⟨b6, 0, none⟩) [0].length 1, .slice (some ⟨b7, 0, none⟩) 1 1, .slice (some ⟨b8, 0, none⟩) 2 2]) 38 (0, 0)) :: ((b8, .cells #[.int .i64 1, .int .i64 2] 3 (0, 0)) :: ((b1, .cells #[.slice none 0 0, .slice none 0 0, .int .i64 0, .int .i64 0, .slice none 0 0] 26 (0, 0)) :: (Lb25 ++ []))))))) rfl ?_
 replace h31 := h31.mono (iE_ok _) hF33
 replace hz26 := hz26.mono (slE_ok (iE_ok _)) hF33
 have h35 : RowR 1 (iE .i64) F32 (some ⟨b7, 0, none⟩) 1 [1] := RowR.of_block (iE_ok _) (vss := [[.int .i64 1]]) (xs := [1]) hz34 (.cons rfl .nil) rfl (by simp [maxLen])
 refine shO_freeze 4 rfl hb8 ?_; intro F36 hF37 hz38
 refine shO_L (L' := (b12, .cells #[.slice (some ⟨b10, 0, none⟩) 2 2, .int .i64 3, .int .i64 12, .slice (some ⟨b11, 0, none⟩) 1 1, .int .i64 1, .int .i64 20] 40 (0, 0)) :: ((b11, .cells #[.int .i64 1] 3 (0, 0)) :: ((b10, .cells #[.int .i64 0, .int .i64 2] 3 (0, 0)) :: ((b9, .cells (#[.slice (some ⟨b6, 0, none⟩) [0].length 1, .slice (some ⟨b7, 0, none⟩) [1].length 1, .slice (some ⟨b8, 0, none⟩) 2 2]) 38 (0, 0)) :: ((b1, .cells #[.slice none 0 0, .slice none 0 0, .int .i64 0, .int .i64 0, .slice none 0 0] 26 (0, 0)) :: (Lb25 ++ [])))))) rfl ?_
 replace h31 := h31.mono (iE_ok _) hF37
 replace h35 := h35.mono (iE_ok _) hF37
 replace hz26 := hz26.mono (slE_ok (iE_ok _)) hF37
 have h39 : RowR 1 (iE .i64) F36 (some ⟨b8, 0, none⟩) 2 [1, 2] := RowR.of_block (iE_ok _) (vss := [[.int .i64 1], [.int .i64 2]]) (xs := [1, 2]) hz38 (.cons rfl (.cons rfl .nil)) rfl (by simp [maxLen])
 have hz41 : SlR K.w0.heap.size 38 1 (slE 1 (iE .i64)) F36 (some ⟨b9, 0, none⟩) 3 3 [[0], [1], [1, 2]] [(b9, .cells (#[.slice (some ⟨b6, 0, none⟩) [0].length 1, .slice (some ⟨b7, 0, none⟩) [1].length 1, .slice (some ⟨b8, 0, none⟩) [1, 2].length 2]) 38 (0, 0))] := SlR.of_block (vss := [[.slice (some ⟨b6, 0, none⟩) [0].length 1], [.slice (some ⟨b7, 0, none⟩) [1].length 1], [.slice (some ⟨b8, 0, none⟩) [1, 2].length 2]]) (slE_ok (iE_ok _)) hb9 (.cons ⟨_, _, rfl, h31⟩ (.cons ⟨_, _, rfl, h35⟩ (.cons ⟨_, _, rfl, h39⟩ .nil))) rfl rfl (by simp [maxLen])
 generalize hLLb40 : ([(b9, .cells (#[.slice (some ⟨b6, 0, none⟩) [0].length 1, .slice (some ⟨b7, 0, none⟩) [1].length 1, .slice (some ⟨b8, 0, none⟩) [1, 2].length 2]) 38 (0, 0))] : LH) = Lb40 at hz41
 refine shO_perm (L' := Lb40 ++ ((b12, .cells #[.slice (some ⟨b10, 0, none⟩) 2 2, .int .i64 3, .int .i64 12, .slice (some ⟨b11, 0, none⟩) 1 1, .int .i64 1, .int .i64 20] 40 (0, 0)) :: ((b11, .cells #[.int .i64 1] 3 (0, 0)) :: ((b10, .cells #[.int .i64 0, .int .i64 2] 3 (0, 0)) :: ((b1, .cells #[.slice none 0 0, .slice none 0 0, .int .i64 0, .int .i64 0, .slice none 0 0] 26 (0, 0)) :: (Lb25 ++ [])))))) (by rw [← hLLb40]; exact (fC (fC (fC fO)))) ?_
 refine shO_perm (L' := (b12, .cells #[.slice (some ⟨b10, 0, none⟩) 2 2, .int .i64 3, .int .i64 12, .slice (some ⟨b11, 0, none⟩) 1 1, .int .i64 1, .int .i64 20] 40 (0, 0)) :: ((b11, .cells #[.int .i64 1] 3 (0, 0)) :: ((b10, .cells #[.int .i64 0, .int .i64 2] 3 (0, 0)) :: ((b1, .cells #[.slice none 0 0, .slice none 0 0, .int .i64 0, .int .i64 0, .slice none 0 0] 26 (0, 0)) :: (Lb40 ++ (Lb25 ++ [])))))) (List.Perm.symm (fC (fC (fC (fC fP))))) ?_
 refine shO_freeze 2 rfl hb10 ?_; intro F43 hF44 hz45
 refine shO_L (L' := (b12, .cells #[.slice (some ⟨b10, 0, none⟩) 2 2, .int .i64 3, .int .i64 12, .slice (some ⟨b11, 0, none⟩) 1 1, .int .i64 1, .int .i64 20] 40 (0, 0)) :: ((b11, .cells #[.int .i64 1] 3 (0, 0)) :: ((b1, .cells #[.slice none 0 0, .slice none 0 0, .int .i64 0, .int .i64 0, .slice none 0 0] 26 (0, 0)) :: (Lb40 ++ (Lb25 ++ []))))) rfl ?_
 replace hz26 := hz26.mono (slE_ok (iE_ok _)) hF44
 replace hz41 := hz41.mono (slE_ok (iE_ok _)) hF44
 have h46 : RowR 1 (iE .i64) F43 (some ⟨b10, 0, none⟩) 2 [0, 2] := RowR.of_block (iE_ok _) (vss := [[.int .i64 0], [.int .i64 2]]) (xs := [0, 2]) hz45 (.cons rfl (.cons rfl .nil)) rfl (by simp [maxLen])
 refine shO_freeze 1 rfl hb11 ?_; intro F47 hF48 hz49
 refine shO_L (L' := (b12, .cells (#[.slice (some ⟨b10, 0, none⟩) [0, 2].length 2, .int .i64 3, .int .i64 12, .slice (some ⟨b11, 0, none⟩) 1 1, .int .i64 1, .int .i64 20]) 40 (0, 0)) :: ((b1, .cells #[.slice none 0 0, .slice none 0 0, .int .i64 0, .int .i64 0, .slice none 0 0] 26 (0, 0)) :: (Lb40 ++ (Lb25 ++ [])))) rfl ?_
 replace h46 := h46.mono (iE_ok _) hF48
 replace hz26 := hz26.mono (slE_ok (iE_ok _)) hF48
 replace hz41 := hz41.mono (slE_ok (iE_ok _)) hF48
 have h50 : RowR 1 (iE .i64) F47 (some ⟨b11, 0, none⟩) 1 [1] := RowR.of_block (iE_ok _) (vss := [[.int .i64 1]]) (xs := [1]) hz49 (.cons rfl .nil) rfl (by simp [maxLen])
 have hz52 : SlR K.w0.heap.size 40 3 (prE (slE 1 (iE .i64)) (prE (iE .i64) (iE .i64))) F47 (some ⟨b12, 0, none⟩) 2 2 [([0, 2], 3, 12), ([1], 1, 20)] [(b12, .cells (#[.slice (some ⟨b10, 0, none⟩) [0, 2].length 2, .int .i64 3, .int .i64 12, .slice (some ⟨b11, 0, none⟩) [1].length 1, .int .i64 1, .int .i64 20]) 40 (0, 0))] := SlR.of_block (vss := [[.slice (some ⟨b10, 0, none⟩) [0, 2].length 2, .int .i64 3, .int .i64 12], [.slice (some ⟨b11, 0, none⟩) [1].length 1, .int .i64 1, .int .i64 20]]) (prE_ok (slE_ok (iE_ok _)) (prE_ok (iE_ok _) (iE_ok _))) hb12 (.cons ⟨_, _, rfl, ⟨_, _, rfl, h46⟩, ⟨_, _, rfl, rfl, rfl⟩⟩ (.cons ⟨_, _, rfl, ⟨_, _, rfl, h50⟩, ⟨_, _, rfl, rfl, rfl⟩⟩ .nil)) rfl rfl (by simp [maxLen])
 generalize hLLb51 : ([(b12, .cells (#[.slice (some ⟨b10, 0, none⟩) [0, 2].length 2, .int .i64 3, .int .i64 12, .slice (some ⟨b11, 0, none⟩) [1].length 1, .int .i64 1, .int .i64 20]) 40 (0, 0))] : LH) = Lb51 at hz52
 refine shO_perm (L' := Lb51 ++ ((b1, .cells #[.slice none 0 0, .slice none 0 0, .int .i64 0, .int .i64 0, .slice none 0 0] 26 (0, 0)) :: (Lb40 ++ (Lb25 ++ [])))) (by rw [← hLLb51]; exact fO) ?_
 refine shO_perm (L' := (b1, .cells #[.slice none 0 0, .slice none 0 0, .int .i64 0, .int .i64 0, .slice none 0 0] 26 (0, 0)) :: (Lb51 ++ (Lb40 ++ (Lb25 ++ [])))) (List.Perm.symm (fC fP)) ?_
 refine o_storeA (i := 0) Try.sizeOf26 rfl rfl rfl (by simp [Value.oneCell']) rfl (Nat.le_of_ble_eq_true rfl) ?_
 refine shO_L (L' := (b1, .cells #[.slice (some ⟨b5, 0, none⟩) 3 3, .slice (some ⟨b9, 0, none⟩) 3 3, .int .i64 3, .int .i64 0, .slice (some ⟨b12, 0, none⟩) 2 2] 26 (0, 0)) :: (Lb51 ++ (Lb40 ++ (Lb25 ++ [])))) rfl ?_
 refine shO_nil ?_
 refine kW (kc (kg (fS (fS fP)) (kg (fS fP) kr))) ?_
 refine shW_ret ?_
 refine q_res1 Try.results34 (res_cellA (cs := #[.slice (some ⟨b5, 0, none⟩) 3 3, .slice (some ⟨b9, 0, none⟩) 3 3, .int .i64 3, .int .i64 0, .slice (some ⟨b12, 0, none⟩) 2 2]) Try.isAgg26 Try.sizeOf26 rfl (Has.own 0 rfl) (Nat.le_of_ble_eq_true rfl) rfl) (s1 (s4 (s4 (s4 sr)))) ?_
 obtain ⟨rfl, rfl, rfl, rfl, rfl⟩ := inj5 hr
 exact ⟨_, _, _, _, _, _, _, _, _, _, _, _, rfl, rfl, hz26.any, hz41.any, hz52.any⟩
set_option maxHeartbeats 1000000 in
theorem slices_Equal_round_Pair_round_Pair_w {s1_a : Option Addr} {s1_c : Nat} {s1 : List (Int × Int)} {s2_a : Option Addr} {s2_c : Nat} {s2 : List (Int × Int)} {F : FS} (h_s1 : RowR 2 (prE (iE .i64) (iE .i64)) F s1_a s1_c s1) (h_s2 : RowR 2 (prE (iE .i64) (iE .i64)) F s2_a s2_c s2) {r : Bool} (hr : slices_Equal_round_Pair_round_Pair s1 s2 = some r) :
    SpecV Try.prog 64 #[.slice s1_a s1.length s1_c, .slice s2_a s2.length s2_c] F (.bool r) := by
 refine spec_of_shW (args := [.slice s1_a s1.length s1_c, .slice s2_a s2.length s2_c]) Try.func64 rfl Try.ntmps64 (Nat.le_of_ble_eq_true rfl) ?_
 intro K _ _; rw [slices_Equal_round_Pair_round_Pair] at hr
 refine wsr (oa rfl rfl (shO_nil (shW_seq (wsr (om rfl rfl ?_)))))
 refine ov (v_lenS Try.underlying35 rfl) rfl ?_
 refine om rfl rfl ?_
 refine ov (v_lenS Try.underlying35 rfl) rfl ?_
 refine ov (v_neq rfl rfl) rfl ?_
 refine shO_nil ?_
 refine shW_condP rfl (fun c1 => ?_) (fun c1 => ?_)
 · have r2 := ite_t hr c1; clear hr
   refine wsr (oa rfl rfl (shO_nil (shW_ret (andThen_ret ?_))))
   refine q_res1 Try.results64 (res_tmp rfl) (sr) ?_
   obtain rfl := inj1 r2
   exact rfl
 have r3 := ite_f hr c1; clear hr
 refine shW_skip ?_
 refine shW_join (fun e1 F1 L1 => slices_Equal_round_Pair_round_Pair_j1 = some r ∧ F = F1 ∧ L1 = [] ∧ e1.sub []) ?_ ?_
 · refine wsr (om rfl rfl ?_)
   refine ov (v_lenS Try.underlying35 rfl) rfl ?_
   refine om rfl rfl (shO_nil ?_)
   refine shW_block ?_
   refine shW_lp (fun fu2 e1 F1 L1 => ∃ (tl : List (Int × Int)) (k : Int), tl.length = fu2 ∧ Lst s1 k tl ∧ slices_Equal_round_Pair_round_Pair_l2 s2 tl k = some r ∧ F = F1 ∧ L1 = [] ∧ e1.sub [(0, .slice s1_a s1.length s1_c), (1, .slice s2_a s2.length s2_c), (12, .int .i64 (s1.length : Int)), (13, .int .i64 k)]) _ (m0 kr ⟨_, _, rfl, Lst.start _, r3, rfl, rfl, (sc rfl (sc rfl (sc rfl (sc rfl (sn _)))))⟩) ?_
   rintro fu2 e1 _ _ ⟨tl, k, hn5, hk4, r6, rfl, rfl, he7⟩
   refine shW_env _ he7 ?_; clear he7
   refine wsr ?_
   refine ov (v_lssK rfl rfl) rfl ?_
   refine shO_nil (shW_seq ?_)
   refine shW_condP rfl (fun c9 => ?_) (fun c9 => ?_)
   · obtain ⟨x, tl2, rfl, hx11, g12, hk10⟩ := Lst.succ hk4 c9
     rw [slices_Equal_round_Pair_round_Pair_l2] at r6
     refine shW_skip (shW_seq ?_)
     refine shW_block ?_
     refine wsr (om rfl rfl (oa rfl rfl ?_))
     refine nsd (by kernel_rfl) (by kernel_rfl) (by kernel_rfl) ?_
     refine qm rfl rfl (qm rfl rfl ?_)
     obtain ⟨b13, o14, c15, vs16, ha17, hs18, hle19, ⟨_, _, rfl, rfl, rfl⟩, hl20, hc21⟩ := RowR.at (prE_ok (iE_ok _) (iE_ok _)) h_s1 ([]) g12.1 hx11
     refine qv (v_indexO Try.underlying35 Try.sizeOf48 rfl ha17 rfl g12) rfl ?_
     refine qv (v_loadA (cs := #[.int .i64 x.1, .int .i64 x.2]) Try.isAgg48 Try.sizeOf48 rfl hs18 hle19 (extract_cells hle19 hl20 hc21)) rfl ?_
     refine qm rfl rfl (qm rfl rfl ?_)
     obtain ⟨x2, g22, hx23, r24⟩ := ix_ok r6; clear r6
     obtain ⟨b25, o26, c27, vs28, ha29, hs30, hle31, ⟨_, _, rfl, rfl, rfl⟩, hl32, hc33⟩ := RowR.at (prE_ok (iE_ok _) (iE_ok _)) h_s2 ([]) g22.1 hx23
     refine qv (v_indexO Try.underlying35 Try.sizeOf48 rfl ha29 rfl g22) rfl ?_
     refine qv (v_loadA (cs := #[.int .i64 x2.1, .int .i64 x2.2]) Try.isAgg48 Try.sizeOf48 rfl hs30 hle31 (extract_cells hle31 hl32 hc33)) rfl ?_
     refine qv (v_neA (eqgn_48 _ _ _ _) (fun w => ne_of_eq (eq_48 _ _ _ _ w)) rfl rfl) rfl ?_
     refine shQ_nil ?_
     refine shW_condP rfl (fun c34 => ?_) (fun c34 => ?_)
     · have r35 := ite_t r24 c34; clear r24
       refine wsr (oa rfl rfl (shO_nil (shW_ret (inBlock_ret (andThen_ret (andThen_ret (inBlock_ret (andThen_ret ?_))))))))
       refine q_res1 Try.results64 (res_tmp rfl) (sr) ?_
       obtain rfl := inj1 r35
       exact rfl
     have r36 := ite_f r24 c34; clear r24
     refine shW_skip (inBlock_n (id := 1) (shW_region ?_))
     refine ov (v_add rfl rfl (Lst.r64 hk4 c9 (RowR.lt h_s1))) rfl ?_
     refine om rfl rfl (shO_nil ?_)
     subst hn5; exact le kr ⟨_, _, rfl, hk10, r36, rfl, rfl, (sc rfl (sc rfl (sc rfl (sc rfl (sn _)))))⟩
   obtain rfl := Lst.zero hk4 c9
   rw [slices_Equal_round_Pair_round_Pair_l2] at r6
   refine shW_exit (andThen_exit (andThen_exit ?_))
   refine inBlock_exit ?_
   exact mi kr ⟨r6, rfl, rfl, (sn _)⟩
 rintro e1 _ _ ⟨r37, rfl, rfl, he38⟩
 refine shW_env _ he38 ?_; clear he38
 rw [slices_Equal_round_Pair_round_Pair_j1] at r37
 refine wsr (oa rfl rfl (shO_nil (shW_ret ?_)))
 refine q_res1 Try.results64 (res_tmp rfl) (sr) ?_
 obtain rfl := inj1 r37
 exact rfl
set_option maxHeartbeats 1000000 in
theorem oyezkit_Like_Pair_w {a_a : Option Addr} {a_c : Nat} {a : List (Int × Int)} {b_a : Option Addr} {b_c : Nat} {b : List (Int × Int)} {F : FS} (h_a : RowR 2 (prE (iE .i64) (iE .i64)) F a_a a_c a) (h_b : RowR 2 (prE (iE .i64) (iE .i64)) F b_a b_c b) {r : Bool} (hr : oyezkit_Like_Pair a b = some r) :
    SpecV Try.prog 35 #[.slice a_a a.length a_c, .slice b_a b.length b_c] F (.bool r) := by
 refine spec_of_shW (args := [.slice a_a a.length a_c, .slice b_a b.length b_c]) Try.func35 rfl Try.ntmps35 (Nat.le_of_ble_eq_true rfl) ?_
 intro K _ _; rw [oyezkit_Like_Pair] at hr
 refine wsr (oa rfl rfl (nsr (om rfl rfl (om rfl rfl ?_))))
 obtain ⟨ok, h1, r2⟩ := b1_ok hr; clear hr
 refine o_callV rfl Try.call64 rfl rfl rfl (slices_Equal_round_Pair_round_Pair_w h_a h_b h1) ?_
 refine oa rfl rfl (shO_nil (shW_ret ?_))
 refine q_res1 Try.results35 (res_tmp rfl) (sr) ?_
 obtain rfl := inj1 r2
 exact rfl
set_option maxHeartbeats 1000000 in
theorem round_crier_of_w {b_c : Nat} {walks_a : Option Addr} {walks_c : Nat} {walks : List (List Int)} {hears_a : Option Addr} {hears_c : Nat} {hears : List (List Int)} {houses : Int} {start : Int} {notices_a : Option Addr} {notices_c : Nat} {notices : List ((List Int) × Int × Int)} {walks2 : List Int} {pairs_a : Option Addr} {pairs_c : Nat} {pairs : List (Int × Int)} {hit : List Int} {mb_c : Nat × Nat} {notices2_a : Option Addr} {notices2_c : Nat} {notices2 : List Int} {F : FS} (hb_c : F b_c = some (.cells ((([.slice walks_a walks.length walks_c] : List Value) ++ (([.slice hears_a hears.length hears_c] : List Value) ++ (([.int .i64 houses] : List Value) ++ (([.int .i64 start] : List Value) ++ (([.slice notices_a notices.length notices_c] : List Value) ++ (walks2.flatMap (cI .i64) ++ (([.slice pairs_a pairs.length pairs_c] : List Value) ++ (hit.flatMap (cI .i64))))))))).toArray) 101 mb_c)) (_h_walks : RowR 1 (slE 1 (iE .i64)) F walks_a walks_c walks) (_h_hears : RowR 1 (slE 1 (iE .i64)) F hears_a hears_c hears) (_h_notices : RowR 3 (prE (slE 1 (iE .i64)) (prE (iE .i64) (iE .i64))) F notices_a notices_c notices) (h_walks2 : walks2.length = 25) (h_pairs : RowR 2 (prE (iE .i64) (iE .i64)) F pairs_a pairs_c pairs) (_h_hit : hit.length = 15) (h_notices2 : RowR 1 (iE .i64) F notices2_a notices2_c notices2) {r : Int} (hr : round_crier_of walks hears houses start notices walks2 pairs hit notices2 = some r) :
    SpecV Try.prog 55 #[.pointer (some ⟨b_c, 0, none⟩), .slice notices2_a notices2.length notices2_c] F (.int .i64 r) := by
 refine spec_of_shW (args := [.pointer (some ⟨b_c, 0, none⟩), .slice notices2_a notices2.length notices2_c]) Try.func55 rfl Try.ntmps55 (Nat.le_of_ble_eq_true rfl) ?_
 intro K _ _; rw [round_crier_of] at hr
 refine wsr (oa rfl rfl (nsr (oa rfl rfl (shO_nil ?_))))
 obtain ⟨set_, h1, r2⟩ := b1_ok hr; clear hr
 refine shW_join (fun e1 F1 L1 => F = F1 ∧ L1 = [] ∧ e1.sub [(5, .int .i64 set_)]) ?_ ?_
 · clear r2
   refine wsr (om rfl rfl ?_)
   refine ov (v_nilCheck rfl) rfl ?_
   refine ov (v_fieldAddr fa_101_2 rfl) rfl ?_
   refine ov (v_load Try.isAgg35 rfl (Has.frozen hb_c) (li_cell (li_skip (A := ([.slice walks_a walks.length walks_c] : List Value)) (k := 1) (o := 29) rfl (li_skip (A := ([.slice hears_a hears.length hears_c] : List Value)) (k := 1) (o := 28) rfl (li_skip (A := ([.int .i64 houses] : List Value)) (k := 1) (o := 27) rfl (li_skip (A := ([.int .i64 start] : List Value)) (k := 1) (o := 26) rfl (li_skip (A := ([.slice notices_a notices.length notices_c] : List Value)) (k := 1) (o := 25) rfl (li_skip (A := walks2.flatMap (cI .i64)) (k := 25) (o := 0) (lfl (cI_ok .i64) h_walks2) (li_here (B := hit.flatMap (cI .i64)) rfl))))))))) rfl ?_
   refine ov (v_lenS Try.underlying35 rfl) rfl ?_
   refine om rfl rfl (shO_nil ?_)
   refine shW_block ?_
   refine shW_lp (fun fu1 e1 F1 L1 => ∃ (tl : List (Int × Int)) (k : Int), tl.length = fu1 ∧ Lst pairs k tl ∧ ∃ (set_2 : Int), round_crier_of_l1 notices2 tl k set_2 = some set_ ∧ F = F1 ∧ L1 = [] ∧ e1.sub [(1, .slice notices2_a notices2.length notices2_c), (5, .int .i64 set_2), (11, .slice pairs_a pairs.length pairs_c), (12, .int .i64 (pairs.length : Int)), (13, .int .i64 k)]) _ (m0 kr ⟨_, _, rfl, Lst.start _, 0, h1, rfl, rfl, (sc rfl (sc rfl (sc rfl (sc rfl (sc rfl (sn _))))))⟩) ?_
   rintro fu1 e1 _ _ ⟨tl, k, hn4, hk3, set_2, r5, rfl, rfl, he6⟩
   refine shW_env _ he6 ?_; clear he6
   refine wsr ?_
   refine ov (v_lssK rfl rfl) rfl ?_
   refine shO_nil (shW_seq ?_)
   refine shW_condP rfl (fun c8 => ?_) (fun c8 => ?_)
   · obtain ⟨x, tl2, rfl, hx10, g11, hk9⟩ := Lst.succ hk3 c8
     rw [round_crier_of_l1] at r5
     refine shW_skip (shW_seq ?_)
     refine shW_block ?_
     refine wsr (om rfl rfl ?_)
     obtain ⟨b12, o13, c14, vs15, ha16, hs17, hle18, ⟨_, _, rfl, rfl, rfl⟩, hl19, hc20⟩ := RowR.at (prE_ok (iE_ok _) (iE_ok _)) h_pairs ([]) g11.1 hx10
     refine ov (v_indexO Try.underlying35 Try.sizeOf48 rfl ha16 rfl g11) rfl ?_
     refine ov (v_loadA (cs := #[.int .i64 x.1, .int .i64 x.2]) Try.isAgg48 Try.sizeOf48 rfl hs17 hle18 (extract_cells hle18 hl19 hc20)) rfl ?_
     refine o_alloc rfl Try.zeroValue48 ?_; intro b21 hb21
     refine oa rfl rfl ?_
     refine o_storeA (i := 0) Try.sizeOf48 rfl rfl rfl (by simp [Value.oneCell']) rfl (Nat.le_of_ble_eq_true rfl) ?_
     refine shO_L (L' := [(b21, .cells #[.int .i64 x.1, .int .i64 x.2] 48 (0, 0))]) rfl ?_
     refine nsr (om rfl rfl ?_)
     refine ov (v_fieldAddr fa_48_0 rfl) rfl ?_
     refine ov (v_load Try.isAgg3 rfl (Has.own 0 rfl) rfl) rfl ?_
     obtain ⟨ok, h22, r23⟩ := b1_ok r5; clear r5
     refine o_callV rfl Try.call19 rfl rfl rfl (slices_Contains_int_int_w h_notices2 h22) ?_
     refine shO_nil ?_
     refine shW_cond rfl (fun c24 => ?_) (fun c24 => ?_)
     · have r25 := bt r23 c24; clear r23
       refine shW_region (om rfl rfl (om rfl rfl ?_))
       obtain ⟨g26, r27⟩ := gd_ok r25; clear r25
       refine ov (v_shl rfl rfl g26) rfl ?_
       refine ov (v_or rfl rfl) rfl ?_
       refine oa rfl rfl (shO_nil (inBlock_n (id := 1) (shW_region ?_)))
       refine ov (v_add rfl rfl (Lst.r64 hk3 c8 (RowR.lt h_pairs))) rfl ?_
       refine om rfl rfl (shO_nil ?_)
       subst hn4; exact le kn ⟨_, _, rfl, hk9, bor set_2 (shl 1 k), r27, rfl, rfl, (sc rfl (sc rfl (sc rfl (sc rfl (sc rfl (sn _))))))⟩
     have r28 := bf r23 c24; clear r23
     refine shW_skip (inBlock_n (id := 1) (shW_region ?_))
     refine ov (v_add rfl rfl (Lst.r64 hk3 c8 (RowR.lt h_pairs))) rfl ?_
     refine om rfl rfl (shO_nil ?_)
     subst hn4; exact le kn ⟨_, _, rfl, hk9, set_2, r28, rfl, rfl, (sc rfl (sc rfl (sc rfl (sc rfl (sc rfl (sn _))))))⟩
   obtain rfl := Lst.zero hk3 c8
   rw [round_crier_of_l1] at r5
   refine shW_exit (andThen_exit (andThen_exit ?_))
   refine inBlock_exit ?_
   obtain rfl := inj1 r5
   exact mi kr ⟨rfl, rfl, (sc rfl (sn _))⟩
 rintro e1 _ _ ⟨rfl, rfl, he29⟩
 refine shW_env _ he29 ?_; clear he29
 refine wsr (om rfl rfl (oa rfl rfl (shO_nil (shW_ret ?_))))
 refine q_res1 Try.results55 (res_tmp rfl) (sr) ?_
 obtain rfl := inj1 r2
 exact rfl
set_option maxHeartbeats 1000000 in
theorem round_Two_w {walks_a : Option Addr} {walks_c : Nat} {walks : List (List Int)} {hears_a : Option Addr} {hears_c : Nat} {hears : List (List Int)} {houses : Int} {start : Int} {notices_a : Option Addr} {notices_c : Nat} {notices : List ((List Int) × Int × Int)} {F : FS} (h_walks : RowR 1 (slE 1 (iE .i64)) F walks_a walks_c walks) (h_hears : RowR 1 (slE 1 (iE .i64)) F hears_a hears_c hears) (h_notices : RowR 3 (prE (slE 1 (iE .i64)) (prE (iE .i64) (iE .i64))) F notices_a notices_c notices) {r : List Int} {r2 : Int} {r3 : Int} (hr : round_Two walks hears houses start notices = some (r, r2, r3)) :
    SH.Spec Try.prog 36 #[.agg #[.slice walks_a walks.length walks_c, .slice hears_a hears.length hears_c, .int .i64 houses, .int .i64 start, .slice notices_a notices.length notices_c]] F [] fun F' L' v => ∃ (ra : Option Addr) (rn : Nat) (rc : Nat) (rL : LH), v = .tuple #[.slice ra rn rc, .int .i64 r2, .int .i64 r3] ∧ L' = rL ++ [] ∧ SlR 0 3 1 (iE .i64) F' ra rn rc r rL := by
 refine spec_of_shW (args := [.agg #[.slice walks_a walks.length walks_c, .slice hears_a hears.length hears_c, .int .i64 houses, .int .i64 start, .slice notices_a notices.length notices_c]]) Try.func36 rfl Try.ntmps36 (Nat.le_of_ble_eq_true rfl) ?_
 intro K _ _; rw [round_Two] at hr
 refine wsr ?_
 refine o_box rfl rfl ?_; intro b1 hb1
 refine oa rfl rfl (oa rfl rfl (oa rfl rfl (nsr ?_)))
 refine ov (v_loadA (cs := #[.slice walks_a walks.length walks_c, .slice hears_a hears.length hears_c, .int .i64 houses, .int .i64 start, .slice notices_a notices.length notices_c]) Try.isAgg26 Try.sizeOf26 rfl (Has.own 0 rfl) (Nat.le_of_ble_eq_true rfl) rfl) rfl ?_
 obtain ⟨d, n, h2, r4⟩ := b2_ok hr; clear hr
 refine o_call0 rfl Try.call30 rfl rfl rfl (round_opened_w h_walks h_hears h_notices h2) ?_; rintro _ F5 _ hF6 hn7 ⟨v9, rfl, rfl, hp10⟩
 refine shO_L (ln rfl) ?_
 refine om rfl rfl (ox rfl rfl rfl (ox rfl rfl rfl (oa rfl rfl (oa rfl rfl (shO_nil (shW_seq (wsr (om rfl rfl ?_))))))))
 refine ov (v_neq rfl rfl) rfl ?_
 refine shO_nil ?_
 refine shW_condP rfl (fun c11 => ?_) (fun c11 => ?_)
 · have r12 := ite_t r4 c11; clear r4
   refine wsr (om rfl rfl (oa rfl rfl (oa rfl rfl (oa rfl rfl (shO_nil ?_)))))
   refine kW kn ?_
   refine shW_ret (andThen_ret ?_)
   refine q_res3 Try.results36 (res_tmp rfl) (res_tmp rfl) (res_tmp rfl) (sr) ?_
   obtain ⟨rfl, rfl, rfl⟩ := inj3 r12
   exact ⟨_, _, _, [], rfl, rfl, SlR.nil _ _ _ _ _⟩
 have r13 := ite_f r4 c11; clear r4
 refine shW_skip (wsr (oa rfl rfl (nsr (oa rfl rfl (shO_nil ?_)))))
 obtain ⟨out, best, h20, r21⟩ := b2_ok r13; clear r13
 refine shW_join (fun e1 F1 L1 => ∃ (a14 : Option Addr) (n18 : Nat) (c15 : Nat) (Lb16 : LH), FExt F5 F1 ∧ L1 = (Lb16 ++ []) ∧ e1.sub [(7, .slice a14 n18 c15), (8, .int .i64 best)] ∧ SlR K.w0.heap.size 3 1 (iE .i64) F1 a14 n18 c15 out Lb16) ?_ ?_
 · clear r21
   refine wsr ?_
   refine ov (v_fieldAddr fa_26_4 rfl) rfl ?_
   refine ov (v_load Try.isAgg24 rfl (Has.own 0 rfl) rfl) rfl ?_
   refine ov (v_lenS Try.underlying24 rfl) rfl ?_
   obtain ⟨g22, r23⟩ := gd_ok h20; clear h20
   refine ov (v_shl rfl rfl g22) rfl ?_
   refine om rfl rfl (shO_nil ?_)
   refine shW_block ?_
   obtain ⟨g32, r33⟩ := gd_ok r23; clear r23
   refine shW_lp (fun fu1 e1 F1 L1 => ∃ (k : Int), Ctr 0 (shl 1 (notices.length : Int)) k fu1 ∧ ∃ (out2 : List Int) (best2 : Int) (v24 : Value) (a26 : Option Addr) (n30 : Nat) (c27 : Nat) (Lb28 : LH), round_Two_l1 notices d fu1 k out2 best2 = some (out, best) ∧ FExt F5 F1 ∧ L1 = ((b1, .cells #[.slice walks_a walks.length walks_c, .slice hears_a hears.length hears_c, .int .i64 houses, .int .i64 start, .slice notices_a notices.length notices_c] 26 (0, 0)) :: (Lb28 ++ [])) ∧ e1.sub [(1, .pointer (some ⟨b1, 0, none⟩)), (5, v24), (7, .slice a26 n30 c27), (8, .int .i64 best2), (31, .int .i64 (shl 1 (notices.length : Int))), (32, .int .i64 k)] ∧ PtrR 101 (prE (slE 1 (slE 1 (iE .i64))) (prE (slE 1 (slE 1 (iE .i64))) (prE (iE .i64) (prE (iE .i64) (prE (slE 3 (prE (slE 1 (iE .i64)) (prE (iE .i64) (iE .i64)))) (prE (arE 25 (cI .i64)) (prE (slE 2 (prE (iE .i64) (iE .i64))) (arE 15 (cI .i64))))))))) F1 v24 d ∧ SlR K.w0.heap.size 3 1 (iE .i64) F1 a26 n30 c27 out2 Lb28) _ (m0 (kc (ke kr)) ⟨_, Ctr.start _ _, [], -1, v9, none, 0, 0, [], r33, FExt.refl _, rfl, (sc rfl (sc rfl (sc rfl (sc rfl (sc rfl (sc rfl (sn _))))))), hp10, SlR.nil _ _ _ _ _⟩) ?_
   rintro fu1 e1 F38 _ ⟨k, hk34, out2, best2, v24, a26, n30, c27, Lb28, r36, hF39, rfl, he37, hp25, hz29⟩
   refine shW_env _ he37 ?_; clear he37
   refine wsr ?_
   refine ov (v_lssK rfl rfl) rfl ?_
   refine shO_nil (shW_seq ?_)
   refine shW_condP rfl (fun c41 => ?_) (fun c41 => ?_)
   · obtain ⟨fu1, rfl, hk42⟩ := Ctr.succ hk34 c41
     rw [round_Two_l1] at r36
     refine shW_skip ?_
     obtain ⟨out3, best3, h51, r52⟩ := b2_ok r36; clear r36
     refine shW_join (fun e1 F1 L1 => ∃ (v43 : Value) (a45 : Option Addr) (n49 : Nat) (c46 : Nat) (Lb47 : LH), FExt F38 F1 ∧ L1 = ((b1, .cells #[.slice walks_a walks.length walks_c, .slice hears_a hears.length hears_c, .int .i64 houses, .int .i64 start, .slice notices_a notices.length notices_c] 26 (0, 0)) :: (Lb47 ++ [])) ∧ e1.sub [(1, .pointer (some ⟨b1, 0, none⟩)), (5, v43), (7, .slice a45 n49 c46), (8, .int .i64 best3), (31, .int .i64 (shl 1 (notices.length : Int))), (32, .int .i64 k)] ∧ PtrR 101 (prE (slE 1 (slE 1 (iE .i64))) (prE (slE 1 (slE 1 (iE .i64))) (prE (iE .i64) (prE (iE .i64) (prE (slE 3 (prE (slE 1 (iE .i64)) (prE (iE .i64) (iE .i64)))) (prE (arE 25 (cI .i64)) (prE (slE 2 (prE (iE .i64) (iE .i64))) (arE 15 (cI .i64))))))))) F1 v43 d ∧ SlR K.w0.heap.size 3 1 (iE .i64) F1 a45 n49 c46 out3 Lb47) ?_ ?_
     · clear r52
       refine shW_block ?_
       refine wsr (om rfl rfl (oa rfl rfl (nsr ?_)))
       refine ov (v_fieldAddr fa_26_4 rfl) rfl ?_
       refine ov (v_load Try.isAgg24 rfl (Has.own 0 rfl) rfl) rfl ?_
       refine ov (v_lenS Try.underlying24 rfl) rfl ?_
       obtain ⟨g53, r54⟩ := gd_ok h51; clear h51
       obtain ⟨l, h55, r56⟩ := bv_ok r54; clear r54
       refine o_makeZ (R := (iE .i64)) (z0 := 0) (zs := l) rfl slt_38 (by decide) (iE_ok _) (fun _ => rfl) rfl g53 h55 (fun _ => .c .n) ?_; intro a57 n60 Lb58 hz59
       refine oa rfl rfl (nsr ?_)
       refine o_alloc rfl Try.zeroValue126 ?_; intro b62 hb62
       refine shO_nil ?_
       obtain ⟨who, l_l, l_l2, h77, r78⟩ := b3_ok r56; clear r56
       refine shW_join (fun e1 F1 L1 => ∃ (Lb63 : LH) (a65 : Option Addr) (n69 : Nat) (c66 : Nat) (Lb67 : LH) (a71 : Option Addr) (n75 : Nat) (c72 : Nat) (Lb73 : LH), F38 = F1 ∧ L1 = ((b62, .cells #[.slice a65 n69 c66, .slice a71 n75 c72] 126 (0, 0)) :: ((b1, .cells #[.slice walks_a walks.length walks_c, .slice hears_a hears.length hears_c, .int .i64 houses, .int .i64 start, .slice notices_a notices.length notices_c] 26 (0, 0)) :: (Lb28 ++ (Lb63 ++ (Lb67 ++ (Lb73 ++ [])))))) ∧ e1.sub [(1, .pointer (some ⟨b1, 0, none⟩)), (5, v24), (7, .slice a26 n30 c27), (8, .int .i64 best2), (10, .slice a57 n60 n60), (11, .pointer (some ⟨b62, 0, none⟩)), (31, .int .i64 (shl 1 (notices.length : Int))), (32, .int .i64 k)] ∧ SlR K.w0.heap.size 3 1 (iE .i64) F1 a57 n60 n60 who Lb63 ∧ SlR K.w0.heap.size 3 1 (iE .i64) F1 a65 n69 c66 l_l Lb67 ∧ SlR K.w0.heap.size 3 1 (iE .i64) F1 a71 n75 c72 l_l2 Lb73) ?_ ?_
       · clear r78
         refine wsr (om rfl rfl ?_)
         refine ov ((v_lenS Try.underlying38 rfl).i (SlR.lenI hz59)) rfl ?_
         refine om rfl rfl (shO_nil ?_)
         refine shW_block ?_
         obtain ⟨g93, r94⟩ := gd_ok h77; clear h77
         refine shW_lp (fun fu2 e1 F1 L1 => ∃ (k2 : Int), Ctr 0 (l.length : Int) k2 fu2 ∧ ∃ (who2 : List Int) (l_l3 : List Int) (l_l4 : List Int) (Lb79 : LH) (a81 : Option Addr) (n85 : Nat) (c82 : Nat) (Lb83 : LH) (a87 : Option Addr) (n91 : Nat) (c88 : Nat) (Lb89 : LH), round_Two_l2 k fu2 k2 who2 l_l3 l_l4 = some (who, l_l, l_l2) ∧ F38 = F1 ∧ L1 = ((b62, .cells #[.slice a81 n85 c82, .slice a87 n91 c88] 126 (0, 0)) :: ((b1, .cells #[.slice walks_a walks.length walks_c, .slice hears_a hears.length hears_c, .int .i64 houses, .int .i64 start, .slice notices_a notices.length notices_c] 26 (0, 0)) :: (Lb28 ++ (Lb79 ++ (Lb83 ++ (Lb89 ++ [])))))) ∧ e1.sub [(1, .pointer (some ⟨b1, 0, none⟩)), (5, v24), (7, .slice a26 n30 c27), (8, .int .i64 best2), (9, .int .i64 k), (10, .slice a57 n60 n60), (11, .pointer (some ⟨b62, 0, none⟩)), (31, .int .i64 (shl 1 (notices.length : Int))), (32, .int .i64 k), (40, .int .i64 (l.length : Int)), (41, .int .i64 k2)] ∧ SlR K.w0.heap.size 3 1 (iE .i64) F1 a57 n60 n60 who2 Lb79 ∧ SlR K.w0.heap.size 3 1 (iE .i64) F1 a81 n85 c82 l_l3 Lb83 ∧ SlR K.w0.heap.size 3 1 (iE .i64) F1 a87 n91 c88 l_l4 Lb89) _ (m0 (kc (kc (kg (fS fP) (ka (ke (ke kr)))))) ⟨_, Ctr.start _ _, l, [], [], Lb58, none, 0, 0, [], none, 0, 0, [], r94, rfl, rfl, (sc rfl (sc rfl (sc rfl (sc rfl (sc rfl (sc rfl (sc rfl (sc rfl (sc rfl (sc rfl (sc rfl (sn _)))))))))))), hz59, SlR.nil _ _ _ _ _, SlR.nil _ _ _ _ _⟩) ?_
         rintro fu2 e1 _ _ ⟨k2, hk95, who2, l_l3, l_l4, Lb79, a81, n85, c82, Lb83, a87, n91, c88, Lb89, r97, rfl, rfl, he98, hz80, hz84, hz90⟩
         refine shW_env _ he98 ?_; clear he98
         refine wsr ?_
         refine ov (v_lssK rfl rfl) rfl ?_
         refine shO_nil (shW_seq ?_)
         refine shW_condP rfl (fun c100 => ?_) (fun c100 => ?_)
         · obtain ⟨fu2, rfl, hk101⟩ := Ctr.succ hk95 c100
           rw [round_Two_l2] at r97
           refine shW_skip (shW_seq ?_)
           refine shW_block ?_
           refine wsr (om rfl rfl (oa rfl rfl (nsr (om rfl rfl (om rfl rfl (om rfl rfl (om rfl rfl ?_)))))))
           refine ov ((v_lenS Try.underlying38 rfl).i (SlR.lenI hz80)) rfl ?_
           obtain ⟨g102, r103⟩ := gd_ok r97; clear r97
           refine ov (v_sub rfl rfl g102) rfl ?_
           refine om rfl rfl ?_
           obtain ⟨g104, r105⟩ := gd_ok r103; clear r103
           refine ov (v_sub rfl rfl g104) rfl ?_
           obtain ⟨g106, r107⟩ := gd_ok r105; clear r105
           refine ov (v_shr rfl rfl g106) rfl ?_
           refine ov (v_and rfl rfl) rfl ?_
           obtain ⟨x, g108, hx109, r110⟩ := ix_ok r107; clear r107
           obtain ⟨b111, o112, c113, vs114, ha115, hs116, hle117, rfl, hl118, hc119⟩ := SlR.at (iE_ok _) hz80 (L := (b62, .cells #[.slice a81 n85 c82, .slice a87 n91 c88] 126 (0, 0)) :: ((b1, .cells #[.slice walks_a walks.length walks_c, .slice hears_a hears.length hears_c, .int .i64 houses, .int .i64 start, .slice notices_a notices.length notices_c] 26 (0, 0)) :: (Lb28 ++ (Lb79 ++ (Lb83 ++ (Lb89 ++ [])))))) (fC (fC (fS fP))) g108.1 hx109
           refine ov (v_indexO Try.underlying38 Try.sizeOf3 rfl ha115 rfl (SlR.idx hz80 g108)) rfl ?_
           obtain ⟨who3, h120, r121⟩ := bv_ok r110; clear r110
           refine o_storeZ (u := band (shr k (((who2.length : Int) - 1) - k2)) 1) Try.sizeOf3 (iE_ok _) rfl ha115 rfl rfl (fun _ => .c (.c (.s .h))) hz80 h120 g108 ?_; intro Lb122 hz123
           refine shO_nil ?_
           refine shW_drawM [(.still, 0), (.still, 1), (.still, 2), (.still, 3), (.still, 4), (.still, 5), (.still, 6), (.still, 7), (.still, 8), (.still, 9), (.still, 10), (.seq, 11), (.seq, 12), (.still, 13), (.seq, 14)] (by kernel_rfl) (by kernel_rfl) (trivial) (by rfl) (by kernel_rfl) ?_
           refine shM_v (v := .slice a57 n60 n60) (ek := [(10, .slice a57 n60 n60)]) (Ls := []) rfl rfl rfl rfl ((sc rfl (sn _))) (by kernel_rfl) sm (fun H F' L' hF' hL' => v_move rfl) ?_
           refine shM_v (v := .int .i64 k2) (ek := [(12, .int .i64 k2)]) (Ls := []) rfl rfl rfl rfl ((sc rfl (sn _))) (by kernel_rfl) sm (fun H F' L' hF' hL' => v_move rfl) ?_
           obtain ⟨x2, g124, hx125, r126⟩ := ix_ok r121; clear r121
           obtain ⟨b127, o128, c129, vs130, ha131, hs132, hle133, rfl, hl134, hc135⟩ := SlR.at (iE_ok _) hz123 (L := Lb122 ++ []) fP g124.1 hx125
           refine shM_v (v := .pointer (some ⟨b127, o128 + (k2 : Int).toNat * 1, none⟩)) (ek := [(55, .slice a57 n60 n60), (56, .int .i64 k2)]) (Ls := []) rfl rfl rfl rfl ((sc rfl (sc rfl (sn _)))) (by kernel_rfl) sm (fun H F' L' hF' hL' => v_indexO Try.underlying38 Try.sizeOf3 rfl ha131 rfl (SlR.idx hz123 g124)) ?_
           refine shM_v (v := .int .i64 x2) (ek := [(57, .pointer (some ⟨b127, o128 + (k2 : Int).toNat * 1, none⟩))]) (Ls := Lb122 ++ []) rfl rfl rfl rfl ((sc rfl (sn _))) (by kernel_rfl) (s0 (s1 (s1 (s3 (s4 (s3 (s3 sr))))))) (fun H F' L' hF' hL' => v_load Try.isAgg3 rfl (hs132.ext hF' hL') (hc135 0 (by decide))) ?_
           refine shM_v (v := .slice a57 n60 n60) (ek := [(10, .slice a57 n60 n60)]) (Ls := []) rfl rfl rfl rfl ((sc rfl (sn _))) (by kernel_rfl) sm (fun H F' L' hF' hL' => v_move rfl) ?_
           refine shM_v (v := .int .i64 k2) (ek := [(12, .int .i64 k2)]) (Ls := []) rfl rfl rfl rfl ((sc rfl (sn _))) (by kernel_rfl) sm (fun H F' L' hF' hL' => v_move rfl) ?_
           obtain ⟨b136, o137, c138, vs139, ha140, hs141, hle142, rfl, hl143, hc144⟩ := SlR.at (iE_ok _) hz123 (L := Lb122 ++ []) fP g124.1 hx125
           refine shM_v (v := .pointer (some ⟨b136, o137 + (k2 : Int).toNat * 1, none⟩)) (ek := [(59, .slice a57 n60 n60), (60, .int .i64 k2)]) (Ls := []) rfl rfl rfl rfl ((sc rfl (sc rfl (sn _)))) (by kernel_rfl) sm (fun H F' L' hF' hL' => v_indexO Try.underlying38 Try.sizeOf3 rfl ha140 rfl (SlR.idx hz123 g124)) ?_
           refine shM_v (v := .int .i64 x2) (ek := [(61, .pointer (some ⟨b136, o137 + (k2 : Int).toNat * 1, none⟩))]) (Ls := Lb122 ++ []) rfl rfl rfl rfl ((sc rfl (sn _))) (by kernel_rfl) (s0 (s1 (s1 (s3 (s4 (s3 (s3 sr))))))) (fun H F' L' hF' hL' => v_load Try.isAgg3 rfl (hs141.ext hF' hL') (hc144 0 (by decide))) ?_
           by_cases c145 : x2 = 0
           · have r146 := ite_t r126 c145; clear r126
             refine shM_v (v := .pointer (some ⟨b62, 0, none⟩)) (ek := [(11, .pointer (some ⟨b62, 0, none⟩)), (62, .int .i64 x2)]) (Ls := []) rfl rfl rfl rfl ((sc rfl (sc rfl (sn _)))) (by kernel_rfl) sm (fun H F' L' hF' hL' => OpV.eq (v' := .pointer (some ⟨b62, 0, none⟩)) (v_indexA Try.underlying126 Try.sizeOf38 rfl rfl (by have := c145; omega)) (by rw [c145]; rfl)) ?_
             refine shM_v (v := .slice a81 n85 c82) (ek := [(63, .pointer (some ⟨b62, 0, none⟩))]) (Ls := [(b62, .cells #[.slice a81 n85 c82, .slice a87 n91 c88] 126 (0, 0))]) rfl rfl rfl rfl ((sc rfl (sn _))) (by kernel_rfl) (s0 (s2 (s1 (s3 (s3 (s3 (s3 sr))))))) (fun H F' L' hF' hL' => v_load Try.isAgg38 rfl ((Has.own 0 rfl).ext hF' hL') rfl) ?_
             refine shM_v (v := .int .i64 k2) (ek := [(12, .int .i64 k2)]) (Ls := []) rfl rfl rfl rfl ((sc rfl (sn _))) (by kernel_rfl) sm (fun H F' L' hF' hL' => v_move rfl) ?_
             refine ⟨_, [(65, .int .i64 k2)], rfl, rfl, (sc rfl (sn _)), by kernel_rfl, ?_⟩; intro H
             refine o_buildSlice (cs := #[.int .i64 k2]) rfl rfl (buildSlice_all slt_38 [.int .i64 k2] rfl (by decide) (by simp [Value.cells]) (by decide)) ?_; intro b147 hb147
             refine shO_nil ⟨_, rfl, FExt.refl _, [9, 8, 7, 6, 5, 4, 3, 2, 1, 0], by kernel_rfl, .inl (.inr (fun d h => by cases h; rfl)), (List.forall_mem_cons.2 ⟨s0 (s1 (s2 (s1 (s3 (s3 (s3 (s3 sr))))))), (List.forall_mem_cons.2 ⟨sm, (List.forall_mem_cons.2 ⟨s0 (s1 (s1 (s1 (s3 (s4 (s3 (s3 sr))))))), (List.forall_mem_cons.2 ⟨sm, (List.forall_mem_cons.2 ⟨sm, (List.forall_mem_cons.2 ⟨sm, (List.forall_mem_cons.2 ⟨s0 (s1 (s1 (s1 (s3 (s4 (s3 (s3 sr))))))), (List.forall_mem_cons.2 ⟨sm, (List.forall_mem_cons.2 ⟨sm, (List.forall_mem_cons.2 ⟨sm, (fun _ h => absurd h List.not_mem_nil)⟩)⟩)⟩)⟩)⟩)⟩)⟩)⟩)⟩)⟩), ?_⟩
             refine ⟨_, [(64, .slice a81 n85 c82), (66, .slice (some ⟨b147, 0, none⟩) 1 1)], rfl, rfl, (sc rfl (sc rfl (sn _))), by kernel_rfl, ?_⟩; intro H
             obtain ⟨l2, h148, g149, r150⟩ := ap_ok r146; clear r146
             refine o_appZ (xs := l_l3) (ys := [k2]) (zs := l2) rfl slt_38 rfl rfl (Nat.le_refl _) (fun _ => .c (.c (.c (.s (.s .h))))) hz84 (SrcR.box (vss := [[.int .i64 k2]]) (ys := [k2]) 0 rfl (iE_ok _) (.cons rfl .nil) rfl rfl) h148 g149 (by decide) ?_; intro a151 n155 c152 Lb153 hz154
             refine kO (kd kr) ?_
             refine shO_nil ⟨_, rfl, FExt.refl _, [3, 2, 1, 0], by kernel_rfl, .inl (.inr (fun d h => by cases h; rfl)), (List.forall_mem_cons.2 ⟨s0 (s1 (s1 (s3 (s4 (s3 (s3 sr)))))), (List.forall_mem_cons.2 ⟨sm, (List.forall_mem_cons.2 ⟨sm, (List.forall_mem_cons.2 ⟨sm, (fun _ h => absurd h List.not_mem_nil)⟩)⟩)⟩)⟩), ?_⟩
             refine shM_v (v := .pointer (some ⟨b62, 0, none⟩)) (ek := [(11, .pointer (some ⟨b62, 0, none⟩)), (58, .int .i64 x2)]) (Ls := []) rfl rfl rfl rfl ((sc rfl (sc rfl (sn _)))) (by kernel_rfl) sm (fun H F' L' hF' hL' => OpV.eq (v' := .pointer (some ⟨b62, 0, none⟩)) (v_indexA Try.underlying126 Try.sizeOf38 rfl rfl (by have := c145; omega)) (by rw [c145]; rfl)) ?_
             refine ⟨_, [(67, .slice a151 n155 c152), (68, .pointer (some ⟨b62, 0, none⟩))], rfl, rfl, (sc rfl (sc rfl (sn _))), by kernel_rfl, ?_⟩; intro H
             refine o_store (i := 0) Try.sizeOf38 rfl rfl rfl rfl (Nat.le_of_ble_eq_true rfl) ?_
             refine shO_L (L' := (b62, .cells #[.slice a151 n155 c152, .slice a87 n91 c88] 126 (0, 0)) :: ((b1, .cells #[.slice walks_a walks.length walks_c, .slice hears_a hears.length hears_c, .int .i64 houses, .int .i64 start, .slice notices_a notices.length notices_c] 26 (0, 0)) :: (Lb28 ++ (Lb122 ++ (Lb153 ++ (Lb89 ++ [])))))) rfl ?_
             refine shO_nil ⟨undef, rfl, FExt.refl _, [], by kernel_rfl, .inl (.inl rfl), (fun _ h => absurd h List.not_mem_nil), ?_⟩
             refine shM_nil ?_
             refine inBlock_n (id := 3) (shW_region ?_)
             refine ov (v_add rfl rfl (Ctr.r64 hk95 c100 g93)) rfl ?_
             refine om rfl rfl (shO_nil ?_)
             exact le kr ⟨_, hk101, who3, l2, l_l4, Lb122, a151, n155, c152, Lb153, a87, n91, c88, Lb89, r150, rfl, rfl, (sc rfl (sc rfl (sc rfl (sc rfl (sc rfl (sc rfl (sc rfl (sc rfl (sc rfl (sc rfl (sc rfl (sn _)))))))))))), hz123, hz154, hz90⟩
           have r157 := ite_f r126 c145; clear r126
           obtain ⟨g158, r159⟩ := gd_ok r157; clear r157
           refine shM_v (v := .pointer (some ⟨b62, 1, none⟩)) (ek := [(11, .pointer (some ⟨b62, 0, none⟩)), (62, .int .i64 x2)]) (Ls := []) rfl rfl rfl rfl ((sc rfl (sc rfl (sn _)))) (by kernel_rfl) sm (fun H F' L' hF' hL' => OpV.eq (v' := .pointer (some ⟨b62, 1, none⟩)) (v_indexA Try.underlying126 Try.sizeOf38 rfl rfl (by have := g158; omega)) (by rw [g158]; rfl)) ?_
           refine shM_v (v := .slice a87 n91 c88) (ek := [(63, .pointer (some ⟨b62, 1, none⟩))]) (Ls := [(b62, .cells #[.slice a81 n85 c82, .slice a87 n91 c88] 126 (0, 0))]) rfl rfl rfl rfl ((sc rfl (sn _))) (by kernel_rfl) (s0 (s2 (s1 (s3 (s3 (s3 (s3 sr))))))) (fun H F' L' hF' hL' => v_load Try.isAgg38 rfl ((Has.own 0 rfl).ext hF' hL') rfl) ?_
           refine shM_v (v := .int .i64 k2) (ek := [(12, .int .i64 k2)]) (Ls := []) rfl rfl rfl rfl ((sc rfl (sn _))) (by kernel_rfl) sm (fun H F' L' hF' hL' => v_move rfl) ?_
           refine ⟨_, [(65, .int .i64 k2)], rfl, rfl, (sc rfl (sn _)), by kernel_rfl, ?_⟩; intro H
           refine o_buildSlice (cs := #[.int .i64 k2]) rfl rfl (buildSlice_all slt_38 [.int .i64 k2] rfl (by decide) (by simp [Value.cells]) (by decide)) ?_; intro b160 hb160
           refine shO_nil ⟨_, rfl, FExt.refl _, [9, 8, 7, 6, 5, 4, 3, 2, 1, 0], by kernel_rfl, .inl (.inr (fun d h => by cases h; rfl)), (List.forall_mem_cons.2 ⟨s0 (s1 (s2 (s1 (s3 (s3 (s3 (s3 sr))))))), (List.forall_mem_cons.2 ⟨sm, (List.forall_mem_cons.2 ⟨s0 (s1 (s1 (s1 (s3 (s4 (s3 (s3 sr))))))), (List.forall_mem_cons.2 ⟨sm, (List.forall_mem_cons.2 ⟨sm, (List.forall_mem_cons.2 ⟨sm, (List.forall_mem_cons.2 ⟨s0 (s1 (s1 (s1 (s3 (s4 (s3 (s3 sr))))))), (List.forall_mem_cons.2 ⟨sm, (List.forall_mem_cons.2 ⟨sm, (List.forall_mem_cons.2 ⟨sm, (fun _ h => absurd h List.not_mem_nil)⟩)⟩)⟩)⟩)⟩)⟩)⟩)⟩)⟩)⟩), ?_⟩
           refine ⟨_, [(64, .slice a87 n91 c88), (66, .slice (some ⟨b160, 0, none⟩) 1 1)], rfl, rfl, (sc rfl (sc rfl (sn _))), by kernel_rfl, ?_⟩; intro H
           obtain ⟨l3, h161, g162, r163⟩ := ap_ok r159; clear r159
           refine o_appZ (xs := l_l4) (ys := [k2]) (zs := l3) rfl slt_38 rfl rfl (Nat.le_refl _) (fun _ => .c (.c (.c (.s (.s (.s .h)))))) hz90 (SrcR.box (vss := [[.int .i64 k2]]) (ys := [k2]) 0 rfl (iE_ok _) (.cons rfl .nil) rfl rfl) h161 g162 (by decide) ?_; intro a164 n168 c165 Lb166 hz167
           refine kO (kd kr) ?_
           refine shO_nil ⟨_, rfl, FExt.refl _, [3, 2, 1, 0], by kernel_rfl, .inl (.inr (fun d h => by cases h; rfl)), (List.forall_mem_cons.2 ⟨s0 (s1 (s1 (s3 (s4 (s3 (s3 sr)))))), (List.forall_mem_cons.2 ⟨sm, (List.forall_mem_cons.2 ⟨sm, (List.forall_mem_cons.2 ⟨sm, (fun _ h => absurd h List.not_mem_nil)⟩)⟩)⟩)⟩), ?_⟩
           obtain ⟨g170, r171⟩ := gd_ok r163; clear r163
           refine shM_v (v := .pointer (some ⟨b62, 1, none⟩)) (ek := [(11, .pointer (some ⟨b62, 0, none⟩)), (58, .int .i64 x2)]) (Ls := []) rfl rfl rfl rfl ((sc rfl (sc rfl (sn _)))) (by kernel_rfl) sm (fun H F' L' hF' hL' => OpV.eq (v' := .pointer (some ⟨b62, 1, none⟩)) (v_indexA Try.underlying126 Try.sizeOf38 rfl rfl (by have := g170; omega)) (by rw [g170]; rfl)) ?_
           refine ⟨_, [(67, .slice a164 n168 c165), (68, .pointer (some ⟨b62, 1, none⟩))], rfl, rfl, (sc rfl (sc rfl (sn _))), by kernel_rfl, ?_⟩; intro H
           refine o_store (i := 0) Try.sizeOf38 rfl rfl rfl rfl (Nat.le_of_ble_eq_true rfl) ?_
           refine shO_L (L' := (b62, .cells #[.slice a81 n85 c82, .slice a164 n168 c165] 126 (0, 0)) :: ((b1, .cells #[.slice walks_a walks.length walks_c, .slice hears_a hears.length hears_c, .int .i64 houses, .int .i64 start, .slice notices_a notices.length notices_c] 26 (0, 0)) :: (Lb28 ++ (Lb122 ++ (Lb83 ++ (Lb166 ++ [])))))) rfl ?_
           refine shO_nil ⟨undef, rfl, FExt.refl _, [], by kernel_rfl, .inl (.inl rfl), (fun _ h => absurd h List.not_mem_nil), ?_⟩
           refine shM_nil ?_
           refine inBlock_n (id := 3) (shW_region ?_)
           refine ov (v_add rfl rfl (Ctr.r64 hk95 c100 g93)) rfl ?_
           refine om rfl rfl (shO_nil ?_)
           exact le kr ⟨_, hk101, who3, l_l3, l3, Lb122, a81, n85, c82, Lb83, a164, n168, c165, Lb166, r171, rfl, rfl, (sc rfl (sc rfl (sc rfl (sc rfl (sc rfl (sc rfl (sc rfl (sc rfl (sc rfl (sc rfl (sc rfl (sn _)))))))))))), hz123, hz84, hz167⟩
         obtain rfl := Ctr.zero hk95 c100
         rw [round_Two_l2] at r97
         refine shW_exit (andThen_exit (andThen_exit ?_))
         refine inBlock_exit ?_
         obtain ⟨rfl, rfl, rfl⟩ := inj3 r97
         exact mi kr ⟨Lb79, a81, n85, c82, Lb83, a87, n91, c88, Lb89, rfl, rfl, (sc rfl (sc rfl (sc rfl (sc rfl (sc rfl (sc rfl (sc rfl (sc rfl (sn _))))))))), hz80, hz84, hz90⟩
       rintro e1 _ _ ⟨Lb63, a65, n69, c66, Lb67, a71, n75, c72, Lb73, rfl, rfl, he172, hz64, hz68, hz74⟩
       refine shW_env _ he172 ?_; clear he172
       refine wsr (om rfl rfl (om rfl rfl ?_))
       refine ov (OpV.eq (v' := .pointer (some ⟨b62, 0, none⟩)) (v_indexA Try.underlying126 Try.sizeOf38 rfl rfl (by decide)) rfl) rfl ?_
       refine ov (v_load Try.isAgg38 rfl (Has.own 0 rfl) rfl) rfl ?_
       obtain ⟨walks2, hears2, houses2, start2, notices2, walks3, pairs, hit, h173, r174⟩ := b8_ok r78; clear r78
       have h194 := hp25; rw [h173] at h194; obtain ⟨b175, c176, m177, hv178, hz179, ⟨_, _, rfl, ⟨a180, c181, rfl, h182⟩, ⟨_, _, rfl, ⟨a183, c184, rfl, h185⟩, ⟨_, _, rfl, rfl, ⟨_, _, rfl, rfl, ⟨_, _, rfl, ⟨a186, c187, rfl, h188⟩, ⟨_, _, rfl, ⟨rfl, h189⟩, ⟨_, _, rfl, ⟨a190, c191, rfl, h192⟩, ⟨rfl, h193⟩⟩⟩⟩⟩⟩⟩⟩⟩ := h194; subst hv178
       have hz179 : F38 b175 = some (.cells ((([.slice a180 walks2.length c181] : List Value) ++ (([.slice a183 hears2.length c184] : List Value) ++ (([.int .i64 houses2] : List Value) ++ (([.int .i64 start2] : List Value) ++ (([.slice a186 notices2.length c187] : List Value) ++ (walks3.flatMap (cI .i64) ++ (([.slice a190 pairs.length c191] : List Value) ++ (hit.flatMap (cI .i64))))))))).toArray) 101 m177) := hz179
       obtain ⟨n2, h195, r196⟩ := b1_ok r174; clear r174
       refine o_callT (Lt := Lb67 ++ []) (Lr := (b62, .cells #[.slice a65 n69 c66, .slice a71 n75 c72] 126 (0, 0)) :: ((b1, .cells #[.slice walks_a walks.length walks_c, .slice hears_a hears.length hears_c, .int .i64 houses, .int .i64 start, .slice notices_a notices.length notices_c] 26 (0, 0)) :: (Lb28 ++ (Lb63 ++ (Lb73 ++ []))))) rfl Try.call55 rfl rfl rfl (pT ((fC (fC (fS (fS fP)))).trans (pA pR)) (lp (ln rfl))) (fun F2 h2 h3 => by rw [(SlR.caps hz68).1]; exact round_crier_of_w (h2 _ _ hz179) (h182.mono (slE_ok (iE_ok _)) h2) (h185.mono (slE_ok (iE_ok _)) h2) (h188.mono (prE_ok (slE_ok (iE_ok _)) (prE_ok (iE_ok _) (iE_ok _))) h2) h189 (h192.mono (prE_ok (iE_ok _) (iE_ok _)) h2) h193 (hz68.row (iE_ok _) h2 (fun p hp => h3 p (List.mem_append_left _ hp))) h195) ?_
       refine om rfl rfl ?_
       obtain ⟨y, h197, r198⟩ := b1_ok r196; clear r196
       refine o_call0 rfl Try.call33 rfl rfl rfl (round_crier_hours_w hz179 h182 h185 h188 h189 h192 h193 h197) ?_; rintro _ F199 _ hF200 hn201 ⟨fi203, fc204, cp205, rfl, rfl, hit206⟩
       replace hp25 := hp25.mono (prE_ok (slE_ok (slE_ok (iE_ok _))) (prE_ok (slE_ok (slE_ok (iE_ok _))) (prE_ok (iE_ok _) (prE_ok (iE_ok _) (prE_ok (slE_ok (prE_ok (slE_ok (iE_ok _)) (prE_ok (iE_ok _) (iE_ok _)))) (prE_ok (arE_ok (n := 25) (sz := 1) (cI_ok .i64)) (prE_ok (slE_ok (prE_ok (iE_ok _) (iE_ok _))) (arE_ok (n := 15) (sz := 1) (cI_ok .i64))))))))) hF200
       replace h182 := h182.mono (slE_ok (iE_ok _)) hF200
       replace h185 := h185.mono (slE_ok (iE_ok _)) hF200
       replace h188 := h188.mono (prE_ok (slE_ok (iE_ok _)) (prE_ok (iE_ok _) (iE_ok _))) hF200
       replace h192 := h192.mono (prE_ok (iE_ok _) (iE_ok _)) hF200
       replace hz29 := hz29.mono (iE_ok _) hF200
       replace hz64 := hz64.mono (iE_ok _) hF200
       replace hz74 := hz74.mono (iE_ok _) hF200
       replace hz179 := hF200 _ _ hz179
       refine shO_L (ln rfl) ?_
       obtain ⟨l4, n3, ok, h207, r208⟩ := b3_ok r198; clear r198
       refine o_call0 rfl Try.call31 rfl rfl rfl (round_crier_serve_w hz179 h182 h185 h188 h189 h192 h193 hit206 h207) ?_; rintro _ F209 _ hF210 hn211 ⟨a213, n217, c214, Lb215, rfl, rfl, hz216⟩
       replace hp25 := hp25.mono (prE_ok (slE_ok (slE_ok (iE_ok _))) (prE_ok (slE_ok (slE_ok (iE_ok _))) (prE_ok (iE_ok _) (prE_ok (iE_ok _) (prE_ok (slE_ok (prE_ok (slE_ok (iE_ok _)) (prE_ok (iE_ok _) (iE_ok _)))) (prE_ok (arE_ok (n := 25) (sz := 1) (cI_ok .i64)) (prE_ok (slE_ok (prE_ok (iE_ok _) (iE_ok _))) (arE_ok (n := 15) (sz := 1) (cI_ok .i64))))))))) hF210
       replace h182 := h182.mono (slE_ok (iE_ok _)) hF210
       replace h185 := h185.mono (slE_ok (iE_ok _)) hF210
       replace h188 := h188.mono (prE_ok (slE_ok (iE_ok _)) (prE_ok (iE_ok _) (iE_ok _))) hF210
       replace h192 := h192.mono (prE_ok (iE_ok _) (iE_ok _)) hF210
       replace hz29 := hz29.mono (iE_ok _) hF210
       replace hz64 := hz64.mono (iE_ok _) hF210
       replace hz74 := hz74.mono (iE_ok _) hF210
       replace hz179 := hF210 _ _ hz179
       refine shO_L (lp (ln rfl)) ?_
       refine kO (kf (fS fO) (kf (fS fO) kr)) ?_
       refine om rfl rfl (ox rfl rfl rfl (ox rfl rfl rfl (ox rfl rfl rfl (oa rfl rfl (oa rfl rfl (oa rfl rfl (nsr (om rfl rfl (om rfl rfl ?_)))))))))
       refine ov (OpV.eq (v' := .pointer (some ⟨b62, 1, none⟩)) (v_indexA Try.underlying126 Try.sizeOf38 rfl rfl (by decide)) rfl) rfl ?_
       refine ov (v_load Try.isAgg38 rfl (Has.own 0 rfl) rfl) rfl ?_
       obtain ⟨n4, h219, r220⟩ := b1_ok r208; clear r208
       refine o_callT (Lt := Lb73 ++ []) (Lr := (b62, .cells #[.slice a65 n69 c66, .slice a71 n75 c72] 126 (0, 0)) :: ((b1, .cells #[.slice walks_a walks.length walks_c, .slice hears_a hears.length hears_c, .int .i64 houses, .int .i64 start, .slice notices_a notices.length notices_c] 26 (0, 0)) :: (Lb215 ++ (Lb28 ++ (Lb63 ++ (Lb67 ++ [])))))) rfl Try.call55 rfl rfl rfl (pT ((fC (fC (fS (fS (fS (fS fP)))))).trans (pA pR)) (lp (ln rfl))) (fun F2 h2 h3 => by rw [(SlR.caps hz74).1]; exact round_crier_of_w (h2 _ _ hz179) (h182.mono (slE_ok (iE_ok _)) h2) (h185.mono (slE_ok (iE_ok _)) h2) (h188.mono (prE_ok (slE_ok (iE_ok _)) (prE_ok (iE_ok _) (iE_ok _))) h2) h189 (h192.mono (prE_ok (iE_ok _) (iE_ok _)) h2) h193 (hz74.row (iE_ok _) h2 (fun p hp => h3 p (List.mem_append_left _ hp))) h219) ?_
       refine om rfl rfl ?_
       obtain ⟨y2, h221, r222⟩ := b1_ok r220; clear r220
       refine o_call0 rfl Try.call33 rfl rfl rfl (round_crier_hours_w hz179 h182 h185 h188 h189 h192 h193 h221) ?_; rintro _ F223 _ hF224 hn225 ⟨fi227, fc228, cp229, rfl, rfl, hit230⟩
       replace hp25 := hp25.mono (prE_ok (slE_ok (slE_ok (iE_ok _))) (prE_ok (slE_ok (slE_ok (iE_ok _))) (prE_ok (iE_ok _) (prE_ok (iE_ok _) (prE_ok (slE_ok (prE_ok (slE_ok (iE_ok _)) (prE_ok (iE_ok _) (iE_ok _)))) (prE_ok (arE_ok (n := 25) (sz := 1) (cI_ok .i64)) (prE_ok (slE_ok (prE_ok (iE_ok _) (iE_ok _))) (arE_ok (n := 15) (sz := 1) (cI_ok .i64))))))))) hF224
       replace h182 := h182.mono (slE_ok (iE_ok _)) hF224
       replace h185 := h185.mono (slE_ok (iE_ok _)) hF224
       replace h188 := h188.mono (prE_ok (slE_ok (iE_ok _)) (prE_ok (iE_ok _) (iE_ok _))) hF224
       replace h192 := h192.mono (prE_ok (iE_ok _) (iE_ok _)) hF224
       replace hz29 := hz29.mono (iE_ok _) hF224
       replace hz64 := hz64.mono (iE_ok _) hF224
       replace hz179 := hF224 _ _ hz179
       refine shO_L (ln rfl) ?_
       obtain ⟨l5, n5, ok2, h231, r232⟩ := b3_ok r222; clear r222
       refine o_call0 rfl Try.call31 rfl rfl rfl (round_crier_serve_w hz179 h182 h185 h188 h189 h192 h193 hit230 h231) ?_; rintro _ F233 _ hF234 hn235 ⟨a237, n241, c238, Lb239, rfl, rfl, hz240⟩
       replace hp25 := hp25.mono (prE_ok (slE_ok (slE_ok (iE_ok _))) (prE_ok (slE_ok (slE_ok (iE_ok _))) (prE_ok (iE_ok _) (prE_ok (iE_ok _) (prE_ok (slE_ok (prE_ok (slE_ok (iE_ok _)) (prE_ok (iE_ok _) (iE_ok _)))) (prE_ok (arE_ok (n := 25) (sz := 1) (cI_ok .i64)) (prE_ok (slE_ok (prE_ok (iE_ok _) (iE_ok _))) (arE_ok (n := 15) (sz := 1) (cI_ok .i64))))))))) hF234
       replace hz29 := hz29.mono (iE_ok _) hF234
       replace hz64 := hz64.mono (iE_ok _) hF234
       refine shO_L (lp (ln rfl)) ?_
       refine kO (kf (fS fO) (kf (fS fO) kr)) ?_
       refine om rfl rfl (ox rfl rfl rfl (ox rfl rfl rfl (ox rfl rfl rfl (oa rfl rfl (oa rfl rfl (oa rfl rfl (nsr (om rfl rfl (om rfl rfl ?_)))))))))
       refine ov (v_max2 rfl rfl) rfl ?_
       refine oa rfl rfl (shO_nil ?_)
       obtain ⟨k3, h243, r244⟩ := b1_ok r232; clear r232
       refine shW_join (fun e1 F1 L1 => F233 = F1 ∧ L1 = ((b1, .cells #[.slice walks_a walks.length walks_c, .slice hears_a hears.length hears_c, .int .i64 houses, .int .i64 start, .slice notices_a notices.length notices_c] 26 (0, 0)) :: (Lb28 ++ (Lb63 ++ []))) ∧ e1.sub [(1, .pointer (some ⟨b1, 0, none⟩)), (5, .pointer (some ⟨b175, 0, none⟩)), (7, .slice a26 n30 c27), (8, .int .i64 best2), (10, .slice a57 n60 n60), (19, .int .i64 (if n5 > n3 then n5 else n3)), (31, .int .i64 (shl 1 (notices.length : Int))), (32, .int .i64 k), (109, .bool k3)]) ?_ ?_
       · clear r244
         refine shW_region (om rfl rfl (om rfl rfl ?_))
         rcases bool_two ok with c245 | c245
         · have r246 := bt h243 c245; clear h243
           refine shO_on (b := true) 98 rfl (EnvB rfl c245) (om rfl rfl ?_)
           refine ov (v_pick_t (evB rfl c245) rfl) rfl ?_
           refine om rfl rfl ?_
           rcases bool_two ok2 with c247 | c247
           · have r248 := bt r246 c247; clear r246
             refine shO_on (b := true) 101 rfl (EnvB rfl c247) (om rfl rfl (shO_on (b := true) 101 rfl (EnvB rfl c247) ?_))
             refine ov (v_eql rfl rfl) rfl ?_
             refine shO_on (b := true) 101 rfl (EnvB rfl c247) (om rfl rfl ?_)
             by_cases c249 : best2 = (-1)
             · have r250 := ite_t r248 c249; clear r248
               refine shO_off (b' := true) 104 rfl (Env.isT rfl c249) rfl rfl (shO_off (b' := true) 104 rfl (Env.isT rfl c249) rfl rfl (shO_off (b' := true) 104 rfl (Env.isT rfl c249) rfl rfl (shO_on (b := true) 101 rfl (EnvB rfl c247) ?_)))
               refine ov (v_pick_t (evD_true rfl c249) rfl) rfl ?_
               refine ov (v_pick_t (evB rfl c247) rfl) rfl ?_
               refine shO_nil ?_
               obtain rfl := inj1 r250
               exact mi (kd (kc (kx (kx (ka (ka kn)))))) ⟨rfl, rfl, (sc rfl (sc rfl (sc rfl (sc rfl (sc rfl (sc rfl (sc rfl (sc rfl (sc rfl (sn _))))))))))⟩
             have r251 := ite_f r248 c249; clear r248
             refine shO_on (b := false) 104 rfl (Env.isF rfl c249) (om rfl rfl (shO_on (b := false) 104 rfl (Env.isF rfl c249) (om rfl rfl (shO_on (b := false) 104 rfl (Env.isF rfl c249) ?_))))
             refine ov (v_lssK rfl rfl) rfl ?_
             refine shO_on (b := true) 101 rfl (EnvB rfl c247) ?_
             refine ov (v_pick_f (evD_false rfl c249) rfl) rfl ?_
             refine ov (v_pick_t (evB rfl c247) rfl) rfl ?_
             refine shO_nil ?_
             obtain rfl := inj1 r251
             exact mi (kd (kc (kx (kx (ka (ka kn)))))) ⟨rfl, rfl, (sc rfl (sc rfl (sc rfl (sc rfl (sc rfl (sc rfl (sc rfl (sc rfl (sc rfl (sn _))))))))))⟩
           have r252 := bf r246 c247; clear r246
           refine shO_off (b' := false) 101 rfl (EnvB rfl c247) rfl rfl (shO_off (b' := false) 101 rfl (EnvB rfl c247) rfl rfl (shO_off (b' := false) 101 rfl (EnvB rfl c247) rfl rfl (shO_offU 104 rfl rfl rfl (shO_offU 104 rfl rfl rfl (shO_offU 104 rfl rfl rfl (shO_off (b' := false) 101 rfl (EnvB rfl c247) rfl rfl ?_))))))
           refine ov (v_pick_f (evB rfl c247) rfl) rfl ?_
           refine shO_nil ?_
           obtain rfl := inj1 r252
           exact mi (kd (kc (kx (kx (ka (ka kn)))))) ⟨rfl, rfl, (sc rfl (sc rfl (sc rfl (sc rfl (sc rfl (sc rfl (sc rfl (sc rfl (sc rfl (sn _))))))))))⟩
         have r253 := bf h243 c245; clear h243
         refine shO_off (b' := false) 98 rfl (EnvB rfl c245) rfl rfl ?_
         refine ov (v_pick_f (evB rfl c245) rfl) rfl ?_
         refine om rfl rfl (shO_off (b' := false) 101 rfl rfl rfl rfl (shO_off (b' := false) 101 rfl rfl rfl rfl (shO_off (b' := false) 101 rfl rfl rfl rfl (shO_offU 104 rfl rfl rfl (shO_offU 104 rfl rfl rfl (shO_offU 104 rfl rfl rfl (shO_off (b' := false) 101 rfl rfl rfl rfl ?_)))))))
         refine ov (v_pick_f rfl rfl) rfl ?_
         refine shO_nil ?_
         obtain rfl := inj1 r253
         exact mi (kd (kc (kx (kx (ka (ka kn)))))) ⟨rfl, rfl, (sc rfl (sc rfl (sc rfl (sc rfl (sc rfl (sc rfl (sc rfl (sc rfl (sc rfl (sn _))))))))))⟩
       rintro e1 _ _ ⟨rfl, rfl, he254⟩
       refine shW_env _ he254 ?_; clear he254
       refine shW_cond rfl (fun c255 => ?_) (fun c255 => ?_)
       · have r256 := bt r244 c255; clear r244
         refine shW_region (om rfl rfl (om rfl rfl (oa rfl rfl (oa rfl rfl (shO_nil (inBlock_n (id := 1) ?_))))))
         obtain ⟨rfl, rfl⟩ := inj2 r256
         exact mi (kc (kx kr)) ⟨.pointer (some ⟨b175, 0, none⟩), a57, n60, n60, Lb63, (((hF200.trans hF210).trans hF224).trans hF234), rfl, (sc rfl (sc rfl (sc rfl (sc rfl (sc rfl (sc rfl (sn _))))))), hp25, hz64⟩
       have r257 := bf r244 c255; clear r244
       refine shW_skip (inBlock_n (id := 1) ?_)
       obtain ⟨rfl, rfl⟩ := inj2 r257
       exact mi (kc (ka kn)) ⟨.pointer (some ⟨b175, 0, none⟩), a26, n30, c27, Lb28, (((hF200.trans hF210).trans hF224).trans hF234), rfl, (sc rfl (sc rfl (sc rfl (sc rfl (sc rfl (sc rfl (sn _))))))), hp25, hz29⟩
     rintro e1 F259 _ ⟨v43, a45, n49, c46, Lb47, hF260, rfl, he258, hp44, hz48⟩
     refine shW_env _ he258 ?_; clear he258
     refine shW_region ?_
     refine ov (v_add rfl rfl (Ctr.r64 hk34 c41 g32)) rfl ?_
     refine om rfl rfl (shO_nil ?_)
     exact le kr ⟨_, hk42, out3, best3, v43, a45, n49, c46, Lb47, r52, (hF39.trans hF260), rfl, (sc rfl (sc rfl (sc rfl (sc rfl (sc rfl (sc rfl (sn _))))))), hp44, hz48⟩
   obtain rfl := Ctr.zero hk34 c41
   rw [round_Two_l1] at r36
   refine shW_exit (andThen_exit (andThen_exit ?_))
   refine inBlock_exit ?_
   obtain ⟨rfl, rfl⟩ := inj2 r36
   exact mi (kd kr) ⟨a26, n30, c27, Lb28, hF39, rfl, (sc rfl (sc rfl (sn _))), hz29⟩
 rintro e1 F262 _ ⟨a14, n18, c15, Lb16, hF263, rfl, he261, hz17⟩
 refine shW_env _ he261 ?_; clear he261
 refine shW_seq (wsr (om rfl rfl ?_))
 refine ov (v_eql rfl rfl) rfl ?_
 refine shO_nil ?_
 refine shW_condP rfl (fun c264 => ?_) (fun c264 => ?_)
 · have r265 := ite_t r21 c264; clear r21
   refine wsr (oa rfl rfl (oa rfl rfl (oa rfl rfl (shO_nil ?_))))
   refine kW kn ?_
   refine shW_ret (andThen_ret ?_)
   refine q_res3 Try.results36 (res_tmp rfl) (res_tmp rfl) (res_tmp rfl) (sr) ?_
   obtain ⟨rfl, rfl, rfl⟩ := inj3 r265
   exact ⟨_, _, _, [], rfl, rfl, SlR.nil _ _ _ _ _⟩
 have r266 := ite_f r21 c264; clear r21
 refine shW_skip (wsr (om rfl rfl (om rfl rfl (oa rfl rfl (oa rfl rfl (oa rfl rfl (shO_nil (shW_ret ?_))))))))
 refine q_res3 Try.results36 (res_tmp rfl) (res_tmp rfl) (res_tmp rfl) (sr) ?_
 obtain ⟨rfl, rfl, rfl⟩ := inj3 r266
 exact ⟨_, _, _, _, rfl, rfl, hz17.any⟩
set_option maxHeartbeats 1000000 in
theorem slices_Equal_int_int_w {s1_a : Option Addr} {s1_c : Nat} {s1 : List Int} {s2_a : Option Addr} {s2_c : Nat} {s2 : List Int} {F : FS} (h_s1 : RowR 1 (iE .i64) F s1_a s1_c s1) (h_s2 : RowR 1 (iE .i64) F s2_a s2_c s2) {r : Bool} (hr : slices_Equal_int_int s1 s2 = some r) :
    SpecV Try.prog 65 #[.slice s1_a s1.length s1_c, .slice s2_a s2.length s2_c] F (.bool r) := by
 refine spec_of_shW (args := [.slice s1_a s1.length s1_c, .slice s2_a s2.length s2_c]) Try.func65 rfl Try.ntmps65 (Nat.le_of_ble_eq_true rfl) ?_
 intro K _ _; rw [slices_Equal_int_int] at hr
 refine wsr (oa rfl rfl (shO_nil (shW_seq (wsr (om rfl rfl ?_)))))
 refine ov (v_lenS Try.underlying38 rfl) rfl ?_
 refine om rfl rfl ?_
 refine ov (v_lenS Try.underlying38 rfl) rfl ?_
 refine ov (v_neq rfl rfl) rfl ?_
 refine shO_nil ?_
 refine shW_condP rfl (fun c1 => ?_) (fun c1 => ?_)
 · have r2 := ite_t hr c1; clear hr
   refine wsr (oa rfl rfl (shO_nil (shW_ret (andThen_ret ?_))))
   refine q_res1 Try.results65 (res_tmp rfl) (sr) ?_
   obtain rfl := inj1 r2
   exact rfl
 have r3 := ite_f hr c1; clear hr
 refine shW_skip ?_
 refine shW_join (fun e1 F1 L1 => slices_Equal_int_int_j1 = some r ∧ F = F1 ∧ L1 = [] ∧ e1.sub []) ?_ ?_
 · refine wsr (om rfl rfl ?_)
   refine ov (v_lenS Try.underlying38 rfl) rfl ?_
   refine om rfl rfl (shO_nil ?_)
   refine shW_block ?_
   refine shW_lp (fun fu2 e1 F1 L1 => ∃ (tl : List Int) (k : Int), tl.length = fu2 ∧ Lst s1 k tl ∧ slices_Equal_int_int_l2 s2 tl k = some r ∧ F = F1 ∧ L1 = [] ∧ e1.sub [(0, .slice s1_a s1.length s1_c), (1, .slice s2_a s2.length s2_c), (12, .int .i64 (s1.length : Int)), (13, .int .i64 k)]) _ (m0 kr ⟨_, _, rfl, Lst.start _, r3, rfl, rfl, (sc rfl (sc rfl (sc rfl (sc rfl (sn _)))))⟩) ?_
   rintro fu2 e1 _ _ ⟨tl, k, hn5, hk4, r6, rfl, rfl, he7⟩
   refine shW_env _ he7 ?_; clear he7
   refine wsr ?_
   refine ov (v_lssK rfl rfl) rfl ?_
   refine shO_nil (shW_seq ?_)
   refine shW_condP rfl (fun c9 => ?_) (fun c9 => ?_)
   · obtain ⟨x, tl2, rfl, hx11, g12, hk10⟩ := Lst.succ hk4 c9
     rw [slices_Equal_int_int_l2] at r6
     refine shW_skip (shW_seq ?_)
     refine shW_block ?_
     refine wsr (om rfl rfl (oa rfl rfl ?_))
     refine nsd (by kernel_rfl) (by kernel_rfl) (by kernel_rfl) ?_
     refine qm rfl rfl (qm rfl rfl ?_)
     obtain ⟨b13, o14, c15, vs16, ha17, hs18, hle19, rfl, hl20, hc21⟩ := RowR.at (iE_ok _) h_s1 ([]) g12.1 hx11
     refine qv (v_indexO Try.underlying38 Try.sizeOf3 rfl ha17 rfl g12) rfl ?_
     refine qv (v_load Try.isAgg3 rfl hs18 (hc21 0 (by decide))) rfl ?_
     refine qm rfl rfl (qm rfl rfl ?_)
     obtain ⟨x2, g22, hx23, r24⟩ := ix_ok r6; clear r6
     obtain ⟨b25, o26, c27, vs28, ha29, hs30, hle31, rfl, hl32, hc33⟩ := RowR.at (iE_ok _) h_s2 ([]) g22.1 hx23
     refine qv (v_indexO Try.underlying38 Try.sizeOf3 rfl ha29 rfl g22) rfl ?_
     refine qv (v_load Try.isAgg3 rfl hs30 (hc33 0 (by decide))) rfl ?_
     refine qv (v_neq rfl rfl) rfl ?_
     refine shQ_nil ?_
     refine shW_condP rfl (fun c34 => ?_) (fun c34 => ?_)
     · have r35 := ite_t r24 c34; clear r24
       refine wsr (oa rfl rfl (shO_nil (shW_ret (inBlock_ret (andThen_ret (andThen_ret (inBlock_ret (andThen_ret ?_))))))))
       refine q_res1 Try.results65 (res_tmp rfl) (sr) ?_
       obtain rfl := inj1 r35
       exact rfl
     have r36 := ite_f r24 c34; clear r24
     refine shW_skip (inBlock_n (id := 1) (shW_region ?_))
     refine ov (v_add rfl rfl (Lst.r64 hk4 c9 (RowR.lt h_s1))) rfl ?_
     refine om rfl rfl (shO_nil ?_)
     subst hn5; exact le kr ⟨_, _, rfl, hk10, r36, rfl, rfl, (sc rfl (sc rfl (sc rfl (sc rfl (sn _)))))⟩
   obtain rfl := Lst.zero hk4 c9
   rw [slices_Equal_int_int_l2] at r6
   refine shW_exit (andThen_exit (andThen_exit ?_))
   refine inBlock_exit ?_
   exact mi kr ⟨r6, rfl, rfl, (sn _)⟩
 rintro e1 _ _ ⟨r37, rfl, rfl, he38⟩
 refine shW_env _ he38 ?_; clear he38
 rw [slices_Equal_int_int_j1] at r37
 refine wsr (oa rfl rfl (shO_nil (shW_ret ?_)))
 refine q_res1 Try.results65 (res_tmp rfl) (sr) ?_
 obtain rfl := inj1 r37
 exact rfl
set_option maxHeartbeats 1000000 in
theorem oyezkit_Like_int_w {a_a : Option Addr} {a_c : Nat} {a : List Int} {b_a : Option Addr} {b_c : Nat} {b : List Int} {F : FS} (h_a : RowR 1 (iE .i64) F a_a a_c a) (h_b : RowR 1 (iE .i64) F b_a b_c b) {r : Bool} (hr : oyezkit_Like_int a b = some r) :
    SpecV Try.prog 37 #[.slice a_a a.length a_c, .slice b_a b.length b_c] F (.bool r) := by
 refine spec_of_shW (args := [.slice a_a a.length a_c, .slice b_a b.length b_c]) Try.func37 rfl Try.ntmps37 (Nat.le_of_ble_eq_true rfl) ?_
 intro K _ _; rw [oyezkit_Like_int] at hr
 refine wsr (oa rfl rfl (nsr (om rfl rfl (om rfl rfl ?_))))
 obtain ⟨ok, h1, r2⟩ := b1_ok hr; clear hr
 refine o_callV rfl Try.call65 rfl rfl rfl (slices_Equal_int_int_w h_a h_b h1) ?_
 refine oa rfl rfl (shO_nil (shW_ret ?_))
 refine q_res1 Try.results37 (res_tmp rfl) (sr) ?_
 obtain rfl := inj1 r2
 exact rfl
set_option maxHeartbeats 1000000 in
theorem oyezlaw03_awake_w {F : FS} {r : Bool} (hr : oyezlaw03_awake = some r) :
    SpecV Try.prog 9 #[] F (.bool r) := by
 refine spec_of_shW (args := []) Try.func9 rfl Try.ntmps9 (Nat.le_of_ble_eq_true rfl) ?_
 intro K _ _; rw [oyezlaw03_awake] at hr
 refine wsr (oa rfl rfl (nsr ?_))
 obtain ⟨l, l2, n, n2, l3, h1, r2⟩ := b5_ok hr; clear hr
 refine o_call0 rfl Try.call34 rfl rfl rfl (oyezlaw03_Three_w h1) ?_; rintro _ F3 _ hF4 hn5 ⟨a7, n11, c8, Lb9, a13, n17, c14, Lb15, a19, n23, c20, Lb21, rfl, rfl, hz10, hz16, hz22⟩
 replace hz10 := hz10.new fun p hp => hn5 p (by simp [hp])
 replace hz16 := hz16.new fun p hp => hn5 p (by simp [hp])
 replace hz22 := hz22.new fun p hp => hn5 p (by simp [hp])
 refine shO_L (lp (lp (lp (ln rfl)))) ?_
 obtain ⟨l4, n3, n4, h25, r26⟩ := b3_ok r2; clear r2
 refine o_callTO (Lb := []) (Lt := Lb9 ++ (Lb15 ++ (Lb21 ++ []))) (Lr := []) rfl Try.call8 rfl rfl rfl (pT pR (ln (lp (lp (lp (ln rfl)))))) (fun F2 h2 h3 => by rw [(SlR.caps hz10).1]; rw [(SlR.caps hz16).1]; rw [(SlR.caps hz22).1]; exact round_Best_w (hz10.row (slE_ok (iE_ok _)) h2 (fun p hp => h3 p (List.mem_append_left _ hp))) (hz16.row (slE_ok (iE_ok _)) h2 (fun p hp => h3 p (List.mem_append_right _ (List.mem_append_left _ hp)))) (hz22.row (prE_ok (slE_ok (iE_ok _)) (prE_ok (iE_ok _) (iE_ok _))) h2 (fun p hp => h3 p (List.mem_append_right _ (List.mem_append_right _ (List.mem_append_left _ hp))))) h25) (fun _ _ _ _ hq => by obtain ⟨a31, n35, c32, Lb33, rfl, rfl, hz34⟩ := hq; exact ⟨_, _, _, _, rfl, rfl, hz34.flat (fun _ _ h => h)⟩) ?_; rintro _ F27 _ hF28 hd30 hn29 ⟨a31, n35, c32, Lb33, rfl, rfl, hz34⟩
 have hn37 := newp (Lb' := []) (by rfl) hd30 hn29
 replace hz34 := hz34.new fun p hp => hn37 p (by simp [hp])
 refine shO_L (lp (ln (lp (lp (lp (ln rfl)))))) ?_
 refine om rfl rfl (ox rfl rfl rfl (ox rfl rfl rfl (ox rfl rfl rfl (oa rfl rfl (oa rfl rfl (oa rfl rfl (nsr ?_)))))))
 obtain ⟨l5, l6, n5, n6, l7, h38, r39⟩ := b5_ok r26; clear r26
 refine o_call0 rfl Try.call34 rfl rfl rfl (oyezlaw03_Three_w h38) ?_; rintro _ F40 _ hF41 hn42 ⟨a44, n48, c45, Lb46, a50, n54, c51, Lb52, a56, n60, c57, Lb58, rfl, rfl, hz47, hz53, hz59⟩
 replace hz34 := hz34.mono (prE_ok (iE_ok _) (iE_ok _)) hF41
 replace hz47 := hz47.new fun p hp => hn42 p (by simp [hp])
 replace hz53 := hz53.new fun p hp => hn42 p (by simp [hp])
 replace hz59 := hz59.new fun p hp => hn42 p (by simp [hp])
 refine shO_L (lp (lp (lp (ln rfl)))) ?_
 refine om rfl rfl ?_
 obtain ⟨l8, n7, h62, r63⟩ := b2_ok r39; clear r39
 refine o_callTO (Lb := []) (Lt := Lb46 ++ (Lb52 ++ (Lb58 ++ (Lb33 ++ [])))) (Lr := Lb9 ++ (Lb15 ++ (Lb21 ++ []))) rfl Try.call23 rfl rfl rfl (pT pR (ln (lp (lp (lp (lp (ln rfl))))))) (fun F2 h2 h3 => by rw [(SlR.caps hz47).1]; rw [(SlR.caps hz53).1]; rw [(SlR.caps hz59).1]; rw [(SlR.caps hz34).1]; exact round_Missed_w (hz47.row (slE_ok (iE_ok _)) h2 (fun p hp => h3 p (List.mem_append_left _ hp))) (hz53.row (slE_ok (iE_ok _)) h2 (fun p hp => h3 p (List.mem_append_right _ (List.mem_append_left _ hp)))) (hz59.row (prE_ok (slE_ok (iE_ok _)) (prE_ok (iE_ok _) (iE_ok _))) h2 (fun p hp => h3 p (List.mem_append_right _ (List.mem_append_right _ (List.mem_append_left _ hp))))) (hz34.row (prE_ok (iE_ok _) (iE_ok _)) h2 (fun p hp => h3 p (List.mem_append_right _ (List.mem_append_right _ (List.mem_append_right _ (List.mem_append_left _ hp)))))) h62) (fun _ _ _ _ hq => by obtain ⟨a68, n72, c69, Lb70, rfl, rfl, hz71⟩ := hq; exact ⟨_, _, _, _, rfl, rfl, hz71.flat (fun _ _ h => h)⟩) ?_; rintro _ F64 _ hF65 hd67 hn66 ⟨a68, n72, c69, Lb70, rfl, rfl, hz71⟩
 have hn74 := newp (Lb' := []) (by rfl) hd67 hn66
 replace hz71 := hz71.new fun p hp => hn74 p (by simp [hp])
 refine shO_L (lp (ln (lp (lp (lp (lp (ln rfl))))))) ?_
 refine om rfl rfl (ox rfl rfl rfl (ox rfl rfl rfl (oa rfl rfl (oa rfl rfl (nsr ?_)))))
 obtain ⟨l9, l10, n8, n9, l11, h75, r76⟩ := b5_ok r63; clear r63
 refine o_call0 rfl Try.call34 rfl rfl rfl (oyezlaw03_Three_w h75) ?_; rintro _ F77 _ hF78 hn79 ⟨a81, n85, c82, Lb83, a87, n91, c88, Lb89, a93, n97, c94, Lb95, rfl, rfl, hz84, hz90, hz96⟩
 replace hz71 := hz71.mono (prE_ok (iE_ok _) (iE_ok _)) hF78
 replace hz84 := hz84.new fun p hp => hn79 p (by simp [hp])
 replace hz90 := hz90.new fun p hp => hn79 p (by simp [hp])
 replace hz96 := hz96.new fun p hp => hn79 p (by simp [hp])
 refine shO_L (lp (lp (lp (ln rfl)))) ?_
 obtain ⟨n10, n11, h99, r100⟩ := b2_ok r76; clear r76
 refine o_callT (Lt := Lb83 ++ (Lb89 ++ (Lb95 ++ []))) (Lr := Lb70 ++ (Lb46 ++ (Lb52 ++ (Lb58 ++ (Lb33 ++ (Lb9 ++ (Lb15 ++ (Lb21 ++ [])))))))) rfl Try.call17 rfl rfl rfl (pT pR (lp (lp (lp (ln rfl))))) (fun F2 h2 h3 => by rw [(SlR.caps hz84).1]; rw [(SlR.caps hz90).1]; rw [(SlR.caps hz96).1]; exact round_Walk_w (hz84.row (slE_ok (iE_ok _)) h2 (fun p hp => h3 p (List.mem_append_left _ hp))) (hz90.row (slE_ok (iE_ok _)) h2 (fun p hp => h3 p (List.mem_append_right _ (List.mem_append_left _ hp)))) (hz96.row (prE_ok (slE_ok (iE_ok _)) (prE_ok (iE_ok _) (iE_ok _))) h2 (fun p hp => h3 p (List.mem_append_right _ (List.mem_append_right _ (List.mem_append_left _ hp))))) h99) ?_
 refine om rfl rfl (ox rfl rfl rfl (ox rfl rfl rfl (oa rfl rfl (oa rfl rfl (nsr ?_)))))
 obtain ⟨l12, l13, n12, n13, l14, h101, r102⟩ := b5_ok r100; clear r100
 refine o_call0 rfl Try.call34 rfl rfl rfl (oyezlaw03_Three_w h101) ?_; rintro _ F103 _ hF104 hn105 ⟨a107, n111, c108, Lb109, a113, n117, c114, Lb115, a119, n123, c120, Lb121, rfl, rfl, hz110, hz116, hz122⟩
 replace hz71 := hz71.mono (prE_ok (iE_ok _) (iE_ok _)) hF104
 replace hz110 := hz110.new fun p hp => hn105 p (by simp [hp])
 replace hz116 := hz116.new fun p hp => hn105 p (by simp [hp])
 replace hz122 := hz122.new fun p hp => hn105 p (by simp [hp])
 refine shO_L (lp (lp (lp (ln rfl)))) ?_
 obtain ⟨l15, n14, h125, r126⟩ := b2_ok r102; clear r102
 refine o_callTO (Lb := []) (Lt := Lb109 ++ (Lb115 ++ (Lb121 ++ []))) (Lr := Lb83 ++ (Lb89 ++ (Lb95 ++ (Lb70 ++ (Lb46 ++ (Lb52 ++ (Lb58 ++ (Lb33 ++ (Lb9 ++ (Lb15 ++ (Lb21 ++ []))))))))))) rfl Try.call10 rfl rfl rfl (pT pR (ln (lp (lp (lp (ln rfl)))))) (fun F2 h2 h3 => by rw [(SlR.caps hz110).1]; rw [(SlR.caps hz116).1]; rw [(SlR.caps hz122).1]; exact round_Before_w (hz110.row (slE_ok (iE_ok _)) h2 (fun p hp => h3 p (List.mem_append_left _ hp))) (hz116.row (slE_ok (iE_ok _)) h2 (fun p hp => h3 p (List.mem_append_right _ (List.mem_append_left _ hp)))) (hz122.row (prE_ok (slE_ok (iE_ok _)) (prE_ok (iE_ok _) (iE_ok _))) h2 (fun p hp => h3 p (List.mem_append_right _ (List.mem_append_right _ (List.mem_append_left _ hp))))) h125) (fun _ _ _ _ hq => by obtain ⟨a131, n135, c132, Lb133, rfl, rfl, hz134⟩ := hq; exact ⟨_, _, _, _, rfl, rfl, hz134.flat (fun _ _ h => h)⟩) ?_; rintro _ F127 _ hF128 hd130 hn129 ⟨a131, n135, c132, Lb133, rfl, rfl, hz134⟩
 replace hz71 := hz71.mono (prE_ok (iE_ok _) (iE_ok _)) hF128
 have hn137 := newp (Lb' := []) (by rfl) hd130 hn129
 replace hz134 := hz134.new fun p hp => hn137 p (by simp [hp])
 refine shO_L (lp (ln (lp (lp (lp (ln rfl)))))) ?_
 refine om rfl rfl (ox rfl rfl rfl (ox rfl rfl rfl (oa rfl rfl (oa rfl rfl (shO_nil (shW_seq ?_))))))
 obtain ⟨k, h138, r139⟩ := b1_ok r126; clear r126
 refine shW_join (fun e1 F1 L1 => FExt F127 F1 ∧ L1 = [] ∧ e1.sub [(71, .bool k)]) ?_ ?_
 · clear r139
   refine shW_region (om rfl rfl ?_)
   refine ov (v_neq rfl rfl) rfl ?_
   refine om rfl rfl ?_
   by_cases c140 : n4 ≠ 0
   · have r141 := ite_t h138 c140; clear h138
     refine shO_off (b' := true) 38 rfl (Env.isT rfl c140) rfl rfl (shO_off (b' := true) 38 rfl (Env.isT rfl c140) rfl rfl ?_)
     refine ov (v_pick_t (evD_true rfl c140) rfl) rfl ?_
     refine om rfl rfl (shO_off (b' := true) 42 rfl rfl rfl rfl (shO_off (b' := true) 42 rfl rfl rfl rfl ?_))
     refine ov (v_pick_t rfl rfl) rfl ?_
     refine om rfl rfl (shO_off (b' := true) 46 rfl rfl rfl rfl (shO_off (b' := true) 46 rfl rfl rfl rfl ?_))
     refine ov (v_pick_t rfl rfl) rfl ?_
     refine om rfl rfl (shO_off (b' := true) 50 rfl rfl rfl rfl (shO_off (b' := true) 50 rfl rfl rfl rfl ?_))
     refine ov (v_pick_t rfl rfl) rfl ?_
     refine om rfl rfl (shO_off (b' := true) 54 rfl rfl rfl rfl (shO_off (b' := true) 54 rfl rfl rfl rfl (shO_off (b' := true) 54 rfl rfl rfl rfl ?_)))
     refine ov (v_pick_t rfl rfl) rfl ?_
     refine om rfl rfl (shO_off (b' := true) 59 rfl rfl rfl rfl (shO_off (b' := true) 59 rfl rfl rfl rfl ?_))
     refine ov (v_pick_t rfl rfl) rfl ?_
     refine om rfl rfl (shO_off (b' := true) 63 rfl rfl rfl rfl (shO_off (b' := true) 63 rfl rfl rfl rfl (shO_off (b' := true) 63 rfl rfl rfl rfl (shO_off (b' := true) 63 rfl rfl rfl rfl (shO_off (b' := true) 63 rfl rfl rfl rfl (shO_off (b' := true) 63 rfl rfl rfl rfl (shO_off (b' := true) 63 rfl rfl rfl rfl ?_)))))))
     refine ov (v_pick_t rfl rfl) rfl ?_
     refine shO_nil ?_
     obtain rfl := inj1 r141
     exact mi kn ⟨FExt.refl _, rfl, (sc rfl (sn _))⟩
   have r142 := ite_f h138 c140; clear h138
   refine shO_on (b := false) 38 rfl (Env.isF rfl c140) (om rfl rfl (shO_on (b := false) 38 rfl (Env.isF rfl c140) ?_))
   refine ov (v_neq rfl rfl) rfl ?_
   refine ov (v_pick_f (evD_false rfl c140) rfl) rfl ?_
   refine om rfl rfl ?_
   by_cases c143 : n7 ≠ 0
   · have r144 := ite_t r142 c143; clear r142
     refine shO_off (b' := true) 42 rfl (Env.isT rfl c143) rfl rfl (shO_off (b' := true) 42 rfl (Env.isT rfl c143) rfl rfl ?_)
     refine ov (v_pick_t (evD_true rfl c143) rfl) rfl ?_
     refine om rfl rfl (shO_off (b' := true) 46 rfl rfl rfl rfl (shO_off (b' := true) 46 rfl rfl rfl rfl ?_))
     refine ov (v_pick_t rfl rfl) rfl ?_
     refine om rfl rfl (shO_off (b' := true) 50 rfl rfl rfl rfl (shO_off (b' := true) 50 rfl rfl rfl rfl ?_))
     refine ov (v_pick_t rfl rfl) rfl ?_
     refine om rfl rfl (shO_off (b' := true) 54 rfl rfl rfl rfl (shO_off (b' := true) 54 rfl rfl rfl rfl (shO_off (b' := true) 54 rfl rfl rfl rfl ?_)))
     refine ov (v_pick_t rfl rfl) rfl ?_
     refine om rfl rfl (shO_off (b' := true) 59 rfl rfl rfl rfl (shO_off (b' := true) 59 rfl rfl rfl rfl ?_))
     refine ov (v_pick_t rfl rfl) rfl ?_
     refine om rfl rfl (shO_off (b' := true) 63 rfl rfl rfl rfl (shO_off (b' := true) 63 rfl rfl rfl rfl (shO_off (b' := true) 63 rfl rfl rfl rfl (shO_off (b' := true) 63 rfl rfl rfl rfl (shO_off (b' := true) 63 rfl rfl rfl rfl (shO_off (b' := true) 63 rfl rfl rfl rfl (shO_off (b' := true) 63 rfl rfl rfl rfl ?_)))))))
     refine ov (v_pick_t rfl rfl) rfl ?_
     refine shO_nil ?_
     obtain rfl := inj1 r144
     exact mi kn ⟨FExt.refl _, rfl, (sc rfl (sn _))⟩
   have r145 := ite_f r142 c143; clear r142
   refine shO_on (b := false) 42 rfl (Env.isF rfl c143) (om rfl rfl (shO_on (b := false) 42 rfl (Env.isF rfl c143) ?_))
   refine ov (v_neq rfl rfl) rfl ?_
   refine ov (v_pick_f (evD_false rfl c143) rfl) rfl ?_
   refine om rfl rfl ?_
   by_cases c146 : n11 ≠ 0
   · have r147 := ite_t r145 c146; clear r145
     refine shO_off (b' := true) 46 rfl (Env.isT rfl c146) rfl rfl (shO_off (b' := true) 46 rfl (Env.isT rfl c146) rfl rfl ?_)
     refine ov (v_pick_t (evD_true rfl c146) rfl) rfl ?_
     refine om rfl rfl (shO_off (b' := true) 50 rfl rfl rfl rfl (shO_off (b' := true) 50 rfl rfl rfl rfl ?_))
     refine ov (v_pick_t rfl rfl) rfl ?_
     refine om rfl rfl (shO_off (b' := true) 54 rfl rfl rfl rfl (shO_off (b' := true) 54 rfl rfl rfl rfl (shO_off (b' := true) 54 rfl rfl rfl rfl ?_)))
     refine ov (v_pick_t rfl rfl) rfl ?_
     refine om rfl rfl (shO_off (b' := true) 59 rfl rfl rfl rfl (shO_off (b' := true) 59 rfl rfl rfl rfl ?_))
     refine ov (v_pick_t rfl rfl) rfl ?_
     refine om rfl rfl (shO_off (b' := true) 63 rfl rfl rfl rfl (shO_off (b' := true) 63 rfl rfl rfl rfl (shO_off (b' := true) 63 rfl rfl rfl rfl (shO_off (b' := true) 63 rfl rfl rfl rfl (shO_off (b' := true) 63 rfl rfl rfl rfl (shO_off (b' := true) 63 rfl rfl rfl rfl (shO_off (b' := true) 63 rfl rfl rfl rfl ?_)))))))
     refine ov (v_pick_t rfl rfl) rfl ?_
     refine shO_nil ?_
     obtain rfl := inj1 r147
     exact mi kn ⟨FExt.refl _, rfl, (sc rfl (sn _))⟩
   have r148 := ite_f r145 c146; clear r145
   refine shO_on (b := false) 46 rfl (Env.isF rfl c146) (om rfl rfl (shO_on (b := false) 46 rfl (Env.isF rfl c146) ?_))
   refine ov (v_neq rfl rfl) rfl ?_
   refine ov (v_pick_f (evD_false rfl c146) rfl) rfl ?_
   refine om rfl rfl ?_
   by_cases c149 : n14 ≠ 0
   · have r150 := ite_t r148 c149; clear r148
     refine shO_off (b' := true) 50 rfl (Env.isT rfl c149) rfl rfl (shO_off (b' := true) 50 rfl (Env.isT rfl c149) rfl rfl ?_)
     refine ov (v_pick_t (evD_true rfl c149) rfl) rfl ?_
     refine om rfl rfl (shO_off (b' := true) 54 rfl rfl rfl rfl (shO_off (b' := true) 54 rfl rfl rfl rfl (shO_off (b' := true) 54 rfl rfl rfl rfl ?_)))
     refine ov (v_pick_t rfl rfl) rfl ?_
     refine om rfl rfl (shO_off (b' := true) 59 rfl rfl rfl rfl (shO_off (b' := true) 59 rfl rfl rfl rfl ?_))
     refine ov (v_pick_t rfl rfl) rfl ?_
     refine om rfl rfl (shO_off (b' := true) 63 rfl rfl rfl rfl (shO_off (b' := true) 63 rfl rfl rfl rfl (shO_off (b' := true) 63 rfl rfl rfl rfl (shO_off (b' := true) 63 rfl rfl rfl rfl (shO_off (b' := true) 63 rfl rfl rfl rfl (shO_off (b' := true) 63 rfl rfl rfl rfl (shO_off (b' := true) 63 rfl rfl rfl rfl ?_)))))))
     refine ov (v_pick_t rfl rfl) rfl ?_
     refine shO_nil ?_
     obtain rfl := inj1 r150
     exact mi kn ⟨FExt.refl _, rfl, (sc rfl (sn _))⟩
   have r151 := ite_f r148 c149; clear r148
   refine shO_on (b := false) 50 rfl (Env.isF rfl c149) (om rfl rfl (shO_on (b := false) 50 rfl (Env.isF rfl c149) ?_))
   refine ov (v_neq rfl rfl) rfl ?_
   refine ov (v_pick_f (evD_false rfl c149) rfl) rfl ?_
   refine om rfl rfl ?_
   by_cases c152 : n3 ≠ 11
   · have r153 := ite_t r151 c152; clear r151
     refine shO_off (b' := true) 54 rfl (Env.isT rfl c152) rfl rfl (shO_off (b' := true) 54 rfl (Env.isT rfl c152) rfl rfl (shO_off (b' := true) 54 rfl (Env.isT rfl c152) rfl rfl ?_))
     refine ov (v_pick_t (evD_true rfl c152) rfl) rfl ?_
     refine om rfl rfl (shO_off (b' := true) 59 rfl rfl rfl rfl (shO_off (b' := true) 59 rfl rfl rfl rfl ?_))
     refine ov (v_pick_t rfl rfl) rfl ?_
     refine om rfl rfl (shO_off (b' := true) 63 rfl rfl rfl rfl (shO_off (b' := true) 63 rfl rfl rfl rfl (shO_off (b' := true) 63 rfl rfl rfl rfl (shO_off (b' := true) 63 rfl rfl rfl rfl (shO_off (b' := true) 63 rfl rfl rfl rfl (shO_off (b' := true) 63 rfl rfl rfl rfl (shO_off (b' := true) 63 rfl rfl rfl rfl ?_)))))))
     refine ov (v_pick_t rfl rfl) rfl ?_
     refine shO_nil ?_
     obtain rfl := inj1 r153
     exact mi kn ⟨FExt.refl _, rfl, (sc rfl (sn _))⟩
   have r154 := ite_f r151 c152; clear r151
   refine shO_on (b := false) 54 rfl (Env.isF rfl c152) (om rfl rfl (shO_on (b := false) 54 rfl (Env.isF rfl c152) ?_))
   refine ov ((v_lenS Try.underlying35 rfl).i (SlR.lenI hz71)) rfl ?_
   refine shO_on (b := false) 54 rfl (Env.isF rfl c152) ?_
   refine ov (v_gtrK rfl rfl) rfl ?_
   refine ov (v_pick_f (evD_false rfl c152) rfl) rfl ?_
   refine om rfl rfl ?_
   by_cases c155 : 0 < (l8.length : Int)
   · have r156 := ite_t r154 c155; clear r154
     refine shO_off (b' := true) 59 rfl (Env.isT rfl c155) rfl rfl (shO_off (b' := true) 59 rfl (Env.isT rfl c155) rfl rfl ?_)
     refine ov (v_pick_t (evD_true rfl c155) rfl) rfl ?_
     refine om rfl rfl (shO_off (b' := true) 63 rfl rfl rfl rfl (shO_off (b' := true) 63 rfl rfl rfl rfl (shO_off (b' := true) 63 rfl rfl rfl rfl (shO_off (b' := true) 63 rfl rfl rfl rfl (shO_off (b' := true) 63 rfl rfl rfl rfl (shO_off (b' := true) 63 rfl rfl rfl rfl (shO_off (b' := true) 63 rfl rfl rfl rfl ?_)))))))
     refine ov (v_pick_t rfl rfl) rfl ?_
     refine shO_nil ?_
     obtain rfl := inj1 r156
     exact mi kn ⟨FExt.refl _, rfl, (sc rfl (sn _))⟩
   have r157 := ite_f r154 c155; clear r154
   refine shO_on (b := false) 59 rfl (Env.isF rfl c155) (om rfl rfl (shO_on (b := false) 59 rfl (Env.isF rfl c155) ?_))
   refine ov (v_neq rfl rfl) rfl ?_
   refine ov (v_pick_f (evD_false rfl c155) rfl) rfl ?_
   refine om rfl rfl ?_
   by_cases c158 : n10 ≠ 4
   · have r159 := ite_t r157 c158; clear r157
     refine shO_off (b' := true) 63 rfl (Env.isT rfl c158) rfl rfl (shO_off (b' := true) 63 rfl (Env.isT rfl c158) rfl rfl (shO_off (b' := true) 63 rfl (Env.isT rfl c158) rfl rfl (shO_off (b' := true) 63 rfl (Env.isT rfl c158) rfl rfl (shO_off (b' := true) 63 rfl (Env.isT rfl c158) rfl rfl (shO_off (b' := true) 63 rfl (Env.isT rfl c158) rfl rfl (shO_off (b' := true) 63 rfl (Env.isT rfl c158) rfl rfl ?_))))))
     refine ov (v_pick_t (evD_true rfl c158) rfl) rfl ?_
     refine shO_nil ?_
     obtain rfl := inj1 r159
     exact mi kn ⟨FExt.refl _, rfl, (sc rfl (sn _))⟩
   have r160 := ite_f r157 c158; clear r157
   refine shO_on (b := false) 63 rfl (Env.isF rfl c158) (om rfl rfl (shO_on (b := false) 63 rfl (Env.isF rfl c158) ?_))
   refine ov (v_build (v := .agg #[.int .i64 0, .int .i64 0]) rfl (by intro w; kernel_rfl)) rfl ?_
   refine shO_on (b := false) 63 rfl (Env.isF rfl c158) ?_
   refine ov (v_build (v := .agg #[.int .i64 0, .int .i64 2]) rfl (by intro w; kernel_rfl)) rfl ?_
   refine shO_on (b := false) 63 rfl (Env.isF rfl c158) ?_
   refine ov (v_build (v := .agg #[.int .i64 1, .int .i64 1]) rfl (by intro w; kernel_rfl)) rfl ?_
   refine shO_on (b := false) 63 rfl (Env.isF rfl c158) ?_
   refine o_buildSlice (cs := #[.int .i64 0, .int .i64 0, .int .i64 0, .int .i64 2, .int .i64 1, .int .i64 1]) rfl rfl (buildSlice_all slt_35 [.agg #[.int .i64 0, .int .i64 0], .agg #[.int .i64 0, .int .i64 2], .agg #[.int .i64 1, .int .i64 1]] rfl (by decide) (by simp [Value.cells]) (by decide)) ?_; intro b161 hb161
   refine shO_on (b := false) 63 rfl (Env.isF rfl c158) ?_
   refine shO_freeze 0 rfl hb161 ?_; intro F162 hF163 hz164
   refine shO_L (L' := Lb133 ++ (Lb109 ++ (Lb115 ++ (Lb121 ++ (Lb83 ++ (Lb89 ++ (Lb95 ++ (Lb70 ++ (Lb46 ++ (Lb52 ++ (Lb58 ++ (Lb33 ++ (Lb9 ++ (Lb15 ++ (Lb21 ++ []))))))))))))))) rfl ?_
   replace hz134 := hz134.mono (prE_ok (iE_ok _) (iE_ok _)) hF163
   have h165 : RowR 2 (prE (iE .i64) (iE .i64)) F162 (some ⟨b161, 0, none⟩) 3 [(0, 0), (0, 2), (1, 1)] := RowR.of_block (prE_ok (iE_ok _) (iE_ok _)) (vss := [[.int .i64 0, .int .i64 0], [.int .i64 0, .int .i64 2], [.int .i64 1, .int .i64 1]]) (xs := [(0, 0), (0, 2), (1, 1)]) hz164 (.cons ⟨_, _, rfl, rfl, rfl⟩ (.cons ⟨_, _, rfl, rfl, rfl⟩ (.cons ⟨_, _, rfl, rfl, rfl⟩ .nil))) rfl (by simp [maxLen])
   obtain ⟨ok, h166, r167⟩ := b1_ok r160; clear r160
   refine o_callT (Lt := Lb133 ++ []) (Lr := Lb109 ++ (Lb115 ++ (Lb121 ++ (Lb83 ++ (Lb89 ++ (Lb95 ++ (Lb70 ++ (Lb46 ++ (Lb52 ++ (Lb58 ++ (Lb33 ++ (Lb9 ++ (Lb15 ++ (Lb21 ++ [])))))))))))))) rfl Try.call35 rfl rfl rfl (pT pR (lp (ln rfl))) (fun F2 h2 h3 => by rw [(SlR.caps hz134).1]; exact oyezkit_Like_Pair_w (hz134.row (prE_ok (iE_ok _) (iE_ok _)) h2 (fun p hp => h3 p (List.mem_append_left _ hp))) (h165.mono (prE_ok (iE_ok _) (iE_ok _)) h2) h166) ?_
   refine shO_on (b := false) 63 rfl (Env.isF rfl c158) ?_
   refine ov (v_notB rfl) rfl ?_
   refine ov (v_pick_f (evD_false rfl c158) rfl) rfl ?_
   refine shO_nil ?_
   obtain rfl := inj1 r167
   exact mi kn ⟨hF163, rfl, (sc rfl (sn _))⟩
 rintro e1 F169 _ ⟨hF170, rfl, he168⟩
 refine shW_env _ he168 ?_; clear he168
 refine shW_cond rfl (fun c171 => ?_) (fun c171 => ?_)
 · have r172 := bt r139 c171; clear r139
   refine wsr (oa rfl rfl (shO_nil (shW_ret (andThen_ret ?_))))
   refine q_res1 Try.results9 (res_tmp rfl) (sr) ?_
   obtain rfl := inj1 r172
   exact rfl
 have r173 := bf r139 c171; clear r139
 refine shW_skip (wsr ?_)
 obtain ⟨l16, l17, n15, n16, l18, h174, r175⟩ := b5_ok r173; clear r173
 refine o_call0 rfl Try.call34 rfl rfl rfl (oyezlaw03_Three_w h174) ?_; rintro _ F176 _ hF177 hn178 ⟨a180, n184, c181, Lb182, a186, n190, c187, Lb188, a192, n196, c193, Lb194, rfl, rfl, hz183, hz189, hz195⟩
 replace hz183 := hz183.new fun p hp => hn178 p (by simp [hp])
 replace hz189 := hz189.new fun p hp => hn178 p (by simp [hp])
 replace hz195 := hz195.new fun p hp => hn178 p (by simp [hp])
 refine shO_L (lp (lp (lp (ln rfl)))) ?_
 obtain ⟨n17, n18, h198, r199⟩ := b2_ok r175; clear r175
 refine o_callT (Lt := Lb182 ++ (Lb188 ++ (Lb194 ++ []))) (Lr := []) rfl Try.call25 rfl rfl rfl (pT pR (lp (lp (lp (ln rfl))))) (fun F2 h2 h3 => by rw [(SlR.caps hz183).1]; rw [(SlR.caps hz189).1]; rw [(SlR.caps hz195).1]; exact round_Hurry_w (hz183.row (slE_ok (iE_ok _)) h2 (fun p hp => h3 p (List.mem_append_left _ hp))) (hz189.row (slE_ok (iE_ok _)) h2 (fun p hp => h3 p (List.mem_append_right _ (List.mem_append_left _ hp)))) (hz195.row (prE_ok (slE_ok (iE_ok _)) (prE_ok (iE_ok _) (iE_ok _))) h2 (fun p hp => h3 p (List.mem_append_right _ (List.mem_append_right _ (List.mem_append_left _ hp))))) h198) ?_
 refine om rfl rfl (ox rfl rfl rfl (ox rfl rfl rfl (oa rfl rfl (oa rfl rfl (nsr ?_)))))
 obtain ⟨l19, l20, n19, n20, l21, h200, r201⟩ := b5_ok r199; clear r199
 refine o_call0 rfl Try.call34 rfl rfl rfl (oyezlaw03_Three_w h200) ?_; rintro _ F202 _ hF203 hn204 ⟨a206, n210, c207, Lb208, a212, n216, c213, Lb214, a218, n222, c219, Lb220, rfl, rfl, hz209, hz215, hz221⟩
 replace hz209 := hz209.new fun p hp => hn204 p (by simp [hp])
 replace hz215 := hz215.new fun p hp => hn204 p (by simp [hp])
 replace hz221 := hz221.new fun p hp => hn204 p (by simp [hp])
 refine shO_L (lp (lp (lp (ln rfl)))) ?_
 refine ov (v_build (v := .agg #[.int .i64 0, .int .i64 2]) rfl (by intro w; kernel_rfl)) rfl ?_
 obtain ⟨n21, n22, h224, r225⟩ := b2_ok r201; clear r201
 refine o_callT (Lt := Lb208 ++ (Lb214 ++ (Lb220 ++ []))) (Lr := Lb182 ++ (Lb188 ++ (Lb194 ++ []))) rfl Try.call15 rfl rfl rfl (pT pR (lp (lp (lp (ln rfl))))) (fun F2 h2 h3 => by rw [(SlR.caps hz209).1]; rw [(SlR.caps hz215).1]; rw [(SlR.caps hz221).1]; exact round_Soonest_w (hz209.row (slE_ok (iE_ok _)) h2 (fun p hp => h3 p (List.mem_append_left _ hp))) (hz215.row (slE_ok (iE_ok _)) h2 (fun p hp => h3 p (List.mem_append_right _ (List.mem_append_left _ hp)))) (hz221.row (prE_ok (slE_ok (iE_ok _)) (prE_ok (iE_ok _) (iE_ok _))) h2 (fun p hp => h3 p (List.mem_append_right _ (List.mem_append_right _ (List.mem_append_left _ hp))))) h224) ?_
 refine om rfl rfl (ox rfl rfl rfl (ox rfl rfl rfl (oa rfl rfl (oa rfl rfl (nsr ?_)))))
 obtain ⟨l22, l23, n23, n24, l24, h226, r227⟩ := b5_ok r225; clear r225
 refine o_call0 rfl Try.call34 rfl rfl rfl (oyezlaw03_Three_w h226) ?_; rintro _ F228 _ hF229 hn230 ⟨a232, n236, c233, Lb234, a238, n242, c239, Lb240, a244, n248, c245, Lb246, rfl, rfl, hz235, hz241, hz247⟩
 replace hz235 := hz235.new fun p hp => hn230 p (by simp [hp])
 replace hz241 := hz241.new fun p hp => hn230 p (by simp [hp])
 replace hz247 := hz247.new fun p hp => hn230 p (by simp [hp])
 refine shO_L (lp (lp (lp (ln rfl)))) ?_
 obtain ⟨l25, n25, n26, h250, r251⟩ := b3_ok r227; clear r227
 refine o_callTO (Lb := []) (Lt := Lb234 ++ (Lb240 ++ (Lb246 ++ []))) (Lr := Lb208 ++ (Lb214 ++ (Lb220 ++ (Lb182 ++ (Lb188 ++ (Lb194 ++ [])))))) rfl Try.call36 rfl rfl rfl (pT pR (ln (lp (lp (lp (ln rfl)))))) (fun F2 h2 h3 => by rw [(SlR.caps hz235).1]; rw [(SlR.caps hz241).1]; rw [(SlR.caps hz247).1]; exact round_Two_w (hz235.row (slE_ok (iE_ok _)) h2 (fun p hp => h3 p (List.mem_append_left _ hp))) (hz241.row (slE_ok (iE_ok _)) h2 (fun p hp => h3 p (List.mem_append_right _ (List.mem_append_left _ hp)))) (hz247.row (prE_ok (slE_ok (iE_ok _)) (prE_ok (iE_ok _) (iE_ok _))) h2 (fun p hp => h3 p (List.mem_append_right _ (List.mem_append_right _ (List.mem_append_left _ hp))))) h250) (fun _ _ _ _ hq => by obtain ⟨a256, n260, c257, Lb258, rfl, rfl, hz259⟩ := hq; exact ⟨_, _, _, _, rfl, rfl, hz259.flat (fun _ _ h => h)⟩) ?_; rintro _ F252 _ hF253 hd255 hn254 ⟨a256, n260, c257, Lb258, rfl, rfl, hz259⟩
 have hn262 := newp (Lb' := []) (by rfl) hd255 hn254
 replace hz259 := hz259.new fun p hp => hn262 p (by simp [hp])
 refine shO_L (lp (ln (lp (lp (lp (ln rfl)))))) ?_
 refine om rfl rfl (ox rfl rfl rfl (ox rfl rfl rfl (ox rfl rfl rfl (oa rfl rfl (oa rfl rfl (oa rfl rfl (nsr (om rfl rfl ?_))))))))
 refine ov (v_eql rfl rfl) rfl ?_
 refine om rfl rfl ?_
 by_cases c263 : n18 = 0
 · have r264 := ite_t r251 c263; clear r251
   refine shO_on (b := true) 91 rfl (Env.isT rfl c263) (om rfl rfl (shO_on (b := true) 91 rfl (Env.isT rfl c263) ?_))
   refine ov (v_eql rfl rfl) rfl ?_
   refine ov (v_pick_t (evD_true rfl c263) rfl) rfl ?_
   refine om rfl rfl ?_
   by_cases c265 : n22 = 0
   · have r266 := ite_t r264 c265; clear r264
     refine shO_on (b := true) 95 rfl (Env.isT rfl c265) (om rfl rfl (shO_on (b := true) 95 rfl (Env.isT rfl c265) ?_))
     refine ov (v_eql rfl rfl) rfl ?_
     refine ov (v_pick_t (evD_true rfl c265) rfl) rfl ?_
     refine om rfl rfl ?_
     by_cases c267 : n26 = 0
     · have r268 := ite_t r266 c267; clear r266
       refine shO_on (b := true) 99 rfl (Env.isT rfl c267) (om rfl rfl (shO_on (b := true) 99 rfl (Env.isT rfl c267) ?_))
       refine ov (v_eql rfl rfl) rfl ?_
       refine ov (v_pick_t (evD_true rfl c267) rfl) rfl ?_
       refine om rfl rfl ?_
       by_cases c269 : n17 = 6
       · have r270 := ite_t r268 c269; clear r268
         refine shO_on (b := true) 103 rfl (Env.isT rfl c269) (om rfl rfl (shO_on (b := true) 103 rfl (Env.isT rfl c269) ?_))
         refine ov (v_eql rfl rfl) rfl ?_
         refine ov (v_pick_t (evD_true rfl c269) rfl) rfl ?_
         refine om rfl rfl ?_
         by_cases c271 : n21 = 7
         · have r272 := ite_t r270 c271; clear r270
           refine shO_on (b := true) 107 rfl (Env.isT rfl c271) (om rfl rfl (shO_on (b := true) 107 rfl (Env.isT rfl c271) ?_))
           refine ov (v_eql rfl rfl) rfl ?_
           refine ov (v_pick_t (evD_true rfl c271) rfl) rfl ?_
           refine om rfl rfl ?_
           by_cases c273 : n25 = 10
           · have r274 := ite_t r272 c273; clear r272
             refine shO_on (b := true) 111 rfl (Env.isT rfl c273) (om rfl rfl (shO_on (b := true) 111 rfl (Env.isT rfl c273) ?_))
             refine o_buildSlice (cs := #[.int .i64 0, .int .i64 1]) rfl rfl (buildSlice_all slt_38 [.int .i64 0, .int .i64 1] rfl (by decide) (by simp [Value.cells]) (by decide)) ?_; intro b275 hb275
             refine shO_on (b := true) 111 rfl (Env.isT rfl c273) ?_
             refine shO_freeze 0 rfl hb275 ?_; intro F276 hF277 hz278
             refine shO_L (L' := Lb258 ++ (Lb234 ++ (Lb240 ++ (Lb246 ++ (Lb208 ++ (Lb214 ++ (Lb220 ++ (Lb182 ++ (Lb188 ++ (Lb194 ++ [])))))))))) rfl ?_
             replace hz259 := hz259.mono (iE_ok _) hF277
             have h279 : RowR 1 (iE .i64) F276 (some ⟨b275, 0, none⟩) 2 [0, 1] := RowR.of_block (iE_ok _) (vss := [[.int .i64 0], [.int .i64 1]]) (xs := [0, 1]) hz278 (.cons rfl (.cons rfl .nil)) rfl (by simp [maxLen])
             obtain ⟨ok2, h280, r281⟩ := b1_ok r274; clear r274
             refine o_callT (Lt := Lb258 ++ []) (Lr := Lb234 ++ (Lb240 ++ (Lb246 ++ (Lb208 ++ (Lb214 ++ (Lb220 ++ (Lb182 ++ (Lb188 ++ (Lb194 ++ []))))))))) rfl Try.call37 rfl rfl rfl (pT pR (lp (ln rfl))) (fun F2 h2 h3 => by rw [(SlR.caps hz259).1]; exact oyezkit_Like_int_w (hz259.row (iE_ok _) h2 (fun p hp => h3 p (List.mem_append_left _ hp))) (h279.mono (iE_ok _) h2) h280) ?_
             refine ov (v_pick_t (evD_true rfl c273) rfl) rfl ?_
             refine oa rfl rfl (shO_nil ?_)
             refine kW kn ?_
             refine shW_ret ?_
             refine q_res1 Try.results9 (res_tmp rfl) (sr) ?_
             obtain rfl := inj1 r281
             exact rfl
           have r282 := ite_f r272 c273; clear r272
           refine shO_off (b' := false) 111 rfl (Env.isF rfl c273) rfl rfl (shO_off (b' := false) 111 rfl (Env.isF rfl c273) rfl rfl (shO_off (b' := false) 111 rfl (Env.isF rfl c273) rfl rfl ?_))
           refine ov (v_pick_f (evD_false rfl c273) rfl) rfl ?_
           refine oa rfl rfl (shO_nil ?_)
           refine kW kn ?_
           refine shW_ret ?_
           refine q_res1 Try.results9 (res_tmp rfl) (sr) ?_
           obtain rfl := inj1 r282
           exact rfl
         have r283 := ite_f r270 c271; clear r270
         refine shO_off (b' := false) 107 rfl (Env.isF rfl c271) rfl rfl (shO_off (b' := false) 107 rfl (Env.isF rfl c271) rfl rfl ?_)
         refine ov (v_pick_f (evD_false rfl c271) rfl) rfl ?_
         refine om rfl rfl (shO_off (b' := false) 111 rfl rfl rfl rfl (shO_off (b' := false) 111 rfl rfl rfl rfl (shO_off (b' := false) 111 rfl rfl rfl rfl ?_)))
         refine ov (v_pick_f rfl rfl) rfl ?_
         refine oa rfl rfl (shO_nil ?_)
         refine kW kn ?_
         refine shW_ret ?_
         refine q_res1 Try.results9 (res_tmp rfl) (sr) ?_
         obtain rfl := inj1 r283
         exact rfl
       have r284 := ite_f r268 c269; clear r268
       refine shO_off (b' := false) 103 rfl (Env.isF rfl c269) rfl rfl (shO_off (b' := false) 103 rfl (Env.isF rfl c269) rfl rfl ?_)
       refine ov (v_pick_f (evD_false rfl c269) rfl) rfl ?_
       refine om rfl rfl (shO_off (b' := false) 107 rfl rfl rfl rfl (shO_off (b' := false) 107 rfl rfl rfl rfl ?_))
       refine ov (v_pick_f rfl rfl) rfl ?_
       refine om rfl rfl (shO_off (b' := false) 111 rfl rfl rfl rfl (shO_off (b' := false) 111 rfl rfl rfl rfl (shO_off (b' := false) 111 rfl rfl rfl rfl ?_)))
       refine ov (v_pick_f rfl rfl) rfl ?_
       refine oa rfl rfl (shO_nil ?_)
       refine kW kn ?_
       refine shW_ret ?_
       refine q_res1 Try.results9 (res_tmp rfl) (sr) ?_
       obtain rfl := inj1 r284
       exact rfl
     have r285 := ite_f r266 c267; clear r266
     refine shO_off (b' := false) 99 rfl (Env.isF rfl c267) rfl rfl (shO_off (b' := false) 99 rfl (Env.isF rfl c267) rfl rfl ?_)
     refine ov (v_pick_f (evD_false rfl c267) rfl) rfl ?_
     refine om rfl rfl (shO_off (b' := false) 103 rfl rfl rfl rfl (shO_off (b' := false) 103 rfl rfl rfl rfl ?_))
     refine ov (v_pick_f rfl rfl) rfl ?_
     refine om rfl rfl (shO_off (b' := false) 107 rfl rfl rfl rfl (shO_off (b' := false) 107 rfl rfl rfl rfl ?_))
     refine ov (v_pick_f rfl rfl) rfl ?_
     refine om rfl rfl (shO_off (b' := false) 111 rfl rfl rfl rfl (shO_off (b' := false) 111 rfl rfl rfl rfl (shO_off (b' := false) 111 rfl rfl rfl rfl ?_)))
     refine ov (v_pick_f rfl rfl) rfl ?_
     refine oa rfl rfl (shO_nil ?_)
     refine kW kn ?_
     refine shW_ret ?_
     refine q_res1 Try.results9 (res_tmp rfl) (sr) ?_
     obtain rfl := inj1 r285
     exact rfl
   have r286 := ite_f r264 c265; clear r264
   refine shO_off (b' := false) 95 rfl (Env.isF rfl c265) rfl rfl (shO_off (b' := false) 95 rfl (Env.isF rfl c265) rfl rfl ?_)
   refine ov (v_pick_f (evD_false rfl c265) rfl) rfl ?_
   refine om rfl rfl (shO_off (b' := false) 99 rfl rfl rfl rfl (shO_off (b' := false) 99 rfl rfl rfl rfl ?_))
   refine ov (v_pick_f rfl rfl) rfl ?_
   refine om rfl rfl (shO_off (b' := false) 103 rfl rfl rfl rfl (shO_off (b' := false) 103 rfl rfl rfl rfl ?_))
   refine ov (v_pick_f rfl rfl) rfl ?_
   refine om rfl rfl (shO_off (b' := false) 107 rfl rfl rfl rfl (shO_off (b' := false) 107 rfl rfl rfl rfl ?_))
   refine ov (v_pick_f rfl rfl) rfl ?_
   refine om rfl rfl (shO_off (b' := false) 111 rfl rfl rfl rfl (shO_off (b' := false) 111 rfl rfl rfl rfl (shO_off (b' := false) 111 rfl rfl rfl rfl ?_)))
   refine ov (v_pick_f rfl rfl) rfl ?_
   refine oa rfl rfl (shO_nil ?_)
   refine kW kn ?_
   refine shW_ret ?_
   refine q_res1 Try.results9 (res_tmp rfl) (sr) ?_
   obtain rfl := inj1 r286
   exact rfl
 have r287 := ite_f r251 c263; clear r251
 refine shO_off (b' := false) 91 rfl (Env.isF rfl c263) rfl rfl (shO_off (b' := false) 91 rfl (Env.isF rfl c263) rfl rfl ?_)
 refine ov (v_pick_f (evD_false rfl c263) rfl) rfl ?_
 refine om rfl rfl (shO_off (b' := false) 95 rfl rfl rfl rfl (shO_off (b' := false) 95 rfl rfl rfl rfl ?_))
 refine ov (v_pick_f rfl rfl) rfl ?_
 refine om rfl rfl (shO_off (b' := false) 99 rfl rfl rfl rfl (shO_off (b' := false) 99 rfl rfl rfl rfl ?_))
 refine ov (v_pick_f rfl rfl) rfl ?_
 refine om rfl rfl (shO_off (b' := false) 103 rfl rfl rfl rfl (shO_off (b' := false) 103 rfl rfl rfl rfl ?_))
 refine ov (v_pick_f rfl rfl) rfl ?_
 refine om rfl rfl (shO_off (b' := false) 107 rfl rfl rfl rfl (shO_off (b' := false) 107 rfl rfl rfl rfl ?_))
 refine ov (v_pick_f rfl rfl) rfl ?_
 refine om rfl rfl (shO_off (b' := false) 111 rfl rfl rfl rfl (shO_off (b' := false) 111 rfl rfl rfl rfl (shO_off (b' := false) 111 rfl rfl rfl rfl ?_)))
 refine ov (v_pick_f rfl rfl) rfl ?_
 refine oa rfl rfl (shO_nil ?_)
 refine kW kn ?_
 refine shW_ret ?_
 refine q_res1 Try.results9 (res_tmp rfl) (sr) ?_
 obtain rfl := inj1 r287
 exact rfl
set_option maxHeartbeats 1000000 in
theorem round_Together_w {walks_a : Option Addr} {walks_c : Nat} {walks : List (List Int)} {hears_a : Option Addr} {hears_c : Nat} {hears : List (List Int)} {houses : Int} {start : Int} {notices_a : Option Addr} {notices_c : Nat} {notices : List ((List Int) × Int × Int)} {pairs_a : Option Addr} {pairs_c : Nat} {pairs : List (Int × Int)} {F : FS} (h_walks : RowR 1 (slE 1 (iE .i64)) F walks_a walks_c walks) (h_hears : RowR 1 (slE 1 (iE .i64)) F hears_a hears_c hears) (h_notices : RowR 3 (prE (slE 1 (iE .i64)) (prE (iE .i64) (iE .i64))) F notices_a notices_c notices) (h_pairs : RowR 2 (prE (iE .i64) (iE .i64)) F pairs_a pairs_c pairs) {r : Bool} {r2 : Int} (hr : round_Together walks hears houses start notices pairs = some (r, r2)) :
    SpecV Try.prog 12 #[.agg #[.slice walks_a walks.length walks_c, .slice hears_a hears.length hears_c, .int .i64 houses, .int .i64 start, .slice notices_a notices.length notices_c], .slice pairs_a pairs.length pairs_c] F (.tuple #[.bool r, .int .i64 r2]) := by
 refine spec_of_shW (args := [.agg #[.slice walks_a walks.length walks_c, .slice hears_a hears.length hears_c, .int .i64 houses, .int .i64 start, .slice notices_a notices.length notices_c], .slice pairs_a pairs.length pairs_c]) Try.func12 rfl Try.ntmps12 (Nat.le_of_ble_eq_true rfl) ?_
 intro K _ _; rw [round_Together] at hr
 refine wsr ?_
 refine o_box rfl rfl ?_; intro b1 hb1
 refine oa rfl rfl (oa rfl rfl (nsr ?_))
 refine ov (v_loadA (cs := #[.slice walks_a walks.length walks_c, .slice hears_a hears.length hears_c, .int .i64 houses, .int .i64 start, .slice notices_a notices.length notices_c]) Try.isAgg26 Try.sizeOf26 rfl (Has.own 0 rfl) (Nat.le_of_ble_eq_true rfl) rfl) rfl ?_
 obtain ⟨d, n, h2, r3⟩ := b2_ok hr; clear hr
 refine o_call0 rfl Try.call30 rfl rfl rfl (round_opened_w h_walks h_hears h_notices h2) ?_; rintro _ F4 _ hF5 hn6 ⟨v8, rfl, rfl, hp9⟩
 replace h_pairs := h_pairs.mono (prE_ok (iE_ok _) (iE_ok _)) hF5
 refine shO_L (ln rfl) ?_
 refine om rfl rfl (ox rfl rfl rfl (ox rfl rfl rfl (oa rfl rfl (oa rfl rfl (shO_nil (shW_seq (wsr (om rfl rfl ?_))))))))
 refine ov (v_neq rfl rfl) rfl ?_
 refine shO_nil ?_
 refine shW_condP rfl (fun c10 => ?_) (fun c10 => ?_)
 · have r11 := ite_t r3 c10; clear r3
   refine wsr (om rfl rfl (oa rfl rfl (oa rfl rfl (shO_nil ?_))))
   refine kW kn ?_
   refine shW_ret (andThen_ret ?_)
   refine q_res2 Try.results12 (res_tmp rfl) (res_tmp rfl) (sr) ?_
   obtain ⟨rfl, rfl⟩ := inj2 r11
   exact rfl
 have r12 := ite_f r3 c10; clear r3
 refine shW_skip (wsr (oa rfl rfl (shO_nil ?_)))
 refine shW_join (fun e1 F1 L1 => ∃ (set_ : Int) (v13 : Value), round_Together_j1 d set_ = some (r, r2) ∧ F4 = F1 ∧ L1 = [] ∧ e1.sub [(6, v13), (8, .int .i64 set_)] ∧ PtrR 101 (prE (slE 1 (slE 1 (iE .i64))) (prE (slE 1 (slE 1 (iE .i64))) (prE (iE .i64) (prE (iE .i64) (prE (slE 3 (prE (slE 1 (iE .i64)) (prE (iE .i64) (iE .i64)))) (prE (arE 25 (cI .i64)) (prE (slE 2 (prE (iE .i64) (iE .i64))) (arE 15 (cI .i64))))))))) F1 v13 d) ?_ ?_
 · refine wsr (om rfl rfl ?_)
   refine ov (v_lenS Try.underlying35 rfl) rfl ?_
   refine om rfl rfl (shO_nil ?_)
   refine shW_block ?_
   refine kW kn ?_
   refine shW_lp (fun fu2 e1 F1 L1 => ∃ (tl : List (Int × Int)) (k : Int), tl.length = fu2 ∧ Lst pairs k tl ∧ ∃ (set_2 : Int) (v15 : Value), round_Together_l2 d tl set_2 = some (r, r2) ∧ F4 = F1 ∧ L1 = [] ∧ e1.sub [(6, v15), (8, .int .i64 set_2), (23, .slice pairs_a pairs.length pairs_c), (24, .int .i64 (pairs.length : Int)), (25, .int .i64 k)] ∧ PtrR 101 (prE (slE 1 (slE 1 (iE .i64))) (prE (slE 1 (slE 1 (iE .i64))) (prE (iE .i64) (prE (iE .i64) (prE (slE 3 (prE (slE 1 (iE .i64)) (prE (iE .i64) (iE .i64)))) (prE (arE 25 (cI .i64)) (prE (slE 2 (prE (iE .i64) (iE .i64))) (arE 15 (cI .i64))))))))) F1 v15 d) _ (m0 kr ⟨_, _, rfl, Lst.start _, 0, v8, r12, rfl, rfl, (sc rfl (sc rfl (sc rfl (sc rfl (sc rfl (sn _)))))), hp9⟩) ?_
   rintro fu2 e1 _ _ ⟨tl, k, hn18, hk17, set_2, v15, r19, rfl, rfl, he20, hp16⟩
   refine shW_env _ he20 ?_; clear he20
   refine wsr ?_
   refine ov (v_lssK rfl rfl) rfl ?_
   refine shO_nil (shW_seq ?_)
   refine shW_condP rfl (fun c22 => ?_) (fun c22 => ?_)
   · obtain ⟨x, tl2, rfl, hx24, g25, hk23⟩ := Lst.succ hk17 c22
     rw [round_Together_l2] at r19
     refine shW_skip (shW_seq ?_)
     refine shW_block ?_
     refine wsr ?_
     obtain ⟨b26, o27, c28, vs29, ha30, hs31, hle32, ⟨_, _, rfl, rfl, rfl⟩, hl33, hc34⟩ := RowR.at (prE_ok (iE_ok _) (iE_ok _)) h_pairs ([]) g25.1 hx24
     refine ov (v_indexO Try.underlying35 Try.sizeOf48 rfl ha30 rfl g25) rfl ?_
     refine ov (v_loadA (cs := #[.int .i64 x.1, .int .i64 x.2]) Try.isAgg48 Try.sizeOf48 rfl hs31 hle32 (extract_cells hle32 hl33 hc34)) rfl ?_
     refine o_alloc rfl Try.zeroValue48 ?_; intro b35 hb35
     refine o_storeA (i := 0) Try.sizeOf48 rfl rfl rfl (by simp [Value.oneCell']) rfl (Nat.le_of_ble_eq_true rfl) ?_
     refine shO_L (L' := [(b35, .cells #[.int .i64 x.1, .int .i64 x.2] 48 (0, 0))]) rfl ?_
     refine nsr (om rfl rfl ?_)
     refine ov (v_loadA (cs := #[.int .i64 x.1, .int .i64 x.2]) Try.isAgg48 Try.sizeOf48 rfl (Has.own 0 rfl) (Nat.le_of_ble_eq_true rfl) rfl) rfl ?_
     obtain ⟨walks2, hears2, houses2, start2, notices2, walks3, pairs2, hit, h36, r37⟩ := b8_ok r19; clear r19
     have h57 := hp16; rw [h36] at h57; obtain ⟨b38, c39, m40, hv41, hz42, ⟨_, _, rfl, ⟨a43, c44, rfl, h45⟩, ⟨_, _, rfl, ⟨a46, c47, rfl, h48⟩, ⟨_, _, rfl, rfl, ⟨_, _, rfl, rfl, ⟨_, _, rfl, ⟨a49, c50, rfl, h51⟩, ⟨_, _, rfl, ⟨rfl, h52⟩, ⟨_, _, rfl, ⟨a53, c54, rfl, h55⟩, ⟨rfl, h56⟩⟩⟩⟩⟩⟩⟩⟩⟩ := h57; subst hv41
     have hz42 : F4 b38 = some (.cells ((([.slice a43 walks2.length c44] : List Value) ++ (([.slice a46 hears2.length c47] : List Value) ++ (([.int .i64 houses2] : List Value) ++ (([.int .i64 start2] : List Value) ++ (([.slice a49 notices2.length c50] : List Value) ++ (walks3.flatMap (cI .i64) ++ (([.slice a53 pairs2.length c54] : List Value) ++ (hit.flatMap (cI .i64))))))))).toArray) 101 m40) := hz42
     obtain ⟨n2, h58, r59⟩ := b1_ok r37; clear r37
     refine o_callV rfl Try.call45 rfl rfl rfl (round_crier_index_w hz42 h45 h48 h51 h52 h55 h56 h58) ?_
     refine oa rfl rfl (shO_nil (shW_seq ?_))
     refine shW_block ?_
     refine wsr (om rfl rfl ?_)
     refine ov (v_lssK rfl rfl) rfl ?_
     refine oa rfl rfl (shO_nil ?_)
     refine shW_condP rfl (fun c60 => ?_) (fun c60 => ?_)
     · have r61 := ite_t r59 c60; clear r59
       refine wsr (oa rfl rfl (oa rfl rfl (shO_nil ?_)))
       refine kW kn ?_
       refine shW_ret (inBlock_ret (andThen_ret (inBlock_ret (andThen_ret (andThen_ret (inBlock_ret (andThen_ret ?_)))))))
       refine q_res2 Try.results12 (res_tmp rfl) (res_tmp rfl) (sr) ?_
       obtain ⟨rfl, rfl⟩ := inj2 r61
       exact rfl
     have r62 := ite_f r59 c60; clear r59
     refine wsr (om rfl rfl (om rfl rfl ?_))
     obtain ⟨g63, r64⟩ := gd_ok r62; clear r62
     refine ov (v_shr rfl rfl g63) rfl ?_
     refine ov (v_and rfl rfl) rfl ?_
     refine ov (v_eql rfl rfl) rfl ?_
     refine oa rfl rfl (shO_nil ?_)
     refine shW_condP rfl (fun c65 => ?_) (fun c65 => ?_)
     · have r66 := ite_t r64 c65; clear r64
       refine wsr (oa rfl rfl (oa rfl rfl (shO_nil ?_)))
       refine kW kn ?_
       refine shW_ret (inBlock_ret (andThen_ret (inBlock_ret (andThen_ret (andThen_ret (inBlock_ret (andThen_ret ?_)))))))
       refine q_res2 Try.results12 (res_tmp rfl) (res_tmp rfl) (sr) ?_
       obtain ⟨rfl, rfl⟩ := inj2 r66
       exact rfl
     have r67 := ite_f r64 c65; clear r64
     refine shW_skip (inBlock_n (id := 2) (shW_region (om rfl rfl (om rfl rfl ?_))))
     obtain ⟨g68, r69⟩ := gd_ok r67; clear r67
     refine ov (v_shl rfl rfl g68) rfl ?_
     refine ov (v_or rfl rfl) rfl ?_
     refine oa rfl rfl (shO_nil (inBlock_n (id := 1) (shW_region ?_)))
     refine ov (v_add rfl rfl (Lst.r64 hk17 c22 (RowR.lt h_pairs))) rfl ?_
     refine om rfl rfl (shO_nil ?_)
     subst hn18; exact le kn ⟨_, _, rfl, hk23, bor set_2 (shl 1 n2), .pointer (some ⟨b38, 0, none⟩), r69, rfl, rfl, (sc rfl (sc rfl (sc rfl (sc rfl (sc rfl (sn _)))))), hp16⟩
   obtain rfl := Lst.zero hk17 c22
   rw [round_Together_l2] at r19
   refine shW_exit (andThen_exit (andThen_exit ?_))
   refine inBlock_exit ?_
   exact mi kr ⟨set_2, v15, r19, rfl, rfl, (sc rfl (sc rfl (sn _))), hp16⟩
 rintro e1 _ _ ⟨set_, v13, r70, rfl, rfl, he71, hp14⟩
 refine shW_env _ he71 ?_; clear he71
 rw [round_Together_j1] at r70
 refine wsr (om rfl rfl (om rfl rfl (om rfl rfl ?_)))
 obtain ⟨walks4, hears3, houses3, start3, notices3, walks5, pairs3, hit2, h72, r73⟩ := b8_ok r70; clear r70
 have h93 := hp14; rw [h72] at h93; obtain ⟨b74, c75, m76, hv77, hz78, ⟨_, _, rfl, ⟨a79, c80, rfl, h81⟩, ⟨_, _, rfl, ⟨a82, c83, rfl, h84⟩, ⟨_, _, rfl, rfl, ⟨_, _, rfl, rfl, ⟨_, _, rfl, ⟨a85, c86, rfl, h87⟩, ⟨_, _, rfl, ⟨rfl, h88⟩, ⟨_, _, rfl, ⟨a89, c90, rfl, h91⟩, ⟨rfl, h92⟩⟩⟩⟩⟩⟩⟩⟩⟩ := h93; subst hv77
 have hz78 : F4 b74 = some (.cells ((([.slice a79 walks4.length c80] : List Value) ++ (([.slice a82 hears3.length c83] : List Value) ++ (([.int .i64 houses3] : List Value) ++ (([.int .i64 start3] : List Value) ++ (([.slice a85 notices3.length c86] : List Value) ++ (walks5.flatMap (cI .i64) ++ (([.slice a89 pairs3.length c90] : List Value) ++ (hit2.flatMap (cI .i64))))))))).toArray) 101 m76) := hz78
 obtain ⟨y, h94, r95⟩ := b1_ok r73; clear r73
 refine o_call0 rfl Try.call33 rfl rfl rfl (round_crier_hours_w hz78 h81 h84 h87 h88 h91 h92 h94) ?_; rintro _ F96 _ hF97 hn98 ⟨fi100, fc101, cp102, rfl, rfl, hit103⟩
 replace h81 := h81.mono (slE_ok (iE_ok _)) hF97
 replace h84 := h84.mono (slE_ok (iE_ok _)) hF97
 replace h87 := h87.mono (prE_ok (slE_ok (iE_ok _)) (prE_ok (iE_ok _) (iE_ok _))) hF97
 replace h91 := h91.mono (prE_ok (iE_ok _) (iE_ok _)) hF97
 replace hz78 := hF97 _ _ hz78
 refine shO_L (ln rfl) ?_
 obtain ⟨l, n3, ok, h104, r105⟩ := b3_ok r95; clear r95
 refine o_call0 rfl Try.call31 rfl rfl rfl (round_crier_serve_w hz78 h81 h84 h87 h88 h91 h92 hit103 h104) ?_; rintro _ F106 _ hF107 hn108 ⟨a110, n114, c111, Lb112, rfl, rfl, hz113⟩
 refine shO_L (lp (ln rfl)) ?_
 refine om rfl rfl (ox rfl rfl rfl (ox rfl rfl rfl (ox rfl rfl rfl (oa rfl rfl (oa rfl rfl (oa rfl rfl (nsr (om rfl rfl (oa rfl rfl ?_)))))))))
 refine oa rfl rfl (shO_nil ?_)
 refine kW kn ?_
 refine shW_ret ?_
 refine q_res2 Try.results12 (res_tmp rfl) (res_tmp rfl) (sr) ?_
 obtain ⟨rfl, rfl⟩ := inj2 r105
 exact rfl
set_option maxHeartbeats 1000000 in
theorem round_Lost_w {walks_a : Option Addr} {walks_c : Nat} {walks : List (List Int)} {hears_a : Option Addr} {hears_c : Nat} {hears : List (List Int)} {houses : Int} {start : Int} {notices_a : Option Addr} {notices_c : Nat} {notices : List ((List Int) × Int × Int)} {F : FS} (h_walks : RowR 1 (slE 1 (iE .i64)) F walks_a walks_c walks) (h_hears : RowR 1 (slE 1 (iE .i64)) F hears_a hears_c hears) (h_notices : RowR 3 (prE (slE 1 (iE .i64)) (prE (iE .i64) (iE .i64))) F notices_a notices_c notices) {r : List (Int × Int)} {r2 : Int} (hr : round_Lost walks hears houses start notices = some (r, r2)) :
    SH.Spec Try.prog 13 #[.agg #[.slice walks_a walks.length walks_c, .slice hears_a hears.length hears_c, .int .i64 houses, .int .i64 start, .slice notices_a notices.length notices_c]] F [] fun F' L' v => ∃ (ra : Option Addr) (rn : Nat) (rc : Nat) (rL : LH), v = .tuple #[.slice ra rn rc, .int .i64 r2] ∧ L' = rL ++ [] ∧ SlR 0 48 2 (prE (iE .i64) (iE .i64)) F' ra rn rc r rL := by
 refine spec_of_shW (args := [.agg #[.slice walks_a walks.length walks_c, .slice hears_a hears.length hears_c, .int .i64 houses, .int .i64 start, .slice notices_a notices.length notices_c]]) Try.func13 rfl Try.ntmps13 (Nat.le_of_ble_eq_true rfl) ?_
 intro K _ _; rw [round_Lost] at hr
 refine wsr ?_
 refine o_box rfl rfl ?_; intro b1 hb1
 refine oa rfl rfl (oa rfl rfl (nsr ?_))
 refine ov (v_loadA (cs := #[.slice walks_a walks.length walks_c, .slice hears_a hears.length hears_c, .int .i64 houses, .int .i64 start, .slice notices_a notices.length notices_c]) Try.isAgg26 Try.sizeOf26 rfl (Has.own 0 rfl) (Nat.le_of_ble_eq_true rfl) rfl) rfl ?_
 obtain ⟨d, n, h2, r3⟩ := b2_ok hr; clear hr
 refine o_call0 rfl Try.call30 rfl rfl rfl (round_opened_w h_walks h_hears h_notices h2) ?_; rintro _ F4 _ hF5 hn6 ⟨v8, rfl, rfl, hp9⟩
 replace h_notices := h_notices.mono (prE_ok (slE_ok (iE_ok _)) (prE_ok (iE_ok _) (iE_ok _))) hF5
 refine shO_L (ln rfl) ?_
 refine om rfl rfl (ox rfl rfl rfl (ox rfl rfl rfl (oa rfl rfl (oa rfl rfl (shO_nil (shW_seq (wsr (om rfl rfl ?_))))))))
 refine ov (v_neq rfl rfl) rfl ?_
 refine shO_nil ?_
 refine shW_condP rfl (fun c10 => ?_) (fun c10 => ?_)
 · have r11 := ite_t r3 c10; clear r3
   refine wsr (om rfl rfl (oa rfl rfl (oa rfl rfl (shO_nil ?_))))
   refine kW kn ?_
   refine shW_ret (andThen_ret ?_)
   refine q_res2 Try.results13 (res_tmp rfl) (res_tmp rfl) (sr) ?_
   obtain ⟨rfl, rfl⟩ := inj2 r11
   exact ⟨_, _, _, [], rfl, rfl, SlR.nil _ _ _ _ _⟩
 have r12 := ite_f r3 c10; clear r3
 refine shW_skip (wsr (oa rfl rfl (shO_nil ?_)))
 obtain ⟨out, h19, r20⟩ := b1_ok r12; clear r12
 refine shW_join (fun e1 F1 L1 => ∃ (a13 : Option Addr) (n17 : Nat) (c14 : Nat) (Lb15 : LH), F4 = F1 ∧ L1 = (Lb15 ++ []) ∧ e1.sub [(6, .slice a13 n17 c14)] ∧ SlR K.w0.heap.size 48 2 (prE (iE .i64) (iE .i64)) F1 a13 n17 c14 out Lb15) ?_ ?_
 · clear r20
   refine wsr (om rfl rfl ?_)
   obtain ⟨walks2, hears2, houses2, start2, notices2, walks3, pairs, hit, h21, r22⟩ := b8_ok h19; clear h19
   have h42 := hp9; rw [h21] at h42; obtain ⟨b23, c24, m25, hv26, hz27, ⟨_, _, rfl, ⟨a28, c29, rfl, h30⟩, ⟨_, _, rfl, ⟨a31, c32, rfl, h33⟩, ⟨_, _, rfl, rfl, ⟨_, _, rfl, rfl, ⟨_, _, rfl, ⟨a34, c35, rfl, h36⟩, ⟨_, _, rfl, ⟨rfl, h37⟩, ⟨_, _, rfl, ⟨a38, c39, rfl, h40⟩, ⟨rfl, h41⟩⟩⟩⟩⟩⟩⟩⟩⟩ := h42; subst hv26
   have hz27 : F4 b23 = some (.cells ((([.slice a28 walks2.length c29] : List Value) ++ (([.slice a31 hears2.length c32] : List Value) ++ (([.int .i64 houses2] : List Value) ++ (([.int .i64 start2] : List Value) ++ (([.slice a34 notices2.length c35] : List Value) ++ (walks3.flatMap (cI .i64) ++ (([.slice a38 pairs.length c39] : List Value) ++ (hit.flatMap (cI .i64))))))))).toArray) 101 m25) := hz27
   refine ov (v_nilCheck rfl) rfl ?_
   refine ov (v_fieldAddr fa_101_2 rfl) rfl ?_
   refine ov (v_load Try.isAgg35 rfl (Has.frozen hz27) (li_cell (li_skip (A := ([.slice a28 walks2.length c29] : List Value)) (k := 1) (o := 29) rfl (li_skip (A := ([.slice a31 hears2.length c32] : List Value)) (k := 1) (o := 28) rfl (li_skip (A := ([.int .i64 houses2] : List Value)) (k := 1) (o := 27) rfl (li_skip (A := ([.int .i64 start2] : List Value)) (k := 1) (o := 26) rfl (li_skip (A := ([.slice a34 notices2.length c35] : List Value)) (k := 1) (o := 25) rfl (li_skip (A := walks3.flatMap (cI .i64)) (k := 25) (o := 0) (lfl (cI_ok .i64) h37) (li_here (B := hit.flatMap (cI .i64)) rfl))))))))) rfl ?_
   refine ov (v_lenS Try.underlying35 rfl) rfl ?_
   refine om rfl rfl (shO_nil ?_)
   refine shW_block ?_
   refine shW_lp (fun fu1 e1 F1 L1 => ∃ (tl : List (Int × Int)) (k : Int), tl.length = fu1 ∧ Lst pairs k tl ∧ ∃ (out2 : List (Int × Int)) (a43 : Option Addr) (n47 : Nat) (c44 : Nat) (Lb45 : LH), round_Lost_l1 notices walks2 hears2 houses2 start2 notices2 walks3 pairs hit tl out2 = some out ∧ F4 = F1 ∧ L1 = ((b1, .cells #[.slice walks_a walks.length walks_c, .slice hears_a hears.length hears_c, .int .i64 houses, .int .i64 start, .slice notices_a notices.length notices_c] 26 (0, 0)) :: (Lb45 ++ [])) ∧ e1.sub [(1, .pointer (some ⟨b1, 0, none⟩)), (4, .pointer (some ⟨b23, 0, none⟩)), (6, .slice a43 n47 c44), (20, .slice a38 pairs.length c39), (21, .int .i64 (pairs.length : Int)), (22, .int .i64 k)] ∧ SlR K.w0.heap.size 48 2 (prE (iE .i64) (iE .i64)) F1 a43 n47 c44 out2 Lb45) _ (m0 (kc (ke kr)) ⟨_, _, rfl, Lst.start _, [], none, 0, 0, [], r22, rfl, rfl, (sc rfl (sc rfl (sc rfl (sc rfl (sc rfl (sc rfl (sn _))))))), SlR.nil _ _ _ _ _⟩) ?_
   rintro fu1 e1 _ _ ⟨tl, k, hn50, hk49, out2, a43, n47, c44, Lb45, r51, rfl, rfl, he52, hz46⟩
   refine shW_env _ he52 ?_; clear he52
   refine wsr ?_
   refine ov (v_lssK rfl rfl) rfl ?_
   refine shO_nil (shW_seq ?_)
   refine shW_condP rfl (fun c54 => ?_) (fun c54 => ?_)
   · obtain ⟨x, tl2, rfl, hx56, g57, hk55⟩ := Lst.succ hk49 c54
     rw [round_Lost_l1] at r51
     refine shW_skip (shW_seq ?_)
     refine shW_block ?_
     refine wsr ?_
     obtain ⟨b58, o59, c60, vs61, ha62, hs63, hle64, ⟨_, _, rfl, rfl, rfl⟩, hl65, hc66⟩ := RowR.at (prE_ok (iE_ok _) (iE_ok _)) h40 ((b1, .cells #[.slice walks_a walks.length walks_c, .slice hears_a hears.length hears_c, .int .i64 houses, .int .i64 start, .slice notices_a notices.length notices_c] 26 (0, 0)) :: (Lb45 ++ [])) g57.1 hx56
     refine ov (v_indexO Try.underlying35 Try.sizeOf48 rfl ha62 rfl g57) rfl ?_
     refine ov (v_loadA (cs := #[.int .i64 x.1, .int .i64 x.2]) Try.isAgg48 Try.sizeOf48 rfl hs63 hle64 (extract_cells hle64 hl65 hc66)) rfl ?_
     refine o_alloc rfl Try.zeroValue48 ?_; intro b67 hb67
     refine o_storeA (i := 0) Try.sizeOf48 rfl rfl rfl (by simp [Value.oneCell']) rfl (Nat.le_of_ble_eq_true rfl) ?_
     refine shO_L (L' := (b67, .cells #[.int .i64 x.1, .int .i64 x.2] 48 (0, 0)) :: ((b1, .cells #[.slice walks_a walks.length walks_c, .slice hears_a hears.length hears_c, .int .i64 houses, .int .i64 start, .slice notices_a notices.length notices_c] 26 (0, 0)) :: (Lb45 ++ []))) rfl ?_
     refine nsd (by kernel_rfl) (by kernel_rfl) (by kernel_rfl) ?_
     refine qm rfl rfl ?_
     refine qv (v_loadA (cs := #[.int .i64 x.1, .int .i64 x.2]) Try.isAgg48 Try.sizeOf48 rfl (Has.own 0 rfl) (Nat.le_of_ble_eq_true rfl) rfl) rfl ?_
     obtain ⟨n2, h68, r69⟩ := b1_ok r51; clear r51
     refine shQ_callV rfl Try.call46 rfl rfl rfl (round_crier_first_w hz27 h30 h33 h36 h37 h40 h41 h68) ?_
     refine qv (v_fieldAddr fa_26_4 rfl) rfl ?_
     refine qv (v_load Try.isAgg24 rfl (Has.own 1 rfl) rfl) rfl ?_
     refine qv (v_fieldAddr fa_48_0 rfl) rfl ?_
     refine qv (v_load Try.isAgg3 rfl (Has.own 0 rfl) rfl) rfl ?_
     obtain ⟨x2, g70, hx71, r72⟩ := ix_ok r69; clear r69
     obtain ⟨b73, o74, c75, vs76, ha77, hs78, hle79, ⟨_, _, rfl, ⟨a82, c83, rfl, h84⟩, ⟨_, _, rfl, rfl, rfl⟩⟩, hl80, hc81⟩ := RowR.at (prE_ok (slE_ok (iE_ok _)) (prE_ok (iE_ok _) (iE_ok _))) h_notices ((b67, .cells #[.int .i64 x.1, .int .i64 x.2] 48 (0, 0)) :: ((b1, .cells #[.slice walks_a walks.length walks_c, .slice hears_a hears.length hears_c, .int .i64 houses, .int .i64 start, .slice notices_a notices.length notices_c] 26 (0, 0)) :: (Lb45 ++ []))) g70.1 hx71
     refine qv (v_indexO Try.underlying24 Try.sizeOf40 rfl ha77 rfl g70) rfl ?_
     refine qv (v_fieldAddr fa_40_2 rfl) rfl ?_
     refine qv (v_load Try.isAgg3 rfl hs78 (hc81 2 (by decide))) rfl ?_
     obtain ⟨ok, h85, r86⟩ := b1_ok r72; clear r72
     refine shQ_callV rfl Try.call38 rfl rfl rfl (round_in_w h85) ?_
     refine qv (v_notB rfl) rfl ?_
     refine shQ_nil ?_
     refine shW_cond rfl (fun c87 => ?_) (fun c87 => ?_)
     · have r88 := bt r86 c87; clear r86
       refine shW_region (om rfl rfl ?_)
       refine ov (v_loadA (cs := #[.int .i64 x.1, .int .i64 x.2]) Try.isAgg48 Try.sizeOf48 rfl (Has.own 0 rfl) (Nat.le_of_ble_eq_true rfl) rfl) rfl ?_
       refine o_buildSlice (cs := #[.int .i64 x.1, .int .i64 x.2]) rfl rfl (buildSlice_all slt_35 [.agg #[.int .i64 x.1, .int .i64 x.2]] rfl (by decide) (by simp [Value.cells]) (by decide)) ?_; intro b89 hb89
       obtain ⟨out3, h90, g91, r92⟩ := ap_ok r88; clear r88
       refine o_appZ (xs := out2) (ys := [(x.1, x.2)]) (zs := out3) rfl slt_35 rfl rfl (Nat.le_refl _) (fun _ => .c (.c (.c .h))) hz46 (SrcR.box (vss := [[.int .i64 x.1, .int .i64 x.2]]) (ys := [(x.1, x.2)]) 0 rfl (prE_ok (iE_ok _) (iE_ok _)) (.cons ⟨_, _, rfl, rfl, rfl⟩ .nil) rfl rfl) h90 g91 (by decide) ?_; intro a93 n97 c94 Lb95 hz96
       refine kO (kd kr) ?_
       refine oa rfl rfl (shO_nil (inBlock_n (id := 1) (shW_region ?_)))
       refine ov (v_add rfl rfl (Lst.r64 hk49 c54 (RowR.lt h40))) rfl ?_
       refine om rfl rfl (shO_nil ?_)
       subst hn50; exact le (kd kr) ⟨_, _, rfl, hk55, out3, a93, n97, c94, Lb95, r92, rfl, rfl, (sc rfl (sc rfl (sc rfl (sc rfl (sc rfl (sc rfl (sn _))))))), hz96⟩
     have r99 := bf r86 c87; clear r86
     refine shW_skip (inBlock_n (id := 1) (shW_region ?_))
     refine ov (v_add rfl rfl (Lst.r64 hk49 c54 (RowR.lt h40))) rfl ?_
     refine om rfl rfl (shO_nil ?_)
     subst hn50; exact le (kd kr) ⟨_, _, rfl, hk55, out2, a43, n47, c44, Lb45, r99, rfl, rfl, (sc rfl (sc rfl (sc rfl (sc rfl (sc rfl (sc rfl (sn _))))))), hz46⟩
   obtain rfl := Lst.zero hk49 c54
   rw [round_Lost_l1] at r51
   refine shW_exit (andThen_exit (andThen_exit ?_))
   refine inBlock_exit ?_
   obtain rfl := inj1 r51
   exact mi (kd kr) ⟨a43, n47, c44, Lb45, rfl, rfl, (sc rfl (sn _)), hz46⟩
 rintro e1 _ _ ⟨a13, n17, c14, Lb15, rfl, rfl, he100, hz16⟩
 refine shW_env _ he100 ?_; clear he100
 refine wsr (om rfl rfl (oa rfl rfl (oa rfl rfl (shO_nil (shW_ret ?_)))))
 refine q_res2 Try.results13 (res_tmp rfl) (res_tmp rfl) (sr) ?_
 obtain ⟨rfl, rfl⟩ := inj2 r20
 exact ⟨_, _, _, _, rfl, rfl, hz16.any⟩
set_option maxHeartbeats 1000000 in
theorem slices_Clone_round_Pair_round_Pair_w {s__a : Option Addr} {s__c : Nat} {s_ : List (Int × Int)} {F : FS} (h_s_ : RowR 2 (prE (iE .i64) (iE .i64)) F s__a s__c s_) {r : List (Int × Int)} (hr : slices_Clone_round_Pair_round_Pair s_ = some r) :
    SH.Spec Try.prog 47 #[.slice s__a s_.length s__c] F [] fun F' L' v => ∃ (ra : Option Addr) (rn : Nat) (rc : Nat) (rL : LH), v = .slice ra rn rc ∧ L' = rL ++ [] ∧ SlR 0 48 2 (prE (iE .i64) (iE .i64)) F' ra rn rc r rL := by
 refine spec_of_shW (args := [.slice s__a s_.length s__c]) Try.func47 rfl Try.ntmps47 (Nat.le_of_ble_eq_true rfl) ?_
 intro K _ _; rw [slices_Clone_round_Pair_round_Pair] at hr
 refine wsr (oa rfl rfl (shO_nil (shW_seq (wsr (om rfl rfl ?_)))))
 refine ov (v_eqlNil Try.underlying35 rfl) rfl ?_
 refine shO_nil ?_
 refine shW_cond rfl (fun c1 => ?_) (fun c1 => ?_)
 · have r2 := nilIf_t hr (RowR.isNone h_s_ c1); clear hr
   refine wsr (oa rfl rfl (shO_nil (shW_ret (andThen_ret ?_))))
   refine q_res1 Try.results47 (res_tmp rfl) (sr) ?_
   obtain rfl := inj1 r2
   exact ⟨_, _, _, [], rfl, rfl, SlR.nil _ _ _ _ _⟩
 have r3 := nilIf_f hr; clear hr
 refine shW_skip (wsr ?_)
 refine o_buildSlice (cs := #[]) rfl rfl (buildSlice_none slt_35) ?_; intro b4 hb4
 refine om rfl rfl ?_
 have hz6 : SlR K.w0.heap.size 48 2 (prE (iE .i64) (iE .i64)) F (some ⟨b4, 0, none⟩) 0 0 ([] : List (Int × Int)) [(b4, .cells #[] 48 (0, 0))] := SlR.of_block (vss := []) (prE_ok (iE_ok _) (iE_ok _)) hb4 .nil rfl rfl (by simp [maxLen])
 generalize hLLb5 : ([(b4, .cells #[] 48 (0, 0))] : LH) = Lb5 at hz6
 refine shO_perm (L' := Lb5 ++ []) (by rw [← hLLb5]; exact fO) ?_
 obtain ⟨l, h8, g9, r10⟩ := ap_ok r3; clear r3
 refine o_appZ (xs := ([] : List (Int × Int))) (ys := s_) (zs := l) rfl slt_35 rfl rfl (Nat.le_refl _) (fun _ => .h) hz6 (RowR.src h_s_) h8 g9 (by decide) ?_; intro a11 n15 c12 Lb13 hz14
 refine oa rfl rfl (shO_nil (shW_ret ?_))
 refine q_res1 Try.results47 (res_tmp rfl) (sr) ?_
 obtain rfl := inj1 r10
 exact ⟨_, _, _, _, rfl, rfl, hz14.any⟩
set_option maxHeartbeats 1000000 in
theorem round_Pairs_w {walks_a : Option Addr} {walks_c : Nat} {walks : List (List Int)} {hears_a : Option Addr} {hears_c : Nat} {hears : List (List Int)} {houses : Int} {start : Int} {notices_a : Option Addr} {notices_c : Nat} {notices : List ((List Int) × Int × Int)} {F : FS} (h_walks : RowR 1 (slE 1 (iE .i64)) F walks_a walks_c walks) (h_hears : RowR 1 (slE 1 (iE .i64)) F hears_a hears_c hears) (h_notices : RowR 3 (prE (slE 1 (iE .i64)) (prE (iE .i64) (iE .i64))) F notices_a notices_c notices) {r : List (Int × Int)} {r2 : Int} (hr : round_Pairs walks hears houses start notices = some (r, r2)) :
    SH.Spec Try.prog 14 #[.agg #[.slice walks_a walks.length walks_c, .slice hears_a hears.length hears_c, .int .i64 houses, .int .i64 start, .slice notices_a notices.length notices_c]] F [] fun F' L' v => ∃ (ra : Option Addr) (rn : Nat) (rc : Nat) (rL : LH), v = .tuple #[.slice ra rn rc, .int .i64 r2] ∧ L' = rL ++ [] ∧ SlR 0 48 2 (prE (iE .i64) (iE .i64)) F' ra rn rc r rL := by
 refine spec_of_shW (args := [.agg #[.slice walks_a walks.length walks_c, .slice hears_a hears.length hears_c, .int .i64 houses, .int .i64 start, .slice notices_a notices.length notices_c]]) Try.func14 rfl Try.ntmps14 (Nat.le_of_ble_eq_true rfl) ?_
 intro K _ _; rw [round_Pairs] at hr
 refine wsr ?_
 refine o_box rfl rfl ?_; intro b1 hb1
 refine oa rfl rfl (oa rfl rfl (nsr ?_))
 refine ov (v_loadA (cs := #[.slice walks_a walks.length walks_c, .slice hears_a hears.length hears_c, .int .i64 houses, .int .i64 start, .slice notices_a notices.length notices_c]) Try.isAgg26 Try.sizeOf26 rfl (Has.own 0 rfl) (Nat.le_of_ble_eq_true rfl) rfl) rfl ?_
 obtain ⟨d, n, h2, r3⟩ := b2_ok hr; clear hr
 refine o_call0 rfl Try.call30 rfl rfl rfl (round_opened_w h_walks h_hears h_notices h2) ?_; rintro _ F4 _ hF5 hn6 ⟨v8, rfl, rfl, hp9⟩
 refine shO_L (ln rfl) ?_
 refine om rfl rfl (ox rfl rfl rfl (ox rfl rfl rfl (oa rfl rfl (oa rfl rfl (shO_nil (shW_seq (wsr (om rfl rfl ?_))))))))
 refine ov (v_neq rfl rfl) rfl ?_
 refine shO_nil ?_
 refine shW_condP rfl (fun c10 => ?_) (fun c10 => ?_)
 · have r11 := ite_t r3 c10; clear r3
   refine wsr (om rfl rfl (oa rfl rfl (oa rfl rfl (shO_nil ?_))))
   refine kW kn ?_
   refine shW_ret (andThen_ret ?_)
   refine q_res2 Try.results14 (res_tmp rfl) (res_tmp rfl) (sr) ?_
   obtain ⟨rfl, rfl⟩ := inj2 r11
   exact ⟨_, _, _, [], rfl, rfl, SlR.nil _ _ _ _ _⟩
 have r12 := ite_f r3 c10; clear r3
 refine shW_skip (wsr (om rfl rfl ?_))
 obtain ⟨walks2, hears2, houses2, start2, notices2, walks3, pairs, hit, h13, r14⟩ := b8_ok r12; clear r12
 have h34 := hp9; rw [h13] at h34; obtain ⟨b15, c16, m17, hv18, hz19, ⟨_, _, rfl, ⟨a20, c21, rfl, h22⟩, ⟨_, _, rfl, ⟨a23, c24, rfl, h25⟩, ⟨_, _, rfl, rfl, ⟨_, _, rfl, rfl, ⟨_, _, rfl, ⟨a26, c27, rfl, h28⟩, ⟨_, _, rfl, ⟨rfl, h29⟩, ⟨_, _, rfl, ⟨a30, c31, rfl, h32⟩, ⟨rfl, h33⟩⟩⟩⟩⟩⟩⟩⟩⟩ := h34; subst hv18
 have hz19 : F4 b15 = some (.cells ((([.slice a20 walks2.length c21] : List Value) ++ (([.slice a23 hears2.length c24] : List Value) ++ (([.int .i64 houses2] : List Value) ++ (([.int .i64 start2] : List Value) ++ (([.slice a26 notices2.length c27] : List Value) ++ (walks3.flatMap (cI .i64) ++ (([.slice a30 pairs.length c31] : List Value) ++ (hit.flatMap (cI .i64))))))))).toArray) 101 m17) := hz19
 refine ov (v_nilCheck rfl) rfl ?_
 refine ov (v_fieldAddr fa_101_2 rfl) rfl ?_
 refine ov (v_load Try.isAgg35 rfl (Has.frozen hz19) (li_cell (li_skip (A := ([.slice a20 walks2.length c21] : List Value)) (k := 1) (o := 29) rfl (li_skip (A := ([.slice a23 hears2.length c24] : List Value)) (k := 1) (o := 28) rfl (li_skip (A := ([.int .i64 houses2] : List Value)) (k := 1) (o := 27) rfl (li_skip (A := ([.int .i64 start2] : List Value)) (k := 1) (o := 26) rfl (li_skip (A := ([.slice a26 notices2.length c27] : List Value)) (k := 1) (o := 25) rfl (li_skip (A := walks3.flatMap (cI .i64)) (k := 25) (o := 0) (lfl (cI_ok .i64) h29) (li_here (B := hit.flatMap (cI .i64)) rfl))))))))) rfl ?_
 obtain ⟨l, h35, r36⟩ := b1_ok r14; clear r14
 refine o_call0 rfl Try.call47 rfl rfl rfl (slices_Clone_round_Pair_round_Pair_w h32 h35) ?_; rintro _ F37 _ hF38 hn39 ⟨a41, n45, c42, Lb43, rfl, rfl, hz44⟩
 replace hz44 := hz44.new fun p hp => hn39 p (by simp [hp])
 refine shO_L (lp (ln rfl)) ?_
 refine kO (kf (fS fO) kr) ?_
 refine oa rfl rfl (oa rfl rfl (shO_nil ?_))
 refine kW (kd kr) ?_
 refine shW_ret ?_
 refine q_res2 Try.results14 (res_tmp rfl) (res_tmp rfl) (sr) ?_
 obtain ⟨rfl, rfl⟩ := inj2 r36
 exact ⟨_, _, _, _, rfl, rfl, hz44.any⟩
set_option maxHeartbeats 1000000 in
theorem slices_Index_round_Pair_round_Pair_w {s__a : Option Addr} {s__c : Nat} {s_ : List (Int × Int)} {notice : Int} {house : Int} {F : FS} (h_s_ : RowR 2 (prE (iE .i64) (iE .i64)) F s__a s__c s_) {r : Int} (hr : slices_Index_round_Pair_round_Pair s_ notice house = some r) :
    SpecV Try.prog 48 #[.slice s__a s_.length s__c, .agg #[.int .i64 notice, .int .i64 house]] F (.int .i64 r) := by
 refine spec_of_shW (args := [.slice s__a s_.length s__c, .agg #[.int .i64 notice, .int .i64 house]]) Try.func48 rfl Try.ntmps48 (Nat.le_of_ble_eq_true rfl) ?_
 intro K _ _; rw [slices_Index_round_Pair_round_Pair] at hr
 refine wsr ?_
 refine o_box rfl rfl ?_; intro b1 hb1
 refine oa rfl rfl (shO_nil ?_)
 refine shW_join (fun e1 F1 L1 => slices_Index_round_Pair_round_Pair_j1 = some r ∧ F = F1 ∧ L1 = [] ∧ e1.sub []) ?_ ?_
 · refine wsr (om rfl rfl ?_)
   refine ov (v_lenS Try.underlying35 rfl) rfl ?_
   refine om rfl rfl (shO_nil ?_)
   refine shW_block ?_
   refine shW_lp (fun fu2 e1 F1 L1 => ∃ (tl : List (Int × Int)) (k : Int), tl.length = fu2 ∧ Lst s_ k tl ∧ slices_Index_round_Pair_round_Pair_l2 notice house tl k = some r ∧ F = F1 ∧ L1 = [(b1, .cells #[.int .i64 notice, .int .i64 house] 48 (0, 0))] ∧ e1.sub [(0, .slice s__a s_.length s__c), (3, .pointer (some ⟨b1, 0, none⟩)), (7, .int .i64 (s_.length : Int)), (8, .int .i64 k)]) _ (m0 kr ⟨_, _, rfl, Lst.start _, hr, rfl, rfl, (sc rfl (sc rfl (sc rfl (sc rfl (sn _)))))⟩) ?_
   rintro fu2 e1 _ _ ⟨tl, k, hn3, hk2, r4, rfl, rfl, he5⟩
   refine shW_env _ he5 ?_; clear he5
   refine wsr ?_
   refine ov (v_lssK rfl rfl) rfl ?_
   refine shO_nil (shW_seq ?_)
   refine shW_condP rfl (fun c7 => ?_) (fun c7 => ?_)
   · obtain ⟨x, tl2, rfl, hx9, g10, hk8⟩ := Lst.succ hk2 c7
     rw [slices_Index_round_Pair_round_Pair_l2] at r4
     refine shW_skip (shW_seq ?_)
     refine shW_block ?_
     refine wsr (om rfl rfl (oa rfl rfl ?_))
     refine nsd (by kernel_rfl) (by kernel_rfl) (by kernel_rfl) ?_
     refine qv (v_loadA (cs := #[.int .i64 notice, .int .i64 house]) Try.isAgg48 Try.sizeOf48 rfl (Has.own 0 rfl) (Nat.le_of_ble_eq_true rfl) rfl) rfl ?_
     refine qm rfl rfl (qm rfl rfl ?_)
     obtain ⟨b11, o12, c13, vs14, ha15, hs16, hle17, ⟨_, _, rfl, rfl, rfl⟩, hl18, hc19⟩ := RowR.at (prE_ok (iE_ok _) (iE_ok _)) h_s_ ([(b1, .cells #[.int .i64 notice, .int .i64 house] 48 (0, 0))]) g10.1 hx9
     refine qv (v_indexO Try.underlying35 Try.sizeOf48 rfl ha15 rfl g10) rfl ?_
     refine qv (v_loadA (cs := #[.int .i64 x.1, .int .i64 x.2]) Try.isAgg48 Try.sizeOf48 rfl hs16 hle17 (extract_cells hle17 hl18 hc19)) rfl ?_
     refine qv (v_eqA (eqg_48 _ _ _ _) (eq_48 _ _ _ _) rfl rfl) rfl ?_
     refine shQ_nil ?_
     refine shW_condP rfl (fun c20 => ?_) (fun c20 => ?_)
     · have r21 := ite_t r4 c20; clear r4
       refine wsr (om rfl rfl (oa rfl rfl (shO_nil ?_)))
       refine kW kn ?_
       refine shW_ret (inBlock_ret (andThen_ret (andThen_ret (inBlock_ret (andThen_ret ?_)))))
       refine q_res1 Try.results48 (res_tmp rfl) (sr) ?_
       obtain rfl := inj1 r21
       exact rfl
     have r22 := ite_f r4 c20; clear r4
     refine shW_skip (inBlock_n (id := 1) (shW_region ?_))
     refine ov (v_add rfl rfl (Lst.r64 hk2 c7 (RowR.lt h_s_))) rfl ?_
     refine om rfl rfl (shO_nil ?_)
     subst hn3; exact le kr ⟨_, _, rfl, hk8, r22, rfl, rfl, (sc rfl (sc rfl (sc rfl (sc rfl (sn _)))))⟩
   obtain rfl := Lst.zero hk2 c7
   rw [slices_Index_round_Pair_round_Pair_l2] at r4
   refine shW_exit (andThen_exit (andThen_exit ?_))
   refine inBlock_exit ?_
   exact mi kn ⟨r4, rfl, rfl, (sn _)⟩
 rintro e1 _ _ ⟨r23, rfl, rfl, he24⟩
 refine shW_env _ he24 ?_; clear he24
 rw [slices_Index_round_Pair_round_Pair_j1] at r23
 refine wsr (oa rfl rfl (shO_nil (shW_ret ?_)))
 refine q_res1 Try.results48 (res_tmp rfl) (sr) ?_
 obtain rfl := inj1 r23
 exact rfl
set_option maxHeartbeats 1000000 in
theorem slices_Contains_round_Pair_round_Pair_w {s__a : Option Addr} {s__c : Nat} {s_ : List (Int × Int)} {notice : Int} {house : Int} {F : FS} (h_s_ : RowR 2 (prE (iE .i64) (iE .i64)) F s__a s__c s_) {r : Bool} (hr : slices_Contains_round_Pair_round_Pair s_ notice house = some r) :
    SpecV Try.prog 16 #[.slice s__a s_.length s__c, .agg #[.int .i64 notice, .int .i64 house]] F (.bool r) := by
 refine spec_of_shW (args := [.slice s__a s_.length s__c, .agg #[.int .i64 notice, .int .i64 house]]) Try.func16 rfl Try.ntmps16 (Nat.le_of_ble_eq_true rfl) ?_
 intro K _ _; rw [slices_Contains_round_Pair_round_Pair] at hr
 refine wsr ?_
 refine o_box rfl rfl ?_; intro b1 hb1
 refine oa rfl rfl (nsr (om rfl rfl ?_))
 refine ov (v_loadA (cs := #[.int .i64 notice, .int .i64 house]) Try.isAgg48 Try.sizeOf48 rfl (Has.own 0 rfl) (Nat.le_of_ble_eq_true rfl) rfl) rfl ?_
 obtain ⟨n, h2, r3⟩ := b1_ok hr; clear hr
 refine o_callV rfl Try.call48 rfl rfl rfl (slices_Index_round_Pair_round_Pair_w h_s_ h2) ?_
 refine ov (v_geqK rfl rfl) rfl ?_
 refine oa rfl rfl (shO_nil ?_)
 refine kW kn ?_
 refine shW_ret ?_
 refine q_res1 Try.results16 (res_tmp rfl) (sr) ?_
 obtain rfl := inj1 r3
 exact rfl
set_option maxHeartbeats 1000000 in
theorem round_Ends_w {walks_a : Option Addr} {walks_c : Nat} {walks : List (List Int)} {hears_a : Option Addr} {hears_c : Nat} {hears : List (List Int)} {houses : Int} {start : Int} {notices_a : Option Addr} {notices_c : Nat} {notices : List ((List Int) × Int × Int)} {round_a : Option Addr} {round_c : Nat} {round : List (Int × Int)} {F : FS} (h_walks : RowR 1 (slE 1 (iE .i64)) F walks_a walks_c walks) (h_hears : RowR 1 (slE 1 (iE .i64)) F hears_a hears_c hears) (h_notices : RowR 3 (prE (slE 1 (iE .i64)) (prE (iE .i64) (iE .i64))) F notices_a notices_c notices) (h_round : RowR 2 (prE (iE .i64) (iE .i64)) F round_a round_c round) {r : List Int} {r2 : Int} (hr : round_Ends walks hears houses start notices round = some (r, r2)) :
    SH.Spec Try.prog 18 #[.agg #[.slice walks_a walks.length walks_c, .slice hears_a hears.length hears_c, .int .i64 houses, .int .i64 start, .slice notices_a notices.length notices_c], .slice round_a round.length round_c] F [] fun F' L' v => ∃ (ra : Option Addr) (rn : Nat) (rc : Nat) (rL : LH), v = .tuple #[.slice ra rn rc, .int .i64 r2] ∧ L' = rL ++ [] ∧ SlR 0 3 1 (iE .i64) F' ra rn rc r rL := by
 refine spec_of_shW (args := [.agg #[.slice walks_a walks.length walks_c, .slice hears_a hears.length hears_c, .int .i64 houses, .int .i64 start, .slice notices_a notices.length notices_c], .slice round_a round.length round_c]) Try.func18 rfl Try.ntmps18 (Nat.le_of_ble_eq_true rfl) ?_
 intro K _ _; rw [round_Ends] at hr
 refine wsr ?_
 refine o_box rfl rfl ?_; intro b1 hb1
 refine oa rfl rfl (oa rfl rfl (nsr ?_))
 refine ov (v_loadA (cs := #[.slice walks_a walks.length walks_c, .slice hears_a hears.length hears_c, .int .i64 houses, .int .i64 start, .slice notices_a notices.length notices_c]) Try.isAgg26 Try.sizeOf26 rfl (Has.own 0 rfl) (Nat.le_of_ble_eq_true rfl) rfl) rfl ?_
 refine om rfl rfl ?_
 obtain ⟨d, l, n, h2, r3⟩ := b3_ok hr; clear hr
 refine o_call0 rfl Try.call50 rfl rfl rfl (round_gone_w h_walks h_hears h_notices h_round h2) ?_; rintro _ F4 _ hF5 hn6 ⟨v8, a10, n14, c11, Lb12, rfl, rfl, hp9, hz13⟩
 replace hz13 := hz13.new fun p hp => hn6 p (by simp [hp])
 refine shO_L (lp (ln rfl)) ?_
 refine kO (kf (fS fO) kr) ?_
 refine om rfl rfl (ox rfl rfl rfl (ox rfl rfl rfl (ox rfl rfl rfl (oa rfl rfl (oa rfl rfl (oa rfl rfl (nsr (om rfl rfl (om rfl rfl ?_)))))))))
 refine oa rfl rfl (oa rfl rfl (shO_nil ?_))
 refine kW (kd kr) ?_
 refine shW_ret ?_
 refine q_res2 Try.results18 (res_tmp rfl) (res_tmp rfl) (sr) ?_
 obtain ⟨rfl, rfl⟩ := inj2 r3
 exact ⟨_, _, _, _, rfl, rfl, hz13.any⟩
set_option maxHeartbeats 1000000 in
theorem round_Excludes_w {walks_a : Option Addr} {walks_c : Nat} {walks : List (List Int)} {hears_a : Option Addr} {hears_c : Nat} {hears : List (List Int)} {houses : Int} {start : Int} {notices_a : Option Addr} {notices_c : Nat} {notices : List ((List Int) × Int × Int)} {F : FS} (h_walks : RowR 1 (slE 1 (iE .i64)) F walks_a walks_c walks) (h_hears : RowR 1 (slE 1 (iE .i64)) F hears_a hears_c hears) (h_notices : RowR 3 (prE (slE 1 (iE .i64)) (prE (iE .i64) (iE .i64))) F notices_a notices_c notices) {r : List (Int × Int)} {r2 : Int} (hr : round_Excludes walks hears houses start notices = some (r, r2)) :
    SH.Spec Try.prog 20 #[.agg #[.slice walks_a walks.length walks_c, .slice hears_a hears.length hears_c, .int .i64 houses, .int .i64 start, .slice notices_a notices.length notices_c]] F [] fun F' L' v => ∃ (ra : Option Addr) (rn : Nat) (rc : Nat) (rL : LH), v = .tuple #[.slice ra rn rc, .int .i64 r2] ∧ L' = rL ++ [] ∧ SlR 0 48 2 (prE (iE .i64) (iE .i64)) F' ra rn rc r rL := by
 refine spec_of_shW (args := [.agg #[.slice walks_a walks.length walks_c, .slice hears_a hears.length hears_c, .int .i64 houses, .int .i64 start, .slice notices_a notices.length notices_c]]) Try.func20 rfl Try.ntmps20 (Nat.le_of_ble_eq_true rfl) ?_
 intro K _ _; rw [round_Excludes] at hr
 refine wsr ?_
 refine o_box rfl rfl ?_; intro b1 hb1
 refine oa rfl rfl (oa rfl rfl (nsr ?_))
 refine ov (v_loadA (cs := #[.slice walks_a walks.length walks_c, .slice hears_a hears.length hears_c, .int .i64 houses, .int .i64 start, .slice notices_a notices.length notices_c]) Try.isAgg26 Try.sizeOf26 rfl (Has.own 0 rfl) (Nat.le_of_ble_eq_true rfl) rfl) rfl ?_
 obtain ⟨l, n, h2, r3⟩ := b2_ok hr; clear hr
 refine o_call0 rfl Try.call10 rfl rfl rfl (round_Before_w h_walks h_hears h_notices h2) ?_; rintro _ F4 _ hF5 hn6 ⟨a8, n12, c9, Lb10, rfl, rfl, hz11⟩
 replace hz11 := hz11.new fun p hp => hn6 p (by simp [hp])
 refine shO_L (lp (ln rfl)) ?_
 refine kO (kf (fS fO) kr) ?_
 refine ox rfl rfl rfl (ox rfl rfl rfl (oa rfl rfl (oa rfl rfl (shO_nil ?_))))
 refine kW (kd kr) ?_
 refine shW_ret ?_
 refine q_res2 Try.results20 (res_tmp rfl) (res_tmp rfl) (sr) ?_
 obtain ⟨rfl, rfl⟩ := inj2 r3
 exact ⟨_, _, _, _, rfl, rfl, hz11.any⟩
set_option maxHeartbeats 1000000 in
theorem oyezlaw03_gone_w {b_b : Nat} {metal_a : Option Addr} {metal_c : Nat} {metal : List Int} {at_ : Int} {turn : Int} {walks_a : Option Addr} {walks_c : Nat} {walks : List (List Int)} {hears_a : Option Addr} {hears_c : Nat} {hears : List (List Int)} {houses : Int} {start : Int} {notices_a : Option Addr} {notices_c : Nat} {notices : List ((List Int) × Int × Int)} {cries : Int} {F : FS} (h_metal : RowR 1 (iE .u8) F metal_a metal_c metal) (_h_walks : RowR 1 (slE 1 (iE .i64)) F walks_a walks_c walks) (_h_hears : RowR 1 (slE 1 (iE .i64)) F hears_a hears_c hears) (_h_notices : RowR 3 (prE (slE 1 (iE .i64)) (prE (iE .i64) (iE .i64))) F notices_a notices_c notices) {r : List (Int × Int)} {r2 : Int} {r3 : Int} (hr : oyezlaw03_gone metal at_ turn walks hears houses start notices cries = some (r, r2, r3)) :
    SH.Spec Try.prog 21 #[.pointer (some ⟨b_b, 0, none⟩), .agg #[.slice walks_a walks.length walks_c, .slice hears_a hears.length hears_c, .int .i64 houses, .int .i64 start, .slice notices_a notices.length notices_c], .int .i64 cries] F [(b_b, .cells #[.slice metal_a metal.length metal_c, .int .i64 at_, .int .u32 turn] 72 (0, 0))] fun F' L' v => ∃ (ra : Option Addr) (rn : Nat) (rc : Nat) (rL : LH), v = .slice ra rn rc ∧ L' = (b_b, .cells #[.slice metal_a metal.length metal_c, .int .i64 r2, .int .u32 r3] 72 (0, 0)) :: (rL ++ []) ∧ SlR 0 56 2 (prE (iE .i64) (iE .i64)) F' ra rn rc r rL := by
 refine spec_of_shW (args := [.pointer (some ⟨b_b, 0, none⟩), .agg #[.slice walks_a walks.length walks_c, .slice hears_a hears.length hears_c, .int .i64 houses, .int .i64 start, .slice notices_a notices.length notices_c], .int .i64 cries]) Try.func21 rfl Try.ntmps21 (Nat.le_of_ble_eq_true rfl) ?_
 intro K _ _; rw [oyezlaw03_gone] at hr
 refine wsr ?_
 refine o_box rfl rfl ?_; intro b1 hb1
 refine oa rfl rfl (nsr (oa rfl rfl (shO_nil ?_)))
 obtain ⟨out, b_at, b_turn, h8, r9⟩ := b3_ok hr; clear hr
 refine shW_join (fun e1 F1 L1 => ∃ (a2 : Option Addr) (n6 : Nat) (c3 : Nat) (Lb4 : LH), FExt F F1 ∧ L1 = ((b_b, .cells #[.slice metal_a metal.length metal_c, .int .i64 b_at, .int .u32 b_turn] 72 (0, 0)) :: (Lb4 ++ [])) ∧ e1.sub [(7, .slice a2 n6 c3)] ∧ SlR K.w0.heap.size 56 2 (prE (iE .i64) (iE .i64)) F1 a2 n6 c3 out Lb4) ?_ ?_
 · clear r9
   refine wsr (om rfl rfl (om rfl rfl ?_))
   obtain ⟨n, at_2, turn2, h10, r11⟩ := b3_ok h8; clear h8
   refine o_callG (Lb := [(b_b, .cells #[.slice metal_a metal.length metal_c, .int .i64 at_, .int .u32 turn] 72 (0, 0))]) (Lr := [(b1, .cells #[.slice walks_a walks.length walks_c, .slice hears_a hears.length hears_c, .int .i64 houses, .int .i64 start, .slice notices_a notices.length notices_c] 26 (0, 0))]) rfl Try.call29 rfl rfl rfl (((fC fO).trans (pC pR))) (oyezkit_Bell_Stroke_w h_metal h10) ?_; rintro _ F12 _ hF13 hd15 hn14 ⟨rfl, rfl⟩
   replace h_metal := h_metal.mono (iE_ok _) hF13
   refine shO_L (lb (ln rfl)) ?_
   refine om rfl rfl (shO_nil ?_)
   refine shW_block ?_
   obtain ⟨g22, r23⟩ := gd_ok r11; clear r11
   refine shW_lp (fun fu1 e1 F1 L1 => ∃ (k : Int), Ctr 0 n k fu1 ∧ ∃ (b_at2 : Int) (b_turn2 : Int) (out2 : List (Int × Int)) (a16 : Option Addr) (n20 : Nat) (c17 : Nat) (Lb18 : LH), oyezlaw03_gone_l1 metal hears notices fu1 b_at2 b_turn2 out2 = some (out, b_at, b_turn) ∧ FExt F12 F1 ∧ L1 = ((b_b, .cells #[.slice metal_a metal.length metal_c, .int .i64 b_at2, .int .u32 b_turn2] 72 (0, 0)) :: ((b1, .cells #[.slice walks_a walks.length walks_c, .slice hears_a hears.length hears_c, .int .i64 houses, .int .i64 start, .slice notices_a notices.length notices_c] 26 (0, 0)) :: (Lb18 ++ []))) ∧ e1.sub [(0, .pointer (some ⟨b_b, 0, none⟩)), (4, .pointer (some ⟨b1, 0, none⟩)), (7, .slice a16 n20 c17), (10, .int .i64 n), (11, .int .i64 k)] ∧ SlR K.w0.heap.size 56 2 (prE (iE .i64) (iE .i64)) F1 a16 n20 c17 out2 Lb18) _ (m0 (kc (kc (ke kr))) ⟨_, Ctr.start _ _, at_2, turn2, [], none, 0, 0, [], r23, FExt.refl _, rfl, (sc rfl (sc rfl (sc rfl (sc rfl (sc rfl (sn _)))))), SlR.nil _ _ _ _ _⟩) ?_
   rintro fu1 e1 F28 _ ⟨k, hk24, b_at2, b_turn2, out2, a16, n20, c17, Lb18, r26, hF29, rfl, he27, hz19⟩
   refine shW_env _ he27 ?_; clear he27
   replace h_metal := h_metal.mono (iE_ok _) hF29
   refine wsr ?_
   refine ov (v_lssK rfl rfl) rfl ?_
   refine shO_nil (shW_seq ?_)
   refine shW_condP rfl (fun c31 => ?_) (fun c31 => ?_)
   · obtain ⟨fu1, rfl, hk32⟩ := Ctr.succ hk24 c31
     rw [oyezlaw03_gone_l1] at r26
     refine shW_skip (shW_seq ?_)
     refine shW_block ?_
     refine wsr ?_
     refine ov (v_fieldAddr fa_26_4 rfl) rfl ?_
     refine ov (v_load Try.isAgg24 rfl (Has.own 1 rfl) rfl) rfl ?_
     refine ov (v_lenS Try.underlying24 rfl) rfl ?_
     refine ov (v_gtrK rfl rfl) rfl ?_
     refine shO_nil ?_
     refine shW_condP rfl (fun c33 => ?_) (fun c33 => ?_)
     · have r34 := ite_t r26 c33; clear r26
       refine shW_drawM [(.still, 0), (.still, 1), (.still, 2), (.still, 3), (.still, 4), (.still, 5), (.still, 7), (.still, 8), (.still, 9), (.still, 10), (.still, 11), (.seq, 6), (.seq, 12), (.still, 13), (.seq, 14), (.seq, 15), (.seq, 16)] (by kernel_rfl) (by kernel_rfl) (trivial) (by rfl) (by kernel_rfl) ?_
       refine shM_v (v := .slice a16 n20 c17) (ek := [(7, .slice a16 n20 c17)]) (Ls := []) rfl rfl rfl rfl ((sc rfl (sn _))) (by kernel_rfl) sm (fun H F' L' hF' hL' => v_move rfl) ?_
       refine shM_v (v := .pointer (some ⟨b_b, 0, none⟩)) (ek := [(0, .pointer (some ⟨b_b, 0, none⟩))]) (Ls := []) rfl rfl rfl rfl ((sc rfl (sn _))) (by kernel_rfl) sm (fun H F' L' hF' hL' => v_move rfl) ?_
       refine shM_v (v := .pointer (some ⟨b1, 1, none⟩)) (ek := [(4, .pointer (some ⟨b1, 0, none⟩))]) (Ls := []) rfl rfl rfl rfl ((sc rfl (sn _))) (by kernel_rfl) sm (fun H F' L' hF' hL' => v_fieldAddr fa_26_1 rfl) ?_
       refine shM_v (v := .slice hears_a hears.length hears_c) (ek := [(19, .pointer (some ⟨b1, 1, none⟩))]) (Ls := [(b1, .cells #[.slice walks_a walks.length walks_c, .slice hears_a hears.length hears_c, .int .i64 houses, .int .i64 start, .slice notices_a notices.length notices_c] 26 (0, 0))]) rfl rfl rfl rfl ((sc rfl (sn _))) (by kernel_rfl) (s0 (s1 (s2 (s3 sr)))) (fun H F' L' hF' hL' => v_load Try.isAgg23 rfl ((Has.own 0 rfl).ext hF' hL') rfl) ?_
       refine shM_v (v := .int .i64 (hears.length : Int)) (ek := [(20, .slice hears_a hears.length hears_c)]) (Ls := []) rfl rfl rfl rfl ((sc rfl (sn _))) (by kernel_rfl) sm (fun H F' L' hF' hL' => v_lenS Try.underlying23 rfl) ?_
       obtain ⟨g35, r36⟩ := gd_ok r34; clear r34
       refine shM_v (v := .int .i64 ((hears.length : Int) - 1)) (ek := [(21, .int .i64 (hears.length : Int))]) (Ls := []) rfl rfl rfl rfl ((sc rfl (sn _))) (by kernel_rfl) sm (fun H F' L' hF' hL' => v_sub rfl rfl g35) ?_
       refine shM_v (v := .pointer (some ⟨b_b, 0, none⟩)) (ek := [(0, .pointer (some ⟨b_b, 0, none⟩))]) (Ls := []) rfl rfl rfl rfl ((sc rfl (sn _))) (by kernel_rfl) sm (fun H F' L' hF' hL' => v_move rfl) ?_
       refine shM_v (v := .pointer (some ⟨b1, 4, none⟩)) (ek := [(4, .pointer (some ⟨b1, 0, none⟩))]) (Ls := []) rfl rfl rfl rfl ((sc rfl (sn _))) (by kernel_rfl) sm (fun H F' L' hF' hL' => v_fieldAddr fa_26_4 rfl) ?_
       refine shM_v (v := .slice notices_a notices.length notices_c) (ek := [(25, .pointer (some ⟨b1, 4, none⟩))]) (Ls := [(b1, .cells #[.slice walks_a walks.length walks_c, .slice hears_a hears.length hears_c, .int .i64 houses, .int .i64 start, .slice notices_a notices.length notices_c] 26 (0, 0))]) rfl rfl rfl rfl ((sc rfl (sn _))) (by kernel_rfl) (s0 (s1 (s2 (s3 sr)))) (fun H F' L' hF' hL' => v_load Try.isAgg24 rfl ((Has.own 0 rfl).ext hF' hL') rfl) ?_
       refine shM_v (v := .int .i64 (notices.length : Int)) (ek := [(26, .slice notices_a notices.length notices_c)]) (Ls := []) rfl rfl rfl rfl ((sc rfl (sn _))) (by kernel_rfl) sm (fun H F' L' hF' hL' => v_lenS Try.underlying24 rfl) ?_
       obtain ⟨g37, r38⟩ := gd_ok r36; clear r36
       refine shM_v (v := .int .i64 ((notices.length : Int) - 1)) (ek := [(27, .int .i64 (notices.length : Int))]) (Ls := []) rfl rfl rfl rfl ((sc rfl (sn _))) (by kernel_rfl) sm (fun H F' L' hF' hL' => v_sub rfl rfl g37) ?_
       refine ⟨_, [(18, .pointer (some ⟨b_b, 0, none⟩)), (22, .int .i64 ((hears.length : Int) - 1))], rfl, rfl, (sc rfl (sc rfl (sn _))), by kernel_rfl, ?_⟩; intro H
       obtain ⟨n2, at_3, turn3, h39, r40⟩ := b3_ok r38; clear r38
       refine o_callG (Lb := [(b_b, .cells #[.slice metal_a metal.length metal_c, .int .i64 b_at2, .int .u32 b_turn2] 72 (0, 0))]) (Lr := (b1, .cells #[.slice walks_a walks.length walks_c, .slice hears_a hears.length hears_c, .int .i64 houses, .int .i64 start, .slice notices_a notices.length notices_c] 26 (0, 0)) :: (Lb18 ++ [])) rfl Try.call29 rfl rfl rfl (pR) (oyezkit_Bell_Stroke_w h_metal h39) ?_; rintro _ F41 _ hF42 hd44 hn43 ⟨rfl, rfl⟩
       replace h_metal := h_metal.mono (iE_ok _) hF42
       replace hz19 := hz19.mono (prE_ok (iE_ok _) (iE_ok _)) hF42
       refine shO_L (lb (ln rfl)) ?_
       refine shO_nil ⟨_, rfl, hF42, [11, 10, 9, 8, 7, 0], by kernel_rfl, .inl (.inr (fun d h => by cases h; rfl)), (List.forall_mem_cons.2 ⟨sm, (List.forall_mem_cons.2 ⟨sm, (List.forall_mem_cons.2 ⟨s0 (s1 (s2 (s3 sr))), (List.forall_mem_cons.2 ⟨sm, (List.forall_mem_cons.2 ⟨sm, (List.forall_mem_cons.2 ⟨sm, (fun _ h => absurd h List.not_mem_nil)⟩)⟩)⟩)⟩)⟩)⟩), ?_⟩
       refine ⟨_, [(24, .pointer (some ⟨b_b, 0, none⟩)), (28, .int .i64 ((notices.length : Int) - 1))], rfl, rfl, (sc rfl (sc rfl (sn _))), by kernel_rfl, ?_⟩; intro H
       obtain ⟨n3, at_4, turn4, h45, r46⟩ := b3_ok r40; clear r40
       refine o_callG (Lb := [(b_b, .cells #[.slice metal_a metal.length metal_c, .int .i64 at_3, .int .u32 turn3] 72 (0, 0))]) (Lr := (b1, .cells #[.slice walks_a walks.length walks_c, .slice hears_a hears.length hears_c, .int .i64 houses, .int .i64 start, .slice notices_a notices.length notices_c] 26 (0, 0)) :: (Lb18 ++ [])) rfl Try.call29 rfl rfl rfl (pR) (oyezkit_Bell_Stroke_w h_metal h45) ?_; rintro _ F47 _ hF48 hd50 hn49 ⟨rfl, rfl⟩
       replace hz19 := hz19.mono (prE_ok (iE_ok _) (iE_ok _)) hF48
       refine shO_L (lb (ln rfl)) ?_
       refine shO_nil ⟨_, rfl, hF48, [0], by kernel_rfl, .inl (.inr (fun d h => by cases h; rfl)), (List.forall_mem_cons.2 ⟨sm, (fun _ h => absurd h List.not_mem_nil)⟩), ?_⟩
       refine shM_v (v := .agg #[.int .i64 n2, .int .i64 n3]) (ek := [(23, .int .i64 n2), (29, .int .i64 n3)]) (Ls := []) rfl rfl rfl rfl ((sc rfl (sc rfl (sn _)))) (by kernel_rfl) sm (fun H F' L' hF' hL' => v_build (v := .agg #[.int .i64 n2, .int .i64 n3]) rfl (by intro w; kernel_rfl)) ?_
       refine ⟨_, [(30, .agg #[.int .i64 n2, .int .i64 n3])], rfl, rfl, (sc rfl (sn _)), by kernel_rfl, ?_⟩; intro H
       refine o_buildSlice (cs := #[.int .i64 n2, .int .i64 n3]) rfl rfl (buildSlice_all slt_30 [.agg #[.int .i64 n2, .int .i64 n3]] rfl (by decide) (by simp [Value.cells]) (by decide)) ?_; intro b51 hb51
       refine shO_nil ⟨_, rfl, FExt.refl _, [0], by kernel_rfl, .inl (.inr (fun d h => by cases h; rfl)), (List.forall_mem_cons.2 ⟨sm, (fun _ h => absurd h List.not_mem_nil)⟩), ?_⟩
       refine ⟨_, [(17, .slice a16 n20 c17), (31, .slice (some ⟨b51, 0, none⟩) 1 1)], rfl, rfl, (sc rfl (sc rfl (sn _))), by kernel_rfl, ?_⟩; intro H
       obtain ⟨l, h52, g53, r54⟩ := ap_ok r46; clear r46
       refine o_appZ (xs := out2) (ys := [(n2, n3)]) (zs := l) rfl slt_30 rfl rfl (Nat.le_refl _) (fun _ => .c (.c (.c .h))) hz19 (SrcR.box (vss := [[.int .i64 n2, .int .i64 n3]]) (ys := [(n2, n3)]) 0 rfl (prE_ok (iE_ok _) (iE_ok _)) (.cons ⟨_, _, rfl, rfl, rfl⟩ .nil) rfl rfl) h52 g53 (by decide) ?_; intro a55 n59 c56 Lb57 hz58
       refine kO (kd kr) ?_
       refine shO_nil ⟨_, rfl, FExt.refl _, [], by kernel_rfl, .inl (.inl rfl), (fun _ h => absurd h List.not_mem_nil), ?_⟩
       refine ⟨_, [(32, .slice a55 n59 c56)], rfl, rfl, (sc rfl (sn _)), by kernel_rfl, ?_⟩; intro H
       refine oa rfl rfl ?_
       refine shO_nil ⟨_, rfl, FExt.refl _, [], by kernel_rfl, .inl (.inl rfl), (fun _ h => absurd h List.not_mem_nil), ?_⟩
       refine shM_nil ?_
       refine inBlock_n (id := 1) (shW_region ?_)
       refine ov (v_add rfl rfl (Ctr.r64 hk24 c31 g22)) rfl ?_
       refine om rfl rfl (shO_nil ?_)
       exact le kr ⟨_, hk32, at_4, turn4, l, a55, n59, c56, Lb57, r54, ((hF29.trans hF42).trans hF48), rfl, (sc rfl (sc rfl (sc rfl (sc rfl (sc rfl (sn _)))))), hz58⟩
     have r61 := ite_f r26 c33; clear r26
     refine shW_skip (inBlock_n (id := 1) (shW_region ?_))
     refine ov (v_add rfl rfl (Ctr.r64 hk24 c31 g22)) rfl ?_
     refine om rfl rfl (shO_nil ?_)
     exact le kr ⟨_, hk32, b_at2, b_turn2, out2, a16, n20, c17, Lb18, r61, hF29, rfl, (sc rfl (sc rfl (sc rfl (sc rfl (sc rfl (sn _)))))), hz19⟩
   obtain rfl := Ctr.zero hk24 c31
   rw [oyezlaw03_gone_l1] at r26
   refine shW_exit (andThen_exit (andThen_exit ?_))
   refine inBlock_exit ?_
   obtain ⟨rfl, rfl, rfl⟩ := inj3 r26
   exact mi (kc (kd kr)) ⟨a16, n20, c17, Lb18, (hF13.trans hF29), rfl, (sc rfl (sn _)), hz19⟩
 rintro e1 F63 _ ⟨a2, n6, c3, Lb4, hF64, rfl, he62, hz5⟩
 refine shW_env _ he62 ?_; clear he62
 refine wsr (om rfl rfl (oa rfl rfl (shO_nil (shW_ret ?_))))
 refine q_res1 Try.results21 (res_tmp rfl) (sr) ?_
 obtain ⟨rfl, rfl, rfl⟩ := inj3 r9
 exact ⟨_, _, _, _, rfl, rfl, hz5.any⟩
set_option maxHeartbeats 1000000 in
theorem oyezlaw03_RoundLost_w {numbers_a : Option Addr} {numbers_c : Nat} {numbers : List Int} {tries_a : Option Addr} {tries_c : Nat} {tries : List Int} {F : FS} (h_numbers : RowR 1 (iE .u8) F numbers_a numbers_c numbers) (h_tries : RowR 1 (iE .u8) F tries_a tries_c tries) {r : Bool} (hr : oyezlaw03_RoundLost numbers tries = some r) :
    SpecV Try.prog 4 #[.slice numbers_a numbers.length numbers_c, .slice tries_a tries.length tries_c] F (.bool r) := by
 refine spec_of_shW (args := [.slice numbers_a numbers.length numbers_c, .slice tries_a tries.length tries_c]) Try.func4 rfl Try.ntmps4 (Nat.le_of_ble_eq_true rfl) ?_
 intro K _ _; rw [oyezlaw03_RoundLost] at hr
 refine wsr (oa rfl rfl (nsr (om rfl rfl ?_)))
 obtain ⟨metal, at_, turn, h1, r2⟩ := b3_ok hr; clear hr
 refine o_call0 rfl Try.call7 rfl rfl rfl (oyezkit_Hang_w h_numbers h1) ?_; rintro _ F3 _ hF4 hn5 ⟨b7, a8, c9, rfl, rfl, h10⟩
 replace h_tries := h_tries.mono (iE_ok _) hF4
 refine shO_L (lb (ln rfl)) ?_
 obtain ⟨l, l2, n, n2, l3, at_2, turn2, h11, r12⟩ := b7_ok r2; clear r2
 refine o_callG (Lb := [(b7, .cells #[.slice a8 metal.length c9, .int .i64 at_, .int .u32 turn] 72 (0, 0))]) (Lr := []) rfl Try.call6 rfl rfl rfl (pR) (oyezlaw03_Made_w h10 h11) ?_; rintro _ F13 _ hF14 hd16 hn15 ⟨a17, c18, a20, c21, a23, n27, c24, Lb25, rfl, rfl, h19, h22, hz26⟩
 replace h_tries := h_tries.mono (iE_ok _) hF14
 have hn29 := newp (Lb' := [(b7, .cells #[.slice a8 metal.length c9, .int .i64 at_2, .int .u32 turn2] 72 (0, 0))]) (by rfl) hd16 hn15
 replace hz26 := hz26.new fun p hp => hn29 p (by simp [hp])
 refine shO_L (lb (lp (ln rfl))) ?_
 refine o_alloc rfl Try.zeroValue26 ?_; intro b30 hb30
 refine o_storeA (i := 0) Try.sizeOf26 rfl rfl rfl (by simp [Value.oneCell']) rfl (Nat.le_of_ble_eq_true rfl) ?_
 refine shO_L (L' := (b30, .cells #[.slice a17 l.length c18, .slice a20 l2.length c21, .int .i64 n, .int .i64 n2, .slice a23 n27 c24] 26 (0, 0)) :: ((b7, .cells #[.slice a8 metal.length c9, .int .i64 at_2, .int .u32 turn2] 72 (0, 0)) :: (Lb25 ++ []))) rfl ?_
 refine nsr ?_
 refine ov (v_loadA (cs := #[.slice a17 l.length c18, .slice a20 l2.length c21, .int .i64 n, .int .i64 n2, .slice a23 n27 c24]) Try.isAgg26 Try.sizeOf26 rfl (Has.own 0 rfl) (Nat.le_of_ble_eq_true rfl) rfl) rfl ?_
 obtain ⟨l4, n3, h31, r32⟩ := b2_ok r12; clear r12
 refine o_callTO (Lb := []) (Lt := Lb25 ++ []) (Lr := [(b30, .cells #[.slice a17 l.length c18, .slice a20 l2.length c21, .int .i64 n, .int .i64 n2, .slice a23 n27 c24] 26 (0, 0)), (b7, .cells #[.slice a8 metal.length c9, .int .i64 at_2, .int .u32 turn2] 72 (0, 0))]) rfl Try.call13 rfl rfl rfl (pT ((fC (fC fP)).trans (pA pR)) (ln (lp (ln rfl)))) (fun F2 h2 h3 => by rw [(SlR.caps hz26).1]; exact round_Lost_w (h19.mono (slE_ok (iE_ok _)) h2) (h22.mono (slE_ok (iE_ok _)) h2) (hz26.row (prE_ok (slE_ok (iE_ok _)) (prE_ok (iE_ok _) (iE_ok _))) h2 (fun p hp => h3 p (List.mem_append_left _ hp))) h31) (fun _ _ _ _ hq => by obtain ⟨a37, n41, c38, Lb39, rfl, rfl, hz40⟩ := hq; exact ⟨_, _, _, _, rfl, rfl, hz40.flat (fun _ _ h => h)⟩) ?_; rintro _ F33 _ hF34 hd36 hn35 ⟨a37, n41, c38, Lb39, rfl, rfl, hz40⟩
 replace h_tries := h_tries.mono (iE_ok _) hF34
 replace h19 := h19.mono (slE_ok (iE_ok _)) hF34
 replace h22 := h22.mono (slE_ok (iE_ok _)) hF34
 replace hz26 := hz26.mono (prE_ok (slE_ok (iE_ok _)) (prE_ok (iE_ok _) (iE_ok _))) hF34
 have hn43 := newp (Lb' := []) (by rfl) hd36 hn35
 replace hz40 := hz40.new fun p hp => hn43 p (by simp [hp])
 refine shO_L (lp (ln (lp (ln rfl)))) ?_
 refine kO (kf (fS (fS fO)) (kf (fS (fS fO)) kr)) ?_
 refine om rfl rfl (ox rfl rfl rfl (ox rfl rfl rfl (oa rfl rfl (oa rfl rfl (nsr ?_)))))
 refine ov (v_loadA (cs := #[.slice a17 l.length c18, .slice a20 l2.length c21, .int .i64 n, .int .i64 n2, .slice a23 n27 c24]) Try.isAgg26 Try.sizeOf26 rfl (Has.own 0 rfl) (Nat.le_of_ble_eq_true rfl) rfl) rfl ?_
 obtain ⟨l5, n4, h44, r45⟩ := b2_ok r32; clear r32
 refine o_callTO (Lb := []) (Lt := Lb25 ++ []) (Lr := (b30, .cells #[.slice a17 l.length c18, .slice a20 l2.length c21, .int .i64 n, .int .i64 n2, .slice a23 n27 c24] 26 (0, 0)) :: ((b7, .cells #[.slice a8 metal.length c9, .int .i64 at_2, .int .u32 turn2] 72 (0, 0)) :: (Lb39 ++ []))) rfl Try.call14 rfl rfl rfl (pT ((fC (fC (fS fP))).trans (pA pR)) (ln (lp (ln rfl)))) (fun F2 h2 h3 => by rw [(SlR.caps hz26).1]; exact round_Pairs_w (h19.mono (slE_ok (iE_ok _)) h2) (h22.mono (slE_ok (iE_ok _)) h2) (hz26.row (prE_ok (slE_ok (iE_ok _)) (prE_ok (iE_ok _) (iE_ok _))) h2 (fun p hp => h3 p (List.mem_append_left _ hp))) h44) (fun _ _ _ _ hq => by obtain ⟨a50, n54, c51, Lb52, rfl, rfl, hz53⟩ := hq; exact ⟨_, _, _, _, rfl, rfl, hz53.flat (fun _ _ h => h)⟩) ?_; rintro _ F46 _ hF47 hd49 hn48 ⟨a50, n54, c51, Lb52, rfl, rfl, hz53⟩
 replace h_tries := h_tries.mono (iE_ok _) hF47
 replace h19 := h19.mono (slE_ok (iE_ok _)) hF47
 replace h22 := h22.mono (slE_ok (iE_ok _)) hF47
 replace hz26 := hz26.mono (prE_ok (slE_ok (iE_ok _)) (prE_ok (iE_ok _) (iE_ok _))) hF47
 replace hz40 := hz40.mono (prE_ok (iE_ok _) (iE_ok _)) hF47
 have hn56 := newp (Lb' := []) (by rfl) hd49 hn48
 replace hz53 := hz53.new fun p hp => hn56 p (by simp [hp])
 refine shO_L (lp (ln (lp (ln rfl)))) ?_
 refine kO (kf (fS (fS fO)) (kf (fS (fS fO)) kr)) ?_
 refine om rfl rfl (ox rfl rfl rfl (ox rfl rfl rfl (oa rfl rfl (oa rfl rfl (shO_nil (shW_seq ?_))))))
 obtain ⟨k, h57, r58⟩ := b1_ok r45; clear r45
 refine shW_join (fun e1 F1 L1 => F46 = F1 ∧ L1 = ((b30, .cells #[.slice a17 l.length c18, .slice a20 l2.length c21, .int .i64 n, .int .i64 n2, .slice a23 n27 c24] 26 (0, 0)) :: (Lb25 ++ (Lb39 ++ (Lb52 ++ [])))) ∧ e1.sub [(1, .slice tries_a tries.length tries_c), (5, .pointer (some ⟨b30, 0, none⟩)), (6, .slice a37 n41 c38), (8, .slice a50 n54 c51), (49, .bool k)]) ?_ ?_
 · clear r58
   refine shW_region (om rfl rfl ?_)
   refine ov (v_neq rfl rfl) rfl ?_
   refine om rfl rfl ?_
   by_cases c59 : n3 ≠ 0
   · have r60 := ite_t h57 c59; clear h57
     refine shO_off (b' := true) 46 rfl (Env.isT rfl c59) rfl rfl (shO_off (b' := true) 46 rfl (Env.isT rfl c59) rfl rfl ?_)
     refine ov (v_pick_t (evD_true rfl c59) rfl) rfl ?_
     refine shO_nil ?_
     obtain rfl := inj1 r60
     exact mi (kc (kd (kg (fS fP) (kg (fS fP) kr)))) ⟨rfl, rfl, (sc rfl (sc rfl (sc rfl (sc rfl (sc rfl (sn _))))))⟩
   have r61 := ite_f h57 c59; clear h57
   refine shO_on (b := false) 46 rfl (Env.isF rfl c59) (om rfl rfl (shO_on (b := false) 46 rfl (Env.isF rfl c59) ?_))
   refine ov (v_neq rfl rfl) rfl ?_
   refine ov (v_pick_f (evD_false rfl c59) rfl) rfl ?_
   refine shO_nil ?_
   obtain rfl := inj1 r61
   exact mi (kc (kd (kg (fS fP) (kg (fS fP) kr)))) ⟨rfl, rfl, (sc rfl (sc rfl (sc rfl (sc rfl (sc rfl (sn _))))))⟩
 rintro e1 _ _ ⟨rfl, rfl, he62⟩
 refine shW_env _ he62 ?_; clear he62
 refine shW_cond rfl (fun c63 => ?_) (fun c63 => ?_)
 · have r64 := bt r58 c63; clear r58
   refine wsr (oa rfl rfl (shO_nil ?_))
   refine kW kn ?_
   refine shW_ret (andThen_ret ?_)
   refine q_res1 Try.results4 (res_tmp rfl) (sr) ?_
   obtain rfl := inj1 r64
   exact rfl
 have r65 := bf r58 c63; clear r58
 refine shW_skip ?_
 refine shW_join (fun e1 F1 L1 => oyezlaw03_RoundLost_j1 tries l l2 n n2 l3 l4 l5 = some r ∧ FExt F46 F1 ∧ L1 = ((b30, .cells #[.slice a17 l.length c18, .slice a20 l2.length c21, .int .i64 n, .int .i64 n2, .slice a23 n27 c24] 26 (0, 0)) :: (Lb25 ++ (Lb39 ++ (Lb52 ++ [])))) ∧ e1.sub [(1, .slice tries_a tries.length tries_c), (5, .pointer (some ⟨b30, 0, none⟩)), (6, .slice a37 n41 c38), (8, .slice a50 n54 c51)]) ?_ ?_
 · refine wsr (om rfl rfl ?_)
   refine ov ((v_lenS Try.underlying35 rfl).i (SlR.lenI hz53)) rfl ?_
   refine om rfl rfl (shO_nil ?_)
   refine shW_block ?_
   refine shW_lp (fun fu2 e1 F1 L1 => ∃ (tl : List (Int × Int)) (k2 : Int), tl.length = fu2 ∧ Lst l5 k2 tl ∧ oyezlaw03_RoundLost_l2 tries l l2 n n2 l3 l4 l5 tl = some r ∧ FExt F46 F1 ∧ L1 = ((b30, .cells #[.slice a17 l.length c18, .slice a20 l2.length c21, .int .i64 n, .int .i64 n2, .slice a23 n27 c24] 26 (0, 0)) :: (Lb25 ++ (Lb39 ++ (Lb52 ++ [])))) ∧ e1.sub [(1, .slice tries_a tries.length tries_c), (5, .pointer (some ⟨b30, 0, none⟩)), (6, .slice a37 n41 c38), (8, .slice a50 n54 c51), (50, .slice a50 n54 c51), (51, .int .i64 (l5.length : Int)), (52, .int .i64 k2)]) _ (m0 kr ⟨_, _, rfl, Lst.start _, r65, FExt.refl _, rfl, (sc rfl (sc rfl (sc rfl (sc rfl (sc rfl (sc rfl (sc rfl (sn _))))))))⟩) ?_
   rintro fu2 e1 F70 _ ⟨tl, k2, hn67, hk66, r68, hF71, rfl, he69⟩
   refine shW_env _ he69 ?_; clear he69
   replace h19 := h19.mono (slE_ok (iE_ok _)) hF71
   replace h22 := h22.mono (slE_ok (iE_ok _)) hF71
   replace hz26 := hz26.mono (prE_ok (slE_ok (iE_ok _)) (prE_ok (iE_ok _) (iE_ok _))) hF71
   replace hz40 := hz40.mono (prE_ok (iE_ok _) (iE_ok _)) hF71
   replace hz53 := hz53.mono (prE_ok (iE_ok _) (iE_ok _)) hF71
   refine wsr ?_
   refine ov (v_lssK rfl rfl) rfl ?_
   refine shO_nil (shW_seq ?_)
   refine shW_condP rfl (fun c73 => ?_) (fun c73 => ?_)
   · obtain ⟨x, tl2, rfl, hx75, g76, hk74⟩ := Lst.succ hk66 c73
     rw [oyezlaw03_RoundLost_l2] at r68
     refine shW_skip ?_
     refine shW_join (fun e1 F1 L1 => oyezlaw03_RoundLost_j3 (oyezlaw03_RoundLost_l2 tries l l2 n n2 l3 l4 l5 tl2) = some r ∧ FExt F70 F1 ∧ L1 = ((b30, .cells #[.slice a17 l.length c18, .slice a20 l2.length c21, .int .i64 n, .int .i64 n2, .slice a23 n27 c24] 26 (0, 0)) :: (Lb25 ++ (Lb39 ++ (Lb52 ++ [])))) ∧ e1.sub [(1, .slice tries_a tries.length tries_c), (5, .pointer (some ⟨b30, 0, none⟩)), (6, .slice a37 n41 c38), (8, .slice a50 n54 c51), (50, .slice a50 n54 c51), (51, .int .i64 (l5.length : Int)), (52, .int .i64 k2)]) ?_ ?_
     · refine shW_block ?_
       refine wsr ?_
       obtain ⟨b77, o78, c79, vs80, ha81, hs82, hle83, ⟨_, _, rfl, rfl, rfl⟩, hl84, hc85⟩ := SlR.at (prE_ok (iE_ok _) (iE_ok _)) hz53 (L := (b30, .cells #[.slice a17 l.length c18, .slice a20 l2.length c21, .int .i64 n, .int .i64 n2, .slice a23 n27 c24] 26 (0, 0)) :: (Lb25 ++ (Lb39 ++ (Lb52 ++ [])))) (fC (fS (fS fP))) g76.1 hx75
       refine ov (v_indexO Try.underlying35 Try.sizeOf48 rfl ha81 rfl (SlR.idx hz53 g76)) rfl ?_
       refine ov (v_loadA (cs := #[.int .i64 x.1, .int .i64 x.2]) Try.isAgg48 Try.sizeOf48 rfl hs82 hle83 (extract_cells hle83 hl84 hc85)) rfl ?_
       refine o_alloc rfl Try.zeroValue48 ?_; intro b86 hb86
       refine o_storeA (i := 0) Try.sizeOf48 rfl rfl rfl (by simp [Value.oneCell']) rfl (Nat.le_of_ble_eq_true rfl) ?_
       refine shO_L (L' := (b86, .cells #[.int .i64 x.1, .int .i64 x.2] 48 (0, 0)) :: ((b30, .cells #[.slice a17 l.length c18, .slice a20 l2.length c21, .int .i64 n, .int .i64 n2, .slice a23 n27 c24] 26 (0, 0)) :: (Lb25 ++ (Lb39 ++ (Lb52 ++ []))))) rfl ?_
       refine shO_nil (shW_seq ?_)
       obtain ⟨k3, h87, r88⟩ := b1_ok r68; clear r68
       refine shW_join (fun e1 F1 L1 => F70 = F1 ∧ L1 = ((b86, .cells #[.int .i64 x.1, .int .i64 x.2] 48 (0, 0)) :: ((b30, .cells #[.slice a17 l.length c18, .slice a20 l2.length c21, .int .i64 n, .int .i64 n2, .slice a23 n27 c24] 26 (0, 0)) :: (Lb25 ++ (Lb39 ++ (Lb52 ++ []))))) ∧ e1.sub [(1, .slice tries_a tries.length tries_c), (5, .pointer (some ⟨b30, 0, none⟩)), (6, .slice a37 n41 c38), (8, .slice a50 n54 c51), (11, .pointer (some ⟨b86, 0, none⟩)), (50, .slice a50 n54 c51), (51, .int .i64 (l5.length : Int)), (52, .int .i64 k2), (78, .bool k3)]) ?_ ?_
       · clear r88
         refine shW_region ?_
         refine ov (v_fieldAddr fa_48_0 rfl) rfl ?_
         refine ov (v_load Try.isAgg3 rfl (Has.own 0 rfl) rfl) rfl ?_
         refine ov (v_lssK rfl rfl) rfl ?_
         refine om rfl rfl ?_
         by_cases c89 : x.1 < 0
         · have r90 := ite_t h87 c89; clear h87
           refine shO_off (b' := true) 59 rfl (Env.isT rfl c89) rfl rfl (shO_off (b' := true) 59 rfl (Env.isT rfl c89) rfl rfl (shO_off (b' := true) 59 rfl (Env.isT rfl c89) rfl rfl (shO_off (b' := true) 59 rfl (Env.isT rfl c89) rfl rfl (shO_off (b' := true) 59 rfl (Env.isT rfl c89) rfl rfl (shO_off (b' := true) 59 rfl (Env.isT rfl c89) rfl rfl ?_)))))
           refine ov (v_pick_t (evD_true rfl c89) rfl) rfl ?_
           refine om rfl rfl (shO_off (b' := true) 67 rfl rfl rfl rfl (shO_off (b' := true) 67 rfl rfl rfl rfl (shO_off (b' := true) 67 rfl rfl rfl rfl ?_)))
           refine ov (v_pick_t rfl rfl) rfl ?_
           refine om rfl rfl (shO_off (b' := true) 72 rfl rfl rfl rfl (shO_off (b' := true) 72 rfl rfl rfl rfl (shO_off (b' := true) 72 rfl rfl rfl rfl (shO_off (b' := true) 72 rfl rfl rfl rfl (shO_off (b' := true) 72 rfl rfl rfl rfl ?_)))))
           refine ov (v_pick_t rfl rfl) rfl ?_
           refine shO_nil ?_
           obtain rfl := inj1 r90
           exact mi kr ⟨rfl, rfl, (sc rfl (sc rfl (sc rfl (sc rfl (sc rfl (sc rfl (sc rfl (sc rfl (sc rfl (sn _))))))))))⟩
         have r91 := ite_f h87 c89; clear h87
         refine shO_on (b := false) 59 rfl (Env.isF rfl c89) ?_
         refine ov (v_fieldAddr fa_48_0 rfl) rfl ?_
         refine shO_on (b := false) 59 rfl (Env.isF rfl c89) ?_
         refine ov (v_load Try.isAgg3 rfl (Has.own 0 rfl) rfl) rfl ?_
         refine shO_on (b := false) 59 rfl (Env.isF rfl c89) ?_
         refine ov (v_fieldAddr fa_26_4 rfl) rfl ?_
         refine shO_on (b := false) 59 rfl (Env.isF rfl c89) ?_
         refine ov (v_load Try.isAgg24 rfl (Has.own 1 rfl) rfl) rfl ?_
         refine shO_on (b := false) 59 rfl (Env.isF rfl c89) ?_
         refine ov ((v_lenS Try.underlying24 rfl).i (SlR.lenI hz26)) rfl ?_
         refine shO_on (b := false) 59 rfl (Env.isF rfl c89) ?_
         refine ov (v_geqK rfl rfl) rfl ?_
         refine ov (v_pick_f (evD_false rfl c89) rfl) rfl ?_
         refine om rfl rfl ?_
         by_cases c92 : (l3.length : Int) ≤ x.1
         · have r93 := ite_t r91 c92; clear r91
           refine shO_off (b' := true) 67 rfl (Env.isT rfl c92) rfl rfl (shO_off (b' := true) 67 rfl (Env.isT rfl c92) rfl rfl (shO_off (b' := true) 67 rfl (Env.isT rfl c92) rfl rfl ?_))
           refine ov (v_pick_t (evD_true rfl c92) rfl) rfl ?_
           refine om rfl rfl (shO_off (b' := true) 72 rfl rfl rfl rfl (shO_off (b' := true) 72 rfl rfl rfl rfl (shO_off (b' := true) 72 rfl rfl rfl rfl (shO_off (b' := true) 72 rfl rfl rfl rfl (shO_off (b' := true) 72 rfl rfl rfl rfl ?_)))))
           refine ov (v_pick_t rfl rfl) rfl ?_
           refine shO_nil ?_
           obtain rfl := inj1 r93
           exact mi kr ⟨rfl, rfl, (sc rfl (sc rfl (sc rfl (sc rfl (sc rfl (sc rfl (sc rfl (sc rfl (sc rfl (sn _))))))))))⟩
         have r94 := ite_f r91 c92; clear r91
         refine shO_on (b := false) 67 rfl (Env.isF rfl c92) ?_
         refine ov (v_fieldAddr fa_48_1 rfl) rfl ?_
         refine shO_on (b := false) 67 rfl (Env.isF rfl c92) ?_
         refine ov (v_load Try.isAgg3 rfl (Has.own 0 rfl) rfl) rfl ?_
         refine shO_on (b := false) 67 rfl (Env.isF rfl c92) ?_
         refine ov (v_lssK rfl rfl) rfl ?_
         refine ov (v_pick_f (evD_false rfl c92) rfl) rfl ?_
         refine om rfl rfl ?_
         by_cases c95 : x.2 < 0
         · have r96 := ite_t r94 c95; clear r94
           refine shO_off (b' := true) 72 rfl (Env.isT rfl c95) rfl rfl (shO_off (b' := true) 72 rfl (Env.isT rfl c95) rfl rfl (shO_off (b' := true) 72 rfl (Env.isT rfl c95) rfl rfl (shO_off (b' := true) 72 rfl (Env.isT rfl c95) rfl rfl (shO_off (b' := true) 72 rfl (Env.isT rfl c95) rfl rfl ?_))))
           refine ov (v_pick_t (evD_true rfl c95) rfl) rfl ?_
           refine shO_nil ?_
           obtain rfl := inj1 r96
           exact mi kr ⟨rfl, rfl, (sc rfl (sc rfl (sc rfl (sc rfl (sc rfl (sc rfl (sc rfl (sc rfl (sc rfl (sn _))))))))))⟩
         have r97 := ite_f r94 c95; clear r94
         refine shO_on (b := false) 72 rfl (Env.isF rfl c95) ?_
         refine ov (v_fieldAddr fa_48_1 rfl) rfl ?_
         refine shO_on (b := false) 72 rfl (Env.isF rfl c95) ?_
         refine ov (v_load Try.isAgg3 rfl (Has.own 0 rfl) rfl) rfl ?_
         refine shO_on (b := false) 72 rfl (Env.isF rfl c95) ?_
         refine ov (v_fieldAddr fa_26_2 rfl) rfl ?_
         refine shO_on (b := false) 72 rfl (Env.isF rfl c95) ?_
         refine ov (v_load Try.isAgg3 rfl (Has.own 1 rfl) rfl) rfl ?_
         refine shO_on (b := false) 72 rfl (Env.isF rfl c95) ?_
         refine ov (v_geqK rfl rfl) rfl ?_
         refine ov (v_pick_f (evD_false rfl c95) rfl) rfl ?_
         refine shO_nil ?_
         obtain rfl := inj1 r97
         exact mi kr ⟨rfl, rfl, (sc rfl (sc rfl (sc rfl (sc rfl (sc rfl (sc rfl (sc rfl (sc rfl (sc rfl (sn _))))))))))⟩
       rintro e1 _ _ ⟨rfl, rfl, he98⟩
       refine shW_env _ he98 ?_; clear he98
       refine shW_cond rfl (fun c99 => ?_) (fun c99 => ?_)
       · have r100 := bt r88 c99; clear r88
         refine wsr (oa rfl rfl (shO_nil ?_))
         refine kW kn ?_
         refine shW_ret (andThen_ret (inBlock_ret (andThen_ret (andThen_ret (inBlock_ret (andThen_ret ?_))))))
         refine q_res1 Try.results4 (res_tmp rfl) (sr) ?_
         obtain rfl := inj1 r100
         exact rfl
       have r101 := bf r88 c99; clear r88
       refine shW_skip (wsr ?_)
       refine ov (v_loadA (cs := #[.slice a17 l.length c18, .slice a20 l2.length c21, .int .i64 n, .int .i64 n2, .slice a23 n27 c24]) Try.isAgg26 Try.sizeOf26 rfl (Has.own 1 rfl) (Nat.le_of_ble_eq_true rfl) rfl) rfl ?_
       refine ov (v_loadA (cs := #[.int .i64 x.1, .int .i64 x.2]) Try.isAgg48 Try.sizeOf48 rfl (Has.own 0 rfl) (Nat.le_of_ble_eq_true rfl) rfl) rfl ?_
       obtain ⟨n5, n6, h102, r103⟩ := b2_ok r101; clear r101
       refine o_callT (Lt := Lb25 ++ []) (Lr := (b86, .cells #[.int .i64 x.1, .int .i64 x.2] 48 (0, 0)) :: ((b30, .cells #[.slice a17 l.length c18, .slice a20 l2.length c21, .int .i64 n, .int .i64 n2, .slice a23 n27 c24] 26 (0, 0)) :: (Lb39 ++ (Lb52 ++ [])))) rfl Try.call15 rfl rfl rfl (pT ((fC (fC fP)).trans (pA pR)) (lp (ln rfl))) (fun F2 h2 h3 => by rw [(SlR.caps hz26).1]; exact round_Soonest_w (h19.mono (slE_ok (iE_ok _)) h2) (h22.mono (slE_ok (iE_ok _)) h2) (hz26.row (prE_ok (slE_ok (iE_ok _)) (prE_ok (iE_ok _) (iE_ok _))) h2 (fun p hp => h3 p (List.mem_append_left _ hp))) h102) ?_
       refine om rfl rfl (ox rfl rfl rfl (ox rfl rfl rfl (oa rfl rfl (oa rfl rfl (nsr ?_)))))
       refine ov (v_loadA (cs := #[.slice a17 l.length c18, .slice a20 l2.length c21, .int .i64 n, .int .i64 n2, .slice a23 n27 c24]) Try.isAgg26 Try.sizeOf26 rfl (Has.own 1 rfl) (Nat.le_of_ble_eq_true rfl) rfl) rfl ?_
       refine ov (v_loadA (cs := #[.int .i64 x.1, .int .i64 x.2]) Try.isAgg48 Try.sizeOf48 rfl (Has.own 0 rfl) (Nat.le_of_ble_eq_true rfl) rfl) rfl ?_
       refine o_buildSlice (cs := #[.int .i64 x.1, .int .i64 x.2]) rfl rfl (buildSlice_all slt_35 [.agg #[.int .i64 x.1, .int .i64 x.2]] rfl (by decide) (by simp [Value.cells]) (by decide)) ?_; intro b104 hb104
       refine shO_freeze 0 rfl hb104 ?_; intro F105 hF106 hz107
       refine shO_L (L' := (b86, .cells #[.int .i64 x.1, .int .i64 x.2] 48 (0, 0)) :: ((b30, .cells #[.slice a17 l.length c18, .slice a20 l2.length c21, .int .i64 n, .int .i64 n2, .slice a23 n27 c24] 26 (0, 0)) :: (Lb25 ++ (Lb39 ++ (Lb52 ++ []))))) rfl ?_
       replace h19 := h19.mono (slE_ok (iE_ok _)) hF106
       replace h22 := h22.mono (slE_ok (iE_ok _)) hF106
       replace hz26 := hz26.mono (prE_ok (slE_ok (iE_ok _)) (prE_ok (iE_ok _) (iE_ok _))) hF106
       replace hz40 := hz40.mono (prE_ok (iE_ok _) (iE_ok _)) hF106
       have h108 : RowR 2 (prE (iE .i64) (iE .i64)) F105 (some ⟨b104, 0, none⟩) 1 [(x.1, x.2)] := RowR.of_block (prE_ok (iE_ok _) (iE_ok _)) (vss := [[.int .i64 x.1, .int .i64 x.2]]) (xs := [(x.1, x.2)]) hz107 (.cons ⟨_, _, rfl, rfl, rfl⟩ .nil) rfl (by simp [maxLen])
       obtain ⟨ok, n7, h109, r110⟩ := b2_ok r103; clear r103
       refine o_callT (Lt := Lb25 ++ []) (Lr := (b86, .cells #[.int .i64 x.1, .int .i64 x.2] 48 (0, 0)) :: ((b30, .cells #[.slice a17 l.length c18, .slice a20 l2.length c21, .int .i64 n, .int .i64 n2, .slice a23 n27 c24] 26 (0, 0)) :: (Lb39 ++ (Lb52 ++ [])))) rfl Try.call12 rfl rfl rfl (pT ((fC (fC fP)).trans (pA pR)) (lp (ln rfl))) (fun F2 h2 h3 => by rw [(SlR.caps hz26).1]; exact round_Together_w (h19.mono (slE_ok (iE_ok _)) h2) (h22.mono (slE_ok (iE_ok _)) h2) (hz26.row (prE_ok (slE_ok (iE_ok _)) (prE_ok (iE_ok _) (iE_ok _))) h2 (fun p hp => h3 p (List.mem_append_left _ hp))) (h108.mono (prE_ok (iE_ok _) (iE_ok _)) h2) h109) ?_
       refine om rfl rfl (ox rfl rfl rfl (ox rfl rfl rfl (oa rfl rfl (oa rfl rfl (shO_nil (shW_seq ?_))))))
       obtain ⟨k4, h111, r112⟩ := b1_ok r110; clear r110
       refine shW_join (fun e1 F1 L1 => F105 = F1 ∧ L1 = ((b86, .cells #[.int .i64 x.1, .int .i64 x.2] 48 (0, 0)) :: ((b30, .cells #[.slice a17 l.length c18, .slice a20 l2.length c21, .int .i64 n, .int .i64 n2, .slice a23 n27 c24] 26 (0, 0)) :: (Lb25 ++ (Lb39 ++ (Lb52 ++ []))))) ∧ e1.sub [(1, .slice tries_a tries.length tries_c), (5, .pointer (some ⟨b30, 0, none⟩)), (6, .slice a37 n41 c38), (8, .slice a50 n54 c51), (11, .pointer (some ⟨b86, 0, none⟩)), (12, .int .i64 n5), (13, .int .i64 n6), (50, .slice a50 n54 c51), (51, .int .i64 (l5.length : Int)), (52, .int .i64 k2), (126, .bool k4)]) ?_ ?_
       · clear r112
         refine shW_region (om rfl rfl ?_)
         refine ov (v_neq rfl rfl) rfl ?_
         refine om rfl rfl ?_
         by_cases c113 : n7 ≠ 0
         · have r114 := ite_t h111 c113; clear h111
           refine shO_off (b' := true) 94 rfl (Env.isT rfl c113) rfl rfl (shO_off (b' := true) 94 rfl (Env.isT rfl c113) rfl rfl (shO_off (b' := true) 94 rfl (Env.isT rfl c113) rfl rfl (shO_off (b' := true) 94 rfl (Env.isT rfl c113) rfl rfl (shO_off (b' := true) 94 rfl (Env.isT rfl c113) rfl rfl ?_))))
           refine ov (v_pick_t (evD_true rfl c113) rfl) rfl ?_
           refine om rfl rfl (shO_off (b' := true) 101 rfl rfl rfl rfl (shO_off (b' := true) 101 rfl rfl rfl rfl (shO_offU 103 rfl rfl rfl (shO_offU 103 rfl rfl rfl (shO_offU 103 rfl rfl rfl (shO_offU 106 rfl rfl rfl (shO_offU 106 rfl rfl rfl (shO_offU 106 rfl rfl rfl (shO_offU 106 rfl rfl rfl ?_)))))))))
           refine shO_offU 106 rfl rfl rfl (shO_offU 106 rfl rfl rfl (shO_offU 106 rfl rfl rfl (shO_offU 106 rfl rfl rfl (shO_offU 106 rfl rfl rfl (shO_offU 103 rfl rfl rfl (shO_off (b' := true) 101 rfl rfl rfl rfl ?_))))))
           refine ov (v_pick_t rfl rfl) rfl ?_
           refine om rfl rfl (shO_off (b' := true) 119 rfl rfl rfl rfl (shO_off (b' := true) 119 rfl rfl rfl rfl (shO_off (b' := true) 119 rfl rfl rfl rfl (shO_offU 122 rfl rfl rfl (shO_offU 122 rfl rfl rfl (shO_off (b' := true) 119 rfl rfl rfl rfl ?_))))))
           refine ov (v_pick_t rfl rfl) rfl ?_
           refine shO_nil ?_
           obtain rfl := inj1 r114
           exact mi kr ⟨rfl, rfl, (sc rfl (sc rfl (sc rfl (sc rfl (sc rfl (sc rfl (sc rfl (sc rfl (sc rfl (sc rfl (sc rfl (sn _))))))))))))⟩
         have r115 := ite_f h111 c113; clear h111
         refine shO_on (b := false) 94 rfl (Env.isF rfl c113) (om rfl rfl (shO_on (b := false) 94 rfl (Env.isF rfl c113) (om rfl rfl (shO_on (b := false) 94 rfl (Env.isF rfl c113) ?_))))
         refine ov (v_loadA (cs := #[.int .i64 x.1, .int .i64 x.2]) Try.isAgg48 Try.sizeOf48 rfl (Has.own 0 rfl) (Nat.le_of_ble_eq_true rfl) rfl) rfl ?_
         refine shO_on (b := false) 94 rfl (Env.isF rfl c113) ?_
         obtain ⟨ok2, h116, r117⟩ := b1_ok r115; clear r115
         refine o_callT (Lt := Lb39 ++ []) (Lr := (b86, .cells #[.int .i64 x.1, .int .i64 x.2] 48 (0, 0)) :: ((b30, .cells #[.slice a17 l.length c18, .slice a20 l2.length c21, .int .i64 n, .int .i64 n2, .slice a23 n27 c24] 26 (0, 0)) :: (Lb25 ++ (Lb52 ++ [])))) rfl Try.call16 rfl rfl rfl (pT ((fC (fC (fS fP))).trans (pA pR)) (lp (ln rfl))) (fun F2 h2 h3 => by rw [(SlR.caps hz40).1]; exact slices_Contains_round_Pair_round_Pair_w (hz40.row (prE_ok (iE_ok _) (iE_ok _)) h2 (fun p hp => h3 p (List.mem_append_left _ hp))) h116) ?_
         refine shO_on (b := false) 94 rfl (Env.isF rfl c113) ?_
         refine ov (v_eqlB Try.underlying4 rfl rfl) rfl ?_
         refine ov (v_pick_f (evD_false rfl c113) rfl) rfl ?_
         refine om rfl rfl ?_
         by_cases c118 : ok = ok2
         · have r119 := ite_t r117 c118; clear r117
           refine shO_off (b' := true) 101 rfl (Env.isT rfl c118) rfl rfl (shO_off (b' := true) 101 rfl (Env.isT rfl c118) rfl rfl (shO_offU 103 rfl rfl rfl (shO_offU 103 rfl rfl rfl (shO_offU 103 rfl rfl rfl (shO_offU 106 rfl rfl rfl (shO_offU 106 rfl rfl rfl (shO_offU 106 rfl rfl rfl (shO_offU 106 rfl rfl rfl (shO_offU 106 rfl rfl rfl ?_)))))))))
           refine shO_offU 106 rfl rfl rfl (shO_offU 106 rfl rfl rfl (shO_offU 106 rfl rfl rfl (shO_offU 106 rfl rfl rfl (shO_offU 103 rfl rfl rfl (shO_off (b' := true) 101 rfl (Env.isT rfl c118) rfl rfl ?_)))))
           refine ov (v_pick_t (evD_true rfl c118) rfl) rfl ?_
           refine om rfl rfl (shO_off (b' := true) 119 rfl rfl rfl rfl (shO_off (b' := true) 119 rfl rfl rfl rfl (shO_off (b' := true) 119 rfl rfl rfl rfl (shO_offU 122 rfl rfl rfl (shO_offU 122 rfl rfl rfl (shO_off (b' := true) 119 rfl rfl rfl rfl ?_))))))
           refine ov (v_pick_t rfl rfl) rfl ?_
           refine shO_nil ?_
           obtain rfl := inj1 r119
           exact mi kr ⟨rfl, rfl, (sc rfl (sc rfl (sc rfl (sc rfl (sc rfl (sc rfl (sc rfl (sc rfl (sc rfl (sc rfl (sc rfl (sn _))))))))))))⟩
         have r120 := ite_f r117 c118; clear r117
         refine shO_on (b := false) 101 rfl (Env.isF rfl c118) (om rfl rfl (shO_on (b := false) 101 rfl (Env.isF rfl c118) (om rfl rfl ?_)))
         rcases bool_two ok with c121 | c121
         · have r122 := bt r120 c121; clear r120
           refine shO_on (b := true) 103 rfl (EnvB rfl c121) (om rfl rfl (shO_on (b := true) 103 rfl (EnvB rfl c121) ?_))
           refine ov (v_neq rfl rfl) rfl ?_
           refine shO_on (b := true) 103 rfl (EnvB rfl c121) (om rfl rfl ?_)
           by_cases c123 : n6 ≠ 0
           · have r124 := ite_t r122 c123; clear r122
             refine shO_off (b' := true) 106 rfl (Env.isT rfl c123) rfl rfl (shO_off (b' := true) 106 rfl (Env.isT rfl c123) rfl rfl (shO_off (b' := true) 106 rfl (Env.isT rfl c123) rfl rfl (shO_off (b' := true) 106 rfl (Env.isT rfl c123) rfl rfl (shO_off (b' := true) 106 rfl (Env.isT rfl c123) rfl rfl (shO_off (b' := true) 106 rfl (Env.isT rfl c123) rfl rfl (shO_off (b' := true) 106 rfl (Env.isT rfl c123) rfl rfl (shO_off (b' := true) 106 rfl (Env.isT rfl c123) rfl rfl (shO_off (b' := true) 106 rfl (Env.isT rfl c123) rfl rfl (shO_on (b := true) 103 rfl (EnvB rfl c121) ?_)))))))))
             refine ov (v_pick_t (evD_true rfl c123) rfl) rfl ?_
             refine shO_on (b := false) 101 rfl (Env.isF rfl c118) ?_
             refine ov (v_pick_t (evB rfl c121) rfl) rfl ?_
             refine ov (v_pick_f (evD_false rfl c118) rfl) rfl ?_
             refine om rfl rfl (shO_off (b' := true) 119 rfl rfl rfl rfl (shO_off (b' := true) 119 rfl rfl rfl rfl (shO_off (b' := true) 119 rfl rfl rfl rfl (shO_offU 122 rfl rfl rfl (shO_offU 122 rfl rfl rfl (shO_off (b' := true) 119 rfl rfl rfl rfl ?_))))))
             refine ov (v_pick_t rfl rfl) rfl ?_
             refine shO_nil ?_
             obtain rfl := inj1 r124
             exact mi kr ⟨rfl, rfl, (sc rfl (sc rfl (sc rfl (sc rfl (sc rfl (sc rfl (sc rfl (sc rfl (sc rfl (sc rfl (sc rfl (sn _))))))))))))⟩
           have r125 := ite_f r122 c123; clear r122
           refine shO_on (b := false) 106 rfl (Env.isF rfl c123) (om rfl rfl (shO_on (b := false) 106 rfl (Env.isF rfl c123) ?_))
           refine ov (v_fieldAddr fa_26_4 rfl) rfl ?_
           refine shO_on (b := false) 106 rfl (Env.isF rfl c123) ?_
           refine ov (v_load Try.isAgg24 rfl (Has.own 1 rfl) rfl) rfl ?_
           refine shO_on (b := false) 106 rfl (Env.isF rfl c123) ?_
           refine ov (v_fieldAddr fa_48_0 rfl) rfl ?_
           refine shO_on (b := false) 106 rfl (Env.isF rfl c123) ?_
           refine ov (v_load Try.isAgg3 rfl (Has.own 0 rfl) rfl) rfl ?_
           refine shO_on (b := false) 106 rfl (Env.isF rfl c123) ?_
           obtain ⟨x2, g126, hx127, r128⟩ := ix_ok r125; clear r125
           obtain ⟨b129, o130, c131, vs132, ha133, hs134, hle135, ⟨_, _, rfl, ⟨a138, c139, rfl, h140⟩, ⟨_, _, rfl, rfl, rfl⟩⟩, hl136, hc137⟩ := SlR.at (prE_ok (slE_ok (iE_ok _)) (prE_ok (iE_ok _) (iE_ok _))) hz26 (L := (b86, .cells #[.int .i64 x.1, .int .i64 x.2] 48 (0, 0)) :: ((b30, .cells #[.slice a17 l.length c18, .slice a20 l2.length c21, .int .i64 n, .int .i64 n2, .slice a23 n27 c24] 26 (0, 0)) :: (Lb25 ++ (Lb39 ++ (Lb52 ++ []))))) (fC (fC fP)) g126.1 hx127
           refine ov (v_indexO Try.underlying24 Try.sizeOf40 rfl ha133 rfl (SlR.idx hz26 g126)) rfl ?_
           refine shO_on (b := false) 106 rfl (Env.isF rfl c123) ?_
           refine ov (v_fieldAddr fa_40_2 rfl) rfl ?_
           refine shO_on (b := false) 106 rfl (Env.isF rfl c123) ?_
           refine ov (v_load Try.isAgg3 rfl hs134 (hc137 2 (by decide))) rfl ?_
           refine shO_on (b := false) 106 rfl (Env.isF rfl c123) ?_
           refine ov (v_gtrK rfl rfl) rfl ?_
           refine shO_on (b := true) 103 rfl (EnvB rfl c121) ?_
           refine ov (v_pick_f (evD_false rfl c123) rfl) rfl ?_
           refine shO_on (b := false) 101 rfl (Env.isF rfl c118) ?_
           refine ov (v_pick_t (evB rfl c121) rfl) rfl ?_
           refine ov (v_pick_f (evD_false rfl c118) rfl) rfl ?_
           refine om rfl rfl ?_
           by_cases c141 : x2.2.2 < n5
           · have r142 := ite_t r128 c141; clear r128
             refine shO_off (b' := true) 119 rfl (Env.isT rfl c141) rfl rfl (shO_off (b' := true) 119 rfl (Env.isT rfl c141) rfl rfl (shO_off (b' := true) 119 rfl (Env.isT rfl c141) rfl rfl (shO_offU 122 rfl rfl rfl (shO_offU 122 rfl rfl rfl (shO_off (b' := true) 119 rfl (Env.isT rfl c141) rfl rfl ?_)))))
             refine ov (v_pick_t (evD_true rfl c141) rfl) rfl ?_
             refine shO_nil ?_
             obtain rfl := inj1 r142
             exact mi kr ⟨rfl, rfl, (sc rfl (sc rfl (sc rfl (sc rfl (sc rfl (sc rfl (sc rfl (sc rfl (sc rfl (sc rfl (sc rfl (sn _))))))))))))⟩
           have r143 := ite_f r128 c141; clear r128
           refine shO_on (b := false) 119 rfl (Env.isF rfl c141) (om rfl rfl (shO_on (b := false) 119 rfl (Env.isF rfl c141) ?_))
           refine ov (v_neq rfl rfl) rfl ?_
           refine shO_on (b := false) 119 rfl (Env.isF rfl c141) (om rfl rfl (shO_off (b' := false) 122 rfl (Env.isF rfl c123) rfl rfl (shO_off (b' := false) 122 rfl (Env.isF rfl c123) rfl rfl (shO_on (b := false) 119 rfl (Env.isF rfl c141) ?_))))
           refine ov (v_pick_f (evD_false rfl c123) rfl) rfl ?_
           refine ov (v_pick_f (evD_false rfl c141) rfl) rfl ?_
           refine shO_nil ?_
           obtain rfl := inj1 r143
           exact mi kr ⟨rfl, rfl, (sc rfl (sc rfl (sc rfl (sc rfl (sc rfl (sc rfl (sc rfl (sc rfl (sc rfl (sc rfl (sc rfl (sn _))))))))))))⟩
         have r144 := bf r120 c121; clear r120
         refine shO_off (b' := false) 103 rfl (EnvB rfl c121) rfl rfl (shO_off (b' := false) 103 rfl (EnvB rfl c121) rfl rfl (shO_off (b' := false) 103 rfl (EnvB rfl c121) rfl rfl (shO_offU 106 rfl rfl rfl (shO_offU 106 rfl rfl rfl (shO_offU 106 rfl rfl rfl (shO_offU 106 rfl rfl rfl (shO_offU 106 rfl rfl rfl (shO_offU 106 rfl rfl rfl (shO_offU 106 rfl rfl rfl ?_)))))))))
         refine shO_offU 106 rfl rfl rfl (shO_offU 106 rfl rfl rfl (shO_off (b' := false) 103 rfl (EnvB rfl c121) rfl rfl (shO_on (b := false) 101 rfl (Env.isF rfl c118) ?_)))
         refine ov (v_pick_f (evB rfl c121) rfl) rfl ?_
         refine ov (v_pick_f (evD_false rfl c118) rfl) rfl ?_
         refine om rfl rfl (shO_on (b := false) 119 rfl rfl (om rfl rfl (shO_on (b := false) 119 rfl rfl ?_)))
         refine ov (v_neq rfl rfl) rfl ?_
         refine shO_on (b := false) 119 rfl rfl (om rfl rfl ?_)
         by_cases c145 : n6 ≠ 0
         · have r146 := ite_t r144 c145; clear r144
           refine shO_on (b := true) 122 rfl (Env.isT rfl c145) (om rfl rfl (shO_on (b := true) 122 rfl (Env.isT rfl c145) ?_))
           refine ov (v_neq rfl rfl) rfl ?_
           refine shO_on (b := false) 119 rfl rfl ?_
           refine ov (v_pick_t (evD_true rfl c145) rfl) rfl ?_
           refine ov (v_pick_f rfl rfl) rfl ?_
           refine shO_nil ?_
           obtain rfl := inj1 r146
           exact mi kr ⟨rfl, rfl, (sc rfl (sc rfl (sc rfl (sc rfl (sc rfl (sc rfl (sc rfl (sc rfl (sc rfl (sc rfl (sc rfl (sn _))))))))))))⟩
         have r147 := ite_f r144 c145; clear r144
         refine shO_off (b' := false) 122 rfl (Env.isF rfl c145) rfl rfl (shO_off (b' := false) 122 rfl (Env.isF rfl c145) rfl rfl (shO_on (b := false) 119 rfl rfl ?_))
         refine ov (v_pick_f (evD_false rfl c145) rfl) rfl ?_
         refine ov (v_pick_f rfl rfl) rfl ?_
         refine shO_nil ?_
         obtain rfl := inj1 r147
         exact mi kr ⟨rfl, rfl, (sc rfl (sc rfl (sc rfl (sc rfl (sc rfl (sc rfl (sc rfl (sc rfl (sc rfl (sc rfl (sc rfl (sn _))))))))))))⟩
       rintro e1 _ _ ⟨rfl, rfl, he148⟩
       refine shW_env _ he148 ?_; clear he148
       refine shW_cond rfl (fun c149 => ?_) (fun c149 => ?_)
       · have r150 := bt r112 c149; clear r112
         refine wsr (oa rfl rfl (shO_nil ?_))
         refine kW kn ?_
         refine shW_ret (andThen_ret (inBlock_ret (andThen_ret (andThen_ret (inBlock_ret (andThen_ret ?_))))))
         refine q_res1 Try.results4 (res_tmp rfl) (sr) ?_
         obtain rfl := inj1 r150
         exact rfl
       have r151 := bf r112 c149; clear r112
       refine shW_skip (wsr (oa rfl rfl (shO_nil ?_)))
       refine shW_join (fun e1 F1 L1 => ∃ (soon : Int), oyezlaw03_RoundLost_j4 n5 n6 (oyezlaw03_RoundLost_l2 tries l l2 n n2 l3 l4 l5 tl2) soon = some r ∧ FExt F105 F1 ∧ L1 = ((b30, .cells #[.slice a17 l.length c18, .slice a20 l2.length c21, .int .i64 n, .int .i64 n2, .slice a23 n27 c24] 26 (0, 0)) :: (Lb25 ++ (Lb39 ++ (Lb52 ++ [])))) ∧ e1.sub [(1, .slice tries_a tries.length tries_c), (5, .pointer (some ⟨b30, 0, none⟩)), (6, .slice a37 n41 c38), (8, .slice a50 n54 c51), (12, .int .i64 n5), (13, .int .i64 n6), (16, .int .i64 soon), (50, .slice a50 n54 c51), (51, .int .i64 (l5.length : Int)), (52, .int .i64 k2)]) ?_ ?_
       · refine wsr ?_
         refine ov (v_fieldAddr fa_26_1 rfl) rfl ?_
         refine ov (v_load Try.isAgg23 rfl (Has.own 1 rfl) rfl) rfl ?_
         refine ov (v_lenS Try.underlying23 rfl) rfl ?_
         refine om rfl rfl (shO_nil ?_)
         refine shW_block ?_
         refine shW_lp (fun fu5 e1 F1 L1 => ∃ (tl3 : List (List Int)) (k5 : Int), tl3.length = fu5 ∧ Lst l2 k5 tl3 ∧ ∃ (soon2 : Int), oyezlaw03_RoundLost_l5 l l2 n n2 l3 x n5 n6 (oyezlaw03_RoundLost_l2 tries l l2 n n2 l3 l4 l5 tl2) tl3 k5 soon2 = some r ∧ FExt F105 F1 ∧ L1 = ((b86, .cells #[.int .i64 x.1, .int .i64 x.2] 48 (0, 0)) :: ((b30, .cells #[.slice a17 l.length c18, .slice a20 l2.length c21, .int .i64 n, .int .i64 n2, .slice a23 n27 c24] 26 (0, 0)) :: (Lb25 ++ (Lb39 ++ (Lb52 ++ []))))) ∧ e1.sub [(1, .slice tries_a tries.length tries_c), (5, .pointer (some ⟨b30, 0, none⟩)), (6, .slice a37 n41 c38), (8, .slice a50 n54 c51), (11, .pointer (some ⟨b86, 0, none⟩)), (12, .int .i64 n5), (13, .int .i64 n6), (16, .int .i64 soon2), (50, .slice a50 n54 c51), (51, .int .i64 (l5.length : Int)), (52, .int .i64 k2), (128, .slice a20 l2.length c21), (129, .int .i64 (l2.length : Int)), (130, .int .i64 k5)]) _ (m0 kr ⟨_, _, rfl, Lst.start _, -1, r151, FExt.refl _, rfl, (sc rfl (sc rfl (sc rfl (sc rfl (sc rfl (sc rfl (sc rfl (sc rfl (sc rfl (sc rfl (sc rfl (sc rfl (sc rfl (sc rfl (sn _)))))))))))))))⟩) ?_
         rintro fu5 e1 F156 _ ⟨tl3, k5, hn153, hk152, soon2, r154, hF157, rfl, he155⟩
         refine shW_env _ he155 ?_; clear he155
         replace h19 := h19.mono (slE_ok (iE_ok _)) hF157
         replace h22 := h22.mono (slE_ok (iE_ok _)) hF157
         replace hz26 := hz26.mono (prE_ok (slE_ok (iE_ok _)) (prE_ok (iE_ok _) (iE_ok _))) hF157
         refine wsr ?_
         refine ov (v_lssK rfl rfl) rfl ?_
         refine shO_nil (shW_seq ?_)
         refine shW_condP rfl (fun c159 => ?_) (fun c159 => ?_)
         · obtain ⟨x3, tl4, rfl, hx161, g162, hk160⟩ := Lst.succ hk152 c159
           rw [oyezlaw03_RoundLost_l5] at r154
           refine shW_skip (shW_seq ?_)
           refine shW_block ?_
           refine wsr (om rfl rfl ?_)
           obtain ⟨b163, o164, c165, vs166, ha167, hs168, hle169, ⟨a172, c173, rfl, h174⟩, hl170, hc171⟩ := RowR.at (slE_ok (iE_ok _)) h22 ((b86, .cells #[.int .i64 x.1, .int .i64 x.2] 48 (0, 0)) :: ((b30, .cells #[.slice a17 l.length c18, .slice a20 l2.length c21, .int .i64 n, .int .i64 n2, .slice a23 n27 c24] 26 (0, 0)) :: (Lb25 ++ (Lb39 ++ (Lb52 ++ []))))) g162.1 hx161
           refine ov (v_indexO Try.underlying23 Try.sizeOf38 rfl ha167 rfl g162) rfl ?_
           refine ov (v_load Try.isAgg38 rfl hs168 (hc171 0 (by decide))) rfl ?_
           refine oa rfl rfl (oa rfl rfl (nsr ?_))
           refine ov (v_loadA (cs := #[.slice a17 l.length c18, .slice a20 l2.length c21, .int .i64 n, .int .i64 n2, .slice a23 n27 c24]) Try.isAgg26 Try.sizeOf26 rfl (Has.own 1 rfl) (Nat.le_of_ble_eq_true rfl) rfl) rfl ?_
           refine ov (v_fieldAddr fa_26_3 rfl) rfl ?_
           refine ov (v_load Try.isAgg3 rfl (Has.own 1 rfl) rfl) rfl ?_
           refine om rfl rfl ?_
           obtain ⟨n8, n9, h175, r176⟩ := b2_ok r154; clear r154
           refine o_callT (Lt := Lb25 ++ []) (Lr := (b86, .cells #[.int .i64 x.1, .int .i64 x.2] 48 (0, 0)) :: ((b30, .cells #[.slice a17 l.length c18, .slice a20 l2.length c21, .int .i64 n, .int .i64 n2, .slice a23 n27 c24] 26 (0, 0)) :: (Lb39 ++ (Lb52 ++ [])))) rfl Try.call17 rfl rfl rfl (pT ((fC (fC fP)).trans (pA pR)) (lp (ln rfl))) (fun F2 h2 h3 => by rw [(SlR.caps hz26).1]; exact round_Walk_w (h19.mono (slE_ok (iE_ok _)) h2) (h22.mono (slE_ok (iE_ok _)) h2) (hz26.row (prE_ok (slE_ok (iE_ok _)) (prE_ok (iE_ok _) (iE_ok _))) h2 (fun p hp => h3 p (List.mem_append_left _ hp))) h175) ?_
           refine om rfl rfl (ox rfl rfl rfl (ox rfl rfl rfl (oa rfl rfl (oa rfl rfl (nsr ?_)))))
           refine ov (v_loadA (cs := #[.slice a17 l.length c18, .slice a20 l2.length c21, .int .i64 n, .int .i64 n2, .slice a23 n27 c24]) Try.isAgg26 Try.sizeOf26 rfl (Has.own 1 rfl) (Nat.le_of_ble_eq_true rfl) rfl) rfl ?_
           refine om rfl rfl ?_
           refine ov (v_fieldAddr fa_48_0 rfl) rfl ?_
           refine ov (v_load Try.isAgg3 rfl (Has.own 0 rfl) rfl) rfl ?_
           refine ov (v_build (v := .agg #[.int .i64 k5, .int .i64 x.1]) rfl (by intro w; kernel_rfl)) rfl ?_
           refine o_buildSlice (cs := #[.int .i64 k5, .int .i64 x.1]) rfl rfl (buildSlice_all slt_30 [.agg #[.int .i64 k5, .int .i64 x.1]] rfl (by decide) (by simp [Value.cells]) (by decide)) ?_; intro b177 hb177
           refine shO_freeze 0 rfl hb177 ?_; intro F178 hF179 hz180
           refine shO_L (L' := (b86, .cells #[.int .i64 x.1, .int .i64 x.2] 48 (0, 0)) :: ((b30, .cells #[.slice a17 l.length c18, .slice a20 l2.length c21, .int .i64 n, .int .i64 n2, .slice a23 n27 c24] 26 (0, 0)) :: (Lb25 ++ (Lb39 ++ (Lb52 ++ []))))) rfl ?_
           replace h19 := h19.mono (slE_ok (iE_ok _)) hF179
           replace h22 := h22.mono (slE_ok (iE_ok _)) hF179
           replace h174 := h174.mono (iE_ok _) hF179
           replace hz26 := hz26.mono (prE_ok (slE_ok (iE_ok _)) (prE_ok (iE_ok _) (iE_ok _))) hF179
           have h181 : RowR 2 (prE (iE .i64) (iE .i64)) F178 (some ⟨b177, 0, none⟩) 1 [(k5, x.1)] := RowR.of_block (prE_ok (iE_ok _) (iE_ok _)) (vss := [[.int .i64 k5, .int .i64 x.1]]) (xs := [(k5, x.1)]) hz180 (.cons ⟨_, _, rfl, rfl, rfl⟩ .nil) rfl (by simp [maxLen])
           obtain ⟨l6, n10, h182, r183⟩ := b2_ok r176; clear r176
           refine o_callTO (Lb := []) (Lt := Lb25 ++ []) (Lr := (b86, .cells #[.int .i64 x.1, .int .i64 x.2] 48 (0, 0)) :: ((b30, .cells #[.slice a17 l.length c18, .slice a20 l2.length c21, .int .i64 n, .int .i64 n2, .slice a23 n27 c24] 26 (0, 0)) :: (Lb39 ++ (Lb52 ++ [])))) rfl Try.call18 rfl rfl rfl (pT ((fC (fC fP)).trans (pA pR)) (ln (lp (ln rfl)))) (fun F2 h2 h3 => by rw [(SlR.caps hz26).1]; exact round_Ends_w (h19.mono (slE_ok (iE_ok _)) h2) (h22.mono (slE_ok (iE_ok _)) h2) (hz26.row (prE_ok (slE_ok (iE_ok _)) (prE_ok (iE_ok _) (iE_ok _))) h2 (fun p hp => h3 p (List.mem_append_left _ hp))) (h181.mono (prE_ok (iE_ok _) (iE_ok _)) h2) h182) (fun _ _ _ _ hq => by obtain ⟨a188, n192, c189, Lb190, rfl, rfl, hz191⟩ := hq; exact ⟨_, _, _, _, rfl, rfl, hz191.flat (fun _ _ h => h)⟩) ?_; rintro _ F184 _ hF185 hd187 hn186 ⟨a188, n192, c189, Lb190, rfl, rfl, hz191⟩
           replace h22 := h22.mono (slE_ok (iE_ok _)) hF185
           replace h174 := h174.mono (iE_ok _) hF185
           replace hz26 := hz26.mono (prE_ok (slE_ok (iE_ok _)) (prE_ok (iE_ok _) (iE_ok _))) hF185
           have hn194 := newp (Lb' := []) (by rfl) hd187 hn186
           replace hz191 := hz191.new fun p hp => hn194 p (by simp [hp])
           refine shO_L (lp (ln (lp (ln rfl)))) ?_
           refine kO (kf (fS (fS fO)) (kf (fS (fS fO)) kr)) ?_
           refine om rfl rfl (ox rfl rfl rfl (ox rfl rfl rfl (oa rfl rfl (oa rfl rfl (shO_nil (shW_seq ?_))))))
           obtain ⟨k6, h195, r196⟩ := b1_ok r183; clear r183
           refine shW_join (fun e1 F1 L1 => F184 = F1 ∧ L1 = ((b86, .cells #[.int .i64 x.1, .int .i64 x.2] 48 (0, 0)) :: ((b30, .cells #[.slice a17 l.length c18, .slice a20 l2.length c21, .int .i64 n, .int .i64 n2, .slice a23 n27 c24] 26 (0, 0)) :: (Lb25 ++ (Lb39 ++ (Lb52 ++ (Lb190 ++ [])))))) ∧ e1.sub [(1, .slice tries_a tries.length tries_c), (5, .pointer (some ⟨b30, 0, none⟩)), (6, .slice a37 n41 c38), (8, .slice a50 n54 c51), (11, .pointer (some ⟨b86, 0, none⟩)), (12, .int .i64 n5), (13, .int .i64 n6), (16, .int .i64 soon2), (18, .slice a172 x3.length c173), (21, .slice a188 n192 c189), (22, .int .i64 n10), (50, .slice a50 n54 c51), (51, .int .i64 (l5.length : Int)), (52, .int .i64 k2), (128, .slice a20 l2.length c21), (129, .int .i64 (l2.length : Int)), (130, .int .i64 k5), (181, .bool k6)]) ?_ ?_
           · clear r196
             refine shW_draw (by kernel_rfl) (by kernel_rfl) (by kernel_rfl) ?_
             refine qm rfl rfl ?_
             refine qv (v_eql rfl rfl) rfl ?_
             refine qm rfl rfl ?_
             refine qv (v_eql rfl rfl) rfl ?_
             refine qv (v_neqB Try.underlying4 rfl rfl) rfl ?_
             refine qm rfl rfl ?_
             by_cases c197 : (decide (n9 = 0)) ≠ (decide (n10 = 0))
             · have r198 := ite_t h195 c197; clear h195
               refine shQ_off (b' := true) 158 rfl (Env.isT rfl c197) rfl rfl (shQ_off (b' := true) 158 rfl (Env.isT rfl c197) rfl rfl (shQ_off (b' := true) 158 rfl (Env.isT rfl c197) rfl rfl (shQ_offU 161 rfl rfl rfl (shQ_offU 161 rfl rfl rfl (shQ_offU 161 rfl rfl rfl (shQ_offU 161 rfl rfl rfl (shQ_offU 165 rfl rfl rfl (shQ_offU 165 rfl rfl rfl (shQ_offU 165 rfl rfl rfl ?_)))))))))
               refine shQ_offU 165 rfl rfl rfl (shQ_offU 165 rfl rfl rfl (shQ_offU 165 rfl rfl rfl (shQ_offU 165 rfl rfl rfl (shQ_offU 165 rfl rfl rfl (shQ_offU 165 rfl rfl rfl (shQ_offU 165 rfl rfl rfl (shQ_offU 165 rfl rfl rfl (shQ_offU 165 rfl rfl rfl (shQ_offU 165 rfl rfl rfl ?_)))))))))
               refine shQ_offU 161 rfl rfl rfl (shQ_off (b' := true) 158 rfl (Env.isT rfl c197) rfl rfl ?_)
               refine qv (v_pick_t (evD_true rfl c197) rfl) rfl ?_
               refine shQ_nil ?_
               obtain rfl := inj1 r198
               exact mi (kc (kc (kg (fS fP) (kg (fS fP) (kg (fS fP) kr))))) ⟨rfl, rfl, (sc rfl (sc rfl (sc rfl (sc rfl (sc rfl (sc rfl (sc rfl (sc rfl (sc rfl (sc rfl (sc rfl (sc rfl (sc rfl (sc rfl (sc rfl (sc rfl (sc rfl (sc rfl (sn _)))))))))))))))))))⟩
             have r199 := ite_f h195 c197; clear h195
             refine shQ_on (b := false) 158 rfl (Env.isF rfl c197) (qm rfl rfl (shQ_on (b := false) 158 rfl (Env.isF rfl c197) ?_))
             refine qv (v_eql rfl rfl) rfl ?_
             refine shQ_on (b := false) 158 rfl (Env.isF rfl c197) (qm rfl rfl ?_)
             by_cases c200 : n10 = 0
             · have r201 := ite_t r199 c200; clear r199
               refine shQ_on (b := true) 161 rfl (Env.isT rfl c200) (qm rfl rfl (shQ_on (b := true) 161 rfl (Env.isT rfl c200) ?_))
               refine qv ((v_lenS Try.underlying38 rfl).i (SlR.lenI hz191)) rfl ?_
               refine shQ_on (b := true) 161 rfl (Env.isT rfl c200) ?_
               refine qv (v_neq rfl rfl) rfl ?_
               refine shQ_on (b := true) 161 rfl (Env.isT rfl c200) (qm rfl rfl ?_)
               by_cases c202 : (l6.length : Int) ≠ 1
               · have r203 := ite_t r201 c202; clear r201
                 refine shQ_off (b' := true) 165 rfl (Env.isT rfl c202) rfl rfl (shQ_off (b' := true) 165 rfl (Env.isT rfl c202) rfl rfl (shQ_off (b' := true) 165 rfl (Env.isT rfl c202) rfl rfl (shQ_off (b' := true) 165 rfl (Env.isT rfl c202) rfl rfl (shQ_off (b' := true) 165 rfl (Env.isT rfl c202) rfl rfl (shQ_off (b' := true) 165 rfl (Env.isT rfl c202) rfl rfl (shQ_off (b' := true) 165 rfl (Env.isT rfl c202) rfl rfl (shQ_off (b' := true) 165 rfl (Env.isT rfl c202) rfl rfl (shQ_off (b' := true) 165 rfl (Env.isT rfl c202) rfl rfl (shQ_off (b' := true) 165 rfl (Env.isT rfl c202) rfl rfl ?_)))))))))
                 refine shQ_off (b' := true) 165 rfl (Env.isT rfl c202) rfl rfl (shQ_off (b' := true) 165 rfl (Env.isT rfl c202) rfl rfl (shQ_off (b' := true) 165 rfl (Env.isT rfl c202) rfl rfl (shQ_on (b := true) 161 rfl (Env.isT rfl c200) ?_)))
                 refine qv (v_pick_t (evD_true rfl c202) rfl) rfl ?_
                 refine shQ_on (b := false) 158 rfl (Env.isF rfl c197) ?_
                 refine qv (v_pick_t (evD_true rfl c200) rfl) rfl ?_
                 refine qv (v_pick_f (evD_false rfl c197) rfl) rfl ?_
                 refine shQ_nil ?_
                 obtain rfl := inj1 r203
                 exact mi (kc (kc (kg (fS fP) (kg (fS fP) (kg (fS fP) kr))))) ⟨rfl, rfl, (sc rfl (sc rfl (sc rfl (sc rfl (sc rfl (sc rfl (sc rfl (sc rfl (sc rfl (sc rfl (sc rfl (sc rfl (sc rfl (sc rfl (sc rfl (sc rfl (sc rfl (sc rfl (sn _)))))))))))))))))))⟩
               have r204 := ite_f r201 c202; clear r201
               refine shQ_on (b := false) 165 rfl (Env.isF rfl c202) (qm rfl rfl (shQ_on (b := false) 165 rfl (Env.isF rfl c202) ?_))
               obtain ⟨x4, g205, hx206, r207⟩ := ix_ok r204; clear r204
               obtain ⟨b208, o209, c210, vs211, ha212, hs213, hle214, rfl, hl215, hc216⟩ := SlR.at (iE_ok _) hz191 (L := (b86, .cells #[.int .i64 x.1, .int .i64 x.2] 48 (0, 0)) :: ((b30, .cells #[.slice a17 l.length c18, .slice a20 l2.length c21, .int .i64 n, .int .i64 n2, .slice a23 n27 c24] 26 (0, 0)) :: (Lb190 ++ (Lb25 ++ (Lb39 ++ (Lb52 ++ [])))))) (fC (fC fP)) g205.1 hx206
               refine qv (v_indexO Try.underlying38 Try.sizeOf3 rfl ha212 rfl (SlR.idx hz191 g205)) rfl ?_
               refine shQ_on (b := false) 165 rfl (Env.isF rfl c202) ?_
               refine qv (v_load Try.isAgg3 rfl hs213 (hc216 0 (by decide))) rfl ?_
               refine shQ_on (b := false) 165 rfl (Env.isF rfl c202) (qm rfl rfl (shQ_on (b := false) 165 rfl (Env.isF rfl c202) ?_))
               refine qv (v_fieldAddr fa_26_4 rfl) rfl ?_
               refine shQ_on (b := false) 165 rfl (Env.isF rfl c202) ?_
               refine qv (v_load Try.isAgg24 rfl (Has.own 1 rfl) rfl) rfl ?_
               refine shQ_on (b := false) 165 rfl (Env.isF rfl c202) ?_
               refine qv (v_fieldAddr fa_48_0 rfl) rfl ?_
               refine shQ_on (b := false) 165 rfl (Env.isF rfl c202) ?_
               refine qv (v_load Try.isAgg3 rfl (Has.own 0 rfl) rfl) rfl ?_
               refine shQ_on (b := false) 165 rfl (Env.isF rfl c202) ?_
               obtain ⟨x5, g217, hx218, r219⟩ := ix_ok r207; clear r207
               obtain ⟨b220, o221, c222, vs223, ha224, hs225, hle226, ⟨_, _, rfl, ⟨a229, c230, rfl, h231⟩, ⟨_, _, rfl, rfl, rfl⟩⟩, hl227, hc228⟩ := SlR.at (prE_ok (slE_ok (iE_ok _)) (prE_ok (iE_ok _) (iE_ok _))) hz26 (L := (b86, .cells #[.int .i64 x.1, .int .i64 x.2] 48 (0, 0)) :: ((b30, .cells #[.slice a17 l.length c18, .slice a20 l2.length c21, .int .i64 n, .int .i64 n2, .slice a23 n27 c24] 26 (0, 0)) :: (Lb190 ++ (Lb25 ++ (Lb39 ++ (Lb52 ++ [])))))) (fC (fC (fS fP))) g217.1 hx218
               refine qv (v_indexO Try.underlying24 Try.sizeOf40 rfl ha224 rfl (SlR.idx hz26 g217)) rfl ?_
               refine shQ_on (b := false) 165 rfl (Env.isF rfl c202) ?_
               refine qv (v_fieldAddr fa_40_1 rfl) rfl ?_
               refine shQ_on (b := false) 165 rfl (Env.isF rfl c202) ?_
               refine qv (v_load Try.isAgg3 rfl hs225 (hc228 1 (by decide))) rfl ?_
               refine shQ_on (b := false) 165 rfl (Env.isF rfl c202) ?_
               obtain ⟨g232, r233⟩ := gd_ok r219; clear r219
               refine qv (v_add rfl rfl g232) rfl ?_
               refine shQ_on (b := false) 165 rfl (Env.isF rfl c202) ?_
               refine qv (v_neq rfl rfl) rfl ?_
               refine shQ_on (b := true) 161 rfl (Env.isT rfl c200) ?_
               refine qv (v_pick_f (evD_false rfl c202) rfl) rfl ?_
               refine shQ_on (b := false) 158 rfl (Env.isF rfl c197) ?_
               refine qv (v_pick_t (evD_true rfl c200) rfl) rfl ?_
               refine qv (v_pick_f (evD_false rfl c197) rfl) rfl ?_
               refine shQ_nil ?_
               obtain rfl := inj1 r233
               exact mi (kc (kc (kg (fS fP) (kg (fS fP) (kg (fS fP) kr))))) ⟨rfl, rfl, (sc rfl (sc rfl (sc rfl (sc rfl (sc rfl (sc rfl (sc rfl (sc rfl (sc rfl (sc rfl (sc rfl (sc rfl (sc rfl (sc rfl (sc rfl (sc rfl (sc rfl (sc rfl (sn _)))))))))))))))))))⟩
             have r234 := ite_f r199 c200; clear r199
             refine shQ_off (b' := false) 161 rfl (Env.isF rfl c200) rfl rfl (shQ_off (b' := false) 161 rfl (Env.isF rfl c200) rfl rfl (shQ_off (b' := false) 161 rfl (Env.isF rfl c200) rfl rfl (shQ_off (b' := false) 161 rfl (Env.isF rfl c200) rfl rfl (shQ_offU 165 rfl rfl rfl (shQ_offU 165 rfl rfl rfl (shQ_offU 165 rfl rfl rfl (shQ_offU 165 rfl rfl rfl (shQ_offU 165 rfl rfl rfl (shQ_offU 165 rfl rfl rfl ?_)))))))))
             refine shQ_offU 165 rfl rfl rfl (shQ_offU 165 rfl rfl rfl (shQ_offU 165 rfl rfl rfl (shQ_offU 165 rfl rfl rfl (shQ_offU 165 rfl rfl rfl (shQ_offU 165 rfl rfl rfl (shQ_offU 165 rfl rfl rfl (shQ_off (b' := false) 161 rfl (Env.isF rfl c200) rfl rfl (shQ_on (b := false) 158 rfl (Env.isF rfl c197) ?_))))))))
             refine qv (v_pick_f (evD_false rfl c200) rfl) rfl ?_
             refine qv (v_pick_f (evD_false rfl c197) rfl) rfl ?_
             refine shQ_nil ?_
             obtain rfl := inj1 r234
             exact mi (kc (kc (kg (fS fP) (kg (fS fP) (kg (fS fP) kr))))) ⟨rfl, rfl, (sc rfl (sc rfl (sc rfl (sc rfl (sc rfl (sc rfl (sc rfl (sc rfl (sc rfl (sc rfl (sc rfl (sc rfl (sc rfl (sc rfl (sc rfl (sc rfl (sc rfl (sc rfl (sn _)))))))))))))))))))⟩
           rintro e1 _ _ ⟨rfl, rfl, he235⟩
           refine shW_env _ he235 ?_; clear he235
           refine shW_cond rfl (fun c236 => ?_) (fun c236 => ?_)
           · have r237 := bt r196 c236; clear r196
             refine wsr (oa rfl rfl (shO_nil ?_))
             refine kW kn ?_
             refine shW_ret (andThen_ret (inBlock_ret (andThen_ret (andThen_ret (inBlock_ret (andThen_ret (inBlock_ret (andThen_ret (andThen_ret ?_)))))))))
             refine inBlock_ret (andThen_ret ?_)
             refine q_res1 Try.results4 (res_tmp rfl) (sr) ?_
             obtain rfl := inj1 r237
             exact rfl
           have r238 := bf r196 c236; clear r196
           refine shW_skip ?_
           obtain ⟨k7, h239, r240⟩ := b1_ok r238; clear r238
           refine shW_join (fun e1 F1 L1 => F184 = F1 ∧ L1 = ((b86, .cells #[.int .i64 x.1, .int .i64 x.2] 48 (0, 0)) :: ((b30, .cells #[.slice a17 l.length c18, .slice a20 l2.length c21, .int .i64 n, .int .i64 n2, .slice a23 n27 c24] 26 (0, 0)) :: (Lb25 ++ (Lb39 ++ (Lb52 ++ (Lb190 ++ [])))))) ∧ e1.sub [(1, .slice tries_a tries.length tries_c), (5, .pointer (some ⟨b30, 0, none⟩)), (6, .slice a37 n41 c38), (8, .slice a50 n54 c51), (11, .pointer (some ⟨b86, 0, none⟩)), (12, .int .i64 n5), (13, .int .i64 n6), (16, .int .i64 soon2), (21, .slice a188 n192 c189), (50, .slice a50 n54 c51), (51, .int .i64 (l5.length : Int)), (52, .int .i64 k2), (128, .slice a20 l2.length c21), (129, .int .i64 (l2.length : Int)), (130, .int .i64 k5), (200, .bool k7)]) ?_ ?_
           · clear r240
             refine shW_region (om rfl rfl ?_)
             refine ov (v_eql rfl rfl) rfl ?_
             refine om rfl rfl ?_
             by_cases c241 : n10 = 0
             · have r242 := ite_t h239 c241; clear h239
               refine shO_on (b := true) 184 rfl (Env.isT rfl c241) (om rfl rfl (shO_on (b := true) 184 rfl (Env.isT rfl c241) ?_))
               refine ov (v_fieldAddr fa_48_1 rfl) rfl ?_
               refine shO_on (b := true) 184 rfl (Env.isT rfl c241) ?_
               refine ov (v_load Try.isAgg3 rfl (Has.own 0 rfl) rfl) rfl ?_
               refine shO_on (b := true) 184 rfl (Env.isT rfl c241) ?_
               obtain ⟨ok3, h243, r244⟩ := b1_ok r242; clear r242
               refine o_callV rfl Try.call19 rfl rfl rfl (slices_Contains_int_int_w h174 h243) ?_
               refine ov (v_pick_t (evD_true rfl c241) rfl) rfl ?_
               refine om rfl rfl ?_
               rcases bool_two ok3 with c245 | c245
               · have r246 := bt r244 c245; clear r244
                 refine shO_on (b := true) 190 rfl (EnvB rfl c245) (om rfl rfl (shO_on (b := true) 190 rfl (EnvB rfl c245) ?_))
                 refine ov (v_lssK rfl rfl) rfl ?_
                 refine shO_on (b := true) 190 rfl (EnvB rfl c245) (om rfl rfl ?_)
                 by_cases c247 : soon2 < 0
                 · have r248 := ite_t r246 c247; clear r246
                   refine shO_off (b' := true) 193 rfl (Env.isT rfl c247) rfl rfl (shO_off (b' := true) 193 rfl (Env.isT rfl c247) rfl rfl (shO_off (b' := true) 193 rfl (Env.isT rfl c247) rfl rfl (shO_off (b' := true) 193 rfl (Env.isT rfl c247) rfl rfl (shO_off (b' := true) 193 rfl (Env.isT rfl c247) rfl rfl (shO_on (b := true) 190 rfl (EnvB rfl c245) ?_)))))
                   refine ov (v_pick_t (evD_true rfl c247) rfl) rfl ?_
                   refine ov (v_pick_t (evB rfl c245) rfl) rfl ?_
                   refine shO_nil ?_
                   obtain rfl := inj1 r248
                   exact mi kr ⟨rfl, rfl, (sc rfl (sc rfl (sc rfl (sc rfl (sc rfl (sc rfl (sc rfl (sc rfl (sc rfl (sc rfl (sc rfl (sc rfl (sc rfl (sc rfl (sc rfl (sc rfl (sn _)))))))))))))))))⟩
                 have r249 := ite_f r246 c247; clear r246
                 refine shO_on (b := false) 193 rfl (Env.isF rfl c247) (om rfl rfl (shO_on (b := false) 193 rfl (Env.isF rfl c247) ?_))
                 obtain ⟨x6, g250, hx251, r252⟩ := ix_ok r249; clear r249
                 obtain ⟨b253, o254, c255, vs256, ha257, hs258, hle259, rfl, hl260, hc261⟩ := SlR.at (iE_ok _) hz191 (L := (b86, .cells #[.int .i64 x.1, .int .i64 x.2] 48 (0, 0)) :: ((b30, .cells #[.slice a17 l.length c18, .slice a20 l2.length c21, .int .i64 n, .int .i64 n2, .slice a23 n27 c24] 26 (0, 0)) :: (Lb25 ++ (Lb39 ++ (Lb52 ++ (Lb190 ++ [])))))) (fC (fC (fS (fS (fS fP))))) g250.1 hx251
                 refine ov (v_indexO Try.underlying38 Try.sizeOf3 rfl ha257 rfl (SlR.idx hz191 g250)) rfl ?_
                 refine shO_on (b := false) 193 rfl (Env.isF rfl c247) ?_
                 refine ov (v_load Try.isAgg3 rfl hs258 (hc261 0 (by decide))) rfl ?_
                 refine shO_on (b := false) 193 rfl (Env.isF rfl c247) (om rfl rfl (shO_on (b := false) 193 rfl (Env.isF rfl c247) ?_))
                 refine ov (v_lssK rfl rfl) rfl ?_
                 refine shO_on (b := true) 190 rfl (EnvB rfl c245) ?_
                 refine ov (v_pick_f (evD_false rfl c247) rfl) rfl ?_
                 refine ov (v_pick_t (evB rfl c245) rfl) rfl ?_
                 refine shO_nil ?_
                 obtain rfl := inj1 r252
                 exact mi kr ⟨rfl, rfl, (sc rfl (sc rfl (sc rfl (sc rfl (sc rfl (sc rfl (sc rfl (sc rfl (sc rfl (sc rfl (sc rfl (sc rfl (sc rfl (sc rfl (sc rfl (sc rfl (sn _)))))))))))))))))⟩
               have r262 := bf r244 c245; clear r244
               refine shO_off (b' := false) 190 rfl (EnvB rfl c245) rfl rfl (shO_off (b' := false) 190 rfl (EnvB rfl c245) rfl rfl (shO_off (b' := false) 190 rfl (EnvB rfl c245) rfl rfl (shO_offU 193 rfl rfl rfl (shO_offU 193 rfl rfl rfl (shO_offU 193 rfl rfl rfl (shO_offU 193 rfl rfl rfl (shO_offU 193 rfl rfl rfl (shO_off (b' := false) 190 rfl (EnvB rfl c245) rfl rfl ?_))))))))
               refine ov (v_pick_f (evB rfl c245) rfl) rfl ?_
               refine shO_nil ?_
               obtain rfl := inj1 r262
               exact mi kr ⟨rfl, rfl, (sc rfl (sc rfl (sc rfl (sc rfl (sc rfl (sc rfl (sc rfl (sc rfl (sc rfl (sc rfl (sc rfl (sc rfl (sc rfl (sc rfl (sc rfl (sc rfl (sn _)))))))))))))))))⟩
             have r263 := ite_f h239 c241; clear h239
             refine shO_off (b' := false) 184 rfl (Env.isF rfl c241) rfl rfl (shO_off (b' := false) 184 rfl (Env.isF rfl c241) rfl rfl (shO_off (b' := false) 184 rfl (Env.isF rfl c241) rfl rfl (shO_off (b' := false) 184 rfl (Env.isF rfl c241) rfl rfl ?_)))
             refine ov (v_pick_f (evD_false rfl c241) rfl) rfl ?_
             refine om rfl rfl (shO_off (b' := false) 190 rfl rfl rfl rfl (shO_off (b' := false) 190 rfl rfl rfl rfl (shO_off (b' := false) 190 rfl rfl rfl rfl (shO_offU 193 rfl rfl rfl (shO_offU 193 rfl rfl rfl (shO_offU 193 rfl rfl rfl (shO_offU 193 rfl rfl rfl (shO_offU 193 rfl rfl rfl (shO_off (b' := false) 190 rfl rfl rfl rfl ?_)))))))))
             refine ov (v_pick_f rfl rfl) rfl ?_
             refine shO_nil ?_
             obtain rfl := inj1 r263
             exact mi kr ⟨rfl, rfl, (sc rfl (sc rfl (sc rfl (sc rfl (sc rfl (sc rfl (sc rfl (sc rfl (sc rfl (sc rfl (sc rfl (sc rfl (sc rfl (sc rfl (sc rfl (sc rfl (sn _)))))))))))))))))⟩
           rintro e1 _ _ ⟨rfl, rfl, he264⟩
           refine shW_env _ he264 ?_; clear he264
           refine shW_cond rfl (fun c265 => ?_) (fun c265 => ?_)
           · have r266 := bt r240 c265; clear r240
             refine shW_region (om rfl rfl ?_)
             obtain ⟨x7, g267, hx268, r269⟩ := ix_ok r266; clear r266
             obtain ⟨b270, o271, c272, vs273, ha274, hs275, hle276, rfl, hl277, hc278⟩ := SlR.at (iE_ok _) hz191 (L := (b86, .cells #[.int .i64 x.1, .int .i64 x.2] 48 (0, 0)) :: ((b30, .cells #[.slice a17 l.length c18, .slice a20 l2.length c21, .int .i64 n, .int .i64 n2, .slice a23 n27 c24] 26 (0, 0)) :: (Lb25 ++ (Lb39 ++ (Lb52 ++ (Lb190 ++ [])))))) (fC (fC (fS (fS (fS fP))))) g267.1 hx268
             refine ov (v_indexO Try.underlying38 Try.sizeOf3 rfl ha274 rfl (SlR.idx hz191 g267)) rfl ?_
             refine ov (v_load Try.isAgg3 rfl hs275 (hc278 0 (by decide))) rfl ?_
             refine oa rfl rfl (shO_nil (inBlock_n (id := 3) (shW_region ?_)))
             refine ov (v_add rfl rfl (Lst.r64 hk152 c159 (RowR.lt h22))) rfl ?_
             refine om rfl rfl (shO_nil ?_)
             subst hn153; exact le (kc (kc (ka (ka (ka kn))))) ⟨_, _, rfl, hk160, x7, r269, ((hF157.trans hF179).trans hF185), rfl, (sc rfl (sc rfl (sc rfl (sc rfl (sc rfl (sc rfl (sc rfl (sc rfl (sc rfl (sc rfl (sc rfl (sc rfl (sc rfl (sc rfl (sn _)))))))))))))))⟩
           have r279 := bf r240 c265; clear r240
           refine shW_skip (inBlock_n (id := 3) (shW_region ?_))
           refine ov (v_add rfl rfl (Lst.r64 hk152 c159 (RowR.lt h22))) rfl ?_
           refine om rfl rfl (shO_nil ?_)
           subst hn153; exact le (kc (kc (ka (ka (ka kn))))) ⟨_, _, rfl, hk160, soon2, r279, ((hF157.trans hF179).trans hF185), rfl, (sc rfl (sc rfl (sc rfl (sc rfl (sc rfl (sc rfl (sc rfl (sc rfl (sc rfl (sc rfl (sc rfl (sc rfl (sc rfl (sc rfl (sn _)))))))))))))))⟩
         obtain rfl := Lst.zero hk152 c159
         rw [oyezlaw03_RoundLost_l5] at r154
         refine shW_exit (andThen_exit (andThen_exit ?_))
         refine inBlock_exit ?_
         exact mi (kd kr) ⟨soon2, r154, hF157, rfl, (sc rfl (sc rfl (sc rfl (sc rfl (sc rfl (sc rfl (sc rfl (sc rfl (sc rfl (sc rfl (sn _)))))))))))⟩
       rintro e1 F282 _ ⟨soon, r280, hF283, rfl, he281⟩
       refine shW_env _ he281 ?_; clear he281
       rw [oyezlaw03_RoundLost_j4] at r280
       obtain ⟨k8, h284, r285⟩ := b1_ok r280; clear r280
       refine shW_join (fun e1 F1 L1 => F282 = F1 ∧ L1 = ((b30, .cells #[.slice a17 l.length c18, .slice a20 l2.length c21, .int .i64 n, .int .i64 n2, .slice a23 n27 c24] 26 (0, 0)) :: (Lb25 ++ (Lb39 ++ (Lb52 ++ [])))) ∧ e1.sub [(1, .slice tries_a tries.length tries_c), (5, .pointer (some ⟨b30, 0, none⟩)), (6, .slice a37 n41 c38), (8, .slice a50 n54 c51), (50, .slice a50 n54 c51), (51, .int .i64 (l5.length : Int)), (52, .int .i64 k2), (218, .bool k8)]) ?_ ?_
       · clear r285
         refine shW_region (om rfl rfl ?_)
         refine ov (v_geqK rfl rfl) rfl ?_
         refine om rfl rfl ?_
         refine ov (v_eql rfl rfl) rfl ?_
         refine ov (v_neqB Try.underlying4 rfl rfl) rfl ?_
         refine om rfl rfl ?_
         by_cases c286 : (decide (0 ≤ soon)) ≠ (decide (n6 = 0))
         · have r287 := ite_t h284 c286; clear h284
           refine shO_off (b' := true) 210 rfl (Env.isT rfl c286) rfl rfl (shO_off (b' := true) 210 rfl (Env.isT rfl c286) rfl rfl (shO_off (b' := true) 210 rfl (Env.isT rfl c286) rfl rfl (shO_offU 213 rfl rfl rfl (shO_offU 213 rfl rfl rfl (shO_offU 213 rfl rfl rfl (shO_off (b' := true) 210 rfl (Env.isT rfl c286) rfl rfl ?_))))))
           refine ov (v_pick_t (evD_true rfl c286) rfl) rfl ?_
           refine shO_nil ?_
           obtain rfl := inj1 r287
           exact mi kr ⟨rfl, rfl, (sc rfl (sc rfl (sc rfl (sc rfl (sc rfl (sc rfl (sc rfl (sc rfl (sn _)))))))))⟩
         have r288 := ite_f h284 c286; clear h284
         refine shO_on (b := false) 210 rfl (Env.isF rfl c286) (om rfl rfl (shO_on (b := false) 210 rfl (Env.isF rfl c286) ?_))
         refine ov (v_eql rfl rfl) rfl ?_
         refine shO_on (b := false) 210 rfl (Env.isF rfl c286) (om rfl rfl ?_)
         by_cases c289 : n6 = 0
         · have r290 := ite_t r288 c289; clear r288
           refine shO_on (b := true) 213 rfl (Env.isT rfl c289) (om rfl rfl (shO_on (b := true) 213 rfl (Env.isT rfl c289) (om rfl rfl (shO_on (b := true) 213 rfl (Env.isT rfl c289) ?_))))
           refine ov (v_neq rfl rfl) rfl ?_
           refine shO_on (b := false) 210 rfl (Env.isF rfl c286) ?_
           refine ov (v_pick_t (evD_true rfl c289) rfl) rfl ?_
           refine ov (v_pick_f (evD_false rfl c286) rfl) rfl ?_
           refine shO_nil ?_
           obtain rfl := inj1 r290
           exact mi kr ⟨rfl, rfl, (sc rfl (sc rfl (sc rfl (sc rfl (sc rfl (sc rfl (sc rfl (sc rfl (sn _)))))))))⟩
         have r291 := ite_f r288 c289; clear r288
         refine shO_off (b' := false) 213 rfl (Env.isF rfl c289) rfl rfl (shO_off (b' := false) 213 rfl (Env.isF rfl c289) rfl rfl (shO_off (b' := false) 213 rfl (Env.isF rfl c289) rfl rfl (shO_on (b := false) 210 rfl (Env.isF rfl c286) ?_)))
         refine ov (v_pick_f (evD_false rfl c289) rfl) rfl ?_
         refine ov (v_pick_f (evD_false rfl c286) rfl) rfl ?_
         refine shO_nil ?_
         obtain rfl := inj1 r291
         exact mi kr ⟨rfl, rfl, (sc rfl (sc rfl (sc rfl (sc rfl (sc rfl (sc rfl (sc rfl (sc rfl (sn _)))))))))⟩
       rintro e1 _ _ ⟨rfl, rfl, he292⟩
       refine shW_env _ he292 ?_; clear he292
       refine shW_cond rfl (fun c293 => ?_) (fun c293 => ?_)
       · have r294 := bt r285 c293; clear r285
         refine wsr (oa rfl rfl (shO_nil ?_))
         refine kW kn ?_
         refine shW_ret (inBlock_ret (andThen_ret (andThen_ret (inBlock_ret (andThen_ret ?_)))))
         refine q_res1 Try.results4 (res_tmp rfl) (sr) ?_
         obtain rfl := inj1 r294
         exact rfl
       have r295 := bf r285 c293; clear r285
       refine shW_skip (inBlock_n (id := 1) ?_)
       exact mi kr ⟨r295, (hF106.trans hF283), rfl, (sc rfl (sc rfl (sc rfl (sc rfl (sc rfl (sc rfl (sc rfl (sn _))))))))⟩
     rintro e1 F298 _ ⟨r296, hF299, rfl, he297⟩
     refine shW_env _ he297 ?_; clear he297
     replace hz53 := hz53.mono (prE_ok (iE_ok _) (iE_ok _)) hF299
     rw [oyezlaw03_RoundLost_j3] at r296
     refine shW_region ?_
     refine ov (v_add rfl rfl (Lst.r64 hk66 c73 (SlR.llt hz53))) rfl ?_
     refine om rfl rfl (shO_nil ?_)
     subst hn67; exact le kr ⟨_, _, rfl, hk74, r296, (hF71.trans hF299), rfl, (sc rfl (sc rfl (sc rfl (sc rfl (sc rfl (sc rfl (sc rfl (sn _))))))))⟩
   obtain rfl := Lst.zero hk66 c73
   rw [oyezlaw03_RoundLost_l2] at r68
   refine shW_exit (andThen_exit (andThen_exit ?_))
   refine inBlock_exit ?_
   exact mi kr ⟨r68, hF71, rfl, (sc rfl (sc rfl (sc rfl (sc rfl (sn _)))))⟩
 rintro e1 F302 _ ⟨r300, hF303, rfl, he301⟩
 refine shW_env _ he301 ?_; clear he301
 replace h_tries := h_tries.mono (iE_ok _) hF303
 replace h19 := h19.mono (slE_ok (iE_ok _)) hF303
 replace h22 := h22.mono (slE_ok (iE_ok _)) hF303
 replace hz26 := hz26.mono (prE_ok (slE_ok (iE_ok _)) (prE_ok (iE_ok _) (iE_ok _))) hF303
 replace hz40 := hz40.mono (prE_ok (iE_ok _) (iE_ok _)) hF303
 replace hz53 := hz53.mono (prE_ok (iE_ok _) (iE_ok _)) hF303
 rw [oyezlaw03_RoundLost_j1] at r300
 refine shW_seq (wsr ?_)
 refine ov (v_loadA (cs := #[.slice a17 l.length c18, .slice a20 l2.length c21, .int .i64 n, .int .i64 n2, .slice a23 n27 c24]) Try.isAgg26 Try.sizeOf26 rfl (Has.own 0 rfl) (Nat.le_of_ble_eq_true rfl) rfl) rfl ?_
 obtain ⟨l7, n11, h304, r305⟩ := b2_ok r300; clear r300
 refine o_callTO (Lb := []) (Lt := Lb25 ++ []) (Lr := (b30, .cells #[.slice a17 l.length c18, .slice a20 l2.length c21, .int .i64 n, .int .i64 n2, .slice a23 n27 c24] 26 (0, 0)) :: (Lb39 ++ (Lb52 ++ []))) rfl Try.call20 rfl rfl rfl (pT ((fC fP).trans (pA pR)) (ln (lp (ln rfl)))) (fun F2 h2 h3 => by rw [(SlR.caps hz26).1]; exact round_Excludes_w (h19.mono (slE_ok (iE_ok _)) h2) (h22.mono (slE_ok (iE_ok _)) h2) (hz26.row (prE_ok (slE_ok (iE_ok _)) (prE_ok (iE_ok _) (iE_ok _))) h2 (fun p hp => h3 p (List.mem_append_left _ hp))) h304) (fun _ _ _ _ hq => by obtain ⟨a310, n314, c311, Lb312, rfl, rfl, hz313⟩ := hq; exact ⟨_, _, _, _, rfl, rfl, hz313.flat (fun _ _ h => h)⟩) ?_; rintro _ F306 _ hF307 hd309 hn308 ⟨a310, n314, c311, Lb312, rfl, rfl, hz313⟩
 replace h_tries := h_tries.mono (iE_ok _) hF307
 replace h19 := h19.mono (slE_ok (iE_ok _)) hF307
 replace h22 := h22.mono (slE_ok (iE_ok _)) hF307
 replace hz26 := hz26.mono (prE_ok (slE_ok (iE_ok _)) (prE_ok (iE_ok _) (iE_ok _))) hF307
 replace hz40 := hz40.mono (prE_ok (iE_ok _) (iE_ok _)) hF307
 replace hz53 := hz53.mono (prE_ok (iE_ok _) (iE_ok _)) hF307
 have hn316 := newp (Lb' := []) (by rfl) hd309 hn308
 replace hz313 := hz313.new fun p hp => hn316 p (by simp [hp])
 refine shO_L (lp (ln (lp (ln rfl)))) ?_
 refine kO (kf (fS (fS fO)) kr) ?_
 refine om rfl rfl (ox rfl rfl rfl (ox rfl rfl rfl (oa rfl rfl (oa rfl rfl (shO_nil ?_)))))
 obtain ⟨k9, h317, r318⟩ := b1_ok r305; clear r305
 refine shW_join (fun e1 F1 L1 => F306 = F1 ∧ L1 = ((b30, .cells #[.slice a17 l.length c18, .slice a20 l2.length c21, .int .i64 n, .int .i64 n2, .slice a23 n27 c24] 26 (0, 0)) :: (Lb25 ++ (Lb52 ++ []))) ∧ e1.sub [(1, .slice tries_a tries.length tries_c), (5, .pointer (some ⟨b30, 0, none⟩)), (8, .slice a50 n54 c51), (245, .bool k9)]) ?_ ?_
 · clear r318
   refine shW_draw (by kernel_rfl) (by kernel_rfl) (by kernel_rfl) ?_
   refine qm rfl rfl ?_
   refine qv ((v_lenS Try.underlying35 rfl).i (SlR.lenI hz40)) rfl ?_
   refine qv (v_gtrK rfl rfl) rfl ?_
   refine qm rfl rfl ?_
   by_cases c319 : 0 < (l4.length : Int)
   · have r320 := ite_t h317 c319; clear h317
     refine shQ_on (b := true) 228 rfl (Env.isT rfl c319) (qm rfl rfl (shQ_on (b := true) 228 rfl (Env.isT rfl c319) ?_))
     refine qv (v_neq rfl rfl) rfl ?_
     refine shQ_on (b := true) 228 rfl (Env.isT rfl c319) (qm rfl rfl ?_)
     by_cases c321 : n11 ≠ 0
     · have r322 := ite_t r320 c321; clear r320
       refine shQ_off (b' := true) 231 rfl (Env.isT rfl c321) rfl rfl (shQ_off (b' := true) 231 rfl (Env.isT rfl c321) rfl rfl (shQ_off (b' := true) 231 rfl (Env.isT rfl c321) rfl rfl (shQ_on (b := true) 228 rfl (Env.isT rfl c319) ?_)))
       refine qv (v_pick_t (evD_true rfl c321) rfl) rfl ?_
       refine shQ_on (b := true) 228 rfl (Env.isT rfl c319) (qm rfl rfl (shQ_off (b' := true) 236 rfl rfl rfl rfl (shQ_off (b' := true) 236 rfl rfl rfl rfl (shQ_off (b' := true) 236 rfl rfl rfl rfl (shQ_off (b' := true) 236 rfl rfl rfl rfl (shQ_off (b' := true) 236 rfl rfl rfl rfl (shQ_off (b' := true) 236 rfl rfl rfl rfl (shQ_off (b' := true) 236 rfl rfl rfl rfl (shQ_on (b := true) 228 rfl (Env.isT rfl c319) ?_)))))))))
       refine qv (v_pick_t rfl rfl) rfl ?_
       refine qv (v_pick_t (evD_true rfl c319) rfl) rfl ?_
       refine shQ_nil ?_
       obtain rfl := inj1 r322
       exact mi (kc (kx (ka (kx kr)))) ⟨rfl, rfl, (sc rfl (sc rfl (sc rfl (sc rfl (sn _)))))⟩
     have r323 := ite_f r320 c321; clear r320
     refine shQ_on (b := false) 231 rfl (Env.isF rfl c321) (qm rfl rfl (shQ_on (b := false) 231 rfl (Env.isF rfl c321) ?_))
     refine qv ((v_lenS Try.underlying35 rfl).i (SlR.lenI hz313)) rfl ?_
     refine shQ_on (b := false) 231 rfl (Env.isF rfl c321) ?_
     refine qv (v_neq rfl rfl) rfl ?_
     refine shQ_on (b := true) 228 rfl (Env.isT rfl c319) ?_
     refine qv (v_pick_f (evD_false rfl c321) rfl) rfl ?_
     refine shQ_on (b := true) 228 rfl (Env.isT rfl c319) (qm rfl rfl ?_)
     by_cases c324 : (l7.length : Int) ≠ 1
     · have r325 := ite_t r323 c324; clear r323
       refine shQ_off (b' := true) 236 rfl (Env.isT rfl c324) rfl rfl (shQ_off (b' := true) 236 rfl (Env.isT rfl c324) rfl rfl (shQ_off (b' := true) 236 rfl (Env.isT rfl c324) rfl rfl (shQ_off (b' := true) 236 rfl (Env.isT rfl c324) rfl rfl (shQ_off (b' := true) 236 rfl (Env.isT rfl c324) rfl rfl (shQ_off (b' := true) 236 rfl (Env.isT rfl c324) rfl rfl (shQ_off (b' := true) 236 rfl (Env.isT rfl c324) rfl rfl (shQ_on (b := true) 228 rfl (Env.isT rfl c319) ?_)))))))
       refine qv (v_pick_t (evD_true rfl c324) rfl) rfl ?_
       refine qv (v_pick_t (evD_true rfl c319) rfl) rfl ?_
       refine shQ_nil ?_
       obtain rfl := inj1 r325
       exact mi (kc (kx (ka (kx kr)))) ⟨rfl, rfl, (sc rfl (sc rfl (sc rfl (sc rfl (sn _)))))⟩
     have r326 := ite_f r323 c324; clear r323
     refine shQ_on (b := false) 236 rfl (Env.isF rfl c324) (qm rfl rfl (shQ_on (b := false) 236 rfl (Env.isF rfl c324) ?_))
     obtain ⟨x8, g327, hx328, r329⟩ := ix_ok r326; clear r326
     obtain ⟨b330, o331, c332, vs333, ha334, hs335, hle336, ⟨_, _, rfl, rfl, rfl⟩, hl337, hc338⟩ := SlR.at (prE_ok (iE_ok _) (iE_ok _)) hz313 (L := (b30, .cells #[.slice a17 l.length c18, .slice a20 l2.length c21, .int .i64 n, .int .i64 n2, .slice a23 n27 c24] 26 (0, 0)) :: (Lb312 ++ (Lb25 ++ (Lb39 ++ (Lb52 ++ []))))) (fC fP) g327.1 hx328
     refine qv (v_indexO Try.underlying35 Try.sizeOf48 rfl ha334 rfl (SlR.idx hz313 g327)) rfl ?_
     refine shQ_on (b := false) 236 rfl (Env.isF rfl c324) ?_
     refine qv (v_loadA (cs := #[.int .i64 x8.1, .int .i64 x8.2]) Try.isAgg48 Try.sizeOf48 rfl hs335 hle336 (extract_cells hle336 hl337 hc338)) rfl ?_
     refine shQ_on (b := false) 236 rfl (Env.isF rfl c324) (qm rfl rfl (shQ_on (b := false) 236 rfl (Env.isF rfl c324) ?_))
     obtain ⟨x9, g339, hx340, r341⟩ := ix_ok r329; clear r329
     obtain ⟨b342, o343, c344, vs345, ha346, hs347, hle348, ⟨_, _, rfl, rfl, rfl⟩, hl349, hc350⟩ := SlR.at (prE_ok (iE_ok _) (iE_ok _)) hz40 (L := (b30, .cells #[.slice a17 l.length c18, .slice a20 l2.length c21, .int .i64 n, .int .i64 n2, .slice a23 n27 c24] 26 (0, 0)) :: (Lb312 ++ (Lb25 ++ (Lb39 ++ (Lb52 ++ []))))) (fC (fS (fS fP))) g339.1 hx340
     refine qv (v_indexO Try.underlying35 Try.sizeOf48 rfl ha346 rfl (SlR.idx hz40 g339)) rfl ?_
     refine shQ_on (b := false) 236 rfl (Env.isF rfl c324) ?_
     refine qv (v_loadA (cs := #[.int .i64 x9.1, .int .i64 x9.2]) Try.isAgg48 Try.sizeOf48 rfl hs347 hle348 (extract_cells hle348 hl349 hc350)) rfl ?_
     refine shQ_on (b := false) 236 rfl (Env.isF rfl c324) ?_
     refine qv (v_neA (eqgn_48 _ _ _ _) (fun w => ne_of_eq (eq_48 _ _ _ _ w)) rfl rfl) rfl ?_
     refine shQ_on (b := true) 228 rfl (Env.isT rfl c319) ?_
     refine qv (v_pick_f (evD_false rfl c324) rfl) rfl ?_
     refine qv (v_pick_t (evD_true rfl c319) rfl) rfl ?_
     refine shQ_nil ?_
     obtain rfl := inj1 r341
     exact mi (kc (kx (ka (kx kr)))) ⟨rfl, rfl, (sc rfl (sc rfl (sc rfl (sc rfl (sn _)))))⟩
   have r351 := ite_f h317 c319; clear h317
   refine shQ_off (b' := false) 228 rfl (Env.isF rfl c319) rfl rfl (shQ_off (b' := false) 228 rfl (Env.isF rfl c319) rfl rfl (shQ_off (b' := false) 228 rfl (Env.isF rfl c319) rfl rfl (shQ_offU 231 rfl rfl rfl (shQ_offU 231 rfl rfl rfl (shQ_offU 231 rfl rfl rfl (shQ_off (b' := false) 228 rfl (Env.isF rfl c319) rfl rfl (shQ_off (b' := false) 228 rfl (Env.isF rfl c319) rfl rfl (shQ_offU 236 rfl rfl rfl (shQ_offU 236 rfl rfl rfl ?_)))))))))
   refine shQ_offU 236 rfl rfl rfl (shQ_offU 236 rfl rfl rfl (shQ_offU 236 rfl rfl rfl (shQ_offU 236 rfl rfl rfl (shQ_offU 236 rfl rfl rfl (shQ_off (b' := false) 228 rfl (Env.isF rfl c319) rfl rfl ?_)))))
   refine qv (v_pick_f (evD_false rfl c319) rfl) rfl ?_
   refine shQ_nil ?_
   obtain rfl := inj1 r351
   exact mi (kc (kx (ka (kx kr)))) ⟨rfl, rfl, (sc rfl (sc rfl (sc rfl (sc rfl (sn _)))))⟩
 rintro e1 _ _ ⟨rfl, rfl, he352⟩
 refine shW_env _ he352 ?_; clear he352
 refine shW_cond rfl (fun c353 => ?_) (fun c353 => ?_)
 · have r354 := bt r318 c353; clear r318
   refine wsr (oa rfl rfl (shO_nil ?_))
   refine kW kn ?_
   refine shW_ret (andThen_ret ?_)
   refine q_res1 Try.results4 (res_tmp rfl) (sr) ?_
   obtain rfl := inj1 r354
   exact rfl
 have r355 := bf r318 c353; clear r318
 refine shW_skip (shW_seq ?_)
 refine shW_drawM [(.still, 0), (.still, 2), (.seq, 1), (.seq, 3), (.still, 4)] (by kernel_rfl) (by kernel_rfl) (trivial) (by rfl) (by kernel_rfl) ?_
 refine shM_v (v := .slice tries_a tries.length tries_c) (ek := [(1, .slice tries_a tries.length tries_c)]) (Ls := []) rfl rfl rfl rfl ((sc rfl (sn _))) (by kernel_rfl) sm (fun H F' L' hF' hL' => v_move rfl) ?_
 refine shM_v (v := .agg #[.slice a17 l.length c18, .slice a20 l2.length c21, .int .i64 n, .int .i64 n2, .slice a23 n27 c24]) (ek := [(5, .pointer (some ⟨b30, 0, none⟩))]) (Ls := [(b30, .cells #[.slice a17 l.length c18, .slice a20 l2.length c21, .int .i64 n, .int .i64 n2, .slice a23 n27 c24] 26 (0, 0))]) rfl rfl rfl rfl ((sc rfl (sn _))) (by kernel_rfl) (s0 (s2 (s3 (s3 sr)))) (fun H F' L' hF' hL' => v_loadA (cs := #[.slice a17 l.length c18, .slice a20 l2.length c21, .int .i64 n, .int .i64 n2, .slice a23 n27 c24]) Try.isAgg26 Try.sizeOf26 rfl ((Has.own 0 rfl).ext hF' hL') (Nat.le_of_ble_eq_true rfl) rfl) ?_
 refine ⟨_, [(246, .slice tries_a tries.length tries_c)], rfl, rfl, (sc rfl (sn _)), by kernel_rfl, ?_⟩; intro H
 obtain ⟨metal2, at_3, turn3, h356, r357⟩ := b3_ok r355; clear r355
 refine o_call0 rfl Try.call7 rfl rfl rfl (oyezkit_Hang_w h_tries h356) ?_; rintro _ F358 _ hF359 hn360 ⟨b362, a363, c364, rfl, rfl, h365⟩
 replace h19 := h19.mono (slE_ok (iE_ok _)) hF359
 replace h22 := h22.mono (slE_ok (iE_ok _)) hF359
 replace hz26 := hz26.mono (prE_ok (slE_ok (iE_ok _)) (prE_ok (iE_ok _) (iE_ok _))) hF359
 replace hz53 := hz53.mono (prE_ok (iE_ok _) (iE_ok _)) hF359
 refine shO_L (lb (ln rfl)) ?_
 refine shO_nil ⟨_, rfl, hF359, [2], by kernel_rfl, .inl (.inr (fun d h => by cases h; rfl)), (List.forall_mem_cons.2 ⟨s0 (s1 (s2 (s3 (s3 sr)))), (fun _ h => absurd h List.not_mem_nil)⟩), ?_⟩
 refine ⟨_, [(247, .pointer (some ⟨b362, 0, none⟩)), (248, .agg #[.slice a17 l.length c18, .slice a20 l2.length c21, .int .i64 n, .int .i64 n2, .slice a23 n27 c24])], rfl, rfl, (sc rfl (sc rfl (sn _))), by kernel_rfl, ?_⟩; intro H
 obtain ⟨l8, at_4, turn4, h366, r367⟩ := b3_ok r357; clear r357
 refine o_callTO (Lb := [(b362, .cells #[.slice a363 metal2.length c364, .int .i64 at_3, .int .u32 turn3] 72 (0, 0))]) (Lt := Lb25 ++ []) (Lr := (b30, .cells #[.slice a17 l.length c18, .slice a20 l2.length c21, .int .i64 n, .int .i64 n2, .slice a23 n27 c24] 26 (0, 0)) :: (Lb52 ++ [])) rfl Try.call21 rfl rfl rfl (pT (pC ((fC fP).trans (pA pR))) (lb (ln (lp (ln rfl))))) (fun F2 h2 h3 => by rw [(SlR.caps hz26).1]; exact oyezlaw03_gone_w (h365.mono (iE_ok _) h2) (h19.mono (slE_ok (iE_ok _)) h2) (h22.mono (slE_ok (iE_ok _)) h2) (hz26.row (prE_ok (slE_ok (iE_ok _)) (prE_ok (iE_ok _) (iE_ok _))) h2 (fun p hp => h3 p (List.mem_append_left _ hp))) h366) (fun _ _ _ _ hq => by obtain ⟨a372, n376, c373, Lb374, rfl, rfl, hz375⟩ := hq; exact ⟨_, _, _, _, rfl, rfl, hz375.flat (fun _ _ h => h)⟩) ?_; rintro _ F368 _ hF369 hd371 hn370 ⟨a372, n376, c373, Lb374, rfl, rfl, hz375⟩
 replace h19 := h19.mono (slE_ok (iE_ok _)) hF369
 replace h22 := h22.mono (slE_ok (iE_ok _)) hF369
 replace hz26 := hz26.mono (prE_ok (slE_ok (iE_ok _)) (prE_ok (iE_ok _) (iE_ok _))) hF369
 replace hz53 := hz53.mono (prE_ok (iE_ok _) (iE_ok _)) hF369
 have hn378 := newp (Lb' := [(b362, .cells #[.slice a363 metal2.length c364, .int .i64 at_4, .int .u32 turn4] 72 (0, 0))]) (by rfl) hd371 hn370
 replace hz375 := hz375.new fun p hp => hn378 p (by simp [hp])
 refine shO_L (lb (lp (ln (lp (ln rfl))))) ?_
 refine kO (kc (kf (fS (fS fO)) kr)) ?_
 refine shO_nil ⟨_, rfl, hF369, [], by kernel_rfl, .inl (.inl rfl), (fun _ h => absurd h List.not_mem_nil), ?_⟩
 refine shM_v (v := .slice a372 n376 c373) (ek := [(249, .slice a372 n376 c373)]) (Ls := []) rfl rfl rfl rfl ((sc rfl (sn _))) (by kernel_rfl) sm (fun H F' L' hF' hL' => v_assign rfl) ?_
 refine shM_nil ?_
 refine wsr ?_
 refine ov (v_loadA (cs := #[.slice a17 l.length c18, .slice a20 l2.length c21, .int .i64 n, .int .i64 n2, .slice a23 n27 c24]) Try.isAgg26 Try.sizeOf26 rfl (Has.own 1 rfl) (Nat.le_of_ble_eq_true rfl) rfl) rfl ?_
 refine om rfl rfl ?_
 obtain rfl := (SlR.caps hz26).1
 refine shO_freezeR (Nat.le_refl _) (prE_ok (slE_ok (iE_ok _)) (prE_ok (iE_ok _) (iE_ok _))) (fC (fC (fS fP))) hz26 ?_; intro F379 hF380 h381
 replace h19 := h19.mono (slE_ok (iE_ok _)) hF380
 replace h22 := h22.mono (slE_ok (iE_ok _)) hF380
 replace hz53 := hz53.mono (prE_ok (iE_ok _) (iE_ok _)) hF380
 replace hz375 := hz375.mono (prE_ok (iE_ok _) (iE_ok _)) hF380
 obtain rfl := (SlR.caps hz375).1
 refine shO_freezeR (Nat.le_refl _) (prE_ok (iE_ok _) (iE_ok _)) (fC (fC fP)) hz375 ?_; intro F382 hF383 h384
 replace h19 := h19.mono (slE_ok (iE_ok _)) hF383
 replace h22 := h22.mono (slE_ok (iE_ok _)) hF383
 replace h381 := h381.mono (prE_ok (slE_ok (iE_ok _)) (prE_ok (iE_ok _) (iE_ok _))) hF383
 replace hz53 := hz53.mono (prE_ok (iE_ok _) (iE_ok _)) hF383
 obtain ⟨l9, n12, h385, r386⟩ := b2_ok r367; clear r367
 refine o_call0 rfl Try.call22 rfl rfl rfl (round_Heard_w h19 h22 h381 h384 h385) ?_; rintro _ F387 _ hF388 hn389 ⟨a391, c392, rfl, rfl, h393⟩
 replace h19 := h19.mono (slE_ok (iE_ok _)) hF388
 replace h22 := h22.mono (slE_ok (iE_ok _)) hF388
 replace h381 := h381.mono (prE_ok (slE_ok (iE_ok _)) (prE_ok (iE_ok _) (iE_ok _))) hF388
 replace h384 := h384.mono (prE_ok (iE_ok _) (iE_ok _)) hF388
 replace hz53 := hz53.mono (prE_ok (iE_ok _) (iE_ok _)) hF388
 refine shO_L (ln rfl) ?_
 refine om rfl rfl (ox rfl rfl rfl (ox rfl rfl rfl (oa rfl rfl (oa rfl rfl (nsr ?_)))))
 refine ov (v_loadA (cs := #[.slice a17 l.length c18, .slice a20 l2.length c21, .int .i64 n, .int .i64 n2, .slice a23 l3.length c24]) Try.isAgg26 Try.sizeOf26 rfl (Has.own 1 rfl) (Nat.le_of_ble_eq_true rfl) rfl) rfl ?_
 refine om rfl rfl ?_
 obtain ⟨l10, n13, h394, r395⟩ := b2_ok r386; clear r386
 refine o_call0 rfl Try.call23 rfl rfl rfl (round_Missed_w h19 h22 h381 h384 h394) ?_; rintro _ F396 _ hF397 hn398 ⟨a400, n404, c401, Lb402, rfl, rfl, hz403⟩
 replace h381 := h381.mono (prE_ok (slE_ok (iE_ok _)) (prE_ok (iE_ok _) (iE_ok _))) hF397
 replace h393 := h393.mono (slE_ok (iE_ok _)) hF397
 replace hz53 := hz53.mono (prE_ok (iE_ok _) (iE_ok _)) hF397
 replace hz403 := hz403.new fun p hp => hn398 p (by simp [hp])
 refine shO_L (lp (ln rfl)) ?_
 refine kO (kf (fS fO) (kf (fS fO) kr)) ?_
 refine om rfl rfl (ox rfl rfl rfl (ox rfl rfl rfl (oa rfl rfl (oa rfl rfl (shO_nil (shW_seq ?_))))))
 obtain ⟨k10, h406, r407⟩ := b1_ok r395; clear r395
 refine shW_join (fun e1 F1 L1 => F396 = F1 ∧ L1 = ((b30, .cells #[.slice a17 l.length c18, .slice a20 l2.length c21, .int .i64 n, .int .i64 n2, .slice a23 l3.length c24] 26 (0, 0)) :: (Lb52 ++ (Lb402 ++ []))) ∧ e1.sub [(5, .pointer (some ⟨b30, 0, none⟩)), (7, .int .i64 n12), (8, .slice a50 n54 c51), (26, .slice a391 l9.length c392), (27, .slice a400 n404 c401), (272, .bool k10)]) ?_ ?_
 · clear r407
   refine shW_region (om rfl rfl (om rfl rfl ?_))
   refine ov (v_neq rfl rfl) rfl ?_
   refine om rfl rfl ?_
   by_cases c408 : n12 ≠ n13
   · have r409 := ite_t h406 c408; clear h406
     refine shO_off (b' := true) 265 rfl (Env.isT rfl c408) rfl rfl (shO_off (b' := true) 265 rfl (Env.isT rfl c408) rfl rfl (shO_off (b' := true) 265 rfl (Env.isT rfl c408) rfl rfl (shO_offU 268 rfl rfl rfl (shO_offU 268 rfl rfl rfl (shO_off (b' := true) 265 rfl (Env.isT rfl c408) rfl rfl ?_)))))
     refine ov (v_pick_t (evD_true rfl c408) rfl) rfl ?_
     refine shO_nil ?_
     obtain rfl := inj1 r409
     exact mi (kd (kc (kg (fS fP) kr))) ⟨rfl, rfl, (sc rfl (sc rfl (sc rfl (sc rfl (sc rfl (sc rfl (sn _)))))))⟩
   have r410 := ite_f h406 c408; clear h406
   refine shO_on (b := false) 265 rfl (Env.isF rfl c408) (om rfl rfl (shO_on (b := false) 265 rfl (Env.isF rfl c408) ?_))
   refine ov (v_neq rfl rfl) rfl ?_
   refine shO_on (b := false) 265 rfl (Env.isF rfl c408) (om rfl rfl ?_)
   by_cases c411 : n12 ≠ 0
   · have r412 := ite_t r410 c411; clear r410
     refine shO_on (b := true) 268 rfl (Env.isT rfl c411) (om rfl rfl (shO_on (b := true) 268 rfl (Env.isT rfl c411) ?_))
     refine ov (v_neq rfl rfl) rfl ?_
     refine shO_on (b := false) 265 rfl (Env.isF rfl c408) ?_
     refine ov (v_pick_t (evD_true rfl c411) rfl) rfl ?_
     refine ov (v_pick_f (evD_false rfl c408) rfl) rfl ?_
     refine shO_nil ?_
     obtain rfl := inj1 r412
     exact mi (kd (kc (kg (fS fP) kr))) ⟨rfl, rfl, (sc rfl (sc rfl (sc rfl (sc rfl (sc rfl (sc rfl (sn _)))))))⟩
   have r413 := ite_f r410 c411; clear r410
   refine shO_off (b' := false) 268 rfl (Env.isF rfl c411) rfl rfl (shO_off (b' := false) 268 rfl (Env.isF rfl c411) rfl rfl (shO_on (b := false) 265 rfl (Env.isF rfl c408) ?_))
   refine ov (v_pick_f (evD_false rfl c411) rfl) rfl ?_
   refine ov (v_pick_f (evD_false rfl c408) rfl) rfl ?_
   refine shO_nil ?_
   obtain rfl := inj1 r413
   exact mi (kd (kc (kg (fS fP) kr))) ⟨rfl, rfl, (sc rfl (sc rfl (sc rfl (sc rfl (sc rfl (sc rfl (sn _)))))))⟩
 rintro e1 _ _ ⟨rfl, rfl, he414⟩
 refine shW_env _ he414 ?_; clear he414
 refine shW_cond rfl (fun c415 => ?_) (fun c415 => ?_)
 · have r416 := bt r407 c415; clear r407
   refine wsr (oa rfl rfl (shO_nil ?_))
   refine kW kn ?_
   refine shW_ret (andThen_ret ?_)
   refine q_res1 Try.results4 (res_tmp rfl) (sr) ?_
   obtain rfl := inj1 r416
   exact rfl
 have r417 := bf r407 c415; clear r407
 refine shW_skip (shW_seq (wsr (om rfl rfl ?_)))
 refine ov (v_neq rfl rfl) rfl ?_
 refine shO_nil ?_
 refine shW_condP rfl (fun c418 => ?_) (fun c418 => ?_)
 · have r419 := ite_t r417 c418; clear r417
   refine wsr ?_
   obtain ⟨ok4, h420, r421⟩ := b1_ok r419; clear r419
   refine o_callV rfl Try.call9 rfl rfl rfl (oyezlaw03_awake_w h420) ?_
   refine oa rfl rfl (shO_nil ?_)
   refine kW kn ?_
   refine shW_ret (andThen_ret ?_)
   refine q_res1 Try.results4 (res_tmp rfl) (sr) ?_
   obtain rfl := inj1 r421
   exact rfl
 have r422 := ite_f r417 c418; clear r417
 refine shW_skip (shW_seq (wsr (om rfl rfl ?_)))
 refine ov (v_lenS Try.underlying23 rfl) rfl ?_
 refine ov (v_fieldAddr fa_26_4 rfl) rfl ?_
 refine ov (v_load Try.isAgg24 rfl (Has.own 0 rfl) rfl) rfl ?_
 refine ov (v_lenS Try.underlying24 rfl) rfl ?_
 refine ov (v_neq rfl rfl) rfl ?_
 refine shO_nil ?_
 refine shW_condP rfl (fun c423 => ?_) (fun c423 => ?_)
 · have r424 := ite_t r422 c423; clear r422
   refine wsr (oa rfl rfl (shO_nil ?_))
   refine kW kn ?_
   refine shW_ret (andThen_ret ?_)
   refine q_res1 Try.results4 (res_tmp rfl) (sr) ?_
   obtain rfl := inj1 r424
   exact rfl
 have r425 := ite_f r422 c423; clear r422
 refine shW_skip ?_
 refine shW_join (fun e1 F1 L1 => oyezlaw03_RoundLost_j6 = some r ∧ F396 = F1 ∧ L1 = [] ∧ e1.sub []) ?_ ?_
 · refine wsr (om rfl rfl ?_)
   refine ov ((v_lenS Try.underlying35 rfl).i (SlR.lenI hz53)) rfl ?_
   refine om rfl rfl (shO_nil ?_)
   refine shW_block ?_
   refine shW_lp (fun fu7 e1 F1 L1 => ∃ (tl5 : List (Int × Int)) (k11 : Int), tl5.length = fu7 ∧ Lst l5 k11 tl5 ∧ oyezlaw03_RoundLost_l7 n l3 l9 l10 tl5 = some r ∧ F396 = F1 ∧ L1 = ((b30, .cells #[.slice a17 l.length c18, .slice a20 l2.length c21, .int .i64 n, .int .i64 n2, .slice a23 l3.length c24] 26 (0, 0)) :: (Lb402 ++ (Lb52 ++ []))) ∧ e1.sub [(5, .pointer (some ⟨b30, 0, none⟩)), (26, .slice a391 l9.length c392), (27, .slice a400 n404 c401), (282, .slice a50 n54 c51), (283, .int .i64 (l5.length : Int)), (284, .int .i64 k11)]) _ (m0 (kc (kg (fS fP) kr)) ⟨_, _, rfl, Lst.start _, r425, rfl, rfl, (sc rfl (sc rfl (sc rfl (sc rfl (sc rfl (sc rfl (sn _)))))))⟩) ?_
   rintro fu7 e1 _ _ ⟨tl5, k11, hn427, hk426, r428, rfl, rfl, he429⟩
   refine shW_env _ he429 ?_; clear he429
   refine wsr ?_
   refine ov (v_lssK rfl rfl) rfl ?_
   refine shO_nil (shW_seq ?_)
   refine shW_condP rfl (fun c431 => ?_) (fun c431 => ?_)
   · obtain ⟨x10, tl6, rfl, hx433, g434, hk432⟩ := Lst.succ hk426 c431
     rw [oyezlaw03_RoundLost_l7] at r428
     refine shW_skip (shW_seq ?_)
     refine shW_block ?_
     refine wsr ?_
     obtain ⟨b435, o436, c437, vs438, ha439, hs440, hle441, ⟨_, _, rfl, rfl, rfl⟩, hl442, hc443⟩ := SlR.at (prE_ok (iE_ok _) (iE_ok _)) hz53 (L := (b30, .cells #[.slice a17 l.length c18, .slice a20 l2.length c21, .int .i64 n, .int .i64 n2, .slice a23 l3.length c24] 26 (0, 0)) :: (Lb402 ++ (Lb52 ++ []))) (fC (fS fP)) g434.1 hx433
     refine ov (v_indexO Try.underlying35 Try.sizeOf48 rfl ha439 rfl (SlR.idx hz53 g434)) rfl ?_
     refine ov (v_loadA (cs := #[.int .i64 x10.1, .int .i64 x10.2]) Try.isAgg48 Try.sizeOf48 rfl hs440 hle441 (extract_cells hle441 hl442 hc443)) rfl ?_
     refine o_alloc rfl Try.zeroValue48 ?_; intro b444 hb444
     refine o_storeA (i := 0) Try.sizeOf48 rfl rfl rfl (by simp [Value.oneCell']) rfl (Nat.le_of_ble_eq_true rfl) ?_
     refine shO_L (L' := (b444, .cells #[.int .i64 x10.1, .int .i64 x10.2] 48 (0, 0)) :: ((b30, .cells #[.slice a17 l.length c18, .slice a20 l2.length c21, .int .i64 n, .int .i64 n2, .slice a23 l3.length c24] 26 (0, 0)) :: (Lb402 ++ (Lb52 ++ [])))) rfl ?_
     refine shO_nil (shW_seq ?_)
     refine wsd (by kernel_rfl) (by kernel_rfl) (by kernel_rfl) ?_
     refine qm rfl rfl ?_
     refine qv (v_fieldAddr fa_48_0 rfl) rfl ?_
     refine qv (v_load Try.isAgg3 rfl (Has.own 0 rfl) rfl) rfl ?_
     obtain ⟨x11, g445, hx446, r447⟩ := ix_ok r428; clear r428
     obtain ⟨b448, o449, c450, vs451, ha452, hs453, hle454, ⟨a457, c458, rfl, h459⟩, hl455, hc456⟩ := RowR.at (slE_ok (iE_ok _)) h393 ((b444, .cells #[.int .i64 x10.1, .int .i64 x10.2] 48 (0, 0)) :: ((b30, .cells #[.slice a17 l.length c18, .slice a20 l2.length c21, .int .i64 n, .int .i64 n2, .slice a23 l3.length c24] 26 (0, 0)) :: (Lb402 ++ (Lb52 ++ [])))) g445.1 hx446
     refine qv (v_indexO Try.underlying23 Try.sizeOf38 rfl ha452 rfl g445) rfl ?_
     refine qv (v_load Try.isAgg38 rfl hs453 (hc456 0 (by decide))) rfl ?_
     refine qv (v_lenS Try.underlying38 rfl) rfl ?_
     refine qv (v_fieldAddr fa_26_2 rfl) rfl ?_
     refine qv (v_load Try.isAgg3 rfl (Has.own 1 rfl) rfl) rfl ?_
     refine qv (v_neq rfl rfl) rfl ?_
     refine shQ_nil ?_
     refine shW_condP rfl (fun c460 => ?_) (fun c460 => ?_)
     · have r461 := ite_t r447 c460; clear r447
       refine wsr (oa rfl rfl (shO_nil ?_))
       refine kW kn ?_
       refine shW_ret (andThen_ret (inBlock_ret (andThen_ret (andThen_ret (inBlock_ret (andThen_ret ?_))))))
       refine q_res1 Try.results4 (res_tmp rfl) (sr) ?_
       obtain rfl := inj1 r461
       exact rfl
     have r462 := ite_f r447 c460; clear r447
     refine shW_skip ?_
     refine wsd (by kernel_rfl) (by kernel_rfl) (by kernel_rfl) ?_
     refine qm rfl rfl ?_
     refine qv (v_fieldAddr fa_48_0 rfl) rfl ?_
     refine qv (v_load Try.isAgg3 rfl (Has.own 0 rfl) rfl) rfl ?_
     obtain ⟨b463, o464, c465, vs466, ha467, hs468, hle469, ⟨a472, c473, rfl, h474⟩, hl470, hc471⟩ := RowR.at (slE_ok (iE_ok _)) h393 ((b444, .cells #[.int .i64 x10.1, .int .i64 x10.2] 48 (0, 0)) :: ((b30, .cells #[.slice a17 l.length c18, .slice a20 l2.length c21, .int .i64 n, .int .i64 n2, .slice a23 l3.length c24] 26 (0, 0)) :: (Lb402 ++ (Lb52 ++ [])))) g445.1 hx446
     refine qv (v_indexO Try.underlying23 Try.sizeOf38 rfl ha467 rfl g445) rfl ?_
     refine qv (v_load Try.isAgg38 rfl hs468 (hc471 0 (by decide))) rfl ?_
     refine qv (v_fieldAddr fa_48_1 rfl) rfl ?_
     refine qv (v_load Try.isAgg3 rfl (Has.own 0 rfl) rfl) rfl ?_
     obtain ⟨x12, g475, hx476, r477⟩ := ix_ok r462; clear r462
     obtain ⟨b478, o479, c480, vs481, ha482, hs483, hle484, rfl, hl485, hc486⟩ := RowR.at (iE_ok _) h474 ((b444, .cells #[.int .i64 x10.1, .int .i64 x10.2] 48 (0, 0)) :: ((b30, .cells #[.slice a17 l.length c18, .slice a20 l2.length c21, .int .i64 n, .int .i64 n2, .slice a23 l3.length c24] 26 (0, 0)) :: (Lb402 ++ (Lb52 ++ [])))) g475.1 hx476
     refine qv (v_indexO Try.underlying38 Try.sizeOf3 rfl ha482 rfl g475) rfl ?_
     refine qv (v_load Try.isAgg3 rfl hs483 (hc486 0 (by decide))) rfl ?_
     refine qa rfl rfl (shQ_nil ?_)
     obtain ⟨k12, h487, r488⟩ := b1_ok r477; clear r477
     refine shW_join (fun e1 F1 L1 => F396 = F1 ∧ L1 = ((b30, .cells #[.slice a17 l.length c18, .slice a20 l2.length c21, .int .i64 n, .int .i64 n2, .slice a23 l3.length c24] 26 (0, 0)) :: (Lb402 ++ (Lb52 ++ []))) ∧ e1.sub [(5, .pointer (some ⟨b30, 0, none⟩)), (26, .slice a391 l9.length c392), (27, .slice a400 n404 c401), (282, .slice a50 n54 c51), (283, .int .i64 (l5.length : Int)), (284, .int .i64 k11), (322, .bool k12)]) ?_ ?_
     · clear r488
       refine shW_region (om rfl rfl ?_)
       refine ov (v_loadA (cs := #[.int .i64 x10.1, .int .i64 x10.2]) Try.isAgg48 Try.sizeOf48 rfl (Has.own 0 rfl) (Nat.le_of_ble_eq_true rfl) rfl) rfl ?_
       obtain ⟨ok5, h489, r490⟩ := b1_ok h487; clear h487
       refine o_callT (Lt := Lb402 ++ []) (Lr := (b444, .cells #[.int .i64 x10.1, .int .i64 x10.2] 48 (0, 0)) :: ((b30, .cells #[.slice a17 l.length c18, .slice a20 l2.length c21, .int .i64 n, .int .i64 n2, .slice a23 l3.length c24] 26 (0, 0)) :: (Lb52 ++ []))) rfl Try.call16 rfl rfl rfl (pT ((fC (fC fP)).trans (pA pR)) (lp (ln rfl))) (fun F2 h2 h3 => by rw [(SlR.caps hz403).1]; exact slices_Contains_round_Pair_round_Pair_w (hz403.row (prE_ok (iE_ok _) (iE_ok _)) h2 (fun p hp => h3 p (List.mem_append_left _ hp))) h489) ?_
       refine om rfl rfl ?_
       refine ov (v_eql rfl rfl) rfl ?_
       refine om rfl rfl ?_
       by_cases c491 : x12 = (-1)
       · have r492 := ite_t r490 c491; clear r490
         refine shO_off (b' := true) 311 rfl (Env.isT rfl c491) rfl rfl (shO_off (b' := true) 311 rfl (Env.isT rfl c491) rfl rfl (shO_off (b' := true) 311 rfl (Env.isT rfl c491) rfl rfl (shO_off (b' := true) 311 rfl (Env.isT rfl c491) rfl rfl (shO_off (b' := true) 311 rfl (Env.isT rfl c491) rfl rfl (shO_off (b' := true) 311 rfl (Env.isT rfl c491) rfl rfl (shO_off (b' := true) 311 rfl (Env.isT rfl c491) rfl rfl (shO_off (b' := true) 311 rfl (Env.isT rfl c491) rfl rfl (shO_off (b' := true) 311 rfl (Env.isT rfl c491) rfl rfl ?_))))))))
         refine ov (v_pick_t (evD_true rfl c491) rfl) rfl ?_
         refine ov (v_neqB Try.underlying4 rfl rfl) rfl ?_
         refine shO_nil ?_
         obtain rfl := inj1 r492
         exact mi (kd kr) ⟨rfl, rfl, (sc rfl (sc rfl (sc rfl (sc rfl (sc rfl (sc rfl (sc rfl (sn _))))))))⟩
       have r493 := ite_f r490 c491; clear r490
       refine shO_on (b := false) 311 rfl (Env.isF rfl c491) (om rfl rfl (shO_on (b := false) 311 rfl (Env.isF rfl c491) ?_))
       refine ov (v_fieldAddr fa_26_4 rfl) rfl ?_
       refine shO_on (b := false) 311 rfl (Env.isF rfl c491) ?_
       refine ov (v_load Try.isAgg24 rfl (Has.own 1 rfl) rfl) rfl ?_
       refine shO_on (b := false) 311 rfl (Env.isF rfl c491) ?_
       refine ov (v_fieldAddr fa_48_0 rfl) rfl ?_
       refine shO_on (b := false) 311 rfl (Env.isF rfl c491) ?_
       refine ov (v_load Try.isAgg3 rfl (Has.own 0 rfl) rfl) rfl ?_
       refine shO_on (b := false) 311 rfl (Env.isF rfl c491) ?_
       obtain ⟨x13, g494, hx495, r496⟩ := ix_ok r493; clear r493
       obtain ⟨b497, o498, c499, vs500, ha501, hs502, hle503, ⟨_, _, rfl, ⟨a506, c507, rfl, h508⟩, ⟨_, _, rfl, rfl, rfl⟩⟩, hl504, hc505⟩ := RowR.at (prE_ok (slE_ok (iE_ok _)) (prE_ok (iE_ok _) (iE_ok _))) h381 ((b444, .cells #[.int .i64 x10.1, .int .i64 x10.2] 48 (0, 0)) :: ((b30, .cells #[.slice a17 l.length c18, .slice a20 l2.length c21, .int .i64 n, .int .i64 n2, .slice a23 l3.length c24] 26 (0, 0)) :: (Lb402 ++ (Lb52 ++ [])))) g494.1 hx495
       refine ov (v_indexO Try.underlying24 Try.sizeOf40 rfl ha501 rfl g494) rfl ?_
       refine shO_on (b := false) 311 rfl (Env.isF rfl c491) ?_
       refine ov (v_fieldAddr fa_40_2 rfl) rfl ?_
       refine shO_on (b := false) 311 rfl (Env.isF rfl c491) ?_
       refine ov (v_load Try.isAgg3 rfl hs502 (hc505 2 (by decide))) rfl ?_
       refine shO_on (b := false) 311 rfl (Env.isF rfl c491) ?_
       refine ov (v_gtrK rfl rfl) rfl ?_
       refine ov (v_pick_f (evD_false rfl c491) rfl) rfl ?_
       refine ov (v_neqB Try.underlying4 rfl rfl) rfl ?_
       refine shO_nil ?_
       obtain rfl := inj1 r496
       exact mi (kd kr) ⟨rfl, rfl, (sc rfl (sc rfl (sc rfl (sc rfl (sc rfl (sc rfl (sc rfl (sn _))))))))⟩
     rintro e1 _ _ ⟨rfl, rfl, he509⟩
     refine shW_env _ he509 ?_; clear he509
     refine shW_cond rfl (fun c510 => ?_) (fun c510 => ?_)
     · have r511 := bt r488 c510; clear r488
       refine wsr (oa rfl rfl (shO_nil ?_))
       refine kW kn ?_
       refine shW_ret (inBlock_ret (andThen_ret (andThen_ret (inBlock_ret (andThen_ret ?_)))))
       refine q_res1 Try.results4 (res_tmp rfl) (sr) ?_
       obtain rfl := inj1 r511
       exact rfl
     have r512 := bf r488 c510; clear r488
     refine shW_skip (inBlock_n (id := 5) (shW_region ?_))
     refine ov (v_add rfl rfl (Lst.r64 hk426 c431 (SlR.llt hz53))) rfl ?_
     refine om rfl rfl (shO_nil ?_)
     subst hn427; exact le kr ⟨_, _, rfl, hk432, r512, rfl, rfl, (sc rfl (sc rfl (sc rfl (sc rfl (sc rfl (sc rfl (sn _)))))))⟩
   obtain rfl := Lst.zero hk426 c431
   rw [oyezlaw03_RoundLost_l7] at r428
   refine shW_exit (andThen_exit (andThen_exit ?_))
   refine inBlock_exit ?_
   exact mi kn ⟨r428, rfl, rfl, (sn _)⟩
 rintro e1 _ _ ⟨r513, rfl, rfl, he514⟩
 refine shW_env _ he514 ?_; clear he514
 rw [oyezlaw03_RoundLost_j6] at r513
 refine wsr ?_
 obtain ⟨ok6, h515, r516⟩ := b1_ok r513; clear r513
 refine o_callV rfl Try.call9 rfl rfl rfl (oyezlaw03_awake_w h515) ?_
 refine oa rfl rfl (shO_nil (shW_ret ?_))
 refine q_res1 Try.results4 (res_tmp rfl) (sr) ?_
 obtain rfl := inj1 r516
 exact rfl
end Go.Proofs.Ytfmapnhfamoecab
