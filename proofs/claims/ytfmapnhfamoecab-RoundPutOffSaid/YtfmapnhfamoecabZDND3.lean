/- The walks that this claim needs, printed by a program of mine; part 3. -/
import Derived.Test.YtfmapnhfamoecabZDND2
namespace Go.Proofs.Ytfmapnhfamoecab
open Go.SH Go.PL
set_option maxHeartbeats 1000000 in
theorem round_Hurry_1_w {hour : Int} {b_c b_c_ : Nat} {walks_a : Option Addr} {walks_c : Nat} {walks : List (List Int)} {hears_a : Option Addr} {hears_c : Nat} {hears : List (List Int)} {houses start : Int} {notices_a : Option Addr} {notices_c : Nat} {notices : List ((List Int) × Int × Int)} {walks2 : List Int} {pairs_a : Option Addr} {pairs_c : Nat} {pairs : List (Int × Int)} {hit : List Int} {mb_c_ mb_c : Nat × Nat} {b_notice : Nat} {notice : Int} {mb_notice : Nat × Nat} {F : FS} (hb_c : F b_c = some (.cells #[.pointer (some ⟨b_c_, 0, none⟩)] 73 mb_c)) (hb_c_ : F b_c_ = some (.cells ((([.slice walks_a walks.length walks_c] : List Value) ++ (([.slice hears_a hears.length hears_c] : List Value) ++ (([.int .i64 houses] : List Value) ++ (([.int .i64 start] : List Value) ++ (([.slice notices_a notices.length notices_c] : List Value) ++ (walks2.flatMap (cI .i64) ++ (([.slice pairs_a pairs.length pairs_c] : List Value) ++ (hit.flatMap (cI .i64))))))))).toArray) 101 mb_c_)) (h_walks : RowR 1 (slE 1 (iE .i64)) F walks_a walks_c walks) (h_hears : RowR 1 (slE 1 (iE .i64)) F hears_a hears_c hears) (h_notices : RowR 3 (prE (slE 1 (iE .i64)) (prE (iE .i64) (iE .i64))) F notices_a notices_c notices) (h_walks2 : walks2.length = 25) (h_pairs : RowR 2 (prE (iE .i64) (iE .i64)) F pairs_a pairs_c pairs) (h_hit : hit.length = 15) (hb_notice : F b_notice = some (.cells #[.int .i64 notice] 3 mb_notice)) {r : Bool} (hr : round_Hurry_1 hour walks hears houses start notices walks2 pairs hit notice = some r) :
    SpecV Try.prog 56 #[.int .i64 hour, .pointer (some ⟨b_c, 0, none⟩), .pointer (some ⟨b_notice, 0, none⟩)] F (.bool r) := by
 refine spec_of_shW (args := [.int .i64 hour, .pointer (some ⟨b_c, 0, none⟩), .pointer (some ⟨b_notice, 0, none⟩)]) Try.func56 rfl Try.ntmps56 (Nat.le_of_ble_eq_true rfl) ?_
 intro K _ _; rw [round_Hurry_1] at hr
 refine wsr ?_
 refine o_box rfl rfl ?_; intro b1 hb1
 refine oa rfl rfl (shO_nil (shW_seq ?_))
 refine shW_drawM [(.still, 0), (.still, 1), (.still, 3), (.still, 4), (.seq, 2), (.seq, 5), (.still, 6), (.still, 7), (.still, 8), (.still, 9), (.still, 10), (.still, 11), (.still, 12)] (by kernel_rfl) (by kernel_rfl) (trivial) (by rfl) (by kernel_rfl) ?_
 refine shM_v (v := .pointer (some ⟨b_c_, 0, none⟩)) (ek := [(1, .pointer (some ⟨b_c, 0, none⟩))]) (Ls := []) rfl rfl rfl rfl ((sc rfl (sn _))) (by kernel_rfl) sm (fun H F' L' hF' hL' => v_load Try.isAgg73 rfl ((Has.frozen hb_c).ext hF' hL') rfl) ?_
 refine shM_v (v := .pointer (some ⟨b_c_, 0, none⟩)) (ek := [(1, .pointer (some ⟨b_c, 0, none⟩))]) (Ls := []) rfl rfl rfl rfl ((sc rfl (sn _))) (by kernel_rfl) sm (fun H F' L' hF' hL' => v_load Try.isAgg73 rfl ((Has.frozen hb_c).ext hF' hL') rfl) ?_
 refine shM_v (v := .func (.func 57) #[] #[.pointer (some ⟨b_notice, 0, none⟩), .pointer (some ⟨b1, 0, none⟩), .pointer (some ⟨b_c, 0, none⟩)]) (ek := [(1, .pointer (some ⟨b_c, 0, none⟩)), (2, .pointer (some ⟨b_notice, 0, none⟩)), (3, .pointer (some ⟨b1, 0, none⟩))]) (Ls := []) rfl rfl rfl rfl ((sc rfl (sc rfl (sc rfl (sn _))))) (by kernel_rfl) sm (fun H F' L' hF' hL' => v_makeFunc rfl rfl) ?_
 refine shM_v (v := .agg (#[.func (.func 57) #[] #[.pointer (some ⟨b_notice, 0, none⟩), .pointer (some ⟨b1, 0, none⟩), .pointer (some ⟨b_c, 0, none⟩)]])) (ek := [(12, .func (.func 57) #[] #[.pointer (some ⟨b_notice, 0, none⟩), .pointer (some ⟨b1, 0, none⟩), .pointer (some ⟨b_c, 0, none⟩)])]) (Ls := []) rfl rfl rfl rfl ((sc rfl (sn _))) (by kernel_rfl) sm (fun H F' L' hF' hL' => v_build (v := .agg (#[.func (.func 57) #[] #[.pointer (some ⟨b_notice, 0, none⟩), .pointer (some ⟨b1, 0, none⟩), .pointer (some ⟨b_c, 0, none⟩)]])) rfl (by intro w; kernel_rfl)) ?_
 refine ⟨_, [(10, .pointer (some ⟨b_c_, 0, none⟩))], rfl, rfl, (sc rfl (sn _)), by kernel_rfl, ?_⟩; intro H
 obtain ⟨n, h2, r3⟩ := b1_ok hr; clear hr
 refine o_callV rfl Try.call32 rfl rfl rfl (round_crier_all_w hb_c_ h_walks h_hears h_notices h_walks2 h_pairs h_hit h2) ?_
 refine shO_nil ⟨_, rfl, FExt.refl _, [4, 3, 0], by kernel_rfl, .inl (.inr (fun d h => by cases h; rfl)), (List.forall_mem_cons.2 ⟨sm, (List.forall_mem_cons.2 ⟨sm, (List.forall_mem_cons.2 ⟨sm, (fun _ h => absurd h List.not_mem_nil)⟩)⟩)⟩), ?_⟩
 refine ⟨_, [(9, .pointer (some ⟨b_c_, 0, none⟩)), (11, .int .i64 n), (13, .agg (#[.func (.func 57) #[] #[.pointer (some ⟨b_notice, 0, none⟩), .pointer (some ⟨b1, 0, none⟩), .pointer (some ⟨b_c, 0, none⟩)]]))], rfl, rfl, (sc rfl (sc rfl (sc rfl (sn _)))), by kernel_rfl, ?_⟩; intro H
 refine shO_freeze 0 rfl hb1 ?_; intro F4 hF5 hz6
 refine shO_L (L' := []) rfl ?_
 replace h_walks := h_walks.mono (slE_ok (iE_ok _)) hF5
 replace h_hears := h_hears.mono (slE_ok (iE_ok _)) hF5
 replace h_notices := h_notices.mono (prE_ok (slE_ok (iE_ok _)) (prE_ok (iE_ok _) (iE_ok _))) hF5
 replace h_pairs := h_pairs.mono (prE_ok (iE_ok _) (iE_ok _)) hF5
 replace hb_c_ := hF5 _ _ hb_c_
 replace hb_c := hF5 _ _ hb_c
 replace hb_notice := hF5 _ _ hb_notice
 have hn7 : FnR Try.prog F4 57 #[] #[.pointer (some ⟨b_notice, 0, none⟩), .pointer (some ⟨b1, 0, none⟩), .pointer (some ⟨b_c, 0, none⟩)] (prE (iE .i64) (iE .i64)) Value.bool (fun xx_ : Int × Int => round_Hurry_1_1 xx_.1 xx_.2 notice hour walks hears houses start notices walks2 pairs hit) := ⟨Try.call57, fun F2 h2 vs xx_ r ha hr => by obtain ⟨_, _, rfl, rfl, rfl⟩ := ha; exact round_Hurry_1_1_w (h2 _ _ hb_notice) (h2 _ _ hz6) (h2 _ _ hb_c) (h2 _ _ hb_c_) (h_walks.mono (slE_ok (iE_ok _)) h2) (h_hears.mono (slE_ok (iE_ok _)) h2) (h_notices.mono (prE_ok (slE_ok (iE_ok _)) (prE_ok (iE_ok _) (iE_ok _))) h2) h_walks2 (h_pairs.mono (prE_ok (iE_ok _) (iE_ok _)) h2) h_hit hr⟩
 obtain ⟨l, n2, ok, h8, r9⟩ := b3_ok r3; clear r3
 refine o_call0 rfl Try.call31 rfl rfl rfl (round_crier_serve_w hb_c_ h_walks h_hears h_notices h_walks2 h_pairs h_hit hn7 h8) ?_; rintro _ F10 _ hF11 hn12 ⟨a14, n18, c15, Lb16, rfl, rfl, hz17⟩
 refine shO_L (lp (ln rfl)) ?_
 refine shO_nil ⟨_, rfl, (hF5.trans hF11), [], by kernel_rfl, .inl (.inl rfl), (fun _ h => absurd h List.not_mem_nil), ?_⟩
 refine shM_v (v := .tuple #[.slice a14 n18 c15, .int .i64 n2, .bool ok]) (ek := [(14, .tuple #[.slice a14 n18 c15, .int .i64 n2, .bool ok])]) (Ls := []) rfl rfl rfl rfl ((sc rfl (sn _))) (by kernel_rfl) sm (fun H F' L' hF' hL' => v_move rfl) ?_
 refine shM_v (v := .slice a14 n18 c15) (ek := [(8, .tuple #[.slice a14 n18 c15, .int .i64 n2, .bool ok])]) (Ls := []) rfl rfl rfl rfl ((sc rfl (sn _))) (by kernel_rfl) sm (fun H F' L' hF' hL' => v_extract rfl rfl) ?_
 refine shM_v (v := .int .i64 n2) (ek := [(8, .tuple #[.slice a14 n18 c15, .int .i64 n2, .bool ok])]) (Ls := []) rfl rfl rfl rfl ((sc rfl (sn _))) (by kernel_rfl) sm (fun H F' L' hF' hL' => v_extract rfl rfl) ?_
 refine shM_v (v := .bool ok) (ek := [(8, .tuple #[.slice a14 n18 c15, .int .i64 n2, .bool ok])]) (Ls := []) rfl rfl rfl rfl ((sc rfl (sn _))) (by kernel_rfl) sm (fun H F' L' hF' hL' => v_extract rfl rfl) ?_
 refine shM_v (v := .slice a14 n18 c15) (ek := [(15, .slice a14 n18 c15)]) (Ls := []) rfl rfl rfl rfl ((sc rfl (sn _))) (by kernel_rfl) sm (fun H F' L' hF' hL' => v_assign rfl) ?_
 refine shM_v (v := .int .i64 n2) (ek := [(16, .int .i64 n2)]) (Ls := []) rfl rfl rfl rfl ((sc rfl (sn _))) (by kernel_rfl) sm (fun H F' L' hF' hL' => v_assign rfl) ?_
 refine shM_v (v := .bool ok) (ek := [(17, .bool ok)]) (Ls := []) rfl rfl rfl rfl ((sc rfl (sn _))) (by kernel_rfl) sm (fun H F' L' hF' hL' => v_assign rfl) ?_
 refine shM_nil ?_
 refine wsr (om rfl rfl (oa rfl rfl (shO_nil ?_)))
 refine kW kn ?_
 refine shW_ret ?_
 refine q_res1 Try.results56 (res_tmp rfl) (sr) ?_
 obtain rfl := inj1 r9
 exact rfl
set_option maxHeartbeats 1000000 in
theorem round_Hurry_w {walks_a : Option Addr} {walks_c : Nat} {walks : List (List Int)} {hears_a : Option Addr} {hears_c : Nat} {hears : List (List Int)} {houses start : Int} {notices_a : Option Addr} {notices_c : Nat} {notices : List ((List Int) × Int × Int)} {notice : Int} {F : FS} (h_walks : RowR 1 (slE 1 (iE .i64)) F walks_a walks_c walks) (h_hears : RowR 1 (slE 1 (iE .i64)) F hears_a hears_c hears) (h_notices : RowR 3 (prE (slE 1 (iE .i64)) (prE (iE .i64) (iE .i64))) F notices_a notices_c notices) {r r2 : Int} (hr : round_Hurry walks hears houses start notices notice = some (r, r2)) :
    SpecV Try.prog 25 #[.agg #[.slice walks_a walks.length walks_c, .slice hears_a hears.length hears_c, .int .i64 houses, .int .i64 start, .slice notices_a notices.length notices_c], .int .i64 notice] F (.tuple #[.int .i64 r, .int .i64 r2]) := by
 refine spec_of_shW (args := [.agg #[.slice walks_a walks.length walks_c, .slice hears_a hears.length hears_c, .int .i64 houses, .int .i64 start, .slice notices_a notices.length notices_c], .int .i64 notice]) Try.func25 rfl Try.ntmps25 (Nat.le_of_ble_eq_true rfl) ?_
 intro K _ _; rw [round_Hurry] at hr
 refine wsr ?_
 refine o_box rfl rfl ?_; intro b1 hb1
 refine o_box rfl rfl ?_; intro b2 hb2
 refine oa rfl rfl (oa rfl rfl (nsr ?_))
 refine ov (v_loadA (cs := #[.slice walks_a walks.length walks_c, .slice hears_a hears.length hears_c, .int .i64 houses, .int .i64 start, .slice notices_a notices.length notices_c]) Try.isAgg26 Try.sizeOf26 rfl (Has.own 1 rfl) (Nat.le_of_ble_eq_true rfl) rfl) rfl ?_
 obtain ⟨d, n, h3, r4⟩ := b2_ok hr; clear hr
 refine o_call0 rfl Try.call30 rfl rfl rfl (round_opened_w h_walks h_hears h_notices h3) ?_; rintro _ F5 _ hF6 hn7 ⟨v9, rfl, rfl, hp10⟩
 replace h_walks := h_walks.mono (slE_ok (iE_ok _)) hF6
 replace h_hears := h_hears.mono (slE_ok (iE_ok _)) hF6
 replace h_notices := h_notices.mono (prE_ok (slE_ok (iE_ok _)) (prE_ok (iE_ok _) (iE_ok _))) hF6
 refine shO_L (ln rfl) ?_
 refine om rfl rfl (ox rfl rfl rfl (ox rfl rfl rfl ?_))
 refine o_alloc rfl Try.zeroValue73 ?_; intro b11 hb11
 refine o_store (i := 0) Try.sizeOf73 rfl rfl (PtrR.one hp10) rfl (Nat.le_of_ble_eq_true rfl) ?_
 refine shO_L (L' := [(b11, .cells #[v9] 73 (0, 0)), (b2, .cells #[.int .i64 notice] 3 (0, 0)), (b1, .cells #[.slice walks_a walks.length walks_c, .slice hears_a hears.length hears_c, .int .i64 houses, .int .i64 start, .slice notices_a notices.length notices_c] 26 (0, 0))]) rfl ?_
 refine oa rfl rfl (shO_nil (shW_seq ?_))
 refine shW_block ?_
 refine wsr (om rfl rfl ?_)
 refine ov (v_neq rfl rfl) rfl ?_
 refine oa rfl rfl (shO_nil ?_)
 refine shW_condP rfl (fun c12 => ?_) (fun c12 => ?_)
 · have r13 := ite_t r4 c12; clear r4
   refine wsr (om rfl rfl (oa rfl rfl (oa rfl rfl (shO_nil ?_))))
   refine kW kn ?_
   refine shW_ret (inBlock_ret (andThen_ret ?_))
   refine q_res2 Try.results25 (res_tmp rfl) (res_tmp rfl) (sr) ?_
   obtain ⟨rfl, rfl⟩ := inj2 r13
   exact rfl
 have r14 := ite_f r4 c12; clear r4
 refine wsr ?_
 refine ov (v_loadA (cs := #[.slice walks_a walks.length walks_c, .slice hears_a hears.length hears_c, .int .i64 houses, .int .i64 start, .slice notices_a notices.length notices_c]) Try.isAgg26 Try.sizeOf26 rfl (Has.own 2 rfl) (Nat.le_of_ble_eq_true rfl) rfl) rfl ?_
 refine ov (v_load Try.isAgg3 rfl (Has.own 1 rfl) rfl) rfl ?_
 obtain ⟨ok, h15, r16⟩ := b1_ok r14; clear r14
 refine o_callV rfl Try.call43 rfl rfl rfl (round_Beat_notice_w h_walks h_hears h_notices h15) ?_
 refine ov (v_notB rfl) rfl ?_
 refine oa rfl rfl (shO_nil ?_)
 refine shW_cond rfl (fun c17 => ?_) (fun c17 => ?_)
 · have r18 := bt r16 c17; clear r16
   refine wsr (oa rfl rfl (oa rfl rfl (shO_nil ?_)))
   refine kW kn ?_
   refine shW_ret (inBlock_ret (andThen_ret ?_))
   refine q_res2 Try.results25 (res_tmp rfl) (res_tmp rfl) (sr) ?_
   obtain ⟨rfl, rfl⟩ := inj2 r18
   exact rfl
 have r19 := bf r16 c17; clear r16
 refine shW_skip (inBlock_n (id := 0) (wsr ?_))
 refine ov (v_makeFunc rfl rfl) rfl ?_
 refine oa rfl rfl (shO_nil (shW_seq (wsr (om rfl rfl ?_))))
 refine shO_freeze 0 rfl hb11 ?_; intro F20 hF21 hz22
 refine shO_L (L' := [(b2, .cells #[.int .i64 notice] 3 (0, 0)), (b1, .cells #[.slice walks_a walks.length walks_c, .slice hears_a hears.length hears_c, .int .i64 houses, .int .i64 start, .slice notices_a notices.length notices_c] 26 (0, 0))]) rfl ?_
 replace hp10 := hp10.mono (prE_ok (slE_ok (slE_ok (iE_ok _))) (prE_ok (slE_ok (slE_ok (iE_ok _))) (prE_ok (iE_ok _) (prE_ok (iE_ok _) (prE_ok (slE_ok (prE_ok (slE_ok (iE_ok _)) (prE_ok (iE_ok _) (iE_ok _)))) (prE_ok (arE_ok (n := 25) (sz := 1) (cI_ok .i64)) (prE_ok (slE_ok (prE_ok (iE_ok _) (iE_ok _))) (arE_ok (n := 15) (sz := 1) (cI_ok .i64))))))))) hF21
 obtain ⟨walks2, hears2, houses2, start2, notices2, walks3, pairs, hit, h23, r24⟩ := b8_ok r19; clear r19
 have h44 := hp10; rw [h23] at h44; obtain ⟨b25, c26, m27, hv28, hz29, ⟨_, _, rfl, ⟨a30, c31, rfl, h32⟩, ⟨_, _, rfl, ⟨a33, c34, rfl, h35⟩, ⟨_, _, rfl, rfl, ⟨_, _, rfl, rfl, ⟨_, _, rfl, ⟨a36, c37, rfl, h38⟩, ⟨_, _, rfl, ⟨rfl, h39⟩, ⟨_, _, rfl, ⟨a40, c41, rfl, h42⟩, ⟨rfl, h43⟩⟩⟩⟩⟩⟩⟩⟩⟩ := h44; subst hv28
 have hz29 : F20 b25 = some (.cells ((([.slice a30 walks2.length c31] : List Value) ++ (([.slice a33 hears2.length c34] : List Value) ++ (([.int .i64 houses2] : List Value) ++ (([.int .i64 start2] : List Value) ++ (([.slice a36 notices2.length c37] : List Value) ++ (walks3.flatMap (cI .i64) ++ (([.slice a40 pairs.length c41] : List Value) ++ (hit.flatMap (cI .i64))))))))).toArray) 101 m27) := hz29
 refine shO_freeze 0 rfl hb2 ?_; intro F45 hF46 hz47
 refine shO_L (L' := [(b1, .cells #[.slice walks_a walks.length walks_c, .slice hears_a hears.length hears_c, .int .i64 houses, .int .i64 start, .slice notices_a notices.length notices_c] 26 (0, 0))]) rfl ?_
 replace h32 := h32.mono (slE_ok (iE_ok _)) hF46
 replace h35 := h35.mono (slE_ok (iE_ok _)) hF46
 replace h38 := h38.mono (prE_ok (slE_ok (iE_ok _)) (prE_ok (iE_ok _) (iE_ok _))) hF46
 replace h42 := h42.mono (prE_ok (iE_ok _) (iE_ok _)) hF46
 replace hz22 := hF46 _ _ hz22
 replace hz29 := hF46 _ _ hz29
 obtain ⟨ok2, h48, r49⟩ := b1_ok r24; clear r24
 refine o_callV rfl Try.call56 rfl rfl rfl (round_Hurry_1_w hz22 hz29 h32 h35 h38 h39 h42 h43 hz47 h48) ?_
 refine ov (v_notB rfl) rfl ?_
 refine shO_nil ?_
 refine shW_cond rfl (fun c50 => ?_) (fun c50 => ?_)
 · have r51 := bt r49 c50; clear r49
   refine wsr (oa rfl rfl (oa rfl rfl (shO_nil ?_)))
   refine kW kn ?_
   refine shW_ret (andThen_ret ?_)
   refine q_res2 Try.results25 (res_tmp rfl) (res_tmp rfl) (sr) ?_
   obtain ⟨rfl, rfl⟩ := inj2 r51
   exact rfl
 have r52 := bf r49 c50; clear r49
 refine shW_skip (wsr (oa rfl rfl (oa rfl rfl (shO_nil ?_))))
 obtain ⟨lo, h53, r54⟩ := b1_ok r52; clear r52
 refine shW_join (fun e1 F1 L1 => F45 = F1 ∧ L1 = [] ∧ e1.sub [(9, .int .i64 lo)]) ?_ ?_
 · clear r54
   refine shW_block ?_
   refine kW kn ?_
   refine shW_lp (fun fu1 e1 F1 L1 => ∃ (lo2 : Int) (hi : Int), round_Hurry_l1 notice walks2 hears2 houses2 start2 notices2 walks3 pairs hit fu1 lo2 hi = some lo ∧ F45 = F1 ∧ L1 = [] ∧ e1.sub [(8, .func (.func 56) #[] #[.pointer (some ⟨b11, 0, none⟩), .pointer (some ⟨b2, 0, none⟩)]), (9, .int .i64 lo2), (10, .int .i64 hi)]) FU (m0 kr ⟨0, 200, h53, rfl, rfl, (sc rfl (sc rfl (sc rfl (sn _))))⟩) ?_
   rintro fu1 e1 _ _ ⟨lo2, hi, r57, rfl, rfl, he58⟩
   refine shW_env _ he58 ?_; clear he58
   rcases fu1 with _ | fu1
   · rw [round_Hurry_l1] at r57; cases r57
   rw [round_Hurry_l1] at r57
   refine shW_seq (wsr (om rfl rfl (om rfl rfl ?_)))
   refine ov (v_lssK rfl rfl) rfl ?_
   refine shO_nil ?_
   refine shW_condP rfl (fun c59 => ?_) (fun c59 => ?_)
   · have r60 := ite_t r57 c59; clear r57
     refine shW_skip ?_
     refine shW_block ?_
     refine wsr (om rfl rfl (om rfl rfl ?_))
     obtain ⟨g61, r62⟩ := gd_ok r60; clear r60
     refine ov (v_add rfl rfl g61) rfl ?_
     obtain ⟨g63, r64⟩ := gd_ok r62; clear r62
     refine ov (v_quoT rfl rfl g63) rfl ?_
     refine oa rfl rfl (nsr (om rfl rfl (om rfl rfl ?_)))
     obtain ⟨ok3, h65, r66⟩ := b1_ok r64; clear r64
     refine o_callV rfl Try.call56 rfl rfl rfl (round_Hurry_1_w hz22 hz29 h32 h35 h38 h39 h42 h43 hz47 h65) ?_
     refine shO_nil ?_
     refine shW_cond rfl (fun c67 => ?_) (fun c67 => ?_)
     · have r68 := bt r66 c67; clear r66
       refine shW_region (om rfl rfl (oa rfl rfl (shO_nil (inBlock_n (id := 2) ?_))))
       exact le kr ⟨lo2, Int.tdiv (lo2 + hi) 2, r68, rfl, rfl, (sc rfl (sc rfl (sc rfl (sn _))))⟩
     have r69 := bf r66 c67; clear r66
     refine shW_region (om rfl rfl ?_)
     obtain ⟨g70, r71⟩ := gd_ok r69; clear r69
     refine ov (v_add rfl rfl g70) rfl ?_
     refine oa rfl rfl (shO_nil (inBlock_n (id := 2) ?_))
     exact le kr ⟨(Int.tdiv (lo2 + hi) 2) + 1, hi, r71, rfl, rfl, (sc rfl (sc rfl (sc rfl (sn _))))⟩
   have r72 := ite_f r57 c59; clear r57
   refine shW_exit (andThen_exit (andThen_exit ?_))
   refine inBlock_exit ?_
   obtain rfl := inj1 r72
   exact mi kr ⟨rfl, rfl, (sc rfl (sn _))⟩
 rintro e1 _ _ ⟨rfl, rfl, he73⟩
 refine shW_env _ he73 ?_; clear he73
 refine wsr (om rfl rfl (oa rfl rfl (oa rfl rfl (shO_nil (shW_ret ?_)))))
 refine q_res2 Try.results25 (res_tmp rfl) (res_tmp rfl) (sr) ?_
 obtain ⟨rfl, rfl⟩ := inj2 r54
 exact rfl
set_option maxHeartbeats 1000000 in
theorem oyezlaw03_Three_w {F : FS} {r r2 : List (List Int)} {r3 r4 : Int} {r5 : List ((List Int) × Int × Int)} (hr : oyezlaw03_Three = some (r, r2, r3, r4, r5)) :
    SH.Spec Try.prog 34 #[] F [] fun F' L' v => ∃ (ra : Option Addr) (rn : Nat) (rc : Nat) (rL : LH) (r2a : Option Addr) (r2n : Nat) (r2c : Nat) (r2L : LH) (r5a : Option Addr) (r5n : Nat) (r5c : Nat) (r5L : LH), v = .agg #[.slice ra rn rc, .slice r2a r2n r2c, .int .i64 r3, .int .i64 r4, .slice r5a r5n r5c] ∧ L' = rL ++ (r2L ++ (r5L ++ [])) ∧ SlR 0 38 1 (slE 1 (iE .i64)) F' ra rn rc r rL ∧ SlR 0 38 1 (slE 1 (iE .i64)) F' r2a r2n r2c r2 r2L ∧ SlR 0 40 3 (prE (slE 1 (iE .i64)) (prE (iE .i64) (iE .i64))) F' r5a r5n r5c r5 r5L := by
 refine spec_of_shW (args := []) Try.func34 rfl Try.ntmps34 (Nat.le_of_ble_eq_true rfl) ?_
 intro K _ _; rw [oyezlaw03_Three] at hr
 refine wsr ?_
 refine o_alloc rfl Try.zeroValue26 ?_; intro b1 hb1
 refine nsr ?_
 refine o_buildSlice (cs := #[.int .i64 0, .int .i64 2, .int .i64 (-1)]) rfl rfl (buildSlice_all slt_38 [.int .i64 0, .int .i64 2, .int .i64 (-1)] rfl (by decide) (by simp [Value.cells]) (by decide)) ?_; intro b2 hb2
 refine o_buildSlice (cs := #[.int .i64 2, .int .i64 0, .int .i64 2]) rfl rfl (buildSlice_all slt_38 [.int .i64 2, .int .i64 0, .int .i64 2] rfl (by decide) (by simp [Value.cells]) (by decide)) ?_; intro b3 hb3
 refine o_buildSlice (cs := #[.int .i64 (-1), .int .i64 2, .int .i64 0]) rfl rfl (buildSlice_all slt_38 [.int .i64 (-1), .int .i64 2, .int .i64 0] rfl (by decide) (by simp [Value.cells]) (by decide)) ?_; intro b4 hb4
 refine o_buildSlice (cs := #[.slice (some ⟨b2, 0, none⟩) 3 3, .slice (some ⟨b3, 0, none⟩) 3 3, .slice (some ⟨b4, 0, none⟩) 3 3]) rfl rfl (buildSlice_all slt_23 [.slice (some ⟨b2, 0, none⟩) 3 3, .slice (some ⟨b3, 0, none⟩) 3 3, .slice (some ⟨b4, 0, none⟩) 3 3] rfl (by decide) (by simp [Value.cells]) (by decide)) ?_; intro b5 hb5
 refine o_buildSlice (cs := #[.int .i64 0]) rfl rfl (buildSlice_all slt_38 [.int .i64 0] rfl (by decide) (by simp [Value.cells]) (by decide)) ?_; intro b6 hb6
 refine o_buildSlice (cs := #[.int .i64 1]) rfl rfl (buildSlice_all slt_38 [.int .i64 1] rfl (by decide) (by simp [Value.cells]) (by decide)) ?_; intro b7 hb7
 refine o_buildSlice (cs := #[.int .i64 1, .int .i64 2]) rfl rfl (buildSlice_all slt_38 [.int .i64 1, .int .i64 2] rfl (by decide) (by simp [Value.cells]) (by decide)) ?_; intro b8 hb8
 refine o_buildSlice (cs := #[.slice (some ⟨b6, 0, none⟩) 1 1, .slice (some ⟨b7, 0, none⟩) 1 1, .slice (some ⟨b8, 0, none⟩) 2 2]) rfl rfl (buildSlice_all slt_23 [.slice (some ⟨b6, 0, none⟩) 1 1, .slice (some ⟨b7, 0, none⟩) 1 1, .slice (some ⟨b8, 0, none⟩) 2 2] rfl (by decide) (by simp [Value.cells]) (by decide)) ?_; intro b9 hb9
 refine o_buildSlice (cs := #[.int .i64 0, .int .i64 2]) rfl rfl (buildSlice_all slt_38 [.int .i64 0, .int .i64 2] rfl (by decide) (by simp [Value.cells]) (by decide)) ?_; intro b10 hb10
 refine ov (v_build (v := .agg #[.slice (some ⟨b10, 0, none⟩) 2 2, .int .i64 3, .int .i64 12]) rfl (by intro w; kernel_rfl)) rfl ?_
 refine o_buildSlice (cs := #[.int .i64 1]) rfl rfl (buildSlice_all slt_38 [.int .i64 1] rfl (by decide) (by simp [Value.cells]) (by decide)) ?_; intro b11 hb11
 refine ov (v_build (v := .agg #[.slice (some ⟨b11, 0, none⟩) 1 1, .int .i64 1, .int .i64 20]) rfl (by intro w; kernel_rfl)) rfl ?_
 refine o_buildSlice (cs := #[.slice (some ⟨b10, 0, none⟩) 2 2, .int .i64 3, .int .i64 12, .slice (some ⟨b11, 0, none⟩) 1 1, .int .i64 1, .int .i64 20]) rfl rfl (buildSlice_all slt_24 [.agg #[.slice (some ⟨b10, 0, none⟩) 2 2, .int .i64 3, .int .i64 12], .agg #[.slice (some ⟨b11, 0, none⟩) 1 1, .int .i64 1, .int .i64 20]] rfl (by decide) (by simp [Value.cells]) (by decide)) ?_; intro b12 hb12
 refine ov (v_build (v := .agg #[.slice (some ⟨b5, 0, none⟩) 3 3, .slice (some ⟨b9, 0, none⟩) 3 3, .int .i64 3, .int .i64 0, .slice (some ⟨b12, 0, none⟩) 2 2]) rfl (by intro w; kernel_rfl)) rfl ?_
 refine shO_freeze 10 rfl hb2 ?_; intro F13 hF14 hz15
 refine shO_L (L' := [(b12, .cells #[.slice (some ⟨b10, 0, none⟩) 2 2, .int .i64 3, .int .i64 12, .slice (some ⟨b11, 0, none⟩) 1 1, .int .i64 1, .int .i64 20] 40 (0, 0)), (b11, .cells #[.int .i64 1] 3 (0, 0)), (b10, .cells #[.int .i64 0, .int .i64 2] 3 (0, 0)), (b9, .cells #[.slice (some ⟨b6, 0, none⟩) 1 1, .slice (some ⟨b7, 0, none⟩) 1 1, .slice (some ⟨b8, 0, none⟩) 2 2] 38 (0, 0)), (b8, .cells #[.int .i64 1, .int .i64 2] 3 (0, 0)), (b7, .cells #[.int .i64 1] 3 (0, 0)), (b6, .cells #[.int .i64 0] 3 (0, 0)), (b5, .cells #[.slice (some ⟨b2, 0, none⟩) 3 3, .slice (some ⟨b3, 0, none⟩) 3 3, .slice (some ⟨b4, 0, none⟩) 3 3] 38 (0, 0)), (b4, .cells #[.int .i64 (-1), .int .i64 2, .int .i64 0] 3 (0, 0)), (b3, .cells #[.int .i64 2, .int .i64 0, .int .i64 2] 3 (0, 0)), (b1, .cells #[.slice none 0 0, .slice none 0 0, .int .i64 0, .int .i64 0, .slice none 0 0] 26 (0, 0))]) rfl ?_
 have h16 : RowR 1 (iE .i64) F13 (some ⟨b2, 0, none⟩) 3 [0, 2, -1] := RowR.of_block (iE_ok _) (vss := [[.int .i64 0], [.int .i64 2], [.int .i64 (-1)]]) (xs := [0, 2, -1]) hz15 (.cons rfl (.cons rfl (.cons rfl .nil))) rfl (by simp [maxLen])
 refine shO_freeze 9 rfl hb3 ?_; intro F17 hF18 hz19
 refine shO_L (L' := [(b12, .cells #[.slice (some ⟨b10, 0, none⟩) 2 2, .int .i64 3, .int .i64 12, .slice (some ⟨b11, 0, none⟩) 1 1, .int .i64 1, .int .i64 20] 40 (0, 0)), (b11, .cells #[.int .i64 1] 3 (0, 0)), (b10, .cells #[.int .i64 0, .int .i64 2] 3 (0, 0)), (b9, .cells #[.slice (some ⟨b6, 0, none⟩) 1 1, .slice (some ⟨b7, 0, none⟩) 1 1, .slice (some ⟨b8, 0, none⟩) 2 2] 38 (0, 0)), (b8, .cells #[.int .i64 1, .int .i64 2] 3 (0, 0)), (b7, .cells #[.int .i64 1] 3 (0, 0)), (b6, .cells #[.int .i64 0] 3 (0, 0)), (b5, .cells (#[.slice (some ⟨b2, 0, none⟩) [0, 2, -1].length 3, .slice (some ⟨b3, 0, none⟩) 3 3, .slice (some ⟨b4, 0, none⟩) 3 3]) 38 (0, 0)), (b4, .cells #[.int .i64 (-1), .int .i64 2, .int .i64 0] 3 (0, 0)), (b1, .cells #[.slice none 0 0, .slice none 0 0, .int .i64 0, .int .i64 0, .slice none 0 0] 26 (0, 0))]) rfl ?_
 replace h16 := h16.mono (iE_ok _) hF18
 have h20 : RowR 1 (iE .i64) F17 (some ⟨b3, 0, none⟩) 3 [2, 0, 2] := RowR.of_block (iE_ok _) (vss := [[.int .i64 2], [.int .i64 0], [.int .i64 2]]) (xs := [2, 0, 2]) hz19 (.cons rfl (.cons rfl (.cons rfl .nil))) rfl (by simp [maxLen])
 refine shO_freeze 8 rfl hb4 ?_; intro F21 hF22 hz23
 refine shO_L (L' := [(b12, .cells #[.slice (some ⟨b10, 0, none⟩) 2 2, .int .i64 3, .int .i64 12, .slice (some ⟨b11, 0, none⟩) 1 1, .int .i64 1, .int .i64 20] 40 (0, 0)), (b11, .cells #[.int .i64 1] 3 (0, 0)), (b10, .cells #[.int .i64 0, .int .i64 2] 3 (0, 0)), (b9, .cells #[.slice (some ⟨b6, 0, none⟩) 1 1, .slice (some ⟨b7, 0, none⟩) 1 1, .slice (some ⟨b8, 0, none⟩) 2 2] 38 (0, 0)), (b8, .cells #[.int .i64 1, .int .i64 2] 3 (0, 0)), (b7, .cells #[.int .i64 1] 3 (0, 0)), (b6, .cells #[.int .i64 0] 3 (0, 0)), (b5, .cells (#[.slice (some ⟨b2, 0, none⟩) [0, 2, -1].length 3, .slice (some ⟨b3, 0, none⟩) [2, 0, 2].length 3, .slice (some ⟨b4, 0, none⟩) 3 3]) 38 (0, 0)), (b1, .cells #[.slice none 0 0, .slice none 0 0, .int .i64 0, .int .i64 0, .slice none 0 0] 26 (0, 0))]) rfl ?_
 replace h16 := h16.mono (iE_ok _) hF22
 replace h20 := h20.mono (iE_ok _) hF22
 have h24 : RowR 1 (iE .i64) F21 (some ⟨b4, 0, none⟩) 3 [-1, 2, 0] := RowR.of_block (iE_ok _) (vss := [[.int .i64 (-1)], [.int .i64 2], [.int .i64 0]]) (xs := [-1, 2, 0]) hz23 (.cons rfl (.cons rfl (.cons rfl .nil))) rfl (by simp [maxLen])
 have hz26 : SlR K.w0.heap.size 38 1 (slE 1 (iE .i64)) F21 (some ⟨b5, 0, none⟩) 3 3 [[0, 2, -1], [2, 0, 2], [-1, 2, 0]] [(b5, .cells (#[.slice (some ⟨b2, 0, none⟩) [0, 2, -1].length 3, .slice (some ⟨b3, 0, none⟩) [2, 0, 2].length 3, .slice (some ⟨b4, 0, none⟩) [-1, 2, 0].length 3]) 38 (0, 0))] := SlR.of_block (vss := [[.slice (some ⟨b2, 0, none⟩) [0, 2, -1].length 3], [.slice (some ⟨b3, 0, none⟩) [2, 0, 2].length 3], [.slice (some ⟨b4, 0, none⟩) [-1, 2, 0].length 3]]) (slE_ok (iE_ok _)) hb5 (.cons ⟨_, _, rfl, h16⟩ (.cons ⟨_, _, rfl, h20⟩ (.cons ⟨_, _, rfl, h24⟩ .nil))) rfl rfl (by simp [maxLen])
 generalize hLLb25 : ([(b5, .cells (#[.slice (some ⟨b2, 0, none⟩) [0, 2, -1].length 3, .slice (some ⟨b3, 0, none⟩) [2, 0, 2].length 3, .slice (some ⟨b4, 0, none⟩) [-1, 2, 0].length 3]) 38 (0, 0))] : LH) = Lb25 at hz26
 refine shO_perm (L' := Lb25 ++ [(b12, .cells #[.slice (some ⟨b10, 0, none⟩) 2 2, .int .i64 3, .int .i64 12, .slice (some ⟨b11, 0, none⟩) 1 1, .int .i64 1, .int .i64 20] 40 (0, 0)), (b11, .cells #[.int .i64 1] 3 (0, 0)), (b10, .cells #[.int .i64 0, .int .i64 2] 3 (0, 0)), (b9, .cells #[.slice (some ⟨b6, 0, none⟩) 1 1, .slice (some ⟨b7, 0, none⟩) 1 1, .slice (some ⟨b8, 0, none⟩) 2 2] 38 (0, 0)), (b8, .cells #[.int .i64 1, .int .i64 2] 3 (0, 0)), (b7, .cells #[.int .i64 1] 3 (0, 0)), (b6, .cells #[.int .i64 0] 3 (0, 0)), (b1, .cells #[.slice none 0 0, .slice none 0 0, .int .i64 0, .int .i64 0, .slice none 0 0] 26 (0, 0))]) (by rw [← hLLb25]; exact (fC (fC (fC (fC (fC (fC (fC fO)))))))) ?_
 refine shO_perm (L' := (b12, .cells #[.slice (some ⟨b10, 0, none⟩) 2 2, .int .i64 3, .int .i64 12, .slice (some ⟨b11, 0, none⟩) 1 1, .int .i64 1, .int .i64 20] 40 (0, 0)) :: ((b11, .cells #[.int .i64 1] 3 (0, 0)) :: ((b10, .cells #[.int .i64 0, .int .i64 2] 3 (0, 0)) :: ((b9, .cells #[.slice (some ⟨b6, 0, none⟩) 1 1, .slice (some ⟨b7, 0, none⟩) 1 1, .slice (some ⟨b8, 0, none⟩) 2 2] 38 (0, 0)) :: ((b8, .cells #[.int .i64 1, .int .i64 2] 3 (0, 0)) :: ((b7, .cells #[.int .i64 1] 3 (0, 0)) :: ((b6, .cells #[.int .i64 0] 3 (0, 0)) :: ((b1, .cells #[.slice none 0 0, .slice none 0 0, .int .i64 0, .int .i64 0, .slice none 0 0] 26 (0, 0)) :: (Lb25 ++ []))))))))) (List.Perm.symm (fC (fC (fC (fC (fC (fC (fC (fC fP))))))))) ?_
 refine shO_freeze 6 rfl hb6 ?_; intro F28 hF29 hz30
 refine shO_L (L' := (b12, .cells #[.slice (some ⟨b10, 0, none⟩) 2 2, .int .i64 3, .int .i64 12, .slice (some ⟨b11, 0, none⟩) 1 1, .int .i64 1, .int .i64 20] 40 (0, 0)) :: ((b11, .cells #[.int .i64 1] 3 (0, 0)) :: ((b10, .cells #[.int .i64 0, .int .i64 2] 3 (0, 0)) :: ((b9, .cells #[.slice (some ⟨b6, 0, none⟩) 1 1, .slice (some ⟨b7, 0, none⟩) 1 1, .slice (some ⟨b8, 0, none⟩) 2 2] 38 (0, 0)) :: ((b8, .cells #[.int .i64 1, .int .i64 2] 3 (0, 0)) :: ((b7, .cells #[.int .i64 1] 3 (0, 0)) :: ((b1, .cells #[.slice none 0 0, .slice none 0 0, .int .i64 0, .int .i64 0, .slice none 0 0] 26 (0, 0)) :: (Lb25 ++ [])))))))) rfl ?_
 replace hz26 := hz26.mono (slE_ok (iE_ok _)) hF29
 have h31 : RowR 1 (iE .i64) F28 (some ⟨b6, 0, none⟩) 1 [0] := RowR.of_block (iE_ok _) (vss := [[.int .i64 0]]) (xs := [0]) hz30 (.cons rfl .nil) rfl (by simp [maxLen])
 refine shO_freeze 5 rfl hb7 ?_; intro F32 hF33 hz34
 refine shO_L (L' := (b12, .cells #[.slice (some ⟨b10, 0, none⟩) 2 2, .int .i64 3, .int .i64 12, .slice (some ⟨b11, 0, none⟩) 1 1, .int .i64 1, .int .i64 20] 40 (0, 0)) :: ((b11, .cells #[.int .i64 1] 3 (0, 0)) :: ((b10, .cells #[.int .i64 0, .int .i64 2] 3 (0, 0)) :: ((b9, .cells (#[.slice (some ⟨b6, 0, none⟩) [0].length 1, .slice (some ⟨b7, 0, none⟩) 1 1, .slice (some ⟨b8, 0, none⟩) 2 2]) 38 (0, 0)) :: ((b8, .cells #[.int .i64 1, .int .i64 2] 3 (0, 0)) :: ((b1, .cells #[.slice none 0 0, .slice none 0 0, .int .i64 0, .int .i64 0, .slice none 0 0] 26 (0, 0)) :: (Lb25 ++ []))))))) rfl ?_
 replace h31 := h31.mono (iE_ok _) hF33
 replace hz26 := hz26.mono (slE_ok (iE_ok _)) hF33
 have h35 : RowR 1 (iE .i64) F32 (some ⟨b7, 0, none⟩) 1 [1] := RowR.of_block (iE_ok _) (vss := [[.int .i64 1]]) (xs := [1]) hz34 (.cons rfl .nil) rfl (by simp [maxLen])
 refine shO_freeze 4 rfl hb8 ?_; intro F36 hF37 hz38
 refine shO_L (L' := (b12, .cells #[.slice (some ⟨b10, 0, none⟩) 2 2, .int .i64 3, .int .i64 12, .slice (some ⟨b11, 0, none⟩) 1 1, .int .i64 1, .int .i64 20] 40 (0, 0)) :: ((b11, .cells #[.int .i64 1] 3 (0, 0)) :: ((b10, .cells #[.int .i64 0, .int .i64 2] 3 (0, 0)) :: ((b9, .cells (#[.slice (some ⟨b6, 0, none⟩) [0].length 1, .slice (some ⟨b7, 0, none⟩) [1].length 1, .slice (some ⟨b8, 0, none⟩) 2 2]) 38 (0, 0)) :: ((b1, .cells #[.slice none 0 0, .slice none 0 0, .int .i64 0, .int .i64 0, .slice none 0 0] 26 (0, 0)) :: (Lb25 ++ [])))))) rfl ?_
 replace h31 := h31.mono (iE_ok _) hF37
 replace h35 := h35.mono (iE_ok _) hF37
 replace hz26 := hz26.mono (slE_ok (iE_ok _)) hF37
 have h39 : RowR 1 (iE .i64) F36 (some ⟨b8, 0, none⟩) 2 [1, 2] := RowR.of_block (iE_ok _) (vss := [[.int .i64 1], [.int .i64 2]]) (xs := [1, 2]) hz38 (.cons rfl (.cons rfl .nil)) rfl (by simp [maxLen])
 have hz41 : SlR K.w0.heap.size 38 1 (slE 1 (iE .i64)) F36 (some ⟨b9, 0, none⟩) 3 3 [[0], [1], [1, 2]] [(b9, .cells (#[.slice (some ⟨b6, 0, none⟩) [0].length 1, .slice (some ⟨b7, 0, none⟩) [1].length 1, .slice (some ⟨b8, 0, none⟩) [1, 2].length 2]) 38 (0, 0))] := SlR.of_block (vss := [[.slice (some ⟨b6, 0, none⟩) [0].length 1], [.slice (some ⟨b7, 0, none⟩) [1].length 1], [.slice (some ⟨b8, 0, none⟩) [1, 2].length 2]]) (slE_ok (iE_ok _)) hb9 (.cons ⟨_, _, rfl, h31⟩ (.cons ⟨_, _, rfl, h35⟩ (.cons ⟨_, _, rfl, h39⟩ .nil))) rfl rfl (by simp [maxLen])
 generalize hLLb40 : ([(b9, .cells (#[.slice (some ⟨b6, 0, none⟩) [0].length 1, .slice (some ⟨b7, 0, none⟩) [1].length 1, .slice (some ⟨b8, 0, none⟩) [1, 2].length 2]) 38 (0, 0))] : LH) = Lb40 at hz41
 refine shO_perm (L' := Lb40 ++ ((b12, .cells #[.slice (some ⟨b10, 0, none⟩) 2 2, .int .i64 3, .int .i64 12, .slice (some ⟨b11, 0, none⟩) 1 1, .int .i64 1, .int .i64 20] 40 (0, 0)) :: ((b11, .cells #[.int .i64 1] 3 (0, 0)) :: ((b10, .cells #[.int .i64 0, .int .i64 2] 3 (0, 0)) :: ((b1, .cells #[.slice none 0 0, .slice none 0 0, .int .i64 0, .int .i64 0, .slice none 0 0] 26 (0, 0)) :: (Lb25 ++ [])))))) (by rw [← hLLb40]; exact (fC (fC (fC fO)))) ?_
 refine shO_perm (L' := (b12, .cells #[.slice (some ⟨b10, 0, none⟩) 2 2, .int .i64 3, .int .i64 12, .slice (some ⟨b11, 0, none⟩) 1 1, .int .i64 1, .int .i64 20] 40 (0, 0)) :: ((b11, .cells #[.int .i64 1] 3 (0, 0)) :: ((b10, .cells #[.int .i64 0, .int .i64 2] 3 (0, 0)) :: ((b1, .cells #[.slice none 0 0, .slice none 0 0, .int .i64 0, .int .i64 0, .slice none 0 0] 26 (0, 0)) :: (Lb40 ++ (Lb25 ++ [])))))) (List.Perm.symm (fC (fC (fC (fC fP))))) ?_
 refine shO_freeze 2 rfl hb10 ?_; intro F43 hF44 hz45
 refine shO_L (L' := (b12, .cells #[.slice (some ⟨b10, 0, none⟩) 2 2, .int .i64 3, .int .i64 12, .slice (some ⟨b11, 0, none⟩) 1 1, .int .i64 1, .int .i64 20] 40 (0, 0)) :: ((b11, .cells #[.int .i64 1] 3 (0, 0)) :: ((b1, .cells #[.slice none 0 0, .slice none 0 0, .int .i64 0, .int .i64 0, .slice none 0 0] 26 (0, 0)) :: (Lb40 ++ (Lb25 ++ []))))) rfl ?_
 replace hz26 := hz26.mono (slE_ok (iE_ok _)) hF44
 replace hz41 := hz41.mono (slE_ok (iE_ok _)) hF44
 have h46 : RowR 1 (iE .i64) F43 (some ⟨b10, 0, none⟩) 2 [0, 2] := RowR.of_block (iE_ok _) (vss := [[.int .i64 0], [.int .i64 2]]) (xs := [0, 2]) hz45 (.cons rfl (.cons rfl .nil)) rfl (by simp [maxLen])
 refine shO_freeze 1 rfl hb11 ?_; intro F47 hF48 hz49
 refine shO_L (L' := (b12, .cells (#[.slice (some ⟨b10, 0, none⟩) [0, 2].length 2, .int .i64 3, .int .i64 12, .slice (some ⟨b11, 0, none⟩) 1 1, .int .i64 1, .int .i64 20]) 40 (0, 0)) :: ((b1, .cells #[.slice none 0 0, .slice none 0 0, .int .i64 0, .int .i64 0, .slice none 0 0] 26 (0, 0)) :: (Lb40 ++ (Lb25 ++ [])))) rfl ?_
 replace h46 := h46.mono (iE_ok _) hF48
 replace hz26 := hz26.mono (slE_ok (iE_ok _)) hF48
 replace hz41 := hz41.mono (slE_ok (iE_ok _)) hF48
 have h50 : RowR 1 (iE .i64) F47 (some ⟨b11, 0, none⟩) 1 [1] := RowR.of_block (iE_ok _) (vss := [[.int .i64 1]]) (xs := [1]) hz49 (.cons rfl .nil) rfl (by simp [maxLen])
 have hz52 : SlR K.w0.heap.size 40 3 (prE (slE 1 (iE .i64)) (prE (iE .i64) (iE .i64))) F47 (some ⟨b12, 0, none⟩) 2 2 [([0, 2], 3, 12), ([1], 1, 20)] [(b12, .cells (#[.slice (some ⟨b10, 0, none⟩) [0, 2].length 2, .int .i64 3, .int .i64 12, .slice (some ⟨b11, 0, none⟩) [1].length 1, .int .i64 1, .int .i64 20]) 40 (0, 0))] := SlR.of_block (vss := [[.slice (some ⟨b10, 0, none⟩) [0, 2].length 2, .int .i64 3, .int .i64 12], [.slice (some ⟨b11, 0, none⟩) [1].length 1, .int .i64 1, .int .i64 20]]) (prE_ok (slE_ok (iE_ok _)) (prE_ok (iE_ok _) (iE_ok _))) hb12 (.cons ⟨_, _, rfl, ⟨_, _, rfl, h46⟩, ⟨_, _, rfl, rfl, rfl⟩⟩ (.cons ⟨_, _, rfl, ⟨_, _, rfl, h50⟩, ⟨_, _, rfl, rfl, rfl⟩⟩ .nil)) rfl rfl (by simp [maxLen])
 generalize hLLb51 : ([(b12, .cells (#[.slice (some ⟨b10, 0, none⟩) [0, 2].length 2, .int .i64 3, .int .i64 12, .slice (some ⟨b11, 0, none⟩) [1].length 1, .int .i64 1, .int .i64 20]) 40 (0, 0))] : LH) = Lb51 at hz52
 refine shO_perm (L' := Lb51 ++ ((b1, .cells #[.slice none 0 0, .slice none 0 0, .int .i64 0, .int .i64 0, .slice none 0 0] 26 (0, 0)) :: (Lb40 ++ (Lb25 ++ [])))) (by rw [← hLLb51]; exact fO) ?_
 refine shO_perm (L' := (b1, .cells #[.slice none 0 0, .slice none 0 0, .int .i64 0, .int .i64 0, .slice none 0 0] 26 (0, 0)) :: (Lb51 ++ (Lb40 ++ (Lb25 ++ [])))) (List.Perm.symm (fC fP)) ?_
 refine o_storeA (i := 0) Try.sizeOf26 rfl rfl rfl (by simp [Value.oneCell']) rfl (Nat.le_of_ble_eq_true rfl) ?_
 refine shO_L (L' := (b1, .cells #[.slice (some ⟨b5, 0, none⟩) 3 3, .slice (some ⟨b9, 0, none⟩) 3 3, .int .i64 3, .int .i64 0, .slice (some ⟨b12, 0, none⟩) 2 2] 26 (0, 0)) :: (Lb51 ++ (Lb40 ++ (Lb25 ++ [])))) rfl ?_
 refine shO_nil ?_
 refine kW (kc (kg (fS (fS fP)) (kg (fS fP) kr))) ?_
 refine shW_ret ?_
 refine q_res1 Try.results34 (res_cellA (cs := #[.slice (some ⟨b5, 0, none⟩) 3 3, .slice (some ⟨b9, 0, none⟩) 3 3, .int .i64 3, .int .i64 0, .slice (some ⟨b12, 0, none⟩) 2 2]) Try.isAgg26 Try.sizeOf26 rfl (Has.own 0 rfl) (Nat.le_of_ble_eq_true rfl) rfl) (s1 (s4 (s4 (s4 sr)))) ?_
 obtain ⟨rfl, rfl, rfl, rfl, rfl⟩ := inj5 hr
 exact ⟨_, _, _, _, _, _, _, _, _, _, _, _, rfl, rfl, hz26.any, hz41.any, hz52.any⟩
set_option maxHeartbeats 1000000 in
theorem slices_Equal_round_Pair_round_Pair_w {s1_a : Option Addr} {s1_c : Nat} {s1 : List (Int × Int)} {s2_a : Option Addr} {s2_c : Nat} {s2 : List (Int × Int)} {F : FS} (h_s1 : RowR 2 (prE (iE .i64) (iE .i64)) F s1_a s1_c s1) (h_s2 : RowR 2 (prE (iE .i64) (iE .i64)) F s2_a s2_c s2) {r : Bool} (hr : slices_Equal_round_Pair_round_Pair s1 s2 = some r) :
    SpecV Try.prog 64 #[.slice s1_a s1.length s1_c, .slice s2_a s2.length s2_c] F (.bool r) := by
 refine spec_of_shW (args := [.slice s1_a s1.length s1_c, .slice s2_a s2.length s2_c]) Try.func64 rfl Try.ntmps64 (Nat.le_of_ble_eq_true rfl) ?_
 intro K _ _; rw [slices_Equal_round_Pair_round_Pair] at hr
 refine wsr (oa rfl rfl (shO_nil (shW_seq (wsr (om rfl rfl ?_)))))
 refine ov (v_lenS Try.underlying35 rfl) rfl ?_
 refine om rfl rfl ?_
 refine ov (v_lenS Try.underlying35 rfl) rfl ?_
 refine ov (v_neq rfl rfl) rfl ?_
 refine shO_nil ?_
 refine shW_condP rfl (fun c1 => ?_) (fun c1 => ?_)
 · have r2 := ite_t hr c1; clear hr
   refine wsr (oa rfl rfl (shO_nil (shW_ret (andThen_ret ?_))))
   refine q_res1 Try.results64 (res_tmp rfl) (sr) ?_
   obtain rfl := inj1 r2
   exact rfl
 have r3 := ite_f hr c1; clear hr
 refine shW_skip ?_
 refine shW_join (fun e1 F1 L1 => slices_Equal_round_Pair_round_Pair_j1 = some r ∧ F = F1 ∧ L1 = [] ∧ e1.sub []) ?_ ?_
 · refine wsr (om rfl rfl ?_)
   refine ov (v_lenS Try.underlying35 rfl) rfl ?_
   refine om rfl rfl (shO_nil ?_)
   refine shW_block ?_
   refine shW_lp (fun fu2 e1 F1 L1 => ∃ (tl : List (Int × Int)) (k : Int), tl.length = fu2 ∧ Lst s1 k tl ∧ slices_Equal_round_Pair_round_Pair_l2 s2 tl k = some r ∧ F = F1 ∧ L1 = [] ∧ e1.sub [(0, .slice s1_a s1.length s1_c), (1, .slice s2_a s2.length s2_c), (12, .int .i64 (s1.length : Int)), (13, .int .i64 k)]) _ (m0 kr ⟨_, _, rfl, Lst.start _, r3, rfl, rfl, (sc rfl (sc rfl (sc rfl (sc rfl (sn _)))))⟩) ?_
   rintro fu2 e1 _ _ ⟨tl, k, hn5, hk4, r6, rfl, rfl, he7⟩
   refine shW_env _ he7 ?_; clear he7
   refine wsr ?_
   refine ov (v_lssK rfl rfl) rfl ?_
   refine shO_nil (shW_seq ?_)
   refine shW_condP rfl (fun c9 => ?_) (fun c9 => ?_)
   · obtain ⟨x, tl2, rfl, hx11, g12, hk10⟩ := Lst.succ hk4 c9
     rw [slices_Equal_round_Pair_round_Pair_l2] at r6
     refine shW_skip (shW_seq ?_)
     refine shW_block ?_
     refine wsr (om rfl rfl (oa rfl rfl ?_))
     refine nsd (by kernel_rfl) (by kernel_rfl) (by kernel_rfl) ?_
     refine qm rfl rfl (qm rfl rfl ?_)
     obtain ⟨b13, o14, c15, vs16, ha17, hs18, hle19, ⟨_, _, rfl, rfl, rfl⟩, hl20, hc21⟩ := RowR.at (prE_ok (iE_ok _) (iE_ok _)) h_s1 ([]) g12.1 hx11
     refine qv (v_indexO Try.underlying35 Try.sizeOf48 rfl ha17 rfl g12) rfl ?_
     refine qv (v_loadA (cs := #[.int .i64 x.1, .int .i64 x.2]) Try.isAgg48 Try.sizeOf48 rfl hs18 hle19 (extract_cells hle19 hl20 hc21)) rfl ?_
     refine qm rfl rfl (qm rfl rfl ?_)
     obtain ⟨x2, g22, hx23, r24⟩ := ix_ok r6; clear r6
     obtain ⟨b25, o26, c27, vs28, ha29, hs30, hle31, ⟨_, _, rfl, rfl, rfl⟩, hl32, hc33⟩ := RowR.at (prE_ok (iE_ok _) (iE_ok _)) h_s2 ([]) g22.1 hx23
     refine qv (v_indexO Try.underlying35 Try.sizeOf48 rfl ha29 rfl g22) rfl ?_
     refine qv (v_loadA (cs := #[.int .i64 x2.1, .int .i64 x2.2]) Try.isAgg48 Try.sizeOf48 rfl hs30 hle31 (extract_cells hle31 hl32 hc33)) rfl ?_
     refine qv (v_neA (eqgn_48 _ _ _ _) (fun w => ne_of_eq (eq_48 _ _ _ _ w)) rfl rfl) rfl ?_
     refine shQ_nil ?_
     refine shW_condP rfl (fun c34 => ?_) (fun c34 => ?_)
     · have r35 := ite_t r24 c34; clear r24
       refine wsr (oa rfl rfl (shO_nil (shW_ret (inBlock_ret (andThen_ret (andThen_ret (inBlock_ret (andThen_ret ?_))))))))
       refine q_res1 Try.results64 (res_tmp rfl) (sr) ?_
       obtain rfl := inj1 r35
       exact rfl
     have r36 := ite_f r24 c34; clear r24
     refine shW_skip (inBlock_n (id := 1) (shW_region ?_))
     refine ov (v_add rfl rfl (Lst.r64 hk4 c9 (RowR.lt h_s1))) rfl ?_
     refine om rfl rfl (shO_nil ?_)
     subst hn5; exact le kr ⟨_, _, rfl, hk10, r36, rfl, rfl, (sc rfl (sc rfl (sc rfl (sc rfl (sn _)))))⟩
   obtain rfl := Lst.zero hk4 c9
   rw [slices_Equal_round_Pair_round_Pair_l2] at r6
   refine shW_exit (andThen_exit (andThen_exit ?_))
   refine inBlock_exit ?_
   exact mi kr ⟨r6, rfl, rfl, (sn _)⟩
 rintro e1 _ _ ⟨r37, rfl, rfl, he38⟩
 refine shW_env _ he38 ?_; clear he38
 rw [slices_Equal_round_Pair_round_Pair_j1] at r37
 refine wsr (oa rfl rfl (shO_nil (shW_ret ?_)))
 refine q_res1 Try.results64 (res_tmp rfl) (sr) ?_
 obtain rfl := inj1 r37
 exact rfl
set_option maxHeartbeats 1000000 in
theorem oyezkit_Like_Pair_w {a_a : Option Addr} {a_c : Nat} {a : List (Int × Int)} {b_a : Option Addr} {b_c : Nat} {b : List (Int × Int)} {F : FS} (h_a : RowR 2 (prE (iE .i64) (iE .i64)) F a_a a_c a) (h_b : RowR 2 (prE (iE .i64) (iE .i64)) F b_a b_c b) {r : Bool} (hr : oyezkit_Like_Pair a b = some r) :
    SpecV Try.prog 35 #[.slice a_a a.length a_c, .slice b_a b.length b_c] F (.bool r) := by
 refine spec_of_shW (args := [.slice a_a a.length a_c, .slice b_a b.length b_c]) Try.func35 rfl Try.ntmps35 (Nat.le_of_ble_eq_true rfl) ?_
 intro K _ _; rw [oyezkit_Like_Pair] at hr
 refine wsr (oa rfl rfl (nsr (om rfl rfl (om rfl rfl ?_))))
 obtain ⟨ok, h1, r2⟩ := b1_ok hr; clear hr
 refine o_callV rfl Try.call64 rfl rfl rfl (slices_Equal_round_Pair_round_Pair_w h_a h_b h1) ?_
 refine oa rfl rfl (shO_nil (shW_ret ?_))
 refine q_res1 Try.results35 (res_tmp rfl) (sr) ?_
 obtain rfl := inj1 r2
 exact rfl
set_option maxHeartbeats 1000000 in
theorem round_crier_of_w {b_c : Nat} {walks_a : Option Addr} {walks_c : Nat} {walks : List (List Int)} {hears_a : Option Addr} {hears_c : Nat} {hears : List (List Int)} {houses start : Int} {notices_a : Option Addr} {notices_c : Nat} {notices : List ((List Int) × Int × Int)} {walks2 : List Int} {pairs_a : Option Addr} {pairs_c : Nat} {pairs : List (Int × Int)} {hit : List Int} {mb_c : Nat × Nat} {notices2_a : Option Addr} {notices2_c : Nat} {notices2 : List Int} {F : FS} (hb_c : F b_c = some (.cells ((([.slice walks_a walks.length walks_c] : List Value) ++ (([.slice hears_a hears.length hears_c] : List Value) ++ (([.int .i64 houses] : List Value) ++ (([.int .i64 start] : List Value) ++ (([.slice notices_a notices.length notices_c] : List Value) ++ (walks2.flatMap (cI .i64) ++ (([.slice pairs_a pairs.length pairs_c] : List Value) ++ (hit.flatMap (cI .i64))))))))).toArray) 101 mb_c)) (_h_walks : RowR 1 (slE 1 (iE .i64)) F walks_a walks_c walks) (_h_hears : RowR 1 (slE 1 (iE .i64)) F hears_a hears_c hears) (_h_notices : RowR 3 (prE (slE 1 (iE .i64)) (prE (iE .i64) (iE .i64))) F notices_a notices_c notices) (h_walks2 : walks2.length = 25) (h_pairs : RowR 2 (prE (iE .i64) (iE .i64)) F pairs_a pairs_c pairs) (_h_hit : hit.length = 15) (h_notices2 : RowR 1 (iE .i64) F notices2_a notices2_c notices2) {r : Int} (hr : round_crier_of walks hears houses start notices walks2 pairs hit notices2 = some r) :
    SpecV Try.prog 55 #[.pointer (some ⟨b_c, 0, none⟩), .slice notices2_a notices2.length notices2_c] F (.int .i64 r) := by
 refine spec_of_shW (args := [.pointer (some ⟨b_c, 0, none⟩), .slice notices2_a notices2.length notices2_c]) Try.func55 rfl Try.ntmps55 (Nat.le_of_ble_eq_true rfl) ?_
 intro K _ _; rw [round_crier_of] at hr
 refine wsr (oa rfl rfl (nsr (oa rfl rfl (shO_nil ?_))))
 obtain ⟨set_, h1, r2⟩ := b1_ok hr; clear hr
 refine shW_join (fun e1 F1 L1 => F = F1 ∧ L1 = [] ∧ e1.sub [(5, .int .i64 set_)]) ?_ ?_
 · clear r2
   refine wsr (om rfl rfl ?_)
   refine ov (v_nilCheck rfl) rfl ?_
   refine ov (v_fieldAddr fa_101_2 rfl) rfl ?_
   refine ov (v_load Try.isAgg35 rfl (Has.frozen hb_c) (li_cell (li_skip (A := ([.slice walks_a walks.length walks_c] : List Value)) (k := 1) (o := 29) rfl (li_skip (A := ([.slice hears_a hears.length hears_c] : List Value)) (k := 1) (o := 28) rfl (li_skip (A := ([.int .i64 houses] : List Value)) (k := 1) (o := 27) rfl (li_skip (A := ([.int .i64 start] : List Value)) (k := 1) (o := 26) rfl (li_skip (A := ([.slice notices_a notices.length notices_c] : List Value)) (k := 1) (o := 25) rfl (li_skip (A := walks2.flatMap (cI .i64)) (k := 25) (o := 0) (lfl (cI_ok .i64) h_walks2) (li_here (B := hit.flatMap (cI .i64)) rfl))))))))) rfl ?_
   refine ov (v_lenS Try.underlying35 rfl) rfl ?_
   refine om rfl rfl (shO_nil ?_)
   refine shW_block ?_
   refine shW_lp (fun fu1 e1 F1 L1 => ∃ (tl : List (Int × Int)) (k : Int), tl.length = fu1 ∧ Lst pairs k tl ∧ ∃ (set_2 : Int), round_crier_of_l1 notices2 tl k set_2 = some set_ ∧ F = F1 ∧ L1 = [] ∧ e1.sub [(1, .slice notices2_a notices2.length notices2_c), (5, .int .i64 set_2), (11, .slice pairs_a pairs.length pairs_c), (12, .int .i64 (pairs.length : Int)), (13, .int .i64 k)]) _ (m0 kr ⟨_, _, rfl, Lst.start _, 0, h1, rfl, rfl, (sc rfl (sc rfl (sc rfl (sc rfl (sc rfl (sn _))))))⟩) ?_
   rintro fu1 e1 _ _ ⟨tl, k, hn4, hk3, set_2, r5, rfl, rfl, he6⟩
   refine shW_env _ he6 ?_; clear he6
   refine wsr ?_
   refine ov (v_lssK rfl rfl) rfl ?_
   refine shO_nil (shW_seq ?_)
   refine shW_condP rfl (fun c8 => ?_) (fun c8 => ?_)
   · obtain ⟨x, tl2, rfl, hx10, g11, hk9⟩ := Lst.succ hk3 c8
     rw [round_crier_of_l1] at r5
     refine shW_skip (shW_seq ?_)
     refine shW_block ?_
     refine wsr (om rfl rfl ?_)
     obtain ⟨b12, o13, c14, vs15, ha16, hs17, hle18, ⟨_, _, rfl, rfl, rfl⟩, hl19, hc20⟩ := RowR.at (prE_ok (iE_ok _) (iE_ok _)) h_pairs ([]) g11.1 hx10
     refine ov (v_indexO Try.underlying35 Try.sizeOf48 rfl ha16 rfl g11) rfl ?_
     refine ov (v_loadA (cs := #[.int .i64 x.1, .int .i64 x.2]) Try.isAgg48 Try.sizeOf48 rfl hs17 hle18 (extract_cells hle18 hl19 hc20)) rfl ?_
     refine o_alloc rfl Try.zeroValue48 ?_; intro b21 hb21
     refine oa rfl rfl ?_
     refine o_storeA (i := 0) Try.sizeOf48 rfl rfl rfl (by simp [Value.oneCell']) rfl (Nat.le_of_ble_eq_true rfl) ?_
     refine shO_L (L' := [(b21, .cells #[.int .i64 x.1, .int .i64 x.2] 48 (0, 0))]) rfl ?_
     refine nsr (om rfl rfl ?_)
     refine ov (v_fieldAddr fa_48_0 rfl) rfl ?_
     refine ov (v_load Try.isAgg3 rfl (Has.own 0 rfl) rfl) rfl ?_
     obtain ⟨ok, h22, r23⟩ := b1_ok r5; clear r5
     refine o_callV rfl Try.call19 rfl rfl rfl (slices_Contains_int_int_w h_notices2 h22) ?_
     refine shO_nil ?_
     refine shW_cond rfl (fun c24 => ?_) (fun c24 => ?_)
     · have r25 := bt r23 c24; clear r23
       refine shW_region (om rfl rfl (om rfl rfl ?_))
       obtain ⟨g26, r27⟩ := gd_ok r25; clear r25
       refine ov (v_shl rfl rfl g26) rfl ?_
       refine ov (v_or rfl rfl) rfl ?_
       refine oa rfl rfl (shO_nil (inBlock_n (id := 1) (shW_region ?_)))
       refine ov (v_add rfl rfl (Lst.r64 hk3 c8 (RowR.lt h_pairs))) rfl ?_
       refine om rfl rfl (shO_nil ?_)
       subst hn4; exact le kn ⟨_, _, rfl, hk9, bor set_2 (shl 1 k), r27, rfl, rfl, (sc rfl (sc rfl (sc rfl (sc rfl (sc rfl (sn _))))))⟩
     have r28 := bf r23 c24; clear r23
     refine shW_skip (inBlock_n (id := 1) (shW_region ?_))
     refine ov (v_add rfl rfl (Lst.r64 hk3 c8 (RowR.lt h_pairs))) rfl ?_
     refine om rfl rfl (shO_nil ?_)
     subst hn4; exact le kn ⟨_, _, rfl, hk9, set_2, r28, rfl, rfl, (sc rfl (sc rfl (sc rfl (sc rfl (sc rfl (sn _))))))⟩
   obtain rfl := Lst.zero hk3 c8
   rw [round_crier_of_l1] at r5
   refine shW_exit (andThen_exit (andThen_exit ?_))
   refine inBlock_exit ?_
   obtain rfl := inj1 r5
   exact mi kr ⟨rfl, rfl, (sc rfl (sn _))⟩
 rintro e1 _ _ ⟨rfl, rfl, he29⟩
 refine shW_env _ he29 ?_; clear he29
 refine wsr (om rfl rfl (oa rfl rfl (shO_nil (shW_ret ?_))))
 refine q_res1 Try.results55 (res_tmp rfl) (sr) ?_
 obtain rfl := inj1 r2
 exact rfl
set_option maxHeartbeats 1000000 in
theorem round_Two_w {walks_a : Option Addr} {walks_c : Nat} {walks : List (List Int)} {hears_a : Option Addr} {hears_c : Nat} {hears : List (List Int)} {houses start : Int} {notices_a : Option Addr} {notices_c : Nat} {notices : List ((List Int) × Int × Int)} {F : FS} (h_walks : RowR 1 (slE 1 (iE .i64)) F walks_a walks_c walks) (h_hears : RowR 1 (slE 1 (iE .i64)) F hears_a hears_c hears) (h_notices : RowR 3 (prE (slE 1 (iE .i64)) (prE (iE .i64) (iE .i64))) F notices_a notices_c notices) {r : List Int} {r2 r3 : Int} (hr : round_Two walks hears houses start notices = some (r, r2, r3)) :
    SH.Spec Try.prog 36 #[.agg #[.slice walks_a walks.length walks_c, .slice hears_a hears.length hears_c, .int .i64 houses, .int .i64 start, .slice notices_a notices.length notices_c]] F [] fun F' L' v => ∃ (ra : Option Addr) (rn : Nat) (rc : Nat) (rL : LH), v = .tuple #[.slice ra rn rc, .int .i64 r2, .int .i64 r3] ∧ L' = rL ++ [] ∧ SlR 0 3 1 (iE .i64) F' ra rn rc r rL := by
 refine spec_of_shW (args := [.agg #[.slice walks_a walks.length walks_c, .slice hears_a hears.length hears_c, .int .i64 houses, .int .i64 start, .slice notices_a notices.length notices_c]]) Try.func36 rfl Try.ntmps36 (Nat.le_of_ble_eq_true rfl) ?_
 intro K _ _; rw [round_Two] at hr
 refine wsr ?_
 refine o_box rfl rfl ?_; intro b1 hb1
 refine oa rfl rfl (oa rfl rfl (oa rfl rfl (nsr ?_)))
 refine ov (v_loadA (cs := #[.slice walks_a walks.length walks_c, .slice hears_a hears.length hears_c, .int .i64 houses, .int .i64 start, .slice notices_a notices.length notices_c]) Try.isAgg26 Try.sizeOf26 rfl (Has.own 0 rfl) (Nat.le_of_ble_eq_true rfl) rfl) rfl ?_
 obtain ⟨d, n, h2, r4⟩ := b2_ok hr; clear hr
 refine o_call0 rfl Try.call30 rfl rfl rfl (round_opened_w h_walks h_hears h_notices h2) ?_; rintro _ F5 _ hF6 hn7 ⟨v9, rfl, rfl, hp10⟩
 refine shO_L (ln rfl) ?_
 refine om rfl rfl (ox rfl rfl rfl (ox rfl rfl rfl (oa rfl rfl (oa rfl rfl (shO_nil (shW_seq (wsr (om rfl rfl ?_))))))))
 refine ov (v_neq rfl rfl) rfl ?_
 refine shO_nil ?_
 refine shW_condP rfl (fun c11 => ?_) (fun c11 => ?_)
 · have r12 := ite_t r4 c11; clear r4
   refine wsr (om rfl rfl (oa rfl rfl (oa rfl rfl (oa rfl rfl (shO_nil ?_)))))
   refine kW kn ?_
   refine shW_ret (andThen_ret ?_)
   refine q_res3 Try.results36 (res_tmp rfl) (res_tmp rfl) (res_tmp rfl) (sr) ?_
   obtain ⟨rfl, rfl, rfl⟩ := inj3 r12
   exact ⟨_, _, _, [], rfl, rfl, SlR.nil _ _ _ _ _⟩
 have r13 := ite_f r4 c11; clear r4
 refine shW_skip (wsr (oa rfl rfl (nsr (oa rfl rfl (shO_nil ?_)))))
 obtain ⟨out, best, h20, r21⟩ := b2_ok r13; clear r13
 refine shW_join (fun e1 F1 L1 => ∃ (a14 : Option Addr) (n18 : Nat) (c15 : Nat) (Lb16 : LH), FExt F5 F1 ∧ L1 = (Lb16 ++ []) ∧ e1.sub [(7, .slice a14 n18 c15), (8, .int .i64 best)] ∧ SlR K.w0.heap.size 3 1 (iE .i64) F1 a14 n18 c15 out Lb16) ?_ ?_
 · clear r21
   refine wsr ?_
   refine ov (v_fieldAddr fa_26_4 rfl) rfl ?_
   refine ov (v_load Try.isAgg24 rfl (Has.own 0 rfl) rfl) rfl ?_
   refine ov (v_lenS Try.underlying24 rfl) rfl ?_
   obtain ⟨g22, r23⟩ := gd_ok h20; clear h20
   refine ov (v_shl rfl rfl g22) rfl ?_
   refine om rfl rfl (shO_nil ?_)
   refine shW_block ?_
   obtain ⟨g32, r33⟩ := gd_ok r23; clear r23
   refine shW_lp (fun fu1 e1 F1 L1 => ∃ (k : Int), Ctr 0 (shl 1 (notices.length : Int)) k fu1 ∧ ∃ (out2 : List Int) (best2 : Int) (v24 : Value) (a26 : Option Addr) (n30 : Nat) (c27 : Nat) (Lb28 : LH), round_Two_l1 notices d fu1 k out2 best2 = some (out, best) ∧ FExt F5 F1 ∧ L1 = ((b1, .cells #[.slice walks_a walks.length walks_c, .slice hears_a hears.length hears_c, .int .i64 houses, .int .i64 start, .slice notices_a notices.length notices_c] 26 (0, 0)) :: (Lb28 ++ [])) ∧ e1.sub [(1, .pointer (some ⟨b1, 0, none⟩)), (5, v24), (7, .slice a26 n30 c27), (8, .int .i64 best2), (31, .int .i64 (shl 1 (notices.length : Int))), (32, .int .i64 k)] ∧ PtrR 101 (prE (slE 1 (slE 1 (iE .i64))) (prE (slE 1 (slE 1 (iE .i64))) (prE (iE .i64) (prE (iE .i64) (prE (slE 3 (prE (slE 1 (iE .i64)) (prE (iE .i64) (iE .i64)))) (prE (arE 25 (cI .i64)) (prE (slE 2 (prE (iE .i64) (iE .i64))) (arE 15 (cI .i64))))))))) F1 v24 d ∧ SlR K.w0.heap.size 3 1 (iE .i64) F1 a26 n30 c27 out2 Lb28) _ (m0 (kc (ke kr)) ⟨_, Ctr.start _ _, [], -1, v9, none, 0, 0, [], r33, FExt.refl _, rfl, (sc rfl (sc rfl (sc rfl (sc rfl (sc rfl (sc rfl (sn _))))))), hp10, SlR.nil _ _ _ _ _⟩) ?_
   rintro fu1 e1 F38 _ ⟨k, hk34, out2, best2, v24, a26, n30, c27, Lb28, r36, hF39, rfl, he37, hp25, hz29⟩
   refine shW_env _ he37 ?_; clear he37
   refine wsr ?_
   refine ov (v_lssK rfl rfl) rfl ?_
   refine shO_nil (shW_seq ?_)
   refine shW_condP rfl (fun c41 => ?_) (fun c41 => ?_)
   · obtain ⟨fu1, rfl, hk42⟩ := Ctr.succ hk34 c41
     rw [round_Two_l1] at r36
     refine shW_skip ?_
     obtain ⟨out3, best3, h51, r52⟩ := b2_ok r36; clear r36
     refine shW_join (fun e1 F1 L1 => ∃ (v43 : Value) (a45 : Option Addr) (n49 : Nat) (c46 : Nat) (Lb47 : LH), FExt F38 F1 ∧ L1 = ((b1, .cells #[.slice walks_a walks.length walks_c, .slice hears_a hears.length hears_c, .int .i64 houses, .int .i64 start, .slice notices_a notices.length notices_c] 26 (0, 0)) :: (Lb47 ++ [])) ∧ e1.sub [(1, .pointer (some ⟨b1, 0, none⟩)), (5, v43), (7, .slice a45 n49 c46), (8, .int .i64 best3), (31, .int .i64 (shl 1 (notices.length : Int))), (32, .int .i64 k)] ∧ PtrR 101 (prE (slE 1 (slE 1 (iE .i64))) (prE (slE 1 (slE 1 (iE .i64))) (prE (iE .i64) (prE (iE .i64) (prE (slE 3 (prE (slE 1 (iE .i64)) (prE (iE .i64) (iE .i64)))) (prE (arE 25 (cI .i64)) (prE (slE 2 (prE (iE .i64) (iE .i64))) (arE 15 (cI .i64))))))))) F1 v43 d ∧ SlR K.w0.heap.size 3 1 (iE .i64) F1 a45 n49 c46 out3 Lb47) ?_ ?_
     · clear r52
       refine shW_block ?_
       refine wsr (om rfl rfl (oa rfl rfl (nsr ?_)))
       refine ov (v_fieldAddr fa_26_4 rfl) rfl ?_
       refine ov (v_load Try.isAgg24 rfl (Has.own 0 rfl) rfl) rfl ?_
       refine ov (v_lenS Try.underlying24 rfl) rfl ?_
       obtain ⟨g53, r54⟩ := gd_ok h51; clear h51
       obtain ⟨l, h55, r56⟩ := bv_ok r54; clear r54
       refine o_makeZ (R := (iE .i64)) (z0 := 0) (zs := l) rfl slt_38 (by decide) (iE_ok _) (fun _ => rfl) rfl g53 h55 (fun _ => .c .n) ?_; intro a57 n60 Lb58 hz59
       refine oa rfl rfl (nsr ?_)
       refine o_alloc rfl Try.zeroValue126 ?_; intro b62 hb62
       refine shO_nil ?_
       obtain ⟨who, l_l, l_l2, h77, r78⟩ := b3_ok r56; clear r56
       refine shW_join (fun e1 F1 L1 => ∃ (Lb63 : LH) (a65 : Option Addr) (n69 : Nat) (c66 : Nat) (Lb67 : LH) (a71 : Option Addr) (n75 : Nat) (c72 : Nat) (Lb73 : LH), F38 = F1 ∧ L1 = ((b62, .cells #[.slice a65 n69 c66, .slice a71 n75 c72] 126 (0, 0)) :: ((b1, .cells #[.slice walks_a walks.length walks_c, .slice hears_a hears.length hears_c, .int .i64 houses, .int .i64 start, .slice notices_a notices.length notices_c] 26 (0, 0)) :: (Lb28 ++ (Lb63 ++ (Lb67 ++ (Lb73 ++ [])))))) ∧ e1.sub [(1, .pointer (some ⟨b1, 0, none⟩)), (5, v24), (7, .slice a26 n30 c27), (8, .int .i64 best2), (10, .slice a57 n60 n60), (11, .pointer (some ⟨b62, 0, none⟩)), (31, .int .i64 (shl 1 (notices.length : Int))), (32, .int .i64 k)] ∧ SlR K.w0.heap.size 3 1 (iE .i64) F1 a57 n60 n60 who Lb63 ∧ SlR K.w0.heap.size 3 1 (iE .i64) F1 a65 n69 c66 l_l Lb67 ∧ SlR K.w0.heap.size 3 1 (iE .i64) F1 a71 n75 c72 l_l2 Lb73) ?_ ?_
       · clear r78
         refine wsr (om rfl rfl ?_)
         refine ov ((v_lenS Try.underlying38 rfl).i (SlR.lenI hz59)) rfl ?_
         refine om rfl rfl (shO_nil ?_)
         refine shW_block ?_
         obtain ⟨g93, r94⟩ := gd_ok h77; clear h77
         refine shW_lp (fun fu2 e1 F1 L1 => ∃ (k2 : Int), Ctr 0 (l.length : Int) k2 fu2 ∧ ∃ (who2 : List Int) (l_l3 : List Int) (l_l4 : List Int) (Lb79 : LH) (a81 : Option Addr) (n85 : Nat) (c82 : Nat) (Lb83 : LH) (a87 : Option Addr) (n91 : Nat) (c88 : Nat) (Lb89 : LH), round_Two_l2 k fu2 k2 who2 l_l3 l_l4 = some (who, l_l, l_l2) ∧ F38 = F1 ∧ L1 = ((b62, .cells #[.slice a81 n85 c82, .slice a87 n91 c88] 126 (0, 0)) :: ((b1, .cells #[.slice walks_a walks.length walks_c, .slice hears_a hears.length hears_c, .int .i64 houses, .int .i64 start, .slice notices_a notices.length notices_c] 26 (0, 0)) :: (Lb28 ++ (Lb79 ++ (Lb83 ++ (Lb89 ++ [])))))) ∧ e1.sub [(1, .pointer (some ⟨b1, 0, none⟩)), (5, v24), (7, .slice a26 n30 c27), (8, .int .i64 best2), (9, .int .i64 k), (10, .slice a57 n60 n60), (11, .pointer (some ⟨b62, 0, none⟩)), (31, .int .i64 (shl 1 (notices.length : Int))), (32, .int .i64 k), (40, .int .i64 (l.length : Int)), (41, .int .i64 k2)] ∧ SlR K.w0.heap.size 3 1 (iE .i64) F1 a57 n60 n60 who2 Lb79 ∧ SlR K.w0.heap.size 3 1 (iE .i64) F1 a81 n85 c82 l_l3 Lb83 ∧ SlR K.w0.heap.size 3 1 (iE .i64) F1 a87 n91 c88 l_l4 Lb89) _ (m0 (kc (kc (kg (fS fP) (ka (ke (ke kr)))))) ⟨_, Ctr.start _ _, l, [], [], Lb58, none, 0, 0, [], none, 0, 0, [], r94, rfl, rfl, (sc rfl (sc rfl (sc rfl (sc rfl (sc rfl (sc rfl (sc rfl (sc rfl (sc rfl (sc rfl (sc rfl (sn _)))))))))))), hz59, SlR.nil _ _ _ _ _, SlR.nil _ _ _ _ _⟩) ?_
         rintro fu2 e1 _ _ ⟨k2, hk95, who2, l_l3, l_l4, Lb79, a81, n85, c82, Lb83, a87, n91, c88, Lb89, r97, rfl, rfl, he98, hz80, hz84, hz90⟩
         refine shW_env _ he98 ?_; clear he98
         refine wsr ?_
         refine ov (v_lssK rfl rfl) rfl ?_
         refine shO_nil (shW_seq ?_)
         refine shW_condP rfl (fun c100 => ?_) (fun c100 => ?_)
         · obtain ⟨fu2, rfl, hk101⟩ := Ctr.succ hk95 c100
           rw [round_Two_l2] at r97
           refine shW_skip (shW_seq ?_)
           refine shW_block ?_
           refine wsr (om rfl rfl (oa rfl rfl (nsr (om rfl rfl (om rfl rfl (om rfl rfl (om rfl rfl ?_)))))))
           refine ov ((v_lenS Try.underlying38 rfl).i (SlR.lenI hz80)) rfl ?_
           obtain ⟨g102, r103⟩ := gd_ok r97; clear r97
           refine ov (v_sub rfl rfl g102) rfl ?_
           refine om rfl rfl ?_
           obtain ⟨g104, r105⟩ := gd_ok r103; clear r103
           refine ov (v_sub rfl rfl g104) rfl ?_
           obtain ⟨g106, r107⟩ := gd_ok r105; clear r105
           refine ov (v_shr rfl rfl g106) rfl ?_
           refine ov (v_and rfl rfl) rfl ?_
           obtain ⟨x, g108, hx109, r110⟩ := ix_ok r107; clear r107
           obtain ⟨b111, o112, c113, vs114, ha115, hs116, hle117, rfl, hl118, hc119⟩ := SlR.at (iE_ok _) hz80 (L := (b62, .cells #[.slice a81 n85 c82, .slice a87 n91 c88] 126 (0, 0)) :: ((b1, .cells #[.slice walks_a walks.length walks_c, .slice hears_a hears.length hears_c, .int .i64 houses, .int .i64 start, .slice notices_a notices.length notices_c] 26 (0, 0)) :: (Lb28 ++ (Lb79 ++ (Lb83 ++ (Lb89 ++ [])))))) (fC (fC (fS fP))) g108.1 hx109
           refine ov (v_indexO Try.underlying38 Try.sizeOf3 rfl ha115 rfl (SlR.idx hz80 g108)) rfl ?_
           obtain ⟨who3, h120, r121⟩ := bv_ok r110; clear r110
           refine o_storeZ (u := band (shr k (((who2.length : Int) - 1) - k2)) 1) Try.sizeOf3 (iE_ok _) rfl ha115 rfl rfl (fun _ => .c (.c (.s .h))) hz80 h120 g108 ?_; intro Lb122 hz123
           refine shO_nil ?_
           refine shW_drawM [(.still, 0), (.still, 1), (.still, 2), (.still, 3), (.still, 4), (.still, 5), (.still, 6), (.still, 7), (.still, 8), (.still, 9), (.still, 10), (.seq, 11), (.seq, 12), (.still, 13), (.seq, 14)] (by kernel_rfl) (by kernel_rfl) (trivial) (by rfl) (by kernel_rfl) ?_
           refine shM_v (v := .slice a57 n60 n60) (ek := [(10, .slice a57 n60 n60)]) (Ls := []) rfl rfl rfl rfl ((sc rfl (sn _))) (by kernel_rfl) sm (fun H F' L' hF' hL' => v_move rfl) ?_
           refine shM_v (v := .int .i64 k2) (ek := [(12, .int .i64 k2)]) (Ls := []) rfl rfl rfl rfl ((sc rfl (sn _))) (by kernel_rfl) sm (fun H F' L' hF' hL' => v_move rfl) ?_
           obtain ⟨x2, g124, hx125, r126⟩ := ix_ok r121; clear r121
           obtain ⟨b127, o128, c129, vs130, ha131, hs132, hle133, rfl, hl134, hc135⟩ := SlR.at (iE_ok _) hz123 (L := Lb122 ++ []) fP g124.1 hx125
           refine shM_v (v := .pointer (some ⟨b127, o128 + (k2 : Int).toNat * 1, none⟩)) (ek := [(55, .slice a57 n60 n60), (56, .int .i64 k2)]) (Ls := []) rfl rfl rfl rfl ((sc rfl (sc rfl (sn _)))) (by kernel_rfl) sm (fun H F' L' hF' hL' => v_indexO Try.underlying38 Try.sizeOf3 rfl ha131 rfl (SlR.idx hz123 g124)) ?_
           refine shM_v (v := .int .i64 x2) (ek := [(57, .pointer (some ⟨b127, o128 + (k2 : Int).toNat * 1, none⟩))]) (Ls := Lb122 ++ []) rfl rfl rfl rfl ((sc rfl (sn _))) (by kernel_rfl) (s0 (s1 (s1 (s3 (s4 (s3 (s3 sr))))))) (fun H F' L' hF' hL' => v_load Try.isAgg3 rfl (hs132.ext hF' hL') (hc135 0 (by decide))) ?_
           refine shM_v (v := .slice a57 n60 n60) (ek := [(10, .slice a57 n60 n60)]) (Ls := []) rfl rfl rfl rfl ((sc rfl (sn _))) (by kernel_rfl) sm (fun H F' L' hF' hL' => v_move rfl) ?_
           refine shM_v (v := .int .i64 k2) (ek := [(12, .int .i64 k2)]) (Ls := []) rfl rfl rfl rfl ((sc rfl (sn _))) (by kernel_rfl) sm (fun H F' L' hF' hL' => v_move rfl) ?_
           obtain ⟨b136, o137, c138, vs139, ha140, hs141, hle142, rfl, hl143, hc144⟩ := SlR.at (iE_ok _) hz123 (L := Lb122 ++ []) fP g124.1 hx125
           refine shM_v (v := .pointer (some ⟨b136, o137 + (k2 : Int).toNat * 1, none⟩)) (ek := [(59, .slice a57 n60 n60), (60, .int .i64 k2)]) (Ls := []) rfl rfl rfl rfl ((sc rfl (sc rfl (sn _)))) (by kernel_rfl) sm (fun H F' L' hF' hL' => v_indexO Try.underlying38 Try.sizeOf3 rfl ha140 rfl (SlR.idx hz123 g124)) ?_
           refine shM_v (v := .int .i64 x2) (ek := [(61, .pointer (some ⟨b136, o137 + (k2 : Int).toNat * 1, none⟩))]) (Ls := Lb122 ++ []) rfl rfl rfl rfl ((sc rfl (sn _))) (by kernel_rfl) (s0 (s1 (s1 (s3 (s4 (s3 (s3 sr))))))) (fun H F' L' hF' hL' => v_load Try.isAgg3 rfl (hs141.ext hF' hL') (hc144 0 (by decide))) ?_
           by_cases c145 : x2 = 0
           · have r146 := ite_t r126 c145; clear r126
             refine shM_v (v := .pointer (some ⟨b62, 0, none⟩)) (ek := [(11, .pointer (some ⟨b62, 0, none⟩)), (62, .int .i64 x2)]) (Ls := []) rfl rfl rfl rfl ((sc rfl (sc rfl (sn _)))) (by kernel_rfl) sm (fun H F' L' hF' hL' => OpV.eq (v' := .pointer (some ⟨b62, 0, none⟩)) (v_indexA Try.underlying126 Try.sizeOf38 rfl rfl (by have := c145; omega)) (by rw [c145]; rfl)) ?_
             refine shM_v (v := .slice a81 n85 c82) (ek := [(63, .pointer (some ⟨b62, 0, none⟩))]) (Ls := [(b62, .cells #[.slice a81 n85 c82, .slice a87 n91 c88] 126 (0, 0))]) rfl rfl rfl rfl ((sc rfl (sn _))) (by kernel_rfl) (s0 (s2 (s1 (s3 (s3 (s3 (s3 sr))))))) (fun H F' L' hF' hL' => v_load Try.isAgg38 rfl ((Has.own 0 rfl).ext hF' hL') rfl) ?_
             refine shM_v (v := .int .i64 k2) (ek := [(12, .int .i64 k2)]) (Ls := []) rfl rfl rfl rfl ((sc rfl (sn _))) (by kernel_rfl) sm (fun H F' L' hF' hL' => v_move rfl) ?_
             refine ⟨_, [(65, .int .i64 k2)], rfl, rfl, (sc rfl (sn _)), by kernel_rfl, ?_⟩; intro H
             refine o_buildSlice (cs := #[.int .i64 k2]) rfl rfl (buildSlice_all slt_38 [.int .i64 k2] rfl (by decide) (by simp [Value.cells]) (by decide)) ?_; intro b147 hb147
             refine shO_nil ⟨_, rfl, FExt.refl _, [9, 8, 7, 6, 5, 4, 3, 2, 1, 0], by kernel_rfl, .inl (.inr (fun d h => by cases h; rfl)), (List.forall_mem_cons.2 ⟨s0 (s1 (s2 (s1 (s3 (s3 (s3 (s3 sr))))))), (List.forall_mem_cons.2 ⟨sm, (List.forall_mem_cons.2 ⟨s0 (s1 (s1 (s1 (s3 (s4 (s3 (s3 sr))))))), (List.forall_mem_cons.2 ⟨sm, (List.forall_mem_cons.2 ⟨sm, (List.forall_mem_cons.2 ⟨sm, (List.forall_mem_cons.2 ⟨s0 (s1 (s1 (s1 (s3 (s4 (s3 (s3 sr))))))), (List.forall_mem_cons.2 ⟨sm, (List.forall_mem_cons.2 ⟨sm, (List.forall_mem_cons.2 ⟨sm, (fun _ h => absurd h List.not_mem_nil)⟩)⟩)⟩)⟩)⟩)⟩)⟩)⟩)⟩)⟩), ?_⟩
             refine ⟨_, [(64, .slice a81 n85 c82), (66, .slice (some ⟨b147, 0, none⟩) 1 1)], rfl, rfl, (sc rfl (sc rfl (sn _))), by kernel_rfl, ?_⟩; intro H
             obtain ⟨l2, h148, g149, r150⟩ := ap_ok r146; clear r146
             refine o_appZ (xs := l_l3) (ys := [k2]) (zs := l2) rfl slt_38 rfl rfl (Nat.le_refl _) (fun _ => .c (.c (.c (.s (.s .h))))) hz84 (SrcR.box (vss := [[.int .i64 k2]]) (ys := [k2]) 0 rfl (iE_ok _) (.cons rfl .nil) rfl rfl) h148 g149 (by decide) ?_; intro a151 n155 c152 Lb153 hz154
             refine kO (kd kr) ?_
             refine shO_nil ⟨_, rfl, FExt.refl _, [3, 2, 1, 0], by kernel_rfl, .inl (.inr (fun d h => by cases h; rfl)), (List.forall_mem_cons.2 ⟨s0 (s1 (s1 (s3 (s4 (s3 (s3 sr)))))), (List.forall_mem_cons.2 ⟨sm, (List.forall_mem_cons.2 ⟨sm, (List.forall_mem_cons.2 ⟨sm, (fun _ h => absurd h List.not_mem_nil)⟩)⟩)⟩)⟩), ?_⟩
             refine shM_v (v := .pointer (some ⟨b62, 0, none⟩)) (ek := [(11, .pointer (some ⟨b62, 0, none⟩)), (58, .int .i64 x2)]) (Ls := []) rfl rfl rfl rfl ((sc rfl (sc rfl (sn _)))) (by kernel_rfl) sm (fun H F' L' hF' hL' => OpV.eq (v' := .pointer (some ⟨b62, 0, none⟩)) (v_indexA Try.underlying126 Try.sizeOf38 rfl rfl (by have := c145; omega)) (by rw [c145]; rfl)) ?_
             refine ⟨_, [(67, .slice a151 n155 c152), (68, .pointer (some ⟨b62, 0, none⟩))], rfl, rfl, (sc rfl (sc rfl (sn _))), by kernel_rfl, ?_⟩; intro H
             refine o_store (i := 0) Try.sizeOf38 rfl rfl rfl rfl (Nat.le_of_ble_eq_true rfl) ?_
             refine shO_L (L' := (b62, .cells #[.slice a151 n155 c152, .slice a87 n91 c88] 126 (0, 0)) :: ((b1, .cells #[.slice walks_a walks.length walks_c, .slice hears_a hears.length hears_c, .int .i64 houses, .int .i64 start, .slice notices_a notices.length notices_c] 26 (0, 0)) :: (Lb28 ++ (Lb122 ++ (Lb153 ++ (Lb89 ++ [])))))) rfl ?_
             refine shO_nil ⟨undef, rfl, FExt.refl _, [], by kernel_rfl, .inl (.inl rfl), (fun _ h => absurd h List.not_mem_nil), ?_⟩
             refine shM_nil ?_
             refine inBlock_n (id := 3) (shW_region ?_)
             refine ov (v_add rfl rfl (Ctr.r64 hk95 c100 g93)) rfl ?_
             refine om rfl rfl (shO_nil ?_)
             exact le kr ⟨_, hk101, who3, l2, l_l4, Lb122, a151, n155, c152, Lb153, a87, n91, c88, Lb89, r150, rfl, rfl, (sc rfl (sc rfl (sc rfl (sc rfl (sc rfl (sc rfl (sc rfl (sc rfl (sc rfl (sc rfl (sc rfl (sn _)))))))))))), hz123, hz154, hz90⟩
           have r157 := ite_f r126 c145; clear r126
           obtain ⟨g158, r159⟩ := gd_ok r157; clear r157
           refine shM_v (v := .pointer (some ⟨b62, 1, none⟩)) (ek := [(11, .pointer (some ⟨b62, 0, none⟩)), (62, .int .i64 x2)]) (Ls := []) rfl rfl rfl rfl ((sc rfl (sc rfl (sn _)))) (by kernel_rfl) sm (fun H F' L' hF' hL' => OpV.eq (v' := .pointer (some ⟨b62, 1, none⟩)) (v_indexA Try.underlying126 Try.sizeOf38 rfl rfl (by have := g158; omega)) (by rw [g158]; rfl)) ?_
           refine shM_v (v := .slice a87 n91 c88) (ek := [(63, .pointer (some ⟨b62, 1, none⟩))]) (Ls := [(b62, .cells #[.slice a81 n85 c82, .slice a87 n91 c88] 126 (0, 0))]) rfl rfl rfl rfl ((sc rfl (sn _))) (by kernel_rfl) (s0 (s2 (s1 (s3 (s3 (s3 (s3 sr))))))) (fun H F' L' hF' hL' => v_load Try.isAgg38 rfl ((Has.own 0 rfl).ext hF' hL') rfl) ?_
           refine shM_v (v := .int .i64 k2) (ek := [(12, .int .i64 k2)]) (Ls := []) rfl rfl rfl rfl ((sc rfl (sn _))) (by kernel_rfl) sm (fun H F' L' hF' hL' => v_move rfl) ?_
           refine ⟨_, [(65, .int .i64 k2)], rfl, rfl, (sc rfl (sn _)), by kernel_rfl, ?_⟩; intro H
           refine o_buildSlice (cs := #[.int .i64 k2]) rfl rfl (buildSlice_all slt_38 [.int .i64 k2] rfl (by decide) (by simp [Value.cells]) (by decide)) ?_; intro b160 hb160
           refine shO_nil ⟨_, rfl, FExt.refl _, [9, 8, 7, 6, 5, 4, 3, 2, 1, 0], by kernel_rfl, .inl (.inr (fun d h => by cases h; rfl)), (List.forall_mem_cons.2 ⟨s0 (s1 (s2 (s1 (s3 (s3 (s3 (s3 sr))))))), (List.forall_mem_cons.2 ⟨sm, (List.forall_mem_cons.2 ⟨s0 (s1 (s1 (s1 (s3 (s4 (s3 (s3 sr))))))), (List.forall_mem_cons.2 ⟨sm, (List.forall_mem_cons.2 ⟨sm, (List.forall_mem_cons.2 ⟨sm, (List.forall_mem_cons.2 ⟨s0 (s1 (s1 (s1 (s3 (s4 (s3 (s3 sr))))))), (List.forall_mem_cons.2 ⟨sm, (List.forall_mem_cons.2 ⟨sm, (List.forall_mem_cons.2 ⟨sm, (fun _ h => absurd h List.not_mem_nil)⟩)⟩)⟩)⟩)⟩)⟩)⟩)⟩)⟩)⟩), ?_⟩
           refine ⟨_, [(64, .slice a87 n91 c88), (66, .slice (some ⟨b160, 0, none⟩) 1 1)], rfl, rfl, (sc rfl (sc rfl (sn _))), by kernel_rfl, ?_⟩; intro H
           obtain ⟨l3, h161, g162, r163⟩ := ap_ok r159; clear r159
           refine o_appZ (xs := l_l4) (ys := [k2]) (zs := l3) rfl slt_38 rfl rfl (Nat.le_refl _) (fun _ => .c (.c (.c (.s (.s (.s .h)))))) hz90 (SrcR.box (vss := [[.int .i64 k2]]) (ys := [k2]) 0 rfl (iE_ok _) (.cons rfl .nil) rfl rfl) h161 g162 (by decide) ?_; intro a164 n168 c165 Lb166 hz167
           refine kO (kd kr) ?_
           refine shO_nil ⟨_, rfl, FExt.refl _, [3, 2, 1, 0], by kernel_rfl, .inl (.inr (fun d h => by cases h; rfl)), (List.forall_mem_cons.2 ⟨s0 (s1 (s1 (s3 (s4 (s3 (s3 sr)))))), (List.forall_mem_cons.2 ⟨sm, (List.forall_mem_cons.2 ⟨sm, (List.forall_mem_cons.2 ⟨sm, (fun _ h => absurd h List.not_mem_nil)⟩)⟩)⟩)⟩), ?_⟩
           obtain ⟨g170, r171⟩ := gd_ok r163; clear r163
           refine shM_v (v := .pointer (some ⟨b62, 1, none⟩)) (ek := [(11, .pointer (some ⟨b62, 0, none⟩)), (58, .int .i64 x2)]) (Ls := []) rfl rfl rfl rfl ((sc rfl (sc rfl (sn _)))) (by kernel_rfl) sm (fun H F' L' hF' hL' => OpV.eq (v' := .pointer (some ⟨b62, 1, none⟩)) (v_indexA Try.underlying126 Try.sizeOf38 rfl rfl (by have := g170; omega)) (by rw [g170]; rfl)) ?_
           refine ⟨_, [(67, .slice a164 n168 c165), (68, .pointer (some ⟨b62, 1, none⟩))], rfl, rfl, (sc rfl (sc rfl (sn _))), by kernel_rfl, ?_⟩; intro H
           refine o_store (i := 0) Try.sizeOf38 rfl rfl rfl rfl (Nat.le_of_ble_eq_true rfl) ?_
           refine shO_L (L' := (b62, .cells #[.slice a81 n85 c82, .slice a164 n168 c165] 126 (0, 0)) :: ((b1, .cells #[.slice walks_a walks.length walks_c, .slice hears_a hears.length hears_c, .int .i64 houses, .int .i64 start, .slice notices_a notices.length notices_c] 26 (0, 0)) :: (Lb28 ++ (Lb122 ++ (Lb83 ++ (Lb166 ++ [])))))) rfl ?_
           refine shO_nil ⟨undef, rfl, FExt.refl _, [], by kernel_rfl, .inl (.inl rfl), (fun _ h => absurd h List.not_mem_nil), ?_⟩
           refine shM_nil ?_
           refine inBlock_n (id := 3) (shW_region ?_)
           refine ov (v_add rfl rfl (Ctr.r64 hk95 c100 g93)) rfl ?_
           refine om rfl rfl (shO_nil ?_)
           exact le kr ⟨_, hk101, who3, l_l3, l3, Lb122, a81, n85, c82, Lb83, a164, n168, c165, Lb166, r171, rfl, rfl, (sc rfl (sc rfl (sc rfl (sc rfl (sc rfl (sc rfl (sc rfl (sc rfl (sc rfl (sc rfl (sc rfl (sn _)))))))))))), hz123, hz84, hz167⟩
         obtain rfl := Ctr.zero hk95 c100
         rw [round_Two_l2] at r97
         refine shW_exit (andThen_exit (andThen_exit ?_))
         refine inBlock_exit ?_
         obtain ⟨rfl, rfl, rfl⟩ := inj3 r97
         exact mi kr ⟨Lb79, a81, n85, c82, Lb83, a87, n91, c88, Lb89, rfl, rfl, (sc rfl (sc rfl (sc rfl (sc rfl (sc rfl (sc rfl (sc rfl (sc rfl (sn _))))))))), hz80, hz84, hz90⟩
       rintro e1 _ _ ⟨Lb63, a65, n69, c66, Lb67, a71, n75, c72, Lb73, rfl, rfl, he172, hz64, hz68, hz74⟩
       refine shW_env _ he172 ?_; clear he172
       refine wsr (om rfl rfl (om rfl rfl ?_))
       refine ov (OpV.eq (v' := .pointer (some ⟨b62, 0, none⟩)) (v_indexA Try.underlying126 Try.sizeOf38 rfl rfl (by decide)) rfl) rfl ?_
       refine ov (v_load Try.isAgg38 rfl (Has.own 0 rfl) rfl) rfl ?_
       obtain ⟨walks2, hears2, houses2, start2, notices2, walks3, pairs, hit, h173, r174⟩ := b8_ok r78; clear r78
       have h194 := hp25; rw [h173] at h194; obtain ⟨b175, c176, m177, hv178, hz179, ⟨_, _, rfl, ⟨a180, c181, rfl, h182⟩, ⟨_, _, rfl, ⟨a183, c184, rfl, h185⟩, ⟨_, _, rfl, rfl, ⟨_, _, rfl, rfl, ⟨_, _, rfl, ⟨a186, c187, rfl, h188⟩, ⟨_, _, rfl, ⟨rfl, h189⟩, ⟨_, _, rfl, ⟨a190, c191, rfl, h192⟩, ⟨rfl, h193⟩⟩⟩⟩⟩⟩⟩⟩⟩ := h194; subst hv178
       have hz179 : F38 b175 = some (.cells ((([.slice a180 walks2.length c181] : List Value) ++ (([.slice a183 hears2.length c184] : List Value) ++ (([.int .i64 houses2] : List Value) ++ (([.int .i64 start2] : List Value) ++ (([.slice a186 notices2.length c187] : List Value) ++ (walks3.flatMap (cI .i64) ++ (([.slice a190 pairs.length c191] : List Value) ++ (hit.flatMap (cI .i64))))))))).toArray) 101 m177) := hz179
       obtain ⟨n2, h195, r196⟩ := b1_ok r174; clear r174
       refine o_callT (Lt := Lb67 ++ []) (Lr := (b62, .cells #[.slice a65 n69 c66, .slice a71 n75 c72] 126 (0, 0)) :: ((b1, .cells #[.slice walks_a walks.length walks_c, .slice hears_a hears.length hears_c, .int .i64 houses, .int .i64 start, .slice notices_a notices.length notices_c] 26 (0, 0)) :: (Lb28 ++ (Lb63 ++ (Lb73 ++ []))))) rfl Try.call55 rfl rfl rfl (pT ((fC (fC (fS (fS fP)))).trans (pA pR)) (lp (ln rfl))) (fun F2 h2 h3 => by rw [(SlR.caps hz68).1]; exact round_crier_of_w (h2 _ _ hz179) (h182.mono (slE_ok (iE_ok _)) h2) (h185.mono (slE_ok (iE_ok _)) h2) (h188.mono (prE_ok (slE_ok (iE_ok _)) (prE_ok (iE_ok _) (iE_ok _))) h2) h189 (h192.mono (prE_ok (iE_ok _) (iE_ok _)) h2) h193 (hz68.row (iE_ok _) h2 (fun p hp => h3 p (List.mem_append_left _ hp))) h195) ?_
       refine om rfl rfl ?_
       obtain ⟨y, h197, r198⟩ := b1_ok r196; clear r196
       refine o_call0 rfl Try.call33 rfl rfl rfl (round_crier_hours_w hz179 h182 h185 h188 h189 h192 h193 h197) ?_; rintro _ F199 _ hF200 hn201 ⟨fi203, fc204, cp205, rfl, rfl, hit206⟩
       replace hp25 := hp25.mono (prE_ok (slE_ok (slE_ok (iE_ok _))) (prE_ok (slE_ok (slE_ok (iE_ok _))) (prE_ok (iE_ok _) (prE_ok (iE_ok _) (prE_ok (slE_ok (prE_ok (slE_ok (iE_ok _)) (prE_ok (iE_ok _) (iE_ok _)))) (prE_ok (arE_ok (n := 25) (sz := 1) (cI_ok .i64)) (prE_ok (slE_ok (prE_ok (iE_ok _) (iE_ok _))) (arE_ok (n := 15) (sz := 1) (cI_ok .i64))))))))) hF200
       replace h182 := h182.mono (slE_ok (iE_ok _)) hF200
       replace h185 := h185.mono (slE_ok (iE_ok _)) hF200
       replace h188 := h188.mono (prE_ok (slE_ok (iE_ok _)) (prE_ok (iE_ok _) (iE_ok _))) hF200
       replace h192 := h192.mono (prE_ok (iE_ok _) (iE_ok _)) hF200
       replace hz29 := hz29.mono (iE_ok _) hF200
       replace hz64 := hz64.mono (iE_ok _) hF200
       replace hz74 := hz74.mono (iE_ok _) hF200
       replace hz179 := hF200 _ _ hz179
       refine shO_L (ln rfl) ?_
       obtain ⟨l4, n3, ok, h207, r208⟩ := b3_ok r198; clear r198
       refine o_call0 rfl Try.call31 rfl rfl rfl (round_crier_serve_w hz179 h182 h185 h188 h189 h192 h193 hit206 h207) ?_; rintro _ F209 _ hF210 hn211 ⟨a213, n217, c214, Lb215, rfl, rfl, hz216⟩
       replace hp25 := hp25.mono (prE_ok (slE_ok (slE_ok (iE_ok _))) (prE_ok (slE_ok (slE_ok (iE_ok _))) (prE_ok (iE_ok _) (prE_ok (iE_ok _) (prE_ok (slE_ok (prE_ok (slE_ok (iE_ok _)) (prE_ok (iE_ok _) (iE_ok _)))) (prE_ok (arE_ok (n := 25) (sz := 1) (cI_ok .i64)) (prE_ok (slE_ok (prE_ok (iE_ok _) (iE_ok _))) (arE_ok (n := 15) (sz := 1) (cI_ok .i64))))))))) hF210
       replace h182 := h182.mono (slE_ok (iE_ok _)) hF210
       replace h185 := h185.mono (slE_ok (iE_ok _)) hF210
       replace h188 := h188.mono (prE_ok (slE_ok (iE_ok _)) (prE_ok (iE_ok _) (iE_ok _))) hF210
       replace h192 := h192.mono (prE_ok (iE_ok _) (iE_ok _)) hF210
       replace hz29 := hz29.mono (iE_ok _) hF210
       replace hz64 := hz64.mono (iE_ok _) hF210
       replace hz74 := hz74.mono (iE_ok _) hF210
       replace hz179 := hF210 _ _ hz179
       refine shO_L (lp (ln rfl)) ?_
       refine kO (kf (fS fO) (kf (fS fO) kr)) ?_
       refine om rfl rfl (ox rfl rfl rfl (ox rfl rfl rfl (ox rfl rfl rfl (oa rfl rfl (oa rfl rfl (oa rfl rfl (nsr (om rfl rfl (om rfl rfl ?_)))))))))
       refine ov (OpV.eq (v' := .pointer (some ⟨b62, 1, none⟩)) (v_indexA Try.underlying126 Try.sizeOf38 rfl rfl (by decide)) rfl) rfl ?_
       refine ov (v_load Try.isAgg38 rfl (Has.own 0 rfl) rfl) rfl ?_
       obtain ⟨n4, h219, r220⟩ := b1_ok r208; clear r208
       refine o_callT (Lt := Lb73 ++ []) (Lr := (b62, .cells #[.slice a65 n69 c66, .slice a71 n75 c72] 126 (0, 0)) :: ((b1, .cells #[.slice walks_a walks.length walks_c, .slice hears_a hears.length hears_c, .int .i64 houses, .int .i64 start, .slice notices_a notices.length notices_c] 26 (0, 0)) :: (Lb215 ++ (Lb28 ++ (Lb63 ++ (Lb67 ++ [])))))) rfl Try.call55 rfl rfl rfl (pT ((fC (fC (fS (fS (fS (fS fP)))))).trans (pA pR)) (lp (ln rfl))) (fun F2 h2 h3 => by rw [(SlR.caps hz74).1]; exact round_crier_of_w (h2 _ _ hz179) (h182.mono (slE_ok (iE_ok _)) h2) (h185.mono (slE_ok (iE_ok _)) h2) (h188.mono (prE_ok (slE_ok (iE_ok _)) (prE_ok (iE_ok _) (iE_ok _))) h2) h189 (h192.mono (prE_ok (iE_ok _) (iE_ok _)) h2) h193 (hz74.row (iE_ok _) h2 (fun p hp => h3 p (List.mem_append_left _ hp))) h219) ?_
       refine om rfl rfl ?_
       obtain ⟨y2, h221, r222⟩ := b1_ok r220; clear r220
       refine o_call0 rfl Try.call33 rfl rfl rfl (round_crier_hours_w hz179 h182 h185 h188 h189 h192 h193 h221) ?_; rintro _ F223 _ hF224 hn225 ⟨fi227, fc228, cp229, rfl, rfl, hit230⟩
       replace hp25 := hp25.mono (prE_ok (slE_ok (slE_ok (iE_ok _))) (prE_ok (slE_ok (slE_ok (iE_ok _))) (prE_ok (iE_ok _) (prE_ok (iE_ok _) (prE_ok (slE_ok (prE_ok (slE_ok (iE_ok _)) (prE_ok (iE_ok _) (iE_ok _)))) (prE_ok (arE_ok (n := 25) (sz := 1) (cI_ok .i64)) (prE_ok (slE_ok (prE_ok (iE_ok _) (iE_ok _))) (arE_ok (n := 15) (sz := 1) (cI_ok .i64))))))))) hF224
       replace h182 := h182.mono (slE_ok (iE_ok _)) hF224
       replace h185 := h185.mono (slE_ok (iE_ok _)) hF224
       replace h188 := h188.mono (prE_ok (slE_ok (iE_ok _)) (prE_ok (iE_ok _) (iE_ok _))) hF224
       replace h192 := h192.mono (prE_ok (iE_ok _) (iE_ok _)) hF224
       replace hz29 := hz29.mono (iE_ok _) hF224
       replace hz64 := hz64.mono (iE_ok _) hF224
       replace hz179 := hF224 _ _ hz179
       refine shO_L (ln rfl) ?_
       obtain ⟨l5, n5, ok2, h231, r232⟩ := b3_ok r222; clear r222
       refine o_call0 rfl Try.call31 rfl rfl rfl (round_crier_serve_w hz179 h182 h185 h188 h189 h192 h193 hit230 h231) ?_; rintro _ F233 _ hF234 hn235 ⟨a237, n241, c238, Lb239, rfl, rfl, hz240⟩
       replace hp25 := hp25.mono (prE_ok (slE_ok (slE_ok (iE_ok _))) (prE_ok (slE_ok (slE_ok (iE_ok _))) (prE_ok (iE_ok _) (prE_ok (iE_ok _) (prE_ok (slE_ok (prE_ok (slE_ok (iE_ok _)) (prE_ok (iE_ok _) (iE_ok _)))) (prE_ok (arE_ok (n := 25) (sz := 1) (cI_ok .i64)) (prE_ok (slE_ok (prE_ok (iE_ok _) (iE_ok _))) (arE_ok (n := 15) (sz := 1) (cI_ok .i64))))))))) hF234
       replace hz29 := hz29.mono (iE_ok _) hF234
       replace hz64 := hz64.mono (iE_ok _) hF234
       refine shO_L (lp (ln rfl)) ?_
       refine kO (kf (fS fO) (kf (fS fO) kr)) ?_
       refine om rfl rfl (ox rfl rfl rfl (ox rfl rfl rfl (ox rfl rfl rfl (oa rfl rfl (oa rfl rfl (oa rfl rfl (nsr (om rfl rfl (om rfl rfl ?_)))))))))
       refine ov (v_max2 rfl rfl) rfl ?_
       refine oa rfl rfl (shO_nil ?_)
       obtain ⟨k3, h243, r244⟩ := b1_ok r232; clear r232
       refine shW_join (fun e1 F1 L1 => F233 = F1 ∧ L1 = ((b1, .cells #[.slice walks_a walks.length walks_c, .slice hears_a hears.length hears_c, .int .i64 houses, .int .i64 start, .slice notices_a notices.length notices_c] 26 (0, 0)) :: (Lb28 ++ (Lb63 ++ []))) ∧ e1.sub [(1, .pointer (some ⟨b1, 0, none⟩)), (5, .pointer (some ⟨b175, 0, none⟩)), (7, .slice a26 n30 c27), (8, .int .i64 best2), (10, .slice a57 n60 n60), (19, .int .i64 (if n5 > n3 then n5 else n3)), (31, .int .i64 (shl 1 (notices.length : Int))), (32, .int .i64 k), (109, .bool k3)]) ?_ ?_
       · clear r244
         refine shW_region (om rfl rfl (om rfl rfl ?_))
         rcases bool_two ok with c245 | c245
         · have r246 := bt h243 c245; clear h243
           refine shO_on (b := true) 98 rfl (EnvB rfl c245) (om rfl rfl ?_)
           refine ov (v_pick_t (evB rfl c245) rfl) rfl ?_
           refine om rfl rfl ?_
           rcases bool_two ok2 with c247 | c247
           · have r248 := bt r246 c247; clear r246
             refine shO_on (b := true) 101 rfl (EnvB rfl c247) (om rfl rfl (shO_on (b := true) 101 rfl (EnvB rfl c247) ?_))
             refine ov (v_eql rfl rfl) rfl ?_
             refine shO_on (b := true) 101 rfl (EnvB rfl c247) (om rfl rfl ?_)
             by_cases c249 : best2 = (-1)
             · have r250 := ite_t r248 c249; clear r248
               refine shO_off (b' := true) 104 rfl (Env.isT rfl c249) rfl rfl (shO_off (b' := true) 104 rfl (Env.isT rfl c249) rfl rfl (shO_off (b' := true) 104 rfl (Env.isT rfl c249) rfl rfl (shO_on (b := true) 101 rfl (EnvB rfl c247) ?_)))
               refine ov (v_pick_t (evD_true rfl c249) rfl) rfl ?_
               refine ov (v_pick_t (evB rfl c247) rfl) rfl ?_
               refine shO_nil ?_
               obtain rfl := inj1 r250
               exact mi (kd (kc (kx (kx (ka (ka kn)))))) ⟨rfl, rfl, (sc rfl (sc rfl (sc rfl (sc rfl (sc rfl (sc rfl (sc rfl (sc rfl (sc rfl (sn _))))))))))⟩
             have r251 := ite_f r248 c249; clear r248
             refine shO_on (b := false) 104 rfl (Env.isF rfl c249) (om rfl rfl (shO_on (b := false) 104 rfl (Env.isF rfl c249) (om rfl rfl (shO_on (b := false) 104 rfl (Env.isF rfl c249) ?_))))
             refine ov (v_lssK rfl rfl) rfl ?_
             refine shO_on (b := true) 101 rfl (EnvB rfl c247) ?_
             refine ov (v_pick_f (evD_false rfl c249) rfl) rfl ?_
             refine ov (v_pick_t (evB rfl c247) rfl) rfl ?_
             refine shO_nil ?_
             obtain rfl := inj1 r251
             exact mi (kd (kc (kx (kx (ka (ka kn)))))) ⟨rfl, rfl, (sc rfl (sc rfl (sc rfl (sc rfl (sc rfl (sc rfl (sc rfl (sc rfl (sc rfl (sn _))))))))))⟩
           have r252 := bf r246 c247; clear r246
           refine shO_off (b' := false) 101 rfl (EnvB rfl c247) rfl rfl (shO_off (b' := false) 101 rfl (EnvB rfl c247) rfl rfl (shO_off (b' := false) 101 rfl (EnvB rfl c247) rfl rfl (shO_offU 104 rfl rfl rfl (shO_offU 104 rfl rfl rfl (shO_offU 104 rfl rfl rfl (shO_off (b' := false) 101 rfl (EnvB rfl c247) rfl rfl ?_))))))
           refine ov (v_pick_f (evB rfl c247) rfl) rfl ?_
           refine shO_nil ?_
           obtain rfl := inj1 r252
           exact mi (kd (kc (kx (kx (ka (ka kn)))))) ⟨rfl, rfl, (sc rfl (sc rfl (sc rfl (sc rfl (sc rfl (sc rfl (sc rfl (sc rfl (sc rfl (sn _))))))))))⟩
         have r253 := bf h243 c245; clear h243
         refine shO_off (b' := false) 98 rfl (EnvB rfl c245) rfl rfl ?_
         refine ov (v_pick_f (evB rfl c245) rfl) rfl ?_
         refine om rfl rfl (shO_off (b' := false) 101 rfl rfl rfl rfl (shO_off (b' := false) 101 rfl rfl rfl rfl (shO_off (b' := false) 101 rfl rfl rfl rfl (shO_offU 104 rfl rfl rfl (shO_offU 104 rfl rfl rfl (shO_offU 104 rfl rfl rfl (shO_off (b' := false) 101 rfl rfl rfl rfl ?_)))))))
         refine ov (v_pick_f rfl rfl) rfl ?_
         refine shO_nil ?_
         obtain rfl := inj1 r253
         exact mi (kd (kc (kx (kx (ka (ka kn)))))) ⟨rfl, rfl, (sc rfl (sc rfl (sc rfl (sc rfl (sc rfl (sc rfl (sc rfl (sc rfl (sc rfl (sn _))))))))))⟩
       rintro e1 _ _ ⟨rfl, rfl, he254⟩
       refine shW_env _ he254 ?_; clear he254
       refine shW_cond rfl (fun c255 => ?_) (fun c255 => ?_)
       · have r256 := bt r244 c255; clear r244
         refine shW_region (om rfl rfl (om rfl rfl (oa rfl rfl (oa rfl rfl (shO_nil (inBlock_n (id := 1) ?_))))))
         obtain ⟨rfl, rfl⟩ := inj2 r256
         exact mi (kc (kx kr)) ⟨.pointer (some ⟨b175, 0, none⟩), a57, n60, n60, Lb63, (((hF200.trans hF210).trans hF224).trans hF234), rfl, (sc rfl (sc rfl (sc rfl (sc rfl (sc rfl (sc rfl (sn _))))))), hp25, hz64⟩
       have r257 := bf r244 c255; clear r244
       refine shW_skip (inBlock_n (id := 1) ?_)
       obtain ⟨rfl, rfl⟩ := inj2 r257
       exact mi (kc (ka kn)) ⟨.pointer (some ⟨b175, 0, none⟩), a26, n30, c27, Lb28, (((hF200.trans hF210).trans hF224).trans hF234), rfl, (sc rfl (sc rfl (sc rfl (sc rfl (sc rfl (sc rfl (sn _))))))), hp25, hz29⟩
     rintro e1 F259 _ ⟨v43, a45, n49, c46, Lb47, hF260, rfl, he258, hp44, hz48⟩
     refine shW_env _ he258 ?_; clear he258
     refine shW_region ?_
     refine ov (v_add rfl rfl (Ctr.r64 hk34 c41 g32)) rfl ?_
     refine om rfl rfl (shO_nil ?_)
     exact le kr ⟨_, hk42, out3, best3, v43, a45, n49, c46, Lb47, r52, (hF39.trans hF260), rfl, (sc rfl (sc rfl (sc rfl (sc rfl (sc rfl (sc rfl (sn _))))))), hp44, hz48⟩
   obtain rfl := Ctr.zero hk34 c41
   rw [round_Two_l1] at r36
   refine shW_exit (andThen_exit (andThen_exit ?_))
   refine inBlock_exit ?_
   obtain ⟨rfl, rfl⟩ := inj2 r36
   exact mi (kd kr) ⟨a26, n30, c27, Lb28, hF39, rfl, (sc rfl (sc rfl (sn _))), hz29⟩
 rintro e1 F262 _ ⟨a14, n18, c15, Lb16, hF263, rfl, he261, hz17⟩
 refine shW_env _ he261 ?_; clear he261
 refine shW_seq (wsr (om rfl rfl ?_))
 refine ov (v_eql rfl rfl) rfl ?_
 refine shO_nil ?_
 refine shW_condP rfl (fun c264 => ?_) (fun c264 => ?_)
 · have r265 := ite_t r21 c264; clear r21
   refine wsr (oa rfl rfl (oa rfl rfl (oa rfl rfl (shO_nil ?_))))
   refine kW kn ?_
   refine shW_ret (andThen_ret ?_)
   refine q_res3 Try.results36 (res_tmp rfl) (res_tmp rfl) (res_tmp rfl) (sr) ?_
   obtain ⟨rfl, rfl, rfl⟩ := inj3 r265
   exact ⟨_, _, _, [], rfl, rfl, SlR.nil _ _ _ _ _⟩
 have r266 := ite_f r21 c264; clear r21
 refine shW_skip (wsr (om rfl rfl (om rfl rfl (oa rfl rfl (oa rfl rfl (oa rfl rfl (shO_nil (shW_ret ?_))))))))
 refine q_res3 Try.results36 (res_tmp rfl) (res_tmp rfl) (res_tmp rfl) (sr) ?_
 obtain ⟨rfl, rfl, rfl⟩ := inj3 r266
 exact ⟨_, _, _, _, rfl, rfl, hz17.any⟩
set_option maxHeartbeats 1000000 in
theorem slices_Equal_int_int_w {s1_a : Option Addr} {s1_c : Nat} {s1 : List Int} {s2_a : Option Addr} {s2_c : Nat} {s2 : List Int} {F : FS} (h_s1 : RowR 1 (iE .i64) F s1_a s1_c s1) (h_s2 : RowR 1 (iE .i64) F s2_a s2_c s2) {r : Bool} (hr : slices_Equal_int_int s1 s2 = some r) :
    SpecV Try.prog 65 #[.slice s1_a s1.length s1_c, .slice s2_a s2.length s2_c] F (.bool r) := by
 refine spec_of_shW (args := [.slice s1_a s1.length s1_c, .slice s2_a s2.length s2_c]) Try.func65 rfl Try.ntmps65 (Nat.le_of_ble_eq_true rfl) ?_
 intro K _ _; rw [slices_Equal_int_int] at hr
 refine wsr (oa rfl rfl (shO_nil (shW_seq (wsr (om rfl rfl ?_)))))
 refine ov (v_lenS Try.underlying38 rfl) rfl ?_
 refine om rfl rfl ?_
 refine ov (v_lenS Try.underlying38 rfl) rfl ?_
 refine ov (v_neq rfl rfl) rfl ?_
 refine shO_nil ?_
 refine shW_condP rfl (fun c1 => ?_) (fun c1 => ?_)
 · have r2 := ite_t hr c1; clear hr
   refine wsr (oa rfl rfl (shO_nil (shW_ret (andThen_ret ?_))))
   refine q_res1 Try.results65 (res_tmp rfl) (sr) ?_
   obtain rfl := inj1 r2
   exact rfl
 have r3 := ite_f hr c1; clear hr
 refine shW_skip ?_
 refine shW_join (fun e1 F1 L1 => slices_Equal_int_int_j1 = some r ∧ F = F1 ∧ L1 = [] ∧ e1.sub []) ?_ ?_
 · refine wsr (om rfl rfl ?_)
   refine ov (v_lenS Try.underlying38 rfl) rfl ?_
   refine om rfl rfl (shO_nil ?_)
   refine shW_block ?_
   refine shW_lp (fun fu2 e1 F1 L1 => ∃ (tl : List Int) (k : Int), tl.length = fu2 ∧ Lst s1 k tl ∧ slices_Equal_int_int_l2 s2 tl k = some r ∧ F = F1 ∧ L1 = [] ∧ e1.sub [(0, .slice s1_a s1.length s1_c), (1, .slice s2_a s2.length s2_c), (12, .int .i64 (s1.length : Int)), (13, .int .i64 k)]) _ (m0 kr ⟨_, _, rfl, Lst.start _, r3, rfl, rfl, (sc rfl (sc rfl (sc rfl (sc rfl (sn _)))))⟩) ?_
   rintro fu2 e1 _ _ ⟨tl, k, hn5, hk4, r6, rfl, rfl, he7⟩
   refine shW_env _ he7 ?_; clear he7
   refine wsr ?_
   refine ov (v_lssK rfl rfl) rfl ?_
   refine shO_nil (shW_seq ?_)
   refine shW_condP rfl (fun c9 => ?_) (fun c9 => ?_)
   · obtain ⟨x, tl2, rfl, hx11, g12, hk10⟩ := Lst.succ hk4 c9
     rw [slices_Equal_int_int_l2] at r6
     refine shW_skip (shW_seq ?_)
     refine shW_block ?_
     refine wsr (om rfl rfl (oa rfl rfl ?_))
     refine nsd (by kernel_rfl) (by kernel_rfl) (by kernel_rfl) ?_
     refine qm rfl rfl (qm rfl rfl ?_)
     obtain ⟨b13, o14, c15, vs16, ha17, hs18, hle19, rfl, hl20, hc21⟩ := RowR.at (iE_ok _) h_s1 ([]) g12.1 hx11
     refine qv (v_indexO Try.underlying38 Try.sizeOf3 rfl ha17 rfl g12) rfl ?_
     refine qv (v_load Try.isAgg3 rfl hs18 (hc21 0 (by decide))) rfl ?_
     refine qm rfl rfl (qm rfl rfl ?_)
     obtain ⟨x2, g22, hx23, r24⟩ := ix_ok r6; clear r6
     obtain ⟨b25, o26, c27, vs28, ha29, hs30, hle31, rfl, hl32, hc33⟩ := RowR.at (iE_ok _) h_s2 ([]) g22.1 hx23
     refine qv (v_indexO Try.underlying38 Try.sizeOf3 rfl ha29 rfl g22) rfl ?_
     refine qv (v_load Try.isAgg3 rfl hs30 (hc33 0 (by decide))) rfl ?_
     refine qv (v_neq rfl rfl) rfl ?_
     refine shQ_nil ?_
     refine shW_condP rfl (fun c34 => ?_) (fun c34 => ?_)
     · have r35 := ite_t r24 c34; clear r24
       refine wsr (oa rfl rfl (shO_nil (shW_ret (inBlock_ret (andThen_ret (andThen_ret (inBlock_ret (andThen_ret ?_))))))))
       refine q_res1 Try.results65 (res_tmp rfl) (sr) ?_
       obtain rfl := inj1 r35
       exact rfl
     have r36 := ite_f r24 c34; clear r24
     refine shW_skip (inBlock_n (id := 1) (shW_region ?_))
     refine ov (v_add rfl rfl (Lst.r64 hk4 c9 (RowR.lt h_s1))) rfl ?_
     refine om rfl rfl (shO_nil ?_)
     subst hn5; exact le kr ⟨_, _, rfl, hk10, r36, rfl, rfl, (sc rfl (sc rfl (sc rfl (sc rfl (sn _)))))⟩
   obtain rfl := Lst.zero hk4 c9
   rw [slices_Equal_int_int_l2] at r6
   refine shW_exit (andThen_exit (andThen_exit ?_))
   refine inBlock_exit ?_
   exact mi kr ⟨r6, rfl, rfl, (sn _)⟩
 rintro e1 _ _ ⟨r37, rfl, rfl, he38⟩
 refine shW_env _ he38 ?_; clear he38
 rw [slices_Equal_int_int_j1] at r37
 refine wsr (oa rfl rfl (shO_nil (shW_ret ?_)))
 refine q_res1 Try.results65 (res_tmp rfl) (sr) ?_
 obtain rfl := inj1 r37
 exact rfl
set_option maxHeartbeats 1000000 in
theorem oyezkit_Like_int_w {a_a : Option Addr} {a_c : Nat} {a : List Int} {b_a : Option Addr} {b_c : Nat} {b : List Int} {F : FS} (h_a : RowR 1 (iE .i64) F a_a a_c a) (h_b : RowR 1 (iE .i64) F b_a b_c b) {r : Bool} (hr : oyezkit_Like_int a b = some r) :
    SpecV Try.prog 37 #[.slice a_a a.length a_c, .slice b_a b.length b_c] F (.bool r) := by
 refine spec_of_shW (args := [.slice a_a a.length a_c, .slice b_a b.length b_c]) Try.func37 rfl Try.ntmps37 (Nat.le_of_ble_eq_true rfl) ?_
 intro K _ _; rw [oyezkit_Like_int] at hr
 refine wsr (oa rfl rfl (nsr (om rfl rfl (om rfl rfl ?_))))
 obtain ⟨ok, h1, r2⟩ := b1_ok hr; clear hr
 refine o_callV rfl Try.call65 rfl rfl rfl (slices_Equal_int_int_w h_a h_b h1) ?_
 refine oa rfl rfl (shO_nil (shW_ret ?_))
 refine q_res1 Try.results37 (res_tmp rfl) (sr) ?_
 obtain rfl := inj1 r2
 exact rfl
set_option maxHeartbeats 1000000 in
theorem oyezlaw03_awake_w {F : FS} {r : Bool} (hr : oyezlaw03_awake = some r) :
    SpecV Try.prog 9 #[] F (.bool r) := by
 refine spec_of_shW (args := []) Try.func9 rfl Try.ntmps9 (Nat.le_of_ble_eq_true rfl) ?_
 intro K _ _; rw [oyezlaw03_awake] at hr
 refine wsr (oa rfl rfl (nsr ?_))
 obtain ⟨l, l2, n, n2, l3, h1, r2⟩ := b5_ok hr; clear hr
 refine o_call0 rfl Try.call34 rfl rfl rfl (oyezlaw03_Three_w h1) ?_; rintro _ F3 _ hF4 hn5 ⟨a7, n11, c8, Lb9, a13, n17, c14, Lb15, a19, n23, c20, Lb21, rfl, rfl, hz10, hz16, hz22⟩
 replace hz10 := hz10.new fun p hp => hn5 p (by simp [hp])
 replace hz16 := hz16.new fun p hp => hn5 p (by simp [hp])
 replace hz22 := hz22.new fun p hp => hn5 p (by simp [hp])
 refine shO_L (lp (lp (lp (ln rfl)))) ?_
 obtain ⟨l4, n3, n4, h25, r26⟩ := b3_ok r2; clear r2
 refine o_callTO (Lb := []) (Lt := Lb9 ++ (Lb15 ++ (Lb21 ++ []))) (Lr := []) rfl Try.call8 rfl rfl rfl (pT pR (ln (lp (lp (lp (ln rfl)))))) (fun F2 h2 h3 => by rw [(SlR.caps hz10).1]; rw [(SlR.caps hz16).1]; rw [(SlR.caps hz22).1]; exact round_Best_w (hz10.row (slE_ok (iE_ok _)) h2 (fun p hp => h3 p (List.mem_append_left _ hp))) (hz16.row (slE_ok (iE_ok _)) h2 (fun p hp => h3 p (List.mem_append_right _ (List.mem_append_left _ hp)))) (hz22.row (prE_ok (slE_ok (iE_ok _)) (prE_ok (iE_ok _) (iE_ok _))) h2 (fun p hp => h3 p (List.mem_append_right _ (List.mem_append_right _ (List.mem_append_left _ hp))))) h25) (fun _ _ _ _ hq => by obtain ⟨a31, n35, c32, Lb33, rfl, rfl, hz34⟩ := hq; exact ⟨_, _, _, _, rfl, rfl, hz34.flat (fun _ _ h => h)⟩) ?_; rintro _ F27 _ hF28 hd30 hn29 ⟨a31, n35, c32, Lb33, rfl, rfl, hz34⟩
 have hn37 := newp (Lb' := []) (by rfl) hd30 hn29
 replace hz34 := hz34.new fun p hp => hn37 p (by simp [hp])
 refine shO_L (lp (ln (lp (lp (lp (ln rfl)))))) ?_
 refine om rfl rfl (ox rfl rfl rfl (ox rfl rfl rfl (ox rfl rfl rfl (oa rfl rfl (oa rfl rfl (oa rfl rfl (nsr ?_)))))))
 obtain ⟨l5, l6, n5, n6, l7, h38, r39⟩ := b5_ok r26; clear r26
 refine o_call0 rfl Try.call34 rfl rfl rfl (oyezlaw03_Three_w h38) ?_; rintro _ F40 _ hF41 hn42 ⟨a44, n48, c45, Lb46, a50, n54, c51, Lb52, a56, n60, c57, Lb58, rfl, rfl, hz47, hz53, hz59⟩
 replace hz34 := hz34.mono (prE_ok (iE_ok _) (iE_ok _)) hF41
 replace hz47 := hz47.new fun p hp => hn42 p (by simp [hp])
 replace hz53 := hz53.new fun p hp => hn42 p (by simp [hp])
 replace hz59 := hz59.new fun p hp => hn42 p (by simp [hp])
 refine shO_L (lp (lp (lp (ln rfl)))) ?_
 refine om rfl rfl ?_
 obtain ⟨l8, n7, h62, r63⟩ := b2_ok r39; clear r39
 refine o_callTO (Lb := []) (Lt := Lb46 ++ (Lb52 ++ (Lb58 ++ (Lb33 ++ [])))) (Lr := Lb9 ++ (Lb15 ++ (Lb21 ++ []))) rfl Try.call23 rfl rfl rfl (pT pR (ln (lp (lp (lp (lp (ln rfl))))))) (fun F2 h2 h3 => by rw [(SlR.caps hz47).1]; rw [(SlR.caps hz53).1]; rw [(SlR.caps hz59).1]; rw [(SlR.caps hz34).1]; exact round_Missed_w (hz47.row (slE_ok (iE_ok _)) h2 (fun p hp => h3 p (List.mem_append_left _ hp))) (hz53.row (slE_ok (iE_ok _)) h2 (fun p hp => h3 p (List.mem_append_right _ (List.mem_append_left _ hp)))) (hz59.row (prE_ok (slE_ok (iE_ok _)) (prE_ok (iE_ok _) (iE_ok _))) h2 (fun p hp => h3 p (List.mem_append_right _ (List.mem_append_right _ (List.mem_append_left _ hp))))) (hz34.row (prE_ok (iE_ok _) (iE_ok _)) h2 (fun p hp => h3 p (List.mem_append_right _ (List.mem_append_right _ (List.mem_append_right _ (List.mem_append_left _ hp)))))) h62) (fun _ _ _ _ hq => by obtain ⟨a68, n72, c69, Lb70, rfl, rfl, hz71⟩ := hq; exact ⟨_, _, _, _, rfl, rfl, hz71.flat (fun _ _ h => h)⟩) ?_; rintro _ F64 _ hF65 hd67 hn66 ⟨a68, n72, c69, Lb70, rfl, rfl, hz71⟩
 have hn74 := newp (Lb' := []) (by rfl) hd67 hn66
 replace hz71 := hz71.new fun p hp => hn74 p (by simp [hp])
 refine shO_L (lp (ln (lp (lp (lp (lp (ln rfl))))))) ?_
 refine om rfl rfl (ox rfl rfl rfl (ox rfl rfl rfl (oa rfl rfl (oa rfl rfl (nsr ?_)))))
 obtain ⟨l9, l10, n8, n9, l11, h75, r76⟩ := b5_ok r63; clear r63
 refine o_call0 rfl Try.call34 rfl rfl rfl (oyezlaw03_Three_w h75) ?_; rintro _ F77 _ hF78 hn79 ⟨a81, n85, c82, Lb83, a87, n91, c88, Lb89, a93, n97, c94, Lb95, rfl, rfl, hz84, hz90, hz96⟩
 replace hz71 := hz71.mono (prE_ok (iE_ok _) (iE_ok _)) hF78
 replace hz84 := hz84.new fun p hp => hn79 p (by simp [hp])
 replace hz90 := hz90.new fun p hp => hn79 p (by simp [hp])
 replace hz96 := hz96.new fun p hp => hn79 p (by simp [hp])
 refine shO_L (lp (lp (lp (ln rfl)))) ?_
 obtain ⟨n10, n11, h99, r100⟩ := b2_ok r76; clear r76
 refine o_callT (Lt := Lb83 ++ (Lb89 ++ (Lb95 ++ []))) (Lr := Lb70 ++ (Lb46 ++ (Lb52 ++ (Lb58 ++ (Lb33 ++ (Lb9 ++ (Lb15 ++ (Lb21 ++ [])))))))) rfl Try.call17 rfl rfl rfl (pT pR (lp (lp (lp (ln rfl))))) (fun F2 h2 h3 => by rw [(SlR.caps hz84).1]; rw [(SlR.caps hz90).1]; rw [(SlR.caps hz96).1]; exact round_Walk_w (hz84.row (slE_ok (iE_ok _)) h2 (fun p hp => h3 p (List.mem_append_left _ hp))) (hz90.row (slE_ok (iE_ok _)) h2 (fun p hp => h3 p (List.mem_append_right _ (List.mem_append_left _ hp)))) (hz96.row (prE_ok (slE_ok (iE_ok _)) (prE_ok (iE_ok _) (iE_ok _))) h2 (fun p hp => h3 p (List.mem_append_right _ (List.mem_append_right _ (List.mem_append_left _ hp))))) h99) ?_
 refine om rfl rfl (ox rfl rfl rfl (ox rfl rfl rfl (oa rfl rfl (oa rfl rfl (nsr ?_)))))
 obtain ⟨l12, l13, n12, n13, l14, h101, r102⟩ := b5_ok r100; clear r100
 refine o_call0 rfl Try.call34 rfl rfl rfl (oyezlaw03_Three_w h101) ?_; rintro _ F103 _ hF104 hn105 ⟨a107, n111, c108, Lb109, a113, n117, c114, Lb115, a119, n123, c120, Lb121, rfl, rfl, hz110, hz116, hz122⟩
 replace hz71 := hz71.mono (prE_ok (iE_ok _) (iE_ok _)) hF104
 replace hz110 := hz110.new fun p hp => hn105 p (by simp [hp])
 replace hz116 := hz116.new fun p hp => hn105 p (by simp [hp])
 replace hz122 := hz122.new fun p hp => hn105 p (by simp [hp])
 refine shO_L (lp (lp (lp (ln rfl)))) ?_
 obtain ⟨l15, n14, h125, r126⟩ := b2_ok r102; clear r102
 refine o_callTO (Lb := []) (Lt := Lb109 ++ (Lb115 ++ (Lb121 ++ []))) (Lr := Lb83 ++ (Lb89 ++ (Lb95 ++ (Lb70 ++ (Lb46 ++ (Lb52 ++ (Lb58 ++ (Lb33 ++ (Lb9 ++ (Lb15 ++ (Lb21 ++ []))))))))))) rfl Try.call10 rfl rfl rfl (pT pR (ln (lp (lp (lp (ln rfl)))))) (fun F2 h2 h3 => by rw [(SlR.caps hz110).1]; rw [(SlR.caps hz116).1]; rw [(SlR.caps hz122).1]; exact round_Before_w (hz110.row (slE_ok (iE_ok _)) h2 (fun p hp => h3 p (List.mem_append_left _ hp))) (hz116.row (slE_ok (iE_ok _)) h2 (fun p hp => h3 p (List.mem_append_right _ (List.mem_append_left _ hp)))) (hz122.row (prE_ok (slE_ok (iE_ok _)) (prE_ok (iE_ok _) (iE_ok _))) h2 (fun p hp => h3 p (List.mem_append_right _ (List.mem_append_right _ (List.mem_append_left _ hp))))) h125) (fun _ _ _ _ hq => by obtain ⟨a131, n135, c132, Lb133, rfl, rfl, hz134⟩ := hq; exact ⟨_, _, _, _, rfl, rfl, hz134.flat (fun _ _ h => h)⟩) ?_; rintro _ F127 _ hF128 hd130 hn129 ⟨a131, n135, c132, Lb133, rfl, rfl, hz134⟩
 replace hz71 := hz71.mono (prE_ok (iE_ok _) (iE_ok _)) hF128
 have hn137 := newp (Lb' := []) (by rfl) hd130 hn129
 replace hz134 := hz134.new fun p hp => hn137 p (by simp [hp])
 refine shO_L (lp (ln (lp (lp (lp (ln rfl)))))) ?_
 refine om rfl rfl (ox rfl rfl rfl (ox rfl rfl rfl (oa rfl rfl (oa rfl rfl (shO_nil (shW_seq ?_))))))
 obtain ⟨k, h138, r139⟩ := b1_ok r126; clear r126
 refine shW_join (fun e1 F1 L1 => FExt F127 F1 ∧ L1 = [] ∧ e1.sub [(71, .bool k)]) ?_ ?_
 · clear r139
   refine shW_region (om rfl rfl ?_)
   refine ov (v_neq rfl rfl) rfl ?_
   refine om rfl rfl ?_
   by_cases c140 : n4 ≠ 0
   · have r141 := ite_t h138 c140; clear h138
     refine shO_off (b' := true) 38 rfl (Env.isT rfl c140) rfl rfl (shO_off (b' := true) 38 rfl (Env.isT rfl c140) rfl rfl ?_)
     refine ov (v_pick_t (evD_true rfl c140) rfl) rfl ?_
     refine om rfl rfl (shO_off (b' := true) 42 rfl rfl rfl rfl (shO_off (b' := true) 42 rfl rfl rfl rfl ?_))
     refine ov (v_pick_t rfl rfl) rfl ?_
     refine om rfl rfl (shO_off (b' := true) 46 rfl rfl rfl rfl (shO_off (b' := true) 46 rfl rfl rfl rfl ?_))
     refine ov (v_pick_t rfl rfl) rfl ?_
     refine om rfl rfl (shO_off (b' := true) 50 rfl rfl rfl rfl (shO_off (b' := true) 50 rfl rfl rfl rfl ?_))
     refine ov (v_pick_t rfl rfl) rfl ?_
     refine om rfl rfl (shO_off (b' := true) 54 rfl rfl rfl rfl (shO_off (b' := true) 54 rfl rfl rfl rfl (shO_off (b' := true) 54 rfl rfl rfl rfl ?_)))
     refine ov (v_pick_t rfl rfl) rfl ?_
     refine om rfl rfl (shO_off (b' := true) 59 rfl rfl rfl rfl (shO_off (b' := true) 59 rfl rfl rfl rfl ?_))
     refine ov (v_pick_t rfl rfl) rfl ?_
     refine om rfl rfl (shO_off (b' := true) 63 rfl rfl rfl rfl (shO_off (b' := true) 63 rfl rfl rfl rfl (shO_off (b' := true) 63 rfl rfl rfl rfl (shO_off (b' := true) 63 rfl rfl rfl rfl (shO_off (b' := true) 63 rfl rfl rfl rfl (shO_off (b' := true) 63 rfl rfl rfl rfl (shO_off (b' := true) 63 rfl rfl rfl rfl ?_)))))))
     refine ov (v_pick_t rfl rfl) rfl ?_
     refine shO_nil ?_
     obtain rfl := inj1 r141
     exact mi kn ⟨FExt.refl _, rfl, (sc rfl (sn _))⟩
   have r142 := ite_f h138 c140; clear h138
   refine shO_on (b := false) 38 rfl (Env.isF rfl c140) (om rfl rfl (shO_on (b := false) 38 rfl (Env.isF rfl c140) ?_))
   refine ov (v_neq rfl rfl) rfl ?_
   refine ov (v_pick_f (evD_false rfl c140) rfl) rfl ?_
   refine om rfl rfl ?_
   by_cases c143 : n7 ≠ 0
   · have r144 := ite_t r142 c143; clear r142
     refine shO_off (b' := true) 42 rfl (Env.isT rfl c143) rfl rfl (shO_off (b' := true) 42 rfl (Env.isT rfl c143) rfl rfl ?_)
     refine ov (v_pick_t (evD_true rfl c143) rfl) rfl ?_
     refine om rfl rfl (shO_off (b' := true) 46 rfl rfl rfl rfl (shO_off (b' := true) 46 rfl rfl rfl rfl ?_))
     refine ov (v_pick_t rfl rfl) rfl ?_
     refine om rfl rfl (shO_off (b' := true) 50 rfl rfl rfl rfl (shO_off (b' := true) 50 rfl rfl rfl rfl ?_))
     refine ov (v_pick_t rfl rfl) rfl ?_
     refine om rfl rfl (shO_off (b' := true) 54 rfl rfl rfl rfl (shO_off (b' := true) 54 rfl rfl rfl rfl (shO_off (b' := true) 54 rfl rfl rfl rfl ?_)))
     refine ov (v_pick_t rfl rfl) rfl ?_
     refine om rfl rfl (shO_off (b' := true) 59 rfl rfl rfl rfl (shO_off (b' := true) 59 rfl rfl rfl rfl ?_))
     refine ov (v_pick_t rfl rfl) rfl ?_
     refine om rfl rfl (shO_off (b' := true) 63 rfl rfl rfl rfl (shO_off (b' := true) 63 rfl rfl rfl rfl (shO_off (b' := true) 63 rfl rfl rfl rfl (shO_off (b' := true) 63 rfl rfl rfl rfl (shO_off (b' := true) 63 rfl rfl rfl rfl (shO_off (b' := true) 63 rfl rfl rfl rfl (shO_off (b' := true) 63 rfl rfl rfl rfl ?_)))))))
     refine ov (v_pick_t rfl rfl) rfl ?_
     refine shO_nil ?_
     obtain rfl := inj1 r144
     exact mi kn ⟨FExt.refl _, rfl, (sc rfl (sn _))⟩
   have r145 := ite_f r142 c143; clear r142
   refine shO_on (b := false) 42 rfl (Env.isF rfl c143) (om rfl rfl (shO_on (b := false) 42 rfl (Env.isF rfl c143) ?_))
   refine ov (v_neq rfl rfl) rfl ?_
   refine ov (v_pick_f (evD_false rfl c143) rfl) rfl ?_
   refine om rfl rfl ?_
   by_cases c146 : n11 ≠ 0
   · have r147 := ite_t r145 c146; clear r145
     refine shO_off (b' := true) 46 rfl (Env.isT rfl c146) rfl rfl (shO_off (b' := true) 46 rfl (Env.isT rfl c146) rfl rfl ?_)
     refine ov (v_pick_t (evD_true rfl c146) rfl) rfl ?_
     refine om rfl rfl (shO_off (b' := true) 50 rfl rfl rfl rfl (shO_off (b' := true) 50 rfl rfl rfl rfl ?_))
     refine ov (v_pick_t rfl rfl) rfl ?_
     refine om rfl rfl (shO_off (b' := true) 54 rfl rfl rfl rfl (shO_off (b' := true) 54 rfl rfl rfl rfl (shO_off (b' := true) 54 rfl rfl rfl rfl ?_)))
     refine ov (v_pick_t rfl rfl) rfl ?_
     refine om rfl rfl (shO_off (b' := true) 59 rfl rfl rfl rfl (shO_off (b' := true) 59 rfl rfl rfl rfl ?_))
     refine ov (v_pick_t rfl rfl) rfl ?_
     refine om rfl rfl (shO_off (b' := true) 63 rfl rfl rfl rfl (shO_off (b' := true) 63 rfl rfl rfl rfl (shO_off (b' := true) 63 rfl rfl rfl rfl (shO_off (b' := true) 63 rfl rfl rfl rfl (shO_off (b' := true) 63 rfl rfl rfl rfl (shO_off (b' := true) 63 rfl rfl rfl rfl (shO_off (b' := true) 63 rfl rfl rfl rfl ?_)))))))
     refine ov (v_pick_t rfl rfl) rfl ?_
     refine shO_nil ?_
     obtain rfl := inj1 r147
     exact mi kn ⟨FExt.refl _, rfl, (sc rfl (sn _))⟩
   have r148 := ite_f r145 c146; clear r145
   refine shO_on (b := false) 46 rfl (Env.isF rfl c146) (om rfl rfl (shO_on (b := false) 46 rfl (Env.isF rfl c146) ?_))
   refine ov (v_neq rfl rfl) rfl ?_
   refine ov (v_pick_f (evD_false rfl c146) rfl) rfl ?_
   refine om rfl rfl ?_
   by_cases c149 : n14 ≠ 0
   · have r150 := ite_t r148 c149; clear r148
     refine shO_off (b' := true) 50 rfl (Env.isT rfl c149) rfl rfl (shO_off (b' := true) 50 rfl (Env.isT rfl c149) rfl rfl ?_)
     refine ov (v_pick_t (evD_true rfl c149) rfl) rfl ?_
     refine om rfl rfl (shO_off (b' := true) 54 rfl rfl rfl rfl (shO_off (b' := true) 54 rfl rfl rfl rfl (shO_off (b' := true) 54 rfl rfl rfl rfl ?_)))
     refine ov (v_pick_t rfl rfl) rfl ?_
     refine om rfl rfl (shO_off (b' := true) 59 rfl rfl rfl rfl (shO_off (b' := true) 59 rfl rfl rfl rfl ?_))
     refine ov (v_pick_t rfl rfl) rfl ?_
     refine om rfl rfl (shO_off (b' := true) 63 rfl rfl rfl rfl (shO_off (b' := true) 63 rfl rfl rfl rfl (shO_off (b' := true) 63 rfl rfl rfl rfl (shO_off (b' := true) 63 rfl rfl rfl rfl (shO_off (b' := true) 63 rfl rfl rfl rfl (shO_off (b' := true) 63 rfl rfl rfl rfl (shO_off (b' := true) 63 rfl rfl rfl rfl ?_)))))))
     refine ov (v_pick_t rfl rfl) rfl ?_
     refine shO_nil ?_
     obtain rfl := inj1 r150
     exact mi kn ⟨FExt.refl _, rfl, (sc rfl (sn _))⟩
   have r151 := ite_f r148 c149; clear r148
   refine shO_on (b := false) 50 rfl (Env.isF rfl c149) (om rfl rfl (shO_on (b := false) 50 rfl (Env.isF rfl c149) ?_))
   refine ov (v_neq rfl rfl) rfl ?_
   refine ov (v_pick_f (evD_false rfl c149) rfl) rfl ?_
   refine om rfl rfl ?_
   by_cases c152 : n3 ≠ 11
   · have r153 := ite_t r151 c152; clear r151
     refine shO_off (b' := true) 54 rfl (Env.isT rfl c152) rfl rfl (shO_off (b' := true) 54 rfl (Env.isT rfl c152) rfl rfl (shO_off (b' := true) 54 rfl (Env.isT rfl c152) rfl rfl ?_))
     refine ov (v_pick_t (evD_true rfl c152) rfl) rfl ?_
     refine om rfl rfl (shO_off (b' := true) 59 rfl rfl rfl rfl (shO_off (b' := true) 59 rfl rfl rfl rfl ?_))
     refine ov (v_pick_t rfl rfl) rfl ?_
     refine om rfl rfl (shO_off (b' := true) 63 rfl rfl rfl rfl (shO_off (b' := true) 63 rfl rfl rfl rfl (shO_off (b' := true) 63 rfl rfl rfl rfl (shO_off (b' := true) 63 rfl rfl rfl rfl (shO_off (b' := true) 63 rfl rfl rfl rfl (shO_off (b' := true) 63 rfl rfl rfl rfl (shO_off (b' := true) 63 rfl rfl rfl rfl ?_)))))))
     refine ov (v_pick_t rfl rfl) rfl ?_
     refine shO_nil ?_
     obtain rfl := inj1 r153
     exact mi kn ⟨FExt.refl _, rfl, (sc rfl (sn _))⟩
   have r154 := ite_f r151 c152; clear r151
   refine shO_on (b := false) 54 rfl (Env.isF rfl c152) (om rfl rfl (shO_on (b := false) 54 rfl (Env.isF rfl c152) ?_))
   refine ov ((v_lenS Try.underlying35 rfl).i (SlR.lenI hz71)) rfl ?_
   refine shO_on (b := false) 54 rfl (Env.isF rfl c152) ?_
   refine ov (v_gtrK rfl rfl) rfl ?_
   refine ov (v_pick_f (evD_false rfl c152) rfl) rfl ?_
   refine om rfl rfl ?_
   by_cases c155 : 0 < (l8.length : Int)
   · have r156 := ite_t r154 c155; clear r154
     refine shO_off (b' := true) 59 rfl (Env.isT rfl c155) rfl rfl (shO_off (b' := true) 59 rfl (Env.isT rfl c155) rfl rfl ?_)
     refine ov (v_pick_t (evD_true rfl c155) rfl) rfl ?_
     refine om rfl rfl (shO_off (b' := true) 63 rfl rfl rfl rfl (shO_off (b' := true) 63 rfl rfl rfl rfl (shO_off (b' := true) 63 rfl rfl rfl rfl (shO_off (b' := true) 63 rfl rfl rfl rfl (shO_off (b' := true) 63 rfl rfl rfl rfl (shO_off (b' := true) 63 rfl rfl rfl rfl (shO_off (b' := true) 63 rfl rfl rfl rfl ?_)))))))
     refine ov (v_pick_t rfl rfl) rfl ?_
     refine shO_nil ?_
     obtain rfl := inj1 r156
     exact mi kn ⟨FExt.refl _, rfl, (sc rfl (sn _))⟩
   have r157 := ite_f r154 c155; clear r154
   refine shO_on (b := false) 59 rfl (Env.isF rfl c155) (om rfl rfl (shO_on (b := false) 59 rfl (Env.isF rfl c155) ?_))
   refine ov (v_neq rfl rfl) rfl ?_
   refine ov (v_pick_f (evD_false rfl c155) rfl) rfl ?_
   refine om rfl rfl ?_
   by_cases c158 : n10 ≠ 4
   · have r159 := ite_t r157 c158; clear r157
     refine shO_off (b' := true) 63 rfl (Env.isT rfl c158) rfl rfl (shO_off (b' := true) 63 rfl (Env.isT rfl c158) rfl rfl (shO_off (b' := true) 63 rfl (Env.isT rfl c158) rfl rfl (shO_off (b' := true) 63 rfl (Env.isT rfl c158) rfl rfl (shO_off (b' := true) 63 rfl (Env.isT rfl c158) rfl rfl (shO_off (b' := true) 63 rfl (Env.isT rfl c158) rfl rfl (shO_off (b' := true) 63 rfl (Env.isT rfl c158) rfl rfl ?_))))))
     refine ov (v_pick_t (evD_true rfl c158) rfl) rfl ?_
     refine shO_nil ?_
     obtain rfl := inj1 r159
     exact mi kn ⟨FExt.refl _, rfl, (sc rfl (sn _))⟩
   have r160 := ite_f r157 c158; clear r157
   refine shO_on (b := false) 63 rfl (Env.isF rfl c158) (om rfl rfl (shO_on (b := false) 63 rfl (Env.isF rfl c158) ?_))
   refine ov (v_build (v := .agg #[.int .i64 0, .int .i64 0]) rfl (by intro w; kernel_rfl)) rfl ?_
   refine shO_on (b := false) 63 rfl (Env.isF rfl c158) ?_
   refine ov (v_build (v := .agg #[.int .i64 0, .int .i64 2]) rfl (by intro w; kernel_rfl)) rfl ?_
   refine shO_on (b := false) 63 rfl (Env.isF rfl c158) ?_
   refine ov (v_build (v := .agg #[.int .i64 1, .int .i64 1]) rfl (by intro w; kernel_rfl)) rfl ?_
   refine shO_on (b := false) 63 rfl (Env.isF rfl c158) ?_
   refine o_buildSlice (cs := #[.int .i64 0, .int .i64 0, .int .i64 0, .int .i64 2, .int .i64 1, .int .i64 1]) rfl rfl (buildSlice_all slt_35 [.agg #[.int .i64 0, .int .i64 0], .agg #[.int .i64 0, .int .i64 2], .agg #[.int .i64 1, .int .i64 1]] rfl (by decide) (by simp [Value.cells]) (by decide)) ?_; intro b161 hb161
   refine shO_on (b := false) 63 rfl (Env.isF rfl c158) ?_
   refine shO_freeze 0 rfl hb161 ?_; intro F162 hF163 hz164
   refine shO_L (L' := Lb133 ++ (Lb109 ++ (Lb115 ++ (Lb121 ++ (Lb83 ++ (Lb89 ++ (Lb95 ++ (Lb70 ++ (Lb46 ++ (Lb52 ++ (Lb58 ++ (Lb33 ++ (Lb9 ++ (Lb15 ++ (Lb21 ++ []))))))))))))))) rfl ?_
   replace hz134 := hz134.mono (prE_ok (iE_ok _) (iE_ok _)) hF163
   have h165 : RowR 2 (prE (iE .i64) (iE .i64)) F162 (some ⟨b161, 0, none⟩) 3 [(0, 0), (0, 2), (1, 1)] := RowR.of_block (prE_ok (iE_ok _) (iE_ok _)) (vss := [[.int .i64 0, .int .i64 0], [.int .i64 0, .int .i64 2], [.int .i64 1, .int .i64 1]]) (xs := [(0, 0), (0, 2), (1, 1)]) hz164 (.cons ⟨_, _, rfl, rfl, rfl⟩ (.cons ⟨_, _, rfl, rfl, rfl⟩ (.cons ⟨_, _, rfl, rfl, rfl⟩ .nil))) rfl (by simp [maxLen])
   obtain ⟨ok, h166, r167⟩ := b1_ok r160; clear r160
   refine o_callT (Lt := Lb133 ++ []) (Lr := Lb109 ++ (Lb115 ++ (Lb121 ++ (Lb83 ++ (Lb89 ++ (Lb95 ++ (Lb70 ++ (Lb46 ++ (Lb52 ++ (Lb58 ++ (Lb33 ++ (Lb9 ++ (Lb15 ++ (Lb21 ++ [])))))))))))))) rfl Try.call35 rfl rfl rfl (pT pR (lp (ln rfl))) (fun F2 h2 h3 => by rw [(SlR.caps hz134).1]; exact oyezkit_Like_Pair_w (hz134.row (prE_ok (iE_ok _) (iE_ok _)) h2 (fun p hp => h3 p (List.mem_append_left _ hp))) (h165.mono (prE_ok (iE_ok _) (iE_ok _)) h2) h166) ?_
   refine shO_on (b := false) 63 rfl (Env.isF rfl c158) ?_
   refine ov (v_notB rfl) rfl ?_
   refine ov (v_pick_f (evD_false rfl c158) rfl) rfl ?_
   refine shO_nil ?_
   obtain rfl := inj1 r167
   exact mi kn ⟨hF163, rfl, (sc rfl (sn _))⟩
 rintro e1 F169 _ ⟨hF170, rfl, he168⟩
 refine shW_env _ he168 ?_; clear he168
 refine shW_cond rfl (fun c171 => ?_) (fun c171 => ?_)
 · have r172 := bt r139 c171; clear r139
   refine wsr (oa rfl rfl (shO_nil (shW_ret (andThen_ret ?_))))
   refine q_res1 Try.results9 (res_tmp rfl) (sr) ?_
   obtain rfl := inj1 r172
   exact rfl
 have r173 := bf r139 c171; clear r139
 refine shW_skip (wsr ?_)
 obtain ⟨l16, l17, n15, n16, l18, h174, r175⟩ := b5_ok r173; clear r173
 refine o_call0 rfl Try.call34 rfl rfl rfl (oyezlaw03_Three_w h174) ?_; rintro _ F176 _ hF177 hn178 ⟨a180, n184, c181, Lb182, a186, n190, c187, Lb188, a192, n196, c193, Lb194, rfl, rfl, hz183, hz189, hz195⟩
 replace hz183 := hz183.new fun p hp => hn178 p (by simp [hp])
 replace hz189 := hz189.new fun p hp => hn178 p (by simp [hp])
 replace hz195 := hz195.new fun p hp => hn178 p (by simp [hp])
 refine shO_L (lp (lp (lp (ln rfl)))) ?_
 obtain ⟨n17, n18, h198, r199⟩ := b2_ok r175; clear r175
 refine o_callT (Lt := Lb182 ++ (Lb188 ++ (Lb194 ++ []))) (Lr := []) rfl Try.call25 rfl rfl rfl (pT pR (lp (lp (lp (ln rfl))))) (fun F2 h2 h3 => by rw [(SlR.caps hz183).1]; rw [(SlR.caps hz189).1]; rw [(SlR.caps hz195).1]; exact round_Hurry_w (hz183.row (slE_ok (iE_ok _)) h2 (fun p hp => h3 p (List.mem_append_left _ hp))) (hz189.row (slE_ok (iE_ok _)) h2 (fun p hp => h3 p (List.mem_append_right _ (List.mem_append_left _ hp)))) (hz195.row (prE_ok (slE_ok (iE_ok _)) (prE_ok (iE_ok _) (iE_ok _))) h2 (fun p hp => h3 p (List.mem_append_right _ (List.mem_append_right _ (List.mem_append_left _ hp))))) h198) ?_
 refine om rfl rfl (ox rfl rfl rfl (ox rfl rfl rfl (oa rfl rfl (oa rfl rfl (nsr ?_)))))
 obtain ⟨l19, l20, n19, n20, l21, h200, r201⟩ := b5_ok r199; clear r199
 refine o_call0 rfl Try.call34 rfl rfl rfl (oyezlaw03_Three_w h200) ?_; rintro _ F202 _ hF203 hn204 ⟨a206, n210, c207, Lb208, a212, n216, c213, Lb214, a218, n222, c219, Lb220, rfl, rfl, hz209, hz215, hz221⟩
 replace hz209 := hz209.new fun p hp => hn204 p (by simp [hp])
 replace hz215 := hz215.new fun p hp => hn204 p (by simp [hp])
 replace hz221 := hz221.new fun p hp => hn204 p (by simp [hp])
 refine shO_L (lp (lp (lp (ln rfl)))) ?_
 refine ov (v_build (v := .agg #[.int .i64 0, .int .i64 2]) rfl (by intro w; kernel_rfl)) rfl ?_
 obtain ⟨n21, n22, h224, r225⟩ := b2_ok r201; clear r201
 refine o_callT (Lt := Lb208 ++ (Lb214 ++ (Lb220 ++ []))) (Lr := Lb182 ++ (Lb188 ++ (Lb194 ++ []))) rfl Try.call15 rfl rfl rfl (pT pR (lp (lp (lp (ln rfl))))) (fun F2 h2 h3 => by rw [(SlR.caps hz209).1]; rw [(SlR.caps hz215).1]; rw [(SlR.caps hz221).1]; exact round_Soonest_w (hz209.row (slE_ok (iE_ok _)) h2 (fun p hp => h3 p (List.mem_append_left _ hp))) (hz215.row (slE_ok (iE_ok _)) h2 (fun p hp => h3 p (List.mem_append_right _ (List.mem_append_left _ hp)))) (hz221.row (prE_ok (slE_ok (iE_ok _)) (prE_ok (iE_ok _) (iE_ok _))) h2 (fun p hp => h3 p (List.mem_append_right _ (List.mem_append_right _ (List.mem_append_left _ hp))))) h224) ?_
 refine om rfl rfl (ox rfl rfl rfl (ox rfl rfl rfl (oa rfl rfl (oa rfl rfl (nsr ?_)))))
 obtain ⟨l22, l23, n23, n24, l24, h226, r227⟩ := b5_ok r225; clear r225
 refine o_call0 rfl Try.call34 rfl rfl rfl (oyezlaw03_Three_w h226) ?_; rintro _ F228 _ hF229 hn230 ⟨a232, n236, c233, Lb234, a238, n242, c239, Lb240, a244, n248, c245, Lb246, rfl, rfl, hz235, hz241, hz247⟩
 replace hz235 := hz235.new fun p hp => hn230 p (by simp [hp])
 replace hz241 := hz241.new fun p hp => hn230 p (by simp [hp])
 replace hz247 := hz247.new fun p hp => hn230 p (by simp [hp])
 refine shO_L (lp (lp (lp (ln rfl)))) ?_
 obtain ⟨l25, n25, n26, h250, r251⟩ := b3_ok r227; clear r227
 refine o_callTO (Lb := []) (Lt := Lb234 ++ (Lb240 ++ (Lb246 ++ []))) (Lr := Lb208 ++ (Lb214 ++ (Lb220 ++ (Lb182 ++ (Lb188 ++ (Lb194 ++ [])))))) rfl Try.call36 rfl rfl rfl (pT pR (ln (lp (lp (lp (ln rfl)))))) (fun F2 h2 h3 => by rw [(SlR.caps hz235).1]; rw [(SlR.caps hz241).1]; rw [(SlR.caps hz247).1]; exact round_Two_w (hz235.row (slE_ok (iE_ok _)) h2 (fun p hp => h3 p (List.mem_append_left _ hp))) (hz241.row (slE_ok (iE_ok _)) h2 (fun p hp => h3 p (List.mem_append_right _ (List.mem_append_left _ hp)))) (hz247.row (prE_ok (slE_ok (iE_ok _)) (prE_ok (iE_ok _) (iE_ok _))) h2 (fun p hp => h3 p (List.mem_append_right _ (List.mem_append_right _ (List.mem_append_left _ hp))))) h250) (fun _ _ _ _ hq => by obtain ⟨a256, n260, c257, Lb258, rfl, rfl, hz259⟩ := hq; exact ⟨_, _, _, _, rfl, rfl, hz259.flat (fun _ _ h => h)⟩) ?_; rintro _ F252 _ hF253 hd255 hn254 ⟨a256, n260, c257, Lb258, rfl, rfl, hz259⟩
 have hn262 := newp (Lb' := []) (by rfl) hd255 hn254
 replace hz259 := hz259.new fun p hp => hn262 p (by simp [hp])
 refine shO_L (lp (ln (lp (lp (lp (ln rfl)))))) ?_
 refine om rfl rfl (ox rfl rfl rfl (ox rfl rfl rfl (ox rfl rfl rfl (oa rfl rfl (oa rfl rfl (oa rfl rfl (nsr (om rfl rfl ?_))))))))
 refine ov (v_eql rfl rfl) rfl ?_
 refine om rfl rfl ?_
 by_cases c263 : n18 = 0
 · have r264 := ite_t r251 c263; clear r251
   refine shO_on (b := true) 91 rfl (Env.isT rfl c263) (om rfl rfl (shO_on (b := true) 91 rfl (Env.isT rfl c263) ?_))
   refine ov (v_eql rfl rfl) rfl ?_
   refine ov (v_pick_t (evD_true rfl c263) rfl) rfl ?_
   refine om rfl rfl ?_
   by_cases c265 : n22 = 0
   · have r266 := ite_t r264 c265; clear r264
     refine shO_on (b := true) 95 rfl (Env.isT rfl c265) (om rfl rfl (shO_on (b := true) 95 rfl (Env.isT rfl c265) ?_))
     refine ov (v_eql rfl rfl) rfl ?_
     refine ov (v_pick_t (evD_true rfl c265) rfl) rfl ?_
     refine om rfl rfl ?_
     by_cases c267 : n26 = 0
     · have r268 := ite_t r266 c267; clear r266
       refine shO_on (b := true) 99 rfl (Env.isT rfl c267) (om rfl rfl (shO_on (b := true) 99 rfl (Env.isT rfl c267) ?_))
       refine ov (v_eql rfl rfl) rfl ?_
       refine ov (v_pick_t (evD_true rfl c267) rfl) rfl ?_
       refine om rfl rfl ?_
       by_cases c269 : n17 = 6
       · have r270 := ite_t r268 c269; clear r268
         refine shO_on (b := true) 103 rfl (Env.isT rfl c269) (om rfl rfl (shO_on (b := true) 103 rfl (Env.isT rfl c269) ?_))
         refine ov (v_eql rfl rfl) rfl ?_
         refine ov (v_pick_t (evD_true rfl c269) rfl) rfl ?_
         refine om rfl rfl ?_
         by_cases c271 : n21 = 7
         · have r272 := ite_t r270 c271; clear r270
           refine shO_on (b := true) 107 rfl (Env.isT rfl c271) (om rfl rfl (shO_on (b := true) 107 rfl (Env.isT rfl c271) ?_))
           refine ov (v_eql rfl rfl) rfl ?_
           refine ov (v_pick_t (evD_true rfl c271) rfl) rfl ?_
           refine om rfl rfl ?_
           by_cases c273 : n25 = 10
           · have r274 := ite_t r272 c273; clear r272
             refine shO_on (b := true) 111 rfl (Env.isT rfl c273) (om rfl rfl (shO_on (b := true) 111 rfl (Env.isT rfl c273) ?_))
             refine o_buildSlice (cs := #[.int .i64 0, .int .i64 1]) rfl rfl (buildSlice_all slt_38 [.int .i64 0, .int .i64 1] rfl (by decide) (by simp [Value.cells]) (by decide)) ?_; intro b275 hb275
             refine shO_on (b := true) 111 rfl (Env.isT rfl c273) ?_
             refine shO_freeze 0 rfl hb275 ?_; intro F276 hF277 hz278
             refine shO_L (L' := Lb258 ++ (Lb234 ++ (Lb240 ++ (Lb246 ++ (Lb208 ++ (Lb214 ++ (Lb220 ++ (Lb182 ++ (Lb188 ++ (Lb194 ++ [])))))))))) rfl ?_
             replace hz259 := hz259.mono (iE_ok _) hF277
             have h279 : RowR 1 (iE .i64) F276 (some ⟨b275, 0, none⟩) 2 [0, 1] := RowR.of_block (iE_ok _) (vss := [[.int .i64 0], [.int .i64 1]]) (xs := [0, 1]) hz278 (.cons rfl (.cons rfl .nil)) rfl (by simp [maxLen])
             obtain ⟨ok2, h280, r281⟩ := b1_ok r274; clear r274
             refine o_callT (Lt := Lb258 ++ []) (Lr := Lb234 ++ (Lb240 ++ (Lb246 ++ (Lb208 ++ (Lb214 ++ (Lb220 ++ (Lb182 ++ (Lb188 ++ (Lb194 ++ []))))))))) rfl Try.call37 rfl rfl rfl (pT pR (lp (ln rfl))) (fun F2 h2 h3 => by rw [(SlR.caps hz259).1]; exact oyezkit_Like_int_w (hz259.row (iE_ok _) h2 (fun p hp => h3 p (List.mem_append_left _ hp))) (h279.mono (iE_ok _) h2) h280) ?_
             refine ov (v_pick_t (evD_true rfl c273) rfl) rfl ?_
             refine oa rfl rfl (shO_nil ?_)
             refine kW kn ?_
             refine shW_ret ?_
             refine q_res1 Try.results9 (res_tmp rfl) (sr) ?_
             obtain rfl := inj1 r281
             exact rfl
           have r282 := ite_f r272 c273; clear r272
           refine shO_off (b' := false) 111 rfl (Env.isF rfl c273) rfl rfl (shO_off (b' := false) 111 rfl (Env.isF rfl c273) rfl rfl (shO_off (b' := false) 111 rfl (Env.isF rfl c273) rfl rfl ?_))
           refine ov (v_pick_f (evD_false rfl c273) rfl) rfl ?_
           refine oa rfl rfl (shO_nil ?_)
           refine kW kn ?_
           refine shW_ret ?_
           refine q_res1 Try.results9 (res_tmp rfl) (sr) ?_
           obtain rfl := inj1 r282
           exact rfl
         have r283 := ite_f r270 c271; clear r270
         refine shO_off (b' := false) 107 rfl (Env.isF rfl c271) rfl rfl (shO_off (b' := false) 107 rfl (Env.isF rfl c271) rfl rfl ?_)
         refine ov (v_pick_f (evD_false rfl c271) rfl) rfl ?_
         refine om rfl rfl (shO_off (b' := false) 111 rfl rfl rfl rfl (shO_off (b' := false) 111 rfl rfl rfl rfl (shO_off (b' := false) 111 rfl rfl rfl rfl ?_)))
         refine ov (v_pick_f rfl rfl) rfl ?_
         refine oa rfl rfl (shO_nil ?_)
         refine kW kn ?_
         refine shW_ret ?_
         refine q_res1 Try.results9 (res_tmp rfl) (sr) ?_
         obtain rfl := inj1 r283
         exact rfl
       have r284 := ite_f r268 c269; clear r268
       refine shO_off (b' := false) 103 rfl (Env.isF rfl c269) rfl rfl (shO_off (b' := false) 103 rfl (Env.isF rfl c269) rfl rfl ?_)
       refine ov (v_pick_f (evD_false rfl c269) rfl) rfl ?_
       refine om rfl rfl (shO_off (b' := false) 107 rfl rfl rfl rfl (shO_off (b' := false) 107 rfl rfl rfl rfl ?_))
       refine ov (v_pick_f rfl rfl) rfl ?_
       refine om rfl rfl (shO_off (b' := false) 111 rfl rfl rfl rfl (shO_off (b' := false) 111 rfl rfl rfl rfl (shO_off (b' := false) 111 rfl rfl rfl rfl ?_)))
       refine ov (v_pick_f rfl rfl) rfl ?_
       refine oa rfl rfl (shO_nil ?_)
       refine kW kn ?_
       refine shW_ret ?_
       refine q_res1 Try.results9 (res_tmp rfl) (sr) ?_
       obtain rfl := inj1 r284
       exact rfl
     have r285 := ite_f r266 c267; clear r266
     refine shO_off (b' := false) 99 rfl (Env.isF rfl c267) rfl rfl (shO_off (b' := false) 99 rfl (Env.isF rfl c267) rfl rfl ?_)
     refine ov (v_pick_f (evD_false rfl c267) rfl) rfl ?_
     refine om rfl rfl (shO_off (b' := false) 103 rfl rfl rfl rfl (shO_off (b' := false) 103 rfl rfl rfl rfl ?_))
     refine ov (v_pick_f rfl rfl) rfl ?_
     refine om rfl rfl (shO_off (b' := false) 107 rfl rfl rfl rfl (shO_off (b' := false) 107 rfl rfl rfl rfl ?_))
     refine ov (v_pick_f rfl rfl) rfl ?_
     refine om rfl rfl (shO_off (b' := false) 111 rfl rfl rfl rfl (shO_off (b' := false) 111 rfl rfl rfl rfl (shO_off (b' := false) 111 rfl rfl rfl rfl ?_)))
     refine ov (v_pick_f rfl rfl) rfl ?_
     refine oa rfl rfl (shO_nil ?_)
     refine kW kn ?_
     refine shW_ret ?_
     refine q_res1 Try.results9 (res_tmp rfl) (sr) ?_
     obtain rfl := inj1 r285
     exact rfl
   have r286 := ite_f r264 c265; clear r264
   refine shO_off (b' := false) 95 rfl (Env.isF rfl c265) rfl rfl (shO_off (b' := false) 95 rfl (Env.isF rfl c265) rfl rfl ?_)
   refine ov (v_pick_f (evD_false rfl c265) rfl) rfl ?_
   refine om rfl rfl (shO_off (b' := false) 99 rfl rfl rfl rfl (shO_off (b' := false) 99 rfl rfl rfl rfl ?_))
   refine ov (v_pick_f rfl rfl) rfl ?_
   refine om rfl rfl (shO_off (b' := false) 103 rfl rfl rfl rfl (shO_off (b' := false) 103 rfl rfl rfl rfl ?_))
   refine ov (v_pick_f rfl rfl) rfl ?_
   refine om rfl rfl (shO_off (b' := false) 107 rfl rfl rfl rfl (shO_off (b' := false) 107 rfl rfl rfl rfl ?_))
   refine ov (v_pick_f rfl rfl) rfl ?_
   refine om rfl rfl (shO_off (b' := false) 111 rfl rfl rfl rfl (shO_off (b' := false) 111 rfl rfl rfl rfl (shO_off (b' := false) 111 rfl rfl rfl rfl ?_)))
   refine ov (v_pick_f rfl rfl) rfl ?_
   refine oa rfl rfl (shO_nil ?_)
   refine kW kn ?_
   refine shW_ret ?_
   refine q_res1 Try.results9 (res_tmp rfl) (sr) ?_
   obtain rfl := inj1 r286
   exact rfl
 have r287 := ite_f r251 c263; clear r251
 refine shO_off (b' := false) 91 rfl (Env.isF rfl c263) rfl rfl (shO_off (b' := false) 91 rfl (Env.isF rfl c263) rfl rfl ?_)
 refine ov (v_pick_f (evD_false rfl c263) rfl) rfl ?_
 refine om rfl rfl (shO_off (b' := false) 95 rfl rfl rfl rfl (shO_off (b' := false) 95 rfl rfl rfl rfl ?_))
 refine ov (v_pick_f rfl rfl) rfl ?_
 refine om rfl rfl (shO_off (b' := false) 99 rfl rfl rfl rfl (shO_off (b' := false) 99 rfl rfl rfl rfl ?_))
 refine ov (v_pick_f rfl rfl) rfl ?_
 refine om rfl rfl (shO_off (b' := false) 103 rfl rfl rfl rfl (shO_off (b' := false) 103 rfl rfl rfl rfl ?_))
 refine ov (v_pick_f rfl rfl) rfl ?_
 refine om rfl rfl (shO_off (b' := false) 107 rfl rfl rfl rfl (shO_off (b' := false) 107 rfl rfl rfl rfl ?_))
 refine ov (v_pick_f rfl rfl) rfl ?_
 refine om rfl rfl (shO_off (b' := false) 111 rfl rfl rfl rfl (shO_off (b' := false) 111 rfl rfl rfl rfl (shO_off (b' := false) 111 rfl rfl rfl rfl ?_)))
 refine ov (v_pick_f rfl rfl) rfl ?_
 refine oa rfl rfl (shO_nil ?_)
 refine kW kn ?_
 refine shW_ret ?_
 refine q_res1 Try.results9 (res_tmp rfl) (sr) ?_
 obtain rfl := inj1 r287
 exact rfl
set_option maxHeartbeats 1000000 in
theorem slices_Clone_int_int_w {s__a : Option Addr} {s__c : Nat} {s_ : List Int} {F : FS} (h_s_ : RowR 1 (iE .i64) F s__a s__c s_) {r : List Int} (hr : slices_Clone_int_int s_ = some r) :
    SH.Spec Try.prog 44 #[.slice s__a s_.length s__c] F [] fun F' L' v => ∃ (ra : Option Addr) (rn : Nat) (rc : Nat) (rL : LH), v = .slice ra rn rc ∧ L' = rL ++ [] ∧ SlR 0 3 1 (iE .i64) F' ra rn rc r rL := by
 refine spec_of_shW (args := [.slice s__a s_.length s__c]) Try.func44 rfl Try.ntmps44 (Nat.le_of_ble_eq_true rfl) ?_
 intro K _ _; rw [slices_Clone_int_int] at hr
 refine wsr (oa rfl rfl (shO_nil (shW_seq (wsr (om rfl rfl ?_)))))
 refine ov (v_eqlNil Try.underlying38 rfl) rfl ?_
 refine shO_nil ?_
 refine shW_cond rfl (fun c1 => ?_) (fun c1 => ?_)
 · have r2 := nilIf_t hr (RowR.isNone h_s_ c1); clear hr
   refine wsr (oa rfl rfl (shO_nil (shW_ret (andThen_ret ?_))))
   refine q_res1 Try.results44 (res_tmp rfl) (sr) ?_
   obtain rfl := inj1 r2
   exact ⟨_, _, _, [], rfl, rfl, SlR.nil _ _ _ _ _⟩
 have r3 := nilIf_f hr; clear hr
 refine shW_skip (wsr ?_)
 refine o_buildSlice (cs := #[]) rfl rfl (buildSlice_none slt_38) ?_; intro b4 hb4
 refine om rfl rfl ?_
 have hz6 : SlR K.w0.heap.size 3 1 (iE .i64) F (some ⟨b4, 0, none⟩) 0 0 ([] : List Int) [(b4, .cells #[] 3 (0, 0))] := SlR.of_block (vss := []) (iE_ok _) hb4 .nil rfl rfl (by simp [maxLen])
 generalize hLLb5 : ([(b4, .cells #[] 3 (0, 0))] : LH) = Lb5 at hz6
 refine shO_perm (L' := Lb5 ++ []) (by rw [← hLLb5]; exact fO) ?_
 obtain ⟨l, h8, g9, r10⟩ := ap_ok r3; clear r3
 refine o_appZ (xs := ([] : List Int)) (ys := s_) (zs := l) rfl slt_38 rfl rfl (Nat.le_refl _) (fun _ => .h) hz6 (RowR.src h_s_) h8 g9 (by decide) ?_; intro a11 n15 c12 Lb13 hz14
 refine oa rfl rfl (shO_nil (shW_ret ?_))
 refine q_res1 Try.results44 (res_tmp rfl) (sr) ?_
 obtain rfl := inj1 r10
 exact ⟨_, _, _, _, rfl, rfl, hz14.any⟩
set_option maxHeartbeats 1000000 in
theorem round_Put_w {walks_a : Option Addr} {walks_c : Nat} {walks : List (List Int)} {hears_a : Option Addr} {hears_c : Nat} {hears : List (List Int)} {houses start : Int} {notices_a : Option Addr} {notices_c : Nat} {notices : List ((List Int) × Int × Int)} {notice hour : Int} {F : FS} (h_walks : RowR 1 (slE 1 (iE .i64)) F walks_a walks_c walks) (h_hears : RowR 1 (slE 1 (iE .i64)) F hears_a hears_c hears) (h_notices : RowR 3 (prE (slE 1 (iE .i64)) (prE (iE .i64) (iE .i64))) F notices_a notices_c notices) {r r2 : List (List Int)} {r3 r4 : Int} {r5 : List ((List Int) × Int × Int)} {r6 : Int} (hr : round_Put walks hears houses start notices notice hour = some (r, r2, r3, r4, r5, r6)) :
    SH.Spec Try.prog 11 #[.agg #[.slice walks_a walks.length walks_c, .slice hears_a hears.length hears_c, .int .i64 houses, .int .i64 start, .slice notices_a notices.length notices_c], .int .i64 notice, .int .i64 hour] F [] fun F' L' v => ∃ (ra : Option Addr) (rn : Nat) (rc : Nat) (rL : LH) (r2a : Option Addr) (r2n : Nat) (r2c : Nat) (r2L : LH) (r5a : Option Addr) (r5n : Nat) (r5c : Nat) (r5L : LH), v = .tuple #[.agg #[.slice ra rn rc, .slice r2a r2n r2c, .int .i64 r3, .int .i64 r4, .slice r5a r5n r5c], .int .i64 r6] ∧ L' = rL ++ (r2L ++ (r5L ++ [])) ∧ NlR 0 38 3 1 (iE .i64) F' ra rn rc r rL ∧ NlR 0 38 3 1 (iE .i64) F' r2a r2n r2c r2 r2L ∧ SlR 0 40 3 (prE (slE 1 (iE .i64)) (prE (iE .i64) (iE .i64))) F' r5a r5n r5c r5 r5L := by
 refine spec_of_shW (args := [.agg #[.slice walks_a walks.length walks_c, .slice hears_a hears.length hears_c, .int .i64 houses, .int .i64 start, .slice notices_a notices.length notices_c], .int .i64 notice, .int .i64 hour]) Try.func11 rfl Try.ntmps11 (Nat.le_of_ble_eq_true rfl) ?_
 intro K _ _; rw [round_Put] at hr
 refine wsr ?_
 refine o_box rfl rfl ?_; intro b1 hb1
 refine o_alloc rfl Try.zeroValue26 ?_; intro b2 hb2
 refine oa rfl rfl (nsr ?_)
 refine ov (v_loadA (cs := #[.slice walks_a walks.length walks_c, .slice hears_a hears.length hears_c, .int .i64 houses, .int .i64 start, .slice notices_a notices.length notices_c]) Try.isAgg26 Try.sizeOf26 rfl (Has.own 1 rfl) (Nat.le_of_ble_eq_true rfl) rfl) rfl ?_
 obtain ⟨n, h3, r7⟩ := b1_ok hr; clear hr
 refine o_callV rfl Try.call42 rfl rfl rfl (round_Check_w h_walks h_hears h_notices h3) ?_
 refine oa rfl rfl (shO_nil (shW_seq ?_))
 refine shW_block ?_
 refine wsr (om rfl rfl ?_)
 refine ov (v_neq rfl rfl) rfl ?_
 refine oa rfl rfl (shO_nil ?_)
 refine shW_condP rfl (fun c8 => ?_) (fun c8 => ?_)
 · have r9 := ite_t r7 c8; clear r7
   refine wsr ?_
   refine ov (v_build (v := .agg #[.slice none 0 0, .slice none 0 0, .int .i64 0, .int .i64 0, .slice none 0 0]) rfl (by intro w; kernel_rfl)) rfl ?_
   refine om rfl rfl ?_
   refine o_storeA (i := 0) Try.sizeOf26 rfl rfl rfl (by simp [Value.oneCell']) rfl (Nat.le_of_ble_eq_true rfl) ?_
   refine shO_L (L' := [(b2, .cells #[.slice none 0 0, .slice none 0 0, .int .i64 0, .int .i64 0, .slice none 0 0] 26 (0, 0)), (b1, .cells #[.slice walks_a walks.length walks_c, .slice hears_a hears.length hears_c, .int .i64 houses, .int .i64 start, .slice notices_a notices.length notices_c] 26 (0, 0))]) rfl ?_
   refine oa rfl rfl (shO_nil ?_)
   refine kW (kc kn) ?_
   refine shW_ret (inBlock_ret (andThen_ret ?_))
   refine q_res2 Try.results11 (res_cellA (cs := #[.slice none 0 0, .slice none 0 0, .int .i64 0, .int .i64 0, .slice none 0 0]) Try.isAgg26 Try.sizeOf26 rfl (Has.own 0 rfl) (Nat.le_of_ble_eq_true rfl) rfl) (res_tmp rfl) (s1 sr) ?_
   obtain ⟨rfl, rfl, rfl, rfl, rfl, rfl⟩ := inj6 r9
   exact ⟨_, _, _, [], _, _, _, [], _, _, _, [], rfl, rfl, NlR.nil _ _ _ _ _ _, NlR.nil _ _ _ _ _ _, SlR.nil _ _ _ _ _⟩
 have r10 := ite_f r7 c8; clear r7
 refine wsr ?_
 refine ov (v_loadA (cs := #[.slice walks_a walks.length walks_c, .slice hears_a hears.length hears_c, .int .i64 houses, .int .i64 start, .slice notices_a notices.length notices_c]) Try.isAgg26 Try.sizeOf26 rfl (Has.own 1 rfl) (Nat.le_of_ble_eq_true rfl) rfl) rfl ?_
 refine om rfl rfl ?_
 obtain ⟨ok, h11, r12⟩ := b1_ok r10; clear r10
 refine o_callV rfl Try.call43 rfl rfl rfl (round_Beat_notice_w h_walks h_hears h_notices h11) ?_
 refine ov (v_notB rfl) rfl ?_
 refine oa rfl rfl (shO_nil ?_)
 refine shW_cond rfl (fun c13 => ?_) (fun c13 => ?_)
 · have r14 := bt r12 c13; clear r12
   refine wsr ?_
   refine ov (v_build (v := .agg #[.slice none 0 0, .slice none 0 0, .int .i64 0, .int .i64 0, .slice none 0 0]) rfl (by intro w; kernel_rfl)) rfl ?_
   refine o_storeA (i := 0) Try.sizeOf26 rfl rfl rfl (by simp [Value.oneCell']) rfl (Nat.le_of_ble_eq_true rfl) ?_
   refine shO_L (L' := [(b2, .cells #[.slice none 0 0, .slice none 0 0, .int .i64 0, .int .i64 0, .slice none 0 0] 26 (0, 0)), (b1, .cells #[.slice walks_a walks.length walks_c, .slice hears_a hears.length hears_c, .int .i64 houses, .int .i64 start, .slice notices_a notices.length notices_c] 26 (0, 0))]) rfl ?_
   refine oa rfl rfl (shO_nil ?_)
   refine kW (kc kn) ?_
   refine shW_ret (inBlock_ret (andThen_ret ?_))
   refine q_res2 Try.results11 (res_cellA (cs := #[.slice none 0 0, .slice none 0 0, .int .i64 0, .int .i64 0, .slice none 0 0]) Try.isAgg26 Try.sizeOf26 rfl (Has.own 0 rfl) (Nat.le_of_ble_eq_true rfl) rfl) (res_tmp rfl) (s1 sr) ?_
   obtain ⟨rfl, rfl, rfl, rfl, rfl, rfl⟩ := inj6 r14
   exact ⟨_, _, _, [], _, _, _, [], _, _, _, [], rfl, rfl, NlR.nil _ _ _ _ _ _, NlR.nil _ _ _ _ _ _, SlR.nil _ _ _ _ _⟩
 have r15 := bf r12 c13; clear r12
 refine wsr (om rfl rfl ?_)
 obtain ⟨ok2, h16, r17⟩ := b1_ok r15; clear r15
 refine o_callV rfl Try.call38 rfl rfl rfl (round_in_w h16) ?_
 refine ov (v_notB rfl) rfl ?_
 refine oa rfl rfl (shO_nil ?_)
 refine shW_cond rfl (fun c18 => ?_) (fun c18 => ?_)
 · have r19 := bt r17 c18; clear r17
   refine wsr ?_
   refine ov (v_build (v := .agg #[.slice none 0 0, .slice none 0 0, .int .i64 0, .int .i64 0, .slice none 0 0]) rfl (by intro w; kernel_rfl)) rfl ?_
   refine o_storeA (i := 0) Try.sizeOf26 rfl rfl rfl (by simp [Value.oneCell']) rfl (Nat.le_of_ble_eq_true rfl) ?_
   refine shO_L (L' := [(b2, .cells #[.slice none 0 0, .slice none 0 0, .int .i64 0, .int .i64 0, .slice none 0 0] 26 (0, 0)), (b1, .cells #[.slice walks_a walks.length walks_c, .slice hears_a hears.length hears_c, .int .i64 houses, .int .i64 start, .slice notices_a notices.length notices_c] 26 (0, 0))]) rfl ?_
   refine oa rfl rfl (shO_nil ?_)
   refine kW (kc kn) ?_
   refine shW_ret (inBlock_ret (andThen_ret ?_))
   refine q_res2 Try.results11 (res_cellA (cs := #[.slice none 0 0, .slice none 0 0, .int .i64 0, .int .i64 0, .slice none 0 0]) Try.isAgg26 Try.sizeOf26 rfl (Has.own 0 rfl) (Nat.le_of_ble_eq_true rfl) rfl) (res_tmp rfl) (s1 sr) ?_
   obtain ⟨rfl, rfl, rfl, rfl, rfl, rfl⟩ := inj6 r19
   exact ⟨_, _, _, [], _, _, _, [], _, _, _, [], rfl, rfl, NlR.nil _ _ _ _ _ _, NlR.nil _ _ _ _ _ _, SlR.nil _ _ _ _ _⟩
 have r20 := bf r17 c18; clear r17
 refine shW_skip (inBlock_n (id := 0) (shW_seq ?_))
 obtain ⟨g21, r22⟩ := gd_ok r20; clear r20
 refine shW_drawM [(.pre, 13), (.still, 0), (.still, 1), (.still, 2), (.pre, 3), (.still, 4), (.still, 5), (.still, 6), (.still, 8), (.still, 9), (.still, 10), (.still, 11), (.seq, 7), (.alloc (.cells (madeCells (.slice none 0 0 : Value).cells (Int.toNat (walks.length : Int) * 1)) 38 (0, 0)) (fun b => .slice (some ⟨b, 0, none⟩) (Int.toNat (walks.length : Int)) (Int.toNat (walks.length : Int))) [(33, .int .i64 (walks.length : Int))], 3), (.still, 12), (.alloc (.cells (.agg #[.slice none 0 0, .slice none 0 0, .int .i64 0, .int .i64 0, .slice none 0 0] : Value).cells 26 (0, 0)) (fun b => .pointer (some ⟨b, 0, none⟩)) [], 13), (.seq, 14)] (by kernel_rfl) (by kernel_rfl) (⟨⟨_, _, rfl, rfl, rfl, rfl, rfl, mk_made slt_23 (by decide) rfl g21⟩, ⟨⟨_, _, rfl, rfl, rfl, rfl, rfl, mk_alloc Try.zeroValue26⟩, trivial⟩⟩) (by rfl) (by kernel_rfl) ?_
 refine ⟨⟨[], rfl, sn _, by kernel_rfl⟩, ?_⟩
 refine shM_v (v := .pointer (some ⟨b1, 0, none⟩)) (ek := [(3, .pointer (some ⟨b1, 0, none⟩))]) (Ls := []) rfl rfl rfl rfl ((sc rfl (sn _))) (by kernel_rfl) sm (fun H F' L' hF' hL' => v_fieldAddr fa_26_0 rfl) ?_
 refine shM_v (v := .slice walks_a walks.length walks_c) (ek := [(31, .pointer (some ⟨b1, 0, none⟩))]) (Ls := [(b1, .cells #[.slice walks_a walks.length walks_c, .slice hears_a hears.length hears_c, .int .i64 houses, .int .i64 start, .slice notices_a notices.length notices_c] 26 (0, 0))]) rfl rfl rfl rfl ((sc rfl (sn _))) (by kernel_rfl) (s0 (s1 (s2 sr))) (fun H F' L' hF' hL' => v_load Try.isAgg23 rfl ((Has.own 0 rfl).ext hF' hL') rfl) ?_
 refine shM_v (v := .int .i64 (walks.length : Int)) (ek := [(32, .slice walks_a walks.length walks_c)]) (Ls := []) rfl rfl rfl rfl ((sc rfl (sn _))) (by kernel_rfl) sm (fun H F' L' hF' hL' => v_lenS Try.underlying23 rfl) ?_
 refine ⟨⟨_, rfl, (sc rfl (sn _)), by kernel_rfl⟩, ?_⟩
 refine shM_v (v := .pointer (some ⟨b1, 1, none⟩)) (ek := [(3, .pointer (some ⟨b1, 0, none⟩))]) (Ls := []) rfl rfl rfl rfl ((sc rfl (sn _))) (by kernel_rfl) sm (fun H F' L' hF' hL' => v_fieldAddr fa_26_1 rfl) ?_
 refine shM_v (v := .slice hears_a hears.length hears_c) (ek := [(35, .pointer (some ⟨b1, 1, none⟩))]) (Ls := [(b1, .cells #[.slice walks_a walks.length walks_c, .slice hears_a hears.length hears_c, .int .i64 houses, .int .i64 start, .slice notices_a notices.length notices_c] 26 (0, 0))]) rfl rfl rfl rfl ((sc rfl (sn _))) (by kernel_rfl) (s0 (s1 (s2 sr))) (fun H F' L' hF' hL' => v_load Try.isAgg23 rfl ((Has.own 0 rfl).ext hF' hL') rfl) ?_
 refine shM_v (v := .int .i64 (hears.length : Int)) (ek := [(36, .slice hears_a hears.length hears_c)]) (Ls := []) rfl rfl rfl rfl ((sc rfl (sn _))) (by kernel_rfl) sm (fun H F' L' hF' hL' => v_lenS Try.underlying23 rfl) ?_
 refine shM_v (v := .pointer (some ⟨b1, 2, none⟩)) (ek := [(3, .pointer (some ⟨b1, 0, none⟩))]) (Ls := []) rfl rfl rfl rfl ((sc rfl (sn _))) (by kernel_rfl) sm (fun H F' L' hF' hL' => v_fieldAddr fa_26_2 rfl) ?_
 refine shM_v (v := .int .i64 houses) (ek := [(39, .pointer (some ⟨b1, 2, none⟩))]) (Ls := [(b1, .cells #[.slice walks_a walks.length walks_c, .slice hears_a hears.length hears_c, .int .i64 houses, .int .i64 start, .slice notices_a notices.length notices_c] 26 (0, 0))]) rfl rfl rfl rfl ((sc rfl (sn _))) (by kernel_rfl) (s0 (s1 (s2 sr))) (fun H F' L' hF' hL' => v_load Try.isAgg3 rfl ((Has.own 0 rfl).ext hF' hL') rfl) ?_
 refine shM_v (v := .pointer (some ⟨b1, 3, none⟩)) (ek := [(3, .pointer (some ⟨b1, 0, none⟩))]) (Ls := []) rfl rfl rfl rfl ((sc rfl (sn _))) (by kernel_rfl) sm (fun H F' L' hF' hL' => v_fieldAddr fa_26_3 rfl) ?_
 refine shM_v (v := .int .i64 start) (ek := [(41, .pointer (some ⟨b1, 3, none⟩))]) (Ls := [(b1, .cells #[.slice walks_a walks.length walks_c, .slice hears_a hears.length hears_c, .int .i64 houses, .int .i64 start, .slice notices_a notices.length notices_c] 26 (0, 0))]) rfl rfl rfl rfl ((sc rfl (sn _))) (by kernel_rfl) (s0 (s1 (s2 sr))) (fun H F' L' hF' hL' => v_load Try.isAgg3 rfl ((Has.own 0 rfl).ext hF' hL') rfl) ?_
 refine ⟨_, [(37, .int .i64 (hears.length : Int))], rfl, rfl, (sc rfl (sn _)), by kernel_rfl, ?_⟩; intro H
 obtain ⟨g23, r24⟩ := gd_ok r22; clear r22
 obtain ⟨l, h25, r26⟩ := bv_ok r24; clear r24
 refine o_makeZ (R := hdE) (z0 := (none, 0, 0)) (zs := List.replicate ((hears.length : Int) : Int).toNat (none, 0, 0)) rfl slt_23 (by decide) hdE_ok (fun _ => rfl) rfl g23 rfl (fun _ => .c (.c .n)) ?_; intro a27 n30 Lb28 hO31
 have hz29 : NlR K.w0.heap.size 38 3 1 (iE .i64) F a27 n30 n30 l Lb28 := NlR.made hO31 h25
 refine shO_nil ⟨_, rfl, FExt.refl _, [11, 10, 9, 8, 2, 1, 0], by kernel_rfl, .inl (.inr (fun d h => by cases h; rfl)), (List.forall_mem_cons.2 ⟨s0 (s1 (s2 (s3 sr))), (List.forall_mem_cons.2 ⟨sm, (List.forall_mem_cons.2 ⟨s0 (s1 (s2 (s3 sr))), (List.forall_mem_cons.2 ⟨sm, (List.forall_mem_cons.2 ⟨sm, (List.forall_mem_cons.2 ⟨s0 (s1 (s2 (s3 sr))), (List.forall_mem_cons.2 ⟨sm, (fun _ h => absurd h List.not_mem_nil)⟩)⟩)⟩)⟩)⟩)⟩)⟩), ?_⟩
 refine shM_bs rfl ?_; intro b33 hb33
 refine shM_L (L' := (b33, .cells (madeCells (.slice none 0 0 : Value).cells ((Int.toNat (walks.length : Int)) * 1)) 38 (0, 0)) :: ((b2, .cells #[.slice none 0 0, .slice none 0 0, .int .i64 0, .int .i64 0, .slice none 0 0] 26 (0, 0)) :: ((b1, .cells #[.slice walks_a walks.length walks_c, .slice hears_a hears.length hears_c, .int .i64 houses, .int .i64 start, .slice notices_a notices.length notices_c] 26 (0, 0)) :: (Lb28 ++ [])))) rfl ?_
 refine shM_v (v := .agg #[.slice (some ⟨b33, 0, none⟩) (Int.toNat (walks.length : Int)) (Int.toNat (walks.length : Int)), .slice a27 n30 n30, .int .i64 houses, .int .i64 start, .slice none 0 0]) (ek := [(34, .slice (some ⟨b33, 0, none⟩) (Int.toNat (walks.length : Int)) (Int.toNat (walks.length : Int))), (38, .slice a27 n30 n30), (40, .int .i64 houses), (42, .int .i64 start)]) (Ls := []) rfl rfl rfl rfl ((sc rfl (sc rfl (sc rfl (sc rfl (sn _)))))) (by kernel_rfl) sm (fun H F' L' hF' hL' => v_build (v := .agg #[.slice (some ⟨b33, 0, none⟩) (Int.toNat (walks.length : Int)) (Int.toNat (walks.length : Int)), .slice a27 n30 n30, .int .i64 houses, .int .i64 start, .slice none 0 0]) rfl (by intro w; kernel_rfl)) ?_
 refine shM_ptr rfl ?_; intro b34 hb34
 refine shM_L (L' := (b34, .cells #[.slice none 0 0, .slice none 0 0, .int .i64 0, .int .i64 0, .slice none 0 0] 26 (0, 0)) :: ((b33, .cells (madeCells (.slice none 0 0 : Value).cells ((Int.toNat (walks.length : Int)) * 1)) 38 (0, 0)) :: ((b2, .cells #[.slice none 0 0, .slice none 0 0, .int .i64 0, .int .i64 0, .slice none 0 0] 26 (0, 0)) :: ((b1, .cells #[.slice walks_a walks.length walks_c, .slice hears_a hears.length hears_c, .int .i64 houses, .int .i64 start, .slice notices_a notices.length notices_c] 26 (0, 0)) :: (Lb28 ++ []))))) rfl ?_
 refine ⟨_, [(9, .pointer (some ⟨b34, 0, none⟩)), (43, .agg #[.slice (some ⟨b33, 0, none⟩) (Int.toNat (walks.length : Int)) (Int.toNat (walks.length : Int)), .slice a27 n30 n30, .int .i64 houses, .int .i64 start, .slice none 0 0])], rfl, rfl, (sc rfl (sc rfl (sn _))), by kernel_rfl, ?_⟩; intro H
 obtain ⟨l2, h35, r36⟩ := bv_ok r26; clear r26
 have hO39 := SlR.made (nb := K.w0.heap.size) (E := 38) (n := (Int.toNat (walks.length : Int))) (F := F) (z := ((none, 0, 0) : Hd)) hdE_ok (by decide) (fun _ => rfl) hb33 (mz_cap g21)
 have hz38 : NlR K.w0.heap.size 38 3 1 (iE .i64) F (some ⟨b33, 0, none⟩) (Int.toNat (walks.length : Int)) (Int.toNat (walks.length : Int)) l2 [(b33, .cells (madeCells (.slice none 0 0 : Value).cells ((Int.toNat (walks.length : Int)) * 1)) 38 (0, 0))] := NlR.made hO39 h35
 generalize hLLb37 : ([(b33, .cells (madeCells (.slice none 0 0 : Value).cells ((Int.toNat (walks.length : Int)) * 1)) 38 (0, 0))] : LH) = Lb37 at hz38
 refine shO_perm (L' := Lb37 ++ ((b34, .cells #[.slice none 0 0, .slice none 0 0, .int .i64 0, .int .i64 0, .slice none 0 0] 26 (0, 0)) :: ((b2, .cells #[.slice none 0 0, .slice none 0 0, .int .i64 0, .int .i64 0, .slice none 0 0] 26 (0, 0)) :: ((b1, .cells #[.slice walks_a walks.length walks_c, .slice hears_a hears.length hears_c, .int .i64 houses, .int .i64 start, .slice notices_a notices.length notices_c] 26 (0, 0)) :: (Lb28 ++ []))))) (by rw [← hLLb37]; exact (fC fO)) ?_
 refine shO_perm (L' := (b34, .cells #[.slice none 0 0, .slice none 0 0, .int .i64 0, .int .i64 0, .slice none 0 0] 26 (0, 0)) :: ((b2, .cells #[.slice none 0 0, .slice none 0 0, .int .i64 0, .int .i64 0, .slice none 0 0] 26 (0, 0)) :: ((b1, .cells #[.slice walks_a walks.length walks_c, .slice hears_a hears.length hears_c, .int .i64 houses, .int .i64 start, .slice notices_a notices.length notices_c] 26 (0, 0)) :: (Lb37 ++ (Lb28 ++ []))))) (List.Perm.symm (fC (fC (fC fP)))) ?_
 refine o_storeA (i := 0) Try.sizeOf26 rfl rfl rfl (by simp [Value.oneCell']) rfl (Nat.le_of_ble_eq_true rfl) ?_
 refine shO_L (L' := (b34, .cells #[.slice (some ⟨b33, 0, none⟩) (Int.toNat (walks.length : Int)) (Int.toNat (walks.length : Int)), .slice a27 n30 n30, .int .i64 houses, .int .i64 start, .slice none 0 0] 26 (0, 0)) :: ((b2, .cells #[.slice none 0 0, .slice none 0 0, .int .i64 0, .int .i64 0, .slice none 0 0] 26 (0, 0)) :: ((b1, .cells #[.slice walks_a walks.length walks_c, .slice hears_a hears.length hears_c, .int .i64 houses, .int .i64 start, .slice notices_a notices.length notices_c] 26 (0, 0)) :: (Lb37 ++ (Lb28 ++ []))))) rfl ?_
 refine shO_nil ⟨undef, rfl, FExt.refl _, [], by kernel_rfl, .inl (.inl rfl), (fun _ h => absurd h List.not_mem_nil), ?_⟩
 refine shM_nil ?_
 obtain ⟨out_walks, out_hears, h45, r46⟩ := b2_ok r36; clear r36
 refine shW_join (fun e1 F1 L1 => ∃ (Lb41 : LH) (Lb43 : LH), F = F1 ∧ L1 = ((b34, .cells #[.slice (some ⟨b33, 0, none⟩) (Int.toNat (walks.length : Int)) (Int.toNat (walks.length : Int)), .slice a27 n30 n30, .int .i64 houses, .int .i64 start, .slice none 0 0] 26 (0, 0)) :: ((b2, .cells #[.slice none 0 0, .slice none 0 0, .int .i64 0, .int .i64 0, .slice none 0 0] 26 (0, 0)) :: ((b1, .cells #[.slice walks_a walks.length walks_c, .slice hears_a hears.length hears_c, .int .i64 houses, .int .i64 start, .slice notices_a notices.length notices_c] 26 (0, 0)) :: (Lb41 ++ (Lb43 ++ []))))) ∧ e1.sub [(1, .int .i64 notice), (2, .int .i64 hour), (3, .pointer (some ⟨b1, 0, none⟩)), (6, .pointer (some ⟨b2, 0, none⟩)), (9, .pointer (some ⟨b34, 0, none⟩))] ∧ NlR K.w0.heap.size 38 3 1 (iE .i64) F1 (some ⟨b33, 0, none⟩) (Int.toNat (walks.length : Int)) (Int.toNat (walks.length : Int)) out_walks Lb41 ∧ NlR K.w0.heap.size 38 3 1 (iE .i64) F1 a27 n30 n30 out_hears Lb43) ?_ ?_
 · clear r46
   refine wsr ?_
   refine ov (v_fieldAddr fa_26_0 rfl) rfl ?_
   refine ov (v_load Try.isAgg23 rfl (Has.own 2 rfl) rfl) rfl ?_
   refine ov (v_lenS Try.underlying23 rfl) rfl ?_
   refine om rfl rfl (shO_nil ?_)
   refine shW_block ?_
   refine shW_lp (fun fu1 e1 F1 L1 => ∃ (tl : List (List Int)) (k : Int), tl.length = fu1 ∧ Lst walks k tl ∧ ∃ (out_walks2 : List (List Int)) (out_hears2 : List (List Int)) (Lb47 : LH) (Lb49 : LH), round_Put_l1 hears tl k out_walks2 out_hears2 = some (out_walks, out_hears) ∧ F = F1 ∧ L1 = ((b34, .cells #[.slice (some ⟨b33, 0, none⟩) (Int.toNat (walks.length : Int)) (Int.toNat (walks.length : Int)), .slice a27 n30 n30, .int .i64 houses, .int .i64 start, .slice none 0 0] 26 (0, 0)) :: ((b2, .cells #[.slice none 0 0, .slice none 0 0, .int .i64 0, .int .i64 0, .slice none 0 0] 26 (0, 0)) :: ((b1, .cells #[.slice walks_a walks.length walks_c, .slice hears_a hears.length hears_c, .int .i64 houses, .int .i64 start, .slice notices_a notices.length notices_c] 26 (0, 0)) :: (Lb47 ++ (Lb49 ++ []))))) ∧ e1.sub [(1, .int .i64 notice), (2, .int .i64 hour), (3, .pointer (some ⟨b1, 0, none⟩)), (6, .pointer (some ⟨b2, 0, none⟩)), (9, .pointer (some ⟨b34, 0, none⟩)), (46, .int .i64 (walks.length : Int)), (47, .int .i64 k)] ∧ NlR K.w0.heap.size 38 3 1 (iE .i64) F1 (some ⟨b33, 0, none⟩) (Int.toNat (walks.length : Int)) (Int.toNat (walks.length : Int)) out_walks2 Lb47 ∧ NlR K.w0.heap.size 38 3 1 (iE .i64) F1 a27 n30 n30 out_hears2 Lb49) _ (m0 kr ⟨_, _, rfl, Lst.start _, l2, l, Lb37, Lb28, h45, rfl, rfl, (sc rfl (sc rfl (sc rfl (sc rfl (sc rfl (sc rfl (sc rfl (sn _)))))))), hz38, hz29⟩) ?_
   rintro fu1 e1 _ _ ⟨tl, k, hn52, hk51, out_walks2, out_hears2, Lb47, Lb49, r53, rfl, rfl, he54, hz48, hz50⟩
   refine shW_env _ he54 ?_; clear he54
   refine wsr ?_
   refine ov (v_lssK rfl rfl) rfl ?_
   refine shO_nil (shW_seq ?_)
   refine shW_condP rfl (fun c56 => ?_) (fun c56 => ?_)
   · obtain ⟨x, tl2, rfl, hx58, g59, hk57⟩ := Lst.succ hk51 c56
     rw [round_Put_l1] at r53
     refine shW_skip (shW_seq ?_)
     refine shW_block ?_
     refine wsr (om rfl rfl (oa rfl rfl (shO_nil (shW_seq ?_))))
     obtain ⟨x2, g60, hx61, r62⟩ := ix_ok r53; clear r53
     have hn74 := (NlR.caps hz48).1
     refine shW_open (fC (fC (fC fP))) hz48 hx61 ?_; intro hs63 Lo64 Lc65 a66 n67 c68 Lb69 hh70 hO71 hz72 hI73
     refine kW (kf (fS (fS (fS fO))) (kf (fS (fS (fS fO))) (kf (fS (fS (fS fO))) kr))) ?_
     refine shW_drawM [(.still, 0), (.still, 1), (.still, 2), (.still, 3), (.still, 4), (.still, 5), (.still, 6), (.still, 7), (.still, 8), (.seq, 9), (.still, 10), (.seq, 11)] (by kernel_rfl) (by kernel_rfl) (trivial) (by rfl) (by kernel_rfl) ?_
     refine shM_v (v := .pointer (some ⟨b34, 0, none⟩)) (ek := [(9, .pointer (some ⟨b34, 0, none⟩))]) (Ls := []) rfl rfl rfl rfl ((sc rfl (sn _))) (by kernel_rfl) sm (fun H F' L' hF' hL' => v_fieldAddr fa_26_0 rfl) ?_
     refine shM_v (v := .slice (some ⟨b33, 0, none⟩) (Int.toNat (walks.length : Int)) (Int.toNat (walks.length : Int))) (ek := [(50, .pointer (some ⟨b34, 0, none⟩))]) (Ls := [(b34, .cells #[.slice (some ⟨b33, 0, none⟩) (Int.toNat (walks.length : Int)) (Int.toNat (walks.length : Int)), .slice a27 n30 n30, .int .i64 houses, .int .i64 start, .slice none 0 0] 26 (0, 0))]) rfl rfl rfl rfl ((sc rfl (sn _))) (by kernel_rfl) (s0 (s2 (s1 (s1 (s3 (s3 (s3 (s3 sr)))))))) (fun H F' L' hF' hL' => v_load Try.isAgg23 rfl ((Has.own 0 rfl).ext hF' hL') rfl) ?_
     refine shM_v (v := .int .i64 k) (ek := [(10, .int .i64 k)]) (Ls := []) rfl rfl rfl rfl ((sc rfl (sn _))) (by kernel_rfl) sm (fun H F' L' hF' hL' => v_move rfl) ?_
     refine shM_v (v := .pointer (some ⟨b1, 0, none⟩)) (ek := [(3, .pointer (some ⟨b1, 0, none⟩))]) (Ls := []) rfl rfl rfl rfl ((sc rfl (sn _))) (by kernel_rfl) sm (fun H F' L' hF' hL' => v_fieldAddr fa_26_0 rfl) ?_
     refine shM_v (v := .slice walks_a walks.length walks_c) (ek := [(53, .pointer (some ⟨b1, 0, none⟩))]) (Ls := [(b1, .cells #[.slice walks_a walks.length walks_c, .slice hears_a hears.length hears_c, .int .i64 houses, .int .i64 start, .slice notices_a notices.length notices_c] 26 (0, 0))]) rfl rfl rfl rfl ((sc rfl (sn _))) (by kernel_rfl) (s0 (s1 (s1 (s2 (s3 (s3 (s3 (s3 sr)))))))) (fun H F' L' hF' hL' => v_load Try.isAgg23 rfl ((Has.own 0 rfl).ext hF' hL') rfl) ?_
     refine shM_v (v := .int .i64 k) (ek := [(10, .int .i64 k)]) (Ls := []) rfl rfl rfl rfl ((sc rfl (sn _))) (by kernel_rfl) sm (fun H F' L' hF' hL' => v_move rfl) ?_
     obtain ⟨b76, o77, c78, vs79, ha80, hs81, hle82, ⟨a85, c86, rfl, h87⟩, hl83, hc84⟩ := RowR.at (slE_ok (iE_ok _)) h_walks ([]) g59.1 hx58
     refine shM_v (v := .pointer (some ⟨b76, o77 + (k : Int).toNat * 1, none⟩)) (ek := [(54, .slice walks_a walks.length walks_c), (55, .int .i64 k)]) (Ls := []) rfl rfl rfl rfl ((sc rfl (sc rfl (sn _)))) (by kernel_rfl) sm (fun H F' L' hF' hL' => v_indexO Try.underlying23 Try.sizeOf38 rfl ha80 rfl g59) ?_
     refine shM_v (v := .slice a85 x.length c86) (ek := [(56, .pointer (some ⟨b76, o77 + (k : Int).toNat * 1, none⟩))]) (Ls := []) rfl rfl rfl rfl ((sc rfl (sn _))) (by kernel_rfl) sm (fun H F' L' hF' hL' => v_load Try.isAgg38 rfl (hs81.ext hF' hL') (hc84 0 (by decide))) ?_
     refine shM_v (v := .int .i64 (x.length : Int)) (ek := [(57, .slice a85 x.length c86)]) (Ls := []) rfl rfl rfl rfl ((sc rfl (sn _))) (by kernel_rfl) sm (fun H F' L' hF' hL' => v_lenS Try.underlying38 rfl) ?_
     refine ⟨_, [(58, .int .i64 (x.length : Int))], rfl, rfl, (sc rfl (sn _)), by kernel_rfl, ?_⟩; intro H
     obtain ⟨g88, r89⟩ := gd_ok r62; clear r62
     obtain ⟨l3, h90, r91⟩ := bv_ok r89; clear r89
     refine o_makeZ (R := (iE .i64)) (z0 := 0) (zs := l3) rfl slt_38 (by decide) (iE_ok _) (fun _ => rfl) rfl g88 h90 (fun _ => .c (.c (.c .n))) ?_; intro a92 n95 Lb93 hz94
     refine shO_nil ⟨_, rfl, FExt.refl _, [2, 1, 0], by kernel_rfl, .inl (.inr (fun d h => by cases h; rfl)), (List.forall_mem_cons.2 ⟨sm, (List.forall_mem_cons.2 ⟨s0 (s2 (s1 (s1 (s3 (s3 (s3 (s3 (s3 sr)))))))), (List.forall_mem_cons.2 ⟨sm, (fun _ h => absurd h List.not_mem_nil)⟩)⟩)⟩), ?_⟩
     obtain ⟨b97, o98, c99, vs100, ha101, hs102, hle103, rfl, hl104, hc105⟩ := SlR.at hdE_ok hO71 (L := Lo64 ++ []) fP g60.1 hh70
     refine shM_v (v := .pointer (some ⟨b97, o98 + (k : Int).toNat * 1, none⟩)) (ek := [(51, .slice (some ⟨b33, 0, none⟩) (Int.toNat (walks.length : Int)) (Int.toNat (walks.length : Int))), (52, .int .i64 k)]) (Ls := []) rfl rfl rfl rfl ((sc rfl (sc rfl (sn _)))) (by kernel_rfl) sm (fun H F' L' hF' hL' => v_indexO Try.underlying23 Try.sizeOf38 rfl ha101 rfl (idxN hn74 g60)) ?_
     refine ⟨_, [(59, .slice a92 n95 n95), (60, .pointer (some ⟨b97, o98 + (k : Int).toNat * 1, none⟩))], rfl, rfl, (sc rfl (sc rfl (sn _))), by kernel_rfl, ?_⟩; intro H
     refine o_storeZ (zs := hs63.set (k : Int).toNat (a92, n95, n95)) (u := (a92, n95, n95)) Try.sizeOf38 hdE_ok rfl ha101 rfl rfl (fun _ => .c (.c (.c (.s .h)))) hO71 rfl (idxH hn74 hO71 g60) ?_; intro Lo106 hO107
     refine kO (kc (kc (kc (ka (ka (kx kr)))))) ?_
     obtain ⟨l4, h108, r109⟩ := bv_ok r91; clear r91
     refine shO_fold (p := fun X => NlR K.w0.heap.size 38 3 1 (iE .i64) F (some ⟨b33, 0, none⟩) (Int.toNat (walks.length : Int)) (Int.toNat (walks.length : Int)) l4 X) (InH.back hI73 hO107 hz94 h108) (pT ((fC (fC (fC (fS fP)))).trans (pA ((fC (fC (fC fP))).trans (pA ((fC (fC (fC fP))).trans (pA pR)))))) (lp (lp (lp (ln rfl))))) ?_; intro Lb110 hz111
     refine kO (kf (fS fO) (kf (fS fO) (kf (fS fO) kr))) ?_
     refine shO_nil ⟨undef, rfl, FExt.refl _, [], by kernel_rfl, .inl (.inl rfl), (fun _ h => absurd h List.not_mem_nil), ?_⟩
     refine shM_nil ?_
     refine shW_seq ?_
     obtain ⟨x3, g112, hx113, r114⟩ := ix_ok r109; clear r109
     have hn126 := (NlR.caps hz111).1
     refine shW_open (fC (fC (fC fP))) hz111 hx113 ?_; intro hs115 Lo116 Lc117 a118 n119 c120 Lb121 hh122 hO123 hz124 hI125
     refine kW (kf (fS (fS (fS fO))) (kf (fS (fS (fS fO))) (kf (fS (fS (fS fO))) kr))) ?_
     refine shW_drawM [(.still, 0), (.still, 1), (.still, 2), (.still, 3), (.still, 4), (.still, 5), (.still, 6), (.still, 7), (.still, 8), (.still, 9), (.seq, 10)] (by kernel_rfl) (by kernel_rfl) (trivial) (by rfl) (by kernel_rfl) ?_
     refine shM_v (v := .pointer (some ⟨b34, 0, none⟩)) (ek := [(9, .pointer (some ⟨b34, 0, none⟩))]) (Ls := []) rfl rfl rfl rfl ((sc rfl (sn _))) (by kernel_rfl) sm (fun H F' L' hF' hL' => v_fieldAddr fa_26_0 rfl) ?_
     refine shM_v (v := .slice (some ⟨b33, 0, none⟩) (Int.toNat (walks.length : Int)) (Int.toNat (walks.length : Int))) (ek := [(61, .pointer (some ⟨b34, 0, none⟩))]) (Ls := [(b34, .cells #[.slice (some ⟨b33, 0, none⟩) (Int.toNat (walks.length : Int)) (Int.toNat (walks.length : Int)), .slice a27 n30 n30, .int .i64 houses, .int .i64 start, .slice none 0 0] 26 (0, 0))]) rfl rfl rfl rfl ((sc rfl (sn _))) (by kernel_rfl) (s0 (s2 (s1 (s1 (s3 (s3 (s3 (s3 sr)))))))) (fun H F' L' hF' hL' => v_load Try.isAgg23 rfl ((Has.own 0 rfl).ext hF' hL') rfl) ?_
     refine shM_v (v := .int .i64 k) (ek := [(10, .int .i64 k)]) (Ls := []) rfl rfl rfl rfl ((sc rfl (sn _))) (by kernel_rfl) sm (fun H F' L' hF' hL' => v_move rfl) ?_
     obtain ⟨b128, o129, c130, vs131, ha132, hs133, hle134, rfl, hl135, hc136⟩ := SlR.at hdE_ok hO123 (L := Lo116 ++ []) fP g112.1 hh122
     refine shM_v (v := .pointer (some ⟨b128, o129 + (k : Int).toNat * 1, none⟩)) (ek := [(62, .slice (some ⟨b33, 0, none⟩) (Int.toNat (walks.length : Int)) (Int.toNat (walks.length : Int))), (63, .int .i64 k)]) (Ls := []) rfl rfl rfl rfl ((sc rfl (sc rfl (sn _)))) (by kernel_rfl) sm (fun H F' L' hF' hL' => v_indexO Try.underlying23 Try.sizeOf38 rfl ha132 rfl (idxN hn126 g112)) ?_
     refine shM_v (v := .slice a118 n119 c120) (ek := [(64, .pointer (some ⟨b128, o129 + (k : Int).toNat * 1, none⟩))]) (Ls := Lo116 ++ []) rfl rfl rfl rfl ((sc rfl (sn _))) (by kernel_rfl) (s0 (s1 (s1 (s1 (s4 (s3 (s3 (s3 sr)))))))) (fun H F' L' hF' hL' => v_load Try.isAgg38 rfl (hs133.ext hF' hL') (hc136 0 (by decide))) ?_
     refine shM_v (v := .pointer (some ⟨b1, 0, none⟩)) (ek := [(3, .pointer (some ⟨b1, 0, none⟩))]) (Ls := []) rfl rfl rfl rfl ((sc rfl (sn _))) (by kernel_rfl) sm (fun H F' L' hF' hL' => v_fieldAddr fa_26_0 rfl) ?_
     refine shM_v (v := .slice walks_a walks.length walks_c) (ek := [(66, .pointer (some ⟨b1, 0, none⟩))]) (Ls := [(b1, .cells #[.slice walks_a walks.length walks_c, .slice hears_a hears.length hears_c, .int .i64 houses, .int .i64 start, .slice notices_a notices.length notices_c] 26 (0, 0))]) rfl rfl rfl rfl ((sc rfl (sn _))) (by kernel_rfl) (s0 (s1 (s1 (s2 (s3 (s3 (s3 (s3 sr)))))))) (fun H F' L' hF' hL' => v_load Try.isAgg23 rfl ((Has.own 0 rfl).ext hF' hL') rfl) ?_
     refine shM_v (v := .int .i64 k) (ek := [(10, .int .i64 k)]) (Ls := []) rfl rfl rfl rfl ((sc rfl (sn _))) (by kernel_rfl) sm (fun H F' L' hF' hL' => v_move rfl) ?_
     obtain ⟨b137, o138, c139, vs140, ha141, hs142, hle143, ⟨a146, c147, rfl, h148⟩, hl144, hc145⟩ := RowR.at (slE_ok (iE_ok _)) h_walks ([]) g59.1 hx58
     refine shM_v (v := .pointer (some ⟨b137, o138 + (k : Int).toNat * 1, none⟩)) (ek := [(67, .slice walks_a walks.length walks_c), (68, .int .i64 k)]) (Ls := []) rfl rfl rfl rfl ((sc rfl (sc rfl (sn _)))) (by kernel_rfl) sm (fun H F' L' hF' hL' => v_indexO Try.underlying23 Try.sizeOf38 rfl ha141 rfl g59) ?_
     refine shM_v (v := .slice a146 x.length c147) (ek := [(69, .pointer (some ⟨b137, o138 + (k : Int).toNat * 1, none⟩))]) (Ls := []) rfl rfl rfl rfl ((sc rfl (sn _))) (by kernel_rfl) sm (fun H F' L' hF' hL' => v_load Try.isAgg38 rfl (hs142.ext hF' hL') (hc145 0 (by decide))) ?_
     refine ⟨_, [(65, .slice a118 n119 c120), (70, .slice a146 x.length c147)], rfl, rfl, (sc rfl (sc rfl (sn _))), by kernel_rfl, ?_⟩; intro H
     obtain ⟨l5, h149, r150⟩ := bv_ok r114; clear r114
     refine o_copyZ (ys := x) (zs := l5) rfl slt_38 (iE_ok _) rfl rfl (fun _ => .c (.c (.c (.s .h)))) hz124 (RowR.src h148) h149 ?_; intro Lb151 hz152
     refine shO_nil ⟨_, rfl, FExt.refl _, [], by kernel_rfl, .inl (.inl rfl), (fun _ h => absurd h List.not_mem_nil), ?_⟩
     refine shM_nil ?_
     refine shW_seq ?_
     obtain ⟨x4, g153, hx154, r155⟩ := ix_ok r150; clear r150
     have hn167 := (NlR.caps hz50).1
     refine shW_open (fC (fC (fC (fS (fS (fS fP)))))) hz50 hx154 ?_; intro hs156 Lo157 Lc158 a159 n160 c161 Lb162 hh163 hO164 hz165 hI166
     refine kW (kf (fS (fS (fS fO))) (kf (fS (fS (fS fO))) (kf (fS (fS (fS fO))) kr))) ?_
     refine shW_drawM [(.still, 0), (.still, 1), (.still, 2), (.still, 3), (.still, 4), (.still, 5), (.still, 6), (.still, 7), (.still, 8), (.seq, 9), (.still, 10), (.seq, 11)] (by kernel_rfl) (by kernel_rfl) (trivial) (by rfl) (by kernel_rfl) ?_
     refine shM_v (v := .pointer (some ⟨b34, 1, none⟩)) (ek := [(9, .pointer (some ⟨b34, 0, none⟩))]) (Ls := []) rfl rfl rfl rfl ((sc rfl (sn _))) (by kernel_rfl) sm (fun H F' L' hF' hL' => v_fieldAddr fa_26_1 rfl) ?_
     refine shM_v (v := .slice a27 n30 n30) (ek := [(72, .pointer (some ⟨b34, 1, none⟩))]) (Ls := [(b34, .cells #[.slice (some ⟨b33, 0, none⟩) (Int.toNat (walks.length : Int)) (Int.toNat (walks.length : Int)), .slice a27 n30 n30, .int .i64 houses, .int .i64 start, .slice none 0 0] 26 (0, 0))]) rfl rfl rfl rfl ((sc rfl (sn _))) (by kernel_rfl) (s0 (s2 (s1 (s1 (s3 (s3 (s3 (s3 (s3 (s3 sr)))))))))) (fun H F' L' hF' hL' => v_load Try.isAgg23 rfl ((Has.own 0 rfl).ext hF' hL') rfl) ?_
     refine shM_v (v := .int .i64 k) (ek := [(10, .int .i64 k)]) (Ls := []) rfl rfl rfl rfl ((sc rfl (sn _))) (by kernel_rfl) sm (fun H F' L' hF' hL' => v_move rfl) ?_
     refine shM_v (v := .pointer (some ⟨b1, 1, none⟩)) (ek := [(3, .pointer (some ⟨b1, 0, none⟩))]) (Ls := []) rfl rfl rfl rfl ((sc rfl (sn _))) (by kernel_rfl) sm (fun H F' L' hF' hL' => v_fieldAddr fa_26_1 rfl) ?_
     refine shM_v (v := .slice hears_a hears.length hears_c) (ek := [(75, .pointer (some ⟨b1, 1, none⟩))]) (Ls := [(b1, .cells #[.slice walks_a walks.length walks_c, .slice hears_a hears.length hears_c, .int .i64 houses, .int .i64 start, .slice notices_a notices.length notices_c] 26 (0, 0))]) rfl rfl rfl rfl ((sc rfl (sn _))) (by kernel_rfl) (s0 (s1 (s1 (s2 (s3 (s3 (s3 (s3 (s3 (s3 sr)))))))))) (fun H F' L' hF' hL' => v_load Try.isAgg23 rfl ((Has.own 0 rfl).ext hF' hL') rfl) ?_
     refine shM_v (v := .int .i64 k) (ek := [(10, .int .i64 k)]) (Ls := []) rfl rfl rfl rfl ((sc rfl (sn _))) (by kernel_rfl) sm (fun H F' L' hF' hL' => v_move rfl) ?_
     obtain ⟨x5, g169, hx170, r171⟩ := ix_ok r155; clear r155
     obtain ⟨b172, o173, c174, vs175, ha176, hs177, hle178, ⟨a181, c182, rfl, h183⟩, hl179, hc180⟩ := RowR.at (slE_ok (iE_ok _)) h_hears ([]) g169.1 hx170
     refine shM_v (v := .pointer (some ⟨b172, o173 + (k : Int).toNat * 1, none⟩)) (ek := [(76, .slice hears_a hears.length hears_c), (77, .int .i64 k)]) (Ls := []) rfl rfl rfl rfl ((sc rfl (sc rfl (sn _)))) (by kernel_rfl) sm (fun H F' L' hF' hL' => v_indexO Try.underlying23 Try.sizeOf38 rfl ha176 rfl g169) ?_
     refine shM_v (v := .slice a181 x5.length c182) (ek := [(78, .pointer (some ⟨b172, o173 + (k : Int).toNat * 1, none⟩))]) (Ls := []) rfl rfl rfl rfl ((sc rfl (sn _))) (by kernel_rfl) sm (fun H F' L' hF' hL' => v_load Try.isAgg38 rfl (hs177.ext hF' hL') (hc180 0 (by decide))) ?_
     refine shM_v (v := .int .i64 (x5.length : Int)) (ek := [(79, .slice a181 x5.length c182)]) (Ls := []) rfl rfl rfl rfl ((sc rfl (sn _))) (by kernel_rfl) sm (fun H F' L' hF' hL' => v_lenS Try.underlying38 rfl) ?_
     refine ⟨_, [(80, .int .i64 (x5.length : Int))], rfl, rfl, (sc rfl (sn _)), by kernel_rfl, ?_⟩; intro H
     obtain ⟨g184, r185⟩ := gd_ok r171; clear r171
     obtain ⟨l6, h186, r187⟩ := bv_ok r185; clear r185
     refine o_makeZ (R := (iE .i64)) (z0 := 0) (zs := l6) rfl slt_38 (by decide) (iE_ok _) (fun _ => rfl) rfl g184 h186 (fun _ => .c (.c (.c .n))) ?_; intro a188 n191 Lb189 hz190
     refine shO_nil ⟨_, rfl, FExt.refl _, [2, 1, 0], by kernel_rfl, .inl (.inr (fun d h => by cases h; rfl)), (List.forall_mem_cons.2 ⟨sm, (List.forall_mem_cons.2 ⟨s0 (s2 (s1 (s1 (s3 (s3 (s3 (s3 (s3 (s3 (s3 sr)))))))))), (List.forall_mem_cons.2 ⟨sm, (fun _ h => absurd h List.not_mem_nil)⟩)⟩)⟩), ?_⟩
     obtain ⟨b193, o194, c195, vs196, ha197, hs198, hle199, rfl, hl200, hc201⟩ := SlR.at hdE_ok hO164 (L := Lo157 ++ []) fP g153.1 hh163
     refine shM_v (v := .pointer (some ⟨b193, o194 + (k : Int).toNat * 1, none⟩)) (ek := [(73, .slice a27 n30 n30), (74, .int .i64 k)]) (Ls := []) rfl rfl rfl rfl ((sc rfl (sc rfl (sn _)))) (by kernel_rfl) sm (fun H F' L' hF' hL' => v_indexO Try.underlying23 Try.sizeOf38 rfl ha197 rfl (idxN hn167 g153)) ?_
     refine ⟨_, [(81, .slice a188 n191 n191), (82, .pointer (some ⟨b193, o194 + (k : Int).toNat * 1, none⟩))], rfl, rfl, (sc rfl (sc rfl (sn _))), by kernel_rfl, ?_⟩; intro H
     refine o_storeZ (zs := hs156.set (k : Int).toNat (a188, n191, n191)) (u := (a188, n191, n191)) Try.sizeOf38 hdE_ok rfl ha197 rfl rfl (fun _ => .c (.c (.c (.s .h)))) hO164 rfl (idxH hn167 hO164 g153) ?_; intro Lo202 hO203
     refine kO (kc (kc (kc (ka (ka (kx kr)))))) ?_
     obtain ⟨l7, h204, r205⟩ := bv_ok r187; clear r187
     refine shO_fold (p := fun X => NlR K.w0.heap.size 38 3 1 (iE .i64) F a27 n30 n30 l7 X) (InH.back hI166 hO203 hz190 h204) (pT ((fC (fC (fC (fS fP)))).trans (pA ((fC (fC (fC fP))).trans (pA ((fC (fC (fC fP))).trans (pA pR)))))) (lp (lp (lp (ln rfl))))) ?_; intro Lb206 hz207
     refine kO (kf (fS fO) (kf (fS fO) (kf (fS fO) kr))) ?_
     refine shO_nil ⟨undef, rfl, FExt.refl _, [], by kernel_rfl, .inl (.inl rfl), (fun _ h => absurd h List.not_mem_nil), ?_⟩
     refine shM_nil ?_
     obtain ⟨x6, g208, hx209, r210⟩ := ix_ok r205; clear r205
     have hn222 := (NlR.caps hz207).1
     refine shW_open (fC (fC (fC fP))) hz207 hx209 ?_; intro hs211 Lo212 Lc213 a214 n215 c216 Lb217 hh218 hO219 hz220 hI221
     refine kW (kf (fS (fS (fS fO))) (kf (fS (fS (fS fO))) (kf (fS (fS (fS fO))) kr))) ?_
     refine shW_drawM [(.still, 0), (.still, 1), (.still, 2), (.still, 3), (.still, 4), (.still, 5), (.still, 6), (.still, 7), (.still, 8), (.still, 9), (.seq, 10)] (by kernel_rfl) (by kernel_rfl) (trivial) (by rfl) (by kernel_rfl) ?_
     refine shM_v (v := .pointer (some ⟨b34, 1, none⟩)) (ek := [(9, .pointer (some ⟨b34, 0, none⟩))]) (Ls := []) rfl rfl rfl rfl ((sc rfl (sn _))) (by kernel_rfl) sm (fun H F' L' hF' hL' => v_fieldAddr fa_26_1 rfl) ?_
     refine shM_v (v := .slice a27 n30 n30) (ek := [(83, .pointer (some ⟨b34, 1, none⟩))]) (Ls := [(b34, .cells #[.slice (some ⟨b33, 0, none⟩) (Int.toNat (walks.length : Int)) (Int.toNat (walks.length : Int)), .slice a27 n30 n30, .int .i64 houses, .int .i64 start, .slice none 0 0] 26 (0, 0))]) rfl rfl rfl rfl ((sc rfl (sn _))) (by kernel_rfl) (s0 (s2 (s1 (s1 (s3 (s3 (s3 (s3 (s3 (s3 sr)))))))))) (fun H F' L' hF' hL' => v_load Try.isAgg23 rfl ((Has.own 0 rfl).ext hF' hL') rfl) ?_
     refine shM_v (v := .int .i64 k) (ek := [(10, .int .i64 k)]) (Ls := []) rfl rfl rfl rfl ((sc rfl (sn _))) (by kernel_rfl) sm (fun H F' L' hF' hL' => v_move rfl) ?_
     obtain ⟨b224, o225, c226, vs227, ha228, hs229, hle230, rfl, hl231, hc232⟩ := SlR.at hdE_ok hO219 (L := Lo212 ++ []) fP g208.1 hh218
     refine shM_v (v := .pointer (some ⟨b224, o225 + (k : Int).toNat * 1, none⟩)) (ek := [(84, .slice a27 n30 n30), (85, .int .i64 k)]) (Ls := []) rfl rfl rfl rfl ((sc rfl (sc rfl (sn _)))) (by kernel_rfl) sm (fun H F' L' hF' hL' => v_indexO Try.underlying23 Try.sizeOf38 rfl ha228 rfl (idxN hn222 g208)) ?_
     refine shM_v (v := .slice a214 n215 c216) (ek := [(86, .pointer (some ⟨b224, o225 + (k : Int).toNat * 1, none⟩))]) (Ls := Lo212 ++ []) rfl rfl rfl rfl ((sc rfl (sn _))) (by kernel_rfl) (s0 (s1 (s1 (s1 (s4 (s3 (s3 (s3 (s3 (s3 sr)))))))))) (fun H F' L' hF' hL' => v_load Try.isAgg38 rfl (hs229.ext hF' hL') (hc232 0 (by decide))) ?_
     refine shM_v (v := .pointer (some ⟨b1, 1, none⟩)) (ek := [(3, .pointer (some ⟨b1, 0, none⟩))]) (Ls := []) rfl rfl rfl rfl ((sc rfl (sn _))) (by kernel_rfl) sm (fun H F' L' hF' hL' => v_fieldAddr fa_26_1 rfl) ?_
     refine shM_v (v := .slice hears_a hears.length hears_c) (ek := [(88, .pointer (some ⟨b1, 1, none⟩))]) (Ls := [(b1, .cells #[.slice walks_a walks.length walks_c, .slice hears_a hears.length hears_c, .int .i64 houses, .int .i64 start, .slice notices_a notices.length notices_c] 26 (0, 0))]) rfl rfl rfl rfl ((sc rfl (sn _))) (by kernel_rfl) (s0 (s1 (s1 (s2 (s3 (s3 (s3 (s3 (s3 (s3 sr)))))))))) (fun H F' L' hF' hL' => v_load Try.isAgg23 rfl ((Has.own 0 rfl).ext hF' hL') rfl) ?_
     refine shM_v (v := .int .i64 k) (ek := [(10, .int .i64 k)]) (Ls := []) rfl rfl rfl rfl ((sc rfl (sn _))) (by kernel_rfl) sm (fun H F' L' hF' hL' => v_move rfl) ?_
     obtain ⟨b233, o234, c235, vs236, ha237, hs238, hle239, ⟨a242, c243, rfl, h244⟩, hl240, hc241⟩ := RowR.at (slE_ok (iE_ok _)) h_hears ([]) g169.1 hx170
     refine shM_v (v := .pointer (some ⟨b233, o234 + (k : Int).toNat * 1, none⟩)) (ek := [(89, .slice hears_a hears.length hears_c), (90, .int .i64 k)]) (Ls := []) rfl rfl rfl rfl ((sc rfl (sc rfl (sn _)))) (by kernel_rfl) sm (fun H F' L' hF' hL' => v_indexO Try.underlying23 Try.sizeOf38 rfl ha237 rfl g169) ?_
     refine shM_v (v := .slice a242 x5.length c243) (ek := [(91, .pointer (some ⟨b233, o234 + (k : Int).toNat * 1, none⟩))]) (Ls := []) rfl rfl rfl rfl ((sc rfl (sn _))) (by kernel_rfl) sm (fun H F' L' hF' hL' => v_load Try.isAgg38 rfl (hs238.ext hF' hL') (hc241 0 (by decide))) ?_
     refine ⟨_, [(87, .slice a214 n215 c216), (92, .slice a242 x5.length c243)], rfl, rfl, (sc rfl (sc rfl (sn _))), by kernel_rfl, ?_⟩; intro H
     obtain ⟨l8, h245, r246⟩ := bv_ok r210; clear r210
     refine o_copyZ (ys := x5) (zs := l8) rfl slt_38 (iE_ok _) rfl rfl (fun _ => .c (.c (.c (.s .h)))) hz220 (RowR.src h244) h245 ?_; intro Lb247 hz248
     refine shO_nil ⟨_, rfl, FExt.refl _, [], by kernel_rfl, .inl (.inl rfl), (fun _ h => absurd h List.not_mem_nil), ?_⟩
     refine shM_nil ?_
     refine inBlock_n (id := 2) (shW_region ?_)
     refine ov (v_add rfl rfl (Lst.r64 hk51 c56 (RowR.lt h_walks))) rfl ?_
     refine om rfl rfl ?_
     obtain ⟨out, h249, r250⟩ := bv_ok r246; clear r246
     refine shO_fold (p := fun X => NlR K.w0.heap.size 38 3 1 (iE .i64) F (some ⟨b33, 0, none⟩) (Int.toNat (walks.length : Int)) (Int.toNat (walks.length : Int)) out X) (InH.back0 hI125 hO123 hh122 hz152 h249) (pT ((fC (fC (fC (fS (fS (fS fP)))))).trans (pA ((fC (fC (fC (fS (fS (fS fP)))))).trans (pA ((fC (fC (fC (fS (fS (fS fP)))))).trans (pA pR)))))) (lp (lp (lp (ln rfl))))) ?_; intro Lb251 hz252
     refine kO (kf (fS fO) (kf (fS fO) (kf (fS fO) kr))) ?_
     obtain ⟨out2, h253, r254⟩ := bv_ok r250; clear r250
     refine shO_fold (p := fun X => NlR K.w0.heap.size 38 3 1 (iE .i64) F a27 n30 n30 out2 X) (InH.back0 hI221 hO219 hh218 hz248 h253) (pT ((fC (fC (fC (fS fP)))).trans (pA ((fC (fC (fC (fS fP)))).trans (pA ((fC (fC (fC (fS fP)))).trans (pA pR)))))) (lp (lp (lp (ln rfl))))) ?_; intro Lb255 hz256
     refine kO (kf (fS fO) (kf (fS fO) (kf (fS fO) kr))) ?_
     refine shO_nil ?_
     subst hn52; exact le (kc (kc (kc (kg (fS fP) kr)))) ⟨_, _, rfl, hk57, out, out2, Lb251, Lb255, r254, rfl, rfl, (sc rfl (sc rfl (sc rfl (sc rfl (sc rfl (sc rfl (sc rfl (sn _)))))))), hz252, hz256⟩
   obtain rfl := Lst.zero hk51 c56
   rw [round_Put_l1] at r53
   refine shW_exit (andThen_exit (andThen_exit ?_))
   refine inBlock_exit ?_
   obtain ⟨rfl, rfl⟩ := inj2 r53
   exact mi kr ⟨Lb47, Lb49, rfl, rfl, (sc rfl (sc rfl (sc rfl (sc rfl (sc rfl (sn _)))))), hz48, hz50⟩
 rintro e1 _ _ ⟨Lb41, Lb43, rfl, rfl, he257, hz42, hz44⟩
 refine shW_env _ he257 ?_; clear he257
 obtain ⟨out_notices, h264, r265⟩ := b1_ok r46; clear r46
 refine shW_join (fun e1 F1 L1 => ∃ (a258 : Option Addr) (n262 : Nat) (c259 : Nat) (Lb260 : LH), FExt F F1 ∧ L1 = ((b34, .cells #[.slice (some ⟨b33, 0, none⟩) (Int.toNat (walks.length : Int)) (Int.toNat (walks.length : Int)), .slice a27 n30 n30, .int .i64 houses, .int .i64 start, .slice a258 n262 c259] 26 (0, 0)) :: ((b2, .cells #[.slice none 0 0, .slice none 0 0, .int .i64 0, .int .i64 0, .slice none 0 0] 26 (0, 0)) :: (Lb41 ++ (Lb43 ++ (Lb260 ++ []))))) ∧ e1.sub [(1, .int .i64 notice), (2, .int .i64 hour), (6, .pointer (some ⟨b2, 0, none⟩)), (9, .pointer (some ⟨b34, 0, none⟩))] ∧ SlR K.w0.heap.size 40 3 (prE (slE 1 (iE .i64)) (prE (iE .i64) (iE .i64))) F1 a258 n262 c259 out_notices Lb260) ?_ ?_
 · clear r265
   refine wsr ?_
   refine ov (v_fieldAddr fa_26_4 rfl) rfl ?_
   refine ov (v_load Try.isAgg24 rfl (Has.own 2 rfl) rfl) rfl ?_
   refine ov (v_lenS Try.underlying24 rfl) rfl ?_
   refine om rfl rfl (shO_nil ?_)
   refine shW_block ?_
   refine kW (kc (kc (kd kr))) ?_
   refine shW_lp (fun fu2 e1 F1 L1 => ∃ (tl3 : List ((List Int) × Int × Int)) (k2 : Int), tl3.length = fu2 ∧ Lst notices k2 tl3 ∧ ∃ (out_notices2 : List ((List Int) × Int × Int)) (a266 : Option Addr) (n270 : Nat) (c267 : Nat) (Lb268 : LH), round_Put_l2 tl3 out_notices2 = some out_notices ∧ FExt F F1 ∧ L1 = ((b34, .cells #[.slice (some ⟨b33, 0, none⟩) (Int.toNat (walks.length : Int)) (Int.toNat (walks.length : Int)), .slice a27 n30 n30, .int .i64 houses, .int .i64 start, .slice a266 n270 c267] 26 (0, 0)) :: ((b2, .cells #[.slice none 0 0, .slice none 0 0, .int .i64 0, .int .i64 0, .slice none 0 0] 26 (0, 0)) :: (Lb41 ++ (Lb43 ++ (Lb268 ++ []))))) ∧ e1.sub [(1, .int .i64 notice), (2, .int .i64 hour), (6, .pointer (some ⟨b2, 0, none⟩)), (9, .pointer (some ⟨b34, 0, none⟩)), (96, .slice notices_a notices.length notices_c), (97, .int .i64 (notices.length : Int)), (98, .int .i64 k2)] ∧ SlR K.w0.heap.size 40 3 (prE (slE 1 (iE .i64)) (prE (iE .i64) (iE .i64))) F1 a266 n270 c267 out_notices2 Lb268) _ (m0 (kc (kc (ka (ka (ke kr))))) ⟨_, _, rfl, Lst.start _, [], none, 0, 0, [], h264, FExt.refl _, rfl, (sc rfl (sc rfl (sc rfl (sc rfl (sc rfl (sc rfl (sc rfl (sn _)))))))), SlR.nil _ _ _ _ _⟩) ?_
   rintro fu2 e1 F276 _ ⟨tl3, k2, hn273, hk272, out_notices2, a266, n270, c267, Lb268, r274, hF277, rfl, he275, hz269⟩
   refine shW_env _ he275 ?_; clear he275
   replace h_notices := h_notices.mono (prE_ok (slE_ok (iE_ok _)) (prE_ok (iE_ok _) (iE_ok _))) hF277
   refine wsr ?_
   refine ov (v_lssK rfl rfl) rfl ?_
   refine shO_nil (shW_seq ?_)
   refine shW_condP rfl (fun c279 => ?_) (fun c279 => ?_)
   · obtain ⟨x7, tl4, rfl, hx281, g282, hk280⟩ := Lst.succ hk272 c279
     rw [round_Put_l2] at r274
     refine shW_skip (shW_seq ?_)
     refine shW_block ?_
     refine wsr ?_
     obtain ⟨b283, o284, c285, vs286, ha287, hs288, hle289, ⟨_, _, rfl, ⟨a292, c293, rfl, h294⟩, ⟨_, _, rfl, rfl, rfl⟩⟩, hl290, hc291⟩ := RowR.at (prE_ok (slE_ok (iE_ok _)) (prE_ok (iE_ok _) (iE_ok _))) h_notices ((b34, .cells #[.slice (some ⟨b33, 0, none⟩) (Int.toNat (walks.length : Int)) (Int.toNat (walks.length : Int)), .slice a27 n30 n30, .int .i64 houses, .int .i64 start, .slice a266 n270 c267] 26 (0, 0)) :: ((b2, .cells #[.slice none 0 0, .slice none 0 0, .int .i64 0, .int .i64 0, .slice none 0 0] 26 (0, 0)) :: (Lb41 ++ (Lb43 ++ (Lb268 ++ []))))) g282.1 hx281
     refine ov (v_indexO Try.underlying24 Try.sizeOf40 rfl ha287 rfl g282) rfl ?_
     refine ov (v_loadA (cs := #[.slice a292 x7.1.length c293, .int .i64 x7.2.1, .int .i64 x7.2.2]) Try.isAgg40 Try.sizeOf40 rfl hs288 hle289 (extract_cells hle289 hl290 hc291)) rfl ?_
     refine o_alloc rfl Try.zeroValue40 ?_; intro b295 hb295
     refine o_storeA (i := 0) Try.sizeOf40 rfl rfl rfl (by simp [Value.oneCell']) rfl (Nat.le_of_ble_eq_true rfl) ?_
     refine shO_L (L' := (b295, .cells #[.slice a292 x7.1.length c293, .int .i64 x7.2.1, .int .i64 x7.2.2] 40 (0, 0)) :: ((b34, .cells #[.slice (some ⟨b33, 0, none⟩) (Int.toNat (walks.length : Int)) (Int.toNat (walks.length : Int)), .slice a27 n30 n30, .int .i64 houses, .int .i64 start, .slice a266 n270 c267] 26 (0, 0)) :: ((b2, .cells #[.slice none 0 0, .slice none 0 0, .int .i64 0, .int .i64 0, .slice none 0 0] 26 (0, 0)) :: (Lb41 ++ (Lb43 ++ (Lb268 ++ [])))))) rfl ?_
     refine nsr ?_
     refine ov (v_fieldAddr fa_40_0 rfl) rfl ?_
     refine ov (v_load Try.isAgg38 rfl (Has.own 0 rfl) rfl) rfl ?_
     obtain ⟨l9, h296, r297⟩ := b1_ok r274; clear r274
     refine o_call0 rfl Try.call44 rfl rfl rfl (slices_Clone_int_int_w h294 h296) ?_; rintro _ F298 _ hF299 hn300 ⟨a302, n306, c303, Lb304, rfl, rfl, hz305⟩
     replace h_notices := h_notices.mono (prE_ok (slE_ok (iE_ok _)) (prE_ok (iE_ok _) (iE_ok _))) hF299
     replace hz269 := hz269.mono (prE_ok (slE_ok (iE_ok _)) (prE_ok (iE_ok _) (iE_ok _))) hF299
     replace hz305 := hz305.new fun p hp => hn300 p (by simp [hp])
     refine shO_L (lp (ln rfl)) ?_
     refine kO (kf (fS fO) (kf (fS fO) (kf (fS fO) kr))) ?_
     refine ov (v_fieldAddr fa_40_0 rfl) rfl ?_
     refine o_store (i := 0) Try.sizeOf38 rfl rfl rfl rfl (Nat.le_of_ble_eq_true rfl) ?_
     refine shO_L (L' := (b295, .cells #[.slice a302 n306 c303, .int .i64 x7.2.1, .int .i64 x7.2.2] 40 (0, 0)) :: ((b34, .cells #[.slice (some ⟨b33, 0, none⟩) (Int.toNat (walks.length : Int)) (Int.toNat (walks.length : Int)), .slice a27 n30 n30, .int .i64 houses, .int .i64 start, .slice a266 n270 c267] 26 (0, 0)) :: ((b2, .cells #[.slice none 0 0, .slice none 0 0, .int .i64 0, .int .i64 0, .slice none 0 0] 26 (0, 0)) :: (Lb304 ++ (Lb41 ++ (Lb43 ++ (Lb268 ++ []))))))) rfl ?_
     refine shO_nil (shW_region ?_)
     refine ov (v_fieldAddr fa_26_4 rfl) rfl ?_
     refine ov (v_load Try.isAgg24 rfl (Has.own 1 rfl) rfl) rfl ?_
     refine ov (v_loadA (cs := #[.slice a302 n306 c303, .int .i64 x7.2.1, .int .i64 x7.2.2]) Try.isAgg40 Try.sizeOf40 rfl (Has.own 0 rfl) (Nat.le_of_ble_eq_true rfl) rfl) rfl ?_
     refine o_buildSlice (cs := #[.slice a302 n306 c303, .int .i64 x7.2.1, .int .i64 x7.2.2]) rfl rfl (buildSlice_all slt_24 [.agg #[.slice a302 n306 c303, .int .i64 x7.2.1, .int .i64 x7.2.2]] rfl (by decide) (by simp [Value.cells]) (by decide)) ?_; intro b308 hb308
     obtain rfl := (SlR.caps hz305).1
     refine shO_freezeR (Nat.le_refl _) (iE_ok _) (fC (fC (fC (fC fP)))) hz305 ?_; intro F309 hF310 h311
     replace h_notices := h_notices.mono (prE_ok (slE_ok (iE_ok _)) (prE_ok (iE_ok _) (iE_ok _))) hF310
     replace hz269 := hz269.mono (prE_ok (slE_ok (iE_ok _)) (prE_ok (iE_ok _) (iE_ok _))) hF310
     obtain ⟨out3, h312, g313, r314⟩ := ap_ok r297; clear r297
     refine o_appZ (xs := out_notices2) (ys := [(l9, x7.2.1, x7.2.2)]) (zs := out3) rfl slt_24 rfl rfl (Nat.le_refl _) (fun _ => .c (.c (.c (.c (.s (.s .h)))))) hz269 (SrcR.box (vss := [[.slice a302 l9.length c303, .int .i64 x7.2.1, .int .i64 x7.2.2]]) (ys := [(l9, x7.2.1, x7.2.2)]) 0 rfl (prE_ok (slE_ok (iE_ok _)) (prE_ok (iE_ok _) (iE_ok _))) (.cons ⟨_, _, rfl, ⟨_, _, rfl, h311⟩, ⟨_, _, rfl, rfl, rfl⟩⟩ .nil) rfl rfl) h312 g313 (by decide) ?_; intro a315 n319 c316 Lb317 hz318
     refine kO (kd kr) ?_
     refine ov (v_fieldAddr fa_26_4 rfl) rfl ?_
     refine o_store (i := 1) Try.sizeOf24 rfl rfl rfl rfl (Nat.le_of_ble_eq_true rfl) ?_
     refine shO_L (L' := (b295, .cells #[.slice a302 l9.length c303, .int .i64 x7.2.1, .int .i64 x7.2.2] 40 (0, 0)) :: ((b34, .cells #[.slice (some ⟨b33, 0, none⟩) (Int.toNat (walks.length : Int)) (Int.toNat (walks.length : Int)), .slice a27 n30 n30, .int .i64 houses, .int .i64 start, .slice a315 n319 c316] 26 (0, 0)) :: ((b2, .cells #[.slice none 0 0, .slice none 0 0, .int .i64 0, .int .i64 0, .slice none 0 0] 26 (0, 0)) :: (Lb41 ++ (Lb43 ++ (Lb317 ++ [])))))) rfl ?_
     refine shO_nil (inBlock_n (id := 4) (shW_region ?_))
     refine ov (v_add rfl rfl (Lst.r64 hk272 c279 (RowR.lt h_notices))) rfl ?_
     refine om rfl rfl (shO_nil ?_)
     subst hn273; exact le (kd kr) ⟨_, _, rfl, hk280, out3, a315, n319, c316, Lb317, r314, ((hF277.trans hF299).trans hF310), rfl, (sc rfl (sc rfl (sc rfl (sc rfl (sc rfl (sc rfl (sc rfl (sn _)))))))), hz318⟩
   obtain rfl := Lst.zero hk272 c279
   rw [round_Put_l2] at r274
   refine shW_exit (andThen_exit (andThen_exit ?_))
   refine inBlock_exit ?_
   obtain rfl := inj1 r274
   exact mi kr ⟨a266, n270, c267, Lb268, hF277, rfl, (sc rfl (sc rfl (sc rfl (sc rfl (sn _))))), hz269⟩
 rintro e1 F322 _ ⟨a258, n262, c259, Lb260, hF323, rfl, he321, hz261⟩
 refine shW_env _ he321 ?_; clear he321
 replace hz42 := hz42.mono (iE_ok _) hF323
 replace hz44 := hz44.mono (iE_ok _) hF323
 refine wsr ?_
 refine ov (v_fieldAddr fa_26_4 rfl) rfl ?_
 refine ov (v_load Try.isAgg24 rfl (Has.own 0 rfl) rfl) rfl ?_
 refine om rfl rfl (om rfl rfl ?_)
 obtain ⟨x8, g324, hx325, r326⟩ := ix_ok r265; clear r265
 obtain ⟨b327, o328, c329, vs330, ha331, hs332, hle333, ⟨_, _, rfl, ⟨a336, c337, rfl, h338⟩, ⟨_, _, rfl, rfl, rfl⟩⟩, hl334, hc335⟩ := SlR.at (prE_ok (slE_ok (iE_ok _)) (prE_ok (iE_ok _) (iE_ok _))) hz261 (L := (b34, .cells #[.slice (some ⟨b33, 0, none⟩) (Int.toNat (walks.length : Int)) (Int.toNat (walks.length : Int)), .slice a27 n30 n30, .int .i64 houses, .int .i64 start, .slice a258 n262 c259] 26 (0, 0)) :: ((b2, .cells #[.slice none 0 0, .slice none 0 0, .int .i64 0, .int .i64 0, .slice none 0 0] 26 (0, 0)) :: (Lb41 ++ (Lb43 ++ (Lb260 ++ []))))) (fC (fC (fS (fS fP)))) g324.1 hx325
 refine ov (v_indexO Try.underlying24 Try.sizeOf40 rfl ha331 rfl (SlR.idx hz261 g324)) rfl ?_
 refine ov (v_fieldAddr fa_40_2 rfl) rfl ?_
 obtain ⟨out4, h342, r343⟩ := bv_ok r326; clear r326
 refine o_storeZP (zs := out4) (off := 2) (x0 := x8) (u := (x8.1, x8.2.1, hour)) Try.sizeOf3 (prE_ok (slE_ok (iE_ok _)) (prE_ok (iE_ok _) (iE_ok _))) rfl ha331 rfl rfl (by decide) hx325 (fun vs h => by obtain ⟨_, _, rfl, ⟨a339, c340, rfl, h341⟩, ⟨_, _, rfl, rfl, rfl⟩⟩ := h; exact ⟨_, _, rfl, ⟨_, _, rfl, h341⟩, ⟨_, _, rfl, rfl, rfl⟩⟩) (fun _ => .c (.c (.s (.s .h)))) hz261 h342 g324 ?_; intro Lb344 hz345
 refine nsr ?_
 refine ov (v_loadA (cs := #[.slice (some ⟨b33, 0, none⟩) (Int.toNat (walks.length : Int)) (Int.toNat (walks.length : Int)), .slice a27 n30 n30, .int .i64 houses, .int .i64 start, .slice a258 n262 c259]) Try.isAgg26 Try.sizeOf26 rfl (Has.own 0 rfl) (Nat.le_of_ble_eq_true rfl) rfl) rfl ?_
 refine o_storeA (i := 1) Try.sizeOf26 rfl rfl rfl (by simp [Value.oneCell']) rfl (Nat.le_of_ble_eq_true rfl) ?_
 refine shO_L (L' := (b34, .cells #[.slice (some ⟨b33, 0, none⟩) (Int.toNat (walks.length : Int)) (Int.toNat (walks.length : Int)), .slice a27 n30 n30, .int .i64 houses, .int .i64 start, .slice a258 n262 c259] 26 (0, 0)) :: ((b2, .cells #[.slice (some ⟨b33, 0, none⟩) (Int.toNat (walks.length : Int)) (Int.toNat (walks.length : Int)), .slice a27 n30 n30, .int .i64 houses, .int .i64 start, .slice a258 n262 c259] 26 (0, 0)) :: (Lb41 ++ (Lb43 ++ (Lb344 ++ []))))) rfl ?_
 refine oa rfl rfl (shO_nil ?_)
 refine kW (kd kr) ?_
 refine shW_ret ?_
 refine q_res2 Try.results11 (res_cellA (cs := #[.slice (some ⟨b33, 0, none⟩) (Int.toNat (walks.length : Int)) (Int.toNat (walks.length : Int)), .slice a27 n30 n30, .int .i64 houses, .int .i64 start, .slice a258 n262 c259]) Try.isAgg26 Try.sizeOf26 rfl (Has.own 0 rfl) (Nat.le_of_ble_eq_true rfl) rfl) (res_tmp rfl) (s1 (s4 (s4 (s4 sr)))) ?_
 obtain ⟨rfl, rfl, rfl, rfl, rfl, rfl⟩ := inj6 r343
 exact ⟨_, _, _, _, _, _, _, _, _, _, _, _, rfl, rfl, hz42.any, hz44.any, hz345.any⟩
set_option maxHeartbeats 1000000 in
theorem round_Together_w {walks_a : Option Addr} {walks_c : Nat} {walks : List (List Int)} {hears_a : Option Addr} {hears_c : Nat} {hears : List (List Int)} {houses start : Int} {notices_a : Option Addr} {notices_c : Nat} {notices : List ((List Int) × Int × Int)} {pairs_a : Option Addr} {pairs_c : Nat} {pairs : List (Int × Int)} {F : FS} (h_walks : RowR 1 (slE 1 (iE .i64)) F walks_a walks_c walks) (h_hears : RowR 1 (slE 1 (iE .i64)) F hears_a hears_c hears) (h_notices : RowR 3 (prE (slE 1 (iE .i64)) (prE (iE .i64) (iE .i64))) F notices_a notices_c notices) (h_pairs : RowR 2 (prE (iE .i64) (iE .i64)) F pairs_a pairs_c pairs) {r : Bool} {r2 : Int} (hr : round_Together walks hears houses start notices pairs = some (r, r2)) :
    SpecV Try.prog 12 #[.agg #[.slice walks_a walks.length walks_c, .slice hears_a hears.length hears_c, .int .i64 houses, .int .i64 start, .slice notices_a notices.length notices_c], .slice pairs_a pairs.length pairs_c] F (.tuple #[.bool r, .int .i64 r2]) := by
 refine spec_of_shW (args := [.agg #[.slice walks_a walks.length walks_c, .slice hears_a hears.length hears_c, .int .i64 houses, .int .i64 start, .slice notices_a notices.length notices_c], .slice pairs_a pairs.length pairs_c]) Try.func12 rfl Try.ntmps12 (Nat.le_of_ble_eq_true rfl) ?_
 intro K _ _; rw [round_Together] at hr
 refine wsr ?_
 refine o_box rfl rfl ?_; intro b1 hb1
 refine oa rfl rfl (oa rfl rfl (nsr ?_))
 refine ov (v_loadA (cs := #[.slice walks_a walks.length walks_c, .slice hears_a hears.length hears_c, .int .i64 houses, .int .i64 start, .slice notices_a notices.length notices_c]) Try.isAgg26 Try.sizeOf26 rfl (Has.own 0 rfl) (Nat.le_of_ble_eq_true rfl) rfl) rfl ?_
 obtain ⟨d, n, h2, r3⟩ := b2_ok hr; clear hr
 refine o_call0 rfl Try.call30 rfl rfl rfl (round_opened_w h_walks h_hears h_notices h2) ?_; rintro _ F4 _ hF5 hn6 ⟨v8, rfl, rfl, hp9⟩
 replace h_pairs := h_pairs.mono (prE_ok (iE_ok _) (iE_ok _)) hF5
 refine shO_L (ln rfl) ?_
 refine om rfl rfl (ox rfl rfl rfl (ox rfl rfl rfl (oa rfl rfl (oa rfl rfl (shO_nil (shW_seq (wsr (om rfl rfl ?_))))))))
 refine ov (v_neq rfl rfl) rfl ?_
 refine shO_nil ?_
 refine shW_condP rfl (fun c10 => ?_) (fun c10 => ?_)
 · have r11 := ite_t r3 c10; clear r3
   refine wsr (om rfl rfl (oa rfl rfl (oa rfl rfl (shO_nil ?_))))
   refine kW kn ?_
   refine shW_ret (andThen_ret ?_)
   refine q_res2 Try.results12 (res_tmp rfl) (res_tmp rfl) (sr) ?_
   obtain ⟨rfl, rfl⟩ := inj2 r11
   exact rfl
 have r12 := ite_f r3 c10; clear r3
 refine shW_skip (wsr (oa rfl rfl (shO_nil ?_)))
 refine shW_join (fun e1 F1 L1 => ∃ (set_ : Int) (v13 : Value), round_Together_j1 d set_ = some (r, r2) ∧ F4 = F1 ∧ L1 = [] ∧ e1.sub [(6, v13), (8, .int .i64 set_)] ∧ PtrR 101 (prE (slE 1 (slE 1 (iE .i64))) (prE (slE 1 (slE 1 (iE .i64))) (prE (iE .i64) (prE (iE .i64) (prE (slE 3 (prE (slE 1 (iE .i64)) (prE (iE .i64) (iE .i64)))) (prE (arE 25 (cI .i64)) (prE (slE 2 (prE (iE .i64) (iE .i64))) (arE 15 (cI .i64))))))))) F1 v13 d) ?_ ?_
 · refine wsr (om rfl rfl ?_)
   refine ov (v_lenS Try.underlying35 rfl) rfl ?_
   refine om rfl rfl (shO_nil ?_)
   refine shW_block ?_
   refine kW kn ?_
   refine shW_lp (fun fu2 e1 F1 L1 => ∃ (tl : List (Int × Int)) (k : Int), tl.length = fu2 ∧ Lst pairs k tl ∧ ∃ (set_2 : Int) (v15 : Value), round_Together_l2 d tl set_2 = some (r, r2) ∧ F4 = F1 ∧ L1 = [] ∧ e1.sub [(6, v15), (8, .int .i64 set_2), (23, .slice pairs_a pairs.length pairs_c), (24, .int .i64 (pairs.length : Int)), (25, .int .i64 k)] ∧ PtrR 101 (prE (slE 1 (slE 1 (iE .i64))) (prE (slE 1 (slE 1 (iE .i64))) (prE (iE .i64) (prE (iE .i64) (prE (slE 3 (prE (slE 1 (iE .i64)) (prE (iE .i64) (iE .i64)))) (prE (arE 25 (cI .i64)) (prE (slE 2 (prE (iE .i64) (iE .i64))) (arE 15 (cI .i64))))))))) F1 v15 d) _ (m0 kr ⟨_, _, rfl, Lst.start _, 0, v8, r12, rfl, rfl, (sc rfl (sc rfl (sc rfl (sc rfl (sc rfl (sn _)))))), hp9⟩) ?_
   rintro fu2 e1 _ _ ⟨tl, k, hn18, hk17, set_2, v15, r19, rfl, rfl, he20, hp16⟩
   refine shW_env _ he20 ?_; clear he20
   refine wsr ?_
   refine ov (v_lssK rfl rfl) rfl ?_
   refine shO_nil (shW_seq ?_)
   refine shW_condP rfl (fun c22 => ?_) (fun c22 => ?_)
   · obtain ⟨x, tl2, rfl, hx24, g25, hk23⟩ := Lst.succ hk17 c22
     rw [round_Together_l2] at r19
     refine shW_skip (shW_seq ?_)
     refine shW_block ?_
     refine wsr ?_
     obtain ⟨b26, o27, c28, vs29, ha30, hs31, hle32, ⟨_, _, rfl, rfl, rfl⟩, hl33, hc34⟩ := RowR.at (prE_ok (iE_ok _) (iE_ok _)) h_pairs ([]) g25.1 hx24
     refine ov (v_indexO Try.underlying35 Try.sizeOf48 rfl ha30 rfl g25) rfl ?_
     refine ov (v_loadA (cs := #[.int .i64 x.1, .int .i64 x.2]) Try.isAgg48 Try.sizeOf48 rfl hs31 hle32 (extract_cells hle32 hl33 hc34)) rfl ?_
     refine o_alloc rfl Try.zeroValue48 ?_; intro b35 hb35
     refine o_storeA (i := 0) Try.sizeOf48 rfl rfl rfl (by simp [Value.oneCell']) rfl (Nat.le_of_ble_eq_true rfl) ?_
     refine shO_L (L' := [(b35, .cells #[.int .i64 x.1, .int .i64 x.2] 48 (0, 0))]) rfl ?_
     refine nsr (om rfl rfl ?_)
     refine ov (v_loadA (cs := #[.int .i64 x.1, .int .i64 x.2]) Try.isAgg48 Try.sizeOf48 rfl (Has.own 0 rfl) (Nat.le_of_ble_eq_true rfl) rfl) rfl ?_
     obtain ⟨walks2, hears2, houses2, start2, notices2, walks3, pairs2, hit, h36, r37⟩ := b8_ok r19; clear r19
     have h57 := hp16; rw [h36] at h57; obtain ⟨b38, c39, m40, hv41, hz42, ⟨_, _, rfl, ⟨a43, c44, rfl, h45⟩, ⟨_, _, rfl, ⟨a46, c47, rfl, h48⟩, ⟨_, _, rfl, rfl, ⟨_, _, rfl, rfl, ⟨_, _, rfl, ⟨a49, c50, rfl, h51⟩, ⟨_, _, rfl, ⟨rfl, h52⟩, ⟨_, _, rfl, ⟨a53, c54, rfl, h55⟩, ⟨rfl, h56⟩⟩⟩⟩⟩⟩⟩⟩⟩ := h57; subst hv41
     have hz42 : F4 b38 = some (.cells ((([.slice a43 walks2.length c44] : List Value) ++ (([.slice a46 hears2.length c47] : List Value) ++ (([.int .i64 houses2] : List Value) ++ (([.int .i64 start2] : List Value) ++ (([.slice a49 notices2.length c50] : List Value) ++ (walks3.flatMap (cI .i64) ++ (([.slice a53 pairs2.length c54] : List Value) ++ (hit.flatMap (cI .i64))))))))).toArray) 101 m40) := hz42
     obtain ⟨n2, h58, r59⟩ := b1_ok r37; clear r37
     refine o_callV rfl Try.call45 rfl rfl rfl (round_crier_index_w hz42 h45 h48 h51 h52 h55 h56 h58) ?_
     refine oa rfl rfl (shO_nil (shW_seq ?_))
     refine shW_block ?_
     refine wsr (om rfl rfl ?_)
     refine ov (v_lssK rfl rfl) rfl ?_
     refine oa rfl rfl (shO_nil ?_)
     refine shW_condP rfl (fun c60 => ?_) (fun c60 => ?_)
     · have r61 := ite_t r59 c60; clear r59
       refine wsr (oa rfl rfl (oa rfl rfl (shO_nil ?_)))
       refine kW kn ?_
       refine shW_ret (inBlock_ret (andThen_ret (inBlock_ret (andThen_ret (andThen_ret (inBlock_ret (andThen_ret ?_)))))))
       refine q_res2 Try.results12 (res_tmp rfl) (res_tmp rfl) (sr) ?_
       obtain ⟨rfl, rfl⟩ := inj2 r61
       exact rfl
     have r62 := ite_f r59 c60; clear r59
     refine wsr (om rfl rfl (om rfl rfl ?_))
     obtain ⟨g63, r64⟩ := gd_ok r62; clear r62
     refine ov (v_shr rfl rfl g63) rfl ?_
     refine ov (v_and rfl rfl) rfl ?_
     refine ov (v_eql rfl rfl) rfl ?_
     refine oa rfl rfl (shO_nil ?_)
     refine shW_condP rfl (fun c65 => ?_) (fun c65 => ?_)
     · have r66 := ite_t r64 c65; clear r64
       refine wsr (oa rfl rfl (oa rfl rfl (shO_nil ?_)))
       refine kW kn ?_
       refine shW_ret (inBlock_ret (andThen_ret (inBlock_ret (andThen_ret (andThen_ret (inBlock_ret (andThen_ret ?_)))))))
       refine q_res2 Try.results12 (res_tmp rfl) (res_tmp rfl) (sr) ?_
       obtain ⟨rfl, rfl⟩ := inj2 r66
       exact rfl
     have r67 := ite_f r64 c65; clear r64
     refine shW_skip (inBlock_n (id := 2) (shW_region (om rfl rfl (om rfl rfl ?_))))
     obtain ⟨g68, r69⟩ := gd_ok r67; clear r67
     refine ov (v_shl rfl rfl g68) rfl ?_
     refine ov (v_or rfl rfl) rfl ?_
     refine oa rfl rfl (shO_nil (inBlock_n (id := 1) (shW_region ?_)))
     refine ov (v_add rfl rfl (Lst.r64 hk17 c22 (RowR.lt h_pairs))) rfl ?_
     refine om rfl rfl (shO_nil ?_)
     subst hn18; exact le kn ⟨_, _, rfl, hk23, bor set_2 (shl 1 n2), .pointer (some ⟨b38, 0, none⟩), r69, rfl, rfl, (sc rfl (sc rfl (sc rfl (sc rfl (sc rfl (sn _)))))), hp16⟩
   obtain rfl := Lst.zero hk17 c22
   rw [round_Together_l2] at r19
   refine shW_exit (andThen_exit (andThen_exit ?_))
   refine inBlock_exit ?_
   exact mi kr ⟨set_2, v15, r19, rfl, rfl, (sc rfl (sc rfl (sn _))), hp16⟩
 rintro e1 _ _ ⟨set_, v13, r70, rfl, rfl, he71, hp14⟩
 refine shW_env _ he71 ?_; clear he71
 rw [round_Together_j1] at r70
 refine wsr (om rfl rfl (om rfl rfl (om rfl rfl ?_)))
 obtain ⟨walks4, hears3, houses3, start3, notices3, walks5, pairs3, hit2, h72, r73⟩ := b8_ok r70; clear r70
 have h93 := hp14; rw [h72] at h93; obtain ⟨b74, c75, m76, hv77, hz78, ⟨_, _, rfl, ⟨a79, c80, rfl, h81⟩, ⟨_, _, rfl, ⟨a82, c83, rfl, h84⟩, ⟨_, _, rfl, rfl, ⟨_, _, rfl, rfl, ⟨_, _, rfl, ⟨a85, c86, rfl, h87⟩, ⟨_, _, rfl, ⟨rfl, h88⟩, ⟨_, _, rfl, ⟨a89, c90, rfl, h91⟩, ⟨rfl, h92⟩⟩⟩⟩⟩⟩⟩⟩⟩ := h93; subst hv77
 have hz78 : F4 b74 = some (.cells ((([.slice a79 walks4.length c80] : List Value) ++ (([.slice a82 hears3.length c83] : List Value) ++ (([.int .i64 houses3] : List Value) ++ (([.int .i64 start3] : List Value) ++ (([.slice a85 notices3.length c86] : List Value) ++ (walks5.flatMap (cI .i64) ++ (([.slice a89 pairs3.length c90] : List Value) ++ (hit2.flatMap (cI .i64))))))))).toArray) 101 m76) := hz78
 obtain ⟨y, h94, r95⟩ := b1_ok r73; clear r73
 refine o_call0 rfl Try.call33 rfl rfl rfl (round_crier_hours_w hz78 h81 h84 h87 h88 h91 h92 h94) ?_; rintro _ F96 _ hF97 hn98 ⟨fi100, fc101, cp102, rfl, rfl, hit103⟩
 replace h81 := h81.mono (slE_ok (iE_ok _)) hF97
 replace h84 := h84.mono (slE_ok (iE_ok _)) hF97
 replace h87 := h87.mono (prE_ok (slE_ok (iE_ok _)) (prE_ok (iE_ok _) (iE_ok _))) hF97
 replace h91 := h91.mono (prE_ok (iE_ok _) (iE_ok _)) hF97
 replace hz78 := hF97 _ _ hz78
 refine shO_L (ln rfl) ?_
 obtain ⟨l, n3, ok, h104, r105⟩ := b3_ok r95; clear r95
 refine o_call0 rfl Try.call31 rfl rfl rfl (round_crier_serve_w hz78 h81 h84 h87 h88 h91 h92 hit103 h104) ?_; rintro _ F106 _ hF107 hn108 ⟨a110, n114, c111, Lb112, rfl, rfl, hz113⟩
 refine shO_L (lp (ln rfl)) ?_
 refine om rfl rfl (ox rfl rfl rfl (ox rfl rfl rfl (ox rfl rfl rfl (oa rfl rfl (oa rfl rfl (oa rfl rfl (nsr (om rfl rfl (oa rfl rfl ?_)))))))))
 refine oa rfl rfl (shO_nil ?_)
 refine kW kn ?_
 refine shW_ret ?_
 refine q_res2 Try.results12 (res_tmp rfl) (res_tmp rfl) (sr) ?_
 obtain ⟨rfl, rfl⟩ := inj2 r105
 exact rfl
set_option maxHeartbeats 1000000 in
theorem slices_Clone_round_Pair_round_Pair_w {s__a : Option Addr} {s__c : Nat} {s_ : List (Int × Int)} {F : FS} (h_s_ : RowR 2 (prE (iE .i64) (iE .i64)) F s__a s__c s_) {r : List (Int × Int)} (hr : slices_Clone_round_Pair_round_Pair s_ = some r) :
    SH.Spec Try.prog 47 #[.slice s__a s_.length s__c] F [] fun F' L' v => ∃ (ra : Option Addr) (rn : Nat) (rc : Nat) (rL : LH), v = .slice ra rn rc ∧ L' = rL ++ [] ∧ SlR 0 48 2 (prE (iE .i64) (iE .i64)) F' ra rn rc r rL := by
 refine spec_of_shW (args := [.slice s__a s_.length s__c]) Try.func47 rfl Try.ntmps47 (Nat.le_of_ble_eq_true rfl) ?_
 intro K _ _; rw [slices_Clone_round_Pair_round_Pair] at hr
 refine wsr (oa rfl rfl (shO_nil (shW_seq (wsr (om rfl rfl ?_)))))
 refine ov (v_eqlNil Try.underlying35 rfl) rfl ?_
 refine shO_nil ?_
 refine shW_cond rfl (fun c1 => ?_) (fun c1 => ?_)
 · have r2 := nilIf_t hr (RowR.isNone h_s_ c1); clear hr
   refine wsr (oa rfl rfl (shO_nil (shW_ret (andThen_ret ?_))))
   refine q_res1 Try.results47 (res_tmp rfl) (sr) ?_
   obtain rfl := inj1 r2
   exact ⟨_, _, _, [], rfl, rfl, SlR.nil _ _ _ _ _⟩
 have r3 := nilIf_f hr; clear hr
 refine shW_skip (wsr ?_)
 refine o_buildSlice (cs := #[]) rfl rfl (buildSlice_none slt_35) ?_; intro b4 hb4
 refine om rfl rfl ?_
 have hz6 : SlR K.w0.heap.size 48 2 (prE (iE .i64) (iE .i64)) F (some ⟨b4, 0, none⟩) 0 0 ([] : List (Int × Int)) [(b4, .cells #[] 48 (0, 0))] := SlR.of_block (vss := []) (prE_ok (iE_ok _) (iE_ok _)) hb4 .nil rfl rfl (by simp [maxLen])
 generalize hLLb5 : ([(b4, .cells #[] 48 (0, 0))] : LH) = Lb5 at hz6
 refine shO_perm (L' := Lb5 ++ []) (by rw [← hLLb5]; exact fO) ?_
 obtain ⟨l, h8, g9, r10⟩ := ap_ok r3; clear r3
 refine o_appZ (xs := ([] : List (Int × Int))) (ys := s_) (zs := l) rfl slt_35 rfl rfl (Nat.le_refl _) (fun _ => .h) hz6 (RowR.src h_s_) h8 g9 (by decide) ?_; intro a11 n15 c12 Lb13 hz14
 refine oa rfl rfl (shO_nil (shW_ret ?_))
 refine q_res1 Try.results47 (res_tmp rfl) (sr) ?_
 obtain rfl := inj1 r10
 exact ⟨_, _, _, _, rfl, rfl, hz14.any⟩
set_option maxHeartbeats 1000000 in
theorem round_Pairs_w {walks_a : Option Addr} {walks_c : Nat} {walks : List (List Int)} {hears_a : Option Addr} {hears_c : Nat} {hears : List (List Int)} {houses start : Int} {notices_a : Option Addr} {notices_c : Nat} {notices : List ((List Int) × Int × Int)} {F : FS} (h_walks : RowR 1 (slE 1 (iE .i64)) F walks_a walks_c walks) (h_hears : RowR 1 (slE 1 (iE .i64)) F hears_a hears_c hears) (h_notices : RowR 3 (prE (slE 1 (iE .i64)) (prE (iE .i64) (iE .i64))) F notices_a notices_c notices) {r : List (Int × Int)} {r2 : Int} (hr : round_Pairs walks hears houses start notices = some (r, r2)) :
    SH.Spec Try.prog 14 #[.agg #[.slice walks_a walks.length walks_c, .slice hears_a hears.length hears_c, .int .i64 houses, .int .i64 start, .slice notices_a notices.length notices_c]] F [] fun F' L' v => ∃ (ra : Option Addr) (rn : Nat) (rc : Nat) (rL : LH), v = .tuple #[.slice ra rn rc, .int .i64 r2] ∧ L' = rL ++ [] ∧ SlR 0 48 2 (prE (iE .i64) (iE .i64)) F' ra rn rc r rL := by
 refine spec_of_shW (args := [.agg #[.slice walks_a walks.length walks_c, .slice hears_a hears.length hears_c, .int .i64 houses, .int .i64 start, .slice notices_a notices.length notices_c]]) Try.func14 rfl Try.ntmps14 (Nat.le_of_ble_eq_true rfl) ?_
 intro K _ _; rw [round_Pairs] at hr
 refine wsr ?_
 refine o_box rfl rfl ?_; intro b1 hb1
 refine oa rfl rfl (oa rfl rfl (nsr ?_))
 refine ov (v_loadA (cs := #[.slice walks_a walks.length walks_c, .slice hears_a hears.length hears_c, .int .i64 houses, .int .i64 start, .slice notices_a notices.length notices_c]) Try.isAgg26 Try.sizeOf26 rfl (Has.own 0 rfl) (Nat.le_of_ble_eq_true rfl) rfl) rfl ?_
 obtain ⟨d, n, h2, r3⟩ := b2_ok hr; clear hr
 refine o_call0 rfl Try.call30 rfl rfl rfl (round_opened_w h_walks h_hears h_notices h2) ?_; rintro _ F4 _ hF5 hn6 ⟨v8, rfl, rfl, hp9⟩
 refine shO_L (ln rfl) ?_
 refine om rfl rfl (ox rfl rfl rfl (ox rfl rfl rfl (oa rfl rfl (oa rfl rfl (shO_nil (shW_seq (wsr (om rfl rfl ?_))))))))
 refine ov (v_neq rfl rfl) rfl ?_
 refine shO_nil ?_
 refine shW_condP rfl (fun c10 => ?_) (fun c10 => ?_)
 · have r11 := ite_t r3 c10; clear r3
   refine wsr (om rfl rfl (oa rfl rfl (oa rfl rfl (shO_nil ?_))))
   refine kW kn ?_
   refine shW_ret (andThen_ret ?_)
   refine q_res2 Try.results14 (res_tmp rfl) (res_tmp rfl) (sr) ?_
   obtain ⟨rfl, rfl⟩ := inj2 r11
   exact ⟨_, _, _, [], rfl, rfl, SlR.nil _ _ _ _ _⟩
 have r12 := ite_f r3 c10; clear r3
 refine shW_skip (wsr (om rfl rfl ?_))
 obtain ⟨walks2, hears2, houses2, start2, notices2, walks3, pairs, hit, h13, r14⟩ := b8_ok r12; clear r12
 have h34 := hp9; rw [h13] at h34; obtain ⟨b15, c16, m17, hv18, hz19, ⟨_, _, rfl, ⟨a20, c21, rfl, h22⟩, ⟨_, _, rfl, ⟨a23, c24, rfl, h25⟩, ⟨_, _, rfl, rfl, ⟨_, _, rfl, rfl, ⟨_, _, rfl, ⟨a26, c27, rfl, h28⟩, ⟨_, _, rfl, ⟨rfl, h29⟩, ⟨_, _, rfl, ⟨a30, c31, rfl, h32⟩, ⟨rfl, h33⟩⟩⟩⟩⟩⟩⟩⟩⟩ := h34; subst hv18
 have hz19 : F4 b15 = some (.cells ((([.slice a20 walks2.length c21] : List Value) ++ (([.slice a23 hears2.length c24] : List Value) ++ (([.int .i64 houses2] : List Value) ++ (([.int .i64 start2] : List Value) ++ (([.slice a26 notices2.length c27] : List Value) ++ (walks3.flatMap (cI .i64) ++ (([.slice a30 pairs.length c31] : List Value) ++ (hit.flatMap (cI .i64))))))))).toArray) 101 m17) := hz19
 refine ov (v_nilCheck rfl) rfl ?_
 refine ov (v_fieldAddr fa_101_2 rfl) rfl ?_
 refine ov (v_load Try.isAgg35 rfl (Has.frozen hz19) (li_cell (li_skip (A := ([.slice a20 walks2.length c21] : List Value)) (k := 1) (o := 29) rfl (li_skip (A := ([.slice a23 hears2.length c24] : List Value)) (k := 1) (o := 28) rfl (li_skip (A := ([.int .i64 houses2] : List Value)) (k := 1) (o := 27) rfl (li_skip (A := ([.int .i64 start2] : List Value)) (k := 1) (o := 26) rfl (li_skip (A := ([.slice a26 notices2.length c27] : List Value)) (k := 1) (o := 25) rfl (li_skip (A := walks3.flatMap (cI .i64)) (k := 25) (o := 0) (lfl (cI_ok .i64) h29) (li_here (B := hit.flatMap (cI .i64)) rfl))))))))) rfl ?_
 obtain ⟨l, h35, r36⟩ := b1_ok r14; clear r14
 refine o_call0 rfl Try.call47 rfl rfl rfl (slices_Clone_round_Pair_round_Pair_w h32 h35) ?_; rintro _ F37 _ hF38 hn39 ⟨a41, n45, c42, Lb43, rfl, rfl, hz44⟩
 replace hz44 := hz44.new fun p hp => hn39 p (by simp [hp])
 refine shO_L (lp (ln rfl)) ?_
 refine kO (kf (fS fO) kr) ?_
 refine oa rfl rfl (oa rfl rfl (shO_nil ?_))
 refine kW (kd kr) ?_
 refine shW_ret ?_
 refine q_res2 Try.results14 (res_tmp rfl) (res_tmp rfl) (sr) ?_
 obtain ⟨rfl, rfl⟩ := inj2 r36
 exact ⟨_, _, _, _, rfl, rfl, hz44.any⟩
set_option maxHeartbeats 1000000 in
theorem round_Most_1B_w {rec_ : (List Int) → Int → (List (List Int)) → (List (List Int)) → Int → Int → (List ((List Int) × Int × Int)) → (List Int) → (List (Int × Int)) → (List Int) → (List Int) → (List (List Int)) → (List (List Int)) → Int → Int → (List ((List Int) × Int × Int)) → Option ((List Int))} (hrec : ∀ {l_a : Option Addr} {l_c : Nat} {l : List Int} {from_ : Int} {b_c b_c_ : Nat} {walks_a : Option Addr} {walks_c : Nat} {walks : List (List Int)} {hears_a : Option Addr} {hears_c : Nat} {hears : List (List Int)} {houses start : Int} {notices_a : Option Addr} {notices_c : Nat} {notices : List ((List Int) × Int × Int)} {walks2 : List Int} {pairs_a : Option Addr} {pairs_c : Nat} {pairs : List (Int × Int)} {hit : List Int} {mb_c_ mb_c : Nat × Nat} {b_out : Nat} {out_a : Option Addr} {out_c : Nat} {out : List Int} {b_b : Nat} {walks3_a : Option Addr} {walks3_c : Nat} {walks3 : List (List Int)} {hears2_a : Option Addr} {hears2_c : Nat} {hears2 : List (List Int)} {houses2 start2 : Int} {notices2_a : Option Addr} {notices2_c : Nat} {notices2 : List ((List Int) × Int × Int)} {mb_b : Nat × Nat} {b_more : Nat} {mb_more : Nat × Nat} {F : FS} (_ : RowR 1 (iE .i64) F l_a l_c l) (_ : F b_c = some (.cells #[.pointer (some ⟨b_c_, 0, none⟩)] 73 mb_c)) (_ : F b_c_ = some (.cells ((([.slice walks_a walks.length walks_c] : List Value) ++ (([.slice hears_a hears.length hears_c] : List Value) ++ (([.int .i64 houses] : List Value) ++ (([.int .i64 start] : List Value) ++ (([.slice notices_a notices.length notices_c] : List Value) ++ (walks2.flatMap (cI .i64) ++ (([.slice pairs_a pairs.length pairs_c] : List Value) ++ (hit.flatMap (cI .i64))))))))).toArray) 101 mb_c_)) (_ : RowR 1 (slE 1 (iE .i64)) F walks_a walks_c walks) (_ : RowR 1 (slE 1 (iE .i64)) F hears_a hears_c hears) (_ : RowR 3 (prE (slE 1 (iE .i64)) (prE (iE .i64) (iE .i64))) F notices_a notices_c notices) (_ : walks2.length = 25) (_ : RowR 2 (prE (iE .i64) (iE .i64)) F pairs_a pairs_c pairs) (_ : hit.length = 15) (_ : RowR 1 (iE .i64) F out_a out_c out) (_ : F b_b = some (.cells #[.slice walks3_a walks3.length walks3_c, .slice hears2_a hears2.length hears2_c, .int .i64 houses2, .int .i64 start2, .slice notices2_a notices2.length notices2_c] 26 mb_b)) (_ : RowR 1 (slE 1 (iE .i64)) F walks3_a walks3_c walks3) (_ : RowR 1 (slE 1 (iE .i64)) F hears2_a hears2_c hears2) (_ : RowR 3 (prE (slE 1 (iE .i64)) (prE (iE .i64) (iE .i64))) F notices2_a notices2_c notices2) (_ : F b_more = some (.cells (#[.func (.func 54) #[] #[.pointer (some ⟨b_c, 0, none⟩), .pointer (some ⟨b_out, 0, none⟩), .pointer (some ⟨b_b, 0, none⟩), .pointer (some ⟨b_more, 0, none⟩)]]) 109 mb_more)) {r : List Int} , rec_ l from_ walks hears houses start notices walks2 pairs hit out walks3 hears2 houses2 start2 notices2 = some r → SH.Spec Try.prog 54 #[.slice l_a l.length l_c, .int .i64 from_, .pointer (some ⟨b_c, 0, none⟩), .pointer (some ⟨b_out, 0, none⟩), .pointer (some ⟨b_b, 0, none⟩), .pointer (some ⟨b_more, 0, none⟩)] F [(b_out, .cells #[.slice out_a out.length out_c] 38 (0, 0))] fun F' L' v => ∃ (ra : Option Addr) (rc : Nat), v = .tuple #[] ∧ L' = [(b_out, .cells #[.slice ra r.length rc] 38 (0, 0))] ∧ RowR 1 (iE .i64) F' ra rc r) {l_a : Option Addr} {l_c : Nat} {l : List Int} {from_ : Int} {b_c b_c_ : Nat} {walks_a : Option Addr} {walks_c : Nat} {walks : List (List Int)} {hears_a : Option Addr} {hears_c : Nat} {hears : List (List Int)} {houses start : Int} {notices_a : Option Addr} {notices_c : Nat} {notices : List ((List Int) × Int × Int)} {walks2 : List Int} {pairs_a : Option Addr} {pairs_c : Nat} {pairs : List (Int × Int)} {hit : List Int} {mb_c_ mb_c : Nat × Nat} {b_out : Nat} {out_a : Option Addr} {out_c : Nat} {out : List Int} {b_b : Nat} {walks3_a : Option Addr} {walks3_c : Nat} {walks3 : List (List Int)} {hears2_a : Option Addr} {hears2_c : Nat} {hears2 : List (List Int)} {houses2 start2 : Int} {notices2_a : Option Addr} {notices2_c : Nat} {notices2 : List ((List Int) × Int × Int)} {mb_b : Nat × Nat} {b_more : Nat} {mb_more : Nat × Nat} {F : FS} (h_l : RowR 1 (iE .i64) F l_a l_c l) (hb_c : F b_c = some (.cells #[.pointer (some ⟨b_c_, 0, none⟩)] 73 mb_c)) (hb_c_ : F b_c_ = some (.cells ((([.slice walks_a walks.length walks_c] : List Value) ++ (([.slice hears_a hears.length hears_c] : List Value) ++ (([.int .i64 houses] : List Value) ++ (([.int .i64 start] : List Value) ++ (([.slice notices_a notices.length notices_c] : List Value) ++ (walks2.flatMap (cI .i64) ++ (([.slice pairs_a pairs.length pairs_c] : List Value) ++ (hit.flatMap (cI .i64))))))))).toArray) 101 mb_c_)) (h_walks : RowR 1 (slE 1 (iE .i64)) F walks_a walks_c walks) (h_hears : RowR 1 (slE 1 (iE .i64)) F hears_a hears_c hears) (h_notices : RowR 3 (prE (slE 1 (iE .i64)) (prE (iE .i64) (iE .i64))) F notices_a notices_c notices) (h_walks2 : walks2.length = 25) (h_pairs : RowR 2 (prE (iE .i64) (iE .i64)) F pairs_a pairs_c pairs) (h_hit : hit.length = 15) (h_out : RowR 1 (iE .i64) F out_a out_c out) (hb_b : F b_b = some (.cells #[.slice walks3_a walks3.length walks3_c, .slice hears2_a hears2.length hears2_c, .int .i64 houses2, .int .i64 start2, .slice notices2_a notices2.length notices2_c] 26 mb_b)) (h_walks3 : RowR 1 (slE 1 (iE .i64)) F walks3_a walks3_c walks3) (h_hears2 : RowR 1 (slE 1 (iE .i64)) F hears2_a hears2_c hears2) (h_notices2 : RowR 3 (prE (slE 1 (iE .i64)) (prE (iE .i64) (iE .i64))) F notices2_a notices2_c notices2) (hb_more : F b_more = some (.cells (#[.func (.func 54) #[] #[.pointer (some ⟨b_c, 0, none⟩), .pointer (some ⟨b_out, 0, none⟩), .pointer (some ⟨b_b, 0, none⟩), .pointer (some ⟨b_more, 0, none⟩)]]) 109 mb_more)) {r : List Int} (hr : round_Most_1B rec_ l from_ walks hears houses start notices walks2 pairs hit out walks3 hears2 houses2 start2 notices2 = some r) :
    SH.Spec Try.prog 54 #[.slice l_a l.length l_c, .int .i64 from_, .pointer (some ⟨b_c, 0, none⟩), .pointer (some ⟨b_out, 0, none⟩), .pointer (some ⟨b_b, 0, none⟩), .pointer (some ⟨b_more, 0, none⟩)] F [(b_out, .cells #[.slice out_a out.length out_c] 38 (0, 0))] fun F' L' v => ∃ (ra : Option Addr) (rc : Nat), v = .tuple #[] ∧ L' = [(b_out, .cells #[.slice ra r.length rc] 38 (0, 0))] ∧ RowR 1 (iE .i64) F' ra rc r := by
 refine spec_of_shW (args := [.slice l_a l.length l_c, .int .i64 from_, .pointer (some ⟨b_c, 0, none⟩), .pointer (some ⟨b_out, 0, none⟩), .pointer (some ⟨b_b, 0, none⟩), .pointer (some ⟨b_more, 0, none⟩)]) Try.func54 rfl Try.ntmps54 (Nat.le_of_ble_eq_true rfl) ?_
 intro K _ _; rw [round_Most_1B] at hr
 refine shW_seq (shW_seq ?_)
 refine shW_drawM [(.still, 0), (.still, 1), (.still, 2), (.still, 4), (.seq, 3), (.seq, 5), (.seq, 6), (.still, 7), (.still, 8), (.still, 9), (.still, 10), (.still, 11), (.still, 12), (.still, 13)] (by kernel_rfl) (by kernel_rfl) (trivial) (by rfl) (by kernel_rfl) ?_
 refine shM_v (v := .pointer (some ⟨b_c_, 0, none⟩)) (ek := [(2, .pointer (some ⟨b_c, 0, none⟩))]) (Ls := []) rfl rfl rfl rfl ((sc rfl (sn _))) (by kernel_rfl) sm (fun H F' L' hF' hL' => v_load Try.isAgg73 rfl ((Has.frozen hb_c).ext hF' hL') rfl) ?_
 refine shM_v (v := .pointer (some ⟨b_c_, 0, none⟩)) (ek := [(2, .pointer (some ⟨b_c, 0, none⟩))]) (Ls := []) rfl rfl rfl rfl ((sc rfl (sn _))) (by kernel_rfl) sm (fun H F' L' hF' hL' => v_load Try.isAgg73 rfl ((Has.frozen hb_c).ext hF' hL') rfl) ?_
 refine shM_v (v := .slice l_a l.length l_c) (ek := [(0, .slice l_a l.length l_c)]) (Ls := []) rfl rfl rfl rfl ((sc rfl (sn _))) (by kernel_rfl) sm (fun H F' L' hF' hL' => v_move rfl) ?_
 refine shM_v (v := .pointer (some ⟨b_c_, 0, none⟩)) (ek := [(2, .pointer (some ⟨b_c, 0, none⟩))]) (Ls := []) rfl rfl rfl rfl ((sc rfl (sn _))) (by kernel_rfl) sm (fun H F' L' hF' hL' => v_load Try.isAgg73 rfl ((Has.frozen hb_c).ext hF' hL') rfl) ?_
 refine ⟨_, [(14, .pointer (some ⟨b_c_, 0, none⟩)), (15, .slice l_a l.length l_c)], rfl, rfl, (sc rfl (sc rfl (sn _))), by kernel_rfl, ?_⟩; intro H
 obtain ⟨n, h1, r2⟩ := b1_ok hr; clear hr
 refine o_callV rfl Try.call55 rfl rfl rfl (round_crier_of_w hb_c_ h_walks h_hears h_notices h_walks2 h_pairs h_hit h_l h1) ?_
 refine shO_nil ⟨_, rfl, FExt.refl _, [4, 0], by kernel_rfl, .inl (.inr (fun d h => by cases h; rfl)), (List.forall_mem_cons.2 ⟨sm, (List.forall_mem_cons.2 ⟨sm, (fun _ h => absurd h List.not_mem_nil)⟩)⟩), ?_⟩
 refine ⟨_, [(17, .pointer (some ⟨b_c_, 0, none⟩))], rfl, rfl, (sc rfl (sn _)), by kernel_rfl, ?_⟩; intro H
 obtain ⟨y, h3, r4⟩ := b1_ok r2; clear r2
 refine o_call0 rfl Try.call33 rfl rfl rfl (round_crier_hours_w hb_c_ h_walks h_hears h_notices h_walks2 h_pairs h_hit h3) ?_; rintro _ F5 _ hF6 hn7 ⟨fi9, fc10, cp11, rfl, rfl, hit12⟩
 replace h_l := h_l.mono (iE_ok _) hF6
 replace h_walks := h_walks.mono (slE_ok (iE_ok _)) hF6
 replace h_hears := h_hears.mono (slE_ok (iE_ok _)) hF6
 replace h_notices := h_notices.mono (prE_ok (slE_ok (iE_ok _)) (prE_ok (iE_ok _) (iE_ok _))) hF6
 replace h_pairs := h_pairs.mono (prE_ok (iE_ok _) (iE_ok _)) hF6
 replace h_out := h_out.mono (iE_ok _) hF6
 replace h_walks3 := h_walks3.mono (slE_ok (iE_ok _)) hF6
 replace h_hears2 := h_hears2.mono (slE_ok (iE_ok _)) hF6
 replace h_notices2 := h_notices2.mono (prE_ok (slE_ok (iE_ok _)) (prE_ok (iE_ok _) (iE_ok _))) hF6
 replace hb_c_ := hF6 _ _ hb_c_
 replace hb_c := hF6 _ _ hb_c
 replace hb_b := hF6 _ _ hb_b
 replace hb_more := hF6 _ _ hb_more
 refine shO_L (ln rfl) ?_
 refine shO_nil ⟨_, rfl, hF6, [0], by kernel_rfl, .inl (.inr (fun d h => by cases h; rfl)), (List.forall_mem_cons.2 ⟨sm, (fun _ h => absurd h List.not_mem_nil)⟩), ?_⟩
 refine ⟨_, [(13, .pointer (some ⟨b_c_, 0, none⟩)), (16, .int .i64 n), (18, .agg #[.func (.func fi9) fc10 cp11])], rfl, rfl, (sc rfl (sc rfl (sc rfl (sn _)))), by kernel_rfl, ?_⟩; intro H
 obtain ⟨l2, n2, ok, h13, r14⟩ := b3_ok r4; clear r4
 refine o_call0 rfl Try.call31 rfl rfl rfl (round_crier_serve_w hb_c_ h_walks h_hears h_notices h_walks2 h_pairs h_hit hit12 h13) ?_; rintro _ F15 _ hF16 hn17 ⟨a19, n23, c20, Lb21, rfl, rfl, hz22⟩
 replace h_l := h_l.mono (iE_ok _) hF16
 replace h_walks := h_walks.mono (slE_ok (iE_ok _)) hF16
 replace h_hears := h_hears.mono (slE_ok (iE_ok _)) hF16
 replace h_notices := h_notices.mono (prE_ok (slE_ok (iE_ok _)) (prE_ok (iE_ok _) (iE_ok _))) hF16
 replace h_pairs := h_pairs.mono (prE_ok (iE_ok _) (iE_ok _)) hF16
 replace h_out := h_out.mono (iE_ok _) hF16
 replace h_walks3 := h_walks3.mono (slE_ok (iE_ok _)) hF16
 replace h_hears2 := h_hears2.mono (slE_ok (iE_ok _)) hF16
 replace h_notices2 := h_notices2.mono (prE_ok (slE_ok (iE_ok _)) (prE_ok (iE_ok _) (iE_ok _))) hF16
 replace hb_c_ := hF16 _ _ hb_c_
 replace hb_c := hF16 _ _ hb_c
 replace hb_b := hF16 _ _ hb_b
 replace hb_more := hF16 _ _ hb_more
 refine shO_L (lp (ln rfl)) ?_
 refine kO (kf (fS fO) kr) ?_
 refine shO_nil ⟨_, rfl, hF16, [], by kernel_rfl, .inl (.inl rfl), (fun _ h => absurd h List.not_mem_nil), ?_⟩
 refine shM_v (v := .tuple #[.slice a19 n23 c20, .int .i64 n2, .bool ok]) (ek := [(19, .tuple #[.slice a19 n23 c20, .int .i64 n2, .bool ok])]) (Ls := []) rfl rfl rfl rfl ((sc rfl (sn _))) (by kernel_rfl) sm (fun H F' L' hF' hL' => v_move rfl) ?_
 refine shM_v (v := .slice a19 n23 c20) (ek := [(12, .tuple #[.slice a19 n23 c20, .int .i64 n2, .bool ok])]) (Ls := []) rfl rfl rfl rfl ((sc rfl (sn _))) (by kernel_rfl) sm (fun H F' L' hF' hL' => v_extract rfl rfl) ?_
 refine shM_v (v := .int .i64 n2) (ek := [(12, .tuple #[.slice a19 n23 c20, .int .i64 n2, .bool ok])]) (Ls := []) rfl rfl rfl rfl ((sc rfl (sn _))) (by kernel_rfl) sm (fun H F' L' hF' hL' => v_extract rfl rfl) ?_
 refine shM_v (v := .bool ok) (ek := [(12, .tuple #[.slice a19 n23 c20, .int .i64 n2, .bool ok])]) (Ls := []) rfl rfl rfl rfl ((sc rfl (sn _))) (by kernel_rfl) sm (fun H F' L' hF' hL' => v_extract rfl rfl) ?_
 refine shM_v (v := .slice a19 n23 c20) (ek := [(20, .slice a19 n23 c20)]) (Ls := []) rfl rfl rfl rfl ((sc rfl (sn _))) (by kernel_rfl) sm (fun H F' L' hF' hL' => v_assign rfl) ?_
 refine shM_v (v := .int .i64 n2) (ek := [(21, .int .i64 n2)]) (Ls := []) rfl rfl rfl rfl ((sc rfl (sn _))) (by kernel_rfl) sm (fun H F' L' hF' hL' => v_assign rfl) ?_
 refine shM_v (v := .bool ok) (ek := [(22, .bool ok)]) (Ls := []) rfl rfl rfl rfl ((sc rfl (sn _))) (by kernel_rfl) sm (fun H F' L' hF' hL' => v_assign rfl) ?_
 refine shM_nil ?_
 refine wsr (om rfl rfl ?_)
 refine ov (v_notB rfl) rfl ?_
 refine shO_nil ?_
 refine shW_cond rfl (fun c25 => ?_) (fun c25 => ?_)
 · have r26 := bt r14 c25; clear r14
   refine kW (kc kn) ?_
   refine shW_ret (andThen_ret ?_)
   refine q_end0 (.inl rfl) Try.results54 ?_
   obtain rfl := inj1 r26
   exact ⟨_, _, rfl, rfl, h_out⟩
 have r27 := bf r14 c25; clear r14
 refine shW_skip ?_
 obtain ⟨out2, h31, r32⟩ := b1_ok r27; clear r27
 refine shW_join (fun e1 F1 L1 => ∃ (a28 : Option Addr) (c29 : Nat), F15 = F1 ∧ L1 = [(b_out, .cells #[.slice a28 out2.length c29] 38 (0, 0))] ∧ e1.sub [(0, .slice l_a l.length l_c), (1, .int .i64 from_), (4, .pointer (some ⟨b_b, 0, none⟩)), (5, .pointer (some ⟨b_more, 0, none⟩))] ∧ RowR 1 (iE .i64) F1 a28 c29 out2) ?_ ?_
 · clear r32
   refine wsr (om rfl rfl ?_)
   refine ov (v_lenS Try.underlying38 rfl) rfl ?_
   refine ov (v_load Try.isAgg38 rfl (Has.own 0 rfl) rfl) rfl ?_
   refine ov (v_lenS Try.underlying38 rfl) rfl ?_
   refine ov (v_gtrK rfl rfl) rfl ?_
   refine shO_nil ?_
   refine shW_condP rfl (fun c33 => ?_) (fun c33 => ?_)
   · have r34 := ite_t h31 c33; clear h31
     refine shW_region (om rfl rfl ?_)
     refine o_store (i := 0) Try.sizeOf38 rfl rfl rfl rfl (Nat.le_of_ble_eq_true rfl) ?_
     refine shO_L (L' := (b_out, .cells #[.slice l_a l.length l_c] 38 (0, 0)) :: (Lb21 ++ [])) rfl ?_
     refine shO_nil ?_
     obtain rfl := inj1 r34
     exact mi (kc kn) ⟨l_a, l_c, rfl, rfl, (sc rfl (sc rfl (sc rfl (sc rfl (sn _))))), h_l⟩
   have r35 := ite_f h31 c33; clear h31
   refine shW_skip ?_
   obtain rfl := inj1 r35
   exact mi (kc kn) ⟨out_a, out_c, rfl, rfl, (sc rfl (sc rfl (sc rfl (sc rfl (sn _))))), h_out⟩
 rintro e1 _ _ ⟨a28, c29, rfl, rfl, he36, h30⟩
 refine shW_env _ he36 ?_; clear he36
 refine wsr (om rfl rfl (oa rfl rfl (shO_nil ?_)))
 refine shW_block ?_
 obtain ⟨g40, r41⟩ := gd_ok r32; clear r32
 refine shW_lp (fun fu1 e1 F1 L1 => ∃ (n3 : Int), Ctr from_ (notices2.length : Int) n3 fu1 ∧ ∃ (out3 : List Int) (a37 : Option Addr) (c38 : Nat), round_Most_1B_l1 l walks hears houses start notices walks2 pairs hit walks3 hears2 houses2 start2 notices2 rec_ fu1 n3 out3 = some r ∧ FExt F15 F1 ∧ L1 = [(b_out, .cells #[.slice a37 out3.length c38] 38 (0, 0))] ∧ e1.sub [(0, .slice l_a l.length l_c), (4, .pointer (some ⟨b_b, 0, none⟩)), (5, .pointer (some ⟨b_more, 0, none⟩)), (11, .int .i64 n3)] ∧ RowR 1 (iE .i64) F1 a37 c38 out3) _ (m0 kr ⟨_, Ctr.start _ _, out2, a28, c29, r41, FExt.refl _, rfl, (sc rfl (sc rfl (sc rfl (sc rfl (sn _))))), h30⟩) ?_
 rintro fu1 e1 F46 _ ⟨n3, hk42, out3, a37, c38, r44, hF47, rfl, he45, h39⟩
 refine shW_env _ he45 ?_; clear he45
 replace h_l := h_l.mono (iE_ok _) hF47
 replace h_walks := h_walks.mono (slE_ok (iE_ok _)) hF47
 replace h_hears := h_hears.mono (slE_ok (iE_ok _)) hF47
 replace h_notices := h_notices.mono (prE_ok (slE_ok (iE_ok _)) (prE_ok (iE_ok _) (iE_ok _))) hF47
 replace h_pairs := h_pairs.mono (prE_ok (iE_ok _) (iE_ok _)) hF47
 replace h_walks3 := h_walks3.mono (slE_ok (iE_ok _)) hF47
 replace h_hears2 := h_hears2.mono (slE_ok (iE_ok _)) hF47
 replace h_notices2 := h_notices2.mono (prE_ok (slE_ok (iE_ok _)) (prE_ok (iE_ok _) (iE_ok _))) hF47
 replace hb_c_ := hF47 _ _ hb_c_
 replace hb_c := hF47 _ _ hb_c
 replace hb_b := hF47 _ _ hb_b
 replace hb_more := hF47 _ _ hb_more
 refine shW_seq (wsr (om rfl rfl ?_))
 refine ov (v_fieldAddr fa_26_4 rfl) rfl ?_
 refine ov (v_load Try.isAgg24 rfl (Has.frozen hb_b) rfl) rfl ?_
 refine ov (v_lenS Try.underlying24 rfl) rfl ?_
 refine ov (v_lssK rfl rfl) rfl ?_
 refine shO_nil ?_
 refine shW_condP rfl (fun c49 => ?_) (fun c49 => ?_)
 · obtain ⟨fu1, rfl, hk50⟩ := Ctr.succ hk42 c49
   rw [round_Most_1B_l1] at r44
   refine shW_skip (shW_seq ?_)
   refine shW_block ?_
   refine shW_drawM [(.still, 0), (.still, 1), (.still, 3), (.pre, 4), (.still, 6), (.still, 7), (.seq, 2), (.alloc (.cells #[.int .i64 n3] 3 (0, 0)) (fun b => .slice (some ⟨b, 0, none⟩) 1 1) [(42, .int .i64 n3)], 4), (.seq, 5), (.seq, 8)] (by kernel_rfl) (by kernel_rfl) (⟨⟨_, _, rfl, rfl, rfl, rfl, rfl, mk_build rfl (buildSlice_all slt_38 [.int .i64 n3] rfl (by decide) (by simp [Value.cells]) (by decide))⟩, trivial⟩) (by rfl) (by kernel_rfl) ?_
   refine shM_v (v := .func (.func 54) #[] #[.pointer (some ⟨b_c, 0, none⟩), .pointer (some ⟨b_out, 0, none⟩), .pointer (some ⟨b_b, 0, none⟩), .pointer (some ⟨b_more, 0, none⟩)]) (ek := [(5, .pointer (some ⟨b_more, 0, none⟩))]) (Ls := []) rfl rfl rfl rfl ((sc rfl (sn _))) (by kernel_rfl) sm (fun H F' L' hF' hL' => v_load Try.isAgg109 rfl ((Has.frozen hb_more).ext hF' hL') rfl) ?_
   refine shM_v (v := .slice l_a l.length l_c) (ek := [(0, .slice l_a l.length l_c)]) (Ls := []) rfl rfl rfl rfl ((sc rfl (sn _))) (by kernel_rfl) sm (fun H F' L' hF' hL' => v_move rfl) ?_
   refine shM_v (v := .int .i64 n3) (ek := [(11, .int .i64 n3)]) (Ls := []) rfl rfl rfl rfl ((sc rfl (sn _))) (by kernel_rfl) sm (fun H F' L' hF' hL' => v_move rfl) ?_
   refine ⟨⟨_, rfl, (sc rfl (sn _)), by kernel_rfl⟩, ?_⟩
   refine shM_v (v := .int .i64 n3) (ek := [(11, .int .i64 n3)]) (Ls := []) rfl rfl rfl rfl ((sc rfl (sn _))) (by kernel_rfl) sm (fun H F' L' hF' hL' => v_move rfl) ?_
   refine shM_v (v := .int .i64 (n3 + 1)) (ek := [(45, .int .i64 n3)]) (Ls := []) rfl rfl rfl rfl ((sc rfl (sn _))) (by kernel_rfl) sm (fun H F' L' hF' hL' => v_add rfl rfl (Ctr.r64 hk42 c49 g40)) ?_
   refine ⟨_, [(40, .slice l_a l.length l_c)], rfl, rfl, (sc rfl (sn _)), by kernel_rfl, ?_⟩; intro H
   obtain ⟨l3, h51, r52⟩ := b1_ok r44; clear r44
   refine o_call0 rfl Try.call44 rfl rfl rfl (slices_Clone_int_int_w h_l h51) ?_; rintro _ F53 _ hF54 hn55 ⟨a57, n61, c58, Lb59, rfl, rfl, hz60⟩
   replace h_walks := h_walks.mono (slE_ok (iE_ok _)) hF54
   replace h_hears := h_hears.mono (slE_ok (iE_ok _)) hF54
   replace h_notices := h_notices.mono (prE_ok (slE_ok (iE_ok _)) (prE_ok (iE_ok _) (iE_ok _))) hF54
   replace h_pairs := h_pairs.mono (prE_ok (iE_ok _) (iE_ok _)) hF54
   replace h_walks3 := h_walks3.mono (slE_ok (iE_ok _)) hF54
   replace h_hears2 := h_hears2.mono (slE_ok (iE_ok _)) hF54
   replace h_notices2 := h_notices2.mono (prE_ok (slE_ok (iE_ok _)) (prE_ok (iE_ok _) (iE_ok _))) hF54
   replace h39 := h39.mono (iE_ok _) hF54
   replace hb_c_ := hF54 _ _ hb_c_
   replace hb_c := hF54 _ _ hb_c
   replace hb_b := hF54 _ _ hb_b
   replace hb_more := hF54 _ _ hb_more
   replace hz60 := hz60.new fun p hp => hn55 p (by simp [hp])
   refine shO_L (lp (ln rfl)) ?_
   refine kO (kf (fS fO) kr) ?_
   refine shO_nil ⟨_, rfl, hF54, [7, 6, 3, 0], by kernel_rfl, .inl (.inr (fun d h => by cases h; rfl)), (List.forall_mem_cons.2 ⟨sm, (List.forall_mem_cons.2 ⟨sm, (List.forall_mem_cons.2 ⟨sm, (List.forall_mem_cons.2 ⟨sm, (fun _ h => absurd h List.not_mem_nil)⟩)⟩)⟩)⟩), ?_⟩
   refine shM_bs rfl ?_; intro b63 hb63
   refine shM_L (L' := (b63, .cells #[.int .i64 n3] 3 (0, 0)) :: ((b_out, .cells #[.slice a37 out3.length c38] 38 (0, 0)) :: (Lb59 ++ []))) rfl ?_
   refine ⟨_, [(41, .slice a57 n61 c58), (43, .slice (some ⟨b63, 0, none⟩) 1 1)], rfl, rfl, (sc rfl (sc rfl (sn _))), by kernel_rfl, ?_⟩; intro H
   obtain ⟨l4, h64, g65, r66⟩ := ap_ok r52; clear r52
   refine o_appZ (xs := l3) (ys := [n3]) (zs := l4) rfl slt_38 rfl rfl (Nat.le_refl _) (fun _ => .c (.c .h)) hz60 (SrcR.box (vss := [[.int .i64 n3]]) (ys := [n3]) 0 rfl (iE_ok _) (.cons rfl .nil) rfl rfl) h64 g65 (by decide) ?_; intro a67 n71 c68 Lb69 hz70
   refine kO (kd kr) ?_
   refine shO_nil ⟨_, rfl, FExt.refl _, [7, 6, 0], by kernel_rfl, .inl (.inr (fun d h => by cases h; rfl)), (List.forall_mem_cons.2 ⟨sm, (List.forall_mem_cons.2 ⟨sm, (List.forall_mem_cons.2 ⟨sm, (fun _ h => absurd h List.not_mem_nil)⟩)⟩)⟩), ?_⟩
   refine ⟨_, [(39, .func (.func 54) #[] #[.pointer (some ⟨b_c, 0, none⟩), .pointer (some ⟨b_out, 0, none⟩), .pointer (some ⟨b_b, 0, none⟩), .pointer (some ⟨b_more, 0, none⟩)]), (44, .slice a67 n71 c68), (46, .int .i64 (n3 + 1))], rfl, rfl, (sc rfl (sc rfl (sc rfl (sn _)))), by kernel_rfl, ?_⟩; intro H
   obtain rfl := (SlR.caps hz70).1
   refine shO_freezeR (Nat.le_refl _) (iE_ok _) (fC fP) hz70 ?_; intro F73 hF74 h75
   replace h_walks := h_walks.mono (slE_ok (iE_ok _)) hF74
   replace h_hears := h_hears.mono (slE_ok (iE_ok _)) hF74
   replace h_notices := h_notices.mono (prE_ok (slE_ok (iE_ok _)) (prE_ok (iE_ok _) (iE_ok _))) hF74
   replace h_pairs := h_pairs.mono (prE_ok (iE_ok _) (iE_ok _)) hF74
   replace h_walks3 := h_walks3.mono (slE_ok (iE_ok _)) hF74
   replace h_hears2 := h_hears2.mono (slE_ok (iE_ok _)) hF74
   replace h_notices2 := h_notices2.mono (prE_ok (slE_ok (iE_ok _)) (prE_ok (iE_ok _) (iE_ok _))) hF74
   replace h39 := h39.mono (iE_ok _) hF74
   replace hb_c_ := hF74 _ _ hb_c_
   replace hb_c := hF74 _ _ hb_c
   replace hb_b := hF74 _ _ hb_b
   replace hb_more := hF74 _ _ hb_more
   obtain ⟨out4, h76, r77⟩ := b1_ok r66; clear r66
   refine o_callG (Lb := [(b_out, .cells #[.slice a37 out3.length c38] 38 (0, 0))]) (Lr := []) rfl Try.call54 rfl rfl rfl (pR) (hrec h75 hb_c hb_c_ h_walks h_hears h_notices h_walks2 h_pairs h_hit h39 hb_b h_walks3 h_hears2 h_notices2 hb_more h76) ?_; rintro _ F78 _ hF79 hd81 hn80 ⟨a82, c83, rfl, rfl, h84⟩
   refine shO_L (lb (ln rfl)) ?_
   refine shO_nil ⟨_, rfl, (hF74.trans hF79), [], by kernel_rfl, .inl (.inl rfl), (fun _ h => absurd h List.not_mem_nil), ?_⟩
   refine shM_nil ?_
   refine inBlock_n (id := 1) (shW_region (om rfl rfl ?_))
   refine ov (v_add rfl rfl (Ctr.r64 hk42 c49 g40)) rfl ?_
   refine oa rfl rfl (shO_nil ?_)
   exact le kr ⟨_, hk50, out4, a82, c83, r77, (((hF47.trans hF54).trans hF74).trans hF79), rfl, (sc rfl (sc rfl (sc rfl (sc rfl (sn _))))), h84⟩
 obtain rfl := Ctr.zero hk42 c49
 rw [round_Most_1B_l1] at r44
 refine shW_exit (andThen_exit (andThen_exit ?_))
 refine inBlock_exit ?_
 refine q_end0 (.inr rfl) Try.results54 ?_
 obtain rfl := inj1 r44
 exact ⟨_, _, rfl, rfl, h39⟩
set_option maxHeartbeats 1000000 in
theorem round_Most_1_w : ∀ (fu : Nat) {l_a : Option Addr} {l_c : Nat} {l : List Int} {from_ : Int} {b_c b_c_ : Nat} {walks_a : Option Addr} {walks_c : Nat} {walks : List (List Int)} {hears_a : Option Addr} {hears_c : Nat} {hears : List (List Int)} {houses start : Int} {notices_a : Option Addr} {notices_c : Nat} {notices : List ((List Int) × Int × Int)} {walks2 : List Int} {pairs_a : Option Addr} {pairs_c : Nat} {pairs : List (Int × Int)} {hit : List Int} {mb_c_ mb_c : Nat × Nat} {b_out : Nat} {out_a : Option Addr} {out_c : Nat} {out : List Int} {b_b : Nat} {walks3_a : Option Addr} {walks3_c : Nat} {walks3 : List (List Int)} {hears2_a : Option Addr} {hears2_c : Nat} {hears2 : List (List Int)} {houses2 start2 : Int} {notices2_a : Option Addr} {notices2_c : Nat} {notices2 : List ((List Int) × Int × Int)} {mb_b : Nat × Nat} {b_more : Nat} {mb_more : Nat × Nat} {F : FS} (_ : RowR 1 (iE .i64) F l_a l_c l) (_ : F b_c = some (.cells #[.pointer (some ⟨b_c_, 0, none⟩)] 73 mb_c)) (_ : F b_c_ = some (.cells ((([.slice walks_a walks.length walks_c] : List Value) ++ (([.slice hears_a hears.length hears_c] : List Value) ++ (([.int .i64 houses] : List Value) ++ (([.int .i64 start] : List Value) ++ (([.slice notices_a notices.length notices_c] : List Value) ++ (walks2.flatMap (cI .i64) ++ (([.slice pairs_a pairs.length pairs_c] : List Value) ++ (hit.flatMap (cI .i64))))))))).toArray) 101 mb_c_)) (_ : RowR 1 (slE 1 (iE .i64)) F walks_a walks_c walks) (_ : RowR 1 (slE 1 (iE .i64)) F hears_a hears_c hears) (_ : RowR 3 (prE (slE 1 (iE .i64)) (prE (iE .i64) (iE .i64))) F notices_a notices_c notices) (_ : walks2.length = 25) (_ : RowR 2 (prE (iE .i64) (iE .i64)) F pairs_a pairs_c pairs) (_ : hit.length = 15) (_ : RowR 1 (iE .i64) F out_a out_c out) (_ : F b_b = some (.cells #[.slice walks3_a walks3.length walks3_c, .slice hears2_a hears2.length hears2_c, .int .i64 houses2, .int .i64 start2, .slice notices2_a notices2.length notices2_c] 26 mb_b)) (_ : RowR 1 (slE 1 (iE .i64)) F walks3_a walks3_c walks3) (_ : RowR 1 (slE 1 (iE .i64)) F hears2_a hears2_c hears2) (_ : RowR 3 (prE (slE 1 (iE .i64)) (prE (iE .i64) (iE .i64))) F notices2_a notices2_c notices2) (_ : F b_more = some (.cells (#[.func (.func 54) #[] #[.pointer (some ⟨b_c, 0, none⟩), .pointer (some ⟨b_out, 0, none⟩), .pointer (some ⟨b_b, 0, none⟩), .pointer (some ⟨b_more, 0, none⟩)]]) 109 mb_more)) {r : List Int} , round_Most_1 fu l from_ walks hears houses start notices walks2 pairs hit out walks3 hears2 houses2 start2 notices2 = some r → SH.Spec Try.prog 54 #[.slice l_a l.length l_c, .int .i64 from_, .pointer (some ⟨b_c, 0, none⟩), .pointer (some ⟨b_out, 0, none⟩), .pointer (some ⟨b_b, 0, none⟩), .pointer (some ⟨b_more, 0, none⟩)] F [(b_out, .cells #[.slice out_a out.length out_c] 38 (0, 0))] fun F' L' v => ∃ (ra : Option Addr) (rc : Nat), v = .tuple #[] ∧ L' = [(b_out, .cells #[.slice ra r.length rc] 38 (0, 0))] ∧ RowR 1 (iE .i64) F' ra rc r := by
  intro fu
  induction fu with
  | zero => intros; rename_i hr; rw [round_Most_1] at hr; cases hr
  | succ fu ih => intros; rename_i hr; rw [round_Most_1] at hr; exact round_Most_1B_w ih (by assumption) (by assumption) (by assumption) (by assumption) (by assumption) (by assumption) (by assumption) (by assumption) (by assumption) (by assumption) (by assumption) (by assumption) (by assumption) (by assumption) (by assumption) hr
set_option maxHeartbeats 1000000 in
theorem round_Most_w {walks_a : Option Addr} {walks_c : Nat} {walks : List (List Int)} {hears_a : Option Addr} {hears_c : Nat} {hears : List (List Int)} {houses start : Int} {notices_a : Option Addr} {notices_c : Nat} {notices : List ((List Int) × Int × Int)} {F : FS} (h_walks : RowR 1 (slE 1 (iE .i64)) F walks_a walks_c walks) (h_hears : RowR 1 (slE 1 (iE .i64)) F hears_a hears_c hears) (h_notices : RowR 3 (prE (slE 1 (iE .i64)) (prE (iE .i64) (iE .i64))) F notices_a notices_c notices) {r : List Int} {r2 : Int} (hr : round_Most walks hears houses start notices = some (r, r2)) :
    SH.Spec Try.prog 24 #[.agg #[.slice walks_a walks.length walks_c, .slice hears_a hears.length hears_c, .int .i64 houses, .int .i64 start, .slice notices_a notices.length notices_c]] F [] fun F' L' v => ∃ (ra : Option Addr) (rc : Nat), v = .tuple #[.slice ra r.length rc, .int .i64 r2] ∧ L' = [] ∧ RowR 1 (iE .i64) F' ra rc r := by
 refine spec_of_shW (args := [.agg #[.slice walks_a walks.length walks_c, .slice hears_a hears.length hears_c, .int .i64 houses, .int .i64 start, .slice notices_a notices.length notices_c]]) Try.func24 rfl Try.ntmps24 (Nat.le_of_ble_eq_true rfl) ?_
 intro K _ _; rw [round_Most] at hr
 refine wsr ?_
 refine o_box rfl rfl ?_; intro b1 hb1
 refine oa rfl rfl (oa rfl rfl (nsr ?_))
 refine ov (v_loadA (cs := #[.slice walks_a walks.length walks_c, .slice hears_a hears.length hears_c, .int .i64 houses, .int .i64 start, .slice notices_a notices.length notices_c]) Try.isAgg26 Try.sizeOf26 rfl (Has.own 0 rfl) (Nat.le_of_ble_eq_true rfl) rfl) rfl ?_
 obtain ⟨d, n, h2, r3⟩ := b2_ok hr; clear hr
 refine o_call0 rfl Try.call30 rfl rfl rfl (round_opened_w h_walks h_hears h_notices h2) ?_; rintro _ F4 _ hF5 hn6 ⟨v8, rfl, rfl, hp9⟩
 replace h_walks := h_walks.mono (slE_ok (iE_ok _)) hF5
 replace h_hears := h_hears.mono (slE_ok (iE_ok _)) hF5
 replace h_notices := h_notices.mono (prE_ok (slE_ok (iE_ok _)) (prE_ok (iE_ok _) (iE_ok _))) hF5
 refine shO_L (ln rfl) ?_
 refine om rfl rfl (ox rfl rfl rfl (ox rfl rfl rfl ?_))
 refine o_alloc rfl Try.zeroValue73 ?_; intro b10 hb10
 refine o_store (i := 0) Try.sizeOf73 rfl rfl (PtrR.one hp9) rfl (Nat.le_of_ble_eq_true rfl) ?_
 refine shO_L (L' := [(b10, .cells #[v8] 73 (0, 0)), (b1, .cells #[.slice walks_a walks.length walks_c, .slice hears_a hears.length hears_c, .int .i64 houses, .int .i64 start, .slice notices_a notices.length notices_c] 26 (0, 0))]) rfl ?_
 refine oa rfl rfl (shO_nil (shW_seq (wsr (om rfl rfl ?_))))
 refine ov (v_neq rfl rfl) rfl ?_
 refine shO_nil ?_
 refine shW_condP rfl (fun c11 => ?_) (fun c11 => ?_)
 · have r12 := ite_t r3 c11; clear r3
   refine wsr (om rfl rfl (oa rfl rfl (oa rfl rfl (shO_nil ?_))))
   refine kW kn ?_
   refine shW_ret (andThen_ret ?_)
   refine q_res2 Try.results24 (res_tmp rfl) (res_tmp rfl) (sr) ?_
   obtain ⟨rfl, rfl⟩ := inj2 r12
   exact ⟨_, _, rfl, rfl, RowR.nil _ _ _⟩
 have r13 := ite_f r3 c11; clear r3
 refine shW_skip (wsr ?_)
 refine o_alloc rfl Try.zeroValue38 ?_; intro b14 hb14
 refine nsr ?_
 refine o_alloc rfl Try.zeroValue109 ?_; intro b15 hb15
 refine nsr ?_
 refine ov (v_makeFunc rfl rfl) rfl ?_
 refine o_store (i := 0) Try.sizeOf109 rfl rfl rfl rfl (Nat.le_of_ble_eq_true rfl) ?_
 refine shO_L (L' := [(b15, .cells (#[.func (.func 54) #[] #[.pointer (some ⟨b10, 0, none⟩), .pointer (some ⟨b14, 0, none⟩), .pointer (some ⟨b1, 0, none⟩), .pointer (some ⟨b15, 0, none⟩)]]) 109 (0, 0)), (b14, .cells #[.slice none 0 0] 38 (0, 0)), (b10, .cells #[v8] 73 (0, 0)), (b1, .cells #[.slice walks_a walks.length walks_c, .slice hears_a hears.length hears_c, .int .i64 houses, .int .i64 start, .slice notices_a notices.length notices_c] 26 (0, 0))]) rfl ?_
 refine nsr ?_
 refine ov (v_load Try.isAgg109 rfl (Has.own 0 rfl) rfl) rfl ?_
 refine shO_freeze 2 rfl hb10 ?_; intro F16 hF17 hz18
 refine shO_L (L' := [(b15, .cells (#[.func (.func 54) #[] #[.pointer (some ⟨b10, 0, none⟩), .pointer (some ⟨b14, 0, none⟩), .pointer (some ⟨b1, 0, none⟩), .pointer (some ⟨b15, 0, none⟩)]]) 109 (0, 0)), (b14, .cells #[.slice none 0 0] 38 (0, 0)), (b1, .cells #[.slice walks_a walks.length walks_c, .slice hears_a hears.length hears_c, .int .i64 houses, .int .i64 start, .slice notices_a notices.length notices_c] 26 (0, 0))]) rfl ?_
 replace h_walks := h_walks.mono (slE_ok (iE_ok _)) hF17
 replace h_hears := h_hears.mono (slE_ok (iE_ok _)) hF17
 replace h_notices := h_notices.mono (prE_ok (slE_ok (iE_ok _)) (prE_ok (iE_ok _) (iE_ok _))) hF17
 replace hp9 := hp9.mono (prE_ok (slE_ok (slE_ok (iE_ok _))) (prE_ok (slE_ok (slE_ok (iE_ok _))) (prE_ok (iE_ok _) (prE_ok (iE_ok _) (prE_ok (slE_ok (prE_ok (slE_ok (iE_ok _)) (prE_ok (iE_ok _) (iE_ok _)))) (prE_ok (arE_ok (n := 25) (sz := 1) (cI_ok .i64)) (prE_ok (slE_ok (prE_ok (iE_ok _) (iE_ok _))) (arE_ok (n := 15) (sz := 1) (cI_ok .i64))))))))) hF17
 obtain ⟨walks2, hears2, houses2, start2, notices2, walks3, pairs, hit, h19, r20⟩ := b8_ok r13; clear r13
 have h40 := hp9; rw [h19] at h40; obtain ⟨b21, c22, m23, hv24, hz25, ⟨_, _, rfl, ⟨a26, c27, rfl, h28⟩, ⟨_, _, rfl, ⟨a29, c30, rfl, h31⟩, ⟨_, _, rfl, rfl, ⟨_, _, rfl, rfl, ⟨_, _, rfl, ⟨a32, c33, rfl, h34⟩, ⟨_, _, rfl, ⟨rfl, h35⟩, ⟨_, _, rfl, ⟨a36, c37, rfl, h38⟩, ⟨rfl, h39⟩⟩⟩⟩⟩⟩⟩⟩⟩ := h40; subst hv24
 have hz25 : F16 b21 = some (.cells ((([.slice a26 walks2.length c27] : List Value) ++ (([.slice a29 hears2.length c30] : List Value) ++ (([.int .i64 houses2] : List Value) ++ (([.int .i64 start2] : List Value) ++ (([.slice a32 notices2.length c33] : List Value) ++ (walks3.flatMap (cI .i64) ++ (([.slice a36 pairs.length c37] : List Value) ++ (hit.flatMap (cI .i64))))))))).toArray) 101 m23) := hz25
 refine shO_freeze 2 rfl hb1 ?_; intro F41 hF42 hz43
 refine shO_L (L' := [(b15, .cells (#[.func (.func 54) #[] #[.pointer (some ⟨b10, 0, none⟩), .pointer (some ⟨b14, 0, none⟩), .pointer (some ⟨b1, 0, none⟩), .pointer (some ⟨b15, 0, none⟩)]]) 109 (0, 0)), (b14, .cells #[.slice none 0 0] 38 (0, 0))]) rfl ?_
 replace h_walks := h_walks.mono (slE_ok (iE_ok _)) hF42
 replace h_hears := h_hears.mono (slE_ok (iE_ok _)) hF42
 replace h_notices := h_notices.mono (prE_ok (slE_ok (iE_ok _)) (prE_ok (iE_ok _) (iE_ok _))) hF42
 replace h28 := h28.mono (slE_ok (iE_ok _)) hF42
 replace h31 := h31.mono (slE_ok (iE_ok _)) hF42
 replace h34 := h34.mono (prE_ok (slE_ok (iE_ok _)) (prE_ok (iE_ok _) (iE_ok _))) hF42
 replace h38 := h38.mono (prE_ok (iE_ok _) (iE_ok _)) hF42
 replace hz18 := hF42 _ _ hz18
 replace hz25 := hF42 _ _ hz25
 refine shO_freeze 0 rfl hb15 ?_; intro F44 hF45 hz46
 refine shO_L (L' := [(b14, .cells #[.slice none 0 0] 38 (0, 0))]) rfl ?_
 replace h_walks := h_walks.mono (slE_ok (iE_ok _)) hF45
 replace h_hears := h_hears.mono (slE_ok (iE_ok _)) hF45
 replace h_notices := h_notices.mono (prE_ok (slE_ok (iE_ok _)) (prE_ok (iE_ok _) (iE_ok _))) hF45
 replace h28 := h28.mono (slE_ok (iE_ok _)) hF45
 replace h31 := h31.mono (slE_ok (iE_ok _)) hF45
 replace h34 := h34.mono (prE_ok (slE_ok (iE_ok _)) (prE_ok (iE_ok _) (iE_ok _))) hF45
 replace h38 := h38.mono (prE_ok (iE_ok _) (iE_ok _)) hF45
 replace hz18 := hF45 _ _ hz18
 replace hz25 := hF45 _ _ hz25
 replace hz43 := hF45 _ _ hz43
 obtain ⟨out, h47, r48⟩ := b1_ok r20; clear r20
 refine o_callG (Lb := [(b14, .cells #[.slice none 0 0] 38 (0, 0))]) (Lr := []) rfl Try.call54 rfl rfl rfl (pR) ((round_Most_1_w FU) (RowR.nil _ _ _) hz18 hz25 h28 h31 h34 h35 h38 h39 (RowR.nil _ _ _) hz43 h_walks h_hears h_notices hz46 h47) ?_; rintro _ F49 _ hF50 hd52 hn51 ⟨a53, c54, rfl, rfl, h55⟩
 refine shO_L (lb (ln rfl)) ?_
 refine nsr ?_
 refine ov (v_load Try.isAgg38 rfl (Has.own 0 rfl) rfl) rfl ?_
 refine oa rfl rfl (oa rfl rfl (shO_nil ?_))
 refine kW kn ?_
 refine shW_ret ?_
 refine q_res2 Try.results24 (res_tmp rfl) (res_tmp rfl) (sr) ?_
 obtain ⟨rfl, rfl⟩ := inj2 r48
 exact ⟨_, _, rfl, rfl, h55⟩
end Go.Proofs.Ytfmapnhfamoecab
