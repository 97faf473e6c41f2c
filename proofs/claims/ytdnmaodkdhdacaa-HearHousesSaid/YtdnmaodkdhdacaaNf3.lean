/- The walks that this claim needs, printed by a program of mine; part 3. -/
import Derived.Test.YtdnmaodkdhdacaaNf2
namespace Go.Proofs.Ytdnmaodkdhdacaa
open Go.SH Go.PL
set_option maxHeartbeats 1000000 in
theorem oyezlaw01_HearHouses_w {wide : Int} {plots_a : Option Addr} {plots_c : Nat} {plots : List Int} {wind : Int} {voice : Int} {stand : Int} {house : Int} {F : FS} (h_plots : RowR 1 (iE .i64) F plots_a plots_c plots) {r : Bool} (hr : oyezlaw01_HearHouses wide plots wind voice stand house = some r) :
    SpecV Try.prog 9 #[.agg #[.int .i64 wide, .slice plots_a plots.length plots_c], .agg #[.int .i64 wind, .int .i64 voice], .int .i64 stand, .int .i64 house] F (.bool r) := by
 refine spec_of_shW (args := [.agg #[.int .i64 wide, .slice plots_a plots.length plots_c], .agg #[.int .i64 wind, .int .i64 voice], .int .i64 stand, .int .i64 house]) Try.func9 rfl Try.ntmps9 (Nat.le_of_ble_eq_true rfl) ?_
 intro K _ _; rw [oyezlaw01_HearHouses] at hr
 refine wsr ?_
 refine o_box rfl rfl ?_; intro b1 hb1
 refine o_box rfl rfl ?_; intro b2 hb2
 refine oa rfl rfl (shO_nil (shW_seq (wsr ?_)))
 refine ov (v_loadA (cs := #[.int .i64 wide, .slice plots_a plots.length plots_c]) Try.isAgg24 Try.sizeOf24 rfl (Has.own 1 rfl) (Nat.le_of_ble_eq_true rfl) rfl) rfl ?_
 obtain ⟨ok, h3, r4⟩ := b1_ok hr; clear hr
 refine o_callV rfl Try.call14 rfl rfl rfl (oyezlaw01_great_w h_plots h3) ?_
 refine shO_nil ?_
 refine shW_cond rfl (fun c5 => ?_) (fun c5 => ?_)
 · have r6 := bt r4 c5; clear r4
   refine wsr ?_
   obtain ⟨ok2, h7, r8⟩ := b1_ok r6; clear r6
   refine o_callV rfl Try.call15 rfl rfl rfl (oyezlaw01_awake_w h7) ?_
   refine oa rfl rfl (shO_nil ?_)
   refine kW kn ?_
   refine shW_ret (andThen_ret ?_)
   refine q_res1 Try.results9 (res_tmp rfl) (sr) ?_
   obtain rfl := inj1 r8
   exact rfl
 have r9 := bf r4 c5; clear r4
 refine shW_skip (shW_seq ?_)
 refine shW_drawM [(.pre, 6), (.pre, 7), (.still, 0), (.still, 2), (.still, 4), (.still, 5), (.seq, 1), (.seq, 3), (.alloc (.cells (.agg #[.int .i64 0, .slice none 0 0] : Value).cells 24 (0, 0)) (fun b => .pointer (some ⟨b, 0, none⟩)) [], 6), (.alloc (.cells (.agg #[.int .i64 0, .slice none 0 0] : Value).cells 32 (0, 0)) (fun b => .pointer (some ⟨b, 0, none⟩)) [], 7), (.seq, 8), (.seq, 9), (.still, 10)] (by kernel_rfl) (by kernel_rfl) (⟨⟨_, _, rfl, rfl, rfl, rfl, rfl, mk_alloc Try.zeroValue24⟩, ⟨⟨_, _, rfl, rfl, rfl, rfl, rfl, mk_alloc Try.zeroValue32⟩, trivial⟩⟩) (by rfl) (by kernel_rfl) ?_
 refine ⟨⟨[], rfl, sn _, by kernel_rfl⟩, ?_⟩
 refine ⟨⟨[], rfl, sn _, by kernel_rfl⟩, ?_⟩
 refine shM_v (v := .agg #[.int .i64 wide, .slice plots_a plots.length plots_c]) (ek := [(4, .pointer (some ⟨b1, 0, none⟩))]) (Ls := [(b1, .cells #[.int .i64 wide, .slice plots_a plots.length plots_c] 24 (0, 0))]) rfl rfl rfl rfl ((sc rfl (sn _))) (by kernel_rfl) (s0 (s1 (s2 sr))) (fun H F' L' hF' hL' => v_loadA (cs := #[.int .i64 wide, .slice plots_a plots.length plots_c]) Try.isAgg24 Try.sizeOf24 rfl ((Has.own 0 rfl).ext hF' hL') (Nat.le_of_ble_eq_true rfl) rfl) ?_
 refine shM_v (v := .agg #[.int .i64 wide, .slice plots_a plots.length plots_c]) (ek := [(4, .pointer (some ⟨b1, 0, none⟩))]) (Ls := [(b1, .cells #[.int .i64 wide, .slice plots_a plots.length plots_c] 24 (0, 0))]) rfl rfl rfl rfl ((sc rfl (sn _))) (by kernel_rfl) (s0 (s1 (s2 sr))) (fun H F' L' hF' hL' => v_loadA (cs := #[.int .i64 wide, .slice plots_a plots.length plots_c]) Try.isAgg24 Try.sizeOf24 rfl ((Has.own 0 rfl).ext hF' hL') (Nat.le_of_ble_eq_true rfl) rfl) ?_
 refine shM_v (v := .pointer (some ⟨b2, 0, none⟩)) (ek := [(5, .pointer (some ⟨b2, 0, none⟩))]) (Ls := []) rfl rfl rfl rfl ((sc rfl (sn _))) (by kernel_rfl) sm (fun H F' L' hF' hL' => v_fieldAddr fa_48_0 rfl) ?_
 refine shM_v (v := .int .i64 wind) (ek := [(38, .pointer (some ⟨b2, 0, none⟩))]) (Ls := [(b2, .cells #[.int .i64 wind, .int .i64 voice] 48 (0, 0))]) rfl rfl rfl rfl ((sc rfl (sn _))) (by kernel_rfl) (s0 (s2 (s1 sr))) (fun H F' L' hF' hL' => v_load Try.isAgg25 rfl ((Has.own 0 rfl).ext hF' hL') rfl) ?_
 refine ⟨_, [(34, .agg #[.int .i64 wide, .slice plots_a plots.length plots_c])], rfl, rfl, (sc rfl (sn _)), by kernel_rfl, ?_⟩; intro H
 obtain ⟨n, l, h10, r11⟩ := b2_ok r9; clear r9
 refine o_call0 rfl Try.call16 rfl rfl rfl (oyezlaw01_Own_w h_plots h10) ?_; rintro _ F12 _ hF13 hn14 ⟨a16, n20, c17, Lb18, rfl, rfl, hz19⟩
 replace h_plots := h_plots.mono (iE_ok _) hF13
 replace hz19 := hz19.new fun p hp => hn14 p (by simp [hp])
 refine shO_L (lp (ln rfl)) ?_
 refine kO (kf (fS fO) (kf (fS fO) kr)) ?_
 refine shO_nil ⟨_, rfl, hF13, [5, 4, 2], by kernel_rfl, .inr (fun d h => by cases h; rfl), (List.forall_mem_cons.2 ⟨s0 (s2 (s1 (s3 sr))), (List.forall_mem_cons.2 ⟨sm, (List.forall_mem_cons.2 ⟨s0 (s1 (s2 (s3 sr))), (fun _ h => absurd h List.not_mem_nil)⟩)⟩)⟩), ?_⟩
 refine ⟨_, [(36, .agg #[.int .i64 wide, .slice plots_a plots.length plots_c])], rfl, rfl, (sc rfl (sn _)), by kernel_rfl, ?_⟩; intro H
 obtain ⟨n2, l2, h22, r23⟩ := b2_ok r11; clear r11
 refine o_call0 rfl Try.call18 rfl rfl rfl (oyezlaw01_theirs_w h_plots h22) ?_; rintro _ F24 _ hF25 hn26 ⟨a28, n32, c29, Lb30, rfl, rfl, hz31⟩
 replace h_plots := h_plots.mono (iE_ok _) hF25
 replace hz19 := hz19.mono (iE_ok _) hF25
 replace hz31 := hz31.new fun p hp => hn26 p (by simp [hp])
 refine shO_L (lp (ln rfl)) ?_
 refine kO (kf (fS fO) (kf (fS fO) kr)) ?_
 refine shO_nil ⟨_, rfl, hF25, [5, 4], by kernel_rfl, .inr (fun d h => by cases h; rfl), (List.forall_mem_cons.2 ⟨s0 (s2 (s1 (s3 (s3 sr)))), (List.forall_mem_cons.2 ⟨sm, (fun _ h => absurd h List.not_mem_nil)⟩)⟩), ?_⟩
 refine shM_ptr rfl ?_; intro b34 hb34
 refine shM_L (L' := (b34, .cells #[.int .i64 0, .slice none 0 0] 24 (0, 0)) :: ((b2, .cells #[.int .i64 wind, .int .i64 voice] 48 (0, 0)) :: ((b1, .cells #[.int .i64 wide, .slice plots_a plots.length plots_c] 24 (0, 0)) :: (Lb30 ++ (Lb18 ++ []))))) rfl ?_
 refine shM_ptr rfl ?_; intro b35 hb35
 refine shM_L (L' := (b35, .cells #[.int .i64 0, .slice none 0 0] 32 (0, 0)) :: ((b34, .cells #[.int .i64 0, .slice none 0 0] 24 (0, 0)) :: ((b2, .cells #[.int .i64 wind, .int .i64 voice] 48 (0, 0)) :: ((b1, .cells #[.int .i64 wide, .slice plots_a plots.length plots_c] 24 (0, 0)) :: (Lb30 ++ (Lb18 ++ [])))))) rfl ?_
 refine ⟨_, [(9, .pointer (some ⟨b34, 0, none⟩)), (35, .agg #[.int .i64 n, .slice a16 n20 c17])], rfl, rfl, (sc rfl (sc rfl (sn _))), by kernel_rfl, ?_⟩; intro H
 refine o_storeA (i := 1) Try.sizeOf24 rfl rfl rfl (by simp [Value.oneCell']) rfl (Nat.le_of_ble_eq_true rfl) ?_
 refine shO_L (L' := (b35, .cells #[.int .i64 0, .slice none 0 0] 32 (0, 0)) :: ((b34, .cells #[.int .i64 n, .slice a16 n20 c17] 24 (0, 0)) :: ((b2, .cells #[.int .i64 wind, .int .i64 voice] 48 (0, 0)) :: ((b1, .cells #[.int .i64 wide, .slice plots_a plots.length plots_c] 24 (0, 0)) :: (Lb30 ++ (Lb18 ++ [])))))) rfl ?_
 refine shO_nil ⟨undef, rfl, FExt.refl _, [5, 4], by kernel_rfl, .inr (fun d h => by cases h), (List.forall_mem_cons.2 ⟨s0 (s1 (s1 (s2 (s1 (s3 (s3 sr)))))), (List.forall_mem_cons.2 ⟨sm, (fun _ h => absurd h List.not_mem_nil)⟩)⟩), ?_⟩
 refine ⟨_, [(10, .pointer (some ⟨b35, 0, none⟩)), (37, .agg #[.int .i64 n2, .slice a28 n32 c29])], rfl, rfl, (sc rfl (sc rfl (sn _))), by kernel_rfl, ?_⟩; intro H
 refine o_storeA (i := 0) Try.sizeOf32 rfl rfl rfl (by simp [Value.oneCell']) rfl (Nat.le_of_ble_eq_true rfl) ?_
 refine shO_L (L' := (b35, .cells #[.int .i64 n2, .slice a28 n32 c29] 32 (0, 0)) :: ((b34, .cells #[.int .i64 n, .slice a16 n20 c17] 24 (0, 0)) :: ((b2, .cells #[.int .i64 wind, .int .i64 voice] 48 (0, 0)) :: ((b1, .cells #[.int .i64 wide, .slice plots_a plots.length plots_c] 24 (0, 0)) :: (Lb30 ++ (Lb18 ++ [])))))) rfl ?_
 refine shO_nil ⟨undef, rfl, FExt.refl _, [5, 4], by kernel_rfl, .inr (fun d h => by cases h), (List.forall_mem_cons.2 ⟨s0 (s1 (s1 (s2 (s1 (s3 (s3 sr)))))), (List.forall_mem_cons.2 ⟨sm, (fun _ h => absurd h List.not_mem_nil)⟩)⟩), ?_⟩
 refine shM_v (v := .int .i64 wind) (ek := [(39, .int .i64 wind)]) (Ls := []) rfl rfl rfl rfl ((sc rfl (sn _))) (by kernel_rfl) sm (fun H F' L' hF' hL' => v_assign rfl) ?_
 refine shM_nil ?_
 refine wsr ?_
 refine ov (v_loadA (cs := #[.int .i64 n2, .slice a28 n32 c29]) Try.isAgg32 Try.sizeOf32 rfl (Has.own 0 rfl) (Nat.le_of_ble_eq_true rfl) rfl) rfl ?_
 obtain ⟨n3, h36, r37⟩ := b1_ok r23; clear r23
 refine o_callT (Lt := Lb30 ++ []) (Lr := (b35, .cells #[.int .i64 n2, .slice a28 n32 c29] 32 (0, 0)) :: ((b34, .cells #[.int .i64 n, .slice a16 n20 c17] 24 (0, 0)) :: ((b2, .cells #[.int .i64 wind, .int .i64 voice] 48 (0, 0)) :: ((b1, .cells #[.int .i64 wide, .slice plots_a plots.length plots_c] 24 (0, 0)) :: (Lb18 ++ []))))) rfl Try.call34 rfl rfl rfl (pT ((fC (fC (fC (fC fP)))).trans (pA pR)) (lp (ln rfl))) (fun F2 h2 h3 => by rw [(SlR.caps hz31).1]; exact oyezref01_Check_w (hz31.row (iE_ok _) h2 (fun p hp => h3 p (List.mem_append_left _ hp))) h36) ?_
 refine oa rfl rfl (shO_nil ?_)
 obtain ⟨w, h38, r39⟩ := b1_ok r37; clear r37
 refine shW_join (fun e1 F1 L1 => F24 = F1 ∧ L1 = ((b35, .cells #[.int .i64 n2, .slice a28 n32 c29] 32 (0, 0)) :: ((b34, .cells #[.int .i64 n, .slice a16 n20 c17] 24 (0, 0)) :: ((b2, .cells #[.int .i64 wind, .int .i64 voice] 48 (0, 0)) :: ((b1, .cells #[.int .i64 wide, .slice plots_a plots.length plots_c] 24 (0, 0)) :: (Lb18 ++ (Lb30 ++ [])))))) ∧ e1.sub [(2, .int .i64 stand), (3, .int .i64 house), (4, .pointer (some ⟨b1, 0, none⟩)), (5, .pointer (some ⟨b2, 0, none⟩)), (9, .pointer (some ⟨b34, 0, none⟩)), (10, .pointer (some ⟨b35, 0, none⟩)), (11, .int .i64 wind), (12, .int .i64 w)]) ?_ ?_
 · clear r39
   refine wsr (om rfl rfl ?_)
   refine ov (v_eql rfl rfl) rfl ?_
   refine shO_nil ?_
   refine shW_condP rfl (fun c40 => ?_) (fun c40 => ?_)
   · have r41 := ite_t h38 c40; clear h38
     refine shW_region (om rfl rfl ?_)
     refine ov (v_fieldAddr fa_48_1 rfl) rfl ?_
     refine ov (v_load Try.isAgg3 rfl (Has.own 2 rfl) rfl) rfl ?_
     obtain ⟨n4, h42, r43⟩ := b1_ok r41; clear r41
     refine o_callV rfl Try.call36 rfl rfl rfl (oyezref01_CheckAir_w h42) ?_
     refine oa rfl rfl (shO_nil ?_)
     obtain rfl := inj1 r43
     exact mi (kc (kc (kc (kc (kg (fS fP) kr))))) ⟨rfl, rfl, (sc rfl (sc rfl (sc rfl (sc rfl (sc rfl (sc rfl (sc rfl (sc rfl (sn _)))))))))⟩
   have r44 := ite_f h38 c40; clear h38
   refine shW_skip ?_
   obtain rfl := inj1 r44
   exact mi (kc (kc (kc (kc (kg (fS fP) kr))))) ⟨rfl, rfl, (sc rfl (sc rfl (sc rfl (sc rfl (sc rfl (sc rfl (sc rfl (sc rfl (sn _)))))))))⟩
 rintro e1 _ _ ⟨rfl, rfl, he45⟩
 refine shW_env _ he45 ?_; clear he45
 refine wsr (oa rfl rfl (oa rfl rfl (oa rfl rfl (nsr (om rfl rfl (om rfl rfl (oa rfl rfl (oa rfl rfl (shO_nil ?_)))))))))
 obtain ⟨x_plots, by_, of_, none_, u, v, h70, r71⟩ := b6_ok r39; clear r39
 refine shW_joinF (fun e1 F1 L1 => ∃ (a49 : Option Addr) (c50 : Nat) (a52 : Option Addr) (n56 : Nat) (c53 : Nat) (Lb54 : LH) (a58 : Option Addr) (n62 : Nat) (c59 : Nat) (Lb60 : LH) (a64 : Option Addr) (n68 : Nat) (c65 : Nat) (Lb66 : LH), FExt F24 F1 ∧ L1 = ((b35, .cells #[.int .i64 n2, .slice a49 x_plots.length c50] 32 (0, 0)) :: ((b34, .cells #[.int .i64 n, .slice a16 n20 c17] 24 (0, 0)) :: ((b2, .cells #[.int .i64 wind, .int .i64 voice] 48 (0, 0)) :: ((b1, .cells #[.int .i64 wide, .slice plots_a plots.length plots_c] 24 (0, 0)) :: (Lb18 ++ (Lb54 ++ (Lb60 ++ (Lb66 ++ [])))))))) ∧ e1.sub [(2, .int .i64 stand), (3, .int .i64 house), (4, .pointer (some ⟨b1, 0, none⟩)), (5, .pointer (some ⟨b2, 0, none⟩)), (9, .pointer (some ⟨b34, 0, none⟩)), (10, .pointer (some ⟨b35, 0, none⟩)), (12, .int .i64 w), (13, .slice a52 n56 c53), (14, .slice a58 n62 c59), (15, .slice a64 n68 c65), (16, .int .i64 u), (17, .int .i64 v)] ∧ RowR 1 (iE .i64) F1 a49 c50 x_plots ∧ SlR K.w0.heap.size 3 1 (iE .i64) F1 a52 n56 c53 by_ Lb54 ∧ SlR K.w0.heap.size 3 1 (iE .i64) F1 a58 n62 c59 of_ Lb60 ∧ SlR K.w0.heap.size 3 1 (iE .i64) F1 a64 n68 c65 none_ Lb66) ?_ ?_
 · clear r71
   refine wsr (om rfl rfl ?_)
   refine ov (v_eql rfl rfl) rfl ?_
   refine shO_nil ?_
   refine shW_condP rfl (fun c72 => ?_) (fun c72 => ?_)
   · have r73 := ite_t h70 c72; clear h70
     refine wsd (by kernel_rfl) (by kernel_rfl) (by kernel_rfl) ?_
     refine qv (v_loadA (cs := #[.int .i64 n2, .slice a28 n32 c29]) Try.isAgg32 Try.sizeOf32 rfl (Has.own 0 rfl) (Nat.le_of_ble_eq_true rfl) rfl) rfl ?_
     refine qm rfl rfl ?_
     obtain ⟨n5, h74, r75⟩ := b1_ok r73; clear r73
     refine shQ_callT (Lt := Lb30 ++ []) (Lr := (b35, .cells #[.int .i64 n2, .slice a28 n32 c29] 32 (0, 0)) :: ((b34, .cells #[.int .i64 n, .slice a16 n20 c17] 24 (0, 0)) :: ((b2, .cells #[.int .i64 wind, .int .i64 voice] 48 (0, 0)) :: ((b1, .cells #[.int .i64 wide, .slice plots_a plots.length plots_c] 24 (0, 0)) :: (Lb18 ++ []))))) rfl Try.call50 rfl rfl rfl (pT ((fC (fC (fC (fC (fS fP))))).trans (pA pR)) (lp (ln rfl))) (fun F2 h2 h3 => by rw [(SlR.caps hz31).1]; exact oyezref01_Is_w (hz31.row (iE_ok _) h2 (fun p hp => h3 p (List.mem_append_left _ hp))) h74) ?_
     refine qv (v_loadA (cs := #[.int .i64 n2, .slice a28 n32 c29]) Try.isAgg32 Try.sizeOf32 rfl (Has.own 0 rfl) (Nat.le_of_ble_eq_true rfl) rfl) rfl ?_
     refine qm rfl rfl ?_
     obtain ⟨n6, h76, r77⟩ := b1_ok r75; clear r75
     refine shQ_callT (Lt := Lb30 ++ []) (Lr := (b35, .cells #[.int .i64 n2, .slice a28 n32 c29] 32 (0, 0)) :: ((b34, .cells #[.int .i64 n, .slice a16 n20 c17] 24 (0, 0)) :: ((b2, .cells #[.int .i64 wind, .int .i64 voice] 48 (0, 0)) :: ((b1, .cells #[.int .i64 wide, .slice plots_a plots.length plots_c] 24 (0, 0)) :: (Lb18 ++ []))))) rfl Try.call50 rfl rfl rfl (pT ((fC (fC (fC (fC (fS fP))))).trans (pA pR)) (lp (ln rfl))) (fun F2 h2 h3 => by rw [(SlR.caps hz31).1]; exact oyezref01_Is_w (hz31.row (iE_ok _) h2 (fun p hp => h3 p (List.mem_append_left _ hp))) h76) ?_
     refine qa rfl rfl (qa rfl rfl (qsr ?_))
     refine ov (v_loadA (cs := #[.int .i64 n2, .slice a28 n32 c29]) Try.isAgg32 Try.sizeOf32 rfl (Has.own 0 rfl) (Nat.le_of_ble_eq_true rfl) rfl) rfl ?_
     refine om rfl rfl ?_
     refine ov (v_fieldAddr fa_48_1 rfl) rfl ?_
     refine ov (v_load Try.isAgg3 rfl (Has.own 2 rfl) rfl) rfl ?_
     obtain rfl := (SlR.caps hz31).1
     refine shO_freezeR (Nat.le_refl _) (iE_ok _) (fC (fC (fC (fC (fS fP))))) hz31 ?_; intro F78 hF79 h80
     replace h_plots := h_plots.mono (iE_ok _) hF79
     replace hz19 := hz19.mono (iE_ok _) hF79
     obtain ⟨l3, h81, r82⟩ := b1_ok r77; clear r77
     refine o_call0 rfl Try.call51 rfl rfl rfl (oyezref01_Ears_w h80 h81) ?_; rintro _ F83 _ hF84 hn85 ⟨a87, c88, rfl, rfl, h89⟩
     replace h_plots := h_plots.mono (iE_ok _) hF84
     replace h80 := h80.mono (iE_ok _) hF84
     replace hz19 := hz19.mono (iE_ok _) hF84
     refine shO_L (ln rfl) ?_
     refine ov (v_lenS Try.underlying86 rfl) rfl ?_
     refine om rfl rfl (shO_nil ?_)
     refine shW_block ?_
     refine shW_lp (fun fu1 e1 F1 L1 => ∃ (tl : List (List Int)) (k : Int), tl.length = fu1 ∧ Lst l3 k tl ∧ ∃ (by_2 : List Int) (of_2 : List Int) (none_2 : List Int) (a90 : Option Addr) (n94 : Nat) (c91 : Nat) (Lb92 : LH) (a96 : Option Addr) (n100 : Nat) (c97 : Nat) (Lb98 : LH) (a102 : Option Addr) (n106 : Nat) (c103 : Nat) (Lb104 : LH), oyezlaw01_HearHouses_l1 stand house l2 n5 n6 tl k by_2 of_2 none_2 = some (x_plots, by_, of_, none_, u, v) ∧ F83 = F1 ∧ L1 = ((b35, .cells #[.int .i64 n2, .slice a28 l2.length c29] 32 (0, 0)) :: ((b34, .cells #[.int .i64 n, .slice a16 n20 c17] 24 (0, 0)) :: ((b2, .cells #[.int .i64 wind, .int .i64 voice] 48 (0, 0)) :: ((b1, .cells #[.int .i64 wide, .slice plots_a plots.length plots_c] 24 (0, 0)) :: (Lb18 ++ (Lb92 ++ (Lb98 ++ (Lb104 ++ [])))))))) ∧ e1.sub [(2, .int .i64 stand), (3, .int .i64 house), (4, .pointer (some ⟨b1, 0, none⟩)), (5, .pointer (some ⟨b2, 0, none⟩)), (9, .pointer (some ⟨b34, 0, none⟩)), (10, .pointer (some ⟨b35, 0, none⟩)), (12, .int .i64 w), (13, .slice a90 n94 c91), (14, .slice a96 n100 c97), (15, .slice a102 n106 c103), (16, .int .i64 n5), (17, .int .i64 n6), (62, .slice a87 l3.length c88), (63, .int .i64 (l3.length : Int)), (64, .int .i64 k)] ∧ SlR K.w0.heap.size 3 1 (iE .i64) F1 a90 n94 c91 by_2 Lb92 ∧ SlR K.w0.heap.size 3 1 (iE .i64) F1 a96 n100 c97 of_2 Lb98 ∧ SlR K.w0.heap.size 3 1 (iE .i64) F1 a102 n106 c103 none_2 Lb104) _ (m0 (kc (kc (kc (kc (ka (ke (ke (ke kr)))))))) ⟨_, _, rfl, Lst.start _, [], [], [], none, 0, 0, [], none, 0, 0, [], none, 0, 0, [], r82, rfl, rfl, (sc rfl (sc rfl (sc rfl (sc rfl (sc rfl (sc rfl (sc rfl (sc rfl (sc rfl (sc rfl (sc rfl (sc rfl (sc rfl (sc rfl (sc rfl (sn _)))))))))))))))), SlR.nil _ _ _ _ _, SlR.nil _ _ _ _ _, SlR.nil _ _ _ _ _⟩) ?_
     rintro fu1 e1 _ _ ⟨tl, k, hn109, hk108, by_2, of_2, none_2, a90, n94, c91, Lb92, a96, n100, c97, Lb98, a102, n106, c103, Lb104, r110, rfl, rfl, he111, hz93, hz99, hz105⟩
     refine shW_env _ he111 ?_; clear he111
     refine wsr ?_
     refine ov (v_lssK rfl rfl) rfl ?_
     refine shO_nil (shW_seq ?_)
     refine shW_condP rfl (fun c113 => ?_) (fun c113 => ?_)
     · obtain ⟨x, tl2, rfl, hx115, g116, hk114⟩ := Lst.succ hk108 c113
       rw [oyezlaw01_HearHouses_l1] at r110
       refine shW_skip ?_
       obtain ⟨by_3, of_3, none_3, h135, r136⟩ := b3_ok r110; clear r110
       refine shW_join (fun e1 F1 L1 => ∃ (a117 : Option Addr) (n121 : Nat) (c118 : Nat) (Lb119 : LH) (a123 : Option Addr) (n127 : Nat) (c124 : Nat) (Lb125 : LH) (a129 : Option Addr) (n133 : Nat) (c130 : Nat) (Lb131 : LH), F83 = F1 ∧ L1 = ((b35, .cells #[.int .i64 n2, .slice a28 l2.length c29] 32 (0, 0)) :: ((b34, .cells #[.int .i64 n, .slice a16 n20 c17] 24 (0, 0)) :: ((b2, .cells #[.int .i64 wind, .int .i64 voice] 48 (0, 0)) :: ((b1, .cells #[.int .i64 wide, .slice plots_a plots.length plots_c] 24 (0, 0)) :: (Lb18 ++ (Lb119 ++ (Lb125 ++ (Lb131 ++ [])))))))) ∧ e1.sub [(2, .int .i64 stand), (3, .int .i64 house), (4, .pointer (some ⟨b1, 0, none⟩)), (5, .pointer (some ⟨b2, 0, none⟩)), (9, .pointer (some ⟨b34, 0, none⟩)), (10, .pointer (some ⟨b35, 0, none⟩)), (12, .int .i64 w), (13, .slice a117 n121 c118), (14, .slice a123 n127 c124), (15, .slice a129 n133 c130), (16, .int .i64 n5), (17, .int .i64 n6), (62, .slice a87 l3.length c88), (63, .int .i64 (l3.length : Int)), (64, .int .i64 k)] ∧ SlR K.w0.heap.size 3 1 (iE .i64) F1 a117 n121 c118 by_3 Lb119 ∧ SlR K.w0.heap.size 3 1 (iE .i64) F1 a123 n127 c124 of_3 Lb125 ∧ SlR K.w0.heap.size 3 1 (iE .i64) F1 a129 n133 c130 none_3 Lb131) ?_ ?_
       · clear r136
         refine shW_block ?_
         refine wsr (om rfl rfl ?_)
         obtain ⟨b137, o138, c139, vs140, ha141, hs142, hle143, ⟨a146, c147, rfl, h148⟩, hl144, hc145⟩ := RowR.at (slE_ok (iE_ok _)) h89 ((b35, .cells #[.int .i64 n2, .slice a28 l2.length c29] 32 (0, 0)) :: ((b34, .cells #[.int .i64 n, .slice a16 n20 c17] 24 (0, 0)) :: ((b2, .cells #[.int .i64 wind, .int .i64 voice] 48 (0, 0)) :: ((b1, .cells #[.int .i64 wide, .slice plots_a plots.length plots_c] 24 (0, 0)) :: (Lb18 ++ (Lb92 ++ (Lb98 ++ (Lb104 ++ [])))))))) g116.1 hx115
         refine ov (v_indexO Try.underlying86 Try.sizeOf26 rfl ha141 rfl g116) rfl ?_
         refine ov (v_load Try.isAgg26 rfl hs142 (hc145 0 (by decide))) rfl ?_
         refine oa rfl rfl (oa rfl rfl (shO_nil (shW_seq (wsr ?_))))
         refine ov (v_fieldAddr fa_32_1 rfl) rfl ?_
         refine ov (v_load Try.isAgg26 rfl (Has.own 0 rfl) rfl) rfl ?_
         refine om rfl rfl ?_
         obtain ⟨x2, g149, hx150, r151⟩ := ix_ok h135; clear h135
         obtain ⟨b152, o153, c154, vs155, ha156, hs157, hle158, rfl, hl159, hc160⟩ := RowR.at (iE_ok _) h80 ((b35, .cells #[.int .i64 n2, .slice a28 l2.length c29] 32 (0, 0)) :: ((b34, .cells #[.int .i64 n, .slice a16 n20 c17] 24 (0, 0)) :: ((b2, .cells #[.int .i64 wind, .int .i64 voice] 48 (0, 0)) :: ((b1, .cells #[.int .i64 wide, .slice plots_a plots.length plots_c] 24 (0, 0)) :: (Lb18 ++ (Lb92 ++ (Lb98 ++ (Lb104 ++ [])))))))) g149.1 hx150
         refine ov (v_indexO Try.underlying26 Try.sizeOf3 rfl ha156 rfl g149) rfl ?_
         refine ov (v_load Try.isAgg3 rfl hs157 (hc160 0 (by decide))) rfl ?_
         refine ov (v_neq rfl rfl) rfl ?_
         refine shO_nil ?_
         refine shW_condP rfl (fun c161 => ?_) (fun c161 => ?_)
         · have r162 := ite_t r151 c161; clear r151
           refine shW_exit (andThen_exit ?_)
           refine inBlock_exit ?_
           obtain ⟨rfl, rfl, rfl⟩ := inj3 r162
           exact mi kr ⟨a90, n94, c91, Lb92, a96, n100, c97, Lb98, a102, n106, c103, Lb104, rfl, rfl, (sc rfl (sc rfl (sc rfl (sc rfl (sc rfl (sc rfl (sc rfl (sc rfl (sc rfl (sc rfl (sc rfl (sc rfl (sc rfl (sc rfl (sc rfl (sn _)))))))))))))))), hz93, hz99, hz105⟩
         have r163 := ite_f r151 c161; clear r151
         refine shW_skip ?_
         obtain ⟨none_4, h170, r171⟩ := b1_ok r163; clear r163
         refine shW_join (fun e1 F1 L1 => ∃ (a164 : Option Addr) (n168 : Nat) (c165 : Nat) (Lb166 : LH), F83 = F1 ∧ L1 = ((b35, .cells #[.int .i64 n2, .slice a28 l2.length c29] 32 (0, 0)) :: ((b34, .cells #[.int .i64 n, .slice a16 n20 c17] 24 (0, 0)) :: ((b2, .cells #[.int .i64 wind, .int .i64 voice] 48 (0, 0)) :: ((b1, .cells #[.int .i64 wide, .slice plots_a plots.length plots_c] 24 (0, 0)) :: (Lb18 ++ (Lb92 ++ (Lb98 ++ (Lb166 ++ [])))))))) ∧ e1.sub [(2, .int .i64 stand), (3, .int .i64 house), (4, .pointer (some ⟨b1, 0, none⟩)), (5, .pointer (some ⟨b2, 0, none⟩)), (9, .pointer (some ⟨b34, 0, none⟩)), (10, .pointer (some ⟨b35, 0, none⟩)), (12, .int .i64 w), (13, .slice a90 n94 c91), (14, .slice a96 n100 c97), (15, .slice a164 n168 c165), (16, .int .i64 n5), (17, .int .i64 n6), (18, .int .i64 k), (19, .slice a146 x.length c147), (62, .slice a87 l3.length c88), (63, .int .i64 (l3.length : Int)), (64, .int .i64 k)] ∧ SlR K.w0.heap.size 3 1 (iE .i64) F1 a164 n168 c165 none_4 Lb166) ?_ ?_
         · clear r171
           refine wsr (om rfl rfl ?_)
           refine ov (v_lenS Try.underlying26 rfl) rfl ?_
           refine ov (v_eql rfl rfl) rfl ?_
           refine shO_nil ?_
           refine shW_condP rfl (fun c172 => ?_) (fun c172 => ?_)
           · have r173 := ite_t h170 c172; clear h170
             refine shW_region (om rfl rfl (om rfl rfl ?_))
             refine o_buildSlice (cs := #[.int .i64 k]) rfl rfl (buildSlice_all slt_26 [.int .i64 k] rfl (by decide) (by simp [Value.cells]) (by decide)) ?_; intro b174 hb174
             obtain ⟨none_5, h175, g176, r177⟩ := ap_ok r173; clear r173
             refine o_appZ (xs := none_2) (ys := [k]) (zs := none_5) rfl slt_26 rfl rfl (Nat.le_refl _) (fun _ => .c (.c (.c (.c (.c (.s (.s (.s .h)))))))) hz105 (SrcR.box (vss := [[.int .i64 k]]) (ys := [k]) 0 rfl (iE_ok _) (.cons rfl .nil) rfl rfl) h175 g176 (by decide) ?_; intro a178 n182 c179 Lb180 hz181
             refine kO (kd kr) ?_
             refine oa rfl rfl (shO_nil ?_)
             obtain rfl := inj1 r177
             exact mi kr ⟨a178, n182, c179, Lb180, rfl, rfl, (sc rfl (sc rfl (sc rfl (sc rfl (sc rfl (sc rfl (sc rfl (sc rfl (sc rfl (sc rfl (sc rfl (sc rfl (sc rfl (sc rfl (sc rfl (sc rfl (sc rfl (sn _)))))))))))))))))), hz181⟩
           have r184 := ite_f h170 c172; clear h170
           refine shW_skip ?_
           obtain rfl := inj1 r184
           exact mi kr ⟨a102, n106, c103, Lb104, rfl, rfl, (sc rfl (sc rfl (sc rfl (sc rfl (sc rfl (sc rfl (sc rfl (sc rfl (sc rfl (sc rfl (sc rfl (sc rfl (sc rfl (sc rfl (sc rfl (sc rfl (sc rfl (sn _)))))))))))))))))), hz105⟩
         rintro e1 _ _ ⟨a164, n168, c165, Lb166, rfl, rfl, he185, hz167⟩
         refine shW_env _ he185 ?_; clear he185
         refine wsr (om rfl rfl ?_)
         refine ov (v_lenS Try.underlying26 rfl) rfl ?_
         refine om rfl rfl (shO_nil ?_)
         refine shW_block ?_
         refine shW_lp (fun fu2 e1 F1 L1 => ∃ (tl3 : List Int) (k2 : Int), tl3.length = fu2 ∧ Lst x k2 tl3 ∧ ∃ (by_4 : List Int) (of_4 : List Int) (a186 : Option Addr) (n190 : Nat) (c187 : Nat) (Lb188 : LH) (a192 : Option Addr) (n196 : Nat) (c193 : Nat) (Lb194 : LH), oyezlaw01_HearHouses_l2 stand house k none_4 tl3 by_4 of_4 = some (by_3, of_3, none_3) ∧ F83 = F1 ∧ L1 = ((b35, .cells #[.int .i64 n2, .slice a28 l2.length c29] 32 (0, 0)) :: ((b34, .cells #[.int .i64 n, .slice a16 n20 c17] 24 (0, 0)) :: ((b2, .cells #[.int .i64 wind, .int .i64 voice] 48 (0, 0)) :: ((b1, .cells #[.int .i64 wide, .slice plots_a plots.length plots_c] 24 (0, 0)) :: (Lb18 ++ (Lb188 ++ (Lb194 ++ (Lb166 ++ [])))))))) ∧ e1.sub [(2, .int .i64 stand), (3, .int .i64 house), (4, .pointer (some ⟨b1, 0, none⟩)), (5, .pointer (some ⟨b2, 0, none⟩)), (9, .pointer (some ⟨b34, 0, none⟩)), (10, .pointer (some ⟨b35, 0, none⟩)), (12, .int .i64 w), (13, .slice a186 n190 c187), (14, .slice a192 n196 c193), (15, .slice a164 n168 c165), (16, .int .i64 n5), (17, .int .i64 n6), (18, .int .i64 k), (62, .slice a87 l3.length c88), (63, .int .i64 (l3.length : Int)), (64, .int .i64 k), (82, .slice a146 x.length c147), (83, .int .i64 (x.length : Int)), (84, .int .i64 k2)] ∧ SlR K.w0.heap.size 3 1 (iE .i64) F1 a186 n190 c187 by_4 Lb188 ∧ SlR K.w0.heap.size 3 1 (iE .i64) F1 a192 n196 c193 of_4 Lb194) _ (m0 kr ⟨_, _, rfl, Lst.start _, by_2, of_2, a90, n94, c91, Lb92, a96, n100, c97, Lb98, r171, rfl, rfl, (sc rfl (sc rfl (sc rfl (sc rfl (sc rfl (sc rfl (sc rfl (sc rfl (sc rfl (sc rfl (sc rfl (sc rfl (sc rfl (sc rfl (sc rfl (sc rfl (sc rfl (sc rfl (sc rfl (sn _)))))))))))))))))))), hz93, hz99⟩) ?_
         rintro fu2 e1 _ _ ⟨tl3, k2, hn199, hk198, by_4, of_4, a186, n190, c187, Lb188, a192, n196, c193, Lb194, r200, rfl, rfl, he201, hz189, hz195⟩
         refine shW_env _ he201 ?_; clear he201
         refine wsr ?_
         refine ov (v_lssK rfl rfl) rfl ?_
         refine shO_nil (shW_seq ?_)
         refine shW_condP rfl (fun c203 => ?_) (fun c203 => ?_)
         · obtain ⟨x3, tl4, rfl, hx205, g206, hk204⟩ := Lst.succ hk198 c203
           rw [oyezlaw01_HearHouses_l2] at r200
           refine shW_skip (shW_seq ?_)
           refine shW_block ?_
           refine wsr ?_
           obtain ⟨b207, o208, c209, vs210, ha211, hs212, hle213, rfl, hl214, hc215⟩ := RowR.at (iE_ok _) h148 ((b35, .cells #[.int .i64 n2, .slice a28 l2.length c29] 32 (0, 0)) :: ((b34, .cells #[.int .i64 n, .slice a16 n20 c17] 24 (0, 0)) :: ((b2, .cells #[.int .i64 wind, .int .i64 voice] 48 (0, 0)) :: ((b1, .cells #[.int .i64 wide, .slice plots_a plots.length plots_c] 24 (0, 0)) :: (Lb18 ++ (Lb188 ++ (Lb194 ++ (Lb166 ++ [])))))))) g206.1 hx205
           refine ov (v_indexO Try.underlying26 Try.sizeOf3 rfl ha211 rfl g206) rfl ?_
           refine ov (v_load Try.isAgg3 rfl hs212 (hc215 0 (by decide))) rfl ?_
           refine oa rfl rfl (shO_nil ?_)
           obtain ⟨by_5, h222, r223⟩ := b1_ok r200; clear r200
           refine shW_join (fun e1 F1 L1 => ∃ (a216 : Option Addr) (n220 : Nat) (c217 : Nat) (Lb218 : LH), F83 = F1 ∧ L1 = ((b35, .cells #[.int .i64 n2, .slice a28 l2.length c29] 32 (0, 0)) :: ((b34, .cells #[.int .i64 n, .slice a16 n20 c17] 24 (0, 0)) :: ((b2, .cells #[.int .i64 wind, .int .i64 voice] 48 (0, 0)) :: ((b1, .cells #[.int .i64 wide, .slice plots_a plots.length plots_c] 24 (0, 0)) :: (Lb18 ++ (Lb218 ++ (Lb194 ++ (Lb166 ++ [])))))))) ∧ e1.sub [(2, .int .i64 stand), (3, .int .i64 house), (4, .pointer (some ⟨b1, 0, none⟩)), (5, .pointer (some ⟨b2, 0, none⟩)), (9, .pointer (some ⟨b34, 0, none⟩)), (10, .pointer (some ⟨b35, 0, none⟩)), (12, .int .i64 w), (13, .slice a216 n220 c217), (14, .slice a192 n196 c193), (15, .slice a164 n168 c165), (16, .int .i64 n5), (17, .int .i64 n6), (18, .int .i64 k), (21, .int .i64 x3), (62, .slice a87 l3.length c88), (63, .int .i64 (l3.length : Int)), (64, .int .i64 k), (82, .slice a146 x.length c147), (83, .int .i64 (x.length : Int)), (84, .int .i64 k2)] ∧ SlR K.w0.heap.size 3 1 (iE .i64) F1 a216 n220 c217 by_5 Lb218) ?_ ?_
           · clear r223
             refine wsr (om rfl rfl (om rfl rfl ?_))
             refine ov (v_eql rfl rfl) rfl ?_
             refine shO_nil ?_
             refine shW_condP rfl (fun c224 => ?_) (fun c224 => ?_)
             · have r225 := ite_t h222 c224; clear h222
               refine shW_region (om rfl rfl (om rfl rfl ?_))
               refine o_buildSlice (cs := #[.int .i64 k]) rfl rfl (buildSlice_all slt_26 [.int .i64 k] rfl (by decide) (by simp [Value.cells]) (by decide)) ?_; intro b226 hb226
               obtain ⟨by_6, h227, g228, r229⟩ := ap_ok r225; clear r225
               refine o_appZ (xs := by_4) (ys := [k]) (zs := by_6) rfl slt_26 rfl rfl (Nat.le_refl _) (fun _ => .c (.c (.c (.c (.c (.s .h)))))) hz189 (SrcR.box (vss := [[.int .i64 k]]) (ys := [k]) 0 rfl (iE_ok _) (.cons rfl .nil) rfl rfl) h227 g228 (by decide) ?_; intro a230 n234 c231 Lb232 hz233
               refine kO (kd kr) ?_
               refine oa rfl rfl (shO_nil ?_)
               obtain rfl := inj1 r229
               exact mi kr ⟨a230, n234, c231, Lb232, rfl, rfl, (sc rfl (sc rfl (sc rfl (sc rfl (sc rfl (sc rfl (sc rfl (sc rfl (sc rfl (sc rfl (sc rfl (sc rfl (sc rfl (sc rfl (sc rfl (sc rfl (sc rfl (sc rfl (sc rfl (sc rfl (sn _))))))))))))))))))))), hz233⟩
             have r236 := ite_f h222 c224; clear h222
             refine shW_skip ?_
             obtain rfl := inj1 r236
             exact mi kr ⟨a186, n190, c187, Lb188, rfl, rfl, (sc rfl (sc rfl (sc rfl (sc rfl (sc rfl (sc rfl (sc rfl (sc rfl (sc rfl (sc rfl (sc rfl (sc rfl (sc rfl (sc rfl (sc rfl (sc rfl (sc rfl (sc rfl (sc rfl (sc rfl (sn _))))))))))))))))))))), hz189⟩
           rintro e1 _ _ ⟨a216, n220, c217, Lb218, rfl, rfl, he237, hz219⟩
           refine shW_env _ he237 ?_; clear he237
           refine wsr (om rfl rfl (om rfl rfl ?_))
           refine ov (v_eql rfl rfl) rfl ?_
           refine shO_nil ?_
           refine shW_condP rfl (fun c238 => ?_) (fun c238 => ?_)
           · have r239 := ite_t r223 c238; clear r223
             refine shW_region (om rfl rfl (om rfl rfl ?_))
             refine o_buildSlice (cs := #[.int .i64 x3]) rfl rfl (buildSlice_all slt_26 [.int .i64 x3] rfl (by decide) (by simp [Value.cells]) (by decide)) ?_; intro b240 hb240
             obtain ⟨of_5, h241, g242, r243⟩ := ap_ok r239; clear r239
             refine o_appZ (xs := of_4) (ys := [x3]) (zs := of_5) rfl slt_26 rfl rfl (Nat.le_refl _) (fun _ => .c (.c (.c (.c (.c (.s (.s .h))))))) hz195 (SrcR.box (vss := [[.int .i64 x3]]) (ys := [x3]) 0 rfl (iE_ok _) (.cons rfl .nil) rfl rfl) h241 g242 (by decide) ?_; intro a244 n248 c245 Lb246 hz247
             refine kO (kd kr) ?_
             refine oa rfl rfl (shO_nil (inBlock_n (id := 3) (shW_region ?_)))
             refine ov (v_add rfl rfl (Lst.r64 hk198 c203 (RowR.lt h148))) rfl ?_
             refine om rfl rfl (shO_nil ?_)
             subst hn199; exact le kr ⟨_, _, rfl, hk204, by_5, of_5, a216, n220, c217, Lb218, a244, n248, c245, Lb246, r243, rfl, rfl, (sc rfl (sc rfl (sc rfl (sc rfl (sc rfl (sc rfl (sc rfl (sc rfl (sc rfl (sc rfl (sc rfl (sc rfl (sc rfl (sc rfl (sc rfl (sc rfl (sc rfl (sc rfl (sc rfl (sn _)))))))))))))))))))), hz219, hz247⟩
           have r250 := ite_f r223 c238; clear r223
           refine shW_skip (inBlock_n (id := 3) (shW_region ?_))
           refine ov (v_add rfl rfl (Lst.r64 hk198 c203 (RowR.lt h148))) rfl ?_
           refine om rfl rfl (shO_nil ?_)
           subst hn199; exact le kr ⟨_, _, rfl, hk204, by_5, of_4, a216, n220, c217, Lb218, a192, n196, c193, Lb194, r250, rfl, rfl, (sc rfl (sc rfl (sc rfl (sc rfl (sc rfl (sc rfl (sc rfl (sc rfl (sc rfl (sc rfl (sc rfl (sc rfl (sc rfl (sc rfl (sc rfl (sc rfl (sc rfl (sc rfl (sc rfl (sn _)))))))))))))))))))), hz219, hz195⟩
         obtain rfl := Lst.zero hk198 c203
         rw [oyezlaw01_HearHouses_l2] at r200
         refine shW_exit (andThen_exit (andThen_exit ?_))
         refine inBlock_exit ?_
         refine inBlock_n (id := 1) ?_
         obtain ⟨rfl, rfl, rfl⟩ := inj3 r200
         exact mi kr ⟨a186, n190, c187, Lb188, a192, n196, c193, Lb194, a164, n168, c165, Lb166, rfl, rfl, (sc rfl (sc rfl (sc rfl (sc rfl (sc rfl (sc rfl (sc rfl (sc rfl (sc rfl (sc rfl (sc rfl (sc rfl (sc rfl (sc rfl (sc rfl (sn _)))))))))))))))), hz189, hz195, hz167⟩
       rintro e1 _ _ ⟨a117, n121, c118, Lb119, a123, n127, c124, Lb125, a129, n133, c130, Lb131, rfl, rfl, he251, hz120, hz126, hz132⟩
       refine shW_env _ he251 ?_; clear he251
       refine shW_region ?_
       refine ov (v_add rfl rfl (Lst.r64 hk108 c113 (RowR.lt h89))) rfl ?_
       refine om rfl rfl (shO_nil ?_)
       subst hn109; exact le kr ⟨_, _, rfl, hk114, by_3, of_3, none_3, a117, n121, c118, Lb119, a123, n127, c124, Lb125, a129, n133, c130, Lb131, r136, rfl, rfl, (sc rfl (sc rfl (sc rfl (sc rfl (sc rfl (sc rfl (sc rfl (sc rfl (sc rfl (sc rfl (sc rfl (sc rfl (sc rfl (sc rfl (sc rfl (sn _)))))))))))))))), hz120, hz126, hz132⟩
     obtain rfl := Lst.zero hk108 c113
     rw [oyezlaw01_HearHouses_l1] at r110
     refine shW_exit (andThen_exit (andThen_exit ?_))
     refine inBlock_exit ?_
     obtain ⟨rfl, rfl, rfl, rfl, rfl, rfl⟩ := inj6 r110
     exact mf kr ⟨a28, c29, a90, n94, c91, Lb92, a96, n100, c97, Lb98, a102, n106, c103, Lb104, (hF79.trans hF84), rfl, (sc rfl (sc rfl (sc rfl (sc rfl (sc rfl (sc rfl (sc rfl (sc rfl (sc rfl (sc rfl (sc rfl (sc rfl (sn _))))))))))))), h80, hz93, hz99, hz105⟩
   have r252 := ite_f h70 c72; clear h70
   refine shW_skip ?_
   obtain rfl := (SlR.caps hz31).1
   refine shmz_freezeR (Nat.le_refl _) (iE_ok _) (fC (fC (fC (fC (fS fP))))) hz31 ?_; intro F253 hF254 h255
   replace h_plots := h_plots.mono (iE_ok _) hF254
   replace hz19 := hz19.mono (iE_ok _) hF254
   obtain ⟨rfl, rfl, rfl, rfl, rfl, rfl⟩ := inj6 r252
   exact mf (kc (kc (kc (kc (ka (ke (ke (ke kr)))))))) ⟨a28, c29, none, 0, 0, [], none, 0, 0, [], none, 0, 0, [], hF254, rfl, (sc rfl (sc rfl (sc rfl (sc rfl (sc rfl (sc rfl (sc rfl (sc rfl (sc rfl (sc rfl (sc rfl (sc rfl (sn _))))))))))))), h255, SlR.nil _ _ _ _ _, SlR.nil _ _ _ _ _, SlR.nil _ _ _ _ _⟩
 rintro e1 F257 _ ⟨a49, c50, a52, n56, c53, Lb54, a58, n62, c59, Lb60, a64, n68, c65, Lb66, hF258, rfl, he256, h51, hz55, hz61, hz67⟩
 refine shW_env _ he256 ?_; clear he256
 replace h_plots := h_plots.mono (iE_ok _) hF258
 replace hz19 := hz19.mono (iE_ok _) hF258
 obtain ⟨by_7, h265, r266⟩ := b1_ok r71; clear r71
 refine shW_join (fun e1 F1 L1 => ∃ (a259 : Option Addr) (n263 : Nat) (c260 : Nat) (Lb261 : LH), F257 = F1 ∧ L1 = ((b35, .cells #[.int .i64 n2, .slice a49 x_plots.length c50] 32 (0, 0)) :: ((b34, .cells #[.int .i64 n, .slice a16 n20 c17] 24 (0, 0)) :: ((b2, .cells #[.int .i64 wind, .int .i64 voice] 48 (0, 0)) :: ((b1, .cells #[.int .i64 wide, .slice plots_a plots.length plots_c] 24 (0, 0)) :: (Lb18 ++ (Lb261 ++ (Lb60 ++ (Lb66 ++ [])))))))) ∧ e1.sub [(2, .int .i64 stand), (3, .int .i64 house), (4, .pointer (some ⟨b1, 0, none⟩)), (5, .pointer (some ⟨b2, 0, none⟩)), (9, .pointer (some ⟨b34, 0, none⟩)), (10, .pointer (some ⟨b35, 0, none⟩)), (12, .int .i64 w), (13, .slice a259 n263 c260), (14, .slice a58 n62 c59), (15, .slice a64 n68 c65), (16, .int .i64 u), (17, .int .i64 v)] ∧ SlR K.w0.heap.size 3 1 (iE .i64) F1 a259 n263 c260 by_7 Lb261) ?_ ?_
 · clear r266
   refine wsr (om rfl rfl ?_)
   refine ov (v_neq rfl rfl) rfl ?_
   refine shO_nil ?_
   refine shW_condP rfl (fun c267 => ?_) (fun c267 => ?_)
   · have r268 := ite_t h265 c267; clear h265
     refine shW_region (oa rfl rfl (shO_nil ?_))
     obtain rfl := inj1 r268
     exact mi (kc (kc (kc (kc (ka (ke (kx kr))))))) ⟨none, 0, 0, [], rfl, rfl, (sc rfl (sc rfl (sc rfl (sc rfl (sc rfl (sc rfl (sc rfl (sc rfl (sc rfl (sc rfl (sc rfl (sc rfl (sn _))))))))))))), SlR.nil _ _ _ _ _⟩
   have r269 := ite_f h265 c267; clear h265
   refine shW_skip ?_
   obtain rfl := inj1 r269
   exact mi kr ⟨a52, n56, c53, Lb54, rfl, rfl, (sc rfl (sc rfl (sc rfl (sc rfl (sc rfl (sc rfl (sc rfl (sc rfl (sc rfl (sc rfl (sc rfl (sc rfl (sn _))))))))))))), hz55⟩
 rintro e1 _ _ ⟨a259, n263, c260, Lb261, rfl, rfl, he270, hz262⟩
 refine shW_env _ he270 ?_; clear he270
 obtain ⟨of_6, h277, r278⟩ := b1_ok r266; clear r266
 refine shW_join (fun e1 F1 L1 => ∃ (a271 : Option Addr) (n275 : Nat) (c272 : Nat) (Lb273 : LH), F257 = F1 ∧ L1 = ((b35, .cells #[.int .i64 n2, .slice a49 x_plots.length c50] 32 (0, 0)) :: ((b34, .cells #[.int .i64 n, .slice a16 n20 c17] 24 (0, 0)) :: ((b2, .cells #[.int .i64 wind, .int .i64 voice] 48 (0, 0)) :: ((b1, .cells #[.int .i64 wide, .slice plots_a plots.length plots_c] 24 (0, 0)) :: (Lb18 ++ (Lb261 ++ (Lb273 ++ (Lb66 ++ [])))))))) ∧ e1.sub [(2, .int .i64 stand), (3, .int .i64 house), (4, .pointer (some ⟨b1, 0, none⟩)), (5, .pointer (some ⟨b2, 0, none⟩)), (9, .pointer (some ⟨b34, 0, none⟩)), (10, .pointer (some ⟨b35, 0, none⟩)), (12, .int .i64 w), (13, .slice a259 n263 c260), (14, .slice a271 n275 c272), (15, .slice a64 n68 c65), (16, .int .i64 u), (17, .int .i64 v)] ∧ SlR K.w0.heap.size 3 1 (iE .i64) F1 a271 n275 c272 of_6 Lb273) ?_ ?_
 · clear r278
   refine wsr (om rfl rfl ?_)
   refine ov (v_neq rfl rfl) rfl ?_
   refine shO_nil ?_
   refine shW_condP rfl (fun c279 => ?_) (fun c279 => ?_)
   · have r280 := ite_t h277 c279; clear h277
     refine shW_region (oa rfl rfl (shO_nil ?_))
     obtain rfl := inj1 r280
     exact mi (kc (kc (kc (kc (ka (ka (ke (kx kr)))))))) ⟨none, 0, 0, [], rfl, rfl, (sc rfl (sc rfl (sc rfl (sc rfl (sc rfl (sc rfl (sc rfl (sc rfl (sc rfl (sc rfl (sc rfl (sc rfl (sn _))))))))))))), SlR.nil _ _ _ _ _⟩
   have r281 := ite_f h277 c279; clear h277
   refine shW_skip ?_
   obtain rfl := inj1 r281
   exact mi kr ⟨a58, n62, c59, Lb60, rfl, rfl, (sc rfl (sc rfl (sc rfl (sc rfl (sc rfl (sc rfl (sc rfl (sc rfl (sc rfl (sc rfl (sc rfl (sc rfl (sn _))))))))))))), hz61⟩
 rintro e1 _ _ ⟨a271, n275, c272, Lb273, rfl, rfl, he282, hz274⟩
 refine shW_env _ he282 ?_; clear he282
 refine wsr ?_
 refine ov (v_loadA (cs := #[.int .i64 n, .slice a16 n20 c17]) Try.isAgg24 Try.sizeOf24 rfl (Has.own 1 rfl) (Nat.le_of_ble_eq_true rfl) rfl) rfl ?_
 refine ov (v_loadA (cs := #[.int .i64 wind, .int .i64 voice]) Try.isAgg48 Try.sizeOf48 rfl (Has.own 2 rfl) (Nat.le_of_ble_eq_true rfl) rfl) rfl ?_
 refine om rfl rfl ?_
 obtain ⟨l4, n7, h283, r284⟩ := b2_ok r278; clear r278
 refine o_callTO (Lb := []) (Lt := Lb18 ++ []) (Lr := (b35, .cells #[.int .i64 n2, .slice a49 x_plots.length c50] 32 (0, 0)) :: ((b34, .cells #[.int .i64 n, .slice a16 n20 c17] 24 (0, 0)) :: ((b2, .cells #[.int .i64 wind, .int .i64 voice] 48 (0, 0)) :: ((b1, .cells #[.int .i64 wide, .slice plots_a plots.length plots_c] 24 (0, 0)) :: (Lb261 ++ (Lb273 ++ (Lb66 ++ []))))))) rfl Try.call52 rfl rfl rfl (pT ((fC (fC (fC (fC fP)))).trans (pA pR)) (ln (lp (ln rfl)))) (fun F2 h2 h3 => by rw [(SlR.caps hz19).1]; exact hear_Houses_w (hz19.row (iE_ok _) h2 (fun p hp => h3 p (List.mem_append_left _ hp))) h283) (fun _ _ _ _ hq => by obtain ⟨a289, n293, c290, Lb291, rfl, rfl, hz292⟩ := hq; exact ⟨_, _, _, _, rfl, rfl, hz292.flat (fun _ _ h => h)⟩) ?_; rintro _ F285 _ hF286 hd288 hn287 ⟨a289, n293, c290, Lb291, rfl, rfl, hz292⟩
 replace h_plots := h_plots.mono (iE_ok _) hF286
 replace h51 := h51.mono (iE_ok _) hF286
 replace hz19 := hz19.mono (iE_ok _) hF286
 replace hz262 := hz262.mono (iE_ok _) hF286
 replace hz274 := hz274.mono (iE_ok _) hF286
 replace hz67 := hz67.mono (iE_ok _) hF286
 have hn295 := newp (Lb' := []) (by rfl) hd288 hn287
 replace hz292 := hz292.new fun p hp => hn295 p (by simp [hp])
 refine shO_L (lp (ln (lp (ln rfl)))) ?_
 refine kO (kf (fS (fS fO)) (kf (fS (fS fO)) (kf (fS (fS fO)) (kf (fS (fS fO)) kr)))) ?_
 refine om rfl rfl (ox rfl rfl rfl (ox rfl rfl rfl (oa rfl rfl (oa rfl rfl (nsr ?_)))))
 refine ov (v_loadA (cs := #[.int .i64 n, .slice a16 n20 c17]) Try.isAgg24 Try.sizeOf24 rfl (Has.own 1 rfl) (Nat.le_of_ble_eq_true rfl) rfl) rfl ?_
 refine ov (v_loadA (cs := #[.int .i64 wind, .int .i64 voice]) Try.isAgg48 Try.sizeOf48 rfl (Has.own 2 rfl) (Nat.le_of_ble_eq_true rfl) rfl) rfl ?_
 refine om rfl rfl ?_
 obtain ⟨l5, n8, h296, r297⟩ := b2_ok r284; clear r284
 refine o_callTO (Lb := []) (Lt := Lb18 ++ []) (Lr := (b35, .cells #[.int .i64 n2, .slice a49 x_plots.length c50] 32 (0, 0)) :: ((b34, .cells #[.int .i64 n, .slice a16 n20 c17] 24 (0, 0)) :: ((b2, .cells #[.int .i64 wind, .int .i64 voice] 48 (0, 0)) :: ((b1, .cells #[.int .i64 wide, .slice plots_a plots.length plots_c] 24 (0, 0)) :: (Lb291 ++ (Lb261 ++ (Lb273 ++ (Lb66 ++ [])))))))) rfl Try.call53 rfl rfl rfl (pT ((fC (fC (fC (fC (fS fP))))).trans (pA pR)) (ln (lp (ln rfl)))) (fun F2 h2 h3 => by rw [(SlR.caps hz19).1]; exact hear_Stands_w (hz19.row (iE_ok _) h2 (fun p hp => h3 p (List.mem_append_left _ hp))) h296) (fun _ _ _ _ hq => by obtain ⟨a302, n306, c303, Lb304, rfl, rfl, hz305⟩ := hq; exact ⟨_, _, _, _, rfl, rfl, hz305.flat (fun _ _ h => h)⟩) ?_; rintro _ F298 _ hF299 hd301 hn300 ⟨a302, n306, c303, Lb304, rfl, rfl, hz305⟩
 replace h_plots := h_plots.mono (iE_ok _) hF299
 replace h51 := h51.mono (iE_ok _) hF299
 replace hz19 := hz19.mono (iE_ok _) hF299
 replace hz262 := hz262.mono (iE_ok _) hF299
 replace hz274 := hz274.mono (iE_ok _) hF299
 replace hz67 := hz67.mono (iE_ok _) hF299
 replace hz292 := hz292.mono (iE_ok _) hF299
 have hn308 := newp (Lb' := []) (by rfl) hd301 hn300
 replace hz305 := hz305.new fun p hp => hn308 p (by simp [hp])
 refine shO_L (lp (ln (lp (ln rfl)))) ?_
 refine kO (kf (fS (fS fO)) (kf (fS (fS fO)) (kf (fS (fS fO)) (kf (fS (fS fO)) kr)))) ?_
 refine om rfl rfl (ox rfl rfl rfl (ox rfl rfl rfl (oa rfl rfl (oa rfl rfl (nsr ?_)))))
 refine ov (v_loadA (cs := #[.int .i64 n, .slice a16 n20 c17]) Try.isAgg24 Try.sizeOf24 rfl (Has.own 1 rfl) (Nat.le_of_ble_eq_true rfl) rfl) rfl ?_
 refine ov (v_loadA (cs := #[.int .i64 wind, .int .i64 voice]) Try.isAgg48 Try.sizeOf48 rfl (Has.own 2 rfl) (Nat.le_of_ble_eq_true rfl) rfl) rfl ?_
 obtain ⟨l6, n9, h309, r310⟩ := b2_ok r297; clear r297
 refine o_callTO (Lb := []) (Lt := Lb18 ++ []) (Lr := (b35, .cells #[.int .i64 n2, .slice a49 x_plots.length c50] 32 (0, 0)) :: ((b34, .cells #[.int .i64 n, .slice a16 n20 c17] 24 (0, 0)) :: ((b2, .cells #[.int .i64 wind, .int .i64 voice] 48 (0, 0)) :: ((b1, .cells #[.int .i64 wide, .slice plots_a plots.length plots_c] 24 (0, 0)) :: (Lb304 ++ (Lb291 ++ (Lb261 ++ (Lb273 ++ (Lb66 ++ []))))))))) rfl Try.call54 rfl rfl rfl (pT ((fC (fC (fC (fC (fS fP))))).trans (pA pR)) (ln (lp (ln rfl)))) (fun F2 h2 h3 => by rw [(SlR.caps hz19).1]; exact hear_Deaf_w (hz19.row (iE_ok _) h2 (fun p hp => h3 p (List.mem_append_left _ hp))) h309) (fun _ _ _ _ hq => by obtain ⟨a315, n319, c316, Lb317, rfl, rfl, hz318⟩ := hq; exact ⟨_, _, _, _, rfl, rfl, hz318.flat (fun _ _ h => h)⟩) ?_; rintro _ F311 _ hF312 hd314 hn313 ⟨a315, n319, c316, Lb317, rfl, rfl, hz318⟩
 replace h_plots := h_plots.mono (iE_ok _) hF312
 replace h51 := h51.mono (iE_ok _) hF312
 replace hz19 := hz19.mono (iE_ok _) hF312
 replace hz262 := hz262.mono (iE_ok _) hF312
 replace hz274 := hz274.mono (iE_ok _) hF312
 replace hz67 := hz67.mono (iE_ok _) hF312
 replace hz292 := hz292.mono (iE_ok _) hF312
 replace hz305 := hz305.mono (iE_ok _) hF312
 have hn321 := newp (Lb' := []) (by rfl) hd314 hn313
 replace hz318 := hz318.new fun p hp => hn321 p (by simp [hp])
 refine shO_L (lp (ln (lp (ln rfl)))) ?_
 refine kO (kf (fS (fS fO)) (kf (fS (fS fO)) (kf (fS (fS fO)) (kf (fS (fS fO)) kr)))) ?_
 refine om rfl rfl (ox rfl rfl rfl (ox rfl rfl rfl (oa rfl rfl (oa rfl rfl (shO_nil (shW_seq ?_))))))
 obtain ⟨k3, h322, r323⟩ := b1_ok r310; clear r310
 refine shW_join (fun e1 F1 L1 => F311 = F1 ∧ L1 = ((b35, .cells #[.int .i64 n2, .slice a49 x_plots.length c50] 32 (0, 0)) :: ((b34, .cells #[.int .i64 n, .slice a16 n20 c17] 24 (0, 0)) :: ((b2, .cells #[.int .i64 wind, .int .i64 voice] 48 (0, 0)) :: ((b1, .cells #[.int .i64 wide, .slice plots_a plots.length plots_c] 24 (0, 0)) :: (Lb18 ++ []))))) ∧ e1.sub [(2, .int .i64 stand), (3, .int .i64 house), (4, .pointer (some ⟨b1, 0, none⟩)), (5, .pointer (some ⟨b2, 0, none⟩)), (9, .pointer (some ⟨b34, 0, none⟩)), (10, .pointer (some ⟨b35, 0, none⟩)), (158, .bool k3)]) ?_ ?_
 · clear r323
   refine shW_region (om rfl rfl (om rfl rfl ?_))
   refine ov (v_neq rfl rfl) rfl ?_
   refine om rfl rfl ?_
   by_cases c324 : n7 ≠ u
   · have r325 := ite_t h322 c324; clear h322
     refine shO_off (b' := true) 131 rfl (Env.isT rfl c324) rfl rfl (shO_off (b' := true) 131 rfl (Env.isT rfl c324) rfl rfl (shO_off (b' := true) 131 rfl (Env.isT rfl c324) rfl rfl ?_))
     refine ov (v_pick_t (evD_true rfl c324) rfl) rfl ?_
     refine om rfl rfl (shO_off (b' := true) 136 rfl rfl rfl rfl (shO_off (b' := true) 136 rfl rfl rfl rfl (shO_off (b' := true) 136 rfl rfl rfl rfl ?_)))
     refine ov (v_pick_t rfl rfl) rfl ?_
     refine om rfl rfl (shO_off (b' := true) 141 rfl rfl rfl rfl (shO_off (b' := true) 141 rfl rfl rfl rfl (shO_off (b' := true) 141 rfl rfl rfl rfl (shO_off (b' := true) 141 rfl rfl rfl rfl ?_))))
     refine ov (v_pick_t rfl rfl) rfl ?_
     refine om rfl rfl (shO_off (b' := true) 147 rfl rfl rfl rfl (shO_off (b' := true) 147 rfl rfl rfl rfl (shO_off (b' := true) 147 rfl rfl rfl rfl (shO_off (b' := true) 147 rfl rfl rfl rfl ?_))))
     refine ov (v_pick_t rfl rfl) rfl ?_
     refine om rfl rfl (shO_off (b' := true) 153 rfl rfl rfl rfl (shO_off (b' := true) 153 rfl rfl rfl rfl (shO_off (b' := true) 153 rfl rfl rfl rfl (shO_off (b' := true) 153 rfl rfl rfl rfl ?_))))
     refine ov (v_pick_t rfl rfl) rfl ?_
     refine shO_nil ?_
     obtain rfl := inj1 r325
     exact mi (kc (kc (kc (kc (kx (ka kn)))))) ⟨rfl, rfl, (sc rfl (sc rfl (sc rfl (sc rfl (sc rfl (sc rfl (sc rfl (sn _))))))))⟩
   have r326 := ite_f h322 c324; clear h322
   refine shO_on (b := false) 131 rfl (Env.isF rfl c324) (om rfl rfl (shO_on (b := false) 131 rfl (Env.isF rfl c324) (om rfl rfl (shO_on (b := false) 131 rfl (Env.isF rfl c324) ?_))))
   refine ov (v_neq rfl rfl) rfl ?_
   refine ov (v_pick_f (evD_false rfl c324) rfl) rfl ?_
   refine om rfl rfl ?_
   by_cases c327 : n8 ≠ v
   · have r328 := ite_t r326 c327; clear r326
     refine shO_off (b' := true) 136 rfl (Env.isT rfl c327) rfl rfl (shO_off (b' := true) 136 rfl (Env.isT rfl c327) rfl rfl (shO_off (b' := true) 136 rfl (Env.isT rfl c327) rfl rfl ?_))
     refine ov (v_pick_t (evD_true rfl c327) rfl) rfl ?_
     refine om rfl rfl (shO_off (b' := true) 141 rfl rfl rfl rfl (shO_off (b' := true) 141 rfl rfl rfl rfl (shO_off (b' := true) 141 rfl rfl rfl rfl (shO_off (b' := true) 141 rfl rfl rfl rfl ?_))))
     refine ov (v_pick_t rfl rfl) rfl ?_
     refine om rfl rfl (shO_off (b' := true) 147 rfl rfl rfl rfl (shO_off (b' := true) 147 rfl rfl rfl rfl (shO_off (b' := true) 147 rfl rfl rfl rfl (shO_off (b' := true) 147 rfl rfl rfl rfl ?_))))
     refine ov (v_pick_t rfl rfl) rfl ?_
     refine om rfl rfl (shO_off (b' := true) 153 rfl rfl rfl rfl (shO_off (b' := true) 153 rfl rfl rfl rfl (shO_off (b' := true) 153 rfl rfl rfl rfl (shO_off (b' := true) 153 rfl rfl rfl rfl ?_))))
     refine ov (v_pick_t rfl rfl) rfl ?_
     refine shO_nil ?_
     obtain rfl := inj1 r328
     exact mi (kc (kc (kc (kc (kx (ka kn)))))) ⟨rfl, rfl, (sc rfl (sc rfl (sc rfl (sc rfl (sc rfl (sc rfl (sc rfl (sn _))))))))⟩
   have r329 := ite_f r326 c327; clear r326
   refine shO_on (b := false) 136 rfl (Env.isF rfl c327) (om rfl rfl (shO_on (b := false) 136 rfl (Env.isF rfl c327) (om rfl rfl (shO_on (b := false) 136 rfl (Env.isF rfl c327) ?_))))
   refine ov (v_neq rfl rfl) rfl ?_
   refine ov (v_pick_f (evD_false rfl c327) rfl) rfl ?_
   refine om rfl rfl ?_
   by_cases c330 : n9 ≠ w
   · have r331 := ite_t r329 c330; clear r329
     refine shO_off (b' := true) 141 rfl (Env.isT rfl c330) rfl rfl (shO_off (b' := true) 141 rfl (Env.isT rfl c330) rfl rfl (shO_off (b' := true) 141 rfl (Env.isT rfl c330) rfl rfl (shO_off (b' := true) 141 rfl (Env.isT rfl c330) rfl rfl ?_)))
     refine ov (v_pick_t (evD_true rfl c330) rfl) rfl ?_
     refine om rfl rfl (shO_off (b' := true) 147 rfl rfl rfl rfl (shO_off (b' := true) 147 rfl rfl rfl rfl (shO_off (b' := true) 147 rfl rfl rfl rfl (shO_off (b' := true) 147 rfl rfl rfl rfl ?_))))
     refine ov (v_pick_t rfl rfl) rfl ?_
     refine om rfl rfl (shO_off (b' := true) 153 rfl rfl rfl rfl (shO_off (b' := true) 153 rfl rfl rfl rfl (shO_off (b' := true) 153 rfl rfl rfl rfl (shO_off (b' := true) 153 rfl rfl rfl rfl ?_))))
     refine ov (v_pick_t rfl rfl) rfl ?_
     refine shO_nil ?_
     obtain rfl := inj1 r331
     exact mi (kc (kc (kc (kc (kx (ka kn)))))) ⟨rfl, rfl, (sc rfl (sc rfl (sc rfl (sc rfl (sc rfl (sc rfl (sc rfl (sn _))))))))⟩
   have r332 := ite_f r329 c330; clear r329
   refine shO_on (b := false) 141 rfl (Env.isF rfl c330) (om rfl rfl (shO_on (b := false) 141 rfl (Env.isF rfl c330) (om rfl rfl (shO_on (b := false) 141 rfl (Env.isF rfl c330) ?_))))
   obtain ⟨ok3, h333, r334⟩ := b1_ok r332; clear r332
   refine o_callT (Lt := Lb291 ++ (Lb261 ++ [])) (Lr := (b35, .cells #[.int .i64 n2, .slice a49 x_plots.length c50] 32 (0, 0)) :: ((b34, .cells #[.int .i64 n, .slice a16 n20 c17] 24 (0, 0)) :: ((b2, .cells #[.int .i64 wind, .int .i64 voice] 48 (0, 0)) :: ((b1, .cells #[.int .i64 wide, .slice plots_a plots.length plots_c] 24 (0, 0)) :: (Lb317 ++ (Lb18 ++ (Lb304 ++ (Lb273 ++ (Lb66 ++ []))))))))) rfl Try.call23 rfl rfl rfl (pT ((fC (fC (fC (fC (fS (fS (fS fP))))))).trans (pA ((fC (fC (fC (fC (fS (fS (fS fP))))))).trans (pA pR)))) (lp (lp (ln rfl)))) (fun F2 h2 h3 => by rw [(SlR.caps hz292).1]; rw [(SlR.caps hz262).1]; exact oyezkit_Like_int_w (hz292.row (iE_ok _) h2 (fun p hp => h3 p (List.mem_append_left _ hp))) (hz262.row (iE_ok _) h2 (fun p hp => h3 p (List.mem_append_right _ (List.mem_append_left _ hp)))) h333) ?_
   refine shO_on (b := false) 141 rfl (Env.isF rfl c330) ?_
   refine ov (v_notB rfl) rfl ?_
   refine ov (v_pick_f (evD_false rfl c330) rfl) rfl ?_
   refine om rfl rfl ?_
   rcases bool_two (!ok3) with c335 | c335
   · have r336 := bt r334 c335; clear r334
     refine shO_off (b' := true) 147 rfl (EnvB rfl c335) rfl rfl (shO_off (b' := true) 147 rfl (EnvB rfl c335) rfl rfl (shO_off (b' := true) 147 rfl (EnvB rfl c335) rfl rfl (shO_off (b' := true) 147 rfl (EnvB rfl c335) rfl rfl ?_)))
     refine ov (v_pick_t (evB rfl c335) rfl) rfl ?_
     refine om rfl rfl (shO_off (b' := true) 153 rfl rfl rfl rfl (shO_off (b' := true) 153 rfl rfl rfl rfl (shO_off (b' := true) 153 rfl rfl rfl rfl (shO_off (b' := true) 153 rfl rfl rfl rfl ?_))))
     refine ov (v_pick_t rfl rfl) rfl ?_
     refine shO_nil ?_
     obtain rfl := inj1 r336
     exact mi (kc (kc (kc (kc (kx (ka kn)))))) ⟨rfl, rfl, (sc rfl (sc rfl (sc rfl (sc rfl (sc rfl (sc rfl (sc rfl (sn _))))))))⟩
   have r337 := bf r334 c335; clear r334
   refine shO_on (b := false) 147 rfl (EnvB rfl c335) (om rfl rfl (shO_on (b := false) 147 rfl (EnvB rfl c335) (om rfl rfl (shO_on (b := false) 147 rfl (EnvB rfl c335) ?_))))
   obtain ⟨ok4, h338, r339⟩ := b1_ok r337; clear r337
   refine o_callT (Lt := Lb304 ++ (Lb273 ++ [])) (Lr := (b35, .cells #[.int .i64 n2, .slice a49 x_plots.length c50] 32 (0, 0)) :: ((b34, .cells #[.int .i64 n, .slice a16 n20 c17] 24 (0, 0)) :: ((b2, .cells #[.int .i64 wind, .int .i64 voice] 48 (0, 0)) :: ((b1, .cells #[.int .i64 wide, .slice plots_a plots.length plots_c] 24 (0, 0)) :: (Lb317 ++ (Lb18 ++ (Lb291 ++ (Lb261 ++ (Lb66 ++ []))))))))) rfl Try.call23 rfl rfl rfl (pT ((fC (fC (fC (fC (fS (fS fP)))))).trans (pA ((fC (fC (fC (fC (fS (fS (fS (fS fP)))))))).trans (pA pR)))) (lp (lp (ln rfl)))) (fun F2 h2 h3 => by rw [(SlR.caps hz305).1]; rw [(SlR.caps hz274).1]; exact oyezkit_Like_int_w (hz305.row (iE_ok _) h2 (fun p hp => h3 p (List.mem_append_left _ hp))) (hz274.row (iE_ok _) h2 (fun p hp => h3 p (List.mem_append_right _ (List.mem_append_left _ hp)))) h338) ?_
   refine shO_on (b := false) 147 rfl (EnvB rfl c335) ?_
   refine ov (v_notB rfl) rfl ?_
   refine ov (v_pick_f (evB rfl c335) rfl) rfl ?_
   refine om rfl rfl ?_
   rcases bool_two (!ok4) with c340 | c340
   · have r341 := bt r339 c340; clear r339
     refine shO_off (b' := true) 153 rfl (EnvB rfl c340) rfl rfl (shO_off (b' := true) 153 rfl (EnvB rfl c340) rfl rfl (shO_off (b' := true) 153 rfl (EnvB rfl c340) rfl rfl (shO_off (b' := true) 153 rfl (EnvB rfl c340) rfl rfl ?_)))
     refine ov (v_pick_t (evB rfl c340) rfl) rfl ?_
     refine shO_nil ?_
     obtain rfl := inj1 r341
     exact mi (kc (kc (kc (kc (kx (ka kn)))))) ⟨rfl, rfl, (sc rfl (sc rfl (sc rfl (sc rfl (sc rfl (sc rfl (sc rfl (sn _))))))))⟩
   have r342 := bf r339 c340; clear r339
   refine shO_on (b := false) 153 rfl (EnvB rfl c340) (om rfl rfl (shO_on (b := false) 153 rfl (EnvB rfl c340) (om rfl rfl (shO_on (b := false) 153 rfl (EnvB rfl c340) ?_))))
   obtain ⟨ok5, h343, r344⟩ := b1_ok r342; clear r342
   refine o_callT (Lt := Lb317 ++ (Lb66 ++ [])) (Lr := (b35, .cells #[.int .i64 n2, .slice a49 x_plots.length c50] 32 (0, 0)) :: ((b34, .cells #[.int .i64 n, .slice a16 n20 c17] 24 (0, 0)) :: ((b2, .cells #[.int .i64 wind, .int .i64 voice] 48 (0, 0)) :: ((b1, .cells #[.int .i64 wide, .slice plots_a plots.length plots_c] 24 (0, 0)) :: (Lb18 ++ (Lb304 ++ (Lb291 ++ (Lb261 ++ (Lb273 ++ []))))))))) rfl Try.call23 rfl rfl rfl (pT ((fC (fC (fC (fC fP)))).trans (pA ((fC (fC (fC (fC (fS (fS (fS (fS (fS fP))))))))).trans (pA pR)))) (lp (lp (ln rfl)))) (fun F2 h2 h3 => by rw [(SlR.caps hz318).1]; rw [(SlR.caps hz67).1]; exact oyezkit_Like_int_w (hz318.row (iE_ok _) h2 (fun p hp => h3 p (List.mem_append_left _ hp))) (hz67.row (iE_ok _) h2 (fun p hp => h3 p (List.mem_append_right _ (List.mem_append_left _ hp)))) h343) ?_
   refine shO_on (b := false) 153 rfl (EnvB rfl c340) ?_
   refine ov (v_notB rfl) rfl ?_
   refine ov (v_pick_f (evB rfl c340) rfl) rfl ?_
   refine shO_nil ?_
   obtain rfl := inj1 r344
   exact mi (kc (kc (kc (kc (kx (ka kn)))))) ⟨rfl, rfl, (sc rfl (sc rfl (sc rfl (sc rfl (sc rfl (sc rfl (sc rfl (sn _))))))))⟩
 rintro e1 _ _ ⟨rfl, rfl, he345⟩
 refine shW_env _ he345 ?_; clear he345
 refine shW_cond rfl (fun c346 => ?_) (fun c346 => ?_)
 · have r347 := bt r323 c346; clear r323
   refine wsr (oa rfl rfl (shO_nil ?_))
   refine kW kn ?_
   refine shW_ret (andThen_ret ?_)
   refine q_res1 Try.results9 (res_tmp rfl) (sr) ?_
   obtain rfl := inj1 r347
   exact rfl
 have r348 := bf r323 c346; clear r323
 refine shW_skip ?_
 obtain ⟨w2, h349, r350⟩ := b1_ok r348; clear r348
 refine shW_join (fun e1 F1 L1 => F311 = F1 ∧ L1 = ((b35, .cells #[.int .i64 n2, .slice a49 x_plots.length c50] 32 (0, 0)) :: ((b34, .cells #[.int .i64 n, .slice a16 n20 c17] 24 (0, 0)) :: ((b2, .cells #[.int .i64 wind, .int .i64 voice] 48 (0, 0)) :: ((b1, .cells #[.int .i64 wide, .slice plots_a plots.length plots_c] 24 (0, 0)) :: (Lb18 ++ []))))) ∧ e1.sub [(2, .int .i64 stand), (3, .int .i64 house), (4, .pointer (some ⟨b1, 0, none⟩)), (5, .pointer (some ⟨b2, 0, none⟩)), (9, .pointer (some ⟨b34, 0, none⟩)), (10, .pointer (some ⟨b35, 0, none⟩)), (12, .int .i64 w2)]) ?_ ?_
 · clear r350
   refine wsr ?_
   refine ov (v_loadA (cs := #[.int .i64 n2, .slice a49 x_plots.length c50]) Try.isAgg32 Try.sizeOf32 rfl (Has.own 0 rfl) (Nat.le_of_ble_eq_true rfl) rfl) rfl ?_
   obtain ⟨n10, h351, r352⟩ := b1_ok h349; clear h349
   refine o_callV rfl Try.call34 rfl rfl rfl (oyezref01_Check_w h51 h351) ?_
   refine oa rfl rfl (nsr (om rfl rfl ?_))
   refine ov (v_eql rfl rfl) rfl ?_
   refine shO_nil ?_
   refine shW_condP rfl (fun c353 => ?_) (fun c353 => ?_)
   · have r354 := ite_t r352 c353; clear r352
     refine shW_region ?_
     refine ov (v_fieldAddr fa_48_1 rfl) rfl ?_
     refine ov (v_load Try.isAgg3 rfl (Has.own 2 rfl) rfl) rfl ?_
     obtain ⟨n11, h355, r356⟩ := b1_ok r354; clear r354
     refine o_callV rfl Try.call36 rfl rfl rfl (oyezref01_CheckAir_w h355) ?_
     refine oa rfl rfl (shO_nil ?_)
     obtain rfl := inj1 r356
     exact mi kr ⟨rfl, rfl, (sc rfl (sc rfl (sc rfl (sc rfl (sc rfl (sc rfl (sc rfl (sn _))))))))⟩
   have r357 := ite_f r352 c353; clear r352
   refine shW_skip ?_
   obtain rfl := inj1 r357
   exact mi kr ⟨rfl, rfl, (sc rfl (sc rfl (sc rfl (sc rfl (sc rfl (sc rfl (sc rfl (sn _))))))))⟩
 rintro e1 _ _ ⟨rfl, rfl, he358⟩
 refine shW_env _ he358 ?_; clear he358
 obtain ⟨w3, h359, r360⟩ := b1_ok r350; clear r350
 refine shW_join (fun e1 F1 L1 => F311 = F1 ∧ L1 = ((b35, .cells #[.int .i64 n2, .slice a49 x_plots.length c50] 32 (0, 0)) :: ((b34, .cells #[.int .i64 n, .slice a16 n20 c17] 24 (0, 0)) :: ((b2, .cells #[.int .i64 wind, .int .i64 voice] 48 (0, 0)) :: ((b1, .cells #[.int .i64 wide, .slice plots_a plots.length plots_c] 24 (0, 0)) :: (Lb18 ++ []))))) ∧ e1.sub [(2, .int .i64 stand), (3, .int .i64 house), (4, .pointer (some ⟨b1, 0, none⟩)), (5, .pointer (some ⟨b2, 0, none⟩)), (9, .pointer (some ⟨b34, 0, none⟩)), (10, .pointer (some ⟨b35, 0, none⟩)), (12, .int .i64 w3)]) ?_ ?_
 · clear r360
   refine wsr (om rfl rfl ?_)
   refine ov (v_eql rfl rfl) rfl ?_
   refine shO_nil ?_
   refine shW_condP rfl (fun c361 => ?_) (fun c361 => ?_)
   · have r362 := ite_t h359 c361; clear h359
     refine wsr ?_
     refine ov (v_loadA (cs := #[.int .i64 n2, .slice a49 x_plots.length c50]) Try.isAgg32 Try.sizeOf32 rfl (Has.own 0 rfl) (Nat.le_of_ble_eq_true rfl) rfl) rfl ?_
     refine om rfl rfl ?_
     obtain ⟨n12, h363, r364⟩ := b1_ok r362; clear r362
     refine o_callV rfl Try.call50 rfl rfl rfl (oyezref01_Is_w h51 h363) ?_
     refine oa rfl rfl (nsr (om rfl rfl ?_))
     refine ov (v_eql rfl rfl) rfl ?_
     refine shO_nil ?_
     refine shW_condP rfl (fun c365 => ?_) (fun c365 => ?_)
     · have r366 := ite_t r364 c365; clear r364
       refine shW_region ?_
       refine ov (v_loadA (cs := #[.int .i64 n2, .slice a49 x_plots.length c50]) Try.isAgg32 Try.sizeOf32 rfl (Has.own 0 rfl) (Nat.le_of_ble_eq_true rfl) rfl) rfl ?_
       refine om rfl rfl ?_
       obtain ⟨n13, h367, r368⟩ := b1_ok r366; clear r366
       refine o_callV rfl Try.call50 rfl rfl rfl (oyezref01_Is_w h51 h367) ?_
       refine oa rfl rfl (shO_nil ?_)
       obtain rfl := inj1 r368
       exact mi kr ⟨rfl, rfl, (sc rfl (sc rfl (sc rfl (sc rfl (sc rfl (sc rfl (sc rfl (sn _))))))))⟩
     have r369 := ite_f r364 c365; clear r364
     refine shW_skip ?_
     obtain rfl := inj1 r369
     exact mi kr ⟨rfl, rfl, (sc rfl (sc rfl (sc rfl (sc rfl (sc rfl (sc rfl (sc rfl (sn _))))))))⟩
   have r370 := ite_f h359 c361; clear h359
   refine shW_skip ?_
   obtain rfl := inj1 r370
   exact mi kr ⟨rfl, rfl, (sc rfl (sc rfl (sc rfl (sc rfl (sc rfl (sc rfl (sc rfl (sn _))))))))⟩
 rintro e1 _ _ ⟨rfl, rfl, he371⟩
 refine shW_env _ he371 ?_; clear he371
 refine wsr (oa rfl rfl (shO_nil ?_))
 obtain ⟨winds, h378, r379⟩ := b1_ok r360; clear r360
 refine shW_join (fun e1 F1 L1 => ∃ (a372 : Option Addr) (n376 : Nat) (c373 : Nat) (Lb374 : LH), F311 = F1 ∧ L1 = ((b34, .cells #[.int .i64 n, .slice a16 n20 c17] 24 (0, 0)) :: ((b2, .cells #[.int .i64 wind, .int .i64 voice] 48 (0, 0)) :: ((b1, .cells #[.int .i64 wide, .slice plots_a plots.length plots_c] 24 (0, 0)) :: (Lb18 ++ (Lb374 ++ []))))) ∧ e1.sub [(2, .int .i64 stand), (3, .int .i64 house), (4, .pointer (some ⟨b1, 0, none⟩)), (5, .pointer (some ⟨b2, 0, none⟩)), (9, .pointer (some ⟨b34, 0, none⟩)), (12, .int .i64 w3), (28, .slice a372 n376 c373)] ∧ SlR K.w0.heap.size 25 1 (iE .i64) F1 a372 n376 c373 winds Lb374) ?_ ?_
 · clear r379
   refine wsr (om rfl rfl (shO_nil ?_))
   refine shW_block ?_
   obtain ⟨g386, r387⟩ := gd_ok h378; clear h378
   refine shW_lp (fun fu3 e1 F1 L1 => ∃ (k4 : Int), Ctr 0 5 k4 fu3 ∧ ∃ (winds2 : List Int) (a380 : Option Addr) (n384 : Nat) (c381 : Nat) (Lb382 : LH), oyezlaw01_HearHouses_l3 voice stand house n2 x_plots w3 fu3 k4 winds2 = some winds ∧ F311 = F1 ∧ L1 = ((b35, .cells #[.int .i64 n2, .slice a49 x_plots.length c50] 32 (0, 0)) :: ((b34, .cells #[.int .i64 n, .slice a16 n20 c17] 24 (0, 0)) :: ((b2, .cells #[.int .i64 wind, .int .i64 voice] 48 (0, 0)) :: ((b1, .cells #[.int .i64 wide, .slice plots_a plots.length plots_c] 24 (0, 0)) :: (Lb18 ++ (Lb382 ++ [])))))) ∧ e1.sub [(2, .int .i64 stand), (3, .int .i64 house), (4, .pointer (some ⟨b1, 0, none⟩)), (5, .pointer (some ⟨b2, 0, none⟩)), (9, .pointer (some ⟨b34, 0, none⟩)), (10, .pointer (some ⟨b35, 0, none⟩)), (12, .int .i64 w3), (28, .slice a380 n384 c381), (176, .int .i64 k4)] ∧ SlR K.w0.heap.size 25 1 (iE .i64) F1 a380 n384 c381 winds2 Lb382) _ (m0 (kc (kc (kc (kc (ka (ke kr)))))) ⟨_, Ctr.start _ _, [], none, 0, 0, [], r387, rfl, rfl, (sc rfl (sc rfl (sc rfl (sc rfl (sc rfl (sc rfl (sc rfl (sc rfl (sc rfl (sn _)))))))))), SlR.nil _ _ _ _ _⟩) ?_
   rintro fu3 e1 _ _ ⟨k4, hk388, winds2, a380, n384, c381, Lb382, r390, rfl, rfl, he391, hz383⟩
   refine shW_env _ he391 ?_; clear he391
   refine wsr ?_
   refine ov (v_lssK rfl rfl) rfl ?_
   refine shO_nil (shW_seq ?_)
   refine shW_condP rfl (fun c393 => ?_) (fun c393 => ?_)
   · obtain ⟨fu3, rfl, hk394⟩ := Ctr.succ hk388 c393
     rw [oyezlaw01_HearHouses_l3] at r390
     refine shW_skip (shW_seq ?_)
     refine shW_block ?_
     refine wsr (om rfl rfl (oa rfl rfl (shO_nil ?_)))
     obtain ⟨k5, h395, r396⟩ := b1_ok r390; clear r390
     refine shW_join (fun e1 F1 L1 => F311 = F1 ∧ L1 = ((b35, .cells #[.int .i64 n2, .slice a49 x_plots.length c50] 32 (0, 0)) :: ((b34, .cells #[.int .i64 n, .slice a16 n20 c17] 24 (0, 0)) :: ((b2, .cells #[.int .i64 wind, .int .i64 voice] 48 (0, 0)) :: ((b1, .cells #[.int .i64 wide, .slice plots_a plots.length plots_c] 24 (0, 0)) :: (Lb18 ++ (Lb382 ++ [])))))) ∧ e1.sub [(2, .int .i64 stand), (3, .int .i64 house), (4, .pointer (some ⟨b1, 0, none⟩)), (5, .pointer (some ⟨b2, 0, none⟩)), (9, .pointer (some ⟨b34, 0, none⟩)), (10, .pointer (some ⟨b35, 0, none⟩)), (12, .int .i64 w3), (28, .slice a380 n384 c381), (29, .int .i64 k4), (176, .int .i64 k4), (189, .bool k5)]) ?_ ?_
     · clear r396
       refine shW_region (om rfl rfl ?_)
       refine ov (v_eql rfl rfl) rfl ?_
       refine om rfl rfl ?_
       by_cases c397 : w3 = 0
       · have r398 := ite_t h395 c397; clear h395
         refine shO_on (b := true) 181 rfl (Env.isT rfl c397) ?_
         refine ov (v_loadA (cs := #[.int .i64 n2, .slice a49 x_plots.length c50]) Try.isAgg32 Try.sizeOf32 rfl (Has.own 0 rfl) (Nat.le_of_ble_eq_true rfl) rfl) rfl ?_
         refine shO_on (b := true) 181 rfl (Env.isT rfl c397) (om rfl rfl (shO_on (b := true) 181 rfl (Env.isT rfl c397) ?_))
         refine ov (v_fieldAddr fa_48_1 rfl) rfl ?_
         refine shO_on (b := true) 181 rfl (Env.isT rfl c397) ?_
         refine ov (v_load Try.isAgg3 rfl (Has.own 2 rfl) rfl) rfl ?_
         refine shO_on (b := true) 181 rfl (Env.isT rfl c397) (om rfl rfl (shO_on (b := true) 181 rfl (Env.isT rfl c397) (om rfl rfl (shO_on (b := true) 181 rfl (Env.isT rfl c397) ?_))))
         obtain ⟨ok6, h399, r400⟩ := b1_ok r398; clear r398
         refine o_callV rfl Try.call55 rfl rfl rfl (oyezref01_Hears_w h51 h399) ?_
         refine ov (v_pick_t (evD_true rfl c397) rfl) rfl ?_
         refine shO_nil ?_
         obtain rfl := inj1 r400
         exact mi kr ⟨rfl, rfl, (sc rfl (sc rfl (sc rfl (sc rfl (sc rfl (sc rfl (sc rfl (sc rfl (sc rfl (sc rfl (sc rfl (sn _))))))))))))⟩
       have r401 := ite_f h395 c397; clear h395
       refine shO_off (b' := false) 181 rfl (Env.isF rfl c397) rfl rfl (shO_off (b' := false) 181 rfl (Env.isF rfl c397) rfl rfl (shO_off (b' := false) 181 rfl (Env.isF rfl c397) rfl rfl (shO_off (b' := false) 181 rfl (Env.isF rfl c397) rfl rfl (shO_off (b' := false) 181 rfl (Env.isF rfl c397) rfl rfl (shO_off (b' := false) 181 rfl (Env.isF rfl c397) rfl rfl (shO_off (b' := false) 181 rfl (Env.isF rfl c397) rfl rfl ?_))))))
       refine ov (v_pick_f (evD_false rfl c397) rfl) rfl ?_
       refine shO_nil ?_
       obtain rfl := inj1 r401
       exact mi kr ⟨rfl, rfl, (sc rfl (sc rfl (sc rfl (sc rfl (sc rfl (sc rfl (sc rfl (sc rfl (sc rfl (sc rfl (sc rfl (sn _))))))))))))⟩
     rintro e1 _ _ ⟨rfl, rfl, he402⟩
     refine shW_env _ he402 ?_; clear he402
     refine shW_cond rfl (fun c403 => ?_) (fun c403 => ?_)
     · have r404 := bt r396 c403; clear r396
       refine shW_region (om rfl rfl (om rfl rfl ?_))
       refine o_buildSlice (cs := #[.int .i64 k4]) rfl rfl (buildSlice_all slt_74 [.int .i64 k4] rfl (by decide) (by simp [Value.cells]) (by decide)) ?_; intro b405 hb405
       obtain ⟨winds3, h406, g407, r408⟩ := ap_ok r404; clear r404
       refine o_appZ (xs := winds2) (ys := [k4]) (zs := winds3) rfl slt_74 rfl rfl (Nat.le_refl _) (fun _ => .c (.c (.c (.c (.c (.s .h)))))) hz383 (SrcR.box (vss := [[.int .i64 k4]]) (ys := [k4]) 0 rfl (iE_ok _) (.cons rfl .nil) rfl rfl) h406 g407 (by decide) ?_; intro a409 n413 c410 Lb411 hz412
       refine kO (kd kr) ?_
       refine oa rfl rfl (shO_nil (inBlock_n (id := 5) (shW_region ?_)))
       refine ov (v_add rfl rfl (Ctr.r64 hk388 c393 g386)) rfl ?_
       refine om rfl rfl (shO_nil ?_)
       exact le kr ⟨_, hk394, winds3, a409, n413, c410, Lb411, r408, rfl, rfl, (sc rfl (sc rfl (sc rfl (sc rfl (sc rfl (sc rfl (sc rfl (sc rfl (sc rfl (sn _)))))))))), hz412⟩
     have r415 := bf r396 c403; clear r396
     refine shW_skip (inBlock_n (id := 5) (shW_region ?_))
     refine ov (v_add rfl rfl (Ctr.r64 hk388 c393 g386)) rfl ?_
     refine om rfl rfl (shO_nil ?_)
     exact le kr ⟨_, hk394, winds2, a380, n384, c381, Lb382, r415, rfl, rfl, (sc rfl (sc rfl (sc rfl (sc rfl (sc rfl (sc rfl (sc rfl (sc rfl (sc rfl (sn _)))))))))), hz383⟩
   obtain rfl := Ctr.zero hk388 c393
   rw [oyezlaw01_HearHouses_l3] at r390
   refine shW_exit (andThen_exit (andThen_exit ?_))
   refine inBlock_exit ?_
   obtain rfl := inj1 r390
   exact mi (kd kr) ⟨a380, n384, c381, Lb382, rfl, rfl, (sc rfl (sc rfl (sc rfl (sc rfl (sc rfl (sc rfl (sc rfl (sn _)))))))), hz383⟩
 rintro e1 _ _ ⟨a372, n376, c373, Lb374, rfl, rfl, he416, hz375⟩
 refine shW_env _ he416 ?_; clear he416
 refine wsr ?_
 refine ov (v_loadA (cs := #[.int .i64 n, .slice a16 n20 c17]) Try.isAgg24 Try.sizeOf24 rfl (Has.own 0 rfl) (Nat.le_of_ble_eq_true rfl) rfl) rfl ?_
 refine ov (v_fieldAddr fa_48_1 rfl) rfl ?_
 refine ov (v_load Try.isAgg3 rfl (Has.own 1 rfl) rfl) rfl ?_
 refine om rfl rfl (om rfl rfl ?_)
 obtain ⟨l7, n14, h417, r418⟩ := b2_ok r379; clear r379
 refine o_callTO (Lb := []) (Lt := Lb18 ++ []) (Lr := (b34, .cells #[.int .i64 n, .slice a16 n20 c17] 24 (0, 0)) :: ((b2, .cells #[.int .i64 wind, .int .i64 voice] 48 (0, 0)) :: ((b1, .cells #[.int .i64 wide, .slice plots_a plots.length plots_c] 24 (0, 0)) :: (Lb374 ++ [])))) rfl Try.call43 rfl rfl rfl (pT ((fC (fC (fC fP))).trans (pA pR)) (ln (lp (ln rfl)))) (fun F2 h2 h3 => by rw [(SlR.caps hz19).1]; exact hear_Winds_w (hz19.row (iE_ok _) h2 (fun p hp => h3 p (List.mem_append_left _ hp))) h417) (fun _ _ _ _ hq => by obtain ⟨a423, n427, c424, Lb425, rfl, rfl, hz426⟩ := hq; exact ⟨_, _, _, _, rfl, rfl, hz426.flat (fun _ _ h => h)⟩) ?_; rintro _ F419 _ hF420 hd422 hn421 ⟨a423, n427, c424, Lb425, rfl, rfl, hz426⟩
 replace h_plots := h_plots.mono (iE_ok _) hF420
 replace h51 := h51.mono (iE_ok _) hF420
 replace hz19 := hz19.mono (iE_ok _) hF420
 replace hz375 := hz375.mono (iE_ok _) hF420
 have hn429 := newp (Lb' := []) (by rfl) hd422 hn421
 replace hz426 := hz426.new fun p hp => hn429 p (by simp [hp])
 refine shO_L (lp (ln (lp (ln rfl)))) ?_
 refine kO (kf (fS (fS fO)) (kf (fS (fS fO)) (kf (fS (fS fO)) kr))) ?_
 refine om rfl rfl (ox rfl rfl rfl (ox rfl rfl rfl (oa rfl rfl (oa rfl rfl (nsr (om rfl rfl (om rfl rfl ?_)))))))
 refine ov (v_eql rfl rfl) rfl ?_
 refine om rfl rfl ?_
 by_cases c430 : n14 = w3
 · have r431 := ite_t r418 c430; clear r418
   refine shO_on (b := true) 207 rfl (Env.isT rfl c430) (om rfl rfl (shO_on (b := true) 207 rfl (Env.isT rfl c430) (om rfl rfl (shO_on (b := true) 207 rfl (Env.isT rfl c430) ?_))))
   obtain ⟨ok7, h432, r433⟩ := b1_ok r431; clear r431
   refine o_callT (Lt := Lb425 ++ (Lb374 ++ [])) (Lr := (b34, .cells #[.int .i64 n, .slice a16 n20 c17] 24 (0, 0)) :: ((b2, .cells #[.int .i64 wind, .int .i64 voice] 48 (0, 0)) :: ((b1, .cells #[.int .i64 wide, .slice plots_a plots.length plots_c] 24 (0, 0)) :: (Lb18 ++ [])))) rfl Try.call56 rfl rfl rfl (pT ((fC (fC (fC fP))).trans (pA ((fC (fC (fC (fS fP)))).trans (pA pR)))) (lp (lp (ln rfl)))) (fun F2 h2 h3 => by rw [(SlR.caps hz426).1]; rw [(SlR.caps hz375).1]; exact oyezkit_Like_Dir_w (hz426.row (iE_ok _) h2 (fun p hp => h3 p (List.mem_append_left _ hp))) (hz375.row (iE_ok _) h2 (fun p hp => h3 p (List.mem_append_right _ (List.mem_append_left _ hp)))) h432) ?_
   refine ov (v_pick_t (evD_true rfl c430) rfl) rfl ?_
   refine om rfl rfl ?_
   rcases bool_two ok7 with c434 | c434
   · have r435 := bt r433 c434; clear r433
     refine shO_on (b := true) 212 rfl (EnvB rfl c434) ?_
     refine ov (v_loadA (cs := #[.int .i64 n, .slice a16 n20 c17]) Try.isAgg24 Try.sizeOf24 rfl (Has.own 0 rfl) (Nat.le_of_ble_eq_true rfl) rfl) rfl ?_
     refine shO_on (b := true) 212 rfl (EnvB rfl c434) ?_
     refine ov (v_loadA (cs := #[.int .i64 wide, .slice plots_a plots.length plots_c]) Try.isAgg24 Try.sizeOf24 rfl (Has.own 2 rfl) (Nat.le_of_ble_eq_true rfl) rfl) rfl ?_
     refine shO_on (b := true) 212 rfl (EnvB rfl c434) ?_
     obtain ⟨ok8, h436, r437⟩ := b1_ok r435; clear r435
     refine o_callT (Lt := Lb18 ++ []) (Lr := (b34, .cells #[.int .i64 n, .slice a16 n20 c17] 24 (0, 0)) :: ((b2, .cells #[.int .i64 wind, .int .i64 voice] 48 (0, 0)) :: ((b1, .cells #[.int .i64 wide, .slice plots_a plots.length plots_c] 24 (0, 0)) :: (Lb425 ++ (Lb374 ++ []))))) rfl Try.call26 rfl rfl rfl (pT ((fC (fC (fC (fS fP)))).trans (pA pR)) (lp (ln rfl))) (fun F2 h2 h3 => by rw [(SlR.caps hz19).1]; exact oyezlaw01_same_w (hz19.row (iE_ok _) h2 (fun p hp => h3 p (List.mem_append_left _ hp))) (h_plots.mono (iE_ok _) h2) h436) ?_
     refine ov (v_pick_t (evB rfl c434) rfl) rfl ?_
     refine om rfl rfl ?_
     rcases bool_two ok8 with c438 | c438
     · have r439 := bt r437 c438; clear r437
       refine shO_on (b := true) 217 rfl (EnvB rfl c438) ?_
       obtain ⟨ok9, h440, r441⟩ := b1_ok r439; clear r439
       refine o_callV rfl Try.call15 rfl rfl rfl (oyezlaw01_awake_w h440) ?_
       refine ov (v_pick_t (evB rfl c438) rfl) rfl ?_
       refine oa rfl rfl (shO_nil ?_)
       refine kW kn ?_
       refine shW_ret ?_
       refine q_res1 Try.results9 (res_tmp rfl) (sr) ?_
       obtain rfl := inj1 r441
       exact rfl
     have r442 := bf r437 c438; clear r437
     refine shO_off (b' := false) 217 rfl (EnvB rfl c438) rfl rfl ?_
     refine ov (v_pick_f (evB rfl c438) rfl) rfl ?_
     refine oa rfl rfl (shO_nil ?_)
     refine kW kn ?_
     refine shW_ret ?_
     refine q_res1 Try.results9 (res_tmp rfl) (sr) ?_
     obtain rfl := inj1 r442
     exact rfl
   have r443 := bf r433 c434; clear r433
   refine shO_off (b' := false) 212 rfl (EnvB rfl c434) rfl rfl (shO_off (b' := false) 212 rfl (EnvB rfl c434) rfl rfl (shO_off (b' := false) 212 rfl (EnvB rfl c434) rfl rfl ?_))
   refine ov (v_pick_f (evB rfl c434) rfl) rfl ?_
   refine om rfl rfl (shO_off (b' := false) 217 rfl rfl rfl rfl ?_)
   refine ov (v_pick_f rfl rfl) rfl ?_
   refine oa rfl rfl (shO_nil ?_)
   refine kW kn ?_
   refine shW_ret ?_
   refine q_res1 Try.results9 (res_tmp rfl) (sr) ?_
   obtain rfl := inj1 r443
   exact rfl
 have r444 := ite_f r418 c430; clear r418
 refine shO_off (b' := false) 207 rfl (Env.isF rfl c430) rfl rfl (shO_off (b' := false) 207 rfl (Env.isF rfl c430) rfl rfl (shO_off (b' := false) 207 rfl (Env.isF rfl c430) rfl rfl ?_))
 refine ov (v_pick_f (evD_false rfl c430) rfl) rfl ?_
 refine om rfl rfl (shO_off (b' := false) 212 rfl rfl rfl rfl (shO_off (b' := false) 212 rfl rfl rfl rfl (shO_off (b' := false) 212 rfl rfl rfl rfl ?_)))
 refine ov (v_pick_f rfl rfl) rfl ?_
 refine om rfl rfl (shO_off (b' := false) 217 rfl rfl rfl rfl ?_)
 refine ov (v_pick_f rfl rfl) rfl ?_
 refine oa rfl rfl (shO_nil ?_)
 refine kW kn ?_
 refine shW_ret ?_
 refine q_res1 Try.results9 (res_tmp rfl) (sr) ?_
 obtain rfl := inj1 r444
 exact rfl


end Go.Proofs.Ytdnmaodkdhdacaa
