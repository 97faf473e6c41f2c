/- The walks that this claim needs, printed by a program of mine; part 3. -/
import Derived.Test.YtdnmaodkdhdacaaNg2
namespace Go.Proofs.Ytdnmaodkdhdacaa
open Go.SH Go.PL
set_option maxHeartbeats 1000000 in
theorem oyezlaw01_HearBest_w {wide : Int} {plots_a : Option Addr} {plots_c : Nat} {plots : List Int} {wind : Int} {voice : Int} {houses_a : Option Addr} {houses_c : Nat} {houses : List Int} {stands : Int} {F : FS} (h_plots : RowR 1 (iE .i64) F plots_a plots_c plots) (h_houses : RowR 1 (iE .i64) F houses_a houses_c houses) {r : Bool} (hr : oyezlaw01_HearBest wide plots wind voice houses stands = some r) :
    SpecV Try.prog 4 #[.agg #[.int .i64 wide, .slice plots_a plots.length plots_c], .agg #[.int .i64 wind, .int .i64 voice], .slice houses_a houses.length houses_c, .int .i64 stands] F (.bool r) := by
 refine spec_of_shW (args := [.agg #[.int .i64 wide, .slice plots_a plots.length plots_c], .agg #[.int .i64 wind, .int .i64 voice], .slice houses_a houses.length houses_c, .int .i64 stands]) Try.func4 rfl Try.ntmps4 (Nat.le_of_ble_eq_true rfl) ?_
 intro K _ _; rw [oyezlaw01_HearBest] at hr
 refine wsr ?_
 refine o_box rfl rfl ?_; intro b1 hb1
 refine o_box rfl rfl ?_; intro b2 hb2
 refine oa rfl rfl (shO_nil (shW_seq ?_))
 obtain ⟨k, h3, r4⟩ := b1_ok hr; clear hr
 refine shW_join (fun e1 F1 L1 => F = F1 ∧ L1 = [(b2, .cells #[.int .i64 wind, .int .i64 voice] 48 (0, 0)), (b1, .cells #[.int .i64 wide, .slice plots_a plots.length plots_c] 24 (0, 0))] ∧ e1.sub [(2, .slice houses_a houses.length houses_c), (3, .int .i64 stands), (4, .pointer (some ⟨b1, 0, none⟩)), (5, .pointer (some ⟨b2, 0, none⟩)), (29, .bool k)]) ?_ ?_
 · clear r4
   refine shW_region ?_
   refine ov (v_loadA (cs := #[.int .i64 wide, .slice plots_a plots.length plots_c]) Try.isAgg24 Try.sizeOf24 rfl (Has.own 1 rfl) (Nat.le_of_ble_eq_true rfl) rfl) rfl ?_
   obtain ⟨ok, h5, r6⟩ := b1_ok h3; clear h3
   refine o_callV rfl Try.call27 rfl rfl rfl (oyezlaw01_many_w h_plots h5) ?_
   refine om rfl rfl ?_
   rcases bool_two ok with c7 | c7
   · have r8 := bt r6 c7; clear r6
     refine shO_off (b' := true) 25 rfl (EnvB rfl c7) rfl rfl (shO_off (b' := true) 25 rfl (EnvB rfl c7) rfl rfl (shO_off (b' := true) 25 rfl (EnvB rfl c7) rfl rfl ?_))
     refine ov (v_pick_t (evB rfl c7) rfl) rfl ?_
     refine shO_nil ?_
     obtain rfl := inj1 r8
     exact mi kr ⟨rfl, rfl, (sc rfl (sc rfl (sc rfl (sc rfl (sc rfl (sn _))))))⟩
   have r9 := bf r6 c7; clear r6
   refine shO_on (b := false) 25 rfl (EnvB rfl c7) (om rfl rfl (shO_on (b := false) 25 rfl (EnvB rfl c7) ?_))
   refine ov (v_lenS Try.underlying26 rfl) rfl ?_
   refine shO_on (b := false) 25 rfl (EnvB rfl c7) ?_
   refine ov (v_gtrK rfl rfl) rfl ?_
   refine ov (v_pick_f (evB rfl c7) rfl) rfl ?_
   refine shO_nil ?_
   obtain rfl := inj1 r9
   exact mi kr ⟨rfl, rfl, (sc rfl (sc rfl (sc rfl (sc rfl (sc rfl (sn _))))))⟩
 rintro e1 _ _ ⟨rfl, rfl, he10⟩
 refine shW_env _ he10 ?_; clear he10
 refine shW_cond rfl (fun c11 => ?_) (fun c11 => ?_)
 · have r12 := bt r4 c11; clear r4
   refine wsr ?_
   obtain ⟨ok2, h13, r14⟩ := b1_ok r12; clear r12
   refine o_callV rfl Try.call15 rfl rfl rfl (oyezlaw01_awake_w h13) ?_
   refine oa rfl rfl (shO_nil ?_)
   refine kW kn ?_
   refine shW_ret (andThen_ret ?_)
   refine q_res1 Try.results4 (res_tmp rfl) (sr) ?_
   obtain rfl := inj1 r14
   exact rfl
 have r15 := bf r4 c11; clear r4
 refine shW_skip (shW_seq ?_)
 refine shW_drawM [(.pre, 8), (.pre, 9), (.still, 0), (.still, 2), (.still, 4), (.still, 6), (.still, 7), (.seq, 1), (.seq, 3), (.seq, 5), (.alloc (.cells (.agg #[.int .i64 0, .slice none 0 0] : Value).cells 24 (0, 0)) (fun b => .pointer (some ⟨b, 0, none⟩)) [], 8), (.alloc (.cells (.agg #[.int .i64 0, .slice none 0 0] : Value).cells 32 (0, 0)) (fun b => .pointer (some ⟨b, 0, none⟩)) [], 9), (.seq, 10), (.still, 11), (.seq, 12), (.still, 13)] (by kernel_rfl) (by kernel_rfl) (⟨⟨_, _, rfl, rfl, rfl, rfl, rfl, mk_alloc Try.zeroValue24⟩, ⟨⟨_, _, rfl, rfl, rfl, rfl, rfl, mk_alloc Try.zeroValue32⟩, trivial⟩⟩) (by rfl) (by kernel_rfl) ?_
 refine ⟨⟨[], rfl, sn _, by kernel_rfl⟩, ?_⟩
 refine ⟨⟨[], rfl, sn _, by kernel_rfl⟩, ?_⟩
 refine shM_v (v := .agg #[.int .i64 wide, .slice plots_a plots.length plots_c]) (ek := [(4, .pointer (some ⟨b1, 0, none⟩))]) (Ls := [(b1, .cells #[.int .i64 wide, .slice plots_a plots.length plots_c] 24 (0, 0))]) rfl rfl rfl rfl ((sc rfl (sn _))) (by kernel_rfl) (s0 (s1 (s2 sr))) (fun H F' L' hF' hL' => v_loadA (cs := #[.int .i64 wide, .slice plots_a plots.length plots_c]) Try.isAgg24 Try.sizeOf24 rfl ((Has.own 0 rfl).ext hF' hL') (Nat.le_of_ble_eq_true rfl) rfl) ?_
 refine shM_v (v := .slice houses_a houses.length houses_c) (ek := [(2, .slice houses_a houses.length houses_c)]) (Ls := []) rfl rfl rfl rfl ((sc rfl (sn _))) (by kernel_rfl) sm (fun H F' L' hF' hL' => v_move rfl) ?_
 refine shM_v (v := .agg #[.int .i64 wide, .slice plots_a plots.length plots_c]) (ek := [(4, .pointer (some ⟨b1, 0, none⟩))]) (Ls := [(b1, .cells #[.int .i64 wide, .slice plots_a plots.length plots_c] 24 (0, 0))]) rfl rfl rfl rfl ((sc rfl (sn _))) (by kernel_rfl) (s0 (s1 (s2 sr))) (fun H F' L' hF' hL' => v_loadA (cs := #[.int .i64 wide, .slice plots_a plots.length plots_c]) Try.isAgg24 Try.sizeOf24 rfl ((Has.own 0 rfl).ext hF' hL') (Nat.le_of_ble_eq_true rfl) rfl) ?_
 refine shM_v (v := .pointer (some ⟨b2, 0, none⟩)) (ek := [(5, .pointer (some ⟨b2, 0, none⟩))]) (Ls := []) rfl rfl rfl rfl ((sc rfl (sn _))) (by kernel_rfl) sm (fun H F' L' hF' hL' => v_fieldAddr fa_48_0 rfl) ?_
 refine shM_v (v := .int .i64 wind) (ek := [(37, .pointer (some ⟨b2, 0, none⟩))]) (Ls := [(b2, .cells #[.int .i64 wind, .int .i64 voice] 48 (0, 0))]) rfl rfl rfl rfl ((sc rfl (sn _))) (by kernel_rfl) (s0 (s2 (s1 sr))) (fun H F' L' hF' hL' => v_load Try.isAgg25 rfl ((Has.own 0 rfl).ext hF' hL') rfl) ?_
 refine ⟨_, [(31, .agg #[.int .i64 wide, .slice plots_a plots.length plots_c])], rfl, rfl, (sc rfl (sn _)), by kernel_rfl, ?_⟩; intro H
 obtain ⟨n, l, h16, r17⟩ := b2_ok r15; clear r15
 refine o_call0 rfl Try.call16 rfl rfl rfl (oyezlaw01_Own_w h_plots h16) ?_; rintro _ F18 _ hF19 hn20 ⟨a22, n26, c23, Lb24, rfl, rfl, hz25⟩
 replace h_plots := h_plots.mono (iE_ok _) hF19
 replace h_houses := h_houses.mono (iE_ok _) hF19
 replace hz25 := hz25.new fun p hp => hn20 p (by simp [hp])
 refine shO_L (lp (ln rfl)) ?_
 refine kO (kf (fS fO) (kf (fS fO) kr)) ?_
 refine shO_nil ⟨_, rfl, hF19, [7, 6, 4, 2], by kernel_rfl, .inr (fun d h => by cases h; rfl), (List.forall_mem_cons.2 ⟨s0 (s2 (s1 (s3 sr))), (List.forall_mem_cons.2 ⟨sm, (List.forall_mem_cons.2 ⟨s0 (s1 (s2 (s3 sr))), (List.forall_mem_cons.2 ⟨sm, (fun _ h => absurd h List.not_mem_nil)⟩)⟩)⟩)⟩), ?_⟩
 refine ⟨_, [(33, .slice houses_a houses.length houses_c)], rfl, rfl, (sc rfl (sn _)), by kernel_rfl, ?_⟩; intro H
 obtain ⟨l2, h28, r29⟩ := b1_ok r17; clear r17
 refine o_call0 rfl Try.call17 rfl rfl rfl (oyezkit_Copy_int_w h_houses h28) ?_; rintro _ F30 _ hF31 hn32 ⟨a34, n38, c35, Lb36, rfl, rfl, hz37⟩
 replace h_plots := h_plots.mono (iE_ok _) hF31
 replace h_houses := h_houses.mono (iE_ok _) hF31
 replace hz25 := hz25.mono (iE_ok _) hF31
 replace hz37 := hz37.new fun p hp => hn32 p (by simp [hp])
 refine shO_L (lp (ln rfl)) ?_
 refine kO (kf (fS fO) (kf (fS fO) kr)) ?_
 refine shO_nil ⟨_, rfl, hF31, [7, 6, 4], by kernel_rfl, .inr (fun d h => by cases h; rfl), (List.forall_mem_cons.2 ⟨s0 (s2 (s1 (s3 (s3 sr)))), (List.forall_mem_cons.2 ⟨sm, (List.forall_mem_cons.2 ⟨s0 (s1 (s2 (s3 (s3 sr)))), (fun _ h => absurd h List.not_mem_nil)⟩)⟩)⟩), ?_⟩
 refine ⟨_, [(35, .agg #[.int .i64 wide, .slice plots_a plots.length plots_c])], rfl, rfl, (sc rfl (sn _)), by kernel_rfl, ?_⟩; intro H
 obtain ⟨n2, l3, h40, r41⟩ := b2_ok r29; clear r29
 refine o_call0 rfl Try.call18 rfl rfl rfl (oyezlaw01_theirs_w h_plots h40) ?_; rintro _ F42 _ hF43 hn44 ⟨a46, n50, c47, Lb48, rfl, rfl, hz49⟩
 replace h_plots := h_plots.mono (iE_ok _) hF43
 replace h_houses := h_houses.mono (iE_ok _) hF43
 replace hz25 := hz25.mono (iE_ok _) hF43
 replace hz37 := hz37.mono (iE_ok _) hF43
 replace hz49 := hz49.new fun p hp => hn44 p (by simp [hp])
 refine shO_L (lp (ln rfl)) ?_
 refine kO (kf (fS fO) (kf (fS fO) kr)) ?_
 refine shO_nil ⟨_, rfl, hF43, [7, 6], by kernel_rfl, .inr (fun d h => by cases h; rfl), (List.forall_mem_cons.2 ⟨s0 (s2 (s1 (s3 (s3 (s3 sr))))), (List.forall_mem_cons.2 ⟨sm, (fun _ h => absurd h List.not_mem_nil)⟩)⟩), ?_⟩
 refine shM_ptr rfl ?_; intro b52 hb52
 refine shM_L (L' := (b52, .cells #[.int .i64 0, .slice none 0 0] 24 (0, 0)) :: ((b2, .cells #[.int .i64 wind, .int .i64 voice] 48 (0, 0)) :: ((b1, .cells #[.int .i64 wide, .slice plots_a plots.length plots_c] 24 (0, 0)) :: (Lb48 ++ (Lb36 ++ (Lb24 ++ [])))))) rfl ?_
 refine shM_ptr rfl ?_; intro b53 hb53
 refine shM_L (L' := (b53, .cells #[.int .i64 0, .slice none 0 0] 32 (0, 0)) :: ((b52, .cells #[.int .i64 0, .slice none 0 0] 24 (0, 0)) :: ((b2, .cells #[.int .i64 wind, .int .i64 voice] 48 (0, 0)) :: ((b1, .cells #[.int .i64 wide, .slice plots_a plots.length plots_c] 24 (0, 0)) :: (Lb48 ++ (Lb36 ++ (Lb24 ++ []))))))) rfl ?_
 refine ⟨_, [(9, .pointer (some ⟨b52, 0, none⟩)), (32, .agg #[.int .i64 n, .slice a22 n26 c23])], rfl, rfl, (sc rfl (sc rfl (sn _))), by kernel_rfl, ?_⟩; intro H
 refine o_storeA (i := 1) Try.sizeOf24 rfl rfl rfl (by simp [Value.oneCell']) rfl (Nat.le_of_ble_eq_true rfl) ?_
 refine shO_L (L' := (b53, .cells #[.int .i64 0, .slice none 0 0] 32 (0, 0)) :: ((b52, .cells #[.int .i64 n, .slice a22 n26 c23] 24 (0, 0)) :: ((b2, .cells #[.int .i64 wind, .int .i64 voice] 48 (0, 0)) :: ((b1, .cells #[.int .i64 wide, .slice plots_a plots.length plots_c] 24 (0, 0)) :: (Lb48 ++ (Lb36 ++ (Lb24 ++ []))))))) rfl ?_
 refine shO_nil ⟨undef, rfl, FExt.refl _, [7, 6], by kernel_rfl, .inr (fun d h => by cases h), (List.forall_mem_cons.2 ⟨s0 (s1 (s1 (s2 (s1 (s3 (s3 (s3 sr))))))), (List.forall_mem_cons.2 ⟨sm, (fun _ h => absurd h List.not_mem_nil)⟩)⟩), ?_⟩
 refine shM_v (v := .slice a34 n38 c35) (ek := [(34, .slice a34 n38 c35)]) (Ls := []) rfl rfl rfl rfl ((sc rfl (sn _))) (by kernel_rfl) sm (fun H F' L' hF' hL' => v_assign rfl) ?_
 refine ⟨_, [(11, .pointer (some ⟨b53, 0, none⟩)), (36, .agg #[.int .i64 n2, .slice a46 n50 c47])], rfl, rfl, (sc rfl (sc rfl (sn _))), by kernel_rfl, ?_⟩; intro H
 refine o_storeA (i := 0) Try.sizeOf32 rfl rfl rfl (by simp [Value.oneCell']) rfl (Nat.le_of_ble_eq_true rfl) ?_
 refine shO_L (L' := (b53, .cells #[.int .i64 n2, .slice a46 n50 c47] 32 (0, 0)) :: ((b52, .cells #[.int .i64 n, .slice a22 n26 c23] 24 (0, 0)) :: ((b2, .cells #[.int .i64 wind, .int .i64 voice] 48 (0, 0)) :: ((b1, .cells #[.int .i64 wide, .slice plots_a plots.length plots_c] 24 (0, 0)) :: (Lb48 ++ (Lb36 ++ (Lb24 ++ []))))))) rfl ?_
 refine shO_nil ⟨undef, rfl, FExt.refl _, [7, 6], by kernel_rfl, .inr (fun d h => by cases h), (List.forall_mem_cons.2 ⟨s0 (s1 (s1 (s2 (s1 (s3 (s3 (s3 sr))))))), (List.forall_mem_cons.2 ⟨sm, (fun _ h => absurd h List.not_mem_nil)⟩)⟩), ?_⟩
 refine shM_v (v := .int .i64 wind) (ek := [(38, .int .i64 wind)]) (Ls := []) rfl rfl rfl rfl ((sc rfl (sn _))) (by kernel_rfl) sm (fun H F' L' hF' hL' => v_assign rfl) ?_
 refine shM_nil ?_
 refine wsr ?_
 refine ov (v_loadA (cs := #[.int .i64 n, .slice a22 n26 c23]) Try.isAgg24 Try.sizeOf24 rfl (Has.own 1 rfl) (Nat.le_of_ble_eq_true rfl) rfl) rfl ?_
 refine ov (v_loadA (cs := #[.int .i64 wind, .int .i64 voice]) Try.isAgg48 Try.sizeOf48 rfl (Has.own 2 rfl) (Nat.le_of_ble_eq_true rfl) rfl) rfl ?_
 refine om rfl rfl (om rfl rfl ?_)
 obtain ⟨l4, n3, n4, h54, r55⟩ := b3_ok r41; clear r41
 refine o_callTO (Lb := []) (Lt := Lb24 ++ (Lb36 ++ [])) (Lr := (b53, .cells #[.int .i64 n2, .slice a46 n50 c47] 32 (0, 0)) :: ((b52, .cells #[.int .i64 n, .slice a22 n26 c23] 24 (0, 0)) :: ((b2, .cells #[.int .i64 wind, .int .i64 voice] 48 (0, 0)) :: ((b1, .cells #[.int .i64 wide, .slice plots_a plots.length plots_c] 24 (0, 0)) :: (Lb48 ++ []))))) rfl Try.call28 rfl rfl rfl (pT ((fC (fC (fC (fC (fS (fS fP)))))).trans (pA ((fC (fC (fC (fC (fS fP))))).trans (pA pR)))) (ln (lp (lp (ln rfl))))) (fun F2 h2 h3 => by rw [(SlR.caps hz25).1]; rw [(SlR.caps hz37).1]; exact hear_Best_w (hz25.row (iE_ok _) h2 (fun p hp => h3 p (List.mem_append_left _ hp))) (hz37.row (iE_ok _) h2 (fun p hp => h3 p (List.mem_append_right _ (List.mem_append_left _ hp)))) h54) (fun _ _ _ _ hq => by obtain ⟨a60, n64, c61, Lb62, rfl, rfl, hz63⟩ := hq; exact ⟨_, _, _, _, rfl, rfl, hz63.flat (fun _ _ h => h)⟩) ?_; rintro _ F56 _ hF57 hd59 hn58 ⟨a60, n64, c61, Lb62, rfl, rfl, hz63⟩
 replace h_plots := h_plots.mono (iE_ok _) hF57
 replace h_houses := h_houses.mono (iE_ok _) hF57
 replace hz25 := hz25.mono (iE_ok _) hF57
 replace hz37 := hz37.mono (iE_ok _) hF57
 replace hz49 := hz49.mono (iE_ok _) hF57
 have hn66 := newp (Lb' := []) (by rfl) hd59 hn58
 replace hz63 := hz63.new fun p hp => hn66 p (by simp [hp])
 refine shO_L (lp (ln (lp (lp (ln rfl))))) ?_
 refine kO (kf (fS (fS (fS fO))) (kf (fS (fS (fS fO))) (kf (fS (fS (fS fO))) (kf (fS (fS (fS fO))) kr)))) ?_
 refine om rfl rfl (ox rfl rfl rfl (ox rfl rfl rfl (ox rfl rfl rfl (oa rfl rfl (oa rfl rfl (oa rfl rfl (nsr ?_)))))))
 refine ov (v_loadA (cs := #[.int .i64 n, .slice a22 n26 c23]) Try.isAgg24 Try.sizeOf24 rfl (Has.own 1 rfl) (Nat.le_of_ble_eq_true rfl) rfl) rfl ?_
 refine ov (v_fieldAddr fa_48_0 rfl) rfl ?_
 refine ov (v_load Try.isAgg25 rfl (Has.own 2 rfl) rfl) rfl ?_
 refine om rfl rfl (om rfl rfl ?_)
 obtain ⟨n5, n6, h67, r68⟩ := b2_ok r55; clear r55
 refine o_callT (Lt := Lb24 ++ (Lb36 ++ [])) (Lr := (b53, .cells #[.int .i64 n2, .slice a46 n50 c47] 32 (0, 0)) :: ((b52, .cells #[.int .i64 n, .slice a22 n26 c23] 24 (0, 0)) :: ((b2, .cells #[.int .i64 wind, .int .i64 voice] 48 (0, 0)) :: ((b1, .cells #[.int .i64 wide, .slice plots_a plots.length plots_c] 24 (0, 0)) :: (Lb62 ++ (Lb48 ++ [])))))) rfl Try.call29 rfl rfl rfl (pT ((fC (fC (fC (fC (fS fP))))).trans (pA ((fC (fC (fC (fC (fS fP))))).trans (pA pR)))) (lp (lp (ln rfl)))) (fun F2 h2 h3 => by rw [(SlR.caps hz25).1]; rw [(SlR.caps hz37).1]; exact hear_Louder_w (hz25.row (iE_ok _) h2 (fun p hp => h3 p (List.mem_append_left _ hp))) (hz37.row (iE_ok _) h2 (fun p hp => h3 p (List.mem_append_right _ (List.mem_append_left _ hp)))) h67) ?_
 refine om rfl rfl (ox rfl rfl rfl (ox rfl rfl rfl (oa rfl rfl (oa rfl rfl ?_))))
 refine nsd (by kernel_rfl) (by kernel_rfl) (by kernel_rfl) ?_
 refine qv (v_loadA (cs := #[.int .i64 n2, .slice a46 n50 c47]) Try.isAgg32 Try.sizeOf32 rfl (Has.own 0 rfl) (Nat.le_of_ble_eq_true rfl) rfl) rfl ?_
 refine qm rfl rfl ?_
 refine qv (v_fieldAddr fa_48_1 rfl) rfl ?_
 refine qv (v_load Try.isAgg3 rfl (Has.own 2 rfl) rfl) rfl ?_
 refine qm rfl rfl ?_
 obtain ⟨n7, h69, r70⟩ := b1_ok r68; clear r68
 refine shQ_callT (Lt := Lb48 ++ []) (Lr := (b53, .cells #[.int .i64 n2, .slice a46 n50 c47] 32 (0, 0)) :: ((b52, .cells #[.int .i64 n, .slice a22 n26 c23] 24 (0, 0)) :: ((b2, .cells #[.int .i64 wind, .int .i64 voice] 48 (0, 0)) :: ((b1, .cells #[.int .i64 wide, .slice plots_a plots.length plots_c] 24 (0, 0)) :: (Lb62 ++ (Lb24 ++ (Lb36 ++ []))))))) rfl Try.call30 rfl rfl rfl (pT ((fC (fC (fC (fC (fS (fS (fS fP))))))).trans (pA pR)) (lp (ln rfl))) (fun F2 h2 h3 => by rw [(SlR.caps hz49).1]; exact oyezref01_Asked_w (hz49.row (iE_ok _) h2 (fun p hp => h3 p (List.mem_append_left _ hp))) (h_houses.mono (iE_ok _) h2) h69) ?_
 refine qv (v_loadA (cs := #[.int .i64 n2, .slice a46 n50 c47]) Try.isAgg32 Try.sizeOf32 rfl (Has.own 0 rfl) (Nat.le_of_ble_eq_true rfl) rfl) rfl ?_
 refine qm rfl rfl (qm rfl rfl ?_)
 obtain ⟨n8, h71, r72⟩ := b1_ok r70; clear r70
 refine shQ_callT (Lt := Lb48 ++ []) (Lr := (b53, .cells #[.int .i64 n2, .slice a46 n50 c47] 32 (0, 0)) :: ((b52, .cells #[.int .i64 n, .slice a22 n26 c23] 24 (0, 0)) :: ((b2, .cells #[.int .i64 wind, .int .i64 voice] 48 (0, 0)) :: ((b1, .cells #[.int .i64 wide, .slice plots_a plots.length plots_c] 24 (0, 0)) :: (Lb62 ++ (Lb24 ++ (Lb36 ++ []))))))) rfl Try.call30 rfl rfl rfl (pT ((fC (fC (fC (fC (fS (fS (fS fP))))))).trans (pA pR)) (lp (ln rfl))) (fun F2 h2 h3 => by rw [(SlR.caps hz49).1]; exact oyezref01_Asked_w (hz49.row (iE_ok _) h2 (fun p hp => h3 p (List.mem_append_left _ hp))) (h_houses.mono (iE_ok _) h2) h71) ?_
 refine qa rfl rfl (qa rfl rfl (shQ_nil ?_))
 obtain ⟨w, u, h73, r74⟩ := b2_ok r72; clear r72
 refine shW_join (fun e1 F1 L1 => F56 = F1 ∧ L1 = ((b53, .cells #[.int .i64 n2, .slice a46 n50 c47] 32 (0, 0)) :: ((b52, .cells #[.int .i64 n, .slice a22 n26 c23] 24 (0, 0)) :: ((b2, .cells #[.int .i64 wind, .int .i64 voice] 48 (0, 0)) :: ((b1, .cells #[.int .i64 wide, .slice plots_a plots.length plots_c] 24 (0, 0)) :: (Lb24 ++ (Lb36 ++ (Lb48 ++ (Lb62 ++ [])))))))) ∧ e1.sub [(2, .slice houses_a houses.length houses_c), (3, .int .i64 stands), (4, .pointer (some ⟨b1, 0, none⟩)), (5, .pointer (some ⟨b2, 0, none⟩)), (9, .pointer (some ⟨b52, 0, none⟩)), (10, .slice a34 n38 c35), (11, .pointer (some ⟨b53, 0, none⟩)), (12, .int .i64 wind), (13, .slice a60 n64 c61), (14, .int .i64 n3), (15, .int .i64 n4), (16, .int .i64 n5), (17, .int .i64 n6), (18, .int .i64 w), (19, .int .i64 u)]) ?_ ?_
 · clear r74
   obtain ⟨k2, h75, r76⟩ := b1_ok h73; clear h73
   refine shW_join (fun e1 F1 L1 => F56 = F1 ∧ L1 = ((b53, .cells #[.int .i64 n2, .slice a46 n50 c47] 32 (0, 0)) :: ((b52, .cells #[.int .i64 n, .slice a22 n26 c23] 24 (0, 0)) :: ((b2, .cells #[.int .i64 wind, .int .i64 voice] 48 (0, 0)) :: ((b1, .cells #[.int .i64 wide, .slice plots_a plots.length plots_c] 24 (0, 0)) :: (Lb24 ++ (Lb36 ++ (Lb48 ++ (Lb62 ++ [])))))))) ∧ e1.sub [(2, .slice houses_a houses.length houses_c), (3, .int .i64 stands), (4, .pointer (some ⟨b1, 0, none⟩)), (5, .pointer (some ⟨b2, 0, none⟩)), (9, .pointer (some ⟨b52, 0, none⟩)), (10, .slice a34 n38 c35), (11, .pointer (some ⟨b53, 0, none⟩)), (12, .int .i64 wind), (13, .slice a60 n64 c61), (14, .int .i64 n3), (15, .int .i64 n4), (16, .int .i64 n5), (17, .int .i64 n6), (18, .int .i64 n7), (19, .int .i64 n8), (72, .bool k2)]) ?_ ?_
   · clear r76
     refine shW_region (om rfl rfl ?_)
     refine ov (v_lssK rfl rfl) rfl ?_
     refine om rfl rfl ?_
     by_cases c77 : stands < 0
     · have r78 := ite_t h75 c77; clear h75
       refine shO_off (b' := true) 69 rfl (Env.isT rfl c77) rfl rfl (shO_off (b' := true) 69 rfl (Env.isT rfl c77) rfl rfl ?_)
       refine ov (v_pick_t (evD_true rfl c77) rfl) rfl ?_
       refine shO_nil ?_
       obtain rfl := inj1 r78
       exact mi (kc (kc (kc (kc (kg (fS fP) (kg (fS fP) (kg (fS fP) kr))))))) ⟨rfl, rfl, (sc rfl (sc rfl (sc rfl (sc rfl (sc rfl (sc rfl (sc rfl (sc rfl (sc rfl (sc rfl (sc rfl (sc rfl (sc rfl (sc rfl (sc rfl (sc rfl (sn _)))))))))))))))))⟩
     have r79 := ite_f h75 c77; clear h75
     refine shO_on (b := false) 69 rfl (Env.isF rfl c77) (om rfl rfl (shO_on (b := false) 69 rfl (Env.isF rfl c77) ?_))
     refine ov (v_gtrK rfl rfl) rfl ?_
     refine ov (v_pick_f (evD_false rfl c77) rfl) rfl ?_
     refine shO_nil ?_
     obtain rfl := inj1 r79
     exact mi (kc (kc (kc (kc (kg (fS fP) (kg (fS fP) (kg (fS fP) kr))))))) ⟨rfl, rfl, (sc rfl (sc rfl (sc rfl (sc rfl (sc rfl (sc rfl (sc rfl (sc rfl (sc rfl (sc rfl (sc rfl (sc rfl (sc rfl (sc rfl (sc rfl (sc rfl (sn _)))))))))))))))))⟩
   rintro e1 _ _ ⟨rfl, rfl, he80⟩
   refine shW_env _ he80 ?_; clear he80
   refine shW_cond rfl (fun c81 => ?_) (fun c81 => ?_)
   · have r82 := bt r76 c81; clear r76
     obtain ⟨w2, h83, r84⟩ := b1_ok r82; clear r82
     refine shW_join (fun e1 F1 L1 => F56 = F1 ∧ L1 = ((b53, .cells #[.int .i64 n2, .slice a46 n50 c47] 32 (0, 0)) :: ((b52, .cells #[.int .i64 n, .slice a22 n26 c23] 24 (0, 0)) :: ((b2, .cells #[.int .i64 wind, .int .i64 voice] 48 (0, 0)) :: ((b1, .cells #[.int .i64 wide, .slice plots_a plots.length plots_c] 24 (0, 0)) :: (Lb24 ++ (Lb36 ++ (Lb48 ++ (Lb62 ++ [])))))))) ∧ e1.sub [(2, .slice houses_a houses.length houses_c), (3, .int .i64 stands), (4, .pointer (some ⟨b1, 0, none⟩)), (5, .pointer (some ⟨b2, 0, none⟩)), (9, .pointer (some ⟨b52, 0, none⟩)), (10, .slice a34 n38 c35), (11, .pointer (some ⟨b53, 0, none⟩)), (12, .int .i64 wind), (13, .slice a60 n64 c61), (14, .int .i64 n3), (15, .int .i64 n4), (16, .int .i64 n5), (17, .int .i64 n6), (18, .int .i64 w2), (19, .int .i64 n8)]) ?_ ?_
     · clear r84
       refine wsr (om rfl rfl ?_)
       refine ov (v_eql rfl rfl) rfl ?_
       refine shO_nil ?_
       refine shW_condP rfl (fun c85 => ?_) (fun c85 => ?_)
       · have r86 := ite_t h83 c85; clear h83
         refine shW_region (oa rfl rfl (shO_nil ?_))
         obtain rfl := inj1 r86
         exact mi kr ⟨rfl, rfl, (sc rfl (sc rfl (sc rfl (sc rfl (sc rfl (sc rfl (sc rfl (sc rfl (sc rfl (sc rfl (sc rfl (sc rfl (sc rfl (sc rfl (sc rfl (sn _))))))))))))))))⟩
       have r87 := ite_f h83 c85; clear h83
       refine shW_skip ?_
       obtain rfl := inj1 r87
       exact mi kr ⟨rfl, rfl, (sc rfl (sc rfl (sc rfl (sc rfl (sc rfl (sc rfl (sc rfl (sc rfl (sc rfl (sc rfl (sc rfl (sc rfl (sc rfl (sc rfl (sc rfl (sn _))))))))))))))))⟩
     rintro e1 _ _ ⟨rfl, rfl, he88⟩
     refine shW_env _ he88 ?_; clear he88
     refine wsr (om rfl rfl ?_)
     refine ov (v_eql rfl rfl) rfl ?_
     refine shO_nil ?_
     refine shW_condP rfl (fun c89 => ?_) (fun c89 => ?_)
     · have r90 := ite_t r84 c89; clear r84
       refine shW_region (oa rfl rfl (shO_nil ?_))
       obtain ⟨rfl, rfl⟩ := inj2 r90
       exact mi kr ⟨rfl, rfl, (sc rfl (sc rfl (sc rfl (sc rfl (sc rfl (sc rfl (sc rfl (sc rfl (sc rfl (sc rfl (sc rfl (sc rfl (sc rfl (sc rfl (sc rfl (sn _))))))))))))))))⟩
     have r91 := ite_f r84 c89; clear r84
     refine shW_skip ?_
     obtain ⟨rfl, rfl⟩ := inj2 r91
     exact mi kr ⟨rfl, rfl, (sc rfl (sc rfl (sc rfl (sc rfl (sc rfl (sc rfl (sc rfl (sc rfl (sc rfl (sc rfl (sc rfl (sc rfl (sc rfl (sc rfl (sc rfl (sn _))))))))))))))))⟩
   have r92 := bf r76 c81; clear r76
   refine shW_skip ?_
   obtain ⟨rfl, rfl⟩ := inj2 r92
   exact mi kr ⟨rfl, rfl, (sc rfl (sc rfl (sc rfl (sc rfl (sc rfl (sc rfl (sc rfl (sc rfl (sc rfl (sc rfl (sc rfl (sc rfl (sc rfl (sc rfl (sc rfl (sn _))))))))))))))))⟩
 rintro e1 _ _ ⟨rfl, rfl, he93⟩
 refine shW_env _ he93 ?_; clear he93
 refine wsr (oa rfl rfl (nsr (oa rfl rfl (oa rfl rfl (shO_nil ?_)))))
 obtain ⟨x_plots, best, k3, h103, r104⟩ := b3_ok r74; clear r74
 refine shW_joinF (fun e1 F1 L1 => ∃ (a97 : Option Addr) (c98 : Nat) (a100 : Option Addr) (c101 : Nat), FExt F56 F1 ∧ L1 = ((b53, .cells #[.int .i64 n2, .slice a97 x_plots.length c98] 32 (0, 0)) :: ((b52, .cells #[.int .i64 n, .slice a22 n26 c23] 24 (0, 0)) :: ((b1, .cells #[.int .i64 wide, .slice plots_a plots.length plots_c] 24 (0, 0)) :: (Lb24 ++ (Lb36 ++ (Lb62 ++ [])))))) ∧ e1.sub [(2, .slice houses_a houses.length houses_c), (3, .int .i64 stands), (4, .pointer (some ⟨b1, 0, none⟩)), (9, .pointer (some ⟨b52, 0, none⟩)), (10, .slice a34 n38 c35), (11, .pointer (some ⟨b53, 0, none⟩)), (12, .int .i64 wind), (13, .slice a60 n64 c61), (14, .int .i64 n3), (15, .int .i64 n4), (16, .int .i64 n5), (17, .int .i64 n6), (18, .int .i64 w), (19, .int .i64 u), (20, .slice a100 best.length c101), (21, .int .i64 k3), (22, .int .i64 0)] ∧ RowR 1 (iE .i64) F1 a97 c98 x_plots ∧ RowR 1 (iE .i64) F1 a100 c101 best) ?_ ?_
 · clear r104
   refine wsr (om rfl rfl ?_)
   refine ov (v_eql rfl rfl) rfl ?_
   refine shO_nil ?_
   refine shW_condP rfl (fun c105 => ?_) (fun c105 => ?_)
   · have r106 := ite_t h103 c105; clear h103
     refine shW_region ?_
     refine ov (v_loadA (cs := #[.int .i64 n2, .slice a46 n50 c47]) Try.isAgg32 Try.sizeOf32 rfl (Has.own 0 rfl) (Nat.le_of_ble_eq_true rfl) rfl) rfl ?_
     refine om rfl rfl ?_
     refine ov (v_fieldAddr fa_48_1 rfl) rfl ?_
     refine ov (v_load Try.isAgg3 rfl (Has.own 2 rfl) rfl) rfl ?_
     refine om rfl rfl (om rfl rfl ?_)
     obtain rfl := (SlR.caps hz49).1
     refine shO_freezeR (Nat.le_refl _) (iE_ok _) (fC (fC (fC (fC (fS (fS fP)))))) hz49 ?_; intro F107 hF108 h109
     replace h_plots := h_plots.mono (iE_ok _) hF108
     replace h_houses := h_houses.mono (iE_ok _) hF108
     replace hz25 := hz25.mono (iE_ok _) hF108
     replace hz37 := hz37.mono (iE_ok _) hF108
     replace hz63 := hz63.mono (iE_ok _) hF108
     obtain ⟨l5, n9, h110, r111⟩ := b2_ok r106; clear r106
     refine o_call0 rfl Try.call31 rfl rfl rfl (oyezref01_Best_w h109 h_houses h110) ?_; rintro _ F112 _ hF113 hn114 ⟨a116, c117, rfl, rfl, h118⟩
     replace h_plots := h_plots.mono (iE_ok _) hF113
     replace h_houses := h_houses.mono (iE_ok _) hF113
     replace h109 := h109.mono (iE_ok _) hF113
     replace hz25 := hz25.mono (iE_ok _) hF113
     replace hz37 := hz37.mono (iE_ok _) hF113
     replace hz63 := hz63.mono (iE_ok _) hF113
     refine shO_L (ln rfl) ?_
     refine om rfl rfl (ox rfl rfl rfl (ox rfl rfl rfl (oa rfl rfl (oa rfl rfl (shO_nil ?_)))))
     obtain ⟨rfl, rfl, rfl⟩ := inj3 r111
     exact mf (kc (kc (kd kr))) ⟨a46, c47, a116, c117, (hF108.trans hF113), rfl, (sc rfl (sc rfl (sc rfl (sc rfl (sc rfl (sc rfl (sc rfl (sc rfl (sc rfl (sc rfl (sc rfl (sc rfl (sc rfl (sc rfl (sc rfl (sc rfl (sc rfl (sn _)))))))))))))))))), h109, h118⟩
   have r119 := ite_f h103 c105; clear h103
   refine shW_skip ?_
   obtain rfl := (SlR.caps hz49).1
   refine shmz_freezeR (Nat.le_refl _) (iE_ok _) (fC (fC (fC (fC (fS (fS fP)))))) hz49 ?_; intro F120 hF121 h122
   replace h_plots := h_plots.mono (iE_ok _) hF121
   replace h_houses := h_houses.mono (iE_ok _) hF121
   replace hz25 := hz25.mono (iE_ok _) hF121
   replace hz37 := hz37.mono (iE_ok _) hF121
   replace hz63 := hz63.mono (iE_ok _) hF121
   obtain ⟨rfl, rfl, rfl⟩ := inj3 r119
   exact mf (kc (kc (kd kr))) ⟨a46, c47, none, 0, hF121, rfl, (sc rfl (sc rfl (sc rfl (sc rfl (sc rfl (sc rfl (sc rfl (sc rfl (sc rfl (sc rfl (sc rfl (sc rfl (sc rfl (sc rfl (sc rfl (sc rfl (sc rfl (sn _)))))))))))))))))), h122, RowR.nil _ _ _⟩
 rintro e1 F124 _ ⟨a97, c98, a100, c101, hF125, rfl, he123, h99, h102⟩
 refine shW_env _ he123 ?_; clear he123
 replace h_plots := h_plots.mono (iE_ok _) hF125
 replace h_houses := h_houses.mono (iE_ok _) hF125
 replace hz25 := hz25.mono (iE_ok _) hF125
 replace hz37 := hz37.mono (iE_ok _) hF125
 replace hz63 := hz63.mono (iE_ok _) hF125
 obtain ⟨u2, loud, h126, r127⟩ := b2_ok r104; clear r104
 refine shW_join (fun e1 F1 L1 => F124 = F1 ∧ L1 = ((b52, .cells #[.int .i64 n, .slice a22 n26 c23] 24 (0, 0)) :: ((b1, .cells #[.int .i64 wide, .slice plots_a plots.length plots_c] 24 (0, 0)) :: (Lb24 ++ (Lb36 ++ (Lb62 ++ []))))) ∧ e1.sub [(2, .slice houses_a houses.length houses_c), (4, .pointer (some ⟨b1, 0, none⟩)), (9, .pointer (some ⟨b52, 0, none⟩)), (10, .slice a34 n38 c35), (13, .slice a60 n64 c61), (14, .int .i64 n3), (15, .int .i64 n4), (16, .int .i64 n5), (17, .int .i64 n6), (18, .int .i64 w), (19, .int .i64 u2), (20, .slice a100 best.length c101), (21, .int .i64 k3), (22, .int .i64 loud)]) ?_ ?_
 · clear r127
   refine wsr (om rfl rfl ?_)
   refine ov (v_eql rfl rfl) rfl ?_
   refine shO_nil ?_
   refine shW_condP rfl (fun c128 => ?_) (fun c128 => ?_)
   · have r129 := ite_t h126 c128; clear h126
     refine wsr ?_
     refine ov (v_loadA (cs := #[.int .i64 n2, .slice a97 x_plots.length c98]) Try.isAgg32 Try.sizeOf32 rfl (Has.own 0 rfl) (Nat.le_of_ble_eq_true rfl) rfl) rfl ?_
     refine om rfl rfl (om rfl rfl (om rfl rfl ?_))
     obtain ⟨n10, h130, r131⟩ := b1_ok r129; clear r129
     refine o_callV rfl Try.call32 rfl rfl rfl (oyezref01_Louder_w h99 h_houses h130) ?_
     refine oa rfl rfl (nsr (om rfl rfl ?_))
     refine ov (v_eql rfl rfl) rfl ?_
     refine shO_nil ?_
     refine shW_condP rfl (fun c132 => ?_) (fun c132 => ?_)
     · have r133 := ite_t r131 c132; clear r131
       refine shW_region (oa rfl rfl (shO_nil ?_))
       obtain ⟨rfl, rfl⟩ := inj2 r133
       exact mi (kd kr) ⟨rfl, rfl, (sc rfl (sc rfl (sc rfl (sc rfl (sc rfl (sc rfl (sc rfl (sc rfl (sc rfl (sc rfl (sc rfl (sc rfl (sc rfl (sc rfl (sn _)))))))))))))))⟩
     have r134 := ite_f r131 c132; clear r131
     refine shW_skip ?_
     obtain ⟨rfl, rfl⟩ := inj2 r134
     exact mi (kd kr) ⟨rfl, rfl, (sc rfl (sc rfl (sc rfl (sc rfl (sc rfl (sc rfl (sc rfl (sc rfl (sc rfl (sc rfl (sc rfl (sc rfl (sc rfl (sc rfl (sn _)))))))))))))))⟩
   have r135 := ite_f h126 c128; clear h126
   refine shW_skip ?_
   obtain ⟨rfl, rfl⟩ := inj2 r135
   exact mi (kd kr) ⟨rfl, rfl, (sc rfl (sc rfl (sc rfl (sc rfl (sc rfl (sc rfl (sc rfl (sc rfl (sc rfl (sc rfl (sc rfl (sc rfl (sc rfl (sc rfl (sn _)))))))))))))))⟩
 rintro e1 _ _ ⟨rfl, rfl, he136⟩
 refine shW_env _ he136 ?_; clear he136
 refine wsr (om rfl rfl (om rfl rfl ?_))
 refine ov (v_eql rfl rfl) rfl ?_
 refine om rfl rfl ?_
 by_cases c137 : n4 = w
 · have r138 := ite_t r127 c137; clear r127
   refine shO_on (b := true) 101 rfl (Env.isT rfl c137) (om rfl rfl (shO_on (b := true) 101 rfl (Env.isT rfl c137) (om rfl rfl (shO_on (b := true) 101 rfl (Env.isT rfl c137) ?_))))
   refine ov (v_eql rfl rfl) rfl ?_
   refine ov (v_pick_t (evD_true rfl c137) rfl) rfl ?_
   refine om rfl rfl ?_
   by_cases c139 : n6 = u2
   · have r140 := ite_t r138 c139; clear r138
     refine shO_on (b := true) 106 rfl (Env.isT rfl c139) (om rfl rfl (shO_on (b := true) 106 rfl (Env.isT rfl c139) (om rfl rfl (shO_on (b := true) 106 rfl (Env.isT rfl c139) ?_))))
     refine ov (v_eql rfl rfl) rfl ?_
     refine ov (v_pick_t (evD_true rfl c139) rfl) rfl ?_
     refine om rfl rfl ?_
     by_cases c141 : n3 = k3
     · have r142 := ite_t r140 c141; clear r140
       refine shO_on (b := true) 111 rfl (Env.isT rfl c141) (om rfl rfl (shO_on (b := true) 111 rfl (Env.isT rfl c141) (om rfl rfl (shO_on (b := true) 111 rfl (Env.isT rfl c141) ?_))))
       refine ov (v_eql rfl rfl) rfl ?_
       refine ov (v_pick_t (evD_true rfl c141) rfl) rfl ?_
       refine om rfl rfl ?_
       by_cases c143 : n5 = loud
       · have r144 := ite_t r142 c143; clear r142
         refine shO_on (b := true) 116 rfl (Env.isT rfl c143) (om rfl rfl (shO_on (b := true) 116 rfl (Env.isT rfl c143) (om rfl rfl (shO_on (b := true) 116 rfl (Env.isT rfl c143) ?_))))
         obtain ⟨ok3, h145, r146⟩ := b1_ok r144; clear r144
         refine o_callT (Lt := Lb62 ++ []) (Lr := (b52, .cells #[.int .i64 n, .slice a22 n26 c23] 24 (0, 0)) :: ((b1, .cells #[.int .i64 wide, .slice plots_a plots.length plots_c] 24 (0, 0)) :: (Lb24 ++ (Lb36 ++ [])))) rfl Try.call23 rfl rfl rfl (pT ((fC (fC (fS (fS fP)))).trans (pA pR)) (lp (ln rfl))) (fun F2 h2 h3 => by rw [(SlR.caps hz63).1]; exact oyezkit_Like_int_w (hz63.row (iE_ok _) h2 (fun p hp => h3 p (List.mem_append_left _ hp))) (h102.mono (iE_ok _) h2) h145) ?_
         refine ov (v_pick_t (evD_true rfl c143) rfl) rfl ?_
         refine om rfl rfl ?_
         rcases bool_two ok3 with c147 | c147
         · have r148 := bt r146 c147; clear r146
           refine shO_on (b := true) 121 rfl (EnvB rfl c147) ?_
           refine ov (v_loadA (cs := #[.int .i64 n, .slice a22 n26 c23]) Try.isAgg24 Try.sizeOf24 rfl (Has.own 0 rfl) (Nat.le_of_ble_eq_true rfl) rfl) rfl ?_
           refine shO_on (b := true) 121 rfl (EnvB rfl c147) ?_
           refine ov (v_loadA (cs := #[.int .i64 wide, .slice plots_a plots.length plots_c]) Try.isAgg24 Try.sizeOf24 rfl (Has.own 1 rfl) (Nat.le_of_ble_eq_true rfl) rfl) rfl ?_
           refine shO_on (b := true) 121 rfl (EnvB rfl c147) ?_
           obtain ⟨ok4, h149, r150⟩ := b1_ok r148; clear r148
           refine o_callT (Lt := Lb24 ++ []) (Lr := (b52, .cells #[.int .i64 n, .slice a22 n26 c23] 24 (0, 0)) :: ((b1, .cells #[.int .i64 wide, .slice plots_a plots.length plots_c] 24 (0, 0)) :: (Lb36 ++ (Lb62 ++ [])))) rfl Try.call26 rfl rfl rfl (pT ((fC (fC fP)).trans (pA pR)) (lp (ln rfl))) (fun F2 h2 h3 => by rw [(SlR.caps hz25).1]; exact oyezlaw01_same_w (hz25.row (iE_ok _) h2 (fun p hp => h3 p (List.mem_append_left _ hp))) (h_plots.mono (iE_ok _) h2) h149) ?_
           refine ov (v_pick_t (evB rfl c147) rfl) rfl ?_
           refine om rfl rfl ?_
           rcases bool_two ok4 with c151 | c151
           · have r152 := bt r150 c151; clear r150
             refine shO_on (b := true) 126 rfl (EnvB rfl c151) (om rfl rfl (shO_on (b := true) 126 rfl (EnvB rfl c151) (om rfl rfl (shO_on (b := true) 126 rfl (EnvB rfl c151) ?_))))
             obtain ⟨ok5, h153, r154⟩ := b1_ok r152; clear r152
             refine o_callT (Lt := Lb36 ++ []) (Lr := (b52, .cells #[.int .i64 n, .slice a22 n26 c23] 24 (0, 0)) :: ((b1, .cells #[.int .i64 wide, .slice plots_a plots.length plots_c] 24 (0, 0)) :: (Lb24 ++ (Lb62 ++ [])))) rfl Try.call23 rfl rfl rfl (pT ((fC (fC (fS fP))).trans (pA pR)) (lp (ln rfl))) (fun F2 h2 h3 => by rw [(SlR.caps hz37).1]; exact oyezkit_Like_int_w (hz37.row (iE_ok _) h2 (fun p hp => h3 p (List.mem_append_left _ hp))) (h_houses.mono (iE_ok _) h2) h153) ?_
             refine ov (v_pick_t (evB rfl c151) rfl) rfl ?_
             refine om rfl rfl ?_
             rcases bool_two ok5 with c155 | c155
             · have r156 := bt r154 c155; clear r154
               refine shO_on (b := true) 131 rfl (EnvB rfl c155) ?_
               obtain ⟨ok6, h157, r158⟩ := b1_ok r156; clear r156
               refine o_callV rfl Try.call15 rfl rfl rfl (oyezlaw01_awake_w h157) ?_
               refine ov (v_pick_t (evB rfl c155) rfl) rfl ?_
               refine oa rfl rfl (shO_nil ?_)
               refine kW kn ?_
               refine shW_ret ?_
               refine q_res1 Try.results4 (res_tmp rfl) (sr) ?_
               obtain rfl := inj1 r158
               exact rfl
             have r159 := bf r154 c155; clear r154
             refine shO_off (b' := false) 131 rfl (EnvB rfl c155) rfl rfl ?_
             refine ov (v_pick_f (evB rfl c155) rfl) rfl ?_
             refine oa rfl rfl (shO_nil ?_)
             refine kW kn ?_
             refine shW_ret ?_
             refine q_res1 Try.results4 (res_tmp rfl) (sr) ?_
             obtain rfl := inj1 r159
             exact rfl
           have r160 := bf r150 c151; clear r150
           refine shO_off (b' := false) 126 rfl (EnvB rfl c151) rfl rfl (shO_off (b' := false) 126 rfl (EnvB rfl c151) rfl rfl (shO_off (b' := false) 126 rfl (EnvB rfl c151) rfl rfl ?_))
           refine ov (v_pick_f (evB rfl c151) rfl) rfl ?_
           refine om rfl rfl (shO_off (b' := false) 131 rfl rfl rfl rfl ?_)
           refine ov (v_pick_f rfl rfl) rfl ?_
           refine oa rfl rfl (shO_nil ?_)
           refine kW kn ?_
           refine shW_ret ?_
           refine q_res1 Try.results4 (res_tmp rfl) (sr) ?_
           obtain rfl := inj1 r160
           exact rfl
         have r161 := bf r146 c147; clear r146
         refine shO_off (b' := false) 121 rfl (EnvB rfl c147) rfl rfl (shO_off (b' := false) 121 rfl (EnvB rfl c147) rfl rfl (shO_off (b' := false) 121 rfl (EnvB rfl c147) rfl rfl ?_))
         refine ov (v_pick_f (evB rfl c147) rfl) rfl ?_
         refine om rfl rfl (shO_off (b' := false) 126 rfl rfl rfl rfl (shO_off (b' := false) 126 rfl rfl rfl rfl (shO_off (b' := false) 126 rfl rfl rfl rfl ?_)))
         refine ov (v_pick_f rfl rfl) rfl ?_
         refine om rfl rfl (shO_off (b' := false) 131 rfl rfl rfl rfl ?_)
         refine ov (v_pick_f rfl rfl) rfl ?_
         refine oa rfl rfl (shO_nil ?_)
         refine kW kn ?_
         refine shW_ret ?_
         refine q_res1 Try.results4 (res_tmp rfl) (sr) ?_
         obtain rfl := inj1 r161
         exact rfl
       have r162 := ite_f r142 c143; clear r142
       refine shO_off (b' := false) 116 rfl (Env.isF rfl c143) rfl rfl (shO_off (b' := false) 116 rfl (Env.isF rfl c143) rfl rfl (shO_off (b' := false) 116 rfl (Env.isF rfl c143) rfl rfl ?_))
       refine ov (v_pick_f (evD_false rfl c143) rfl) rfl ?_
       refine om rfl rfl (shO_off (b' := false) 121 rfl rfl rfl rfl (shO_off (b' := false) 121 rfl rfl rfl rfl (shO_off (b' := false) 121 rfl rfl rfl rfl ?_)))
       refine ov (v_pick_f rfl rfl) rfl ?_
       refine om rfl rfl (shO_off (b' := false) 126 rfl rfl rfl rfl (shO_off (b' := false) 126 rfl rfl rfl rfl (shO_off (b' := false) 126 rfl rfl rfl rfl ?_)))
       refine ov (v_pick_f rfl rfl) rfl ?_
       refine om rfl rfl (shO_off (b' := false) 131 rfl rfl rfl rfl ?_)
       refine ov (v_pick_f rfl rfl) rfl ?_
       refine oa rfl rfl (shO_nil ?_)
       refine kW kn ?_
       refine shW_ret ?_
       refine q_res1 Try.results4 (res_tmp rfl) (sr) ?_
       obtain rfl := inj1 r162
       exact rfl
     have r163 := ite_f r140 c141; clear r140
     refine shO_off (b' := false) 111 rfl (Env.isF rfl c141) rfl rfl (shO_off (b' := false) 111 rfl (Env.isF rfl c141) rfl rfl (shO_off (b' := false) 111 rfl (Env.isF rfl c141) rfl rfl ?_))
     refine ov (v_pick_f (evD_false rfl c141) rfl) rfl ?_
     refine om rfl rfl (shO_off (b' := false) 116 rfl rfl rfl rfl (shO_off (b' := false) 116 rfl rfl rfl rfl (shO_off (b' := false) 116 rfl rfl rfl rfl ?_)))
     refine ov (v_pick_f rfl rfl) rfl ?_
     refine om rfl rfl (shO_off (b' := false) 121 rfl rfl rfl rfl (shO_off (b' := false) 121 rfl rfl rfl rfl (shO_off (b' := false) 121 rfl rfl rfl rfl ?_)))
     refine ov (v_pick_f rfl rfl) rfl ?_
     refine om rfl rfl (shO_off (b' := false) 126 rfl rfl rfl rfl (shO_off (b' := false) 126 rfl rfl rfl rfl (shO_off (b' := false) 126 rfl rfl rfl rfl ?_)))
     refine ov (v_pick_f rfl rfl) rfl ?_
     refine om rfl rfl (shO_off (b' := false) 131 rfl rfl rfl rfl ?_)
     refine ov (v_pick_f rfl rfl) rfl ?_
     refine oa rfl rfl (shO_nil ?_)
     refine kW kn ?_
     refine shW_ret ?_
     refine q_res1 Try.results4 (res_tmp rfl) (sr) ?_
     obtain rfl := inj1 r163
     exact rfl
   have r164 := ite_f r138 c139; clear r138
   refine shO_off (b' := false) 106 rfl (Env.isF rfl c139) rfl rfl (shO_off (b' := false) 106 rfl (Env.isF rfl c139) rfl rfl (shO_off (b' := false) 106 rfl (Env.isF rfl c139) rfl rfl ?_))
   refine ov (v_pick_f (evD_false rfl c139) rfl) rfl ?_
   refine om rfl rfl (shO_off (b' := false) 111 rfl rfl rfl rfl (shO_off (b' := false) 111 rfl rfl rfl rfl (shO_off (b' := false) 111 rfl rfl rfl rfl ?_)))
   refine ov (v_pick_f rfl rfl) rfl ?_
   refine om rfl rfl (shO_off (b' := false) 116 rfl rfl rfl rfl (shO_off (b' := false) 116 rfl rfl rfl rfl (shO_off (b' := false) 116 rfl rfl rfl rfl ?_)))
   refine ov (v_pick_f rfl rfl) rfl ?_
   refine om rfl rfl (shO_off (b' := false) 121 rfl rfl rfl rfl (shO_off (b' := false) 121 rfl rfl rfl rfl (shO_off (b' := false) 121 rfl rfl rfl rfl ?_)))
   refine ov (v_pick_f rfl rfl) rfl ?_
   refine om rfl rfl (shO_off (b' := false) 126 rfl rfl rfl rfl (shO_off (b' := false) 126 rfl rfl rfl rfl (shO_off (b' := false) 126 rfl rfl rfl rfl ?_)))
   refine ov (v_pick_f rfl rfl) rfl ?_
   refine om rfl rfl (shO_off (b' := false) 131 rfl rfl rfl rfl ?_)
   refine ov (v_pick_f rfl rfl) rfl ?_
   refine oa rfl rfl (shO_nil ?_)
   refine kW kn ?_
   refine shW_ret ?_
   refine q_res1 Try.results4 (res_tmp rfl) (sr) ?_
   obtain rfl := inj1 r164
   exact rfl
 have r165 := ite_f r127 c137; clear r127
 refine shO_off (b' := false) 101 rfl (Env.isF rfl c137) rfl rfl (shO_off (b' := false) 101 rfl (Env.isF rfl c137) rfl rfl (shO_off (b' := false) 101 rfl (Env.isF rfl c137) rfl rfl ?_))
 refine ov (v_pick_f (evD_false rfl c137) rfl) rfl ?_
 refine om rfl rfl (shO_off (b' := false) 106 rfl rfl rfl rfl (shO_off (b' := false) 106 rfl rfl rfl rfl (shO_off (b' := false) 106 rfl rfl rfl rfl ?_)))
 refine ov (v_pick_f rfl rfl) rfl ?_
 refine om rfl rfl (shO_off (b' := false) 111 rfl rfl rfl rfl (shO_off (b' := false) 111 rfl rfl rfl rfl (shO_off (b' := false) 111 rfl rfl rfl rfl ?_)))
 refine ov (v_pick_f rfl rfl) rfl ?_
 refine om rfl rfl (shO_off (b' := false) 116 rfl rfl rfl rfl (shO_off (b' := false) 116 rfl rfl rfl rfl (shO_off (b' := false) 116 rfl rfl rfl rfl ?_)))
 refine ov (v_pick_f rfl rfl) rfl ?_
 refine om rfl rfl (shO_off (b' := false) 121 rfl rfl rfl rfl (shO_off (b' := false) 121 rfl rfl rfl rfl (shO_off (b' := false) 121 rfl rfl rfl rfl ?_)))
 refine ov (v_pick_f rfl rfl) rfl ?_
 refine om rfl rfl (shO_off (b' := false) 126 rfl rfl rfl rfl (shO_off (b' := false) 126 rfl rfl rfl rfl (shO_off (b' := false) 126 rfl rfl rfl rfl ?_)))
 refine ov (v_pick_f rfl rfl) rfl ?_
 refine om rfl rfl (shO_off (b' := false) 131 rfl rfl rfl rfl ?_)
 refine ov (v_pick_f rfl rfl) rfl ?_
 refine oa rfl rfl (shO_nil ?_)
 refine kW kn ?_
 refine shW_ret ?_
 refine q_res1 Try.results4 (res_tmp rfl) (sr) ?_
 obtain rfl := inj1 r165
 exact rfl


end Go.Proofs.Ytdnmaodkdhdacaa
