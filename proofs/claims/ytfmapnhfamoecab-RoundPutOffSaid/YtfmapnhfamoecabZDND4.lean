/- The walks that this claim needs, printed by a program of mine; part 4. -/
import Derived.Test.YtfmapnhfamoecabZDND3
namespace Go.Proofs.Ytfmapnhfamoecab
open Go.SH Go.PL
set_option maxHeartbeats 1000000 in
theorem oyezlaw03_RoundPutOff_w {numbers_a : Option Addr} {numbers_c : Nat} {numbers : List Int} {which more : Int} {F : FS} (h_numbers : RowR 1 (iE .u8) F numbers_a numbers_c numbers) {r : Bool} (hr : oyezlaw03_RoundPutOff numbers which more = some r) :
    SpecV Try.prog 5 #[.slice numbers_a numbers.length numbers_c, .int .u8 which, .int .u8 more] F (.bool r) := by
 refine spec_of_shW (args := [.slice numbers_a numbers.length numbers_c, .int .u8 which, .int .u8 more]) Try.func5 rfl Try.ntmps5 (Nat.le_of_ble_eq_true rfl) ?_
 intro K _ _; rw [oyezlaw03_RoundPutOff] at hr
 refine wsr (oa rfl rfl (nsr (om rfl rfl ?_)))
 obtain ⟨metal, at_, turn, h1, r2⟩ := b3_ok hr; clear hr
 refine o_call0 rfl Try.call7 rfl rfl rfl (oyezkit_Hang_w h_numbers h1) ?_; rintro _ F3 _ hF4 hn5 ⟨b7, a8, c9, rfl, rfl, h10⟩
 refine shO_L (lb (ln rfl)) ?_
 obtain ⟨l, l2, n, n2, l3, at_2, turn2, h11, r12⟩ := b7_ok r2; clear r2
 refine o_callG (Lb := [(b7, .cells #[.slice a8 metal.length c9, .int .i64 at_, .int .u32 turn] 72 (0, 0))]) (Lr := []) rfl Try.call6 rfl rfl rfl (pR) (oyezlaw03_Made_w h10 h11) ?_; rintro _ F13 _ hF14 hd16 hn15 ⟨a17, c18, a20, c21, a23, n27, c24, Lb25, rfl, rfl, h19, h22, hz26⟩
 have hn29 := newp (Lb' := [(b7, .cells #[.slice a8 metal.length c9, .int .i64 at_2, .int .u32 turn2] 72 (0, 0))]) (by rfl) hd16 hn15
 replace hz26 := hz26.new fun p hp => hn29 p (by simp [hp])
 refine shO_L (lb (lp (ln rfl))) ?_
 refine o_alloc rfl Try.zeroValue26 ?_; intro b30 hb30
 refine o_storeA (i := 0) Try.sizeOf26 rfl rfl rfl (by simp [Value.oneCell']) rfl (Nat.le_of_ble_eq_true rfl) ?_
 refine shO_L (L' := (b30, .cells #[.slice a17 l.length c18, .slice a20 l2.length c21, .int .i64 n, .int .i64 n2, .slice a23 n27 c24] 26 (0, 0)) :: ((b7, .cells #[.slice a8 metal.length c9, .int .i64 at_2, .int .u32 turn2] 72 (0, 0)) :: (Lb25 ++ []))) rfl ?_
 refine shO_nil (shW_seq (wsr ?_))
 refine ov (v_fieldAddr fa_26_4 rfl) rfl ?_
 refine ov (v_load Try.isAgg24 rfl (Has.own 0 rfl) rfl) rfl ?_
 refine ov ((v_lenS Try.underlying24 rfl).i (SlR.lenI hz26)) rfl ?_
 refine ov (v_eql rfl rfl) rfl ?_
 refine shO_nil ?_
 refine shW_condP rfl (fun c31 => ?_) (fun c31 => ?_)
 · have r32 := ite_t r12 c31; clear r12
   refine wsr ?_
   obtain ⟨ok, h33, r34⟩ := b1_ok r32; clear r32
   refine o_callV rfl Try.call9 rfl rfl rfl (oyezlaw03_awake_w h33) ?_
   refine oa rfl rfl (shO_nil ?_)
   refine kW kn ?_
   refine shW_ret (andThen_ret ?_)
   refine q_res1 Try.results5 (res_tmp rfl) (sr) ?_
   obtain rfl := inj1 r34
   exact rfl
 have r35 := ite_f r12 c31; clear r12
 refine shW_skip (wsr (om rfl rfl ?_))
 obtain ⟨g36, r37⟩ := gd_ok r35; clear r35
 refine ov (i_conv Try.underlying5 Try.underlying3 rfl g36) rfl ?_
 refine ov (v_fieldAddr fa_26_4 rfl) rfl ?_
 refine ov (v_load Try.isAgg24 rfl (Has.own 0 rfl) rfl) rfl ?_
 refine ov ((v_lenS Try.underlying24 rfl).i (SlR.lenI hz26)) rfl ?_
 obtain ⟨g38, r39⟩ := gd_ok r37; clear r37
 refine ov (v_remT rfl rfl g38) rfl ?_
 obtain ⟨k, h40, r41⟩ := bv_ok r39; clear r39
 refine ov ((v_assign rfl).i h40) rfl ?_
 refine shO_nil (shW_seq ?_)
 refine shW_drawM [(.pre, 17), (.still, 0), (.still, 1), (.still, 2), (.still, 3), (.still, 4), (.still, 5), (.still, 6), (.still, 7), (.still, 8), (.still, 9), (.still, 10), (.still, 11), (.still, 12), (.seq, 13), (.still, 14), (.still, 15), (.still, 16), (.alloc (.cells (.agg #[.slice none 0 0, .slice none 0 0, .int .i64 0, .int .i64 0, .slice none 0 0] : Value).cells 26 (0, 0)) (fun b => .pointer (some ⟨b, 0, none⟩)) [], 17), (.seq, 18), (.still, 19)] (by kernel_rfl) (by kernel_rfl) (⟨⟨_, _, rfl, rfl, rfl, rfl, rfl, mk_alloc Try.zeroValue26⟩, trivial⟩) (by rfl) (by kernel_rfl) ?_
 refine ⟨⟨[], rfl, sn _, by kernel_rfl⟩, ?_⟩
 refine shM_v (v := .agg #[.slice a17 l.length c18, .slice a20 l2.length c21, .int .i64 n, .int .i64 n2, .slice a23 n27 c24]) (ek := [(7, .pointer (some ⟨b30, 0, none⟩))]) (Ls := [(b30, .cells #[.slice a17 l.length c18, .slice a20 l2.length c21, .int .i64 n, .int .i64 n2, .slice a23 n27 c24] 26 (0, 0))]) rfl rfl rfl rfl ((sc rfl (sn _))) (by kernel_rfl) (s0 (s2 (s1 (s3 sr)))) (fun H F' L' hF' hL' => v_loadA (cs := #[.slice a17 l.length c18, .slice a20 l2.length c21, .int .i64 n, .int .i64 n2, .slice a23 n27 c24]) Try.isAgg26 Try.sizeOf26 rfl ((Has.own 0 rfl).ext hF' hL') (Nat.le_of_ble_eq_true rfl) rfl) ?_
 refine shM_v (v := .int .i64 k) (ek := [(8, .int .i64 k)]) (Ls := []) rfl rfl rfl rfl ((sc rfl (sn _))) (by kernel_rfl) sm (fun H F' L' hF' hL' => v_move rfl) ?_
 refine shM_v (v := .pointer (some ⟨b30, 4, none⟩)) (ek := [(7, .pointer (some ⟨b30, 0, none⟩))]) (Ls := []) rfl rfl rfl rfl ((sc rfl (sn _))) (by kernel_rfl) sm (fun H F' L' hF' hL' => v_fieldAddr fa_26_4 rfl) ?_
 refine shM_v (v := .slice a23 n27 c24) (ek := [(52, .pointer (some ⟨b30, 4, none⟩))]) (Ls := [(b30, .cells #[.slice a17 l.length c18, .slice a20 l2.length c21, .int .i64 n, .int .i64 n2, .slice a23 n27 c24] 26 (0, 0))]) rfl rfl rfl rfl ((sc rfl (sn _))) (by kernel_rfl) (s0 (s2 (s1 (s3 sr)))) (fun H F' L' hF' hL' => v_load Try.isAgg24 rfl ((Has.own 0 rfl).ext hF' hL') rfl) ?_
 refine shM_v (v := .int .i64 k) (ek := [(8, .int .i64 k)]) (Ls := []) rfl rfl rfl rfl ((sc rfl (sn _))) (by kernel_rfl) sm (fun H F' L' hF' hL' => v_move rfl) ?_
 obtain ⟨x, g42, hx43, r44⟩ := ix_ok r41; clear r41
 obtain ⟨b45, o46, c47, vs48, ha49, hs50, hle51, ⟨_, _, rfl, ⟨a54, c55, rfl, h56⟩, ⟨_, _, rfl, rfl, rfl⟩⟩, hl52, hc53⟩ := SlR.at (prE_ok (slE_ok (iE_ok _)) (prE_ok (iE_ok _) (iE_ok _))) hz26 (L := Lb25 ++ []) fP g42.1 hx43
 refine shM_v (v := .pointer (some ⟨b45, o46 + (k : Int).toNat * 3, none⟩)) (ek := [(53, .slice a23 n27 c24), (54, .int .i64 k)]) (Ls := []) rfl rfl rfl rfl ((sc rfl (sc rfl (sn _)))) (by kernel_rfl) sm (fun H F' L' hF' hL' => v_indexO Try.underlying24 Try.sizeOf40 rfl ha49 rfl (SlR.idx hz26 g42)) ?_
 refine shM_v (v := .pointer (some ⟨b45, o46 + (k : Int).toNat * 3 + 2, none⟩)) (ek := [(55, .pointer (some ⟨b45, o46 + (k : Int).toNat * 3, none⟩))]) (Ls := []) rfl rfl rfl rfl ((sc rfl (sn _))) (by kernel_rfl) sm (fun H F' L' hF' hL' => v_fieldAddr fa_40_2 rfl) ?_
 refine shM_v (v := .int .i64 x.2.2) (ek := [(56, .pointer (some ⟨b45, o46 + (k : Int).toNat * 3 + 2, none⟩))]) (Ls := Lb25 ++ []) rfl rfl rfl rfl ((sc rfl (sn _))) (by kernel_rfl) (s0 (s1 (s1 (s4 sr)))) (fun H F' L' hF' hL' => v_load Try.isAgg3 rfl (hs50.ext hF' hL') (hc53 2 (by decide))) ?_
 refine shM_v (v := .int .u8 more) (ek := [(2, .int .u8 more)]) (Ls := []) rfl rfl rfl rfl ((sc rfl (sn _))) (by kernel_rfl) sm (fun H F' L' hF' hL' => v_move rfl) ?_
 refine shM_v (v := .int .u8 (Int.tmod more 40)) (ek := [(58, .int .u8 more)]) (Ls := []) rfl rfl rfl rfl ((sc rfl (sn _))) (by kernel_rfl) sm (fun H F' L' hF' hL' => v_remT rfl rfl (by decide)) ?_
 obtain ⟨g57, r58⟩ := gd_ok r44; clear r44
 refine shM_v (v := .int .i64 (Int.tmod more 40)) (ek := [(59, .int .u8 (Int.tmod more 40))]) (Ls := []) rfl rfl rfl rfl ((sc rfl (sn _))) (by kernel_rfl) sm (fun H F' L' hF' hL' => i_conv Try.underlying5 Try.underlying3 rfl g57) ?_
 obtain ⟨g59, r60⟩ := gd_ok r58; clear r58
 refine shM_v (v := .int .i64 (x.2.2 + (Int.tmod more 40))) (ek := [(57, .int .i64 x.2.2), (60, .int .i64 (Int.tmod more 40))]) (Ls := []) rfl rfl rfl rfl ((sc rfl (sc rfl (sn _)))) (by kernel_rfl) sm (fun H F' L' hF' hL' => v_add rfl rfl g59) ?_
 refine shM_v (v := .int .i64 (if x.2.2 + (Int.tmod more 40) < 200 then x.2.2 + (Int.tmod more 40) else 200)) (ek := [(61, .int .i64 (x.2.2 + (Int.tmod more 40)))]) (Ls := []) rfl rfl rfl rfl ((sc rfl (sn _))) (by kernel_rfl) sm (fun H F' L' hF' hL' => v_min2 rfl rfl) ?_
 refine ⟨_, [(50, .agg #[.slice a17 l.length c18, .slice a20 l2.length c21, .int .i64 n, .int .i64 n2, .slice a23 n27 c24]), (51, .int .i64 k), (62, .int .i64 (if x.2.2 + (Int.tmod more 40) < 200 then x.2.2 + (Int.tmod more 40) else 200))], rfl, rfl, (sc rfl (sc rfl (sc rfl (sn _)))), by kernel_rfl, ?_⟩; intro H
 obtain rfl := (SlR.caps hz26).1
 refine shO_freezeR (Nat.le_refl _) (prE_ok (slE_ok (iE_ok _)) (prE_ok (iE_ok _) (iE_ok _))) (fC (fC fP)) hz26 ?_; intro F61 hF62 h63
 replace h19 := h19.mono (slE_ok (iE_ok _)) hF62
 replace h22 := h22.mono (slE_ok (iE_ok _)) hF62
 obtain ⟨l4, l5, n3, n4, l6, n5, h64, r65⟩ := b6_ok r60; clear r60
 refine o_call0 rfl Try.call11 rfl rfl rfl (round_Put_w h19 h22 h63 h64) ?_; rintro _ F66 _ hF67 hn68 ⟨a70, n74, c71, Lb72, a76, n80, c77, Lb78, a82, n86, c83, Lb84, rfl, rfl, hz73, hz79, hz85⟩
 replace h19 := h19.mono (slE_ok (iE_ok _)) hF67
 replace h22 := h22.mono (slE_ok (iE_ok _)) hF67
 replace h63 := h63.mono (prE_ok (slE_ok (iE_ok _)) (prE_ok (iE_ok _) (iE_ok _))) hF67
 replace hz73 := hz73.new fun p hp => hn68 p (by simp [hp])
 replace hz79 := hz79.new fun p hp => hn68 p (by simp [hp])
 replace hz85 := hz85.new fun p hp => hn68 p (by simp [hp])
 refine shO_L (lp (lp (lp (ln rfl)))) ?_
 refine kO (kf (fS (fS (fS fO))) (kf (fS (fS (fS fO))) kr)) ?_
 refine shO_nil ⟨_, rfl, (hF62.trans hF67), [4, 3, 2], by kernel_rfl, .inl (.inr (fun d h => by cases h; rfl)), (List.forall_mem_cons.2 ⟨sm, (List.forall_mem_cons.2 ⟨s0 (s2 (s1 (s3 (s3 (s3 sr))))), (List.forall_mem_cons.2 ⟨sm, (fun _ h => absurd h List.not_mem_nil)⟩)⟩)⟩), ?_⟩
 refine shM_v (v := .tuple #[.agg #[.slice a70 n74 c71, .slice a76 n80 c77, .int .i64 n3, .int .i64 n4, .slice a82 n86 c83], .int .i64 n5]) (ek := [(63, .tuple #[.agg #[.slice a70 n74 c71, .slice a76 n80 c77, .int .i64 n3, .int .i64 n4, .slice a82 n86 c83], .int .i64 n5])]) (Ls := []) rfl rfl rfl rfl ((sc rfl (sn _))) (by kernel_rfl) sm (fun H F' L' hF' hL' => v_move rfl) ?_
 refine shM_v (v := .agg #[.slice a70 n74 c71, .slice a76 n80 c77, .int .i64 n3, .int .i64 n4, .slice a82 n86 c83]) (ek := [(49, .tuple #[.agg #[.slice a70 n74 c71, .slice a76 n80 c77, .int .i64 n3, .int .i64 n4, .slice a82 n86 c83], .int .i64 n5])]) (Ls := []) rfl rfl rfl rfl ((sc rfl (sn _))) (by kernel_rfl) sm (fun H F' L' hF' hL' => v_extract rfl rfl) ?_
 refine shM_v (v := .int .i64 n5) (ek := [(49, .tuple #[.agg #[.slice a70 n74 c71, .slice a76 n80 c77, .int .i64 n3, .int .i64 n4, .slice a82 n86 c83], .int .i64 n5])]) (Ls := []) rfl rfl rfl rfl ((sc rfl (sn _))) (by kernel_rfl) sm (fun H F' L' hF' hL' => v_extract rfl rfl) ?_
 refine shM_ptr rfl ?_; intro b88 hb88
 refine shM_L (L' := (b88, .cells #[.slice none 0 0, .slice none 0 0, .int .i64 0, .int .i64 0, .slice none 0 0] 26 (0, 0)) :: ((b30, .cells #[.slice a17 l.length c18, .slice a20 l2.length c21, .int .i64 n, .int .i64 n2, .slice a23 l3.length c24] 26 (0, 0)) :: ((b7, .cells #[.slice a8 metal.length c9, .int .i64 at_2, .int .u32 turn2] 72 (0, 0)) :: (Lb72 ++ (Lb78 ++ (Lb84 ++ [])))))) rfl ?_
 refine ⟨_, [(9, .pointer (some ⟨b88, 0, none⟩)), (64, .agg #[.slice a70 n74 c71, .slice a76 n80 c77, .int .i64 n3, .int .i64 n4, .slice a82 n86 c83])], rfl, rfl, (sc rfl (sc rfl (sn _))), by kernel_rfl, ?_⟩; intro H
 refine o_storeA (i := 0) Try.sizeOf26 rfl rfl rfl (by simp [Value.oneCell']) rfl (Nat.le_of_ble_eq_true rfl) ?_
 refine shO_L (L' := (b88, .cells #[.slice a70 n74 c71, .slice a76 n80 c77, .int .i64 n3, .int .i64 n4, .slice a82 n86 c83] 26 (0, 0)) :: ((b30, .cells #[.slice a17 l.length c18, .slice a20 l2.length c21, .int .i64 n, .int .i64 n2, .slice a23 l3.length c24] 26 (0, 0)) :: ((b7, .cells #[.slice a8 metal.length c9, .int .i64 at_2, .int .u32 turn2] 72 (0, 0)) :: (Lb72 ++ (Lb78 ++ (Lb84 ++ [])))))) rfl ?_
 refine shO_nil ⟨undef, rfl, FExt.refl _, [16], by kernel_rfl, .inl (.inr (fun d h => by cases h)), (List.forall_mem_cons.2 ⟨sm, (fun _ h => absurd h List.not_mem_nil)⟩), ?_⟩
 refine shM_v (v := .int .i64 n5) (ek := [(65, .int .i64 n5)]) (Ls := []) rfl rfl rfl rfl ((sc rfl (sn _))) (by kernel_rfl) sm (fun H F' L' hF' hL' => v_assign rfl) ?_
 refine shM_nil ?_
 refine wsr ?_
 refine ov (v_loadA (cs := #[.slice a17 l.length c18, .slice a20 l2.length c21, .int .i64 n, .int .i64 n2, .slice a23 l3.length c24]) Try.isAgg26 Try.sizeOf26 rfl (Has.own 1 rfl) (Nat.le_of_ble_eq_true rfl) rfl) rfl ?_
 obtain ⟨l7, n6, n7, h89, r90⟩ := b3_ok r65; clear r65
 refine o_call0 rfl Try.call8 rfl rfl rfl (round_Best_w h19 h22 h63 h89) ?_; rintro _ F91 _ hF92 hn93 ⟨a95, n99, c96, Lb97, rfl, rfl, hz98⟩
 replace h19 := h19.mono (slE_ok (iE_ok _)) hF92
 replace h22 := h22.mono (slE_ok (iE_ok _)) hF92
 replace h63 := h63.mono (prE_ok (slE_ok (iE_ok _)) (prE_ok (iE_ok _) (iE_ok _))) hF92
 replace hz73 := hz73.mono (iE_ok _) hF92
 replace hz79 := hz79.mono (iE_ok _) hF92
 replace hz85 := hz85.mono (prE_ok (slE_ok (iE_ok _)) (prE_ok (iE_ok _) (iE_ok _))) hF92
 refine shO_L (lp (ln rfl)) ?_
 refine kO (kf (fS fO) (kf (fS fO) (kf (fS fO) kr))) ?_
 refine om rfl rfl (ox rfl rfl rfl (ox rfl rfl rfl (ox rfl rfl rfl (oa rfl rfl (oa rfl rfl (oa rfl rfl (nsr ?_)))))))
 refine ov (v_loadA (cs := #[.slice a70 n74 c71, .slice a76 n80 c77, .int .i64 n3, .int .i64 n4, .slice a82 n86 c83]) Try.isAgg26 Try.sizeOf26 rfl (Has.own 0 rfl) (Nat.le_of_ble_eq_true rfl) rfl) rfl ?_
 obtain ⟨l8, n8, n9, h101, r102⟩ := b3_ok r90; clear r90
 refine o_callTO (Lb := []) (Lt := Lb72 ++ (Lb78 ++ (Lb84 ++ []))) (Lr := (b88, .cells #[.slice a70 n74 c71, .slice a76 n80 c77, .int .i64 n3, .int .i64 n4, .slice a82 n86 c83] 26 (0, 0)) :: ((b30, .cells #[.slice a17 l.length c18, .slice a20 l2.length c21, .int .i64 n, .int .i64 n2, .slice a23 l3.length c24] 26 (0, 0)) :: ((b7, .cells #[.slice a8 metal.length c9, .int .i64 at_2, .int .u32 turn2] 72 (0, 0)) :: (Lb97 ++ [])))) rfl Try.call8 rfl rfl rfl (pT ((fC (fC (fC (fS fP)))).trans (pA ((fC (fC (fC (fS fP)))).trans (pA ((fC (fC (fC (fS fP)))).trans (pA pR)))))) (ln (lp (lp (lp (ln rfl)))))) (fun F2 h2 h3 => by rw [(NlR.caps hz73).1]; rw [(NlR.caps hz79).1]; rw [(SlR.caps hz85).1]; exact round_Best_w (hz73.row (iE_ok _) h2 (fun p hp => h3 p (List.mem_append_left _ hp))) (hz79.row (iE_ok _) h2 (fun p hp => h3 p (List.mem_append_right _ (List.mem_append_left _ hp)))) (hz85.row (prE_ok (slE_ok (iE_ok _)) (prE_ok (iE_ok _) (iE_ok _))) h2 (fun p hp => h3 p (List.mem_append_right _ (List.mem_append_right _ (List.mem_append_left _ hp))))) h101) (fun _ _ _ _ hq => by obtain ⟨a107, n111, c108, Lb109, rfl, rfl, hz110⟩ := hq; exact ⟨_, _, _, _, rfl, rfl, hz110.flat (fun _ _ h => h)⟩) ?_; rintro _ F103 _ hF104 hd106 hn105 ⟨a107, n111, c108, Lb109, rfl, rfl, hz110⟩
 replace h19 := h19.mono (slE_ok (iE_ok _)) hF104
 replace h22 := h22.mono (slE_ok (iE_ok _)) hF104
 replace h63 := h63.mono (prE_ok (slE_ok (iE_ok _)) (prE_ok (iE_ok _) (iE_ok _))) hF104
 replace hz73 := hz73.mono (iE_ok _) hF104
 replace hz79 := hz79.mono (iE_ok _) hF104
 replace hz85 := hz85.mono (prE_ok (slE_ok (iE_ok _)) (prE_ok (iE_ok _) (iE_ok _))) hF104
 refine shO_L (lp (ln (lp (lp (lp (ln rfl)))))) ?_
 refine kO (kf (fS (fS (fS (fS fO)))) (kf (fS (fS (fS (fS fO)))) (kf (fS (fS (fS (fS fO)))) kr))) ?_
 refine om rfl rfl (ox rfl rfl rfl (ox rfl rfl rfl (ox rfl rfl rfl (oa rfl rfl (oa rfl rfl (oa rfl rfl (nsr ?_)))))))
 refine ov (v_loadA (cs := #[.slice a17 l.length c18, .slice a20 l2.length c21, .int .i64 n, .int .i64 n2, .slice a23 l3.length c24]) Try.isAgg26 Try.sizeOf26 rfl (Has.own 1 rfl) (Nat.le_of_ble_eq_true rfl) rfl) rfl ?_
 obtain ⟨l9, n10, h114, r115⟩ := b2_ok r102; clear r102
 refine o_call0 rfl Try.call24 rfl rfl rfl (round_Most_w h19 h22 h63 h114) ?_; rintro _ F116 _ hF117 hn118 ⟨a120, c121, rfl, rfl, h122⟩
 replace h19 := h19.mono (slE_ok (iE_ok _)) hF117
 replace h22 := h22.mono (slE_ok (iE_ok _)) hF117
 replace h63 := h63.mono (prE_ok (slE_ok (iE_ok _)) (prE_ok (iE_ok _) (iE_ok _))) hF117
 replace hz73 := hz73.mono (iE_ok _) hF117
 replace hz79 := hz79.mono (iE_ok _) hF117
 replace hz85 := hz85.mono (prE_ok (slE_ok (iE_ok _)) (prE_ok (iE_ok _) (iE_ok _))) hF117
 refine shO_L (ln rfl) ?_
 refine om rfl rfl (ox rfl rfl rfl (ox rfl rfl rfl (oa rfl rfl (oa rfl rfl (nsr ?_)))))
 refine ov (v_loadA (cs := #[.slice a70 n74 c71, .slice a76 n80 c77, .int .i64 n3, .int .i64 n4, .slice a82 n86 c83]) Try.isAgg26 Try.sizeOf26 rfl (Has.own 0 rfl) (Nat.le_of_ble_eq_true rfl) rfl) rfl ?_
 obtain rfl := (NlR.caps hz73).1
 refine shO_freezeN (Nat.le_refl _) (iE_ok _) (fC (fC (fC (fS fP)))) hz73 ?_; intro F123 hF124 h125
 replace h19 := h19.mono (slE_ok (iE_ok _)) hF124
 replace h22 := h22.mono (slE_ok (iE_ok _)) hF124
 replace h63 := h63.mono (prE_ok (slE_ok (iE_ok _)) (prE_ok (iE_ok _) (iE_ok _))) hF124
 replace hz79 := hz79.mono (iE_ok _) hF124
 replace hz85 := hz85.mono (prE_ok (slE_ok (iE_ok _)) (prE_ok (iE_ok _) (iE_ok _))) hF124
 obtain rfl := (NlR.caps hz79).1
 refine shO_freezeN (Nat.le_refl _) (iE_ok _) (fC (fC (fC (fS fP)))) hz79 ?_; intro F126 hF127 h128
 replace h19 := h19.mono (slE_ok (iE_ok _)) hF127
 replace h22 := h22.mono (slE_ok (iE_ok _)) hF127
 replace h63 := h63.mono (prE_ok (slE_ok (iE_ok _)) (prE_ok (iE_ok _) (iE_ok _))) hF127
 replace h125 := h125.mono (slE_ok (iE_ok _)) hF127
 replace hz85 := hz85.mono (prE_ok (slE_ok (iE_ok _)) (prE_ok (iE_ok _) (iE_ok _))) hF127
 obtain rfl := (SlR.caps hz85).1
 refine shO_freezeR (Nat.le_refl _) (prE_ok (slE_ok (iE_ok _)) (prE_ok (iE_ok _) (iE_ok _))) (fC (fC (fC (fS fP)))) hz85 ?_; intro F129 hF130 h131
 replace h19 := h19.mono (slE_ok (iE_ok _)) hF130
 replace h22 := h22.mono (slE_ok (iE_ok _)) hF130
 replace h63 := h63.mono (prE_ok (slE_ok (iE_ok _)) (prE_ok (iE_ok _) (iE_ok _))) hF130
 replace h125 := h125.mono (slE_ok (iE_ok _)) hF130
 replace h128 := h128.mono (slE_ok (iE_ok _)) hF130
 obtain ⟨l10, n11, h132, r133⟩ := b2_ok r115; clear r115
 refine o_call0 rfl Try.call24 rfl rfl rfl (round_Most_w h125 h128 h131 h132) ?_; rintro _ F134 _ hF135 hn136 ⟨a138, c139, rfl, rfl, h140⟩
 replace h19 := h19.mono (slE_ok (iE_ok _)) hF135
 replace h22 := h22.mono (slE_ok (iE_ok _)) hF135
 replace h63 := h63.mono (prE_ok (slE_ok (iE_ok _)) (prE_ok (iE_ok _) (iE_ok _))) hF135
 replace h125 := h125.mono (slE_ok (iE_ok _)) hF135
 replace h128 := h128.mono (slE_ok (iE_ok _)) hF135
 replace h131 := h131.mono (prE_ok (slE_ok (iE_ok _)) (prE_ok (iE_ok _) (iE_ok _))) hF135
 refine shO_L (ln rfl) ?_
 refine om rfl rfl (ox rfl rfl rfl (ox rfl rfl rfl (oa rfl rfl (oa rfl rfl (shO_nil (shW_seq ?_))))))
 obtain ⟨k2, h141, r142⟩ := b1_ok r133; clear r133
 refine shW_join (fun e1 F1 L1 => F134 = F1 ∧ L1 = [(b88, .cells #[.slice a70 l4.length c71, .slice a76 l5.length c77, .int .i64 n3, .int .i64 n4, .slice a82 l6.length c83] 26 (0, 0)), (b30, .cells #[.slice a17 l.length c18, .slice a20 l2.length c21, .int .i64 n, .int .i64 n2, .slice a23 l3.length c24] 26 (0, 0))] ∧ e1.sub [(2, .int .u8 more), (7, .pointer (some ⟨b30, 0, none⟩)), (8, .int .i64 k), (9, .pointer (some ⟨b88, 0, none⟩)), (13, .int .i64 n7), (125, .bool k2)]) ?_ ?_
 · clear r142
   refine shW_region (om rfl rfl ?_)
   refine ov (v_neq rfl rfl) rfl ?_
   refine om rfl rfl ?_
   by_cases c143 : n5 ≠ 0
   · have r144 := ite_t h141 c143; clear h141
     refine shO_off (b' := true) 90 rfl (Env.isT rfl c143) rfl rfl (shO_off (b' := true) 90 rfl (Env.isT rfl c143) rfl rfl ?_)
     refine ov (v_pick_t (evD_true rfl c143) rfl) rfl ?_
     refine om rfl rfl (shO_off (b' := true) 94 rfl rfl rfl rfl (shO_off (b' := true) 94 rfl rfl rfl rfl ?_))
     refine ov (v_pick_t rfl rfl) rfl ?_
     refine om rfl rfl (shO_off (b' := true) 98 rfl rfl rfl rfl (shO_off (b' := true) 98 rfl rfl rfl rfl (shO_off (b' := true) 98 rfl rfl rfl rfl (shO_offU 101 rfl rfl rfl (shO_offU 101 rfl rfl rfl (shO_off (b' := true) 98 rfl rfl rfl rfl ?_))))))
     refine ov (v_pick_t rfl rfl) rfl ?_
     refine om rfl rfl (shO_off (b' := true) 106 rfl rfl rfl rfl (shO_off (b' := true) 106 rfl rfl rfl rfl (shO_off (b' := true) 106 rfl rfl rfl rfl (shO_offU 109 rfl rfl rfl (shO_offU 109 rfl rfl rfl (shO_offU 109 rfl rfl rfl (shO_offU 112 rfl rfl rfl (shO_offU 112 rfl rfl rfl (shO_offU 112 rfl rfl rfl ?_)))))))))
     refine shO_offU 109 rfl rfl rfl (shO_off (b' := true) 106 rfl rfl rfl rfl ?_)
     refine ov (v_pick_t rfl rfl) rfl ?_
     refine om rfl rfl (shO_off (b' := true) 119 rfl rfl rfl rfl (shO_off (b' := true) 119 rfl rfl rfl rfl (shO_off (b' := true) 119 rfl rfl rfl rfl (shO_off (b' := true) 119 rfl rfl rfl rfl (shO_off (b' := true) 119 rfl rfl rfl rfl ?_)))))
     refine ov (v_pick_t rfl rfl) rfl ?_
     refine shO_nil ?_
     obtain rfl := inj1 r144
     exact mi (kc (kc kn)) ⟨rfl, rfl, (sc rfl (sc rfl (sc rfl (sc rfl (sc rfl (sc rfl (sn _)))))))⟩
   have r145 := ite_f h141 c143; clear h141
   refine shO_on (b := false) 90 rfl (Env.isF rfl c143) (om rfl rfl (shO_on (b := false) 90 rfl (Env.isF rfl c143) ?_))
   refine ov (v_neq rfl rfl) rfl ?_
   refine ov (v_pick_f (evD_false rfl c143) rfl) rfl ?_
   refine om rfl rfl ?_
   by_cases c146 : n10 ≠ 0
   · have r147 := ite_t r145 c146; clear r145
     refine shO_off (b' := true) 94 rfl (Env.isT rfl c146) rfl rfl (shO_off (b' := true) 94 rfl (Env.isT rfl c146) rfl rfl ?_)
     refine ov (v_pick_t (evD_true rfl c146) rfl) rfl ?_
     refine om rfl rfl (shO_off (b' := true) 98 rfl rfl rfl rfl (shO_off (b' := true) 98 rfl rfl rfl rfl (shO_off (b' := true) 98 rfl rfl rfl rfl (shO_offU 101 rfl rfl rfl (shO_offU 101 rfl rfl rfl (shO_off (b' := true) 98 rfl rfl rfl rfl ?_))))))
     refine ov (v_pick_t rfl rfl) rfl ?_
     refine om rfl rfl (shO_off (b' := true) 106 rfl rfl rfl rfl (shO_off (b' := true) 106 rfl rfl rfl rfl (shO_off (b' := true) 106 rfl rfl rfl rfl (shO_offU 109 rfl rfl rfl (shO_offU 109 rfl rfl rfl (shO_offU 109 rfl rfl rfl (shO_offU 112 rfl rfl rfl (shO_offU 112 rfl rfl rfl (shO_offU 112 rfl rfl rfl ?_)))))))))
     refine shO_offU 109 rfl rfl rfl (shO_off (b' := true) 106 rfl rfl rfl rfl ?_)
     refine ov (v_pick_t rfl rfl) rfl ?_
     refine om rfl rfl (shO_off (b' := true) 119 rfl rfl rfl rfl (shO_off (b' := true) 119 rfl rfl rfl rfl (shO_off (b' := true) 119 rfl rfl rfl rfl (shO_off (b' := true) 119 rfl rfl rfl rfl (shO_off (b' := true) 119 rfl rfl rfl rfl ?_)))))
     refine ov (v_pick_t rfl rfl) rfl ?_
     refine shO_nil ?_
     obtain rfl := inj1 r147
     exact mi (kc (kc kn)) ⟨rfl, rfl, (sc rfl (sc rfl (sc rfl (sc rfl (sc rfl (sc rfl (sn _)))))))⟩
   have r148 := ite_f r145 c146; clear r145
   refine shO_on (b := false) 94 rfl (Env.isF rfl c146) (om rfl rfl (shO_on (b := false) 94 rfl (Env.isF rfl c146) ?_))
   refine ov (v_neq rfl rfl) rfl ?_
   refine ov (v_pick_f (evD_false rfl c146) rfl) rfl ?_
   refine om rfl rfl ?_
   by_cases c149 : n11 ≠ 0
   · have r150 := ite_t r148 c149; clear r148
     refine shO_off (b' := true) 98 rfl (Env.isT rfl c149) rfl rfl (shO_off (b' := true) 98 rfl (Env.isT rfl c149) rfl rfl (shO_off (b' := true) 98 rfl (Env.isT rfl c149) rfl rfl (shO_offU 101 rfl rfl rfl (shO_offU 101 rfl rfl rfl (shO_off (b' := true) 98 rfl (Env.isT rfl c149) rfl rfl ?_)))))
     refine ov (v_pick_t (evD_true rfl c149) rfl) rfl ?_
     refine om rfl rfl (shO_off (b' := true) 106 rfl rfl rfl rfl (shO_off (b' := true) 106 rfl rfl rfl rfl (shO_off (b' := true) 106 rfl rfl rfl rfl (shO_offU 109 rfl rfl rfl (shO_offU 109 rfl rfl rfl (shO_offU 109 rfl rfl rfl (shO_offU 112 rfl rfl rfl (shO_offU 112 rfl rfl rfl (shO_offU 112 rfl rfl rfl ?_)))))))))
     refine shO_offU 109 rfl rfl rfl (shO_off (b' := true) 106 rfl rfl rfl rfl ?_)
     refine ov (v_pick_t rfl rfl) rfl ?_
     refine om rfl rfl (shO_off (b' := true) 119 rfl rfl rfl rfl (shO_off (b' := true) 119 rfl rfl rfl rfl (shO_off (b' := true) 119 rfl rfl rfl rfl (shO_off (b' := true) 119 rfl rfl rfl rfl (shO_off (b' := true) 119 rfl rfl rfl rfl ?_)))))
     refine ov (v_pick_t rfl rfl) rfl ?_
     refine shO_nil ?_
     obtain rfl := inj1 r150
     exact mi (kc (kc kn)) ⟨rfl, rfl, (sc rfl (sc rfl (sc rfl (sc rfl (sc rfl (sc rfl (sn _)))))))⟩
   have r151 := ite_f r148 c149; clear r148
   refine shO_on (b := false) 98 rfl (Env.isF rfl c149) (om rfl rfl (shO_on (b := false) 98 rfl (Env.isF rfl c149) ?_))
   refine ov (v_neq rfl rfl) rfl ?_
   refine shO_on (b := false) 98 rfl (Env.isF rfl c149) (om rfl rfl ?_)
   by_cases c152 : n7 ≠ 0
   · have r153 := ite_t r151 c152; clear r151
     refine shO_on (b := true) 101 rfl (Env.isT rfl c152) (om rfl rfl (shO_on (b := true) 101 rfl (Env.isT rfl c152) ?_))
     refine ov (v_neq rfl rfl) rfl ?_
     refine shO_on (b := false) 98 rfl (Env.isF rfl c149) ?_
     refine ov (v_pick_t (evD_true rfl c152) rfl) rfl ?_
     refine ov (v_pick_f (evD_false rfl c149) rfl) rfl ?_
     refine om rfl rfl ?_
     by_cases c154 : n7 ≠ 6
     · have r155 := ite_t r153 c154; clear r153
       refine shO_off (b' := true) 106 rfl (Env.isT rfl c154) rfl rfl (shO_off (b' := true) 106 rfl (Env.isT rfl c154) rfl rfl (shO_off (b' := true) 106 rfl (Env.isT rfl c154) rfl rfl (shO_offU 109 rfl rfl rfl (shO_offU 109 rfl rfl rfl (shO_offU 109 rfl rfl rfl (shO_offU 112 rfl rfl rfl (shO_offU 112 rfl rfl rfl (shO_offU 112 rfl rfl rfl (shO_offU 109 rfl rfl rfl ?_)))))))))
       refine shO_off (b' := true) 106 rfl (Env.isT rfl c154) rfl rfl ?_
       refine ov (v_pick_t (evD_true rfl c154) rfl) rfl ?_
       refine om rfl rfl (shO_off (b' := true) 119 rfl rfl rfl rfl (shO_off (b' := true) 119 rfl rfl rfl rfl (shO_off (b' := true) 119 rfl rfl rfl rfl (shO_off (b' := true) 119 rfl rfl rfl rfl (shO_off (b' := true) 119 rfl rfl rfl rfl ?_)))))
       refine ov (v_pick_t rfl rfl) rfl ?_
       refine shO_nil ?_
       obtain rfl := inj1 r155
       exact mi (kc (kc kn)) ⟨rfl, rfl, (sc rfl (sc rfl (sc rfl (sc rfl (sc rfl (sc rfl (sn _)))))))⟩
     have r156 := ite_f r153 c154; clear r153
     refine shO_on (b := false) 106 rfl (Env.isF rfl c154) (om rfl rfl (shO_on (b := false) 106 rfl (Env.isF rfl c154) ?_))
     refine ov (v_eql rfl rfl) rfl ?_
     refine shO_on (b := false) 106 rfl (Env.isF rfl c154) (om rfl rfl ?_)
     by_cases c157 : n7 = 0
     · have r158 := ite_t r156 c157; clear r156
       refine shO_on (b := true) 109 rfl (Env.isT rfl c157) (om rfl rfl (shO_on (b := true) 109 rfl (Env.isT rfl c157) ?_))
       refine ov (v_neq rfl rfl) rfl ?_
       refine shO_on (b := true) 109 rfl (Env.isT rfl c157) (om rfl rfl ?_)
       by_cases c159 : n9 ≠ 0
       · have r160 := ite_t r158 c159; clear r158
         refine shO_off (b' := true) 112 rfl (Env.isT rfl c159) rfl rfl (shO_off (b' := true) 112 rfl (Env.isT rfl c159) rfl rfl (shO_off (b' := true) 112 rfl (Env.isT rfl c159) rfl rfl (shO_on (b := true) 109 rfl (Env.isT rfl c157) ?_)))
         refine ov (v_pick_t (evD_true rfl c159) rfl) rfl ?_
         refine shO_on (b := false) 106 rfl (Env.isF rfl c154) ?_
         refine ov (v_pick_t (evD_true rfl c157) rfl) rfl ?_
         refine ov (v_pick_f (evD_false rfl c154) rfl) rfl ?_
         refine om rfl rfl (shO_off (b' := true) 119 rfl rfl rfl rfl (shO_off (b' := true) 119 rfl rfl rfl rfl (shO_off (b' := true) 119 rfl rfl rfl rfl (shO_off (b' := true) 119 rfl rfl rfl rfl (shO_off (b' := true) 119 rfl rfl rfl rfl ?_)))))
         refine ov (v_pick_t rfl rfl) rfl ?_
         refine shO_nil ?_
         obtain rfl := inj1 r160
         exact mi (kc (kc kn)) ⟨rfl, rfl, (sc rfl (sc rfl (sc rfl (sc rfl (sc rfl (sc rfl (sn _)))))))⟩
       have r161 := ite_f r158 c159; clear r158
       refine shO_on (b := false) 112 rfl (Env.isF rfl c159) (om rfl rfl (shO_on (b := false) 112 rfl (Env.isF rfl c159) (om rfl rfl (shO_on (b := false) 112 rfl (Env.isF rfl c159) ?_))))
       refine ov (v_gtrK rfl rfl) rfl ?_
       refine shO_on (b := true) 109 rfl (Env.isT rfl c157) ?_
       refine ov (v_pick_f (evD_false rfl c159) rfl) rfl ?_
       refine shO_on (b := false) 106 rfl (Env.isF rfl c154) ?_
       refine ov (v_pick_t (evD_true rfl c157) rfl) rfl ?_
       refine ov (v_pick_f (evD_false rfl c154) rfl) rfl ?_
       refine om rfl rfl ?_
       by_cases c162 : n6 < n8
       · have r163 := ite_t r161 c162; clear r161
         refine shO_off (b' := true) 119 rfl (Env.isT rfl c162) rfl rfl (shO_off (b' := true) 119 rfl (Env.isT rfl c162) rfl rfl (shO_off (b' := true) 119 rfl (Env.isT rfl c162) rfl rfl (shO_off (b' := true) 119 rfl (Env.isT rfl c162) rfl rfl (shO_off (b' := true) 119 rfl (Env.isT rfl c162) rfl rfl ?_))))
         refine ov (v_pick_t (evD_true rfl c162) rfl) rfl ?_
         refine shO_nil ?_
         obtain rfl := inj1 r163
         exact mi (kc (kc kn)) ⟨rfl, rfl, (sc rfl (sc rfl (sc rfl (sc rfl (sc rfl (sc rfl (sn _)))))))⟩
       have r164 := ite_f r161 c162; clear r161
       refine shO_on (b := false) 119 rfl (Env.isF rfl c162) (om rfl rfl (shO_on (b := false) 119 rfl (Env.isF rfl c162) ?_))
       refine ov (v_lenS Try.underlying38 rfl) rfl ?_
       refine shO_on (b := false) 119 rfl (Env.isF rfl c162) (om rfl rfl (shO_on (b := false) 119 rfl (Env.isF rfl c162) ?_))
       refine ov (v_lenS Try.underlying38 rfl) rfl ?_
       refine shO_on (b := false) 119 rfl (Env.isF rfl c162) ?_
       refine ov (v_lssK rfl rfl) rfl ?_
       refine ov (v_pick_f (evD_false rfl c162) rfl) rfl ?_
       refine shO_nil ?_
       obtain rfl := inj1 r164
       exact mi (kc (kc kn)) ⟨rfl, rfl, (sc rfl (sc rfl (sc rfl (sc rfl (sc rfl (sc rfl (sn _)))))))⟩
     have r165 := ite_f r156 c157; clear r156
     refine shO_off (b' := false) 109 rfl (Env.isF rfl c157) rfl rfl (shO_off (b' := false) 109 rfl (Env.isF rfl c157) rfl rfl (shO_off (b' := false) 109 rfl (Env.isF rfl c157) rfl rfl (shO_offU 112 rfl rfl rfl (shO_offU 112 rfl rfl rfl (shO_offU 112 rfl rfl rfl (shO_off (b' := false) 109 rfl (Env.isF rfl c157) rfl rfl (shO_on (b := false) 106 rfl (Env.isF rfl c154) ?_)))))))
     refine ov (v_pick_f (evD_false rfl c157) rfl) rfl ?_
     refine ov (v_pick_f (evD_false rfl c154) rfl) rfl ?_
     refine om rfl rfl (shO_on (b := false) 119 rfl rfl (om rfl rfl (shO_on (b := false) 119 rfl rfl ?_)))
     refine ov (v_lenS Try.underlying38 rfl) rfl ?_
     refine shO_on (b := false) 119 rfl rfl (om rfl rfl (shO_on (b := false) 119 rfl rfl ?_))
     refine ov (v_lenS Try.underlying38 rfl) rfl ?_
     refine shO_on (b := false) 119 rfl rfl ?_
     refine ov (v_lssK rfl rfl) rfl ?_
     refine ov (v_pick_f rfl rfl) rfl ?_
     refine shO_nil ?_
     obtain rfl := inj1 r165
     exact mi (kc (kc kn)) ⟨rfl, rfl, (sc rfl (sc rfl (sc rfl (sc rfl (sc rfl (sc rfl (sn _)))))))⟩
   have r166 := ite_f r151 c152; clear r151
   refine shO_off (b' := false) 101 rfl (Env.isF rfl c152) rfl rfl (shO_off (b' := false) 101 rfl (Env.isF rfl c152) rfl rfl (shO_on (b := false) 98 rfl (Env.isF rfl c149) ?_))
   refine ov (v_pick_f (evD_false rfl c152) rfl) rfl ?_
   refine ov (v_pick_f (evD_false rfl c149) rfl) rfl ?_
   refine om rfl rfl (shO_on (b := false) 106 rfl rfl (om rfl rfl (shO_on (b := false) 106 rfl rfl ?_)))
   refine ov (v_eql rfl rfl) rfl ?_
   refine shO_on (b := false) 106 rfl rfl (om rfl rfl ?_)
   by_cases c167 : n7 = 0
   · have r168 := ite_t r166 c167; clear r166
     refine shO_on (b := true) 109 rfl (Env.isT rfl c167) (om rfl rfl (shO_on (b := true) 109 rfl (Env.isT rfl c167) ?_))
     refine ov (v_neq rfl rfl) rfl ?_
     refine shO_on (b := true) 109 rfl (Env.isT rfl c167) (om rfl rfl ?_)
     by_cases c169 : n9 ≠ 0
     · have r170 := ite_t r168 c169; clear r168
       refine shO_off (b' := true) 112 rfl (Env.isT rfl c169) rfl rfl (shO_off (b' := true) 112 rfl (Env.isT rfl c169) rfl rfl (shO_off (b' := true) 112 rfl (Env.isT rfl c169) rfl rfl (shO_on (b := true) 109 rfl (Env.isT rfl c167) ?_)))
       refine ov (v_pick_t (evD_true rfl c169) rfl) rfl ?_
       refine shO_on (b := false) 106 rfl rfl ?_
       refine ov (v_pick_t (evD_true rfl c167) rfl) rfl ?_
       refine ov (v_pick_f rfl rfl) rfl ?_
       refine om rfl rfl (shO_off (b' := true) 119 rfl rfl rfl rfl (shO_off (b' := true) 119 rfl rfl rfl rfl (shO_off (b' := true) 119 rfl rfl rfl rfl (shO_off (b' := true) 119 rfl rfl rfl rfl (shO_off (b' := true) 119 rfl rfl rfl rfl ?_)))))
       refine ov (v_pick_t rfl rfl) rfl ?_
       refine shO_nil ?_
       obtain rfl := inj1 r170
       exact mi (kc (kc kn)) ⟨rfl, rfl, (sc rfl (sc rfl (sc rfl (sc rfl (sc rfl (sc rfl (sn _)))))))⟩
     have r171 := ite_f r168 c169; clear r168
     refine shO_on (b := false) 112 rfl (Env.isF rfl c169) (om rfl rfl (shO_on (b := false) 112 rfl (Env.isF rfl c169) (om rfl rfl (shO_on (b := false) 112 rfl (Env.isF rfl c169) ?_))))
     refine ov (v_gtrK rfl rfl) rfl ?_
     refine shO_on (b := true) 109 rfl (Env.isT rfl c167) ?_
     refine ov (v_pick_f (evD_false rfl c169) rfl) rfl ?_
     refine shO_on (b := false) 106 rfl rfl ?_
     refine ov (v_pick_t (evD_true rfl c167) rfl) rfl ?_
     refine ov (v_pick_f rfl rfl) rfl ?_
     refine om rfl rfl ?_
     by_cases c172 : n6 < n8
     · have r173 := ite_t r171 c172; clear r171
       refine shO_off (b' := true) 119 rfl (Env.isT rfl c172) rfl rfl (shO_off (b' := true) 119 rfl (Env.isT rfl c172) rfl rfl (shO_off (b' := true) 119 rfl (Env.isT rfl c172) rfl rfl (shO_off (b' := true) 119 rfl (Env.isT rfl c172) rfl rfl (shO_off (b' := true) 119 rfl (Env.isT rfl c172) rfl rfl ?_))))
       refine ov (v_pick_t (evD_true rfl c172) rfl) rfl ?_
       refine shO_nil ?_
       obtain rfl := inj1 r173
       exact mi (kc (kc kn)) ⟨rfl, rfl, (sc rfl (sc rfl (sc rfl (sc rfl (sc rfl (sc rfl (sn _)))))))⟩
     have r174 := ite_f r171 c172; clear r171
     refine shO_on (b := false) 119 rfl (Env.isF rfl c172) (om rfl rfl (shO_on (b := false) 119 rfl (Env.isF rfl c172) ?_))
     refine ov (v_lenS Try.underlying38 rfl) rfl ?_
     refine shO_on (b := false) 119 rfl (Env.isF rfl c172) (om rfl rfl (shO_on (b := false) 119 rfl (Env.isF rfl c172) ?_))
     refine ov (v_lenS Try.underlying38 rfl) rfl ?_
     refine shO_on (b := false) 119 rfl (Env.isF rfl c172) ?_
     refine ov (v_lssK rfl rfl) rfl ?_
     refine ov (v_pick_f (evD_false rfl c172) rfl) rfl ?_
     refine shO_nil ?_
     obtain rfl := inj1 r174
     exact mi (kc (kc kn)) ⟨rfl, rfl, (sc rfl (sc rfl (sc rfl (sc rfl (sc rfl (sc rfl (sn _)))))))⟩
   have r175 := ite_f r166 c167; clear r166
   refine shO_off (b' := false) 109 rfl (Env.isF rfl c167) rfl rfl (shO_off (b' := false) 109 rfl (Env.isF rfl c167) rfl rfl (shO_off (b' := false) 109 rfl (Env.isF rfl c167) rfl rfl (shO_offU 112 rfl rfl rfl (shO_offU 112 rfl rfl rfl (shO_offU 112 rfl rfl rfl (shO_off (b' := false) 109 rfl (Env.isF rfl c167) rfl rfl (shO_on (b := false) 106 rfl rfl ?_)))))))
   refine ov (v_pick_f (evD_false rfl c167) rfl) rfl ?_
   refine ov (v_pick_f rfl rfl) rfl ?_
   refine om rfl rfl (shO_on (b := false) 119 rfl rfl (om rfl rfl (shO_on (b := false) 119 rfl rfl ?_)))
   refine ov (v_lenS Try.underlying38 rfl) rfl ?_
   refine shO_on (b := false) 119 rfl rfl (om rfl rfl (shO_on (b := false) 119 rfl rfl ?_))
   refine ov (v_lenS Try.underlying38 rfl) rfl ?_
   refine shO_on (b := false) 119 rfl rfl ?_
   refine ov (v_lssK rfl rfl) rfl ?_
   refine ov (v_pick_f rfl rfl) rfl ?_
   refine shO_nil ?_
   obtain rfl := inj1 r175
   exact mi (kc (kc kn)) ⟨rfl, rfl, (sc rfl (sc rfl (sc rfl (sc rfl (sc rfl (sc rfl (sn _)))))))⟩
 rintro e1 _ _ ⟨rfl, rfl, he176⟩
 refine shW_env _ he176 ?_; clear he176
 refine shW_cond rfl (fun c177 => ?_) (fun c177 => ?_)
 · have r178 := bt r142 c177; clear r142
   refine wsr (oa rfl rfl (shO_nil ?_))
   refine kW kn ?_
   refine shW_ret (andThen_ret ?_)
   refine q_res1 Try.results5 (res_tmp rfl) (sr) ?_
   obtain rfl := inj1 r178
   exact rfl
 have r179 := bf r142 c177; clear r142
 refine shW_skip (wsr ?_)
 refine ov (v_loadA (cs := #[.slice a17 l.length c18, .slice a20 l2.length c21, .int .i64 n, .int .i64 n2, .slice a23 l3.length c24]) Try.isAgg26 Try.sizeOf26 rfl (Has.own 1 rfl) (Nat.le_of_ble_eq_true rfl) rfl) rfl ?_
 obtain ⟨l11, n12, h180, r181⟩ := b2_ok r179; clear r179
 refine o_call0 rfl Try.call14 rfl rfl rfl (round_Pairs_w h19 h22 h63 h180) ?_; rintro _ F182 _ hF183 hn184 ⟨a186, n190, c187, Lb188, rfl, rfl, hz189⟩
 replace h19 := h19.mono (slE_ok (iE_ok _)) hF183
 replace h22 := h22.mono (slE_ok (iE_ok _)) hF183
 replace h63 := h63.mono (prE_ok (slE_ok (iE_ok _)) (prE_ok (iE_ok _) (iE_ok _))) hF183
 replace h125 := h125.mono (slE_ok (iE_ok _)) hF183
 replace h128 := h128.mono (slE_ok (iE_ok _)) hF183
 replace h131 := h131.mono (prE_ok (slE_ok (iE_ok _)) (prE_ok (iE_ok _) (iE_ok _))) hF183
 replace hz189 := hz189.new fun p hp => hn184 p (by simp [hp])
 refine shO_L (lp (ln rfl)) ?_
 refine kO (kf (fS fO) (kf (fS fO) kr)) ?_
 refine om rfl rfl (ox rfl rfl rfl (ox rfl rfl rfl (oa rfl rfl (oa rfl rfl (shO_nil (shW_seq (wsr (om rfl rfl ?_))))))))
 refine ov (v_neq rfl rfl) rfl ?_
 refine shO_nil ?_
 refine shW_condP rfl (fun c192 => ?_) (fun c192 => ?_)
 · have r193 := ite_t r181 c192; clear r181
   refine wsr (oa rfl rfl (shO_nil ?_))
   refine kW kn ?_
   refine shW_ret (andThen_ret ?_)
   refine q_res1 Try.results5 (res_tmp rfl) (sr) ?_
   obtain rfl := inj1 r193
   exact rfl
 have r194 := ite_f r181 c192; clear r181
 refine shW_skip ?_
 refine shW_join (fun e1 F1 L1 => oyezlaw03_RoundPutOff_j1 l l2 n n2 l3 k x n7 = some r ∧ F182 = F1 ∧ L1 = [(b30, .cells #[.slice a17 l.length c18, .slice a20 l2.length c21, .int .i64 n, .int .i64 n2, .slice a23 l3.length c24] 26 (0, 0))] ∧ e1.sub [(7, .pointer (some ⟨b30, 0, none⟩)), (8, .int .i64 k), (13, .int .i64 n7)]) ?_ ?_
 · refine wsr (om rfl rfl ?_)
   refine ov ((v_lenS Try.underlying35 rfl).i (SlR.lenI hz189)) rfl ?_
   refine ov (v_gtrK rfl rfl) rfl ?_
   refine shO_nil ?_
   refine shW_condP rfl (fun c195 => ?_) (fun c195 => ?_)
   · have r196 := ite_t r194 c195; clear r194
     refine wsr (om rfl rfl (om rfl rfl ?_))
     obtain ⟨g197, r198⟩ := gd_ok r196; clear r196
     refine ov (i_conv Try.underlying5 Try.underlying3 rfl g197) rfl ?_
     refine om rfl rfl ?_
     refine ov ((v_lenS Try.underlying35 rfl).i (SlR.lenI hz189)) rfl ?_
     obtain ⟨g199, r200⟩ := gd_ok r198; clear r198
     refine ov (v_remT rfl rfl g199) rfl ?_
     obtain ⟨g201, r202⟩ := gd_ok r200; clear r200
     obtain ⟨pairs, h203, r204⟩ := bv_ok r202; clear r202
     refine o_sliceZ (l := Int.tmod more (l11.length : Int)) (h := (l11.length : Int)) (zs := pairs) rfl slt_35 (prE_ok (iE_ok _) (iE_ok _)) rfl (.inr ⟨_, rfl, rfl⟩) (.inl ⟨rfl, rfl⟩) (fun _ => .c (.c .h)) hz189 g201 h203 ?_; intro a205 n208 c206 Lb209 h207
     refine oa rfl rfl (nsr ?_)
     refine ov (v_loadA (cs := #[.slice a17 l.length c18, .slice a20 l2.length c21, .int .i64 n, .int .i64 n2, .slice a23 l3.length c24]) Try.isAgg26 Try.sizeOf26 rfl (Has.own 1 rfl) (Nat.le_of_ble_eq_true rfl) rfl) rfl ?_
     refine om rfl rfl ?_
     obtain ⟨ok2, n13, h211, r212⟩ := b2_ok r204; clear r204
     refine o_callT (Lt := Lb209 ++ []) (Lr := [(b88, .cells #[.slice a70 l4.length c71, .slice a76 l5.length c77, .int .i64 n3, .int .i64 n4, .slice a82 l6.length c83] 26 (0, 0)), (b30, .cells #[.slice a17 l.length c18, .slice a20 l2.length c21, .int .i64 n, .int .i64 n2, .slice a23 l3.length c24] 26 (0, 0))]) rfl Try.call12 rfl rfl rfl (pT ((fC (fC fP)).trans (pA pR)) (lp (ln rfl))) (fun F2 h2 h3 => by rw [(SlR.caps h207).1]; exact round_Together_w (h19.mono (slE_ok (iE_ok _)) h2) (h22.mono (slE_ok (iE_ok _)) h2) (h63.mono (prE_ok (slE_ok (iE_ok _)) (prE_ok (iE_ok _) (iE_ok _))) h2) (h207.row (prE_ok (iE_ok _) (iE_ok _)) h2 (fun p hp => h3 p (List.mem_append_left _ hp))) h211) ?_
     refine om rfl rfl (ox rfl rfl rfl (ox rfl rfl rfl (oa rfl rfl (oa rfl rfl (nsr ?_)))))
     refine ov (v_loadA (cs := #[.slice a70 l4.length c71, .slice a76 l5.length c77, .int .i64 n3, .int .i64 n4, .slice a82 l6.length c83]) Try.isAgg26 Try.sizeOf26 rfl (Has.own 0 rfl) (Nat.le_of_ble_eq_true rfl) rfl) rfl ?_
     refine om rfl rfl ?_
     obtain ⟨ok3, n14, h213, r214⟩ := b2_ok r212; clear r212
     refine o_callT (Lt := Lb209 ++ []) (Lr := [(b88, .cells #[.slice a70 l4.length c71, .slice a76 l5.length c77, .int .i64 n3, .int .i64 n4, .slice a82 l6.length c83] 26 (0, 0)), (b30, .cells #[.slice a17 l.length c18, .slice a20 l2.length c21, .int .i64 n, .int .i64 n2, .slice a23 l3.length c24] 26 (0, 0))]) rfl Try.call12 rfl rfl rfl (pT ((fC (fC fP)).trans (pA pR)) (lp (ln rfl))) (fun F2 h2 h3 => by rw [(SlR.caps h207).1]; exact round_Together_w (h125.mono (slE_ok (iE_ok _)) h2) (h128.mono (slE_ok (iE_ok _)) h2) (h131.mono (prE_ok (slE_ok (iE_ok _)) (prE_ok (iE_ok _) (iE_ok _))) h2) (h207.row (prE_ok (iE_ok _) (iE_ok _)) h2 (fun p hp => h3 p (List.mem_append_left _ hp))) h213) ?_
     refine om rfl rfl (ox rfl rfl rfl (ox rfl rfl rfl (oa rfl rfl (oa rfl rfl (shO_nil ?_)))))
     obtain ⟨k3, h215, r216⟩ := b1_ok r214; clear r214
     refine shW_join (fun e1 F1 L1 => F182 = F1 ∧ L1 = [(b30, .cells #[.slice a17 l.length c18, .slice a20 l2.length c21, .int .i64 n, .int .i64 n2, .slice a23 l3.length c24] 26 (0, 0))] ∧ e1.sub [(7, .pointer (some ⟨b30, 0, none⟩)), (8, .int .i64 k), (13, .int .i64 n7), (167, .bool k3)]) ?_ ?_
     · clear r216
       refine shW_region (om rfl rfl ?_)
       refine ov (v_neq rfl rfl) rfl ?_
       refine om rfl rfl ?_
       by_cases c217 : n13 ≠ 0
       · have r218 := ite_t h215 c217; clear h215
         refine shO_off (b' := true) 157 rfl (Env.isT rfl c217) rfl rfl (shO_off (b' := true) 157 rfl (Env.isT rfl c217) rfl rfl ?_)
         refine ov (v_pick_t (evD_true rfl c217) rfl) rfl ?_
         refine om rfl rfl (shO_off (b' := true) 161 rfl rfl rfl rfl (shO_off (b' := true) 161 rfl rfl rfl rfl (shO_offU 163 rfl rfl rfl (shO_offU 163 rfl rfl rfl (shO_off (b' := true) 161 rfl rfl rfl rfl ?_)))))
         refine ov (v_pick_t rfl rfl) rfl ?_
         refine shO_nil ?_
         obtain rfl := inj1 r218
         exact mi (kd (kc kn)) ⟨rfl, rfl, (sc rfl (sc rfl (sc rfl (sc rfl (sn _)))))⟩
       have r219 := ite_f h215 c217; clear h215
       refine shO_on (b := false) 157 rfl (Env.isF rfl c217) (om rfl rfl (shO_on (b := false) 157 rfl (Env.isF rfl c217) ?_))
       refine ov (v_neq rfl rfl) rfl ?_
       refine ov (v_pick_f (evD_false rfl c217) rfl) rfl ?_
       refine om rfl rfl ?_
       by_cases c220 : n14 ≠ 0
       · have r221 := ite_t r219 c220; clear r219
         refine shO_off (b' := true) 161 rfl (Env.isT rfl c220) rfl rfl (shO_off (b' := true) 161 rfl (Env.isT rfl c220) rfl rfl (shO_offU 163 rfl rfl rfl (shO_offU 163 rfl rfl rfl (shO_off (b' := true) 161 rfl (Env.isT rfl c220) rfl rfl ?_))))
         refine ov (v_pick_t (evD_true rfl c220) rfl) rfl ?_
         refine shO_nil ?_
         obtain rfl := inj1 r221
         exact mi (kd (kc kn)) ⟨rfl, rfl, (sc rfl (sc rfl (sc rfl (sc rfl (sn _)))))⟩
       have r222 := ite_f r219 c220; clear r219
       refine shO_on (b := false) 161 rfl (Env.isF rfl c220) (om rfl rfl (shO_on (b := false) 161 rfl (Env.isF rfl c220) (om rfl rfl ?_)))
       rcases bool_two ok2 with c223 | c223
       · have r224 := bt r222 c223; clear r222
         refine shO_on (b := true) 163 rfl (EnvB rfl c223) (om rfl rfl (shO_on (b := true) 163 rfl (EnvB rfl c223) ?_))
         refine ov (v_notB rfl) rfl ?_
         refine shO_on (b := false) 161 rfl (Env.isF rfl c220) ?_
         refine ov (v_pick_t (evB rfl c223) rfl) rfl ?_
         refine ov (v_pick_f (evD_false rfl c220) rfl) rfl ?_
         refine shO_nil ?_
         obtain rfl := inj1 r224
         exact mi (kd (kc kn)) ⟨rfl, rfl, (sc rfl (sc rfl (sc rfl (sc rfl (sn _)))))⟩
       have r225 := bf r222 c223; clear r222
       refine shO_off (b' := false) 163 rfl (EnvB rfl c223) rfl rfl (shO_off (b' := false) 163 rfl (EnvB rfl c223) rfl rfl (shO_on (b := false) 161 rfl (Env.isF rfl c220) ?_))
       refine ov (v_pick_f (evB rfl c223) rfl) rfl ?_
       refine ov (v_pick_f (evD_false rfl c220) rfl) rfl ?_
       refine shO_nil ?_
       obtain rfl := inj1 r225
       exact mi (kd (kc kn)) ⟨rfl, rfl, (sc rfl (sc rfl (sc rfl (sc rfl (sn _)))))⟩
     rintro e1 _ _ ⟨rfl, rfl, he226⟩
     refine shW_env _ he226 ?_; clear he226
     refine shW_cond rfl (fun c227 => ?_) (fun c227 => ?_)
     · have r228 := bt r216 c227; clear r216
       refine wsr (oa rfl rfl (shO_nil ?_))
       refine kW kn ?_
       refine shW_ret (andThen_ret ?_)
       refine q_res1 Try.results5 (res_tmp rfl) (sr) ?_
       obtain rfl := inj1 r228
       exact rfl
     have r229 := bf r216 c227; clear r216
     refine shW_skip ?_
     exact mi kr ⟨r229, rfl, rfl, (sc rfl (sc rfl (sc rfl (sn _))))⟩
   have r230 := ite_f r194 c195; clear r194
   refine shW_skip ?_
   exact mi (kd (kc kn)) ⟨r230, rfl, rfl, (sc rfl (sc rfl (sc rfl (sn _))))⟩
 rintro e1 _ _ ⟨r231, rfl, rfl, he232⟩
 refine shW_env _ he232 ?_; clear he232
 rw [oyezlaw03_RoundPutOff_j1] at r231
 refine wsr ?_
 refine ov (v_loadA (cs := #[.slice a17 l.length c18, .slice a20 l2.length c21, .int .i64 n, .int .i64 n2, .slice a23 l3.length c24]) Try.isAgg26 Try.sizeOf26 rfl (Has.own 0 rfl) (Nat.le_of_ble_eq_true rfl) rfl) rfl ?_
 refine om rfl rfl ?_
 obtain ⟨n15, n16, h233, r234⟩ := b2_ok r231; clear r231
 refine o_callV rfl Try.call25 rfl rfl rfl (round_Hurry_w h19 h22 h63 h233) ?_
 refine om rfl rfl (ox rfl rfl rfl (ox rfl rfl rfl (oa rfl rfl (oa rfl rfl (shO_nil (shW_seq (wsr (om rfl rfl ?_))))))))
 refine ov (v_neq rfl rfl) rfl ?_
 refine shO_nil ?_
 refine shW_condP rfl (fun c235 => ?_) (fun c235 => ?_)
 · have r236 := ite_t r234 c235; clear r234
   refine wsr (om rfl rfl ?_)
   refine ov (v_eql rfl rfl) rfl ?_
   refine om rfl rfl ?_
   by_cases c237 : n16 = 6
   · have r238 := ite_t r236 c237; clear r236
     refine shO_on (b := true) 178 rfl (Env.isT rfl c237) (om rfl rfl (shO_on (b := true) 178 rfl (Env.isT rfl c237) ?_))
     refine ov (v_neq rfl rfl) rfl ?_
     refine ov (v_pick_t (evD_true rfl c237) rfl) rfl ?_
     refine om rfl rfl ?_
     by_cases c239 : n7 ≠ 0
     · have r240 := ite_t r238 c239; clear r238
       refine shO_on (b := true) 182 rfl (Env.isT rfl c239) ?_
       obtain ⟨ok4, h241, r242⟩ := b1_ok r240; clear r240
       refine o_callV rfl Try.call9 rfl rfl rfl (oyezlaw03_awake_w h241) ?_
       refine ov (v_pick_t (evD_true rfl c239) rfl) rfl ?_
       refine oa rfl rfl (shO_nil ?_)
       refine kW kn ?_
       refine shW_ret (andThen_ret ?_)
       refine q_res1 Try.results5 (res_tmp rfl) (sr) ?_
       obtain rfl := inj1 r242
       exact rfl
     have r243 := ite_f r238 c239; clear r238
     refine shO_off (b' := false) 182 rfl (Env.isF rfl c239) rfl rfl ?_
     refine ov (v_pick_f (evD_false rfl c239) rfl) rfl ?_
     refine oa rfl rfl (shO_nil ?_)
     refine kW kn ?_
     refine shW_ret (andThen_ret ?_)
     refine q_res1 Try.results5 (res_tmp rfl) (sr) ?_
     obtain rfl := inj1 r243
     exact rfl
   have r244 := ite_f r236 c237; clear r236
   refine shO_off (b' := false) 178 rfl (Env.isF rfl c237) rfl rfl (shO_off (b' := false) 178 rfl (Env.isF rfl c237) rfl rfl ?_)
   refine ov (v_pick_f (evD_false rfl c237) rfl) rfl ?_
   refine om rfl rfl (shO_off (b' := false) 182 rfl rfl rfl rfl ?_)
   refine ov (v_pick_f rfl rfl) rfl ?_
   refine oa rfl rfl (shO_nil ?_)
   refine kW kn ?_
   refine shW_ret (andThen_ret ?_)
   refine q_res1 Try.results5 (res_tmp rfl) (sr) ?_
   obtain rfl := inj1 r244
   exact rfl
 have r245 := ite_f r234 c235; clear r234
 refine shW_skip (shW_seq ?_)
 obtain ⟨k4, h246, r247⟩ := b1_ok r245; clear r245
 refine shW_join (fun e1 F1 L1 => F182 = F1 ∧ L1 = [(b30, .cells #[.slice a17 l.length c18, .slice a20 l2.length c21, .int .i64 n, .int .i64 n2, .slice a23 l3.length c24] 26 (0, 0))] ∧ e1.sub [(7, .pointer (some ⟨b30, 0, none⟩)), (8, .int .i64 k), (27, .int .i64 n15), (204, .bool k4)]) ?_ ?_
 · clear r247
   refine shW_region (om rfl rfl ?_)
   refine ov (v_lssK rfl rfl) rfl ?_
   refine om rfl rfl ?_
   by_cases c248 : n15 < 0
   · have r249 := ite_t h246 c248; clear h246
     refine shO_off (b' := true) 187 rfl (Env.isT rfl c248) rfl rfl (shO_off (b' := true) 187 rfl (Env.isT rfl c248) rfl rfl ?_)
     refine ov (v_pick_t (evD_true rfl c248) rfl) rfl ?_
     refine om rfl rfl (shO_off (b' := true) 191 rfl rfl rfl rfl (shO_off (b' := true) 191 rfl rfl rfl rfl (shO_off (b' := true) 191 rfl rfl rfl rfl (shO_offU 194 rfl rfl rfl (shO_offU 194 rfl rfl rfl (shO_offU 194 rfl rfl rfl (shO_offU 194 rfl rfl rfl (shO_offU 194 rfl rfl rfl (shO_offU 194 rfl rfl rfl ?_)))))))))
     refine shO_offU 194 rfl rfl rfl (shO_offU 194 rfl rfl rfl (shO_off (b' := true) 191 rfl rfl rfl rfl ?_))
     refine ov (v_pick_t rfl rfl) rfl ?_
     refine shO_nil ?_
     obtain rfl := inj1 r249
     exact mi kr ⟨rfl, rfl, (sc rfl (sc rfl (sc rfl (sc rfl (sn _)))))⟩
   have r250 := ite_f h246 c248; clear h246
   refine shO_on (b := false) 187 rfl (Env.isF rfl c248) (om rfl rfl (shO_on (b := false) 187 rfl (Env.isF rfl c248) ?_))
   refine ov (v_gtrK rfl rfl) rfl ?_
   refine ov (v_pick_f (evD_false rfl c248) rfl) rfl ?_
   refine om rfl rfl ?_
   by_cases c251 : 200 < n15
   · have r252 := ite_t r250 c251; clear r250
     refine shO_off (b' := true) 191 rfl (Env.isT rfl c251) rfl rfl (shO_off (b' := true) 191 rfl (Env.isT rfl c251) rfl rfl (shO_off (b' := true) 191 rfl (Env.isT rfl c251) rfl rfl (shO_offU 194 rfl rfl rfl (shO_offU 194 rfl rfl rfl (shO_offU 194 rfl rfl rfl (shO_offU 194 rfl rfl rfl (shO_offU 194 rfl rfl rfl (shO_offU 194 rfl rfl rfl (shO_offU 194 rfl rfl rfl ?_)))))))))
     refine shO_offU 194 rfl rfl rfl (shO_off (b' := true) 191 rfl (Env.isT rfl c251) rfl rfl ?_)
     refine ov (v_pick_t (evD_true rfl c251) rfl) rfl ?_
     refine shO_nil ?_
     obtain rfl := inj1 r252
     exact mi kr ⟨rfl, rfl, (sc rfl (sc rfl (sc rfl (sc rfl (sn _)))))⟩
   have r253 := ite_f r250 c251; clear r250
   refine shO_on (b := false) 191 rfl (Env.isF rfl c251) (om rfl rfl (shO_on (b := false) 191 rfl (Env.isF rfl c251) ?_))
   refine ov (v_eql rfl rfl) rfl ?_
   refine shO_on (b := false) 191 rfl (Env.isF rfl c251) (om rfl rfl ?_)
   by_cases c254 : n7 = 0
   · have r255 := ite_t r253 c254; clear r253
     refine shO_on (b := true) 194 rfl (Env.isT rfl c254) (om rfl rfl (shO_on (b := true) 194 rfl (Env.isT rfl c254) ?_))
     refine ov (v_fieldAddr fa_26_4 rfl) rfl ?_
     refine shO_on (b := true) 194 rfl (Env.isT rfl c254) ?_
     refine ov (v_load Try.isAgg24 rfl (Has.own 0 rfl) rfl) rfl ?_
     refine shO_on (b := true) 194 rfl (Env.isT rfl c254) (om rfl rfl (shO_on (b := true) 194 rfl (Env.isT rfl c254) ?_))
     obtain ⟨b256, o257, c258, vs259, ha260, hs261, hle262, ⟨_, _, rfl, ⟨a265, c266, rfl, h267⟩, ⟨_, _, rfl, rfl, rfl⟩⟩, hl263, hc264⟩ := RowR.at (prE_ok (slE_ok (iE_ok _)) (prE_ok (iE_ok _) (iE_ok _))) h63 ([(b30, .cells #[.slice a17 l.length c18, .slice a20 l2.length c21, .int .i64 n, .int .i64 n2, .slice a23 l3.length c24] 26 (0, 0))]) g42.1 hx43
     refine ov (v_indexO Try.underlying24 Try.sizeOf40 rfl ha260 rfl g42) rfl ?_
     refine shO_on (b := true) 194 rfl (Env.isT rfl c254) ?_
     refine ov (v_fieldAddr fa_40_2 rfl) rfl ?_
     refine shO_on (b := true) 194 rfl (Env.isT rfl c254) ?_
     refine ov (v_load Try.isAgg3 rfl hs261 (hc264 2 (by decide))) rfl ?_
     refine shO_on (b := true) 194 rfl (Env.isT rfl c254) ?_
     refine ov (v_gtrK rfl rfl) rfl ?_
     refine shO_on (b := false) 191 rfl (Env.isF rfl c251) ?_
     refine ov (v_pick_t (evD_true rfl c254) rfl) rfl ?_
     refine ov (v_pick_f (evD_false rfl c251) rfl) rfl ?_
     refine shO_nil ?_
     obtain rfl := inj1 r255
     exact mi kr ⟨rfl, rfl, (sc rfl (sc rfl (sc rfl (sc rfl (sn _)))))⟩
   have r268 := ite_f r253 c254; clear r253
   refine shO_off (b' := false) 194 rfl (Env.isF rfl c254) rfl rfl (shO_off (b' := false) 194 rfl (Env.isF rfl c254) rfl rfl (shO_off (b' := false) 194 rfl (Env.isF rfl c254) rfl rfl (shO_off (b' := false) 194 rfl (Env.isF rfl c254) rfl rfl (shO_off (b' := false) 194 rfl (Env.isF rfl c254) rfl rfl (shO_off (b' := false) 194 rfl (Env.isF rfl c254) rfl rfl (shO_off (b' := false) 194 rfl (Env.isF rfl c254) rfl rfl (shO_off (b' := false) 194 rfl (Env.isF rfl c254) rfl rfl (shO_on (b := false) 191 rfl (Env.isF rfl c251) ?_))))))))
   refine ov (v_pick_f (evD_false rfl c254) rfl) rfl ?_
   refine ov (v_pick_f (evD_false rfl c251) rfl) rfl ?_
   refine shO_nil ?_
   obtain rfl := inj1 r268
   exact mi kr ⟨rfl, rfl, (sc rfl (sc rfl (sc rfl (sc rfl (sn _)))))⟩
 rintro e1 _ _ ⟨rfl, rfl, he269⟩
 refine shW_env _ he269 ?_; clear he269
 refine shW_cond rfl (fun c270 => ?_) (fun c270 => ?_)
 · have r271 := bt r247 c270; clear r247
   refine wsr (oa rfl rfl (shO_nil ?_))
   refine kW kn ?_
   refine shW_ret (andThen_ret ?_)
   refine q_res1 Try.results5 (res_tmp rfl) (sr) ?_
   obtain rfl := inj1 r271
   exact rfl
 have r272 := bf r247 c270; clear r247
 refine shW_skip ?_
 refine shW_join (fun e1 F1 L1 => oyezlaw03_RoundPutOff_j2 = some r ∧ FExt F182 F1 ∧ L1 = [] ∧ e1.sub []) ?_ ?_
 · refine wsr (om rfl rfl ?_)
   obtain ⟨g273, r274⟩ := gd_ok r272; clear r272
   refine ov (v_sub rfl rfl g273) rfl ?_
   refine om rfl rfl ?_
   refine o_buildSlice (cs := #[.int .i64 (n15 - 1), .int .i64 n15]) rfl rfl (buildSlice_all slt_38 [.int .i64 (n15 - 1), .int .i64 n15] rfl (by decide) (by simp [Value.cells]) (by decide)) ?_; intro b275 hb275
   refine ov (v_lenS Try.underlying38 rfl) rfl ?_
   refine om rfl rfl (shO_nil ?_)
   refine shW_block ?_
   refine shW_freeze 0 rfl hb275 ?_; intro F276 hF277 hz278
   refine shW_L (L' := [(b30, .cells #[.slice a17 l.length c18, .slice a20 l2.length c21, .int .i64 n, .int .i64 n2, .slice a23 l3.length c24] 26 (0, 0))]) rfl ?_
   replace h19 := h19.mono (slE_ok (iE_ok _)) hF277
   replace h22 := h22.mono (slE_ok (iE_ok _)) hF277
   replace h63 := h63.mono (prE_ok (slE_ok (iE_ok _)) (prE_ok (iE_ok _) (iE_ok _))) hF277
   have h279 : RowR 1 (iE .i64) F276 (some ⟨b275, 0, none⟩) 2 [n15 - 1, n15] := RowR.of_block (iE_ok _) (vss := [[.int .i64 (n15 - 1)], [.int .i64 n15]]) (xs := [n15 - 1, n15]) hz278 (.cons rfl (.cons rfl .nil)) rfl (by simp [maxLen])
   obtain ⟨g280, r281⟩ := gd_ok r274; clear r274
   refine shW_lp (fun fu3 e1 F1 L1 => ∃ (k5 : Int), Ctr 0 2 k5 fu3 ∧ oyezlaw03_RoundPutOff_l3 l l2 n n2 l3 k n15 fu3 k5 = some r ∧ FExt F276 F1 ∧ L1 = [(b30, .cells #[.slice a17 l.length c18, .slice a20 l2.length c21, .int .i64 n, .int .i64 n2, .slice a23 l3.length c24] 26 (0, 0))] ∧ e1.sub [(7, .pointer (some ⟨b30, 0, none⟩)), (8, .int .i64 k), (208, .slice (some ⟨b275, 0, none⟩) [n15 - 1, n15].length 2), (209, .int .i64 2), (210, .int .i64 k5)]) _ (m0 kr ⟨_, Ctr.start _ _, r281, FExt.refl _, rfl, (sc rfl (sc rfl (sc rfl (sc rfl (sc rfl (sn _))))))⟩) ?_
   rintro fu3 e1 F286 _ ⟨k5, hk282, r284, hF287, rfl, he285⟩
   refine shW_env _ he285 ?_; clear he285
   replace h19 := h19.mono (slE_ok (iE_ok _)) hF287
   replace h22 := h22.mono (slE_ok (iE_ok _)) hF287
   replace h63 := h63.mono (prE_ok (slE_ok (iE_ok _)) (prE_ok (iE_ok _) (iE_ok _))) hF287
   replace h279 := h279.mono (iE_ok _) hF287
   refine wsr ?_
   refine ov (v_lssK rfl rfl) rfl ?_
   refine shO_nil (shW_seq ?_)
   refine shW_condP rfl (fun c289 => ?_) (fun c289 => ?_)
   · obtain ⟨fu3, rfl, hk290⟩ := Ctr.succ hk282 c289
     rw [oyezlaw03_RoundPutOff_l3] at r284
     refine shW_skip (shW_seq ?_)
     refine shW_block ?_
     refine wsr (om rfl rfl ?_)
     obtain ⟨x2, g291, hx292, r293⟩ := ix_ok r284; clear r284
     obtain ⟨b294, o295, c296, vs297, ha298, hs299, hle300, rfl, hl301, hc302⟩ := RowR.at (iE_ok _) h279 ([(b30, .cells #[.slice a17 l.length c18, .slice a20 l2.length c21, .int .i64 n, .int .i64 n2, .slice a23 l3.length c24] 26 (0, 0))]) g291.1 hx292
     refine ov (v_indexO Try.underlying38 Try.sizeOf3 rfl ha298 rfl g291) rfl ?_
     refine ov (v_load Try.isAgg3 rfl hs299 (hc302 0 (by decide))) rfl ?_
     refine oa rfl rfl (oa rfl rfl (shO_nil (shW_seq (wsr (om rfl rfl ?_)))))
     refine ov (v_lssK rfl rfl) rfl ?_
     refine shO_nil ?_
     refine shW_condP rfl (fun c303 => ?_) (fun c303 => ?_)
     · have r304 := ite_t r293 c303; clear r293
       refine shW_exit (andThen_exit ?_)
       refine inBlock_exit ?_
       refine shW_region ?_
       refine ov (v_add rfl rfl (Ctr.r64 hk282 c289 g280)) rfl ?_
       refine om rfl rfl (shO_nil ?_)
       exact le kr ⟨_, hk290, r304, hF287, rfl, (sc rfl (sc rfl (sc rfl (sc rfl (sc rfl (sn _))))))⟩
     have r305 := ite_f r293 c303; clear r293
     refine shW_skip (wsr ?_)
     refine ov (v_loadA (cs := #[.slice a17 l.length c18, .slice a20 l2.length c21, .int .i64 n, .int .i64 n2, .slice a23 l3.length c24]) Try.isAgg26 Try.sizeOf26 rfl (Has.own 0 rfl) (Nat.le_of_ble_eq_true rfl) rfl) rfl ?_
     refine om rfl rfl (om rfl rfl ?_)
     obtain ⟨l12, l13, n17, n18, l14, n19, h306, r307⟩ := b6_ok r305; clear r305
     refine o_call0 rfl Try.call11 rfl rfl rfl (round_Put_w h19 h22 h63 h306) ?_; rintro _ F308 _ hF309 hn310 ⟨a312, n316, c313, Lb314, a318, n322, c319, Lb320, a324, n328, c325, Lb326, rfl, rfl, hz315, hz321, hz327⟩
     replace hz315 := hz315.new fun p hp => hn310 p (by simp [hp])
     replace hz321 := hz321.new fun p hp => hn310 p (by simp [hp])
     replace hz327 := hz327.new fun p hp => hn310 p (by simp [hp])
     refine shO_L (lp (lp (lp (ln rfl)))) ?_
     refine kO (kf (fS (fS (fS fO))) kr) ?_
     refine om rfl rfl (ox rfl rfl rfl (ox rfl rfl rfl ?_))
     refine o_alloc rfl Try.zeroValue26 ?_; intro b330 hb330
     refine o_storeA (i := 0) Try.sizeOf26 rfl rfl rfl (by simp [Value.oneCell']) rfl (Nat.le_of_ble_eq_true rfl) ?_
     refine shO_L (L' := (b330, .cells #[.slice a312 n316 c313, .slice a318 n322 c319, .int .i64 n17, .int .i64 n18, .slice a324 n328 c325] 26 (0, 0)) :: ((b30, .cells #[.slice a17 l.length c18, .slice a20 l2.length c21, .int .i64 n, .int .i64 n2, .slice a23 l3.length c24] 26 (0, 0)) :: (Lb314 ++ (Lb320 ++ (Lb326 ++ []))))) rfl ?_
     refine oa rfl rfl (nsr ?_)
     refine ov (v_loadA (cs := #[.slice a312 n316 c313, .slice a318 n322 c319, .int .i64 n17, .int .i64 n18, .slice a324 n328 c325]) Try.isAgg26 Try.sizeOf26 rfl (Has.own 0 rfl) (Nat.le_of_ble_eq_true rfl) rfl) rfl ?_
     obtain ⟨l15, n20, n21, h331, r332⟩ := b3_ok r307; clear r307
     refine o_callTO (Lb := []) (Lt := Lb314 ++ (Lb320 ++ (Lb326 ++ []))) (Lr := [(b330, .cells #[.slice a312 n316 c313, .slice a318 n322 c319, .int .i64 n17, .int .i64 n18, .slice a324 n328 c325] 26 (0, 0)), (b30, .cells #[.slice a17 l.length c18, .slice a20 l2.length c21, .int .i64 n, .int .i64 n2, .slice a23 l3.length c24] 26 (0, 0))]) rfl Try.call8 rfl rfl rfl (pT ((fC (fC fP)).trans (pA ((fC (fC fP)).trans (pA ((fC (fC fP)).trans (pA pR)))))) (ln (lp (lp (lp (ln rfl)))))) (fun F2 h2 h3 => by rw [(NlR.caps hz315).1]; rw [(NlR.caps hz321).1]; rw [(SlR.caps hz327).1]; exact round_Best_w (hz315.row (iE_ok _) h2 (fun p hp => h3 p (List.mem_append_left _ hp))) (hz321.row (iE_ok _) h2 (fun p hp => h3 p (List.mem_append_right _ (List.mem_append_left _ hp)))) (hz327.row (prE_ok (slE_ok (iE_ok _)) (prE_ok (iE_ok _) (iE_ok _))) h2 (fun p hp => h3 p (List.mem_append_right _ (List.mem_append_right _ (List.mem_append_left _ hp))))) h331) (fun _ _ _ _ hq => by obtain ⟨a337, n341, c338, Lb339, rfl, rfl, hz340⟩ := hq; exact ⟨_, _, _, _, rfl, rfl, hz340.flat (fun _ _ h => h)⟩) ?_; rintro _ F333 _ hF334 hd336 hn335 ⟨a337, n341, c338, Lb339, rfl, rfl, hz340⟩
     refine shO_L (lp (ln (lp (lp (lp (ln rfl)))))) ?_
     refine kO (kf (fS (fS (fS (fS fO)))) (kf (fS (fS (fS (fS fO)))) kr)) ?_
     refine om rfl rfl (ox rfl rfl rfl (ox rfl rfl rfl (ox rfl rfl rfl (oa rfl rfl (oa rfl rfl (oa rfl rfl (shO_nil ?_)))))))
     obtain ⟨k6, h344, r345⟩ := b1_ok r332; clear r332
     refine shW_join (fun e1 F1 L1 => F333 = F1 ∧ L1 = [(b30, .cells #[.slice a17 l.length c18, .slice a20 l2.length c21, .int .i64 n, .int .i64 n2, .slice a23 l3.length c24] 26 (0, 0))] ∧ e1.sub [(7, .pointer (some ⟨b30, 0, none⟩)), (8, .int .i64 k), (208, .slice (some ⟨b275, 0, none⟩) [n15 - 1, n15].length 2), (209, .int .i64 2), (210, .int .i64 k5), (238, .bool k6)]) ?_ ?_
     · clear r345
       refine shW_region (om rfl rfl ?_)
       refine ov (v_neq rfl rfl) rfl ?_
       refine om rfl rfl ?_
       by_cases c346 : n19 ≠ 0
       · have r347 := ite_t h344 c346; clear h344
         refine shO_off (b' := true) 232 rfl (Env.isT rfl c346) rfl rfl (shO_off (b' := true) 232 rfl (Env.isT rfl c346) rfl rfl (shO_off (b' := true) 232 rfl (Env.isT rfl c346) rfl rfl (shO_off (b' := true) 232 rfl (Env.isT rfl c346) rfl rfl (shO_off (b' := true) 232 rfl (Env.isT rfl c346) rfl rfl ?_))))
         refine ov (v_pick_t (evD_true rfl c346) rfl) rfl ?_
         refine shO_nil ?_
         obtain rfl := inj1 r347
         exact mi (kd (kc kn)) ⟨rfl, rfl, (sc rfl (sc rfl (sc rfl (sc rfl (sc rfl (sc rfl (sn _)))))))⟩
       have r348 := ite_f h344 c346; clear h344
       refine shO_on (b := false) 232 rfl (Env.isF rfl c346) (om rfl rfl (shO_on (b := false) 232 rfl (Env.isF rfl c346) ?_))
       refine ov (v_eql rfl rfl) rfl ?_
       refine shO_on (b := false) 232 rfl (Env.isF rfl c346) (om rfl rfl (shO_on (b := false) 232 rfl (Env.isF rfl c346) ?_))
       refine ov (v_eql rfl rfl) rfl ?_
       refine shO_on (b := false) 232 rfl (Env.isF rfl c346) ?_
       refine ov (v_neqB Try.underlying4 rfl rfl) rfl ?_
       refine ov (v_pick_f (evD_false rfl c346) rfl) rfl ?_
       refine shO_nil ?_
       obtain rfl := inj1 r348
       exact mi (kd (kc kn)) ⟨rfl, rfl, (sc rfl (sc rfl (sc rfl (sc rfl (sc rfl (sc rfl (sn _)))))))⟩
     rintro e1 _ _ ⟨rfl, rfl, he349⟩
     refine shW_env _ he349 ?_; clear he349
     refine shW_cond rfl (fun c350 => ?_) (fun c350 => ?_)
     · have r351 := bt r345 c350; clear r345
       refine wsr (oa rfl rfl (shO_nil ?_))
       refine kW kn ?_
       refine shW_ret (inBlock_ret (andThen_ret (andThen_ret (inBlock_ret (andThen_ret ?_)))))
       refine q_res1 Try.results5 (res_tmp rfl) (sr) ?_
       obtain rfl := inj1 r351
       exact rfl
     have r352 := bf r345 c350; clear r345
     refine shW_skip (inBlock_n (id := 1) (shW_region ?_))
     refine ov (v_add rfl rfl (Ctr.r64 hk282 c289 g280)) rfl ?_
     refine om rfl rfl (shO_nil ?_)
     exact le kr ⟨_, hk290, r352, ((hF287.trans hF309).trans hF334), rfl, (sc rfl (sc rfl (sc rfl (sc rfl (sc rfl (sn _))))))⟩
   obtain rfl := Ctr.zero hk282 c289
   rw [oyezlaw03_RoundPutOff_l3] at r284
   refine shW_exit (andThen_exit (andThen_exit ?_))
   refine inBlock_exit ?_
   exact mi kn ⟨r284, (hF277.trans hF287), rfl, (sn _)⟩
 rintro e1 F355 _ ⟨r353, hF356, rfl, he354⟩
 refine shW_env _ he354 ?_; clear he354
 rw [oyezlaw03_RoundPutOff_j2] at r353
 refine wsr ?_
 obtain ⟨ok5, h357, r358⟩ := b1_ok r353; clear r353
 refine o_callV rfl Try.call9 rfl rfl rfl (oyezlaw03_awake_w h357) ?_
 refine oa rfl rfl (shO_nil (shW_ret ?_))
 refine q_res1 Try.results5 (res_tmp rfl) (sr) ?_
 obtain rfl := inj1 r358
 exact rfl
end Go.Proofs.Ytfmapnhfamoecab
