/- The walks that this claim needs, printed by a program of mine; part 3. -/
import Derived.Test.YtjgeaaganpkceaaZgNg2
namespace Go.Proofs.Ytjgeaaganpkceaa
open Go.SH Go.PL
set_option maxHeartbeats 1000000 in
theorem night_Verdicts_w {listens_a : Option Addr} {listens_c : Nat} {listens : List (List Int)} {hours_a : Option Addr} {hours_c : Nat} {hours : List (List Int)} {F : FS} (h_listens : RowR 1 (slE 1 (iE .i64)) F listens_a listens_c listens) (h_hours : RowR 1 (slE 1 (iE .i64)) F hours_a hours_c hours) {r : List (List Int)} {r2 : Int} (hr : night_Verdicts listens hours = some (r, r2)) :
    SH.Spec Try.prog 36 #[.agg #[.slice listens_a listens.length listens_c, .slice hours_a hours.length hours_c]] F [] fun F' L' v => ∃ (ra : Option Addr) (rn : Nat) (rc : Nat) (rL : LH), v = .tuple #[.slice ra rn rc, .int .i64 r2] ∧ L' = rL ++ [] ∧ SlR 0 80 1 (slE 1 (iE .i64)) F' ra rn rc r rL := by
 refine spec_of_shW (args := [.agg #[.slice listens_a listens.length listens_c, .slice hours_a hours.length hours_c]]) Try.func36 rfl Try.ntmps36 (Nat.le_of_ble_eq_true rfl) ?_
 intro K _ _; rw [night_Verdicts] at hr
 refine wsr ?_
 refine o_box rfl rfl ?_; intro b1 hb1
 refine oa rfl rfl (oa rfl rfl (nsr ?_))
 refine ov (v_loadA (cs := #[.slice listens_a listens.length listens_c, .slice hours_a hours.length hours_c]) Try.isAgg26 Try.sizeOf26 rfl (Has.own 0 rfl) (Nat.le_of_ble_eq_true rfl) rfl) rfl ?_
 obtain ⟨d, n, h2, r3⟩ := b2_ok hr; clear hr
 refine o_call0 rfl Try.call55 rfl rfl rfl (night_told_w h_listens h_hours h2) ?_; rintro _ F4 _ hF5 hn6 ⟨v8, Lb10, rfl, rfl, hp9⟩
 replace h_listens := h_listens.mono (slE_ok (iE_ok _)) hF5
 replace h_hours := h_hours.mono (slE_ok (iE_ok _)) hF5
 refine shO_L (lp (ln rfl)) ?_
 refine kO (kf (fS fO) kr) ?_
 refine om rfl rfl (ox rfl rfl rfl (ox rfl rfl rfl (oa rfl rfl (oa rfl rfl (shO_nil (shW_seq (wsr (om rfl rfl ?_))))))))
 refine ov (v_neq rfl rfl) rfl ?_
 refine shO_nil ?_
 refine shW_condP rfl (fun c11 => ?_) (fun c11 => ?_)
 · have r12 := ite_t r3 c11; clear r3
   refine wsr (om rfl rfl (oa rfl rfl (oa rfl rfl (shO_nil ?_))))
   refine kW kn ?_
   refine shW_ret (andThen_ret ?_)
   refine q_res2 Try.results36 (res_tmp rfl) (res_tmp rfl) (sr) ?_
   obtain ⟨rfl, rfl⟩ := inj2 r12
   exact ⟨_, _, _, [], rfl, rfl, SlR.nil _ _ _ _ _⟩
 have r13 := ite_f r3 c11; clear r3
 refine shW_skip (wsr (oa rfl rfl (shO_nil ?_)))
 obtain ⟨out, h20, r21⟩ := b1_ok r13; clear r13
 refine shW_join (fun e1 F1 L1 => ∃ (a14 : Option Addr) (n18 : Nat) (c15 : Nat) (Lb16 : LH), FExt F4 F1 ∧ L1 = (Lb16 ++ []) ∧ e1.sub [(6, .slice a14 n18 c15)] ∧ SlR K.w0.heap.size 80 1 (slE 1 (iE .i64)) F1 a14 n18 c15 out Lb16) ?_ ?_
 · clear r21
   refine wsr ?_
   refine ov (v_fieldAddr fa_26_1 rfl) rfl ?_
   refine ov (v_load Try.isAgg24 rfl (Has.own 0 rfl) rfl) rfl ?_
   refine ov (v_lenS Try.underlying24 rfl) rfl ?_
   refine om rfl rfl (shO_nil ?_)
   refine shW_block ?_
   obtain ⟨listens2, hours2, cried, rows, h22, r23⟩ := b4_ok h20; clear h20
   have h29 := hp9; rw [h22] at h29; obtain ⟨b24, m25, a30, c31, a33, c34, b36, es37, cl38, a40, c41, hv26, hz27, h32, h35, hR39, h42, hL28⟩ := ob_139_of h29; subst hv26; subst hL28
   refine shW_L (L' := [(b1, .cells #[.slice listens_a listens.length listens_c, .slice hours_a hours.length hours_c] 26 (0, 0)), (b36, .map es37 cl38)]) rfl ?_
   refine shW_lp (fun fu1 e1 F1 L1 => ∃ (tl : List (List Int)) (k : Int), tl.length = fu1 ∧ Lst hours k tl ∧ ∃ (out2 : List (List Int)) (a43 : Option Addr) (n47 : Nat) (c44 : Nat) (Lb45 : LH), night_Verdicts_l1 listens listens2 hours2 rows tl k out2 = some out ∧ FExt F4 F1 ∧ L1 = ((b1, .cells #[.slice listens_a listens.length listens_c, .slice hours_a hours.length hours_c] 26 (0, 0)) :: ((b36, .map es37 cl38) :: (Lb45 ++ []))) ∧ e1.sub [(1, .pointer (some ⟨b1, 0, none⟩)), (4, .pointer (some ⟨b24, 0, none⟩)), (6, .slice a43 n47 c44), (24, .int .i64 (hours.length : Int)), (25, .int .i64 k)] ∧ SlR K.w0.heap.size 80 1 (slE 1 (iE .i64)) F1 a43 n47 c44 out2 Lb45) _ (m0 (kc (kc (ke kr))) ⟨_, _, rfl, Lst.start _, [], none, 0, 0, [], r23, FExt.refl _, rfl, (sc rfl (sc rfl (sc rfl (sc rfl (sc rfl (sn _)))))), SlR.nil _ _ _ _ _⟩) ?_
   rintro fu1 e1 F53 _ ⟨tl, k, hn50, hk49, out2, a43, n47, c44, Lb45, r51, hF54, rfl, he52, hz46⟩
   refine shW_env _ he52 ?_; clear he52
   replace h_listens := h_listens.mono (slE_ok (iE_ok _)) hF54
   replace h_hours := h_hours.mono (slE_ok (iE_ok _)) hF54
   replace h32 := h32.mono (slE_ok (iE_ok _)) hF54
   replace h35 := h35.mono (slE_ok (iE_ok _)) hF54
   replace h42 := h42.mono (arE_ok (n := 64) (sz := 1) cB_ok) hF54
   replace hz27 := hF54 _ _ hz27
   refine wsr ?_
   refine ov (v_lssK rfl rfl) rfl ?_
   refine shO_nil (shW_seq ?_)
   refine shW_condP rfl (fun c56 => ?_) (fun c56 => ?_)
   · obtain ⟨x, tl2, rfl, hx58, g59, hk57⟩ := Lst.succ hk49 c56
     rw [night_Verdicts_l1] at r51
     refine shW_skip ?_
     obtain ⟨out3, h66, r67⟩ := b1_ok r51; clear r51
     refine shW_join (fun e1 F1 L1 => ∃ (a60 : Option Addr) (n64 : Nat) (c61 : Nat) (Lb62 : LH), FExt F53 F1 ∧ L1 = ((b1, .cells #[.slice listens_a listens.length listens_c, .slice hours_a hours.length hours_c] 26 (0, 0)) :: ((b36, .map es37 cl38) :: (Lb62 ++ []))) ∧ e1.sub [(1, .pointer (some ⟨b1, 0, none⟩)), (4, .pointer (some ⟨b24, 0, none⟩)), (6, .slice a60 n64 c61), (24, .int .i64 (hours.length : Int)), (25, .int .i64 k)] ∧ SlR K.w0.heap.size 80 1 (slE 1 (iE .i64)) F1 a60 n64 c61 out3 Lb62) ?_ ?_
     · clear r67
       refine shW_block ?_
       refine wsr (om rfl rfl (oa rfl rfl (shO_nil (shW_seq ?_))))
       obtain ⟨k2, h68, r69⟩ := b1_ok h66; clear h66
       refine shW_join (fun e1 F1 L1 => F53 = F1 ∧ L1 = ((b1, .cells #[.slice listens_a listens.length listens_c, .slice hours_a hours.length hours_c] 26 (0, 0)) :: ((b36, .map es37 cl38) :: (Lb45 ++ []))) ∧ e1.sub [(1, .pointer (some ⟨b1, 0, none⟩)), (4, .pointer (some ⟨b24, 0, none⟩)), (6, .slice a43 n47 c44), (7, .int .i64 k), (24, .int .i64 (hours.length : Int)), (25, .int .i64 k), (47, .bool k2)]) ?_ ?_
       · clear r69
         refine shW_draw (by kernel_rfl) (by kernel_rfl) (by kernel_rfl) ?_
         refine qm rfl rfl ?_
         refine qv (v_gtrK rfl rfl) rfl ?_
         refine qm rfl rfl ?_
         by_cases c70 : 0 < k
         · have r71 := ite_t h68 c70; clear h68
           refine shQ_on (b := true) 30 rfl (Env.isT rfl c70) (qm rfl rfl (shQ_on (b := true) 30 rfl (Env.isT rfl c70) ?_))
           refine qv (v_nilCheck rfl) rfl ?_
           refine shQ_on (b := true) 30 rfl (Env.isT rfl c70) ?_
           refine qv (v_fieldAddr fa_139_2 rfl) rfl ?_
           refine shQ_on (b := true) 30 rfl (Env.isT rfl c70) ?_
           refine qv (v_load Try.isAgg137 rfl (Has.frozen hz27) rfl) rfl ?_
           refine shQ_on (b := true) 30 rfl (Env.isT rfl c70) (qm rfl rfl (shQ_on (b := true) 30 rfl (Env.isT rfl c70) ?_))
           obtain ⟨x2, g72, hx73, r74⟩ := ix_ok r71; clear r71
           obtain ⟨b75, o76, c77, vs78, ha79, hs80, hle81, ⟨rfl, h84⟩, hl82, hc83⟩ := RowR.at (arE_ok (n := 64) (sz := 1) cB_ok) h42 ((b1, .cells #[.slice listens_a listens.length listens_c, .slice hours_a hours.length hours_c] 26 (0, 0)) :: ((b36, .map es37 cl38) :: (Lb45 ++ []))) g72.1 hx73
           refine qv (v_indexO Try.underlying137 Try.sizeOf135 rfl ha79 rfl g72) rfl ?_
           refine shQ_on (b := true) 30 rfl (Env.isT rfl c70) ?_
           refine qv (v_loadA (cs := arr cB x2) Try.isAgg135 Try.sizeOf135 rfl hs80 hle81 (extract_cells hle81 hl82 hc83)) rfl ?_
           refine shQ_on (b := true) 30 rfl (Env.isT rfl c70) (qm rfl rfl (shQ_on (b := true) 30 rfl (Env.isT rfl c70) ?_))
           refine qv (v_nilCheck rfl) rfl ?_
           refine shQ_on (b := true) 30 rfl (Env.isT rfl c70) ?_
           refine qv (v_fieldAddr fa_139_2 rfl) rfl ?_
           refine shQ_on (b := true) 30 rfl (Env.isT rfl c70) ?_
           refine qv (v_load Try.isAgg137 rfl (Has.frozen hz27) rfl) rfl ?_
           refine shQ_on (b := true) 30 rfl (Env.isT rfl c70) (qm rfl rfl (shQ_on (b := true) 30 rfl (Env.isT rfl c70) ?_))
           obtain ⟨g85, r86⟩ := gd_ok r74; clear r74
           refine qv (v_sub rfl rfl g85) rfl ?_
           refine shQ_on (b := true) 30 rfl (Env.isT rfl c70) ?_
           obtain ⟨x3, g87, hx88, r89⟩ := ix_ok r86; clear r86
           obtain ⟨b90, o91, c92, vs93, ha94, hs95, hle96, ⟨rfl, h99⟩, hl97, hc98⟩ := RowR.at (arE_ok (n := 64) (sz := 1) cB_ok) h42 ((b1, .cells #[.slice listens_a listens.length listens_c, .slice hours_a hours.length hours_c] 26 (0, 0)) :: ((b36, .map es37 cl38) :: (Lb45 ++ []))) g87.1 hx88
           refine qv (v_indexO Try.underlying137 Try.sizeOf135 rfl ha94 rfl g87) rfl ?_
           refine shQ_on (b := true) 30 rfl (Env.isT rfl c70) ?_
           refine qv (v_loadA (cs := arr cB x3) Try.isAgg135 Try.sizeOf135 rfl hs95 hle96 (extract_cells hle96 hl97 hc98)) rfl ?_
           refine shQ_on (b := true) 30 rfl (Env.isT rfl c70) ?_
           refine qv (v_eqA (eqga_135 _ _ _ _) (eqa_135 h84 h99) rfl rfl) rfl ?_
           refine qv (v_pick_t (evD_true rfl c70) rfl) rfl ?_
           refine shQ_nil ?_
           obtain rfl := inj1 r89
           exact mi kr ⟨rfl, rfl, (sc rfl (sc rfl (sc rfl (sc rfl (sc rfl (sc rfl (sc rfl (sn _))))))))⟩
         have r100 := ite_f h68 c70; clear h68
         refine shQ_off (b' := false) 30 rfl (Env.isF rfl c70) rfl rfl (shQ_off (b' := false) 30 rfl (Env.isF rfl c70) rfl rfl (shQ_off (b' := false) 30 rfl (Env.isF rfl c70) rfl rfl (shQ_off (b' := false) 30 rfl (Env.isF rfl c70) rfl rfl (shQ_off (b' := false) 30 rfl (Env.isF rfl c70) rfl rfl (shQ_off (b' := false) 30 rfl (Env.isF rfl c70) rfl rfl (shQ_off (b' := false) 30 rfl (Env.isF rfl c70) rfl rfl (shQ_off (b' := false) 30 rfl (Env.isF rfl c70) rfl rfl (shQ_off (b' := false) 30 rfl (Env.isF rfl c70) rfl rfl (shQ_off (b' := false) 30 rfl (Env.isF rfl c70) rfl rfl ?_)))))))))
         refine shQ_off (b' := false) 30 rfl (Env.isF rfl c70) rfl rfl (shQ_off (b' := false) 30 rfl (Env.isF rfl c70) rfl rfl (shQ_off (b' := false) 30 rfl (Env.isF rfl c70) rfl rfl (shQ_off (b' := false) 30 rfl (Env.isF rfl c70) rfl rfl (shQ_off (b' := false) 30 rfl (Env.isF rfl c70) rfl rfl (shQ_off (b' := false) 30 rfl (Env.isF rfl c70) rfl rfl ?_)))))
         refine qv (v_pick_f (evD_false rfl c70) rfl) rfl ?_
         refine shQ_nil ?_
         obtain rfl := inj1 r100
         exact mi kr ⟨rfl, rfl, (sc rfl (sc rfl (sc rfl (sc rfl (sc rfl (sc rfl (sc rfl (sn _))))))))⟩
       rintro e1 _ _ ⟨rfl, rfl, he101⟩
       refine shW_env _ he101 ?_; clear he101
       refine shW_cond rfl (fun c102 => ?_) (fun c102 => ?_)
       · have r103 := bt r69 c102; clear r69
         refine wsr (om rfl rfl (om rfl rfl (om rfl rfl ?_)))
         obtain ⟨g104, r105⟩ := gd_ok r103; clear r103
         refine ov (v_sub rfl rfl g104) rfl ?_
         obtain ⟨x4, g106, hx107, r108⟩ := ix_ok r105; clear r105
         obtain ⟨b109, o110, c111, vs112, ha113, hs114, hle115, ⟨a118, c119, rfl, h120⟩, hl116, hc117⟩ := SlR.at (slE_ok (iE_ok _)) hz46 (L := (b1, .cells #[.slice listens_a listens.length listens_c, .slice hours_a hours.length hours_c] 26 (0, 0)) :: ((b36, .map es37 cl38) :: (Lb45 ++ []))) (fC (fC fP)) g106.1 hx107
         refine ov (v_indexO Try.underlying71 Try.sizeOf80 rfl ha113 rfl (SlR.idx hz46 g106)) rfl ?_
         refine ov (v_load Try.isAgg80 rfl hs114 (hc117 0 (by decide))) rfl ?_
         obtain ⟨l, h121, r122⟩ := b1_ok r108; clear r108
         refine o_call0 rfl Try.call90 rfl rfl rfl (slices_Clone_night_Verdict_night_Verdict_w h120 h121) ?_; rintro _ F123 _ hF124 hn125 ⟨a127, n131, c128, Lb129, rfl, rfl, hz130⟩
         replace hz46 := hz46.mono (slE_ok (iE_ok _)) hF124
         replace hz130 := hz130.new fun p hp => hn125 p (by simp [hp])
         refine shO_L (lp (ln rfl)) ?_
         refine kO (kf (fS fO) (kf (fS fO) kr)) ?_
         refine o_buildSlice (cs := #[.slice a127 n131 c128]) rfl rfl (buildSlice_all slt_71 [.slice a127 n131 c128] rfl (by decide) (by simp [Value.cells]) (by decide)) ?_; intro b133 hb133
         obtain rfl := (SlR.caps hz130).1
         refine shO_freezeR (Nat.le_refl _) (iE_ok _) (fC (fC (fC fP))) hz130 ?_; intro F134 hF135 h136
         replace hz46 := hz46.mono (slE_ok (iE_ok _)) hF135
         obtain ⟨out4, h137, g138, r139⟩ := ap_ok r122; clear r122
         refine o_appZ (xs := out2) (ys := [l]) (zs := out4) rfl slt_71 rfl rfl (Nat.le_refl _) (fun _ => .c (.c (.c .h))) hz46 (SrcR.box (vss := [[.slice a127 l.length c128]]) (ys := [l]) 0 rfl (slE_ok (iE_ok _)) (.cons ⟨_, _, rfl, h136⟩ .nil) rfl rfl) h137 g138 (by decide) ?_; intro a140 n144 c141 Lb142 hz143
         refine kO (kd kr) ?_
         refine oa rfl rfl (shO_nil (shW_exit (andThen_exit ?_)))
         refine inBlock_exit ?_
         obtain rfl := inj1 r139
         exact mi kr ⟨a140, n144, c141, Lb142, (hF124.trans hF135), rfl, (sc rfl (sc rfl (sc rfl (sc rfl (sc rfl (sn _)))))), hz143⟩
       have r146 := bf r69 c102; clear r69
       refine shW_skip (wsr (om rfl rfl ?_))
       obtain ⟨n2, h147, r148⟩ := b1_ok r146; clear r146
       refine o_callV rfl Try.call72 rfl rfl rfl (night_desk_sets_w hz27 h32 h35 h147) ?_
       obtain ⟨g149, r150⟩ := gd_ok r148; clear r148
       refine ov (v_sub rfl rfl g149) rfl ?_
       refine o_alloc rfl Try.zeroValue3 ?_; intro b151 hb151
       refine o_alloc rfl Try.zeroValue3 ?_; intro b152 hb152
       refine o_store (i := 1) Try.sizeOf3 rfl rfl rfl rfl (Nat.le_of_ble_eq_true rfl) ?_
       refine shO_L (L' := (b152, .cells #[.int .i64 0] 3 (0, 0)) :: ((b151, .cells #[.int .i64 0] 3 (0, 0)) :: ((b1, .cells #[.slice listens_a listens.length listens_c, .slice hours_a hours.length hours_c] 26 (0, 0)) :: ((b36, .map es37 cl38) :: (Lb45 ++ []))))) rfl ?_
       refine o_store (i := 0) Try.sizeOf3 rfl rfl rfl rfl (Nat.le_of_ble_eq_true rfl) ?_
       refine shO_L (L' := (b152, .cells #[.int .i64 (n2 - 1)] 3 (0, 0)) :: ((b151, .cells #[.int .i64 0] 3 (0, 0)) :: ((b1, .cells #[.slice listens_a listens.length listens_c, .slice hours_a hours.length hours_c] 26 (0, 0)) :: ((b36, .map es37 cl38) :: (Lb45 ++ []))))) rfl ?_
       refine shO_nil ?_
       obtain ⟨some_, all_, h153, r154⟩ := b2_ok r150; clear r150
       refine shW_join (fun e1 F1 L1 => FExt F53 F1 ∧ L1 = ((b152, .cells #[.int .i64 all_] 3 (0, 0)) :: ((b151, .cells #[.int .i64 some_] 3 (0, 0)) :: ((b1, .cells #[.slice listens_a listens.length listens_c, .slice hours_a hours.length hours_c] 26 (0, 0)) :: ((b36, .map es37 cl38) :: (Lb45 ++ []))))) ∧ e1.sub [(1, .pointer (some ⟨b1, 0, none⟩)), (4, .pointer (some ⟨b24, 0, none⟩)), (6, .slice a43 n47 c44), (8, .pointer (some ⟨b151, 0, none⟩)), (9, .pointer (some ⟨b152, 0, none⟩)), (24, .int .i64 (hours.length : Int)), (25, .int .i64 k)]) ?_ ?_
       · clear r154
         refine wsr (om rfl rfl (om rfl rfl ?_))
         obtain ⟨y, h155, r156⟩ := b1_ok h153; clear h153
         refine o_call0 rfl Try.call62 rfl rfl rfl (night_desk_fit_w hz27 h32 h35 h42 h155) ?_; rintro _ F157 _ hF158 hn159 ⟨cp161, rfl, rfl, hit162⟩
         refine shO_L (ln rfl) ?_
         refine shO_nil ?_
         refine shW_block ?_
         refine shW_rangeFunc (encs := (fun x : Int => #[.int .i64 x])) (xs := y) rfl Try.call102 rfl (fun _ => rfl) hit162 (fun pre F1 L1 => ∃ (tl3 : List Int) (some_2 : Int) (all_2 : Int), y = pre ++ tl3 ∧ night_Verdicts_l2 tl3 some_2 all_2 = some (some_, all_) ∧ L1 = ((b152, .cells #[.int .i64 all_2] 3 (0, 0)) :: ((b151, .cells #[.int .i64 some_2] 3 (0, 0)) :: ((b1, .cells #[.slice listens_a listens.length listens_c, .slice hours_a hours.length hours_c] 26 (0, 0)) :: ((b36, .map es37 cl38) :: (Lb45 ++ [])))))) (fun _ _ _ => False) ?_ ?_ ?_ ?_ ?_ ?_
         · rintro pre F1 F2 L1 ⟨tl3, some_2, all_2, hs163, r164, rfl⟩ hx; exact ⟨tl3, some_2, all_2, hs163, r164, rfl⟩
         · intro c F1 F2 L1 h hx; exact h
         · exact ⟨_, 0, n2 - 1, rfl, r156, rfl⟩
         · rintro l165 wr166 Fr167 Xr168 Ha169 Hb170 hnb171 hH175 pre x5 tl4 hxs174 F172 _ hF173 ⟨tl3, some_2, all_2, hs163, r176, rfl⟩
           obtain rfl := rest_head hs163 hxs174
           rw [night_Verdicts_l2] at r176
           refine shW_env [(1, .pointer (some ⟨b1, 0, none⟩)), (4, .pointer (some ⟨b24, 0, none⟩)), (6, .slice a43 n47 c44), (8, .pointer (some ⟨b151, 0, none⟩)), (9, .pointer (some ⟨b152, 0, none⟩)), (24, .int .i64 (hours.length : Int)), (25, .int .i64 k), (62, .func (.func 102) #[] cp161), (63, .int .i64 x5)] (by exact (sc rfl (sc rfl (sc rfl (sc rfl (sc rfl (sc rfl (sc rfl (sc rfl (sc rfl (sn _))))))))))) ?_
           refine shW_region (oa rfl rfl (shO_nil ?_))
           refine ⟨rfl, ?_⟩
           refine shW_block ?_
           refine shW_drawM [(.still, 0), (.still, 1), (.still, 2), (.still, 3), (.still, 4), (.still, 5), (.seq, 6), (.seq, 7)] (by kernel_rfl) (by kernel_rfl) (trivial) (by rfl) (by kernel_rfl) ?_
           refine shM_v (v := .int .i64 some_2) (ek := [(8, .pointer (some ⟨b151, 0, none⟩))]) (Ls := [(b151, .cells #[.int .i64 some_2] 3 (0, 0))]) rfl rfl rfl rfl ((sc rfl (sn _))) (by kernel_rfl) (s0 (s1 (s2 (s1 (s1 (s3 sr)))))) (fun H F' L' hF' hL' => v_load Try.isAgg3 rfl ((Has.own 0 rfl).ext hF' hL') rfl) ?_
           refine shM_v (v := .int .i64 x5) (ek := [(10, .int .i64 x5)]) (Ls := []) rfl rfl rfl rfl ((sc rfl (sn _))) (by kernel_rfl) sm (fun H F' L' hF' hL' => v_move rfl) ?_
           refine shM_v (v := .int .i64 (bor some_2 x5)) (ek := [(64, .int .i64 some_2), (65, .int .i64 x5)]) (Ls := []) rfl rfl rfl rfl ((sc rfl (sc rfl (sn _)))) (by kernel_rfl) sm (fun H F' L' hF' hL' => v_or rfl rfl) ?_
           refine shM_v (v := .int .i64 all_2) (ek := [(9, .pointer (some ⟨b152, 0, none⟩))]) (Ls := [(b152, .cells #[.int .i64 all_2] 3 (0, 0))]) rfl rfl rfl rfl ((sc rfl (sn _))) (by kernel_rfl) (s0 (s2 (s1 (s1 (s1 (s3 sr)))))) (fun H F' L' hF' hL' => v_load Try.isAgg3 rfl ((Has.own 0 rfl).ext hF' hL') rfl) ?_
           refine shM_v (v := .int .i64 x5) (ek := [(10, .int .i64 x5)]) (Ls := []) rfl rfl rfl rfl ((sc rfl (sn _))) (by kernel_rfl) sm (fun H F' L' hF' hL' => v_move rfl) ?_
           refine shM_v (v := .int .i64 (band all_2 x5)) (ek := [(67, .int .i64 all_2), (68, .int .i64 x5)]) (Ls := []) rfl rfl rfl rfl ((sc rfl (sc rfl (sn _)))) (by kernel_rfl) sm (fun H F' L' hF' hL' => v_and rfl rfl) ?_
           refine ⟨_, [(8, .pointer (some ⟨b151, 0, none⟩)), (66, .int .i64 (bor some_2 x5))], rfl, rfl, (sc rfl (sc rfl (sn _))), by kernel_rfl, ?_⟩; intro H
           refine o_store (i := 1) Try.sizeOf3 rfl rfl rfl rfl (Nat.le_of_ble_eq_true rfl) ?_
           refine shO_L (L' := (b152, .cells #[.int .i64 all_2] 3 (0, 0)) :: ((b151, .cells #[.int .i64 (bor some_2 x5)] 3 (0, 0)) :: ((b1, .cells #[.slice listens_a listens.length listens_c, .slice hours_a hours.length hours_c] 26 (0, 0)) :: ((b36, .map es37 cl38) :: (Lb45 ++ []))))) rfl ?_
           refine shO_nil ⟨undef, rfl, FExt.refl _, [5, 4, 3], by kernel_rfl, .inl (.inr (fun d h => by cases h)), (List.forall_mem_cons.2 ⟨sm, (List.forall_mem_cons.2 ⟨sm, (List.forall_mem_cons.2 ⟨s0 (s2 (s1 (s1 (s1 (s3 sr))))), (fun _ h => absurd h List.not_mem_nil)⟩)⟩)⟩), ?_⟩
           refine ⟨_, [(9, .pointer (some ⟨b152, 0, none⟩)), (69, .int .i64 (band all_2 x5))], rfl, rfl, (sc rfl (sc rfl (sn _))), by kernel_rfl, ?_⟩; intro H
           refine o_store (i := 0) Try.sizeOf3 rfl rfl rfl rfl (Nat.le_of_ble_eq_true rfl) ?_
           refine shO_L (L' := (b152, .cells #[.int .i64 (band all_2 x5)] 3 (0, 0)) :: ((b151, .cells #[.int .i64 (bor some_2 x5)] 3 (0, 0)) :: ((b1, .cells #[.slice listens_a listens.length listens_c, .slice hours_a hours.length hours_c] 26 (0, 0)) :: ((b36, .map es37 cl38) :: (Lb45 ++ []))))) rfl ?_
           refine shO_nil ⟨undef, rfl, FExt.refl _, [], by kernel_rfl, .inl (.inl rfl), (fun _ h => absurd h List.not_mem_nil), ?_⟩
           refine shM_nil ?_
           refine inBlock_n (id := 3) ?_
           refine ⟨(b152, .cells #[.int .i64 (band all_2 x5)] 3 (0, 0)) :: ((b151, .cells #[.int .i64 (bor some_2 x5)] 3 (0, 0)) :: ((b1, .cells #[.slice listens_a listens.length listens_c, .slice hours_a hours.length hours_c] 26 (0, 0)) :: ((b36, .map es37 cl38) :: (Lb45 ++ [])))), sr, ?_⟩; exact ⟨_, bor some_2 x5, band all_2 x5, (by rw [hxs174]; simp), r176, rfl⟩
         · rintro F177 _ hF178 ⟨tl3, some_2, all_2, hs163, r179, rfl⟩
           obtain rfl := rest_nil hs163; rw [night_Verdicts_l2] at r179
           refine inBlock_n (id := 2) ?_
           obtain ⟨rfl, rfl⟩ := inj2 r179
           exact mi kr ⟨(hF158.trans hF178), rfl, (sc rfl (sc rfl (sc rfl (sc rfl (sc rfl (sc rfl (sc rfl (sn _))))))))⟩
         intro c F1 L1 hx h; exact h.elim
       rintro e1 F181 _ ⟨hF182, rfl, he180⟩
       refine shW_env _ he180 ?_; clear he180
       replace h_listens := h_listens.mono (slE_ok (iE_ok _)) hF182
       replace hz46 := hz46.mono (slE_ok (iE_ok _)) hF182
       refine wsr (oa rfl rfl (shO_nil ?_))
       obtain ⟨l2, h189, r190⟩ := b1_ok r154; clear r154
       refine shW_join (fun e1 F1 L1 => ∃ (a183 : Option Addr) (n187 : Nat) (c184 : Nat) (Lb185 : LH), F181 = F1 ∧ L1 = ((b1, .cells #[.slice listens_a listens.length listens_c, .slice hours_a hours.length hours_c] 26 (0, 0)) :: ((b36, .map es37 cl38) :: (Lb45 ++ (Lb185 ++ [])))) ∧ e1.sub [(1, .pointer (some ⟨b1, 0, none⟩)), (4, .pointer (some ⟨b24, 0, none⟩)), (6, .slice a43 n47 c44), (11, .slice a183 n187 c184), (24, .int .i64 (hours.length : Int)), (25, .int .i64 k)] ∧ SlR K.w0.heap.size 81 1 (iE .i64) F1 a183 n187 c184 l2 Lb185) ?_ ?_
       · clear r190
         refine wsr ?_
         refine ov (v_fieldAddr fa_26_0 rfl) rfl ?_
         refine ov (v_load Try.isAgg23 rfl (Has.own 2 rfl) rfl) rfl ?_
         refine ov (v_lenS Try.underlying23 rfl) rfl ?_
         refine om rfl rfl (shO_nil ?_)
         refine shW_block ?_
         refine shW_lp (fun fu3 e1 F1 L1 => ∃ (tl5 : List (List Int)) (k3 : Int), tl5.length = fu3 ∧ Lst listens k3 tl5 ∧ ∃ (l3 : List Int) (a191 : Option Addr) (n195 : Nat) (c192 : Nat) (Lb193 : LH), night_Verdicts_l3 some_ all_ tl5 k3 l3 = some l2 ∧ F181 = F1 ∧ L1 = ((b152, .cells #[.int .i64 all_] 3 (0, 0)) :: ((b151, .cells #[.int .i64 some_] 3 (0, 0)) :: ((b1, .cells #[.slice listens_a listens.length listens_c, .slice hours_a hours.length hours_c] 26 (0, 0)) :: ((b36, .map es37 cl38) :: (Lb45 ++ (Lb193 ++ [])))))) ∧ e1.sub [(1, .pointer (some ⟨b1, 0, none⟩)), (4, .pointer (some ⟨b24, 0, none⟩)), (6, .slice a43 n47 c44), (8, .pointer (some ⟨b151, 0, none⟩)), (9, .pointer (some ⟨b152, 0, none⟩)), (11, .slice a191 n195 c192), (24, .int .i64 (hours.length : Int)), (25, .int .i64 k), (72, .int .i64 (listens.length : Int)), (73, .int .i64 k3)] ∧ SlR K.w0.heap.size 81 1 (iE .i64) F1 a191 n195 c192 l3 Lb193) _ (m0 (kc (kc (kc (kc (ka (ke kr)))))) ⟨_, _, rfl, Lst.start _, [], none, 0, 0, [], h189, rfl, rfl, (sc rfl (sc rfl (sc rfl (sc rfl (sc rfl (sc rfl (sc rfl (sc rfl (sc rfl (sc rfl (sn _))))))))))), SlR.nil _ _ _ _ _⟩) ?_
         rintro fu3 e1 _ _ ⟨tl5, k3, hn198, hk197, l3, a191, n195, c192, Lb193, r199, rfl, rfl, he200, hz194⟩
         refine shW_env _ he200 ?_; clear he200
         refine wsr ?_
         refine ov (v_lssK rfl rfl) rfl ?_
         refine shO_nil (shW_seq ?_)
         refine shW_condP rfl (fun c202 => ?_) (fun c202 => ?_)
         · obtain ⟨x6, tl6, rfl, hx204, g205, hk203⟩ := Lst.succ hk197 c202
           rw [night_Verdicts_l3] at r199
           refine shW_skip (shW_seq ?_)
           refine shW_block ?_
           refine wsr (om rfl rfl (oa rfl rfl (nsr (oa rfl rfl (shO_nil ?_)))))
           obtain ⟨v, h206, r207⟩ := b1_ok r199; clear r199
           refine shW_join (fun e1 F1 L1 => F181 = F1 ∧ L1 = ((b152, .cells #[.int .i64 all_] 3 (0, 0)) :: ((b151, .cells #[.int .i64 some_] 3 (0, 0)) :: ((b1, .cells #[.slice listens_a listens.length listens_c, .slice hours_a hours.length hours_c] 26 (0, 0)) :: ((b36, .map es37 cl38) :: (Lb45 ++ (Lb193 ++ [])))))) ∧ e1.sub [(1, .pointer (some ⟨b1, 0, none⟩)), (4, .pointer (some ⟨b24, 0, none⟩)), (6, .slice a43 n47 c44), (8, .pointer (some ⟨b151, 0, none⟩)), (9, .pointer (some ⟨b152, 0, none⟩)), (11, .slice a191 n195 c192), (12, .int .i64 k3), (13, .int .i64 v), (24, .int .i64 (hours.length : Int)), (25, .int .i64 k), (72, .int .i64 (listens.length : Int)), (73, .int .i64 k3)]) ?_ ?_
           · clear r207
             refine wsr ?_
             refine ov (v_load Try.isAgg3 rfl (Has.own 0 rfl) rfl) rfl ?_
             refine om rfl rfl ?_
             obtain ⟨g208, r209⟩ := gd_ok h206; clear h206
             refine ov (v_shr rfl rfl g208) rfl ?_
             refine ov (v_and rfl rfl) rfl ?_
             refine ov (v_eql rfl rfl) rfl ?_
             refine shO_nil ?_
             refine shW_condP rfl (fun c210 => ?_) (fun c210 => ?_)
             · have r211 := ite_t r209 c210; clear r209
               refine shW_region (oa rfl rfl (shO_nil ?_))
               obtain rfl := inj1 r211
               exact mi kr ⟨rfl, rfl, (sc rfl (sc rfl (sc rfl (sc rfl (sc rfl (sc rfl (sc rfl (sc rfl (sc rfl (sc rfl (sc rfl (sc rfl (sn _)))))))))))))⟩
             have r212 := ite_f r209 c210; clear r209
             refine shW_skip ?_
             obtain rfl := inj1 r212
             exact mi kr ⟨rfl, rfl, (sc rfl (sc rfl (sc rfl (sc rfl (sc rfl (sc rfl (sc rfl (sc rfl (sc rfl (sc rfl (sc rfl (sc rfl (sn _)))))))))))))⟩
           rintro e1 _ _ ⟨rfl, rfl, he213⟩
           refine shW_env _ he213 ?_; clear he213
           obtain ⟨v2, h214, r215⟩ := b1_ok r207; clear r207
           refine shW_join (fun e1 F1 L1 => F181 = F1 ∧ L1 = ((b152, .cells #[.int .i64 all_] 3 (0, 0)) :: ((b151, .cells #[.int .i64 some_] 3 (0, 0)) :: ((b1, .cells #[.slice listens_a listens.length listens_c, .slice hours_a hours.length hours_c] 26 (0, 0)) :: ((b36, .map es37 cl38) :: (Lb45 ++ (Lb193 ++ [])))))) ∧ e1.sub [(1, .pointer (some ⟨b1, 0, none⟩)), (4, .pointer (some ⟨b24, 0, none⟩)), (6, .slice a43 n47 c44), (8, .pointer (some ⟨b151, 0, none⟩)), (9, .pointer (some ⟨b152, 0, none⟩)), (11, .slice a191 n195 c192), (13, .int .i64 v2), (24, .int .i64 (hours.length : Int)), (25, .int .i64 k), (72, .int .i64 (listens.length : Int)), (73, .int .i64 k3)]) ?_ ?_
           · clear r215
             refine wsr ?_
             refine ov (v_load Try.isAgg3 rfl (Has.own 1 rfl) rfl) rfl ?_
             refine om rfl rfl ?_
             obtain ⟨g216, r217⟩ := gd_ok h214; clear h214
             refine ov (v_shr rfl rfl g216) rfl ?_
             refine ov (v_and rfl rfl) rfl ?_
             refine ov (v_eql rfl rfl) rfl ?_
             refine shO_nil ?_
             refine shW_condP rfl (fun c218 => ?_) (fun c218 => ?_)
             · have r219 := ite_t r217 c218; clear r217
               refine shW_region (oa rfl rfl (shO_nil ?_))
               obtain rfl := inj1 r219
               exact mi kr ⟨rfl, rfl, (sc rfl (sc rfl (sc rfl (sc rfl (sc rfl (sc rfl (sc rfl (sc rfl (sc rfl (sc rfl (sc rfl (sn _))))))))))))⟩
             have r220 := ite_f r217 c218; clear r217
             refine shW_skip ?_
             obtain rfl := inj1 r220
             exact mi kr ⟨rfl, rfl, (sc rfl (sc rfl (sc rfl (sc rfl (sc rfl (sc rfl (sc rfl (sc rfl (sc rfl (sc rfl (sc rfl (sn _))))))))))))⟩
           rintro e1 _ _ ⟨rfl, rfl, he221⟩
           refine shW_env _ he221 ?_; clear he221
           refine shW_region (om rfl rfl (om rfl rfl ?_))
           refine o_buildSlice (cs := #[.int .i64 v2]) rfl rfl (buildSlice_all slt_80 [.int .i64 v2] rfl (by decide) (by simp [Value.cells]) (by decide)) ?_; intro b222 hb222
           obtain ⟨l4, h223, g224, r225⟩ := ap_ok r215; clear r215
           refine o_appZ (xs := l3) (ys := [v2]) (zs := l4) rfl slt_80 rfl rfl (Nat.le_refl _) (fun _ => .c (.c (.c (.c (.c (.s .h)))))) hz194 (SrcR.box (vss := [[.int .i64 v2]]) (ys := [v2]) 0 rfl (iE_ok _) (.cons rfl .nil) rfl rfl) h223 g224 (by decide) ?_; intro a226 n230 c227 Lb228 hz229
           refine kO (kd kr) ?_
           refine oa rfl rfl (shO_nil (inBlock_n (id := 5) (shW_region ?_)))
           refine ov (v_add rfl rfl (Lst.r64 hk197 c202 (RowR.lt h_listens))) rfl ?_
           refine om rfl rfl (shO_nil ?_)
           subst hn198; exact le kr ⟨_, _, rfl, hk203, l4, a226, n230, c227, Lb228, r225, rfl, rfl, (sc rfl (sc rfl (sc rfl (sc rfl (sc rfl (sc rfl (sc rfl (sc rfl (sc rfl (sc rfl (sn _))))))))))), hz229⟩
         obtain rfl := Lst.zero hk197 c202
         rw [night_Verdicts_l3] at r199
         refine shW_exit (andThen_exit (andThen_exit ?_))
         refine inBlock_exit ?_
         obtain rfl := inj1 r199
         exact mi (kd (kd kr)) ⟨a191, n195, c192, Lb193, rfl, rfl, (sc rfl (sc rfl (sc rfl (sc rfl (sc rfl (sc rfl (sn _))))))), hz194⟩
       rintro e1 _ _ ⟨a183, n187, c184, Lb185, rfl, rfl, he232, hz186⟩
       refine shW_env _ he232 ?_; clear he232
       refine shW_region (om rfl rfl (om rfl rfl ?_))
       refine o_buildSlice (cs := #[.slice a183 n187 c184]) rfl rfl (buildSlice_all slt_71 [.slice a183 n187 c184] rfl (by decide) (by simp [Value.cells]) (by decide)) ?_; intro b233 hb233
       obtain rfl := (SlR.caps hz186).1
       refine shO_freezeR (Nat.le_refl _) (iE_ok _) (fC (fC (fC (fS fP)))) hz186 ?_; intro F234 hF235 h236
       replace hz46 := hz46.mono (slE_ok (iE_ok _)) hF235
       obtain ⟨out5, h237, g238, r239⟩ := ap_ok r190; clear r190
       refine o_appZ (xs := out2) (ys := [l2]) (zs := out5) rfl slt_71 rfl rfl (Nat.le_refl _) (fun _ => .c (.c (.c .h))) hz46 (SrcR.box (vss := [[.slice a183 l2.length c184]]) (ys := [l2]) 0 rfl (slE_ok (iE_ok _)) (.cons ⟨_, _, rfl, h236⟩ .nil) rfl rfl) h237 g238 (by decide) ?_; intro a240 n244 c241 Lb242 hz243
       refine kO (kd kr) ?_
       refine oa rfl rfl (shO_nil (inBlock_n (id := 1) ?_))
       obtain rfl := inj1 r239
       exact mi kr ⟨a240, n244, c241, Lb242, (hF182.trans hF235), rfl, (sc rfl (sc rfl (sc rfl (sc rfl (sc rfl (sn _)))))), hz243⟩
     rintro e1 F247 _ ⟨a60, n64, c61, Lb62, hF248, rfl, he246, hz63⟩
     refine shW_env _ he246 ?_; clear he246
     replace h_hours := h_hours.mono (slE_ok (iE_ok _)) hF248
     refine shW_region ?_
     refine ov (v_add rfl rfl (Lst.r64 hk49 c56 (RowR.lt h_hours))) rfl ?_
     refine om rfl rfl (shO_nil ?_)
     subst hn50; exact le kr ⟨_, _, rfl, hk57, out3, a60, n64, c61, Lb62, r67, (hF54.trans hF248), rfl, (sc rfl (sc rfl (sc rfl (sc rfl (sc rfl (sn _)))))), hz63⟩
   obtain rfl := Lst.zero hk49 c56
   rw [night_Verdicts_l1] at r51
   refine shW_exit (andThen_exit (andThen_exit ?_))
   refine inBlock_exit ?_
   obtain rfl := inj1 r51
   exact mi (kd (kd kr)) ⟨a43, n47, c44, Lb45, hF54, rfl, (sc rfl (sn _)), hz46⟩
 rintro e1 F250 _ ⟨a14, n18, c15, Lb16, hF251, rfl, he249, hz17⟩
 refine shW_env _ he249 ?_; clear he249
 refine wsr (om rfl rfl (oa rfl rfl (oa rfl rfl (shO_nil (shW_ret ?_)))))
 refine q_res2 Try.results36 (res_tmp rfl) (res_tmp rfl) (sr) ?_
 obtain ⟨rfl, rfl⟩ := inj2 r21
 exact ⟨_, _, _, _, rfl, rfl, hz17.any⟩
set_option maxHeartbeats 1000000 in
theorem oyezlaw05_Four_w {F : FS} {r : List (List Int)} {r2 : List (List Int)} (hr : oyezlaw05_Four = some (r, r2)) :
    SH.Spec Try.prog 69 #[] F [] fun F' L' v => ∃ (ra : Option Addr) (rn : Nat) (rc : Nat) (rL : LH) (r2a : Option Addr) (r2n : Nat) (r2c : Nat) (r2L : LH), v = .agg #[.slice ra rn rc, .slice r2a r2n r2c] ∧ L' = rL ++ (r2L ++ []) ∧ SlR 0 27 1 (slE 1 (iE .i64)) F' ra rn rc r rL ∧ SlR 0 40 1 (slE 1 (iE .i64)) F' r2a r2n r2c r2 r2L := by
 refine spec_of_shW (args := []) Try.func69 rfl Try.ntmps69 (Nat.le_of_ble_eq_true rfl) ?_
 intro K _ _; rw [oyezlaw05_Four] at hr
 refine wsr ?_
 refine o_alloc rfl Try.zeroValue26 ?_; intro b1 hb1
 refine nsr ?_
 refine o_buildSlice (cs := #[.int .i64 0]) rfl rfl (buildSlice_all slt_27 [.int .i64 0] rfl (by decide) (by simp [Value.cells]) (by decide)) ?_; intro b2 hb2
 refine o_buildSlice (cs := #[.int .i64 1]) rfl rfl (buildSlice_all slt_27 [.int .i64 1] rfl (by decide) (by simp [Value.cells]) (by decide)) ?_; intro b3 hb3
 refine o_buildSlice (cs := #[.int .i64 0, .int .i64 2]) rfl rfl (buildSlice_all slt_27 [.int .i64 0, .int .i64 2] rfl (by decide) (by simp [Value.cells]) (by decide)) ?_; intro b4 hb4
 refine o_buildSlice (cs := #[.slice none 0 0, .slice (some ⟨b2, 0, none⟩) 1 1, .slice (some ⟨b3, 0, none⟩) 1 1, .slice (some ⟨b4, 0, none⟩) 2 2]) rfl rfl (buildSlice_all slt_23 [.slice none 0 0, .slice (some ⟨b2, 0, none⟩) 1 1, .slice (some ⟨b3, 0, none⟩) 1 1, .slice (some ⟨b4, 0, none⟩) 2 2] rfl (by decide) (by simp [Value.cells]) (by decide)) ?_; intro b5 hb5
 refine o_buildSlice (cs := #[.int .i64 0, .int .i64 0, .int .i64 2, .int .i64 1]) rfl rfl (buildSlice_all slt_40 [.int .i64 0, .int .i64 0, .int .i64 2, .int .i64 1] rfl (by decide) (by simp [Value.cells]) (by decide)) ?_; intro b6 hb6
 refine o_buildSlice (cs := #[.int .i64 0, .int .i64 0, .int .i64 2, .int .i64 0]) rfl rfl (buildSlice_all slt_40 [.int .i64 0, .int .i64 0, .int .i64 2, .int .i64 0] rfl (by decide) (by simp [Value.cells]) (by decide)) ?_; intro b7 hb7
 refine o_buildSlice (cs := #[.slice (some ⟨b6, 0, none⟩) 4 4, .slice (some ⟨b7, 0, none⟩) 4 4]) rfl rfl (buildSlice_all slt_24 [.slice (some ⟨b6, 0, none⟩) 4 4, .slice (some ⟨b7, 0, none⟩) 4 4] rfl (by decide) (by simp [Value.cells]) (by decide)) ?_; intro b8 hb8
 refine ov (v_build (v := .agg #[.slice (some ⟨b5, 0, none⟩) 4 4, .slice (some ⟨b8, 0, none⟩) 2 2]) rfl (by intro w; kernel_rfl)) rfl ?_
 refine shO_freeze 6 rfl hb2 ?_; intro F9 hF10 hz11
 refine shO_L (L' := [(b8, .cells #[.slice (some ⟨b6, 0, none⟩) 4 4, .slice (some ⟨b7, 0, none⟩) 4 4] 40 (0, 0)), (b7, .cells #[.int .i64 0, .int .i64 0, .int .i64 2, .int .i64 0] 41 (0, 0)), (b6, .cells #[.int .i64 0, .int .i64 0, .int .i64 2, .int .i64 1] 41 (0, 0)), (b5, .cells #[.slice none 0 0, .slice (some ⟨b2, 0, none⟩) 1 1, .slice (some ⟨b3, 0, none⟩) 1 1, .slice (some ⟨b4, 0, none⟩) 2 2] 27 (0, 0)), (b4, .cells #[.int .i64 0, .int .i64 2] 3 (0, 0)), (b3, .cells #[.int .i64 1] 3 (0, 0)), (b1, .cells #[.slice none 0 0, .slice none 0 0] 26 (0, 0))]) rfl ?_
 have h12 : RowR 1 (iE .i64) F9 (some ⟨b2, 0, none⟩) 1 [0] := RowR.of_block (iE_ok _) (vss := [[.int .i64 0]]) (xs := [0]) hz11 (.cons rfl .nil) rfl (by simp [maxLen])
 refine shO_freeze 5 rfl hb3 ?_; intro F13 hF14 hz15
 refine shO_L (L' := [(b8, .cells #[.slice (some ⟨b6, 0, none⟩) 4 4, .slice (some ⟨b7, 0, none⟩) 4 4] 40 (0, 0)), (b7, .cells #[.int .i64 0, .int .i64 0, .int .i64 2, .int .i64 0] 41 (0, 0)), (b6, .cells #[.int .i64 0, .int .i64 0, .int .i64 2, .int .i64 1] 41 (0, 0)), (b5, .cells (#[.slice none 0 0, .slice (some ⟨b2, 0, none⟩) [0].length 1, .slice (some ⟨b3, 0, none⟩) 1 1, .slice (some ⟨b4, 0, none⟩) 2 2]) 27 (0, 0)), (b4, .cells #[.int .i64 0, .int .i64 2] 3 (0, 0)), (b1, .cells #[.slice none 0 0, .slice none 0 0] 26 (0, 0))]) rfl ?_
 replace h12 := h12.mono (iE_ok _) hF14
 have h16 : RowR 1 (iE .i64) F13 (some ⟨b3, 0, none⟩) 1 [1] := RowR.of_block (iE_ok _) (vss := [[.int .i64 1]]) (xs := [1]) hz15 (.cons rfl .nil) rfl (by simp [maxLen])
 refine shO_freeze 4 rfl hb4 ?_; intro F17 hF18 hz19
 refine shO_L (L' := [(b8, .cells #[.slice (some ⟨b6, 0, none⟩) 4 4, .slice (some ⟨b7, 0, none⟩) 4 4] 40 (0, 0)), (b7, .cells #[.int .i64 0, .int .i64 0, .int .i64 2, .int .i64 0] 41 (0, 0)), (b6, .cells #[.int .i64 0, .int .i64 0, .int .i64 2, .int .i64 1] 41 (0, 0)), (b5, .cells (#[.slice none 0 0, .slice (some ⟨b2, 0, none⟩) [0].length 1, .slice (some ⟨b3, 0, none⟩) [1].length 1, .slice (some ⟨b4, 0, none⟩) 2 2]) 27 (0, 0)), (b1, .cells #[.slice none 0 0, .slice none 0 0] 26 (0, 0))]) rfl ?_
 replace h12 := h12.mono (iE_ok _) hF18
 replace h16 := h16.mono (iE_ok _) hF18
 have h20 : RowR 1 (iE .i64) F17 (some ⟨b4, 0, none⟩) 2 [0, 2] := RowR.of_block (iE_ok _) (vss := [[.int .i64 0], [.int .i64 2]]) (xs := [0, 2]) hz19 (.cons rfl (.cons rfl .nil)) rfl (by simp [maxLen])
 have hz22 : SlR K.w0.heap.size 27 1 (slE 1 (iE .i64)) F17 (some ⟨b5, 0, none⟩) 4 4 [[], [0], [1], [0, 2]] [(b5, .cells (#[.slice none 0 0, .slice (some ⟨b2, 0, none⟩) [0].length 1, .slice (some ⟨b3, 0, none⟩) [1].length 1, .slice (some ⟨b4, 0, none⟩) [0, 2].length 2]) 27 (0, 0))] := SlR.of_block (vss := [[.slice none 0 0], [.slice (some ⟨b2, 0, none⟩) [0].length 1], [.slice (some ⟨b3, 0, none⟩) [1].length 1], [.slice (some ⟨b4, 0, none⟩) [0, 2].length 2]]) (slE_ok (iE_ok _)) hb5 (.cons ⟨_, _, rfl, RowR.nil _ _ _⟩ (.cons ⟨_, _, rfl, h12⟩ (.cons ⟨_, _, rfl, h16⟩ (.cons ⟨_, _, rfl, h20⟩ .nil)))) rfl rfl (by simp [maxLen])
 generalize hLLb21 : ([(b5, .cells (#[.slice none 0 0, .slice (some ⟨b2, 0, none⟩) [0].length 1, .slice (some ⟨b3, 0, none⟩) [1].length 1, .slice (some ⟨b4, 0, none⟩) [0, 2].length 2]) 27 (0, 0))] : LH) = Lb21 at hz22
 refine shO_perm (L' := Lb21 ++ [(b8, .cells #[.slice (some ⟨b6, 0, none⟩) 4 4, .slice (some ⟨b7, 0, none⟩) 4 4] 40 (0, 0)), (b7, .cells #[.int .i64 0, .int .i64 0, .int .i64 2, .int .i64 0] 41 (0, 0)), (b6, .cells #[.int .i64 0, .int .i64 0, .int .i64 2, .int .i64 1] 41 (0, 0)), (b1, .cells #[.slice none 0 0, .slice none 0 0] 26 (0, 0))]) (by rw [← hLLb21]; exact (fC (fC (fC fO)))) ?_
 refine shO_perm (L' := (b8, .cells #[.slice (some ⟨b6, 0, none⟩) 4 4, .slice (some ⟨b7, 0, none⟩) 4 4] 40 (0, 0)) :: ((b7, .cells #[.int .i64 0, .int .i64 0, .int .i64 2, .int .i64 0] 41 (0, 0)) :: ((b6, .cells #[.int .i64 0, .int .i64 0, .int .i64 2, .int .i64 1] 41 (0, 0)) :: ((b1, .cells #[.slice none 0 0, .slice none 0 0] 26 (0, 0)) :: (Lb21 ++ []))))) (List.Perm.symm (fC (fC (fC (fC fP))))) ?_
 refine shO_freeze 2 rfl hb6 ?_; intro F24 hF25 hz26
 refine shO_L (L' := (b8, .cells #[.slice (some ⟨b6, 0, none⟩) 4 4, .slice (some ⟨b7, 0, none⟩) 4 4] 40 (0, 0)) :: ((b7, .cells #[.int .i64 0, .int .i64 0, .int .i64 2, .int .i64 0] 41 (0, 0)) :: ((b1, .cells #[.slice none 0 0, .slice none 0 0] 26 (0, 0)) :: (Lb21 ++ [])))) rfl ?_
 replace hz22 := hz22.mono (slE_ok (iE_ok _)) hF25
 have h27 : RowR 1 (iE .i64) F24 (some ⟨b6, 0, none⟩) 4 [0, 0, 2, 1] := RowR.of_block (iE_ok _) (vss := [[.int .i64 0], [.int .i64 0], [.int .i64 2], [.int .i64 1]]) (xs := [0, 0, 2, 1]) hz26 (.cons rfl (.cons rfl (.cons rfl (.cons rfl .nil)))) rfl (by simp [maxLen])
 refine shO_freeze 1 rfl hb7 ?_; intro F28 hF29 hz30
 refine shO_L (L' := (b8, .cells (#[.slice (some ⟨b6, 0, none⟩) [0, 0, 2, 1].length 4, .slice (some ⟨b7, 0, none⟩) 4 4]) 40 (0, 0)) :: ((b1, .cells #[.slice none 0 0, .slice none 0 0] 26 (0, 0)) :: (Lb21 ++ []))) rfl ?_
 replace h27 := h27.mono (iE_ok _) hF29
 replace hz22 := hz22.mono (slE_ok (iE_ok _)) hF29
 have h31 : RowR 1 (iE .i64) F28 (some ⟨b7, 0, none⟩) 4 [0, 0, 2, 0] := RowR.of_block (iE_ok _) (vss := [[.int .i64 0], [.int .i64 0], [.int .i64 2], [.int .i64 0]]) (xs := [0, 0, 2, 0]) hz30 (.cons rfl (.cons rfl (.cons rfl (.cons rfl .nil)))) rfl (by simp [maxLen])
 have hz33 : SlR K.w0.heap.size 40 1 (slE 1 (iE .i64)) F28 (some ⟨b8, 0, none⟩) 2 2 [[0, 0, 2, 1], [0, 0, 2, 0]] [(b8, .cells (#[.slice (some ⟨b6, 0, none⟩) [0, 0, 2, 1].length 4, .slice (some ⟨b7, 0, none⟩) [0, 0, 2, 0].length 4]) 40 (0, 0))] := SlR.of_block (vss := [[.slice (some ⟨b6, 0, none⟩) [0, 0, 2, 1].length 4], [.slice (some ⟨b7, 0, none⟩) [0, 0, 2, 0].length 4]]) (slE_ok (iE_ok _)) hb8 (.cons ⟨_, _, rfl, h27⟩ (.cons ⟨_, _, rfl, h31⟩ .nil)) rfl rfl (by simp [maxLen])
 generalize hLLb32 : ([(b8, .cells (#[.slice (some ⟨b6, 0, none⟩) [0, 0, 2, 1].length 4, .slice (some ⟨b7, 0, none⟩) [0, 0, 2, 0].length 4]) 40 (0, 0))] : LH) = Lb32 at hz33
 refine shO_perm (L' := Lb32 ++ ((b1, .cells #[.slice none 0 0, .slice none 0 0] 26 (0, 0)) :: (Lb21 ++ []))) (by rw [← hLLb32]; exact fO) ?_
 refine shO_perm (L' := (b1, .cells #[.slice none 0 0, .slice none 0 0] 26 (0, 0)) :: (Lb32 ++ (Lb21 ++ []))) (List.Perm.symm (fC fP)) ?_
 refine o_storeA (i := 0) Try.sizeOf26 rfl rfl rfl (by simp [Value.oneCell']) rfl (Nat.le_of_ble_eq_true rfl) ?_
 refine shO_L (L' := (b1, .cells #[.slice (some ⟨b5, 0, none⟩) 4 4, .slice (some ⟨b8, 0, none⟩) 2 2] 26 (0, 0)) :: (Lb32 ++ (Lb21 ++ []))) rfl ?_
 refine shO_nil ?_
 refine kW (kc (kg (fS fP) kr)) ?_
 refine shW_ret ?_
 refine q_res1 Try.results69 (res_cellA (cs := #[.slice (some ⟨b5, 0, none⟩) 4 4, .slice (some ⟨b8, 0, none⟩) 2 2]) Try.isAgg26 Try.sizeOf26 rfl (Has.own 0 rfl) (Nat.le_of_ble_eq_true rfl) rfl) (s1 (s4 (s4 sr))) ?_
 obtain ⟨rfl, rfl⟩ := inj2 hr
 exact ⟨_, _, _, _, _, _, _, _, rfl, rfl, hz22.any, hz33.any⟩
set_option maxHeartbeats 1000000 in
theorem slices_Equal_night_Verdict_night_Verdict_w {s1_a : Option Addr} {s1_c : Nat} {s1 : List Int} {s2_a : Option Addr} {s2_c : Nat} {s2 : List Int} {F : FS} (h_s1 : RowR 1 (iE .i64) F s1_a s1_c s1) (h_s2 : RowR 1 (iE .i64) F s2_a s2_c s2) {r : Bool} (hr : slices_Equal_night_Verdict_night_Verdict s1 s2 = some r) :
    SpecV Try.prog 104 #[.slice s1_a s1.length s1_c, .slice s2_a s2.length s2_c] F (.bool r) := by
 refine spec_of_shW (args := [.slice s1_a s1.length s1_c, .slice s2_a s2.length s2_c]) Try.func104 rfl Try.ntmps104 (Nat.le_of_ble_eq_true rfl) ?_
 intro K _ _; rw [slices_Equal_night_Verdict_night_Verdict] at hr
 refine wsr (oa rfl rfl (shO_nil (shW_seq (wsr (om rfl rfl ?_)))))
 refine ov (v_lenS Try.underlying80 rfl) rfl ?_
 refine om rfl rfl ?_
 refine ov (v_lenS Try.underlying80 rfl) rfl ?_
 refine ov (v_neq rfl rfl) rfl ?_
 refine shO_nil ?_
 refine shW_condP rfl (fun c1 => ?_) (fun c1 => ?_)
 · have r2 := ite_t hr c1; clear hr
   refine wsr (oa rfl rfl (shO_nil (shW_ret (andThen_ret ?_))))
   refine q_res1 Try.results104 (res_tmp rfl) (sr) ?_
   obtain rfl := inj1 r2
   exact rfl
 have r3 := ite_f hr c1; clear hr
 refine shW_skip ?_
 refine shW_join (fun e1 F1 L1 => slices_Equal_night_Verdict_night_Verdict_j1 = some r ∧ F = F1 ∧ L1 = [] ∧ e1.sub []) ?_ ?_
 · refine wsr (om rfl rfl ?_)
   refine ov (v_lenS Try.underlying80 rfl) rfl ?_
   refine om rfl rfl (shO_nil ?_)
   refine shW_block ?_
   refine shW_lp (fun fu2 e1 F1 L1 => ∃ (tl : List Int) (k : Int), tl.length = fu2 ∧ Lst s1 k tl ∧ slices_Equal_night_Verdict_night_Verdict_l2 s2 tl k = some r ∧ F = F1 ∧ L1 = [] ∧ e1.sub [(0, .slice s1_a s1.length s1_c), (1, .slice s2_a s2.length s2_c), (12, .int .i64 (s1.length : Int)), (13, .int .i64 k)]) _ (m0 kr ⟨_, _, rfl, Lst.start _, r3, rfl, rfl, (sc rfl (sc rfl (sc rfl (sc rfl (sn _)))))⟩) ?_
   rintro fu2 e1 _ _ ⟨tl, k, hn5, hk4, r6, rfl, rfl, he7⟩
   refine shW_env _ he7 ?_; clear he7
   refine wsr ?_
   refine ov (v_lssK rfl rfl) rfl ?_
   refine shO_nil (shW_seq ?_)
   refine shW_condP rfl (fun c9 => ?_) (fun c9 => ?_)
   · obtain ⟨x, tl2, rfl, hx11, g12, hk10⟩ := Lst.succ hk4 c9
     rw [slices_Equal_night_Verdict_night_Verdict_l2] at r6
     refine shW_skip (shW_seq ?_)
     refine shW_block ?_
     refine wsr (om rfl rfl (oa rfl rfl ?_))
     refine nsd (by kernel_rfl) (by kernel_rfl) (by kernel_rfl) ?_
     refine qm rfl rfl (qm rfl rfl ?_)
     obtain ⟨b13, o14, c15, vs16, ha17, hs18, hle19, rfl, hl20, hc21⟩ := RowR.at (iE_ok _) h_s1 ([]) g12.1 hx11
     refine qv (v_indexO Try.underlying80 Try.sizeOf81 rfl ha17 rfl g12) rfl ?_
     refine qv (v_load Try.isAgg81 rfl hs18 (hc21 0 (by decide))) rfl ?_
     refine qm rfl rfl (qm rfl rfl ?_)
     obtain ⟨x2, g22, hx23, r24⟩ := ix_ok r6; clear r6
     obtain ⟨b25, o26, c27, vs28, ha29, hs30, hle31, rfl, hl32, hc33⟩ := RowR.at (iE_ok _) h_s2 ([]) g22.1 hx23
     refine qv (v_indexO Try.underlying80 Try.sizeOf81 rfl ha29 rfl g22) rfl ?_
     refine qv (v_load Try.isAgg81 rfl hs30 (hc33 0 (by decide))) rfl ?_
     refine qv (v_neq rfl rfl) rfl ?_
     refine shQ_nil ?_
     refine shW_condP rfl (fun c34 => ?_) (fun c34 => ?_)
     · have r35 := ite_t r24 c34; clear r24
       refine wsr (oa rfl rfl (shO_nil (shW_ret (inBlock_ret (andThen_ret (andThen_ret (inBlock_ret (andThen_ret ?_))))))))
       refine q_res1 Try.results104 (res_tmp rfl) (sr) ?_
       obtain rfl := inj1 r35
       exact rfl
     have r36 := ite_f r24 c34; clear r24
     refine shW_skip (inBlock_n (id := 1) (shW_region ?_))
     refine ov (v_add rfl rfl (Lst.r64 hk4 c9 (RowR.lt h_s1))) rfl ?_
     refine om rfl rfl (shO_nil ?_)
     subst hn5; exact le kr ⟨_, _, rfl, hk10, r36, rfl, rfl, (sc rfl (sc rfl (sc rfl (sc rfl (sn _)))))⟩
   obtain rfl := Lst.zero hk4 c9
   rw [slices_Equal_night_Verdict_night_Verdict_l2] at r6
   refine shW_exit (andThen_exit (andThen_exit ?_))
   refine inBlock_exit ?_
   exact mi kr ⟨r6, rfl, rfl, (sn _)⟩
 rintro e1 _ _ ⟨r37, rfl, rfl, he38⟩
 refine shW_env _ he38 ?_; clear he38
 rw [slices_Equal_night_Verdict_night_Verdict_j1] at r37
 refine wsr (oa rfl rfl (shO_nil (shW_ret ?_)))
 refine q_res1 Try.results104 (res_tmp rfl) (sr) ?_
 obtain rfl := inj1 r37
 exact rfl
set_option maxHeartbeats 1000000 in
theorem oyezkit_Like_Verdict_w {a_a : Option Addr} {a_c : Nat} {a : List Int} {b_a : Option Addr} {b_c : Nat} {b : List Int} {F : FS} (h_a : RowR 1 (iE .i64) F a_a a_c a) (h_b : RowR 1 (iE .i64) F b_a b_c b) {r : Bool} (hr : oyezkit_Like_Verdict a b = some r) :
    SpecV Try.prog 70 #[.slice a_a a.length a_c, .slice b_a b.length b_c] F (.bool r) := by
 refine spec_of_shW (args := [.slice a_a a.length a_c, .slice b_a b.length b_c]) Try.func70 rfl Try.ntmps70 (Nat.le_of_ble_eq_true rfl) ?_
 intro K _ _; rw [oyezkit_Like_Verdict] at hr
 refine wsr (oa rfl rfl (nsr (om rfl rfl (om rfl rfl ?_))))
 obtain ⟨ok, h1, r2⟩ := b1_ok hr; clear hr
 refine o_callV rfl Try.call104 rfl rfl rfl (slices_Equal_night_Verdict_night_Verdict_w h_a h_b h1) ?_
 refine oa rfl rfl (shO_nil (shW_ret ?_))
 refine q_res1 Try.results70 (res_tmp rfl) (sr) ?_
 obtain rfl := inj1 r2
 exact rfl
set_option maxHeartbeats 1000000 in
theorem oyezlaw05_awake_w {F : FS} {r : Bool} (hr : oyezlaw05_awake = some r) :
    SpecV Try.prog 18 #[] F (.bool r) := by
 refine spec_of_shW (args := []) Try.func18 rfl Try.ntmps18 (Nat.le_of_ble_eq_true rfl) ?_
 intro K _ _; rw [oyezlaw05_awake] at hr
 refine wsr (oa rfl rfl (nsr ?_))
 obtain ⟨l, l2, h1, r2⟩ := b2_ok hr; clear hr
 refine o_call0 rfl Try.call69 rfl rfl rfl (oyezlaw05_Four_w h1) ?_; rintro _ F3 _ hF4 hn5 ⟨a7, n11, c8, Lb9, a13, n17, c14, Lb15, rfl, rfl, hz10, hz16⟩
 replace hz10 := hz10.new fun p hp => hn5 p (by simp [hp])
 replace hz16 := hz16.new fun p hp => hn5 p (by simp [hp])
 refine shO_L (lp (lp (ln rfl))) ?_
 obtain ⟨n, n2, h19, r20⟩ := b2_ok r2; clear r2
 refine o_callT (Lt := Lb9 ++ (Lb15 ++ [])) (Lr := []) rfl Try.call20 rfl rfl rfl (pT pR (lp (lp (ln rfl)))) (fun F2 h2 h3 => by rw [(SlR.caps hz10).1]; rw [(SlR.caps hz16).1]; exact night_Cries_w (hz10.row (slE_ok (iE_ok _)) h2 (fun p hp => h3 p (List.mem_append_left _ hp))) (hz16.row (slE_ok (iE_ok _)) h2 (fun p hp => h3 p (List.mem_append_right _ (List.mem_append_left _ hp)))) h19) ?_
 refine om rfl rfl (ox rfl rfl rfl (ox rfl rfl rfl (oa rfl rfl (oa rfl rfl (nsr ?_)))))
 obtain ⟨l3, l4, h21, r22⟩ := b2_ok r20; clear r20
 refine o_call0 rfl Try.call69 rfl rfl rfl (oyezlaw05_Four_w h21) ?_; rintro _ F23 _ hF24 hn25 ⟨a27, n31, c28, Lb29, a33, n37, c34, Lb35, rfl, rfl, hz30, hz36⟩
 replace hz30 := hz30.new fun p hp => hn25 p (by simp [hp])
 replace hz36 := hz36.new fun p hp => hn25 p (by simp [hp])
 refine shO_L (lp (lp (ln rfl))) ?_
 obtain ⟨l5, n3, n4, h39, r40⟩ := b3_ok r22; clear r22
 refine o_callTO (Lb := []) (Lt := Lb29 ++ (Lb35 ++ [])) (Lr := Lb9 ++ (Lb15 ++ [])) rfl Try.call14 rfl rfl rfl (pT pR (ln (lp (lp (ln rfl))))) (fun F2 h2 h3 => by rw [(SlR.caps hz30).1]; rw [(SlR.caps hz36).1]; exact night_Fewest_w (hz30.row (slE_ok (iE_ok _)) h2 (fun p hp => h3 p (List.mem_append_left _ hp))) (hz36.row (slE_ok (iE_ok _)) h2 (fun p hp => h3 p (List.mem_append_right _ (List.mem_append_left _ hp)))) h39) (fun _ _ _ _ hq => by obtain ⟨a45, n49, c46, Lb47, rfl, rfl, hz48⟩ := hq; exact ⟨_, _, _, _, rfl, rfl, hz48.flat (fun _ _ h => h)⟩) ?_; rintro _ F41 _ hF42 hd44 hn43 ⟨a45, n49, c46, Lb47, rfl, rfl, hz48⟩
 have hn51 := newp (Lb' := []) (by rfl) hd44 hn43
 replace hz48 := hz48.new fun p hp => hn51 p (by simp [hp])
 refine shO_L (lp (ln (lp (lp (ln rfl))))) ?_
 refine om rfl rfl (ox rfl rfl rfl (ox rfl rfl rfl (ox rfl rfl rfl (oa rfl rfl (oa rfl rfl (oa rfl rfl (nsr ?_)))))))
 obtain ⟨l6, l7, h52, r53⟩ := b2_ok r40; clear r40
 refine o_call0 rfl Try.call69 rfl rfl rfl (oyezlaw05_Four_w h52) ?_; rintro _ F54 _ hF55 hn56 ⟨a58, n62, c59, Lb60, a64, n68, c65, Lb66, rfl, rfl, hz61, hz67⟩
 replace hz48 := hz48.mono (iE_ok _) hF55
 replace hz61 := hz61.new fun p hp => hn56 p (by simp [hp])
 replace hz67 := hz67.new fun p hp => hn56 p (by simp [hp])
 refine shO_L (lp (lp (ln rfl))) ?_
 obtain ⟨n5, n6, h70, r71⟩ := b2_ok r53; clear r53
 refine o_callT (Lt := Lb60 ++ (Lb66 ++ [])) (Lr := Lb47 ++ (Lb29 ++ (Lb35 ++ (Lb9 ++ (Lb15 ++ []))))) rfl Try.call25 rfl rfl rfl (pT pR (lp (lp (ln rfl)))) (fun F2 h2 h3 => by rw [(SlR.caps hz61).1]; rw [(SlR.caps hz67).1]; exact night_Count_w (hz61.row (slE_ok (iE_ok _)) h2 (fun p hp => h3 p (List.mem_append_left _ hp))) (hz67.row (slE_ok (iE_ok _)) h2 (fun p hp => h3 p (List.mem_append_right _ (List.mem_append_left _ hp)))) h70) ?_
 refine om rfl rfl (ox rfl rfl rfl (ox rfl rfl rfl (oa rfl rfl (oa rfl rfl (nsr ?_)))))
 obtain ⟨l8, l9, h72, r73⟩ := b2_ok r71; clear r71
 refine o_call0 rfl Try.call69 rfl rfl rfl (oyezlaw05_Four_w h72) ?_; rintro _ F74 _ hF75 hn76 ⟨a78, n82, c79, Lb80, a84, n88, c85, Lb86, rfl, rfl, hz81, hz87⟩
 replace hz48 := hz48.mono (iE_ok _) hF75
 replace hz81 := hz81.new fun p hp => hn76 p (by simp [hp])
 replace hz87 := hz87.new fun p hp => hn76 p (by simp [hp])
 refine shO_L (lp (lp (ln rfl))) ?_
 obtain ⟨n7, n8, h90, r91⟩ := b2_ok r73; clear r73
 refine o_callT (Lt := Lb80 ++ (Lb86 ++ [])) (Lr := Lb60 ++ (Lb66 ++ (Lb47 ++ (Lb29 ++ (Lb35 ++ (Lb9 ++ (Lb15 ++ []))))))) rfl Try.call26 rfl rfl rfl (pT pR (lp (lp (ln rfl)))) (fun F2 h2 h3 => by rw [(SlR.caps hz81).1]; rw [(SlR.caps hz87).1]; exact night_Ways_w (hz81.row (slE_ok (iE_ok _)) h2 (fun p hp => h3 p (List.mem_append_left _ hp))) (hz87.row (slE_ok (iE_ok _)) h2 (fun p hp => h3 p (List.mem_append_right _ (List.mem_append_left _ hp)))) h90) ?_
 refine om rfl rfl (ox rfl rfl rfl (ox rfl rfl rfl (oa rfl rfl (oa rfl rfl (shO_nil (shW_seq ?_))))))
 obtain ⟨k, h92, r93⟩ := b1_ok r91; clear r91
 refine shW_join (fun e1 F1 L1 => FExt F74 F1 ∧ L1 = [] ∧ e1.sub [(71, .bool k)]) ?_ ?_
 · clear r93
   refine shW_region (om rfl rfl ?_)
   refine ov (v_neq rfl rfl) rfl ?_
   refine om rfl rfl ?_
   by_cases c94 : n2 ≠ 0
   · have r95 := ite_t h92 c94; clear h92
     refine shO_off (b' := true) 38 rfl (Env.isT rfl c94) rfl rfl (shO_off (b' := true) 38 rfl (Env.isT rfl c94) rfl rfl ?_)
     refine ov (v_pick_t (evD_true rfl c94) rfl) rfl ?_
     refine om rfl rfl (shO_off (b' := true) 42 rfl rfl rfl rfl (shO_off (b' := true) 42 rfl rfl rfl rfl ?_))
     refine ov (v_pick_t rfl rfl) rfl ?_
     refine om rfl rfl (shO_off (b' := true) 46 rfl rfl rfl rfl (shO_off (b' := true) 46 rfl rfl rfl rfl ?_))
     refine ov (v_pick_t rfl rfl) rfl ?_
     refine om rfl rfl (shO_off (b' := true) 50 rfl rfl rfl rfl (shO_off (b' := true) 50 rfl rfl rfl rfl ?_))
     refine ov (v_pick_t rfl rfl) rfl ?_
     refine om rfl rfl (shO_off (b' := true) 54 rfl rfl rfl rfl (shO_off (b' := true) 54 rfl rfl rfl rfl ?_))
     refine ov (v_pick_t rfl rfl) rfl ?_
     refine om rfl rfl (shO_off (b' := true) 58 rfl rfl rfl rfl (shO_off (b' := true) 58 rfl rfl rfl rfl (shO_off (b' := true) 58 rfl rfl rfl rfl (shO_off (b' := true) 58 rfl rfl rfl rfl ?_))))
     refine ov (v_pick_t rfl rfl) rfl ?_
     refine om rfl rfl (shO_off (b' := true) 64 rfl rfl rfl rfl (shO_off (b' := true) 64 rfl rfl rfl rfl ?_))
     refine ov (v_pick_t rfl rfl) rfl ?_
     refine om rfl rfl (shO_off (b' := true) 68 rfl rfl rfl rfl (shO_off (b' := true) 68 rfl rfl rfl rfl ?_))
     refine ov (v_pick_t rfl rfl) rfl ?_
     refine shO_nil ?_
     obtain rfl := inj1 r95
     exact mi kn ⟨FExt.refl _, rfl, (sc rfl (sn _))⟩
   have r96 := ite_f h92 c94; clear h92
   refine shO_on (b := false) 38 rfl (Env.isF rfl c94) (om rfl rfl (shO_on (b := false) 38 rfl (Env.isF rfl c94) ?_))
   refine ov (v_neq rfl rfl) rfl ?_
   refine ov (v_pick_f (evD_false rfl c94) rfl) rfl ?_
   refine om rfl rfl ?_
   by_cases c97 : n4 ≠ 0
   · have r98 := ite_t r96 c97; clear r96
     refine shO_off (b' := true) 42 rfl (Env.isT rfl c97) rfl rfl (shO_off (b' := true) 42 rfl (Env.isT rfl c97) rfl rfl ?_)
     refine ov (v_pick_t (evD_true rfl c97) rfl) rfl ?_
     refine om rfl rfl (shO_off (b' := true) 46 rfl rfl rfl rfl (shO_off (b' := true) 46 rfl rfl rfl rfl ?_))
     refine ov (v_pick_t rfl rfl) rfl ?_
     refine om rfl rfl (shO_off (b' := true) 50 rfl rfl rfl rfl (shO_off (b' := true) 50 rfl rfl rfl rfl ?_))
     refine ov (v_pick_t rfl rfl) rfl ?_
     refine om rfl rfl (shO_off (b' := true) 54 rfl rfl rfl rfl (shO_off (b' := true) 54 rfl rfl rfl rfl ?_))
     refine ov (v_pick_t rfl rfl) rfl ?_
     refine om rfl rfl (shO_off (b' := true) 58 rfl rfl rfl rfl (shO_off (b' := true) 58 rfl rfl rfl rfl (shO_off (b' := true) 58 rfl rfl rfl rfl (shO_off (b' := true) 58 rfl rfl rfl rfl ?_))))
     refine ov (v_pick_t rfl rfl) rfl ?_
     refine om rfl rfl (shO_off (b' := true) 64 rfl rfl rfl rfl (shO_off (b' := true) 64 rfl rfl rfl rfl ?_))
     refine ov (v_pick_t rfl rfl) rfl ?_
     refine om rfl rfl (shO_off (b' := true) 68 rfl rfl rfl rfl (shO_off (b' := true) 68 rfl rfl rfl rfl ?_))
     refine ov (v_pick_t rfl rfl) rfl ?_
     refine shO_nil ?_
     obtain rfl := inj1 r98
     exact mi kn ⟨FExt.refl _, rfl, (sc rfl (sn _))⟩
   have r99 := ite_f r96 c97; clear r96
   refine shO_on (b := false) 42 rfl (Env.isF rfl c97) (om rfl rfl (shO_on (b := false) 42 rfl (Env.isF rfl c97) ?_))
   refine ov (v_neq rfl rfl) rfl ?_
   refine ov (v_pick_f (evD_false rfl c97) rfl) rfl ?_
   refine om rfl rfl ?_
   by_cases c100 : n6 ≠ 0
   · have r101 := ite_t r99 c100; clear r99
     refine shO_off (b' := true) 46 rfl (Env.isT rfl c100) rfl rfl (shO_off (b' := true) 46 rfl (Env.isT rfl c100) rfl rfl ?_)
     refine ov (v_pick_t (evD_true rfl c100) rfl) rfl ?_
     refine om rfl rfl (shO_off (b' := true) 50 rfl rfl rfl rfl (shO_off (b' := true) 50 rfl rfl rfl rfl ?_))
     refine ov (v_pick_t rfl rfl) rfl ?_
     refine om rfl rfl (shO_off (b' := true) 54 rfl rfl rfl rfl (shO_off (b' := true) 54 rfl rfl rfl rfl ?_))
     refine ov (v_pick_t rfl rfl) rfl ?_
     refine om rfl rfl (shO_off (b' := true) 58 rfl rfl rfl rfl (shO_off (b' := true) 58 rfl rfl rfl rfl (shO_off (b' := true) 58 rfl rfl rfl rfl (shO_off (b' := true) 58 rfl rfl rfl rfl ?_))))
     refine ov (v_pick_t rfl rfl) rfl ?_
     refine om rfl rfl (shO_off (b' := true) 64 rfl rfl rfl rfl (shO_off (b' := true) 64 rfl rfl rfl rfl ?_))
     refine ov (v_pick_t rfl rfl) rfl ?_
     refine om rfl rfl (shO_off (b' := true) 68 rfl rfl rfl rfl (shO_off (b' := true) 68 rfl rfl rfl rfl ?_))
     refine ov (v_pick_t rfl rfl) rfl ?_
     refine shO_nil ?_
     obtain rfl := inj1 r101
     exact mi kn ⟨FExt.refl _, rfl, (sc rfl (sn _))⟩
   have r102 := ite_f r99 c100; clear r99
   refine shO_on (b := false) 46 rfl (Env.isF rfl c100) (om rfl rfl (shO_on (b := false) 46 rfl (Env.isF rfl c100) ?_))
   refine ov (v_neq rfl rfl) rfl ?_
   refine ov (v_pick_f (evD_false rfl c100) rfl) rfl ?_
   refine om rfl rfl ?_
   by_cases c103 : n8 ≠ 0
   · have r104 := ite_t r102 c103; clear r102
     refine shO_off (b' := true) 50 rfl (Env.isT rfl c103) rfl rfl (shO_off (b' := true) 50 rfl (Env.isT rfl c103) rfl rfl ?_)
     refine ov (v_pick_t (evD_true rfl c103) rfl) rfl ?_
     refine om rfl rfl (shO_off (b' := true) 54 rfl rfl rfl rfl (shO_off (b' := true) 54 rfl rfl rfl rfl ?_))
     refine ov (v_pick_t rfl rfl) rfl ?_
     refine om rfl rfl (shO_off (b' := true) 58 rfl rfl rfl rfl (shO_off (b' := true) 58 rfl rfl rfl rfl (shO_off (b' := true) 58 rfl rfl rfl rfl (shO_off (b' := true) 58 rfl rfl rfl rfl ?_))))
     refine ov (v_pick_t rfl rfl) rfl ?_
     refine om rfl rfl (shO_off (b' := true) 64 rfl rfl rfl rfl (shO_off (b' := true) 64 rfl rfl rfl rfl ?_))
     refine ov (v_pick_t rfl rfl) rfl ?_
     refine om rfl rfl (shO_off (b' := true) 68 rfl rfl rfl rfl (shO_off (b' := true) 68 rfl rfl rfl rfl ?_))
     refine ov (v_pick_t rfl rfl) rfl ?_
     refine shO_nil ?_
     obtain rfl := inj1 r104
     exact mi kn ⟨FExt.refl _, rfl, (sc rfl (sn _))⟩
   have r105 := ite_f r102 c103; clear r102
   refine shO_on (b := false) 50 rfl (Env.isF rfl c103) (om rfl rfl (shO_on (b := false) 50 rfl (Env.isF rfl c103) ?_))
   refine ov (v_neq rfl rfl) rfl ?_
   refine ov (v_pick_f (evD_false rfl c103) rfl) rfl ?_
   refine om rfl rfl ?_
   by_cases c106 : n ≠ 9
   · have r107 := ite_t r105 c106; clear r105
     refine shO_off (b' := true) 54 rfl (Env.isT rfl c106) rfl rfl (shO_off (b' := true) 54 rfl (Env.isT rfl c106) rfl rfl ?_)
     refine ov (v_pick_t (evD_true rfl c106) rfl) rfl ?_
     refine om rfl rfl (shO_off (b' := true) 58 rfl rfl rfl rfl (shO_off (b' := true) 58 rfl rfl rfl rfl (shO_off (b' := true) 58 rfl rfl rfl rfl (shO_off (b' := true) 58 rfl rfl rfl rfl ?_))))
     refine ov (v_pick_t rfl rfl) rfl ?_
     refine om rfl rfl (shO_off (b' := true) 64 rfl rfl rfl rfl (shO_off (b' := true) 64 rfl rfl rfl rfl ?_))
     refine ov (v_pick_t rfl rfl) rfl ?_
     refine om rfl rfl (shO_off (b' := true) 68 rfl rfl rfl rfl (shO_off (b' := true) 68 rfl rfl rfl rfl ?_))
     refine ov (v_pick_t rfl rfl) rfl ?_
     refine shO_nil ?_
     obtain rfl := inj1 r107
     exact mi kn ⟨FExt.refl _, rfl, (sc rfl (sn _))⟩
   have r108 := ite_f r105 c106; clear r105
   refine shO_on (b := false) 54 rfl (Env.isF rfl c106) (om rfl rfl (shO_on (b := false) 54 rfl (Env.isF rfl c106) ?_))
   refine ov (v_neq rfl rfl) rfl ?_
   refine ov (v_pick_f (evD_false rfl c106) rfl) rfl ?_
   refine om rfl rfl ?_
   by_cases c109 : n3 ≠ 1
   · have r110 := ite_t r108 c109; clear r108
     refine shO_off (b' := true) 58 rfl (Env.isT rfl c109) rfl rfl (shO_off (b' := true) 58 rfl (Env.isT rfl c109) rfl rfl (shO_off (b' := true) 58 rfl (Env.isT rfl c109) rfl rfl (shO_off (b' := true) 58 rfl (Env.isT rfl c109) rfl rfl ?_)))
     refine ov (v_pick_t (evD_true rfl c109) rfl) rfl ?_
     refine om rfl rfl (shO_off (b' := true) 64 rfl rfl rfl rfl (shO_off (b' := true) 64 rfl rfl rfl rfl ?_))
     refine ov (v_pick_t rfl rfl) rfl ?_
     refine om rfl rfl (shO_off (b' := true) 68 rfl rfl rfl rfl (shO_off (b' := true) 68 rfl rfl rfl rfl ?_))
     refine ov (v_pick_t rfl rfl) rfl ?_
     refine shO_nil ?_
     obtain rfl := inj1 r110
     exact mi kn ⟨FExt.refl _, rfl, (sc rfl (sn _))⟩
   have r111 := ite_f r108 c109; clear r108
   refine shO_on (b := false) 58 rfl (Env.isF rfl c109) (om rfl rfl (shO_on (b := false) 58 rfl (Env.isF rfl c109) ?_))
   refine o_buildSlice (cs := #[.int .i64 2, .int .i64 2]) rfl rfl (buildSlice_all slt_27 [.int .i64 2, .int .i64 2] rfl (by decide) (by simp [Value.cells]) (by decide)) ?_; intro b112 hb112
   refine shO_on (b := false) 58 rfl (Env.isF rfl c109) ?_
   refine shO_freeze 0 rfl hb112 ?_; intro F113 hF114 hz115
   refine shO_L (L' := Lb80 ++ (Lb86 ++ (Lb60 ++ (Lb66 ++ (Lb47 ++ (Lb29 ++ (Lb35 ++ (Lb9 ++ (Lb15 ++ []))))))))) rfl ?_
   replace hz48 := hz48.mono (iE_ok _) hF114
   have h116 : RowR 1 (iE .i64) F113 (some ⟨b112, 0, none⟩) 2 [2, 2] := RowR.of_block (iE_ok _) (vss := [[.int .i64 2], [.int .i64 2]]) (xs := [2, 2]) hz115 (.cons rfl (.cons rfl .nil)) rfl (by simp [maxLen])
   obtain ⟨ok, h117, r118⟩ := b1_ok r111; clear r111
   refine o_callT (Lt := Lb47 ++ []) (Lr := Lb80 ++ (Lb86 ++ (Lb60 ++ (Lb66 ++ (Lb29 ++ (Lb35 ++ (Lb9 ++ (Lb15 ++ [])))))))) rfl Try.call28 rfl rfl rfl (pT ((fS (fS (fS (fS fP)))).trans (pA pR)) (lp (ln rfl))) (fun F2 h2 h3 => by rw [(SlR.caps hz48).1]; exact oyezkit_Like_int_w (hz48.row (iE_ok _) h2 (fun p hp => h3 p (List.mem_append_left _ hp))) (h116.mono (iE_ok _) h2) h117) ?_
   refine shO_on (b := false) 58 rfl (Env.isF rfl c109) ?_
   refine ov (v_notB rfl) rfl ?_
   refine ov (v_pick_f (evD_false rfl c109) rfl) rfl ?_
   refine om rfl rfl ?_
   rcases bool_two (!ok) with c119 | c119
   · have r120 := bt r118 c119; clear r118
     refine shO_off (b' := true) 64 rfl (EnvB rfl c119) rfl rfl (shO_off (b' := true) 64 rfl (EnvB rfl c119) rfl rfl ?_)
     refine ov (v_pick_t (evB rfl c119) rfl) rfl ?_
     refine om rfl rfl (shO_off (b' := true) 68 rfl rfl rfl rfl (shO_off (b' := true) 68 rfl rfl rfl rfl ?_))
     refine ov (v_pick_t rfl rfl) rfl ?_
     refine shO_nil ?_
     obtain rfl := inj1 r120
     exact mi kn ⟨hF114, rfl, (sc rfl (sn _))⟩
   have r121 := bf r118 c119; clear r118
   refine shO_on (b := false) 64 rfl (EnvB rfl c119) (om rfl rfl (shO_on (b := false) 64 rfl (EnvB rfl c119) ?_))
   refine ov (v_neq rfl rfl) rfl ?_
   refine ov (v_pick_f (evB rfl c119) rfl) rfl ?_
   refine om rfl rfl ?_
   by_cases c122 : n5 ≠ 42
   · have r123 := ite_t r121 c122; clear r121
     refine shO_off (b' := true) 68 rfl (Env.isT rfl c122) rfl rfl (shO_off (b' := true) 68 rfl (Env.isT rfl c122) rfl rfl ?_)
     refine ov (v_pick_t (evD_true rfl c122) rfl) rfl ?_
     refine shO_nil ?_
     obtain rfl := inj1 r123
     exact mi kn ⟨hF114, rfl, (sc rfl (sn _))⟩
   have r124 := ite_f r121 c122; clear r121
   refine shO_on (b := false) 68 rfl (Env.isF rfl c122) (om rfl rfl (shO_on (b := false) 68 rfl (Env.isF rfl c122) ?_))
   refine ov (v_neq rfl rfl) rfl ?_
   refine ov (v_pick_f (evD_false rfl c122) rfl) rfl ?_
   refine shO_nil ?_
   obtain rfl := inj1 r124
   exact mi kn ⟨hF114, rfl, (sc rfl (sn _))⟩
 rintro e1 F126 _ ⟨hF127, rfl, he125⟩
 refine shW_env _ he125 ?_; clear he125
 refine shW_cond rfl (fun c128 => ?_) (fun c128 => ?_)
 · have r129 := bt r93 c128; clear r93
   refine wsr (oa rfl rfl (shO_nil (shW_ret (andThen_ret ?_))))
   refine q_res1 Try.results18 (res_tmp rfl) (sr) ?_
   obtain rfl := inj1 r129
   exact rfl
 have r130 := bf r93 c128; clear r93
 refine shW_skip (wsr ?_)
 obtain ⟨l10, l11, h131, r132⟩ := b2_ok r130; clear r130
 refine o_call0 rfl Try.call69 rfl rfl rfl (oyezlaw05_Four_w h131) ?_; rintro _ F133 _ hF134 hn135 ⟨a137, n141, c138, Lb139, a143, n147, c144, Lb145, rfl, rfl, hz140, hz146⟩
 replace hz140 := hz140.new fun p hp => hn135 p (by simp [hp])
 replace hz146 := hz146.new fun p hp => hn135 p (by simp [hp])
 refine shO_L (lp (lp (ln rfl))) ?_
 obtain rfl := (SlR.caps hz140).1
 refine shO_freezeR (Nat.le_refl _) (slE_ok (iE_ok _)) fP hz140 ?_; intro F149 hF150 h151
 replace hz146 := hz146.mono (slE_ok (iE_ok _)) hF150
 obtain rfl := (SlR.caps hz146).1
 refine shO_freezeR (Nat.le_refl _) (slE_ok (iE_ok _)) fP hz146 ?_; intro F152 hF153 h154
 replace h151 := h151.mono (slE_ok (iE_ok _)) hF153
 obtain ⟨l12, n9, h155, r156⟩ := b2_ok r132; clear r132
 refine o_call0 rfl Try.call36 rfl rfl rfl (night_Verdicts_w h151 h154 h155) ?_; rintro _ F157 _ hF158 hn159 ⟨a161, n165, c162, Lb163, rfl, rfl, hz164⟩
 replace hz164 := hz164.new fun p hp => hn159 p (by simp [hp])
 refine shO_L (lp (ln rfl)) ?_
 refine om rfl rfl (ox rfl rfl rfl (ox rfl rfl rfl (oa rfl rfl (oa rfl rfl (nsr ?_)))))
 obtain ⟨l13, l14, h167, r168⟩ := b2_ok r156; clear r156
 refine o_call0 rfl Try.call69 rfl rfl rfl (oyezlaw05_Four_w h167) ?_; rintro _ F169 _ hF170 hn171 ⟨a173, n177, c174, Lb175, a179, n183, c180, Lb181, rfl, rfl, hz176, hz182⟩
 replace hz164 := hz164.mono (slE_ok (iE_ok _)) hF170
 replace hz176 := hz176.new fun p hp => hn171 p (by simp [hp])
 replace hz182 := hz182.new fun p hp => hn171 p (by simp [hp])
 refine shO_L (lp (lp (ln rfl))) ?_
 obtain rfl := (SlR.caps hz176).1
 refine shO_freezeR (Nat.le_refl _) (slE_ok (iE_ok _)) fP hz176 ?_; intro F185 hF186 h187
 replace hz164 := hz164.mono (slE_ok (iE_ok _)) hF186
 replace hz182 := hz182.mono (slE_ok (iE_ok _)) hF186
 obtain rfl := (SlR.caps hz182).1
 refine shO_freezeR (Nat.le_refl _) (slE_ok (iE_ok _)) fP hz182 ?_; intro F188 hF189 h190
 replace h187 := h187.mono (slE_ok (iE_ok _)) hF189
 replace hz164 := hz164.mono (slE_ok (iE_ok _)) hF189
 obtain ⟨l15, n10, h191, r192⟩ := b2_ok r168; clear r168
 refine o_call0 rfl Try.call17 rfl rfl rfl (night_Men_w h187 h190 h191) ?_; rintro _ F193 _ hF194 hn195 ⟨a197, c198, rfl, rfl, h199⟩
 replace hz164 := hz164.mono (slE_ok (iE_ok _)) hF194
 refine shO_L (ln rfl) ?_
 refine om rfl rfl (ox rfl rfl rfl (ox rfl rfl rfl (oa rfl rfl (oa rfl rfl (nsr ?_)))))
 obtain ⟨l16, l17, h200, r201⟩ := b2_ok r192; clear r192
 refine o_call0 rfl Try.call69 rfl rfl rfl (oyezlaw05_Four_w h200) ?_; rintro _ F202 _ hF203 hn204 ⟨a206, n210, c207, Lb208, a212, n216, c213, Lb214, rfl, rfl, hz209, hz215⟩
 replace h199 := h199.mono (iE_ok _) hF203
 replace hz164 := hz164.mono (slE_ok (iE_ok _)) hF203
 replace hz209 := hz209.new fun p hp => hn204 p (by simp [hp])
 replace hz215 := hz215.new fun p hp => hn204 p (by simp [hp])
 refine shO_L (lp (lp (ln rfl))) ?_
 refine ov (v_build (v := .agg #[.int .i64 0, .int .i64 1]) rfl (by intro w; kernel_rfl)) rfl ?_
 obtain ⟨n11, n12, n13, h218, r219⟩ := b3_ok r201; clear r201
 refine o_callT (Lt := Lb208 ++ (Lb214 ++ [])) (Lr := Lb163 ++ []) rfl Try.call30 rfl rfl rfl (pT pR (lp (lp (ln rfl)))) (fun F2 h2 h3 => by rw [(SlR.caps hz209).1]; rw [(SlR.caps hz215).1]; exact night_Split_w (hz209.row (slE_ok (iE_ok _)) h2 (fun p hp => h3 p (List.mem_append_left _ hp))) (hz215.row (slE_ok (iE_ok _)) h2 (fun p hp => h3 p (List.mem_append_right _ (List.mem_append_left _ hp)))) h218) ?_
 refine om rfl rfl (ox rfl rfl rfl (ox rfl rfl rfl (ox rfl rfl rfl (oa rfl rfl (oa rfl rfl (oa rfl rfl (nsr ?_)))))))
 obtain ⟨l18, l19, h220, r221⟩ := b2_ok r219; clear r219
 refine o_call0 rfl Try.call69 rfl rfl rfl (oyezlaw05_Four_w h220) ?_; rintro _ F222 _ hF223 hn224 ⟨a226, n230, c227, Lb228, a232, n236, c233, Lb234, rfl, rfl, hz229, hz235⟩
 replace h199 := h199.mono (iE_ok _) hF223
 replace hz164 := hz164.mono (slE_ok (iE_ok _)) hF223
 replace hz229 := hz229.new fun p hp => hn224 p (by simp [hp])
 replace hz235 := hz235.new fun p hp => hn224 p (by simp [hp])
 refine shO_L (lp (lp (ln rfl))) ?_
 obtain ⟨n14, n15, n16, h238, r239⟩ := b3_ok r221; clear r221
 refine o_callT (Lt := Lb228 ++ (Lb234 ++ [])) (Lr := Lb208 ++ (Lb214 ++ (Lb163 ++ []))) rfl Try.call15 rfl rfl rfl (pT pR (lp (lp (ln rfl)))) (fun F2 h2 h3 => by rw [(SlR.caps hz229).1]; rw [(SlR.caps hz235).1]; exact night_Most_w (hz229.row (slE_ok (iE_ok _)) h2 (fun p hp => h3 p (List.mem_append_left _ hp))) (hz235.row (slE_ok (iE_ok _)) h2 (fun p hp => h3 p (List.mem_append_right _ (List.mem_append_left _ hp)))) h238) ?_
 refine om rfl rfl (ox rfl rfl rfl (ox rfl rfl rfl ?_))
 refine o_alloc rfl Try.zeroValue36 ?_; intro b240 hb240
 refine o_storeA (i := 0) Try.sizeOf36 rfl rfl rfl (by simp [Value.oneCell']) rfl (Nat.le_of_ble_eq_true rfl) ?_
 refine shO_L (L' := (b240, .cells #[.int .i64 n14, .int .i64 n15] 36 (0, 0)) :: (Lb228 ++ (Lb234 ++ (Lb208 ++ (Lb214 ++ (Lb163 ++ [])))))) rfl ?_
 refine oa rfl rfl (nsr (om rfl rfl ?_))
 refine ov (v_eql rfl rfl) rfl ?_
 refine om rfl rfl ?_
 by_cases c241 : n9 = 0
 · have r242 := ite_t r239 c241; clear r239
   refine shO_on (b := true) 96 rfl (Env.isT rfl c241) (om rfl rfl (shO_on (b := true) 96 rfl (Env.isT rfl c241) ?_))
   refine ov (v_eql rfl rfl) rfl ?_
   refine ov (v_pick_t (evD_true rfl c241) rfl) rfl ?_
   refine om rfl rfl ?_
   by_cases c243 : n10 = 0
   · have r244 := ite_t r242 c243; clear r242
     refine shO_on (b := true) 100 rfl (Env.isT rfl c243) (om rfl rfl (shO_on (b := true) 100 rfl (Env.isT rfl c243) ?_))
     refine ov (v_eql rfl rfl) rfl ?_
     refine ov (v_pick_t (evD_true rfl c243) rfl) rfl ?_
     refine om rfl rfl ?_
     by_cases c245 : n13 = 0
     · have r246 := ite_t r244 c245; clear r244
       refine shO_on (b := true) 104 rfl (Env.isT rfl c245) (om rfl rfl (shO_on (b := true) 104 rfl (Env.isT rfl c245) ?_))
       refine ov (v_eql rfl rfl) rfl ?_
       refine ov (v_pick_t (evD_true rfl c245) rfl) rfl ?_
       refine om rfl rfl ?_
       by_cases c247 : n16 = 0
       · have r248 := ite_t r246 c247; clear r246
         refine shO_on (b := true) 108 rfl (Env.isT rfl c247) (om rfl rfl (shO_on (b := true) 108 rfl (Env.isT rfl c247) ?_))
         refine ov ((v_lenS Try.underlying71 rfl).i (SlR.lenI hz164)) rfl ?_
         refine shO_on (b := true) 108 rfl (Env.isT rfl c247) ?_
         refine ov (v_eql rfl rfl) rfl ?_
         refine ov (v_pick_t (evD_true rfl c247) rfl) rfl ?_
         refine om rfl rfl ?_
         by_cases c249 : (l12.length : Int) = 2
         · have r250 := ite_t r248 c249; clear r248
           refine shO_on (b := true) 113 rfl (Env.isT rfl c249) (om rfl rfl (shO_on (b := true) 113 rfl (Env.isT rfl c249) ?_))
           obtain ⟨x, g251, hx252, r253⟩ := ix_ok r250; clear r250
           obtain ⟨b254, o255, c256, vs257, ha258, hs259, hle260, ⟨a263, c264, rfl, h265⟩, hl261, hc262⟩ := SlR.at (slE_ok (iE_ok _)) hz164 (L := (b240, .cells #[.int .i64 n14, .int .i64 n15] 36 (0, 0)) :: (Lb228 ++ (Lb234 ++ (Lb208 ++ (Lb214 ++ (Lb163 ++ [])))))) (fC (fS (fS (fS (fS fP))))) g251.1 hx252
           refine ov (v_indexO Try.underlying71 Try.sizeOf80 rfl ha258 rfl (SlR.idx hz164 g251)) rfl ?_
           refine shO_on (b := true) 113 rfl (Env.isT rfl c249) ?_
           refine ov (v_load Try.isAgg80 rfl hs259 (hc262 0 (by decide))) rfl ?_
           refine shO_on (b := true) 113 rfl (Env.isT rfl c249) ?_
           refine o_buildSlice (cs := #[.int .i64 2, .int .i64 0, .int .i64 0, .int .i64 2]) rfl rfl (buildSlice_all slt_80 [.int .i64 2, .int .i64 0, .int .i64 0, .int .i64 2] rfl (by decide) (by simp [Value.cells]) (by decide)) ?_; intro b266 hb266
           refine shO_on (b := true) 113 rfl (Env.isT rfl c249) ?_
           refine shO_freeze 0 rfl hb266 ?_; intro F267 hF268 hz269
           refine shO_L (L' := (b240, .cells #[.int .i64 n14, .int .i64 n15] 36 (0, 0)) :: (Lb228 ++ (Lb234 ++ (Lb208 ++ (Lb214 ++ (Lb163 ++ [])))))) rfl ?_
           replace h199 := h199.mono (iE_ok _) hF268
           replace h265 := h265.mono (iE_ok _) hF268
           have h270 : RowR 1 (iE .i64) F267 (some ⟨b266, 0, none⟩) 4 [2, 0, 0, 2] := RowR.of_block (iE_ok _) (vss := [[.int .i64 2], [.int .i64 0], [.int .i64 0], [.int .i64 2]]) (xs := [2, 0, 0, 2]) hz269 (.cons rfl (.cons rfl (.cons rfl (.cons rfl .nil)))) rfl (by simp [maxLen])
           obtain ⟨ok2, h271, r272⟩ := b1_ok r253; clear r253
           refine o_callV rfl Try.call70 rfl rfl rfl (oyezkit_Like_Verdict_w h265 h270 h271) ?_
           refine ov (v_pick_t (evD_true rfl c249) rfl) rfl ?_
           refine om rfl rfl ?_
           rcases bool_two ok2 with c273 | c273
           · have r274 := bt r272 c273; clear r272
             refine shO_on (b := true) 120 rfl (EnvB rfl c273) (om rfl rfl (shO_on (b := true) 120 rfl (EnvB rfl c273) ?_))
             refine o_buildSlice (cs := #[.int .i64 1]) rfl rfl (buildSlice_all slt_27 [.int .i64 1] rfl (by decide) (by simp [Value.cells]) (by decide)) ?_; intro b275 hb275
             refine shO_on (b := true) 120 rfl (EnvB rfl c273) ?_
             refine shO_freeze 0 rfl hb275 ?_; intro F276 hF277 hz278
             refine shO_L (L' := (b240, .cells #[.int .i64 n14, .int .i64 n15] 36 (0, 0)) :: (Lb228 ++ (Lb234 ++ (Lb208 ++ (Lb214 ++ (Lb163 ++ [])))))) rfl ?_
             replace h199 := h199.mono (iE_ok _) hF277
             have h279 : RowR 1 (iE .i64) F276 (some ⟨b275, 0, none⟩) 1 [1] := RowR.of_block (iE_ok _) (vss := [[.int .i64 1]]) (xs := [1]) hz278 (.cons rfl .nil) rfl (by simp [maxLen])
             obtain ⟨ok3, h280, r281⟩ := b1_ok r274; clear r274
             refine o_callV rfl Try.call28 rfl rfl rfl (oyezkit_Like_int_w h199 h279 h280) ?_
             refine ov (v_pick_t (evB rfl c273) rfl) rfl ?_
             refine om rfl rfl ?_
             rcases bool_two ok3 with c282 | c282
             · have r283 := bt r281 c282; clear r281
               refine shO_on (b := true) 125 rfl (EnvB rfl c282) (om rfl rfl (shO_on (b := true) 125 rfl (EnvB rfl c282) ?_))
               refine ov (v_eql rfl rfl) rfl ?_
               refine ov (v_pick_t (evB rfl c282) rfl) rfl ?_
               refine om rfl rfl ?_
               by_cases c284 : n11 = 14
               · have r285 := ite_t r283 c284; clear r283
                 refine shO_on (b := true) 129 rfl (Env.isT rfl c284) (om rfl rfl (shO_on (b := true) 129 rfl (Env.isT rfl c284) ?_))
                 refine ov (v_eql rfl rfl) rfl ?_
                 refine ov (v_pick_t (evD_true rfl c284) rfl) rfl ?_
                 refine om rfl rfl ?_
                 by_cases c286 : n12 = 28
                 · have r287 := ite_t r285 c286; clear r285
                   refine shO_on (b := true) 133 rfl (Env.isT rfl c286) ?_
                   refine ov (v_loadA (cs := #[.int .i64 n14, .int .i64 n15]) Try.isAgg36 Try.sizeOf36 rfl (Has.own 0 rfl) (Nat.le_of_ble_eq_true rfl) rfl) rfl ?_
                   refine shO_on (b := true) 133 rfl (Env.isT rfl c286) ?_
                   refine ov (v_build (v := .agg #[.int .i64 0, .int .i64 1]) rfl (by intro w; kernel_rfl)) rfl ?_
                   refine shO_on (b := true) 133 rfl (Env.isT rfl c286) ?_
                   refine ov (v_eqA (eqg_36 _ _ _ _) (eq_36 _ _ _ _) rfl rfl) rfl ?_
                   refine ov (v_pick_t (evD_true rfl c286) rfl) rfl ?_
                   refine oa rfl rfl (shO_nil ?_)
                   refine kW kn ?_
                   refine shW_ret ?_
                   refine q_res1 Try.results18 (res_tmp rfl) (sr) ?_
                   obtain rfl := inj1 r287
                   exact rfl
                 have r288 := ite_f r285 c286; clear r285
                 refine shO_off (b' := false) 133 rfl (Env.isF rfl c286) rfl rfl (shO_off (b' := false) 133 rfl (Env.isF rfl c286) rfl rfl (shO_off (b' := false) 133 rfl (Env.isF rfl c286) rfl rfl ?_))
                 refine ov (v_pick_f (evD_false rfl c286) rfl) rfl ?_
                 refine oa rfl rfl (shO_nil ?_)
                 refine kW kn ?_
                 refine shW_ret ?_
                 refine q_res1 Try.results18 (res_tmp rfl) (sr) ?_
                 obtain rfl := inj1 r288
                 exact rfl
               have r289 := ite_f r283 c284; clear r283
               refine shO_off (b' := false) 129 rfl (Env.isF rfl c284) rfl rfl (shO_off (b' := false) 129 rfl (Env.isF rfl c284) rfl rfl ?_)
               refine ov (v_pick_f (evD_false rfl c284) rfl) rfl ?_
               refine om rfl rfl (shO_off (b' := false) 133 rfl rfl rfl rfl (shO_off (b' := false) 133 rfl rfl rfl rfl (shO_off (b' := false) 133 rfl rfl rfl rfl ?_)))
               refine ov (v_pick_f rfl rfl) rfl ?_
               refine oa rfl rfl (shO_nil ?_)
               refine kW kn ?_
               refine shW_ret ?_
               refine q_res1 Try.results18 (res_tmp rfl) (sr) ?_
               obtain rfl := inj1 r289
               exact rfl
             have r290 := bf r281 c282; clear r281
             refine shO_off (b' := false) 125 rfl (EnvB rfl c282) rfl rfl (shO_off (b' := false) 125 rfl (EnvB rfl c282) rfl rfl ?_)
             refine ov (v_pick_f (evB rfl c282) rfl) rfl ?_
             refine om rfl rfl (shO_off (b' := false) 129 rfl rfl rfl rfl (shO_off (b' := false) 129 rfl rfl rfl rfl ?_))
             refine ov (v_pick_f rfl rfl) rfl ?_
             refine om rfl rfl (shO_off (b' := false) 133 rfl rfl rfl rfl (shO_off (b' := false) 133 rfl rfl rfl rfl (shO_off (b' := false) 133 rfl rfl rfl rfl ?_)))
             refine ov (v_pick_f rfl rfl) rfl ?_
             refine oa rfl rfl (shO_nil ?_)
             refine kW kn ?_
             refine shW_ret ?_
             refine q_res1 Try.results18 (res_tmp rfl) (sr) ?_
             obtain rfl := inj1 r290
             exact rfl
           have r291 := bf r272 c273; clear r272
           refine shO_off (b' := false) 120 rfl (EnvB rfl c273) rfl rfl (shO_off (b' := false) 120 rfl (EnvB rfl c273) rfl rfl (shO_off (b' := false) 120 rfl (EnvB rfl c273) rfl rfl ?_))
           refine ov (v_pick_f (evB rfl c273) rfl) rfl ?_
           refine om rfl rfl (shO_off (b' := false) 125 rfl rfl rfl rfl (shO_off (b' := false) 125 rfl rfl rfl rfl ?_))
           refine ov (v_pick_f rfl rfl) rfl ?_
           refine om rfl rfl (shO_off (b' := false) 129 rfl rfl rfl rfl (shO_off (b' := false) 129 rfl rfl rfl rfl ?_))
           refine ov (v_pick_f rfl rfl) rfl ?_
           refine om rfl rfl (shO_off (b' := false) 133 rfl rfl rfl rfl (shO_off (b' := false) 133 rfl rfl rfl rfl (shO_off (b' := false) 133 rfl rfl rfl rfl ?_)))
           refine ov (v_pick_f rfl rfl) rfl ?_
           refine oa rfl rfl (shO_nil ?_)
           refine kW kn ?_
           refine shW_ret ?_
           refine q_res1 Try.results18 (res_tmp rfl) (sr) ?_
           obtain rfl := inj1 r291
           exact rfl
         have r292 := ite_f r248 c249; clear r248
         refine shO_off (b' := false) 113 rfl (Env.isF rfl c249) rfl rfl (shO_off (b' := false) 113 rfl (Env.isF rfl c249) rfl rfl (shO_off (b' := false) 113 rfl (Env.isF rfl c249) rfl rfl (shO_off (b' := false) 113 rfl (Env.isF rfl c249) rfl rfl (shO_off (b' := false) 113 rfl (Env.isF rfl c249) rfl rfl ?_))))
         refine ov (v_pick_f (evD_false rfl c249) rfl) rfl ?_
         refine om rfl rfl (shO_off (b' := false) 120 rfl rfl rfl rfl (shO_off (b' := false) 120 rfl rfl rfl rfl (shO_off (b' := false) 120 rfl rfl rfl rfl ?_)))
         refine ov (v_pick_f rfl rfl) rfl ?_
         refine om rfl rfl (shO_off (b' := false) 125 rfl rfl rfl rfl (shO_off (b' := false) 125 rfl rfl rfl rfl ?_))
         refine ov (v_pick_f rfl rfl) rfl ?_
         refine om rfl rfl (shO_off (b' := false) 129 rfl rfl rfl rfl (shO_off (b' := false) 129 rfl rfl rfl rfl ?_))
         refine ov (v_pick_f rfl rfl) rfl ?_
         refine om rfl rfl (shO_off (b' := false) 133 rfl rfl rfl rfl (shO_off (b' := false) 133 rfl rfl rfl rfl (shO_off (b' := false) 133 rfl rfl rfl rfl ?_)))
         refine ov (v_pick_f rfl rfl) rfl ?_
         refine oa rfl rfl (shO_nil ?_)
         refine kW kn ?_
         refine shW_ret ?_
         refine q_res1 Try.results18 (res_tmp rfl) (sr) ?_
         obtain rfl := inj1 r292
         exact rfl
       have r293 := ite_f r246 c247; clear r246
       refine shO_off (b' := false) 108 rfl (Env.isF rfl c247) rfl rfl (shO_off (b' := false) 108 rfl (Env.isF rfl c247) rfl rfl (shO_off (b' := false) 108 rfl (Env.isF rfl c247) rfl rfl ?_))
       refine ov (v_pick_f (evD_false rfl c247) rfl) rfl ?_
       refine om rfl rfl (shO_off (b' := false) 113 rfl rfl rfl rfl (shO_off (b' := false) 113 rfl rfl rfl rfl (shO_off (b' := false) 113 rfl rfl rfl rfl (shO_off (b' := false) 113 rfl rfl rfl rfl (shO_off (b' := false) 113 rfl rfl rfl rfl ?_)))))
       refine ov (v_pick_f rfl rfl) rfl ?_
       refine om rfl rfl (shO_off (b' := false) 120 rfl rfl rfl rfl (shO_off (b' := false) 120 rfl rfl rfl rfl (shO_off (b' := false) 120 rfl rfl rfl rfl ?_)))
       refine ov (v_pick_f rfl rfl) rfl ?_
       refine om rfl rfl (shO_off (b' := false) 125 rfl rfl rfl rfl (shO_off (b' := false) 125 rfl rfl rfl rfl ?_))
       refine ov (v_pick_f rfl rfl) rfl ?_
       refine om rfl rfl (shO_off (b' := false) 129 rfl rfl rfl rfl (shO_off (b' := false) 129 rfl rfl rfl rfl ?_))
       refine ov (v_pick_f rfl rfl) rfl ?_
       refine om rfl rfl (shO_off (b' := false) 133 rfl rfl rfl rfl (shO_off (b' := false) 133 rfl rfl rfl rfl (shO_off (b' := false) 133 rfl rfl rfl rfl ?_)))
       refine ov (v_pick_f rfl rfl) rfl ?_
       refine oa rfl rfl (shO_nil ?_)
       refine kW kn ?_
       refine shW_ret ?_
       refine q_res1 Try.results18 (res_tmp rfl) (sr) ?_
       obtain rfl := inj1 r293
       exact rfl
     have r294 := ite_f r244 c245; clear r244
     refine shO_off (b' := false) 104 rfl (Env.isF rfl c245) rfl rfl (shO_off (b' := false) 104 rfl (Env.isF rfl c245) rfl rfl ?_)
     refine ov (v_pick_f (evD_false rfl c245) rfl) rfl ?_
     refine om rfl rfl (shO_off (b' := false) 108 rfl rfl rfl rfl (shO_off (b' := false) 108 rfl rfl rfl rfl (shO_off (b' := false) 108 rfl rfl rfl rfl ?_)))
     refine ov (v_pick_f rfl rfl) rfl ?_
     refine om rfl rfl (shO_off (b' := false) 113 rfl rfl rfl rfl (shO_off (b' := false) 113 rfl rfl rfl rfl (shO_off (b' := false) 113 rfl rfl rfl rfl (shO_off (b' := false) 113 rfl rfl rfl rfl (shO_off (b' := false) 113 rfl rfl rfl rfl ?_)))))
     refine ov (v_pick_f rfl rfl) rfl ?_
     refine om rfl rfl (shO_off (b' := false) 120 rfl rfl rfl rfl (shO_off (b' := false) 120 rfl rfl rfl rfl (shO_off (b' := false) 120 rfl rfl rfl rfl ?_)))
     refine ov (v_pick_f rfl rfl) rfl ?_
     refine om rfl rfl (shO_off (b' := false) 125 rfl rfl rfl rfl (shO_off (b' := false) 125 rfl rfl rfl rfl ?_))
     refine ov (v_pick_f rfl rfl) rfl ?_
     refine om rfl rfl (shO_off (b' := false) 129 rfl rfl rfl rfl (shO_off (b' := false) 129 rfl rfl rfl rfl ?_))
     refine ov (v_pick_f rfl rfl) rfl ?_
     refine om rfl rfl (shO_off (b' := false) 133 rfl rfl rfl rfl (shO_off (b' := false) 133 rfl rfl rfl rfl (shO_off (b' := false) 133 rfl rfl rfl rfl ?_)))
     refine ov (v_pick_f rfl rfl) rfl ?_
     refine oa rfl rfl (shO_nil ?_)
     refine kW kn ?_
     refine shW_ret ?_
     refine q_res1 Try.results18 (res_tmp rfl) (sr) ?_
     obtain rfl := inj1 r294
     exact rfl
   have r295 := ite_f r242 c243; clear r242
   refine shO_off (b' := false) 100 rfl (Env.isF rfl c243) rfl rfl (shO_off (b' := false) 100 rfl (Env.isF rfl c243) rfl rfl ?_)
   refine ov (v_pick_f (evD_false rfl c243) rfl) rfl ?_
   refine om rfl rfl (shO_off (b' := false) 104 rfl rfl rfl rfl (shO_off (b' := false) 104 rfl rfl rfl rfl ?_))
   refine ov (v_pick_f rfl rfl) rfl ?_
   refine om rfl rfl (shO_off (b' := false) 108 rfl rfl rfl rfl (shO_off (b' := false) 108 rfl rfl rfl rfl (shO_off (b' := false) 108 rfl rfl rfl rfl ?_)))
   refine ov (v_pick_f rfl rfl) rfl ?_
   refine om rfl rfl (shO_off (b' := false) 113 rfl rfl rfl rfl (shO_off (b' := false) 113 rfl rfl rfl rfl (shO_off (b' := false) 113 rfl rfl rfl rfl (shO_off (b' := false) 113 rfl rfl rfl rfl (shO_off (b' := false) 113 rfl rfl rfl rfl ?_)))))
   refine ov (v_pick_f rfl rfl) rfl ?_
   refine om rfl rfl (shO_off (b' := false) 120 rfl rfl rfl rfl (shO_off (b' := false) 120 rfl rfl rfl rfl (shO_off (b' := false) 120 rfl rfl rfl rfl ?_)))
   refine ov (v_pick_f rfl rfl) rfl ?_
   refine om rfl rfl (shO_off (b' := false) 125 rfl rfl rfl rfl (shO_off (b' := false) 125 rfl rfl rfl rfl ?_))
   refine ov (v_pick_f rfl rfl) rfl ?_
   refine om rfl rfl (shO_off (b' := false) 129 rfl rfl rfl rfl (shO_off (b' := false) 129 rfl rfl rfl rfl ?_))
   refine ov (v_pick_f rfl rfl) rfl ?_
   refine om rfl rfl (shO_off (b' := false) 133 rfl rfl rfl rfl (shO_off (b' := false) 133 rfl rfl rfl rfl (shO_off (b' := false) 133 rfl rfl rfl rfl ?_)))
   refine ov (v_pick_f rfl rfl) rfl ?_
   refine oa rfl rfl (shO_nil ?_)
   refine kW kn ?_
   refine shW_ret ?_
   refine q_res1 Try.results18 (res_tmp rfl) (sr) ?_
   obtain rfl := inj1 r295
   exact rfl
 have r296 := ite_f r239 c241; clear r239
 refine shO_off (b' := false) 96 rfl (Env.isF rfl c241) rfl rfl (shO_off (b' := false) 96 rfl (Env.isF rfl c241) rfl rfl ?_)
 refine ov (v_pick_f (evD_false rfl c241) rfl) rfl ?_
 refine om rfl rfl (shO_off (b' := false) 100 rfl rfl rfl rfl (shO_off (b' := false) 100 rfl rfl rfl rfl ?_))
 refine ov (v_pick_f rfl rfl) rfl ?_
 refine om rfl rfl (shO_off (b' := false) 104 rfl rfl rfl rfl (shO_off (b' := false) 104 rfl rfl rfl rfl ?_))
 refine ov (v_pick_f rfl rfl) rfl ?_
 refine om rfl rfl (shO_off (b' := false) 108 rfl rfl rfl rfl (shO_off (b' := false) 108 rfl rfl rfl rfl (shO_off (b' := false) 108 rfl rfl rfl rfl ?_)))
 refine ov (v_pick_f rfl rfl) rfl ?_
 refine om rfl rfl (shO_off (b' := false) 113 rfl rfl rfl rfl (shO_off (b' := false) 113 rfl rfl rfl rfl (shO_off (b' := false) 113 rfl rfl rfl rfl (shO_off (b' := false) 113 rfl rfl rfl rfl (shO_off (b' := false) 113 rfl rfl rfl rfl ?_)))))
 refine ov (v_pick_f rfl rfl) rfl ?_
 refine om rfl rfl (shO_off (b' := false) 120 rfl rfl rfl rfl (shO_off (b' := false) 120 rfl rfl rfl rfl (shO_off (b' := false) 120 rfl rfl rfl rfl ?_)))
 refine ov (v_pick_f rfl rfl) rfl ?_
 refine om rfl rfl (shO_off (b' := false) 125 rfl rfl rfl rfl (shO_off (b' := false) 125 rfl rfl rfl rfl ?_))
 refine ov (v_pick_f rfl rfl) rfl ?_
 refine om rfl rfl (shO_off (b' := false) 129 rfl rfl rfl rfl (shO_off (b' := false) 129 rfl rfl rfl rfl ?_))
 refine ov (v_pick_f rfl rfl) rfl ?_
 refine om rfl rfl (shO_off (b' := false) 133 rfl rfl rfl rfl (shO_off (b' := false) 133 rfl rfl rfl rfl (shO_off (b' := false) 133 rfl rfl rfl rfl ?_)))
 refine ov (v_pick_f rfl rfl) rfl ?_
 refine oa rfl rfl (shO_nil ?_)
 refine kW kn ?_
 refine shW_ret ?_
 refine q_res1 Try.results18 (res_tmp rfl) (sr) ?_
 obtain rfl := inj1 r296
 exact rfl
set_option maxHeartbeats 1000000 in
theorem oyezlaw05_NightQuiet_w {numbers_a : Option Addr} {numbers_c : Nat} {numbers : List Int} {which : Int} {F : FS} (h_numbers : RowR 1 (iE .u8) F numbers_a numbers_c numbers) {r : Bool} (hr : oyezlaw05_NightQuiet numbers which = some r) :
    SpecV Try.prog 3 #[.slice numbers_a numbers.length numbers_c, .int .u8 which] F (.bool r) := by
 refine spec_of_shW (args := [.slice numbers_a numbers.length numbers_c, .int .u8 which]) Try.func3 rfl Try.ntmps3 (Nat.le_of_ble_eq_true rfl) ?_
 intro K _ _; rw [oyezlaw05_NightQuiet] at hr
 refine wsr (oa rfl rfl (nsr (om rfl rfl ?_)))
 obtain ⟨metal, at_, turn, h1, r2⟩ := b3_ok hr; clear hr
 refine o_call0 rfl Try.call13 rfl rfl rfl (oyezkit_Hang_w h_numbers h1) ?_; rintro _ F3 _ hF4 hn5 ⟨b7, a8, c9, rfl, rfl, h10⟩
 refine shO_L (lb (ln rfl)) ?_
 obtain ⟨l, l2, l3, at_2, turn2, h11, r12⟩ := b5_ok r2; clear r2
 refine o_callG (Lb := [(b7, .cells #[.slice a8 metal.length c9, .int .i64 at_, .int .u32 turn] 104 (0, 0))]) (Lr := []) rfl Try.call12 rfl rfl rfl (pR) (oyezlaw05_Made_w h10 h11) ?_; rintro _ F13 _ hF14 hd16 hn15 ⟨a17, n21, c18, Lb19, a23, n27, c24, Lb25, a29, n33, c30, Lb31, rfl, rfl, hz20, hz26, hz32⟩
 have hn35 := newp (Lb' := [(b7, .cells #[.slice a8 metal.length c9, .int .i64 at_2, .int .u32 turn2] 104 (0, 0))]) (by rfl) hd16 hn15
 replace hz20 := hz20.new fun p hp => hn35 p (by simp [hp])
 replace hz26 := hz26.new fun p hp => hn35 p (by simp [hp])
 refine shO_L (lb (lp (lp (lp (ln rfl))))) ?_
 refine om rfl rfl (ox rfl rfl rfl (ox rfl rfl rfl ?_))
 refine o_alloc rfl Try.zeroValue26 ?_; intro b36 hb36
 refine o_storeA (i := 0) Try.sizeOf26 rfl rfl rfl (by simp [Value.oneCell']) rfl (Nat.le_of_ble_eq_true rfl) ?_
 refine shO_L (L' := (b36, .cells #[.slice a17 n21 c18, .slice a23 n27 c24] 26 (0, 0)) :: ((b7, .cells #[.slice a8 metal.length c9, .int .i64 at_2, .int .u32 turn2] 104 (0, 0)) :: (Lb19 ++ (Lb25 ++ (Lb31 ++ []))))) rfl ?_
 refine oa rfl rfl (nsr ?_)
 refine ov (v_fieldAddr fa_26_0 rfl) rfl ?_
 refine ov (v_load Try.isAgg23 rfl (Has.own 0 rfl) rfl) rfl ?_
 refine ov ((v_lenS Try.underlying23 rfl).i (SlR.lenI hz20)) rfl ?_
 obtain ⟨g37, r38⟩ := gd_ok r12; clear r12
 refine ov (v_sub rfl rfl g37) rfl ?_
 refine oa rfl rfl (nsr (om rfl rfl ?_))
 obtain ⟨g39, r40⟩ := gd_ok r38; clear r38
 refine ov (i_conv Try.underlying5 Try.underlying3 rfl g39) rfl ?_
 refine om rfl rfl ?_
 obtain ⟨g41, r42⟩ := gd_ok r40; clear r40
 refine ov (v_add rfl rfl g41) rfl ?_
 obtain ⟨g43, r44⟩ := gd_ok r42; clear r42
 refine ov (v_remT rfl rfl g43) rfl ?_
 obtain ⟨man, h45, r46⟩ := bv_ok r44; clear r44
 refine ov ((v_assign rfl).i h45) rfl ?_
 refine nsr ?_
 refine ov (v_loadA (cs := #[.slice a17 n21 c18, .slice a23 n27 c24]) Try.isAgg26 Try.sizeOf26 rfl (Has.own 0 rfl) (Nat.le_of_ble_eq_true rfl) rfl) rfl ?_
 obtain ⟨l4, n, n2, h47, r48⟩ := b3_ok r46; clear r46
 refine o_callTO (Lb := []) (Lt := Lb19 ++ (Lb25 ++ [])) (Lr := (b36, .cells #[.slice a17 n21 c18, .slice a23 n27 c24] 26 (0, 0)) :: ((b7, .cells #[.slice a8 metal.length c9, .int .i64 at_2, .int .u32 turn2] 104 (0, 0)) :: (Lb31 ++ []))) rfl Try.call14 rfl rfl rfl (pT ((fC (fC fP)).trans (pA ((fC (fC fP)).trans (pA pR)))) (ln (lp (lp (ln rfl))))) (fun F2 h2 h3 => by rw [(SlR.caps hz20).1]; rw [(SlR.caps hz26).1]; exact night_Fewest_w (hz20.row (slE_ok (iE_ok _)) h2 (fun p hp => h3 p (List.mem_append_left _ hp))) (hz26.row (slE_ok (iE_ok _)) h2 (fun p hp => h3 p (List.mem_append_right _ (List.mem_append_left _ hp)))) h47) (fun _ _ _ _ hq => by obtain ⟨a53, n57, c54, Lb55, rfl, rfl, hz56⟩ := hq; exact ⟨_, _, _, _, rfl, rfl, hz56.flat (fun _ _ h => h)⟩) ?_; rintro _ F49 _ hF50 hd52 hn51 ⟨a53, n57, c54, Lb55, rfl, rfl, hz56⟩
 replace hz20 := hz20.mono (slE_ok (iE_ok _)) hF50
 replace hz26 := hz26.mono (slE_ok (iE_ok _)) hF50
 have hn59 := newp (Lb' := []) (by rfl) hd52 hn51
 replace hz56 := hz56.new fun p hp => hn59 p (by simp [hp])
 refine shO_L (lp (ln (lp (lp (ln rfl))))) ?_
 refine kO (kf (fS (fS (fS fO))) (kf (fS (fS (fS fO))) kr)) ?_
 refine om rfl rfl (ox rfl rfl rfl (ox rfl rfl rfl (ox rfl rfl rfl (oa rfl rfl (oa rfl rfl (oa rfl rfl (nsr ?_)))))))
 refine ov (v_loadA (cs := #[.slice a17 n21 c18, .slice a23 n27 c24]) Try.isAgg26 Try.sizeOf26 rfl (Has.own 0 rfl) (Nat.le_of_ble_eq_true rfl) rfl) rfl ?_
 refine om rfl rfl ?_
 obtain ⟨n3, n4, n5, h60, r61⟩ := b3_ok r48; clear r48
 refine o_callT (Lt := Lb19 ++ (Lb25 ++ [])) (Lr := (b36, .cells #[.slice a17 n21 c18, .slice a23 n27 c24] 26 (0, 0)) :: ((b7, .cells #[.slice a8 metal.length c9, .int .i64 at_2, .int .u32 turn2] 104 (0, 0)) :: (Lb55 ++ (Lb31 ++ [])))) rfl Try.call15 rfl rfl rfl (pT ((fC (fC (fS fP))).trans (pA ((fC (fC (fS fP))).trans (pA pR)))) (lp (lp (ln rfl)))) (fun F2 h2 h3 => by rw [(SlR.caps hz20).1]; rw [(SlR.caps hz26).1]; exact night_Most_w (hz20.row (slE_ok (iE_ok _)) h2 (fun p hp => h3 p (List.mem_append_left _ hp))) (hz26.row (slE_ok (iE_ok _)) h2 (fun p hp => h3 p (List.mem_append_right _ (List.mem_append_left _ hp)))) h60) ?_
 refine om rfl rfl (ox rfl rfl rfl (ox rfl rfl rfl ?_))
 refine o_alloc rfl Try.zeroValue36 ?_; intro b62 hb62
 refine o_storeA (i := 0) Try.sizeOf36 rfl rfl rfl (by simp [Value.oneCell']) rfl (Nat.le_of_ble_eq_true rfl) ?_
 refine shO_L (L' := (b62, .cells #[.int .i64 n3, .int .i64 n4] 36 (0, 0)) :: ((b36, .cells #[.slice a17 n21 c18, .slice a23 n27 c24] 26 (0, 0)) :: ((b7, .cells #[.slice a8 metal.length c9, .int .i64 at_2, .int .u32 turn2] 104 (0, 0)) :: (Lb55 ++ (Lb19 ++ (Lb25 ++ (Lb31 ++ []))))))) rfl ?_
 refine oa rfl rfl (shO_nil (shW_seq ?_))
 obtain ⟨k, h63, r64⟩ := b1_ok r61; clear r61
 refine shW_join (fun e1 F1 L1 => F49 = F1 ∧ L1 = ((b62, .cells #[.int .i64 n3, .int .i64 n4] 36 (0, 0)) :: ((b36, .cells #[.slice a17 n21 c18, .slice a23 n27 c24] 26 (0, 0)) :: (Lb19 ++ (Lb25 ++ (Lb55 ++ []))))) ∧ e1.sub [(5, .pointer (some ⟨b36, 0, none⟩)), (7, .int .i64 ((l.length : Int) - 1)), (8, .int .i64 man), (9, .slice a53 n57 c54), (12, .pointer (some ⟨b62, 0, none⟩)), (72, .bool k)]) ?_ ?_
 · clear r64
   refine shW_region (om rfl rfl ?_)
   refine ov (v_neq rfl rfl) rfl ?_
   refine om rfl rfl ?_
   by_cases c65 : n2 ≠ 0
   · have r66 := ite_t h63 c65; clear h63
     refine shO_off (b' := true) 58 rfl (Env.isT rfl c65) rfl rfl (shO_off (b' := true) 58 rfl (Env.isT rfl c65) rfl rfl ?_)
     refine ov (v_pick_t (evD_true rfl c65) rfl) rfl ?_
     refine om rfl rfl (shO_off (b' := true) 62 rfl rfl rfl rfl (shO_off (b' := true) 62 rfl rfl rfl rfl (shO_off (b' := true) 62 rfl rfl rfl rfl ?_)))
     refine ov (v_pick_t rfl rfl) rfl ?_
     refine om rfl rfl (shO_off (b' := true) 67 rfl rfl rfl rfl (shO_off (b' := true) 67 rfl rfl rfl rfl (shO_off (b' := true) 67 rfl rfl rfl rfl (shO_off (b' := true) 67 rfl rfl rfl rfl ?_))))
     refine ov (v_pick_t rfl rfl) rfl ?_
     refine shO_nil ?_
     obtain rfl := inj1 r66
     exact mi (kc (kc (kd (kg (fS fP) (kg (fS fP) (ka kn)))))) ⟨rfl, rfl, (sc rfl (sc rfl (sc rfl (sc rfl (sc rfl (sc rfl (sn _)))))))⟩
   have r67 := ite_f h63 c65; clear h63
   refine shO_on (b := false) 58 rfl (Env.isF rfl c65) (om rfl rfl (shO_on (b := false) 58 rfl (Env.isF rfl c65) ?_))
   refine ov (v_neq rfl rfl) rfl ?_
   refine ov (v_pick_f (evD_false rfl c65) rfl) rfl ?_
   refine om rfl rfl ?_
   by_cases c68 : n5 ≠ 0
   · have r69 := ite_t r67 c68; clear r67
     refine shO_off (b' := true) 62 rfl (Env.isT rfl c68) rfl rfl (shO_off (b' := true) 62 rfl (Env.isT rfl c68) rfl rfl (shO_off (b' := true) 62 rfl (Env.isT rfl c68) rfl rfl ?_))
     refine ov (v_pick_t (evD_true rfl c68) rfl) rfl ?_
     refine om rfl rfl (shO_off (b' := true) 67 rfl rfl rfl rfl (shO_off (b' := true) 67 rfl rfl rfl rfl (shO_off (b' := true) 67 rfl rfl rfl rfl (shO_off (b' := true) 67 rfl rfl rfl rfl ?_))))
     refine ov (v_pick_t rfl rfl) rfl ?_
     refine shO_nil ?_
     obtain rfl := inj1 r69
     exact mi (kc (kc (kd (kg (fS fP) (kg (fS fP) (ka kn)))))) ⟨rfl, rfl, (sc rfl (sc rfl (sc rfl (sc rfl (sc rfl (sc rfl (sn _)))))))⟩
   have r70 := ite_f r67 c68; clear r67
   refine shO_on (b := false) 62 rfl (Env.isF rfl c68) ?_
   refine ov (v_fieldAddr fa_36_0 rfl) rfl ?_
   refine shO_on (b := false) 62 rfl (Env.isF rfl c68) ?_
   refine ov (v_load Try.isAgg3 rfl (Has.own 0 rfl) rfl) rfl ?_
   refine shO_on (b := false) 62 rfl (Env.isF rfl c68) ?_
   refine ov (v_lssK rfl rfl) rfl ?_
   refine ov (v_pick_f (evD_false rfl c68) rfl) rfl ?_
   refine om rfl rfl ?_
   by_cases c71 : n3 < 0
   · have r72 := ite_t r70 c71; clear r70
     refine shO_off (b' := true) 67 rfl (Env.isT rfl c71) rfl rfl (shO_off (b' := true) 67 rfl (Env.isT rfl c71) rfl rfl (shO_off (b' := true) 67 rfl (Env.isT rfl c71) rfl rfl (shO_off (b' := true) 67 rfl (Env.isT rfl c71) rfl rfl ?_)))
     refine ov (v_pick_t (evD_true rfl c71) rfl) rfl ?_
     refine shO_nil ?_
     obtain rfl := inj1 r72
     exact mi (kc (kc (kd (kg (fS fP) (kg (fS fP) (ka kn)))))) ⟨rfl, rfl, (sc rfl (sc rfl (sc rfl (sc rfl (sc rfl (sc rfl (sn _)))))))⟩
   have r73 := ite_f r70 c71; clear r70
   refine shO_on (b := false) 67 rfl (Env.isF rfl c71) ?_
   refine ov (v_fieldAddr fa_36_1 rfl) rfl ?_
   refine shO_on (b := false) 67 rfl (Env.isF rfl c71) ?_
   refine ov (v_load Try.isAgg3 rfl (Has.own 0 rfl) rfl) rfl ?_
   refine shO_on (b := false) 67 rfl (Env.isF rfl c71) (om rfl rfl (shO_on (b := false) 67 rfl (Env.isF rfl c71) ?_))
   refine ov (v_gtrK rfl rfl) rfl ?_
   refine ov (v_pick_f (evD_false rfl c71) rfl) rfl ?_
   refine shO_nil ?_
   obtain rfl := inj1 r73
   exact mi (kc (kc (kd (kg (fS fP) (kg (fS fP) (ka kn)))))) ⟨rfl, rfl, (sc rfl (sc rfl (sc rfl (sc rfl (sc rfl (sc rfl (sn _)))))))⟩
 rintro e1 _ _ ⟨rfl, rfl, he74⟩
 refine shW_env _ he74 ?_; clear he74
 refine shW_cond rfl (fun c75 => ?_) (fun c75 => ?_)
 · have r76 := bt r64 c75; clear r64
   refine wsr (oa rfl rfl (shO_nil ?_))
   refine kW kn ?_
   refine shW_ret (andThen_ret ?_)
   refine q_res1 Try.results3 (res_tmp rfl) (sr) ?_
   obtain rfl := inj1 r76
   exact rfl
 have r77 := bf r64 c75; clear r64
 refine shW_skip (wsr (oa rfl rfl (shO_nil ?_)))
 obtain ⟨own, h78, r79⟩ := b1_ok r77; clear r77
 refine shW_join (fun e1 F1 L1 => F49 = F1 ∧ L1 = ((b62, .cells #[.int .i64 n3, .int .i64 n4] 36 (0, 0)) :: ((b36, .cells #[.slice a17 n21 c18, .slice a23 n27 c24] 26 (0, 0)) :: (Lb19 ++ (Lb25 ++ [])))) ∧ e1.sub [(5, .pointer (some ⟨b36, 0, none⟩)), (7, .int .i64 ((l.length : Int) - 1)), (12, .pointer (some ⟨b62, 0, none⟩)), (14, .int .i64 own)]) ?_ ?_
 · clear r79
   refine wsr (om rfl rfl ?_)
   refine ov ((v_lenS Try.underlying27 rfl).i (SlR.lenI hz56)) rfl ?_
   refine om rfl rfl (shO_nil ?_)
   refine shW_block ?_
   refine shW_lp (fun fu1 e1 F1 L1 => ∃ (tl : List Int) (k2 : Int), tl.length = fu1 ∧ Lst l4 k2 tl ∧ ∃ (own2 : Int), oyezlaw05_NightQuiet_l1 man l4 tl k2 own2 = some own ∧ F49 = F1 ∧ L1 = ((b62, .cells #[.int .i64 n3, .int .i64 n4] 36 (0, 0)) :: ((b36, .cells #[.slice a17 n21 c18, .slice a23 n27 c24] 26 (0, 0)) :: (Lb19 ++ (Lb25 ++ (Lb55 ++ []))))) ∧ e1.sub [(5, .pointer (some ⟨b36, 0, none⟩)), (7, .int .i64 ((l.length : Int) - 1)), (8, .int .i64 man), (9, .slice a53 n57 c54), (12, .pointer (some ⟨b62, 0, none⟩)), (14, .int .i64 own2), (73, .slice a53 n57 c54), (74, .int .i64 (l4.length : Int)), (75, .int .i64 k2)]) _ (m0 kr ⟨_, _, rfl, Lst.start _, 0, h78, rfl, rfl, (sc rfl (sc rfl (sc rfl (sc rfl (sc rfl (sc rfl (sc rfl (sc rfl (sc rfl (sn _))))))))))⟩) ?_
   rintro fu1 e1 _ _ ⟨tl, k2, hn81, hk80, own2, r82, rfl, rfl, he83⟩
   refine shW_env _ he83 ?_; clear he83
   refine wsr ?_
   refine ov (v_lssK rfl rfl) rfl ?_
   refine shO_nil (shW_seq ?_)
   refine shW_condP rfl (fun c85 => ?_) (fun c85 => ?_)
   · obtain ⟨x, tl2, rfl, hx87, g88, hk86⟩ := Lst.succ hk80 c85
     rw [oyezlaw05_NightQuiet_l1] at r82
     refine shW_skip (shW_seq ?_)
     refine shW_block ?_
     refine wsr (om rfl rfl ?_)
     obtain ⟨b89, o90, c91, vs92, ha93, hs94, hle95, rfl, hl96, hc97⟩ := SlR.at (iE_ok _) hz56 (L := (b62, .cells #[.int .i64 n3, .int .i64 n4] 36 (0, 0)) :: ((b36, .cells #[.slice a17 n21 c18, .slice a23 n27 c24] 26 (0, 0)) :: (Lb19 ++ (Lb25 ++ (Lb55 ++ []))))) (fC (fC (fS (fS fP)))) g88.1 hx87
     refine ov (v_indexO Try.underlying27 Try.sizeOf3 rfl ha93 rfl (SlR.idx hz56 g88)) rfl ?_
     refine ov (v_load Try.isAgg3 rfl hs94 (hc97 0 (by decide))) rfl ?_
     refine oa rfl rfl (oa rfl rfl (shO_nil ?_))
     obtain ⟨k3, h98, r99⟩ := b1_ok r82; clear r82
     refine shW_join (fun e1 F1 L1 => F49 = F1 ∧ L1 = ((b62, .cells #[.int .i64 n3, .int .i64 n4] 36 (0, 0)) :: ((b36, .cells #[.slice a17 n21 c18, .slice a23 n27 c24] 26 (0, 0)) :: (Lb19 ++ (Lb25 ++ (Lb55 ++ []))))) ∧ e1.sub [(5, .pointer (some ⟨b36, 0, none⟩)), (7, .int .i64 ((l.length : Int) - 1)), (8, .int .i64 man), (9, .slice a53 n57 c54), (12, .pointer (some ⟨b62, 0, none⟩)), (14, .int .i64 own2), (73, .slice a53 n57 c54), (74, .int .i64 (l4.length : Int)), (75, .int .i64 k2), (99, .bool k3)]) ?_ ?_
     · clear r99
       refine shW_region (om rfl rfl (om rfl rfl ?_))
       obtain ⟨g100, r101⟩ := gd_ok h98; clear h98
       refine ov (v_shr rfl rfl g100) rfl ?_
       refine ov (v_and rfl rfl) rfl ?_
       refine ov (v_eql rfl rfl) rfl ?_
       refine om rfl rfl ?_
       by_cases c102 : (band (shr x man) 1) = 1
       · have r103 := ite_t r101 c102; clear r101
         refine shO_on (b := true) 85 rfl (Env.isT rfl c102) (om rfl rfl (shO_on (b := true) 85 rfl (Env.isT rfl c102) ?_))
         refine ov (v_eql rfl rfl) rfl ?_
         refine shO_on (b := true) 85 rfl (Env.isT rfl c102) (om rfl rfl ?_)
         by_cases c104 : k2 = 0
         · have r105 := ite_t r103 c104; clear r103
           refine shO_off (b' := true) 88 rfl (Env.isT rfl c104) rfl rfl (shO_off (b' := true) 88 rfl (Env.isT rfl c104) rfl rfl (shO_off (b' := true) 88 rfl (Env.isT rfl c104) rfl rfl (shO_off (b' := true) 88 rfl (Env.isT rfl c104) rfl rfl (shO_off (b' := true) 88 rfl (Env.isT rfl c104) rfl rfl (shO_off (b' := true) 88 rfl (Env.isT rfl c104) rfl rfl (shO_off (b' := true) 88 rfl (Env.isT rfl c104) rfl rfl (shO_off (b' := true) 88 rfl (Env.isT rfl c104) rfl rfl (shO_off (b' := true) 88 rfl (Env.isT rfl c104) rfl rfl (shO_on (b := true) 85 rfl (Env.isT rfl c102) ?_)))))))))
           refine ov (v_pick_t (evD_true rfl c104) rfl) rfl ?_
           refine ov (v_pick_t (evD_true rfl c102) rfl) rfl ?_
           refine shO_nil ?_
           obtain rfl := inj1 r105
           exact mi kr ⟨rfl, rfl, (sc rfl (sc rfl (sc rfl (sc rfl (sc rfl (sc rfl (sc rfl (sc rfl (sc rfl (sc rfl (sn _)))))))))))⟩
         have r106 := ite_f r103 c104; clear r103
         refine shO_on (b := false) 88 rfl (Env.isF rfl c104) (om rfl rfl (shO_on (b := false) 88 rfl (Env.isF rfl c104) (om rfl rfl (shO_on (b := false) 88 rfl (Env.isF rfl c104) ?_))))
         obtain ⟨g107, r108⟩ := gd_ok r106; clear r106
         refine ov (v_sub rfl rfl g107) rfl ?_
         refine shO_on (b := false) 88 rfl (Env.isF rfl c104) ?_
         obtain ⟨x2, g109, hx110, r111⟩ := ix_ok r108; clear r108
         obtain ⟨b112, o113, c114, vs115, ha116, hs117, hle118, rfl, hl119, hc120⟩ := SlR.at (iE_ok _) hz56 (L := (b62, .cells #[.int .i64 n3, .int .i64 n4] 36 (0, 0)) :: ((b36, .cells #[.slice a17 n21 c18, .slice a23 n27 c24] 26 (0, 0)) :: (Lb19 ++ (Lb25 ++ (Lb55 ++ []))))) (fC (fC (fS (fS fP)))) g109.1 hx110
         refine ov (v_indexO Try.underlying27 Try.sizeOf3 rfl ha116 rfl (SlR.idx hz56 g109)) rfl ?_
         refine shO_on (b := false) 88 rfl (Env.isF rfl c104) ?_
         refine ov (v_load Try.isAgg3 rfl hs117 (hc120 0 (by decide))) rfl ?_
         refine shO_on (b := false) 88 rfl (Env.isF rfl c104) (om rfl rfl (shO_on (b := false) 88 rfl (Env.isF rfl c104) ?_))
         obtain ⟨g121, r122⟩ := gd_ok r111; clear r111
         refine ov (v_shr rfl rfl g121) rfl ?_
         refine shO_on (b := false) 88 rfl (Env.isF rfl c104) ?_
         refine ov (v_and rfl rfl) rfl ?_
         refine shO_on (b := false) 88 rfl (Env.isF rfl c104) ?_
         refine ov (v_eql rfl rfl) rfl ?_
         refine shO_on (b := true) 85 rfl (Env.isT rfl c102) ?_
         refine ov (v_pick_f (evD_false rfl c104) rfl) rfl ?_
         refine ov (v_pick_t (evD_true rfl c102) rfl) rfl ?_
         refine shO_nil ?_
         obtain rfl := inj1 r122
         exact mi kr ⟨rfl, rfl, (sc rfl (sc rfl (sc rfl (sc rfl (sc rfl (sc rfl (sc rfl (sc rfl (sc rfl (sc rfl (sn _)))))))))))⟩
       have r123 := ite_f r101 c102; clear r101
       refine shO_off (b' := false) 85 rfl (Env.isF rfl c102) rfl rfl (shO_off (b' := false) 85 rfl (Env.isF rfl c102) rfl rfl (shO_off (b' := false) 85 rfl (Env.isF rfl c102) rfl rfl (shO_offU 88 rfl rfl rfl (shO_offU 88 rfl rfl rfl (shO_offU 88 rfl rfl rfl (shO_offU 88 rfl rfl rfl (shO_offU 88 rfl rfl rfl (shO_offU 88 rfl rfl rfl (shO_offU 88 rfl rfl rfl ?_)))))))))
       refine shO_offU 88 rfl rfl rfl (shO_offU 88 rfl rfl rfl (shO_off (b' := false) 85 rfl (Env.isF rfl c102) rfl rfl ?_))
       refine ov (v_pick_f (evD_false rfl c102) rfl) rfl ?_
       refine shO_nil ?_
       obtain rfl := inj1 r123
       exact mi kr ⟨rfl, rfl, (sc rfl (sc rfl (sc rfl (sc rfl (sc rfl (sc rfl (sc rfl (sc rfl (sc rfl (sc rfl (sn _)))))))))))⟩
     rintro e1 _ _ ⟨rfl, rfl, he124⟩
     refine shW_env _ he124 ?_; clear he124
     refine shW_cond rfl (fun c125 => ?_) (fun c125 => ?_)
     · have r126 := bt r99 c125; clear r99
       refine shW_region (om rfl rfl ?_)
       obtain ⟨g127, r128⟩ := gd_ok r126; clear r126
       refine ov (v_add rfl rfl g127) rfl ?_
       refine oa rfl rfl (shO_nil (inBlock_n (id := 1) (shW_region ?_)))
       refine ov (v_add rfl rfl (Lst.r64 hk80 c85 (SlR.llt hz56))) rfl ?_
       refine om rfl rfl (shO_nil ?_)
       subst hn81; exact le kr ⟨_, _, rfl, hk86, own2 + 1, r128, rfl, rfl, (sc rfl (sc rfl (sc rfl (sc rfl (sc rfl (sc rfl (sc rfl (sc rfl (sc rfl (sn _))))))))))⟩
     have r129 := bf r99 c125; clear r99
     refine shW_skip (inBlock_n (id := 1) (shW_region ?_))
     refine ov (v_add rfl rfl (Lst.r64 hk80 c85 (SlR.llt hz56))) rfl ?_
     refine om rfl rfl (shO_nil ?_)
     subst hn81; exact le kr ⟨_, _, rfl, hk86, own2, r129, rfl, rfl, (sc rfl (sc rfl (sc rfl (sc rfl (sc rfl (sc rfl (sc rfl (sc rfl (sc rfl (sn _))))))))))⟩
   obtain rfl := Lst.zero hk80 c85
   rw [oyezlaw05_NightQuiet_l1] at r82
   refine shW_exit (andThen_exit (andThen_exit ?_))
   refine inBlock_exit ?_
   obtain rfl := inj1 r82
   exact mi (kc (kc (ka (ka kn)))) ⟨rfl, rfl, (sc rfl (sc rfl (sc rfl (sc rfl (sn _)))))⟩
 rintro e1 _ _ ⟨rfl, rfl, he130⟩
 refine shW_env _ he130 ?_; clear he130
 refine shW_seq ?_
 obtain ⟨k4, h131, r132⟩ := b1_ok r79; clear r79
 refine shW_join (fun e1 F1 L1 => F49 = F1 ∧ L1 = ((b62, .cells #[.int .i64 n3, .int .i64 n4] 36 (0, 0)) :: ((b36, .cells #[.slice a17 n21 c18, .slice a23 n27 c24] 26 (0, 0)) :: (Lb19 ++ (Lb25 ++ [])))) ∧ e1.sub [(5, .pointer (some ⟨b36, 0, none⟩)), (7, .int .i64 ((l.length : Int) - 1)), (12, .pointer (some ⟨b62, 0, none⟩)), (112, .bool k4)]) ?_ ?_
 · clear r132
   refine shW_region (om rfl rfl ?_)
   refine ov (v_fieldAddr fa_36_0 rfl) rfl ?_
   refine ov (v_load Try.isAgg3 rfl (Has.own 0 rfl) rfl) rfl ?_
   refine ov (v_lssK rfl rfl) rfl ?_
   refine om rfl rfl ?_
   by_cases c133 : own < n3
   · have r134 := ite_t h131 c133; clear h131
     refine shO_off (b' := true) 107 rfl (Env.isT rfl c133) rfl rfl (shO_off (b' := true) 107 rfl (Env.isT rfl c133) rfl rfl (shO_off (b' := true) 107 rfl (Env.isT rfl c133) rfl rfl (shO_off (b' := true) 107 rfl (Env.isT rfl c133) rfl rfl ?_)))
     refine ov (v_pick_t (evD_true rfl c133) rfl) rfl ?_
     refine shO_nil ?_
     obtain rfl := inj1 r134
     exact mi kr ⟨rfl, rfl, (sc rfl (sc rfl (sc rfl (sc rfl (sn _)))))⟩
   have r135 := ite_f h131 c133; clear h131
   refine shO_on (b := false) 107 rfl (Env.isF rfl c133) (om rfl rfl (shO_on (b := false) 107 rfl (Env.isF rfl c133) ?_))
   refine ov (v_fieldAddr fa_36_1 rfl) rfl ?_
   refine shO_on (b := false) 107 rfl (Env.isF rfl c133) ?_
   refine ov (v_load Try.isAgg3 rfl (Has.own 0 rfl) rfl) rfl ?_
   refine shO_on (b := false) 107 rfl (Env.isF rfl c133) ?_
   refine ov (v_gtrK rfl rfl) rfl ?_
   refine ov (v_pick_f (evD_false rfl c133) rfl) rfl ?_
   refine shO_nil ?_
   obtain rfl := inj1 r135
   exact mi kr ⟨rfl, rfl, (sc rfl (sc rfl (sc rfl (sc rfl (sn _)))))⟩
 rintro e1 _ _ ⟨rfl, rfl, he136⟩
 refine shW_env _ he136 ?_; clear he136
 refine shW_cond rfl (fun c137 => ?_) (fun c137 => ?_)
 · have r138 := bt r132 c137; clear r132
   refine wsr (oa rfl rfl (shO_nil ?_))
   refine kW kn ?_
   refine shW_ret (andThen_ret ?_)
   refine q_res1 Try.results3 (res_tmp rfl) (sr) ?_
   obtain rfl := inj1 r138
   exact rfl
 have r139 := bf r132 c137; clear r132
 refine shW_skip (shW_seq ?_)
 refine shW_drawM [(.pre, 4), (.pre, 5), (.still, 0), (.still, 2), (.seq, 1), (.seq, 3), (.alloc (.cells (.agg #[.slice none 0 0, .slice none 0 0] : Value).cells 26 (0, 0)) (fun b => .pointer (some ⟨b, 0, none⟩)) [], 4), (.alloc (.cells (.agg #[.slice none 0 0, .slice none 0 0] : Value).cells 26 (0, 0)) (fun b => .pointer (some ⟨b, 0, none⟩)) [], 5), (.seq, 6), (.seq, 7)] (by kernel_rfl) (by kernel_rfl) (⟨⟨_, _, rfl, rfl, rfl, rfl, rfl, mk_alloc Try.zeroValue26⟩, ⟨⟨_, _, rfl, rfl, rfl, rfl, rfl, mk_alloc Try.zeroValue26⟩, trivial⟩⟩) (by rfl) (by kernel_rfl) ?_
 refine ⟨⟨[], rfl, sn _, by kernel_rfl⟩, ?_⟩
 refine ⟨⟨[], rfl, sn _, by kernel_rfl⟩, ?_⟩
 refine shM_v (v := .agg #[.slice a17 n21 c18, .slice a23 n27 c24]) (ek := [(5, .pointer (some ⟨b36, 0, none⟩))]) (Ls := [(b36, .cells #[.slice a17 n21 c18, .slice a23 n27 c24] 26 (0, 0))]) rfl rfl rfl rfl ((sc rfl (sn _))) (by kernel_rfl) (s0 (s1 (s2 (s3 (s3 sr))))) (fun H F' L' hF' hL' => v_loadA (cs := #[.slice a17 n21 c18, .slice a23 n27 c24]) Try.isAgg26 Try.sizeOf26 rfl ((Has.own 0 rfl).ext hF' hL') (Nat.le_of_ble_eq_true rfl) rfl) ?_
 refine shM_v (v := .agg #[.slice a17 n21 c18, .slice a23 n27 c24]) (ek := [(5, .pointer (some ⟨b36, 0, none⟩))]) (Ls := [(b36, .cells #[.slice a17 n21 c18, .slice a23 n27 c24] 26 (0, 0))]) rfl rfl rfl rfl ((sc rfl (sn _))) (by kernel_rfl) (s0 (s1 (s2 (s3 (s3 sr))))) (fun H F' L' hF' hL' => v_loadA (cs := #[.slice a17 n21 c18, .slice a23 n27 c24]) Try.isAgg26 Try.sizeOf26 rfl ((Has.own 0 rfl).ext hF' hL') (Nat.le_of_ble_eq_true rfl) rfl) ?_
 refine ⟨_, [(113, .agg #[.slice a17 n21 c18, .slice a23 n27 c24])], rfl, rfl, (sc rfl (sn _)), by kernel_rfl, ?_⟩; intro H
 obtain rfl := (SlR.caps hz20).1
 refine shO_freezeR (Nat.le_refl _) (slE_ok (iE_ok _)) (fC (fC fP)) hz20 ?_; intro F140 hF141 h142
 replace hz26 := hz26.mono (slE_ok (iE_ok _)) hF141
 obtain rfl := (SlR.caps hz26).1
 refine shO_freezeR (Nat.le_refl _) (slE_ok (iE_ok _)) (fC (fC fP)) hz26 ?_; intro F143 hF144 h145
 replace h142 := h142.mono (slE_ok (iE_ok _)) hF144
 obtain ⟨l5, l6, h146, r147⟩ := b2_ok r139; clear r139
 refine o_call0 rfl Try.call16 rfl rfl rfl (oyezlaw05_Own_w h142 h145 h146) ?_; rintro _ F148 _ hF149 hn150 ⟨a152, n156, c153, Lb154, a158, n162, c159, Lb160, rfl, rfl, hz155, hz161⟩
 replace h142 := h142.mono (slE_ok (iE_ok _)) hF149
 replace h145 := h145.mono (slE_ok (iE_ok _)) hF149
 replace hz155 := hz155.new fun p hp => hn150 p (by simp [hp])
 replace hz161 := hz161.new fun p hp => hn150 p (by simp [hp])
 refine shO_L (lp (lp (ln rfl))) ?_
 refine kO (kf (fS (fS fO)) (kf (fS (fS fO)) kr)) ?_
 refine shO_nil ⟨_, rfl, ((hF141.trans hF144).trans hF149), [2], by kernel_rfl, .inl (.inr (fun d h => by cases h; rfl)), (List.forall_mem_cons.2 ⟨s0 (s1 (s2 (s3 (s3 sr)))), (fun _ h => absurd h List.not_mem_nil)⟩), ?_⟩
 refine ⟨_, [(115, .agg #[.slice a17 l.length c18, .slice a23 l2.length c24])], rfl, rfl, (sc rfl (sn _)), by kernel_rfl, ?_⟩; intro H
 obtain ⟨l7, l8, h164, r165⟩ := b2_ok r147; clear r147
 refine o_call0 rfl Try.call16 rfl rfl rfl (oyezlaw05_Own_w h142 h145 h164) ?_; rintro _ F166 _ hF167 hn168 ⟨a170, n174, c171, Lb172, a176, n180, c177, Lb178, rfl, rfl, hz173, hz179⟩
 replace hz155 := hz155.mono (iE_ok _) hF167
 replace hz161 := hz161.mono (iE_ok _) hF167
 replace hz173 := hz173.new fun p hp => hn168 p (by simp [hp])
 replace hz179 := hz179.new fun p hp => hn168 p (by simp [hp])
 refine shO_L (lp (lp (ln rfl))) ?_
 refine kO (kf (fS (fS fO)) (kf (fS (fS fO)) kr)) ?_
 refine shO_nil ⟨_, rfl, hF167, [], by kernel_rfl, .inl (.inl rfl), (fun _ h => absurd h List.not_mem_nil), ?_⟩
 refine shM_ptr rfl ?_; intro b182 hb182
 refine shM_L (L' := (b182, .cells #[.slice none 0 0, .slice none 0 0] 26 (0, 0)) :: ((b62, .cells #[.int .i64 n3, .int .i64 n4] 36 (0, 0)) :: ((b36, .cells #[.slice a17 l.length c18, .slice a23 l2.length c24] 26 (0, 0)) :: (Lb172 ++ (Lb178 ++ (Lb154 ++ (Lb160 ++ []))))))) rfl ?_
 refine shM_ptr rfl ?_; intro b183 hb183
 refine shM_L (L' := (b183, .cells #[.slice none 0 0, .slice none 0 0] 26 (0, 0)) :: ((b182, .cells #[.slice none 0 0, .slice none 0 0] 26 (0, 0)) :: ((b62, .cells #[.int .i64 n3, .int .i64 n4] 36 (0, 0)) :: ((b36, .cells #[.slice a17 l.length c18, .slice a23 l2.length c24] 26 (0, 0)) :: (Lb172 ++ (Lb178 ++ (Lb154 ++ (Lb160 ++ [])))))))) rfl ?_
 refine ⟨_, [(17, .pointer (some ⟨b182, 0, none⟩)), (114, .agg #[.slice a152 n156 c153, .slice a158 n162 c159])], rfl, rfl, (sc rfl (sc rfl (sn _))), by kernel_rfl, ?_⟩; intro H
 refine o_storeA (i := 1) Try.sizeOf26 rfl rfl rfl (by simp [Value.oneCell']) rfl (Nat.le_of_ble_eq_true rfl) ?_
 refine shO_L (L' := (b183, .cells #[.slice none 0 0, .slice none 0 0] 26 (0, 0)) :: ((b182, .cells #[.slice a152 n156 c153, .slice a158 n162 c159] 26 (0, 0)) :: ((b62, .cells #[.int .i64 n3, .int .i64 n4] 36 (0, 0)) :: ((b36, .cells #[.slice a17 l.length c18, .slice a23 l2.length c24] 26 (0, 0)) :: (Lb172 ++ (Lb178 ++ (Lb154 ++ (Lb160 ++ [])))))))) rfl ?_
 refine shO_nil ⟨undef, rfl, FExt.refl _, [], by kernel_rfl, .inl (.inl rfl), (fun _ h => absurd h List.not_mem_nil), ?_⟩
 refine ⟨_, [(18, .pointer (some ⟨b183, 0, none⟩)), (116, .agg #[.slice a170 n174 c171, .slice a176 n180 c177])], rfl, rfl, (sc rfl (sc rfl (sn _))), by kernel_rfl, ?_⟩; intro H
 refine o_storeA (i := 0) Try.sizeOf26 rfl rfl rfl (by simp [Value.oneCell']) rfl (Nat.le_of_ble_eq_true rfl) ?_
 refine shO_L (L' := (b183, .cells #[.slice a170 n174 c171, .slice a176 n180 c177] 26 (0, 0)) :: ((b182, .cells #[.slice a152 n156 c153, .slice a158 n162 c159] 26 (0, 0)) :: ((b62, .cells #[.int .i64 n3, .int .i64 n4] 36 (0, 0)) :: ((b36, .cells #[.slice a17 l.length c18, .slice a23 l2.length c24] 26 (0, 0)) :: (Lb172 ++ (Lb178 ++ (Lb154 ++ (Lb160 ++ [])))))))) rfl ?_
 refine shO_nil ⟨undef, rfl, FExt.refl _, [], by kernel_rfl, .inl (.inl rfl), (fun _ h => absurd h List.not_mem_nil), ?_⟩
 refine shM_nil ?_
 obtain ⟨u_hours, h186, r187⟩ := b1_ok r165; clear r165
 refine shW_join (fun e1 F1 L1 => ∃ (Lb184 : LH), F166 = F1 ∧ L1 = ((b183, .cells #[.slice a170 n174 c171, .slice a176 n180 c177] 26 (0, 0)) :: ((b182, .cells #[.slice a152 n156 c153, .slice a158 n162 c159] 26 (0, 0)) :: ((b62, .cells #[.int .i64 n3, .int .i64 n4] 36 (0, 0)) :: (Lb154 ++ (Lb184 ++ (Lb172 ++ (Lb178 ++ []))))))) ∧ e1.sub [(7, .int .i64 ((l.length : Int) - 1)), (12, .pointer (some ⟨b62, 0, none⟩)), (17, .pointer (some ⟨b182, 0, none⟩)), (18, .pointer (some ⟨b183, 0, none⟩))] ∧ NlR K.w0.heap.size 40 41 1 (iE .i64) F1 a158 n162 c159 u_hours Lb184) ?_ ?_
 · clear r187
   refine wsr ?_
   refine ov (v_fieldAddr fa_26_1 rfl) rfl ?_
   refine ov (v_load Try.isAgg24 rfl (Has.own 1 rfl) rfl) rfl ?_
   refine ov ((v_lenS Try.underlying24 rfl).i (NlR.lenI hz161)) rfl ?_
   refine om rfl rfl (shO_nil ?_)
   refine shW_block ?_
   refine kW (kc (kc (kc (kd kr)))) ?_
   obtain ⟨g190, r191⟩ := gd_ok h186; clear h186
   refine shW_lp (fun fu2 e1 F1 L1 => ∃ (k5 : Int), Ctr 0 (l6.length : Int) k5 fu2 ∧ ∃ (u_hours2 : List (List Int)) (Lb188 : LH), oyezlaw05_NightQuiet_l2 fu2 k5 u_hours2 = some u_hours ∧ F166 = F1 ∧ L1 = ((b183, .cells #[.slice a170 n174 c171, .slice a176 n180 c177] 26 (0, 0)) :: ((b182, .cells #[.slice a152 n156 c153, .slice a158 n162 c159] 26 (0, 0)) :: ((b62, .cells #[.int .i64 n3, .int .i64 n4] 36 (0, 0)) :: (Lb154 ++ (Lb188 ++ (Lb172 ++ (Lb178 ++ []))))))) ∧ e1.sub [(7, .int .i64 ((l.length : Int) - 1)), (12, .pointer (some ⟨b62, 0, none⟩)), (17, .pointer (some ⟨b182, 0, none⟩)), (18, .pointer (some ⟨b183, 0, none⟩)), (118, .slice a158 n162 c159), (119, .int .i64 (l6.length : Int)), (120, .int .i64 k5)] ∧ NlR K.w0.heap.size 40 41 1 (iE .i64) F1 a158 n162 c159 u_hours2 Lb188) _ (m0 (kc (kc (kc (kg (fS (fS fP)) (kg (fS (fS fP)) kr))))) ⟨_, Ctr.start _ _, l6, Lb160, r191, rfl, rfl, (sc rfl (sc rfl (sc rfl (sc rfl (sc rfl (sc rfl (sc rfl (sn _)))))))), hz161⟩) ?_
   rintro fu2 e1 _ _ ⟨k5, hk192, u_hours2, Lb188, r194, rfl, rfl, he195, hz189⟩
   refine shW_env _ he195 ?_; clear he195
   refine wsr ?_
   refine ov (v_lssK rfl rfl) rfl ?_
   refine shO_nil (shW_seq ?_)
   refine shW_condP rfl (fun c197 => ?_) (fun c197 => ?_)
   · obtain ⟨fu2, rfl, hk198⟩ := Ctr.succ hk192 c197
     rw [oyezlaw05_NightQuiet_l2] at r194
     refine shW_skip ?_
     obtain ⟨u_hours3, h205, r206⟩ := b1_ok r194; clear r194
     refine shW_joinF (fun e1 F1 L1 => ∃ (Lb203 : LH), F166 = F1 ∧ L1 = ((b183, .cells #[.slice a170 n174 c171, .slice a176 n180 c177] 26 (0, 0)) :: ((b182, .cells #[.slice a152 n156 c153, .slice a158 n162 c159] 26 (0, 0)) :: ((b62, .cells #[.int .i64 n3, .int .i64 n4] 36 (0, 0)) :: (Lb154 ++ (Lb203 ++ (Lb172 ++ (Lb178 ++ []))))))) ∧ e1.sub [(7, .int .i64 ((l.length : Int) - 1)), (12, .pointer (some ⟨b62, 0, none⟩)), (17, .pointer (some ⟨b182, 0, none⟩)), (18, .pointer (some ⟨b183, 0, none⟩)), (118, .slice a158 n162 c159), (119, .int .i64 (l6.length : Int)), (120, .int .i64 k5)] ∧ NlR K.w0.heap.size 40 41 1 (iE .i64) F1 a158 n162 c159 u_hours3 Lb203) ?_ ?_
     · clear r206
       refine shW_block ?_
       refine wsr ?_
       obtain ⟨x3, g207, hx208, r209⟩ := ix_ok h205; clear h205
       have hn221 := (NlR.caps hz189).1
       refine shO_open (fC (fC (fC (fS fP)))) hz189 hx208 ?_; intro hs210 Lo211 Lc212 a213 n214 c215 Lb216 hh217 hO218 hz219 hI220
       refine kO (kf (fS (fS (fS fO))) (kf (fS (fS (fS fO))) (kf (fS (fS (fS fO))) kr))) ?_
       obtain ⟨b223, o224, c225, vs226, ha227, hs228, hle229, rfl, hl230, hc231⟩ := SlR.at hdE_ok hO218 (L := (b183, .cells #[.slice a170 n174 c171, .slice a176 n180 c177] 26 (0, 0)) :: ((b182, .cells #[.slice a152 n156 c153, .slice a158 n162 c159] 26 (0, 0)) :: ((b62, .cells #[.int .i64 n3, .int .i64 n4] 36 (0, 0)) :: (Lo211 ++ (Lb216 ++ (Lc212 ++ (Lb154 ++ (Lb172 ++ (Lb178 ++ []))))))))) (fC (fC (fC fP))) g207.1 hh217
       refine ov (v_indexO Try.underlying24 Try.sizeOf40 rfl ha227 rfl (idxN hn221 g207)) rfl ?_
       refine ov (v_load Try.isAgg40 rfl hs228 (hc231 0 (by decide))) rfl ?_
       refine oa rfl rfl (nsr (om rfl rfl ?_))
       refine ov ((v_lenS Try.underlying40 rfl).i (SlR.lenI hz219)) rfl ?_
       refine om rfl rfl (shO_nil ?_)
       refine shW_block ?_
       obtain ⟨g234, r235⟩ := gd_ok r209; clear r209
       refine shW_lp (fun fu3 e1 F1 L1 => ∃ (k6 : Int), Ctr 0 (x3.length : Int) k6 fu3 ∧ ∃ (l9 : List Int) (Lb232 : LH), oyezlaw05_NightQuiet_l3 u_hours2 k5 fu3 k6 l9 = some u_hours3 ∧ F166 = F1 ∧ L1 = ((b183, .cells #[.slice a170 n174 c171, .slice a176 n180 c177] 26 (0, 0)) :: ((b182, .cells #[.slice a152 n156 c153, .slice a158 n162 c159] 26 (0, 0)) :: ((b62, .cells #[.int .i64 n3, .int .i64 n4] 36 (0, 0)) :: (Lb154 ++ (Lo211 ++ (Lb232 ++ (Lc212 ++ (Lb172 ++ (Lb178 ++ []))))))))) ∧ e1.sub [(7, .int .i64 ((l.length : Int) - 1)), (12, .pointer (some ⟨b62, 0, none⟩)), (17, .pointer (some ⟨b182, 0, none⟩)), (18, .pointer (some ⟨b183, 0, none⟩)), (20, .slice a213 n214 c215), (118, .slice a158 n162 c159), (119, .int .i64 (l6.length : Int)), (120, .int .i64 k5), (124, .slice a213 n214 c215), (125, .int .i64 (x3.length : Int)), (126, .int .i64 k6)] ∧ SlR K.w0.heap.size 41 1 (iE .i64) F1 a213 n214 c215 l9 Lb232) _ (m0 (kc (kc (kc (kg (fS (fS (fS fP))) kr)))) ⟨_, Ctr.start _ _, x3, Lb216, r235, rfl, rfl, (sc rfl (sc rfl (sc rfl (sc rfl (sc rfl (sc rfl (sc rfl (sc rfl (sc rfl (sc rfl (sc rfl (sn _)))))))))))), hz219⟩) ?_
       rintro fu3 e1 _ _ ⟨k6, hk236, l9, Lb232, r238, rfl, rfl, he239, hz233⟩
       refine shW_env _ he239 ?_; clear he239
       refine wsr ?_
       refine ov (v_lssK rfl rfl) rfl ?_
       refine shO_nil (shW_seq ?_)
       refine shW_condP rfl (fun c241 => ?_) (fun c241 => ?_)
       · obtain ⟨fu3, rfl, hk242⟩ := Ctr.succ hk236 c241
         rw [oyezlaw05_NightQuiet_l3] at r238
         refine shW_skip (shW_seq ?_)
         refine shW_block ?_
         refine wsr (om rfl rfl ?_)
         obtain ⟨x4, g243, hx244, r245⟩ := ix_ok r238; clear r238
         obtain ⟨b246, o247, c248, vs249, ha250, hs251, hle252, rfl, hl253, hc254⟩ := SlR.at (iE_ok _) hz233 (L := (b183, .cells #[.slice a170 n174 c171, .slice a176 n180 c177] 26 (0, 0)) :: ((b182, .cells #[.slice a152 n156 c153, .slice a158 n162 c159] 26 (0, 0)) :: ((b62, .cells #[.int .i64 n3, .int .i64 n4] 36 (0, 0)) :: (Lb154 ++ (Lo211 ++ (Lb232 ++ (Lc212 ++ (Lb172 ++ (Lb178 ++ []))))))))) (fC (fC (fC (fS (fS fP))))) g243.1 hx244
         refine ov (v_indexO Try.underlying40 Try.sizeOf41 rfl ha250 rfl (SlR.idx hz233 g243)) rfl ?_
         refine ov (v_load Try.isAgg41 rfl hs251 (hc254 0 (by decide))) rfl ?_
         refine oa rfl rfl (oa rfl rfl (nsr (om rfl rfl ?_)))
         refine ov (v_eql rfl rfl) rfl ?_
         refine shO_nil ?_
         refine shW_condP rfl (fun c255 => ?_) (fun c255 => ?_)
         · have r256 := ite_t r245 c255; clear r245
           refine shW_region (om rfl rfl (om rfl rfl ?_))
           obtain ⟨b257, o258, c259, vs260, ha261, hs262, hle263, rfl, hl264, hc265⟩ := SlR.at (iE_ok _) hz233 (L := (b183, .cells #[.slice a170 n174 c171, .slice a176 n180 c177] 26 (0, 0)) :: ((b182, .cells #[.slice a152 n156 c153, .slice a158 n162 c159] 26 (0, 0)) :: ((b62, .cells #[.int .i64 n3, .int .i64 n4] 36 (0, 0)) :: (Lb154 ++ (Lo211 ++ (Lb232 ++ (Lc212 ++ (Lb172 ++ (Lb178 ++ []))))))))) (fC (fC (fC (fS (fS fP))))) g243.1 hx244
           refine ov (v_indexO Try.underlying40 Try.sizeOf41 rfl ha261 rfl (SlR.idx hz233 g243)) rfl ?_
           obtain ⟨r2, h266, r267⟩ := bv_ok r256; clear r256
           refine o_storeZ (u := 1) Try.sizeOf41 (iE_ok _) rfl ha261 rfl rfl (fun _ => .c (.c (.c (.s (.s .h))))) hz233 h266 g243 ?_; intro Lb268 hz269
           refine shO_nil (inBlock_n (id := 5) (shW_region ?_))
           refine ov (v_add rfl rfl (Ctr.r64 hk236 c241 g234)) rfl ?_
           refine om rfl rfl (shO_nil ?_)
           exact le kr ⟨_, hk242, r2, Lb268, r267, rfl, rfl, (sc rfl (sc rfl (sc rfl (sc rfl (sc rfl (sc rfl (sc rfl (sc rfl (sc rfl (sc rfl (sc rfl (sn _)))))))))))), hz269⟩
         have r270 := ite_f r245 c255; clear r245
         refine shW_skip (inBlock_n (id := 5) (shW_region ?_))
         refine ov (v_add rfl rfl (Ctr.r64 hk236 c241 g234)) rfl ?_
         refine om rfl rfl (shO_nil ?_)
         exact le kr ⟨_, hk242, l9, Lb232, r270, rfl, rfl, (sc rfl (sc rfl (sc rfl (sc rfl (sc rfl (sc rfl (sc rfl (sc rfl (sc rfl (sc rfl (sc rfl (sn _)))))))))))), hz233⟩
       obtain rfl := Ctr.zero hk236 c241
       rw [oyezlaw05_NightQuiet_l3] at r238
       refine shW_exit (andThen_exit (andThen_exit ?_))
       refine inBlock_exit ?_
       refine inBlock_n (id := 3) ?_
       obtain ⟨u2, h271, r272⟩ := bv_ok r238; clear r238
       refine shmz_fold (p := fun X => NlR K.w0.heap.size 40 41 1 (iE .i64) F166 a158 n162 c159 u2 X) (InH.back0 hI220 hO218 hh217 hz233 h271) (pT ((fC (fC (fC (fS fP)))).trans (pA ((fC (fC (fC (fS fP)))).trans (pA ((fC (fC (fC (fS fP)))).trans (pA pR)))))) (lp (lp (lp (ln rfl))))) ?_; intro Lb273 hz274
       obtain rfl := inj1 r272
       exact mf (kf (fS fO) (kf (fS fO) (kf (fS fO) (kg (fS fP) kr)))) ⟨Lb273, rfl, rfl, (sc rfl (sc rfl (sc rfl (sc rfl (sc rfl (sc rfl (sc rfl (sn _)))))))), hz274⟩
     rintro e1 _ _ ⟨Lb203, rfl, rfl, he275, hz204⟩
     refine shW_env _ he275 ?_; clear he275
     refine shW_region ?_
     refine ov (v_add rfl rfl (Ctr.r64 hk192 c197 g190)) rfl ?_
     refine om rfl rfl (shO_nil ?_)
     exact le kr ⟨_, hk198, u_hours3, Lb203, r206, rfl, rfl, (sc rfl (sc rfl (sc rfl (sc rfl (sc rfl (sc rfl (sc rfl (sn _)))))))), hz204⟩
   obtain rfl := Ctr.zero hk192 c197
   rw [oyezlaw05_NightQuiet_l2] at r194
   refine shW_exit (andThen_exit (andThen_exit ?_))
   refine inBlock_exit ?_
   obtain rfl := inj1 r194
   exact mi kr ⟨Lb188, rfl, rfl, (sc rfl (sc rfl (sc rfl (sc rfl (sn _))))), hz189⟩
 rintro e1 _ _ ⟨Lb184, rfl, rfl, he276, hz185⟩
 refine shW_env _ he276 ?_; clear he276
 obtain ⟨v_hours, h279, r280⟩ := b1_ok r187; clear r187
 refine shW_join (fun e1 F1 L1 => ∃ (Lb277 : LH), F166 = F1 ∧ L1 = ((b183, .cells #[.slice a170 n174 c171, .slice a176 n180 c177] 26 (0, 0)) :: ((b182, .cells #[.slice a152 n156 c153, .slice a158 n162 c159] 26 (0, 0)) :: ((b62, .cells #[.int .i64 n3, .int .i64 n4] 36 (0, 0)) :: (Lb154 ++ (Lb184 ++ (Lb172 ++ (Lb277 ++ []))))))) ∧ e1.sub [(7, .int .i64 ((l.length : Int) - 1)), (12, .pointer (some ⟨b62, 0, none⟩)), (17, .pointer (some ⟨b182, 0, none⟩)), (18, .pointer (some ⟨b183, 0, none⟩))] ∧ NlR K.w0.heap.size 40 41 1 (iE .i64) F1 a176 n180 c177 v_hours Lb277) ?_ ?_
 · clear r280
   refine wsr ?_
   refine ov (v_fieldAddr fa_26_1 rfl) rfl ?_
   refine ov (v_load Try.isAgg24 rfl (Has.own 0 rfl) rfl) rfl ?_
   refine ov ((v_lenS Try.underlying24 rfl).i (NlR.lenI hz179)) rfl ?_
   refine om rfl rfl (shO_nil ?_)
   refine shW_block ?_
   obtain ⟨g283, r284⟩ := gd_ok h279; clear h279
   refine shW_lp (fun fu4 e1 F1 L1 => ∃ (k7 : Int), Ctr 0 (l8.length : Int) k7 fu4 ∧ ∃ (v_hours2 : List (List Int)) (Lb281 : LH), oyezlaw05_NightQuiet_l4 l fu4 k7 v_hours2 = some v_hours ∧ F166 = F1 ∧ L1 = ((b183, .cells #[.slice a170 n174 c171, .slice a176 n180 c177] 26 (0, 0)) :: ((b182, .cells #[.slice a152 n156 c153, .slice a158 n162 c159] 26 (0, 0)) :: ((b62, .cells #[.int .i64 n3, .int .i64 n4] 36 (0, 0)) :: (Lb154 ++ (Lb184 ++ (Lb172 ++ (Lb281 ++ []))))))) ∧ e1.sub [(7, .int .i64 ((l.length : Int) - 1)), (12, .pointer (some ⟨b62, 0, none⟩)), (17, .pointer (some ⟨b182, 0, none⟩)), (18, .pointer (some ⟨b183, 0, none⟩)), (139, .slice a176 n180 c177), (140, .int .i64 (l8.length : Int)), (141, .int .i64 k7)] ∧ NlR K.w0.heap.size 40 41 1 (iE .i64) F1 a176 n180 c177 v_hours2 Lb281) _ (m0 kr ⟨_, Ctr.start _ _, l8, Lb178, r284, rfl, rfl, (sc rfl (sc rfl (sc rfl (sc rfl (sc rfl (sc rfl (sc rfl (sn _)))))))), hz179⟩) ?_
   rintro fu4 e1 _ _ ⟨k7, hk285, v_hours2, Lb281, r287, rfl, rfl, he288, hz282⟩
   refine shW_env _ he288 ?_; clear he288
   refine wsr ?_
   refine ov (v_lssK rfl rfl) rfl ?_
   refine shO_nil (shW_seq ?_)
   refine shW_condP rfl (fun c290 => ?_) (fun c290 => ?_)
   · obtain ⟨fu4, rfl, hk291⟩ := Ctr.succ hk285 c290
     rw [oyezlaw05_NightQuiet_l4] at r287
     refine shW_skip (shW_seq ?_)
     refine shW_block ?_
     refine wsr ?_
     obtain ⟨x5, g292, hx293, r294⟩ := ix_ok r287; clear r287
     have hn306 := (NlR.caps hz282).1
     refine shO_open (fC (fC (fC (fS (fS (fS fP)))))) hz282 hx293 ?_; intro hs295 Lo296 Lc297 a298 n299 c300 Lb301 hh302 hO303 hz304 hI305
     refine kO (kf (fS (fS (fS fO))) (kf (fS (fS (fS fO))) (kf (fS (fS (fS fO))) kr))) ?_
     obtain ⟨b308, o309, c310, vs311, ha312, hs313, hle314, rfl, hl315, hc316⟩ := SlR.at hdE_ok hO303 (L := (b183, .cells #[.slice a170 n174 c171, .slice a176 n180 c177] 26 (0, 0)) :: ((b182, .cells #[.slice a152 n156 c153, .slice a158 n162 c159] 26 (0, 0)) :: ((b62, .cells #[.int .i64 n3, .int .i64 n4] 36 (0, 0)) :: (Lo296 ++ (Lb301 ++ (Lc297 ++ (Lb154 ++ (Lb184 ++ (Lb172 ++ []))))))))) (fC (fC (fC fP))) g292.1 hh302
     refine ov (v_indexO Try.underlying24 Try.sizeOf40 rfl ha312 rfl (idxN hn306 g292)) rfl ?_
     refine ov (v_load Try.isAgg40 rfl hs313 (hc316 0 (by decide))) rfl ?_
     refine oa rfl rfl (shO_nil (shW_region (om rfl rfl (om rfl rfl ?_))))
     obtain ⟨x6, g317, hx318, r319⟩ := ix_ok r294; clear r294
     obtain ⟨b320, o321, c322, vs323, ha324, hs325, hle326, rfl, hl327, hc328⟩ := SlR.at (iE_ok _) hz304 (L := (b183, .cells #[.slice a170 n174 c171, .slice a176 n180 c177] 26 (0, 0)) :: ((b182, .cells #[.slice a152 n156 c153, .slice a158 n162 c159] 26 (0, 0)) :: ((b62, .cells #[.int .i64 n3, .int .i64 n4] 36 (0, 0)) :: (Lo296 ++ (Lb301 ++ (Lc297 ++ (Lb154 ++ (Lb184 ++ (Lb172 ++ []))))))))) (fC (fC (fC (fS fP)))) g317.1 hx318
     refine ov (v_indexO Try.underlying40 Try.sizeOf41 rfl ha324 rfl (SlR.idx hz304 g317)) rfl ?_
     obtain ⟨r3, h329, r330⟩ := bv_ok r319; clear r319
     refine o_storeZ (u := 0) Try.sizeOf41 (iE_ok _) rfl ha324 rfl rfl (fun _ => .c (.c (.c (.s .h)))) hz304 h329 g317 ?_; intro Lb331 hz332
     obtain ⟨v, h333, r334⟩ := bv_ok r330; clear r330
     refine shO_fold (p := fun X => NlR K.w0.heap.size 40 41 1 (iE .i64) F166 a176 n180 c177 v X) (InH.back0 hI305 hO303 hh302 hz332 h333) (pT ((fC (fC (fC fP))).trans (pA ((fC (fC (fC fP))).trans (pA ((fC (fC (fC fP))).trans (pA pR)))))) (lp (lp (lp (ln rfl))))) ?_; intro Lb335 hz336
     refine kO (kf (fS fO) (kf (fS fO) (kf (fS fO) kr))) ?_
     refine shO_nil (inBlock_n (id := 7) (shW_region ?_))
     refine ov (v_add rfl rfl (Ctr.r64 hk285 c290 g283)) rfl ?_
     refine om rfl rfl (shO_nil ?_)
     exact le (kc (kc (kc (kg (fS fP) (kg (fS fP) (kg (fS fP) kr)))))) ⟨_, hk291, v, Lb335, r334, rfl, rfl, (sc rfl (sc rfl (sc rfl (sc rfl (sc rfl (sc rfl (sc rfl (sn _)))))))), hz336⟩
   obtain rfl := Ctr.zero hk285 c290
   rw [oyezlaw05_NightQuiet_l4] at r287
   refine shW_exit (andThen_exit (andThen_exit ?_))
   refine inBlock_exit ?_
   obtain rfl := inj1 r287
   exact mi kr ⟨Lb281, rfl, rfl, (sc rfl (sc rfl (sc rfl (sc rfl (sn _))))), hz282⟩
 rintro e1 _ _ ⟨Lb277, rfl, rfl, he337, hz278⟩
 refine shW_env _ he337 ?_; clear he337
 refine wsr ?_
 refine ov (v_loadA (cs := #[.slice a152 n156 c153, .slice a158 n162 c159]) Try.isAgg26 Try.sizeOf26 rfl (Has.own 1 rfl) (Nat.le_of_ble_eq_true rfl) rfl) rfl ?_
 obtain rfl := (NlR.caps hz155).1
 refine shO_freezeN (Nat.le_refl _) (iE_ok _) (fC (fC (fC fP))) hz155 ?_; intro F338 hF339 h340
 replace hz185 := hz185.mono (iE_ok _) hF339
 replace hz173 := hz173.mono (iE_ok _) hF339
 replace hz278 := hz278.mono (iE_ok _) hF339
 obtain rfl := (NlR.caps hz185).1
 refine shO_freezeN (Nat.le_refl _) (iE_ok _) (fC (fC (fC fP))) hz185 ?_; intro F341 hF342 h343
 replace h340 := h340.mono (slE_ok (iE_ok _)) hF342
 replace hz173 := hz173.mono (iE_ok _) hF342
 replace hz278 := hz278.mono (iE_ok _) hF342
 obtain ⟨l10, n6, h344, r345⟩ := b2_ok r280; clear r280
 refine o_call0 rfl Try.call17 rfl rfl rfl (night_Men_w h340 h343 h344) ?_; rintro _ F346 _ hF347 hn348 ⟨a350, c351, rfl, rfl, h352⟩
 replace h340 := h340.mono (slE_ok (iE_ok _)) hF347
 replace h343 := h343.mono (slE_ok (iE_ok _)) hF347
 replace hz173 := hz173.mono (iE_ok _) hF347
 replace hz278 := hz278.mono (iE_ok _) hF347
 refine shO_L (ln rfl) ?_
 refine om rfl rfl (ox rfl rfl rfl (ox rfl rfl rfl (oa rfl rfl (oa rfl rfl (nsr ?_)))))
 refine ov (v_loadA (cs := #[.slice a152 l5.length c153, .slice a158 u_hours.length c159]) Try.isAgg26 Try.sizeOf26 rfl (Has.own 1 rfl) (Nat.le_of_ble_eq_true rfl) rfl) rfl ?_
 obtain ⟨l11, n7, n8, h353, r354⟩ := b3_ok r345; clear r345
 refine o_call0 rfl Try.call14 rfl rfl rfl (night_Fewest_w h340 h343 h353) ?_; rintro _ F355 _ hF356 hn357 ⟨a359, n363, c360, Lb361, rfl, rfl, hz362⟩
 replace hz173 := hz173.mono (iE_ok _) hF356
 replace hz278 := hz278.mono (iE_ok _) hF356
 refine shO_L (lp (ln rfl)) ?_
 refine kO (kf (fS fO) (kf (fS fO) (kf (fS fO) kr))) ?_
 refine om rfl rfl (ox rfl rfl rfl (ox rfl rfl rfl (ox rfl rfl rfl (oa rfl rfl (oa rfl rfl (oa rfl rfl (nsr ?_)))))))
 refine ov (v_loadA (cs := #[.slice a170 n174 c171, .slice a176 n180 c177]) Try.isAgg26 Try.sizeOf26 rfl (Has.own 0 rfl) (Nat.le_of_ble_eq_true rfl) rfl) rfl ?_
 refine om rfl rfl ?_
 obtain ⟨n9, n10, n11, h365, r366⟩ := b3_ok r354; clear r354
 refine o_callT (Lt := Lb172 ++ (Lb277 ++ [])) (Lr := (b183, .cells #[.slice a170 n174 c171, .slice a176 n180 c177] 26 (0, 0)) :: ((b182, .cells #[.slice a152 l5.length c153, .slice a158 u_hours.length c159] 26 (0, 0)) :: ((b62, .cells #[.int .i64 n3, .int .i64 n4] 36 (0, 0)) :: (Lb361 ++ [])))) rfl Try.call15 rfl rfl rfl (pT ((fC (fC (fC (fS fP)))).trans (pA ((fC (fC (fC (fS fP)))).trans (pA pR)))) (lp (lp (ln rfl)))) (fun F2 h2 h3 => by rw [(NlR.caps hz173).1]; rw [(NlR.caps hz278).1]; exact night_Most_w (hz173.row (iE_ok _) h2 (fun p hp => h3 p (List.mem_append_left _ hp))) (hz278.row (iE_ok _) h2 (fun p hp => h3 p (List.mem_append_right _ (List.mem_append_left _ hp)))) h365) ?_
 refine om rfl rfl (ox rfl rfl rfl (ox rfl rfl rfl ?_))
 refine o_storeA (i := 2) Try.sizeOf36 rfl rfl rfl (by simp [Value.oneCell']) rfl (Nat.le_of_ble_eq_true rfl) ?_
 refine shO_L (L' := (b183, .cells #[.slice a170 n174 c171, .slice a176 n180 c177] 26 (0, 0)) :: ((b182, .cells #[.slice a152 l5.length c153, .slice a158 u_hours.length c159] 26 (0, 0)) :: ((b62, .cells #[.int .i64 n9, .int .i64 n10] 36 (0, 0)) :: (Lb361 ++ (Lb172 ++ (Lb277 ++ [])))))) rfl ?_
 refine oa rfl rfl (nsr (om rfl rfl ?_))
 refine ov (v_eql rfl rfl) rfl ?_
 refine om rfl rfl ?_
 by_cases c367 : n6 = 0
 · have r368 := ite_t r366 c367; clear r366
   refine shO_on (b := true) 168 rfl (Env.isT rfl c367) (om rfl rfl (shO_on (b := true) 168 rfl (Env.isT rfl c367) ?_))
   refine ov (v_eql rfl rfl) rfl ?_
   refine ov (v_pick_t (evD_true rfl c367) rfl) rfl ?_
   refine om rfl rfl ?_
   by_cases c369 : n8 = 0
   · have r370 := ite_t r368 c369; clear r368
     refine shO_on (b := true) 172 rfl (Env.isT rfl c369) (om rfl rfl (shO_on (b := true) 172 rfl (Env.isT rfl c369) ?_))
     refine ov (v_eql rfl rfl) rfl ?_
     refine ov (v_pick_t (evD_true rfl c369) rfl) rfl ?_
     refine om rfl rfl ?_
     by_cases c371 : n11 = 0
     · have r372 := ite_t r370 c371; clear r370
       refine shO_on (b := true) 176 rfl (Env.isT rfl c371) (om rfl rfl (shO_on (b := true) 176 rfl (Env.isT rfl c371) ?_))
       refine ov (v_lenS Try.underlying27 rfl) rfl ?_
       refine shO_on (b := true) 176 rfl (Env.isT rfl c371) ?_
       refine ov (v_eql rfl rfl) rfl ?_
       refine ov (v_pick_t (evD_true rfl c371) rfl) rfl ?_
       refine om rfl rfl ?_
       by_cases c373 : (l10.length : Int) = 0
       · have r374 := ite_t r372 c373; clear r372
         refine shO_on (b := true) 181 rfl (Env.isT rfl c373) (om rfl rfl (shO_on (b := true) 181 rfl (Env.isT rfl c373) ?_))
         refine ov (v_eql rfl rfl) rfl ?_
         refine ov (v_pick_t (evD_true rfl c373) rfl) rfl ?_
         refine om rfl rfl ?_
         by_cases c375 : n7 = 0
         · have r376 := ite_t r374 c375; clear r374
           refine shO_on (b := true) 185 rfl (Env.isT rfl c375) ?_
           refine ov (v_loadA (cs := #[.int .i64 n9, .int .i64 n10]) Try.isAgg36 Try.sizeOf36 rfl (Has.own 2 rfl) (Nat.le_of_ble_eq_true rfl) rfl) rfl ?_
           refine shO_on (b := true) 185 rfl (Env.isT rfl c375) ?_
           refine ov (v_build (v := .agg #[.int .i64 0, .int .i64 0]) rfl (by intro w; kernel_rfl)) rfl ?_
           refine shO_on (b := true) 185 rfl (Env.isT rfl c375) ?_
           refine ov (v_eqA (eqg_36 _ _ _ _) (eq_36 _ _ _ _) rfl rfl) rfl ?_
           refine ov (v_pick_t (evD_true rfl c375) rfl) rfl ?_
           refine om rfl rfl ?_
           by_cases c377 : n9 = 0 ∧ n10 = 0
           · have r378 := ite_t r376 c377; clear r376
             refine shO_on (b := true) 190 rfl (Env.isT rfl c377) ?_
             obtain ⟨ok, h379, r380⟩ := b1_ok r378; clear r378
             refine o_callV rfl Try.call18 rfl rfl rfl (oyezlaw05_awake_w h379) ?_
             refine ov (v_pick_t (evD_true rfl c377) rfl) rfl ?_
             refine oa rfl rfl (shO_nil ?_)
             refine kW kn ?_
             refine shW_ret ?_
             refine q_res1 Try.results3 (res_tmp rfl) (sr) ?_
             obtain rfl := inj1 r380
             exact rfl
           have r381 := ite_f r376 c377; clear r376
           refine shO_off (b' := false) 190 rfl (Env.isF rfl c377) rfl rfl ?_
           refine ov (v_pick_f (evD_false rfl c377) rfl) rfl ?_
           refine oa rfl rfl (shO_nil ?_)
           refine kW kn ?_
           refine shW_ret ?_
           refine q_res1 Try.results3 (res_tmp rfl) (sr) ?_
           obtain rfl := inj1 r381
           exact rfl
         have r382 := ite_f r374 c375; clear r374
         refine shO_off (b' := false) 185 rfl (Env.isF rfl c375) rfl rfl (shO_off (b' := false) 185 rfl (Env.isF rfl c375) rfl rfl (shO_off (b' := false) 185 rfl (Env.isF rfl c375) rfl rfl ?_))
         refine ov (v_pick_f (evD_false rfl c375) rfl) rfl ?_
         refine om rfl rfl (shO_off (b' := false) 190 rfl rfl rfl rfl ?_)
         refine ov (v_pick_f rfl rfl) rfl ?_
         refine oa rfl rfl (shO_nil ?_)
         refine kW kn ?_
         refine shW_ret ?_
         refine q_res1 Try.results3 (res_tmp rfl) (sr) ?_
         obtain rfl := inj1 r382
         exact rfl
       have r383 := ite_f r372 c373; clear r372
       refine shO_off (b' := false) 181 rfl (Env.isF rfl c373) rfl rfl (shO_off (b' := false) 181 rfl (Env.isF rfl c373) rfl rfl ?_)
       refine ov (v_pick_f (evD_false rfl c373) rfl) rfl ?_
       refine om rfl rfl (shO_off (b' := false) 185 rfl rfl rfl rfl (shO_off (b' := false) 185 rfl rfl rfl rfl (shO_off (b' := false) 185 rfl rfl rfl rfl ?_)))
       refine ov (v_pick_f rfl rfl) rfl ?_
       refine om rfl rfl (shO_off (b' := false) 190 rfl rfl rfl rfl ?_)
       refine ov (v_pick_f rfl rfl) rfl ?_
       refine oa rfl rfl (shO_nil ?_)
       refine kW kn ?_
       refine shW_ret ?_
       refine q_res1 Try.results3 (res_tmp rfl) (sr) ?_
       obtain rfl := inj1 r383
       exact rfl
     have r384 := ite_f r370 c371; clear r370
     refine shO_off (b' := false) 176 rfl (Env.isF rfl c371) rfl rfl (shO_off (b' := false) 176 rfl (Env.isF rfl c371) rfl rfl (shO_off (b' := false) 176 rfl (Env.isF rfl c371) rfl rfl ?_))
     refine ov (v_pick_f (evD_false rfl c371) rfl) rfl ?_
     refine om rfl rfl (shO_off (b' := false) 181 rfl rfl rfl rfl (shO_off (b' := false) 181 rfl rfl rfl rfl ?_))
     refine ov (v_pick_f rfl rfl) rfl ?_
     refine om rfl rfl (shO_off (b' := false) 185 rfl rfl rfl rfl (shO_off (b' := false) 185 rfl rfl rfl rfl (shO_off (b' := false) 185 rfl rfl rfl rfl ?_)))
     refine ov (v_pick_f rfl rfl) rfl ?_
     refine om rfl rfl (shO_off (b' := false) 190 rfl rfl rfl rfl ?_)
     refine ov (v_pick_f rfl rfl) rfl ?_
     refine oa rfl rfl (shO_nil ?_)
     refine kW kn ?_
     refine shW_ret ?_
     refine q_res1 Try.results3 (res_tmp rfl) (sr) ?_
     obtain rfl := inj1 r384
     exact rfl
   have r385 := ite_f r368 c369; clear r368
   refine shO_off (b' := false) 172 rfl (Env.isF rfl c369) rfl rfl (shO_off (b' := false) 172 rfl (Env.isF rfl c369) rfl rfl ?_)
   refine ov (v_pick_f (evD_false rfl c369) rfl) rfl ?_
   refine om rfl rfl (shO_off (b' := false) 176 rfl rfl rfl rfl (shO_off (b' := false) 176 rfl rfl rfl rfl (shO_off (b' := false) 176 rfl rfl rfl rfl ?_)))
   refine ov (v_pick_f rfl rfl) rfl ?_
   refine om rfl rfl (shO_off (b' := false) 181 rfl rfl rfl rfl (shO_off (b' := false) 181 rfl rfl rfl rfl ?_))
   refine ov (v_pick_f rfl rfl) rfl ?_
   refine om rfl rfl (shO_off (b' := false) 185 rfl rfl rfl rfl (shO_off (b' := false) 185 rfl rfl rfl rfl (shO_off (b' := false) 185 rfl rfl rfl rfl ?_)))
   refine ov (v_pick_f rfl rfl) rfl ?_
   refine om rfl rfl (shO_off (b' := false) 190 rfl rfl rfl rfl ?_)
   refine ov (v_pick_f rfl rfl) rfl ?_
   refine oa rfl rfl (shO_nil ?_)
   refine kW kn ?_
   refine shW_ret ?_
   refine q_res1 Try.results3 (res_tmp rfl) (sr) ?_
   obtain rfl := inj1 r385
   exact rfl
 have r386 := ite_f r366 c367; clear r366
 refine shO_off (b' := false) 168 rfl (Env.isF rfl c367) rfl rfl (shO_off (b' := false) 168 rfl (Env.isF rfl c367) rfl rfl ?_)
 refine ov (v_pick_f (evD_false rfl c367) rfl) rfl ?_
 refine om rfl rfl (shO_off (b' := false) 172 rfl rfl rfl rfl (shO_off (b' := false) 172 rfl rfl rfl rfl ?_))
 refine ov (v_pick_f rfl rfl) rfl ?_
 refine om rfl rfl (shO_off (b' := false) 176 rfl rfl rfl rfl (shO_off (b' := false) 176 rfl rfl rfl rfl (shO_off (b' := false) 176 rfl rfl rfl rfl ?_)))
 refine ov (v_pick_f rfl rfl) rfl ?_
 refine om rfl rfl (shO_off (b' := false) 181 rfl rfl rfl rfl (shO_off (b' := false) 181 rfl rfl rfl rfl ?_))
 refine ov (v_pick_f rfl rfl) rfl ?_
 refine om rfl rfl (shO_off (b' := false) 185 rfl rfl rfl rfl (shO_off (b' := false) 185 rfl rfl rfl rfl (shO_off (b' := false) 185 rfl rfl rfl rfl ?_)))
 refine ov (v_pick_f rfl rfl) rfl ?_
 refine om rfl rfl (shO_off (b' := false) 190 rfl rfl rfl rfl ?_)
 refine ov (v_pick_f rfl rfl) rfl ?_
 refine oa rfl rfl (shO_nil ?_)
 refine kW kn ?_
 refine shW_ret ?_
 refine q_res1 Try.results3 (res_tmp rfl) (sr) ?_
 obtain rfl := inj1 r386
 exact rfl
end Go.Proofs.Ytjgeaaganpkceaa
