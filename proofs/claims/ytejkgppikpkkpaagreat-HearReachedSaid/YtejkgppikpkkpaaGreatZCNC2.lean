/- The walks that this claim needs, printed by a program of mine; part 2. -/
import Derived.Test.YtejkgppikpkkpaaGreatZCNC1
namespace Go.Proofs.YtejkgppikpkkpaaGreat
open Go.SH Go.PL
set_option maxHeartbeats 1000000 in
theorem hear_Way_w {wide : Int} {plots_a : Option Addr} {plots_c : Nat} {plots : List Int} {wind : Int} {stand : Int} {plot : Int} {F : FS} (h_plots : RowR 1 (iE .i64) F plots_a plots_c plots) {r : List Int} {r2 : Int} (hr : hear_Way wide plots wind stand plot = some (r, r2)) :
    SH.Spec Tryz.prog 37 #[.agg #[.int .i64 wide, .slice plots_a plots.length plots_c], .int .i64 wind, .int .i64 stand, .int .i64 plot] F [] fun F' L' v => ∃ (ra : Option Addr) (rn : Nat) (rc : Nat) (rL : LH), v = .tuple #[.slice ra rn rc, .int .i64 r2] ∧ L' = rL ++ [] ∧ SlR 0 3 1 (iE .i64) F' ra rn rc r rL := by
 refine spec_of_shW (args := [.agg #[.int .i64 wide, .slice plots_a plots.length plots_c], .int .i64 wind, .int .i64 stand, .int .i64 plot]) Tryz.func37 rfl Tryz.ntmps37 (Nat.le_of_ble_eq_true rfl) ?_
 intro K _ _; rw [hear_Way] at hr
 refine wsr ?_
 refine o_box rfl rfl ?_; intro b1 hb1
 refine oa rfl rfl (oa rfl rfl (shO_nil (shW_seq (wsr ?_))))
 refine ov (v_loadA (cs := #[.int .i64 wide, .slice plots_a plots.length plots_c]) Tryz.isAgg24 Tryz.sizeOf24 rfl (Has.own 0 rfl) (Nat.le_of_ble_eq_true rfl) rfl) rfl ?_
 refine om rfl rfl (om rfl rfl (om rfl rfl ?_))
 obtain ⟨n, n2, h2, r3⟩ := b2_ok hr; clear hr
 refine o_callV rfl Tryz.call38 rfl rfl rfl (hear_Need_w h_plots h2) ?_
 refine om rfl rfl (ox rfl rfl rfl (ox rfl rfl rfl (oa rfl rfl (oa rfl rfl (nsr (om rfl rfl ?_))))))
 refine ov (v_neq rfl rfl) rfl ?_
 refine shO_nil ?_
 refine shW_condP rfl (fun c4 => ?_) (fun c4 => ?_)
 · have r5 := ite_t r3 c4; clear r3
   refine wsr (om rfl rfl (oa rfl rfl (oa rfl rfl (shO_nil ?_))))
   refine kW kn ?_
   refine shW_ret (andThen_ret ?_)
   refine q_res2 Tryz.results37 (res_tmp rfl) (res_tmp rfl) (sr) ?_
   obtain ⟨rfl, rfl⟩ := inj2 r5
   exact ⟨_, _, _, [], rfl, rfl, SlR.nil _ _ _ _ _⟩
 have r6 := ite_f r3 c4; clear r3
 refine shW_skip (wsr ?_)
 refine ov (v_loadA (cs := #[.int .i64 wide, .slice plots_a plots.length plots_c]) Tryz.isAgg24 Tryz.sizeOf24 rfl (Has.own 0 rfl) (Nat.le_of_ble_eq_true rfl) rfl) rfl ?_
 refine om rfl rfl ?_
 obtain ⟨d, n3, h7, r8⟩ := b2_ok r6; clear r6
 refine o_call0 rfl Tryz.call84 rfl rfl rfl (hear_opened_w h_plots h7) ?_; rintro _ F9 _ hF10 hn11 ⟨v13, rfl, rfl, hp14⟩
 replace h_plots := h_plots.mono (iE_ok _) hF10
 refine shO_L (ln rfl) ?_
 refine om rfl rfl (ox rfl rfl rfl (ox rfl rfl rfl (oa rfl rfl (oa rfl rfl (nsr (om rfl rfl (om rfl rfl ?_)))))))
 obtain ⟨wide2, plots2, down, right_, blows, h15, r16⟩ := b5_ok r8; clear r8
 have h25 := hp14; rw [h15] at h25; obtain ⟨b17, c18, m19, hv20, hz21, ⟨_, _, rfl, rfl, ⟨_, _, rfl, ⟨a22, c23, rfl, h24⟩, ⟨_, _, rfl, rfl, ⟨_, _, rfl, rfl, rfl⟩⟩⟩⟩⟩ := h25; subst hv20
 have hz21 : F9 b17 = some (.cells #[.int .i64 wide2, .slice a22 plots2.length c23, .int .i64 down, .int .i64 right_, .bool blows] 142 m19) := hz21
 obtain ⟨l, h26, r27⟩ := b1_ok r16; clear r16
 refine o_call0 rfl Tryz.call81 rfl rfl rfl (hear_desk_from_w hz21 h24 h26) ?_; rintro _ F28 _ hF29 hn30 ⟨a32, n36, c33, Lb34, rfl, rfl, hz35⟩
 replace h_plots := h_plots.mono (iE_ok _) hF29
 replace h24 := h24.mono (iE_ok _) hF29
 replace hz21 := hF29 _ _ hz21
 replace hz35 := hz35.new fun p hp => hn30 p (by simp [hp])
 refine shO_L (lp (ln rfl)) ?_
 refine kO (kf (fS fO) kr) ?_
 refine o_alloc rfl Tryz.zeroValue28 ?_; intro b38 hb38
 refine o_store (i := 0) Tryz.sizeOf28 rfl rfl rfl rfl (Nat.le_of_ble_eq_true rfl) ?_
 refine shO_L (L' := (b38, .cells #[.slice a32 n36 c33] 28 (0, 0)) :: ((b1, .cells #[.int .i64 wide, .slice plots_a plots.length plots_c] 24 (0, 0)) :: (Lb34 ++ []))) rfl ?_
 refine nsr (om rfl rfl ?_)
 refine o_buildSlice (cs := #[.int .i64 plot]) rfl rfl (buildSlice_all slt_28 [.int .i64 plot] rfl (by decide) (by simp [Value.cells]) (by decide)) ?_; intro b39 hb39
 have hz41 : SlR K.w0.heap.size 3 1 (iE .i64) F28 (some ⟨b39, 0, none⟩) 1 1 [plot] [(b39, .cells #[.int .i64 plot] 3 (0, 0))] := SlR.of_block (vss := [[.int .i64 plot]]) (iE_ok _) hb39 (.cons rfl .nil) rfl rfl (by simp [maxLen])
 generalize hLLb40 : ([(b39, .cells #[.int .i64 plot] 3 (0, 0))] : LH) = Lb40 at hz41
 refine shO_perm (L' := Lb40 ++ ((b38, .cells #[.slice a32 n36 c33] 28 (0, 0)) :: ((b1, .cells #[.int .i64 wide, .slice plots_a plots.length plots_c] 24 (0, 0)) :: (Lb34 ++ [])))) (by rw [← hLLb40]; exact fO) ?_
 refine shO_perm (L' := (b38, .cells #[.slice a32 n36 c33] 28 (0, 0)) :: ((b1, .cells #[.int .i64 wide, .slice plots_a plots.length plots_c] 24 (0, 0)) :: (Lb40 ++ (Lb34 ++ [])))) (List.Perm.symm (fC (fC fP))) ?_
 refine oa rfl rfl (shO_nil ?_)
 obtain ⟨out, h49, r50⟩ := b1_ok r27; clear r27
 refine shW_join (fun e1 F1 L1 => ∃ (a43 : Option Addr) (n47 : Nat) (c44 : Nat) (Lb45 : LH), FExt F28 F1 ∧ L1 = (Lb45 ++ []) ∧ e1.sub [(15, .slice a43 n47 c44)] ∧ SlR K.w0.heap.size 3 1 (iE .i64) F1 a43 n47 c44 out Lb45) ?_ ?_
 · clear r50
   refine wsr (om rfl rfl ?_)
   refine o_alloc rfl Tryz.zeroValue3 ?_; intro b51 hb51
   refine o_store (i := 0) Tryz.sizeOf3 rfl rfl rfl rfl (Nat.le_of_ble_eq_true rfl) ?_
   refine shO_L (L' := (b51, .cells #[.int .i64 plot] 3 (0, 0)) :: ((b38, .cells #[.slice a32 n36 c33] 28 (0, 0)) :: ((b1, .cells #[.int .i64 wide, .slice plots_a plots.length plots_c] 24 (0, 0)) :: (Lb40 ++ (Lb34 ++ []))))) rfl ?_
   refine shO_nil ?_
   refine shW_block ?_
   refine shW_lp (fun fu1 e1 F1 L1 => ∃ (out2 : List Int) (p : Int) (a52 : Option Addr) (n56 : Nat) (c53 : Nat) (Lb54 : LH) (b58 : Nat), hear_Way_l1 plots stand wide2 plots2 down right_ blows l fu1 out2 p = some out ∧ FExt F28 F1 ∧ L1 = ((b58, .cells #[.int .i64 p] 3 (0, 0)) :: ((b38, .cells #[.slice a32 n36 c33] 28 (0, 0)) :: ((b1, .cells #[.int .i64 wide, .slice plots_a plots.length plots_c] 24 (0, 0)) :: (Lb34 ++ (Lb54 ++ []))))) ∧ e1.sub [(2, .int .i64 stand), (4, .pointer (some ⟨b1, 0, none⟩)), (12, .pointer (some ⟨b17, 0, none⟩)), (14, .pointer (some ⟨b38, 0, none⟩)), (15, .slice a52 n56 c53), (16, .pointer (some ⟨b58, 0, none⟩))] ∧ SlR K.w0.heap.size 3 1 (iE .i64) F1 a52 n56 c53 out2 Lb54 ∧ K.w0.heap.size ≤ b58) FU (m0 (kc (kc (kc (kg (fS fP) kr)))) ⟨[plot], plot, (some ⟨b39, 0, none⟩), 1, 1, Lb40, b51, h49, FExt.refl _, rfl, (sc rfl (sc rfl (sc rfl (sc rfl (sc rfl (sc rfl (sn _))))))), hz41, hb51⟩) ?_
   rintro fu1 e1 F64 _ ⟨out2, p, a52, n56, c53, Lb54, b58, r62, hF65, rfl, he63, hz55, hb59⟩
   refine shW_env _ he63 ?_; clear he63
   replace h_plots := h_plots.mono (iE_ok _) hF65
   replace h24 := h24.mono (iE_ok _) hF65
   replace hz35 := hz35.mono (iE_ok _) hF65
   replace hz21 := hF65 _ _ hz21
   rcases fu1 with _ | fu1
   · rw [hear_Way_l1] at r62; cases r62
   rw [hear_Way_l1] at r62
   refine shW_seq (wsr ?_)
   refine ov (v_load Tryz.isAgg3 rfl (Has.own 0 rfl) rfl) rfl ?_
   refine om rfl rfl ?_
   refine ov (v_neq rfl rfl) rfl ?_
   refine shO_nil ?_
   refine shW_condP rfl (fun c66 => ?_) (fun c66 => ?_)
   · have r67 := ite_t r62 c66; clear r62
     refine shW_skip ?_
     obtain ⟨out3, p2, h74, r75⟩ := b2_ok r67; clear r67
     refine shW_join (fun e1 F1 L1 => ∃ (a68 : Option Addr) (n72 : Nat) (c69 : Nat) (Lb70 : LH), FExt F64 F1 ∧ L1 = ((b58, .cells #[.int .i64 p2] 3 (0, 0)) :: ((b38, .cells #[.slice a32 n36 c33] 28 (0, 0)) :: ((b1, .cells #[.int .i64 wide, .slice plots_a plots.length plots_c] 24 (0, 0)) :: (Lb34 ++ (Lb70 ++ []))))) ∧ e1.sub [(2, .int .i64 stand), (4, .pointer (some ⟨b1, 0, none⟩)), (12, .pointer (some ⟨b17, 0, none⟩)), (14, .pointer (some ⟨b38, 0, none⟩)), (15, .slice a68 n72 c69), (16, .pointer (some ⟨b58, 0, none⟩))] ∧ SlR K.w0.heap.size 3 1 (iE .i64) F1 a68 n72 c69 out3 Lb70) ?_ ?_
     · clear r75
       refine shW_block ?_
       refine wsr ?_
       refine o_alloc rfl Tryz.zeroValue3 ?_; intro b76 hb76
       refine o_store (i := 0) Tryz.sizeOf3 rfl rfl rfl rfl (Nat.le_of_ble_eq_true rfl) ?_
       refine shO_L (L' := (b76, .cells #[.int .i64 (-1)] 3 (0, 0)) :: ((b58, .cells #[.int .i64 p] 3 (0, 0)) :: ((b38, .cells #[.slice a32 n36 c33] 28 (0, 0)) :: ((b1, .cells #[.int .i64 wide, .slice plots_a plots.length plots_c] 24 (0, 0)) :: (Lb34 ++ (Lb54 ++ [])))))) rfl ?_
       refine shO_nil ?_
       obtain ⟨before, h77, r78⟩ := b1_ok h74; clear h74
       refine shW_join (fun e1 F1 L1 => FExt F64 F1 ∧ L1 = ((b76, .cells #[.int .i64 before] 3 (0, 0)) :: ((b58, .cells #[.int .i64 p] 3 (0, 0)) :: ((b38, .cells #[.slice a32 n36 c33] 28 (0, 0)) :: ((b1, .cells #[.int .i64 wide, .slice plots_a plots.length plots_c] 24 (0, 0)) :: (Lb34 ++ (Lb54 ++ [])))))) ∧ e1.sub [(2, .int .i64 stand), (4, .pointer (some ⟨b1, 0, none⟩)), (12, .pointer (some ⟨b17, 0, none⟩)), (14, .pointer (some ⟨b38, 0, none⟩)), (15, .slice a52 n56 c53), (16, .pointer (some ⟨b58, 0, none⟩)), (17, .pointer (some ⟨b76, 0, none⟩))]) ?_ ?_
       · clear r78
         refine wsr ?_
         refine ov (v_fieldAddr fa_24_1 rfl) rfl ?_
         refine ov (v_load Tryz.isAgg22 rfl (Has.own 3 rfl) rfl) rfl ?_
         refine ov (v_lenS Tryz.underlying22 rfl) rfl ?_
         refine om rfl rfl (shO_nil ?_)
         refine shW_block ?_
         refine shW_lp (fun fu2 e1 F1 L1 => ∃ (tl : List Int) (k : Int), tl.length = fu2 ∧ Lst plots k tl ∧ ∃ (before2 : Int), hear_Way_l2 wide2 plots2 down right_ blows l p tl k before2 = some before ∧ FExt F64 F1 ∧ L1 = ((b76, .cells #[.int .i64 before2] 3 (0, 0)) :: ((b58, .cells #[.int .i64 p] 3 (0, 0)) :: ((b38, .cells #[.slice a32 n36 c33] 28 (0, 0)) :: ((b1, .cells #[.int .i64 wide, .slice plots_a plots.length plots_c] 24 (0, 0)) :: (Lb34 ++ (Lb54 ++ [])))))) ∧ e1.sub [(2, .int .i64 stand), (4, .pointer (some ⟨b1, 0, none⟩)), (12, .pointer (some ⟨b17, 0, none⟩)), (14, .pointer (some ⟨b38, 0, none⟩)), (15, .slice a52 n56 c53), (16, .pointer (some ⟨b58, 0, none⟩)), (17, .pointer (some ⟨b76, 0, none⟩)), (49, .int .i64 (plots.length : Int)), (50, .int .i64 k)]) _ (m0 kr ⟨_, _, rfl, Lst.start _, -1, h77, FExt.refl _, rfl, (sc rfl (sc rfl (sc rfl (sc rfl (sc rfl (sc rfl (sc rfl (sc rfl (sc rfl (sn _))))))))))⟩) ?_
         rintro fu2 e1 F83 _ ⟨tl, k, hn80, hk79, before2, r81, hF84, rfl, he82⟩
         refine shW_env _ he82 ?_; clear he82
         replace h_plots := h_plots.mono (iE_ok _) hF84
         replace h24 := h24.mono (iE_ok _) hF84
         replace hz35 := hz35.mono (iE_ok _) hF84
         replace hz21 := hF84 _ _ hz21
         refine wsr ?_
         refine ov (v_lssK rfl rfl) rfl ?_
         refine shO_nil (shW_seq ?_)
         refine shW_condP rfl (fun c86 => ?_) (fun c86 => ?_)
         · obtain ⟨x, tl2, rfl, hx88, g89, hk87⟩ := Lst.succ hk79 c86
           rw [hear_Way_l2] at r81
           refine shW_skip ?_
           obtain ⟨before3, h90, r91⟩ := b1_ok r81; clear r81
           refine shW_join (fun e1 F1 L1 => FExt F83 F1 ∧ L1 = ((b76, .cells #[.int .i64 before3] 3 (0, 0)) :: ((b58, .cells #[.int .i64 p] 3 (0, 0)) :: ((b38, .cells #[.slice a32 n36 c33] 28 (0, 0)) :: ((b1, .cells #[.int .i64 wide, .slice plots_a plots.length plots_c] 24 (0, 0)) :: (Lb34 ++ (Lb54 ++ [])))))) ∧ e1.sub [(2, .int .i64 stand), (4, .pointer (some ⟨b1, 0, none⟩)), (12, .pointer (some ⟨b17, 0, none⟩)), (14, .pointer (some ⟨b38, 0, none⟩)), (15, .slice a52 n56 c53), (16, .pointer (some ⟨b58, 0, none⟩)), (17, .pointer (some ⟨b76, 0, none⟩)), (49, .int .i64 (plots.length : Int)), (50, .int .i64 k)]) ?_ ?_
           · clear r91
             refine shW_block ?_
             refine wsr (om rfl rfl ?_)
             refine o_alloc rfl Tryz.zeroValue3 ?_; intro b92 hb92
             refine o_store (i := 0) Tryz.sizeOf3 rfl rfl rfl rfl (Nat.le_of_ble_eq_true rfl) ?_
             refine shO_L (L' := (b92, .cells #[.int .i64 k] 3 (0, 0)) :: ((b76, .cells #[.int .i64 before2] 3 (0, 0)) :: ((b58, .cells #[.int .i64 p] 3 (0, 0)) :: ((b38, .cells #[.slice a32 n36 c33] 28 (0, 0)) :: ((b1, .cells #[.int .i64 wide, .slice plots_a plots.length plots_c] 24 (0, 0)) :: (Lb34 ++ (Lb54 ++ []))))))) rfl ?_
             refine nsr (om rfl rfl ?_)
             refine ov (v_load Tryz.isAgg3 rfl (Has.own 0 rfl) rfl) rfl ?_
             obtain ⟨y, h93, r94⟩ := b1_ok h90; clear h90
             refine o_call0 rfl Tryz.call82 rfl rfl rfl (hear_desk_next_w hz21 h24 h93) ?_; rintro _ F95 _ hF96 hn97 ⟨cp99, rfl, rfl, hit100⟩
             replace hz35 := hz35.mono (iE_ok _) hF96
             refine shO_L (ln rfl) ?_
             refine shO_nil ?_
             refine shW_block ?_
             refine shW_rangeFunc (encs := (fun x : Int × Int => #[.int .i64 x.1, .int .i64 x.2])) (xs := y) rfl Tryz.call109 rfl (fun _ => rfl) hit100 (fun pre F1 L1 => ∃ (tl3 : List (Int × Int)) (before4 : Int), y = pre ++ tl3 ∧ hear_Way_l3 l p k tl3 before4 = some before3 ∧ L1 = ((b92, .cells #[.int .i64 k] 3 (0, 0)) :: ((b76, .cells #[.int .i64 before4] 3 (0, 0)) :: ((b58, .cells #[.int .i64 p] 3 (0, 0)) :: ((b38, .cells #[.slice a32 n36 c33] 28 (0, 0)) :: ((b1, .cells #[.int .i64 wide, .slice plots_a plots.length plots_c] 24 (0, 0)) :: (Lb34 ++ (Lb54 ++ [])))))))) (fun _ _ _ => False) ?_ ?_ ?_ ?_ ?_ ?_
             · rintro pre F1 F2 L1 ⟨tl3, before4, hs101, r102, rfl⟩ hx; exact ⟨tl3, before4, hs101, r102, rfl⟩
             · intro c F1 F2 L1 h hx; exact h
             · exact ⟨_, before2, rfl, r94, rfl⟩
             · rintro l103 wr104 Fr105 Xr106 Ha107 Hb108 hnb109 hH113 pre x2 tl4 hxs112 F110 _ hF111 ⟨tl3, before4, hs101, r114, rfl⟩
               obtain rfl := rest_head hs101 hxs112
               rw [hear_Way_l3] at r114
               replace hz35 := hz35.mono (iE_ok _) hF111
               refine shW_env [(2, .int .i64 stand), (4, .pointer (some ⟨b1, 0, none⟩)), (12, .pointer (some ⟨b17, 0, none⟩)), (14, .pointer (some ⟨b38, 0, none⟩)), (15, .slice a52 n56 c53), (16, .pointer (some ⟨b58, 0, none⟩)), (17, .pointer (some ⟨b76, 0, none⟩)), (18, .pointer (some ⟨b92, 0, none⟩)), (49, .int .i64 (plots.length : Int)), (50, .int .i64 k), (56, .int .i64 x2.1), (57, .int .i64 x2.2)] (by exact (sc rfl (sc rfl (sc rfl (sc rfl (sc rfl (sc rfl (sc rfl (sc rfl (sc rfl (sc rfl (sc rfl (sc rfl (sn _)))))))))))))) ?_
               refine wsr (oa rfl rfl (shO_nil (shW_region (oa rfl rfl (shO_nil ?_)))))
               refine ⟨rfl, ?_⟩
               refine shW_block ?_
               obtain ⟨k2, h115, r116⟩ := b1_ok r114; clear r114
               refine shW_join (fun e1 F1 L1 => F110 = F1 ∧ L1 = ((b92, .cells #[.int .i64 k] 3 (0, 0)) :: ((b76, .cells #[.int .i64 before4] 3 (0, 0)) :: ((b58, .cells #[.int .i64 p] 3 (0, 0)) :: ((b38, .cells #[.slice a32 n36 c33] 28 (0, 0)) :: ((b1, .cells #[.int .i64 wide, .slice plots_a plots.length plots_c] 24 (0, 0)) :: (Lb34 ++ (Lb54 ++ []))))))) ∧ e1.sub [(2, .int .i64 stand), (4, .pointer (some ⟨b1, 0, none⟩)), (12, .pointer (some ⟨b17, 0, none⟩)), (14, .pointer (some ⟨b38, 0, none⟩)), (15, .slice a52 n56 c53), (16, .pointer (some ⟨b58, 0, none⟩)), (17, .pointer (some ⟨b76, 0, none⟩)), (18, .pointer (some ⟨b92, 0, none⟩)), (49, .int .i64 (plots.length : Int)), (50, .int .i64 k), (56, .int .i64 x2.1), (57, .int .i64 x2.2), (80, .bool k2)]) ?_ ?_
               · clear r116
                 refine shW_draw (by kernel_rfl) (by kernel_rfl) (by kernel_rfl) ?_
                 refine qm rfl rfl ?_
                 refine qv (v_load Tryz.isAgg3 rfl (Has.own 2 rfl) rfl) rfl ?_
                 refine qv (v_eql rfl rfl) rfl ?_
                 refine qm rfl rfl ?_
                 by_cases c117 : x2.1 = p
                 · have r118 := ite_t h115 c117; clear h115
                   refine shQ_on (b := true) 61 rfl (Env.isT rfl c117) ?_
                   refine qv (v_load Tryz.isAgg28 rfl (Has.own 3 rfl) rfl) rfl ?_
                   refine shQ_on (b := true) 61 rfl (Env.isT rfl c117) ?_
                   refine qv (v_load Tryz.isAgg3 rfl (Has.own 0 rfl) rfl) rfl ?_
                   refine shQ_on (b := true) 61 rfl (Env.isT rfl c117) ?_
                   obtain ⟨x3, g119, hx120, r121⟩ := ix_ok r118; clear r118
                   obtain ⟨b122, o123, c124, vs125, ha126, hs127, hle128, rfl, hl129, hc130⟩ := SlR.at (iE_ok _) hz35 (L := (b92, .cells #[.int .i64 k] 3 (0, 0)) :: ((b76, .cells #[.int .i64 before4] 3 (0, 0)) :: ((b58, .cells #[.int .i64 p] 3 (0, 0)) :: ((b38, .cells #[.slice a32 n36 c33] 28 (0, 0)) :: ((b1, .cells #[.int .i64 wide, .slice plots_a plots.length plots_c] 24 (0, 0)) :: (Lb34 ++ (Lb54 ++ []))))))) (fC (fC (fC (fC (fC fP))))) g119.1 hx120
                   refine qv (v_indexO Tryz.underlying28 Tryz.sizeOf3 rfl ha126 rfl (SlR.idx hz35 g119)) rfl ?_
                   refine shQ_on (b := true) 61 rfl (Env.isT rfl c117) ?_
                   refine qv (v_load Tryz.isAgg3 rfl hs127 (hc130 0 (by decide))) rfl ?_
                   refine shQ_on (b := true) 61 rfl (Env.isT rfl c117) ?_
                   refine qv (v_neq rfl rfl) rfl ?_
                   refine qv (v_pick_t (evD_true rfl c117) rfl) rfl ?_
                   refine qm rfl rfl ?_
                   by_cases c131 : x3 ≠ (-1)
                   · have r132 := ite_t r121 c131; clear r121
                     refine shQ_on (b := true) 68 rfl (Env.isT rfl c131) ?_
                     refine qv (v_load Tryz.isAgg28 rfl (Has.own 3 rfl) rfl) rfl ?_
                     refine shQ_on (b := true) 68 rfl (Env.isT rfl c131) ?_
                     refine qv (v_load Tryz.isAgg3 rfl (Has.own 0 rfl) rfl) rfl ?_
                     refine shQ_on (b := true) 68 rfl (Env.isT rfl c131) ?_
                     obtain ⟨b133, o134, c135, vs136, ha137, hs138, hle139, rfl, hl140, hc141⟩ := SlR.at (iE_ok _) hz35 (L := (b92, .cells #[.int .i64 k] 3 (0, 0)) :: ((b76, .cells #[.int .i64 before4] 3 (0, 0)) :: ((b58, .cells #[.int .i64 p] 3 (0, 0)) :: ((b38, .cells #[.slice a32 n36 c33] 28 (0, 0)) :: ((b1, .cells #[.int .i64 wide, .slice plots_a plots.length plots_c] 24 (0, 0)) :: (Lb34 ++ (Lb54 ++ []))))))) (fC (fC (fC (fC (fC fP))))) g119.1 hx120
                     refine qv (v_indexO Tryz.underlying28 Tryz.sizeOf3 rfl ha137 rfl (SlR.idx hz35 g119)) rfl ?_
                     refine shQ_on (b := true) 68 rfl (Env.isT rfl c131) ?_
                     refine qv (v_load Tryz.isAgg3 rfl hs138 (hc141 0 (by decide))) rfl ?_
                     refine shQ_on (b := true) 68 rfl (Env.isT rfl c131) (qm rfl rfl (shQ_on (b := true) 68 rfl (Env.isT rfl c131) ?_))
                     obtain ⟨g142, r143⟩ := gd_ok r132; clear r132
                     refine qv (v_add rfl rfl g142) rfl ?_
                     refine shQ_on (b := true) 68 rfl (Env.isT rfl c131) ?_
                     refine qv (v_load Tryz.isAgg28 rfl (Has.own 3 rfl) rfl) rfl ?_
                     refine shQ_on (b := true) 68 rfl (Env.isT rfl c131) ?_
                     refine qv (v_load Tryz.isAgg3 rfl (Has.own 2 rfl) rfl) rfl ?_
                     refine shQ_on (b := true) 68 rfl (Env.isT rfl c131) ?_
                     obtain ⟨x4, g144, hx145, r146⟩ := ix_ok r143; clear r143
                     obtain ⟨b147, o148, c149, vs150, ha151, hs152, hle153, rfl, hl154, hc155⟩ := SlR.at (iE_ok _) hz35 (L := (b92, .cells #[.int .i64 k] 3 (0, 0)) :: ((b76, .cells #[.int .i64 before4] 3 (0, 0)) :: ((b58, .cells #[.int .i64 p] 3 (0, 0)) :: ((b38, .cells #[.slice a32 n36 c33] 28 (0, 0)) :: ((b1, .cells #[.int .i64 wide, .slice plots_a plots.length plots_c] 24 (0, 0)) :: (Lb34 ++ (Lb54 ++ []))))))) (fC (fC (fC (fC (fC fP))))) g144.1 hx145
                     refine qv (v_indexO Tryz.underlying28 Tryz.sizeOf3 rfl ha151 rfl (SlR.idx hz35 g144)) rfl ?_
                     refine shQ_on (b := true) 68 rfl (Env.isT rfl c131) ?_
                     refine qv (v_load Tryz.isAgg3 rfl hs152 (hc155 0 (by decide))) rfl ?_
                     refine shQ_on (b := true) 68 rfl (Env.isT rfl c131) ?_
                     refine qv (v_eql rfl rfl) rfl ?_
                     refine qv (v_pick_t (evD_true rfl c131) rfl) rfl ?_
                     refine shQ_nil ?_
                     obtain rfl := inj1 r146
                     exact mi kr ⟨rfl, rfl, (sc rfl (sc rfl (sc rfl (sc rfl (sc rfl (sc rfl (sc rfl (sc rfl (sc rfl (sc rfl (sc rfl (sc rfl (sc rfl (sn _))))))))))))))⟩
                   have r156 := ite_f r121 c131; clear r121
                   refine shQ_off (b' := false) 68 rfl (Env.isF rfl c131) rfl rfl (shQ_off (b' := false) 68 rfl (Env.isF rfl c131) rfl rfl (shQ_off (b' := false) 68 rfl (Env.isF rfl c131) rfl rfl (shQ_off (b' := false) 68 rfl (Env.isF rfl c131) rfl rfl (shQ_off (b' := false) 68 rfl (Env.isF rfl c131) rfl rfl (shQ_off (b' := false) 68 rfl (Env.isF rfl c131) rfl rfl (shQ_off (b' := false) 68 rfl (Env.isF rfl c131) rfl rfl (shQ_off (b' := false) 68 rfl (Env.isF rfl c131) rfl rfl (shQ_off (b' := false) 68 rfl (Env.isF rfl c131) rfl rfl (shQ_off (b' := false) 68 rfl (Env.isF rfl c131) rfl rfl ?_)))))))))
                   refine shQ_off (b' := false) 68 rfl (Env.isF rfl c131) rfl rfl ?_
                   refine qv (v_pick_f (evD_false rfl c131) rfl) rfl ?_
                   refine shQ_nil ?_
                   obtain rfl := inj1 r156
                   exact mi kr ⟨rfl, rfl, (sc rfl (sc rfl (sc rfl (sc rfl (sc rfl (sc rfl (sc rfl (sc rfl (sc rfl (sc rfl (sc rfl (sc rfl (sc rfl (sn _))))))))))))))⟩
                 have r157 := ite_f h115 c117; clear h115
                 refine shQ_off (b' := false) 61 rfl (Env.isF rfl c117) rfl rfl (shQ_off (b' := false) 61 rfl (Env.isF rfl c117) rfl rfl (shQ_off (b' := false) 61 rfl (Env.isF rfl c117) rfl rfl (shQ_off (b' := false) 61 rfl (Env.isF rfl c117) rfl rfl (shQ_off (b' := false) 61 rfl (Env.isF rfl c117) rfl rfl ?_))))
                 refine qv (v_pick_f (evD_false rfl c117) rfl) rfl ?_
                 refine qm rfl rfl (shQ_off (b' := false) 68 rfl rfl rfl rfl (shQ_off (b' := false) 68 rfl rfl rfl rfl (shQ_off (b' := false) 68 rfl rfl rfl rfl (shQ_off (b' := false) 68 rfl rfl rfl rfl (shQ_off (b' := false) 68 rfl rfl rfl rfl (shQ_off (b' := false) 68 rfl rfl rfl rfl (shQ_off (b' := false) 68 rfl rfl rfl rfl (shQ_off (b' := false) 68 rfl rfl rfl rfl (shQ_off (b' := false) 68 rfl rfl rfl rfl ?_)))))))))
                 refine shQ_off (b' := false) 68 rfl rfl rfl rfl (shQ_off (b' := false) 68 rfl rfl rfl rfl ?_)
                 refine qv (v_pick_f rfl rfl) rfl ?_
                 refine shQ_nil ?_
                 obtain rfl := inj1 r157
                 exact mi kr ⟨rfl, rfl, (sc rfl (sc rfl (sc rfl (sc rfl (sc rfl (sc rfl (sc rfl (sc rfl (sc rfl (sc rfl (sc rfl (sc rfl (sc rfl (sn _))))))))))))))⟩
               rintro e1 _ _ ⟨rfl, rfl, he158⟩
               refine shW_env _ he158 ?_; clear he158
               refine shW_cond rfl (fun c159 => ?_) (fun c159 => ?_)
               · have r160 := bt r116 c159; clear r116
                 refine shW_region ?_
                 refine ov (v_load Tryz.isAgg3 rfl (Has.own 0 rfl) rfl) rfl ?_
                 refine o_store (i := 1) Tryz.sizeOf3 rfl rfl rfl rfl (Nat.le_of_ble_eq_true rfl) ?_
                 refine shO_L (L' := (b92, .cells #[.int .i64 k] 3 (0, 0)) :: ((b76, .cells #[.int .i64 k] 3 (0, 0)) :: ((b58, .cells #[.int .i64 p] 3 (0, 0)) :: ((b38, .cells #[.slice a32 n36 c33] 28 (0, 0)) :: ((b1, .cells #[.int .i64 wide, .slice plots_a plots.length plots_c] 24 (0, 0)) :: (Lb34 ++ (Lb54 ++ []))))))) rfl ?_
                 refine shO_nil (inBlock_n (id := 5) ?_)
                 refine ⟨(b92, .cells #[.int .i64 k] 3 (0, 0)) :: ((b76, .cells #[.int .i64 k] 3 (0, 0)) :: ((b58, .cells #[.int .i64 p] 3 (0, 0)) :: ((b38, .cells #[.slice a32 n36 c33] 28 (0, 0)) :: ((b1, .cells #[.int .i64 wide, .slice plots_a plots.length plots_c] 24 (0, 0)) :: (Lb34 ++ (Lb54 ++ [])))))), sr, ?_⟩; exact ⟨_, k, (by rw [hxs112]; simp), r160, rfl⟩
               have r161 := bf r116 c159; clear r116
               refine shW_skip (inBlock_n (id := 5) ?_)
               refine ⟨(b92, .cells #[.int .i64 k] 3 (0, 0)) :: ((b76, .cells #[.int .i64 before4] 3 (0, 0)) :: ((b58, .cells #[.int .i64 p] 3 (0, 0)) :: ((b38, .cells #[.slice a32 n36 c33] 28 (0, 0)) :: ((b1, .cells #[.int .i64 wide, .slice plots_a plots.length plots_c] 24 (0, 0)) :: (Lb34 ++ (Lb54 ++ [])))))), sr, ?_⟩; exact ⟨_, before4, (by rw [hxs112]; simp), r161, rfl⟩
             · rintro F162 _ hF163 ⟨tl3, before4, hs101, r164, rfl⟩
               obtain rfl := rest_nil hs101; rw [hear_Way_l3] at r164
               refine inBlock_n (id := 4) (inBlock_n (id := 3) ?_)
               obtain rfl := inj1 r164
               exact mi (kd kr) ⟨(hF96.trans hF163), rfl, (sc rfl (sc rfl (sc rfl (sc rfl (sc rfl (sc rfl (sc rfl (sc rfl (sc rfl (sn _))))))))))⟩
             intro c F1 L1 hx h; exact h.elim
           rintro e1 F166 _ ⟨hF167, rfl, he165⟩
           refine shW_env _ he165 ?_; clear he165
           replace h_plots := h_plots.mono (iE_ok _) hF167
           refine shW_region ?_
           refine ov (v_add rfl rfl (Lst.r64 hk79 c86 (RowR.lt h_plots))) rfl ?_
           refine om rfl rfl (shO_nil ?_)
           subst hn80; exact le kr ⟨_, _, rfl, hk87, before3, r91, (hF84.trans hF167), rfl, (sc rfl (sc rfl (sc rfl (sc rfl (sc rfl (sc rfl (sc rfl (sc rfl (sc rfl (sn _))))))))))⟩
         obtain rfl := Lst.zero hk79 c86
         rw [hear_Way_l2] at r81
         refine shW_exit (andThen_exit (andThen_exit ?_))
         refine inBlock_exit ?_
         obtain rfl := inj1 r81
         exact mi kr ⟨hF84, rfl, (sc rfl (sc rfl (sc rfl (sc rfl (sc rfl (sc rfl (sc rfl (sn _))))))))⟩
       rintro e1 F169 _ ⟨hF170, rfl, he168⟩
       refine shW_env _ he168 ?_; clear he168
       replace hz55 := hz55.mono (iE_ok _) hF170
       refine wsr ?_
       refine ov (v_load Tryz.isAgg3 rfl (Has.own 0 rfl) rfl) rfl ?_
       refine o_store (i := 1) Tryz.sizeOf3 rfl rfl rfl rfl (Nat.le_of_ble_eq_true rfl) ?_
       refine shO_L (L' := (b76, .cells #[.int .i64 before] 3 (0, 0)) :: ((b58, .cells #[.int .i64 before] 3 (0, 0)) :: ((b38, .cells #[.slice a32 n36 c33] 28 (0, 0)) :: ((b1, .cells #[.int .i64 wide, .slice plots_a plots.length plots_c] 24 (0, 0)) :: (Lb34 ++ (Lb54 ++ [])))))) rfl ?_
       refine shO_nil (shW_region (om rfl rfl ?_))
       refine ov (v_load Tryz.isAgg3 rfl (Has.own 1 rfl) rfl) rfl ?_
       refine o_buildSlice (cs := #[.int .i64 before]) rfl rfl (buildSlice_all slt_28 [.int .i64 before] rfl (by decide) (by simp [Value.cells]) (by decide)) ?_; intro b171 hb171
       obtain ⟨out4, h172, g173, r174⟩ := ap_ok r78; clear r78
       refine o_appZ (xs := out2) (ys := [before]) (zs := out4) rfl slt_28 rfl rfl (Nat.le_refl _) (fun _ => .c (.c (.c (.c (.c (.s .h)))))) hz55 (SrcR.box (vss := [[.int .i64 before]]) (ys := [before]) 0 rfl (iE_ok _) (.cons rfl .nil) rfl rfl) h172 g173 (by decide) ?_; intro a175 n179 c176 Lb177 hz178
       refine kO (kd kr) ?_
       refine oa rfl rfl (shO_nil (inBlock_n (id := 1) ?_))
       obtain ⟨rfl, rfl⟩ := inj2 r174
       exact mi (kd kr) ⟨a175, n179, c176, Lb177, hF170, rfl, (sc rfl (sc rfl (sc rfl (sc rfl (sc rfl (sc rfl (sn _))))))), hz178⟩
     rintro e1 F182 _ ⟨a68, n72, c69, Lb70, hF183, rfl, he181, hz71⟩
     refine shW_env _ he181 ?_; clear he181
     refine wsr ?_
     refine ov (v_load Tryz.isAgg3 rfl (Has.own 0 rfl) rfl) rfl ?_
     refine shO_nil (shW_region ?_)
     refine o_alloc rfl Tryz.zeroValue3 ?_; intro b184 hb184
     refine o_store (i := 0) Tryz.sizeOf3 rfl rfl rfl rfl (Nat.le_of_ble_eq_true rfl) ?_
     refine shO_L (L' := (b184, .cells #[.int .i64 p2] 3 (0, 0)) :: ((b58, .cells #[.int .i64 p2] 3 (0, 0)) :: ((b38, .cells #[.slice a32 n36 c33] 28 (0, 0)) :: ((b1, .cells #[.int .i64 wide, .slice plots_a plots.length plots_c] 24 (0, 0)) :: (Lb34 ++ (Lb70 ++ [])))))) rfl ?_
     refine shO_nil ?_
     exact le (kc (kd kr)) ⟨out3, p2, a68, n72, c69, Lb70, b184, r75, (hF65.trans hF183), rfl, (sc rfl (sc rfl (sc rfl (sc rfl (sc rfl (sc rfl (sn _))))))), hz71, hb184⟩
   have r185 := ite_f r62 c66; clear r62
   refine shW_exit (andThen_exit (andThen_exit ?_))
   refine inBlock_exit ?_
   obtain rfl := inj1 r185
   exact mi (kd (kd (kd (kx kr)))) ⟨a52, n56, c53, Lb54, hF65, rfl, (sc rfl (sn _)), hz55⟩
 rintro e1 F187 _ ⟨a43, n47, c44, Lb45, hF188, rfl, he186, hz46⟩
 refine shW_env _ he186 ?_; clear he186
 refine wsr (om rfl rfl ?_)
 obtain ⟨s_, h189, r190⟩ := b1_ok r50; clear r50
 refine o_callG (Lb := Lb45 ++ []) (Lr := []) rfl Tryz.call85 rfl rfl rfl (pT pR (lp (ln rfl))) (slices_Reverse_int_int_w hz46 h189) ?_; rintro _ F191 _ hF192 hd194 hn193 ⟨Lb195, rfl, rfl, hz196⟩
 refine shO_L (lp (ln rfl)) ?_
 refine nsr (om rfl rfl (oa rfl rfl (oa rfl rfl (shO_nil (shW_ret ?_)))))
 refine q_res2 Tryz.results37 (res_tmp rfl) (res_tmp rfl) (sr) ?_
 obtain ⟨rfl, rfl⟩ := inj2 r190
 exact ⟨_, _, _, _, rfl, rfl, hz196.any⟩
set_option maxHeartbeats 1000000 in
theorem oyezlaw01_awake_w {F : FS} {r : Bool} (hr : oyezlaw01_awake = some r) :
    SpecV Tryz.prog 6 #[] F (.bool r) := by
 refine spec_of_shW (args := []) Tryz.func6 rfl Tryz.ntmps6 (Nat.le_of_ble_eq_true rfl) ?_
 intro K _ _; rw [oyezlaw01_awake] at hr
 refine wsr (oa rfl rfl (nsr ?_))
 refine o_buildSlice (cs := #[.string (sB [115, 104, 115, 104])]) rfl rfl (buildSlice_all slt_115 [.string (sB [115, 104, 115, 104])] rfl (by decide) (by simp [Value.cells]) (by decide)) ?_; intro b1 hb1
 refine shO_freeze 0 rfl hb1 ?_; intro F2 hF3 hz4
 refine shO_L (L' := []) rfl ?_
 have h5 : RowR 1 sE F2 (some ⟨b1, 0, none⟩) 1 [[115, 104, 115, 104]] := RowR.of_block sE_ok (vss := [[.string (sB [115, 104, 115, 104])]]) (xs := [[115, 104, 115, 104]]) hz4 (.cons rfl .nil) rfl (by simp [maxLen])
 obtain ⟨n, l, h6, r7⟩ := b2_ok hr; clear hr
 refine o_call0 rfl Tryz.call33 rfl rfl rfl (oyezlaw01_Drawn_w h5 h6) ?_; rintro _ F8 _ hF9 hn10 ⟨a12, n16, c13, Lb14, rfl, rfl, hz15⟩
 replace hz15 := hz15.new fun p hp => hn10 p (by simp [hp])
 refine shO_L (lp (ln rfl)) ?_
 refine o_buildSlice (cs := #[.string (sB [104, 115, 104]), .string (sB [115, 119, 115])]) rfl rfl (buildSlice_all slt_115 [.string (sB [104, 115, 104]), .string (sB [115, 119, 115])] rfl (by decide) (by simp [Value.cells]) (by decide)) ?_; intro b18 hb18
 refine shO_freeze 0 rfl hb18 ?_; intro F19 hF20 hz21
 refine shO_L (L' := Lb14 ++ []) rfl ?_
 replace hz15 := hz15.mono (iE_ok _) hF20
 have h22 : RowR 1 sE F19 (some ⟨b18, 0, none⟩) 2 [[104, 115, 104], [115, 119, 115]] := RowR.of_block sE_ok (vss := [[.string (sB [104, 115, 104])], [.string (sB [115, 119, 115])]]) (xs := [[104, 115, 104], [115, 119, 115]]) hz21 (.cons rfl (.cons rfl .nil)) rfl (by simp [maxLen])
 obtain ⟨n2, l2, h23, r24⟩ := b2_ok r7; clear r7
 refine o_call0 rfl Tryz.call33 rfl rfl rfl (oyezlaw01_Drawn_w h22 h23) ?_; rintro _ F25 _ hF26 hn27 ⟨a29, n33, c30, Lb31, rfl, rfl, hz32⟩
 replace hz15 := hz15.mono (iE_ok _) hF26
 replace hz32 := hz32.new fun p hp => hn27 p (by simp [hp])
 refine shO_L (lp (ln rfl)) ?_
 refine o_alloc rfl Tryz.zeroValue24 ?_; intro b35 hb35
 refine o_alloc rfl Tryz.zeroValue24 ?_; intro b36 hb36
 refine o_storeA (i := 1) Tryz.sizeOf24 rfl rfl rfl (by simp [Value.oneCell']) rfl (Nat.le_of_ble_eq_true rfl) ?_
 refine shO_L (L' := (b36, .cells #[.int .i64 0, .slice none 0 0] 24 (0, 0)) :: ((b35, .cells #[.int .i64 n, .slice a12 n16 c13] 24 (0, 0)) :: (Lb31 ++ (Lb14 ++ [])))) rfl ?_
 refine o_storeA (i := 0) Tryz.sizeOf24 rfl rfl rfl (by simp [Value.oneCell']) rfl (Nat.le_of_ble_eq_true rfl) ?_
 refine shO_L (L' := (b36, .cells #[.int .i64 n2, .slice a29 n33 c30] 24 (0, 0)) :: ((b35, .cells #[.int .i64 n, .slice a12 n16 c13] 24 (0, 0)) :: (Lb31 ++ (Lb14 ++ [])))) rfl ?_
 refine nsr ?_
 refine ov (v_loadA (cs := #[.int .i64 n, .slice a12 n16 c13]) Tryz.isAgg24 Tryz.sizeOf24 rfl (Has.own 1 rfl) (Nat.le_of_ble_eq_true rfl) rfl) rfl ?_
 obtain ⟨l3, n3, h37, r38⟩ := b2_ok r24; clear r24
 refine o_callTO (Lb := []) (Lt := Lb14 ++ []) (Lr := (b36, .cells #[.int .i64 n2, .slice a29 n33 c30] 24 (0, 0)) :: ((b35, .cells #[.int .i64 n, .slice a12 n16 c13] 24 (0, 0)) :: (Lb31 ++ []))) rfl Tryz.call34 rfl rfl rfl (pT ((fC (fC (fS fP))).trans (pA pR)) (ln (lp (ln rfl)))) (fun F2 h2 h3 => by rw [(SlR.caps hz15).1]; exact hear_Needs_w (hz15.row (iE_ok _) h2 (fun p hp => h3 p (List.mem_append_left _ hp))) h37) (fun _ _ _ _ hq => by obtain ⟨a43, n47, c44, Lb45, rfl, rfl, hz46⟩ := hq; exact ⟨_, _, _, _, rfl, rfl, hz46.flat (fun _ _ h => h)⟩) ?_; rintro _ F39 _ hF40 hd42 hn41 ⟨a43, n47, c44, Lb45, rfl, rfl, hz46⟩
 replace hz15 := hz15.mono (iE_ok _) hF40
 replace hz32 := hz32.mono (iE_ok _) hF40
 have hn49 := newp (Lb' := []) (by rfl) hd42 hn41
 replace hz46 := hz46.new fun p hp => hn49 p (by simp [hp])
 refine shO_L (lp (ln (lp (ln rfl)))) ?_
 refine kO (kf (fS (fS fO)) (kf (fS (fS fO)) kr)) ?_
 refine om rfl rfl (ox rfl rfl rfl (ox rfl rfl rfl (oa rfl rfl (oa rfl rfl (nsr ?_)))))
 refine ov (v_loadA (cs := #[.int .i64 n, .slice a12 n16 c13]) Tryz.isAgg24 Tryz.sizeOf24 rfl (Has.own 1 rfl) (Nat.le_of_ble_eq_true rfl) rfl) rfl ?_
 refine ov (v_build (v := .agg #[.int .i64 0, .int .i64 5]) rfl (by intro w; kernel_rfl)) rfl ?_
 refine o_buildSlice (cs := #[.int .i64 1, .int .i64 3]) rfl rfl (buildSlice_all slt_28 [.int .i64 1, .int .i64 3] rfl (by decide) (by simp [Value.cells]) (by decide)) ?_; intro b50 hb50
 refine shO_freeze 0 rfl hb50 ?_; intro F51 hF52 hz53
 refine shO_L (L' := (b36, .cells #[.int .i64 n2, .slice a29 n33 c30] 24 (0, 0)) :: ((b35, .cells #[.int .i64 n, .slice a12 n16 c13] 24 (0, 0)) :: (Lb45 ++ (Lb14 ++ (Lb31 ++ []))))) rfl ?_
 replace hz15 := hz15.mono (iE_ok _) hF52
 replace hz32 := hz32.mono (iE_ok _) hF52
 replace hz46 := hz46.mono (iE_ok _) hF52
 have h54 : RowR 1 (iE .i64) F51 (some ⟨b50, 0, none⟩) 2 [1, 3] := RowR.of_block (iE_ok _) (vss := [[.int .i64 1], [.int .i64 3]]) (xs := [1, 3]) hz53 (.cons rfl (.cons rfl .nil)) rfl (by simp [maxLen])
 obtain ⟨l4, n4, h55, r56⟩ := b2_ok r38; clear r38
 refine o_callTO (Lb := []) (Lt := Lb14 ++ []) (Lr := (b36, .cells #[.int .i64 n2, .slice a29 n33 c30] 24 (0, 0)) :: ((b35, .cells #[.int .i64 n, .slice a12 n16 c13] 24 (0, 0)) :: (Lb45 ++ (Lb31 ++ [])))) rfl Tryz.call10 rfl rfl rfl (pT ((fC (fC (fS fP))).trans (pA pR)) (ln (lp (ln rfl)))) (fun F2 h2 h3 => by rw [(SlR.caps hz15).1]; exact hear_Fewest_w (hz15.row (iE_ok _) h2 (fun p hp => h3 p (List.mem_append_left _ hp))) (h54.mono (iE_ok _) h2) h55) (fun _ _ _ _ hq => by obtain ⟨a61, n65, c62, Lb63, rfl, rfl, hz64⟩ := hq; exact ⟨_, _, _, _, rfl, rfl, hz64.flat (fun _ _ h => h)⟩) ?_; rintro _ F57 _ hF58 hd60 hn59 ⟨a61, n65, c62, Lb63, rfl, rfl, hz64⟩
 replace hz15 := hz15.mono (iE_ok _) hF58
 replace hz32 := hz32.mono (iE_ok _) hF58
 replace hz46 := hz46.mono (iE_ok _) hF58
 have hn67 := newp (Lb' := []) (by rfl) hd60 hn59
 replace hz64 := hz64.new fun p hp => hn67 p (by simp [hp])
 refine shO_L (lp (ln (lp (ln rfl)))) ?_
 refine kO (kf (fS (fS fO)) (kf (fS (fS fO)) kr)) ?_
 refine om rfl rfl (ox rfl rfl rfl (ox rfl rfl rfl (oa rfl rfl (oa rfl rfl (nsr ?_)))))
 refine ov (v_loadA (cs := #[.int .i64 n2, .slice a29 n33 c30]) Tryz.isAgg24 Tryz.sizeOf24 rfl (Has.own 0 rfl) (Nat.le_of_ble_eq_true rfl) rfl) rfl ?_
 refine ov (v_build (v := .agg #[.int .i64 0, .int .i64 3]) rfl (by intro w; kernel_rfl)) rfl ?_
 refine o_buildSlice (cs := #[.int .i64 0, .int .i64 2]) rfl rfl (buildSlice_all slt_28 [.int .i64 0, .int .i64 2] rfl (by decide) (by simp [Value.cells]) (by decide)) ?_; intro b68 hb68
 refine shO_freeze 0 rfl hb68 ?_; intro F69 hF70 hz71
 refine shO_L (L' := (b36, .cells #[.int .i64 n2, .slice a29 n33 c30] 24 (0, 0)) :: ((b35, .cells #[.int .i64 n, .slice a12 n16 c13] 24 (0, 0)) :: (Lb63 ++ (Lb14 ++ (Lb45 ++ (Lb31 ++ [])))))) rfl ?_
 replace hz15 := hz15.mono (iE_ok _) hF70
 replace hz32 := hz32.mono (iE_ok _) hF70
 replace hz46 := hz46.mono (iE_ok _) hF70
 replace hz64 := hz64.mono (iE_ok _) hF70
 have h72 : RowR 1 (iE .i64) F69 (some ⟨b68, 0, none⟩) 2 [0, 2] := RowR.of_block (iE_ok _) (vss := [[.int .i64 0], [.int .i64 2]]) (xs := [0, 2]) hz71 (.cons rfl (.cons rfl .nil)) rfl (by simp [maxLen])
 obtain ⟨l5, n5, h73, r74⟩ := b2_ok r56; clear r56
 refine o_callTO (Lb := []) (Lt := Lb31 ++ []) (Lr := (b36, .cells #[.int .i64 n2, .slice a29 n33 c30] 24 (0, 0)) :: ((b35, .cells #[.int .i64 n, .slice a12 n16 c13] 24 (0, 0)) :: (Lb63 ++ (Lb14 ++ (Lb45 ++ []))))) rfl Tryz.call10 rfl rfl rfl (pT ((fC (fC (fS (fS (fS fP))))).trans (pA pR)) (ln (lp (ln rfl)))) (fun F2 h2 h3 => by rw [(SlR.caps hz32).1]; exact hear_Fewest_w (hz32.row (iE_ok _) h2 (fun p hp => h3 p (List.mem_append_left _ hp))) (h72.mono (iE_ok _) h2) h73) (fun _ _ _ _ hq => by obtain ⟨a79, n83, c80, Lb81, rfl, rfl, hz82⟩ := hq; exact ⟨_, _, _, _, rfl, rfl, hz82.flat (fun _ _ h => h)⟩) ?_; rintro _ F75 _ hF76 hd78 hn77 ⟨a79, n83, c80, Lb81, rfl, rfl, hz82⟩
 replace hz15 := hz15.mono (iE_ok _) hF76
 replace hz32 := hz32.mono (iE_ok _) hF76
 replace hz46 := hz46.mono (iE_ok _) hF76
 replace hz64 := hz64.mono (iE_ok _) hF76
 have hn85 := newp (Lb' := []) (by rfl) hd78 hn77
 replace hz82 := hz82.new fun p hp => hn85 p (by simp [hp])
 refine shO_L (lp (ln (lp (ln rfl)))) ?_
 refine kO (kf (fS (fS fO)) (kf (fS (fS fO)) kr)) ?_
 refine om rfl rfl (ox rfl rfl rfl (ox rfl rfl rfl (oa rfl rfl (oa rfl rfl (nsr ?_)))))
 refine ov (v_loadA (cs := #[.int .i64 n2, .slice a29 n33 c30]) Tryz.isAgg24 Tryz.sizeOf24 rfl (Has.own 0 rfl) (Nat.le_of_ble_eq_true rfl) rfl) rfl ?_
 refine o_buildSlice (cs := #[.int .i64 3, .int .i64 0, .int .i64 3, .int .i64 5, .int .i64 0, .int .i64 5]) rfl rfl (buildSlice_all slt_28 [.int .i64 3, .int .i64 0, .int .i64 3, .int .i64 5, .int .i64 0, .int .i64 5] rfl (by decide) (by simp [Value.cells]) (by decide)) ?_; intro b86 hb86
 refine shO_freeze 0 rfl hb86 ?_; intro F87 hF88 hz89
 refine shO_L (L' := (b36, .cells #[.int .i64 n2, .slice a29 n33 c30] 24 (0, 0)) :: ((b35, .cells #[.int .i64 n, .slice a12 n16 c13] 24 (0, 0)) :: (Lb81 ++ (Lb31 ++ (Lb63 ++ (Lb14 ++ (Lb45 ++ []))))))) rfl ?_
 replace hz15 := hz15.mono (iE_ok _) hF88
 replace hz32 := hz32.mono (iE_ok _) hF88
 replace hz46 := hz46.mono (iE_ok _) hF88
 replace hz64 := hz64.mono (iE_ok _) hF88
 replace hz82 := hz82.mono (iE_ok _) hF88
 have h90 : RowR 1 (iE .i64) F87 (some ⟨b86, 0, none⟩) 6 [3, 0, 3, 5, 0, 5] := RowR.of_block (iE_ok _) (vss := [[.int .i64 3], [.int .i64 0], [.int .i64 3], [.int .i64 5], [.int .i64 0], [.int .i64 5]]) (xs := [3, 0, 3, 5, 0, 5]) hz89 (.cons rfl (.cons rfl (.cons rfl (.cons rfl (.cons rfl (.cons rfl .nil)))))) rfl (by simp [maxLen])
 obtain ⟨ok, n6, h91, r92⟩ := b2_ok r74; clear r74
 refine o_callT (Lt := Lb31 ++ []) (Lr := (b36, .cells #[.int .i64 n2, .slice a29 n33 c30] 24 (0, 0)) :: ((b35, .cells #[.int .i64 n, .slice a12 n16 c13] 24 (0, 0)) :: (Lb81 ++ (Lb63 ++ (Lb14 ++ (Lb45 ++ [])))))) rfl Tryz.call35 rfl rfl rfl (pT ((fC (fC (fS fP))).trans (pA pR)) (lp (ln rfl))) (fun F2 h2 h3 => by rw [(SlR.caps hz32).1]; exact hear_Holds_w (hz32.row (iE_ok _) h2 (fun p hp => h3 p (List.mem_append_left _ hp))) (h90.mono (iE_ok _) h2) h91) ?_
 refine om rfl rfl (ox rfl rfl rfl (ox rfl rfl rfl (oa rfl rfl (oa rfl rfl (shO_nil (shW_seq ?_))))))
 obtain ⟨k, h93, r94⟩ := b1_ok r92; clear r92
 refine shW_join (fun e1 F1 L1 => FExt F87 F1 ∧ L1 = ((b36, .cells #[.int .i64 n2, .slice a29 n33 c30] 24 (0, 0)) :: ((b35, .cells #[.int .i64 n, .slice a12 n16 c13] 24 (0, 0)) :: (Lb14 ++ (Lb31 ++ [])))) ∧ e1.sub [(1, .pointer (some ⟨b35, 0, none⟩)), (2, .pointer (some ⟨b36, 0, none⟩)), (77, .bool k)]) ?_ ?_
 · clear r94
   refine shW_region (om rfl rfl ?_)
   refine ov (v_neq rfl rfl) rfl ?_
   refine om rfl rfl ?_
   by_cases c95 : n3 ≠ 0
   · have r96 := ite_t h93 c95; clear h93
     refine shO_off (b' := true) 44 rfl (Env.isT rfl c95) rfl rfl (shO_off (b' := true) 44 rfl (Env.isT rfl c95) rfl rfl ?_)
     refine ov (v_pick_t (evD_true rfl c95) rfl) rfl ?_
     refine om rfl rfl (shO_off (b' := true) 48 rfl rfl rfl rfl (shO_off (b' := true) 48 rfl rfl rfl rfl ?_))
     refine ov (v_pick_t rfl rfl) rfl ?_
     refine om rfl rfl (shO_off (b' := true) 52 rfl rfl rfl rfl (shO_off (b' := true) 52 rfl rfl rfl rfl ?_))
     refine ov (v_pick_t rfl rfl) rfl ?_
     refine om rfl rfl (shO_off (b' := true) 56 rfl rfl rfl rfl (shO_off (b' := true) 56 rfl rfl rfl rfl ?_))
     refine ov (v_pick_t rfl rfl) rfl ?_
     refine om rfl rfl (shO_off (b' := true) 60 rfl rfl rfl rfl (shO_off (b' := true) 60 rfl rfl rfl rfl (shO_off (b' := true) 60 rfl rfl rfl rfl (shO_off (b' := true) 60 rfl rfl rfl rfl ?_))))
     refine ov (v_pick_t rfl rfl) rfl ?_
     refine om rfl rfl (shO_off (b' := true) 66 rfl rfl rfl rfl (shO_off (b' := true) 66 rfl rfl rfl rfl (shO_off (b' := true) 66 rfl rfl rfl rfl (shO_off (b' := true) 66 rfl rfl rfl rfl ?_))))
     refine ov (v_pick_t rfl rfl) rfl ?_
     refine om rfl rfl (shO_off (b' := true) 72 rfl rfl rfl rfl (shO_off (b' := true) 72 rfl rfl rfl rfl (shO_off (b' := true) 72 rfl rfl rfl rfl (shO_off (b' := true) 72 rfl rfl rfl rfl ?_))))
     refine ov (v_pick_t rfl rfl) rfl ?_
     refine shO_nil ?_
     obtain rfl := inj1 r96
     exact mi (kc (kc (kx (kg (fS (fS fP)) (ka kn))))) ⟨FExt.refl _, rfl, (sc rfl (sc rfl (sc rfl (sn _))))⟩
   have r97 := ite_f h93 c95; clear h93
   refine shO_on (b := false) 44 rfl (Env.isF rfl c95) (om rfl rfl (shO_on (b := false) 44 rfl (Env.isF rfl c95) ?_))
   refine ov (v_neq rfl rfl) rfl ?_
   refine ov (v_pick_f (evD_false rfl c95) rfl) rfl ?_
   refine om rfl rfl ?_
   by_cases c98 : n4 ≠ 0
   · have r99 := ite_t r97 c98; clear r97
     refine shO_off (b' := true) 48 rfl (Env.isT rfl c98) rfl rfl (shO_off (b' := true) 48 rfl (Env.isT rfl c98) rfl rfl ?_)
     refine ov (v_pick_t (evD_true rfl c98) rfl) rfl ?_
     refine om rfl rfl (shO_off (b' := true) 52 rfl rfl rfl rfl (shO_off (b' := true) 52 rfl rfl rfl rfl ?_))
     refine ov (v_pick_t rfl rfl) rfl ?_
     refine om rfl rfl (shO_off (b' := true) 56 rfl rfl rfl rfl (shO_off (b' := true) 56 rfl rfl rfl rfl ?_))
     refine ov (v_pick_t rfl rfl) rfl ?_
     refine om rfl rfl (shO_off (b' := true) 60 rfl rfl rfl rfl (shO_off (b' := true) 60 rfl rfl rfl rfl (shO_off (b' := true) 60 rfl rfl rfl rfl (shO_off (b' := true) 60 rfl rfl rfl rfl ?_))))
     refine ov (v_pick_t rfl rfl) rfl ?_
     refine om rfl rfl (shO_off (b' := true) 66 rfl rfl rfl rfl (shO_off (b' := true) 66 rfl rfl rfl rfl (shO_off (b' := true) 66 rfl rfl rfl rfl (shO_off (b' := true) 66 rfl rfl rfl rfl ?_))))
     refine ov (v_pick_t rfl rfl) rfl ?_
     refine om rfl rfl (shO_off (b' := true) 72 rfl rfl rfl rfl (shO_off (b' := true) 72 rfl rfl rfl rfl (shO_off (b' := true) 72 rfl rfl rfl rfl (shO_off (b' := true) 72 rfl rfl rfl rfl ?_))))
     refine ov (v_pick_t rfl rfl) rfl ?_
     refine shO_nil ?_
     obtain rfl := inj1 r99
     exact mi (kc (kc (kx (kg (fS (fS fP)) (ka kn))))) ⟨FExt.refl _, rfl, (sc rfl (sc rfl (sc rfl (sn _))))⟩
   have r100 := ite_f r97 c98; clear r97
   refine shO_on (b := false) 48 rfl (Env.isF rfl c98) (om rfl rfl (shO_on (b := false) 48 rfl (Env.isF rfl c98) ?_))
   refine ov (v_neq rfl rfl) rfl ?_
   refine ov (v_pick_f (evD_false rfl c98) rfl) rfl ?_
   refine om rfl rfl ?_
   by_cases c101 : n5 ≠ 0
   · have r102 := ite_t r100 c101; clear r100
     refine shO_off (b' := true) 52 rfl (Env.isT rfl c101) rfl rfl (shO_off (b' := true) 52 rfl (Env.isT rfl c101) rfl rfl ?_)
     refine ov (v_pick_t (evD_true rfl c101) rfl) rfl ?_
     refine om rfl rfl (shO_off (b' := true) 56 rfl rfl rfl rfl (shO_off (b' := true) 56 rfl rfl rfl rfl ?_))
     refine ov (v_pick_t rfl rfl) rfl ?_
     refine om rfl rfl (shO_off (b' := true) 60 rfl rfl rfl rfl (shO_off (b' := true) 60 rfl rfl rfl rfl (shO_off (b' := true) 60 rfl rfl rfl rfl (shO_off (b' := true) 60 rfl rfl rfl rfl ?_))))
     refine ov (v_pick_t rfl rfl) rfl ?_
     refine om rfl rfl (shO_off (b' := true) 66 rfl rfl rfl rfl (shO_off (b' := true) 66 rfl rfl rfl rfl (shO_off (b' := true) 66 rfl rfl rfl rfl (shO_off (b' := true) 66 rfl rfl rfl rfl ?_))))
     refine ov (v_pick_t rfl rfl) rfl ?_
     refine om rfl rfl (shO_off (b' := true) 72 rfl rfl rfl rfl (shO_off (b' := true) 72 rfl rfl rfl rfl (shO_off (b' := true) 72 rfl rfl rfl rfl (shO_off (b' := true) 72 rfl rfl rfl rfl ?_))))
     refine ov (v_pick_t rfl rfl) rfl ?_
     refine shO_nil ?_
     obtain rfl := inj1 r102
     exact mi (kc (kc (kx (kg (fS (fS fP)) (ka kn))))) ⟨FExt.refl _, rfl, (sc rfl (sc rfl (sc rfl (sn _))))⟩
   have r103 := ite_f r100 c101; clear r100
   refine shO_on (b := false) 52 rfl (Env.isF rfl c101) (om rfl rfl (shO_on (b := false) 52 rfl (Env.isF rfl c101) ?_))
   refine ov (v_neq rfl rfl) rfl ?_
   refine ov (v_pick_f (evD_false rfl c101) rfl) rfl ?_
   refine om rfl rfl ?_
   by_cases c104 : n6 ≠ 0
   · have r105 := ite_t r103 c104; clear r103
     refine shO_off (b' := true) 56 rfl (Env.isT rfl c104) rfl rfl (shO_off (b' := true) 56 rfl (Env.isT rfl c104) rfl rfl ?_)
     refine ov (v_pick_t (evD_true rfl c104) rfl) rfl ?_
     refine om rfl rfl (shO_off (b' := true) 60 rfl rfl rfl rfl (shO_off (b' := true) 60 rfl rfl rfl rfl (shO_off (b' := true) 60 rfl rfl rfl rfl (shO_off (b' := true) 60 rfl rfl rfl rfl ?_))))
     refine ov (v_pick_t rfl rfl) rfl ?_
     refine om rfl rfl (shO_off (b' := true) 66 rfl rfl rfl rfl (shO_off (b' := true) 66 rfl rfl rfl rfl (shO_off (b' := true) 66 rfl rfl rfl rfl (shO_off (b' := true) 66 rfl rfl rfl rfl ?_))))
     refine ov (v_pick_t rfl rfl) rfl ?_
     refine om rfl rfl (shO_off (b' := true) 72 rfl rfl rfl rfl (shO_off (b' := true) 72 rfl rfl rfl rfl (shO_off (b' := true) 72 rfl rfl rfl rfl (shO_off (b' := true) 72 rfl rfl rfl rfl ?_))))
     refine ov (v_pick_t rfl rfl) rfl ?_
     refine shO_nil ?_
     obtain rfl := inj1 r105
     exact mi (kc (kc (kx (kg (fS (fS fP)) (ka kn))))) ⟨FExt.refl _, rfl, (sc rfl (sc rfl (sc rfl (sn _))))⟩
   have r106 := ite_f r103 c104; clear r103
   refine shO_on (b := false) 56 rfl (Env.isF rfl c104) (om rfl rfl (shO_on (b := false) 56 rfl (Env.isF rfl c104) ?_))
   refine ov (v_notB rfl) rfl ?_
   refine ov (v_pick_f (evD_false rfl c104) rfl) rfl ?_
   refine om rfl rfl ?_
   rcases bool_two (!ok) with c107 | c107
   · have r108 := bt r106 c107; clear r106
     refine shO_off (b' := true) 60 rfl (EnvB rfl c107) rfl rfl (shO_off (b' := true) 60 rfl (EnvB rfl c107) rfl rfl (shO_off (b' := true) 60 rfl (EnvB rfl c107) rfl rfl (shO_off (b' := true) 60 rfl (EnvB rfl c107) rfl rfl ?_)))
     refine ov (v_pick_t (evB rfl c107) rfl) rfl ?_
     refine om rfl rfl (shO_off (b' := true) 66 rfl rfl rfl rfl (shO_off (b' := true) 66 rfl rfl rfl rfl (shO_off (b' := true) 66 rfl rfl rfl rfl (shO_off (b' := true) 66 rfl rfl rfl rfl ?_))))
     refine ov (v_pick_t rfl rfl) rfl ?_
     refine om rfl rfl (shO_off (b' := true) 72 rfl rfl rfl rfl (shO_off (b' := true) 72 rfl rfl rfl rfl (shO_off (b' := true) 72 rfl rfl rfl rfl (shO_off (b' := true) 72 rfl rfl rfl rfl ?_))))
     refine ov (v_pick_t rfl rfl) rfl ?_
     refine shO_nil ?_
     obtain rfl := inj1 r108
     exact mi (kc (kc (kx (kg (fS (fS fP)) (ka kn))))) ⟨FExt.refl _, rfl, (sc rfl (sc rfl (sc rfl (sn _))))⟩
   have r109 := bf r106 c107; clear r106
   refine shO_on (b := false) 60 rfl (EnvB rfl c107) (om rfl rfl (shO_on (b := false) 60 rfl (EnvB rfl c107) ?_))
   refine o_buildSlice (cs := #[.int .i64 0, .int .i64 5, .int .i64 9, .int .i64 14]) rfl rfl (buildSlice_all slt_28 [.int .i64 0, .int .i64 5, .int .i64 9, .int .i64 14] rfl (by decide) (by simp [Value.cells]) (by decide)) ?_; intro b110 hb110
   refine shO_on (b := false) 60 rfl (EnvB rfl c107) ?_
   refine shO_freeze 0 rfl hb110 ?_; intro F111 hF112 hz113
   refine shO_L (L' := (b36, .cells #[.int .i64 n2, .slice a29 n33 c30] 24 (0, 0)) :: ((b35, .cells #[.int .i64 n, .slice a12 n16 c13] 24 (0, 0)) :: (Lb81 ++ (Lb31 ++ (Lb63 ++ (Lb14 ++ (Lb45 ++ []))))))) rfl ?_
   replace hz46 := hz46.mono (iE_ok _) hF112
   replace hz64 := hz64.mono (iE_ok _) hF112
   replace hz82 := hz82.mono (iE_ok _) hF112
   have h114 : RowR 1 (iE .i64) F111 (some ⟨b110, 0, none⟩) 4 [0, 5, 9, 14] := RowR.of_block (iE_ok _) (vss := [[.int .i64 0], [.int .i64 5], [.int .i64 9], [.int .i64 14]]) (xs := [0, 5, 9, 14]) hz113 (.cons rfl (.cons rfl (.cons rfl (.cons rfl .nil)))) rfl (by simp [maxLen])
   obtain ⟨ok2, h115, r116⟩ := b1_ok r109; clear r109
   refine o_callT (Lt := Lb45 ++ []) (Lr := (b36, .cells #[.int .i64 n2, .slice a29 n33 c30] 24 (0, 0)) :: ((b35, .cells #[.int .i64 n, .slice a12 n16 c13] 24 (0, 0)) :: (Lb81 ++ (Lb31 ++ (Lb63 ++ (Lb14 ++ [])))))) rfl Tryz.call12 rfl rfl rfl (pT ((fC (fC (fS (fS (fS (fS fP)))))).trans (pA pR)) (lp (ln rfl))) (fun F2 h2 h3 => by rw [(SlR.caps hz46).1]; exact oyezkit_Like_int_w (hz46.row (iE_ok _) h2 (fun p hp => h3 p (List.mem_append_left _ hp))) (h114.mono (iE_ok _) h2) h115) ?_
   refine shO_on (b := false) 60 rfl (EnvB rfl c107) ?_
   refine ov (v_notB rfl) rfl ?_
   refine ov (v_pick_f (evB rfl c107) rfl) rfl ?_
   refine om rfl rfl ?_
   rcases bool_two (!ok2) with c117 | c117
   · have r118 := bt r116 c117; clear r116
     refine shO_off (b' := true) 66 rfl (EnvB rfl c117) rfl rfl (shO_off (b' := true) 66 rfl (EnvB rfl c117) rfl rfl (shO_off (b' := true) 66 rfl (EnvB rfl c117) rfl rfl (shO_off (b' := true) 66 rfl (EnvB rfl c117) rfl rfl ?_)))
     refine ov (v_pick_t (evB rfl c117) rfl) rfl ?_
     refine om rfl rfl (shO_off (b' := true) 72 rfl rfl rfl rfl (shO_off (b' := true) 72 rfl rfl rfl rfl (shO_off (b' := true) 72 rfl rfl rfl rfl (shO_off (b' := true) 72 rfl rfl rfl rfl ?_))))
     refine ov (v_pick_t rfl rfl) rfl ?_
     refine shO_nil ?_
     obtain rfl := inj1 r118
     exact mi (kc (kc (kx (kg (fS (fS fP)) (ka kn))))) ⟨hF112, rfl, (sc rfl (sc rfl (sc rfl (sn _))))⟩
   have r119 := bf r116 c117; clear r116
   refine shO_on (b := false) 66 rfl (EnvB rfl c117) (om rfl rfl (shO_on (b := false) 66 rfl (EnvB rfl c117) ?_))
   refine o_buildSlice (cs := #[.int .i64 2]) rfl rfl (buildSlice_all slt_28 [.int .i64 2] rfl (by decide) (by simp [Value.cells]) (by decide)) ?_; intro b120 hb120
   refine shO_on (b := false) 66 rfl (EnvB rfl c117) ?_
   refine shO_freeze 0 rfl hb120 ?_; intro F121 hF122 hz123
   refine shO_L (L' := (b36, .cells #[.int .i64 n2, .slice a29 n33 c30] 24 (0, 0)) :: ((b35, .cells #[.int .i64 n, .slice a12 n16 c13] 24 (0, 0)) :: (Lb81 ++ (Lb31 ++ (Lb63 ++ (Lb14 ++ (Lb45 ++ []))))))) rfl ?_
   replace hz64 := hz64.mono (iE_ok _) hF122
   replace hz82 := hz82.mono (iE_ok _) hF122
   have h124 : RowR 1 (iE .i64) F121 (some ⟨b120, 0, none⟩) 1 [2] := RowR.of_block (iE_ok _) (vss := [[.int .i64 2]]) (xs := [2]) hz123 (.cons rfl .nil) rfl (by simp [maxLen])
   obtain ⟨ok3, h125, r126⟩ := b1_ok r119; clear r119
   refine o_callT (Lt := Lb63 ++ []) (Lr := (b36, .cells #[.int .i64 n2, .slice a29 n33 c30] 24 (0, 0)) :: ((b35, .cells #[.int .i64 n, .slice a12 n16 c13] 24 (0, 0)) :: (Lb81 ++ (Lb31 ++ (Lb14 ++ (Lb45 ++ [])))))) rfl Tryz.call12 rfl rfl rfl (pT ((fC (fC (fS (fS fP)))).trans (pA pR)) (lp (ln rfl))) (fun F2 h2 h3 => by rw [(SlR.caps hz64).1]; exact oyezkit_Like_int_w (hz64.row (iE_ok _) h2 (fun p hp => h3 p (List.mem_append_left _ hp))) (h124.mono (iE_ok _) h2) h125) ?_
   refine shO_on (b := false) 66 rfl (EnvB rfl c117) ?_
   refine ov (v_notB rfl) rfl ?_
   refine ov (v_pick_f (evB rfl c117) rfl) rfl ?_
   refine om rfl rfl ?_
   rcases bool_two (!ok3) with c127 | c127
   · have r128 := bt r126 c127; clear r126
     refine shO_off (b' := true) 72 rfl (EnvB rfl c127) rfl rfl (shO_off (b' := true) 72 rfl (EnvB rfl c127) rfl rfl (shO_off (b' := true) 72 rfl (EnvB rfl c127) rfl rfl (shO_off (b' := true) 72 rfl (EnvB rfl c127) rfl rfl ?_)))
     refine ov (v_pick_t (evB rfl c127) rfl) rfl ?_
     refine shO_nil ?_
     obtain rfl := inj1 r128
     exact mi (kc (kc (kx (kg (fS (fS fP)) (ka kn))))) ⟨(hF112.trans hF122), rfl, (sc rfl (sc rfl (sc rfl (sn _))))⟩
   have r129 := bf r126 c127; clear r126
   refine shO_on (b := false) 72 rfl (EnvB rfl c127) (om rfl rfl (shO_on (b := false) 72 rfl (EnvB rfl c127) ?_))
   refine o_buildSlice (cs := #[.int .i64 1]) rfl rfl (buildSlice_all slt_28 [.int .i64 1] rfl (by decide) (by simp [Value.cells]) (by decide)) ?_; intro b130 hb130
   refine shO_on (b := false) 72 rfl (EnvB rfl c127) ?_
   refine shO_freeze 0 rfl hb130 ?_; intro F131 hF132 hz133
   refine shO_L (L' := (b36, .cells #[.int .i64 n2, .slice a29 n33 c30] 24 (0, 0)) :: ((b35, .cells #[.int .i64 n, .slice a12 n16 c13] 24 (0, 0)) :: (Lb81 ++ (Lb31 ++ (Lb63 ++ (Lb14 ++ (Lb45 ++ []))))))) rfl ?_
   replace hz82 := hz82.mono (iE_ok _) hF132
   have h134 : RowR 1 (iE .i64) F131 (some ⟨b130, 0, none⟩) 1 [1] := RowR.of_block (iE_ok _) (vss := [[.int .i64 1]]) (xs := [1]) hz133 (.cons rfl .nil) rfl (by simp [maxLen])
   obtain ⟨ok4, h135, r136⟩ := b1_ok r129; clear r129
   refine o_callT (Lt := Lb81 ++ []) (Lr := (b36, .cells #[.int .i64 n2, .slice a29 n33 c30] 24 (0, 0)) :: ((b35, .cells #[.int .i64 n, .slice a12 n16 c13] 24 (0, 0)) :: (Lb31 ++ (Lb63 ++ (Lb14 ++ (Lb45 ++ [])))))) rfl Tryz.call12 rfl rfl rfl (pT ((fC (fC fP)).trans (pA pR)) (lp (ln rfl))) (fun F2 h2 h3 => by rw [(SlR.caps hz82).1]; exact oyezkit_Like_int_w (hz82.row (iE_ok _) h2 (fun p hp => h3 p (List.mem_append_left _ hp))) (h134.mono (iE_ok _) h2) h135) ?_
   refine shO_on (b := false) 72 rfl (EnvB rfl c127) ?_
   refine ov (v_notB rfl) rfl ?_
   refine ov (v_pick_f (evB rfl c127) rfl) rfl ?_
   refine shO_nil ?_
   obtain rfl := inj1 r136
   exact mi (kc (kc (kx (kg (fS (fS fP)) (ka kn))))) ⟨((hF112.trans hF122).trans hF132), rfl, (sc rfl (sc rfl (sc rfl (sn _))))⟩
 rintro e1 F138 _ ⟨hF139, rfl, he137⟩
 refine shW_env _ he137 ?_; clear he137
 replace hz15 := hz15.mono (iE_ok _) hF139
 replace hz32 := hz32.mono (iE_ok _) hF139
 refine shW_cond rfl (fun c140 => ?_) (fun c140 => ?_)
 · have r141 := bt r94 c140; clear r94
   refine wsr (oa rfl rfl (shO_nil ?_))
   refine kW kn ?_
   refine shW_ret (andThen_ret ?_)
   refine q_res1 Tryz.results6 (res_tmp rfl) (sr) ?_
   obtain rfl := inj1 r141
   exact rfl
 have r142 := bf r94 c140; clear r94
 refine shW_skip (wsr ?_)
 refine ov (v_loadA (cs := #[.int .i64 n, .slice a12 n16 c13]) Tryz.isAgg24 Tryz.sizeOf24 rfl (Has.own 1 rfl) (Nat.le_of_ble_eq_true rfl) rfl) rfl ?_
 refine o_buildSlice (cs := #[.int .i64 1, .int .i64 3]) rfl rfl (buildSlice_all slt_28 [.int .i64 1, .int .i64 3] rfl (by decide) (by simp [Value.cells]) (by decide)) ?_; intro b143 hb143
 refine shO_freeze 0 rfl hb143 ?_; intro F144 hF145 hz146
 refine shO_L (L' := (b36, .cells #[.int .i64 n2, .slice a29 n33 c30] 24 (0, 0)) :: ((b35, .cells #[.int .i64 n, .slice a12 n16 c13] 24 (0, 0)) :: (Lb14 ++ (Lb31 ++ [])))) rfl ?_
 replace hz15 := hz15.mono (iE_ok _) hF145
 replace hz32 := hz32.mono (iE_ok _) hF145
 have h147 : RowR 1 (iE .i64) F144 (some ⟨b143, 0, none⟩) 2 [1, 3] := RowR.of_block (iE_ok _) (vss := [[.int .i64 1], [.int .i64 3]]) (xs := [1, 3]) hz146 (.cons rfl (.cons rfl .nil)) rfl (by simp [maxLen])
 obtain ⟨n7, n8, h148, r149⟩ := b2_ok r142; clear r142
 refine o_callT (Lt := Lb14 ++ []) (Lr := (b36, .cells #[.int .i64 n2, .slice a29 n33 c30] 24 (0, 0)) :: ((b35, .cells #[.int .i64 n, .slice a12 n16 c13] 24 (0, 0)) :: (Lb31 ++ []))) rfl Tryz.call36 rfl rfl rfl (pT ((fC (fC fP)).trans (pA pR)) (lp (ln rfl))) (fun F2 h2 h3 => by rw [(SlR.caps hz15).1]; exact hear_Louder_w (hz15.row (iE_ok _) h2 (fun p hp => h3 p (List.mem_append_left _ hp))) (h147.mono (iE_ok _) h2) h148) ?_
 refine om rfl rfl (ox rfl rfl rfl (ox rfl rfl rfl (oa rfl rfl (oa rfl rfl (nsr ?_)))))
 refine ov (v_loadA (cs := #[.int .i64 n2, .slice a29 n33 c30]) Tryz.isAgg24 Tryz.sizeOf24 rfl (Has.own 0 rfl) (Nat.le_of_ble_eq_true rfl) rfl) rfl ?_
 obtain ⟨l6, n9, h150, r151⟩ := b2_ok r149; clear r149
 refine o_callTO (Lb := []) (Lt := Lb31 ++ []) (Lr := (b36, .cells #[.int .i64 n2, .slice a29 n33 c30] 24 (0, 0)) :: ((b35, .cells #[.int .i64 n, .slice a12 n16 c13] 24 (0, 0)) :: (Lb14 ++ []))) rfl Tryz.call37 rfl rfl rfl (pT ((fC (fC (fS fP))).trans (pA pR)) (ln (lp (ln rfl)))) (fun F2 h2 h3 => by rw [(SlR.caps hz32).1]; exact hear_Way_w (hz32.row (iE_ok _) h2 (fun p hp => h3 p (List.mem_append_left _ hp))) h150) (fun _ _ _ _ hq => by obtain ⟨a156, n160, c157, Lb158, rfl, rfl, hz159⟩ := hq; exact ⟨_, _, _, _, rfl, rfl, hz159.flat (fun _ _ h => h)⟩) ?_; rintro _ F152 _ hF153 hd155 hn154 ⟨a156, n160, c157, Lb158, rfl, rfl, hz159⟩
 have hn162 := newp (Lb' := []) (by rfl) hd155 hn154
 replace hz159 := hz159.new fun p hp => hn162 p (by simp [hp])
 refine shO_L (lp (ln (lp (ln rfl)))) ?_
 refine kO (kf (fS (fS fO)) (kf (fS (fS fO)) kr)) ?_
 refine om rfl rfl (ox rfl rfl rfl (ox rfl rfl rfl (oa rfl rfl (oa rfl rfl (nsr ?_)))))
 refine o_buildSlice (cs := #[.string (sB [115, 104, 119, 104])]) rfl rfl (buildSlice_all slt_115 [.string (sB [115, 104, 119, 104])] rfl (by decide) (by simp [Value.cells]) (by decide)) ?_; intro b163 hb163
 refine shO_freeze 0 rfl hb163 ?_; intro F164 hF165 hz166
 refine shO_L (L' := (b36, .cells #[.int .i64 n2, .slice a29 n33 c30] 24 (0, 0)) :: ((b35, .cells #[.int .i64 n, .slice a12 n16 c13] 24 (0, 0)) :: (Lb158 ++ (Lb31 ++ (Lb14 ++ []))))) rfl ?_
 replace hz159 := hz159.mono (iE_ok _) hF165
 have h167 : RowR 1 sE F164 (some ⟨b163, 0, none⟩) 1 [[115, 104, 119, 104]] := RowR.of_block sE_ok (vss := [[.string (sB [115, 104, 119, 104])]]) (xs := [[115, 104, 119, 104]]) hz166 (.cons rfl .nil) rfl (by simp [maxLen])
 obtain ⟨n10, l7, h168, r169⟩ := b2_ok r151; clear r151
 refine o_call0 rfl Tryz.call33 rfl rfl rfl (oyezlaw01_Drawn_w h167 h168) ?_; rintro _ F170 _ hF171 hn172 ⟨a174, n178, c175, Lb176, rfl, rfl, hz177⟩
 replace hz159 := hz159.mono (iE_ok _) hF171
 replace hz177 := hz177.new fun p hp => hn172 p (by simp [hp])
 refine shO_L (lp (ln rfl)) ?_
 refine kO (kf (fS fO) (kf (fS fO) kr)) ?_
 obtain ⟨n11, n12, h180, r181⟩ := b2_ok r169; clear r169
 refine o_callT (Lt := Lb176 ++ []) (Lr := (b36, .cells #[.int .i64 n2, .slice a29 n33 c30] 24 (0, 0)) :: ((b35, .cells #[.int .i64 n, .slice a12 n16 c13] 24 (0, 0)) :: (Lb158 ++ (Lb31 ++ (Lb14 ++ []))))) rfl Tryz.call38 rfl rfl rfl (pT ((fC (fC fP)).trans (pA pR)) (lp (ln rfl))) (fun F2 h2 h3 => by rw [(SlR.caps hz177).1]; exact hear_Need_w (hz177.row (iE_ok _) h2 (fun p hp => h3 p (List.mem_append_left _ hp))) h180) ?_
 refine om rfl rfl (ox rfl rfl rfl (ox rfl rfl rfl (oa rfl rfl (nsr (om rfl rfl ?_)))))
 refine ov (v_eql rfl rfl) rfl ?_
 refine om rfl rfl ?_
 by_cases c182 : n8 = 0
 · have r183 := ite_t r181 c182; clear r181
   refine shO_on (b := true) 97 rfl (Env.isT rfl c182) (om rfl rfl (shO_on (b := true) 97 rfl (Env.isT rfl c182) ?_))
   refine ov (v_eql rfl rfl) rfl ?_
   refine ov (v_pick_t (evD_true rfl c182) rfl) rfl ?_
   refine om rfl rfl ?_
   by_cases c184 : n9 = 0
   · have r185 := ite_t r183 c184; clear r183
     refine shO_on (b := true) 101 rfl (Env.isT rfl c184) (om rfl rfl (shO_on (b := true) 101 rfl (Env.isT rfl c184) ?_))
     refine ov (v_eql rfl rfl) rfl ?_
     refine ov (v_pick_t (evD_true rfl c184) rfl) rfl ?_
     refine om rfl rfl ?_
     by_cases c186 : n7 = 5
     · have r187 := ite_t r185 c186; clear r185
       refine shO_on (b := true) 105 rfl (Env.isT rfl c186) (om rfl rfl (shO_on (b := true) 105 rfl (Env.isT rfl c186) ?_))
       refine o_buildSlice (cs := #[.int .i64 3, .int .i64 0, .int .i64 1, .int .i64 2]) rfl rfl (buildSlice_all slt_28 [.int .i64 3, .int .i64 0, .int .i64 1, .int .i64 2] rfl (by decide) (by simp [Value.cells]) (by decide)) ?_; intro b188 hb188
       refine shO_on (b := true) 105 rfl (Env.isT rfl c186) ?_
       refine shO_freeze 0 rfl hb188 ?_; intro F189 hF190 hz191
       refine shO_L (L' := (b36, .cells #[.int .i64 n2, .slice a29 n33 c30] 24 (0, 0)) :: ((b35, .cells #[.int .i64 n, .slice a12 n16 c13] 24 (0, 0)) :: (Lb176 ++ (Lb158 ++ (Lb31 ++ (Lb14 ++ [])))))) rfl ?_
       replace hz159 := hz159.mono (iE_ok _) hF190
       have h192 : RowR 1 (iE .i64) F189 (some ⟨b188, 0, none⟩) 4 [3, 0, 1, 2] := RowR.of_block (iE_ok _) (vss := [[.int .i64 3], [.int .i64 0], [.int .i64 1], [.int .i64 2]]) (xs := [3, 0, 1, 2]) hz191 (.cons rfl (.cons rfl (.cons rfl (.cons rfl .nil)))) rfl (by simp [maxLen])
       obtain ⟨ok5, h193, r194⟩ := b1_ok r187; clear r187
       refine o_callT (Lt := Lb158 ++ []) (Lr := (b36, .cells #[.int .i64 n2, .slice a29 n33 c30] 24 (0, 0)) :: ((b35, .cells #[.int .i64 n, .slice a12 n16 c13] 24 (0, 0)) :: (Lb176 ++ (Lb31 ++ (Lb14 ++ []))))) rfl Tryz.call12 rfl rfl rfl (pT ((fC (fC (fS fP))).trans (pA pR)) (lp (ln rfl))) (fun F2 h2 h3 => by rw [(SlR.caps hz159).1]; exact oyezkit_Like_int_w (hz159.row (iE_ok _) h2 (fun p hp => h3 p (List.mem_append_left _ hp))) (h192.mono (iE_ok _) h2) h193) ?_
       refine ov (v_pick_t (evD_true rfl c186) rfl) rfl ?_
       refine om rfl rfl ?_
       rcases bool_two ok5 with c195 | c195
       · have r196 := bt r194 c195; clear r194
         refine shO_on (b := true) 110 rfl (EnvB rfl c195) (om rfl rfl (shO_on (b := true) 110 rfl (EnvB rfl c195) ?_))
         refine ov (v_eql rfl rfl) rfl ?_
         refine ov (v_pick_t (evB rfl c195) rfl) rfl ?_
         refine oa rfl rfl (shO_nil ?_)
         refine kW kn ?_
         refine shW_ret ?_
         refine q_res1 Tryz.results6 (res_tmp rfl) (sr) ?_
         obtain rfl := inj1 r196
         exact rfl
       have r197 := bf r194 c195; clear r194
       refine shO_off (b' := false) 110 rfl (EnvB rfl c195) rfl rfl (shO_off (b' := false) 110 rfl (EnvB rfl c195) rfl rfl ?_)
       refine ov (v_pick_f (evB rfl c195) rfl) rfl ?_
       refine oa rfl rfl (shO_nil ?_)
       refine kW kn ?_
       refine shW_ret ?_
       refine q_res1 Tryz.results6 (res_tmp rfl) (sr) ?_
       obtain rfl := inj1 r197
       exact rfl
     have r198 := ite_f r185 c186; clear r185
     refine shO_off (b' := false) 105 rfl (Env.isF rfl c186) rfl rfl (shO_off (b' := false) 105 rfl (Env.isF rfl c186) rfl rfl (shO_off (b' := false) 105 rfl (Env.isF rfl c186) rfl rfl ?_))
     refine ov (v_pick_f (evD_false rfl c186) rfl) rfl ?_
     refine om rfl rfl (shO_off (b' := false) 110 rfl rfl rfl rfl (shO_off (b' := false) 110 rfl rfl rfl rfl ?_))
     refine ov (v_pick_f rfl rfl) rfl ?_
     refine oa rfl rfl (shO_nil ?_)
     refine kW kn ?_
     refine shW_ret ?_
     refine q_res1 Tryz.results6 (res_tmp rfl) (sr) ?_
     obtain rfl := inj1 r198
     exact rfl
   have r199 := ite_f r183 c184; clear r183
   refine shO_off (b' := false) 101 rfl (Env.isF rfl c184) rfl rfl (shO_off (b' := false) 101 rfl (Env.isF rfl c184) rfl rfl ?_)
   refine ov (v_pick_f (evD_false rfl c184) rfl) rfl ?_
   refine om rfl rfl (shO_off (b' := false) 105 rfl rfl rfl rfl (shO_off (b' := false) 105 rfl rfl rfl rfl (shO_off (b' := false) 105 rfl rfl rfl rfl ?_)))
   refine ov (v_pick_f rfl rfl) rfl ?_
   refine om rfl rfl (shO_off (b' := false) 110 rfl rfl rfl rfl (shO_off (b' := false) 110 rfl rfl rfl rfl ?_))
   refine ov (v_pick_f rfl rfl) rfl ?_
   refine oa rfl rfl (shO_nil ?_)
   refine kW kn ?_
   refine shW_ret ?_
   refine q_res1 Tryz.results6 (res_tmp rfl) (sr) ?_
   obtain rfl := inj1 r199
   exact rfl
 have r200 := ite_f r181 c182; clear r181
 refine shO_off (b' := false) 97 rfl (Env.isF rfl c182) rfl rfl (shO_off (b' := false) 97 rfl (Env.isF rfl c182) rfl rfl ?_)
 refine ov (v_pick_f (evD_false rfl c182) rfl) rfl ?_
 refine om rfl rfl (shO_off (b' := false) 101 rfl rfl rfl rfl (shO_off (b' := false) 101 rfl rfl rfl rfl ?_))
 refine ov (v_pick_f rfl rfl) rfl ?_
 refine om rfl rfl (shO_off (b' := false) 105 rfl rfl rfl rfl (shO_off (b' := false) 105 rfl rfl rfl rfl (shO_off (b' := false) 105 rfl rfl rfl rfl ?_)))
 refine ov (v_pick_f rfl rfl) rfl ?_
 refine om rfl rfl (shO_off (b' := false) 110 rfl rfl rfl rfl (shO_off (b' := false) 110 rfl rfl rfl rfl ?_))
 refine ov (v_pick_f rfl rfl) rfl ?_
 refine oa rfl rfl (shO_nil ?_)
 refine kW kn ?_
 refine shW_ret ?_
 refine q_res1 Tryz.results6 (res_tmp rfl) (sr) ?_
 obtain rfl := inj1 r200
 exact rfl
set_option maxHeartbeats 1000000 in
theorem hear_ears_list_w {x : List Bool} {F : FS} (h_x : x.length = 30) {r : List Int} (hr : hear_ears_list x = some r) :
    SH.Spec Tryz.prog 52 #[.agg (arr cB x)] F [] fun F' L' v => ∃ (ra : Option Addr) (rn : Nat) (rc : Nat) (rL : LH), v = .slice ra rn rc ∧ L' = rL ++ [] ∧ SlR 0 3 1 (iE .i64) F' ra rn rc r rL := by
 refine spec_of_shW (args := [.agg (arr cB x)]) Tryz.func52 rfl Tryz.ntmps52 (Nat.le_of_ble_eq_true rfl) ?_
 intro K _ _; rw [hear_ears_list] at hr
 refine wsr ?_
 refine o_box rfl rfl ?_; intro b1 hb1
 refine oa rfl rfl (nsr (oa rfl rfl (shO_nil ?_)))
 obtain ⟨out, h8, r9⟩ := b1_ok hr; clear hr
 refine shW_join (fun e1 F1 L1 => ∃ (a2 : Option Addr) (n6 : Nat) (c3 : Nat) (Lb4 : LH), F = F1 ∧ L1 = (Lb4 ++ []) ∧ e1.sub [(3, .slice a2 n6 c3)] ∧ SlR K.w0.heap.size 3 1 (iE .i64) F1 a2 n6 c3 out Lb4) ?_ ?_
 · clear r9
   refine wsr ?_
   refine ov (v_loadW Tryz.isAgg80 Tryz.sizeOf80 rfl (Has.own 0 rfl) (arr_sz cB_ok h_x)) rfl ?_
   refine om rfl rfl (shO_nil ?_)
   refine shW_block ?_
   refine kW kn ?_
   obtain ⟨g16, r17⟩ := gd_ok h8; clear h8
   refine shW_lp (fun fu1 e1 F1 L1 => ∃ (k : Int), Ctr 0 30 k fu1 ∧ ∃ (out2 : List Int) (a10 : Option Addr) (n14 : Nat) (c11 : Nat) (Lb12 : LH), hear_ears_list_l1 x fu1 k out2 = some out ∧ F = F1 ∧ L1 = (Lb12 ++ []) ∧ e1.sub [(3, .slice a10 n14 c11), (6, .agg (arr cB x)), (7, .int .i64 k)] ∧ SlR K.w0.heap.size 3 1 (iE .i64) F1 a10 n14 c11 out2 Lb12) _ (m0 (ke kr) ⟨_, Ctr.start _ _, [], none, 0, 0, [], r17, rfl, rfl, (sc rfl (sc rfl (sc rfl (sn _)))), SlR.nil _ _ _ _ _⟩) ?_
   rintro fu1 e1 _ _ ⟨k, hk18, out2, a10, n14, c11, Lb12, r20, rfl, rfl, he21, hz13⟩
   refine shW_env _ he21 ?_; clear he21
   refine wsr ?_
   refine ov (v_lssK rfl rfl) rfl ?_
   refine shO_nil (shW_seq ?_)
   refine shW_condP rfl (fun c23 => ?_) (fun c23 => ?_)
   · obtain ⟨fu1, rfl, hk24⟩ := Ctr.succ hk18 c23
     rw [hear_ears_list_l1] at r20
     refine shW_skip (shW_seq ?_)
     refine shW_block ?_
     refine wsr (om rfl rfl ?_)
     obtain ⟨x2, g25, hx26, r27⟩ := ix_ok r20; clear r20
     refine ov (v_index (ixa_80 h_x g25 hx26) rfl rfl) rfl ?_
     refine oa rfl rfl (oa rfl rfl (nsr (om rfl rfl (shO_nil ?_))))
     refine shW_cond rfl (fun c28 => ?_) (fun c28 => ?_)
     · have r29 := bt r27 c28; clear r27
       refine shW_region (om rfl rfl (om rfl rfl ?_))
       refine o_buildSlice (cs := #[.int .i64 k]) rfl rfl (buildSlice_all slt_28 [.int .i64 k] rfl (by decide) (by simp [Value.cells]) (by decide)) ?_; intro b30 hb30
       obtain ⟨out3, h31, g32, r33⟩ := ap_ok r29; clear r29
       refine o_appZ (xs := out2) (ys := [k]) (zs := out3) rfl slt_28 rfl rfl (Nat.le_refl _) (fun _ => .c .h) hz13 (SrcR.box (vss := [[.int .i64 k]]) (ys := [k]) 0 rfl (iE_ok _) (.cons rfl .nil) rfl rfl) h31 g32 (by decide) ?_; intro a34 n38 c35 Lb36 hz37
       refine kO (kd kr) ?_
       refine oa rfl rfl (shO_nil (inBlock_n (id := 1) (shW_region ?_)))
       refine ov (v_add rfl rfl (Ctr.r64 hk18 c23 g16)) rfl ?_
       refine om rfl rfl (shO_nil ?_)
       exact le kr ⟨_, hk24, out3, a34, n38, c35, Lb36, r33, rfl, rfl, (sc rfl (sc rfl (sc rfl (sn _)))), hz37⟩
     have r40 := bf r27 c28; clear r27
     refine shW_skip (inBlock_n (id := 1) (shW_region ?_))
     refine ov (v_add rfl rfl (Ctr.r64 hk18 c23 g16)) rfl ?_
     refine om rfl rfl (shO_nil ?_)
     exact le kr ⟨_, hk24, out2, a10, n14, c11, Lb12, r40, rfl, rfl, (sc rfl (sc rfl (sc rfl (sn _)))), hz13⟩
   obtain rfl := Ctr.zero hk18 c23
   rw [hear_ears_list_l1] at r20
   refine shW_exit (andThen_exit (andThen_exit ?_))
   refine inBlock_exit ?_
   obtain rfl := inj1 r20
   exact mi kr ⟨a10, n14, c11, Lb12, rfl, rfl, (sc rfl (sn _)), hz13⟩
 rintro e1 _ _ ⟨a2, n6, c3, Lb4, rfl, rfl, he41, hz5⟩
 refine shW_env _ he41 ?_; clear he41
 refine wsr (om rfl rfl (oa rfl rfl (shO_nil (shW_ret ?_))))
 refine q_res1 Tryz.results52 (res_tmp rfl) (sr) ?_
 obtain rfl := inj1 r9
 exact ⟨_, _, _, _, rfl, rfl, hz5.any⟩
set_option maxHeartbeats 1000000 in
theorem cmp_isNaN_int_w {x : Int} {F : FS} {r : Bool} (hr : cmp_isNaN_int x = some r) :
    SpecV Tryz.prog 108 #[.int .i64 x] F (.bool r) := by
 refine spec_of_shW (args := [.int .i64 x]) Tryz.func108 rfl Tryz.ntmps108 (Nat.le_of_ble_eq_true rfl) ?_
 intro K _ _; rw [cmp_isNaN_int] at hr
 refine wsr (oa rfl rfl (nsr (om rfl rfl (om rfl rfl ?_))))
 refine ov (v_neq rfl rfl) rfl ?_
 refine oa rfl rfl (shO_nil (shW_ret ?_))
 refine q_res1 Tryz.results108 (res_tmp rfl) (sr) ?_
 obtain rfl := inj1 hr
 exact rfl
set_option maxHeartbeats 1000000 in
theorem cmp_Less_int_w {x : Int} {y : Int} {F : FS} {r : Bool} (hr : cmp_Less_int x y = some r) :
    SpecV Tryz.prog 74 #[.int .i64 x, .int .i64 y] F (.bool r) := by
 refine spec_of_shW (args := [.int .i64 x, .int .i64 y]) Tryz.func74 rfl Tryz.ntmps74 (Nat.le_of_ble_eq_true rfl) ?_
 intro K _ _; rw [cmp_Less_int] at hr
 refine wsr (oa rfl rfl (nsr (om rfl rfl ?_)))
 obtain ⟨ok, h1, r2⟩ := b1_ok hr; clear hr
 refine o_callV rfl Tryz.call108 rfl rfl rfl (cmp_isNaN_int_w h1) ?_
 refine om rfl rfl ?_
 rcases bool_two ok with c3 | c3
 · have r4 := bt r2 c3; clear r2
   refine shO_on (b := true) 7 rfl (EnvB rfl c3) (om rfl rfl (shO_on (b := true) 7 rfl (EnvB rfl c3) ?_))
   obtain ⟨ok2, h5, r6⟩ := b1_ok r4; clear r4
   refine o_callV rfl Tryz.call108 rfl rfl rfl (cmp_isNaN_int_w h5) ?_
   refine shO_on (b := true) 7 rfl (EnvB rfl c3) ?_
   refine ov (v_notB rfl) rfl ?_
   refine ov (v_pick_t (evB rfl c3) rfl) rfl ?_
   refine om rfl rfl ?_
   rcases bool_two (!ok2) with c7 | c7
   · have r8 := bt r6 c7; clear r6
     refine shO_off (b' := true) 12 rfl (EnvB rfl c7) rfl rfl (shO_off (b' := true) 12 rfl (EnvB rfl c7) rfl rfl (shO_off (b' := true) 12 rfl (EnvB rfl c7) rfl rfl ?_))
     refine ov (v_pick_t (evB rfl c7) rfl) rfl ?_
     refine oa rfl rfl (shO_nil (shW_ret ?_))
     refine q_res1 Tryz.results74 (res_tmp rfl) (sr) ?_
     obtain rfl := inj1 r8
     exact rfl
   have r9 := bf r6 c7; clear r6
   refine shO_on (b := false) 12 rfl (EnvB rfl c7) (om rfl rfl (shO_on (b := false) 12 rfl (EnvB rfl c7) (om rfl rfl (shO_on (b := false) 12 rfl (EnvB rfl c7) ?_))))
   refine ov (v_lssK rfl rfl) rfl ?_
   refine ov (v_pick_f (evB rfl c7) rfl) rfl ?_
   refine oa rfl rfl (shO_nil (shW_ret ?_))
   refine q_res1 Tryz.results74 (res_tmp rfl) (sr) ?_
   obtain rfl := inj1 r9
   exact rfl
 have r10 := bf r2 c3; clear r2
 refine shO_off (b' := false) 7 rfl (EnvB rfl c3) rfl rfl (shO_off (b' := false) 7 rfl (EnvB rfl c3) rfl rfl (shO_off (b' := false) 7 rfl (EnvB rfl c3) rfl rfl ?_))
 refine ov (v_pick_f (evB rfl c3) rfl) rfl ?_
 refine om rfl rfl (shO_on (b := false) 12 rfl rfl (om rfl rfl (shO_on (b := false) 12 rfl rfl (om rfl rfl (shO_on (b := false) 12 rfl rfl ?_)))))
 refine ov (v_lssK rfl rfl) rfl ?_
 refine ov (v_pick_f rfl rfl) rfl ?_
 refine oa rfl rfl (shO_nil (shW_ret ?_))
 refine q_res1 Tryz.results74 (res_tmp rfl) (sr) ?_
 obtain rfl := inj1 r10
 exact rfl
set_option maxHeartbeats 1000000 in
theorem slices_insertionSortOrdered_int_w {s__a : Option Addr} {s__n : Nat} {s__c : Nat} {s__L : LH} {s_ : List Int} {s__nb : Nat} {a : Int} {b : Int} {F : FS} (h_s_ : SlR s__nb 3 1 (iE .i64) F s__a s__n s__c s_ s__L) {r : List Int} (hr : slices_insertionSortOrdered_int s_ a b = some r) :
    SH.Spec Tryz.prog 117 #[.slice s__a s__n s__c, .int .i64 a, .int .i64 b] F (s__L ++ []) fun F' L' v => ∃ (rL : LH), v = .tuple #[] ∧ L' = rL ++ [] ∧ SlR s__nb 3 1 (iE .i64) F' s__a s__n s__c r rL := by
 refine spec_of_shW (args := [.slice s__a s__n s__c, .int .i64 a, .int .i64 b]) Tryz.func117 rfl Tryz.ntmps117 (Nat.le_of_ble_eq_true rfl) ?_
 intro K _ _; rw [slices_insertionSortOrdered_int] at hr
 refine shW_L (L' := s__L ++ []) (by simp) ?_
 refine wsr (om rfl rfl ?_)
 obtain ⟨g1, r2⟩ := gd_ok hr; clear hr
 refine ov (v_add rfl rfl g1) rfl ?_
 refine oa rfl rfl (shO_nil ?_)
 refine shW_block ?_
 obtain ⟨g5, r6⟩ := gd_ok r2; clear r2
 refine shW_lp (fun fu1 e1 F1 L1 => ∃ (i : Int), Ctr (a + 1) b i fu1 ∧ ∃ (data : List Int) (Lb3 : LH), slices_insertionSortOrdered_int_l1 a fu1 i data = some r ∧ F = F1 ∧ L1 = (Lb3 ++ []) ∧ e1.sub [(0, .slice s__a s__n s__c), (1, .int .i64 a), (2, .int .i64 b), (6, .int .i64 i)] ∧ SlR s__nb 3 1 (iE .i64) F1 s__a s__n s__c data Lb3) _ (m0 kr ⟨_, Ctr.start _ _, s_, s__L, r6, rfl, rfl, (sc rfl (sc rfl (sc rfl (sc rfl (sn _))))), h_s_⟩) ?_
 rintro fu1 e1 _ _ ⟨i, hk7, data, Lb3, r9, rfl, rfl, he10, hz4⟩
 refine shW_env _ he10 ?_; clear he10
 refine shW_seq (wsr (om rfl rfl (om rfl rfl ?_)))
 refine ov (v_lssK rfl rfl) rfl ?_
 refine shO_nil ?_
 refine shW_condP rfl (fun c12 => ?_) (fun c12 => ?_)
 · obtain ⟨fu1, rfl, hk13⟩ := Ctr.succ hk7 c12
   rw [slices_insertionSortOrdered_int_l1] at r9
   refine shW_skip ?_
   obtain ⟨data2, h16, r17⟩ := b1_ok r9; clear r9
   refine shW_join (fun e1 F1 L1 => ∃ (Lb14 : LH), F = F1 ∧ L1 = (Lb14 ++ []) ∧ e1.sub [(0, .slice s__a s__n s__c), (1, .int .i64 a), (2, .int .i64 b), (6, .int .i64 i)] ∧ SlR s__nb 3 1 (iE .i64) F1 s__a s__n s__c data2 Lb14) ?_ ?_
   · clear r17
     refine shW_block ?_
     refine wsr (om rfl rfl (oa rfl rfl (shO_nil ?_)))
     refine shW_block ?_
     refine shW_lp (fun fu2 e1 F1 L1 => ∃ (data3 : List Int) (j : Int) (Lb18 : LH), slices_insertionSortOrdered_int_l2 a fu2 data3 j = some data2 ∧ F = F1 ∧ L1 = (Lb18 ++ []) ∧ e1.sub [(0, .slice s__a s__n s__c), (1, .int .i64 a), (2, .int .i64 b), (6, .int .i64 i), (7, .int .i64 j)] ∧ SlR s__nb 3 1 (iE .i64) F1 s__a s__n s__c data3 Lb18) FU (m0 kr ⟨data, i, Lb3, h16, rfl, rfl, (sc rfl (sc rfl (sc rfl (sc rfl (sc rfl (sn _)))))), hz4⟩) ?_
     rintro fu2 e1 _ _ ⟨data3, j, Lb18, r22, rfl, rfl, he23, hz19⟩
     refine shW_env _ he23 ?_; clear he23
     rcases fu2 with _ | fu2
     · rw [slices_insertionSortOrdered_int_l2] at r22; cases r22
     rw [slices_insertionSortOrdered_int_l2] at r22
     refine shW_seq ?_
     obtain ⟨k, h24, r25⟩ := b1_ok r22; clear r22
     refine shW_join (fun e1 F1 L1 => F = F1 ∧ L1 = (Lb18 ++ []) ∧ e1.sub [(0, .slice s__a s__n s__c), (1, .int .i64 a), (2, .int .i64 b), (6, .int .i64 i), (7, .int .i64 j), (30, .bool k)]) ?_ ?_
     · clear r25
       refine shW_draw (by kernel_rfl) (by kernel_rfl) (by kernel_rfl) ?_
       refine qm rfl rfl (qm rfl rfl ?_)
       refine qv (v_gtrK rfl rfl) rfl ?_
       refine qm rfl rfl ?_
       by_cases c26 : a < j
       · have r27 := ite_t h24 c26; clear h24
         refine shQ_on (b := true) 19 rfl (Env.isT rfl c26) (qm rfl rfl (shQ_on (b := true) 19 rfl (Env.isT rfl c26) (qm rfl rfl (shQ_on (b := true) 19 rfl (Env.isT rfl c26) ?_))))
         obtain ⟨x, g28, hx29, r30⟩ := ix_ok r27; clear r27
         obtain ⟨b31, o32, c33, vs34, ha35, hs36, hle37, rfl, hl38, hc39⟩ := SlR.at (iE_ok _) hz19 (L := Lb18 ++ []) fP g28.1 hx29
         refine qv (v_indexO Tryz.underlying28 Tryz.sizeOf3 rfl ha35 rfl (SlR.idx hz19 g28)) rfl ?_
         refine shQ_on (b := true) 19 rfl (Env.isT rfl c26) ?_
         refine qv (v_load Tryz.isAgg3 rfl hs36 (hc39 0 (by decide))) rfl ?_
         refine shQ_on (b := true) 19 rfl (Env.isT rfl c26) (qm rfl rfl (shQ_on (b := true) 19 rfl (Env.isT rfl c26) (qm rfl rfl (shQ_on (b := true) 19 rfl (Env.isT rfl c26) ?_))))
         obtain ⟨g40, r41⟩ := gd_ok r30; clear r30
         refine qv (v_sub rfl rfl g40) rfl ?_
         refine shQ_on (b := true) 19 rfl (Env.isT rfl c26) ?_
         obtain ⟨x2, g42, hx43, r44⟩ := ix_ok r41; clear r41
         obtain ⟨b45, o46, c47, vs48, ha49, hs50, hle51, rfl, hl52, hc53⟩ := SlR.at (iE_ok _) hz19 (L := Lb18 ++ []) fP g42.1 hx43
         refine qv (v_indexO Tryz.underlying28 Tryz.sizeOf3 rfl ha49 rfl (SlR.idx hz19 g42)) rfl ?_
         refine shQ_on (b := true) 19 rfl (Env.isT rfl c26) ?_
         refine qv (v_load Tryz.isAgg3 rfl hs50 (hc53 0 (by decide))) rfl ?_
         refine shQ_on (b := true) 19 rfl (Env.isT rfl c26) ?_
         obtain ⟨ok, h54, r55⟩ := b1_ok r44; clear r44
         refine shQ_callV rfl Tryz.call74 rfl rfl rfl (cmp_Less_int_w h54) ?_
         refine qv (v_pick_t (evD_true rfl c26) rfl) rfl ?_
         refine shQ_nil ?_
         obtain rfl := inj1 r55
         exact mi kr ⟨rfl, rfl, (sc rfl (sc rfl (sc rfl (sc rfl (sc rfl (sc rfl (sn _)))))))⟩
       have r56 := ite_f h24 c26; clear h24
       refine shQ_off (b' := false) 19 rfl (Env.isF rfl c26) rfl rfl (shQ_off (b' := false) 19 rfl (Env.isF rfl c26) rfl rfl (shQ_off (b' := false) 19 rfl (Env.isF rfl c26) rfl rfl (shQ_off (b' := false) 19 rfl (Env.isF rfl c26) rfl rfl (shQ_off (b' := false) 19 rfl (Env.isF rfl c26) rfl rfl (shQ_off (b' := false) 19 rfl (Env.isF rfl c26) rfl rfl (shQ_off (b' := false) 19 rfl (Env.isF rfl c26) rfl rfl (shQ_off (b' := false) 19 rfl (Env.isF rfl c26) rfl rfl (shQ_off (b' := false) 19 rfl (Env.isF rfl c26) rfl rfl (shQ_off (b' := false) 19 rfl (Env.isF rfl c26) rfl rfl ?_)))))))))
       refine qv (v_pick_f (evD_false rfl c26) rfl) rfl ?_
       refine shQ_nil ?_
       obtain rfl := inj1 r56
       exact mi kr ⟨rfl, rfl, (sc rfl (sc rfl (sc rfl (sc rfl (sc rfl (sc rfl (sn _)))))))⟩
     rintro e1 _ _ ⟨rfl, rfl, he57⟩
     refine shW_env _ he57 ?_; clear he57
     refine shW_cond rfl (fun c58 => ?_) (fun c58 => ?_)
     · have r59 := bt r25 c58; clear r25
       refine shW_skip (shW_seq ?_)
       refine shW_block ?_
       refine shW_drawM [(.still, 0), (.still, 1), (.still, 2), (.still, 3), (.still, 4), (.still, 5), (.still, 6), (.still, 7), (.still, 8), (.still, 9), (.still, 10), (.still, 11), (.still, 12), (.still, 13), (.still, 14), (.seq, 15), (.still, 16), (.seq, 17)] (by kernel_rfl) (by kernel_rfl) (trivial) (by rfl) (by kernel_rfl) ?_
       refine shM_v (v := .slice s__a s__n s__c) (ek := [(0, .slice s__a s__n s__c)]) (Ls := []) rfl rfl rfl rfl ((sc rfl (sn _))) (by kernel_rfl) sm (fun H F' L' hF' hL' => v_move rfl) ?_
       refine shM_v (v := .int .i64 j) (ek := [(7, .int .i64 j)]) (Ls := []) rfl rfl rfl rfl ((sc rfl (sn _))) (by kernel_rfl) sm (fun H F' L' hF' hL' => v_move rfl) ?_
       refine shM_v (v := .slice s__a s__n s__c) (ek := [(0, .slice s__a s__n s__c)]) (Ls := []) rfl rfl rfl rfl ((sc rfl (sn _))) (by kernel_rfl) sm (fun H F' L' hF' hL' => v_move rfl) ?_
       refine shM_v (v := .int .i64 j) (ek := [(7, .int .i64 j)]) (Ls := []) rfl rfl rfl rfl ((sc rfl (sn _))) (by kernel_rfl) sm (fun H F' L' hF' hL' => v_move rfl) ?_
       obtain ⟨g60, r61⟩ := gd_ok r59; clear r59
       refine shM_v (v := .int .i64 (j - 1)) (ek := [(36, .int .i64 j)]) (Ls := []) rfl rfl rfl rfl ((sc rfl (sn _))) (by kernel_rfl) sm (fun H F' L' hF' hL' => v_sub rfl rfl g60) ?_
       refine shM_v (v := .slice s__a s__n s__c) (ek := [(0, .slice s__a s__n s__c)]) (Ls := []) rfl rfl rfl rfl ((sc rfl (sn _))) (by kernel_rfl) sm (fun H F' L' hF' hL' => v_move rfl) ?_
       refine shM_v (v := .int .i64 j) (ek := [(7, .int .i64 j)]) (Ls := []) rfl rfl rfl rfl ((sc rfl (sn _))) (by kernel_rfl) sm (fun H F' L' hF' hL' => v_move rfl) ?_
       obtain ⟨g62, r63⟩ := gd_ok r61; clear r61
       refine shM_v (v := .int .i64 (j - 1)) (ek := [(39, .int .i64 j)]) (Ls := []) rfl rfl rfl rfl ((sc rfl (sn _))) (by kernel_rfl) sm (fun H F' L' hF' hL' => v_sub rfl rfl g62) ?_
       obtain ⟨x3, g64, hx65, r66⟩ := ix_ok r63; clear r63
       obtain ⟨b67, o68, c69, vs70, ha71, hs72, hle73, rfl, hl74, hc75⟩ := SlR.at (iE_ok _) hz19 (L := Lb18 ++ []) fP g64.1 hx65
       refine shM_v (v := .pointer (some ⟨b67, o68 + (j - 1 : Int).toNat * 1, none⟩)) (ek := [(38, .slice s__a s__n s__c), (40, .int .i64 (j - 1))]) (Ls := []) rfl rfl rfl rfl ((sc rfl (sc rfl (sn _)))) (by kernel_rfl) sm (fun H F' L' hF' hL' => v_indexO Tryz.underlying28 Tryz.sizeOf3 rfl ha71 rfl (SlR.idx hz19 g64)) ?_
       refine shM_v (v := .int .i64 x3) (ek := [(41, .pointer (some ⟨b67, o68 + (j - 1 : Int).toNat * 1, none⟩))]) (Ls := Lb18 ++ []) rfl rfl rfl rfl ((sc rfl (sn _))) (by kernel_rfl) (s0 sr) (fun H F' L' hF' hL' => v_load Tryz.isAgg3 rfl (hs72.ext hF' hL') (hc75 0 (by decide))) ?_
       refine shM_v (v := .slice s__a s__n s__c) (ek := [(0, .slice s__a s__n s__c)]) (Ls := []) rfl rfl rfl rfl ((sc rfl (sn _))) (by kernel_rfl) sm (fun H F' L' hF' hL' => v_move rfl) ?_
       refine shM_v (v := .int .i64 j) (ek := [(7, .int .i64 j)]) (Ls := []) rfl rfl rfl rfl ((sc rfl (sn _))) (by kernel_rfl) sm (fun H F' L' hF' hL' => v_move rfl) ?_
       obtain ⟨x4, g76, hx77, r78⟩ := ix_ok r66; clear r66
       obtain ⟨b79, o80, c81, vs82, ha83, hs84, hle85, rfl, hl86, hc87⟩ := SlR.at (iE_ok _) hz19 (L := Lb18 ++ []) fP g76.1 hx77
       refine shM_v (v := .pointer (some ⟨b79, o80 + (j : Int).toNat * 1, none⟩)) (ek := [(43, .slice s__a s__n s__c), (44, .int .i64 j)]) (Ls := []) rfl rfl rfl rfl ((sc rfl (sc rfl (sn _)))) (by kernel_rfl) sm (fun H F' L' hF' hL' => v_indexO Tryz.underlying28 Tryz.sizeOf3 rfl ha83 rfl (SlR.idx hz19 g76)) ?_
       refine shM_v (v := .int .i64 x4) (ek := [(45, .pointer (some ⟨b79, o80 + (j : Int).toNat * 1, none⟩))]) (Ls := Lb18 ++ []) rfl rfl rfl rfl ((sc rfl (sn _))) (by kernel_rfl) (s0 sr) (fun H F' L' hF' hL' => v_load Tryz.isAgg3 rfl (hs84.ext hF' hL') (hc87 0 (by decide))) ?_
       obtain ⟨b88, o89, c90, vs91, ha92, hs93, hle94, rfl, hl95, hc96⟩ := SlR.at (iE_ok _) hz19 (L := Lb18 ++ []) fP g76.1 hx77
       refine shM_v (v := .pointer (some ⟨b88, o89 + (j : Int).toNat * 1, none⟩)) (ek := [(33, .slice s__a s__n s__c), (34, .int .i64 j)]) (Ls := []) rfl rfl rfl rfl ((sc rfl (sc rfl (sn _)))) (by kernel_rfl) sm (fun H F' L' hF' hL' => v_indexO Tryz.underlying28 Tryz.sizeOf3 rfl ha92 rfl (SlR.idx hz19 g76)) ?_
       refine ⟨_, [(42, .int .i64 x3), (47, .pointer (some ⟨b88, o89 + (j : Int).toNat * 1, none⟩))], rfl, rfl, (sc rfl (sc rfl (sn _))), by kernel_rfl, ?_⟩; intro H
       obtain ⟨l, h97, r98⟩ := bv_ok r78; clear r78
       refine o_storeZ (u := x3) Tryz.sizeOf3 (iE_ok _) rfl ha92 rfl rfl (fun _ => .h) hz19 h97 g76 ?_; intro Lb99 hz100
       refine shO_nil ⟨undef, rfl, FExt.refl _, [4, 3, 2], by kernel_rfl, .inl (.inr (fun d h => by cases h)), (List.forall_mem_cons.2 ⟨sm, (List.forall_mem_cons.2 ⟨sm, (List.forall_mem_cons.2 ⟨sm, (fun _ h => absurd h List.not_mem_nil)⟩)⟩)⟩), ?_⟩
       obtain ⟨x5, g101, hx102, r103⟩ := ix_ok r98; clear r98
       obtain ⟨b104, o105, c106, vs107, ha108, hs109, hle110, rfl, hl111, hc112⟩ := SlR.at (iE_ok _) hz100 (L := Lb99 ++ []) fP g101.1 hx102
       refine shM_v (v := .pointer (some ⟨b104, o105 + (j - 1 : Int).toNat * 1, none⟩)) (ek := [(35, .slice s__a s__n s__c), (37, .int .i64 (j - 1))]) (Ls := []) rfl rfl rfl rfl ((sc rfl (sc rfl (sn _)))) (by kernel_rfl) sm (fun H F' L' hF' hL' => v_indexO Tryz.underlying28 Tryz.sizeOf3 rfl ha108 rfl (SlR.idx hz100 g101)) ?_
       refine ⟨_, [(46, .int .i64 x4), (48, .pointer (some ⟨b104, o105 + (j - 1 : Int).toNat * 1, none⟩))], rfl, rfl, (sc rfl (sc rfl (sn _))), by kernel_rfl, ?_⟩; intro H
       obtain ⟨l2, h113, r114⟩ := bv_ok r103; clear r103
       refine o_storeZ (u := x4) Tryz.sizeOf3 (iE_ok _) rfl ha108 rfl rfl (fun _ => .h) hz100 h113 g101 ?_; intro Lb115 hz116
       refine shO_nil ⟨undef, rfl, FExt.refl _, [], by kernel_rfl, .inl (.inl rfl), (fun _ h => absurd h List.not_mem_nil), ?_⟩
       refine shM_nil ?_
       refine inBlock_n (id := 3) (shW_region (om rfl rfl ?_))
       obtain ⟨g117, r118⟩ := gd_ok r114; clear r114
       refine ov (v_sub rfl rfl g117) rfl ?_
       refine oa rfl rfl (shO_nil ?_)
       exact le kr ⟨l2, j - 1, Lb115, r118, rfl, rfl, (sc rfl (sc rfl (sc rfl (sc rfl (sc rfl (sn _)))))), hz116⟩
     have r119 := bf r25 c58; clear r25
     refine shW_exit (andThen_exit (andThen_exit ?_))
     refine inBlock_exit ?_
     refine inBlock_n (id := 1) ?_
     obtain rfl := inj1 r119
     exact mi kr ⟨Lb18, rfl, rfl, (sc rfl (sc rfl (sc rfl (sc rfl (sn _))))), hz19⟩
   rintro e1 _ _ ⟨Lb14, rfl, rfl, he120, hz15⟩
   refine shW_env _ he120 ?_; clear he120
   refine shW_region (om rfl rfl ?_)
   refine ov (v_add rfl rfl (Ctr.r64 hk7 c12 g5)) rfl ?_
   refine oa rfl rfl (shO_nil ?_)
   exact le kr ⟨_, hk13, data2, Lb14, r17, rfl, rfl, (sc rfl (sc rfl (sc rfl (sc rfl (sn _))))), hz15⟩
 obtain rfl := Ctr.zero hk7 c12
 rw [slices_insertionSortOrdered_int_l1] at r9
 refine shW_exit (andThen_exit (andThen_exit ?_))
 refine inBlock_exit ?_
 refine q_end0 (.inr rfl) Tryz.results117 ?_
 obtain rfl := inj1 r9
 exact ⟨_, rfl, rfl, hz4⟩
set_option maxHeartbeats 1000000 in
theorem math_bits_Len64_w {x : Int} {F : FS} {r : Int} (hr : math_bits_Len64 x = some r) :
    SpecV Tryz.prog 126 #[.int .u64 x] F (.int .i64 r) := by
 refine spec_of_shW (args := [.int .u64 x]) Tryz.func126 rfl Tryz.ntmps126 (Nat.le_of_ble_eq_true rfl) ?_
 intro K _ _; rw [math_bits_Len64] at hr
 refine wsr (oa rfl rfl (shO_nil ?_))
 obtain ⟨x2, n, h1, r2⟩ := b2_ok hr; clear hr
 refine shW_join (fun e1 F1 L1 => F = F1 ∧ L1 = [] ∧ e1.sub [(0, .int .u64 x2), (2, .int .i64 n)]) ?_ ?_
 · clear r2
   refine wsr (om rfl rfl ?_)
   refine ov (v_geqK rfl rfl) rfl ?_
   refine shO_nil ?_
   refine shW_condP rfl (fun c3 => ?_) (fun c3 => ?_)
   · have r4 := ite_t h1 c3; clear h1
     refine wsr (om rfl rfl ?_)
     refine ov (v_shr rfl rfl (by decide)) rfl ?_
     refine oa rfl rfl (shO_nil (shW_region (oa rfl rfl (shO_nil ?_))))
     obtain ⟨rfl, rfl⟩ := inj2 r4
     exact mi kr ⟨rfl, rfl, (sc rfl (sc rfl (sn _)))⟩
   have r5 := ite_f h1 c3; clear h1
   refine shW_skip ?_
   obtain ⟨rfl, rfl⟩ := inj2 r5
   exact mi kr ⟨rfl, rfl, (sc rfl (sc rfl (sn _)))⟩
 rintro e1 _ _ ⟨rfl, rfl, he6⟩
 refine shW_env _ he6 ?_; clear he6
 obtain ⟨x3, n2, h7, r8⟩ := b2_ok r2; clear r2
 refine shW_join (fun e1 F1 L1 => F = F1 ∧ L1 = [] ∧ e1.sub [(0, .int .u64 x3), (2, .int .i64 n2)]) ?_ ?_
 · clear r8
   refine wsr (om rfl rfl ?_)
   refine ov (v_geqK rfl rfl) rfl ?_
   refine shO_nil ?_
   refine shW_condP rfl (fun c9 => ?_) (fun c9 => ?_)
   · have r10 := ite_t h7 c9; clear h7
     refine wsr (om rfl rfl ?_)
     refine ov (v_shr rfl rfl (by decide)) rfl ?_
     refine oa rfl rfl (shO_nil (shW_region (om rfl rfl ?_)))
     obtain ⟨g11, r12⟩ := gd_ok r10; clear r10
     refine ov (v_add rfl rfl g11) rfl ?_
     refine oa rfl rfl (shO_nil ?_)
     obtain ⟨rfl, rfl⟩ := inj2 r12
     exact mi kr ⟨rfl, rfl, (sc rfl (sc rfl (sn _)))⟩
   have r13 := ite_f h7 c9; clear h7
   refine shW_skip ?_
   obtain ⟨rfl, rfl⟩ := inj2 r13
   exact mi kr ⟨rfl, rfl, (sc rfl (sc rfl (sn _)))⟩
 rintro e1 _ _ ⟨rfl, rfl, he14⟩
 refine shW_env _ he14 ?_; clear he14
 obtain ⟨x4, n3, h15, r16⟩ := b2_ok r8; clear r8
 refine shW_join (fun e1 F1 L1 => F = F1 ∧ L1 = [] ∧ e1.sub [(0, .int .u64 x4), (2, .int .i64 n3)]) ?_ ?_
 · clear r16
   refine wsr (om rfl rfl ?_)
   refine ov (v_geqK rfl rfl) rfl ?_
   refine shO_nil ?_
   refine shW_condP rfl (fun c17 => ?_) (fun c17 => ?_)
   · have r18 := ite_t h15 c17; clear h15
     refine wsr (om rfl rfl ?_)
     refine ov (v_shr rfl rfl (by decide)) rfl ?_
     refine oa rfl rfl (shO_nil (shW_region (om rfl rfl ?_)))
     obtain ⟨g19, r20⟩ := gd_ok r18; clear r18
     refine ov (v_add rfl rfl g19) rfl ?_
     refine oa rfl rfl (shO_nil ?_)
     obtain ⟨rfl, rfl⟩ := inj2 r20
     exact mi kr ⟨rfl, rfl, (sc rfl (sc rfl (sn _)))⟩
   have r21 := ite_f h15 c17; clear h15
   refine shW_skip ?_
   obtain ⟨rfl, rfl⟩ := inj2 r21
   exact mi kr ⟨rfl, rfl, (sc rfl (sc rfl (sn _)))⟩
 rintro e1 _ _ ⟨rfl, rfl, he22⟩
 refine shW_env _ he22 ?_; clear he22
 refine wsr (om rfl rfl (om rfl rfl ?_))
 refine ov (u_conv rfl Tryz.underlying159 Tryz.underlying5 rfl) rfl ?_
 obtain ⟨x5, g23, hx24, r25⟩ := ix_ok r16; clear r16
 refine ov (v_indexStr Tryz.underlying9 (congrArg (fun s => some (Value.string s)) strc_strt_0) rfl g23.1 hx24 (strr_strt_0 _ (List.mem_of_getElem? hx24))) rfl ?_
 obtain ⟨g26, r27⟩ := gd_ok r25; clear r25
 refine ov (i_conv Tryz.underlying5 Tryz.underlying3 rfl g26) rfl ?_
 obtain ⟨g28, r29⟩ := gd_ok r27; clear r27
 refine ov (v_add rfl rfl g28) rfl ?_
 refine oa rfl rfl (shO_nil (shW_ret ?_))
 refine q_res1 Tryz.results126 (res_tmp rfl) (sr) ?_
 obtain rfl := inj1 r29
 exact rfl
set_option maxHeartbeats 1000000 in
theorem math_bits_Len_w {x : Int} {F : FS} {r : Int} (hr : math_bits_Len x = some r) :
    SpecV Tryz.prog 98 #[.int .u64 x] F (.int .i64 r) := by
 refine spec_of_shW (args := [.int .u64 x]) Tryz.func98 rfl Tryz.ntmps98 (Nat.le_of_ble_eq_true rfl) ?_
 intro K _ _; rw [math_bits_Len] at hr
 refine wsr (oa rfl rfl (shO_nil (shW_seq ?_)))
 refine shW_cond rfl (fun c1 => nomatch c1) (fun c1 => ?_)
 refine shW_skip (wsr (om rfl rfl ?_))
 obtain ⟨n, h2, r3⟩ := b1_ok hr; clear hr
 refine o_callV rfl Tryz.call126 rfl rfl rfl (math_bits_Len64_w h2) ?_
 refine oa rfl rfl (shO_nil (shW_ret ?_))
 refine q_res1 Tryz.results98 (res_tmp rfl) (sr) ?_
 obtain rfl := inj1 r3
 exact rfl
set_option maxHeartbeats 1000000 in
theorem slices_pdqsortOrdered_intB_w {rec_ : (List Int) → Int → Int → Int → Option ((List Int))} (_hrec : ∀ {s__a : Option Addr} {s__n : Nat} {s__c : Nat} {s__L : LH} {s_ : List Int} {s__nb : Nat} {a : Int} {b : Int} {limit : Int} {F : FS} (_ : SlR s__nb 3 1 (iE .i64) F s__a s__n s__c s_ s__L) {r : List Int} , rec_ s_ a b limit = some r → SH.Spec Tryz.prog 97 #[.slice s__a s__n s__c, .int .i64 a, .int .i64 b, .int .i64 limit] F (s__L ++ []) fun F' L' v => ∃ (rL : LH), v = .tuple #[] ∧ L' = rL ++ [] ∧ SlR s__nb 3 1 (iE .i64) F' s__a s__n s__c r rL) {s__a : Option Addr} {s__n : Nat} {s__c : Nat} {s__L : LH} {s_ : List Int} {s__nb : Nat} {a : Int} {b : Int} {limit : Int} {F : FS} (h_s_ : SlR s__nb 3 1 (iE .i64) F s__a s__n s__c s_ s__L) {r : List Int} (hr : slices_pdqsortOrdered_intB rec_ s_ a b limit = some r) :
    SH.Spec Tryz.prog 97 #[.slice s__a s__n s__c, .int .i64 a, .int .i64 b, .int .i64 limit] F (s__L ++ []) fun F' L' v => ∃ (rL : LH), v = .tuple #[] ∧ L' = rL ++ [] ∧ SlR s__nb 3 1 (iE .i64) F' s__a s__n s__c r rL := by
 refine spec_of_shW (args := [.slice s__a s__n s__c, .int .i64 a, .int .i64 b, .int .i64 limit]) Tryz.func97 rfl Tryz.ntmps97 (Nat.le_of_ble_eq_true rfl) ?_
 intro K _ _; rw [slices_pdqsortOrdered_intB] at hr
 refine shW_L (L' := s__L ++ []) (by simp) ?_
 refine wsr (oa rfl rfl (nsr (oa rfl rfl (shO_nil ?_))))
 refine shW_block ?_
 refine shW_lp (fun fu1 e1 F1 L1 => slices_pdqsortOrdered_intB_l1 s_ a b fu1 = some r ∧ F = F1 ∧ L1 = (s__L ++ []) ∧ e1.sub [(0, .slice s__a s__n s__c), (1, .int .i64 a), (2, .int .i64 b), (3, .int .i64 limit), (8, .bool true), (9, .bool true)]) FU (m0 kr ⟨hr, rfl, rfl, (sc rfl (sc rfl (sc rfl (sc rfl (sc rfl (sc rfl (sn _)))))))⟩) ?_
 rintro fu1 e1 _ _ ⟨r3, rfl, rfl, he4⟩
 refine shW_env _ he4 ?_; clear he4
 rcases fu1 with _ | fu1
 · rw [slices_pdqsortOrdered_intB_l1] at r3; cases r3
 rw [slices_pdqsortOrdered_intB_l1] at r3
 refine shW_block ?_
 refine wsr (om rfl rfl (om rfl rfl ?_))
 obtain ⟨g5, r6⟩ := gd_ok r3; clear r3
 refine ov (v_sub rfl rfl g5) rfl ?_
 refine oa rfl rfl (shO_nil (shW_seq (wsr (om rfl rfl ?_))))
 refine ov (v_leqK rfl rfl) rfl ?_
 refine shO_nil ?_
 obtain ⟨g8, r9⟩ := gd_ok r6; clear r6
 refine shW_condP rfl (fun c7 => ?_) (fun c7 => absurd g8 c7)
 refine wsr (om rfl rfl (om rfl rfl (om rfl rfl ?_)))
 obtain ⟨s_2, h10, r11⟩ := b1_ok r9; clear r9
 refine o_callG (Lb := s__L ++ []) (Lr := []) rfl Tryz.call117 rfl rfl rfl (pT pR (lp (ln rfl))) (slices_insertionSortOrdered_int_w h_s_ h10) ?_; rintro _ F12 _ hF13 hd15 hn14 ⟨Lb16, rfl, rfl, hz17⟩
 refine shO_L (lp (ln rfl)) ?_
 refine shO_nil (shW_ret (andThen_ret (inBlock_ret (andThen_ret (inBlock_ret ?_)))))
 refine q_end0 (.inl rfl) Tryz.results97 ?_
 obtain rfl := inj1 r11
 exact ⟨_, rfl, rfl, hz17⟩
set_option maxHeartbeats 1000000 in
theorem slices_pdqsortOrdered_int_w : ∀ (fu : Nat) {s__a : Option Addr} {s__n : Nat} {s__c : Nat} {s__L : LH} {s_ : List Int} {s__nb : Nat} {a : Int} {b : Int} {limit : Int} {F : FS} (_ : SlR s__nb 3 1 (iE .i64) F s__a s__n s__c s_ s__L) {r : List Int} , slices_pdqsortOrdered_int fu s_ a b limit = some r → SH.Spec Tryz.prog 97 #[.slice s__a s__n s__c, .int .i64 a, .int .i64 b, .int .i64 limit] F (s__L ++ []) fun F' L' v => ∃ (rL : LH), v = .tuple #[] ∧ L' = rL ++ [] ∧ SlR s__nb 3 1 (iE .i64) F' s__a s__n s__c r rL := by
  intro fu
  induction fu with
  | zero => intros; rename_i hr; rw [slices_pdqsortOrdered_int] at hr; cases hr
  | succ fu ih => intros; rename_i hr; rw [slices_pdqsortOrdered_int] at hr; exact slices_pdqsortOrdered_intB_w ih (by assumption) hr
set_option maxHeartbeats 1000000 in
theorem slices_Sort_int_int_w {s__a : Option Addr} {s__n : Nat} {s__c : Nat} {s__L : LH} {s_ : List Int} {s__nb : Nat} {F : FS} (h_s_ : SlR s__nb 3 1 (iE .i64) F s__a s__n s__c s_ s__L) {r : List Int} (hr : slices_Sort_int_int s_ = some r) :
    SH.Spec Tryz.prog 53 #[.slice s__a s__n s__c] F (s__L ++ []) fun F' L' v => ∃ (rL : LH), v = .tuple #[] ∧ L' = rL ++ [] ∧ SlR s__nb 3 1 (iE .i64) F' s__a s__n s__c r rL := by
 refine spec_of_shW (args := [.slice s__a s__n s__c]) Tryz.func53 rfl Tryz.ntmps53 (Nat.le_of_ble_eq_true rfl) ?_
 intro K _ _; rw [slices_Sort_int_int] at hr
 refine shW_L (L' := s__L ++ []) (by simp) ?_
 refine wsr (om rfl rfl ?_)
 refine ov ((v_lenS Tryz.underlying28 rfl).i (SlR.lenI h_s_)) rfl ?_
 refine oa rfl rfl (shO_nil (shW_region (om rfl rfl (om rfl rfl (om rfl rfl ?_)))))
 refine ov (u_conv rfl Tryz.underlying3 Tryz.underlying122 rfl) rfl ?_
 obtain ⟨n, h1, r2⟩ := b1_ok hr; clear hr
 refine o_callV rfl Tryz.call98 rfl rfl rfl (math_bits_Len_w h1) ?_
 obtain ⟨s_2, h3, r4⟩ := b1_ok r2; clear r2
 refine o_callG (Lb := s__L ++ []) (Lr := []) rfl Tryz.call97 rfl rfl rfl (pT pR (lp (ln rfl))) ((slices_pdqsortOrdered_int_w FU) h_s_ h3) ?_; rintro _ F5 _ hF6 hd8 hn7 ⟨Lb9, rfl, rfl, hz10⟩
 refine shO_L (lp (ln rfl)) ?_
 refine shO_nil ?_
 refine q_end0 (.inr rfl) Tryz.results53 ?_
 obtain rfl := inj1 r4
 exact ⟨_, rfl, rfl, hz10⟩
set_option maxHeartbeats 1000000 in
theorem slices_AppendSeq_int_int_w {s__a : Option Addr} {s__n : Nat} {s__c : Nat} {s__L : LH} {s_ : List Int} {seq_f : FuncId} {seq_1 : Array Value} {seq_2 : Array Value} {seq : List Int} {F : FS} (h_s_ : SlR 0 3 1 (iE .i64) F s__a s__n s__c s_ s__L) (hc_seq : ∀ args w, (callFunc seq_f args).run Tryz.prog w = .ok (.enter seq_f args) w) (h_seq : IterOK Tryz.prog seq_f seq_1 seq_2 F (fun x : Int => #[.int .i64 x]) seq) {r : List Int} (hr : slices_AppendSeq_int_int s_ seq = some r) :
    SH.Spec Tryz.prog 127 #[.slice s__a s__n s__c, .func (.func seq_f) seq_1 seq_2] F (s__L ++ []) fun F' L' v => ∃ (ra : Option Addr) (rn : Nat) (rc : Nat) (rL : LH), v = .slice ra rn rc ∧ L' = rL ++ [] ∧ SlR 0 3 1 (iE .i64) F' ra rn rc r rL := by
 refine spec_of_shW (args := [.slice s__a s__n s__c, .func (.func seq_f) seq_1 seq_2]) Tryz.func127 rfl Tryz.ntmps127 (Nat.le_of_ble_eq_true rfl) ?_
 intro K _ _; rw [slices_AppendSeq_int_int] at hr
 refine shW_L (L' := s__L ++ []) (by simp) ?_
 refine wsr ?_
 refine o_box rfl rfl ?_; intro b1 hb1
 refine oa rfl rfl (shO_nil ?_)
 obtain ⟨s_2, h8, r9⟩ := b1_ok hr; clear hr
 refine shW_join (fun e1 F1 L1 => ∃ (a2 : Option Addr) (n6 : Nat) (c3 : Nat) (Lb4 : LH), FExt F F1 ∧ L1 = ((b1, .cells #[.slice a2 n6 c3] 28 (0, 0)) :: (Lb4 ++ [])) ∧ e1.sub [(2, .pointer (some ⟨b1, 0, none⟩))] ∧ SlR 0 3 1 (iE .i64) F1 a2 n6 c3 s_2 Lb4) ?_ ?_
 · clear r9
   refine wsr (om rfl rfl (shO_nil ?_))
   refine shW_block ?_
   refine shW_rangeFunc (encs := (fun x : Int => #[.int .i64 x])) (xs := seq) rfl hc_seq rfl (fun _ => rfl) h_seq (fun pre F1 L1 => ∃ (tl : List Int) (s_3 : List Int) (a10 : Option Addr) (n14 : Nat) (c11 : Nat) (Lb12 : LH), seq = pre ++ tl ∧ slices_AppendSeq_int_int_l1 tl s_3 = some s_2 ∧ L1 = ((b1, .cells #[.slice a10 n14 c11] 28 (0, 0)) :: (Lb12 ++ [])) ∧ SlR 0 3 1 (iE .i64) F1 a10 n14 c11 s_3 Lb12) (fun _ _ _ => False) ?_ ?_ ?_ ?_ ?_ ?_
   · rintro pre F1 F2 L1 ⟨tl, s_3, a10, n14, c11, Lb12, hs16, r17, rfl, hz13⟩ hx; exact ⟨tl, s_3, a10, n14, c11, Lb12, hs16, r17, rfl, hz13.mono (iE_ok _) hx⟩
   · intro c F1 F2 L1 h hx; exact h
   · exact ⟨_, s_, s__a, s__n, s__c, s__L, rfl, h8, rfl, h_s_⟩
   · rintro l18 wr19 Fr20 Xr21 Ha22 Hb23 hnb24 hH28 pre x tl2 hxs27 F25 _ hF26 ⟨tl, s_3, a10, n14, c11, Lb12, hs16, r29, rfl, hz13⟩
     obtain rfl := rest_head hs16 hxs27
     rw [slices_AppendSeq_int_int_l1] at r29
     refine shW_env [(2, .pointer (some ⟨b1, 0, none⟩)), (6, .func (.func seq_f) seq_1 seq_2), (7, .int .i64 x)] (by exact (sc rfl (sc rfl (sc rfl (sn _))))) ?_
     refine shW_region (oa rfl rfl (shO_nil ?_))
     refine ⟨rfl, ?_⟩
     refine shW_block ?_
     refine shW_region ?_
     refine ov (v_load Tryz.isAgg28 rfl (Has.own 0 rfl) rfl) rfl ?_
     refine om rfl rfl ?_
     refine o_buildSlice (cs := #[.int .i64 x]) rfl rfl (buildSlice_all slt_28 [.int .i64 x] rfl (by decide) (by simp [Value.cells]) (by decide)) ?_; intro b30 hb30
     obtain ⟨s_4, h31, g32, r33⟩ := ap_ok r29; clear r29
     refine o_appZ (xs := s_3) (ys := [x]) (zs := s_4) rfl slt_28 rfl rfl (Nat.zero_le _) (fun _ => .c (.c .h)) hz13 (SrcR.box (vss := [[.int .i64 x]]) (ys := [x]) 0 rfl (iE_ok _) (.cons rfl .nil) rfl rfl) h31 g32 (by decide) ?_; intro a34 n38 c35 Lb36 hz37
     refine kO (kd kr) ?_
     refine o_store (i := 0) Tryz.sizeOf28 rfl rfl rfl rfl (Nat.le_of_ble_eq_true rfl) ?_
     refine shO_L (L' := (b1, .cells #[.slice a34 n38 c35] 28 (0, 0)) :: (Lb36 ++ [])) rfl ?_
     refine shO_nil (inBlock_n (id := 1) ?_)
     refine ⟨(b1, .cells #[.slice a34 n38 c35] 28 (0, 0)) :: (Lb36 ++ []), sr, ?_⟩; exact ⟨_, s_4, a34, n38, c35, Lb36, (by rw [hxs27]; simp), r33, rfl, hz37⟩
   · rintro F40 _ hF41 ⟨tl, s_3, a10, n14, c11, Lb12, hs16, r42, rfl, hz13⟩
     obtain rfl := rest_nil hs16; rw [slices_AppendSeq_int_int_l1] at r42
     refine inBlock_n (id := 0) ?_
     obtain rfl := inj1 r42
     exact mi kr ⟨a10, n14, c11, Lb12, hF41, rfl, (sc rfl (sn _)), hz13⟩
   intro c F1 L1 hx h; exact h.elim
 rintro e1 F44 _ ⟨a2, n6, c3, Lb4, hF45, rfl, he43, hz5⟩
 refine shW_env _ he43 ?_; clear he43
 refine wsr ?_
 refine ov (v_load Tryz.isAgg28 rfl (Has.own 0 rfl) rfl) rfl ?_
 refine oa rfl rfl (shO_nil ?_)
 refine kW (kd kr) ?_
 refine shW_ret ?_
 refine q_res1 Tryz.results127 (res_tmp rfl) (sr) ?_
 obtain rfl := inj1 r9
 exact ⟨_, _, _, _, rfl, rfl, hz5⟩
set_option maxHeartbeats 1000000 in
theorem slices_Collect_int_w {seq_f : FuncId} {seq_1 : Array Value} {seq_2 : Array Value} {seq : List Int} {F : FS} (hc_seq : ∀ args w, (callFunc seq_f args).run Tryz.prog w = .ok (.enter seq_f args) w) (h_seq : IterOK Tryz.prog seq_f seq_1 seq_2 F (fun x : Int => #[.int .i64 x]) seq) {r : List Int} (hr : slices_Collect_int seq = some r) :
    SH.Spec Tryz.prog 99 #[.func (.func seq_f) seq_1 seq_2] F [] fun F' L' v => ∃ (ra : Option Addr) (rn : Nat) (rc : Nat) (rL : LH), v = .slice ra rn rc ∧ L' = rL ++ [] ∧ SlR 0 3 1 (iE .i64) F' ra rn rc r rL := by
 refine spec_of_shW (args := [.func (.func seq_f) seq_1 seq_2]) Tryz.func99 rfl Tryz.ntmps99 (Nat.le_of_ble_eq_true rfl) ?_
 intro K _ _; rw [slices_Collect_int] at hr
 refine wsr (oa rfl rfl (nsr (om rfl rfl ?_)))
 obtain ⟨l, h1, r2⟩ := b1_ok hr; clear hr
 refine o_call0 rfl Tryz.call127 rfl rfl rfl (slices_AppendSeq_int_int_w (SlR.nil 0 _ _ _ _) hc_seq h_seq h1) ?_; rintro _ F3 _ hF4 hn5 ⟨a7, n11, c8, Lb9, rfl, rfl, hz10⟩
 refine shO_L (lp (ln rfl)) ?_
 refine oa rfl rfl (shO_nil (shW_ret ?_))
 refine q_res1 Tryz.results99 (res_tmp rfl) (sr) ?_
 obtain rfl := inj1 r2
 exact ⟨_, _, _, _, rfl, rfl, hz10.any⟩
set_option maxHeartbeats 1000000 in
theorem slices_Sorted_int_w {seq_f : FuncId} {seq_1 : Array Value} {seq_2 : Array Value} {seq : List Int} {F : FS} (hc_seq : ∀ args w, (callFunc seq_f args).run Tryz.prog w = .ok (.enter seq_f args) w) (h_seq : IterOK Tryz.prog seq_f seq_1 seq_2 F (fun x : Int => #[.int .i64 x]) seq) {r : List Int} (hr : slices_Sorted_int seq = some r) :
    SH.Spec Tryz.prog 55 #[.func (.func seq_f) seq_1 seq_2] F [] fun F' L' v => ∃ (ra : Option Addr) (rn : Nat) (rc : Nat) (rL : LH), v = .slice ra rn rc ∧ L' = rL ++ [] ∧ SlR 0 3 1 (iE .i64) F' ra rn rc r rL := by
 refine spec_of_shW (args := [.func (.func seq_f) seq_1 seq_2]) Tryz.func55 rfl Tryz.ntmps55 (Nat.le_of_ble_eq_true rfl) ?_
 intro K _ _; rw [slices_Sorted_int] at hr
 refine wsr (oa rfl rfl (nsr (om rfl rfl ?_)))
 obtain ⟨l, h1, r2⟩ := b1_ok hr; clear hr
 refine o_call0 rfl Tryz.call99 rfl rfl rfl (slices_Collect_int_w hc_seq h_seq h1) ?_; rintro _ F3 _ hF4 hn5 ⟨a7, n11, c8, Lb9, rfl, rfl, hz10⟩
 replace hz10 := hz10.new fun p hp => hn5 p (by simp [hp])
 refine shO_L (lp (ln rfl)) ?_
 refine oa rfl rfl (nsr (om rfl rfl ?_))
 obtain ⟨s_, h13, r14⟩ := b1_ok r2; clear r2
 refine o_callG (Lb := Lb9 ++ []) (Lr := []) rfl Tryz.call53 rfl rfl rfl (pT pR (lp (ln rfl))) (slices_Sort_int_int_w hz10 h13) ?_; rintro _ F15 _ hF16 hd18 hn17 ⟨Lb19, rfl, rfl, hz20⟩
 refine shO_L (lp (ln rfl)) ?_
 refine nsr (om rfl rfl (oa rfl rfl (shO_nil (shW_ret ?_))))
 refine q_res1 Tryz.results55 (res_tmp rfl) (sr) ?_
 obtain rfl := inj1 r14
 exact ⟨_, _, _, _, rfl, rfl, hz20.any⟩
set_option maxHeartbeats 1000000 in
theorem slices_Values_int_int_1_w {b_s_ : Nat} {s__a : Option Addr} {s__c : Nat} {s_ : List Int} {mb_s_ : Nat × Nat} {F : FS} (hb_s_ : F b_s_ = some (.cells #[.slice s__a s_.length s__c] 28 mb_s_)) (h_s_ : RowR 1 (iE .i64) F s__a s__c s_) {xs : List Int} (hr : slices_Values_int_int_1 s_ = some xs) :
    IterOK Tryz.prog 100 #[] #[.pointer (some ⟨b_s_, 0, none⟩)] F (fun x : Int => #[.int .i64 x]) xs := by
 intro G0 hG0 yv J Jx hJm hJxm hy Fc L0 hG hJ0
 replace hb_s_ := (hG0.trans hG) _ _ hb_s_
 replace h_s_ := h_s_.mono (iE_ok _) (hG0.trans hG)
 have hfull0 : xs = [] ++ xs := rfl
 show SH.Spec Tryz.prog 100 #[yv, .pointer (some ⟨b_s_, 0, none⟩)] Fc L0 _
 refine spec_of_shW (args := [yv, .pointer (some ⟨b_s_, 0, none⟩)]) Tryz.func100 rfl Tryz.ntmps100 (Nat.le_of_ble_eq_true rfl) ?_
 intro K _ _; rw [slices_Values_int_int_1] at hr; refine shW_L (L' := L0 ++ []) (by simp) ?_
 refine wsr ?_
 refine ov (v_load Tryz.isAgg28 rfl (Has.frozen hb_s_) rfl) rfl ?_
 refine ov (v_lenS Tryz.underlying28 rfl) rfl ?_
 refine om rfl rfl (shO_nil ?_)
 refine shW_block ?_
 refine shW_lp (fun fu1 e1 F1 L1 => ∃ (tl : List Int) (k : Int), tl.length = fu1 ∧ Lst s_ k tl ∧ ∃ (pre1 : List Int) (rem2 : List Int) (Lj3 : LH), slices_Values_int_int_1_l1 tl = some rem2 ∧ FExt Fc F1 ∧ L1 = (Lj3 ++ []) ∧ e1.sub [(0, yv), (5, .slice s__a s_.length s__c), (6, .int .i64 (s_.length : Int)), (7, .int .i64 k)] ∧ xs = pre1 ++ rem2 ∧ J pre1 F1 Lj3 ∧ FExt G0 F1) _ (m0 kr ⟨_, _, rfl, Lst.start _, [], xs, L0, hr, FExt.refl _, rfl, (sc rfl (sc rfl (sc rfl (sc rfl (sn _))))), hfull0, hJ0, hG⟩) ?_
 rintro fu1 e1 F10 _ ⟨tl, k, hn7, hk6, pre1, rem2, Lj3, r8, hF11, rfl, he9, hfull5, hJ4, hG⟩
 refine shW_env _ he9 ?_; clear he9
 replace h_s_ := h_s_.mono (iE_ok _) hF11
 refine wsr ?_
 refine ov (v_lssK rfl rfl) rfl ?_
 refine shO_nil (shW_seq ?_)
 refine shW_condP rfl (fun c13 => ?_) (fun c13 => ?_)
 · obtain ⟨x, tl2, rfl, hx15, g16, hk14⟩ := Lst.succ hk6 c13
   rw [slices_Values_int_int_1_l1] at r8
   refine shW_skip (shW_seq ?_)
   refine shW_block ?_
   refine wsr ?_
   obtain ⟨b17, o18, c19, vs20, ha21, hs22, hle23, rfl, hl24, hc25⟩ := RowR.at (iE_ok _) h_s_ (Lj3 ++ []) g16.1 hx15
   refine ov (v_indexO Tryz.underlying28 Tryz.sizeOf3 rfl ha21 rfl g16) rfl ?_
   refine ov (v_load Tryz.isAgg3 rfl hs22 (hc25 0 (by decide))) rfl ?_
   refine oa rfl rfl (nsr (om rfl rfl (om rfl rfl ?_)))
   obtain ⟨tl26, r28, hx27⟩ := yl_ok r8; clear r8
   refine o_callC (Lb := Lj3) (Lr := []) (vs := [.int .i64 x]) rfl rfl rfl fP (hy pre1 x tl26 (by rw [hfull5, hx27]) _ _ hG hJ4) ?_
   rintro v36 F29 Lj30 hF31 hz32; obtain ⟨yb33, rfl, hbt34, hbf35⟩ := yield_bool hz32
   replace h_s_ := h_s_.mono (iE_ok _) hF31
   replace hG := hG.trans hF31
   refine ov (v_notB rfl) rfl ?_
   refine shO_nil ?_
   refine shW_cond rfl (fun c37 => ?_) (fun c37 => ?_)
   · have hJ38 := hbf35 (by simpa using c37)
     refine shW_ret (inBlock_ret (andThen_ret (andThen_ret (inBlock_ret ?_))))
     refine q_end0s (.inl rfl) Tryz.results100 (sr) ?_
     exact .inr (by rw [List.append_nil]; exact hJ38)
   have hJ39 := hbt34 (by simpa using c37)
   have hfull40 : xs = (pre1 ++ [x]) ++ tl26 := by rw [hfull5, hx27]; simp
   refine shW_skip (inBlock_n (id := 1) (shW_region ?_))
   refine ov (v_add rfl rfl (Lst.r64 hk6 c13 (RowR.lt h_s_))) rfl ?_
   refine om rfl rfl (shO_nil ?_)
   subst hn7; exact le kr ⟨_, _, rfl, hk14, pre1 ++ [x], tl26, Lj30, r28, (hF11.trans hF31), rfl, (sc rfl (sc rfl (sc rfl (sc rfl (sn _))))), hfull40, hJ39, hG⟩
 obtain rfl := Lst.zero hk6 c13
 rw [slices_Values_int_int_1_l1] at r8
 refine shW_exit (andThen_exit (andThen_exit ?_))
 refine inBlock_exit ?_
 refine q_end0s (.inr rfl) Tryz.results100 (sr) ?_
 obtain rfl := inj1 r8
 exact .inl (by have e1 := hfull5; rw [List.append_nil] at e1; rw [List.append_nil, e1]; exact hJ4)
set_option maxHeartbeats 1000000 in
theorem slices_Values_int_int_w {s__a : Option Addr} {s__c : Nat} {s_ : List Int} {F : FS} (h_s_ : RowR 1 (iE .i64) F s__a s__c s_) {r : List Int} (hr : slices_Values_int_int s_ = some r) :
    SH.Spec Tryz.prog 56 #[.slice s__a s_.length s__c] F [] fun F' L' v => ∃ (rcp : Array Value), v = .func (.func 100) #[] rcp ∧ L' = [] ∧ IterOK Tryz.prog 100 #[] rcp F' (fun x : Int => #[.int .i64 x]) r := by
 refine spec_of_shW (args := [.slice s__a s_.length s__c]) Tryz.func56 rfl Tryz.ntmps56 (Nat.le_of_ble_eq_true rfl) ?_
 intro K _ _; rw [slices_Values_int_int] at hr
 refine wsr ?_
 refine o_box rfl rfl ?_; intro b1 hb1
 refine oa rfl rfl (nsr ?_)
 refine ov (v_makeFunc rfl rfl) rfl ?_
 refine oa rfl rfl (shO_nil ?_)
 refine shW_freeze 0 rfl hb1 ?_; intro F2 hF3 hz4
 refine shW_L (L' := []) rfl ?_
 replace h_s_ := h_s_.mono (iE_ok _) hF3
 obtain ⟨l, h5, r7⟩ := b1_ok hr; clear hr
 have hit6 : IterOK Tryz.prog 100 #[] #[.pointer (some ⟨b1, 0, none⟩)] F2 (fun x : Int => #[.int .i64 x]) l := slices_Values_int_int_1_w hz4 h_s_ h5
 refine shW_ret ?_
 refine q_res1 Tryz.results56 (res_tmp rfl) (sr) ?_
 obtain rfl := inj1 r7
 exact ⟨_, rfl, rfl, hit6⟩
set_option maxHeartbeats 1000000 in
theorem slices_Clone_int_int_w {s__a : Option Addr} {s__c : Nat} {s_ : List Int} {F : FS} (h_s_ : RowR 1 (iE .i64) F s__a s__c s_) {r : List Int} (hr : slices_Clone_int_int s_ = some r) :
    SH.Spec Tryz.prog 58 #[.slice s__a s_.length s__c] F [] fun F' L' v => ∃ (ra : Option Addr) (rn : Nat) (rc : Nat) (rL : LH), v = .slice ra rn rc ∧ L' = rL ++ [] ∧ SlR 0 3 1 (iE .i64) F' ra rn rc r rL := by
 refine spec_of_shW (args := [.slice s__a s_.length s__c]) Tryz.func58 rfl Tryz.ntmps58 (Nat.le_of_ble_eq_true rfl) ?_
 intro K _ _; rw [slices_Clone_int_int] at hr
 refine wsr (oa rfl rfl (shO_nil (shW_seq (wsr (om rfl rfl ?_)))))
 refine ov (v_eqlNil Tryz.underlying28 rfl) rfl ?_
 refine shO_nil ?_
 refine shW_cond rfl (fun c1 => ?_) (fun c1 => ?_)
 · have r2 := nilIf_t hr (RowR.isNone h_s_ c1); clear hr
   refine wsr (oa rfl rfl (shO_nil (shW_ret (andThen_ret ?_))))
   refine q_res1 Tryz.results58 (res_tmp rfl) (sr) ?_
   obtain rfl := inj1 r2
   exact ⟨_, _, _, [], rfl, rfl, SlR.nil _ _ _ _ _⟩
 have r3 := nilIf_f hr; clear hr
 refine shW_skip (wsr ?_)
 refine o_buildSlice (cs := #[]) rfl rfl (buildSlice_none slt_28) ?_; intro b4 hb4
 refine om rfl rfl ?_
 have hz6 : SlR K.w0.heap.size 3 1 (iE .i64) F (some ⟨b4, 0, none⟩) 0 0 ([] : List Int) [(b4, .cells #[] 3 (0, 0))] := SlR.of_block (vss := []) (iE_ok _) hb4 .nil rfl rfl (by simp [maxLen])
 generalize hLLb5 : ([(b4, .cells #[] 3 (0, 0))] : LH) = Lb5 at hz6
 refine shO_perm (L' := Lb5 ++ []) (by rw [← hLLb5]; exact fO) ?_
 obtain ⟨l, h8, g9, r10⟩ := ap_ok r3; clear r3
 refine o_appZ (xs := ([] : List Int)) (ys := s_) (zs := l) rfl slt_28 rfl rfl (Nat.le_refl _) (fun _ => .h) hz6 (RowR.src h_s_) h8 g9 (by decide) ?_; intro a11 n15 c12 Lb13 hz14
 refine oa rfl rfl (shO_nil (shW_ret ?_))
 refine q_res1 Tryz.results58 (res_tmp rfl) (sr) ?_
 obtain rfl := inj1 r10
 exact ⟨_, _, _, _, rfl, rfl, hz14.any⟩
set_option maxHeartbeats 1000000 in
theorem slices_IndexFunc_int_int_w {s__a : Option Addr} {s__c : Nat} {s_ : List Int} {f_f : FuncId} {f_1 : Array Value} {f_2 : Array Value} {f : Int → Option Bool} {F : FS} (h_s_ : RowR 1 (iE .i64) F s__a s__c s_) (h_f : FnR Tryz.prog F f_f f_1 f_2 (iE .i64) Value.bool f) {r : Int} (hr : slices_IndexFunc_int_int s_ f = some r) :
    SpecV Tryz.prog 78 #[.slice s__a s_.length s__c, .func (.func f_f) f_1 f_2] F (.int .i64 r) := by
 refine spec_of_shW (args := [.slice s__a s_.length s__c, .func (.func f_f) f_1 f_2]) Tryz.func78 rfl Tryz.ntmps78 (Nat.le_of_ble_eq_true rfl) ?_
 intro K _ _; rw [slices_IndexFunc_int_int] at hr
 refine wsr (oa rfl rfl (shO_nil ?_))
 refine shW_join (fun e1 F1 L1 => slices_IndexFunc_int_int_j1 = some r ∧ F = F1 ∧ L1 = [] ∧ e1.sub []) ?_ ?_
 · refine wsr (om rfl rfl ?_)
   refine ov (v_lenS Tryz.underlying28 rfl) rfl ?_
   refine om rfl rfl (shO_nil ?_)
   refine shW_block ?_
   refine shW_lp (fun fu2 e1 F1 L1 => ∃ (tl : List Int) (k : Int), tl.length = fu2 ∧ Lst s_ k tl ∧ slices_IndexFunc_int_int_l2 f tl k = some r ∧ F = F1 ∧ L1 = [] ∧ e1.sub [(0, .slice s__a s_.length s__c), (1, .func (.func f_f) f_1 f_2), (7, .int .i64 (s_.length : Int)), (8, .int .i64 k)]) _ (m0 kr ⟨_, _, rfl, Lst.start _, hr, rfl, rfl, (sc rfl (sc rfl (sc rfl (sc rfl (sn _)))))⟩) ?_
   rintro fu2 e1 _ _ ⟨tl, k, hn2, hk1, r3, rfl, rfl, he4⟩
   refine shW_env _ he4 ?_; clear he4
   refine wsr ?_
   refine ov (v_lssK rfl rfl) rfl ?_
   refine shO_nil (shW_seq ?_)
   refine shW_condP rfl (fun c6 => ?_) (fun c6 => ?_)
   · obtain ⟨x, tl2, rfl, hx8, g9, hk7⟩ := Lst.succ hk1 c6
     rw [slices_IndexFunc_int_int_l2] at r3
     refine shW_skip (shW_seq ?_)
     refine shW_block ?_
     refine wsr (om rfl rfl (oa rfl rfl (nsr (om rfl rfl (om rfl rfl (om rfl rfl ?_))))))
     obtain ⟨b10, o11, c12, vs13, ha14, hs15, hle16, rfl, hl17, hc18⟩ := RowR.at (iE_ok _) h_s_ ([]) g9.1 hx8
     refine ov (v_indexO Tryz.underlying28 Tryz.sizeOf3 rfl ha14 rfl g9) rfl ?_
     refine ov (v_load Tryz.isAgg3 rfl hs15 (hc18 0 (by decide))) rfl ?_
     obtain ⟨ok, h19, r20⟩ := b1_ok r3; clear r3
     refine o_callV rfl h_f.1 rfl rfl rfl (h_f.2 _ (FExt.refl _) _ _ _ rfl h19) ?_
     refine shO_nil ?_
     refine shW_cond rfl (fun c21 => ?_) (fun c21 => ?_)
     · have r22 := bt r20 c21; clear r20
       refine wsr (om rfl rfl (oa rfl rfl (shO_nil (shW_ret (inBlock_ret (andThen_ret (andThen_ret (inBlock_ret (andThen_ret ?_)))))))))
       refine q_res1 Tryz.results78 (res_tmp rfl) (sr) ?_
       obtain rfl := inj1 r22
       exact rfl
     have r23 := bf r20 c21; clear r20
     refine shW_skip (inBlock_n (id := 1) (shW_region ?_))
     refine ov (v_add rfl rfl (Lst.r64 hk1 c6 (RowR.lt h_s_))) rfl ?_
     refine om rfl rfl (shO_nil ?_)
     subst hn2; exact le kr ⟨_, _, rfl, hk7, r23, rfl, rfl, (sc rfl (sc rfl (sc rfl (sc rfl (sn _)))))⟩
   obtain rfl := Lst.zero hk1 c6
   rw [slices_IndexFunc_int_int_l2] at r3
   refine shW_exit (andThen_exit (andThen_exit ?_))
   refine inBlock_exit ?_
   exact mi kr ⟨r3, rfl, rfl, (sn _)⟩
 rintro e1 _ _ ⟨r24, rfl, rfl, he25⟩
 refine shW_env _ he25 ?_; clear he25
 rw [slices_IndexFunc_int_int_j1] at r24
 refine wsr (oa rfl rfl (shO_nil (shW_ret ?_)))
 refine q_res1 Tryz.results78 (res_tmp rfl) (sr) ?_
 obtain rfl := inj1 r24
 exact rfl
set_option maxHeartbeats 1000000 in
theorem slices_ContainsFunc_int_int_w {s__a : Option Addr} {s__c : Nat} {s_ : List Int} {f_f : FuncId} {f_1 : Array Value} {f_2 : Array Value} {f : Int → Option Bool} {F : FS} (h_s_ : RowR 1 (iE .i64) F s__a s__c s_) (h_f : FnR Tryz.prog F f_f f_1 f_2 (iE .i64) Value.bool f) {r : Bool} (hr : slices_ContainsFunc_int_int s_ f = some r) :
    SpecV Tryz.prog 29 #[.slice s__a s_.length s__c, .func (.func f_f) f_1 f_2] F (.bool r) := by
 refine spec_of_shW (args := [.slice s__a s_.length s__c, .func (.func f_f) f_1 f_2]) Tryz.func29 rfl Tryz.ntmps29 (Nat.le_of_ble_eq_true rfl) ?_
 intro K _ _; rw [slices_ContainsFunc_int_int] at hr
 refine wsr (oa rfl rfl (nsr (om rfl rfl (om rfl rfl ?_))))
 obtain ⟨n, h1, r2⟩ := b1_ok hr; clear hr
 refine o_callV rfl Tryz.call78 rfl rfl rfl (slices_IndexFunc_int_int_w h_s_ h_f h1) ?_
 refine ov (v_geqK rfl rfl) rfl ?_
 refine oa rfl rfl (shO_nil (shW_ret ?_))
 refine q_res1 Tryz.results29 (res_tmp rfl) (sr) ?_
 obtain rfl := inj1 r2
 exact rfl
set_option maxHeartbeats 1000000 in
theorem hear_every_int_1_w {x : Int} {b_so : Nat} {so_f : FuncId} {so_1 : Array Value} {so_2 : Array Value} {so : Int → Option Bool} {mb_so : Nat × Nat} {F : FS} (hb_so : F b_so = some (.cells #[.func (.func so_f) so_1 so_2] 59 mb_so)) (h_so : FnR Tryz.prog F so_f so_1 so_2 (iE .i64) Value.bool so) {r : Bool} (hr : hear_every_int_1 x so = some r) :
    SpecV Tryz.prog 101 #[.int .i64 x, .pointer (some ⟨b_so, 0, none⟩)] F (.bool r) := by
 refine spec_of_shW (args := [.int .i64 x, .pointer (some ⟨b_so, 0, none⟩)]) Tryz.func101 rfl Tryz.ntmps101 (Nat.le_of_ble_eq_true rfl) ?_
 intro K _ _; rw [hear_every_int_1] at hr
 refine wsr (oa rfl rfl (nsr ?_))
 refine ov (v_load Tryz.isAgg59 rfl (Has.frozen hb_so) rfl) rfl ?_
 refine om rfl rfl ?_
 obtain ⟨ok, h1, r2⟩ := b1_ok hr; clear hr
 refine o_callV rfl h_so.1 rfl rfl rfl (h_so.2 _ (FExt.refl _) _ _ _ rfl h1) ?_
 refine ov (v_notB rfl) rfl ?_
 refine oa rfl rfl (shO_nil (shW_ret ?_))
 refine q_res1 Tryz.results101 (res_tmp rfl) (sr) ?_
 obtain rfl := inj1 r2
 exact rfl
set_option maxHeartbeats 1000000 in
theorem hear_every_int_w {l_a : Option Addr} {l_c : Nat} {l : List Int} {so_f : FuncId} {so_1 : Array Value} {so_2 : Array Value} {so : Int → Option Bool} {F : FS} (h_l : RowR 1 (iE .i64) F l_a l_c l) (h_so : FnR Tryz.prog F so_f so_1 so_2 (iE .i64) Value.bool so) {r : Bool} (hr : hear_every_int l so = some r) :
    SpecV Tryz.prog 59 #[.slice l_a l.length l_c, .func (.func so_f) so_1 so_2] F (.bool r) := by
 refine spec_of_shW (args := [.slice l_a l.length l_c, .func (.func so_f) so_1 so_2]) Tryz.func59 rfl Tryz.ntmps59 (Nat.le_of_ble_eq_true rfl) ?_
 intro K _ _; rw [hear_every_int] at hr
 refine wsr ?_
 refine o_box rfl rfl ?_; intro b1 hb1
 refine oa rfl rfl (nsr (om rfl rfl ?_))
 refine ov (v_makeFunc rfl rfl) rfl ?_
 refine shO_freeze 0 rfl hb1 ?_; intro F2 hF3 hz4
 refine shO_L (L' := []) rfl ?_
 replace h_l := h_l.mono (iE_ok _) hF3
 replace h_so := h_so.mono hF3
 have hn5 : FnR Tryz.prog F2 101 #[] #[.pointer (some ⟨b1, 0, none⟩)] (iE .i64) Value.bool (fun xx_ : Int => hear_every_int_1 xx_ so) := ⟨Tryz.call101, fun F2 h2 vs xx_ r ha hr => by obtain rfl := ha; exact hear_every_int_1_w (h2 _ _ hz4) (h_so.mono h2) hr⟩
 obtain ⟨ok, h6, r7⟩ := b1_ok hr; clear hr
 refine o_callV rfl Tryz.call29 rfl rfl rfl (slices_ContainsFunc_int_int_w h_l hn5 h6) ?_
 refine ov (v_notB rfl) rfl ?_
 refine oa rfl rfl (shO_nil (shW_ret ?_))
 refine q_res1 Tryz.results59 (res_tmp rfl) (sr) ?_
 obtain rfl := inj1 r7
 exact rfl
set_option maxHeartbeats 1000000 in
theorem hear_ears_common_w {x : List Bool} {y : List Bool} {F : FS} (h_x : x.length = 30) (h_y : y.length = 30) {r : Bool} (hr : hear_ears_common x y = some r) :
    SpecV Tryz.prog 61 #[.agg (arr cB x), .agg (arr cB y)] F (.bool r) := by
 refine spec_of_shW (args := [.agg (arr cB x), .agg (arr cB y)]) Tryz.func61 rfl Tryz.ntmps61 (Nat.le_of_ble_eq_true rfl) ?_
 intro K _ _; rw [hear_ears_common] at hr
 refine wsr ?_
 refine o_box rfl rfl ?_; intro b1 hb1
 refine o_box rfl rfl ?_; intro b2 hb2
 refine oa rfl rfl (shO_nil ?_)
 refine shW_join (fun e1 F1 L1 => hear_ears_common_j1 = some r ∧ F = F1 ∧ L1 = [] ∧ e1.sub []) ?_ ?_
 · refine wsr (om rfl rfl (shO_nil ?_))
   refine shW_block ?_
   obtain ⟨g3, r4⟩ := gd_ok hr; clear hr
   refine shW_lp (fun fu2 e1 F1 L1 => ∃ (k : Int), Ctr 0 30 k fu2 ∧ hear_ears_common_l2 x y fu2 k = some r ∧ F = F1 ∧ L1 = [(b2, .cells (arr cB y) 80 (0, 0)), (b1, .cells (arr cB x) 80 (0, 0))] ∧ e1.sub [(2, .pointer (some ⟨b1, 0, none⟩)), (3, .pointer (some ⟨b2, 0, none⟩)), (6, .int .i64 k)]) _ (m0 kr ⟨_, Ctr.start _ _, r4, rfl, rfl, (sc rfl (sc rfl (sc rfl (sn _))))⟩) ?_
   rintro fu2 e1 _ _ ⟨k, hk5, r7, rfl, rfl, he8⟩
   refine shW_env _ he8 ?_; clear he8
   refine wsr ?_
   refine ov (v_lssK rfl rfl) rfl ?_
   refine shO_nil (shW_seq ?_)
   refine shW_condP rfl (fun c10 => ?_) (fun c10 => ?_)
   · obtain ⟨fu2, rfl, hk11⟩ := Ctr.succ hk5 c10
     rw [hear_ears_common_l2] at r7
     refine shW_skip (shW_seq ?_)
     refine shW_block ?_
     refine wsr (om rfl rfl (oa rfl rfl (shO_nil ?_)))
     obtain ⟨k2, h12, r13⟩ := b1_ok r7; clear r7
     refine shW_join (fun e1 F1 L1 => F = F1 ∧ L1 = [(b2, .cells (arr cB y) 80 (0, 0)), (b1, .cells (arr cB x) 80 (0, 0))] ∧ e1.sub [(2, .pointer (some ⟨b1, 0, none⟩)), (3, .pointer (some ⟨b2, 0, none⟩)), (6, .int .i64 k), (16, .bool k2)]) ?_ ?_
     · clear r13
       refine shW_region (om rfl rfl ?_)
       obtain ⟨x2, g14, hx15, r16⟩ := ix_ok h12; clear h12
       have hc17 := arr_at cB_ok h_x hx15
       refine ov (v_indexA Tryz.underlying80 Tryz.sizeOf4 rfl rfl (arr_lt h_x g14)) rfl ?_
       refine ov (v_load Tryz.isAgg4 rfl (Has.own 1 rfl) ((hc17).2.2 0 (by decide))) rfl ?_
       refine om rfl rfl ?_
       rcases bool_two x2 with c18 | c18
       · have r19 := bt r16 c18; clear r16
         refine shO_on (b := true) 12 rfl (EnvB rfl c18) (om rfl rfl (shO_on (b := true) 12 rfl (EnvB rfl c18) ?_))
         obtain ⟨x3, g20, hx21, r22⟩ := ix_ok r19; clear r19
         have hc23 := arr_at cB_ok h_y hx21
         refine ov (v_indexA Tryz.underlying80 Tryz.sizeOf4 rfl rfl (arr_lt h_y g20)) rfl ?_
         refine shO_on (b := true) 12 rfl (EnvB rfl c18) ?_
         refine ov (v_load Tryz.isAgg4 rfl (Has.own 0 rfl) ((hc23).2.2 0 (by decide))) rfl ?_
         refine ov (v_pick_t (evB rfl c18) rfl) rfl ?_
         refine shO_nil ?_
         obtain rfl := inj1 r22
         exact mi kr ⟨rfl, rfl, (sc rfl (sc rfl (sc rfl (sc rfl (sn _)))))⟩
       have r24 := bf r16 c18; clear r16
       refine shO_off (b' := false) 12 rfl (EnvB rfl c18) rfl rfl (shO_off (b' := false) 12 rfl (EnvB rfl c18) rfl rfl (shO_off (b' := false) 12 rfl (EnvB rfl c18) rfl rfl ?_))
       refine ov (v_pick_f (evB rfl c18) rfl) rfl ?_
       refine shO_nil ?_
       obtain rfl := inj1 r24
       exact mi kr ⟨rfl, rfl, (sc rfl (sc rfl (sc rfl (sc rfl (sn _)))))⟩
     rintro e1 _ _ ⟨rfl, rfl, he25⟩
     refine shW_env _ he25 ?_; clear he25
     refine shW_cond rfl (fun c26 => ?_) (fun c26 => ?_)
     · have r27 := bt r13 c26; clear r13
       refine wsr (oa rfl rfl (shO_nil ?_))
       refine kW kn ?_
       refine shW_ret (inBlock_ret (andThen_ret (andThen_ret (inBlock_ret (andThen_ret ?_)))))
       refine q_res1 Tryz.results61 (res_tmp rfl) (sr) ?_
       obtain rfl := inj1 r27
       exact rfl
     have r28 := bf r13 c26; clear r13
     refine shW_skip (inBlock_n (id := 1) (shW_region ?_))
     refine ov (v_add rfl rfl (Ctr.r64 hk5 c10 g3)) rfl ?_
     refine om rfl rfl (shO_nil ?_)
     exact le kr ⟨_, hk11, r28, rfl, rfl, (sc rfl (sc rfl (sc rfl (sn _))))⟩
   obtain rfl := Ctr.zero hk5 c10
   rw [hear_ears_common_l2] at r7
   refine shW_exit (andThen_exit (andThen_exit ?_))
   refine inBlock_exit ?_
   exact mi kn ⟨r7, rfl, rfl, (sn _)⟩
 rintro e1 _ _ ⟨r29, rfl, rfl, he30⟩
 refine shW_env _ he30 ?_; clear he30
 rw [hear_ears_common_j1] at r29
 refine wsr (oa rfl rfl (shO_nil (shW_ret ?_)))
 refine q_res1 Tryz.results61 (res_tmp rfl) (sr) ?_
 obtain rfl := inj1 r29
 exact rfl
set_option maxHeartbeats 1000000 in
theorem hear_Apart_1_1_w {k : Int} {b_x : Nat} {ears_a : Option Addr} {ears_c : Nat} {ears : List (List Bool)} {count_f : FuncId} {count_1 : Array Value} {count_2 : Array Value} {count : Int → Option Int} {mb_x : Nat × Nat} {b_i : Nat} {i : Int} {mb_i : Nat × Nat} {F : FS} (hb_x : F b_x = some (.cells #[.slice ears_a ears.length ears_c, .func (.func count_f) count_1 count_2] 75 mb_x)) (h_ears : RowR 30 (arE 30 cB) F ears_a ears_c ears) (_h_count : FnR Tryz.prog F count_f count_1 count_2 (iE .i64) (Value.int .i64) count) (hb_i : F b_i = some (.cells #[.int .i64 i] 3 mb_i)) {r : Bool} (hr : hear_Apart_1_1 k ears count i = some r) :
    SpecV Tryz.prog 60 #[.int .i64 k, .pointer (some ⟨b_x, 0, none⟩), .pointer (some ⟨b_i, 0, none⟩)] F (.bool r) := by
 refine spec_of_shW (args := [.int .i64 k, .pointer (some ⟨b_x, 0, none⟩), .pointer (some ⟨b_i, 0, none⟩)]) Tryz.func60 rfl Tryz.ntmps60 (Nat.le_of_ble_eq_true rfl) ?_
 intro K _ _; rw [hear_Apart_1_1] at hr
 refine wsr (oa rfl rfl ?_)
 refine nsd (by kernel_rfl) (by kernel_rfl) (by kernel_rfl) ?_
 refine qv (v_fieldAddr fa_75_0 rfl) rfl ?_
 refine qv (v_load Tryz.isAgg72 rfl (Has.frozen hb_x) rfl) rfl ?_
 refine qm rfl rfl ?_
 obtain ⟨x, g1, hx2, r3⟩ := ix_ok hr; clear hr
 obtain ⟨b4, o5, c6, vs7, ha8, hs9, hle10, ⟨rfl, h13⟩, hl11, hc12⟩ := RowR.at (arE_ok (n := 30) (sz := 1) cB_ok) h_ears ([]) g1.1 hx2
 refine qv (v_indexO Tryz.underlying72 Tryz.sizeOf80 rfl ha8 rfl g1) rfl ?_
 refine qv (v_loadA (cs := arr cB x) Tryz.isAgg80 Tryz.sizeOf80 rfl hs9 hle10 (extract_cells hle10 hl11 hc12)) rfl ?_
 refine qv (v_fieldAddr fa_75_0 rfl) rfl ?_
 refine qv (v_load Tryz.isAgg72 rfl (Has.frozen hb_x) rfl) rfl ?_
 refine qv (v_load Tryz.isAgg3 rfl (Has.frozen hb_i) rfl) rfl ?_
 obtain ⟨x2, g14, hx15, r16⟩ := ix_ok r3; clear r3
 obtain ⟨b17, o18, c19, vs20, ha21, hs22, hle23, ⟨rfl, h26⟩, hl24, hc25⟩ := RowR.at (arE_ok (n := 30) (sz := 1) cB_ok) h_ears ([]) g14.1 hx15
 refine qv (v_indexO Tryz.underlying72 Tryz.sizeOf80 rfl ha21 rfl g14) rfl ?_
 refine qv (v_loadA (cs := arr cB x2) Tryz.isAgg80 Tryz.sizeOf80 rfl hs22 hle23 (extract_cells hle23 hl24 hc25)) rfl ?_
 obtain ⟨ok, h27, r28⟩ := b1_ok r16; clear r16
 refine shQ_callV rfl Tryz.call61 rfl rfl rfl (hear_ears_common_w h13 h26 h27) ?_
 refine qv (v_notB rfl) rfl ?_
 refine qa rfl rfl (shQ_nil (shW_ret ?_))
 refine q_res1 Tryz.results60 (res_tmp rfl) (sr) ?_
 obtain rfl := inj1 r28
 exact rfl
set_option maxHeartbeats 1000000 in
theorem hear_Apart_1B_w {rec_ : (List Int) → Int → (List Int) → (List Int) → (List (List Bool)) → (Int → Option Int) → Option ((List Int))} (hrec : ∀ {l_a : Option Addr} {l_c : Nat} {l : List Int} {from_ : Int} {b_out : Nat} {out_a : Option Addr} {out_n : Nat} {out_c : Nat} {out_L : LH} {out : List Int} {b_own : Nat} {own_a : Option Addr} {own_c : Nat} {own : List Int} {mb_own : Nat × Nat} {b_q : Nat} {ears_a : Option Addr} {ears_c : Nat} {ears : List (List Bool)} {count_f : FuncId} {count_1 : Array Value} {count_2 : Array Value} {count : Int → Option Int} {mb_q : Nat × Nat} {b_more : Nat} {mb_more : Nat × Nat} {F : FS} (_ : RowR 1 (iE .i64) F l_a l_c l) (_ : SlR 0 3 1 (iE .i64) F out_a out_n out_c out out_L) (_ : F b_own = some (.cells #[.slice own_a own.length own_c] 28 mb_own)) (_ : RowR 1 (iE .i64) F own_a own_c own) (_ : F b_q = some (.cells #[.slice ears_a ears.length ears_c, .func (.func count_f) count_1 count_2] 75 mb_q)) (_ : RowR 30 (arE 30 cB) F ears_a ears_c ears) (_ : FnR Tryz.prog F count_f count_1 count_2 (iE .i64) (Value.int .i64) count) (_ : F b_more = some (.cells (#[.func (.func 57) #[] #[.pointer (some ⟨b_out, 0, none⟩), .pointer (some ⟨b_own, 0, none⟩), .pointer (some ⟨b_q, 0, none⟩), .pointer (some ⟨b_more, 0, none⟩)]]) 96 mb_more)) {r : List Int} , rec_ l from_ out own ears count = some r → SH.Spec Tryz.prog 57 #[.slice l_a l.length l_c, .int .i64 from_, .pointer (some ⟨b_out, 0, none⟩), .pointer (some ⟨b_own, 0, none⟩), .pointer (some ⟨b_q, 0, none⟩), .pointer (some ⟨b_more, 0, none⟩)] F ((b_out, .cells #[.slice out_a out_n out_c] 28 (0, 0)) :: (out_L ++ [])) fun F' L' v => ∃ (ra : Option Addr) (rn : Nat) (rc : Nat) (rL : LH), v = .tuple #[] ∧ L' = (b_out, .cells #[.slice ra rn rc] 28 (0, 0)) :: (rL ++ []) ∧ SlR 0 3 1 (iE .i64) F' ra rn rc r rL) {l_a : Option Addr} {l_c : Nat} {l : List Int} {from_ : Int} {b_out : Nat} {out_a : Option Addr} {out_n : Nat} {out_c : Nat} {out_L : LH} {out : List Int} {b_own : Nat} {own_a : Option Addr} {own_c : Nat} {own : List Int} {mb_own : Nat × Nat} {b_q : Nat} {ears_a : Option Addr} {ears_c : Nat} {ears : List (List Bool)} {count_f : FuncId} {count_1 : Array Value} {count_2 : Array Value} {count : Int → Option Int} {mb_q : Nat × Nat} {b_more : Nat} {mb_more : Nat × Nat} {F : FS} (h_l : RowR 1 (iE .i64) F l_a l_c l) (h_out : SlR 0 3 1 (iE .i64) F out_a out_n out_c out out_L) (hb_own : F b_own = some (.cells #[.slice own_a own.length own_c] 28 mb_own)) (h_own : RowR 1 (iE .i64) F own_a own_c own) (hb_q : F b_q = some (.cells #[.slice ears_a ears.length ears_c, .func (.func count_f) count_1 count_2] 75 mb_q)) (h_ears : RowR 30 (arE 30 cB) F ears_a ears_c ears) (h_count : FnR Tryz.prog F count_f count_1 count_2 (iE .i64) (Value.int .i64) count) (hb_more : F b_more = some (.cells (#[.func (.func 57) #[] #[.pointer (some ⟨b_out, 0, none⟩), .pointer (some ⟨b_own, 0, none⟩), .pointer (some ⟨b_q, 0, none⟩), .pointer (some ⟨b_more, 0, none⟩)]]) 96 mb_more)) {r : List Int} (hr : hear_Apart_1B rec_ l from_ out own ears count = some r) :
    SH.Spec Tryz.prog 57 #[.slice l_a l.length l_c, .int .i64 from_, .pointer (some ⟨b_out, 0, none⟩), .pointer (some ⟨b_own, 0, none⟩), .pointer (some ⟨b_q, 0, none⟩), .pointer (some ⟨b_more, 0, none⟩)] F ((b_out, .cells #[.slice out_a out_n out_c] 28 (0, 0)) :: (out_L ++ [])) fun F' L' v => ∃ (ra : Option Addr) (rn : Nat) (rc : Nat) (rL : LH), v = .tuple #[] ∧ L' = (b_out, .cells #[.slice ra rn rc] 28 (0, 0)) :: (rL ++ []) ∧ SlR 0 3 1 (iE .i64) F' ra rn rc r rL := by
 refine spec_of_shW (args := [.slice l_a l.length l_c, .int .i64 from_, .pointer (some ⟨b_out, 0, none⟩), .pointer (some ⟨b_own, 0, none⟩), .pointer (some ⟨b_q, 0, none⟩), .pointer (some ⟨b_more, 0, none⟩)]) Tryz.func57 rfl Tryz.ntmps57 (Nat.le_of_ble_eq_true rfl) ?_
 intro K _ _; rw [hear_Apart_1B] at hr
 refine shW_L (L' := (b_out, .cells #[.slice out_a out_n out_c] 28 (0, 0)) :: (out_L ++ [])) (by simp) ?_
 obtain ⟨out2, h7, r8⟩ := b1_ok hr; clear hr
 refine shW_join (fun e1 F1 L1 => ∃ (a1 : Option Addr) (n5 : Nat) (c2 : Nat) (Lb3 : LH), FExt F F1 ∧ L1 = ((b_out, .cells #[.slice a1 n5 c2] 28 (0, 0)) :: (Lb3 ++ [])) ∧ e1.sub [(0, .slice l_a l.length l_c), (1, .int .i64 from_), (3, .pointer (some ⟨b_own, 0, none⟩)), (4, .pointer (some ⟨b_q, 0, none⟩)), (5, .pointer (some ⟨b_more, 0, none⟩))] ∧ SlR 0 3 1 (iE .i64) F1 a1 n5 c2 out2 Lb3) ?_ ?_
 · clear r8
   refine wsr (om rfl rfl ?_)
   refine ov (v_lenS Tryz.underlying28 rfl) rfl ?_
   refine ov (v_load Tryz.isAgg28 rfl (Has.own 0 rfl) rfl) rfl ?_
   refine ov ((v_lenS Tryz.underlying28 rfl).i (SlR.lenI h_out)) rfl ?_
   refine ov (v_gtrK rfl rfl) rfl ?_
   refine shO_nil ?_
   refine shW_condP rfl (fun c9 => ?_) (fun c9 => ?_)
   · have r10 := ite_t h7 c9; clear h7
     refine shW_region (om rfl rfl ?_)
     obtain ⟨l2, h11, r12⟩ := b1_ok r10; clear r10
     refine o_call0 rfl Tryz.call58 rfl rfl rfl (slices_Clone_int_int_w h_l h11) ?_; rintro _ F13 _ hF14 hn15 ⟨a17, n21, c18, Lb19, rfl, rfl, hz20⟩
     replace hz20 := hz20.new fun p hp => hn15 p (by simp [hp])
     refine shO_L (lp (ln rfl)) ?_
     refine kO (kf (fS fO) kr) ?_
     refine o_store (i := 0) Tryz.sizeOf28 rfl rfl rfl rfl (Nat.le_of_ble_eq_true rfl) ?_
     refine shO_L (L' := (b_out, .cells #[.slice a17 n21 c18] 28 (0, 0)) :: (Lb19 ++ (out_L ++ []))) rfl ?_
     refine shO_nil ?_
     obtain rfl := inj1 r12
     exact mi (kc (ka kn)) ⟨a17, n21, c18, Lb19, hF14, rfl, (sc rfl (sc rfl (sc rfl (sc rfl (sc rfl (sn _)))))), hz20.any⟩
   have r23 := ite_f h7 c9; clear h7
   refine shW_skip ?_
   obtain rfl := inj1 r23
   exact mi kr ⟨out_a, out_n, out_c, out_L, FExt.refl _, rfl, (sc rfl (sc rfl (sc rfl (sc rfl (sc rfl (sn _)))))), h_out⟩
 rintro e1 F25 _ ⟨a1, n5, c2, Lb3, hF26, rfl, he24, hz4⟩
 refine shW_env _ he24 ?_; clear he24
 replace h_l := h_l.mono (iE_ok _) hF26
 replace h_own := h_own.mono (iE_ok _) hF26
 replace h_ears := h_ears.mono (arE_ok (n := 30) (sz := 1) cB_ok) hF26
 replace h_count := h_count.mono hF26
 replace hb_own := hF26 _ _ hb_own
 replace hb_q := hF26 _ _ hb_q
 replace hb_more := hF26 _ _ hb_more
 refine wsr (om rfl rfl ?_)
 refine o_alloc rfl Tryz.zeroValue3 ?_; intro b27 hb27
 refine o_store (i := 0) Tryz.sizeOf3 rfl rfl rfl rfl (Nat.le_of_ble_eq_true rfl) ?_
 refine shO_L (L' := (b27, .cells #[.int .i64 from_] 3 (0, 0)) :: ((b_out, .cells #[.slice a1 n5 c2] 28 (0, 0)) :: (Lb3 ++ []))) rfl ?_
 refine shO_nil ?_
 refine shW_block ?_
 refine shW_lp (fun fu1 e1 F1 L1 => ∃ (out3 : List Int) (i : Int) (a28 : Option Addr) (n32 : Nat) (c29 : Nat) (Lb30 : LH) (b34 : Nat), hear_Apart_1B_l1 l own ears count rec_ fu1 out3 i = some r ∧ FExt F25 F1 ∧ L1 = ((b34, .cells #[.int .i64 i] 3 (0, 0)) :: ((b_out, .cells #[.slice a28 n32 c29] 28 (0, 0)) :: (Lb30 ++ []))) ∧ e1.sub [(0, .slice l_a l.length l_c), (3, .pointer (some ⟨b_own, 0, none⟩)), (4, .pointer (some ⟨b_q, 0, none⟩)), (5, .pointer (some ⟨b_more, 0, none⟩)), (8, .pointer (some ⟨b34, 0, none⟩))] ∧ SlR 0 3 1 (iE .i64) F1 a28 n32 c29 out3 Lb30 ∧ K.w0.heap.size ≤ b34) FU (m0 kr ⟨out2, from_, a1, n5, c2, Lb3, b27, r8, FExt.refl _, rfl, (sc rfl (sc rfl (sc rfl (sc rfl (sc rfl (sn _)))))), hz4, hb27⟩) ?_
 rintro fu1 e1 F40 _ ⟨out3, i, a28, n32, c29, Lb30, b34, r38, hF41, rfl, he39, hz31, hb35⟩
 refine shW_env _ he39 ?_; clear he39
 replace h_l := h_l.mono (iE_ok _) hF41
 replace h_own := h_own.mono (iE_ok _) hF41
 replace h_ears := h_ears.mono (arE_ok (n := 30) (sz := 1) cB_ok) hF41
 replace h_count := h_count.mono hF41
 replace hb_own := hF41 _ _ hb_own
 replace hb_q := hF41 _ _ hb_q
 replace hb_more := hF41 _ _ hb_more
 rcases fu1 with _ | fu1
 · rw [hear_Apart_1B_l1] at r38; cases r38
 rw [hear_Apart_1B_l1] at r38
 refine shW_seq (wsr ?_)
 refine ov (v_load Tryz.isAgg3 rfl (Has.own 0 rfl) rfl) rfl ?_
 refine ov (v_load Tryz.isAgg28 rfl (Has.frozen hb_own) rfl) rfl ?_
 refine ov (v_lenS Tryz.underlying28 rfl) rfl ?_
 refine ov (v_lssK rfl rfl) rfl ?_
 refine shO_nil ?_
 refine shW_condP rfl (fun c42 => ?_) (fun c42 => ?_)
 · have r43 := ite_t r38 c42; clear r38
   refine shW_skip ?_
   obtain ⟨out4, h50, r51⟩ := b1_ok r43; clear r43
   refine shW_join (fun e1 F1 L1 => ∃ (a44 : Option Addr) (n48 : Nat) (c45 : Nat) (Lb46 : LH), FExt F40 F1 ∧ L1 = ((b_out, .cells #[.slice a44 n48 c45] 28 (0, 0)) :: ((b34, .cells #[.int .i64 i] 3 (0, 0)) :: (Lb46 ++ []))) ∧ e1.sub [(0, .slice l_a l.length l_c), (3, .pointer (some ⟨b_own, 0, none⟩)), (4, .pointer (some ⟨b_q, 0, none⟩)), (5, .pointer (some ⟨b_more, 0, none⟩)), (8, .pointer (some ⟨b34, 0, none⟩))] ∧ SlR 0 3 1 (iE .i64) F1 a44 n48 c45 out4 Lb46) ?_ ?_
   · clear r51
     refine shW_block ?_
     refine wsr (om rfl rfl ?_)
     refine ov (v_makeFunc rfl rfl) rfl ?_
     obtain ⟨ok, h52, r53⟩ := b1_ok h50; clear h50
     refine o_callT (Lt := [(b34, .cells #[.int .i64 i] 3 (0, 0))]) (Lr := (b_out, .cells #[.slice a28 n32 c29] 28 (0, 0)) :: (Lb30 ++ [])) rfl Tryz.call59 rfl rfl rfl (pR) (fun F2 h2 h3 => by exact hear_every_int_w (h_l.mono (iE_ok _) h2) (show FnR Tryz.prog F2 60 #[] #[.pointer (some ⟨b_q, 0, none⟩), .pointer (some ⟨b34, 0, none⟩)] (iE .i64) Value.bool (fun xx_ : Int => hear_Apart_1_1 xx_ ears count i) from ⟨Tryz.call60, fun F3 h4 vs xx_ r ha hr => by obtain rfl := ha; exact hear_Apart_1_1_w ((h2.trans h4) _ _ hb_q) (h_ears.mono (arE_ok (n := 30) (sz := 1) cB_ok) (h2.trans h4)) (h_count.mono (h2.trans h4)) (h4 _ _ (h3 (b34, .cells #[.int .i64 i] 3 (0, 0)) (List.mem_cons_self ..))) hr⟩) h52) ?_
     refine shO_nil ?_
     refine shW_cond rfl (fun c54 => ?_) (fun c54 => ?_)
     · have r55 := bt r53 c54; clear r53
       refine shW_drawM [(.still, 0), (.still, 1), (.still, 3), (.pre, 4), (.still, 6), (.still, 7), (.seq, 2), (.alloc (.cells #[.int .i64 i] 3 (0, 0)) (fun b => .slice (some ⟨b, 0, none⟩) 1 1) [(29, .int .i64 i)], 4), (.seq, 5), (.seq, 8)] (by kernel_rfl) (by kernel_rfl) (⟨⟨_, _, rfl, rfl, rfl, rfl, rfl, mk_build rfl (buildSlice_all slt_28 [.int .i64 i] rfl (by decide) (by simp [Value.cells]) (by decide))⟩, trivial⟩) (by rfl) (by kernel_rfl) ?_
       refine shM_v (v := .func (.func 57) #[] #[.pointer (some ⟨b_out, 0, none⟩), .pointer (some ⟨b_own, 0, none⟩), .pointer (some ⟨b_q, 0, none⟩), .pointer (some ⟨b_more, 0, none⟩)]) (ek := [(5, .pointer (some ⟨b_more, 0, none⟩))]) (Ls := []) rfl rfl rfl rfl ((sc rfl (sn _))) (by kernel_rfl) sm (fun H F' L' hF' hL' => v_load Tryz.isAgg96 rfl ((Has.frozen hb_more).ext hF' hL') rfl) ?_
       refine shM_v (v := .slice l_a l.length l_c) (ek := [(0, .slice l_a l.length l_c)]) (Ls := []) rfl rfl rfl rfl ((sc rfl (sn _))) (by kernel_rfl) sm (fun H F' L' hF' hL' => v_move rfl) ?_
       refine shM_v (v := .int .i64 i) (ek := [(8, .pointer (some ⟨b34, 0, none⟩))]) (Ls := [(b34, .cells #[.int .i64 i] 3 (0, 0))]) rfl rfl rfl rfl ((sc rfl (sn _))) (by kernel_rfl) (s0 (s2 (s1 (s3 sr)))) (fun H F' L' hF' hL' => v_load Tryz.isAgg3 rfl ((Has.own 0 rfl).ext hF' hL') rfl) ?_
       refine ⟨⟨_, rfl, (sc rfl (sn _)), by kernel_rfl⟩, ?_⟩
       refine shM_v (v := .int .i64 i) (ek := [(8, .pointer (some ⟨b34, 0, none⟩))]) (Ls := [(b34, .cells #[.int .i64 i] 3 (0, 0))]) rfl rfl rfl rfl ((sc rfl (sn _))) (by kernel_rfl) (s0 (s2 (s1 (s3 sr)))) (fun H F' L' hF' hL' => v_load Tryz.isAgg3 rfl ((Has.own 0 rfl).ext hF' hL') rfl) ?_
       obtain ⟨g56, r57⟩ := gd_ok r55; clear r55
       refine shM_v (v := .int .i64 (i + 1)) (ek := [(32, .int .i64 i)]) (Ls := []) rfl rfl rfl rfl ((sc rfl (sn _))) (by kernel_rfl) sm (fun H F' L' hF' hL' => v_add rfl rfl g56) ?_
       refine ⟨_, [(27, .slice l_a l.length l_c)], rfl, rfl, (sc rfl (sn _)), by kernel_rfl, ?_⟩; intro H
       obtain ⟨l3, h58, r59⟩ := b1_ok r57; clear r57
       refine o_call0 rfl Tryz.call58 rfl rfl rfl (slices_Clone_int_int_w h_l h58) ?_; rintro _ F60 _ hF61 hn62 ⟨a64, n68, c65, Lb66, rfl, rfl, hz67⟩
       replace h_own := h_own.mono (iE_ok _) hF61
       replace h_ears := h_ears.mono (arE_ok (n := 30) (sz := 1) cB_ok) hF61
       replace h_count := h_count.mono hF61
       replace hz31 := hz31.mono (iE_ok _) hF61
       replace hb_own := hF61 _ _ hb_own
       replace hb_q := hF61 _ _ hb_q
       replace hb_more := hF61 _ _ hb_more
       replace hz67 := hz67.new fun p hp => hn62 p (by simp [hp])
       refine shO_L (lp (ln rfl)) ?_
       refine kO (kf (fS fO) (kf (fS fO) kr)) ?_
       refine shO_nil ⟨_, rfl, hF61, [7, 6, 3, 0], by kernel_rfl, .inl (.inr (fun d h => by cases h; rfl)), (List.forall_mem_cons.2 ⟨sm, (List.forall_mem_cons.2 ⟨s0 (s2 (s1 (s3 (s3 sr)))), (List.forall_mem_cons.2 ⟨s0 (s2 (s1 (s3 (s3 sr)))), (List.forall_mem_cons.2 ⟨sm, (fun _ h => absurd h List.not_mem_nil)⟩)⟩)⟩)⟩), ?_⟩
       refine shM_bs rfl ?_; intro b70 hb70
       refine shM_L (L' := (b70, .cells #[.int .i64 i] 3 (0, 0)) :: ((b34, .cells #[.int .i64 i] 3 (0, 0)) :: ((b_out, .cells #[.slice a28 n32 c29] 28 (0, 0)) :: (Lb66 ++ (Lb30 ++ []))))) rfl ?_
       refine ⟨_, [(28, .slice a64 n68 c65), (30, .slice (some ⟨b70, 0, none⟩) 1 1)], rfl, rfl, (sc rfl (sc rfl (sn _))), by kernel_rfl, ?_⟩; intro H
       obtain ⟨l4, h71, g72, r73⟩ := ap_ok r59; clear r59
       refine o_appZ (xs := l3) (ys := [i]) (zs := l4) rfl slt_28 rfl rfl (Nat.le_refl _) (fun _ => .c (.c (.c .h))) hz67 (SrcR.box (vss := [[.int .i64 i]]) (ys := [i]) 0 rfl (iE_ok _) (.cons rfl .nil) rfl rfl) h71 g72 (by decide) ?_; intro a74 n78 c75 Lb76 hz77
       refine kO (kd kr) ?_
       refine shO_nil ⟨_, rfl, FExt.refl _, [7, 6, 0], by kernel_rfl, .inl (.inr (fun d h => by cases h; rfl)), (List.forall_mem_cons.2 ⟨sm, (List.forall_mem_cons.2 ⟨s0 (s2 (s1 (s3 (s3 sr)))), (List.forall_mem_cons.2 ⟨sm, (fun _ h => absurd h List.not_mem_nil)⟩)⟩)⟩), ?_⟩
       refine ⟨_, [(26, .func (.func 57) #[] #[.pointer (some ⟨b_out, 0, none⟩), .pointer (some ⟨b_own, 0, none⟩), .pointer (some ⟨b_q, 0, none⟩), .pointer (some ⟨b_more, 0, none⟩)]), (31, .slice a74 n78 c75), (33, .int .i64 (i + 1))], rfl, rfl, (sc rfl (sc rfl (sc rfl (sn _)))), by kernel_rfl, ?_⟩; intro H
       obtain rfl := (SlR.caps hz77).1
       refine shO_freezeR (Nat.le_refl _) (iE_ok _) (fC (fC fP)) hz77 ?_; intro F80 hF81 h82
       replace h_own := h_own.mono (iE_ok _) hF81
       replace h_ears := h_ears.mono (arE_ok (n := 30) (sz := 1) cB_ok) hF81
       replace h_count := h_count.mono hF81
       replace hz31 := hz31.mono (iE_ok _) hF81
       replace hb_own := hF81 _ _ hb_own
       replace hb_q := hF81 _ _ hb_q
       replace hb_more := hF81 _ _ hb_more
       obtain ⟨out5, h83, r84⟩ := b1_ok r73; clear r73
       refine o_callG (Lb := (b_out, .cells #[.slice a28 n32 c29] 28 (0, 0)) :: (Lb30 ++ [])) (Lr := [(b34, .cells #[.int .i64 i] 3 (0, 0))]) rfl Tryz.call57 rfl rfl rfl (pT ((fC fO).trans (pC ((fC fP).trans (pA pR)))) (lb (lp (ln rfl)))) (hrec h82 hz31 hb_own h_own hb_q h_ears h_count hb_more h83) ?_; rintro _ F85 _ hF86 hd88 hn87 ⟨a90, n94, c91, Lb92, rfl, rfl, hz93⟩
       refine shO_L (lb (lp (ln rfl))) ?_
       refine kO (kc (kf (fS fO) kr)) ?_
       refine shO_nil ⟨_, rfl, (hF81.trans hF86), [], by kernel_rfl, .inl (.inl rfl), (fun _ h => absurd h List.not_mem_nil), ?_⟩
       refine shM_nil ?_
       refine inBlock_n (id := 1) ?_
       obtain rfl := inj1 r84
       exact mi kr ⟨a90, n94, c91, Lb92, ((hF61.trans hF81).trans hF86), rfl, (sc rfl (sc rfl (sc rfl (sc rfl (sc rfl (sn _)))))), hz93⟩
     have r95 := bf r53 c54; clear r53
     refine shW_skip (inBlock_n (id := 1) ?_)
     obtain rfl := inj1 r95
     exact mi (kf (fC fO) kr) ⟨a28, n32, c29, Lb30, FExt.refl _, rfl, (sc rfl (sc rfl (sc rfl (sc rfl (sc rfl (sn _)))))), hz31⟩
   rintro e1 F97 _ ⟨a44, n48, c45, Lb46, hF98, rfl, he96, hz47⟩
   refine shW_env _ he96 ?_; clear he96
   refine shW_seq (wsr ?_)
   refine ov (v_load Tryz.isAgg3 rfl (Has.own 1 rfl) rfl) rfl ?_
   refine shO_nil (shW_region ?_)
   refine o_alloc rfl Tryz.zeroValue3 ?_; intro b99 hb99
   refine o_store (i := 0) Tryz.sizeOf3 rfl rfl rfl rfl (Nat.le_of_ble_eq_true rfl) ?_
   refine shO_L (L' := (b99, .cells #[.int .i64 i] 3 (0, 0)) :: ((b_out, .cells #[.slice a44 n48 c45] 28 (0, 0)) :: ((b34, .cells #[.int .i64 i] 3 (0, 0)) :: (Lb46 ++ [])))) rfl ?_
   refine shO_nil (shW_region ?_)
   refine ov (v_load Tryz.isAgg3 rfl (Has.own 0 rfl) rfl) rfl ?_
   obtain ⟨g100, r101⟩ := gd_ok r51; clear r51
   refine ov (v_add rfl rfl g100) rfl ?_
   refine o_store (i := 0) Tryz.sizeOf3 rfl rfl rfl rfl (Nat.le_of_ble_eq_true rfl) ?_
   refine shO_L (L' := (b99, .cells #[.int .i64 (i + 1)] 3 (0, 0)) :: ((b_out, .cells #[.slice a44 n48 c45] 28 (0, 0)) :: ((b34, .cells #[.int .i64 i] 3 (0, 0)) :: (Lb46 ++ [])))) rfl ?_
   refine shO_nil ?_
   exact le (kc (kc (kd kr))) ⟨out4, i + 1, a44, n48, c45, Lb46, b99, r101, (hF41.trans hF98), rfl, (sc rfl (sc rfl (sc rfl (sc rfl (sc rfl (sn _)))))), hz47, hb99⟩
 have r102 := ite_f r38 c42; clear r38
 refine shW_exit (andThen_exit (andThen_exit ?_))
 refine inBlock_exit ?_
 refine q_end0s (.inr rfl) Tryz.results57 (s1 (s2 (s4 sr))) ?_
 obtain rfl := inj1 r102
 exact ⟨_, _, _, _, rfl, rfl, hz31.any⟩
set_option maxHeartbeats 1000000 in
theorem hear_Apart_1_w : ∀ (fu : Nat) {l_a : Option Addr} {l_c : Nat} {l : List Int} {from_ : Int} {b_out : Nat} {out_a : Option Addr} {out_n : Nat} {out_c : Nat} {out_L : LH} {out : List Int} {b_own : Nat} {own_a : Option Addr} {own_c : Nat} {own : List Int} {mb_own : Nat × Nat} {b_q : Nat} {ears_a : Option Addr} {ears_c : Nat} {ears : List (List Bool)} {count_f : FuncId} {count_1 : Array Value} {count_2 : Array Value} {count : Int → Option Int} {mb_q : Nat × Nat} {b_more : Nat} {mb_more : Nat × Nat} {F : FS} (_ : RowR 1 (iE .i64) F l_a l_c l) (_ : SlR 0 3 1 (iE .i64) F out_a out_n out_c out out_L) (_ : F b_own = some (.cells #[.slice own_a own.length own_c] 28 mb_own)) (_ : RowR 1 (iE .i64) F own_a own_c own) (_ : F b_q = some (.cells #[.slice ears_a ears.length ears_c, .func (.func count_f) count_1 count_2] 75 mb_q)) (_ : RowR 30 (arE 30 cB) F ears_a ears_c ears) (_ : FnR Tryz.prog F count_f count_1 count_2 (iE .i64) (Value.int .i64) count) (_ : F b_more = some (.cells (#[.func (.func 57) #[] #[.pointer (some ⟨b_out, 0, none⟩), .pointer (some ⟨b_own, 0, none⟩), .pointer (some ⟨b_q, 0, none⟩), .pointer (some ⟨b_more, 0, none⟩)]]) 96 mb_more)) {r : List Int} , hear_Apart_1 fu l from_ out own ears count = some r → SH.Spec Tryz.prog 57 #[.slice l_a l.length l_c, .int .i64 from_, .pointer (some ⟨b_out, 0, none⟩), .pointer (some ⟨b_own, 0, none⟩), .pointer (some ⟨b_q, 0, none⟩), .pointer (some ⟨b_more, 0, none⟩)] F ((b_out, .cells #[.slice out_a out_n out_c] 28 (0, 0)) :: (out_L ++ [])) fun F' L' v => ∃ (ra : Option Addr) (rn : Nat) (rc : Nat) (rL : LH), v = .tuple #[] ∧ L' = (b_out, .cells #[.slice ra rn rc] 28 (0, 0)) :: (rL ++ []) ∧ SlR 0 3 1 (iE .i64) F' ra rn rc r rL := by
  intro fu
  induction fu with
  | zero => intros; rename_i hr; rw [hear_Apart_1] at hr; cases hr
  | succ fu ih => intros; rename_i hr; rw [hear_Apart_1] at hr; exact hear_Apart_1B_w ih (by assumption) (by assumption) (by assumption) (by assumption) (by assumption) (by assumption) (by assumption) (by assumption) hr
set_option maxHeartbeats 1000000 in
theorem hear_Apart_w {wide : Int} {plots_a : Option Addr} {plots_c : Nat} {plots : List Int} {wind : Int} {voice : Int} {houses_a : Option Addr} {houses_c : Nat} {houses : List Int} {F : FS} (h_plots : RowR 1 (iE .i64) F plots_a plots_c plots) (h_houses : RowR 1 (iE .i64) F houses_a houses_c houses) {r : List Int} {r2 : Int} (hr : hear_Apart wide plots wind voice houses = some (r, r2)) :
    SH.Spec Tryz.prog 15 #[.agg #[.int .i64 wide, .slice plots_a plots.length plots_c], .agg #[.int .i64 wind, .int .i64 voice], .slice houses_a houses.length houses_c] F [] fun F' L' v => ∃ (ra : Option Addr) (rn : Nat) (rc : Nat) (rL : LH), v = .tuple #[.slice ra rn rc, .int .i64 r2] ∧ L' = rL ++ [] ∧ SlR 0 3 1 (iE .i64) F' ra rn rc r rL := by
 refine spec_of_shW (args := [.agg #[.int .i64 wide, .slice plots_a plots.length plots_c], .agg #[.int .i64 wind, .int .i64 voice], .slice houses_a houses.length houses_c]) Tryz.func15 rfl Tryz.ntmps15 (Nat.le_of_ble_eq_true rfl) ?_
 intro K _ _; rw [hear_Apart] at hr
 refine wsr ?_
 refine o_box rfl rfl ?_; intro b1 hb1
 refine o_box rfl rfl ?_; intro b2 hb2
 refine oa rfl rfl (oa rfl rfl (nsr (om rfl rfl ?_)))
 obtain ⟨y, h3, r4⟩ := b1_ok hr; clear hr
 refine o_call0 rfl Tryz.call56 rfl rfl rfl (slices_Values_int_int_w h_houses h3) ?_; rintro _ F5 _ hF6 hn7 ⟨cp9, rfl, rfl, hit10⟩
 replace h_plots := h_plots.mono (iE_ok _) hF6
 replace h_houses := h_houses.mono (iE_ok _) hF6
 refine shO_L (ln rfl) ?_
 obtain ⟨l, h11, r12⟩ := b1_ok r4; clear r4
 refine o_call0 rfl Tryz.call55 rfl rfl rfl (slices_Sorted_int_w Tryz.call100 hit10 h11) ?_; rintro _ F13 _ hF14 hn15 ⟨a17, n21, c18, Lb19, rfl, rfl, hz20⟩
 replace h_plots := h_plots.mono (iE_ok _) hF14
 replace h_houses := h_houses.mono (iE_ok _) hF14
 replace hz20 := hz20.new fun p hp => hn15 p (by simp [hp])
 refine shO_L (lp (ln rfl)) ?_
 refine kO (kf (fS fO) (kf (fS fO) kr)) ?_
 refine o_alloc rfl Tryz.zeroValue28 ?_; intro b23 hb23
 refine o_store (i := 0) Tryz.sizeOf28 rfl rfl rfl rfl (Nat.le_of_ble_eq_true rfl) ?_
 refine shO_L (L' := (b23, .cells #[.slice a17 n21 c18] 28 (0, 0)) :: ((b2, .cells #[.int .i64 wind, .int .i64 voice] 27 (0, 0)) :: ((b1, .cells #[.int .i64 wide, .slice plots_a plots.length plots_c] 24 (0, 0)) :: (Lb19 ++ [])))) rfl ?_
 refine nsr ?_
 refine ov (v_loadA (cs := #[.int .i64 wide, .slice plots_a plots.length plots_c]) Tryz.isAgg24 Tryz.sizeOf24 rfl (Has.own 2 rfl) (Nat.le_of_ble_eq_true rfl) rfl) rfl ?_
 refine ov (v_loadA (cs := #[.int .i64 wind, .int .i64 voice]) Tryz.isAgg27 Tryz.sizeOf27 rfl (Has.own 1 rfl) (Nat.le_of_ble_eq_true rfl) rfl) rfl ?_
 refine om rfl rfl ?_
 obtain ⟨l2, y2, n, h24, r25⟩ := b3_ok r12; clear r12
 refine o_call0 rfl Tryz.call40 rfl rfl rfl (hear_asked_w h_plots h_houses h24) ?_; rintro _ F26 _ hF27 hn28 ⟨a30, n34, c31, Lb32, v36, rfl, rfl, hz33, hp37⟩
 replace h_plots := h_plots.mono (iE_ok _) hF27
 replace hz20 := hz20.mono (iE_ok _) hF27
 refine shO_L (lp (ln rfl)) ?_
 refine kO (kf (fS fO) (kf (fS fO) (kf (fS fO) kr))) ?_
 refine om rfl rfl (ox rfl rfl rfl (ox rfl rfl rfl ?_))
 refine o_alloc rfl Tryz.zeroValue75 ?_; intro b38 hb38
 refine o_storeA (i := 0) Tryz.sizeOf75 rfl rfl rfl (List.forall_mem_cons.2 ⟨rfl, (List.forall_mem_cons.2 ⟨hp37.1, (fun _ h => absurd h List.not_mem_nil)⟩)⟩) rfl (Nat.le_of_ble_eq_true rfl) ?_
 refine shO_L (L' := (b38, .cells #[.slice a30 n34 c31, v36] 75 (0, 0)) :: ((b23, .cells #[.slice a17 n21 c18] 28 (0, 0)) :: ((b2, .cells #[.int .i64 wind, .int .i64 voice] 27 (0, 0)) :: ((b1, .cells #[.int .i64 wide, .slice plots_a plots.length plots_c] 24 (0, 0)) :: (Lb32 ++ (Lb19 ++ [])))))) rfl ?_
 refine oa rfl rfl (shO_nil (shW_seq (wsr (om rfl rfl ?_))))
 refine ov (v_neq rfl rfl) rfl ?_
 refine shO_nil ?_
 refine shW_condP rfl (fun c39 => ?_) (fun c39 => ?_)
 · have r40 := ite_t r25 c39; clear r25
   refine wsr (om rfl rfl (oa rfl rfl (oa rfl rfl (shO_nil ?_))))
   refine kW kn ?_
   refine shW_ret (andThen_ret ?_)
   refine q_res2 Tryz.results15 (res_tmp rfl) (res_tmp rfl) (sr) ?_
   obtain ⟨rfl, rfl⟩ := inj2 r40
   exact ⟨_, _, _, [], rfl, rfl, SlR.nil _ _ _ _ _⟩
 have r41 := ite_f r25 c39; clear r25
 refine shW_skip (wsr ?_)
 refine ov (v_loadA (cs := #[.int .i64 wide, .slice plots_a plots.length plots_c]) Tryz.isAgg24 Tryz.sizeOf24 rfl (Has.own 3 rfl) (Nat.le_of_ble_eq_true rfl) rfl) rfl ?_
 refine ov (v_loadA (cs := #[.int .i64 wind, .int .i64 voice]) Tryz.isAgg27 Tryz.sizeOf27 rfl (Has.own 2 rfl) (Nat.le_of_ble_eq_true rfl) rfl) rfl ?_
 refine ov (v_load Tryz.isAgg28 rfl (Has.own 1 rfl) rfl) rfl ?_
 obtain ⟨l3, y3, n2, h42, r43⟩ := b3_ok r41; clear r41
 refine o_callTO (Lb := []) (Lt := Lb19 ++ []) (Lr := (b38, .cells #[.slice a30 n34 c31, v36] 75 (0, 0)) :: ((b23, .cells #[.slice a17 n21 c18] 28 (0, 0)) :: ((b2, .cells #[.int .i64 wind, .int .i64 voice] 27 (0, 0)) :: ((b1, .cells #[.int .i64 wide, .slice plots_a plots.length plots_c] 24 (0, 0)) :: (Lb32 ++ []))))) rfl Tryz.call40 rfl rfl rfl (pT ((fC (fC (fC (fC (fS fP))))).trans (pA pR)) (ln (lp (ln rfl)))) (fun F2 h2 h3 => by rw [(SlR.caps hz20).1]; exact hear_asked_w (h_plots.mono (iE_ok _) h2) (hz20.row (iE_ok _) h2 (fun p hp => h3 p (List.mem_append_left _ hp))) h42) (fun _ _ _ _ hq => by obtain ⟨a48, n52, c49, Lb50, v54, rfl, rfl, hz51, hp55⟩ := hq; exact ⟨_, _, _, _, _, rfl, rfl, hz51.flat (fun _ _ h => h), hp55⟩) ?_; rintro _ F44 _ hF45 hd47 hn46 ⟨a48, n52, c49, Lb50, v54, rfl, rfl, hz51, hp55⟩
 replace hz20 := hz20.mono (iE_ok _) hF45
 have hn56 := newp (Lb' := []) (by rfl) hd47 hn46
 replace hz51 := hz51.new fun p hp => hn56 p (by simp [hp])
 refine shO_L (lp (ln (lp (ln rfl)))) ?_
 refine kO (kf (fS (fS fO)) (kf (fS (fS fO)) (kf (fS (fS fO)) (kf (fS (fS fO)) kr)))) ?_
 refine om rfl rfl (ox rfl rfl rfl (ox rfl rfl rfl ?_))
 refine o_storeA (i := 0) Tryz.sizeOf75 rfl rfl rfl (List.forall_mem_cons.2 ⟨rfl, (List.forall_mem_cons.2 ⟨hp55.1, (fun _ h => absurd h List.not_mem_nil)⟩)⟩) rfl (Nat.le_of_ble_eq_true rfl) ?_
 refine shO_L (L' := (b38, .cells #[.slice a48 n52 c49, v54] 75 (0, 0)) :: ((b23, .cells #[.slice a17 n21 c18] 28 (0, 0)) :: ((b2, .cells #[.int .i64 wind, .int .i64 voice] 27 (0, 0)) :: ((b1, .cells #[.int .i64 wide, .slice plots_a plots.length plots_c] 24 (0, 0)) :: (Lb50 ++ (Lb19 ++ (Lb32 ++ []))))))) rfl ?_
 refine nsr ?_
 refine o_alloc rfl Tryz.zeroValue28 ?_; intro b57 hb57
 refine nsr ?_
 refine o_alloc rfl Tryz.zeroValue96 ?_; intro b58 hb58
 refine nsr ?_
 refine ov (v_makeFunc rfl rfl) rfl ?_
 refine o_store (i := 0) Tryz.sizeOf96 rfl rfl rfl rfl (Nat.le_of_ble_eq_true rfl) ?_
 refine shO_L (L' := (b58, .cells (#[.func (.func 57) #[] #[.pointer (some ⟨b57, 0, none⟩), .pointer (some ⟨b23, 0, none⟩), .pointer (some ⟨b38, 0, none⟩), .pointer (some ⟨b58, 0, none⟩)]]) 96 (0, 0)) :: ((b57, .cells #[.slice none 0 0] 28 (0, 0)) :: ((b38, .cells #[.slice a48 n52 c49, v54] 75 (0, 0)) :: ((b23, .cells #[.slice a17 n21 c18] 28 (0, 0)) :: ((b2, .cells #[.int .i64 wind, .int .i64 voice] 27 (0, 0)) :: ((b1, .cells #[.int .i64 wide, .slice plots_a plots.length plots_c] 24 (0, 0)) :: (Lb50 ++ (Lb19 ++ (Lb32 ++ []))))))))) rfl ?_
 refine nsr ?_
 refine ov (v_load Tryz.isAgg96 rfl (Has.own 0 rfl) rfl) rfl ?_
 obtain rfl := (SlR.caps hz20).1
 refine shO_freezeR (Nat.le_refl _) (iE_ok _) (fC (fC (fC (fC (fC (fC (fS fP))))))) hz20 ?_; intro F59 hF60 h61
 replace hz51 := hz51.mono (arE_ok (n := 30) (sz := 1) cB_ok) hF60
 refine shO_freeze 3 rfl hb23 ?_; intro F62 hF63 hz64
 refine shO_L (L' := (b58, .cells (#[.func (.func 57) #[] #[.pointer (some ⟨b57, 0, none⟩), .pointer (some ⟨b23, 0, none⟩), .pointer (some ⟨b38, 0, none⟩), .pointer (some ⟨b58, 0, none⟩)]]) 96 (0, 0)) :: ((b57, .cells #[.slice none 0 0] 28 (0, 0)) :: ((b38, .cells #[.slice a48 n52 c49, v54] 75 (0, 0)) :: ((b2, .cells #[.int .i64 wind, .int .i64 voice] 27 (0, 0)) :: ((b1, .cells #[.int .i64 wide, .slice plots_a plots.length plots_c] 24 (0, 0)) :: (Lb50 ++ (Lb32 ++ []))))))) rfl ?_
 replace h61 := h61.mono (iE_ok _) hF63
 replace hz51 := hz51.mono (arE_ok (n := 30) (sz := 1) cB_ok) hF63
 obtain rfl := (SlR.caps hz51).1
 refine shO_freezeR (Nat.le_refl _) (arE_ok (n := 30) (sz := 1) cB_ok) (fC (fC (fC (fC (fC fP))))) hz51 ?_; intro F65 hF66 h67
 replace h61 := h61.mono (iE_ok _) hF66
 replace hz64 := hF66 _ _ hz64
 refine shO_freeze 2 rfl hb38 ?_; intro F68 hF69 hz70
 refine shO_L (L' := (b58, .cells (#[.func (.func 57) #[] #[.pointer (some ⟨b57, 0, none⟩), .pointer (some ⟨b23, 0, none⟩), .pointer (some ⟨b38, 0, none⟩), .pointer (some ⟨b58, 0, none⟩)]]) 96 (0, 0)) :: ((b57, .cells #[.slice none 0 0] 28 (0, 0)) :: ((b2, .cells #[.int .i64 wind, .int .i64 voice] 27 (0, 0)) :: ((b1, .cells #[.int .i64 wide, .slice plots_a plots.length plots_c] 24 (0, 0)) :: (Lb32 ++ []))))) rfl ?_
 replace h61 := h61.mono (iE_ok _) hF69
 replace h67 := h67.mono (arE_ok (n := 30) (sz := 1) cB_ok) hF69
 replace hz64 := hF69 _ _ hz64
 obtain ⟨g71, r72⟩ := gd_ok r43; clear r43
 obtain rfl := hp55.2 g71
 have hn73 : FnR Tryz.prog F68 88 #[] #[] (iE .i64) (Value.int .i64) (fun xx_ : Int => hear_ones xx_) := ⟨Tryz.call88, fun F2 h2 vs xx_ r ha hr => by obtain rfl := ha; exact hear_ones_w hr⟩
 refine shO_freeze 0 rfl hb58 ?_; intro F74 hF75 hz76
 refine shO_L (L' := (b57, .cells #[.slice none 0 0] 28 (0, 0)) :: ((b2, .cells #[.int .i64 wind, .int .i64 voice] 27 (0, 0)) :: ((b1, .cells #[.int .i64 wide, .slice plots_a plots.length plots_c] 24 (0, 0)) :: (Lb32 ++ [])))) rfl ?_
 replace h61 := h61.mono (iE_ok _) hF75
 replace h67 := h67.mono (arE_ok (n := 30) (sz := 1) cB_ok) hF75
 replace hn73 := hn73.mono hF75
 replace hz64 := hF75 _ _ hz64
 replace hz70 := hF75 _ _ hz70
 obtain ⟨out, h77, r78⟩ := b1_ok r72; clear r72
 refine o_callG (Lb := [(b57, .cells #[.slice none 0 0] 28 (0, 0))]) (Lr := (b2, .cells #[.int .i64 wind, .int .i64 voice] 27 (0, 0)) :: ((b1, .cells #[.int .i64 wide, .slice plots_a plots.length plots_c] 24 (0, 0)) :: (Lb32 ++ []))) rfl Tryz.call57 rfl rfl rfl (pR) ((hear_Apart_1_w FU) (RowR.nil _ _ _) (SlR.nil 0 _ _ _ _) hz64 h61 hz70 h67 hn73 hz76 h77) ?_; rintro _ F79 _ hF80 hd82 hn81 ⟨a84, n88, c85, Lb86, rfl, rfl, hz87⟩
 replace h61 := h61.mono (iE_ok _) hF80
 replace hz64 := hF80 _ _ hz64
 refine shO_L (lb (lp (ln rfl))) ?_
 refine kO (kc (kf (fS fO) (kf (fS fO) kr))) ?_
 refine shO_nil ?_
 obtain ⟨out2, h91, r92⟩ := b1_ok r78; clear r78
 refine shW_join (fun e1 F1 L1 => ∃ (Lb89 : LH), F79 = F1 ∧ L1 = ((b57, .cells #[.slice a84 n88 c85] 28 (0, 0)) :: (Lb89 ++ [])) ∧ e1.sub [(11, .pointer (some ⟨b57, 0, none⟩))] ∧ SlR 0 3 1 (iE .i64) F1 a84 n88 c85 out2 Lb89) ?_ ?_
 · clear r92
   refine wsr ?_
   refine ov (v_load Tryz.isAgg28 rfl (Has.own 0 rfl) rfl) rfl ?_
   refine ov ((v_lenS Tryz.underlying28 rfl).i (SlR.lenI hz87)) rfl ?_
   refine om rfl rfl (shO_nil ?_)
   refine shW_block ?_
   refine kW (kc (kd (kd (ka kn)))) ?_
   obtain ⟨g95, r96⟩ := gd_ok h91; clear h91
   refine shW_lp (fun fu1 e1 F1 L1 => ∃ (k : Int), Ctr 0 (out.length : Int) k fu1 ∧ ∃ (out3 : List Int) (Lb93 : LH), hear_Apart_l1 l fu1 k out3 = some out2 ∧ F79 = F1 ∧ L1 = ((b57, .cells #[.slice a84 n88 c85] 28 (0, 0)) :: (Lb93 ++ [])) ∧ e1.sub [(8, .pointer (some ⟨b23, 0, none⟩)), (11, .pointer (some ⟨b57, 0, none⟩)), (38, .slice a84 n88 c85), (39, .int .i64 (out.length : Int)), (40, .int .i64 k)] ∧ SlR 0 3 1 (iE .i64) F1 a84 n88 c85 out3 Lb93) _ (m0 kr ⟨_, Ctr.start _ _, out, Lb86, r96, rfl, rfl, (sc rfl (sc rfl (sc rfl (sc rfl (sc rfl (sn _)))))), hz87⟩) ?_
   rintro fu1 e1 _ _ ⟨k, hk97, out3, Lb93, r99, rfl, rfl, he100, hz94⟩
   refine shW_env _ he100 ?_; clear he100
   refine wsr ?_
   refine ov (v_lssK rfl rfl) rfl ?_
   refine shO_nil (shW_seq ?_)
   refine shW_condP rfl (fun c102 => ?_) (fun c102 => ?_)
   · obtain ⟨fu1, rfl, hk103⟩ := Ctr.succ hk97 c102
     rw [hear_Apart_l1] at r99
     refine shW_skip (shW_seq ?_)
     refine shW_block ?_
     refine wsr (om rfl rfl ?_)
     obtain ⟨x, g104, hx105, r106⟩ := ix_ok r99; clear r99
     obtain ⟨b107, o108, c109, vs110, ha111, hs112, hle113, rfl, hl114, hc115⟩ := SlR.at (iE_ok _) hz94 (L := (b57, .cells #[.slice a84 n88 c85] 28 (0, 0)) :: (Lb93 ++ [])) (fC fP) g104.1 hx105
     refine ov (v_indexO Tryz.underlying28 Tryz.sizeOf3 rfl ha111 rfl (SlR.idx hz94 g104)) rfl ?_
     refine ov (v_load Tryz.isAgg3 rfl hs112 (hc115 0 (by decide))) rfl ?_
     refine oa rfl rfl (oa rfl rfl (shO_nil ?_))
     refine shW_drawM [(.still, 0), (.still, 1), (.still, 2), (.still, 3), (.still, 4), (.still, 5), (.still, 6), (.seq, 7)] (by kernel_rfl) (by kernel_rfl) (trivial) (by rfl) (by kernel_rfl) ?_
     refine shM_v (v := .slice a84 n88 c85) (ek := [(11, .pointer (some ⟨b57, 0, none⟩))]) (Ls := [(b57, .cells #[.slice a84 n88 c85] 28 (0, 0))]) rfl rfl rfl rfl ((sc rfl (sn _))) (by kernel_rfl) (s0 (s2 (s3 sr))) (fun H F' L' hF' hL' => v_load Tryz.isAgg28 rfl ((Has.own 0 rfl).ext hF' hL') rfl) ?_
     refine shM_v (v := .int .i64 k) (ek := [(13, .int .i64 k)]) (Ls := []) rfl rfl rfl rfl ((sc rfl (sn _))) (by kernel_rfl) sm (fun H F' L' hF' hL' => v_move rfl) ?_
     refine shM_v (v := .slice a17 l.length c18) (ek := [(8, .pointer (some ⟨b23, 0, none⟩))]) (Ls := []) rfl rfl rfl rfl ((sc rfl (sn _))) (by kernel_rfl) sm (fun H F' L' hF' hL' => v_load Tryz.isAgg28 rfl ((Has.frozen hz64).ext hF' hL') rfl) ?_
     refine shM_v (v := .int .i64 x) (ek := [(14, .int .i64 x)]) (Ls := []) rfl rfl rfl rfl ((sc rfl (sn _))) (by kernel_rfl) sm (fun H F' L' hF' hL' => v_move rfl) ?_
     obtain ⟨x2, g116, hx117, r118⟩ := ix_ok r106; clear r106
     obtain ⟨b119, o120, c121, vs122, ha123, hs124, hle125, rfl, hl126, hc127⟩ := RowR.at (iE_ok _) h61 ([]) g116.1 hx117
     refine shM_v (v := .pointer (some ⟨b119, o120 + (x : Int).toNat * 1, none⟩)) (ek := [(47, .slice a17 l.length c18), (48, .int .i64 x)]) (Ls := []) rfl rfl rfl rfl ((sc rfl (sc rfl (sn _)))) (by kernel_rfl) sm (fun H F' L' hF' hL' => v_indexO Tryz.underlying28 Tryz.sizeOf3 rfl ha123 rfl g116) ?_
     refine shM_v (v := .int .i64 x2) (ek := [(49, .pointer (some ⟨b119, o120 + (x : Int).toNat * 1, none⟩))]) (Ls := []) rfl rfl rfl rfl ((sc rfl (sn _))) (by kernel_rfl) sm (fun H F' L' hF' hL' => v_load Tryz.isAgg3 rfl (hs124.ext hF' hL') (hc127 0 (by decide))) ?_
     obtain ⟨b128, o129, c130, vs131, ha132, hs133, hle134, rfl, hl135, hc136⟩ := SlR.at (iE_ok _) hz94 (L := Lb93 ++ []) fP g104.1 hx105
     refine shM_v (v := .pointer (some ⟨b128, o129 + (k : Int).toNat * 1, none⟩)) (ek := [(45, .slice a84 n88 c85), (46, .int .i64 k)]) (Ls := []) rfl rfl rfl rfl ((sc rfl (sc rfl (sn _)))) (by kernel_rfl) sm (fun H F' L' hF' hL' => v_indexO Tryz.underlying28 Tryz.sizeOf3 rfl ha132 rfl (SlR.idx hz94 g104)) ?_
     refine ⟨_, [(50, .int .i64 x2), (51, .pointer (some ⟨b128, o129 + (k : Int).toNat * 1, none⟩))], rfl, rfl, (sc rfl (sc rfl (sn _))), by kernel_rfl, ?_⟩; intro H
     obtain ⟨l4, h137, r138⟩ := bv_ok r118; clear r118
     refine o_storeZ (u := x2) Tryz.sizeOf3 (iE_ok _) rfl ha132 rfl rfl (fun _ => .c .h) hz94 h137 g104 ?_; intro Lb139 hz140
     refine shO_nil ⟨undef, rfl, FExt.refl _, [], by kernel_rfl, .inl (.inl rfl), (fun _ h => absurd h List.not_mem_nil), ?_⟩
     refine shM_nil ?_
     refine inBlock_n (id := 1) (shW_region ?_)
     refine ov (v_add rfl rfl (Ctr.r64 hk97 c102 g95)) rfl ?_
     refine om rfl rfl (shO_nil ?_)
     exact le kr ⟨_, hk103, l4, Lb139, r138, rfl, rfl, (sc rfl (sc rfl (sc rfl (sc rfl (sc rfl (sn _)))))), hz140⟩
   obtain rfl := Ctr.zero hk97 c102
   rw [hear_Apart_l1] at r99
   refine shW_exit (andThen_exit (andThen_exit ?_))
   refine inBlock_exit ?_
   obtain rfl := inj1 r99
   exact mi kr ⟨Lb93, rfl, rfl, (sc rfl (sn _)), hz94⟩
 rintro e1 _ _ ⟨Lb89, rfl, rfl, he141, hz90⟩
 refine shW_env _ he141 ?_; clear he141
 refine wsr ?_
 refine ov (v_load Tryz.isAgg28 rfl (Has.own 0 rfl) rfl) rfl ?_
 refine oa rfl rfl (oa rfl rfl (shO_nil ?_))
 refine kW (kd kr) ?_
 refine shW_ret ?_
 refine q_res2 Tryz.results15 (res_tmp rfl) (res_tmp rfl) (sr) ?_
 obtain ⟨rfl, rfl⟩ := inj2 r92
 exact ⟨_, _, _, _, rfl, rfl, hz90.any⟩
set_option maxHeartbeats 1000000 in
theorem oyezkit_Hang_w {metal_a : Option Addr} {metal_c : Nat} {metal : List Int} {F : FS} (h_metal : RowR 1 (iE .u8) F metal_a metal_c metal) {r : List Int} {r2 : Int} {r3 : Int} (hr : oyezkit_Hang metal = some (r, r2, r3)) :
    SH.Spec Tryz.prog 18 #[.slice metal_a metal.length metal_c] F [] fun F' L' v => ∃ (rb : Nat) (ra : Option Addr) (rc : Nat), v = .pointer (some ⟨rb, 0, none⟩) ∧ L' = [(rb, .cells #[.slice ra r.length rc, .int .i64 r2, .int .u32 r3] 101 (0, 0))] ∧ RowR 1 (iE .u8) F' ra rc r := by
 refine spec_of_shW (args := [.slice metal_a metal.length metal_c]) Tryz.func18 rfl Tryz.ntmps18 (Nat.le_of_ble_eq_true rfl) ?_
 intro K _ _; rw [oyezkit_Hang] at hr
 refine wsr (oa rfl rfl (nsr (om rfl rfl ?_)))
 refine ov (v_build (v := .agg #[.slice metal_a metal.length metal_c, .int .i64 0, .int .u32 0]) rfl (by intro w; kernel_rfl)) rfl ?_
 refine o_box rfl rfl ?_; intro b1 hb1
 refine oa rfl rfl (shO_nil (shW_ret ?_))
 refine q_res1 Tryz.results18 (res_tmp rfl) (sr) ?_
 obtain ⟨rfl, rfl, rfl⟩ := inj3 hr
 exact ⟨_, _, _, rfl, rfl, h_metal⟩
set_option maxHeartbeats 1000000 in
theorem oyezkit_Bell_ring_w {b_b : Nat} {metal_a : Option Addr} {metal_c : Nat} {metal : List Int} {at_ : Int} {turn : Int} {F : FS} (h_metal : RowR 1 (iE .u8) F metal_a metal_c metal) {r : Int} {r2 : Int} {r3 : Int} (hr : oyezkit_Bell_ring metal at_ turn = some (r, r2, r3)) :
    SH.Spec Tryz.prog 103 #[.pointer (some ⟨b_b, 0, none⟩)] F [(b_b, .cells #[.slice metal_a metal.length metal_c, .int .i64 at_, .int .u32 turn] 101 (0, 0))] fun _ L' v => v = .int .i64 r ∧ L' = [(b_b, .cells #[.slice metal_a metal.length metal_c, .int .i64 r2, .int .u32 r3] 101 (0, 0))] := by
 refine spec_of_shW (args := [.pointer (some ⟨b_b, 0, none⟩)]) Tryz.func103 rfl Tryz.ntmps103 (Nat.le_of_ble_eq_true rfl) ?_
 intro K _ _; rw [oyezkit_Bell_ring] at hr
 refine wsr (oa rfl rfl (shO_nil ?_))
 obtain ⟨b_at, b_turn, h1, r4⟩ := b2_ok hr; clear hr
 refine shW_join (fun e1 F1 L1 => F = F1 ∧ L1 = [(b_b, .cells #[.slice metal_a metal.length metal_c, .int .i64 b_at, .int .u32 b_turn] 101 (0, 0))] ∧ e1.sub [(0, .pointer (some ⟨b_b, 0, none⟩))]) ?_ ?_
 · clear r4
   refine wsd (by kernel_rfl) (by kernel_rfl) (by kernel_rfl) ?_
   refine qm rfl rfl ?_
   refine qv (v_nilCheck rfl) rfl ?_
   refine qv (v_fieldAddr fa_101_1 rfl) rfl ?_
   refine qv (v_load Tryz.isAgg3 rfl (Has.own 0 rfl) rfl) rfl ?_
   refine qm rfl rfl ?_
   refine qv (v_nilCheck rfl) rfl ?_
   refine qv (v_fieldAddr fa_101_0 rfl) rfl ?_
   refine qv (v_load Tryz.isAgg43 rfl (Has.own 0 rfl) rfl) rfl ?_
   refine qv (v_lenS Tryz.underlying43 rfl) rfl ?_
   refine qv (v_eql rfl rfl) rfl ?_
   refine shQ_nil ?_
   refine shW_condP rfl (fun c5 => ?_) (fun c5 => ?_)
   · have r6 := ite_t h1 c5; clear h1
     refine shW_region (om rfl rfl (om rfl rfl (om rfl rfl ?_)))
     refine ov (v_nilCheck rfl) rfl ?_
     refine ov (v_fieldAddr fa_101_2 rfl) rfl ?_
     refine ov (v_load Tryz.isAgg99 rfl (Has.own 0 rfl) rfl) rfl ?_
     refine ov (u_add rfl rfl rfl) rfl ?_
     refine ov (v_nilCheck rfl) rfl ?_
     refine ov (v_fieldAddr fa_101_1 rfl) rfl ?_
     refine o_store (i := 0) Tryz.sizeOf3 rfl rfl rfl rfl (Nat.le_of_ble_eq_true rfl) ?_
     refine shO_L (L' := [(b_b, .cells #[.slice metal_a metal.length metal_c, .int .i64 0, .int .u32 turn] 101 (0, 0))]) rfl ?_
     refine ov (v_nilCheck rfl) rfl ?_
     refine ov (v_fieldAddr fa_101_2 rfl) rfl ?_
     refine o_store (i := 0) Tryz.sizeOf99 rfl rfl rfl rfl (Nat.le_of_ble_eq_true rfl) ?_
     refine shO_L (L' := [(b_b, .cells #[.slice metal_a metal.length metal_c, .int .i64 0, .int .u32 ((turn + 1) % 4294967296)] 101 (0, 0))]) rfl ?_
     refine shO_nil ?_
     obtain ⟨rfl, rfl⟩ := inj2 r6
     exact mi kr ⟨rfl, rfl, (sc rfl (sn _))⟩
   have r7 := ite_f h1 c5; clear h1
   refine shW_skip ?_
   obtain ⟨rfl, rfl⟩ := inj2 r7
   exact mi kr ⟨rfl, rfl, (sc rfl (sn _))⟩
 rintro e1 _ _ ⟨rfl, rfl, he8⟩
 refine shW_env _ he8 ?_; clear he8
 refine wsr (om rfl rfl ?_)
 refine ov (v_nilCheck rfl) rfl ?_
 refine ov (v_fieldAddr fa_101_2 rfl) rfl ?_
 refine ov (v_load Tryz.isAgg99 rfl (Has.own 0 rfl) rfl) rfl ?_
 refine ov (u_mul rfl rfl rfl) rfl ?_
 obtain ⟨n, h9, r10⟩ := bv_ok r4; clear r4
 refine ov ((v_assign rfl).i h9) rfl ?_
 refine shO_nil ?_
 obtain ⟨n2, b_at2, h11, r12⟩ := b2_ok r10; clear r10
 refine shW_join (fun e1 F1 L1 => F = F1 ∧ L1 = [(b_b, .cells #[.slice metal_a metal.length metal_c, .int .i64 b_at2, .int .u32 b_turn] 101 (0, 0))] ∧ e1.sub [(3, .int .u32 n2)]) ?_ ?_
 · clear r12
   refine wsr (om rfl rfl ?_)
   refine ov (v_nilCheck rfl) rfl ?_
   refine ov (v_fieldAddr fa_101_0 rfl) rfl ?_
   refine ov (v_load Tryz.isAgg43 rfl (Has.own 0 rfl) rfl) rfl ?_
   refine ov (v_lenS Tryz.underlying43 rfl) rfl ?_
   refine ov (v_gtrK rfl rfl) rfl ?_
   refine shO_nil ?_
   refine shW_condP rfl (fun c13 => ?_) (fun c13 => ?_)
   · have r14 := ite_t h11 c13; clear h11
     refine wsd (by kernel_rfl) (by kernel_rfl) (by kernel_rfl) ?_
     refine qm rfl rfl (qm rfl rfl ?_)
     refine qv (v_nilCheck rfl) rfl ?_
     refine qv (v_fieldAddr fa_101_0 rfl) rfl ?_
     refine qv (v_load Tryz.isAgg43 rfl (Has.own 0 rfl) rfl) rfl ?_
     refine qm rfl rfl ?_
     refine qv (v_nilCheck rfl) rfl ?_
     refine qv (v_fieldAddr fa_101_1 rfl) rfl ?_
     refine qv (v_load Tryz.isAgg3 rfl (Has.own 0 rfl) rfl) rfl ?_
     obtain ⟨x, g15, hx16, r17⟩ := ix_ok r14; clear r14
     obtain ⟨b18, o19, c20, vs21, ha22, hs23, hle24, rfl, hl25, hc26⟩ := RowR.at (iE_ok _) h_metal ([(b_b, .cells #[.slice metal_a metal.length metal_c, .int .i64 b_at, .int .u32 b_turn] 101 (0, 0))]) g15.1 hx16
     refine qv (v_indexO Tryz.underlying43 Tryz.sizeOf5 rfl ha22 rfl g15) rfl ?_
     refine qv (v_load Tryz.isAgg5 rfl hs23 (hc26 0 (by decide))) rfl ?_
     refine qv (u_conv rfl Tryz.underlying5 Tryz.underlying99 rfl) rfl ?_
     refine qv (u_mul rfl rfl rfl) rfl ?_
     refine qv (u_add rfl rfl rfl) rfl ?_
     obtain ⟨n3, h27, r28⟩ := bv_ok r17; clear r17
     refine qv ((v_assign rfl).i h27) rfl ?_
     refine shQ_nil (shW_region (om rfl rfl ?_))
     refine ov (v_nilCheck rfl) rfl ?_
     refine ov (v_fieldAddr fa_101_1 rfl) rfl ?_
     refine ov (v_load Tryz.isAgg3 rfl (Has.own 0 rfl) rfl) rfl ?_
     obtain ⟨g29, r30⟩ := gd_ok r28; clear r28
     refine ov (v_add rfl rfl g29) rfl ?_
     refine ov (v_nilCheck rfl) rfl ?_
     refine ov (v_fieldAddr fa_101_1 rfl) rfl ?_
     refine o_store (i := 0) Tryz.sizeOf3 rfl rfl rfl rfl (Nat.le_of_ble_eq_true rfl) ?_
     refine shO_L (L' := [(b_b, .cells #[.slice metal_a metal.length metal_c, .int .i64 (b_at + 1), .int .u32 b_turn] 101 (0, 0))]) rfl ?_
     refine shO_nil ?_
     obtain ⟨rfl, rfl⟩ := inj2 r30
     exact mi kr ⟨rfl, rfl, (sc rfl (sn _))⟩
   have r31 := ite_f h11 c13; clear h11
   refine shW_skip ?_
   obtain ⟨rfl, rfl⟩ := inj2 r31
   exact mi kr ⟨rfl, rfl, (sc rfl (sn _))⟩
 rintro e1 _ _ ⟨rfl, rfl, he32⟩
 refine shW_env _ he32 ?_; clear he32
 refine wsr (om rfl rfl (om rfl rfl ?_))
 refine ov (v_shr rfl rfl (by decide)) rfl ?_
 refine ov (u_xor rfl rfl rfl) rfl ?_
 refine ov (u_and rfl rfl rfl) rfl ?_
 obtain ⟨g33, r34⟩ := gd_ok r12; clear r12
 refine ov (i_conv Tryz.underlying99 Tryz.underlying3 rfl g33) rfl ?_
 refine oa rfl rfl (shO_nil (shW_ret ?_))
 refine q_res1 Tryz.results103 (res_tmp rfl) (sr) ?_
 obtain ⟨rfl, rfl, rfl⟩ := inj3 r34
 exact ⟨rfl, rfl⟩
set_option maxHeartbeats 1000000 in
theorem oyezkit_Bell_Stroke_w {b_b : Nat} {metal_a : Option Addr} {metal_c : Nat} {metal : List Int} {at_ : Int} {turn : Int} {n : Int} {F : FS} (h_metal : RowR 1 (iE .u8) F metal_a metal_c metal) {r : Int} {r2 : Int} {r3 : Int} (hr : oyezkit_Bell_Stroke metal at_ turn n = some (r, r2, r3)) :
    SH.Spec Tryz.prog 66 #[.pointer (some ⟨b_b, 0, none⟩), .int .i64 n] F [(b_b, .cells #[.slice metal_a metal.length metal_c, .int .i64 at_, .int .u32 turn] 101 (0, 0))] fun _ L' v => v = .int .i64 r ∧ L' = [(b_b, .cells #[.slice metal_a metal.length metal_c, .int .i64 r2, .int .u32 r3] 101 (0, 0))] := by
 refine spec_of_shW (args := [.pointer (some ⟨b_b, 0, none⟩), .int .i64 n]) Tryz.func66 rfl Tryz.ntmps66 (Nat.le_of_ble_eq_true rfl) ?_
 intro K _ _; rw [oyezkit_Bell_Stroke] at hr
 refine wsr (oa rfl rfl (nsr (om rfl rfl ?_)))
 obtain ⟨n2, at_2, turn2, h1, r4⟩ := b3_ok hr; clear hr
 refine o_callG (Lb := [(b_b, .cells #[.slice metal_a metal.length metal_c, .int .i64 at_, .int .u32 turn] 101 (0, 0))]) (Lr := []) rfl Tryz.call103 rfl rfl rfl (pR) (oyezkit_Bell_ring_w h_metal h1) ?_; rintro _ F5 _ hF6 hd8 hn7 ⟨rfl, rfl⟩
 refine shO_L (lb (ln rfl)) ?_
 refine om rfl rfl ?_
 obtain ⟨g9, r10⟩ := gd_ok r4; clear r4
 refine ov (v_add rfl rfl g9) rfl ?_
 refine ov (v_max2 rfl rfl) rfl ?_
 obtain ⟨g11, r12⟩ := gd_ok r10; clear r10
 refine ov (v_remT rfl rfl g11) rfl ?_
 refine oa rfl rfl (shO_nil (shW_ret ?_))
 refine q_res1 Tryz.results66 (res_tmp rfl) (sr) ?_
 obtain ⟨rfl, rfl, rfl⟩ := inj3 r12
 exact ⟨rfl, rfl⟩
set_option maxHeartbeats 1000000 in
theorem oyezkit_Bell_Strike_w {b_b : Nat} {metal_a : Option Addr} {metal_c : Nat} {metal : List Int} {at_ : Int} {turn : Int} {lo : Int} {hi : Int} {F : FS} (h_metal : RowR 1 (iE .u8) F metal_a metal_c metal) {r : Int} {r2 : Int} {r3 : Int} (hr : oyezkit_Bell_Strike metal at_ turn lo hi = some (r, r2, r3)) :
    SH.Spec Tryz.prog 65 #[.pointer (some ⟨b_b, 0, none⟩), .int .i64 lo, .int .i64 hi] F [(b_b, .cells #[.slice metal_a metal.length metal_c, .int .i64 at_, .int .u32 turn] 101 (0, 0))] fun _ L' v => v = .int .i64 r ∧ L' = [(b_b, .cells #[.slice metal_a metal.length metal_c, .int .i64 r2, .int .u32 r3] 101 (0, 0))] := by
 refine spec_of_shW (args := [.pointer (some ⟨b_b, 0, none⟩), .int .i64 lo, .int .i64 hi]) Tryz.func65 rfl Tryz.ntmps65 (Nat.le_of_ble_eq_true rfl) ?_
 intro K _ _; rw [oyezkit_Bell_Strike] at hr
 refine wsr (oa rfl rfl (nsr (om rfl rfl (om rfl rfl (om rfl rfl (om rfl rfl ?_))))))
 obtain ⟨g1, r4⟩ := gd_ok hr; clear hr
 refine ov (v_sub rfl rfl g1) rfl ?_
 obtain ⟨n, at_2, turn2, h5, r6⟩ := b3_ok r4; clear r4
 refine o_callG (Lb := [(b_b, .cells #[.slice metal_a metal.length metal_c, .int .i64 at_, .int .u32 turn] 101 (0, 0))]) (Lr := []) rfl Tryz.call66 rfl rfl rfl (pR) (oyezkit_Bell_Stroke_w h_metal h5) ?_; rintro _ F7 _ hF8 hd10 hn9 ⟨rfl, rfl⟩
 refine shO_L (lb (ln rfl)) ?_
 obtain ⟨g11, r12⟩ := gd_ok r6; clear r6
 refine ov (v_add rfl rfl g11) rfl ?_
 refine oa rfl rfl (shO_nil (shW_ret ?_))
 refine q_res1 Tryz.results65 (res_tmp rfl) (sr) ?_
 obtain ⟨rfl, rfl, rfl⟩ := inj3 r12
 exact ⟨rfl, rfl⟩
set_option maxHeartbeats 1000000 in
theorem oyezlaw01_Made_w {b_b : Nat} {metal_a : Option Addr} {metal_c : Nat} {metal : List Int} {at_ : Int} {turn : Int} {plots : Int} {F : FS} (h_metal : RowR 1 (iE .u8) F metal_a metal_c metal) {r : Int} {r2 : List Int} {r3 : Int} {r4 : Int} (hr : oyezlaw01_Made metal at_ turn plots = some (r, r2, r3, r4)) :
    SH.Spec Tryz.prog 19 #[.pointer (some ⟨b_b, 0, none⟩), .int .i64 plots] F [(b_b, .cells #[.slice metal_a metal.length metal_c, .int .i64 at_, .int .u32 turn] 101 (0, 0))] fun F' L' v => ∃ (r2a : Option Addr) (r2n : Nat) (r2c : Nat) (r2L : LH), v = .agg #[.int .i64 r, .slice r2a r2n r2c] ∧ L' = (b_b, .cells #[.slice metal_a metal.length metal_c, .int .i64 r3, .int .u32 r4] 101 (0, 0)) :: (r2L ++ []) ∧ SlR 0 61 1 (iE .i64) F' r2a r2n r2c r2 r2L := by
 refine spec_of_shW (args := [.pointer (some ⟨b_b, 0, none⟩), .int .i64 plots]) Tryz.func19 rfl Tryz.ntmps19 (Nat.le_of_ble_eq_true rfl) ?_
 intro K _ _; rw [oyezlaw01_Made] at hr
 refine wsr ?_
 refine o_alloc rfl Tryz.zeroValue24 ?_; intro b1 hb1
 refine nsr (om rfl rfl ?_)
 obtain ⟨n, at_2, turn2, h2, r5⟩ := b3_ok hr; clear hr
 refine o_callG (Lb := [(b_b, .cells #[.slice metal_a metal.length metal_c, .int .i64 at_, .int .u32 turn] 101 (0, 0))]) (Lr := [(b1, .cells #[.int .i64 0, .slice none 0 0] 24 (0, 0))]) rfl Tryz.call65 rfl rfl rfl (((fC fO).trans (pC pR))) (oyezkit_Bell_Strike_w h_metal h2) ?_; rintro _ F6 _ hF7 hd9 hn8 ⟨rfl, rfl⟩
 replace h_metal := h_metal.mono (iE_ok _) hF7
 refine shO_L (lb (ln rfl)) ?_
 refine ov (v_build (v := .agg #[.int .i64 n, .slice none 0 0]) rfl (by intro w; kernel_rfl)) rfl ?_
 refine o_alloc rfl Tryz.zeroValue24 ?_; intro b10 hb10
 refine o_storeA (i := 0) Tryz.sizeOf24 rfl rfl rfl (by simp [Value.oneCell']) rfl (Nat.le_of_ble_eq_true rfl) ?_
 refine shO_L (L' := [(b10, .cells #[.int .i64 n, .slice none 0 0] 24 (0, 0)), (b_b, .cells #[.slice metal_a metal.length metal_c, .int .i64 at_2, .int .u32 turn2] 101 (0, 0)), (b1, .cells #[.int .i64 0, .slice none 0 0] 24 (0, 0))]) rfl ?_
 refine nsr (om rfl rfl (om rfl rfl ?_))
 refine ov (v_fieldAddr fa_24_0 rfl) rfl ?_
 refine ov (v_load Tryz.isAgg3 rfl (Has.own 0 rfl) rfl) rfl ?_
 obtain ⟨g11, r12⟩ := gd_ok r5; clear r5
 refine ov (v_quoT rfl rfl g11) rfl ?_
 refine ov (v_max2 rfl rfl) rfl ?_
 obtain ⟨n2, at_3, turn3, h13, r14⟩ := b3_ok r12; clear r12
 refine o_callG (Lb := [(b_b, .cells #[.slice metal_a metal.length metal_c, .int .i64 at_2, .int .u32 turn2] 101 (0, 0))]) (Lr := [(b10, .cells #[.int .i64 n, .slice none 0 0] 24 (0, 0)), (b1, .cells #[.int .i64 0, .slice none 0 0] 24 (0, 0))]) rfl Tryz.call65 rfl rfl rfl (((fC fO).trans (pC pR))) (oyezkit_Bell_Strike_w h_metal h13) ?_; rintro _ F15 _ hF16 hd18 hn17 ⟨rfl, rfl⟩
 replace h_metal := h_metal.mono (iE_ok _) hF16
 refine shO_L (lb (ln rfl)) ?_
 refine oa rfl rfl (nsr (oa rfl rfl (shO_nil ?_)))
 obtain ⟨b_at, b_turn, t_plots, h25, r26⟩ := b3_ok r14; clear r14
 refine shW_join (fun e1 F1 L1 => ∃ (a19 : Option Addr) (n23 : Nat) (c20 : Nat) (Lb21 : LH), FExt F15 F1 ∧ L1 = ((b_b, .cells #[.slice metal_a metal.length metal_c, .int .i64 b_at, .int .u32 b_turn] 101 (0, 0)) :: ((b10, .cells #[.int .i64 n, .slice a19 n23 c20] 24 (0, 0)) :: ((b1, .cells #[.int .i64 0, .slice none 0 0] 24 (0, 0)) :: (Lb21 ++ [])))) ∧ e1.sub [(0, .pointer (some ⟨b_b, 0, none⟩)), (4, .pointer (some ⟨b1, 0, none⟩)), (5, .pointer (some ⟨b10, 0, none⟩))] ∧ SlR K.w0.heap.size 61 1 (iE .i64) F1 a19 n23 c20 t_plots Lb21) ?_ ?_
 · clear r26
   refine wsr (om rfl rfl ?_)
   refine ov (v_fieldAddr fa_24_0 rfl) rfl ?_
   refine ov (v_load Tryz.isAgg3 rfl (Has.own 1 rfl) rfl) rfl ?_
   obtain ⟨g27, r28⟩ := gd_ok h25; clear h25
   refine ov (v_mul rfl rfl g27) rfl ?_
   refine om rfl rfl (shO_nil ?_)
   refine shW_block ?_
   obtain ⟨g35, r36⟩ := gd_ok r28; clear r28
   refine shW_lp (fun fu1 e1 F1 L1 => ∃ (k : Int), Ctr 0 (n2 * n) k fu1 ∧ ∃ (b_at2 : Int) (b_turn2 : Int) (t_plots2 : List Int) (left_ : Int) (a29 : Option Addr) (n33 : Nat) (c30 : Nat) (Lb31 : LH), oyezlaw01_Made_l1 metal fu1 b_at2 b_turn2 t_plots2 left_ = some (b_at, b_turn, t_plots) ∧ FExt F15 F1 ∧ L1 = ((b_b, .cells #[.slice metal_a metal.length metal_c, .int .i64 b_at2, .int .u32 b_turn2] 101 (0, 0)) :: ((b10, .cells #[.int .i64 n, .slice a29 n33 c30] 24 (0, 0)) :: ((b1, .cells #[.int .i64 0, .slice none 0 0] 24 (0, 0)) :: (Lb31 ++ [])))) ∧ e1.sub [(0, .pointer (some ⟨b_b, 0, none⟩)), (4, .pointer (some ⟨b1, 0, none⟩)), (5, .pointer (some ⟨b10, 0, none⟩)), (7, .int .i64 left_), (22, .int .i64 (n2 * n)), (23, .int .i64 k)] ∧ SlR K.w0.heap.size 61 1 (iE .i64) F1 a29 n33 c30 t_plots2 Lb31) _ (m0 (kc (kc (kc (ke kr)))) ⟨_, Ctr.start _ _, at_3, turn3, [], 10, none, 0, 0, [], r36, FExt.refl _, rfl, (sc rfl (sc rfl (sc rfl (sc rfl (sc rfl (sc rfl (sn _))))))), SlR.nil _ _ _ _ _⟩) ?_
   rintro fu1 e1 F41 _ ⟨k, hk37, b_at2, b_turn2, t_plots2, left_, a29, n33, c30, Lb31, r39, hF42, rfl, he40, hz32⟩
   refine shW_env _ he40 ?_; clear he40
   replace h_metal := h_metal.mono (iE_ok _) hF42
   refine wsr ?_
   refine ov (v_lssK rfl rfl) rfl ?_
   refine shO_nil (shW_seq ?_)
   refine shW_condP rfl (fun c44 => ?_) (fun c44 => ?_)
   · obtain ⟨fu1, rfl, hk45⟩ := Ctr.succ hk37 c44
     rw [oyezlaw01_Made_l1] at r39
     refine shW_skip (shW_seq ?_)
     refine shW_block ?_
     refine wsr ?_
     refine o_buildSlice (cs := #[.int .i64 0, .int .i64 0, .int .i64 0, .int .i64 1, .int .i64 1, .int .i64 2]) rfl rfl (buildSlice_all slt_28 [.int .i64 0, .int .i64 0, .int .i64 0, .int .i64 1, .int .i64 1, .int .i64 2] rfl (by decide) (by simp [Value.cells]) (by decide)) ?_; intro b46 hb46
     refine om rfl rfl ?_
     obtain ⟨n3, at_4, turn4, h47, r48⟩ := b3_ok r39; clear r39
     refine o_callG (Lb := [(b_b, .cells #[.slice metal_a metal.length metal_c, .int .i64 b_at2, .int .u32 b_turn2] 101 (0, 0))]) (Lr := (b46, .cells #[.int .i64 0, .int .i64 0, .int .i64 0, .int .i64 1, .int .i64 1, .int .i64 2] 3 (0, 0)) :: ((b10, .cells #[.int .i64 n, .slice a29 n33 c30] 24 (0, 0)) :: ((b1, .cells #[.int .i64 0, .slice none 0 0] 24 (0, 0)) :: (Lb31 ++ [])))) rfl Tryz.call66 rfl rfl rfl (((fC fO).trans (pC pR))) (oyezkit_Bell_Stroke_w h_metal h47) ?_; rintro _ F49 _ hF50 hd52 hn51 ⟨rfl, rfl⟩
     replace hz32 := hz32.mono (iE_ok _) hF50
     refine shO_L (lb (ln rfl)) ?_
     refine shO_freeze 1 rfl hb46 ?_; intro F53 hF54 hz55
     refine shO_L (L' := (b_b, .cells #[.slice metal_a metal.length metal_c, .int .i64 at_4, .int .u32 turn4] 101 (0, 0)) :: ((b10, .cells #[.int .i64 n, .slice a29 n33 c30] 24 (0, 0)) :: ((b1, .cells #[.int .i64 0, .slice none 0 0] 24 (0, 0)) :: (Lb31 ++ [])))) rfl ?_
     replace hz32 := hz32.mono (iE_ok _) hF54
     have h56 : RowR 1 (iE .i64) F53 (some ⟨b46, 0, none⟩) 6 [0, 0, 0, 1, 1, 2] := RowR.of_block (iE_ok _) (vss := [[.int .i64 0], [.int .i64 0], [.int .i64 0], [.int .i64 1], [.int .i64 1], [.int .i64 2]]) (xs := [0, 0, 0, 1, 1, 2]) hz55 (.cons rfl (.cons rfl (.cons rfl (.cons rfl (.cons rfl (.cons rfl .nil)))))) rfl (by simp [maxLen])
     obtain ⟨x, g57, hx58, r59⟩ := ix_ok r48; clear r48
     obtain ⟨b60, o61, c62, vs63, ha64, hs65, hle66, rfl, hl67, hc68⟩ := RowR.at (iE_ok _) h56 ((b_b, .cells #[.slice metal_a metal.length metal_c, .int .i64 at_4, .int .u32 turn4] 101 (0, 0)) :: ((b10, .cells #[.int .i64 n, .slice a29 n33 c30] 24 (0, 0)) :: ((b1, .cells #[.int .i64 0, .slice none 0 0] 24 (0, 0)) :: (Lb31 ++ [])))) g57.1 hx58
     refine ov (v_indexO Tryz.underlying28 Tryz.sizeOf3 rfl ha64 rfl g57) rfl ?_
     refine ov (v_load Tryz.isAgg3 rfl hs65 (hc68 0 (by decide))) rfl ?_
     refine oa rfl rfl (shO_nil ?_)
     obtain ⟨left_2, p, h69, r70⟩ := b2_ok r59; clear r59
     refine shW_join (fun e1 F1 L1 => F53 = F1 ∧ L1 = ((b_b, .cells #[.slice metal_a metal.length metal_c, .int .i64 at_4, .int .u32 turn4] 101 (0, 0)) :: ((b10, .cells #[.int .i64 n, .slice a29 n33 c30] 24 (0, 0)) :: ((b1, .cells #[.int .i64 0, .slice none 0 0] 24 (0, 0)) :: (Lb31 ++ [])))) ∧ e1.sub [(0, .pointer (some ⟨b_b, 0, none⟩)), (4, .pointer (some ⟨b1, 0, none⟩)), (5, .pointer (some ⟨b10, 0, none⟩)), (7, .int .i64 left_2), (8, .int .i64 p), (22, .int .i64 (n2 * n)), (23, .int .i64 k)]) ?_ ?_
     · clear r70
       refine wsr (om rfl rfl ?_)
       refine ov (v_eql rfl rfl) rfl ?_
       refine shO_nil ?_
       refine shW_condP rfl (fun c71 => ?_) (fun c71 => ?_)
       · have r72 := ite_t h69 c71; clear h69
         refine wsr (om rfl rfl ?_)
         obtain ⟨g73, r74⟩ := gd_ok r72; clear r72
         refine ov (v_sub rfl rfl g73) rfl ?_
         refine oa rfl rfl (nsr (om rfl rfl ?_))
         refine ov (v_lssK rfl rfl) rfl ?_
         refine shO_nil ?_
         refine shW_condP rfl (fun c75 => ?_) (fun c75 => ?_)
         · have r76 := ite_t r74 c75; clear r74
           refine shW_region (oa rfl rfl (shO_nil ?_))
           obtain ⟨rfl, rfl⟩ := inj2 r76
           exact mi kr ⟨rfl, rfl, (sc rfl (sc rfl (sc rfl (sc rfl (sc rfl (sc rfl (sc rfl (sn _))))))))⟩
         have r77 := ite_f r74 c75; clear r74
         refine shW_skip ?_
         obtain ⟨rfl, rfl⟩ := inj2 r77
         exact mi kr ⟨rfl, rfl, (sc rfl (sc rfl (sc rfl (sc rfl (sc rfl (sc rfl (sc rfl (sn _))))))))⟩
       have r78 := ite_f h69 c71; clear h69
       refine shW_skip ?_
       obtain ⟨rfl, rfl⟩ := inj2 r78
       exact mi kr ⟨rfl, rfl, (sc rfl (sc rfl (sc rfl (sc rfl (sc rfl (sc rfl (sc rfl (sn _))))))))⟩
     rintro e1 _ _ ⟨rfl, rfl, he79⟩
     refine shW_env _ he79 ?_; clear he79
     refine shW_region ?_
     refine ov (v_fieldAddr fa_24_1 rfl) rfl ?_
     refine ov (v_load Tryz.isAgg22 rfl (Has.own 1 rfl) rfl) rfl ?_
     refine om rfl rfl ?_
     refine o_buildSlice (cs := #[.int .i64 p]) rfl rfl (buildSlice_all slt_22 [.int .i64 p] rfl (by decide) (by simp [Value.cells]) (by decide)) ?_; intro b80 hb80
     obtain ⟨t, h81, g82, r83⟩ := ap_ok r70; clear r70
     refine o_appZ (xs := t_plots2) (ys := [p]) (zs := t) rfl slt_22 rfl rfl (Nat.le_refl _) (fun _ => .c (.c (.c (.c .h)))) hz32 (SrcR.box (vss := [[.int .i64 p]]) (ys := [p]) 0 rfl (iE_ok _) (.cons rfl .nil) rfl rfl) h81 g82 (by decide) ?_; intro a84 n88 c85 Lb86 hz87
     refine kO (kd kr) ?_
     refine ov (v_fieldAddr fa_24_1 rfl) rfl ?_
     refine o_store (i := 1) Tryz.sizeOf22 rfl rfl rfl rfl (Nat.le_of_ble_eq_true rfl) ?_
     refine shO_L (L' := (b_b, .cells #[.slice metal_a metal.length metal_c, .int .i64 at_4, .int .u32 turn4] 101 (0, 0)) :: ((b10, .cells #[.int .i64 n, .slice a84 n88 c85] 24 (0, 0)) :: ((b1, .cells #[.int .i64 0, .slice none 0 0] 24 (0, 0)) :: (Lb86 ++ [])))) rfl ?_
     refine shO_nil (inBlock_n (id := 1) (shW_region ?_))
     refine ov (v_add rfl rfl (Ctr.r64 hk37 c44 g35)) rfl ?_
     refine om rfl rfl (shO_nil ?_)
     exact le kr ⟨_, hk45, at_4, turn4, t, left_2, a84, n88, c85, Lb86, r83, ((hF42.trans hF50).trans hF54), rfl, (sc rfl (sc rfl (sc rfl (sc rfl (sc rfl (sc rfl (sn _))))))), hz87⟩
   obtain rfl := Ctr.zero hk37 c44
   rw [oyezlaw01_Made_l1] at r39
   refine shW_exit (andThen_exit (andThen_exit ?_))
   refine inBlock_exit ?_
   obtain ⟨rfl, rfl, rfl⟩ := inj3 r39
   exact mi kr ⟨a29, n33, c30, Lb31, hF42, rfl, (sc rfl (sc rfl (sc rfl (sn _)))), hz32⟩
 rintro e1 F91 _ ⟨a19, n23, c20, Lb21, hF92, rfl, he90, hz22⟩
 refine shW_env _ he90 ?_; clear he90
 replace h_metal := h_metal.mono (iE_ok _) hF92
 refine shW_seq ?_
 refine shW_drawM [(.still, 0), (.still, 1), (.still, 2), (.still, 3), (.still, 4), (.still, 5), (.still, 6), (.seq, 7), (.still, 8), (.seq, 9)] (by kernel_rfl) (by kernel_rfl) (trivial) (by rfl) (by kernel_rfl) ?_
 refine shM_v (v := .pointer (some ⟨b10, 1, none⟩)) (ek := [(5, .pointer (some ⟨b10, 0, none⟩))]) (Ls := []) rfl rfl rfl rfl ((sc rfl (sn _))) (by kernel_rfl) sm (fun H F' L' hF' hL' => v_fieldAddr fa_24_1 rfl) ?_
 refine shM_v (v := .slice a19 n23 c20) (ek := [(43, .pointer (some ⟨b10, 1, none⟩))]) (Ls := [(b10, .cells #[.int .i64 n, .slice a19 n23 c20] 24 (0, 0))]) rfl rfl rfl rfl ((sc rfl (sn _))) (by kernel_rfl) (s0 (s1 (s2 (s1 (s3 sr))))) (fun H F' L' hF' hL' => v_load Tryz.isAgg22 rfl ((Has.own 0 rfl).ext hF' hL') rfl) ?_
 refine shM_v (v := .pointer (some ⟨b_b, 0, none⟩)) (ek := [(0, .pointer (some ⟨b_b, 0, none⟩))]) (Ls := []) rfl rfl rfl rfl ((sc rfl (sn _))) (by kernel_rfl) sm (fun H F' L' hF' hL' => v_move rfl) ?_
 refine shM_v (v := .pointer (some ⟨b10, 1, none⟩)) (ek := [(5, .pointer (some ⟨b10, 0, none⟩))]) (Ls := []) rfl rfl rfl rfl ((sc rfl (sn _))) (by kernel_rfl) sm (fun H F' L' hF' hL' => v_fieldAddr fa_24_1 rfl) ?_
 refine shM_v (v := .slice a19 n23 c20) (ek := [(46, .pointer (some ⟨b10, 1, none⟩))]) (Ls := [(b10, .cells #[.int .i64 n, .slice a19 n23 c20] 24 (0, 0))]) rfl rfl rfl rfl ((sc rfl (sn _))) (by kernel_rfl) (s0 (s1 (s2 (s1 (s3 sr))))) (fun H F' L' hF' hL' => v_load Tryz.isAgg22 rfl ((Has.own 0 rfl).ext hF' hL') rfl) ?_
 refine shM_v (v := .int .i64 (t_plots.length : Int)) (ek := [(47, .slice a19 n23 c20)]) (Ls := []) rfl rfl rfl rfl ((sc rfl (sn _))) (by kernel_rfl) sm (fun H F' L' hF' hL' => (v_lenS Tryz.underlying22 rfl).i (SlR.lenI hz22)) ?_
 obtain ⟨g93, r94⟩ := gd_ok r26; clear r26
 refine shM_v (v := .int .i64 ((t_plots.length : Int) - 1)) (ek := [(48, .int .i64 (t_plots.length : Int))]) (Ls := []) rfl rfl rfl rfl ((sc rfl (sn _))) (by kernel_rfl) sm (fun H F' L' hF' hL' => v_sub rfl rfl g93) ?_
 refine ⟨_, [(45, .pointer (some ⟨b_b, 0, none⟩)), (49, .int .i64 ((t_plots.length : Int) - 1))], rfl, rfl, (sc rfl (sc rfl (sn _))), by kernel_rfl, ?_⟩; intro H
 obtain ⟨n4, at_5, turn5, h95, r96⟩ := b3_ok r94; clear r94
 refine o_callG (Lb := [(b_b, .cells #[.slice metal_a metal.length metal_c, .int .i64 b_at, .int .u32 b_turn] 101 (0, 0))]) (Lr := (b10, .cells #[.int .i64 n, .slice a19 n23 c20] 24 (0, 0)) :: ((b1, .cells #[.int .i64 0, .slice none 0 0] 24 (0, 0)) :: (Lb21 ++ []))) rfl Tryz.call66 rfl rfl rfl (pR) (oyezkit_Bell_Stroke_w h_metal h95) ?_; rintro _ F97 _ hF98 hd100 hn99 ⟨rfl, rfl⟩
 replace hz22 := hz22.mono (iE_ok _) hF98
 refine shO_L (lb (ln rfl)) ?_
 refine shO_nil ⟨_, rfl, hF98, [1, 0], by kernel_rfl, .inl (.inr (fun d h => by cases h; rfl)), (List.forall_mem_cons.2 ⟨s0 (s1 (s2 (s1 (s3 sr)))), (List.forall_mem_cons.2 ⟨sm, (fun _ h => absurd h List.not_mem_nil)⟩)⟩), ?_⟩
 obtain ⟨x2, g101, hx102, r103⟩ := ix_ok r96; clear r96
 obtain ⟨b104, o105, c106, vs107, ha108, hs109, hle110, rfl, hl111, hc112⟩ := SlR.at (iE_ok _) hz22 (L := Lb21 ++ []) fP g101.1 hx102
 refine shM_v (v := .pointer (some ⟨b104, o105 + (n4 : Int).toNat * 1, none⟩)) (ek := [(44, .slice a19 n23 c20), (50, .int .i64 n4)]) (Ls := []) rfl rfl rfl rfl ((sc rfl (sc rfl (sn _)))) (by kernel_rfl) sm (fun H F' L' hF' hL' => v_indexO Tryz.underlying22 Tryz.sizeOf61 rfl ha108 rfl (SlR.idx hz22 g101)) ?_
 refine ⟨_, [(51, .pointer (some ⟨b104, o105 + (n4 : Int).toNat * 1, none⟩))], rfl, rfl, (sc rfl (sn _)), by kernel_rfl, ?_⟩; intro H
 obtain ⟨l, h113, r114⟩ := bv_ok r103; clear r103
 refine o_storeZ (u := 0) Tryz.sizeOf61 (iE_ok _) rfl ha108 rfl rfl (fun _ => .c (.c (.c .h))) hz22 h113 g101 ?_; intro Lb115 hz116
 refine shO_nil ⟨undef, rfl, FExt.refl _, [], by kernel_rfl, .inl (.inl rfl), (fun _ h => absurd h List.not_mem_nil), ?_⟩
 refine shM_nil ?_
 refine wsr ?_
 refine ov (v_loadA (cs := #[.int .i64 n, .slice a19 n23 c20]) Tryz.isAgg24 Tryz.sizeOf24 rfl (Has.own 1 rfl) (Nat.le_of_ble_eq_true rfl) rfl) rfl ?_
 refine o_storeA (i := 2) Tryz.sizeOf24 rfl rfl rfl (by simp [Value.oneCell']) rfl (Nat.le_of_ble_eq_true rfl) ?_
 refine shO_L (L' := (b_b, .cells #[.slice metal_a metal.length metal_c, .int .i64 at_5, .int .u32 turn5] 101 (0, 0)) :: ((b10, .cells #[.int .i64 n, .slice a19 n23 c20] 24 (0, 0)) :: ((b1, .cells #[.int .i64 n, .slice a19 n23 c20] 24 (0, 0)) :: (Lb115 ++ [])))) rfl ?_
 refine shO_nil ?_
 refine kW (kf (fC (fC fO)) (kc (kd kr))) ?_
 refine shW_ret ?_
 refine q_res1 Tryz.results19 (res_cellA (cs := #[.int .i64 n, .slice a19 n23 c20]) Tryz.isAgg24 Tryz.sizeOf24 rfl (Has.own 0 rfl) (Nat.le_of_ble_eq_true rfl) rfl) (s1 (s2 (s4 sr))) ?_
 obtain ⟨rfl, rfl, rfl, rfl⟩ := inj4 r114
 exact ⟨_, _, _, _, rfl, rfl, hz116.any⟩
set_option maxHeartbeats 1000000 in
theorem oyezlaw01_Aired_w {b_b : Nat} {metal_a : Option Addr} {metal_c : Nat} {metal : List Int} {at_ : Int} {turn : Int} {F : FS} (h_metal : RowR 1 (iE .u8) F metal_a metal_c metal) {r : Int} {r2 : Int} {r3 : Int} {r4 : Int} (hr : oyezlaw01_Aired metal at_ turn = some (r, r2, r3, r4)) :
    SH.Spec Tryz.prog 20 #[.pointer (some ⟨b_b, 0, none⟩)] F [(b_b, .cells #[.slice metal_a metal.length metal_c, .int .i64 at_, .int .u32 turn] 101 (0, 0))] fun _ L' v => v = .agg #[.int .i64 r, .int .i64 r2] ∧ L' = [(b_b, .cells #[.slice metal_a metal.length metal_c, .int .i64 r3, .int .u32 r4] 101 (0, 0))] := by
 refine spec_of_shW (args := [.pointer (some ⟨b_b, 0, none⟩)]) Tryz.func20 rfl Tryz.ntmps20 (Nat.le_of_ble_eq_true rfl) ?_
 intro K _ _; rw [oyezlaw01_Aired] at hr
 refine wsr ?_
 refine o_alloc rfl Tryz.zeroValue27 ?_; intro b1 hb1
 refine nsr (om rfl rfl ?_)
 obtain ⟨n, at_2, turn2, h2, r5⟩ := b3_ok hr; clear hr
 refine o_callG (Lb := [(b_b, .cells #[.slice metal_a metal.length metal_c, .int .i64 at_, .int .u32 turn] 101 (0, 0))]) (Lr := [(b1, .cells #[.int .i64 0, .int .i64 0] 27 (0, 0))]) rfl Tryz.call66 rfl rfl rfl (((fC fO).trans (pC pR))) (oyezkit_Bell_Stroke_w h_metal h2) ?_; rintro _ F6 _ hF7 hd9 hn8 ⟨rfl, rfl⟩
 replace h_metal := h_metal.mono (iE_ok _) hF7
 refine shO_L (lb (ln rfl)) ?_
 refine om rfl rfl ?_
 obtain ⟨n2, at_3, turn3, h10, r11⟩ := b3_ok r5; clear r5
 refine o_callG (Lb := [(b_b, .cells #[.slice metal_a metal.length metal_c, .int .i64 at_2, .int .u32 turn2] 101 (0, 0))]) (Lr := [(b1, .cells #[.int .i64 0, .int .i64 0] 27 (0, 0))]) rfl Tryz.call65 rfl rfl rfl (pR) (oyezkit_Bell_Strike_w h_metal h10) ?_; rintro _ F12 _ hF13 hd15 hn14 ⟨rfl, rfl⟩
 refine shO_L (lb (ln rfl)) ?_
 refine ov (v_build (v := .agg #[.int .i64 n, .int .i64 n2]) rfl (by intro w; kernel_rfl)) rfl ?_
 refine o_storeA (i := 1) Tryz.sizeOf27 rfl rfl rfl (by simp [Value.oneCell']) rfl (Nat.le_of_ble_eq_true rfl) ?_
 refine shO_L (L' := [(b_b, .cells #[.slice metal_a metal.length metal_c, .int .i64 at_3, .int .u32 turn3] 101 (0, 0)), (b1, .cells #[.int .i64 n, .int .i64 n2] 27 (0, 0))]) rfl ?_
 refine shO_nil ?_
 refine kW (kf (fC fO) kr) ?_
 refine shW_ret ?_
 refine q_res1 Tryz.results20 (res_cellA (cs := #[.int .i64 n, .int .i64 n2]) Tryz.isAgg27 Tryz.sizeOf27 rfl (Has.own 0 rfl) (Nat.le_of_ble_eq_true rfl) rfl) (s1 (s2 sr)) ?_
 obtain ⟨rfl, rfl, rfl, rfl⟩ := inj4 r11
 exact ⟨rfl, rfl⟩
set_option maxHeartbeats 1000000 in
theorem oyezlaw01_houses_w {wide : Int} {plots_a : Option Addr} {plots_c : Nat} {plots : List Int} {F : FS} (h_plots : RowR 1 (iE .i64) F plots_a plots_c plots) {r : List Int} (hr : oyezlaw01_houses wide plots = some r) :
    SH.Spec Tryz.prog 21 #[.agg #[.int .i64 wide, .slice plots_a plots.length plots_c]] F [] fun F' L' v => ∃ (ra : Option Addr) (rn : Nat) (rc : Nat) (rL : LH), v = .slice ra rn rc ∧ L' = rL ++ [] ∧ SlR 0 3 1 (iE .i64) F' ra rn rc r rL := by
 refine spec_of_shW (args := [.agg #[.int .i64 wide, .slice plots_a plots.length plots_c]]) Tryz.func21 rfl Tryz.ntmps21 (Nat.le_of_ble_eq_true rfl) ?_
 intro K _ _; rw [oyezlaw01_houses] at hr
 refine wsr ?_
 refine o_box rfl rfl ?_; intro b1 hb1
 refine oa rfl rfl (nsr (oa rfl rfl (shO_nil ?_)))
 obtain ⟨out, h8, r9⟩ := b1_ok hr; clear hr
 refine shW_join (fun e1 F1 L1 => ∃ (a2 : Option Addr) (n6 : Nat) (c3 : Nat) (Lb4 : LH), F = F1 ∧ L1 = (Lb4 ++ []) ∧ e1.sub [(3, .slice a2 n6 c3)] ∧ SlR K.w0.heap.size 3 1 (iE .i64) F1 a2 n6 c3 out Lb4) ?_ ?_
 · clear r9
   refine wsr ?_
   refine ov (v_fieldAddr fa_24_1 rfl) rfl ?_
   refine ov (v_load Tryz.isAgg22 rfl (Has.own 0 rfl) rfl) rfl ?_
   refine ov (v_lenS Tryz.underlying22 rfl) rfl ?_
   refine om rfl rfl (shO_nil ?_)
   refine shW_block ?_
   refine kW kn ?_
   refine shW_lp (fun fu1 e1 F1 L1 => ∃ (tl : List Int) (k : Int), tl.length = fu1 ∧ Lst plots k tl ∧ ∃ (out2 : List Int) (a10 : Option Addr) (n14 : Nat) (c11 : Nat) (Lb12 : LH), oyezlaw01_houses_l1 tl k out2 = some out ∧ F = F1 ∧ L1 = (Lb12 ++ []) ∧ e1.sub [(3, .slice a10 n14 c11), (7, .slice plots_a plots.length plots_c), (8, .int .i64 (plots.length : Int)), (9, .int .i64 k)] ∧ SlR K.w0.heap.size 3 1 (iE .i64) F1 a10 n14 c11 out2 Lb12) _ (m0 (ke kr) ⟨_, _, rfl, Lst.start _, [], none, 0, 0, [], h8, rfl, rfl, (sc rfl (sc rfl (sc rfl (sc rfl (sn _))))), SlR.nil _ _ _ _ _⟩) ?_
   rintro fu1 e1 _ _ ⟨tl, k, hn17, hk16, out2, a10, n14, c11, Lb12, r18, rfl, rfl, he19, hz13⟩
   refine shW_env _ he19 ?_; clear he19
   refine wsr ?_
   refine ov (v_lssK rfl rfl) rfl ?_
   refine shO_nil (shW_seq ?_)
   refine shW_condP rfl (fun c21 => ?_) (fun c21 => ?_)
   · obtain ⟨x, tl2, rfl, hx23, g24, hk22⟩ := Lst.succ hk16 c21
     rw [oyezlaw01_houses_l1] at r18
     refine shW_skip (shW_seq ?_)
     refine shW_block ?_
     refine wsr (om rfl rfl ?_)
     obtain ⟨b25, o26, c27, vs28, ha29, hs30, hle31, rfl, hl32, hc33⟩ := RowR.at (iE_ok _) h_plots (Lb12 ++ []) g24.1 hx23
     refine ov (v_indexO Tryz.underlying22 Tryz.sizeOf61 rfl ha29 rfl g24) rfl ?_
     refine ov (v_load Tryz.isAgg61 rfl hs30 (hc33 0 (by decide))) rfl ?_
     refine oa rfl rfl (oa rfl rfl (nsr (om rfl rfl ?_)))
     refine ov (v_eql rfl rfl) rfl ?_
     refine shO_nil ?_
     refine shW_condP rfl (fun c34 => ?_) (fun c34 => ?_)
     · have r35 := ite_t r18 c34; clear r18
       refine shW_region (om rfl rfl (om rfl rfl ?_))
       refine o_buildSlice (cs := #[.int .i64 k]) rfl rfl (buildSlice_all slt_28 [.int .i64 k] rfl (by decide) (by simp [Value.cells]) (by decide)) ?_; intro b36 hb36
       obtain ⟨out3, h37, g38, r39⟩ := ap_ok r35; clear r35
       refine o_appZ (xs := out2) (ys := [k]) (zs := out3) rfl slt_28 rfl rfl (Nat.le_refl _) (fun _ => .c .h) hz13 (SrcR.box (vss := [[.int .i64 k]]) (ys := [k]) 0 rfl (iE_ok _) (.cons rfl .nil) rfl rfl) h37 g38 (by decide) ?_; intro a40 n44 c41 Lb42 hz43
       refine kO (kd kr) ?_
       refine oa rfl rfl (shO_nil (inBlock_n (id := 1) (shW_region ?_)))
       refine ov (v_add rfl rfl (Lst.r64 hk16 c21 (RowR.lt h_plots))) rfl ?_
       refine om rfl rfl (shO_nil ?_)
       subst hn17; exact le kr ⟨_, _, rfl, hk22, out3, a40, n44, c41, Lb42, r39, rfl, rfl, (sc rfl (sc rfl (sc rfl (sc rfl (sn _))))), hz43⟩
     have r46 := ite_f r18 c34; clear r18
     refine shW_skip (inBlock_n (id := 1) (shW_region ?_))
     refine ov (v_add rfl rfl (Lst.r64 hk16 c21 (RowR.lt h_plots))) rfl ?_
     refine om rfl rfl (shO_nil ?_)
     subst hn17; exact le kr ⟨_, _, rfl, hk22, out2, a10, n14, c11, Lb12, r46, rfl, rfl, (sc rfl (sc rfl (sc rfl (sc rfl (sn _))))), hz13⟩
   obtain rfl := Lst.zero hk16 c21
   rw [oyezlaw01_houses_l1] at r18
   refine shW_exit (andThen_exit (andThen_exit ?_))
   refine inBlock_exit ?_
   obtain rfl := inj1 r18
   exact mi kr ⟨a10, n14, c11, Lb12, rfl, rfl, (sc rfl (sn _)), hz13⟩
 rintro e1 _ _ ⟨a2, n6, c3, Lb4, rfl, rfl, he47, hz5⟩
 refine shW_env _ he47 ?_; clear he47
 refine wsr (om rfl rfl (oa rfl rfl (shO_nil (shW_ret ?_))))
 refine q_res1 Tryz.results21 (res_tmp rfl) (sr) ?_
 obtain rfl := inj1 r9
 exact ⟨_, _, _, _, rfl, rfl, hz5.any⟩
set_option maxHeartbeats 1000000 in
theorem hear_Deaf_w {wide : Int} {plots_a : Option Addr} {plots_c : Nat} {plots : List Int} {wind : Int} {voice : Int} {F : FS} (h_plots : RowR 1 (iE .i64) F plots_a plots_c plots) {r : List Int} {r2 : Int} (hr : hear_Deaf wide plots wind voice = some (r, r2)) :
    SH.Spec Tryz.prog 22 #[.agg #[.int .i64 wide, .slice plots_a plots.length plots_c], .agg #[.int .i64 wind, .int .i64 voice]] F [] fun F' L' v => ∃ (ra : Option Addr) (rn : Nat) (rc : Nat) (rL : LH), v = .tuple #[.slice ra rn rc, .int .i64 r2] ∧ L' = rL ++ [] ∧ SlR 0 3 1 (iE .i64) F' ra rn rc r rL := by
 refine spec_of_shW (args := [.agg #[.int .i64 wide, .slice plots_a plots.length plots_c], .agg #[.int .i64 wind, .int .i64 voice]]) Tryz.func22 rfl Tryz.ntmps22 (Nat.le_of_ble_eq_true rfl) ?_
 intro K _ _; rw [hear_Deaf] at hr
 refine wsr ?_
 refine o_box rfl rfl ?_; intro b1 hb1
 refine o_box rfl rfl ?_; intro b2 hb2
 refine oa rfl rfl (oa rfl rfl (nsr ?_))
 refine ov (v_loadA (cs := #[.int .i64 wide, .slice plots_a plots.length plots_c]) Tryz.isAgg24 Tryz.sizeOf24 rfl (Has.own 1 rfl) (Nat.le_of_ble_eq_true rfl) rfl) rfl ?_
 refine ov (v_loadA (cs := #[.int .i64 wind, .int .i64 voice]) Tryz.isAgg27 Tryz.sizeOf27 rfl (Has.own 0 rfl) (Nat.le_of_ble_eq_true rfl) rfl) rfl ?_
 obtain ⟨l, n, h3, r4⟩ := b2_ok hr; clear hr
 refine o_call0 rfl Tryz.call67 rfl rfl rfl (hear_aired_w h_plots h3) ?_; rintro _ F5 _ hF6 hn7 ⟨a9, n13, c10, Lb11, rfl, rfl, hz12⟩
 replace h_plots := h_plots.mono (iE_ok _) hF6
 replace hz12 := hz12.new fun p hp => hn7 p (by simp [hp])
 refine shO_L (lp (ln rfl)) ?_
 refine kO (kf (fS fO) (kf (fS fO) kr)) ?_
 refine om rfl rfl (ox rfl rfl rfl (ox rfl rfl rfl (oa rfl rfl (oa rfl rfl (shO_nil (shW_seq (wsr (om rfl rfl ?_))))))))
 refine ov (v_neq rfl rfl) rfl ?_
 refine shO_nil ?_
 refine shW_condP rfl (fun c15 => ?_) (fun c15 => ?_)
 · have r16 := ite_t r4 c15; clear r4
   refine wsr (om rfl rfl (oa rfl rfl (oa rfl rfl (shO_nil ?_))))
   refine kW kn ?_
   refine shW_ret (andThen_ret ?_)
   refine q_res2 Tryz.results22 (res_tmp rfl) (res_tmp rfl) (sr) ?_
   obtain ⟨rfl, rfl⟩ := inj2 r16
   exact ⟨_, _, _, [], rfl, rfl, SlR.nil _ _ _ _ _⟩
 have r17 := ite_f r4 c15; clear r4
 refine shW_skip (wsr (oa rfl rfl (shO_nil ?_)))
 obtain ⟨out, h24, r25⟩ := b1_ok r17; clear r17
 refine shW_join (fun e1 F1 L1 => ∃ (a18 : Option Addr) (n22 : Nat) (c19 : Nat) (Lb20 : LH), F5 = F1 ∧ L1 = (Lb20 ++ []) ∧ e1.sub [(8, .slice a18 n22 c19)] ∧ SlR K.w0.heap.size 3 1 (iE .i64) F1 a18 n22 c19 out Lb20) ?_ ?_
 · clear r25
   refine wsr ?_
   refine ov (v_fieldAddr fa_24_1 rfl) rfl ?_
   refine ov (v_load Tryz.isAgg22 rfl (Has.own 1 rfl) rfl) rfl ?_
   refine ov (v_lenS Tryz.underlying22 rfl) rfl ?_
   refine om rfl rfl (shO_nil ?_)
   refine shW_block ?_
   refine kW (kd (kd kr)) ?_
   refine shW_lp (fun fu1 e1 F1 L1 => ∃ (tl : List Int) (k : Int), tl.length = fu1 ∧ Lst plots k tl ∧ ∃ (out2 : List Int) (a26 : Option Addr) (n30 : Nat) (c27 : Nat) (Lb28 : LH), hear_Deaf_l1 l tl k out2 = some out ∧ F5 = F1 ∧ L1 = (Lb11 ++ (Lb28 ++ [])) ∧ e1.sub [(6, .slice a9 n13 c10), (8, .slice a26 n30 c27), (21, .slice plots_a plots.length plots_c), (22, .int .i64 (plots.length : Int)), (23, .int .i64 k)] ∧ SlR K.w0.heap.size 3 1 (iE .i64) F1 a26 n30 c27 out2 Lb28) _ (m0 (ka (ke kr)) ⟨_, _, rfl, Lst.start _, [], none, 0, 0, [], h24, rfl, rfl, (sc rfl (sc rfl (sc rfl (sc rfl (sc rfl (sn _)))))), SlR.nil _ _ _ _ _⟩) ?_
   rintro fu1 e1 _ _ ⟨tl, k, hn33, hk32, out2, a26, n30, c27, Lb28, r34, rfl, rfl, he35, hz29⟩
   refine shW_env _ he35 ?_; clear he35
   refine wsr ?_
   refine ov (v_lssK rfl rfl) rfl ?_
   refine shO_nil (shW_seq ?_)
   refine shW_condP rfl (fun c37 => ?_) (fun c37 => ?_)
   · obtain ⟨x, tl2, rfl, hx39, g40, hk38⟩ := Lst.succ hk32 c37
     rw [hear_Deaf_l1] at r34
     refine shW_skip (shW_seq ?_)
     refine shW_block ?_
     refine wsr (om rfl rfl ?_)
     obtain ⟨b41, o42, c43, vs44, ha45, hs46, hle47, rfl, hl48, hc49⟩ := RowR.at (iE_ok _) h_plots (Lb11 ++ (Lb28 ++ [])) g40.1 hx39
     refine ov (v_indexO Tryz.underlying22 Tryz.sizeOf61 rfl ha45 rfl g40) rfl ?_
     refine ov (v_load Tryz.isAgg61 rfl hs46 (hc49 0 (by decide))) rfl ?_
     refine oa rfl rfl (oa rfl rfl (shO_nil ?_))
     obtain ⟨k2, h50, r51⟩ := b1_ok r34; clear r34
     refine shW_join (fun e1 F1 L1 => F5 = F1 ∧ L1 = (Lb11 ++ (Lb28 ++ [])) ∧ e1.sub [(6, .slice a9 n13 c10), (8, .slice a26 n30 c27), (9, .int .i64 k), (21, .slice plots_a plots.length plots_c), (22, .int .i64 (plots.length : Int)), (23, .int .i64 k), (37, .bool k2)]) ?_ ?_
     · clear r51
       refine shW_region (om rfl rfl ?_)
       refine ov (v_eql rfl rfl) rfl ?_
       refine om rfl rfl ?_
       by_cases c52 : x = 1
       · have r53 := ite_t h50 c52; clear h50
         refine shO_on (b := true) 30 rfl (Env.isT rfl c52) (om rfl rfl (shO_on (b := true) 30 rfl (Env.isT rfl c52) (om rfl rfl (shO_on (b := true) 30 rfl (Env.isT rfl c52) ?_))))
         obtain ⟨x2, g54, hx55, r56⟩ := ix_ok r53; clear r53
         obtain ⟨b57, o58, c59, vs60, ha61, hs62, hle63, ⟨rfl, h66⟩, hl64, hc65⟩ := SlR.at (arE_ok (n := 30) (sz := 1) cB_ok) hz12 (L := Lb11 ++ (Lb28 ++ [])) fP g54.1 hx55
         refine ov (v_indexO Tryz.underlying72 Tryz.sizeOf80 rfl ha61 rfl (SlR.idx hz12 g54)) rfl ?_
         refine shO_on (b := true) 30 rfl (Env.isT rfl c52) ?_
         refine ov (v_loadA (cs := arr cB x2) Tryz.isAgg80 Tryz.sizeOf80 rfl hs62 hle63 (extract_cells hle63 hl64 hc65)) rfl ?_
         refine shO_on (b := true) 30 rfl (Env.isT rfl c52) ?_
         refine ov (v_build (v := .agg (arr cB (List.replicate 30 false))) rfl (by intro w; kernel_rfl)) rfl ?_
         refine shO_on (b := true) 30 rfl (Env.isT rfl c52) ?_
         refine ov (v_eqA (eqga_80 _ _ _ _) (eqa_80 h66 List.length_replicate) rfl rfl) rfl ?_
         refine ov (v_pick_t (evD_true rfl c52) rfl) rfl ?_
         refine shO_nil ?_
         obtain rfl := inj1 r56
         exact mi kr ⟨rfl, rfl, (sc rfl (sc rfl (sc rfl (sc rfl (sc rfl (sc rfl (sc rfl (sn _))))))))⟩
       have r67 := ite_f h50 c52; clear h50
       refine shO_off (b' := false) 30 rfl (Env.isF rfl c52) rfl rfl (shO_off (b' := false) 30 rfl (Env.isF rfl c52) rfl rfl (shO_off (b' := false) 30 rfl (Env.isF rfl c52) rfl rfl (shO_off (b' := false) 30 rfl (Env.isF rfl c52) rfl rfl (shO_off (b' := false) 30 rfl (Env.isF rfl c52) rfl rfl (shO_off (b' := false) 30 rfl (Env.isF rfl c52) rfl rfl ?_)))))
       refine ov (v_pick_f (evD_false rfl c52) rfl) rfl ?_
       refine shO_nil ?_
       obtain rfl := inj1 r67
       exact mi kr ⟨rfl, rfl, (sc rfl (sc rfl (sc rfl (sc rfl (sc rfl (sc rfl (sc rfl (sn _))))))))⟩
     rintro e1 _ _ ⟨rfl, rfl, he68⟩
     refine shW_env _ he68 ?_; clear he68
     refine shW_cond rfl (fun c69 => ?_) (fun c69 => ?_)
     · have r70 := bt r51 c69; clear r51
       refine shW_region (om rfl rfl (om rfl rfl ?_))
       refine o_buildSlice (cs := #[.int .i64 k]) rfl rfl (buildSlice_all slt_28 [.int .i64 k] rfl (by decide) (by simp [Value.cells]) (by decide)) ?_; intro b71 hb71
       obtain ⟨out3, h72, g73, r74⟩ := ap_ok r70; clear r70
       refine o_appZ (xs := out2) (ys := [k]) (zs := out3) rfl slt_28 rfl rfl (Nat.le_refl _) (fun _ => .c (.s .h)) hz29 (SrcR.box (vss := [[.int .i64 k]]) (ys := [k]) 0 rfl (iE_ok _) (.cons rfl .nil) rfl rfl) h72 g73 (by decide) ?_; intro a75 n79 c76 Lb77 hz78
       refine kO (kd kr) ?_
       refine oa rfl rfl (shO_nil (inBlock_n (id := 1) (shW_region ?_)))
       refine ov (v_add rfl rfl (Lst.r64 hk32 c37 (RowR.lt h_plots))) rfl ?_
       refine om rfl rfl (shO_nil ?_)
       subst hn33; exact le kr ⟨_, _, rfl, hk38, out3, a75, n79, c76, Lb77, r74, rfl, rfl, (sc rfl (sc rfl (sc rfl (sc rfl (sc rfl (sn _)))))), hz78⟩
     have r81 := bf r51 c69; clear r51
     refine shW_skip (inBlock_n (id := 1) (shW_region ?_))
     refine ov (v_add rfl rfl (Lst.r64 hk32 c37 (RowR.lt h_plots))) rfl ?_
     refine om rfl rfl (shO_nil ?_)
     subst hn33; exact le kr ⟨_, _, rfl, hk38, out2, a26, n30, c27, Lb28, r81, rfl, rfl, (sc rfl (sc rfl (sc rfl (sc rfl (sc rfl (sn _)))))), hz29⟩
   obtain rfl := Lst.zero hk32 c37
   rw [hear_Deaf_l1] at r34
   refine shW_exit (andThen_exit (andThen_exit ?_))
   refine inBlock_exit ?_
   obtain rfl := inj1 r34
   exact mi (kx kr) ⟨a26, n30, c27, Lb28, rfl, rfl, (sc rfl (sn _)), hz29⟩
 rintro e1 _ _ ⟨a18, n22, c19, Lb20, rfl, rfl, he82, hz21⟩
 refine shW_env _ he82 ?_; clear he82
 refine wsr (om rfl rfl (oa rfl rfl (oa rfl rfl (shO_nil (shW_ret ?_)))))
 refine q_res2 Tryz.results22 (res_tmp rfl) (res_tmp rfl) (sr) ?_
 obtain ⟨rfl, rfl⟩ := inj2 r25
 exact ⟨_, _, _, _, rfl, rfl, hz21.any⟩
set_option maxHeartbeats 1000000 in
theorem hear_Stands_w {wide : Int} {plots_a : Option Addr} {plots_c : Nat} {plots : List Int} {wind : Int} {voice : Int} {house : Int} {F : FS} (h_plots : RowR 1 (iE .i64) F plots_a plots_c plots) {r : List Int} {r2 : Int} (hr : hear_Stands wide plots wind voice house = some (r, r2)) :
    SH.Spec Tryz.prog 24 #[.agg #[.int .i64 wide, .slice plots_a plots.length plots_c], .agg #[.int .i64 wind, .int .i64 voice], .int .i64 house] F [] fun F' L' v => ∃ (ra : Option Addr) (rn : Nat) (rc : Nat) (rL : LH), v = .tuple #[.slice ra rn rc, .int .i64 r2] ∧ L' = rL ++ [] ∧ SlR 0 3 1 (iE .i64) F' ra rn rc r rL := by
 refine spec_of_shW (args := [.agg #[.int .i64 wide, .slice plots_a plots.length plots_c], .agg #[.int .i64 wind, .int .i64 voice], .int .i64 house]) Tryz.func24 rfl Tryz.ntmps24 (Nat.le_of_ble_eq_true rfl) ?_
 intro K _ _; rw [hear_Stands] at hr
 refine wsr ?_
 refine o_box rfl rfl ?_; intro b1 hb1
 refine o_box rfl rfl ?_; intro b2 hb2
 refine oa rfl rfl (oa rfl rfl (nsr ?_))
 refine ov (v_loadA (cs := #[.int .i64 wide, .slice plots_a plots.length plots_c]) Tryz.isAgg24 Tryz.sizeOf24 rfl (Has.own 1 rfl) (Nat.le_of_ble_eq_true rfl) rfl) rfl ?_
 refine ov (v_loadA (cs := #[.int .i64 wind, .int .i64 voice]) Tryz.isAgg27 Tryz.sizeOf27 rfl (Has.own 0 rfl) (Nat.le_of_ble_eq_true rfl) rfl) rfl ?_
 obtain ⟨l, n, h3, r4⟩ := b2_ok hr; clear hr
 refine o_call0 rfl Tryz.call67 rfl rfl rfl (hear_aired_w h_plots h3) ?_; rintro _ F5 _ hF6 hn7 ⟨a9, n13, c10, Lb11, rfl, rfl, hz12⟩
 replace h_plots := h_plots.mono (iE_ok _) hF6
 replace hz12 := hz12.new fun p hp => hn7 p (by simp [hp])
 refine shO_L (lp (ln rfl)) ?_
 refine kO (kf (fS fO) (kf (fS fO) kr)) ?_
 refine om rfl rfl (ox rfl rfl rfl (ox rfl rfl rfl (oa rfl rfl (oa rfl rfl (shO_nil (shW_seq (wsr (om rfl rfl ?_))))))))
 refine ov (v_neq rfl rfl) rfl ?_
 refine shO_nil ?_
 refine shW_condP rfl (fun c15 => ?_) (fun c15 => ?_)
 · have r16 := ite_t r4 c15; clear r4
   refine wsr (om rfl rfl (oa rfl rfl (oa rfl rfl (shO_nil ?_))))
   refine kW kn ?_
   refine shW_ret (andThen_ret ?_)
   refine q_res2 Tryz.results24 (res_tmp rfl) (res_tmp rfl) (sr) ?_
   obtain ⟨rfl, rfl⟩ := inj2 r16
   exact ⟨_, _, _, [], rfl, rfl, SlR.nil _ _ _ _ _⟩
 have r17 := ite_f r4 c15; clear r4
 refine shW_skip (shW_seq (wsr ?_))
 refine ov (v_loadA (cs := #[.int .i64 wide, .slice plots_a plots.length plots_c]) Tryz.isAgg24 Tryz.sizeOf24 rfl (Has.own 1 rfl) (Nat.le_of_ble_eq_true rfl) rfl) rfl ?_
 refine om rfl rfl ?_
 obtain ⟨n2, h18, r19⟩ := b1_ok r17; clear r17
 refine o_callV rfl Tryz.call72 rfl rfl rfl (hear_Town_is_w h_plots h18) ?_
 refine oa rfl rfl (nsr (om rfl rfl ?_))
 refine ov (v_neq rfl rfl) rfl ?_
 refine shO_nil ?_
 refine shW_condP rfl (fun c20 => ?_) (fun c20 => ?_)
 · have r21 := ite_t r19 c20; clear r19
   refine wsr (om rfl rfl (oa rfl rfl (oa rfl rfl (shO_nil ?_))))
   refine kW kn ?_
   refine shW_ret (andThen_ret ?_)
   refine q_res2 Tryz.results24 (res_tmp rfl) (res_tmp rfl) (sr) ?_
   obtain ⟨rfl, rfl⟩ := inj2 r21
   exact ⟨_, _, _, [], rfl, rfl, SlR.nil _ _ _ _ _⟩
 have r22 := ite_f r19 c20; clear r19
 refine shW_skip (wsr (om rfl rfl (om rfl rfl ?_)))
 obtain ⟨x, g23, hx24, r25⟩ := ix_ok r22; clear r22
 obtain ⟨b26, o27, c28, vs29, ha30, hs31, hle32, ⟨rfl, h35⟩, hl33, hc34⟩ := SlR.at (arE_ok (n := 30) (sz := 1) cB_ok) hz12 (L := (b2, .cells #[.int .i64 wind, .int .i64 voice] 27 (0, 0)) :: ((b1, .cells #[.int .i64 wide, .slice plots_a plots.length plots_c] 24 (0, 0)) :: (Lb11 ++ []))) (fC (fC fP)) g23.1 hx24
 refine ov (v_indexO Tryz.underlying72 Tryz.sizeOf80 rfl ha30 rfl (SlR.idx hz12 g23)) rfl ?_
 refine ov (v_loadA (cs := arr cB x) Tryz.isAgg80 Tryz.sizeOf80 rfl hs31 hle32 (extract_cells hle32 hl33 hc34)) rfl ?_
 obtain ⟨l2, h36, r37⟩ := b1_ok r25; clear r25
 refine o_call0 rfl Tryz.call52 rfl rfl rfl (hear_ears_list_w h35 h36) ?_; rintro _ F38 _ hF39 hn40 ⟨a42, n46, c43, Lb44, rfl, rfl, hz45⟩
 replace hz45 := hz45.new fun p hp => hn40 p (by simp [hp])
 refine shO_L (lp (ln rfl)) ?_
 refine kO (kf (fS fO) (kf (fS fO) kr)) ?_
 refine oa rfl rfl (oa rfl rfl (shO_nil ?_))
 refine kW (kd (kd (ka kn))) ?_
 refine shW_ret ?_
 refine q_res2 Tryz.results24 (res_tmp rfl) (res_tmp rfl) (sr) ?_
 obtain ⟨rfl, rfl⟩ := inj2 r37
 exact ⟨_, _, _, _, rfl, rfl, hz45.any⟩
set_option maxHeartbeats 1000000 in
theorem hear_Houses_w {wide : Int} {plots_a : Option Addr} {plots_c : Nat} {plots : List Int} {wind : Int} {voice : Int} {stand : Int} {F : FS} (h_plots : RowR 1 (iE .i64) F plots_a plots_c plots) {r : List Int} {r2 : Int} (hr : hear_Houses wide plots wind voice stand = some (r, r2)) :
    SH.Spec Tryz.prog 73 #[.agg #[.int .i64 wide, .slice plots_a plots.length plots_c], .agg #[.int .i64 wind, .int .i64 voice], .int .i64 stand] F [] fun F' L' v => ∃ (ra : Option Addr) (rn : Nat) (rc : Nat) (rL : LH), v = .tuple #[.slice ra rn rc, .int .i64 r2] ∧ L' = rL ++ [] ∧ SlR 0 3 1 (iE .i64) F' ra rn rc r rL := by
 refine spec_of_shW (args := [.agg #[.int .i64 wide, .slice plots_a plots.length plots_c], .agg #[.int .i64 wind, .int .i64 voice], .int .i64 stand]) Tryz.func73 rfl Tryz.ntmps73 (Nat.le_of_ble_eq_true rfl) ?_
 intro K _ _; rw [hear_Houses] at hr
 refine wsr ?_
 refine o_box rfl rfl ?_; intro b1 hb1
 refine o_box rfl rfl ?_; intro b2 hb2
 refine oa rfl rfl (oa rfl rfl (shO_nil (shW_seq (wsr ?_))))
 refine ov (v_loadA (cs := #[.int .i64 wide, .slice plots_a plots.length plots_c]) Tryz.isAgg24 Tryz.sizeOf24 rfl (Has.own 1 rfl) (Nat.le_of_ble_eq_true rfl) rfl) rfl ?_
 obtain ⟨n, h3, r4⟩ := b1_ok hr; clear hr
 refine o_callV rfl Tryz.call23 rfl rfl rfl (hear_Check_w h_plots h3) ?_
 refine oa rfl rfl (nsr (om rfl rfl ?_))
 refine ov (v_neq rfl rfl) rfl ?_
 refine shO_nil ?_
 refine shW_condP rfl (fun c5 => ?_) (fun c5 => ?_)
 · have r6 := ite_t r4 c5; clear r4
   refine wsr (om rfl rfl (oa rfl rfl (oa rfl rfl (shO_nil ?_))))
   refine kW kn ?_
   refine shW_ret (andThen_ret ?_)
   refine q_res2 Tryz.results73 (res_tmp rfl) (res_tmp rfl) (sr) ?_
   obtain ⟨rfl, rfl⟩ := inj2 r6
   exact ⟨_, _, _, [], rfl, rfl, SlR.nil _ _ _ _ _⟩
 have r7 := ite_f r4 c5; clear r4
 refine shW_skip (shW_seq (wsr ?_))
 refine ov (v_loadA (cs := #[.int .i64 wind, .int .i64 voice]) Tryz.isAgg27 Tryz.sizeOf27 rfl (Has.own 0 rfl) (Nat.le_of_ble_eq_true rfl) rfl) rfl ?_
 obtain ⟨n2, h8, r9⟩ := b1_ok r7; clear r7
 refine o_callV rfl Tryz.call104 rfl rfl rfl (hear_CheckAir_w h8) ?_
 refine oa rfl rfl (nsr (om rfl rfl ?_))
 refine ov (v_neq rfl rfl) rfl ?_
 refine shO_nil ?_
 refine shW_condP rfl (fun c10 => ?_) (fun c10 => ?_)
 · have r11 := ite_t r9 c10; clear r9
   refine wsr (om rfl rfl (oa rfl rfl (oa rfl rfl (shO_nil ?_))))
   refine kW kn ?_
   refine shW_ret (andThen_ret ?_)
   refine q_res2 Tryz.results73 (res_tmp rfl) (res_tmp rfl) (sr) ?_
   obtain ⟨rfl, rfl⟩ := inj2 r11
   exact ⟨_, _, _, [], rfl, rfl, SlR.nil _ _ _ _ _⟩
 have r12 := ite_f r9 c10; clear r9
 refine shW_skip (wsr ?_)
 refine ov (v_loadA (cs := #[.int .i64 wide, .slice plots_a plots.length plots_c]) Tryz.isAgg24 Tryz.sizeOf24 rfl (Has.own 1 rfl) (Nat.le_of_ble_eq_true rfl) rfl) rfl ?_
 refine ov (v_fieldAddr fa_27_0 rfl) rfl ?_
 refine ov (v_load Tryz.isAgg25 rfl (Has.own 0 rfl) rfl) rfl ?_
 refine om rfl rfl ?_
 obtain ⟨l, n3, h13, r14⟩ := b2_ok r12; clear r12
 refine o_call0 rfl Tryz.call34 rfl rfl rfl (hear_Needs_w h_plots h13) ?_; rintro _ F15 _ hF16 hn17 ⟨a19, n23, c20, Lb21, rfl, rfl, hz22⟩
 replace h_plots := h_plots.mono (iE_ok _) hF16
 replace hz22 := hz22.new fun p hp => hn17 p (by simp [hp])
 refine shO_L (lp (ln rfl)) ?_
 refine kO (kf (fS fO) (kf (fS fO) kr)) ?_
 refine om rfl rfl (ox rfl rfl rfl (ox rfl rfl rfl (oa rfl rfl (oa rfl rfl (shO_nil (shW_seq (wsr (om rfl rfl ?_))))))))
 refine ov (v_neq rfl rfl) rfl ?_
 refine shO_nil ?_
 refine shW_condP rfl (fun c25 => ?_) (fun c25 => ?_)
 · have r26 := ite_t r14 c25; clear r14
   refine wsr (om rfl rfl (oa rfl rfl (oa rfl rfl (shO_nil ?_))))
   refine kW kn ?_
   refine shW_ret (andThen_ret ?_)
   refine q_res2 Tryz.results73 (res_tmp rfl) (res_tmp rfl) (sr) ?_
   obtain ⟨rfl, rfl⟩ := inj2 r26
   exact ⟨_, _, _, [], rfl, rfl, SlR.nil _ _ _ _ _⟩
 have r27 := ite_f r14 c25; clear r14
 refine shW_skip (wsr (oa rfl rfl (shO_nil ?_)))
 obtain ⟨out, h34, r35⟩ := b1_ok r27; clear r27
 refine shW_join (fun e1 F1 L1 => ∃ (a28 : Option Addr) (n32 : Nat) (c29 : Nat) (Lb30 : LH), F15 = F1 ∧ L1 = (Lb30 ++ []) ∧ e1.sub [(12, .slice a28 n32 c29)] ∧ SlR K.w0.heap.size 3 1 (iE .i64) F1 a28 n32 c29 out Lb30) ?_ ?_
 · clear r35
   refine wsr (om rfl rfl ?_)
   refine ov ((v_lenS Tryz.underlying28 rfl).i (SlR.lenI hz22)) rfl ?_
   refine om rfl rfl (shO_nil ?_)
   refine shW_block ?_
   refine shW_lp (fun fu1 e1 F1 L1 => ∃ (tl : List Int) (k : Int), tl.length = fu1 ∧ Lst l k tl ∧ ∃ (out2 : List Int) (a36 : Option Addr) (n40 : Nat) (c37 : Nat) (Lb38 : LH), hear_Houses_l1 plots voice tl k out2 = some out ∧ F15 = F1 ∧ L1 = ((b2, .cells #[.int .i64 wind, .int .i64 voice] 27 (0, 0)) :: ((b1, .cells #[.int .i64 wide, .slice plots_a plots.length plots_c] 24 (0, 0)) :: (Lb38 ++ (Lb21 ++ [])))) ∧ e1.sub [(3, .pointer (some ⟨b1, 0, none⟩)), (4, .pointer (some ⟨b2, 0, none⟩)), (12, .slice a36 n40 c37), (36, .slice a19 n23 c20), (37, .int .i64 (l.length : Int)), (38, .int .i64 k)] ∧ SlR K.w0.heap.size 3 1 (iE .i64) F1 a36 n40 c37 out2 Lb38) _ (m0 (kc (kc (ke kr))) ⟨_, _, rfl, Lst.start _, [], none, 0, 0, [], h34, rfl, rfl, (sc rfl (sc rfl (sc rfl (sc rfl (sc rfl (sc rfl (sn _))))))), SlR.nil _ _ _ _ _⟩) ?_
   rintro fu1 e1 _ _ ⟨tl, k, hn43, hk42, out2, a36, n40, c37, Lb38, r44, rfl, rfl, he45, hz39⟩
   refine shW_env _ he45 ?_; clear he45
   refine wsr ?_
   refine ov (v_lssK rfl rfl) rfl ?_
   refine shO_nil (shW_seq ?_)
   refine shW_condP rfl (fun c47 => ?_) (fun c47 => ?_)
   · obtain ⟨x, tl2, rfl, hx49, g50, hk48⟩ := Lst.succ hk42 c47
     rw [hear_Houses_l1] at r44
     refine shW_skip (shW_seq ?_)
     refine shW_block ?_
     refine wsr (om rfl rfl ?_)
     obtain ⟨b51, o52, c53, vs54, ha55, hs56, hle57, rfl, hl58, hc59⟩ := SlR.at (iE_ok _) hz22 (L := (b2, .cells #[.int .i64 wind, .int .i64 voice] 27 (0, 0)) :: ((b1, .cells #[.int .i64 wide, .slice plots_a plots.length plots_c] 24 (0, 0)) :: (Lb38 ++ (Lb21 ++ [])))) (fC (fC (fS fP))) g50.1 hx49
     refine ov (v_indexO Tryz.underlying28 Tryz.sizeOf3 rfl ha55 rfl (SlR.idx hz22 g50)) rfl ?_
     refine ov (v_load Tryz.isAgg3 rfl hs56 (hc59 0 (by decide))) rfl ?_
     refine oa rfl rfl (oa rfl rfl (shO_nil ?_))
     obtain ⟨k2, h60, r61⟩ := b1_ok r44; clear r44
     refine shW_join (fun e1 F1 L1 => F15 = F1 ∧ L1 = ((b2, .cells #[.int .i64 wind, .int .i64 voice] 27 (0, 0)) :: ((b1, .cells #[.int .i64 wide, .slice plots_a plots.length plots_c] 24 (0, 0)) :: (Lb38 ++ (Lb21 ++ [])))) ∧ e1.sub [(3, .pointer (some ⟨b1, 0, none⟩)), (4, .pointer (some ⟨b2, 0, none⟩)), (12, .slice a36 n40 c37), (13, .int .i64 k), (36, .slice a19 n23 c20), (37, .int .i64 (l.length : Int)), (38, .int .i64 k), (54, .bool k2)]) ?_ ?_
     · clear r61
       refine shW_region ?_
       refine ov (v_fieldAddr fa_24_1 rfl) rfl ?_
       refine ov (v_load Tryz.isAgg22 rfl (Has.own 1 rfl) rfl) rfl ?_
       refine om rfl rfl ?_
       obtain ⟨x2, g62, hx63, r64⟩ := ix_ok h60; clear h60
       obtain ⟨b65, o66, c67, vs68, ha69, hs70, hle71, rfl, hl72, hc73⟩ := RowR.at (iE_ok _) h_plots ((b2, .cells #[.int .i64 wind, .int .i64 voice] 27 (0, 0)) :: ((b1, .cells #[.int .i64 wide, .slice plots_a plots.length plots_c] 24 (0, 0)) :: (Lb38 ++ (Lb21 ++ [])))) g62.1 hx63
       refine ov (v_indexO Tryz.underlying22 Tryz.sizeOf61 rfl ha69 rfl g62) rfl ?_
       refine ov (v_load Tryz.isAgg61 rfl hs70 (hc73 0 (by decide))) rfl ?_
       refine ov (v_eql rfl rfl) rfl ?_
       refine om rfl rfl ?_
       by_cases c74 : x2 = 1
       · have r75 := ite_t r64 c74; clear r64
         refine shO_on (b := true) 49 rfl (Env.isT rfl c74) (om rfl rfl (shO_on (b := true) 49 rfl (Env.isT rfl c74) ?_))
         refine ov (v_fieldAddr fa_27_1 rfl) rfl ?_
         refine shO_on (b := true) 49 rfl (Env.isT rfl c74) ?_
         refine ov (v_load Tryz.isAgg3 rfl (Has.own 0 rfl) rfl) rfl ?_
         refine shO_on (b := true) 49 rfl (Env.isT rfl c74) ?_
         obtain ⟨ok, h76, r77⟩ := b1_ok r75; clear r75
         refine o_callV rfl Tryz.call68 rfl rfl rfl (hear_in_w h76) ?_
         refine ov (v_pick_t (evD_true rfl c74) rfl) rfl ?_
         refine shO_nil ?_
         obtain rfl := inj1 r77
         exact mi kr ⟨rfl, rfl, (sc rfl (sc rfl (sc rfl (sc rfl (sc rfl (sc rfl (sc rfl (sc rfl (sn _)))))))))⟩
       have r78 := ite_f r64 c74; clear r64
       refine shO_off (b' := false) 49 rfl (Env.isF rfl c74) rfl rfl (shO_off (b' := false) 49 rfl (Env.isF rfl c74) rfl rfl (shO_off (b' := false) 49 rfl (Env.isF rfl c74) rfl rfl (shO_off (b' := false) 49 rfl (Env.isF rfl c74) rfl rfl ?_)))
       refine ov (v_pick_f (evD_false rfl c74) rfl) rfl ?_
       refine shO_nil ?_
       obtain rfl := inj1 r78
       exact mi kr ⟨rfl, rfl, (sc rfl (sc rfl (sc rfl (sc rfl (sc rfl (sc rfl (sc rfl (sc rfl (sn _)))))))))⟩
     rintro e1 _ _ ⟨rfl, rfl, he79⟩
     refine shW_env _ he79 ?_; clear he79
     refine shW_cond rfl (fun c80 => ?_) (fun c80 => ?_)
     · have r81 := bt r61 c80; clear r61
       refine shW_region (om rfl rfl (om rfl rfl ?_))
       refine o_buildSlice (cs := #[.int .i64 k]) rfl rfl (buildSlice_all slt_28 [.int .i64 k] rfl (by decide) (by simp [Value.cells]) (by decide)) ?_; intro b82 hb82
       obtain ⟨out3, h83, g84, r85⟩ := ap_ok r81; clear r81
       refine o_appZ (xs := out2) (ys := [k]) (zs := out3) rfl slt_28 rfl rfl (Nat.le_refl _) (fun _ => .c (.c (.c .h))) hz39 (SrcR.box (vss := [[.int .i64 k]]) (ys := [k]) 0 rfl (iE_ok _) (.cons rfl .nil) rfl rfl) h83 g84 (by decide) ?_; intro a86 n90 c87 Lb88 hz89
       refine kO (kd kr) ?_
       refine oa rfl rfl (shO_nil (inBlock_n (id := 1) (shW_region ?_)))
       refine ov (v_add rfl rfl (Lst.r64 hk42 c47 (SlR.llt hz22))) rfl ?_
       refine om rfl rfl (shO_nil ?_)
       subst hn43; exact le kr ⟨_, _, rfl, hk48, out3, a86, n90, c87, Lb88, r85, rfl, rfl, (sc rfl (sc rfl (sc rfl (sc rfl (sc rfl (sc rfl (sn _))))))), hz89⟩
     have r92 := bf r61 c80; clear r61
     refine shW_skip (inBlock_n (id := 1) (shW_region ?_))
     refine ov (v_add rfl rfl (Lst.r64 hk42 c47 (SlR.llt hz22))) rfl ?_
     refine om rfl rfl (shO_nil ?_)
     subst hn43; exact le kr ⟨_, _, rfl, hk48, out2, a36, n40, c37, Lb38, r92, rfl, rfl, (sc rfl (sc rfl (sc rfl (sc rfl (sc rfl (sc rfl (sn _))))))), hz39⟩
   obtain rfl := Lst.zero hk42 c47
   rw [hear_Houses_l1] at r44
   refine shW_exit (andThen_exit (andThen_exit ?_))
   refine inBlock_exit ?_
   obtain rfl := inj1 r44
   exact mi (kd (kd (ka kn))) ⟨a36, n40, c37, Lb38, rfl, rfl, (sc rfl (sn _)), hz39⟩
 rintro e1 _ _ ⟨a28, n32, c29, Lb30, rfl, rfl, he93, hz31⟩
 refine shW_env _ he93 ?_; clear he93
 refine wsr (om rfl rfl (oa rfl rfl (oa rfl rfl (shO_nil (shW_ret ?_)))))
 refine q_res2 Tryz.results73 (res_tmp rfl) (res_tmp rfl) (sr) ?_
 obtain ⟨rfl, rfl⟩ := inj2 r35
 exact ⟨_, _, _, _, rfl, rfl, hz31.any⟩
set_option maxHeartbeats 1000000 in
theorem oyezlaw01_served_w {wide : Int} {plots_a : Option Addr} {plots_c : Nat} {plots : List Int} {wind : Int} {voice : Int} {houses_a : Option Addr} {houses_c : Nat} {houses : List Int} {stands_a : Option Addr} {stands_c : Nat} {stands : List Int} {F : FS} (h_plots : RowR 1 (iE .i64) F plots_a plots_c plots) (h_houses : RowR 1 (iE .i64) F houses_a houses_c houses) (h_stands : RowR 1 (iE .i64) F stands_a stands_c stands) {r : Int} {r2 : Bool} (hr : oyezlaw01_served wide plots wind voice houses stands = some (r, r2)) :
    SpecV Tryz.prog 25 #[.agg #[.int .i64 wide, .slice plots_a plots.length plots_c], .agg #[.int .i64 wind, .int .i64 voice], .slice houses_a houses.length houses_c, .slice stands_a stands.length stands_c] F (.tuple #[.int .i64 r, .bool r2]) := by
 refine spec_of_shW (args := [.agg #[.int .i64 wide, .slice plots_a plots.length plots_c], .agg #[.int .i64 wind, .int .i64 voice], .slice houses_a houses.length houses_c, .slice stands_a stands.length stands_c]) Tryz.func25 rfl Tryz.ntmps25 (Nat.le_of_ble_eq_true rfl) ?_
 intro K _ _; rw [oyezlaw01_served] at hr
 refine wsr ?_
 refine o_box rfl rfl ?_; intro b1 hb1
 refine o_box rfl rfl ?_; intro b2 hb2
 refine oa rfl rfl (oa rfl rfl (nsr ?_))
 refine o_makeMap rfl ?_; intro b3 hb3
 refine oa rfl rfl (shO_nil ?_)
 refine shW_join (fun e1 F1 L1 => ∃ (heard : List (Int × Bool)) (es4 : Array MapEntry) (cl5 : Nat), oyezlaw01_served_j1 houses heard = some (r, r2) ∧ FExt F F1 ∧ L1 = [(b3, .map es4 cl5)] ∧ e1.sub [(2, .slice houses_a houses.length houses_c), (10, .map (some b3))] ∧ MapR (Value.int .i64) Value.bool es4 heard) ?_ ?_
 · refine wsr (om rfl rfl ?_)
   refine ov (v_lenS Tryz.underlying28 rfl) rfl ?_
   refine om rfl rfl (shO_nil ?_)
   refine shW_block ?_
   refine shW_lp (fun fu2 e1 F1 L1 => ∃ (tl : List Int) (k : Int), tl.length = fu2 ∧ Lst stands k tl ∧ ∃ (heard2 : List (Int × Bool)) (es7 : Array MapEntry) (cl8 : Nat), oyezlaw01_served_l2 wide plots wind voice houses tl heard2 = some (r, r2) ∧ FExt F F1 ∧ L1 = [(b3, .map es7 cl8), (b2, .cells #[.int .i64 wind, .int .i64 voice] 27 (0, 0)), (b1, .cells #[.int .i64 wide, .slice plots_a plots.length plots_c] 24 (0, 0))] ∧ e1.sub [(2, .slice houses_a houses.length houses_c), (4, .pointer (some ⟨b1, 0, none⟩)), (5, .pointer (some ⟨b2, 0, none⟩)), (10, .map (some b3)), (21, .slice stands_a stands.length stands_c), (22, .int .i64 (stands.length : Int)), (23, .int .i64 k)] ∧ MapR (Value.int .i64) Value.bool es7 heard2) _ (m0 kr ⟨_, _, rfl, Lst.start _, [], #[], 0, hr, FExt.refl _, rfl, (sc rfl (sc rfl (sc rfl (sc rfl (sc rfl (sc rfl (sc rfl (sn _)))))))), MapR.nil⟩) ?_
   rintro fu2 e1 F14 _ ⟨tl, k, hn11, hk10, heard2, es7, cl8, r12, hF15, rfl, he13, hR9⟩
   refine shW_env _ he13 ?_; clear he13
   replace h_plots := h_plots.mono (iE_ok _) hF15
   replace h_stands := h_stands.mono (iE_ok _) hF15
   refine wsr ?_
   refine ov (v_lssK rfl rfl) rfl ?_
   refine shO_nil (shW_seq ?_)
   refine shW_condP rfl (fun c17 => ?_) (fun c17 => ?_)
   · obtain ⟨x, tl2, rfl, hx19, g20, hk18⟩ := Lst.succ hk10 c17
     rw [oyezlaw01_served_l2] at r12
     refine shW_skip ?_
     refine shW_join (fun e1 F1 L1 => ∃ (heard3 : List (Int × Bool)) (es21 : Array MapEntry) (cl22 : Nat), oyezlaw01_served_j3 (oyezlaw01_served_l2 wide plots wind voice houses tl2) heard3 = some (r, r2) ∧ FExt F14 F1 ∧ L1 = [(b3, .map es21 cl22), (b2, .cells #[.int .i64 wind, .int .i64 voice] 27 (0, 0)), (b1, .cells #[.int .i64 wide, .slice plots_a plots.length plots_c] 24 (0, 0))] ∧ e1.sub [(2, .slice houses_a houses.length houses_c), (4, .pointer (some ⟨b1, 0, none⟩)), (5, .pointer (some ⟨b2, 0, none⟩)), (10, .map (some b3)), (21, .slice stands_a stands.length stands_c), (22, .int .i64 (stands.length : Int)), (23, .int .i64 k)] ∧ MapR (Value.int .i64) Value.bool es21 heard3) ?_ ?_
     · refine shW_block ?_
       refine wsr ?_
       obtain ⟨b24, o25, c26, vs27, ha28, hs29, hle30, rfl, hl31, hc32⟩ := RowR.at (iE_ok _) h_stands ([(b3, .map es7 cl8), (b2, .cells #[.int .i64 wind, .int .i64 voice] 27 (0, 0)), (b1, .cells #[.int .i64 wide, .slice plots_a plots.length plots_c] 24 (0, 0))]) g20.1 hx19
       refine ov (v_indexO Tryz.underlying28 Tryz.sizeOf3 rfl ha28 rfl g20) rfl ?_
       refine ov (v_load Tryz.isAgg3 rfl hs29 (hc32 0 (by decide))) rfl ?_
       refine oa rfl rfl (nsr ?_)
       refine ov (v_loadA (cs := #[.int .i64 wide, .slice plots_a plots.length plots_c]) Tryz.isAgg24 Tryz.sizeOf24 rfl (Has.own 2 rfl) (Nat.le_of_ble_eq_true rfl) rfl) rfl ?_
       refine ov (v_loadA (cs := #[.int .i64 wind, .int .i64 voice]) Tryz.isAgg27 Tryz.sizeOf27 rfl (Has.own 1 rfl) (Nat.le_of_ble_eq_true rfl) rfl) rfl ?_
       refine om rfl rfl ?_
       obtain ⟨l, n, h33, r34⟩ := b2_ok r12; clear r12
       refine o_call0 rfl Tryz.call73 rfl rfl rfl (hear_Houses_w h_plots h33) ?_; rintro _ F35 _ hF36 hn37 ⟨a39, n43, c40, Lb41, rfl, rfl, hz42⟩
       replace hz42 := hz42.new fun p hp => hn37 p (by simp [hp])
       refine shO_L (lp (ln rfl)) ?_
       refine kO (kf (fS fO) (kf (fS fO) (kf (fS fO) kr))) ?_
       refine om rfl rfl (ox rfl rfl rfl (ox rfl rfl rfl (oa rfl rfl (oa rfl rfl (shO_nil (shW_seq (wsr (om rfl rfl ?_))))))))
       refine ov (v_neq rfl rfl) rfl ?_
       refine shO_nil ?_
       refine shW_condP rfl (fun c45 => ?_) (fun c45 => ?_)
       · have r46 := ite_t r34 c45; clear r34
         refine wsr (oa rfl rfl (oa rfl rfl (shO_nil ?_)))
         refine kW kn ?_
         refine shW_ret (andThen_ret (inBlock_ret (andThen_ret (andThen_ret (inBlock_ret (andThen_ret ?_))))))
         refine q_res2 Tryz.results25 (res_tmp rfl) (res_tmp rfl) (sr) ?_
         obtain ⟨rfl, rfl⟩ := inj2 r46
         exact rfl
       have r47 := ite_f r34 c45; clear r34
       refine shW_skip (wsr (om rfl rfl ?_))
       refine ov ((v_lenS Tryz.underlying28 rfl).i (SlR.lenI hz42)) rfl ?_
       refine om rfl rfl (shO_nil ?_)
       refine shW_block ?_
       refine shW_lp (fun fu4 e1 F1 L1 => ∃ (tl3 : List Int) (k2 : Int), tl3.length = fu4 ∧ Lst l k2 tl3 ∧ ∃ (heard4 : List (Int × Bool)) (es48 : Array MapEntry) (cl49 : Nat), oyezlaw01_served_l4 (oyezlaw01_served_l2 wide plots wind voice houses tl2) tl3 heard4 = some (r, r2) ∧ F35 = F1 ∧ L1 = ((b3, .map es48 cl49) :: ((b2, .cells #[.int .i64 wind, .int .i64 voice] 27 (0, 0)) :: ((b1, .cells #[.int .i64 wide, .slice plots_a plots.length plots_c] 24 (0, 0)) :: (Lb41 ++ [])))) ∧ e1.sub [(2, .slice houses_a houses.length houses_c), (4, .pointer (some ⟨b1, 0, none⟩)), (5, .pointer (some ⟨b2, 0, none⟩)), (10, .map (some b3)), (21, .slice stands_a stands.length stands_c), (22, .int .i64 (stands.length : Int)), (23, .int .i64 k), (36, .slice a39 n43 c40), (37, .int .i64 (l.length : Int)), (38, .int .i64 k2)] ∧ MapR (Value.int .i64) Value.bool es48 heard4) _ (m0 kr ⟨_, _, rfl, Lst.start _, heard2, es7, cl8, r47, rfl, rfl, (sc rfl (sc rfl (sc rfl (sc rfl (sc rfl (sc rfl (sc rfl (sc rfl (sc rfl (sc rfl (sn _))))))))))), hR9⟩) ?_
       rintro fu4 e1 _ _ ⟨tl3, k2, hn52, hk51, heard4, es48, cl49, r53, rfl, rfl, he54, hR50⟩
       refine shW_env _ he54 ?_; clear he54
       refine wsr ?_
       refine ov (v_lssK rfl rfl) rfl ?_
       refine shO_nil (shW_seq ?_)
       refine shW_condP rfl (fun c56 => ?_) (fun c56 => ?_)
       · obtain ⟨x2, tl4, rfl, hx58, g59, hk57⟩ := Lst.succ hk51 c56
         rw [oyezlaw01_served_l4] at r53
         refine shW_skip (shW_seq ?_)
         refine shW_block ?_
         refine wsr ?_
         obtain ⟨b60, o61, c62, vs63, ha64, hs65, hle66, rfl, hl67, hc68⟩ := SlR.at (iE_ok _) hz42 (L := (b3, .map es48 cl49) :: ((b2, .cells #[.int .i64 wind, .int .i64 voice] 27 (0, 0)) :: ((b1, .cells #[.int .i64 wide, .slice plots_a plots.length plots_c] 24 (0, 0)) :: (Lb41 ++ [])))) (fC (fC (fC fP))) g59.1 hx58
         refine ov (v_indexO Tryz.underlying28 Tryz.sizeOf3 rfl ha64 rfl (SlR.idx hz42 g59)) rfl ?_
         refine ov (v_load Tryz.isAgg3 rfl hs65 (hc68 0 (by decide))) rfl ?_
         refine oa rfl rfl (shO_nil (shW_region (om rfl rfl (om rfl rfl ?_))))
         refine o_mapUpdate (i := 0) (k := x2) (v := true) Tryz.underlying110 (keyOK_int Tryz.underlying3) rfl rfl rfl rfl (show MapR (Value.int .i64) Value.bool es48 (heard4 : List (Int × Bool)) from hR50) ?_; intro es69 cl70 hR71
         obtain ⟨heard5, h72, r73⟩ := bv_ok r53; clear r53
         rw [← h72] at hR71
         refine shO_L (L' := (b3, .map es69 cl70) :: ((b2, .cells #[.int .i64 wind, .int .i64 voice] 27 (0, 0)) :: ((b1, .cells #[.int .i64 wide, .slice plots_a plots.length plots_c] 24 (0, 0)) :: (Lb41 ++ [])))) rfl ?_
         refine shO_nil (inBlock_n (id := 3) (shW_region ?_))
         refine ov (v_add rfl rfl (Lst.r64 hk51 c56 (SlR.llt hz42))) rfl ?_
         refine om rfl rfl (shO_nil ?_)
         subst hn52; exact le kr ⟨_, _, rfl, hk57, heard5, es69, cl70, r73, rfl, rfl, (sc rfl (sc rfl (sc rfl (sc rfl (sc rfl (sc rfl (sc rfl (sc rfl (sc rfl (sc rfl (sn _))))))))))), hR71⟩
       obtain rfl := Lst.zero hk51 c56
       rw [oyezlaw01_served_l4] at r53
       refine shW_exit (andThen_exit (andThen_exit ?_))
       refine inBlock_exit ?_
       refine inBlock_n (id := 1) ?_
       exact mi (kc (kc (kc kn))) ⟨heard4, es48, cl49, r53, hF36, rfl, (sc rfl (sc rfl (sc rfl (sc rfl (sc rfl (sc rfl (sc rfl (sn _)))))))), hR50⟩
     rintro e1 F76 _ ⟨heard3, es21, cl22, r74, hF77, rfl, he75, hR23⟩
     refine shW_env _ he75 ?_; clear he75
     replace h_stands := h_stands.mono (iE_ok _) hF77
     rw [oyezlaw01_served_j3] at r74
     refine shW_region ?_
     refine ov (v_add rfl rfl (Lst.r64 hk10 c17 (RowR.lt h_stands))) rfl ?_
     refine om rfl rfl (shO_nil ?_)
     subst hn11; exact le kr ⟨_, _, rfl, hk18, heard3, es21, cl22, r74, (hF15.trans hF77), rfl, (sc rfl (sc rfl (sc rfl (sc rfl (sc rfl (sc rfl (sc rfl (sn _)))))))), hR23⟩
   obtain rfl := Lst.zero hk10 c17
   rw [oyezlaw01_served_l2] at r12
   refine shW_exit (andThen_exit (andThen_exit ?_))
   refine inBlock_exit ?_
   exact mi (kc kn) ⟨heard2, es7, cl8, r12, hF15, rfl, (sc rfl (sc rfl (sn _))), hR9⟩
 rintro e1 F80 _ ⟨heard, es4, cl5, r78, hF81, rfl, he79, hR6⟩
 refine shW_env _ he79 ?_; clear he79
 replace h_houses := h_houses.mono (iE_ok _) hF81
 rw [oyezlaw01_served_j1] at r78
 refine wsr (oa rfl rfl (shO_nil ?_))
 obtain ⟨n2, h82, r83⟩ := b1_ok r78; clear r78
 refine shW_join (fun e1 F1 L1 => F80 = F1 ∧ L1 = [] ∧ e1.sub [(17, .int .i64 n2)]) ?_ ?_
 · clear r83
   refine wsr (om rfl rfl ?_)
   refine ov (v_lenS Tryz.underlying28 rfl) rfl ?_
   refine om rfl rfl (shO_nil ?_)
   refine shW_block ?_
   refine shW_lp (fun fu5 e1 F1 L1 => ∃ (tl5 : List Int) (k3 : Int), tl5.length = fu5 ∧ Lst houses k3 tl5 ∧ ∃ (n3 : Int), oyezlaw01_served_l5 heard tl5 n3 = some n2 ∧ F80 = F1 ∧ L1 = [(b3, .map es4 cl5)] ∧ e1.sub [(10, .map (some b3)), (17, .int .i64 n3), (46, .slice houses_a houses.length houses_c), (47, .int .i64 (houses.length : Int)), (48, .int .i64 k3)]) _ (m0 kr ⟨_, _, rfl, Lst.start _, 0, h82, rfl, rfl, (sc rfl (sc rfl (sc rfl (sc rfl (sc rfl (sn _))))))⟩) ?_
   rintro fu5 e1 _ _ ⟨tl5, k3, hn85, hk84, n3, r86, rfl, rfl, he87⟩
   refine shW_env _ he87 ?_; clear he87
   refine wsr ?_
   refine ov (v_lssK rfl rfl) rfl ?_
   refine shO_nil (shW_seq ?_)
   refine shW_condP rfl (fun c89 => ?_) (fun c89 => ?_)
   · obtain ⟨x3, tl6, rfl, hx91, g92, hk90⟩ := Lst.succ hk84 c89
     rw [oyezlaw01_served_l5] at r86
     refine shW_skip (shW_seq ?_)
     refine shW_block ?_
     refine wsr ?_
     obtain ⟨b93, o94, c95, vs96, ha97, hs98, hle99, rfl, hl100, hc101⟩ := RowR.at (iE_ok _) h_houses ([(b3, .map es4 cl5)]) g92.1 hx91
     refine ov (v_indexO Tryz.underlying28 Tryz.sizeOf3 rfl ha97 rfl g92) rfl ?_
     refine ov (v_load Tryz.isAgg3 rfl hs98 (hc101 0 (by decide))) rfl ?_
     refine oa rfl rfl (nsr (om rfl rfl (om rfl rfl ?_)))
     refine ov (OpV.eq (v' := .bool ((mget heard x3).getD false)) (v_lookS1 (k := x3) (z0 := false) rfl Tryz.underlying110 (keyOK_int Tryz.underlying3) Tryz.zeroValue4 rfl rfl (HasM.own 0 rfl) (show MapR (Value.int .i64) Value.bool es4 (heard : List (Int × Bool)) from hR6)) rfl) rfl ?_
     refine shO_nil ?_
     refine shW_cond rfl (fun c102 => ?_) (fun c102 => ?_)
     · have r103 := bt r86 c102; clear r86
       refine shW_region (om rfl rfl ?_)
       obtain ⟨g104, r105⟩ := gd_ok r103; clear r103
       refine ov (v_add rfl rfl g104) rfl ?_
       refine oa rfl rfl (shO_nil (inBlock_n (id := 5) (shW_region ?_)))
       refine ov (v_add rfl rfl (Lst.r64 hk84 c89 (RowR.lt h_houses))) rfl ?_
       refine om rfl rfl (shO_nil ?_)
       subst hn85; exact le kr ⟨_, _, rfl, hk90, n3 + 1, r105, rfl, rfl, (sc rfl (sc rfl (sc rfl (sc rfl (sc rfl (sn _))))))⟩
     have r106 := bf r86 c102; clear r86
     refine shW_skip (inBlock_n (id := 5) (shW_region ?_))
     refine ov (v_add rfl rfl (Lst.r64 hk84 c89 (RowR.lt h_houses))) rfl ?_
     refine om rfl rfl (shO_nil ?_)
     subst hn85; exact le kr ⟨_, _, rfl, hk90, n3, r106, rfl, rfl, (sc rfl (sc rfl (sc rfl (sc rfl (sc rfl (sn _))))))⟩
   obtain rfl := Lst.zero hk84 c89
   rw [oyezlaw01_served_l5] at r86
   refine shW_exit (andThen_exit (andThen_exit ?_))
   refine inBlock_exit ?_
   obtain rfl := inj1 r86
   exact mi kn ⟨rfl, rfl, (sc rfl (sn _))⟩
 rintro e1 _ _ ⟨rfl, rfl, he107⟩
 refine shW_env _ he107 ?_; clear he107
 refine wsr (om rfl rfl (oa rfl rfl (oa rfl rfl (shO_nil (shW_ret ?_)))))
 refine q_res2 Tryz.results25 (res_tmp rfl) (res_tmp rfl) (sr) ?_
 obtain ⟨rfl, rfl⟩ := inj2 r83
 exact rfl
set_option maxHeartbeats 1000000 in
theorem slices_IsSorted_int_int_w {x_a : Option Addr} {x_c : Nat} {x : List Int} {F : FS} (h_x : RowR 1 (iE .i64) F x_a x_c x) {r : Bool} (hr : slices_IsSorted_int_int x = some r) :
    SpecV Tryz.prog 26 #[.slice x_a x.length x_c] F (.bool r) := by
 refine spec_of_shW (args := [.slice x_a x.length x_c]) Tryz.func26 rfl Tryz.ntmps26 (Nat.le_of_ble_eq_true rfl) ?_
 intro K _ _; rw [slices_IsSorted_int_int] at hr
 refine wsr (oa rfl rfl (shO_nil ?_))
 refine shW_join (fun e1 F1 L1 => slices_IsSorted_int_int_j1 = some r ∧ F = F1 ∧ L1 = [] ∧ e1.sub []) ?_ ?_
 · refine wsr (om rfl rfl ?_)
   refine ov (v_lenS Tryz.underlying28 rfl) rfl ?_
   obtain ⟨g1, r2⟩ := gd_ok hr; clear hr
   refine ov (v_sub rfl rfl g1) rfl ?_
   refine oa rfl rfl (shO_nil ?_)
   refine shW_block ?_
   refine shW_lp (fun fu2 e1 F1 L1 => ∃ (i : Int), slices_IsSorted_int_int_l2 x fu2 i = some r ∧ F = F1 ∧ L1 = [] ∧ e1.sub [(0, .slice x_a x.length x_c), (3, .int .i64 i)]) FU (m0 kr ⟨(x.length : Int) - 1, r2, rfl, rfl, (sc rfl (sc rfl (sn _)))⟩) ?_
   rintro fu2 e1 _ _ ⟨i, r5, rfl, rfl, he6⟩
   refine shW_env _ he6 ?_; clear he6
   rcases fu2 with _ | fu2
   · rw [slices_IsSorted_int_int_l2] at r5; cases r5
   rw [slices_IsSorted_int_int_l2] at r5
   refine shW_seq (wsr (om rfl rfl ?_))
   refine ov (v_gtrK rfl rfl) rfl ?_
   refine shO_nil ?_
   refine shW_condP rfl (fun c7 => ?_) (fun c7 => ?_)
   · have r8 := ite_t r5 c7; clear r5
     refine shW_skip (shW_seq ?_)
     refine shW_block ?_
     refine wsd (by kernel_rfl) (by kernel_rfl) (by kernel_rfl) ?_
     refine qm rfl rfl (qm rfl rfl ?_)
     obtain ⟨x2, g9, hx10, r11⟩ := ix_ok r8; clear r8
     obtain ⟨b12, o13, c14, vs15, ha16, hs17, hle18, rfl, hl19, hc20⟩ := RowR.at (iE_ok _) h_x ([]) g9.1 hx10
     refine qv (v_indexO Tryz.underlying28 Tryz.sizeOf3 rfl ha16 rfl g9) rfl ?_
     refine qv (v_load Tryz.isAgg3 rfl hs17 (hc20 0 (by decide))) rfl ?_
     refine qm rfl rfl (qm rfl rfl ?_)
     obtain ⟨g21, r22⟩ := gd_ok r11; clear r11
     refine qv (v_sub rfl rfl g21) rfl ?_
     obtain ⟨x3, g23, hx24, r25⟩ := ix_ok r22; clear r22
     obtain ⟨b26, o27, c28, vs29, ha30, hs31, hle32, rfl, hl33, hc34⟩ := RowR.at (iE_ok _) h_x ([]) g23.1 hx24
     refine qv (v_indexO Tryz.underlying28 Tryz.sizeOf3 rfl ha30 rfl g23) rfl ?_
     refine qv (v_load Tryz.isAgg3 rfl hs31 (hc34 0 (by decide))) rfl ?_
     obtain ⟨ok, h35, r36⟩ := b1_ok r25; clear r25
     refine shQ_callV rfl Tryz.call74 rfl rfl rfl (cmp_Less_int_w h35) ?_
     refine shQ_nil ?_
     refine shW_cond rfl (fun c37 => ?_) (fun c37 => ?_)
     · have r38 := bt r36 c37; clear r36
       refine wsr (oa rfl rfl (shO_nil (shW_ret (inBlock_ret (andThen_ret (andThen_ret (inBlock_ret (andThen_ret ?_))))))))
       refine q_res1 Tryz.results26 (res_tmp rfl) (sr) ?_
       obtain rfl := inj1 r38
       exact rfl
     have r39 := bf r36 c37; clear r36
     refine shW_skip (inBlock_n (id := 1) (shW_region (om rfl rfl ?_)))
     obtain ⟨g40, r41⟩ := gd_ok r39; clear r39
     refine ov (v_sub rfl rfl g40) rfl ?_
     refine oa rfl rfl (shO_nil ?_)
     exact le kr ⟨i - 1, r41, rfl, rfl, (sc rfl (sc rfl (sn _)))⟩
   have r42 := ite_f r5 c7; clear r5
   refine shW_exit (andThen_exit (andThen_exit ?_))
   refine inBlock_exit ?_
   exact mi kr ⟨r42, rfl, rfl, (sn _)⟩
 rintro e1 _ _ ⟨r43, rfl, rfl, he44⟩
 refine shW_env _ he44 ?_; clear he44
 rw [slices_IsSorted_int_int_j1] at r43
 refine wsr (oa rfl rfl (shO_nil (shW_ret ?_)))
 refine q_res1 Tryz.results26 (res_tmp rfl) (sr) ?_
 obtain rfl := inj1 r43
 exact rfl
set_option maxHeartbeats 1000000 in
theorem oyezlaw01_streets_w {wide : Int} {plots_a : Option Addr} {plots_c : Nat} {plots : List Int} {F : FS} (h_plots : RowR 1 (iE .i64) F plots_a plots_c plots) {r : List Int} (hr : oyezlaw01_streets wide plots = some r) :
    SH.Spec Tryz.prog 75 #[.agg #[.int .i64 wide, .slice plots_a plots.length plots_c]] F [] fun F' L' v => ∃ (ra : Option Addr) (rn : Nat) (rc : Nat) (rL : LH), v = .slice ra rn rc ∧ L' = rL ++ [] ∧ SlR 0 3 1 (iE .i64) F' ra rn rc r rL := by
 refine spec_of_shW (args := [.agg #[.int .i64 wide, .slice plots_a plots.length plots_c]]) Tryz.func75 rfl Tryz.ntmps75 (Nat.le_of_ble_eq_true rfl) ?_
 intro K _ _; rw [oyezlaw01_streets] at hr
 refine wsr ?_
 refine o_box rfl rfl ?_; intro b1 hb1
 refine oa rfl rfl (nsr (oa rfl rfl (shO_nil ?_)))
 obtain ⟨out, h8, r9⟩ := b1_ok hr; clear hr
 refine shW_join (fun e1 F1 L1 => ∃ (a2 : Option Addr) (n6 : Nat) (c3 : Nat) (Lb4 : LH), F = F1 ∧ L1 = (Lb4 ++ []) ∧ e1.sub [(3, .slice a2 n6 c3)] ∧ SlR K.w0.heap.size 3 1 (iE .i64) F1 a2 n6 c3 out Lb4) ?_ ?_
 · clear r9
   refine wsr ?_
   refine ov (v_fieldAddr fa_24_1 rfl) rfl ?_
   refine ov (v_load Tryz.isAgg22 rfl (Has.own 0 rfl) rfl) rfl ?_
   refine ov (v_lenS Tryz.underlying22 rfl) rfl ?_
   refine om rfl rfl (shO_nil ?_)
   refine shW_block ?_
   refine kW kn ?_
   refine shW_lp (fun fu1 e1 F1 L1 => ∃ (tl : List Int) (k : Int), tl.length = fu1 ∧ Lst plots k tl ∧ ∃ (out2 : List Int) (a10 : Option Addr) (n14 : Nat) (c11 : Nat) (Lb12 : LH), oyezlaw01_streets_l1 tl k out2 = some out ∧ F = F1 ∧ L1 = (Lb12 ++ []) ∧ e1.sub [(3, .slice a10 n14 c11), (7, .slice plots_a plots.length plots_c), (8, .int .i64 (plots.length : Int)), (9, .int .i64 k)] ∧ SlR K.w0.heap.size 3 1 (iE .i64) F1 a10 n14 c11 out2 Lb12) _ (m0 (ke kr) ⟨_, _, rfl, Lst.start _, [], none, 0, 0, [], h8, rfl, rfl, (sc rfl (sc rfl (sc rfl (sc rfl (sn _))))), SlR.nil _ _ _ _ _⟩) ?_
   rintro fu1 e1 _ _ ⟨tl, k, hn17, hk16, out2, a10, n14, c11, Lb12, r18, rfl, rfl, he19, hz13⟩
   refine shW_env _ he19 ?_; clear he19
   refine wsr ?_
   refine ov (v_lssK rfl rfl) rfl ?_
   refine shO_nil (shW_seq ?_)
   refine shW_condP rfl (fun c21 => ?_) (fun c21 => ?_)
   · obtain ⟨x, tl2, rfl, hx23, g24, hk22⟩ := Lst.succ hk16 c21
     rw [oyezlaw01_streets_l1] at r18
     refine shW_skip (shW_seq ?_)
     refine shW_block ?_
     refine wsr (om rfl rfl ?_)
     obtain ⟨b25, o26, c27, vs28, ha29, hs30, hle31, rfl, hl32, hc33⟩ := RowR.at (iE_ok _) h_plots (Lb12 ++ []) g24.1 hx23
     refine ov (v_indexO Tryz.underlying22 Tryz.sizeOf61 rfl ha29 rfl g24) rfl ?_
     refine ov (v_load Tryz.isAgg61 rfl hs30 (hc33 0 (by decide))) rfl ?_
     refine oa rfl rfl (oa rfl rfl (nsr (om rfl rfl ?_)))
     refine ov (v_eql rfl rfl) rfl ?_
     refine shO_nil ?_
     refine shW_condP rfl (fun c34 => ?_) (fun c34 => ?_)
     · have r35 := ite_t r18 c34; clear r18
       refine shW_region (om rfl rfl (om rfl rfl ?_))
       refine o_buildSlice (cs := #[.int .i64 k]) rfl rfl (buildSlice_all slt_28 [.int .i64 k] rfl (by decide) (by simp [Value.cells]) (by decide)) ?_; intro b36 hb36
       obtain ⟨out3, h37, g38, r39⟩ := ap_ok r35; clear r35
       refine o_appZ (xs := out2) (ys := [k]) (zs := out3) rfl slt_28 rfl rfl (Nat.le_refl _) (fun _ => .c .h) hz13 (SrcR.box (vss := [[.int .i64 k]]) (ys := [k]) 0 rfl (iE_ok _) (.cons rfl .nil) rfl rfl) h37 g38 (by decide) ?_; intro a40 n44 c41 Lb42 hz43
       refine kO (kd kr) ?_
       refine oa rfl rfl (shO_nil (inBlock_n (id := 1) (shW_region ?_)))
       refine ov (v_add rfl rfl (Lst.r64 hk16 c21 (RowR.lt h_plots))) rfl ?_
       refine om rfl rfl (shO_nil ?_)
       subst hn17; exact le kr ⟨_, _, rfl, hk22, out3, a40, n44, c41, Lb42, r39, rfl, rfl, (sc rfl (sc rfl (sc rfl (sc rfl (sn _))))), hz43⟩
     have r46 := ite_f r18 c34; clear r18
     refine shW_skip (inBlock_n (id := 1) (shW_region ?_))
     refine ov (v_add rfl rfl (Lst.r64 hk16 c21 (RowR.lt h_plots))) rfl ?_
     refine om rfl rfl (shO_nil ?_)
     subst hn17; exact le kr ⟨_, _, rfl, hk22, out2, a10, n14, c11, Lb12, r46, rfl, rfl, (sc rfl (sc rfl (sc rfl (sc rfl (sn _))))), hz13⟩
   obtain rfl := Lst.zero hk16 c21
   rw [oyezlaw01_streets_l1] at r18
   refine shW_exit (andThen_exit (andThen_exit ?_))
   refine inBlock_exit ?_
   obtain rfl := inj1 r18
   exact mi kr ⟨a10, n14, c11, Lb12, rfl, rfl, (sc rfl (sn _)), hz13⟩
 rintro e1 _ _ ⟨a2, n6, c3, Lb4, rfl, rfl, he47, hz5⟩
 refine shW_env _ he47 ?_; clear he47
 refine wsr (om rfl rfl (oa rfl rfl (shO_nil (shW_ret ?_))))
 refine q_res1 Tryz.results75 (res_tmp rfl) (sr) ?_
 obtain rfl := inj1 r9
 exact ⟨_, _, _, _, rfl, rfl, hz5.any⟩
set_option maxHeartbeats 1000000 in
theorem oyezkit_Bell_Rung_w {b_b : Nat} {metal_a : Option Addr} {metal_c : Nat} {metal : List Int} {at_ : Int} {turn : Int} {n : Int} {F : FS} (h_metal : RowR 1 (iE .u8) F metal_a metal_c metal) {r : List Int} {r2 : Int} {r3 : Int} (hr : oyezkit_Bell_Rung metal at_ turn n = some (r, r2, r3)) :
    SH.Spec Tryz.prog 76 #[.pointer (some ⟨b_b, 0, none⟩), .int .i64 n] F [(b_b, .cells #[.slice metal_a metal.length metal_c, .int .i64 at_, .int .u32 turn] 101 (0, 0))] fun F' L' v => ∃ (ra : Option Addr) (rn : Nat) (rc : Nat) (rL : LH), v = .slice ra rn rc ∧ L' = (b_b, .cells #[.slice metal_a metal.length metal_c, .int .i64 r2, .int .u32 r3] 101 (0, 0)) :: (rL ++ []) ∧ SlR 0 3 1 (iE .i64) F' ra rn rc r rL := by
 refine spec_of_shW (args := [.pointer (some ⟨b_b, 0, none⟩), .int .i64 n]) Tryz.func76 rfl Tryz.ntmps76 (Nat.le_of_ble_eq_true rfl) ?_
 intro K _ _; rw [oyezkit_Bell_Rung] at hr
 refine wsr (oa rfl rfl (nsr (oa rfl rfl (shO_nil ?_))))
 obtain ⟨out, b_at, b_turn, h7, r8⟩ := b3_ok hr; clear hr
 refine shW_join (fun e1 F1 L1 => ∃ (a1 : Option Addr) (n5 : Nat) (c2 : Nat) (Lb3 : LH), FExt F F1 ∧ L1 = ((b_b, .cells #[.slice metal_a metal.length metal_c, .int .i64 b_at, .int .u32 b_turn] 101 (0, 0)) :: (Lb3 ++ [])) ∧ e1.sub [(5, .slice a1 n5 c2)] ∧ SlR K.w0.heap.size 3 1 (iE .i64) F1 a1 n5 c2 out Lb3) ?_ ?_
 · clear r8
   refine wsr (om rfl rfl ?_)
   refine ov (v_max2 rfl rfl) rfl ?_
   refine om rfl rfl (shO_nil ?_)
   refine shW_block ?_
   obtain ⟨g15, r16⟩ := gd_ok h7; clear h7
   refine shW_lp (fun fu1 e1 F1 L1 => ∃ (k : Int), Ctr 0 (if n > 0 then n else 0) k fu1 ∧ ∃ (b_at2 : Int) (b_turn2 : Int) (out2 : List Int) (a9 : Option Addr) (n13 : Nat) (c10 : Nat) (Lb11 : LH), oyezkit_Bell_Rung_l1 metal fu1 k b_at2 b_turn2 out2 = some (out, b_at, b_turn) ∧ FExt F F1 ∧ L1 = ((b_b, .cells #[.slice metal_a metal.length metal_c, .int .i64 b_at2, .int .u32 b_turn2] 101 (0, 0)) :: (Lb11 ++ [])) ∧ e1.sub [(0, .pointer (some ⟨b_b, 0, none⟩)), (5, .slice a9 n13 c10), (9, .int .i64 (if n > 0 then n else 0)), (10, .int .i64 k)] ∧ SlR K.w0.heap.size 3 1 (iE .i64) F1 a9 n13 c10 out2 Lb11) _ (m0 (kc (ke kr)) ⟨_, Ctr.start _ _, at_, turn, [], none, 0, 0, [], r16, FExt.refl _, rfl, (sc rfl (sc rfl (sc rfl (sc rfl (sn _))))), SlR.nil _ _ _ _ _⟩) ?_
   rintro fu1 e1 F21 _ ⟨k, hk17, b_at2, b_turn2, out2, a9, n13, c10, Lb11, r19, hF22, rfl, he20, hz12⟩
   refine shW_env _ he20 ?_; clear he20
   replace h_metal := h_metal.mono (iE_ok _) hF22
   refine wsr ?_
   refine ov (v_lssK rfl rfl) rfl ?_
   refine shO_nil (shW_seq ?_)
   refine shW_condP rfl (fun c24 => ?_) (fun c24 => ?_)
   · obtain ⟨fu1, rfl, hk25⟩ := Ctr.succ hk17 c24
     rw [oyezkit_Bell_Rung_l1] at r19
     refine shW_skip (shW_seq ?_)
     refine shW_block ?_
     refine wsr (om rfl rfl (oa rfl rfl (nsr (om rfl rfl (om rfl rfl ?_)))))
     obtain ⟨n2, at_2, turn2, h26, r27⟩ := b3_ok r19; clear r19
     refine o_callG (Lb := [(b_b, .cells #[.slice metal_a metal.length metal_c, .int .i64 b_at2, .int .u32 b_turn2] 101 (0, 0))]) (Lr := Lb11 ++ []) rfl Tryz.call66 rfl rfl rfl (pR) (oyezkit_Bell_Stroke_w h_metal h26) ?_; rintro _ F28 _ hF29 hd31 hn30 ⟨rfl, rfl⟩
     replace hz12 := hz12.mono (iE_ok _) hF29
     refine shO_L (lb (ln rfl)) ?_
     refine oa rfl rfl (nsr (om rfl rfl (om rfl rfl ?_)))
     refine o_buildSlice (cs := #[.int .i64 k]) rfl rfl (buildSlice_all slt_28 [.int .i64 k] rfl (by decide) (by simp [Value.cells]) (by decide)) ?_; intro b32 hb32
     obtain ⟨out3, h33, g34, r35⟩ := ap_ok r27; clear r27
     refine o_appZ (xs := out2) (ys := [k]) (zs := out3) rfl slt_28 rfl rfl (Nat.le_refl _) (fun _ => .c (.c .h)) hz12 (SrcR.box (vss := [[.int .i64 k]]) (ys := [k]) 0 rfl (iE_ok _) (.cons rfl .nil) rfl rfl) h33 g34 (by decide) ?_; intro a36 n40 c37 Lb38 hz39
     refine kO (kd kr) ?_
     refine oa rfl rfl (shO_nil ?_)
     refine shW_drawM [(.still, 0), (.still, 1), (.still, 2), (.still, 3), (.still, 4), (.still, 5), (.still, 6), (.still, 7), (.still, 8), (.still, 9), (.still, 10), (.still, 11), (.still, 12), (.seq, 13), (.still, 14), (.seq, 15)] (by kernel_rfl) (by kernel_rfl) (trivial) (by rfl) (by kernel_rfl) ?_
     refine shM_v (v := .slice a36 n40 c37) (ek := [(5, .slice a36 n40 c37)]) (Ls := []) rfl rfl rfl rfl ((sc rfl (sn _))) (by kernel_rfl) sm (fun H F' L' hF' hL' => v_move rfl) ?_
     refine shM_v (v := .int .i64 n2) (ek := [(7, .int .i64 n2)]) (Ls := []) rfl rfl rfl rfl ((sc rfl (sn _))) (by kernel_rfl) sm (fun H F' L' hF' hL' => v_move rfl) ?_
     refine shM_v (v := .slice a36 n40 c37) (ek := [(5, .slice a36 n40 c37)]) (Ls := []) rfl rfl rfl rfl ((sc rfl (sn _))) (by kernel_rfl) sm (fun H F' L' hF' hL' => v_move rfl) ?_
     refine shM_v (v := .int .i64 k) (ek := [(6, .int .i64 k)]) (Ls := []) rfl rfl rfl rfl ((sc rfl (sn _))) (by kernel_rfl) sm (fun H F' L' hF' hL' => v_move rfl) ?_
     refine shM_v (v := .slice a36 n40 c37) (ek := [(5, .slice a36 n40 c37)]) (Ls := []) rfl rfl rfl rfl ((sc rfl (sn _))) (by kernel_rfl) sm (fun H F' L' hF' hL' => v_move rfl) ?_
     refine shM_v (v := .int .i64 k) (ek := [(6, .int .i64 k)]) (Ls := []) rfl rfl rfl rfl ((sc rfl (sn _))) (by kernel_rfl) sm (fun H F' L' hF' hL' => v_move rfl) ?_
     obtain ⟨x, g42, hx43, r44⟩ := ix_ok r35; clear r35
     obtain ⟨b45, o46, c47, vs48, ha49, hs50, hle51, rfl, hl52, hc53⟩ := SlR.at (iE_ok _) hz39 (L := Lb38 ++ []) fP g42.1 hx43
     refine shM_v (v := .pointer (some ⟨b45, o46 + (k : Int).toNat * 1, none⟩)) (ek := [(24, .slice a36 n40 c37), (25, .int .i64 k)]) (Ls := []) rfl rfl rfl rfl ((sc rfl (sc rfl (sn _)))) (by kernel_rfl) sm (fun H F' L' hF' hL' => v_indexO Tryz.underlying28 Tryz.sizeOf3 rfl ha49 rfl (SlR.idx hz39 g42)) ?_
     refine shM_v (v := .int .i64 x) (ek := [(26, .pointer (some ⟨b45, o46 + (k : Int).toNat * 1, none⟩))]) (Ls := Lb38 ++ []) rfl rfl rfl rfl ((sc rfl (sn _))) (by kernel_rfl) (s0 (s1 (s4 sr))) (fun H F' L' hF' hL' => v_load Tryz.isAgg3 rfl (hs50.ext hF' hL') (hc53 0 (by decide))) ?_
     refine shM_v (v := .slice a36 n40 c37) (ek := [(5, .slice a36 n40 c37)]) (Ls := []) rfl rfl rfl rfl ((sc rfl (sn _))) (by kernel_rfl) sm (fun H F' L' hF' hL' => v_move rfl) ?_
     refine shM_v (v := .int .i64 n2) (ek := [(7, .int .i64 n2)]) (Ls := []) rfl rfl rfl rfl ((sc rfl (sn _))) (by kernel_rfl) sm (fun H F' L' hF' hL' => v_move rfl) ?_
     obtain ⟨x2, g54, hx55, r56⟩ := ix_ok r44; clear r44
     obtain ⟨b57, o58, c59, vs60, ha61, hs62, hle63, rfl, hl64, hc65⟩ := SlR.at (iE_ok _) hz39 (L := Lb38 ++ []) fP g54.1 hx55
     refine shM_v (v := .pointer (some ⟨b57, o58 + (n2 : Int).toNat * 1, none⟩)) (ek := [(28, .slice a36 n40 c37), (29, .int .i64 n2)]) (Ls := []) rfl rfl rfl rfl ((sc rfl (sc rfl (sn _)))) (by kernel_rfl) sm (fun H F' L' hF' hL' => v_indexO Tryz.underlying28 Tryz.sizeOf3 rfl ha61 rfl (SlR.idx hz39 g54)) ?_
     refine shM_v (v := .int .i64 x2) (ek := [(30, .pointer (some ⟨b57, o58 + (n2 : Int).toNat * 1, none⟩))]) (Ls := Lb38 ++ []) rfl rfl rfl rfl ((sc rfl (sn _))) (by kernel_rfl) (s0 (s1 (s4 sr))) (fun H F' L' hF' hL' => v_load Tryz.isAgg3 rfl (hs62.ext hF' hL') (hc65 0 (by decide))) ?_
     obtain ⟨b66, o67, c68, vs69, ha70, hs71, hle72, rfl, hl73, hc74⟩ := SlR.at (iE_ok _) hz39 (L := Lb38 ++ []) fP g54.1 hx55
     refine shM_v (v := .pointer (some ⟨b66, o67 + (n2 : Int).toNat * 1, none⟩)) (ek := [(20, .slice a36 n40 c37), (21, .int .i64 n2)]) (Ls := []) rfl rfl rfl rfl ((sc rfl (sc rfl (sn _)))) (by kernel_rfl) sm (fun H F' L' hF' hL' => v_indexO Tryz.underlying28 Tryz.sizeOf3 rfl ha70 rfl (SlR.idx hz39 g54)) ?_
     refine ⟨_, [(27, .int .i64 x), (32, .pointer (some ⟨b66, o67 + (n2 : Int).toNat * 1, none⟩))], rfl, rfl, (sc rfl (sc rfl (sn _))), by kernel_rfl, ?_⟩; intro H
     obtain ⟨l, h75, r76⟩ := bv_ok r56; clear r56
     refine o_storeZ (u := x) Tryz.sizeOf3 (iE_ok _) rfl ha70 rfl rfl (fun _ => .c .h) hz39 h75 g54 ?_; intro Lb77 hz78
     refine shO_nil ⟨undef, rfl, FExt.refl _, [3, 2], by kernel_rfl, .inl (.inr (fun d h => by cases h)), (List.forall_mem_cons.2 ⟨sm, (List.forall_mem_cons.2 ⟨sm, (fun _ h => absurd h List.not_mem_nil)⟩)⟩), ?_⟩
     obtain ⟨x3, g79, hx80, r81⟩ := ix_ok r76; clear r76
     obtain ⟨b82, o83, c84, vs85, ha86, hs87, hle88, rfl, hl89, hc90⟩ := SlR.at (iE_ok _) hz78 (L := Lb77 ++ []) fP g79.1 hx80
     refine shM_v (v := .pointer (some ⟨b82, o83 + (k : Int).toNat * 1, none⟩)) (ek := [(22, .slice a36 n40 c37), (23, .int .i64 k)]) (Ls := []) rfl rfl rfl rfl ((sc rfl (sc rfl (sn _)))) (by kernel_rfl) sm (fun H F' L' hF' hL' => v_indexO Tryz.underlying28 Tryz.sizeOf3 rfl ha86 rfl (SlR.idx hz78 g79)) ?_
     refine ⟨_, [(31, .int .i64 x2), (33, .pointer (some ⟨b82, o83 + (k : Int).toNat * 1, none⟩))], rfl, rfl, (sc rfl (sc rfl (sn _))), by kernel_rfl, ?_⟩; intro H
     obtain ⟨l2, h91, r92⟩ := bv_ok r81; clear r81
     refine o_storeZ (u := x2) Tryz.sizeOf3 (iE_ok _) rfl ha86 rfl rfl (fun _ => .c .h) hz78 h91 g79 ?_; intro Lb93 hz94
     refine shO_nil ⟨undef, rfl, FExt.refl _, [], by kernel_rfl, .inl (.inl rfl), (fun _ h => absurd h List.not_mem_nil), ?_⟩
     refine shM_nil ?_
     refine inBlock_n (id := 1) (shW_region ?_)
     refine ov (v_add rfl rfl (Ctr.r64 hk17 c24 g15)) rfl ?_
     refine om rfl rfl (shO_nil ?_)
     exact le kr ⟨_, hk25, at_2, turn2, l2, a36, n40, c37, Lb93, r92, (hF22.trans hF29), rfl, (sc rfl (sc rfl (sc rfl (sc rfl (sn _))))), hz94⟩
   obtain rfl := Ctr.zero hk17 c24
   rw [oyezkit_Bell_Rung_l1] at r19
   refine shW_exit (andThen_exit (andThen_exit ?_))
   refine inBlock_exit ?_
   obtain ⟨rfl, rfl, rfl⟩ := inj3 r19
   exact mi kr ⟨a9, n13, c10, Lb11, hF22, rfl, (sc rfl (sn _)), hz12⟩
 rintro e1 F96 _ ⟨a1, n5, c2, Lb3, hF97, rfl, he95, hz4⟩
 refine shW_env _ he95 ?_; clear he95
 refine wsr (om rfl rfl (oa rfl rfl (shO_nil (shW_ret ?_))))
 refine q_res1 Tryz.results76 (res_tmp rfl) (sr) ?_
 obtain ⟨rfl, rfl, rfl⟩ := inj3 r8
 exact ⟨_, _, _, _, rfl, rfl, hz4.any⟩
set_option maxHeartbeats 1000000 in
theorem oyezlaw01_some_w {b_b : Nat} {metal_a : Option Addr} {metal_c : Nat} {metal : List Int} {at_ : Int} {turn : Int} {wide : Int} {plots_a : Option Addr} {plots_c : Nat} {plots : List Int} {most : Int} {F : FS} (h_metal : RowR 1 (iE .u8) F metal_a metal_c metal) (h_plots : RowR 1 (iE .i64) F plots_a plots_c plots) {r : List Int} {r2 : Int} {r3 : Int} (hr : oyezlaw01_some metal at_ turn wide plots most = some (r, r2, r3)) :
    SH.Spec Tryz.prog 27 #[.pointer (some ⟨b_b, 0, none⟩), .agg #[.int .i64 wide, .slice plots_a plots.length plots_c], .int .i64 most] F [(b_b, .cells #[.slice metal_a metal.length metal_c, .int .i64 at_, .int .u32 turn] 101 (0, 0))] fun F' L' v => ∃ (ra : Option Addr) (rn : Nat) (rc : Nat) (rL : LH), v = .slice ra rn rc ∧ L' = (b_b, .cells #[.slice metal_a metal.length metal_c, .int .i64 r2, .int .u32 r3] 101 (0, 0)) :: (rL ++ []) ∧ SlR 0 3 1 (iE .i64) F' ra rn rc r rL := by
 refine spec_of_shW (args := [.pointer (some ⟨b_b, 0, none⟩), .agg #[.int .i64 wide, .slice plots_a plots.length plots_c], .int .i64 most]) Tryz.func27 rfl Tryz.ntmps27 (Nat.le_of_ble_eq_true rfl) ?_
 intro K _ _; rw [oyezlaw01_some] at hr
 refine wsr ?_
 refine o_box rfl rfl ?_; intro b1 hb1
 refine oa rfl rfl (nsr ?_)
 refine ov (v_loadA (cs := #[.int .i64 wide, .slice plots_a plots.length plots_c]) Tryz.isAgg24 Tryz.sizeOf24 rfl (Has.own 0 rfl) (Nat.le_of_ble_eq_true rfl) rfl) rfl ?_
 obtain ⟨l, h2, r4⟩ := b1_ok hr; clear hr
 refine o_call0 rfl Tryz.call75 rfl rfl rfl (oyezlaw01_streets_w h_plots h2) ?_; rintro _ F5 _ hF6 hn7 ⟨a9, n13, c10, Lb11, rfl, rfl, hz12⟩
 replace h_metal := h_metal.mono (iE_ok _) hF6
 replace hz12 := hz12.new fun p hp => hn7 p (by simp [hp])
 refine shO_L (lp (ln rfl)) ?_
 refine kO (kf (fS fO) (kf (fS fO) kr)) ?_
 refine oa rfl rfl (nsr (oa rfl rfl (shO_nil ?_)))
 obtain ⟨out, b_at, b_turn, h21, r22⟩ := b3_ok r4; clear r4
 refine shW_join (fun e1 F1 L1 => ∃ (a15 : Option Addr) (n19 : Nat) (c16 : Nat) (Lb17 : LH), FExt F5 F1 ∧ L1 = ((b_b, .cells #[.slice metal_a metal.length metal_c, .int .i64 b_at, .int .u32 b_turn] 101 (0, 0)) :: (Lb17 ++ [])) ∧ e1.sub [(8, .slice a15 n19 c16)] ∧ SlR K.w0.heap.size 3 1 (iE .i64) F1 a15 n19 c16 out Lb17) ?_ ?_
 · clear r22
   refine wsr (om rfl rfl (om rfl rfl ?_))
   refine ov ((v_lenS Tryz.underlying28 rfl).i (SlR.lenI hz12)) rfl ?_
   obtain ⟨l2, at_2, turn2, h23, r24⟩ := b3_ok h21; clear h21
   refine o_callG (Lb := [(b_b, .cells #[.slice metal_a metal.length metal_c, .int .i64 at_, .int .u32 turn] 101 (0, 0))]) (Lr := (b1, .cells #[.int .i64 wide, .slice plots_a plots.length plots_c] 24 (0, 0)) :: (Lb11 ++ [])) rfl Tryz.call76 rfl rfl rfl (((fC fO).trans (pC pR))) (oyezkit_Bell_Rung_w h_metal h23) ?_; rintro _ F25 _ hF26 hd28 hn27 ⟨a29, n33, c30, Lb31, rfl, rfl, hz32⟩
   replace h_metal := h_metal.mono (iE_ok _) hF26
   replace hz12 := hz12.mono (iE_ok _) hF26
   have hn35 := newp (Lb' := [(b_b, .cells #[.slice metal_a metal.length metal_c, .int .i64 at_2, .int .u32 turn2] 101 (0, 0))]) (by rfl) hd28 hn27
   replace hz32 := hz32.new fun p hp => hn35 p (by simp [hp])
   refine shO_L (lb (lp (ln rfl))) ?_
   refine kO (kc (kf (fS fO) kr)) ?_
   refine om rfl rfl (om rfl rfl (om rfl rfl ?_))
   refine ov ((v_lenS Tryz.underlying28 rfl).i (SlR.lenI hz12)) rfl ?_
   refine ov (v_min2 rfl rfl) rfl ?_
   obtain ⟨n, at_3, turn3, h36, r37⟩ := b3_ok r24; clear r24
   refine o_callG (Lb := [(b_b, .cells #[.slice metal_a metal.length metal_c, .int .i64 at_2, .int .u32 turn2] 101 (0, 0))]) (Lr := (b1, .cells #[.int .i64 wide, .slice plots_a plots.length plots_c] 24 (0, 0)) :: (Lb31 ++ (Lb11 ++ []))) rfl Tryz.call66 rfl rfl rfl (pR) (oyezkit_Bell_Stroke_w h_metal h36) ?_; rintro _ F38 _ hF39 hd41 hn40 ⟨rfl, rfl⟩
   replace hz12 := hz12.mono (iE_ok _) hF39
   replace hz32 := hz32.mono (iE_ok _) hF39
   refine shO_L (lb (ln rfl)) ?_
   obtain ⟨g42, r43⟩ := gd_ok r37; clear r37
   obtain ⟨l3, h44, r45⟩ := bv_ok r43; clear r43
   refine o_sliceZ (l := 0) (h := n) (zs := l3) rfl slt_28 (iE_ok _) rfl (.inl ⟨rfl, rfl⟩) (.inr ⟨_, rfl, rfl⟩) (fun _ => .c (.c .h)) hz32 g42 h44 ?_; intro a46 n49 c47 Lb50 h48
   refine ov ((v_lenS Tryz.underlying28 rfl).i (SlR.lenI h48)) rfl ?_
   refine om rfl rfl (shO_nil ?_)
   refine shW_block ?_
   refine kW (kc (kd kr)) ?_
   refine shW_lp (fun fu1 e1 F1 L1 => ∃ (tl : List Int) (k : Int), tl.length = fu1 ∧ Lst l3 k tl ∧ ∃ (out2 : List Int) (a52 : Option Addr) (n56 : Nat) (c53 : Nat) (Lb54 : LH), oyezlaw01_some_l1 l at_3 turn3 tl out2 = some (out, b_at, b_turn) ∧ F38 = F1 ∧ L1 = ((b_b, .cells #[.slice metal_a metal.length metal_c, .int .i64 at_3, .int .u32 turn3] 101 (0, 0)) :: (Lb11 ++ (Lb54 ++ (Lb50 ++ [])))) ∧ e1.sub [(7, .slice a9 n13 c10), (8, .slice a52 n56 c53), (23, .slice a46 n49 c47), (24, .int .i64 (l3.length : Int)), (25, .int .i64 k)] ∧ SlR K.w0.heap.size 3 1 (iE .i64) F1 a52 n56 c53 out2 Lb54) _ (m0 (kc (kg (fS fP) (ke kr))) ⟨_, _, rfl, Lst.start _, [], none, 0, 0, [], r45, rfl, rfl, (sc rfl (sc rfl (sc rfl (sc rfl (sc rfl (sn _)))))), SlR.nil _ _ _ _ _⟩) ?_
   rintro fu1 e1 _ _ ⟨tl, k, hn59, hk58, out2, a52, n56, c53, Lb54, r60, rfl, rfl, he61, hz55⟩
   refine shW_env _ he61 ?_; clear he61
   refine wsr ?_
   refine ov (v_lssK rfl rfl) rfl ?_
   refine shO_nil (shW_seq ?_)
   refine shW_condP rfl (fun c63 => ?_) (fun c63 => ?_)
   · obtain ⟨x, tl2, rfl, hx65, g66, hk64⟩ := Lst.succ hk58 c63
     rw [oyezlaw01_some_l1] at r60
     refine shW_skip (shW_seq ?_)
     refine shW_block ?_
     refine wsr ?_
     obtain ⟨b67, o68, c69, vs70, ha71, hs72, hle73, rfl, hl74, hc75⟩ := SlR.at (iE_ok _) h48 (L := (b_b, .cells #[.slice metal_a metal.length metal_c, .int .i64 at_3, .int .u32 turn3] 101 (0, 0)) :: (Lb11 ++ (Lb54 ++ (Lb50 ++ [])))) (fC (fS (fS fP))) g66.1 hx65
     refine ov (v_indexO Tryz.underlying28 Tryz.sizeOf3 rfl ha71 rfl (SlR.idx h48 g66)) rfl ?_
     refine ov (v_load Tryz.isAgg3 rfl hs72 (hc75 0 (by decide))) rfl ?_
     refine oa rfl rfl (shO_nil (shW_region (om rfl rfl (om rfl rfl (om rfl rfl ?_)))))
     obtain ⟨x2, g76, hx77, r78⟩ := ix_ok r60; clear r60
     obtain ⟨b79, o80, c81, vs82, ha83, hs84, hle85, rfl, hl86, hc87⟩ := SlR.at (iE_ok _) hz12 (L := (b_b, .cells #[.slice metal_a metal.length metal_c, .int .i64 at_3, .int .u32 turn3] 101 (0, 0)) :: (Lb11 ++ (Lb54 ++ (Lb50 ++ [])))) (fC fP) g76.1 hx77
     refine ov (v_indexO Tryz.underlying28 Tryz.sizeOf3 rfl ha83 rfl (SlR.idx hz12 g76)) rfl ?_
     refine ov (v_load Tryz.isAgg3 rfl hs84 (hc87 0 (by decide))) rfl ?_
     refine o_buildSlice (cs := #[.int .i64 x2]) rfl rfl (buildSlice_all slt_28 [.int .i64 x2] rfl (by decide) (by simp [Value.cells]) (by decide)) ?_; intro b88 hb88
     obtain ⟨out3, h89, g90, r91⟩ := ap_ok r78; clear r78
     refine o_appZ (xs := out2) (ys := [x2]) (zs := out3) rfl slt_28 rfl rfl (Nat.le_refl _) (fun _ => .c (.c (.s .h))) hz55 (SrcR.box (vss := [[.int .i64 x2]]) (ys := [x2]) 0 rfl (iE_ok _) (.cons rfl .nil) rfl rfl) h89 g90 (by decide) ?_; intro a92 n96 c93 Lb94 hz95
     refine kO (kd kr) ?_
     refine oa rfl rfl (shO_nil (inBlock_n (id := 1) (shW_region ?_)))
     refine ov (v_add rfl rfl (Lst.r64 hk58 c63 (SlR.llt h48))) rfl ?_
     refine om rfl rfl (shO_nil ?_)
     subst hn59; exact le kr ⟨_, _, rfl, hk64, out3, a92, n96, c93, Lb94, r91, rfl, rfl, (sc rfl (sc rfl (sc rfl (sc rfl (sc rfl (sn _)))))), hz95⟩
   obtain rfl := Lst.zero hk58 c63
   rw [oyezlaw01_some_l1] at r60
   refine shW_exit (andThen_exit (andThen_exit ?_))
   refine inBlock_exit ?_
   obtain ⟨rfl, rfl, rfl⟩ := inj3 r60
   exact mi (kc (kx (ka kn))) ⟨a52, n56, c53, Lb54, (hF26.trans hF39), rfl, (sc rfl (sn _)), hz55⟩
 rintro e1 F99 _ ⟨a15, n19, c16, Lb17, hF100, rfl, he98, hz18⟩
 refine shW_env _ he98 ?_; clear he98
 refine wsr (om rfl rfl ?_)
 obtain ⟨s_, h101, r102⟩ := b1_ok r22; clear r22
 refine o_callG (Lb := Lb17 ++ []) (Lr := [(b_b, .cells #[.slice metal_a metal.length metal_c, .int .i64 b_at, .int .u32 b_turn] 101 (0, 0))]) rfl Tryz.call53 rfl rfl rfl (pT ((fC fP).trans (pA pR)) (lp (ln rfl))) (slices_Sort_int_int_w hz18 h101) ?_; rintro _ F103 _ hF104 hd106 hn105 ⟨Lb107, rfl, rfl, hz108⟩
 refine shO_L (lp (ln rfl)) ?_
 refine kO (kf (fS fO) kr) ?_
 refine nsr (om rfl rfl (oa rfl rfl (shO_nil (shW_ret ?_))))
 refine q_res1 Tryz.results27 (res_tmp rfl) (sr) ?_
 obtain ⟨rfl, rfl, rfl⟩ := inj3 r102
 exact ⟨_, _, _, _, rfl, rfl, hz108.any⟩
set_option maxHeartbeats 1000000 in
theorem cmp_Compare_int_w {x : Int} {y : Int} {F : FS} {r : Int} (hr : cmp_Compare_int x y = some r) :
    SpecV Tryz.prog 77 #[.int .i64 x, .int .i64 y] F (.int .i64 r) := by
 refine spec_of_shW (args := [.int .i64 x, .int .i64 y]) Tryz.func77 rfl Tryz.ntmps77 (Nat.le_of_ble_eq_true rfl) ?_
 intro K _ _; rw [cmp_Compare_int] at hr
 refine wsr (oa rfl rfl (nsr (om rfl rfl ?_)))
 obtain ⟨ok, h1, r2⟩ := b1_ok hr; clear hr
 refine o_callV rfl Tryz.call108 rfl rfl rfl (cmp_isNaN_int_w h1) ?_
 refine oa rfl rfl (nsr (om rfl rfl ?_))
 obtain ⟨ok2, h3, r4⟩ := b1_ok r2; clear r2
 refine o_callV rfl Tryz.call108 rfl rfl rfl (cmp_isNaN_int_w h3) ?_
 refine oa rfl rfl (shO_nil (shW_seq (wsr (om rfl rfl (shO_nil ?_)))))
 refine shW_cond rfl (fun c5 => ?_) (fun c5 => ?_)
 · have r6 := bt r4 c5; clear r4
   refine shW_seq (wsr (om rfl rfl (shO_nil ?_)))
   refine shW_cond rfl (fun c7 => ?_) (fun c7 => ?_)
   · have r8 := bt r6 c7; clear r6
     refine wsr (oa rfl rfl (shO_nil (shW_ret (andThen_ret (andThen_ret ?_)))))
     refine q_res1 Tryz.results77 (res_tmp rfl) (sr) ?_
     obtain rfl := inj1 r8
     exact rfl
   have r9 := bf r6 c7; clear r6
   refine shW_skip (wsr (oa rfl rfl (shO_nil (shW_ret (andThen_ret ?_)))))
   refine q_res1 Tryz.results77 (res_tmp rfl) (sr) ?_
   obtain rfl := inj1 r9
   exact rfl
 have r10 := bf r4 c5; clear r4
 refine shW_skip (shW_seq (wsr (om rfl rfl (shO_nil ?_))))
 refine shW_cond rfl (fun c11 => ?_) (fun c11 => ?_)
 · have r12 := bt r10 c11; clear r10
   refine wsr (oa rfl rfl (shO_nil (shW_ret (andThen_ret ?_))))
   refine q_res1 Tryz.results77 (res_tmp rfl) (sr) ?_
   obtain rfl := inj1 r12
   exact rfl
 have r13 := bf r10 c11; clear r10
 refine shW_skip (shW_seq (wsr (om rfl rfl (om rfl rfl ?_))))
 refine ov (v_lssK rfl rfl) rfl ?_
 refine shO_nil ?_
 refine shW_condP rfl (fun c14 => ?_) (fun c14 => ?_)
 · have r15 := ite_t r13 c14; clear r13
   refine wsr (oa rfl rfl (shO_nil (shW_ret (andThen_ret ?_))))
   refine q_res1 Tryz.results77 (res_tmp rfl) (sr) ?_
   obtain rfl := inj1 r15
   exact rfl
 have r16 := ite_f r13 c14; clear r13
 refine shW_skip (shW_seq (wsr (om rfl rfl (om rfl rfl ?_))))
 refine ov (v_gtrK rfl rfl) rfl ?_
 refine shO_nil ?_
 refine shW_condP rfl (fun c17 => ?_) (fun c17 => ?_)
 · have r18 := ite_t r16 c17; clear r16
   refine wsr (oa rfl rfl (shO_nil (shW_ret (andThen_ret ?_))))
   refine q_res1 Tryz.results77 (res_tmp rfl) (sr) ?_
   obtain rfl := inj1 r18
   exact rfl
 have r19 := ite_f r16 c17; clear r16
 refine shW_skip (wsr (oa rfl rfl (shO_nil (shW_ret ?_))))
 refine q_res1 Tryz.results77 (res_tmp rfl) (sr) ?_
 obtain rfl := inj1 r19
 exact rfl
set_option maxHeartbeats 1000000 in
theorem slices_Compare_int_int_w {s1_a : Option Addr} {s1_c : Nat} {s1 : List Int} {s2_a : Option Addr} {s2_c : Nat} {s2 : List Int} {F : FS} (h_s1 : RowR 1 (iE .i64) F s1_a s1_c s1) (h_s2 : RowR 1 (iE .i64) F s2_a s2_c s2) {r : Int} (hr : slices_Compare_int_int s1 s2 = some r) :
    SpecV Tryz.prog 28 #[.slice s1_a s1.length s1_c, .slice s2_a s2.length s2_c] F (.int .i64 r) := by
 refine spec_of_shW (args := [.slice s1_a s1.length s1_c, .slice s2_a s2.length s2_c]) Tryz.func28 rfl Tryz.ntmps28 (Nat.le_of_ble_eq_true rfl) ?_
 intro K _ _; rw [slices_Compare_int_int] at hr
 refine wsr (oa rfl rfl (shO_nil ?_))
 refine shW_join (fun e1 F1 L1 => slices_Compare_int_int_j1 s1 s2 = some r ∧ F = F1 ∧ L1 = [] ∧ e1.sub [(0, .slice s1_a s1.length s1_c), (1, .slice s2_a s2.length s2_c)]) ?_ ?_
 · refine wsr (om rfl rfl ?_)
   refine ov (v_lenS Tryz.underlying28 rfl) rfl ?_
   refine om rfl rfl (shO_nil ?_)
   refine shW_block ?_
   refine shW_lp (fun fu2 e1 F1 L1 => ∃ (tl : List Int) (k : Int), tl.length = fu2 ∧ Lst s1 k tl ∧ slices_Compare_int_int_l2 s1 s2 tl k = some r ∧ F = F1 ∧ L1 = [] ∧ e1.sub [(0, .slice s1_a s1.length s1_c), (1, .slice s2_a s2.length s2_c), (9, .slice s1_a s1.length s1_c), (10, .int .i64 (s1.length : Int)), (11, .int .i64 k)]) _ (m0 kr ⟨_, _, rfl, Lst.start _, hr, rfl, rfl, (sc rfl (sc rfl (sc rfl (sc rfl (sc rfl (sn _))))))⟩) ?_
   rintro fu2 e1 _ _ ⟨tl, k, hn2, hk1, r3, rfl, rfl, he4⟩
   refine shW_env _ he4 ?_; clear he4
   refine wsr ?_
   refine ov (v_lssK rfl rfl) rfl ?_
   refine shO_nil (shW_seq ?_)
   refine shW_condP rfl (fun c6 => ?_) (fun c6 => ?_)
   · obtain ⟨x, tl2, rfl, hx8, g9, hk7⟩ := Lst.succ hk1 c6
     rw [slices_Compare_int_int_l2] at r3
     refine shW_skip (shW_seq ?_)
     refine shW_block ?_
     refine wsr (om rfl rfl ?_)
     obtain ⟨b10, o11, c12, vs13, ha14, hs15, hle16, rfl, hl17, hc18⟩ := RowR.at (iE_ok _) h_s1 ([]) g9.1 hx8
     refine ov (v_indexO Tryz.underlying28 Tryz.sizeOf3 rfl ha14 rfl g9) rfl ?_
     refine ov (v_load Tryz.isAgg3 rfl hs15 (hc18 0 (by decide))) rfl ?_
     refine oa rfl rfl (oa rfl rfl (shO_nil (shW_seq (wsr (om rfl rfl (om rfl rfl ?_))))))
     refine ov (v_lenS Tryz.underlying28 rfl) rfl ?_
     refine ov (v_geqK rfl rfl) rfl ?_
     refine shO_nil ?_
     refine shW_condP rfl (fun c19 => ?_) (fun c19 => ?_)
     · have r20 := ite_t r3 c19; clear r3
       refine wsr (oa rfl rfl (shO_nil (shW_ret (andThen_ret (inBlock_ret (andThen_ret (andThen_ret (inBlock_ret (andThen_ret ?_)))))))))
       refine q_res1 Tryz.results28 (res_tmp rfl) (sr) ?_
       obtain rfl := inj1 r20
       exact rfl
     have r21 := ite_f r3 c19; clear r3
     refine shW_skip (wsr (om rfl rfl (om rfl rfl ?_)))
     obtain ⟨x2, g22, hx23, r24⟩ := ix_ok r21; clear r21
     obtain ⟨b25, o26, c27, vs28, ha29, hs30, hle31, rfl, hl32, hc33⟩ := RowR.at (iE_ok _) h_s2 ([]) g22.1 hx23
     refine ov (v_indexO Tryz.underlying28 Tryz.sizeOf3 rfl ha29 rfl g22) rfl ?_
     refine ov (v_load Tryz.isAgg3 rfl hs30 (hc33 0 (by decide))) rfl ?_
     refine oa rfl rfl (nsr (om rfl rfl (om rfl rfl ?_)))
     obtain ⟨n, h34, r35⟩ := b1_ok r24; clear r24
     refine o_callV rfl Tryz.call77 rfl rfl rfl (cmp_Compare_int_w h34) ?_
     refine oa rfl rfl (nsr (om rfl rfl ?_))
     refine ov (v_neq rfl rfl) rfl ?_
     refine shO_nil ?_
     refine shW_condP rfl (fun c36 => ?_) (fun c36 => ?_)
     · have r37 := ite_t r35 c36; clear r35
       refine wsr (om rfl rfl (oa rfl rfl (shO_nil (shW_ret (inBlock_ret (andThen_ret (andThen_ret (inBlock_ret (andThen_ret ?_)))))))))
       refine q_res1 Tryz.results28 (res_tmp rfl) (sr) ?_
       obtain rfl := inj1 r37
       exact rfl
     have r38 := ite_f r35 c36; clear r35
     refine shW_skip (inBlock_n (id := 1) (shW_region ?_))
     refine ov (v_add rfl rfl (Lst.r64 hk1 c6 (RowR.lt h_s1))) rfl ?_
     refine om rfl rfl (shO_nil ?_)
     subst hn2; exact le kr ⟨_, _, rfl, hk7, r38, rfl, rfl, (sc rfl (sc rfl (sc rfl (sc rfl (sc rfl (sn _))))))⟩
   obtain rfl := Lst.zero hk1 c6
   rw [slices_Compare_int_int_l2] at r3
   refine shW_exit (andThen_exit (andThen_exit ?_))
   refine inBlock_exit ?_
   exact mi kr ⟨r3, rfl, rfl, (sc rfl (sc rfl (sn _)))⟩
 rintro e1 _ _ ⟨r39, rfl, rfl, he40⟩
 refine shW_env _ he40 ?_; clear he40
 rw [slices_Compare_int_int_j1] at r39
 refine shW_seq (wsr (om rfl rfl ?_))
 refine ov (v_lenS Tryz.underlying28 rfl) rfl ?_
 refine om rfl rfl ?_
 refine ov (v_lenS Tryz.underlying28 rfl) rfl ?_
 refine ov (v_lssK rfl rfl) rfl ?_
 refine shO_nil ?_
 refine shW_condP rfl (fun c41 => ?_) (fun c41 => ?_)
 · have r42 := ite_t r39 c41; clear r39
   refine wsr (oa rfl rfl (shO_nil (shW_ret (andThen_ret ?_))))
   refine q_res1 Tryz.results28 (res_tmp rfl) (sr) ?_
   obtain rfl := inj1 r42
   exact rfl
 have r43 := ite_f r39 c41; clear r39
 refine shW_skip (wsr (oa rfl rfl (shO_nil (shW_ret ?_))))
 refine q_res1 Tryz.results28 (res_tmp rfl) (sr) ?_
 obtain rfl := inj1 r43
 exact rfl
set_option maxHeartbeats 1000000 in
theorem oyezlaw01_HearReached_1_w {s_ : Int} {b_y : Nat} {y_a : Option Addr} {y_c : Nat} {y : List Int} {mb_y : Nat × Nat} {F : FS} (hb_y : F b_y = some (.cells #[.slice y_a y.length y_c] 28 mb_y)) (h_y : RowR 1 (iE .i64) F y_a y_c y) {r : Bool} (hr : oyezlaw01_HearReached_1 s_ y = some r) :
    SpecV Tryz.prog 30 #[.int .i64 s_, .pointer (some ⟨b_y, 0, none⟩)] F (.bool r) := by
 refine spec_of_shW (args := [.int .i64 s_, .pointer (some ⟨b_y, 0, none⟩)]) Tryz.func30 rfl Tryz.ntmps30 (Nat.le_of_ble_eq_true rfl) ?_
 intro K _ _; rw [oyezlaw01_HearReached_1] at hr
 refine wsr (oa rfl rfl (nsr ?_))
 refine ov (v_load Tryz.isAgg28 rfl (Has.frozen hb_y) rfl) rfl ?_
 refine om rfl rfl ?_
 obtain ⟨ok, h1, r2⟩ := b1_ok hr; clear hr
 refine o_callV rfl Tryz.call31 rfl rfl rfl (slices_Contains_int_int_w h_y h1) ?_
 refine oa rfl rfl (shO_nil (shW_ret ?_))
 refine q_res1 Tryz.results30 (res_tmp rfl) (sr) ?_
 obtain rfl := inj1 r2
 exact rfl
end Go.Proofs.YtejkgppikpkkpaaGreat
