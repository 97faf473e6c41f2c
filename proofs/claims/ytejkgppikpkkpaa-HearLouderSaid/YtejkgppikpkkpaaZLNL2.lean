/- The walks that this claim needs, printed by a program of mine; part 2. -/
import Derived.Test.YtejkgppikpkkpaaZLNL1
namespace Go.Proofs.Ytejkgppikpkkpaa
open Go.SH Go.PL
set_option maxHeartbeats 1000000 in
theorem slices_IndexFunc_int_int_w {s__a : Option Addr} {s__c : Nat} {s_ : List Int} {f_f : FuncId} {f_1 : Array Value} {f_2 : Array Value} {f : Int → Option Bool} {F : FS} (h_s_ : RowR 1 (iE .i64) F s__a s__c s_) (h_f : FnR Try.prog F f_f f_1 f_2 (iE .i64) Value.bool f) {r : Int} (hr : slices_IndexFunc_int_int s_ f = some r) :
    SpecV Try.prog 63 #[.slice s__a s_.length s__c, .func (.func f_f) f_1 f_2] F (.int .i64 r) := by
 refine spec_of_shW (args := [.slice s__a s_.length s__c, .func (.func f_f) f_1 f_2]) Try.func63 rfl Try.ntmps63 (Nat.le_of_ble_eq_true rfl) ?_
 intro K _ _; rw [slices_IndexFunc_int_int] at hr
 refine wsr (oa rfl rfl (shO_nil ?_))
 refine shW_join (fun e1 F1 L1 => slices_IndexFunc_int_int_j1 = some r ∧ F = F1 ∧ L1 = [] ∧ e1.sub []) ?_ ?_
 · refine wsr (om rfl rfl ?_)
   refine ov (v_lenS Try.underlying36 rfl) rfl ?_
   refine om rfl rfl (shO_nil ?_)
   refine shW_block ?_
   refine shW_lp (fun fu2 e1 F1 L1 => ∃ (tl : List Int) (k : Int), tl.length = fu2 ∧ Lst s_ k tl ∧ slices_IndexFunc_int_int_l2 f tl k = some r ∧ F = F1 ∧ L1 = [] ∧ e1.sub [(0, .slice s__a s_.length s__c), (1, .func (.func f_f) f_1 f_2), (7, .int .i64 (s_.length : Int)), (8, .int .i64 k)]) _ (m0 kr ⟨_, _, rfl, Lst.start _, hr, rfl, rfl, (sc rfl (sc rfl (sc rfl (sc rfl (sn _)))))⟩) ?_
   rintro fu2 e1 _ _ ⟨tl, k, hn2, hk1, r3, rfl, rfl, he4⟩
   refine shW_env _ he4 ?_; clear he4
   refine wsr ?_
   refine ov (v_lssK rfl rfl) rfl ?_
   refine shO_nil (shW_seq ?_)
   refine shW_condP rfl (fun c6 => ?_) (fun c6 => ?_)
   · obtain ⟨x, tl2, rfl, hx8, g9, hk7⟩ := Lst.succ hk1 c6
     rw [slices_IndexFunc_int_int_l2] at r3
     refine shW_skip (shW_seq ?_)
     refine shW_block ?_
     refine wsr (om rfl rfl (oa rfl rfl (nsr (om rfl rfl (om rfl rfl (om rfl rfl ?_))))))
     obtain ⟨b10, o11, c12, vs13, ha14, hs15, hle16, rfl, hl17, hc18⟩ := RowR.at (iE_ok _) h_s_ ([]) g9.1 hx8
     refine ov (v_indexO Try.underlying36 Try.sizeOf3 rfl ha14 rfl g9) rfl ?_
     refine ov (v_load Try.isAgg3 rfl hs15 (hc18 0 (by decide))) rfl ?_
     obtain ⟨ok, h19, r20⟩ := b1_ok r3; clear r3
     refine o_callV rfl h_f.1 rfl rfl rfl (h_f.2 _ (FExt.refl _) _ _ _ rfl h19) ?_
     refine shO_nil ?_
     refine shW_cond rfl (fun c21 => ?_) (fun c21 => ?_)
     · have r22 := bt r20 c21; clear r20
       refine wsr (om rfl rfl (oa rfl rfl (shO_nil (shW_ret (inBlock_ret (andThen_ret (andThen_ret (inBlock_ret (andThen_ret ?_)))))))))
       refine q_res1 Try.results63 (res_tmp rfl) (sr) ?_
       obtain rfl := inj1 r22
       exact rfl
     have r23 := bf r20 c21; clear r20
     refine shW_skip (inBlock_n (id := 1) (shW_region ?_))
     refine ov (v_add rfl rfl (Lst.r64 hk1 c6 (RowR.lt h_s_))) rfl ?_
     refine om rfl rfl (shO_nil ?_)
     subst hn2; exact le kr ⟨_, _, rfl, hk7, r23, rfl, rfl, (sc rfl (sc rfl (sc rfl (sc rfl (sn _)))))⟩
   obtain rfl := Lst.zero hk1 c6
   rw [slices_IndexFunc_int_int_l2] at r3
   refine shW_exit (andThen_exit (andThen_exit ?_))
   refine inBlock_exit ?_
   exact mi kr ⟨r3, rfl, rfl, (sn _)⟩
 rintro e1 _ _ ⟨r24, rfl, rfl, he25⟩
 refine shW_env _ he25 ?_; clear he25
 rw [slices_IndexFunc_int_int_j1] at r24
 refine wsr (oa rfl rfl (shO_nil (shW_ret ?_)))
 refine q_res1 Try.results63 (res_tmp rfl) (sr) ?_
 obtain rfl := inj1 r24
 exact rfl
set_option maxHeartbeats 1000000 in
theorem slices_ContainsFunc_int_int_w {s__a : Option Addr} {s__c : Nat} {s_ : List Int} {f_f : FuncId} {f_1 : Array Value} {f_2 : Array Value} {f : Int → Option Bool} {F : FS} (h_s_ : RowR 1 (iE .i64) F s__a s__c s_) (h_f : FnR Try.prog F f_f f_1 f_2 (iE .i64) Value.bool f) {r : Bool} (hr : slices_ContainsFunc_int_int s_ f = some r) :
    SpecV Try.prog 20 #[.slice s__a s_.length s__c, .func (.func f_f) f_1 f_2] F (.bool r) := by
 refine spec_of_shW (args := [.slice s__a s_.length s__c, .func (.func f_f) f_1 f_2]) Try.func20 rfl Try.ntmps20 (Nat.le_of_ble_eq_true rfl) ?_
 intro K _ _; rw [slices_ContainsFunc_int_int] at hr
 refine wsr (oa rfl rfl (nsr (om rfl rfl (om rfl rfl ?_))))
 obtain ⟨n, h1, r2⟩ := b1_ok hr; clear hr
 refine o_callV rfl Try.call63 rfl rfl rfl (slices_IndexFunc_int_int_w h_s_ h_f h1) ?_
 refine ov (v_geqK rfl rfl) rfl ?_
 refine oa rfl rfl (shO_nil (shW_ret ?_))
 refine q_res1 Try.results20 (res_tmp rfl) (sr) ?_
 obtain rfl := inj1 r2
 exact rfl
set_option maxHeartbeats 1000000 in
theorem hear_Louder_w {wide : Int} {plots_a : Option Addr} {plots_c : Nat} {plots : List Int} {wind : Int} {houses_a : Option Addr} {houses_c : Nat} {houses : List Int} {stands : Int} {F : FS} (h_plots : RowR 1 (iE .i64) F plots_a plots_c plots) (h_houses : RowR 1 (iE .i64) F houses_a houses_c houses) {r : Int} {r2 : Int} (hr : hear_Louder wide plots wind houses stands = some (r, r2)) :
    SpecV Try.prog 17 #[.agg #[.int .i64 wide, .slice plots_a plots.length plots_c], .int .i64 wind, .slice houses_a houses.length houses_c, .int .i64 stands] F (.tuple #[.int .i64 r, .int .i64 r2]) := by
 refine spec_of_shW (args := [.agg #[.int .i64 wide, .slice plots_a plots.length plots_c], .int .i64 wind, .slice houses_a houses.length houses_c, .int .i64 stands]) Try.func17 rfl Try.ntmps17 (Nat.le_of_ble_eq_true rfl) ?_
 intro K _ _; rw [hear_Louder] at hr
 refine wsr ?_
 refine o_box rfl rfl ?_; intro b1 hb1
 refine oa rfl rfl (oa rfl rfl (shO_nil ?_))
 refine shW_scope ?_
 refine shW_seq (wsr ?_)
 refine ov (v_loadA (cs := #[.int .i64 wide, .slice plots_a plots.length plots_c]) Try.isAgg27 Try.sizeOf27 rfl (Has.own 0 rfl) (Nat.le_of_ble_eq_true rfl) rfl) rfl ?_
 refine om rfl rfl ?_
 refine ov (v_build (v := .agg #[.int .i64 wind, .int .i64 40]) rfl (by intro w; kernel_rfl)) rfl ?_
 refine om rfl rfl ?_
 obtain ⟨l, y, n, h2, r3⟩ := b3_ok hr; clear hr
 refine o_call0 rfl Try.call44 rfl rfl rfl (hear_asked_w h_plots h_houses h2) ?_; rintro _ F4 _ hF5 hn6 ⟨a8, n12, c9, Lb10, v14, rfl, rfl, hz11, hp15⟩
 replace h_plots := h_plots.mono (iE_ok _) hF5
 replace h_houses := h_houses.mono (iE_ok _) hF5
 refine shO_L (lp (ln rfl)) ?_
 refine kO (kf (fS fO) kr) ?_
 refine om rfl rfl (ox rfl rfl rfl (ox rfl rfl rfl ?_))
 refine o_alloc rfl Try.zeroValue77 ?_; intro b16 hb16
 refine o_storeA (i := 0) Try.sizeOf77 rfl rfl rfl (List.forall_mem_cons.2 ⟨rfl, (List.forall_mem_cons.2 ⟨hp15.1, (fun _ h => absurd h List.not_mem_nil)⟩)⟩) rfl (Nat.le_of_ble_eq_true rfl) ?_
 refine shO_L (L' := (b16, .cells #[.slice a8 n12 c9, v14] 77 (0, 0)) :: ((b1, .cells #[.int .i64 wide, .slice plots_a plots.length plots_c] 27 (0, 0)) :: (Lb10 ++ []))) rfl ?_
 refine oa rfl rfl (nsr (om rfl rfl ?_))
 refine ov (v_neq rfl rfl) rfl ?_
 refine shO_nil ?_
 refine shW_condP rfl (fun c17 => ?_) (fun c17 => ?_)
 · have r18 := ite_t r3 c17; clear r3
   refine wsr (om rfl rfl (oa rfl rfl (oa rfl rfl (shO_nil ?_))))
   refine kW kn ?_
   refine shW_ret (andThen_ret (noGoto_ret ?_))
   refine q_res2 Try.results17 (res_tmp rfl) (res_tmp rfl) (sr) ?_
   obtain ⟨rfl, rfl⟩ := inj2 r18
   exact rfl
 have r19 := ite_f r3 c17; clear r3
 refine shW_skip (shW_seq (wsr (om rfl rfl ?_)))
 obtain ⟨ok, h20, r21⟩ := b1_ok r19; clear r19
 refine o_callV rfl Try.call56 rfl rfl rfl (hear_in_w h20) ?_
 refine ov (v_notB rfl) rfl ?_
 refine shO_nil ?_
 refine shW_cond rfl (fun c22 => ?_) (fun c22 => ?_)
 · have r23 := bt r21 c22; clear r21
   refine wsr (oa rfl rfl (oa rfl rfl (shO_nil ?_)))
   refine kW kn ?_
   refine shW_ret (andThen_ret (noGoto_ret ?_))
   refine q_res2 Try.results17 (res_tmp rfl) (res_tmp rfl) (sr) ?_
   obtain ⟨rfl, rfl⟩ := inj2 r23
   exact rfl
 have r24 := bf r21 c22; clear r21
 refine shW_skip (wsr (oa rfl rfl (shO_nil (shW_seq ?_))))
 refine shW_label ?_
 obtain ⟨out, h25, r26⟩ := b1_ok r24; clear r24
 refine shW_join (fun e1 F1 L1 => FExt F4 F1 ∧ L1 = [] ∧ e1.sub [(12, .int .i64 out)]) ?_ ?_
 · clear r26
   refine wsr (om rfl rfl (shO_nil ?_))
   refine shW_block ?_
   refine kW (kd (kc kn)) ?_
   obtain ⟨g27, r28⟩ := gd_ok h25; clear h25
   refine shW_lp (fun fu1 e1 F1 L1 => ∃ (k : Int), Ctr 0 40 k fu1 ∧ hear_Louder_l1 wide plots wind houses stands fu1 k = some out ∧ FExt F4 F1 ∧ L1 = [(b1, .cells #[.int .i64 wide, .slice plots_a plots.length plots_c] 27 (0, 0))] ∧ e1.sub [(1, .int .i64 wind), (2, .slice houses_a houses.length houses_c), (3, .int .i64 stands), (4, .pointer (some ⟨b1, 0, none⟩)), (12, .int .i64 0), (32, .int .i64 k)]) _ (m0 kr ⟨_, Ctr.start _ _, r28, FExt.refl _, rfl, (sc rfl (sc rfl (sc rfl (sc rfl (sc rfl (sc rfl (sn _)))))))⟩) ?_
   rintro fu1 e1 F33 _ ⟨k, hk29, r31, hF34, rfl, he32⟩
   refine shW_env _ he32 ?_; clear he32
   replace h_plots := h_plots.mono (iE_ok _) hF34
   replace h_houses := h_houses.mono (iE_ok _) hF34
   refine wsr ?_
   refine ov (v_lssK rfl rfl) rfl ?_
   refine shO_nil (shW_seq ?_)
   refine shW_condP rfl (fun c36 => ?_) (fun c36 => ?_)
   · obtain ⟨fu1, rfl, hk37⟩ := Ctr.succ hk29 c36
     rw [hear_Louder_l1] at r31
     refine shW_skip (shW_seq ?_)
     refine shW_block ?_
     refine wsr (om rfl rfl (oa rfl rfl (nsr ?_)))
     refine ov (v_loadA (cs := #[.int .i64 wide, .slice plots_a plots.length plots_c]) Try.isAgg27 Try.sizeOf27 rfl (Has.own 0 rfl) (Nat.le_of_ble_eq_true rfl) rfl) rfl ?_
     refine om rfl rfl (om rfl rfl ?_)
     refine ov (v_add rfl rfl (Ctr.r64 hk29 c36 g27)) rfl ?_
     refine ov (v_build (v := .agg #[.int .i64 wind, .int .i64 (k + 1)]) rfl (by intro w; kernel_rfl)) rfl ?_
     refine om rfl rfl ?_
     obtain ⟨l2, y2, n2, h38, r39⟩ := b3_ok r31; clear r31
     refine o_call0 rfl Try.call44 rfl rfl rfl (hear_asked_w h_plots h_houses h38) ?_; rintro _ F40 _ hF41 hn42 ⟨a44, n48, c45, Lb46, v50, rfl, rfl, hz47, hp51⟩
     replace hz47 := hz47.new fun p hp => hn42 p (by simp [hp])
     refine shO_L (lp (ln rfl)) ?_
     refine kO (kf (fS fO) kr) ?_
     refine om rfl rfl (ox rfl rfl rfl (ox rfl rfl rfl ?_))
     refine o_alloc rfl Try.zeroValue77 ?_; intro b52 hb52
     refine o_storeA (i := 0) Try.sizeOf77 rfl rfl rfl (List.forall_mem_cons.2 ⟨rfl, (List.forall_mem_cons.2 ⟨hp51.1, (fun _ h => absurd h List.not_mem_nil)⟩)⟩) rfl (Nat.le_of_ble_eq_true rfl) ?_
     refine shO_L (L' := (b52, .cells #[.slice a44 n48 c45, v50] 77 (0, 0)) :: ((b1, .cells #[.int .i64 wide, .slice plots_a plots.length plots_c] 27 (0, 0)) :: (Lb46 ++ []))) rfl ?_
     refine oa rfl rfl (nsr ?_)
     refine ov (v_loadA (cs := #[.slice a44 n48 c45, v50]) Try.isAgg77 Try.sizeOf77 rfl (Has.own 0 rfl) (Nat.le_of_ble_eq_true rfl) rfl) rfl ?_
     refine om rfl rfl ?_
     obtain ⟨g53, r54⟩ := gd_ok r39; clear r39
     obtain rfl := hp51.2 g53
     have hn55 : FnR Try.prog F40 77 #[] #[] (iE .i64) (Value.int .i64) (fun xx_ : Int => hear_ones xx_) := ⟨Try.call77, fun F2 h2 vs xx_ r ha hr => by obtain rfl := ha; exact hear_ones_w hr⟩
     obtain ⟨l3, n3, h56, r57⟩ := b2_ok r54; clear r54
     refine o_callTO (Lb := []) (Lt := Lb46 ++ []) (Lr := [(b52, .cells (#[.slice a44 n48 c45, .func (.func 77) #[] #[]]) 77 (0, 0)), (b1, .cells #[.int .i64 wide, .slice plots_a plots.length plots_c] 27 (0, 0))]) rfl Try.call48 rfl rfl rfl (pT ((fC (fC fP)).trans (pA pR)) (ln (lp (ln rfl)))) (fun F2 h2 h3 => by rw [(SlR.caps hz47).1]; exact hear_quarter_chosen_w (hz47.row (arE_ok (n := 30) (sz := 1) cB_ok) h2 (fun p hp => h3 p (List.mem_append_left _ hp))) (hn55.mono h2) h56) (fun _ _ _ _ hq => by obtain ⟨a62, n66, c63, Lb64, rfl, rfl, hz65⟩ := hq; exact ⟨_, _, _, _, rfl, rfl, hz65.flat (fun _ _ h => h)⟩) ?_; rintro _ F58 _ hF59 hd61 hn60 ⟨a62, n66, c63, Lb64, rfl, rfl, hz65⟩
     refine shO_L (lp (ln (lp (ln rfl)))) ?_
     refine kO (kf (fS (fS fO)) (kf (fS (fS fO)) kr)) ?_
     refine om rfl rfl (ox rfl rfl rfl (ox rfl rfl rfl (oa rfl rfl (oa rfl rfl (nsr (om rfl rfl (om rfl rfl ?_)))))))
     refine ov (v_lenS Try.underlying36 rfl) rfl ?_
     refine ov (v_eql rfl rfl) rfl ?_
     refine shO_nil ?_
     refine shW_condP rfl (fun c69 => ?_) (fun c69 => ?_)
     · have r70 := ite_t r57 c69; clear r57
       refine wsr (om rfl rfl ?_)
       refine ov (v_add rfl rfl (Ctr.r64 hk29 c36 g27)) rfl ?_
       refine oa rfl rfl (shO_nil (shW_exit ?_))
       refine inBlock_other rfl ?_
       refine andThen_exit (andThen_exit ?_)
       refine inBlock_exit ?_
       obtain rfl := inj1 r70
       exact mi kn ⟨((hF34.trans hF41).trans hF59), rfl, (sc rfl (sn _))⟩
     have r71 := ite_f r57 c69; clear r57
     refine shW_skip (inBlock_n (id := 1) (shW_region ?_))
     refine ov (v_add rfl rfl (Ctr.r64 hk29 c36 g27)) rfl ?_
     refine om rfl rfl (shO_nil ?_)
     exact le (kd (kc kn)) ⟨_, hk37, r71, ((hF34.trans hF41).trans hF59), rfl, (sc rfl (sc rfl (sc rfl (sc rfl (sc rfl (sc rfl (sn _)))))))⟩
   obtain rfl := Ctr.zero hk29 c36
   rw [hear_Louder_l1] at r31
   refine shW_exit (andThen_exit (andThen_exit ?_))
   refine inBlock_exit ?_
   obtain rfl := inj1 r31
   exact mi kn ⟨hF34, rfl, (sc rfl (sn _))⟩
 rintro e1 F73 _ ⟨hF74, rfl, he72⟩
 refine shW_env _ he72 ?_; clear he72
 refine shW_seq (wsr (om rfl rfl ?_))
 refine ov (v_eql rfl rfl) rfl ?_
 refine shO_nil ?_
 refine shW_condP rfl (fun c75 => ?_) (fun c75 => ?_)
 · have r76 := ite_t r26 c75; clear r26
   refine wsr (oa rfl rfl (oa rfl rfl (shO_nil (shW_ret (andThen_ret (noGoto_ret ?_))))))
   refine q_res2 Try.results17 (res_tmp rfl) (res_tmp rfl) (sr) ?_
   obtain ⟨rfl, rfl⟩ := inj2 r76
   exact rfl
 have r77 := ite_f r26 c75; clear r26
 refine shW_skip (wsr (om rfl rfl (oa rfl rfl (oa rfl rfl (shO_nil (shW_ret (noGoto_ret ?_)))))))
 refine q_res2 Try.results17 (res_tmp rfl) (res_tmp rfl) (sr) ?_
 obtain ⟨rfl, rfl⟩ := inj2 r77
 exact rfl
set_option maxHeartbeats 1000000 in
theorem slices_Equal_int_int_w {s1_a : Option Addr} {s1_c : Nat} {s1 : List Int} {s2_a : Option Addr} {s2_c : Nat} {s2 : List Int} {F : FS} (h_s1 : RowR 1 (iE .i64) F s1_a s1_c s1) (h_s2 : RowR 1 (iE .i64) F s2_a s2_c s2) {r : Bool} (hr : slices_Equal_int_int s1 s2 = some r) :
    SpecV Try.prog 73 #[.slice s1_a s1.length s1_c, .slice s2_a s2.length s2_c] F (.bool r) := by
 refine spec_of_shW (args := [.slice s1_a s1.length s1_c, .slice s2_a s2.length s2_c]) Try.func73 rfl Try.ntmps73 (Nat.le_of_ble_eq_true rfl) ?_
 intro K _ _; rw [slices_Equal_int_int] at hr
 refine wsr (oa rfl rfl (shO_nil (shW_seq (wsr (om rfl rfl ?_)))))
 refine ov (v_lenS Try.underlying36 rfl) rfl ?_
 refine om rfl rfl ?_
 refine ov (v_lenS Try.underlying36 rfl) rfl ?_
 refine ov (v_neq rfl rfl) rfl ?_
 refine shO_nil ?_
 refine shW_condP rfl (fun c1 => ?_) (fun c1 => ?_)
 · have r2 := ite_t hr c1; clear hr
   refine wsr (oa rfl rfl (shO_nil (shW_ret (andThen_ret ?_))))
   refine q_res1 Try.results73 (res_tmp rfl) (sr) ?_
   obtain rfl := inj1 r2
   exact rfl
 have r3 := ite_f hr c1; clear hr
 refine shW_skip ?_
 refine shW_join (fun e1 F1 L1 => slices_Equal_int_int_j1 = some r ∧ F = F1 ∧ L1 = [] ∧ e1.sub []) ?_ ?_
 · refine wsr (om rfl rfl ?_)
   refine ov (v_lenS Try.underlying36 rfl) rfl ?_
   refine om rfl rfl (shO_nil ?_)
   refine shW_block ?_
   refine shW_lp (fun fu2 e1 F1 L1 => ∃ (tl : List Int) (k : Int), tl.length = fu2 ∧ Lst s1 k tl ∧ slices_Equal_int_int_l2 s2 tl k = some r ∧ F = F1 ∧ L1 = [] ∧ e1.sub [(0, .slice s1_a s1.length s1_c), (1, .slice s2_a s2.length s2_c), (12, .int .i64 (s1.length : Int)), (13, .int .i64 k)]) _ (m0 kr ⟨_, _, rfl, Lst.start _, r3, rfl, rfl, (sc rfl (sc rfl (sc rfl (sc rfl (sn _)))))⟩) ?_
   rintro fu2 e1 _ _ ⟨tl, k, hn5, hk4, r6, rfl, rfl, he7⟩
   refine shW_env _ he7 ?_; clear he7
   refine wsr ?_
   refine ov (v_lssK rfl rfl) rfl ?_
   refine shO_nil (shW_seq ?_)
   refine shW_condP rfl (fun c9 => ?_) (fun c9 => ?_)
   · obtain ⟨x, tl2, rfl, hx11, g12, hk10⟩ := Lst.succ hk4 c9
     rw [slices_Equal_int_int_l2] at r6
     refine shW_skip (shW_seq ?_)
     refine shW_block ?_
     refine wsr (om rfl rfl (oa rfl rfl ?_))
     refine nsd (by kernel_rfl) (by kernel_rfl) (by kernel_rfl) ?_
     refine qm rfl rfl (qm rfl rfl ?_)
     obtain ⟨b13, o14, c15, vs16, ha17, hs18, hle19, rfl, hl20, hc21⟩ := RowR.at (iE_ok _) h_s1 ([]) g12.1 hx11
     refine qv (v_indexO Try.underlying36 Try.sizeOf3 rfl ha17 rfl g12) rfl ?_
     refine qv (v_load Try.isAgg3 rfl hs18 (hc21 0 (by decide))) rfl ?_
     refine qm rfl rfl (qm rfl rfl ?_)
     obtain ⟨x2, g22, hx23, r24⟩ := ix_ok r6; clear r6
     obtain ⟨b25, o26, c27, vs28, ha29, hs30, hle31, rfl, hl32, hc33⟩ := RowR.at (iE_ok _) h_s2 ([]) g22.1 hx23
     refine qv (v_indexO Try.underlying36 Try.sizeOf3 rfl ha29 rfl g22) rfl ?_
     refine qv (v_load Try.isAgg3 rfl hs30 (hc33 0 (by decide))) rfl ?_
     refine qv (v_neq rfl rfl) rfl ?_
     refine shQ_nil ?_
     refine shW_condP rfl (fun c34 => ?_) (fun c34 => ?_)
     · have r35 := ite_t r24 c34; clear r24
       refine wsr (oa rfl rfl (shO_nil (shW_ret (inBlock_ret (andThen_ret (andThen_ret (inBlock_ret (andThen_ret ?_))))))))
       refine q_res1 Try.results73 (res_tmp rfl) (sr) ?_
       obtain rfl := inj1 r35
       exact rfl
     have r36 := ite_f r24 c34; clear r24
     refine shW_skip (inBlock_n (id := 1) (shW_region ?_))
     refine ov (v_add rfl rfl (Lst.r64 hk4 c9 (RowR.lt h_s1))) rfl ?_
     refine om rfl rfl (shO_nil ?_)
     subst hn5; exact le kr ⟨_, _, rfl, hk10, r36, rfl, rfl, (sc rfl (sc rfl (sc rfl (sc rfl (sn _)))))⟩
   obtain rfl := Lst.zero hk4 c9
   rw [slices_Equal_int_int_l2] at r6
   refine shW_exit (andThen_exit (andThen_exit ?_))
   refine inBlock_exit ?_
   exact mi kr ⟨r6, rfl, rfl, (sn _)⟩
 rintro e1 _ _ ⟨r37, rfl, rfl, he38⟩
 refine shW_env _ he38 ?_; clear he38
 rw [slices_Equal_int_int_j1] at r37
 refine wsr (oa rfl rfl (shO_nil (shW_ret ?_)))
 refine q_res1 Try.results73 (res_tmp rfl) (sr) ?_
 obtain rfl := inj1 r37
 exact rfl
set_option maxHeartbeats 1000000 in
theorem oyezkit_Like_int_w {a_a : Option Addr} {a_c : Nat} {a : List Int} {b_a : Option Addr} {b_c : Nat} {b : List Int} {F : FS} (h_a : RowR 1 (iE .i64) F a_a a_c a) (h_b : RowR 1 (iE .i64) F b_a b_c b) {r : Bool} (hr : oyezkit_Like_int a b = some r) :
    SpecV Try.prog 37 #[.slice a_a a.length a_c, .slice b_a b.length b_c] F (.bool r) := by
 refine spec_of_shW (args := [.slice a_a a.length a_c, .slice b_a b.length b_c]) Try.func37 rfl Try.ntmps37 (Nat.le_of_ble_eq_true rfl) ?_
 intro K _ _; rw [oyezkit_Like_int] at hr
 refine wsr (oa rfl rfl (nsr (om rfl rfl (om rfl rfl ?_))))
 obtain ⟨ok, h1, r2⟩ := b1_ok hr; clear hr
 refine o_callV rfl Try.call73 rfl rfl rfl (slices_Equal_int_int_w h_a h_b h1) ?_
 refine oa rfl rfl (shO_nil (shW_ret ?_))
 refine q_res1 Try.results37 (res_tmp rfl) (sr) ?_
 obtain rfl := inj1 r2
 exact rfl
set_option maxHeartbeats 1000000 in
theorem oyezlaw01_Drawn_w {rows_a : Option Addr} {rows_c : Nat} {rows : List (List Int)} {F : FS} (h_rows : RowR 1 sE F rows_a rows_c rows) {r : Int} {r2 : List Int} (hr : oyezlaw01_Drawn rows = some (r, r2)) :
    SH.Spec Try.prog 57 #[.slice rows_a rows.length rows_c] F [] fun F' L' v => ∃ (r2a : Option Addr) (r2n : Nat) (r2c : Nat) (r2L : LH), v = .agg #[.int .i64 r, .slice r2a r2n r2c] ∧ L' = r2L ++ [] ∧ SlR 0 35 1 (iE .i64) F' r2a r2n r2c r2 r2L := by
 refine spec_of_shW (args := [.slice rows_a rows.length rows_c]) Try.func57 rfl Try.ntmps57 (Nat.le_of_ble_eq_true rfl) ?_
 intro K _ _; rw [oyezlaw01_Drawn] at hr
 refine wsr ?_
 refine o_alloc rfl Try.zeroValue27 ?_; intro b1 hb1
 refine nsr ?_
 refine o_alloc rfl Try.zeroValue27 ?_; intro b2 hb2
 refine shO_nil ?_
 obtain ⟨t_wide, t_plots, h9, r10⟩ := b2_ok hr; clear hr
 refine shW_join (fun e1 F1 L1 => ∃ (a3 : Option Addr) (n7 : Nat) (c4 : Nat) (Lb5 : LH), F = F1 ∧ L1 = ((b2, .cells #[.int .i64 t_wide, .slice a3 n7 c4] 27 (0, 0)) :: ((b1, .cells #[.int .i64 0, .slice none 0 0] 27 (0, 0)) :: (Lb5 ++ []))) ∧ e1.sub [(2, .pointer (some ⟨b1, 0, none⟩)), (3, .pointer (some ⟨b2, 0, none⟩))] ∧ SlR K.w0.heap.size 35 1 (iE .i64) F1 a3 n7 c4 t_plots Lb5) ?_ ?_
 · clear r10
   refine wsr (om rfl rfl ?_)
   refine ov (v_lenS Try.underlying124 rfl) rfl ?_
   refine om rfl rfl (shO_nil ?_)
   refine shW_block ?_
   refine shW_lp (fun fu1 e1 F1 L1 => ∃ (tl : List (List Int)) (k : Int), tl.length = fu1 ∧ Lst rows k tl ∧ ∃ (t_wide2 : Int) (t_plots2 : List Int) (a11 : Option Addr) (n15 : Nat) (c12 : Nat) (Lb13 : LH), oyezlaw01_Drawn_l1 tl t_wide2 t_plots2 = some (t_wide, t_plots) ∧ F = F1 ∧ L1 = ((b2, .cells #[.int .i64 t_wide2, .slice a11 n15 c12] 27 (0, 0)) :: ((b1, .cells #[.int .i64 0, .slice none 0 0] 27 (0, 0)) :: (Lb13 ++ []))) ∧ e1.sub [(2, .pointer (some ⟨b1, 0, none⟩)), (3, .pointer (some ⟨b2, 0, none⟩)), (9, .slice rows_a rows.length rows_c), (10, .int .i64 (rows.length : Int)), (11, .int .i64 k)] ∧ SlR K.w0.heap.size 35 1 (iE .i64) F1 a11 n15 c12 t_plots2 Lb13) _ (m0 (kc (kc (ke kr))) ⟨_, _, rfl, Lst.start _, 0, [], none, 0, 0, [], h9, rfl, rfl, (sc rfl (sc rfl (sc rfl (sc rfl (sc rfl (sn _)))))), SlR.nil _ _ _ _ _⟩) ?_
   rintro fu1 e1 _ _ ⟨tl, k, hn18, hk17, t_wide2, t_plots2, a11, n15, c12, Lb13, r19, rfl, rfl, he20, hz14⟩
   refine shW_env _ he20 ?_; clear he20
   refine wsr ?_
   refine ov (v_lssK rfl rfl) rfl ?_
   refine shO_nil (shW_seq ?_)
   refine shW_condP rfl (fun c22 => ?_) (fun c22 => ?_)
   · obtain ⟨x, tl2, rfl, hx24, g25, hk23⟩ := Lst.succ hk17 c22
     rw [oyezlaw01_Drawn_l1] at r19
     refine shW_skip ?_
     obtain ⟨t_plots3, h32, r33⟩ := b1_ok r19; clear r19
     refine shW_join (fun e1 F1 L1 => ∃ (a26 : Option Addr) (n30 : Nat) (c27 : Nat) (Lb28 : LH), F = F1 ∧ L1 = ((b2, .cells #[.int .i64 (x.length : Int), .slice a26 n30 c27] 27 (0, 0)) :: ((b1, .cells #[.int .i64 0, .slice none 0 0] 27 (0, 0)) :: (Lb28 ++ []))) ∧ e1.sub [(2, .pointer (some ⟨b1, 0, none⟩)), (3, .pointer (some ⟨b2, 0, none⟩)), (9, .slice rows_a rows.length rows_c), (10, .int .i64 (rows.length : Int)), (11, .int .i64 k)] ∧ SlR K.w0.heap.size 35 1 (iE .i64) F1 a26 n30 c27 t_plots3 Lb28) ?_ ?_
     · clear r33
       refine shW_block ?_
       refine wsr ?_
       obtain ⟨b34, o35, c36, vs37, ha38, hs39, hle40, rfl, hl41, hc42⟩ := RowR.at sE_ok h_rows ((b2, .cells #[.int .i64 t_wide2, .slice a11 n15 c12] 27 (0, 0)) :: ((b1, .cells #[.int .i64 0, .slice none 0 0] 27 (0, 0)) :: (Lb13 ++ []))) g25.1 hx24
       refine ov (v_indexO Try.underlying124 Try.sizeOf9 rfl ha38 rfl g25) rfl ?_
       refine ov (v_load Try.isAgg9 rfl hs39 (hc42 0 (by decide))) rfl ?_
       refine oa rfl rfl (nsr (om rfl rfl ?_))
       refine ov (v_lenStr Try.underlying9 rfl) rfl ?_
       refine ov (v_fieldAddr fa_27_0 rfl) rfl ?_
       refine o_store (i := 0) Try.sizeOf3 rfl rfl rfl rfl (Nat.le_of_ble_eq_true rfl) ?_
       refine shO_L (L' := (b2, .cells #[.int .i64 (x.length : Int), .slice a11 n15 c12] 27 (0, 0)) :: ((b1, .cells #[.int .i64 0, .slice none 0 0] 27 (0, 0)) :: (Lb13 ++ []))) rfl ?_
       refine nsr (om rfl rfl ?_)
       refine o_rangeStr (s := x) rfl Try.underlying9 rfl ?_; intro b43 hb43
       refine shO_nil ?_
       refine shW_block ?_
       refine shW_lp (fun fu2 e1 F1 L1 => ∃ (t_plots4 : List Int) (pos : Nat) (a44 : Option Addr) (n48 : Nat) (c45 : Nat) (Lb46 : LH), oyezlaw01_Drawn_l2 x fu2 t_plots4 pos = some t_plots3 ∧ F = F1 ∧ L1 = ((b43, .stringIter (sB x) pos) :: ((b2, .cells #[.int .i64 (x.length : Int), .slice a44 n48 c45] 27 (0, 0)) :: ((b1, .cells #[.int .i64 0, .slice none 0 0] 27 (0, 0)) :: (Lb46 ++ [])))) ∧ e1.sub [(2, .pointer (some ⟨b1, 0, none⟩)), (3, .pointer (some ⟨b2, 0, none⟩)), (9, .slice rows_a rows.length rows_c), (10, .int .i64 (rows.length : Int)), (11, .int .i64 k), (19, .pointer (some ⟨b43, 0, none⟩))] ∧ SlR K.w0.heap.size 35 1 (iE .i64) F1 a44 n48 c45 t_plots4 Lb46) FU (m0 kr ⟨t_plots2, 0, a11, n15, c12, Lb13, h32, rfl, rfl, (sc rfl (sc rfl (sc rfl (sc rfl (sc rfl (sc rfl (sn _))))))), hz14⟩) ?_
       rintro fu2 e1 _ _ ⟨t_plots4, pos, a44, n48, c45, Lb46, r52, rfl, rfl, he53, hz47⟩
       refine shW_env _ he53 ?_; clear he53
       rcases fu2 with _ | fu2
       · rw [oyezlaw01_Drawn_l2] at r52; cases r52
       rw [oyezlaw01_Drawn_l2] at r52
       refine wsr ?_
       by_cases c54 : pos < x.length
       · have r55 := ite_t r52 c54; clear r52
         obtain ⟨c, g56, hx57, r58⟩ := ix_ok r55; clear r55
         obtain ⟨g59, r60⟩ := gd_ok r58; clear r58
         refine o_nextStr (i := 0) (c := c) rfl rfl rfl (by simpa using hx57) g59 ?_
         refine shO_L (L' := (b43, .stringIter (sB x) (pos + 1)) :: ((b2, .cells #[.int .i64 (x.length : Int), .slice a44 n48 c45] 27 (0, 0)) :: ((b1, .cells #[.int .i64 0, .slice none 0 0] 27 (0, 0)) :: (Lb46 ++ [])))) rfl ?_
         refine ox rfl rfl rfl (shO_nil (shW_seq ?_))
         refine shW_cond rfl (fun c61 => ?_) (fun c61 => nomatch c61)
         refine shW_skip ?_
         refine shW_block ?_
         refine wsr (ox rfl rfl rfl (oa rfl rfl (nsr (oa rfl rfl (shO_nil ?_)))))
         obtain ⟨p, h62, r63⟩ := b1_ok r60; clear r60
         refine shW_join (fun e1 F1 L1 => F = F1 ∧ L1 = ((b43, .stringIter (sB x) (pos + 1)) :: ((b2, .cells #[.int .i64 (x.length : Int), .slice a44 n48 c45] 27 (0, 0)) :: ((b1, .cells #[.int .i64 0, .slice none 0 0] 27 (0, 0)) :: (Lb46 ++ [])))) ∧ e1.sub [(2, .pointer (some ⟨b1, 0, none⟩)), (3, .pointer (some ⟨b2, 0, none⟩)), (7, .int .i32 c), (8, .int .i64 p), (9, .slice rows_a rows.length rows_c), (10, .int .i64 (rows.length : Int)), (11, .int .i64 k), (19, .pointer (some ⟨b43, 0, none⟩))]) ?_ ?_
         · clear r63
           refine wsr (om rfl rfl ?_)
           refine ov (v_eql rfl rfl) rfl ?_
           refine shO_nil ?_
           refine shW_condP rfl (fun c64 => ?_) (fun c64 => ?_)
           · have r65 := ite_t h62 c64; clear h62
             refine shW_region (oa rfl rfl (shO_nil ?_))
             obtain rfl := inj1 r65
             exact mi kr ⟨rfl, rfl, (sc rfl (sc rfl (sc rfl (sc rfl (sc rfl (sc rfl (sc rfl (sc rfl (sn _)))))))))⟩
           have r66 := ite_f h62 c64; clear h62
           refine shW_skip ?_
           obtain rfl := inj1 r66
           exact mi kr ⟨rfl, rfl, (sc rfl (sc rfl (sc rfl (sc rfl (sc rfl (sc rfl (sc rfl (sc rfl (sn _)))))))))⟩
         rintro e1 _ _ ⟨rfl, rfl, he67⟩
         refine shW_env _ he67 ?_; clear he67
         obtain ⟨p2, h68, r69⟩ := b1_ok r63; clear r63
         refine shW_join (fun e1 F1 L1 => F = F1 ∧ L1 = ((b43, .stringIter (sB x) (pos + 1)) :: ((b2, .cells #[.int .i64 (x.length : Int), .slice a44 n48 c45] 27 (0, 0)) :: ((b1, .cells #[.int .i64 0, .slice none 0 0] 27 (0, 0)) :: (Lb46 ++ [])))) ∧ e1.sub [(2, .pointer (some ⟨b1, 0, none⟩)), (3, .pointer (some ⟨b2, 0, none⟩)), (8, .int .i64 p2), (9, .slice rows_a rows.length rows_c), (10, .int .i64 (rows.length : Int)), (11, .int .i64 k), (19, .pointer (some ⟨b43, 0, none⟩))]) ?_ ?_
         · clear r69
           refine wsr (om rfl rfl ?_)
           refine ov (v_eql rfl rfl) rfl ?_
           refine shO_nil ?_
           refine shW_condP rfl (fun c70 => ?_) (fun c70 => ?_)
           · have r71 := ite_t h68 c70; clear h68
             refine shW_region (oa rfl rfl (shO_nil ?_))
             obtain rfl := inj1 r71
             exact mi kr ⟨rfl, rfl, (sc rfl (sc rfl (sc rfl (sc rfl (sc rfl (sc rfl (sc rfl (sn _))))))))⟩
           have r72 := ite_f h68 c70; clear h68
           refine shW_skip ?_
           obtain rfl := inj1 r72
           exact mi kr ⟨rfl, rfl, (sc rfl (sc rfl (sc rfl (sc rfl (sc rfl (sc rfl (sc rfl (sn _))))))))⟩
         rintro e1 _ _ ⟨rfl, rfl, he73⟩
         refine shW_env _ he73 ?_; clear he73
         refine shW_region ?_
         refine ov (v_fieldAddr fa_27_1 rfl) rfl ?_
         refine ov (v_load Try.isAgg25 rfl (Has.own 1 rfl) rfl) rfl ?_
         refine om rfl rfl ?_
         refine o_buildSlice (cs := #[.int .i64 p2]) rfl rfl (buildSlice_all slt_25 [.int .i64 p2] rfl (by decide) (by simp [Value.cells]) (by decide)) ?_; intro b74 hb74
         obtain ⟨t, h75, g76, r77⟩ := ap_ok r69; clear r69
         refine o_appZ (xs := t_plots4) (ys := [p2]) (zs := t) rfl slt_25 rfl rfl (Nat.le_refl _) (fun _ => .c (.c (.c (.c .h)))) hz47 (SrcR.box (vss := [[.int .i64 p2]]) (ys := [p2]) 0 rfl (iE_ok _) (.cons rfl .nil) rfl rfl) h75 g76 (by decide) ?_; intro a78 n82 c79 Lb80 hz81
         refine kO (kd kr) ?_
         refine ov (v_fieldAddr fa_27_1 rfl) rfl ?_
         refine o_store (i := 1) Try.sizeOf25 rfl rfl rfl rfl (Nat.le_of_ble_eq_true rfl) ?_
         refine shO_L (L' := (b43, .stringIter (sB x) (pos + 1)) :: ((b2, .cells #[.int .i64 (x.length : Int), .slice a78 n82 c79] 27 (0, 0)) :: ((b1, .cells #[.int .i64 0, .slice none 0 0] 27 (0, 0)) :: (Lb80 ++ [])))) rfl ?_
         refine shO_nil (inBlock_n (id := 3) ?_)
         exact le kr ⟨t, pos + 1, a78, n82, c79, Lb80, r77, rfl, rfl, (sc rfl (sc rfl (sc rfl (sc rfl (sc rfl (sc rfl (sn _))))))), hz81⟩
       have r84 := ite_f r52 c54; clear r52
       refine o_nextStr0 (i := 0) (s := x) rfl rfl rfl c54 ?_
       refine ox rfl rfl rfl (shO_nil (shW_seq ?_))
       refine shW_cond rfl (fun c85 => nomatch c85) (fun c85 => ?_)
       refine shW_exit (andThen_exit (andThen_exit ?_))
       refine inBlock_exit ?_
       refine inBlock_n (id := 1) ?_
       obtain rfl := inj1 r84
       exact mi (kd kr) ⟨a44, n48, c45, Lb46, rfl, rfl, (sc rfl (sc rfl (sc rfl (sc rfl (sc rfl (sn _)))))), hz47⟩
     rintro e1 _ _ ⟨a26, n30, c27, Lb28, rfl, rfl, he86, hz29⟩
     refine shW_env _ he86 ?_; clear he86
     refine shW_region ?_
     refine ov (v_add rfl rfl (Lst.r64 hk17 c22 (RowR.lt h_rows))) rfl ?_
     refine om rfl rfl (shO_nil ?_)
     subst hn18; exact le kr ⟨_, _, rfl, hk23, (x.length : Int), t_plots3, a26, n30, c27, Lb28, r33, rfl, rfl, (sc rfl (sc rfl (sc rfl (sc rfl (sc rfl (sn _)))))), hz29⟩
   obtain rfl := Lst.zero hk17 c22
   rw [oyezlaw01_Drawn_l1] at r19
   refine shW_exit (andThen_exit (andThen_exit ?_))
   refine inBlock_exit ?_
   obtain ⟨rfl, rfl⟩ := inj2 r19
   exact mi kr ⟨a11, n15, c12, Lb13, rfl, rfl, (sc rfl (sc rfl (sn _))), hz14⟩
 rintro e1 _ _ ⟨a3, n7, c4, Lb5, rfl, rfl, he87, hz6⟩
 refine shW_env _ he87 ?_; clear he87
 refine wsr ?_
 refine ov (v_loadA (cs := #[.int .i64 t_wide, .slice a3 n7 c4]) Try.isAgg27 Try.sizeOf27 rfl (Has.own 0 rfl) (Nat.le_of_ble_eq_true rfl) rfl) rfl ?_
 refine o_storeA (i := 1) Try.sizeOf27 rfl rfl rfl (by simp [Value.oneCell']) rfl (Nat.le_of_ble_eq_true rfl) ?_
 refine shO_L (L' := (b2, .cells #[.int .i64 t_wide, .slice a3 n7 c4] 27 (0, 0)) :: ((b1, .cells #[.int .i64 t_wide, .slice a3 n7 c4] 27 (0, 0)) :: (Lb5 ++ []))) rfl ?_
 refine shO_nil ?_
 refine kW (kd kr) ?_
 refine shW_ret ?_
 refine q_res1 Try.results57 (res_cellA (cs := #[.int .i64 t_wide, .slice a3 n7 c4]) Try.isAgg27 Try.sizeOf27 rfl (Has.own 0 rfl) (Nat.le_of_ble_eq_true rfl) rfl) (s1 (s4 sr)) ?_
 obtain ⟨rfl, rfl⟩ := inj2 r10
 exact ⟨_, _, _, _, rfl, rfl, hz6.any⟩
set_option maxHeartbeats 1000000 in
theorem hear_Holds_w {wide : Int} {plots_a : Option Addr} {plots_c : Nat} {plots : List Int} {wind : Int} {stand : Int} {table_a : Option Addr} {table_c : Nat} {table : List Int} {F : FS} (h_plots : RowR 1 (iE .i64) F plots_a plots_c plots) (h_table : RowR 1 (iE .i64) F table_a table_c table) {r : Bool} {r2 : Int} (hr : hear_Holds wide plots wind stand table = some (r, r2)) :
    SpecV Try.prog 58 #[.agg #[.int .i64 wide, .slice plots_a plots.length plots_c], .int .i64 wind, .int .i64 stand, .slice table_a table.length table_c] F (.tuple #[.bool r, .int .i64 r2]) := by
 refine spec_of_shW (args := [.agg #[.int .i64 wide, .slice plots_a plots.length plots_c], .int .i64 wind, .int .i64 stand, .slice table_a table.length table_c]) Try.func58 rfl Try.ntmps58 (Nat.le_of_ble_eq_true rfl) ?_
 intro K _ _; rw [hear_Holds] at hr
 refine wsr ?_
 refine o_box rfl rfl ?_; intro b1 hb1
 refine o_box rfl rfl ?_; intro b2 hb2
 refine o_alloc rfl Try.zeroValue4 ?_; intro b3 hb3
 refine o_alloc rfl Try.zeroValue38 ?_; intro b4 hb4
 refine nsr ?_
 refine ov (v_loadA (cs := #[.int .i64 wide, .slice plots_a plots.length plots_c]) Try.isAgg27 Try.sizeOf27 rfl (Has.own 3 rfl) (Nat.le_of_ble_eq_true rfl) rfl) rfl ?_
 refine om rfl rfl (om rfl rfl ?_)
 obtain ⟨d, n, h5, r6⟩ := b2_ok hr; clear hr
 refine o_call0 rfl Try.call42 rfl rfl rfl (hear_standing_w h_plots h5) ?_; rintro _ F7 _ hF8 hn9 ⟨v11, rfl, rfl, hp12⟩
 replace h_plots := h_plots.mono (iE_ok _) hF8
 replace h_table := h_table.mono (iE_ok _) hF8
 refine shO_L (ln rfl) ?_
 refine om rfl rfl (ox rfl rfl rfl (ox rfl rfl rfl (oa rfl rfl (oa rfl rfl (shO_nil (shW_seq ?_))))))
 refine shW_block ?_
 refine wsr (om rfl rfl ?_)
 refine ov (v_neq rfl rfl) rfl ?_
 refine oa rfl rfl (shO_nil ?_)
 refine shW_condP rfl (fun c13 => ?_) (fun c13 => ?_)
 · have r14 := ite_t r6 c13; clear r6
   refine wsr (om rfl rfl ?_)
   refine o_store (i := 1) Try.sizeOf4 rfl rfl rfl rfl (Nat.le_of_ble_eq_true rfl) ?_
   refine shO_L (L' := [(b4, .cells #[.int .i64 0] 38 (0, 0)), (b3, .cells #[.bool false] 4 (0, 0)), (b2, .cells #[.slice table_a table.length table_c] 36 (0, 0)), (b1, .cells #[.int .i64 wide, .slice plots_a plots.length plots_c] 27 (0, 0))]) rfl ?_
   refine o_store (i := 0) Try.sizeOf38 rfl rfl rfl rfl (Nat.le_of_ble_eq_true rfl) ?_
   refine shO_L (L' := [(b4, .cells #[.int .i64 n] 38 (0, 0)), (b3, .cells #[.bool false] 4 (0, 0)), (b2, .cells #[.slice table_a table.length table_c] 36 (0, 0)), (b1, .cells #[.int .i64 wide, .slice plots_a plots.length plots_c] 27 (0, 0))]) rfl ?_
   refine shO_nil ?_
   refine kW (kc (kc kn)) ?_
   refine shW_ret (inBlock_ret (andThen_ret ?_))
   refine q_res2 Try.results58 (res_cell Try.isAgg4 rfl (Has.own 1 rfl) rfl) (res_cell Try.isAgg38 rfl (Has.own 0 rfl) rfl) (s1 (s1 sr)) ?_
   obtain ⟨rfl, rfl⟩ := inj2 r14
   exact rfl
 have r15 := ite_f r6 c13; clear r6
 refine wsr ?_
 refine ov (v_load Try.isAgg36 rfl (Has.own 2 rfl) rfl) rfl ?_
 refine ov (v_lenS Try.underlying36 rfl) rfl ?_
 refine ov (v_fieldAddr fa_27_1 rfl) rfl ?_
 refine ov (v_load Try.isAgg25 rfl (Has.own 3 rfl) rfl) rfl ?_
 refine ov (v_lenS Try.underlying25 rfl) rfl ?_
 refine ov (v_neq rfl rfl) rfl ?_
 refine oa rfl rfl (shO_nil ?_)
 refine shW_condP rfl (fun c16 => ?_) (fun c16 => ?_)
 · have r17 := ite_t r15 c16; clear r15
   refine wsr ?_
   refine o_store (i := 1) Try.sizeOf4 rfl rfl rfl rfl (Nat.le_of_ble_eq_true rfl) ?_
   refine shO_L (L' := [(b4, .cells #[.int .i64 0] 38 (0, 0)), (b3, .cells #[.bool false] 4 (0, 0)), (b2, .cells #[.slice table_a table.length table_c] 36 (0, 0)), (b1, .cells #[.int .i64 wide, .slice plots_a plots.length plots_c] 27 (0, 0))]) rfl ?_
   refine o_store (i := 0) Try.sizeOf38 rfl rfl rfl rfl (Nat.le_of_ble_eq_true rfl) ?_
   refine shO_L (L' := [(b4, .cells #[.int .i64 2] 38 (0, 0)), (b3, .cells #[.bool false] 4 (0, 0)), (b2, .cells #[.slice table_a table.length table_c] 36 (0, 0)), (b1, .cells #[.int .i64 wide, .slice plots_a plots.length plots_c] 27 (0, 0))]) rfl ?_
   refine shO_nil ?_
   refine kW (kc (kc kn)) ?_
   refine shW_ret (inBlock_ret (andThen_ret ?_))
   refine q_res2 Try.results58 (res_cell Try.isAgg4 rfl (Has.own 1 rfl) rfl) (res_cell Try.isAgg38 rfl (Has.own 0 rfl) rfl) (s1 (s1 sr)) ?_
   obtain ⟨rfl, rfl⟩ := inj2 r17
   exact rfl
 have r18 := ite_f r15 c16; clear r15
 refine wsr ?_
 refine ov (v_load Try.isAgg36 rfl (Has.own 2 rfl) rfl) rfl ?_
 refine om rfl rfl ?_
 obtain ⟨x, g19, hx20, r21⟩ := ix_ok r18; clear r18
 obtain ⟨b22, o23, c24, vs25, ha26, hs27, hle28, rfl, hl29, hc30⟩ := RowR.at (iE_ok _) h_table ([(b4, .cells #[.int .i64 0] 38 (0, 0)), (b3, .cells #[.bool false] 4 (0, 0)), (b2, .cells #[.slice table_a table.length table_c] 36 (0, 0)), (b1, .cells #[.int .i64 wide, .slice plots_a plots.length plots_c] 27 (0, 0))]) g19.1 hx20
 refine ov (v_indexO Try.underlying36 Try.sizeOf3 rfl ha26 rfl g19) rfl ?_
 refine ov (v_load Try.isAgg3 rfl hs27 (hc30 0 (by decide))) rfl ?_
 refine ov (v_neq rfl rfl) rfl ?_
 refine oa rfl rfl (shO_nil ?_)
 refine shW_condP rfl (fun c31 => ?_) (fun c31 => ?_)
 · have r32 := ite_t r21 c31; clear r21
   refine wsr ?_
   refine o_store (i := 1) Try.sizeOf4 rfl rfl rfl rfl (Nat.le_of_ble_eq_true rfl) ?_
   refine shO_L (L' := [(b4, .cells #[.int .i64 0] 38 (0, 0)), (b3, .cells #[.bool false] 4 (0, 0)), (b2, .cells #[.slice table_a table.length table_c] 36 (0, 0)), (b1, .cells #[.int .i64 wide, .slice plots_a plots.length plots_c] 27 (0, 0))]) rfl ?_
   refine o_store (i := 0) Try.sizeOf38 rfl rfl rfl rfl (Nat.le_of_ble_eq_true rfl) ?_
   refine shO_L (L' := [(b4, .cells #[.int .i64 0] 38 (0, 0)), (b3, .cells #[.bool false] 4 (0, 0)), (b2, .cells #[.slice table_a table.length table_c] 36 (0, 0)), (b1, .cells #[.int .i64 wide, .slice plots_a plots.length plots_c] 27 (0, 0))]) rfl ?_
   refine shO_nil ?_
   refine kW (kc (kc kn)) ?_
   refine shW_ret (inBlock_ret (andThen_ret ?_))
   refine q_res2 Try.results58 (res_cell Try.isAgg4 rfl (Has.own 1 rfl) rfl) (res_cell Try.isAgg38 rfl (Has.own 0 rfl) rfl) (s1 (s1 sr)) ?_
   obtain ⟨rfl, rfl⟩ := inj2 r32
   exact rfl
 have r33 := ite_f r21 c31; clear r21
 refine shW_skip (inBlock_n (id := 0) ?_)
 refine shW_join (fun e1 F1 L1 => hear_Holds_j1 = some (r, r2) ∧ FExt F7 F1 ∧ L1 = [(b4, .cells #[.int .i64 0] 38 (0, 0)), (b3, .cells #[.bool false] 4 (0, 0))] ∧ e1.sub [(8, .pointer (some ⟨b3, 0, none⟩)), (9, .pointer (some ⟨b4, 0, none⟩))]) ?_ ?_
 · refine wsr ?_
   refine ov (v_fieldAddr fa_27_1 rfl) rfl ?_
   refine ov (v_load Try.isAgg25 rfl (Has.own 3 rfl) rfl) rfl ?_
   refine ov (v_lenS Try.underlying25 rfl) rfl ?_
   refine om rfl rfl (shO_nil ?_)
   refine shW_block ?_
   refine shW_lp (fun fu2 e1 F1 L1 => ∃ (tl : List Int) (k : Int), tl.length = fu2 ∧ Lst plots k tl ∧ ∃ (v34 : Value), hear_Holds_l2 wide plots table d tl k = some (r, r2) ∧ FExt F7 F1 ∧ L1 = [(b4, .cells #[.int .i64 0] 38 (0, 0)), (b3, .cells #[.bool false] 4 (0, 0)), (b2, .cells #[.slice table_a table.length table_c] 36 (0, 0)), (b1, .cells #[.int .i64 wide, .slice plots_a plots.length plots_c] 27 (0, 0))] ∧ e1.sub [(4, .pointer (some ⟨b1, 0, none⟩)), (7, .pointer (some ⟨b2, 0, none⟩)), (8, .pointer (some ⟨b3, 0, none⟩)), (9, .pointer (some ⟨b4, 0, none⟩)), (10, v34), (41, .int .i64 (plots.length : Int)), (42, .int .i64 k)] ∧ PtrR 113 (prE (iE .i64) (prE (slE 1 (iE .i64)) (prE (iE .i64) (prE (iE .i64) bE)))) F1 v34 d) _ (m0 kr ⟨_, _, rfl, Lst.start _, v11, r33, FExt.refl _, rfl, (sc rfl (sc rfl (sc rfl (sc rfl (sc rfl (sc rfl (sc rfl (sn _)))))))), hp12⟩) ?_
   rintro fu2 e1 F40 _ ⟨tl, k, hn37, hk36, v34, r38, hF41, rfl, he39, hp35⟩
   refine shW_env _ he39 ?_; clear he39
   replace h_plots := h_plots.mono (iE_ok _) hF41
   replace h_table := h_table.mono (iE_ok _) hF41
   refine wsr ?_
   refine ov (v_lssK rfl rfl) rfl ?_
   refine shO_nil (shW_seq ?_)
   refine shW_condP rfl (fun c43 => ?_) (fun c43 => ?_)
   · obtain ⟨x2, tl2, rfl, hx45, g46, hk44⟩ := Lst.succ hk36 c43
     rw [hear_Holds_l2] at r38
     refine shW_skip ?_
     refine shW_join (fun e1 F1 L1 => ∃ (v47 : Value), hear_Holds_j3 k (hear_Holds_l2 wide plots table d tl2) = some (r, r2) ∧ FExt F40 F1 ∧ L1 = [(b4, .cells #[.int .i64 0] 38 (0, 0)), (b3, .cells #[.bool false] 4 (0, 0)), (b2, .cells #[.slice table_a table.length table_c] 36 (0, 0)), (b1, .cells #[.int .i64 wide, .slice plots_a plots.length plots_c] 27 (0, 0))] ∧ e1.sub [(4, .pointer (some ⟨b1, 0, none⟩)), (7, .pointer (some ⟨b2, 0, none⟩)), (8, .pointer (some ⟨b3, 0, none⟩)), (9, .pointer (some ⟨b4, 0, none⟩)), (10, v47), (41, .int .i64 (plots.length : Int)), (42, .int .i64 k)] ∧ PtrR 113 (prE (iE .i64) (prE (slE 1 (iE .i64)) (prE (iE .i64) (prE (iE .i64) bE)))) F1 v47 d) ?_ ?_
     · refine shW_block ?_
       refine wsr (om rfl rfl ?_)
       refine o_alloc rfl Try.zeroValue3 ?_; intro b49 hb49
       refine o_store (i := 0) Try.sizeOf3 rfl rfl rfl rfl (Nat.le_of_ble_eq_true rfl) ?_
       refine shO_L (L' := [(b49, .cells #[.int .i64 k] 3 (0, 0)), (b4, .cells #[.int .i64 0] 38 (0, 0)), (b3, .cells #[.bool false] 4 (0, 0)), (b2, .cells #[.slice table_a table.length table_c] 36 (0, 0)), (b1, .cells #[.int .i64 wide, .slice plots_a plots.length plots_c] 27 (0, 0))]) rfl ?_
       refine nsr (om rfl rfl ?_)
       refine ov (v_load Try.isAgg3 rfl (Has.own 0 rfl) rfl) rfl ?_
       obtain ⟨wide2, plots2, down, right_, blows, h50, r51⟩ := b5_ok r38; clear r38
       have h60 := hp35; rw [h50] at h60; obtain ⟨b52, c53, m54, hv55, hz56, ⟨_, _, rfl, rfl, ⟨_, _, rfl, ⟨a57, c58, rfl, h59⟩, ⟨_, _, rfl, rfl, ⟨_, _, rfl, rfl, rfl⟩⟩⟩⟩⟩ := h60; subst hv55
       have hz56 : F40 b52 = some (.cells #[.int .i64 wide2, .slice a57 plots2.length c58, .int .i64 down, .int .i64 right_, .bool blows] 113 m54) := hz56
       obtain ⟨y, h61, r62⟩ := b1_ok r51; clear r51
       refine o_call0 rfl Try.call75 rfl rfl rfl (hear_desk_next_w hz56 h59 h61) ?_; rintro _ F63 _ hF64 hn65 ⟨cp67, rfl, rfl, hit68⟩
       replace h_plots := h_plots.mono (iE_ok _) hF64
       replace h_table := h_table.mono (iE_ok _) hF64
       replace hp35 := hp35.mono (prE_ok (iE_ok _) (prE_ok (slE_ok (iE_ok _)) (prE_ok (iE_ok _) (prE_ok (iE_ok _) bE_ok)))) hF64
       refine shO_L (ln rfl) ?_
       refine shO_nil ?_
       refine shW_block ?_
       refine shW_rangeFunc (encs := (fun x : Int × Int => #[.int .i64 x.1, .int .i64 x.2])) (xs := y) rfl Try.call97 rfl (fun _ => rfl) hit68 (fun pre F1 L1 => ∃ (tl3 : List (Int × Int)), y = pre ++ tl3 ∧ hear_Holds_l4 wide plots table k (hear_Holds_l2 wide plots table d tl2) tl3 = some (r, r2) ∧ L1 = [(b49, .cells #[.int .i64 k] 3 (0, 0)), (b4, .cells #[.int .i64 0] 38 (0, 0)), (b3, .cells #[.bool false] 4 (0, 0)), (b2, .cells #[.slice table_a table.length table_c] 36 (0, 0)), (b1, .cells #[.int .i64 wide, .slice plots_a plots.length plots_c] 27 (0, 0))]) (fun c F1 L1 => c = .ret ∧ hear_Holds_j5 = some (r, r2) ∧ L1 = [(b4, .cells #[.int .i64 0] 38 (0, 0)), (b3, .cells #[.bool false] 4 (0, 0))]) ?_ ?_ ?_ ?_ ?_ ?_
       · rintro pre F1 F2 L1 ⟨tl3, hs69, r70, rfl⟩ hx; exact ⟨tl3, hs69, r70, rfl⟩
       · rintro c F1 F2 L1 ⟨rfl, hq, rfl⟩ hx; exact ⟨rfl, hq, rfl⟩
       · exact ⟨_, rfl, r62, rfl⟩
       · rintro l71 wr72 Fr73 Xr74 Ha75 Hb76 hnb77 hH81 pre x3 tl4 hxs80 F78 _ hF79 ⟨tl3, hs69, r82, rfl⟩
         obtain rfl := rest_head hs69 hxs80
         rw [hear_Holds_l4] at r82
         replace h_plots := h_plots.mono (iE_ok _) hF79
         replace h_table := h_table.mono (iE_ok _) hF79
         refine shW_env [(4, .pointer (some ⟨b1, 0, none⟩)), (7, .pointer (some ⟨b2, 0, none⟩)), (8, .pointer (some ⟨b3, 0, none⟩)), (9, .pointer (some ⟨b4, 0, none⟩)), (10, .pointer (some ⟨b52, 0, none⟩)), (12, .pointer (some ⟨b49, 0, none⟩)), (41, .int .i64 (plots.length : Int)), (42, .int .i64 k), (48, .int .i64 x3.1), (49, .int .i64 x3.2)] (by exact (sc rfl (sc rfl (sc rfl (sc rfl (sc rfl (sc rfl (sc rfl (sc rfl (sc rfl (sc rfl (sn _)))))))))))) ?_
         refine wsr (oa rfl rfl (shO_nil (shW_region (oa rfl rfl (shO_nil ?_)))))
         refine ⟨rfl, ?_⟩
         refine shW_block ?_
         obtain ⟨k2, h83, r84⟩ := b1_ok r82; clear r82
         refine shW_join (fun e1 F1 L1 => F78 = F1 ∧ L1 = [(b49, .cells #[.int .i64 k] 3 (0, 0)), (b4, .cells #[.int .i64 0] 38 (0, 0)), (b3, .cells #[.bool false] 4 (0, 0)), (b2, .cells #[.slice table_a table.length table_c] 36 (0, 0)), (b1, .cells #[.int .i64 wide, .slice plots_a plots.length plots_c] 27 (0, 0))] ∧ e1.sub [(4, .pointer (some ⟨b1, 0, none⟩)), (7, .pointer (some ⟨b2, 0, none⟩)), (8, .pointer (some ⟨b3, 0, none⟩)), (9, .pointer (some ⟨b4, 0, none⟩)), (10, .pointer (some ⟨b52, 0, none⟩)), (12, .pointer (some ⟨b49, 0, none⟩)), (41, .int .i64 (plots.length : Int)), (42, .int .i64 k), (48, .int .i64 x3.1), (49, .int .i64 x3.2), (80, .bool k2)]) ?_ ?_
         · clear r84
           refine shW_draw (by kernel_rfl) (by kernel_rfl) (by kernel_rfl) ?_
           refine qv (v_loadA (cs := #[.int .i64 wide, .slice plots_a plots.length plots_c]) Try.isAgg27 Try.sizeOf27 rfl (Has.own 4 rfl) (Nat.le_of_ble_eq_true rfl) rfl) rfl ?_
           refine qv (v_load Try.isAgg3 rfl (Has.own 0 rfl) rfl) rfl ?_
           obtain ⟨ok, h85, r86⟩ := b1_ok h83; clear h83
           refine shQ_callV rfl Try.call85 rfl rfl rfl (hear_Town_wall_w h_plots h85) ?_
           refine qv (v_notB rfl) rfl ?_
           refine qm rfl rfl ?_
           rcases bool_two (!ok) with c87 | c87
           · have r88 := bt r86 c87; clear r86
             refine shQ_on (b := true) 54 rfl (EnvB rfl c87) ?_
             refine qv (v_load Try.isAgg36 rfl (Has.own 3 rfl) rfl) rfl ?_
             refine shQ_on (b := true) 54 rfl (EnvB rfl c87) (qm rfl rfl (shQ_on (b := true) 54 rfl (EnvB rfl c87) ?_))
             obtain ⟨x4, g89, hx90, r91⟩ := ix_ok r88; clear r88
             obtain ⟨b92, o93, c94, vs95, ha96, hs97, hle98, rfl, hl99, hc100⟩ := RowR.at (iE_ok _) h_table ([(b49, .cells #[.int .i64 k] 3 (0, 0)), (b4, .cells #[.int .i64 0] 38 (0, 0)), (b3, .cells #[.bool false] 4 (0, 0)), (b2, .cells #[.slice table_a table.length table_c] 36 (0, 0)), (b1, .cells #[.int .i64 wide, .slice plots_a plots.length plots_c] 27 (0, 0))]) g89.1 hx90
             refine qv (v_indexO Try.underlying36 Try.sizeOf3 rfl ha96 rfl g89) rfl ?_
             refine shQ_on (b := true) 54 rfl (EnvB rfl c87) ?_
             refine qv (v_load Try.isAgg3 rfl hs97 (hc100 0 (by decide))) rfl ?_
             refine shQ_on (b := true) 54 rfl (EnvB rfl c87) ?_
             refine qv (v_load Try.isAgg36 rfl (Has.own 3 rfl) rfl) rfl ?_
             refine shQ_on (b := true) 54 rfl (EnvB rfl c87) ?_
             refine qv (v_load Try.isAgg3 rfl (Has.own 0 rfl) rfl) rfl ?_
             refine shQ_on (b := true) 54 rfl (EnvB rfl c87) ?_
             obtain ⟨x5, g101, hx102, r103⟩ := ix_ok r91; clear r91
             obtain ⟨b104, o105, c106, vs107, ha108, hs109, hle110, rfl, hl111, hc112⟩ := RowR.at (iE_ok _) h_table ([(b49, .cells #[.int .i64 k] 3 (0, 0)), (b4, .cells #[.int .i64 0] 38 (0, 0)), (b3, .cells #[.bool false] 4 (0, 0)), (b2, .cells #[.slice table_a table.length table_c] 36 (0, 0)), (b1, .cells #[.int .i64 wide, .slice plots_a plots.length plots_c] 27 (0, 0))]) g101.1 hx102
             refine qv (v_indexO Try.underlying36 Try.sizeOf3 rfl ha108 rfl g101) rfl ?_
             refine shQ_on (b := true) 54 rfl (EnvB rfl c87) ?_
             refine qv (v_load Try.isAgg3 rfl hs109 (hc112 0 (by decide))) rfl ?_
             refine shQ_on (b := true) 54 rfl (EnvB rfl c87) ?_
             refine qv (v_gtrK rfl rfl) rfl ?_
             refine qv (v_pick_t (evB rfl c87) rfl) rfl ?_
             refine qm rfl rfl ?_
             by_cases c113 : x5 < x4
             · have r114 := ite_t r103 c113; clear r103
               refine shQ_on (b := true) 65 rfl (Env.isT rfl c113) ?_
               refine qv (v_load Try.isAgg36 rfl (Has.own 3 rfl) rfl) rfl ?_
               refine shQ_on (b := true) 65 rfl (Env.isT rfl c113) (qm rfl rfl (shQ_on (b := true) 65 rfl (Env.isT rfl c113) ?_))
               obtain ⟨b115, o116, c117, vs118, ha119, hs120, hle121, rfl, hl122, hc123⟩ := RowR.at (iE_ok _) h_table ([(b49, .cells #[.int .i64 k] 3 (0, 0)), (b4, .cells #[.int .i64 0] 38 (0, 0)), (b3, .cells #[.bool false] 4 (0, 0)), (b2, .cells #[.slice table_a table.length table_c] 36 (0, 0)), (b1, .cells #[.int .i64 wide, .slice plots_a plots.length plots_c] 27 (0, 0))]) g89.1 hx90
               refine qv (v_indexO Try.underlying36 Try.sizeOf3 rfl ha119 rfl g89) rfl ?_
               refine shQ_on (b := true) 65 rfl (Env.isT rfl c113) ?_
               refine qv (v_load Try.isAgg3 rfl hs120 (hc123 0 (by decide))) rfl ?_
               refine shQ_on (b := true) 65 rfl (Env.isT rfl c113) ?_
               refine qv (u_conv rfl Try.underlying3 Try.underlying125 rfl) rfl ?_
               refine shQ_on (b := true) 65 rfl (Env.isT rfl c113) ?_
               refine qv (v_load Try.isAgg36 rfl (Has.own 3 rfl) rfl) rfl ?_
               refine shQ_on (b := true) 65 rfl (Env.isT rfl c113) ?_
               refine qv (v_load Try.isAgg3 rfl (Has.own 0 rfl) rfl) rfl ?_
               refine shQ_on (b := true) 65 rfl (Env.isT rfl c113) ?_
               obtain ⟨b124, o125, c126, vs127, ha128, hs129, hle130, rfl, hl131, hc132⟩ := RowR.at (iE_ok _) h_table ([(b49, .cells #[.int .i64 k] 3 (0, 0)), (b4, .cells #[.int .i64 0] 38 (0, 0)), (b3, .cells #[.bool false] 4 (0, 0)), (b2, .cells #[.slice table_a table.length table_c] 36 (0, 0)), (b1, .cells #[.int .i64 wide, .slice plots_a plots.length plots_c] 27 (0, 0))]) g101.1 hx102
               refine qv (v_indexO Try.underlying36 Try.sizeOf3 rfl ha128 rfl g101) rfl ?_
               refine shQ_on (b := true) 65 rfl (Env.isT rfl c113) ?_
               refine qv (v_load Try.isAgg3 rfl hs129 (hc132 0 (by decide))) rfl ?_
               refine shQ_on (b := true) 65 rfl (Env.isT rfl c113) ?_
               refine qv (u_conv rfl Try.underlying3 Try.underlying125 rfl) rfl ?_
               refine shQ_on (b := true) 65 rfl (Env.isT rfl c113) ?_
               refine qv (u_sub rfl rfl rfl) rfl ?_
               refine shQ_on (b := true) 65 rfl (Env.isT rfl c113) (qm rfl rfl (shQ_on (b := true) 65 rfl (Env.isT rfl c113) ?_))
               refine qv (u_conv rfl Try.underlying3 Try.underlying125 rfl) rfl ?_
               refine shQ_on (b := true) 65 rfl (Env.isT rfl c113) ?_
               refine qv (v_gtrK rfl rfl) rfl ?_
               refine qv (v_pick_t (evD_true rfl c113) rfl) rfl ?_
               refine shQ_nil ?_
               obtain rfl := inj1 r114
               exact mi kr ⟨rfl, rfl, (sc rfl (sc rfl (sc rfl (sc rfl (sc rfl (sc rfl (sc rfl (sc rfl (sc rfl (sc rfl (sc rfl (sn _))))))))))))⟩
             have r133 := ite_f r103 c113; clear r103
             refine shQ_off (b' := false) 65 rfl (Env.isF rfl c113) rfl rfl (shQ_off (b' := false) 65 rfl (Env.isF rfl c113) rfl rfl (shQ_off (b' := false) 65 rfl (Env.isF rfl c113) rfl rfl (shQ_off (b' := false) 65 rfl (Env.isF rfl c113) rfl rfl (shQ_off (b' := false) 65 rfl (Env.isF rfl c113) rfl rfl (shQ_off (b' := false) 65 rfl (Env.isF rfl c113) rfl rfl (shQ_off (b' := false) 65 rfl (Env.isF rfl c113) rfl rfl (shQ_off (b' := false) 65 rfl (Env.isF rfl c113) rfl rfl (shQ_off (b' := false) 65 rfl (Env.isF rfl c113) rfl rfl (shQ_off (b' := false) 65 rfl (Env.isF rfl c113) rfl rfl ?_)))))))))
             refine shQ_off (b' := false) 65 rfl (Env.isF rfl c113) rfl rfl (shQ_off (b' := false) 65 rfl (Env.isF rfl c113) rfl rfl (shQ_off (b' := false) 65 rfl (Env.isF rfl c113) rfl rfl (shQ_off (b' := false) 65 rfl (Env.isF rfl c113) rfl rfl ?_)))
             refine qv (v_pick_f (evD_false rfl c113) rfl) rfl ?_
             refine shQ_nil ?_
             obtain rfl := inj1 r133
             exact mi kr ⟨rfl, rfl, (sc rfl (sc rfl (sc rfl (sc rfl (sc rfl (sc rfl (sc rfl (sc rfl (sc rfl (sc rfl (sc rfl (sn _))))))))))))⟩
           have r134 := bf r86 c87; clear r86
           refine shQ_off (b' := false) 54 rfl (EnvB rfl c87) rfl rfl (shQ_off (b' := false) 54 rfl (EnvB rfl c87) rfl rfl (shQ_off (b' := false) 54 rfl (EnvB rfl c87) rfl rfl (shQ_off (b' := false) 54 rfl (EnvB rfl c87) rfl rfl (shQ_off (b' := false) 54 rfl (EnvB rfl c87) rfl rfl (shQ_off (b' := false) 54 rfl (EnvB rfl c87) rfl rfl (shQ_off (b' := false) 54 rfl (EnvB rfl c87) rfl rfl (shQ_off (b' := false) 54 rfl (EnvB rfl c87) rfl rfl (shQ_off (b' := false) 54 rfl (EnvB rfl c87) rfl rfl ?_))))))))
           refine qv (v_pick_f (evB rfl c87) rfl) rfl ?_
           refine qm rfl rfl (shQ_off (b' := false) 65 rfl rfl rfl rfl (shQ_off (b' := false) 65 rfl rfl rfl rfl (shQ_off (b' := false) 65 rfl rfl rfl rfl (shQ_off (b' := false) 65 rfl rfl rfl rfl (shQ_off (b' := false) 65 rfl rfl rfl rfl (shQ_off (b' := false) 65 rfl rfl rfl rfl (shQ_off (b' := false) 65 rfl rfl rfl rfl (shQ_off (b' := false) 65 rfl rfl rfl rfl (shQ_off (b' := false) 65 rfl rfl rfl rfl ?_)))))))))
           refine shQ_off (b' := false) 65 rfl rfl rfl rfl (shQ_off (b' := false) 65 rfl rfl rfl rfl (shQ_off (b' := false) 65 rfl rfl rfl rfl (shQ_off (b' := false) 65 rfl rfl rfl rfl (shQ_off (b' := false) 65 rfl rfl rfl rfl ?_))))
           refine qv (v_pick_f rfl rfl) rfl ?_
           refine shQ_nil ?_
           obtain rfl := inj1 r134
           exact mi kr ⟨rfl, rfl, (sc rfl (sc rfl (sc rfl (sc rfl (sc rfl (sc rfl (sc rfl (sc rfl (sc rfl (sc rfl (sc rfl (sn _))))))))))))⟩
         rintro e1 _ _ ⟨rfl, rfl, he135⟩
         refine shW_env _ he135 ?_; clear he135
         refine shW_cond rfl (fun c136 => ?_) (fun c136 => ?_)
         · have r137 := bt r84 c136; clear r84
           refine wsr ?_
           refine o_store (i := 2) Try.sizeOf4 rfl rfl rfl rfl (Nat.le_of_ble_eq_true rfl) ?_
           refine shO_L (L' := [(b49, .cells #[.int .i64 k] 3 (0, 0)), (b4, .cells #[.int .i64 0] 38 (0, 0)), (b3, .cells #[.bool false] 4 (0, 0)), (b2, .cells #[.slice table_a table.length table_c] 36 (0, 0)), (b1, .cells #[.int .i64 wide, .slice plots_a plots.length plots_c] 27 (0, 0))]) rfl ?_
           refine o_store (i := 1) Try.sizeOf38 rfl rfl rfl rfl (Nat.le_of_ble_eq_true rfl) ?_
           refine shO_L (L' := [(b49, .cells #[.int .i64 k] 3 (0, 0)), (b4, .cells #[.int .i64 0] 38 (0, 0)), (b3, .cells #[.bool false] 4 (0, 0)), (b2, .cells #[.slice table_a table.length table_c] 36 (0, 0)), (b1, .cells #[.int .i64 wide, .slice plots_a plots.length plots_c] 27 (0, 0))]) rfl ?_
           refine shO_nil (shW_ret (inBlock_ret ?_))
           refine ⟨[(b4, .cells #[.int .i64 0] 38 (0, 0)), (b3, .cells #[.bool false] 4 (0, 0))], s1 (s2 (s2 (s1 (s1 sr)))), ?_⟩; exact ⟨rfl, r137, rfl⟩
         have r138 := bf r84 c136; clear r84
         refine shW_skip (inBlock_n (id := 4) ?_)
         refine ⟨[(b49, .cells #[.int .i64 k] 3 (0, 0)), (b4, .cells #[.int .i64 0] 38 (0, 0)), (b3, .cells #[.bool false] 4 (0, 0)), (b2, .cells #[.slice table_a table.length table_c] 36 (0, 0)), (b1, .cells #[.int .i64 wide, .slice plots_a plots.length plots_c] 27 (0, 0))], sr, ?_⟩; exact ⟨_, (by rw [hxs80]; simp), r138, rfl⟩
       · rintro F139 _ hF140 ⟨tl3, hs69, r141, rfl⟩
         obtain rfl := rest_nil hs69; rw [hear_Holds_l4] at r141
         replace hp35 := hp35.mono (prE_ok (iE_ok _) (prE_ok (slE_ok (iE_ok _)) (prE_ok (iE_ok _) (prE_ok (iE_ok _) bE_ok)))) hF140
         refine inBlock_n (id := 3) (inBlock_n (id := 2) ?_)
         exact mi (kd kr) ⟨.pointer (some ⟨b52, 0, none⟩), r141, (hF64.trans hF140), rfl, (sc rfl (sc rfl (sc rfl (sc rfl (sc rfl (sc rfl (sc rfl (sn _)))))))), hp35⟩
       rintro _ F142 _ hF143 ⟨rfl, r144, rfl⟩
       rw [hear_Holds_j5] at r144
       refine shW_ret (inBlock_ret (inBlock_ret (andThen_ret (andThen_ret (inBlock_ret (andThen_ret ?_))))))
       refine q_res2 Try.results58 (res_cell Try.isAgg4 rfl (Has.own 1 rfl) rfl) (res_cell Try.isAgg38 rfl (Has.own 0 rfl) rfl) (s1 (s1 sr)) ?_
       obtain ⟨rfl, rfl⟩ := inj2 r144
       exact rfl
     rintro e1 F147 _ ⟨v47, r145, hF148, rfl, he146, hp48⟩
     refine shW_env _ he146 ?_; clear he146
     replace h_plots := h_plots.mono (iE_ok _) hF148
     rw [hear_Holds_j3] at r145
     refine shW_region ?_
     refine ov (v_add rfl rfl (Lst.r64 hk36 c43 (RowR.lt h_plots))) rfl ?_
     refine om rfl rfl (shO_nil ?_)
     subst hn37; exact le kr ⟨_, _, rfl, hk44, v47, r145, (hF41.trans hF148), rfl, (sc rfl (sc rfl (sc rfl (sc rfl (sc rfl (sc rfl (sc rfl (sn _)))))))), hp48⟩
   obtain rfl := Lst.zero hk36 c43
   rw [hear_Holds_l2] at r38
   refine shW_exit (andThen_exit (andThen_exit ?_))
   refine inBlock_exit ?_
   exact mi (kc (kc kn)) ⟨r38, hF41, rfl, (sc rfl (sc rfl (sn _)))⟩
 rintro e1 F151 _ ⟨r149, hF152, rfl, he150⟩
 refine shW_env _ he150 ?_; clear he150
 rw [hear_Holds_j1] at r149
 refine wsr ?_
 refine o_store (i := 1) Try.sizeOf4 rfl rfl rfl rfl (Nat.le_of_ble_eq_true rfl) ?_
 refine shO_L (L' := [(b4, .cells #[.int .i64 0] 38 (0, 0)), (b3, .cells #[.bool true] 4 (0, 0))]) rfl ?_
 refine o_store (i := 0) Try.sizeOf38 rfl rfl rfl rfl (Nat.le_of_ble_eq_true rfl) ?_
 refine shO_L (L' := [(b4, .cells #[.int .i64 0] 38 (0, 0)), (b3, .cells #[.bool true] 4 (0, 0))]) rfl ?_
 refine shO_nil (shW_ret ?_)
 refine q_res2 Try.results58 (res_cell Try.isAgg4 rfl (Has.own 1 rfl) rfl) (res_cell Try.isAgg38 rfl (Has.own 0 rfl) rfl) (s1 (s1 sr)) ?_
 obtain ⟨rfl, rfl⟩ := inj2 r149
 exact rfl
set_option maxHeartbeats 1000000 in
theorem hear_Need_w {wide : Int} {plots_a : Option Addr} {plots_c : Nat} {plots : List Int} {wind : Int} {stand : Int} {plot : Int} {F : FS} (h_plots : RowR 1 (iE .i64) F plots_a plots_c plots) {r : Int} {r2 : Int} (hr : hear_Need wide plots wind stand plot = some (r, r2)) :
    SpecV Try.prog 60 #[.agg #[.int .i64 wide, .slice plots_a plots.length plots_c], .int .i64 wind, .int .i64 stand, .int .i64 plot] F (.tuple #[.int .i64 r, .int .i64 r2]) := by
 refine spec_of_shW (args := [.agg #[.int .i64 wide, .slice plots_a plots.length plots_c], .int .i64 wind, .int .i64 stand, .int .i64 plot]) Try.func60 rfl Try.ntmps60 (Nat.le_of_ble_eq_true rfl) ?_
 intro K _ _; rw [hear_Need] at hr
 refine wsr ?_
 refine o_box rfl rfl ?_; intro b1 hb1
 refine oa rfl rfl (oa rfl rfl (nsr ?_))
 refine ov (v_loadA (cs := #[.int .i64 wide, .slice plots_a plots.length plots_c]) Try.isAgg27 Try.sizeOf27 rfl (Has.own 0 rfl) (Nat.le_of_ble_eq_true rfl) rfl) rfl ?_
 refine om rfl rfl (om rfl rfl ?_)
 obtain ⟨l, n, h2, r3⟩ := b2_ok hr; clear hr
 refine o_call0 rfl Try.call13 rfl rfl rfl (hear_Needs_w h_plots h2) ?_; rintro _ F4 _ hF5 hn6 ⟨a8, n12, c9, Lb10, rfl, rfl, hz11⟩
 replace h_plots := h_plots.mono (iE_ok _) hF5
 replace hz11 := hz11.new fun p hp => hn6 p (by simp [hp])
 refine shO_L (lp (ln rfl)) ?_
 refine kO (kf (fS fO) kr) ?_
 refine om rfl rfl (ox rfl rfl rfl (ox rfl rfl rfl (oa rfl rfl (oa rfl rfl (shO_nil (shW_seq ?_))))))
 refine shW_block ?_
 refine wsr (om rfl rfl ?_)
 refine ov (v_neq rfl rfl) rfl ?_
 refine oa rfl rfl (shO_nil ?_)
 refine shW_condP rfl (fun c14 => ?_) (fun c14 => ?_)
 · have r15 := ite_t r3 c14; clear r3
   refine wsr (om rfl rfl (oa rfl rfl (oa rfl rfl (shO_nil ?_))))
   refine kW kn ?_
   refine shW_ret (inBlock_ret (andThen_ret ?_))
   refine q_res2 Try.results60 (res_tmp rfl) (res_tmp rfl) (sr) ?_
   obtain ⟨rfl, rfl⟩ := inj2 r15
   exact rfl
 have r16 := ite_f r3 c14; clear r3
 refine wsr ?_
 refine ov (v_loadA (cs := #[.int .i64 wide, .slice plots_a plots.length plots_c]) Try.isAgg27 Try.sizeOf27 rfl (Has.own 0 rfl) (Nat.le_of_ble_eq_true rfl) rfl) rfl ?_
 refine om rfl rfl ?_
 obtain ⟨ok, h17, r18⟩ := b1_ok r16; clear r16
 refine o_callV rfl Try.call87 rfl rfl rfl (hear_Town_plot_w h_plots h17) ?_
 refine ov (v_notB rfl) rfl ?_
 refine oa rfl rfl (shO_nil ?_)
 refine shW_cond rfl (fun c19 => ?_) (fun c19 => ?_)
 · have r20 := bt r18 c19; clear r18
   refine wsr (oa rfl rfl (oa rfl rfl (shO_nil ?_)))
   refine kW kn ?_
   refine shW_ret (inBlock_ret (andThen_ret ?_))
   refine q_res2 Try.results60 (res_tmp rfl) (res_tmp rfl) (sr) ?_
   obtain ⟨rfl, rfl⟩ := inj2 r20
   exact rfl
 have r21 := bf r18 c19; clear r18
 refine wsr (om rfl rfl (om rfl rfl ?_))
 obtain ⟨x, g22, hx23, r24⟩ := ix_ok r21; clear r21
 obtain ⟨b25, o26, c27, vs28, ha29, hs30, hle31, rfl, hl32, hc33⟩ := SlR.at (iE_ok _) hz11 (L := (b1, .cells #[.int .i64 wide, .slice plots_a plots.length plots_c] 27 (0, 0)) :: (Lb10 ++ [])) (fC fP) g22.1 hx23
 refine ov (v_indexO Try.underlying36 Try.sizeOf3 rfl ha29 rfl (SlR.idx hz11 g22)) rfl ?_
 refine ov (v_load Try.isAgg3 rfl hs30 (hc33 0 (by decide))) rfl ?_
 refine ov (v_eql rfl rfl) rfl ?_
 refine oa rfl rfl (shO_nil ?_)
 refine shW_condP rfl (fun c34 => ?_) (fun c34 => ?_)
 · have r35 := ite_t r24 c34; clear r24
   refine wsr (oa rfl rfl (oa rfl rfl (shO_nil ?_)))
   refine kW kn ?_
   refine shW_ret (inBlock_ret (andThen_ret ?_))
   refine q_res2 Try.results60 (res_tmp rfl) (res_tmp rfl) (sr) ?_
   obtain ⟨rfl, rfl⟩ := inj2 r35
   exact rfl
 have r36 := ite_f r24 c34; clear r24
 refine shW_skip (inBlock_n (id := 0) (wsr (om rfl rfl (om rfl rfl ?_))))
 obtain ⟨b37, o38, c39, vs40, ha41, hs42, hle43, rfl, hl44, hc45⟩ := SlR.at (iE_ok _) hz11 (L := (b1, .cells #[.int .i64 wide, .slice plots_a plots.length plots_c] 27 (0, 0)) :: (Lb10 ++ [])) (fC fP) g22.1 hx23
 refine ov (v_indexO Try.underlying36 Try.sizeOf3 rfl ha41 rfl (SlR.idx hz11 g22)) rfl ?_
 refine ov (v_load Try.isAgg3 rfl hs42 (hc45 0 (by decide))) rfl ?_
 refine oa rfl rfl (oa rfl rfl (shO_nil ?_))
 refine kW kn ?_
 refine shW_ret ?_
 refine q_res2 Try.results60 (res_tmp rfl) (res_tmp rfl) (sr) ?_
 obtain ⟨rfl, rfl⟩ := inj2 r36
 exact rfl
set_option maxHeartbeats 1000000 in
theorem slices_Reverse_int_int_w {s__a : Option Addr} {s__n : Nat} {s__c : Nat} {s__L : LH} {s_ : List Int} {s__nb : Nat} {F : FS} (h_s_ : SlR s__nb 3 1 (iE .i64) F s__a s__n s__c s_ s__L) {r : List Int} (hr : slices_Reverse_int_int s_ = some r) :
    SH.Spec Try.prog 86 #[.slice s__a s__n s__c] F (s__L ++ []) fun F' L' v => ∃ (rL : LH), v = .tuple #[] ∧ L' = rL ++ [] ∧ SlR s__nb 3 1 (iE .i64) F' s__a s__n s__c r rL := by
 refine spec_of_shW (args := [.slice s__a s__n s__c]) Try.func86 rfl Try.ntmps86 (Nat.le_of_ble_eq_true rfl) ?_
 intro K _ _; rw [slices_Reverse_int_int] at hr
 refine shW_L (L' := s__L ++ []) (by simp) ?_
 refine wsr (om rfl rfl ?_)
 refine ov ((v_lenS Try.underlying36 rfl).i (SlR.lenI h_s_)) rfl ?_
 obtain ⟨g1, r2⟩ := gd_ok hr; clear hr
 refine ov (v_sub rfl rfl g1) rfl ?_
 refine oa rfl rfl (oa rfl rfl (shO_nil ?_))
 refine shW_block ?_
 refine shW_lp (fun fu1 e1 F1 L1 => ∃ (s_2 : List Int) (i : Int) (j : Int) (Lb3 : LH), slices_Reverse_int_int_l1 fu1 s_2 i j = some r ∧ F = F1 ∧ L1 = (Lb3 ++ []) ∧ e1.sub [(0, .slice s__a s__n s__c), (2, .int .i64 i), (3, .int .i64 j)] ∧ SlR s__nb 3 1 (iE .i64) F1 s__a s__n s__c s_2 Lb3) FU (m0 kr ⟨s_, 0, (s_.length : Int) - 1, s__L, r2, rfl, rfl, (sc rfl (sc rfl (sc rfl (sn _)))), h_s_⟩) ?_
 rintro fu1 e1 _ _ ⟨s_2, i, j, Lb3, r7, rfl, rfl, he8, hz4⟩
 refine shW_env _ he8 ?_; clear he8
 rcases fu1 with _ | fu1
 · rw [slices_Reverse_int_int_l1] at r7; cases r7
 rw [slices_Reverse_int_int_l1] at r7
 refine shW_seq (wsr (om rfl rfl (om rfl rfl ?_)))
 refine ov (v_lssK rfl rfl) rfl ?_
 refine shO_nil ?_
 refine shW_condP rfl (fun c9 => ?_) (fun c9 => ?_)
 · have r10 := ite_t r7 c9; clear r7
   refine shW_skip (shW_seq ?_)
   refine shW_block ?_
   refine shW_drawM [(.still, 0), (.still, 1), (.still, 2), (.still, 3), (.still, 4), (.still, 5), (.still, 6), (.still, 7), (.still, 8), (.still, 9), (.still, 10), (.still, 11), (.still, 12), (.seq, 13), (.still, 14), (.seq, 15)] (by kernel_rfl) (by kernel_rfl) (trivial) (by rfl) (by kernel_rfl) ?_
   refine shM_v (v := .slice s__a s__n s__c) (ek := [(0, .slice s__a s__n s__c)]) (Ls := []) rfl rfl rfl rfl ((sc rfl (sn _))) (by kernel_rfl) sm (fun H F' L' hF' hL' => v_move rfl) ?_
   refine shM_v (v := .int .i64 i) (ek := [(2, .int .i64 i)]) (Ls := []) rfl rfl rfl rfl ((sc rfl (sn _))) (by kernel_rfl) sm (fun H F' L' hF' hL' => v_move rfl) ?_
   refine shM_v (v := .slice s__a s__n s__c) (ek := [(0, .slice s__a s__n s__c)]) (Ls := []) rfl rfl rfl rfl ((sc rfl (sn _))) (by kernel_rfl) sm (fun H F' L' hF' hL' => v_move rfl) ?_
   refine shM_v (v := .int .i64 j) (ek := [(3, .int .i64 j)]) (Ls := []) rfl rfl rfl rfl ((sc rfl (sn _))) (by kernel_rfl) sm (fun H F' L' hF' hL' => v_move rfl) ?_
   refine shM_v (v := .slice s__a s__n s__c) (ek := [(0, .slice s__a s__n s__c)]) (Ls := []) rfl rfl rfl rfl ((sc rfl (sn _))) (by kernel_rfl) sm (fun H F' L' hF' hL' => v_move rfl) ?_
   refine shM_v (v := .int .i64 j) (ek := [(3, .int .i64 j)]) (Ls := []) rfl rfl rfl rfl ((sc rfl (sn _))) (by kernel_rfl) sm (fun H F' L' hF' hL' => v_move rfl) ?_
   obtain ⟨x, g11, hx12, r13⟩ := ix_ok r10; clear r10
   obtain ⟨b14, o15, c16, vs17, ha18, hs19, hle20, rfl, hl21, hc22⟩ := SlR.at (iE_ok _) hz4 (L := Lb3 ++ []) fP g11.1 hx12
   refine shM_v (v := .pointer (some ⟨b14, o15 + (j : Int).toNat * 1, none⟩)) (ek := [(18, .slice s__a s__n s__c), (19, .int .i64 j)]) (Ls := []) rfl rfl rfl rfl ((sc rfl (sc rfl (sn _)))) (by kernel_rfl) sm (fun H F' L' hF' hL' => v_indexO Try.underlying36 Try.sizeOf3 rfl ha18 rfl (SlR.idx hz4 g11)) ?_
   refine shM_v (v := .int .i64 x) (ek := [(20, .pointer (some ⟨b14, o15 + (j : Int).toNat * 1, none⟩))]) (Ls := Lb3 ++ []) rfl rfl rfl rfl ((sc rfl (sn _))) (by kernel_rfl) (s0 sr) (fun H F' L' hF' hL' => v_load Try.isAgg3 rfl (hs19.ext hF' hL') (hc22 0 (by decide))) ?_
   refine shM_v (v := .slice s__a s__n s__c) (ek := [(0, .slice s__a s__n s__c)]) (Ls := []) rfl rfl rfl rfl ((sc rfl (sn _))) (by kernel_rfl) sm (fun H F' L' hF' hL' => v_move rfl) ?_
   refine shM_v (v := .int .i64 i) (ek := [(2, .int .i64 i)]) (Ls := []) rfl rfl rfl rfl ((sc rfl (sn _))) (by kernel_rfl) sm (fun H F' L' hF' hL' => v_move rfl) ?_
   obtain ⟨x2, g23, hx24, r25⟩ := ix_ok r13; clear r13
   obtain ⟨b26, o27, c28, vs29, ha30, hs31, hle32, rfl, hl33, hc34⟩ := SlR.at (iE_ok _) hz4 (L := Lb3 ++ []) fP g23.1 hx24
   refine shM_v (v := .pointer (some ⟨b26, o27 + (i : Int).toNat * 1, none⟩)) (ek := [(22, .slice s__a s__n s__c), (23, .int .i64 i)]) (Ls := []) rfl rfl rfl rfl ((sc rfl (sc rfl (sn _)))) (by kernel_rfl) sm (fun H F' L' hF' hL' => v_indexO Try.underlying36 Try.sizeOf3 rfl ha30 rfl (SlR.idx hz4 g23)) ?_
   refine shM_v (v := .int .i64 x2) (ek := [(24, .pointer (some ⟨b26, o27 + (i : Int).toNat * 1, none⟩))]) (Ls := Lb3 ++ []) rfl rfl rfl rfl ((sc rfl (sn _))) (by kernel_rfl) (s0 sr) (fun H F' L' hF' hL' => v_load Try.isAgg3 rfl (hs31.ext hF' hL') (hc34 0 (by decide))) ?_
   obtain ⟨b35, o36, c37, vs38, ha39, hs40, hle41, rfl, hl42, hc43⟩ := SlR.at (iE_ok _) hz4 (L := Lb3 ++ []) fP g23.1 hx24
   refine shM_v (v := .pointer (some ⟨b35, o36 + (i : Int).toNat * 1, none⟩)) (ek := [(14, .slice s__a s__n s__c), (15, .int .i64 i)]) (Ls := []) rfl rfl rfl rfl ((sc rfl (sc rfl (sn _)))) (by kernel_rfl) sm (fun H F' L' hF' hL' => v_indexO Try.underlying36 Try.sizeOf3 rfl ha39 rfl (SlR.idx hz4 g23)) ?_
   refine ⟨_, [(21, .int .i64 x), (26, .pointer (some ⟨b35, o36 + (i : Int).toNat * 1, none⟩))], rfl, rfl, (sc rfl (sc rfl (sn _))), by kernel_rfl, ?_⟩; intro H
   obtain ⟨l, h44, r45⟩ := bv_ok r25; clear r25
   refine o_storeZ (u := x) Try.sizeOf3 (iE_ok _) rfl ha39 rfl rfl (fun _ => .h) hz4 h44 g23 ?_; intro Lb46 hz47
   refine shO_nil ⟨undef, rfl, FExt.refl _, [3, 2], by kernel_rfl, .inl (.inr (fun d h => by cases h)), (List.forall_mem_cons.2 ⟨sm, (List.forall_mem_cons.2 ⟨sm, (fun _ h => absurd h List.not_mem_nil)⟩)⟩), ?_⟩
   obtain ⟨x3, g48, hx49, r50⟩ := ix_ok r45; clear r45
   obtain ⟨b51, o52, c53, vs54, ha55, hs56, hle57, rfl, hl58, hc59⟩ := SlR.at (iE_ok _) hz47 (L := Lb46 ++ []) fP g48.1 hx49
   refine shM_v (v := .pointer (some ⟨b51, o52 + (j : Int).toNat * 1, none⟩)) (ek := [(16, .slice s__a s__n s__c), (17, .int .i64 j)]) (Ls := []) rfl rfl rfl rfl ((sc rfl (sc rfl (sn _)))) (by kernel_rfl) sm (fun H F' L' hF' hL' => v_indexO Try.underlying36 Try.sizeOf3 rfl ha55 rfl (SlR.idx hz47 g48)) ?_
   refine ⟨_, [(25, .int .i64 x2), (27, .pointer (some ⟨b51, o52 + (j : Int).toNat * 1, none⟩))], rfl, rfl, (sc rfl (sc rfl (sn _))), by kernel_rfl, ?_⟩; intro H
   obtain ⟨l2, h60, r61⟩ := bv_ok r50; clear r50
   refine o_storeZ (u := x2) Try.sizeOf3 (iE_ok _) rfl ha55 rfl rfl (fun _ => .h) hz47 h60 g48 ?_; intro Lb62 hz63
   refine shO_nil ⟨undef, rfl, FExt.refl _, [], by kernel_rfl, .inl (.inl rfl), (fun _ h => absurd h List.not_mem_nil), ?_⟩
   refine shM_nil ?_
   refine inBlock_n (id := 1) (shW_region (om rfl rfl ?_))
   obtain ⟨g64, r65⟩ := gd_ok r61; clear r61
   refine ov (v_add rfl rfl g64) rfl ?_
   refine om rfl rfl ?_
   obtain ⟨g66, r67⟩ := gd_ok r65; clear r65
   refine ov (v_sub rfl rfl g66) rfl ?_
   refine oa rfl rfl (oa rfl rfl (shO_nil ?_))
   exact le kr ⟨l2, i + 1, j - 1, Lb62, r67, rfl, rfl, (sc rfl (sc rfl (sc rfl (sn _)))), hz63⟩
 have r68 := ite_f r7 c9; clear r7
 refine shW_exit (andThen_exit (andThen_exit ?_))
 refine inBlock_exit ?_
 refine q_end0 (.inr rfl) Try.results86 ?_
 obtain rfl := inj1 r68
 exact ⟨_, rfl, rfl, hz4⟩
set_option maxHeartbeats 1000000 in
theorem hear_Way_w {wide : Int} {plots_a : Option Addr} {plots_c : Nat} {plots : List Int} {wind : Int} {stand : Int} {plot : Int} {F : FS} (h_plots : RowR 1 (iE .i64) F plots_a plots_c plots) {r : List Int} {r2 : Int} (hr : hear_Way wide plots wind stand plot = some (r, r2)) :
    SH.Spec Try.prog 59 #[.agg #[.int .i64 wide, .slice plots_a plots.length plots_c], .int .i64 wind, .int .i64 stand, .int .i64 plot] F [] fun F' L' v => ∃ (ra : Option Addr) (rn : Nat) (rc : Nat) (rL : LH), v = .tuple #[.slice ra rn rc, .int .i64 r2] ∧ L' = rL ++ [] ∧ SlR 0 3 1 (iE .i64) F' ra rn rc r rL := by
 refine spec_of_shW (args := [.agg #[.int .i64 wide, .slice plots_a plots.length plots_c], .int .i64 wind, .int .i64 stand, .int .i64 plot]) Try.func59 rfl Try.ntmps59 (Nat.le_of_ble_eq_true rfl) ?_
 intro K _ _; rw [hear_Way] at hr
 refine wsr ?_
 refine o_box rfl rfl ?_; intro b1 hb1
 refine oa rfl rfl (oa rfl rfl (shO_nil (shW_seq (wsr ?_))))
 refine ov (v_loadA (cs := #[.int .i64 wide, .slice plots_a plots.length plots_c]) Try.isAgg27 Try.sizeOf27 rfl (Has.own 0 rfl) (Nat.le_of_ble_eq_true rfl) rfl) rfl ?_
 refine om rfl rfl (om rfl rfl (om rfl rfl ?_))
 obtain ⟨n, n2, h2, r3⟩ := b2_ok hr; clear hr
 refine o_callV rfl Try.call60 rfl rfl rfl (hear_Need_w h_plots h2) ?_
 refine om rfl rfl (ox rfl rfl rfl (ox rfl rfl rfl (oa rfl rfl (oa rfl rfl (nsr (om rfl rfl ?_))))))
 refine ov (v_neq rfl rfl) rfl ?_
 refine shO_nil ?_
 refine shW_condP rfl (fun c4 => ?_) (fun c4 => ?_)
 · have r5 := ite_t r3 c4; clear r3
   refine wsr (om rfl rfl (oa rfl rfl (oa rfl rfl (shO_nil ?_))))
   refine kW kn ?_
   refine shW_ret (andThen_ret ?_)
   refine q_res2 Try.results59 (res_tmp rfl) (res_tmp rfl) (sr) ?_
   obtain ⟨rfl, rfl⟩ := inj2 r5
   exact ⟨_, _, _, [], rfl, rfl, SlR.nil _ _ _ _ _⟩
 have r6 := ite_f r3 c4; clear r3
 refine shW_skip (wsr ?_)
 refine ov (v_loadA (cs := #[.int .i64 wide, .slice plots_a plots.length plots_c]) Try.isAgg27 Try.sizeOf27 rfl (Has.own 0 rfl) (Nat.le_of_ble_eq_true rfl) rfl) rfl ?_
 refine om rfl rfl ?_
 obtain ⟨d, n3, h7, r8⟩ := b2_ok r6; clear r6
 refine o_call0 rfl Try.call74 rfl rfl rfl (hear_opened_w h_plots h7) ?_; rintro _ F9 _ hF10 hn11 ⟨v13, rfl, rfl, hp14⟩
 replace h_plots := h_plots.mono (iE_ok _) hF10
 refine shO_L (ln rfl) ?_
 refine om rfl rfl (ox rfl rfl rfl (ox rfl rfl rfl (oa rfl rfl (oa rfl rfl (nsr (om rfl rfl (om rfl rfl ?_)))))))
 obtain ⟨wide2, plots2, down, right_, blows, h15, r16⟩ := b5_ok r8; clear r8
 have h25 := hp14; rw [h15] at h25; obtain ⟨b17, c18, m19, hv20, hz21, ⟨_, _, rfl, rfl, ⟨_, _, rfl, ⟨a22, c23, rfl, h24⟩, ⟨_, _, rfl, rfl, ⟨_, _, rfl, rfl, rfl⟩⟩⟩⟩⟩ := h25; subst hv20
 have hz21 : F9 b17 = some (.cells #[.int .i64 wide2, .slice a22 plots2.length c23, .int .i64 down, .int .i64 right_, .bool blows] 113 m19) := hz21
 obtain ⟨l, h26, r27⟩ := b1_ok r16; clear r16
 refine o_call0 rfl Try.call43 rfl rfl rfl (hear_desk_from_w hz21 h24 h26) ?_; rintro _ F28 _ hF29 hn30 ⟨a32, n36, c33, Lb34, rfl, rfl, hz35⟩
 replace h_plots := h_plots.mono (iE_ok _) hF29
 replace h24 := h24.mono (iE_ok _) hF29
 replace hz21 := hF29 _ _ hz21
 replace hz35 := hz35.new fun p hp => hn30 p (by simp [hp])
 refine shO_L (lp (ln rfl)) ?_
 refine kO (kf (fS fO) kr) ?_
 refine o_alloc rfl Try.zeroValue36 ?_; intro b38 hb38
 refine o_store (i := 0) Try.sizeOf36 rfl rfl rfl rfl (Nat.le_of_ble_eq_true rfl) ?_
 refine shO_L (L' := (b38, .cells #[.slice a32 n36 c33] 36 (0, 0)) :: ((b1, .cells #[.int .i64 wide, .slice plots_a plots.length plots_c] 27 (0, 0)) :: (Lb34 ++ []))) rfl ?_
 refine nsr (om rfl rfl ?_)
 refine o_buildSlice (cs := #[.int .i64 plot]) rfl rfl (buildSlice_all slt_36 [.int .i64 plot] rfl (by decide) (by simp [Value.cells]) (by decide)) ?_; intro b39 hb39
 have hz41 : SlR K.w0.heap.size 3 1 (iE .i64) F28 (some ⟨b39, 0, none⟩) 1 1 [plot] [(b39, .cells #[.int .i64 plot] 3 (0, 0))] := SlR.of_block (vss := [[.int .i64 plot]]) (iE_ok _) hb39 (.cons rfl .nil) rfl rfl (by simp [maxLen])
 generalize hLLb40 : ([(b39, .cells #[.int .i64 plot] 3 (0, 0))] : LH) = Lb40 at hz41
 refine shO_perm (L' := Lb40 ++ ((b38, .cells #[.slice a32 n36 c33] 36 (0, 0)) :: ((b1, .cells #[.int .i64 wide, .slice plots_a plots.length plots_c] 27 (0, 0)) :: (Lb34 ++ [])))) (by rw [← hLLb40]; exact fO) ?_
 refine shO_perm (L' := (b38, .cells #[.slice a32 n36 c33] 36 (0, 0)) :: ((b1, .cells #[.int .i64 wide, .slice plots_a plots.length plots_c] 27 (0, 0)) :: (Lb40 ++ (Lb34 ++ [])))) (List.Perm.symm (fC (fC fP))) ?_
 refine oa rfl rfl (shO_nil ?_)
 obtain ⟨out, h49, r50⟩ := b1_ok r27; clear r27
 refine shW_join (fun e1 F1 L1 => ∃ (a43 : Option Addr) (n47 : Nat) (c44 : Nat) (Lb45 : LH), FExt F28 F1 ∧ L1 = (Lb45 ++ []) ∧ e1.sub [(15, .slice a43 n47 c44)] ∧ SlR K.w0.heap.size 3 1 (iE .i64) F1 a43 n47 c44 out Lb45) ?_ ?_
 · clear r50
   refine wsr (om rfl rfl ?_)
   refine o_alloc rfl Try.zeroValue3 ?_; intro b51 hb51
   refine o_store (i := 0) Try.sizeOf3 rfl rfl rfl rfl (Nat.le_of_ble_eq_true rfl) ?_
   refine shO_L (L' := (b51, .cells #[.int .i64 plot] 3 (0, 0)) :: ((b38, .cells #[.slice a32 n36 c33] 36 (0, 0)) :: ((b1, .cells #[.int .i64 wide, .slice plots_a plots.length plots_c] 27 (0, 0)) :: (Lb40 ++ (Lb34 ++ []))))) rfl ?_
   refine shO_nil ?_
   refine shW_block ?_
   refine shW_lp (fun fu1 e1 F1 L1 => ∃ (out2 : List Int) (p : Int) (a52 : Option Addr) (n56 : Nat) (c53 : Nat) (Lb54 : LH) (b58 : Nat), hear_Way_l1 plots stand wide2 plots2 down right_ blows l fu1 out2 p = some out ∧ FExt F28 F1 ∧ L1 = ((b58, .cells #[.int .i64 p] 3 (0, 0)) :: ((b38, .cells #[.slice a32 n36 c33] 36 (0, 0)) :: ((b1, .cells #[.int .i64 wide, .slice plots_a plots.length plots_c] 27 (0, 0)) :: (Lb34 ++ (Lb54 ++ []))))) ∧ e1.sub [(2, .int .i64 stand), (4, .pointer (some ⟨b1, 0, none⟩)), (12, .pointer (some ⟨b17, 0, none⟩)), (14, .pointer (some ⟨b38, 0, none⟩)), (15, .slice a52 n56 c53), (16, .pointer (some ⟨b58, 0, none⟩))] ∧ SlR K.w0.heap.size 3 1 (iE .i64) F1 a52 n56 c53 out2 Lb54 ∧ K.w0.heap.size ≤ b58) FU (m0 (kc (kc (kc (kg (fS fP) kr)))) ⟨[plot], plot, (some ⟨b39, 0, none⟩), 1, 1, Lb40, b51, h49, FExt.refl _, rfl, (sc rfl (sc rfl (sc rfl (sc rfl (sc rfl (sc rfl (sn _))))))), hz41, hb51⟩) ?_
   rintro fu1 e1 F64 _ ⟨out2, p, a52, n56, c53, Lb54, b58, r62, hF65, rfl, he63, hz55, hb59⟩
   refine shW_env _ he63 ?_; clear he63
   replace h_plots := h_plots.mono (iE_ok _) hF65
   replace h24 := h24.mono (iE_ok _) hF65
   replace hz35 := hz35.mono (iE_ok _) hF65
   replace hz21 := hF65 _ _ hz21
   rcases fu1 with _ | fu1
   · rw [hear_Way_l1] at r62; cases r62
   rw [hear_Way_l1] at r62
   refine shW_seq (wsr ?_)
   refine ov (v_load Try.isAgg3 rfl (Has.own 0 rfl) rfl) rfl ?_
   refine om rfl rfl ?_
   refine ov (v_neq rfl rfl) rfl ?_
   refine shO_nil ?_
   refine shW_condP rfl (fun c66 => ?_) (fun c66 => ?_)
   · have r67 := ite_t r62 c66; clear r62
     refine shW_skip ?_
     obtain ⟨out3, p2, h74, r75⟩ := b2_ok r67; clear r67
     refine shW_join (fun e1 F1 L1 => ∃ (a68 : Option Addr) (n72 : Nat) (c69 : Nat) (Lb70 : LH), FExt F64 F1 ∧ L1 = ((b58, .cells #[.int .i64 p2] 3 (0, 0)) :: ((b38, .cells #[.slice a32 n36 c33] 36 (0, 0)) :: ((b1, .cells #[.int .i64 wide, .slice plots_a plots.length plots_c] 27 (0, 0)) :: (Lb34 ++ (Lb70 ++ []))))) ∧ e1.sub [(2, .int .i64 stand), (4, .pointer (some ⟨b1, 0, none⟩)), (12, .pointer (some ⟨b17, 0, none⟩)), (14, .pointer (some ⟨b38, 0, none⟩)), (15, .slice a68 n72 c69), (16, .pointer (some ⟨b58, 0, none⟩))] ∧ SlR K.w0.heap.size 3 1 (iE .i64) F1 a68 n72 c69 out3 Lb70) ?_ ?_
     · clear r75
       refine shW_block ?_
       refine wsr ?_
       refine o_alloc rfl Try.zeroValue3 ?_; intro b76 hb76
       refine o_store (i := 0) Try.sizeOf3 rfl rfl rfl rfl (Nat.le_of_ble_eq_true rfl) ?_
       refine shO_L (L' := (b76, .cells #[.int .i64 (-1)] 3 (0, 0)) :: ((b58, .cells #[.int .i64 p] 3 (0, 0)) :: ((b38, .cells #[.slice a32 n36 c33] 36 (0, 0)) :: ((b1, .cells #[.int .i64 wide, .slice plots_a plots.length plots_c] 27 (0, 0)) :: (Lb34 ++ (Lb54 ++ [])))))) rfl ?_
       refine shO_nil ?_
       obtain ⟨before, h77, r78⟩ := b1_ok h74; clear h74
       refine shW_join (fun e1 F1 L1 => FExt F64 F1 ∧ L1 = ((b76, .cells #[.int .i64 before] 3 (0, 0)) :: ((b58, .cells #[.int .i64 p] 3 (0, 0)) :: ((b38, .cells #[.slice a32 n36 c33] 36 (0, 0)) :: ((b1, .cells #[.int .i64 wide, .slice plots_a plots.length plots_c] 27 (0, 0)) :: (Lb34 ++ (Lb54 ++ [])))))) ∧ e1.sub [(2, .int .i64 stand), (4, .pointer (some ⟨b1, 0, none⟩)), (12, .pointer (some ⟨b17, 0, none⟩)), (14, .pointer (some ⟨b38, 0, none⟩)), (15, .slice a52 n56 c53), (16, .pointer (some ⟨b58, 0, none⟩)), (17, .pointer (some ⟨b76, 0, none⟩))]) ?_ ?_
       · clear r78
         refine wsr ?_
         refine ov (v_fieldAddr fa_27_1 rfl) rfl ?_
         refine ov (v_load Try.isAgg25 rfl (Has.own 3 rfl) rfl) rfl ?_
         refine ov (v_lenS Try.underlying25 rfl) rfl ?_
         refine om rfl rfl (shO_nil ?_)
         refine shW_block ?_
         refine shW_lp (fun fu2 e1 F1 L1 => ∃ (tl : List Int) (k : Int), tl.length = fu2 ∧ Lst plots k tl ∧ ∃ (before2 : Int), hear_Way_l2 wide2 plots2 down right_ blows l p tl k before2 = some before ∧ FExt F64 F1 ∧ L1 = ((b76, .cells #[.int .i64 before2] 3 (0, 0)) :: ((b58, .cells #[.int .i64 p] 3 (0, 0)) :: ((b38, .cells #[.slice a32 n36 c33] 36 (0, 0)) :: ((b1, .cells #[.int .i64 wide, .slice plots_a plots.length plots_c] 27 (0, 0)) :: (Lb34 ++ (Lb54 ++ [])))))) ∧ e1.sub [(2, .int .i64 stand), (4, .pointer (some ⟨b1, 0, none⟩)), (12, .pointer (some ⟨b17, 0, none⟩)), (14, .pointer (some ⟨b38, 0, none⟩)), (15, .slice a52 n56 c53), (16, .pointer (some ⟨b58, 0, none⟩)), (17, .pointer (some ⟨b76, 0, none⟩)), (49, .int .i64 (plots.length : Int)), (50, .int .i64 k)]) _ (m0 kr ⟨_, _, rfl, Lst.start _, -1, h77, FExt.refl _, rfl, (sc rfl (sc rfl (sc rfl (sc rfl (sc rfl (sc rfl (sc rfl (sc rfl (sc rfl (sn _))))))))))⟩) ?_
         rintro fu2 e1 F83 _ ⟨tl, k, hn80, hk79, before2, r81, hF84, rfl, he82⟩
         refine shW_env _ he82 ?_; clear he82
         replace h_plots := h_plots.mono (iE_ok _) hF84
         replace h24 := h24.mono (iE_ok _) hF84
         replace hz35 := hz35.mono (iE_ok _) hF84
         replace hz21 := hF84 _ _ hz21
         refine wsr ?_
         refine ov (v_lssK rfl rfl) rfl ?_
         refine shO_nil (shW_seq ?_)
         refine shW_condP rfl (fun c86 => ?_) (fun c86 => ?_)
         · obtain ⟨x, tl2, rfl, hx88, g89, hk87⟩ := Lst.succ hk79 c86
           rw [hear_Way_l2] at r81
           refine shW_skip ?_
           obtain ⟨before3, h90, r91⟩ := b1_ok r81; clear r81
           refine shW_join (fun e1 F1 L1 => FExt F83 F1 ∧ L1 = ((b76, .cells #[.int .i64 before3] 3 (0, 0)) :: ((b58, .cells #[.int .i64 p] 3 (0, 0)) :: ((b38, .cells #[.slice a32 n36 c33] 36 (0, 0)) :: ((b1, .cells #[.int .i64 wide, .slice plots_a plots.length plots_c] 27 (0, 0)) :: (Lb34 ++ (Lb54 ++ [])))))) ∧ e1.sub [(2, .int .i64 stand), (4, .pointer (some ⟨b1, 0, none⟩)), (12, .pointer (some ⟨b17, 0, none⟩)), (14, .pointer (some ⟨b38, 0, none⟩)), (15, .slice a52 n56 c53), (16, .pointer (some ⟨b58, 0, none⟩)), (17, .pointer (some ⟨b76, 0, none⟩)), (49, .int .i64 (plots.length : Int)), (50, .int .i64 k)]) ?_ ?_
           · clear r91
             refine shW_block ?_
             refine wsr (om rfl rfl ?_)
             refine o_alloc rfl Try.zeroValue3 ?_; intro b92 hb92
             refine o_store (i := 0) Try.sizeOf3 rfl rfl rfl rfl (Nat.le_of_ble_eq_true rfl) ?_
             refine shO_L (L' := (b92, .cells #[.int .i64 k] 3 (0, 0)) :: ((b76, .cells #[.int .i64 before2] 3 (0, 0)) :: ((b58, .cells #[.int .i64 p] 3 (0, 0)) :: ((b38, .cells #[.slice a32 n36 c33] 36 (0, 0)) :: ((b1, .cells #[.int .i64 wide, .slice plots_a plots.length plots_c] 27 (0, 0)) :: (Lb34 ++ (Lb54 ++ []))))))) rfl ?_
             refine nsr (om rfl rfl ?_)
             refine ov (v_load Try.isAgg3 rfl (Has.own 0 rfl) rfl) rfl ?_
             obtain ⟨y, h93, r94⟩ := b1_ok h90; clear h90
             refine o_call0 rfl Try.call75 rfl rfl rfl (hear_desk_next_w hz21 h24 h93) ?_; rintro _ F95 _ hF96 hn97 ⟨cp99, rfl, rfl, hit100⟩
             replace hz35 := hz35.mono (iE_ok _) hF96
             refine shO_L (ln rfl) ?_
             refine shO_nil ?_
             refine shW_block ?_
             refine shW_rangeFunc (encs := (fun x : Int × Int => #[.int .i64 x.1, .int .i64 x.2])) (xs := y) rfl Try.call97 rfl (fun _ => rfl) hit100 (fun pre F1 L1 => ∃ (tl3 : List (Int × Int)) (before4 : Int), y = pre ++ tl3 ∧ hear_Way_l3 l p k tl3 before4 = some before3 ∧ L1 = ((b92, .cells #[.int .i64 k] 3 (0, 0)) :: ((b76, .cells #[.int .i64 before4] 3 (0, 0)) :: ((b58, .cells #[.int .i64 p] 3 (0, 0)) :: ((b38, .cells #[.slice a32 n36 c33] 36 (0, 0)) :: ((b1, .cells #[.int .i64 wide, .slice plots_a plots.length plots_c] 27 (0, 0)) :: (Lb34 ++ (Lb54 ++ [])))))))) (fun _ _ _ => False) ?_ ?_ ?_ ?_ ?_ ?_
             · rintro pre F1 F2 L1 ⟨tl3, before4, hs101, r102, rfl⟩ hx; exact ⟨tl3, before4, hs101, r102, rfl⟩
             · intro c F1 F2 L1 h hx; exact h
             · exact ⟨_, before2, rfl, r94, rfl⟩
             · rintro l103 wr104 Fr105 Xr106 Ha107 Hb108 hnb109 hH113 pre x2 tl4 hxs112 F110 _ hF111 ⟨tl3, before4, hs101, r114, rfl⟩
               obtain rfl := rest_head hs101 hxs112
               rw [hear_Way_l3] at r114
               replace hz35 := hz35.mono (iE_ok _) hF111
               refine shW_env [(2, .int .i64 stand), (4, .pointer (some ⟨b1, 0, none⟩)), (12, .pointer (some ⟨b17, 0, none⟩)), (14, .pointer (some ⟨b38, 0, none⟩)), (15, .slice a52 n56 c53), (16, .pointer (some ⟨b58, 0, none⟩)), (17, .pointer (some ⟨b76, 0, none⟩)), (18, .pointer (some ⟨b92, 0, none⟩)), (49, .int .i64 (plots.length : Int)), (50, .int .i64 k), (56, .int .i64 x2.1), (57, .int .i64 x2.2)] (by exact (sc rfl (sc rfl (sc rfl (sc rfl (sc rfl (sc rfl (sc rfl (sc rfl (sc rfl (sc rfl (sc rfl (sc rfl (sn _)))))))))))))) ?_
               refine wsr (oa rfl rfl (shO_nil (shW_region (oa rfl rfl (shO_nil ?_)))))
               refine ⟨rfl, ?_⟩
               refine shW_block ?_
               obtain ⟨k2, h115, r116⟩ := b1_ok r114; clear r114
               refine shW_join (fun e1 F1 L1 => F110 = F1 ∧ L1 = ((b92, .cells #[.int .i64 k] 3 (0, 0)) :: ((b76, .cells #[.int .i64 before4] 3 (0, 0)) :: ((b58, .cells #[.int .i64 p] 3 (0, 0)) :: ((b38, .cells #[.slice a32 n36 c33] 36 (0, 0)) :: ((b1, .cells #[.int .i64 wide, .slice plots_a plots.length plots_c] 27 (0, 0)) :: (Lb34 ++ (Lb54 ++ []))))))) ∧ e1.sub [(2, .int .i64 stand), (4, .pointer (some ⟨b1, 0, none⟩)), (12, .pointer (some ⟨b17, 0, none⟩)), (14, .pointer (some ⟨b38, 0, none⟩)), (15, .slice a52 n56 c53), (16, .pointer (some ⟨b58, 0, none⟩)), (17, .pointer (some ⟨b76, 0, none⟩)), (18, .pointer (some ⟨b92, 0, none⟩)), (49, .int .i64 (plots.length : Int)), (50, .int .i64 k), (56, .int .i64 x2.1), (57, .int .i64 x2.2), (80, .bool k2)]) ?_ ?_
               · clear r116
                 refine shW_draw (by kernel_rfl) (by kernel_rfl) (by kernel_rfl) ?_
                 refine qm rfl rfl ?_
                 refine qv (v_load Try.isAgg3 rfl (Has.own 2 rfl) rfl) rfl ?_
                 refine qv (v_eql rfl rfl) rfl ?_
                 refine qm rfl rfl ?_
                 by_cases c117 : x2.1 = p
                 · have r118 := ite_t h115 c117; clear h115
                   refine shQ_on (b := true) 61 rfl (Env.isT rfl c117) ?_
                   refine qv (v_load Try.isAgg36 rfl (Has.own 3 rfl) rfl) rfl ?_
                   refine shQ_on (b := true) 61 rfl (Env.isT rfl c117) ?_
                   refine qv (v_load Try.isAgg3 rfl (Has.own 0 rfl) rfl) rfl ?_
                   refine shQ_on (b := true) 61 rfl (Env.isT rfl c117) ?_
                   obtain ⟨x3, g119, hx120, r121⟩ := ix_ok r118; clear r118
                   obtain ⟨b122, o123, c124, vs125, ha126, hs127, hle128, rfl, hl129, hc130⟩ := SlR.at (iE_ok _) hz35 (L := (b92, .cells #[.int .i64 k] 3 (0, 0)) :: ((b76, .cells #[.int .i64 before4] 3 (0, 0)) :: ((b58, .cells #[.int .i64 p] 3 (0, 0)) :: ((b38, .cells #[.slice a32 n36 c33] 36 (0, 0)) :: ((b1, .cells #[.int .i64 wide, .slice plots_a plots.length plots_c] 27 (0, 0)) :: (Lb34 ++ (Lb54 ++ []))))))) (fC (fC (fC (fC (fC fP))))) g119.1 hx120
                   refine qv (v_indexO Try.underlying36 Try.sizeOf3 rfl ha126 rfl (SlR.idx hz35 g119)) rfl ?_
                   refine shQ_on (b := true) 61 rfl (Env.isT rfl c117) ?_
                   refine qv (v_load Try.isAgg3 rfl hs127 (hc130 0 (by decide))) rfl ?_
                   refine shQ_on (b := true) 61 rfl (Env.isT rfl c117) ?_
                   refine qv (v_neq rfl rfl) rfl ?_
                   refine qv (v_pick_t (evD_true rfl c117) rfl) rfl ?_
                   refine qm rfl rfl ?_
                   by_cases c131 : x3 ≠ (-1)
                   · have r132 := ite_t r121 c131; clear r121
                     refine shQ_on (b := true) 68 rfl (Env.isT rfl c131) ?_
                     refine qv (v_load Try.isAgg36 rfl (Has.own 3 rfl) rfl) rfl ?_
                     refine shQ_on (b := true) 68 rfl (Env.isT rfl c131) ?_
                     refine qv (v_load Try.isAgg3 rfl (Has.own 0 rfl) rfl) rfl ?_
                     refine shQ_on (b := true) 68 rfl (Env.isT rfl c131) ?_
                     obtain ⟨b133, o134, c135, vs136, ha137, hs138, hle139, rfl, hl140, hc141⟩ := SlR.at (iE_ok _) hz35 (L := (b92, .cells #[.int .i64 k] 3 (0, 0)) :: ((b76, .cells #[.int .i64 before4] 3 (0, 0)) :: ((b58, .cells #[.int .i64 p] 3 (0, 0)) :: ((b38, .cells #[.slice a32 n36 c33] 36 (0, 0)) :: ((b1, .cells #[.int .i64 wide, .slice plots_a plots.length plots_c] 27 (0, 0)) :: (Lb34 ++ (Lb54 ++ []))))))) (fC (fC (fC (fC (fC fP))))) g119.1 hx120
                     refine qv (v_indexO Try.underlying36 Try.sizeOf3 rfl ha137 rfl (SlR.idx hz35 g119)) rfl ?_
                     refine shQ_on (b := true) 68 rfl (Env.isT rfl c131) ?_
                     refine qv (v_load Try.isAgg3 rfl hs138 (hc141 0 (by decide))) rfl ?_
                     refine shQ_on (b := true) 68 rfl (Env.isT rfl c131) (qm rfl rfl (shQ_on (b := true) 68 rfl (Env.isT rfl c131) ?_))
                     obtain ⟨g142, r143⟩ := gd_ok r132; clear r132
                     refine qv (v_add rfl rfl g142) rfl ?_
                     refine shQ_on (b := true) 68 rfl (Env.isT rfl c131) ?_
                     refine qv (v_load Try.isAgg36 rfl (Has.own 3 rfl) rfl) rfl ?_
                     refine shQ_on (b := true) 68 rfl (Env.isT rfl c131) ?_
                     refine qv (v_load Try.isAgg3 rfl (Has.own 2 rfl) rfl) rfl ?_
                     refine shQ_on (b := true) 68 rfl (Env.isT rfl c131) ?_
                     obtain ⟨x4, g144, hx145, r146⟩ := ix_ok r143; clear r143
                     obtain ⟨b147, o148, c149, vs150, ha151, hs152, hle153, rfl, hl154, hc155⟩ := SlR.at (iE_ok _) hz35 (L := (b92, .cells #[.int .i64 k] 3 (0, 0)) :: ((b76, .cells #[.int .i64 before4] 3 (0, 0)) :: ((b58, .cells #[.int .i64 p] 3 (0, 0)) :: ((b38, .cells #[.slice a32 n36 c33] 36 (0, 0)) :: ((b1, .cells #[.int .i64 wide, .slice plots_a plots.length plots_c] 27 (0, 0)) :: (Lb34 ++ (Lb54 ++ []))))))) (fC (fC (fC (fC (fC fP))))) g144.1 hx145
                     refine qv (v_indexO Try.underlying36 Try.sizeOf3 rfl ha151 rfl (SlR.idx hz35 g144)) rfl ?_
                     refine shQ_on (b := true) 68 rfl (Env.isT rfl c131) ?_
                     refine qv (v_load Try.isAgg3 rfl hs152 (hc155 0 (by decide))) rfl ?_
                     refine shQ_on (b := true) 68 rfl (Env.isT rfl c131) ?_
                     refine qv (v_eql rfl rfl) rfl ?_
                     refine qv (v_pick_t (evD_true rfl c131) rfl) rfl ?_
                     refine shQ_nil ?_
                     obtain rfl := inj1 r146
                     exact mi kr ⟨rfl, rfl, (sc rfl (sc rfl (sc rfl (sc rfl (sc rfl (sc rfl (sc rfl (sc rfl (sc rfl (sc rfl (sc rfl (sc rfl (sc rfl (sn _))))))))))))))⟩
                   have r156 := ite_f r121 c131; clear r121
                   refine shQ_off (b' := false) 68 rfl (Env.isF rfl c131) rfl rfl (shQ_off (b' := false) 68 rfl (Env.isF rfl c131) rfl rfl (shQ_off (b' := false) 68 rfl (Env.isF rfl c131) rfl rfl (shQ_off (b' := false) 68 rfl (Env.isF rfl c131) rfl rfl (shQ_off (b' := false) 68 rfl (Env.isF rfl c131) rfl rfl (shQ_off (b' := false) 68 rfl (Env.isF rfl c131) rfl rfl (shQ_off (b' := false) 68 rfl (Env.isF rfl c131) rfl rfl (shQ_off (b' := false) 68 rfl (Env.isF rfl c131) rfl rfl (shQ_off (b' := false) 68 rfl (Env.isF rfl c131) rfl rfl (shQ_off (b' := false) 68 rfl (Env.isF rfl c131) rfl rfl ?_)))))))))
                   refine shQ_off (b' := false) 68 rfl (Env.isF rfl c131) rfl rfl ?_
                   refine qv (v_pick_f (evD_false rfl c131) rfl) rfl ?_
                   refine shQ_nil ?_
                   obtain rfl := inj1 r156
                   exact mi kr ⟨rfl, rfl, (sc rfl (sc rfl (sc rfl (sc rfl (sc rfl (sc rfl (sc rfl (sc rfl (sc rfl (sc rfl (sc rfl (sc rfl (sc rfl (sn _))))))))))))))⟩
                 have r157 := ite_f h115 c117; clear h115
                 refine shQ_off (b' := false) 61 rfl (Env.isF rfl c117) rfl rfl (shQ_off (b' := false) 61 rfl (Env.isF rfl c117) rfl rfl (shQ_off (b' := false) 61 rfl (Env.isF rfl c117) rfl rfl (shQ_off (b' := false) 61 rfl (Env.isF rfl c117) rfl rfl (shQ_off (b' := false) 61 rfl (Env.isF rfl c117) rfl rfl ?_))))
                 refine qv (v_pick_f (evD_false rfl c117) rfl) rfl ?_
                 refine qm rfl rfl (shQ_off (b' := false) 68 rfl rfl rfl rfl (shQ_off (b' := false) 68 rfl rfl rfl rfl (shQ_off (b' := false) 68 rfl rfl rfl rfl (shQ_off (b' := false) 68 rfl rfl rfl rfl (shQ_off (b' := false) 68 rfl rfl rfl rfl (shQ_off (b' := false) 68 rfl rfl rfl rfl (shQ_off (b' := false) 68 rfl rfl rfl rfl (shQ_off (b' := false) 68 rfl rfl rfl rfl (shQ_off (b' := false) 68 rfl rfl rfl rfl ?_)))))))))
                 refine shQ_off (b' := false) 68 rfl rfl rfl rfl (shQ_off (b' := false) 68 rfl rfl rfl rfl ?_)
                 refine qv (v_pick_f rfl rfl) rfl ?_
                 refine shQ_nil ?_
                 obtain rfl := inj1 r157
                 exact mi kr ⟨rfl, rfl, (sc rfl (sc rfl (sc rfl (sc rfl (sc rfl (sc rfl (sc rfl (sc rfl (sc rfl (sc rfl (sc rfl (sc rfl (sc rfl (sn _))))))))))))))⟩
               rintro e1 _ _ ⟨rfl, rfl, he158⟩
               refine shW_env _ he158 ?_; clear he158
               refine shW_cond rfl (fun c159 => ?_) (fun c159 => ?_)
               · have r160 := bt r116 c159; clear r116
                 refine shW_region ?_
                 refine ov (v_load Try.isAgg3 rfl (Has.own 0 rfl) rfl) rfl ?_
                 refine o_store (i := 1) Try.sizeOf3 rfl rfl rfl rfl (Nat.le_of_ble_eq_true rfl) ?_
                 refine shO_L (L' := (b92, .cells #[.int .i64 k] 3 (0, 0)) :: ((b76, .cells #[.int .i64 k] 3 (0, 0)) :: ((b58, .cells #[.int .i64 p] 3 (0, 0)) :: ((b38, .cells #[.slice a32 n36 c33] 36 (0, 0)) :: ((b1, .cells #[.int .i64 wide, .slice plots_a plots.length plots_c] 27 (0, 0)) :: (Lb34 ++ (Lb54 ++ []))))))) rfl ?_
                 refine shO_nil (inBlock_n (id := 5) ?_)
                 refine ⟨(b92, .cells #[.int .i64 k] 3 (0, 0)) :: ((b76, .cells #[.int .i64 k] 3 (0, 0)) :: ((b58, .cells #[.int .i64 p] 3 (0, 0)) :: ((b38, .cells #[.slice a32 n36 c33] 36 (0, 0)) :: ((b1, .cells #[.int .i64 wide, .slice plots_a plots.length plots_c] 27 (0, 0)) :: (Lb34 ++ (Lb54 ++ [])))))), sr, ?_⟩; exact ⟨_, k, (by rw [hxs112]; simp), r160, rfl⟩
               have r161 := bf r116 c159; clear r116
               refine shW_skip (inBlock_n (id := 5) ?_)
               refine ⟨(b92, .cells #[.int .i64 k] 3 (0, 0)) :: ((b76, .cells #[.int .i64 before4] 3 (0, 0)) :: ((b58, .cells #[.int .i64 p] 3 (0, 0)) :: ((b38, .cells #[.slice a32 n36 c33] 36 (0, 0)) :: ((b1, .cells #[.int .i64 wide, .slice plots_a plots.length plots_c] 27 (0, 0)) :: (Lb34 ++ (Lb54 ++ [])))))), sr, ?_⟩; exact ⟨_, before4, (by rw [hxs112]; simp), r161, rfl⟩
             · rintro F162 _ hF163 ⟨tl3, before4, hs101, r164, rfl⟩
               obtain rfl := rest_nil hs101; rw [hear_Way_l3] at r164
               refine inBlock_n (id := 4) (inBlock_n (id := 3) ?_)
               obtain rfl := inj1 r164
               exact mi (kd kr) ⟨(hF96.trans hF163), rfl, (sc rfl (sc rfl (sc rfl (sc rfl (sc rfl (sc rfl (sc rfl (sc rfl (sc rfl (sn _))))))))))⟩
             intro c F1 L1 hx h; exact h.elim
           rintro e1 F166 _ ⟨hF167, rfl, he165⟩
           refine shW_env _ he165 ?_; clear he165
           replace h_plots := h_plots.mono (iE_ok _) hF167
           refine shW_region ?_
           refine ov (v_add rfl rfl (Lst.r64 hk79 c86 (RowR.lt h_plots))) rfl ?_
           refine om rfl rfl (shO_nil ?_)
           subst hn80; exact le kr ⟨_, _, rfl, hk87, before3, r91, (hF84.trans hF167), rfl, (sc rfl (sc rfl (sc rfl (sc rfl (sc rfl (sc rfl (sc rfl (sc rfl (sc rfl (sn _))))))))))⟩
         obtain rfl := Lst.zero hk79 c86
         rw [hear_Way_l2] at r81
         refine shW_exit (andThen_exit (andThen_exit ?_))
         refine inBlock_exit ?_
         obtain rfl := inj1 r81
         exact mi kr ⟨hF84, rfl, (sc rfl (sc rfl (sc rfl (sc rfl (sc rfl (sc rfl (sc rfl (sn _))))))))⟩
       rintro e1 F169 _ ⟨hF170, rfl, he168⟩
       refine shW_env _ he168 ?_; clear he168
       replace hz55 := hz55.mono (iE_ok _) hF170
       refine wsr ?_
       refine ov (v_load Try.isAgg3 rfl (Has.own 0 rfl) rfl) rfl ?_
       refine o_store (i := 1) Try.sizeOf3 rfl rfl rfl rfl (Nat.le_of_ble_eq_true rfl) ?_
       refine shO_L (L' := (b76, .cells #[.int .i64 before] 3 (0, 0)) :: ((b58, .cells #[.int .i64 before] 3 (0, 0)) :: ((b38, .cells #[.slice a32 n36 c33] 36 (0, 0)) :: ((b1, .cells #[.int .i64 wide, .slice plots_a plots.length plots_c] 27 (0, 0)) :: (Lb34 ++ (Lb54 ++ [])))))) rfl ?_
       refine shO_nil (shW_region (om rfl rfl ?_))
       refine ov (v_load Try.isAgg3 rfl (Has.own 1 rfl) rfl) rfl ?_
       refine o_buildSlice (cs := #[.int .i64 before]) rfl rfl (buildSlice_all slt_36 [.int .i64 before] rfl (by decide) (by simp [Value.cells]) (by decide)) ?_; intro b171 hb171
       obtain ⟨out4, h172, g173, r174⟩ := ap_ok r78; clear r78
       refine o_appZ (xs := out2) (ys := [before]) (zs := out4) rfl slt_36 rfl rfl (Nat.le_refl _) (fun _ => .c (.c (.c (.c (.c (.s .h)))))) hz55 (SrcR.box (vss := [[.int .i64 before]]) (ys := [before]) 0 rfl (iE_ok _) (.cons rfl .nil) rfl rfl) h172 g173 (by decide) ?_; intro a175 n179 c176 Lb177 hz178
       refine kO (kd kr) ?_
       refine oa rfl rfl (shO_nil (inBlock_n (id := 1) ?_))
       obtain ⟨rfl, rfl⟩ := inj2 r174
       exact mi (kd kr) ⟨a175, n179, c176, Lb177, hF170, rfl, (sc rfl (sc rfl (sc rfl (sc rfl (sc rfl (sc rfl (sn _))))))), hz178⟩
     rintro e1 F182 _ ⟨a68, n72, c69, Lb70, hF183, rfl, he181, hz71⟩
     refine shW_env _ he181 ?_; clear he181
     refine wsr ?_
     refine ov (v_load Try.isAgg3 rfl (Has.own 0 rfl) rfl) rfl ?_
     refine shO_nil (shW_region ?_)
     refine o_alloc rfl Try.zeroValue3 ?_; intro b184 hb184
     refine o_store (i := 0) Try.sizeOf3 rfl rfl rfl rfl (Nat.le_of_ble_eq_true rfl) ?_
     refine shO_L (L' := (b184, .cells #[.int .i64 p2] 3 (0, 0)) :: ((b58, .cells #[.int .i64 p2] 3 (0, 0)) :: ((b38, .cells #[.slice a32 n36 c33] 36 (0, 0)) :: ((b1, .cells #[.int .i64 wide, .slice plots_a plots.length plots_c] 27 (0, 0)) :: (Lb34 ++ (Lb70 ++ [])))))) rfl ?_
     refine shO_nil ?_
     exact le (kc (kd kr)) ⟨out3, p2, a68, n72, c69, Lb70, b184, r75, (hF65.trans hF183), rfl, (sc rfl (sc rfl (sc rfl (sc rfl (sc rfl (sc rfl (sn _))))))), hz71, hb184⟩
   have r185 := ite_f r62 c66; clear r62
   refine shW_exit (andThen_exit (andThen_exit ?_))
   refine inBlock_exit ?_
   obtain rfl := inj1 r185
   exact mi (kd (kd (kd (kx kr)))) ⟨a52, n56, c53, Lb54, hF65, rfl, (sc rfl (sn _)), hz55⟩
 rintro e1 F187 _ ⟨a43, n47, c44, Lb45, hF188, rfl, he186, hz46⟩
 refine shW_env _ he186 ?_; clear he186
 refine wsr (om rfl rfl ?_)
 obtain ⟨s_, h189, r190⟩ := b1_ok r50; clear r50
 refine o_callG (Lb := Lb45 ++ []) (Lr := []) rfl Try.call86 rfl rfl rfl (pT pR (lp (ln rfl))) (slices_Reverse_int_int_w hz46 h189) ?_; rintro _ F191 _ hF192 hd194 hn193 ⟨Lb195, rfl, rfl, hz196⟩
 refine shO_L (lp (ln rfl)) ?_
 refine nsr (om rfl rfl (oa rfl rfl (oa rfl rfl (shO_nil (shW_ret ?_)))))
 refine q_res2 Try.results59 (res_tmp rfl) (res_tmp rfl) (sr) ?_
 obtain ⟨rfl, rfl⟩ := inj2 r190
 exact ⟨_, _, _, _, rfl, rfl, hz196.any⟩
set_option maxHeartbeats 1000000 in
theorem oyezlaw01_awake_w {F : FS} {r : Bool} (hr : oyezlaw01_awake = some r) :
    SpecV Try.prog 18 #[] F (.bool r) := by
 refine spec_of_shW (args := []) Try.func18 rfl Try.ntmps18 (Nat.le_of_ble_eq_true rfl) ?_
 intro K _ _; rw [oyezlaw01_awake] at hr
 refine wsr (oa rfl rfl (nsr ?_))
 refine o_buildSlice (cs := #[.string (sB [115, 104, 115, 104])]) rfl rfl (buildSlice_all slt_124 [.string (sB [115, 104, 115, 104])] rfl (by decide) (by simp [Value.cells]) (by decide)) ?_; intro b1 hb1
 refine shO_freeze 0 rfl hb1 ?_; intro F2 hF3 hz4
 refine shO_L (L' := []) rfl ?_
 have h5 : RowR 1 sE F2 (some ⟨b1, 0, none⟩) 1 [[115, 104, 115, 104]] := RowR.of_block sE_ok (vss := [[.string (sB [115, 104, 115, 104])]]) (xs := [[115, 104, 115, 104]]) hz4 (.cons rfl .nil) rfl (by simp [maxLen])
 obtain ⟨n, l, h6, r7⟩ := b2_ok hr; clear hr
 refine o_call0 rfl Try.call57 rfl rfl rfl (oyezlaw01_Drawn_w h5 h6) ?_; rintro _ F8 _ hF9 hn10 ⟨a12, n16, c13, Lb14, rfl, rfl, hz15⟩
 replace hz15 := hz15.new fun p hp => hn10 p (by simp [hp])
 refine shO_L (lp (ln rfl)) ?_
 refine o_buildSlice (cs := #[.string (sB [104, 115, 104]), .string (sB [115, 119, 115])]) rfl rfl (buildSlice_all slt_124 [.string (sB [104, 115, 104]), .string (sB [115, 119, 115])] rfl (by decide) (by simp [Value.cells]) (by decide)) ?_; intro b18 hb18
 refine shO_freeze 0 rfl hb18 ?_; intro F19 hF20 hz21
 refine shO_L (L' := Lb14 ++ []) rfl ?_
 replace hz15 := hz15.mono (iE_ok _) hF20
 have h22 : RowR 1 sE F19 (some ⟨b18, 0, none⟩) 2 [[104, 115, 104], [115, 119, 115]] := RowR.of_block sE_ok (vss := [[.string (sB [104, 115, 104])], [.string (sB [115, 119, 115])]]) (xs := [[104, 115, 104], [115, 119, 115]]) hz21 (.cons rfl (.cons rfl .nil)) rfl (by simp [maxLen])
 obtain ⟨n2, l2, h23, r24⟩ := b2_ok r7; clear r7
 refine o_call0 rfl Try.call57 rfl rfl rfl (oyezlaw01_Drawn_w h22 h23) ?_; rintro _ F25 _ hF26 hn27 ⟨a29, n33, c30, Lb31, rfl, rfl, hz32⟩
 replace hz15 := hz15.mono (iE_ok _) hF26
 replace hz32 := hz32.new fun p hp => hn27 p (by simp [hp])
 refine shO_L (lp (ln rfl)) ?_
 refine o_alloc rfl Try.zeroValue27 ?_; intro b35 hb35
 refine o_alloc rfl Try.zeroValue27 ?_; intro b36 hb36
 refine o_storeA (i := 1) Try.sizeOf27 rfl rfl rfl (by simp [Value.oneCell']) rfl (Nat.le_of_ble_eq_true rfl) ?_
 refine shO_L (L' := (b36, .cells #[.int .i64 0, .slice none 0 0] 27 (0, 0)) :: ((b35, .cells #[.int .i64 n, .slice a12 n16 c13] 27 (0, 0)) :: (Lb31 ++ (Lb14 ++ [])))) rfl ?_
 refine o_storeA (i := 0) Try.sizeOf27 rfl rfl rfl (by simp [Value.oneCell']) rfl (Nat.le_of_ble_eq_true rfl) ?_
 refine shO_L (L' := (b36, .cells #[.int .i64 n2, .slice a29 n33 c30] 27 (0, 0)) :: ((b35, .cells #[.int .i64 n, .slice a12 n16 c13] 27 (0, 0)) :: (Lb31 ++ (Lb14 ++ [])))) rfl ?_
 refine nsr ?_
 refine ov (v_loadA (cs := #[.int .i64 n, .slice a12 n16 c13]) Try.isAgg27 Try.sizeOf27 rfl (Has.own 1 rfl) (Nat.le_of_ble_eq_true rfl) rfl) rfl ?_
 obtain ⟨l3, n3, h37, r38⟩ := b2_ok r24; clear r24
 refine o_callTO (Lb := []) (Lt := Lb14 ++ []) (Lr := (b36, .cells #[.int .i64 n2, .slice a29 n33 c30] 27 (0, 0)) :: ((b35, .cells #[.int .i64 n, .slice a12 n16 c13] 27 (0, 0)) :: (Lb31 ++ []))) rfl Try.call13 rfl rfl rfl (pT ((fC (fC (fS fP))).trans (pA pR)) (ln (lp (ln rfl)))) (fun F2 h2 h3 => by rw [(SlR.caps hz15).1]; exact hear_Needs_w (hz15.row (iE_ok _) h2 (fun p hp => h3 p (List.mem_append_left _ hp))) h37) (fun _ _ _ _ hq => by obtain ⟨a43, n47, c44, Lb45, rfl, rfl, hz46⟩ := hq; exact ⟨_, _, _, _, rfl, rfl, hz46.flat (fun _ _ h => h)⟩) ?_; rintro _ F39 _ hF40 hd42 hn41 ⟨a43, n47, c44, Lb45, rfl, rfl, hz46⟩
 replace hz15 := hz15.mono (iE_ok _) hF40
 replace hz32 := hz32.mono (iE_ok _) hF40
 have hn49 := newp (Lb' := []) (by rfl) hd42 hn41
 replace hz46 := hz46.new fun p hp => hn49 p (by simp [hp])
 refine shO_L (lp (ln (lp (ln rfl)))) ?_
 refine kO (kf (fS (fS fO)) (kf (fS (fS fO)) kr)) ?_
 refine om rfl rfl (ox rfl rfl rfl (ox rfl rfl rfl (oa rfl rfl (oa rfl rfl (nsr ?_)))))
 refine ov (v_loadA (cs := #[.int .i64 n, .slice a12 n16 c13]) Try.isAgg27 Try.sizeOf27 rfl (Has.own 1 rfl) (Nat.le_of_ble_eq_true rfl) rfl) rfl ?_
 refine ov (v_build (v := .agg #[.int .i64 0, .int .i64 5]) rfl (by intro w; kernel_rfl)) rfl ?_
 refine o_buildSlice (cs := #[.int .i64 1, .int .i64 3]) rfl rfl (buildSlice_all slt_36 [.int .i64 1, .int .i64 3] rfl (by decide) (by simp [Value.cells]) (by decide)) ?_; intro b50 hb50
 refine shO_freeze 0 rfl hb50 ?_; intro F51 hF52 hz53
 refine shO_L (L' := (b36, .cells #[.int .i64 n2, .slice a29 n33 c30] 27 (0, 0)) :: ((b35, .cells #[.int .i64 n, .slice a12 n16 c13] 27 (0, 0)) :: (Lb45 ++ (Lb14 ++ (Lb31 ++ []))))) rfl ?_
 replace hz15 := hz15.mono (iE_ok _) hF52
 replace hz32 := hz32.mono (iE_ok _) hF52
 replace hz46 := hz46.mono (iE_ok _) hF52
 have h54 : RowR 1 (iE .i64) F51 (some ⟨b50, 0, none⟩) 2 [1, 3] := RowR.of_block (iE_ok _) (vss := [[.int .i64 1], [.int .i64 3]]) (xs := [1, 3]) hz53 (.cons rfl (.cons rfl .nil)) rfl (by simp [maxLen])
 obtain ⟨l4, n4, h55, r56⟩ := b2_ok r38; clear r38
 refine o_callTO (Lb := []) (Lt := Lb14 ++ []) (Lr := (b36, .cells #[.int .i64 n2, .slice a29 n33 c30] 27 (0, 0)) :: ((b35, .cells #[.int .i64 n, .slice a12 n16 c13] 27 (0, 0)) :: (Lb45 ++ (Lb31 ++ [])))) rfl Try.call15 rfl rfl rfl (pT ((fC (fC (fS fP))).trans (pA pR)) (ln (lp (ln rfl)))) (fun F2 h2 h3 => by rw [(SlR.caps hz15).1]; exact hear_Fewest_w (hz15.row (iE_ok _) h2 (fun p hp => h3 p (List.mem_append_left _ hp))) (h54.mono (iE_ok _) h2) h55) (fun _ _ _ _ hq => by obtain ⟨a61, n65, c62, Lb63, rfl, rfl, hz64⟩ := hq; exact ⟨_, _, _, _, rfl, rfl, hz64.flat (fun _ _ h => h)⟩) ?_; rintro _ F57 _ hF58 hd60 hn59 ⟨a61, n65, c62, Lb63, rfl, rfl, hz64⟩
 replace hz15 := hz15.mono (iE_ok _) hF58
 replace hz32 := hz32.mono (iE_ok _) hF58
 replace hz46 := hz46.mono (iE_ok _) hF58
 have hn67 := newp (Lb' := []) (by rfl) hd60 hn59
 replace hz64 := hz64.new fun p hp => hn67 p (by simp [hp])
 refine shO_L (lp (ln (lp (ln rfl)))) ?_
 refine kO (kf (fS (fS fO)) (kf (fS (fS fO)) kr)) ?_
 refine om rfl rfl (ox rfl rfl rfl (ox rfl rfl rfl (oa rfl rfl (oa rfl rfl (nsr ?_)))))
 refine ov (v_loadA (cs := #[.int .i64 n2, .slice a29 n33 c30]) Try.isAgg27 Try.sizeOf27 rfl (Has.own 0 rfl) (Nat.le_of_ble_eq_true rfl) rfl) rfl ?_
 refine ov (v_build (v := .agg #[.int .i64 0, .int .i64 3]) rfl (by intro w; kernel_rfl)) rfl ?_
 refine o_buildSlice (cs := #[.int .i64 0, .int .i64 2]) rfl rfl (buildSlice_all slt_36 [.int .i64 0, .int .i64 2] rfl (by decide) (by simp [Value.cells]) (by decide)) ?_; intro b68 hb68
 refine shO_freeze 0 rfl hb68 ?_; intro F69 hF70 hz71
 refine shO_L (L' := (b36, .cells #[.int .i64 n2, .slice a29 n33 c30] 27 (0, 0)) :: ((b35, .cells #[.int .i64 n, .slice a12 n16 c13] 27 (0, 0)) :: (Lb63 ++ (Lb14 ++ (Lb45 ++ (Lb31 ++ [])))))) rfl ?_
 replace hz15 := hz15.mono (iE_ok _) hF70
 replace hz32 := hz32.mono (iE_ok _) hF70
 replace hz46 := hz46.mono (iE_ok _) hF70
 replace hz64 := hz64.mono (iE_ok _) hF70
 have h72 : RowR 1 (iE .i64) F69 (some ⟨b68, 0, none⟩) 2 [0, 2] := RowR.of_block (iE_ok _) (vss := [[.int .i64 0], [.int .i64 2]]) (xs := [0, 2]) hz71 (.cons rfl (.cons rfl .nil)) rfl (by simp [maxLen])
 obtain ⟨l5, n5, h73, r74⟩ := b2_ok r56; clear r56
 refine o_callTO (Lb := []) (Lt := Lb31 ++ []) (Lr := (b36, .cells #[.int .i64 n2, .slice a29 n33 c30] 27 (0, 0)) :: ((b35, .cells #[.int .i64 n, .slice a12 n16 c13] 27 (0, 0)) :: (Lb63 ++ (Lb14 ++ (Lb45 ++ []))))) rfl Try.call15 rfl rfl rfl (pT ((fC (fC (fS (fS (fS fP))))).trans (pA pR)) (ln (lp (ln rfl)))) (fun F2 h2 h3 => by rw [(SlR.caps hz32).1]; exact hear_Fewest_w (hz32.row (iE_ok _) h2 (fun p hp => h3 p (List.mem_append_left _ hp))) (h72.mono (iE_ok _) h2) h73) (fun _ _ _ _ hq => by obtain ⟨a79, n83, c80, Lb81, rfl, rfl, hz82⟩ := hq; exact ⟨_, _, _, _, rfl, rfl, hz82.flat (fun _ _ h => h)⟩) ?_; rintro _ F75 _ hF76 hd78 hn77 ⟨a79, n83, c80, Lb81, rfl, rfl, hz82⟩
 replace hz15 := hz15.mono (iE_ok _) hF76
 replace hz32 := hz32.mono (iE_ok _) hF76
 replace hz46 := hz46.mono (iE_ok _) hF76
 replace hz64 := hz64.mono (iE_ok _) hF76
 have hn85 := newp (Lb' := []) (by rfl) hd78 hn77
 replace hz82 := hz82.new fun p hp => hn85 p (by simp [hp])
 refine shO_L (lp (ln (lp (ln rfl)))) ?_
 refine kO (kf (fS (fS fO)) (kf (fS (fS fO)) kr)) ?_
 refine om rfl rfl (ox rfl rfl rfl (ox rfl rfl rfl (oa rfl rfl (oa rfl rfl (nsr ?_)))))
 refine ov (v_loadA (cs := #[.int .i64 n2, .slice a29 n33 c30]) Try.isAgg27 Try.sizeOf27 rfl (Has.own 0 rfl) (Nat.le_of_ble_eq_true rfl) rfl) rfl ?_
 refine o_buildSlice (cs := #[.int .i64 3, .int .i64 0, .int .i64 3, .int .i64 5, .int .i64 0, .int .i64 5]) rfl rfl (buildSlice_all slt_36 [.int .i64 3, .int .i64 0, .int .i64 3, .int .i64 5, .int .i64 0, .int .i64 5] rfl (by decide) (by simp [Value.cells]) (by decide)) ?_; intro b86 hb86
 refine shO_freeze 0 rfl hb86 ?_; intro F87 hF88 hz89
 refine shO_L (L' := (b36, .cells #[.int .i64 n2, .slice a29 n33 c30] 27 (0, 0)) :: ((b35, .cells #[.int .i64 n, .slice a12 n16 c13] 27 (0, 0)) :: (Lb81 ++ (Lb31 ++ (Lb63 ++ (Lb14 ++ (Lb45 ++ []))))))) rfl ?_
 replace hz15 := hz15.mono (iE_ok _) hF88
 replace hz32 := hz32.mono (iE_ok _) hF88
 replace hz46 := hz46.mono (iE_ok _) hF88
 replace hz64 := hz64.mono (iE_ok _) hF88
 replace hz82 := hz82.mono (iE_ok _) hF88
 have h90 : RowR 1 (iE .i64) F87 (some ⟨b86, 0, none⟩) 6 [3, 0, 3, 5, 0, 5] := RowR.of_block (iE_ok _) (vss := [[.int .i64 3], [.int .i64 0], [.int .i64 3], [.int .i64 5], [.int .i64 0], [.int .i64 5]]) (xs := [3, 0, 3, 5, 0, 5]) hz89 (.cons rfl (.cons rfl (.cons rfl (.cons rfl (.cons rfl (.cons rfl .nil)))))) rfl (by simp [maxLen])
 obtain ⟨ok, n6, h91, r92⟩ := b2_ok r74; clear r74
 refine o_callT (Lt := Lb31 ++ []) (Lr := (b36, .cells #[.int .i64 n2, .slice a29 n33 c30] 27 (0, 0)) :: ((b35, .cells #[.int .i64 n, .slice a12 n16 c13] 27 (0, 0)) :: (Lb81 ++ (Lb63 ++ (Lb14 ++ (Lb45 ++ [])))))) rfl Try.call58 rfl rfl rfl (pT ((fC (fC (fS fP))).trans (pA pR)) (lp (ln rfl))) (fun F2 h2 h3 => by rw [(SlR.caps hz32).1]; exact hear_Holds_w (hz32.row (iE_ok _) h2 (fun p hp => h3 p (List.mem_append_left _ hp))) (h90.mono (iE_ok _) h2) h91) ?_
 refine om rfl rfl (ox rfl rfl rfl (ox rfl rfl rfl (oa rfl rfl (oa rfl rfl (shO_nil (shW_seq ?_))))))
 obtain ⟨k, h93, r94⟩ := b1_ok r92; clear r92
 refine shW_join (fun e1 F1 L1 => FExt F87 F1 ∧ L1 = ((b36, .cells #[.int .i64 n2, .slice a29 n33 c30] 27 (0, 0)) :: ((b35, .cells #[.int .i64 n, .slice a12 n16 c13] 27 (0, 0)) :: (Lb14 ++ (Lb31 ++ [])))) ∧ e1.sub [(1, .pointer (some ⟨b35, 0, none⟩)), (2, .pointer (some ⟨b36, 0, none⟩)), (77, .bool k)]) ?_ ?_
 · clear r94
   refine shW_region (om rfl rfl ?_)
   refine ov (v_neq rfl rfl) rfl ?_
   refine om rfl rfl ?_
   by_cases c95 : n3 ≠ 0
   · have r96 := ite_t h93 c95; clear h93
     refine shO_off (b' := true) 44 rfl (Env.isT rfl c95) rfl rfl (shO_off (b' := true) 44 rfl (Env.isT rfl c95) rfl rfl ?_)
     refine ov (v_pick_t (evD_true rfl c95) rfl) rfl ?_
     refine om rfl rfl (shO_off (b' := true) 48 rfl rfl rfl rfl (shO_off (b' := true) 48 rfl rfl rfl rfl ?_))
     refine ov (v_pick_t rfl rfl) rfl ?_
     refine om rfl rfl (shO_off (b' := true) 52 rfl rfl rfl rfl (shO_off (b' := true) 52 rfl rfl rfl rfl ?_))
     refine ov (v_pick_t rfl rfl) rfl ?_
     refine om rfl rfl (shO_off (b' := true) 56 rfl rfl rfl rfl (shO_off (b' := true) 56 rfl rfl rfl rfl ?_))
     refine ov (v_pick_t rfl rfl) rfl ?_
     refine om rfl rfl (shO_off (b' := true) 60 rfl rfl rfl rfl (shO_off (b' := true) 60 rfl rfl rfl rfl (shO_off (b' := true) 60 rfl rfl rfl rfl (shO_off (b' := true) 60 rfl rfl rfl rfl ?_))))
     refine ov (v_pick_t rfl rfl) rfl ?_
     refine om rfl rfl (shO_off (b' := true) 66 rfl rfl rfl rfl (shO_off (b' := true) 66 rfl rfl rfl rfl (shO_off (b' := true) 66 rfl rfl rfl rfl (shO_off (b' := true) 66 rfl rfl rfl rfl ?_))))
     refine ov (v_pick_t rfl rfl) rfl ?_
     refine om rfl rfl (shO_off (b' := true) 72 rfl rfl rfl rfl (shO_off (b' := true) 72 rfl rfl rfl rfl (shO_off (b' := true) 72 rfl rfl rfl rfl (shO_off (b' := true) 72 rfl rfl rfl rfl ?_))))
     refine ov (v_pick_t rfl rfl) rfl ?_
     refine shO_nil ?_
     obtain rfl := inj1 r96
     exact mi (kc (kc (kx (kg (fS (fS fP)) (ka kn))))) ⟨FExt.refl _, rfl, (sc rfl (sc rfl (sc rfl (sn _))))⟩
   have r97 := ite_f h93 c95; clear h93
   refine shO_on (b := false) 44 rfl (Env.isF rfl c95) (om rfl rfl (shO_on (b := false) 44 rfl (Env.isF rfl c95) ?_))
   refine ov (v_neq rfl rfl) rfl ?_
   refine ov (v_pick_f (evD_false rfl c95) rfl) rfl ?_
   refine om rfl rfl ?_
   by_cases c98 : n4 ≠ 0
   · have r99 := ite_t r97 c98; clear r97
     refine shO_off (b' := true) 48 rfl (Env.isT rfl c98) rfl rfl (shO_off (b' := true) 48 rfl (Env.isT rfl c98) rfl rfl ?_)
     refine ov (v_pick_t (evD_true rfl c98) rfl) rfl ?_
     refine om rfl rfl (shO_off (b' := true) 52 rfl rfl rfl rfl (shO_off (b' := true) 52 rfl rfl rfl rfl ?_))
     refine ov (v_pick_t rfl rfl) rfl ?_
     refine om rfl rfl (shO_off (b' := true) 56 rfl rfl rfl rfl (shO_off (b' := true) 56 rfl rfl rfl rfl ?_))
     refine ov (v_pick_t rfl rfl) rfl ?_
     refine om rfl rfl (shO_off (b' := true) 60 rfl rfl rfl rfl (shO_off (b' := true) 60 rfl rfl rfl rfl (shO_off (b' := true) 60 rfl rfl rfl rfl (shO_off (b' := true) 60 rfl rfl rfl rfl ?_))))
     refine ov (v_pick_t rfl rfl) rfl ?_
     refine om rfl rfl (shO_off (b' := true) 66 rfl rfl rfl rfl (shO_off (b' := true) 66 rfl rfl rfl rfl (shO_off (b' := true) 66 rfl rfl rfl rfl (shO_off (b' := true) 66 rfl rfl rfl rfl ?_))))
     refine ov (v_pick_t rfl rfl) rfl ?_
     refine om rfl rfl (shO_off (b' := true) 72 rfl rfl rfl rfl (shO_off (b' := true) 72 rfl rfl rfl rfl (shO_off (b' := true) 72 rfl rfl rfl rfl (shO_off (b' := true) 72 rfl rfl rfl rfl ?_))))
     refine ov (v_pick_t rfl rfl) rfl ?_
     refine shO_nil ?_
     obtain rfl := inj1 r99
     exact mi (kc (kc (kx (kg (fS (fS fP)) (ka kn))))) ⟨FExt.refl _, rfl, (sc rfl (sc rfl (sc rfl (sn _))))⟩
   have r100 := ite_f r97 c98; clear r97
   refine shO_on (b := false) 48 rfl (Env.isF rfl c98) (om rfl rfl (shO_on (b := false) 48 rfl (Env.isF rfl c98) ?_))
   refine ov (v_neq rfl rfl) rfl ?_
   refine ov (v_pick_f (evD_false rfl c98) rfl) rfl ?_
   refine om rfl rfl ?_
   by_cases c101 : n5 ≠ 0
   · have r102 := ite_t r100 c101; clear r100
     refine shO_off (b' := true) 52 rfl (Env.isT rfl c101) rfl rfl (shO_off (b' := true) 52 rfl (Env.isT rfl c101) rfl rfl ?_)
     refine ov (v_pick_t (evD_true rfl c101) rfl) rfl ?_
     refine om rfl rfl (shO_off (b' := true) 56 rfl rfl rfl rfl (shO_off (b' := true) 56 rfl rfl rfl rfl ?_))
     refine ov (v_pick_t rfl rfl) rfl ?_
     refine om rfl rfl (shO_off (b' := true) 60 rfl rfl rfl rfl (shO_off (b' := true) 60 rfl rfl rfl rfl (shO_off (b' := true) 60 rfl rfl rfl rfl (shO_off (b' := true) 60 rfl rfl rfl rfl ?_))))
     refine ov (v_pick_t rfl rfl) rfl ?_
     refine om rfl rfl (shO_off (b' := true) 66 rfl rfl rfl rfl (shO_off (b' := true) 66 rfl rfl rfl rfl (shO_off (b' := true) 66 rfl rfl rfl rfl (shO_off (b' := true) 66 rfl rfl rfl rfl ?_))))
     refine ov (v_pick_t rfl rfl) rfl ?_
     refine om rfl rfl (shO_off (b' := true) 72 rfl rfl rfl rfl (shO_off (b' := true) 72 rfl rfl rfl rfl (shO_off (b' := true) 72 rfl rfl rfl rfl (shO_off (b' := true) 72 rfl rfl rfl rfl ?_))))
     refine ov (v_pick_t rfl rfl) rfl ?_
     refine shO_nil ?_
     obtain rfl := inj1 r102
     exact mi (kc (kc (kx (kg (fS (fS fP)) (ka kn))))) ⟨FExt.refl _, rfl, (sc rfl (sc rfl (sc rfl (sn _))))⟩
   have r103 := ite_f r100 c101; clear r100
   refine shO_on (b := false) 52 rfl (Env.isF rfl c101) (om rfl rfl (shO_on (b := false) 52 rfl (Env.isF rfl c101) ?_))
   refine ov (v_neq rfl rfl) rfl ?_
   refine ov (v_pick_f (evD_false rfl c101) rfl) rfl ?_
   refine om rfl rfl ?_
   by_cases c104 : n6 ≠ 0
   · have r105 := ite_t r103 c104; clear r103
     refine shO_off (b' := true) 56 rfl (Env.isT rfl c104) rfl rfl (shO_off (b' := true) 56 rfl (Env.isT rfl c104) rfl rfl ?_)
     refine ov (v_pick_t (evD_true rfl c104) rfl) rfl ?_
     refine om rfl rfl (shO_off (b' := true) 60 rfl rfl rfl rfl (shO_off (b' := true) 60 rfl rfl rfl rfl (shO_off (b' := true) 60 rfl rfl rfl rfl (shO_off (b' := true) 60 rfl rfl rfl rfl ?_))))
     refine ov (v_pick_t rfl rfl) rfl ?_
     refine om rfl rfl (shO_off (b' := true) 66 rfl rfl rfl rfl (shO_off (b' := true) 66 rfl rfl rfl rfl (shO_off (b' := true) 66 rfl rfl rfl rfl (shO_off (b' := true) 66 rfl rfl rfl rfl ?_))))
     refine ov (v_pick_t rfl rfl) rfl ?_
     refine om rfl rfl (shO_off (b' := true) 72 rfl rfl rfl rfl (shO_off (b' := true) 72 rfl rfl rfl rfl (shO_off (b' := true) 72 rfl rfl rfl rfl (shO_off (b' := true) 72 rfl rfl rfl rfl ?_))))
     refine ov (v_pick_t rfl rfl) rfl ?_
     refine shO_nil ?_
     obtain rfl := inj1 r105
     exact mi (kc (kc (kx (kg (fS (fS fP)) (ka kn))))) ⟨FExt.refl _, rfl, (sc rfl (sc rfl (sc rfl (sn _))))⟩
   have r106 := ite_f r103 c104; clear r103
   refine shO_on (b := false) 56 rfl (Env.isF rfl c104) (om rfl rfl (shO_on (b := false) 56 rfl (Env.isF rfl c104) ?_))
   refine ov (v_notB rfl) rfl ?_
   refine ov (v_pick_f (evD_false rfl c104) rfl) rfl ?_
   refine om rfl rfl ?_
   rcases bool_two (!ok) with c107 | c107
   · have r108 := bt r106 c107; clear r106
     refine shO_off (b' := true) 60 rfl (EnvB rfl c107) rfl rfl (shO_off (b' := true) 60 rfl (EnvB rfl c107) rfl rfl (shO_off (b' := true) 60 rfl (EnvB rfl c107) rfl rfl (shO_off (b' := true) 60 rfl (EnvB rfl c107) rfl rfl ?_)))
     refine ov (v_pick_t (evB rfl c107) rfl) rfl ?_
     refine om rfl rfl (shO_off (b' := true) 66 rfl rfl rfl rfl (shO_off (b' := true) 66 rfl rfl rfl rfl (shO_off (b' := true) 66 rfl rfl rfl rfl (shO_off (b' := true) 66 rfl rfl rfl rfl ?_))))
     refine ov (v_pick_t rfl rfl) rfl ?_
     refine om rfl rfl (shO_off (b' := true) 72 rfl rfl rfl rfl (shO_off (b' := true) 72 rfl rfl rfl rfl (shO_off (b' := true) 72 rfl rfl rfl rfl (shO_off (b' := true) 72 rfl rfl rfl rfl ?_))))
     refine ov (v_pick_t rfl rfl) rfl ?_
     refine shO_nil ?_
     obtain rfl := inj1 r108
     exact mi (kc (kc (kx (kg (fS (fS fP)) (ka kn))))) ⟨FExt.refl _, rfl, (sc rfl (sc rfl (sc rfl (sn _))))⟩
   have r109 := bf r106 c107; clear r106
   refine shO_on (b := false) 60 rfl (EnvB rfl c107) (om rfl rfl (shO_on (b := false) 60 rfl (EnvB rfl c107) ?_))
   refine o_buildSlice (cs := #[.int .i64 0, .int .i64 5, .int .i64 9, .int .i64 14]) rfl rfl (buildSlice_all slt_36 [.int .i64 0, .int .i64 5, .int .i64 9, .int .i64 14] rfl (by decide) (by simp [Value.cells]) (by decide)) ?_; intro b110 hb110
   refine shO_on (b := false) 60 rfl (EnvB rfl c107) ?_
   refine shO_freeze 0 rfl hb110 ?_; intro F111 hF112 hz113
   refine shO_L (L' := (b36, .cells #[.int .i64 n2, .slice a29 n33 c30] 27 (0, 0)) :: ((b35, .cells #[.int .i64 n, .slice a12 n16 c13] 27 (0, 0)) :: (Lb81 ++ (Lb31 ++ (Lb63 ++ (Lb14 ++ (Lb45 ++ []))))))) rfl ?_
   replace hz46 := hz46.mono (iE_ok _) hF112
   replace hz64 := hz64.mono (iE_ok _) hF112
   replace hz82 := hz82.mono (iE_ok _) hF112
   have h114 : RowR 1 (iE .i64) F111 (some ⟨b110, 0, none⟩) 4 [0, 5, 9, 14] := RowR.of_block (iE_ok _) (vss := [[.int .i64 0], [.int .i64 5], [.int .i64 9], [.int .i64 14]]) (xs := [0, 5, 9, 14]) hz113 (.cons rfl (.cons rfl (.cons rfl (.cons rfl .nil)))) rfl (by simp [maxLen])
   obtain ⟨ok2, h115, r116⟩ := b1_ok r109; clear r109
   refine o_callT (Lt := Lb45 ++ []) (Lr := (b36, .cells #[.int .i64 n2, .slice a29 n33 c30] 27 (0, 0)) :: ((b35, .cells #[.int .i64 n, .slice a12 n16 c13] 27 (0, 0)) :: (Lb81 ++ (Lb31 ++ (Lb63 ++ (Lb14 ++ [])))))) rfl Try.call37 rfl rfl rfl (pT ((fC (fC (fS (fS (fS (fS fP)))))).trans (pA pR)) (lp (ln rfl))) (fun F2 h2 h3 => by rw [(SlR.caps hz46).1]; exact oyezkit_Like_int_w (hz46.row (iE_ok _) h2 (fun p hp => h3 p (List.mem_append_left _ hp))) (h114.mono (iE_ok _) h2) h115) ?_
   refine shO_on (b := false) 60 rfl (EnvB rfl c107) ?_
   refine ov (v_notB rfl) rfl ?_
   refine ov (v_pick_f (evB rfl c107) rfl) rfl ?_
   refine om rfl rfl ?_
   rcases bool_two (!ok2) with c117 | c117
   · have r118 := bt r116 c117; clear r116
     refine shO_off (b' := true) 66 rfl (EnvB rfl c117) rfl rfl (shO_off (b' := true) 66 rfl (EnvB rfl c117) rfl rfl (shO_off (b' := true) 66 rfl (EnvB rfl c117) rfl rfl (shO_off (b' := true) 66 rfl (EnvB rfl c117) rfl rfl ?_)))
     refine ov (v_pick_t (evB rfl c117) rfl) rfl ?_
     refine om rfl rfl (shO_off (b' := true) 72 rfl rfl rfl rfl (shO_off (b' := true) 72 rfl rfl rfl rfl (shO_off (b' := true) 72 rfl rfl rfl rfl (shO_off (b' := true) 72 rfl rfl rfl rfl ?_))))
     refine ov (v_pick_t rfl rfl) rfl ?_
     refine shO_nil ?_
     obtain rfl := inj1 r118
     exact mi (kc (kc (kx (kg (fS (fS fP)) (ka kn))))) ⟨hF112, rfl, (sc rfl (sc rfl (sc rfl (sn _))))⟩
   have r119 := bf r116 c117; clear r116
   refine shO_on (b := false) 66 rfl (EnvB rfl c117) (om rfl rfl (shO_on (b := false) 66 rfl (EnvB rfl c117) ?_))
   refine o_buildSlice (cs := #[.int .i64 2]) rfl rfl (buildSlice_all slt_36 [.int .i64 2] rfl (by decide) (by simp [Value.cells]) (by decide)) ?_; intro b120 hb120
   refine shO_on (b := false) 66 rfl (EnvB rfl c117) ?_
   refine shO_freeze 0 rfl hb120 ?_; intro F121 hF122 hz123
   refine shO_L (L' := (b36, .cells #[.int .i64 n2, .slice a29 n33 c30] 27 (0, 0)) :: ((b35, .cells #[.int .i64 n, .slice a12 n16 c13] 27 (0, 0)) :: (Lb81 ++ (Lb31 ++ (Lb63 ++ (Lb14 ++ (Lb45 ++ []))))))) rfl ?_
   replace hz64 := hz64.mono (iE_ok _) hF122
   replace hz82 := hz82.mono (iE_ok _) hF122
   have h124 : RowR 1 (iE .i64) F121 (some ⟨b120, 0, none⟩) 1 [2] := RowR.of_block (iE_ok _) (vss := [[.int .i64 2]]) (xs := [2]) hz123 (.cons rfl .nil) rfl (by simp [maxLen])
   obtain ⟨ok3, h125, r126⟩ := b1_ok r119; clear r119
   refine o_callT (Lt := Lb63 ++ []) (Lr := (b36, .cells #[.int .i64 n2, .slice a29 n33 c30] 27 (0, 0)) :: ((b35, .cells #[.int .i64 n, .slice a12 n16 c13] 27 (0, 0)) :: (Lb81 ++ (Lb31 ++ (Lb14 ++ (Lb45 ++ [])))))) rfl Try.call37 rfl rfl rfl (pT ((fC (fC (fS (fS fP)))).trans (pA pR)) (lp (ln rfl))) (fun F2 h2 h3 => by rw [(SlR.caps hz64).1]; exact oyezkit_Like_int_w (hz64.row (iE_ok _) h2 (fun p hp => h3 p (List.mem_append_left _ hp))) (h124.mono (iE_ok _) h2) h125) ?_
   refine shO_on (b := false) 66 rfl (EnvB rfl c117) ?_
   refine ov (v_notB rfl) rfl ?_
   refine ov (v_pick_f (evB rfl c117) rfl) rfl ?_
   refine om rfl rfl ?_
   rcases bool_two (!ok3) with c127 | c127
   · have r128 := bt r126 c127; clear r126
     refine shO_off (b' := true) 72 rfl (EnvB rfl c127) rfl rfl (shO_off (b' := true) 72 rfl (EnvB rfl c127) rfl rfl (shO_off (b' := true) 72 rfl (EnvB rfl c127) rfl rfl (shO_off (b' := true) 72 rfl (EnvB rfl c127) rfl rfl ?_)))
     refine ov (v_pick_t (evB rfl c127) rfl) rfl ?_
     refine shO_nil ?_
     obtain rfl := inj1 r128
     exact mi (kc (kc (kx (kg (fS (fS fP)) (ka kn))))) ⟨(hF112.trans hF122), rfl, (sc rfl (sc rfl (sc rfl (sn _))))⟩
   have r129 := bf r126 c127; clear r126
   refine shO_on (b := false) 72 rfl (EnvB rfl c127) (om rfl rfl (shO_on (b := false) 72 rfl (EnvB rfl c127) ?_))
   refine o_buildSlice (cs := #[.int .i64 1]) rfl rfl (buildSlice_all slt_36 [.int .i64 1] rfl (by decide) (by simp [Value.cells]) (by decide)) ?_; intro b130 hb130
   refine shO_on (b := false) 72 rfl (EnvB rfl c127) ?_
   refine shO_freeze 0 rfl hb130 ?_; intro F131 hF132 hz133
   refine shO_L (L' := (b36, .cells #[.int .i64 n2, .slice a29 n33 c30] 27 (0, 0)) :: ((b35, .cells #[.int .i64 n, .slice a12 n16 c13] 27 (0, 0)) :: (Lb81 ++ (Lb31 ++ (Lb63 ++ (Lb14 ++ (Lb45 ++ []))))))) rfl ?_
   replace hz82 := hz82.mono (iE_ok _) hF132
   have h134 : RowR 1 (iE .i64) F131 (some ⟨b130, 0, none⟩) 1 [1] := RowR.of_block (iE_ok _) (vss := [[.int .i64 1]]) (xs := [1]) hz133 (.cons rfl .nil) rfl (by simp [maxLen])
   obtain ⟨ok4, h135, r136⟩ := b1_ok r129; clear r129
   refine o_callT (Lt := Lb81 ++ []) (Lr := (b36, .cells #[.int .i64 n2, .slice a29 n33 c30] 27 (0, 0)) :: ((b35, .cells #[.int .i64 n, .slice a12 n16 c13] 27 (0, 0)) :: (Lb31 ++ (Lb63 ++ (Lb14 ++ (Lb45 ++ [])))))) rfl Try.call37 rfl rfl rfl (pT ((fC (fC fP)).trans (pA pR)) (lp (ln rfl))) (fun F2 h2 h3 => by rw [(SlR.caps hz82).1]; exact oyezkit_Like_int_w (hz82.row (iE_ok _) h2 (fun p hp => h3 p (List.mem_append_left _ hp))) (h134.mono (iE_ok _) h2) h135) ?_
   refine shO_on (b := false) 72 rfl (EnvB rfl c127) ?_
   refine ov (v_notB rfl) rfl ?_
   refine ov (v_pick_f (evB rfl c127) rfl) rfl ?_
   refine shO_nil ?_
   obtain rfl := inj1 r136
   exact mi (kc (kc (kx (kg (fS (fS fP)) (ka kn))))) ⟨((hF112.trans hF122).trans hF132), rfl, (sc rfl (sc rfl (sc rfl (sn _))))⟩
 rintro e1 F138 _ ⟨hF139, rfl, he137⟩
 refine shW_env _ he137 ?_; clear he137
 replace hz15 := hz15.mono (iE_ok _) hF139
 replace hz32 := hz32.mono (iE_ok _) hF139
 refine shW_cond rfl (fun c140 => ?_) (fun c140 => ?_)
 · have r141 := bt r94 c140; clear r94
   refine wsr (oa rfl rfl (shO_nil ?_))
   refine kW kn ?_
   refine shW_ret (andThen_ret ?_)
   refine q_res1 Try.results18 (res_tmp rfl) (sr) ?_
   obtain rfl := inj1 r141
   exact rfl
 have r142 := bf r94 c140; clear r94
 refine shW_skip (wsr ?_)
 refine ov (v_loadA (cs := #[.int .i64 n, .slice a12 n16 c13]) Try.isAgg27 Try.sizeOf27 rfl (Has.own 1 rfl) (Nat.le_of_ble_eq_true rfl) rfl) rfl ?_
 refine o_buildSlice (cs := #[.int .i64 1, .int .i64 3]) rfl rfl (buildSlice_all slt_36 [.int .i64 1, .int .i64 3] rfl (by decide) (by simp [Value.cells]) (by decide)) ?_; intro b143 hb143
 refine shO_freeze 0 rfl hb143 ?_; intro F144 hF145 hz146
 refine shO_L (L' := (b36, .cells #[.int .i64 n2, .slice a29 n33 c30] 27 (0, 0)) :: ((b35, .cells #[.int .i64 n, .slice a12 n16 c13] 27 (0, 0)) :: (Lb14 ++ (Lb31 ++ [])))) rfl ?_
 replace hz15 := hz15.mono (iE_ok _) hF145
 replace hz32 := hz32.mono (iE_ok _) hF145
 have h147 : RowR 1 (iE .i64) F144 (some ⟨b143, 0, none⟩) 2 [1, 3] := RowR.of_block (iE_ok _) (vss := [[.int .i64 1], [.int .i64 3]]) (xs := [1, 3]) hz146 (.cons rfl (.cons rfl .nil)) rfl (by simp [maxLen])
 obtain ⟨n7, n8, h148, r149⟩ := b2_ok r142; clear r142
 refine o_callT (Lt := Lb14 ++ []) (Lr := (b36, .cells #[.int .i64 n2, .slice a29 n33 c30] 27 (0, 0)) :: ((b35, .cells #[.int .i64 n, .slice a12 n16 c13] 27 (0, 0)) :: (Lb31 ++ []))) rfl Try.call17 rfl rfl rfl (pT ((fC (fC fP)).trans (pA pR)) (lp (ln rfl))) (fun F2 h2 h3 => by rw [(SlR.caps hz15).1]; exact hear_Louder_w (hz15.row (iE_ok _) h2 (fun p hp => h3 p (List.mem_append_left _ hp))) (h147.mono (iE_ok _) h2) h148) ?_
 refine om rfl rfl (ox rfl rfl rfl (ox rfl rfl rfl (oa rfl rfl (oa rfl rfl (nsr ?_)))))
 refine ov (v_loadA (cs := #[.int .i64 n2, .slice a29 n33 c30]) Try.isAgg27 Try.sizeOf27 rfl (Has.own 0 rfl) (Nat.le_of_ble_eq_true rfl) rfl) rfl ?_
 obtain ⟨l6, n9, h150, r151⟩ := b2_ok r149; clear r149
 refine o_callTO (Lb := []) (Lt := Lb31 ++ []) (Lr := (b36, .cells #[.int .i64 n2, .slice a29 n33 c30] 27 (0, 0)) :: ((b35, .cells #[.int .i64 n, .slice a12 n16 c13] 27 (0, 0)) :: (Lb14 ++ []))) rfl Try.call59 rfl rfl rfl (pT ((fC (fC (fS fP))).trans (pA pR)) (ln (lp (ln rfl)))) (fun F2 h2 h3 => by rw [(SlR.caps hz32).1]; exact hear_Way_w (hz32.row (iE_ok _) h2 (fun p hp => h3 p (List.mem_append_left _ hp))) h150) (fun _ _ _ _ hq => by obtain ⟨a156, n160, c157, Lb158, rfl, rfl, hz159⟩ := hq; exact ⟨_, _, _, _, rfl, rfl, hz159.flat (fun _ _ h => h)⟩) ?_; rintro _ F152 _ hF153 hd155 hn154 ⟨a156, n160, c157, Lb158, rfl, rfl, hz159⟩
 have hn162 := newp (Lb' := []) (by rfl) hd155 hn154
 replace hz159 := hz159.new fun p hp => hn162 p (by simp [hp])
 refine shO_L (lp (ln (lp (ln rfl)))) ?_
 refine kO (kf (fS (fS fO)) (kf (fS (fS fO)) kr)) ?_
 refine om rfl rfl (ox rfl rfl rfl (ox rfl rfl rfl (oa rfl rfl (oa rfl rfl (nsr ?_)))))
 refine o_buildSlice (cs := #[.string (sB [115, 104, 119, 104])]) rfl rfl (buildSlice_all slt_124 [.string (sB [115, 104, 119, 104])] rfl (by decide) (by simp [Value.cells]) (by decide)) ?_; intro b163 hb163
 refine shO_freeze 0 rfl hb163 ?_; intro F164 hF165 hz166
 refine shO_L (L' := (b36, .cells #[.int .i64 n2, .slice a29 n33 c30] 27 (0, 0)) :: ((b35, .cells #[.int .i64 n, .slice a12 n16 c13] 27 (0, 0)) :: (Lb158 ++ (Lb31 ++ (Lb14 ++ []))))) rfl ?_
 replace hz159 := hz159.mono (iE_ok _) hF165
 have h167 : RowR 1 sE F164 (some ⟨b163, 0, none⟩) 1 [[115, 104, 119, 104]] := RowR.of_block sE_ok (vss := [[.string (sB [115, 104, 119, 104])]]) (xs := [[115, 104, 119, 104]]) hz166 (.cons rfl .nil) rfl (by simp [maxLen])
 obtain ⟨n10, l7, h168, r169⟩ := b2_ok r151; clear r151
 refine o_call0 rfl Try.call57 rfl rfl rfl (oyezlaw01_Drawn_w h167 h168) ?_; rintro _ F170 _ hF171 hn172 ⟨a174, n178, c175, Lb176, rfl, rfl, hz177⟩
 replace hz159 := hz159.mono (iE_ok _) hF171
 replace hz177 := hz177.new fun p hp => hn172 p (by simp [hp])
 refine shO_L (lp (ln rfl)) ?_
 refine kO (kf (fS fO) (kf (fS fO) kr)) ?_
 obtain ⟨n11, n12, h180, r181⟩ := b2_ok r169; clear r169
 refine o_callT (Lt := Lb176 ++ []) (Lr := (b36, .cells #[.int .i64 n2, .slice a29 n33 c30] 27 (0, 0)) :: ((b35, .cells #[.int .i64 n, .slice a12 n16 c13] 27 (0, 0)) :: (Lb158 ++ (Lb31 ++ (Lb14 ++ []))))) rfl Try.call60 rfl rfl rfl (pT ((fC (fC fP)).trans (pA pR)) (lp (ln rfl))) (fun F2 h2 h3 => by rw [(SlR.caps hz177).1]; exact hear_Need_w (hz177.row (iE_ok _) h2 (fun p hp => h3 p (List.mem_append_left _ hp))) h180) ?_
 refine om rfl rfl (ox rfl rfl rfl (ox rfl rfl rfl (oa rfl rfl (nsr (om rfl rfl ?_)))))
 refine ov (v_eql rfl rfl) rfl ?_
 refine om rfl rfl ?_
 by_cases c182 : n8 = 0
 · have r183 := ite_t r181 c182; clear r181
   refine shO_on (b := true) 97 rfl (Env.isT rfl c182) (om rfl rfl (shO_on (b := true) 97 rfl (Env.isT rfl c182) ?_))
   refine ov (v_eql rfl rfl) rfl ?_
   refine ov (v_pick_t (evD_true rfl c182) rfl) rfl ?_
   refine om rfl rfl ?_
   by_cases c184 : n9 = 0
   · have r185 := ite_t r183 c184; clear r183
     refine shO_on (b := true) 101 rfl (Env.isT rfl c184) (om rfl rfl (shO_on (b := true) 101 rfl (Env.isT rfl c184) ?_))
     refine ov (v_eql rfl rfl) rfl ?_
     refine ov (v_pick_t (evD_true rfl c184) rfl) rfl ?_
     refine om rfl rfl ?_
     by_cases c186 : n7 = 5
     · have r187 := ite_t r185 c186; clear r185
       refine shO_on (b := true) 105 rfl (Env.isT rfl c186) (om rfl rfl (shO_on (b := true) 105 rfl (Env.isT rfl c186) ?_))
       refine o_buildSlice (cs := #[.int .i64 3, .int .i64 0, .int .i64 1, .int .i64 2]) rfl rfl (buildSlice_all slt_36 [.int .i64 3, .int .i64 0, .int .i64 1, .int .i64 2] rfl (by decide) (by simp [Value.cells]) (by decide)) ?_; intro b188 hb188
       refine shO_on (b := true) 105 rfl (Env.isT rfl c186) ?_
       refine shO_freeze 0 rfl hb188 ?_; intro F189 hF190 hz191
       refine shO_L (L' := (b36, .cells #[.int .i64 n2, .slice a29 n33 c30] 27 (0, 0)) :: ((b35, .cells #[.int .i64 n, .slice a12 n16 c13] 27 (0, 0)) :: (Lb176 ++ (Lb158 ++ (Lb31 ++ (Lb14 ++ [])))))) rfl ?_
       replace hz159 := hz159.mono (iE_ok _) hF190
       have h192 : RowR 1 (iE .i64) F189 (some ⟨b188, 0, none⟩) 4 [3, 0, 1, 2] := RowR.of_block (iE_ok _) (vss := [[.int .i64 3], [.int .i64 0], [.int .i64 1], [.int .i64 2]]) (xs := [3, 0, 1, 2]) hz191 (.cons rfl (.cons rfl (.cons rfl (.cons rfl .nil)))) rfl (by simp [maxLen])
       obtain ⟨ok5, h193, r194⟩ := b1_ok r187; clear r187
       refine o_callT (Lt := Lb158 ++ []) (Lr := (b36, .cells #[.int .i64 n2, .slice a29 n33 c30] 27 (0, 0)) :: ((b35, .cells #[.int .i64 n, .slice a12 n16 c13] 27 (0, 0)) :: (Lb176 ++ (Lb31 ++ (Lb14 ++ []))))) rfl Try.call37 rfl rfl rfl (pT ((fC (fC (fS fP))).trans (pA pR)) (lp (ln rfl))) (fun F2 h2 h3 => by rw [(SlR.caps hz159).1]; exact oyezkit_Like_int_w (hz159.row (iE_ok _) h2 (fun p hp => h3 p (List.mem_append_left _ hp))) (h192.mono (iE_ok _) h2) h193) ?_
       refine ov (v_pick_t (evD_true rfl c186) rfl) rfl ?_
       refine om rfl rfl ?_
       rcases bool_two ok5 with c195 | c195
       · have r196 := bt r194 c195; clear r194
         refine shO_on (b := true) 110 rfl (EnvB rfl c195) (om rfl rfl (shO_on (b := true) 110 rfl (EnvB rfl c195) ?_))
         refine ov (v_eql rfl rfl) rfl ?_
         refine ov (v_pick_t (evB rfl c195) rfl) rfl ?_
         refine oa rfl rfl (shO_nil ?_)
         refine kW kn ?_
         refine shW_ret ?_
         refine q_res1 Try.results18 (res_tmp rfl) (sr) ?_
         obtain rfl := inj1 r196
         exact rfl
       have r197 := bf r194 c195; clear r194
       refine shO_off (b' := false) 110 rfl (EnvB rfl c195) rfl rfl (shO_off (b' := false) 110 rfl (EnvB rfl c195) rfl rfl ?_)
       refine ov (v_pick_f (evB rfl c195) rfl) rfl ?_
       refine oa rfl rfl (shO_nil ?_)
       refine kW kn ?_
       refine shW_ret ?_
       refine q_res1 Try.results18 (res_tmp rfl) (sr) ?_
       obtain rfl := inj1 r197
       exact rfl
     have r198 := ite_f r185 c186; clear r185
     refine shO_off (b' := false) 105 rfl (Env.isF rfl c186) rfl rfl (shO_off (b' := false) 105 rfl (Env.isF rfl c186) rfl rfl (shO_off (b' := false) 105 rfl (Env.isF rfl c186) rfl rfl ?_))
     refine ov (v_pick_f (evD_false rfl c186) rfl) rfl ?_
     refine om rfl rfl (shO_off (b' := false) 110 rfl rfl rfl rfl (shO_off (b' := false) 110 rfl rfl rfl rfl ?_))
     refine ov (v_pick_f rfl rfl) rfl ?_
     refine oa rfl rfl (shO_nil ?_)
     refine kW kn ?_
     refine shW_ret ?_
     refine q_res1 Try.results18 (res_tmp rfl) (sr) ?_
     obtain rfl := inj1 r198
     exact rfl
   have r199 := ite_f r183 c184; clear r183
   refine shO_off (b' := false) 101 rfl (Env.isF rfl c184) rfl rfl (shO_off (b' := false) 101 rfl (Env.isF rfl c184) rfl rfl ?_)
   refine ov (v_pick_f (evD_false rfl c184) rfl) rfl ?_
   refine om rfl rfl (shO_off (b' := false) 105 rfl rfl rfl rfl (shO_off (b' := false) 105 rfl rfl rfl rfl (shO_off (b' := false) 105 rfl rfl rfl rfl ?_)))
   refine ov (v_pick_f rfl rfl) rfl ?_
   refine om rfl rfl (shO_off (b' := false) 110 rfl rfl rfl rfl (shO_off (b' := false) 110 rfl rfl rfl rfl ?_))
   refine ov (v_pick_f rfl rfl) rfl ?_
   refine oa rfl rfl (shO_nil ?_)
   refine kW kn ?_
   refine shW_ret ?_
   refine q_res1 Try.results18 (res_tmp rfl) (sr) ?_
   obtain rfl := inj1 r199
   exact rfl
 have r200 := ite_f r181 c182; clear r181
 refine shO_off (b' := false) 97 rfl (Env.isF rfl c182) rfl rfl (shO_off (b' := false) 97 rfl (Env.isF rfl c182) rfl rfl ?_)
 refine ov (v_pick_f (evD_false rfl c182) rfl) rfl ?_
 refine om rfl rfl (shO_off (b' := false) 101 rfl rfl rfl rfl (shO_off (b' := false) 101 rfl rfl rfl rfl ?_))
 refine ov (v_pick_f rfl rfl) rfl ?_
 refine om rfl rfl (shO_off (b' := false) 105 rfl rfl rfl rfl (shO_off (b' := false) 105 rfl rfl rfl rfl (shO_off (b' := false) 105 rfl rfl rfl rfl ?_)))
 refine ov (v_pick_f rfl rfl) rfl ?_
 refine om rfl rfl (shO_off (b' := false) 110 rfl rfl rfl rfl (shO_off (b' := false) 110 rfl rfl rfl rfl ?_))
 refine ov (v_pick_f rfl rfl) rfl ?_
 refine oa rfl rfl (shO_nil ?_)
 refine kW kn ?_
 refine shW_ret ?_
 refine q_res1 Try.results18 (res_tmp rfl) (sr) ?_
 obtain rfl := inj1 r200
 exact rfl
set_option maxHeartbeats 1000000 in
theorem hear_Houses_w {wide : Int} {plots_a : Option Addr} {plots_c : Nat} {plots : List Int} {wind : Int} {voice : Int} {stand : Int} {F : FS} (h_plots : RowR 1 (iE .i64) F plots_a plots_c plots) {r : List Int} {r2 : Int} (hr : hear_Houses wide plots wind voice stand = some (r, r2)) :
    SH.Spec Try.prog 19 #[.agg #[.int .i64 wide, .slice plots_a plots.length plots_c], .agg #[.int .i64 wind, .int .i64 voice], .int .i64 stand] F [] fun F' L' v => ∃ (ra : Option Addr) (rn : Nat) (rc : Nat) (rL : LH), v = .tuple #[.slice ra rn rc, .int .i64 r2] ∧ L' = rL ++ [] ∧ SlR 0 3 1 (iE .i64) F' ra rn rc r rL := by
 refine spec_of_shW (args := [.agg #[.int .i64 wide, .slice plots_a plots.length plots_c], .agg #[.int .i64 wind, .int .i64 voice], .int .i64 stand]) Try.func19 rfl Try.ntmps19 (Nat.le_of_ble_eq_true rfl) ?_
 intro K _ _; rw [hear_Houses] at hr
 refine wsr ?_
 refine o_box rfl rfl ?_; intro b1 hb1
 refine o_box rfl rfl ?_; intro b2 hb2
 refine oa rfl rfl (oa rfl rfl (shO_nil (shW_seq (wsr ?_))))
 refine ov (v_loadA (cs := #[.int .i64 wide, .slice plots_a plots.length plots_c]) Try.isAgg27 Try.sizeOf27 rfl (Has.own 1 rfl) (Nat.le_of_ble_eq_true rfl) rfl) rfl ?_
 obtain ⟨n, h3, r4⟩ := b1_ok hr; clear hr
 refine o_callV rfl Try.call61 rfl rfl rfl (hear_Check_w h_plots h3) ?_
 refine oa rfl rfl (nsr (om rfl rfl ?_))
 refine ov (v_neq rfl rfl) rfl ?_
 refine shO_nil ?_
 refine shW_condP rfl (fun c5 => ?_) (fun c5 => ?_)
 · have r6 := ite_t r4 c5; clear r4
   refine wsr (om rfl rfl (oa rfl rfl (oa rfl rfl (shO_nil ?_))))
   refine kW kn ?_
   refine shW_ret (andThen_ret ?_)
   refine q_res2 Try.results19 (res_tmp rfl) (res_tmp rfl) (sr) ?_
   obtain ⟨rfl, rfl⟩ := inj2 r6
   exact ⟨_, _, _, [], rfl, rfl, SlR.nil _ _ _ _ _⟩
 have r7 := ite_f r4 c5; clear r4
 refine shW_skip (shW_seq (wsr ?_))
 refine ov (v_loadA (cs := #[.int .i64 wind, .int .i64 voice]) Try.isAgg31 Try.sizeOf31 rfl (Has.own 0 rfl) (Nat.le_of_ble_eq_true rfl) rfl) rfl ?_
 obtain ⟨n2, h8, r9⟩ := b1_ok r7; clear r7
 refine o_callV rfl Try.call62 rfl rfl rfl (hear_CheckAir_w h8) ?_
 refine oa rfl rfl (nsr (om rfl rfl ?_))
 refine ov (v_neq rfl rfl) rfl ?_
 refine shO_nil ?_
 refine shW_condP rfl (fun c10 => ?_) (fun c10 => ?_)
 · have r11 := ite_t r9 c10; clear r9
   refine wsr (om rfl rfl (oa rfl rfl (oa rfl rfl (shO_nil ?_))))
   refine kW kn ?_
   refine shW_ret (andThen_ret ?_)
   refine q_res2 Try.results19 (res_tmp rfl) (res_tmp rfl) (sr) ?_
   obtain ⟨rfl, rfl⟩ := inj2 r11
   exact ⟨_, _, _, [], rfl, rfl, SlR.nil _ _ _ _ _⟩
 have r12 := ite_f r9 c10; clear r9
 refine shW_skip (wsr ?_)
 refine ov (v_loadA (cs := #[.int .i64 wide, .slice plots_a plots.length plots_c]) Try.isAgg27 Try.sizeOf27 rfl (Has.own 1 rfl) (Nat.le_of_ble_eq_true rfl) rfl) rfl ?_
 refine ov (v_fieldAddr fa_31_0 rfl) rfl ?_
 refine ov (v_load Try.isAgg29 rfl (Has.own 0 rfl) rfl) rfl ?_
 refine om rfl rfl ?_
 obtain ⟨l, n3, h13, r14⟩ := b2_ok r12; clear r12
 refine o_call0 rfl Try.call13 rfl rfl rfl (hear_Needs_w h_plots h13) ?_; rintro _ F15 _ hF16 hn17 ⟨a19, n23, c20, Lb21, rfl, rfl, hz22⟩
 replace h_plots := h_plots.mono (iE_ok _) hF16
 replace hz22 := hz22.new fun p hp => hn17 p (by simp [hp])
 refine shO_L (lp (ln rfl)) ?_
 refine kO (kf (fS fO) (kf (fS fO) kr)) ?_
 refine om rfl rfl (ox rfl rfl rfl (ox rfl rfl rfl (oa rfl rfl (oa rfl rfl (shO_nil (shW_seq (wsr (om rfl rfl ?_))))))))
 refine ov (v_neq rfl rfl) rfl ?_
 refine shO_nil ?_
 refine shW_condP rfl (fun c25 => ?_) (fun c25 => ?_)
 · have r26 := ite_t r14 c25; clear r14
   refine wsr (om rfl rfl (oa rfl rfl (oa rfl rfl (shO_nil ?_))))
   refine kW kn ?_
   refine shW_ret (andThen_ret ?_)
   refine q_res2 Try.results19 (res_tmp rfl) (res_tmp rfl) (sr) ?_
   obtain ⟨rfl, rfl⟩ := inj2 r26
   exact ⟨_, _, _, [], rfl, rfl, SlR.nil _ _ _ _ _⟩
 have r27 := ite_f r14 c25; clear r14
 refine shW_skip (wsr (oa rfl rfl (shO_nil ?_)))
 obtain ⟨out, h34, r35⟩ := b1_ok r27; clear r27
 refine shW_join (fun e1 F1 L1 => ∃ (a28 : Option Addr) (n32 : Nat) (c29 : Nat) (Lb30 : LH), F15 = F1 ∧ L1 = (Lb30 ++ []) ∧ e1.sub [(12, .slice a28 n32 c29)] ∧ SlR K.w0.heap.size 3 1 (iE .i64) F1 a28 n32 c29 out Lb30) ?_ ?_
 · clear r35
   refine wsr (om rfl rfl ?_)
   refine ov ((v_lenS Try.underlying36 rfl).i (SlR.lenI hz22)) rfl ?_
   refine om rfl rfl (shO_nil ?_)
   refine shW_block ?_
   refine shW_lp (fun fu1 e1 F1 L1 => ∃ (tl : List Int) (k : Int), tl.length = fu1 ∧ Lst l k tl ∧ ∃ (out2 : List Int) (a36 : Option Addr) (n40 : Nat) (c37 : Nat) (Lb38 : LH), hear_Houses_l1 plots voice tl k out2 = some out ∧ F15 = F1 ∧ L1 = ((b2, .cells #[.int .i64 wind, .int .i64 voice] 31 (0, 0)) :: ((b1, .cells #[.int .i64 wide, .slice plots_a plots.length plots_c] 27 (0, 0)) :: (Lb38 ++ (Lb21 ++ [])))) ∧ e1.sub [(3, .pointer (some ⟨b1, 0, none⟩)), (4, .pointer (some ⟨b2, 0, none⟩)), (12, .slice a36 n40 c37), (36, .slice a19 n23 c20), (37, .int .i64 (l.length : Int)), (38, .int .i64 k)] ∧ SlR K.w0.heap.size 3 1 (iE .i64) F1 a36 n40 c37 out2 Lb38) _ (m0 (kc (kc (ke kr))) ⟨_, _, rfl, Lst.start _, [], none, 0, 0, [], h34, rfl, rfl, (sc rfl (sc rfl (sc rfl (sc rfl (sc rfl (sc rfl (sn _))))))), SlR.nil _ _ _ _ _⟩) ?_
   rintro fu1 e1 _ _ ⟨tl, k, hn43, hk42, out2, a36, n40, c37, Lb38, r44, rfl, rfl, he45, hz39⟩
   refine shW_env _ he45 ?_; clear he45
   refine wsr ?_
   refine ov (v_lssK rfl rfl) rfl ?_
   refine shO_nil (shW_seq ?_)
   refine shW_condP rfl (fun c47 => ?_) (fun c47 => ?_)
   · obtain ⟨x, tl2, rfl, hx49, g50, hk48⟩ := Lst.succ hk42 c47
     rw [hear_Houses_l1] at r44
     refine shW_skip (shW_seq ?_)
     refine shW_block ?_
     refine wsr (om rfl rfl ?_)
     obtain ⟨b51, o52, c53, vs54, ha55, hs56, hle57, rfl, hl58, hc59⟩ := SlR.at (iE_ok _) hz22 (L := (b2, .cells #[.int .i64 wind, .int .i64 voice] 31 (0, 0)) :: ((b1, .cells #[.int .i64 wide, .slice plots_a plots.length plots_c] 27 (0, 0)) :: (Lb38 ++ (Lb21 ++ [])))) (fC (fC (fS fP))) g50.1 hx49
     refine ov (v_indexO Try.underlying36 Try.sizeOf3 rfl ha55 rfl (SlR.idx hz22 g50)) rfl ?_
     refine ov (v_load Try.isAgg3 rfl hs56 (hc59 0 (by decide))) rfl ?_
     refine oa rfl rfl (oa rfl rfl (shO_nil ?_))
     obtain ⟨k2, h60, r61⟩ := b1_ok r44; clear r44
     refine shW_join (fun e1 F1 L1 => F15 = F1 ∧ L1 = ((b2, .cells #[.int .i64 wind, .int .i64 voice] 31 (0, 0)) :: ((b1, .cells #[.int .i64 wide, .slice plots_a plots.length plots_c] 27 (0, 0)) :: (Lb38 ++ (Lb21 ++ [])))) ∧ e1.sub [(3, .pointer (some ⟨b1, 0, none⟩)), (4, .pointer (some ⟨b2, 0, none⟩)), (12, .slice a36 n40 c37), (13, .int .i64 k), (36, .slice a19 n23 c20), (37, .int .i64 (l.length : Int)), (38, .int .i64 k), (54, .bool k2)]) ?_ ?_
     · clear r61
       refine shW_region ?_
       refine ov (v_fieldAddr fa_27_1 rfl) rfl ?_
       refine ov (v_load Try.isAgg25 rfl (Has.own 1 rfl) rfl) rfl ?_
       refine om rfl rfl ?_
       obtain ⟨x2, g62, hx63, r64⟩ := ix_ok h60; clear h60
       obtain ⟨b65, o66, c67, vs68, ha69, hs70, hle71, rfl, hl72, hc73⟩ := RowR.at (iE_ok _) h_plots ((b2, .cells #[.int .i64 wind, .int .i64 voice] 31 (0, 0)) :: ((b1, .cells #[.int .i64 wide, .slice plots_a plots.length plots_c] 27 (0, 0)) :: (Lb38 ++ (Lb21 ++ [])))) g62.1 hx63
       refine ov (v_indexO Try.underlying25 Try.sizeOf35 rfl ha69 rfl g62) rfl ?_
       refine ov (v_load Try.isAgg35 rfl hs70 (hc73 0 (by decide))) rfl ?_
       refine ov (v_eql rfl rfl) rfl ?_
       refine om rfl rfl ?_
       by_cases c74 : x2 = 1
       · have r75 := ite_t r64 c74; clear r64
         refine shO_on (b := true) 49 rfl (Env.isT rfl c74) (om rfl rfl (shO_on (b := true) 49 rfl (Env.isT rfl c74) ?_))
         refine ov (v_fieldAddr fa_31_1 rfl) rfl ?_
         refine shO_on (b := true) 49 rfl (Env.isT rfl c74) ?_
         refine ov (v_load Try.isAgg3 rfl (Has.own 0 rfl) rfl) rfl ?_
         refine shO_on (b := true) 49 rfl (Env.isT rfl c74) ?_
         obtain ⟨ok, h76, r77⟩ := b1_ok r75; clear r75
         refine o_callV rfl Try.call56 rfl rfl rfl (hear_in_w h76) ?_
         refine ov (v_pick_t (evD_true rfl c74) rfl) rfl ?_
         refine shO_nil ?_
         obtain rfl := inj1 r77
         exact mi kr ⟨rfl, rfl, (sc rfl (sc rfl (sc rfl (sc rfl (sc rfl (sc rfl (sc rfl (sc rfl (sn _)))))))))⟩
       have r78 := ite_f r64 c74; clear r64
       refine shO_off (b' := false) 49 rfl (Env.isF rfl c74) rfl rfl (shO_off (b' := false) 49 rfl (Env.isF rfl c74) rfl rfl (shO_off (b' := false) 49 rfl (Env.isF rfl c74) rfl rfl (shO_off (b' := false) 49 rfl (Env.isF rfl c74) rfl rfl ?_)))
       refine ov (v_pick_f (evD_false rfl c74) rfl) rfl ?_
       refine shO_nil ?_
       obtain rfl := inj1 r78
       exact mi kr ⟨rfl, rfl, (sc rfl (sc rfl (sc rfl (sc rfl (sc rfl (sc rfl (sc rfl (sc rfl (sn _)))))))))⟩
     rintro e1 _ _ ⟨rfl, rfl, he79⟩
     refine shW_env _ he79 ?_; clear he79
     refine shW_cond rfl (fun c80 => ?_) (fun c80 => ?_)
     · have r81 := bt r61 c80; clear r61
       refine shW_region (om rfl rfl (om rfl rfl ?_))
       refine o_buildSlice (cs := #[.int .i64 k]) rfl rfl (buildSlice_all slt_36 [.int .i64 k] rfl (by decide) (by simp [Value.cells]) (by decide)) ?_; intro b82 hb82
       obtain ⟨out3, h83, g84, r85⟩ := ap_ok r81; clear r81
       refine o_appZ (xs := out2) (ys := [k]) (zs := out3) rfl slt_36 rfl rfl (Nat.le_refl _) (fun _ => .c (.c (.c .h))) hz39 (SrcR.box (vss := [[.int .i64 k]]) (ys := [k]) 0 rfl (iE_ok _) (.cons rfl .nil) rfl rfl) h83 g84 (by decide) ?_; intro a86 n90 c87 Lb88 hz89
       refine kO (kd kr) ?_
       refine oa rfl rfl (shO_nil (inBlock_n (id := 1) (shW_region ?_)))
       refine ov (v_add rfl rfl (Lst.r64 hk42 c47 (SlR.llt hz22))) rfl ?_
       refine om rfl rfl (shO_nil ?_)
       subst hn43; exact le kr ⟨_, _, rfl, hk48, out3, a86, n90, c87, Lb88, r85, rfl, rfl, (sc rfl (sc rfl (sc rfl (sc rfl (sc rfl (sc rfl (sn _))))))), hz89⟩
     have r92 := bf r61 c80; clear r61
     refine shW_skip (inBlock_n (id := 1) (shW_region ?_))
     refine ov (v_add rfl rfl (Lst.r64 hk42 c47 (SlR.llt hz22))) rfl ?_
     refine om rfl rfl (shO_nil ?_)
     subst hn43; exact le kr ⟨_, _, rfl, hk48, out2, a36, n40, c37, Lb38, r92, rfl, rfl, (sc rfl (sc rfl (sc rfl (sc rfl (sc rfl (sc rfl (sn _))))))), hz39⟩
   obtain rfl := Lst.zero hk42 c47
   rw [hear_Houses_l1] at r44
   refine shW_exit (andThen_exit (andThen_exit ?_))
   refine inBlock_exit ?_
   obtain rfl := inj1 r44
   exact mi (kd (kd (ka kn))) ⟨a36, n40, c37, Lb38, rfl, rfl, (sc rfl (sn _)), hz39⟩
 rintro e1 _ _ ⟨a28, n32, c29, Lb30, rfl, rfl, he93, hz31⟩
 refine shW_env _ he93 ?_; clear he93
 refine wsr (om rfl rfl (oa rfl rfl (oa rfl rfl (shO_nil (shW_ret ?_)))))
 refine q_res2 Try.results19 (res_tmp rfl) (res_tmp rfl) (sr) ?_
 obtain ⟨rfl, rfl⟩ := inj2 r35
 exact ⟨_, _, _, _, rfl, rfl, hz31.any⟩
set_option maxHeartbeats 1000000 in
theorem hear_Best_w {wide : Int} {plots_a : Option Addr} {plots_c : Nat} {plots : List Int} {wind : Int} {voice : Int} {houses_a : Option Addr} {houses_c : Nat} {houses : List Int} {stands : Int} {F : FS} (h_plots : RowR 1 (iE .i64) F plots_a plots_c plots) (h_houses : RowR 1 (iE .i64) F houses_a houses_c houses) {r : List Int} {r2 : Int} {r3 : Int} (hr : hear_Best wide plots wind voice houses stands = some (r, r2, r3)) :
    SH.Spec Try.prog 24 #[.agg #[.int .i64 wide, .slice plots_a plots.length plots_c], .agg #[.int .i64 wind, .int .i64 voice], .slice houses_a houses.length houses_c, .int .i64 stands] F [] fun F' L' v => ∃ (ra : Option Addr) (rn : Nat) (rc : Nat) (rL : LH), v = .tuple #[.slice ra rn rc, .int .i64 r2, .int .i64 r3] ∧ L' = rL ++ [] ∧ SlR 0 3 1 (iE .i64) F' ra rn rc r rL := by
 refine spec_of_shW (args := [.agg #[.int .i64 wide, .slice plots_a plots.length plots_c], .agg #[.int .i64 wind, .int .i64 voice], .slice houses_a houses.length houses_c, .int .i64 stands]) Try.func24 rfl Try.ntmps24 (Nat.le_of_ble_eq_true rfl) ?_
 intro K _ _; rw [hear_Best] at hr
 refine wsr ?_
 refine o_box rfl rfl ?_; intro b1 hb1
 refine o_box rfl rfl ?_; intro b2 hb2
 refine oa rfl rfl (oa rfl rfl (oa rfl rfl (nsr ?_)))
 refine ov (v_loadA (cs := #[.int .i64 wide, .slice plots_a plots.length plots_c]) Try.isAgg27 Try.sizeOf27 rfl (Has.own 1 rfl) (Nat.le_of_ble_eq_true rfl) rfl) rfl ?_
 refine ov (v_loadA (cs := #[.int .i64 wind, .int .i64 voice]) Try.isAgg31 Try.sizeOf31 rfl (Has.own 0 rfl) (Nat.le_of_ble_eq_true rfl) rfl) rfl ?_
 refine om rfl rfl ?_
 obtain ⟨l, y, n, h3, r4⟩ := b3_ok hr; clear hr
 refine o_call0 rfl Try.call44 rfl rfl rfl (hear_asked_w h_plots h_houses h3) ?_; rintro _ F5 _ hF6 hn7 ⟨a9, n13, c10, Lb11, v15, rfl, rfl, hz12, hp16⟩
 replace hz12 := hz12.new fun p hp => hn7 p (by simp [hp])
 refine shO_L (lp (ln rfl)) ?_
 refine kO (kf (fS fO) (kf (fS fO) kr)) ?_
 refine om rfl rfl (ox rfl rfl rfl (ox rfl rfl rfl ?_))
 refine o_alloc rfl Try.zeroValue77 ?_; intro b17 hb17
 refine o_storeA (i := 0) Try.sizeOf77 rfl rfl rfl (List.forall_mem_cons.2 ⟨rfl, (List.forall_mem_cons.2 ⟨hp16.1, (fun _ h => absurd h List.not_mem_nil)⟩)⟩) rfl (Nat.le_of_ble_eq_true rfl) ?_
 refine shO_L (L' := (b17, .cells #[.slice a9 n13 c10, v15] 77 (0, 0)) :: ((b2, .cells #[.int .i64 wind, .int .i64 voice] 31 (0, 0)) :: ((b1, .cells #[.int .i64 wide, .slice plots_a plots.length plots_c] 27 (0, 0)) :: (Lb11 ++ [])))) rfl ?_
 refine oa rfl rfl (shO_nil (shW_seq ?_))
 refine shW_block ?_
 refine wsr (om rfl rfl ?_)
 refine ov (v_neq rfl rfl) rfl ?_
 refine oa rfl rfl (shO_nil ?_)
 refine shW_condP rfl (fun c18 => ?_) (fun c18 => ?_)
 · have r19 := ite_t r4 c18; clear r4
   refine wsr (om rfl rfl (oa rfl rfl (oa rfl rfl (oa rfl rfl (shO_nil ?_)))))
   refine kW kn ?_
   refine shW_ret (inBlock_ret (andThen_ret ?_))
   refine q_res3 Try.results24 (res_tmp rfl) (res_tmp rfl) (res_tmp rfl) (sr) ?_
   obtain ⟨rfl, rfl, rfl⟩ := inj3 r19
   exact ⟨_, _, _, [], rfl, rfl, SlR.nil _ _ _ _ _⟩
 have r20 := ite_f r4 c18; clear r4
 refine wsr (om rfl rfl ?_)
 obtain ⟨ok, h21, r22⟩ := b1_ok r20; clear r20
 refine o_callV rfl Try.call56 rfl rfl rfl (hear_in_w h21) ?_
 refine ov (v_notB rfl) rfl ?_
 refine oa rfl rfl (shO_nil ?_)
 refine shW_cond rfl (fun c23 => ?_) (fun c23 => ?_)
 · have r24 := bt r22 c23; clear r22
   refine wsr (oa rfl rfl (oa rfl rfl (oa rfl rfl (shO_nil ?_))))
   refine kW kn ?_
   refine shW_ret (inBlock_ret (andThen_ret ?_))
   refine q_res3 Try.results24 (res_tmp rfl) (res_tmp rfl) (res_tmp rfl) (sr) ?_
   obtain ⟨rfl, rfl, rfl⟩ := inj3 r24
   exact ⟨_, _, _, [], rfl, rfl, SlR.nil _ _ _ _ _⟩
 have r25 := bf r22 c23; clear r22
 refine shW_skip (inBlock_n (id := 0) (wsr ?_))
 refine ov (v_loadA (cs := #[.slice a9 n13 c10, v15]) Try.isAgg77 Try.sizeOf77 rfl (Has.own 0 rfl) (Nat.le_of_ble_eq_true rfl) rfl) rfl ?_
 refine om rfl rfl ?_
 obtain ⟨g26, r27⟩ := gd_ok r25; clear r25
 obtain rfl := hp16.2 g26
 have hn28 : FnR Try.prog F5 77 #[] #[] (iE .i64) (Value.int .i64) (fun xx_ : Int => hear_ones xx_) := ⟨Try.call77, fun F2 h2 vs xx_ r ha hr => by obtain rfl := ha; exact hear_ones_w hr⟩
 obtain ⟨l2, n2, h29, r30⟩ := b2_ok r27; clear r27
 refine o_callTO (Lb := []) (Lt := Lb11 ++ []) (Lr := [(b17, .cells (#[.slice a9 n13 c10, .func (.func 77) #[] #[]]) 77 (0, 0)), (b2, .cells #[.int .i64 wind, .int .i64 voice] 31 (0, 0)), (b1, .cells #[.int .i64 wide, .slice plots_a plots.length plots_c] 27 (0, 0))]) rfl Try.call48 rfl rfl rfl (pT ((fC (fC (fC fP))).trans (pA pR)) (ln (lp (ln rfl)))) (fun F2 h2 h3 => by rw [(SlR.caps hz12).1]; exact hear_quarter_chosen_w (hz12.row (arE_ok (n := 30) (sz := 1) cB_ok) h2 (fun p hp => h3 p (List.mem_append_left _ hp))) (hn28.mono h2) h29) (fun _ _ _ _ hq => by obtain ⟨a35, n39, c36, Lb37, rfl, rfl, hz38⟩ := hq; exact ⟨_, _, _, _, rfl, rfl, hz38.flat (fun _ _ h => h)⟩) ?_; rintro _ F31 _ hF32 hd34 hn33 ⟨a35, n39, c36, Lb37, rfl, rfl, hz38⟩
 have hn41 := newp (Lb' := []) (by rfl) hd34 hn33
 replace hz38 := hz38.new fun p hp => hn41 p (by simp [hp])
 refine shO_L (lp (ln (lp (ln rfl)))) ?_
 refine kO (kf (fS (fS fO)) (kf (fS (fS fO)) (kf (fS (fS fO)) kr))) ?_
 refine om rfl rfl (ox rfl rfl rfl (ox rfl rfl rfl (oa rfl rfl (oa rfl rfl (nsr (om rfl rfl (om rfl rfl (oa rfl rfl (oa rfl rfl ?_)))))))))
 refine oa rfl rfl (shO_nil ?_)
 refine kW (kd (kd (kd (ka kn)))) ?_
 refine shW_ret ?_
 refine q_res3 Try.results24 (res_tmp rfl) (res_tmp rfl) (res_tmp rfl) (sr) ?_
 obtain ⟨rfl, rfl, rfl⟩ := inj3 r30
 exact ⟨_, _, _, _, rfl, rfl, hz38.any⟩
set_option maxHeartbeats 1000000 in
theorem oyezlaw01_served_w {wide : Int} {plots_a : Option Addr} {plots_c : Nat} {plots : List Int} {wind : Int} {voice : Int} {houses_a : Option Addr} {houses_c : Nat} {houses : List Int} {stands_a : Option Addr} {stands_c : Nat} {stands : List Int} {F : FS} (h_plots : RowR 1 (iE .i64) F plots_a plots_c plots) (h_houses : RowR 1 (iE .i64) F houses_a houses_c houses) (h_stands : RowR 1 (iE .i64) F stands_a stands_c stands) {r : Int} {r2 : Bool} (hr : oyezlaw01_served wide plots wind voice houses stands = some (r, r2)) :
    SpecV Try.prog 25 #[.agg #[.int .i64 wide, .slice plots_a plots.length plots_c], .agg #[.int .i64 wind, .int .i64 voice], .slice houses_a houses.length houses_c, .slice stands_a stands.length stands_c] F (.tuple #[.int .i64 r, .bool r2]) := by
 refine spec_of_shW (args := [.agg #[.int .i64 wide, .slice plots_a plots.length plots_c], .agg #[.int .i64 wind, .int .i64 voice], .slice houses_a houses.length houses_c, .slice stands_a stands.length stands_c]) Try.func25 rfl Try.ntmps25 (Nat.le_of_ble_eq_true rfl) ?_
 intro K _ _; rw [oyezlaw01_served] at hr
 refine wsr ?_
 refine o_box rfl rfl ?_; intro b1 hb1
 refine o_box rfl rfl ?_; intro b2 hb2
 refine oa rfl rfl (oa rfl rfl (nsr ?_))
 refine o_makeMap rfl ?_; intro b3 hb3
 refine oa rfl rfl (shO_nil ?_)
 refine shW_join (fun e1 F1 L1 => ∃ (heard : List (Int × Bool)) (es4 : Array MapEntry) (cl5 : Nat), oyezlaw01_served_j1 houses heard = some (r, r2) ∧ FExt F F1 ∧ L1 = [(b3, .map es4 cl5)] ∧ e1.sub [(2, .slice houses_a houses.length houses_c), (10, .map (some b3))] ∧ MapR (Value.int .i64) Value.bool es4 heard) ?_ ?_
 · refine wsr (om rfl rfl ?_)
   refine ov (v_lenS Try.underlying36 rfl) rfl ?_
   refine om rfl rfl (shO_nil ?_)
   refine shW_block ?_
   refine shW_lp (fun fu2 e1 F1 L1 => ∃ (tl : List Int) (k : Int), tl.length = fu2 ∧ Lst stands k tl ∧ ∃ (heard2 : List (Int × Bool)) (es7 : Array MapEntry) (cl8 : Nat), oyezlaw01_served_l2 wide plots wind voice houses tl heard2 = some (r, r2) ∧ FExt F F1 ∧ L1 = [(b3, .map es7 cl8), (b2, .cells #[.int .i64 wind, .int .i64 voice] 31 (0, 0)), (b1, .cells #[.int .i64 wide, .slice plots_a plots.length plots_c] 27 (0, 0))] ∧ e1.sub [(2, .slice houses_a houses.length houses_c), (4, .pointer (some ⟨b1, 0, none⟩)), (5, .pointer (some ⟨b2, 0, none⟩)), (10, .map (some b3)), (21, .slice stands_a stands.length stands_c), (22, .int .i64 (stands.length : Int)), (23, .int .i64 k)] ∧ MapR (Value.int .i64) Value.bool es7 heard2) _ (m0 kr ⟨_, _, rfl, Lst.start _, [], #[], 0, hr, FExt.refl _, rfl, (sc rfl (sc rfl (sc rfl (sc rfl (sc rfl (sc rfl (sc rfl (sn _)))))))), MapR.nil⟩) ?_
   rintro fu2 e1 F14 _ ⟨tl, k, hn11, hk10, heard2, es7, cl8, r12, hF15, rfl, he13, hR9⟩
   refine shW_env _ he13 ?_; clear he13
   replace h_plots := h_plots.mono (iE_ok _) hF15
   replace h_stands := h_stands.mono (iE_ok _) hF15
   refine wsr ?_
   refine ov (v_lssK rfl rfl) rfl ?_
   refine shO_nil (shW_seq ?_)
   refine shW_condP rfl (fun c17 => ?_) (fun c17 => ?_)
   · obtain ⟨x, tl2, rfl, hx19, g20, hk18⟩ := Lst.succ hk10 c17
     rw [oyezlaw01_served_l2] at r12
     refine shW_skip ?_
     refine shW_join (fun e1 F1 L1 => ∃ (heard3 : List (Int × Bool)) (es21 : Array MapEntry) (cl22 : Nat), oyezlaw01_served_j3 (oyezlaw01_served_l2 wide plots wind voice houses tl2) heard3 = some (r, r2) ∧ FExt F14 F1 ∧ L1 = [(b3, .map es21 cl22), (b2, .cells #[.int .i64 wind, .int .i64 voice] 31 (0, 0)), (b1, .cells #[.int .i64 wide, .slice plots_a plots.length plots_c] 27 (0, 0))] ∧ e1.sub [(2, .slice houses_a houses.length houses_c), (4, .pointer (some ⟨b1, 0, none⟩)), (5, .pointer (some ⟨b2, 0, none⟩)), (10, .map (some b3)), (21, .slice stands_a stands.length stands_c), (22, .int .i64 (stands.length : Int)), (23, .int .i64 k)] ∧ MapR (Value.int .i64) Value.bool es21 heard3) ?_ ?_
     · refine shW_block ?_
       refine wsr ?_
       obtain ⟨b24, o25, c26, vs27, ha28, hs29, hle30, rfl, hl31, hc32⟩ := RowR.at (iE_ok _) h_stands ([(b3, .map es7 cl8), (b2, .cells #[.int .i64 wind, .int .i64 voice] 31 (0, 0)), (b1, .cells #[.int .i64 wide, .slice plots_a plots.length plots_c] 27 (0, 0))]) g20.1 hx19
       refine ov (v_indexO Try.underlying36 Try.sizeOf3 rfl ha28 rfl g20) rfl ?_
       refine ov (v_load Try.isAgg3 rfl hs29 (hc32 0 (by decide))) rfl ?_
       refine oa rfl rfl (nsr ?_)
       refine ov (v_loadA (cs := #[.int .i64 wide, .slice plots_a plots.length plots_c]) Try.isAgg27 Try.sizeOf27 rfl (Has.own 2 rfl) (Nat.le_of_ble_eq_true rfl) rfl) rfl ?_
       refine ov (v_loadA (cs := #[.int .i64 wind, .int .i64 voice]) Try.isAgg31 Try.sizeOf31 rfl (Has.own 1 rfl) (Nat.le_of_ble_eq_true rfl) rfl) rfl ?_
       refine om rfl rfl ?_
       obtain ⟨l, n, h33, r34⟩ := b2_ok r12; clear r12
       refine o_call0 rfl Try.call19 rfl rfl rfl (hear_Houses_w h_plots h33) ?_; rintro _ F35 _ hF36 hn37 ⟨a39, n43, c40, Lb41, rfl, rfl, hz42⟩
       replace hz42 := hz42.new fun p hp => hn37 p (by simp [hp])
       refine shO_L (lp (ln rfl)) ?_
       refine kO (kf (fS fO) (kf (fS fO) (kf (fS fO) kr))) ?_
       refine om rfl rfl (ox rfl rfl rfl (ox rfl rfl rfl (oa rfl rfl (oa rfl rfl (shO_nil (shW_seq (wsr (om rfl rfl ?_))))))))
       refine ov (v_neq rfl rfl) rfl ?_
       refine shO_nil ?_
       refine shW_condP rfl (fun c45 => ?_) (fun c45 => ?_)
       · have r46 := ite_t r34 c45; clear r34
         refine wsr (oa rfl rfl (oa rfl rfl (shO_nil ?_)))
         refine kW kn ?_
         refine shW_ret (andThen_ret (inBlock_ret (andThen_ret (andThen_ret (inBlock_ret (andThen_ret ?_))))))
         refine q_res2 Try.results25 (res_tmp rfl) (res_tmp rfl) (sr) ?_
         obtain ⟨rfl, rfl⟩ := inj2 r46
         exact rfl
       have r47 := ite_f r34 c45; clear r34
       refine shW_skip (wsr (om rfl rfl ?_))
       refine ov ((v_lenS Try.underlying36 rfl).i (SlR.lenI hz42)) rfl ?_
       refine om rfl rfl (shO_nil ?_)
       refine shW_block ?_
       refine shW_lp (fun fu4 e1 F1 L1 => ∃ (tl3 : List Int) (k2 : Int), tl3.length = fu4 ∧ Lst l k2 tl3 ∧ ∃ (heard4 : List (Int × Bool)) (es48 : Array MapEntry) (cl49 : Nat), oyezlaw01_served_l4 (oyezlaw01_served_l2 wide plots wind voice houses tl2) tl3 heard4 = some (r, r2) ∧ F35 = F1 ∧ L1 = ((b3, .map es48 cl49) :: ((b2, .cells #[.int .i64 wind, .int .i64 voice] 31 (0, 0)) :: ((b1, .cells #[.int .i64 wide, .slice plots_a plots.length plots_c] 27 (0, 0)) :: (Lb41 ++ [])))) ∧ e1.sub [(2, .slice houses_a houses.length houses_c), (4, .pointer (some ⟨b1, 0, none⟩)), (5, .pointer (some ⟨b2, 0, none⟩)), (10, .map (some b3)), (21, .slice stands_a stands.length stands_c), (22, .int .i64 (stands.length : Int)), (23, .int .i64 k), (36, .slice a39 n43 c40), (37, .int .i64 (l.length : Int)), (38, .int .i64 k2)] ∧ MapR (Value.int .i64) Value.bool es48 heard4) _ (m0 kr ⟨_, _, rfl, Lst.start _, heard2, es7, cl8, r47, rfl, rfl, (sc rfl (sc rfl (sc rfl (sc rfl (sc rfl (sc rfl (sc rfl (sc rfl (sc rfl (sc rfl (sn _))))))))))), hR9⟩) ?_
       rintro fu4 e1 _ _ ⟨tl3, k2, hn52, hk51, heard4, es48, cl49, r53, rfl, rfl, he54, hR50⟩
       refine shW_env _ he54 ?_; clear he54
       refine wsr ?_
       refine ov (v_lssK rfl rfl) rfl ?_
       refine shO_nil (shW_seq ?_)
       refine shW_condP rfl (fun c56 => ?_) (fun c56 => ?_)
       · obtain ⟨x2, tl4, rfl, hx58, g59, hk57⟩ := Lst.succ hk51 c56
         rw [oyezlaw01_served_l4] at r53
         refine shW_skip (shW_seq ?_)
         refine shW_block ?_
         refine wsr ?_
         obtain ⟨b60, o61, c62, vs63, ha64, hs65, hle66, rfl, hl67, hc68⟩ := SlR.at (iE_ok _) hz42 (L := (b3, .map es48 cl49) :: ((b2, .cells #[.int .i64 wind, .int .i64 voice] 31 (0, 0)) :: ((b1, .cells #[.int .i64 wide, .slice plots_a plots.length plots_c] 27 (0, 0)) :: (Lb41 ++ [])))) (fC (fC (fC fP))) g59.1 hx58
         refine ov (v_indexO Try.underlying36 Try.sizeOf3 rfl ha64 rfl (SlR.idx hz42 g59)) rfl ?_
         refine ov (v_load Try.isAgg3 rfl hs65 (hc68 0 (by decide))) rfl ?_
         refine oa rfl rfl (shO_nil (shW_region (om rfl rfl (om rfl rfl ?_))))
         refine o_mapUpdate (i := 0) (k := x2) (v := true) Try.underlying102 (keyOK_int Try.underlying3) rfl rfl rfl rfl (show MapR (Value.int .i64) Value.bool es48 (heard4 : List (Int × Bool)) from hR50) ?_; intro es69 cl70 hR71
         obtain ⟨heard5, h72, r73⟩ := bv_ok r53; clear r53
         rw [← h72] at hR71
         refine shO_L (L' := (b3, .map es69 cl70) :: ((b2, .cells #[.int .i64 wind, .int .i64 voice] 31 (0, 0)) :: ((b1, .cells #[.int .i64 wide, .slice plots_a plots.length plots_c] 27 (0, 0)) :: (Lb41 ++ [])))) rfl ?_
         refine shO_nil (inBlock_n (id := 3) (shW_region ?_))
         refine ov (v_add rfl rfl (Lst.r64 hk51 c56 (SlR.llt hz42))) rfl ?_
         refine om rfl rfl (shO_nil ?_)
         subst hn52; exact le kr ⟨_, _, rfl, hk57, heard5, es69, cl70, r73, rfl, rfl, (sc rfl (sc rfl (sc rfl (sc rfl (sc rfl (sc rfl (sc rfl (sc rfl (sc rfl (sc rfl (sn _))))))))))), hR71⟩
       obtain rfl := Lst.zero hk51 c56
       rw [oyezlaw01_served_l4] at r53
       refine shW_exit (andThen_exit (andThen_exit ?_))
       refine inBlock_exit ?_
       refine inBlock_n (id := 1) ?_
       exact mi (kc (kc (kc kn))) ⟨heard4, es48, cl49, r53, hF36, rfl, (sc rfl (sc rfl (sc rfl (sc rfl (sc rfl (sc rfl (sc rfl (sn _)))))))), hR50⟩
     rintro e1 F76 _ ⟨heard3, es21, cl22, r74, hF77, rfl, he75, hR23⟩
     refine shW_env _ he75 ?_; clear he75
     replace h_stands := h_stands.mono (iE_ok _) hF77
     rw [oyezlaw01_served_j3] at r74
     refine shW_region ?_
     refine ov (v_add rfl rfl (Lst.r64 hk10 c17 (RowR.lt h_stands))) rfl ?_
     refine om rfl rfl (shO_nil ?_)
     subst hn11; exact le kr ⟨_, _, rfl, hk18, heard3, es21, cl22, r74, (hF15.trans hF77), rfl, (sc rfl (sc rfl (sc rfl (sc rfl (sc rfl (sc rfl (sc rfl (sn _)))))))), hR23⟩
   obtain rfl := Lst.zero hk10 c17
   rw [oyezlaw01_served_l2] at r12
   refine shW_exit (andThen_exit (andThen_exit ?_))
   refine inBlock_exit ?_
   exact mi (kc kn) ⟨heard2, es7, cl8, r12, hF15, rfl, (sc rfl (sc rfl (sn _))), hR9⟩
 rintro e1 F80 _ ⟨heard, es4, cl5, r78, hF81, rfl, he79, hR6⟩
 refine shW_env _ he79 ?_; clear he79
 replace h_houses := h_houses.mono (iE_ok _) hF81
 rw [oyezlaw01_served_j1] at r78
 refine wsr (oa rfl rfl (shO_nil ?_))
 obtain ⟨n2, h82, r83⟩ := b1_ok r78; clear r78
 refine shW_join (fun e1 F1 L1 => F80 = F1 ∧ L1 = [] ∧ e1.sub [(17, .int .i64 n2)]) ?_ ?_
 · clear r83
   refine wsr (om rfl rfl ?_)
   refine ov (v_lenS Try.underlying36 rfl) rfl ?_
   refine om rfl rfl (shO_nil ?_)
   refine shW_block ?_
   refine shW_lp (fun fu5 e1 F1 L1 => ∃ (tl5 : List Int) (k3 : Int), tl5.length = fu5 ∧ Lst houses k3 tl5 ∧ ∃ (n3 : Int), oyezlaw01_served_l5 heard tl5 n3 = some n2 ∧ F80 = F1 ∧ L1 = [(b3, .map es4 cl5)] ∧ e1.sub [(10, .map (some b3)), (17, .int .i64 n3), (46, .slice houses_a houses.length houses_c), (47, .int .i64 (houses.length : Int)), (48, .int .i64 k3)]) _ (m0 kr ⟨_, _, rfl, Lst.start _, 0, h82, rfl, rfl, (sc rfl (sc rfl (sc rfl (sc rfl (sc rfl (sn _))))))⟩) ?_
   rintro fu5 e1 _ _ ⟨tl5, k3, hn85, hk84, n3, r86, rfl, rfl, he87⟩
   refine shW_env _ he87 ?_; clear he87
   refine wsr ?_
   refine ov (v_lssK rfl rfl) rfl ?_
   refine shO_nil (shW_seq ?_)
   refine shW_condP rfl (fun c89 => ?_) (fun c89 => ?_)
   · obtain ⟨x3, tl6, rfl, hx91, g92, hk90⟩ := Lst.succ hk84 c89
     rw [oyezlaw01_served_l5] at r86
     refine shW_skip (shW_seq ?_)
     refine shW_block ?_
     refine wsr ?_
     obtain ⟨b93, o94, c95, vs96, ha97, hs98, hle99, rfl, hl100, hc101⟩ := RowR.at (iE_ok _) h_houses ([(b3, .map es4 cl5)]) g92.1 hx91
     refine ov (v_indexO Try.underlying36 Try.sizeOf3 rfl ha97 rfl g92) rfl ?_
     refine ov (v_load Try.isAgg3 rfl hs98 (hc101 0 (by decide))) rfl ?_
     refine oa rfl rfl (nsr (om rfl rfl (om rfl rfl ?_)))
     refine ov (OpV.eq (v' := .bool ((mget heard x3).getD false)) (v_lookS1 (k := x3) (z0 := false) rfl Try.underlying102 (keyOK_int Try.underlying3) Try.zeroValue4 rfl rfl (HasM.own 0 rfl) (show MapR (Value.int .i64) Value.bool es4 (heard : List (Int × Bool)) from hR6)) rfl) rfl ?_
     refine shO_nil ?_
     refine shW_cond rfl (fun c102 => ?_) (fun c102 => ?_)
     · have r103 := bt r86 c102; clear r86
       refine shW_region (om rfl rfl ?_)
       obtain ⟨g104, r105⟩ := gd_ok r103; clear r103
       refine ov (v_add rfl rfl g104) rfl ?_
       refine oa rfl rfl (shO_nil (inBlock_n (id := 5) (shW_region ?_)))
       refine ov (v_add rfl rfl (Lst.r64 hk84 c89 (RowR.lt h_houses))) rfl ?_
       refine om rfl rfl (shO_nil ?_)
       subst hn85; exact le kr ⟨_, _, rfl, hk90, n3 + 1, r105, rfl, rfl, (sc rfl (sc rfl (sc rfl (sc rfl (sc rfl (sn _))))))⟩
     have r106 := bf r86 c102; clear r86
     refine shW_skip (inBlock_n (id := 5) (shW_region ?_))
     refine ov (v_add rfl rfl (Lst.r64 hk84 c89 (RowR.lt h_houses))) rfl ?_
     refine om rfl rfl (shO_nil ?_)
     subst hn85; exact le kr ⟨_, _, rfl, hk90, n3, r106, rfl, rfl, (sc rfl (sc rfl (sc rfl (sc rfl (sc rfl (sn _))))))⟩
   obtain rfl := Lst.zero hk84 c89
   rw [oyezlaw01_served_l5] at r86
   refine shW_exit (andThen_exit (andThen_exit ?_))
   refine inBlock_exit ?_
   obtain rfl := inj1 r86
   exact mi kn ⟨rfl, rfl, (sc rfl (sn _))⟩
 rintro e1 _ _ ⟨rfl, rfl, he107⟩
 refine shW_env _ he107 ?_; clear he107
 refine wsr (om rfl rfl (oa rfl rfl (oa rfl rfl (shO_nil (shW_ret ?_)))))
 refine q_res2 Try.results25 (res_tmp rfl) (res_tmp rfl) (sr) ?_
 obtain ⟨rfl, rfl⟩ := inj2 r83
 exact rfl
set_option maxHeartbeats 1000000 in
theorem slices_IsSorted_int_int_w {x_a : Option Addr} {x_c : Nat} {x : List Int} {F : FS} (h_x : RowR 1 (iE .i64) F x_a x_c x) {r : Bool} (hr : slices_IsSorted_int_int x = some r) :
    SpecV Try.prog 26 #[.slice x_a x.length x_c] F (.bool r) := by
 refine spec_of_shW (args := [.slice x_a x.length x_c]) Try.func26 rfl Try.ntmps26 (Nat.le_of_ble_eq_true rfl) ?_
 intro K _ _; rw [slices_IsSorted_int_int] at hr
 refine wsr (oa rfl rfl (shO_nil ?_))
 refine shW_join (fun e1 F1 L1 => slices_IsSorted_int_int_j1 = some r ∧ F = F1 ∧ L1 = [] ∧ e1.sub []) ?_ ?_
 · refine wsr (om rfl rfl ?_)
   refine ov (v_lenS Try.underlying36 rfl) rfl ?_
   obtain ⟨g1, r2⟩ := gd_ok hr; clear hr
   refine ov (v_sub rfl rfl g1) rfl ?_
   refine oa rfl rfl (shO_nil ?_)
   refine shW_block ?_
   refine shW_lp (fun fu2 e1 F1 L1 => ∃ (i : Int), slices_IsSorted_int_int_l2 x fu2 i = some r ∧ F = F1 ∧ L1 = [] ∧ e1.sub [(0, .slice x_a x.length x_c), (3, .int .i64 i)]) FU (m0 kr ⟨(x.length : Int) - 1, r2, rfl, rfl, (sc rfl (sc rfl (sn _)))⟩) ?_
   rintro fu2 e1 _ _ ⟨i, r5, rfl, rfl, he6⟩
   refine shW_env _ he6 ?_; clear he6
   rcases fu2 with _ | fu2
   · rw [slices_IsSorted_int_int_l2] at r5; cases r5
   rw [slices_IsSorted_int_int_l2] at r5
   refine shW_seq (wsr (om rfl rfl ?_))
   refine ov (v_gtrK rfl rfl) rfl ?_
   refine shO_nil ?_
   refine shW_condP rfl (fun c7 => ?_) (fun c7 => ?_)
   · have r8 := ite_t r5 c7; clear r5
     refine shW_skip (shW_seq ?_)
     refine shW_block ?_
     refine wsd (by kernel_rfl) (by kernel_rfl) (by kernel_rfl) ?_
     refine qm rfl rfl (qm rfl rfl ?_)
     obtain ⟨x2, g9, hx10, r11⟩ := ix_ok r8; clear r8
     obtain ⟨b12, o13, c14, vs15, ha16, hs17, hle18, rfl, hl19, hc20⟩ := RowR.at (iE_ok _) h_x ([]) g9.1 hx10
     refine qv (v_indexO Try.underlying36 Try.sizeOf3 rfl ha16 rfl g9) rfl ?_
     refine qv (v_load Try.isAgg3 rfl hs17 (hc20 0 (by decide))) rfl ?_
     refine qm rfl rfl (qm rfl rfl ?_)
     obtain ⟨g21, r22⟩ := gd_ok r11; clear r11
     refine qv (v_sub rfl rfl g21) rfl ?_
     obtain ⟨x3, g23, hx24, r25⟩ := ix_ok r22; clear r22
     obtain ⟨b26, o27, c28, vs29, ha30, hs31, hle32, rfl, hl33, hc34⟩ := RowR.at (iE_ok _) h_x ([]) g23.1 hx24
     refine qv (v_indexO Try.underlying36 Try.sizeOf3 rfl ha30 rfl g23) rfl ?_
     refine qv (v_load Try.isAgg3 rfl hs31 (hc34 0 (by decide))) rfl ?_
     obtain ⟨ok, h35, r36⟩ := b1_ok r25; clear r25
     refine shQ_callV rfl Try.call66 rfl rfl rfl (cmp_Less_int_w h35) ?_
     refine shQ_nil ?_
     refine shW_cond rfl (fun c37 => ?_) (fun c37 => ?_)
     · have r38 := bt r36 c37; clear r36
       refine wsr (oa rfl rfl (shO_nil (shW_ret (inBlock_ret (andThen_ret (andThen_ret (inBlock_ret (andThen_ret ?_))))))))
       refine q_res1 Try.results26 (res_tmp rfl) (sr) ?_
       obtain rfl := inj1 r38
       exact rfl
     have r39 := bf r36 c37; clear r36
     refine shW_skip (inBlock_n (id := 1) (shW_region (om rfl rfl ?_)))
     obtain ⟨g40, r41⟩ := gd_ok r39; clear r39
     refine ov (v_sub rfl rfl g40) rfl ?_
     refine oa rfl rfl (shO_nil ?_)
     exact le kr ⟨i - 1, r41, rfl, rfl, (sc rfl (sc rfl (sn _)))⟩
   have r42 := ite_f r5 c7; clear r5
   refine shW_exit (andThen_exit (andThen_exit ?_))
   refine inBlock_exit ?_
   exact mi kr ⟨r42, rfl, rfl, (sn _)⟩
 rintro e1 _ _ ⟨r43, rfl, rfl, he44⟩
 refine shW_env _ he44 ?_; clear he44
 rw [slices_IsSorted_int_int_j1] at r43
 refine wsr (oa rfl rfl (shO_nil (shW_ret ?_)))
 refine q_res1 Try.results26 (res_tmp rfl) (sr) ?_
 obtain rfl := inj1 r43
 exact rfl
set_option maxHeartbeats 1000000 in
theorem oyezkit_Bell_Rung_w {b_b : Nat} {metal_a : Option Addr} {metal_c : Nat} {metal : List Int} {at_ : Int} {turn : Int} {n : Int} {F : FS} (h_metal : RowR 1 (iE .u8) F metal_a metal_c metal) {r : List Int} {r2 : Int} {r3 : Int} (hr : oyezkit_Bell_Rung metal at_ turn n = some (r, r2, r3)) :
    SH.Spec Try.prog 36 #[.pointer (some ⟨b_b, 0, none⟩), .int .i64 n] F [(b_b, .cells #[.slice metal_a metal.length metal_c, .int .i64 at_, .int .u32 turn] 69 (0, 0))] fun F' L' v => ∃ (ra : Option Addr) (rn : Nat) (rc : Nat) (rL : LH), v = .slice ra rn rc ∧ L' = (b_b, .cells #[.slice metal_a metal.length metal_c, .int .i64 r2, .int .u32 r3] 69 (0, 0)) :: (rL ++ []) ∧ SlR 0 3 1 (iE .i64) F' ra rn rc r rL := by
 refine spec_of_shW (args := [.pointer (some ⟨b_b, 0, none⟩), .int .i64 n]) Try.func36 rfl Try.ntmps36 (Nat.le_of_ble_eq_true rfl) ?_
 intro K _ _; rw [oyezkit_Bell_Rung] at hr
 refine wsr (oa rfl rfl (nsr (oa rfl rfl (shO_nil ?_))))
 obtain ⟨out, b_at, b_turn, h7, r8⟩ := b3_ok hr; clear hr
 refine shW_join (fun e1 F1 L1 => ∃ (a1 : Option Addr) (n5 : Nat) (c2 : Nat) (Lb3 : LH), FExt F F1 ∧ L1 = ((b_b, .cells #[.slice metal_a metal.length metal_c, .int .i64 b_at, .int .u32 b_turn] 69 (0, 0)) :: (Lb3 ++ [])) ∧ e1.sub [(5, .slice a1 n5 c2)] ∧ SlR K.w0.heap.size 3 1 (iE .i64) F1 a1 n5 c2 out Lb3) ?_ ?_
 · clear r8
   refine wsr (om rfl rfl ?_)
   refine ov (v_max2 rfl rfl) rfl ?_
   refine om rfl rfl (shO_nil ?_)
   refine shW_block ?_
   obtain ⟨g15, r16⟩ := gd_ok h7; clear h7
   refine shW_lp (fun fu1 e1 F1 L1 => ∃ (k : Int), Ctr 0 (if n > 0 then n else 0) k fu1 ∧ ∃ (b_at2 : Int) (b_turn2 : Int) (out2 : List Int) (a9 : Option Addr) (n13 : Nat) (c10 : Nat) (Lb11 : LH), oyezkit_Bell_Rung_l1 metal fu1 k b_at2 b_turn2 out2 = some (out, b_at, b_turn) ∧ FExt F F1 ∧ L1 = ((b_b, .cells #[.slice metal_a metal.length metal_c, .int .i64 b_at2, .int .u32 b_turn2] 69 (0, 0)) :: (Lb11 ++ [])) ∧ e1.sub [(0, .pointer (some ⟨b_b, 0, none⟩)), (5, .slice a9 n13 c10), (9, .int .i64 (if n > 0 then n else 0)), (10, .int .i64 k)] ∧ SlR K.w0.heap.size 3 1 (iE .i64) F1 a9 n13 c10 out2 Lb11) _ (m0 (kc (ke kr)) ⟨_, Ctr.start _ _, at_, turn, [], none, 0, 0, [], r16, FExt.refl _, rfl, (sc rfl (sc rfl (sc rfl (sc rfl (sn _))))), SlR.nil _ _ _ _ _⟩) ?_
   rintro fu1 e1 F21 _ ⟨k, hk17, b_at2, b_turn2, out2, a9, n13, c10, Lb11, r19, hF22, rfl, he20, hz12⟩
   refine shW_env _ he20 ?_; clear he20
   replace h_metal := h_metal.mono (iE_ok _) hF22
   refine wsr ?_
   refine ov (v_lssK rfl rfl) rfl ?_
   refine shO_nil (shW_seq ?_)
   refine shW_condP rfl (fun c24 => ?_) (fun c24 => ?_)
   · obtain ⟨fu1, rfl, hk25⟩ := Ctr.succ hk17 c24
     rw [oyezkit_Bell_Rung_l1] at r19
     refine shW_skip (shW_seq ?_)
     refine shW_block ?_
     refine wsr (om rfl rfl (oa rfl rfl (nsr (om rfl rfl (om rfl rfl ?_)))))
     obtain ⟨n2, at_2, turn2, h26, r27⟩ := b3_ok r19; clear r19
     refine o_callG (Lb := [(b_b, .cells #[.slice metal_a metal.length metal_c, .int .i64 b_at2, .int .u32 b_turn2] 69 (0, 0))]) (Lr := Lb11 ++ []) rfl Try.call23 rfl rfl rfl (pR) (oyezkit_Bell_Stroke_w h_metal h26) ?_; rintro _ F28 _ hF29 hd31 hn30 ⟨rfl, rfl⟩
     replace hz12 := hz12.mono (iE_ok _) hF29
     refine shO_L (lb (ln rfl)) ?_
     refine oa rfl rfl (nsr (om rfl rfl (om rfl rfl ?_)))
     refine o_buildSlice (cs := #[.int .i64 k]) rfl rfl (buildSlice_all slt_36 [.int .i64 k] rfl (by decide) (by simp [Value.cells]) (by decide)) ?_; intro b32 hb32
     obtain ⟨out3, h33, g34, r35⟩ := ap_ok r27; clear r27
     refine o_appZ (xs := out2) (ys := [k]) (zs := out3) rfl slt_36 rfl rfl (Nat.le_refl _) (fun _ => .c (.c .h)) hz12 (SrcR.box (vss := [[.int .i64 k]]) (ys := [k]) 0 rfl (iE_ok _) (.cons rfl .nil) rfl rfl) h33 g34 (by decide) ?_; intro a36 n40 c37 Lb38 hz39
     refine kO (kd kr) ?_
     refine oa rfl rfl (shO_nil ?_)
     refine shW_drawM [(.still, 0), (.still, 1), (.still, 2), (.still, 3), (.still, 4), (.still, 5), (.still, 6), (.still, 7), (.still, 8), (.still, 9), (.still, 10), (.still, 11), (.still, 12), (.seq, 13), (.still, 14), (.seq, 15)] (by kernel_rfl) (by kernel_rfl) (trivial) (by rfl) (by kernel_rfl) ?_
     refine shM_v (v := .slice a36 n40 c37) (ek := [(5, .slice a36 n40 c37)]) (Ls := []) rfl rfl rfl rfl ((sc rfl (sn _))) (by kernel_rfl) sm (fun H F' L' hF' hL' => v_move rfl) ?_
     refine shM_v (v := .int .i64 n2) (ek := [(7, .int .i64 n2)]) (Ls := []) rfl rfl rfl rfl ((sc rfl (sn _))) (by kernel_rfl) sm (fun H F' L' hF' hL' => v_move rfl) ?_
     refine shM_v (v := .slice a36 n40 c37) (ek := [(5, .slice a36 n40 c37)]) (Ls := []) rfl rfl rfl rfl ((sc rfl (sn _))) (by kernel_rfl) sm (fun H F' L' hF' hL' => v_move rfl) ?_
     refine shM_v (v := .int .i64 k) (ek := [(6, .int .i64 k)]) (Ls := []) rfl rfl rfl rfl ((sc rfl (sn _))) (by kernel_rfl) sm (fun H F' L' hF' hL' => v_move rfl) ?_
     refine shM_v (v := .slice a36 n40 c37) (ek := [(5, .slice a36 n40 c37)]) (Ls := []) rfl rfl rfl rfl ((sc rfl (sn _))) (by kernel_rfl) sm (fun H F' L' hF' hL' => v_move rfl) ?_
     refine shM_v (v := .int .i64 k) (ek := [(6, .int .i64 k)]) (Ls := []) rfl rfl rfl rfl ((sc rfl (sn _))) (by kernel_rfl) sm (fun H F' L' hF' hL' => v_move rfl) ?_
     obtain ⟨x, g42, hx43, r44⟩ := ix_ok r35; clear r35
     obtain ⟨b45, o46, c47, vs48, ha49, hs50, hle51, rfl, hl52, hc53⟩ := SlR.at (iE_ok _) hz39 (L := Lb38 ++ []) fP g42.1 hx43
     refine shM_v (v := .pointer (some ⟨b45, o46 + (k : Int).toNat * 1, none⟩)) (ek := [(24, .slice a36 n40 c37), (25, .int .i64 k)]) (Ls := []) rfl rfl rfl rfl ((sc rfl (sc rfl (sn _)))) (by kernel_rfl) sm (fun H F' L' hF' hL' => v_indexO Try.underlying36 Try.sizeOf3 rfl ha49 rfl (SlR.idx hz39 g42)) ?_
     refine shM_v (v := .int .i64 x) (ek := [(26, .pointer (some ⟨b45, o46 + (k : Int).toNat * 1, none⟩))]) (Ls := Lb38 ++ []) rfl rfl rfl rfl ((sc rfl (sn _))) (by kernel_rfl) (s0 (s1 (s4 sr))) (fun H F' L' hF' hL' => v_load Try.isAgg3 rfl (hs50.ext hF' hL') (hc53 0 (by decide))) ?_
     refine shM_v (v := .slice a36 n40 c37) (ek := [(5, .slice a36 n40 c37)]) (Ls := []) rfl rfl rfl rfl ((sc rfl (sn _))) (by kernel_rfl) sm (fun H F' L' hF' hL' => v_move rfl) ?_
     refine shM_v (v := .int .i64 n2) (ek := [(7, .int .i64 n2)]) (Ls := []) rfl rfl rfl rfl ((sc rfl (sn _))) (by kernel_rfl) sm (fun H F' L' hF' hL' => v_move rfl) ?_
     obtain ⟨x2, g54, hx55, r56⟩ := ix_ok r44; clear r44
     obtain ⟨b57, o58, c59, vs60, ha61, hs62, hle63, rfl, hl64, hc65⟩ := SlR.at (iE_ok _) hz39 (L := Lb38 ++ []) fP g54.1 hx55
     refine shM_v (v := .pointer (some ⟨b57, o58 + (n2 : Int).toNat * 1, none⟩)) (ek := [(28, .slice a36 n40 c37), (29, .int .i64 n2)]) (Ls := []) rfl rfl rfl rfl ((sc rfl (sc rfl (sn _)))) (by kernel_rfl) sm (fun H F' L' hF' hL' => v_indexO Try.underlying36 Try.sizeOf3 rfl ha61 rfl (SlR.idx hz39 g54)) ?_
     refine shM_v (v := .int .i64 x2) (ek := [(30, .pointer (some ⟨b57, o58 + (n2 : Int).toNat * 1, none⟩))]) (Ls := Lb38 ++ []) rfl rfl rfl rfl ((sc rfl (sn _))) (by kernel_rfl) (s0 (s1 (s4 sr))) (fun H F' L' hF' hL' => v_load Try.isAgg3 rfl (hs62.ext hF' hL') (hc65 0 (by decide))) ?_
     obtain ⟨b66, o67, c68, vs69, ha70, hs71, hle72, rfl, hl73, hc74⟩ := SlR.at (iE_ok _) hz39 (L := Lb38 ++ []) fP g54.1 hx55
     refine shM_v (v := .pointer (some ⟨b66, o67 + (n2 : Int).toNat * 1, none⟩)) (ek := [(20, .slice a36 n40 c37), (21, .int .i64 n2)]) (Ls := []) rfl rfl rfl rfl ((sc rfl (sc rfl (sn _)))) (by kernel_rfl) sm (fun H F' L' hF' hL' => v_indexO Try.underlying36 Try.sizeOf3 rfl ha70 rfl (SlR.idx hz39 g54)) ?_
     refine ⟨_, [(27, .int .i64 x), (32, .pointer (some ⟨b66, o67 + (n2 : Int).toNat * 1, none⟩))], rfl, rfl, (sc rfl (sc rfl (sn _))), by kernel_rfl, ?_⟩; intro H
     obtain ⟨l, h75, r76⟩ := bv_ok r56; clear r56
     refine o_storeZ (u := x) Try.sizeOf3 (iE_ok _) rfl ha70 rfl rfl (fun _ => .c .h) hz39 h75 g54 ?_; intro Lb77 hz78
     refine shO_nil ⟨undef, rfl, FExt.refl _, [3, 2], by kernel_rfl, .inl (.inr (fun d h => by cases h)), (List.forall_mem_cons.2 ⟨sm, (List.forall_mem_cons.2 ⟨sm, (fun _ h => absurd h List.not_mem_nil)⟩)⟩), ?_⟩
     obtain ⟨x3, g79, hx80, r81⟩ := ix_ok r76; clear r76
     obtain ⟨b82, o83, c84, vs85, ha86, hs87, hle88, rfl, hl89, hc90⟩ := SlR.at (iE_ok _) hz78 (L := Lb77 ++ []) fP g79.1 hx80
     refine shM_v (v := .pointer (some ⟨b82, o83 + (k : Int).toNat * 1, none⟩)) (ek := [(22, .slice a36 n40 c37), (23, .int .i64 k)]) (Ls := []) rfl rfl rfl rfl ((sc rfl (sc rfl (sn _)))) (by kernel_rfl) sm (fun H F' L' hF' hL' => v_indexO Try.underlying36 Try.sizeOf3 rfl ha86 rfl (SlR.idx hz78 g79)) ?_
     refine ⟨_, [(31, .int .i64 x2), (33, .pointer (some ⟨b82, o83 + (k : Int).toNat * 1, none⟩))], rfl, rfl, (sc rfl (sc rfl (sn _))), by kernel_rfl, ?_⟩; intro H
     obtain ⟨l2, h91, r92⟩ := bv_ok r81; clear r81
     refine o_storeZ (u := x2) Try.sizeOf3 (iE_ok _) rfl ha86 rfl rfl (fun _ => .c .h) hz78 h91 g79 ?_; intro Lb93 hz94
     refine shO_nil ⟨undef, rfl, FExt.refl _, [], by kernel_rfl, .inl (.inl rfl), (fun _ h => absurd h List.not_mem_nil), ?_⟩
     refine shM_nil ?_
     refine inBlock_n (id := 1) (shW_region ?_)
     refine ov (v_add rfl rfl (Ctr.r64 hk17 c24 g15)) rfl ?_
     refine om rfl rfl (shO_nil ?_)
     exact le kr ⟨_, hk25, at_2, turn2, l2, a36, n40, c37, Lb93, r92, (hF22.trans hF29), rfl, (sc rfl (sc rfl (sc rfl (sc rfl (sn _))))), hz94⟩
   obtain rfl := Ctr.zero hk17 c24
   rw [oyezkit_Bell_Rung_l1] at r19
   refine shW_exit (andThen_exit (andThen_exit ?_))
   refine inBlock_exit ?_
   obtain ⟨rfl, rfl, rfl⟩ := inj3 r19
   exact mi kr ⟨a9, n13, c10, Lb11, hF22, rfl, (sc rfl (sn _)), hz12⟩
 rintro e1 F96 _ ⟨a1, n5, c2, Lb3, hF97, rfl, he95, hz4⟩
 refine shW_env _ he95 ?_; clear he95
 refine wsr (om rfl rfl (oa rfl rfl (shO_nil (shW_ret ?_))))
 refine q_res1 Try.results36 (res_tmp rfl) (sr) ?_
 obtain ⟨rfl, rfl, rfl⟩ := inj3 r8
 exact ⟨_, _, _, _, rfl, rfl, hz4.any⟩
set_option maxHeartbeats 1000000 in
theorem oyezlaw01_some_w {b_b : Nat} {metal_a : Option Addr} {metal_c : Nat} {metal : List Int} {at_ : Int} {turn : Int} {wide : Int} {plots_a : Option Addr} {plots_c : Nat} {plots : List Int} {most : Int} {F : FS} (h_metal : RowR 1 (iE .u8) F metal_a metal_c metal) (h_plots : RowR 1 (iE .i64) F plots_a plots_c plots) {r : List Int} {r2 : Int} {r3 : Int} (hr : oyezlaw01_some metal at_ turn wide plots most = some (r, r2, r3)) :
    SH.Spec Try.prog 27 #[.pointer (some ⟨b_b, 0, none⟩), .agg #[.int .i64 wide, .slice plots_a plots.length plots_c], .int .i64 most] F [(b_b, .cells #[.slice metal_a metal.length metal_c, .int .i64 at_, .int .u32 turn] 69 (0, 0))] fun F' L' v => ∃ (ra : Option Addr) (rn : Nat) (rc : Nat) (rL : LH), v = .slice ra rn rc ∧ L' = (b_b, .cells #[.slice metal_a metal.length metal_c, .int .i64 r2, .int .u32 r3] 69 (0, 0)) :: (rL ++ []) ∧ SlR 0 3 1 (iE .i64) F' ra rn rc r rL := by
 refine spec_of_shW (args := [.pointer (some ⟨b_b, 0, none⟩), .agg #[.int .i64 wide, .slice plots_a plots.length plots_c], .int .i64 most]) Try.func27 rfl Try.ntmps27 (Nat.le_of_ble_eq_true rfl) ?_
 intro K _ _; rw [oyezlaw01_some] at hr
 refine wsr ?_
 refine o_box rfl rfl ?_; intro b1 hb1
 refine oa rfl rfl (nsr ?_)
 refine ov (v_loadA (cs := #[.int .i64 wide, .slice plots_a plots.length plots_c]) Try.isAgg27 Try.sizeOf27 rfl (Has.own 0 rfl) (Nat.le_of_ble_eq_true rfl) rfl) rfl ?_
 obtain ⟨l, h2, r4⟩ := b1_ok hr; clear hr
 refine o_call0 rfl Try.call12 rfl rfl rfl (oyezlaw01_streets_w h_plots h2) ?_; rintro _ F5 _ hF6 hn7 ⟨a9, n13, c10, Lb11, rfl, rfl, hz12⟩
 replace h_metal := h_metal.mono (iE_ok _) hF6
 replace hz12 := hz12.new fun p hp => hn7 p (by simp [hp])
 refine shO_L (lp (ln rfl)) ?_
 refine kO (kf (fS fO) (kf (fS fO) kr)) ?_
 refine oa rfl rfl (nsr (oa rfl rfl (shO_nil ?_)))
 obtain ⟨out, b_at, b_turn, h21, r22⟩ := b3_ok r4; clear r4
 refine shW_join (fun e1 F1 L1 => ∃ (a15 : Option Addr) (n19 : Nat) (c16 : Nat) (Lb17 : LH), FExt F5 F1 ∧ L1 = ((b_b, .cells #[.slice metal_a metal.length metal_c, .int .i64 b_at, .int .u32 b_turn] 69 (0, 0)) :: (Lb17 ++ [])) ∧ e1.sub [(8, .slice a15 n19 c16)] ∧ SlR K.w0.heap.size 3 1 (iE .i64) F1 a15 n19 c16 out Lb17) ?_ ?_
 · clear r22
   refine wsr (om rfl rfl (om rfl rfl ?_))
   refine ov ((v_lenS Try.underlying36 rfl).i (SlR.lenI hz12)) rfl ?_
   obtain ⟨l2, at_2, turn2, h23, r24⟩ := b3_ok h21; clear h21
   refine o_callG (Lb := [(b_b, .cells #[.slice metal_a metal.length metal_c, .int .i64 at_, .int .u32 turn] 69 (0, 0))]) (Lr := (b1, .cells #[.int .i64 wide, .slice plots_a plots.length plots_c] 27 (0, 0)) :: (Lb11 ++ [])) rfl Try.call36 rfl rfl rfl (((fC fO).trans (pC pR))) (oyezkit_Bell_Rung_w h_metal h23) ?_; rintro _ F25 _ hF26 hd28 hn27 ⟨a29, n33, c30, Lb31, rfl, rfl, hz32⟩
   replace h_metal := h_metal.mono (iE_ok _) hF26
   replace hz12 := hz12.mono (iE_ok _) hF26
   have hn35 := newp (Lb' := [(b_b, .cells #[.slice metal_a metal.length metal_c, .int .i64 at_2, .int .u32 turn2] 69 (0, 0))]) (by rfl) hd28 hn27
   replace hz32 := hz32.new fun p hp => hn35 p (by simp [hp])
   refine shO_L (lb (lp (ln rfl))) ?_
   refine kO (kc (kf (fS fO) kr)) ?_
   refine om rfl rfl (om rfl rfl (om rfl rfl ?_))
   refine ov ((v_lenS Try.underlying36 rfl).i (SlR.lenI hz12)) rfl ?_
   refine ov (v_min2 rfl rfl) rfl ?_
   obtain ⟨n, at_3, turn3, h36, r37⟩ := b3_ok r24; clear r24
   refine o_callG (Lb := [(b_b, .cells #[.slice metal_a metal.length metal_c, .int .i64 at_2, .int .u32 turn2] 69 (0, 0))]) (Lr := (b1, .cells #[.int .i64 wide, .slice plots_a plots.length plots_c] 27 (0, 0)) :: (Lb31 ++ (Lb11 ++ []))) rfl Try.call23 rfl rfl rfl (pR) (oyezkit_Bell_Stroke_w h_metal h36) ?_; rintro _ F38 _ hF39 hd41 hn40 ⟨rfl, rfl⟩
   replace hz12 := hz12.mono (iE_ok _) hF39
   replace hz32 := hz32.mono (iE_ok _) hF39
   refine shO_L (lb (ln rfl)) ?_
   obtain ⟨g42, r43⟩ := gd_ok r37; clear r37
   obtain ⟨l3, h44, r45⟩ := bv_ok r43; clear r43
   refine o_sliceZ (l := 0) (h := n) (zs := l3) rfl slt_36 (iE_ok _) rfl (.inl ⟨rfl, rfl⟩) (.inr ⟨_, rfl, rfl⟩) (fun _ => .c (.c .h)) hz32 g42 h44 ?_; intro a46 n49 c47 Lb50 h48
   refine ov ((v_lenS Try.underlying36 rfl).i (SlR.lenI h48)) rfl ?_
   refine om rfl rfl (shO_nil ?_)
   refine shW_block ?_
   refine kW (kc (kd kr)) ?_
   refine shW_lp (fun fu1 e1 F1 L1 => ∃ (tl : List Int) (k : Int), tl.length = fu1 ∧ Lst l3 k tl ∧ ∃ (out2 : List Int) (a52 : Option Addr) (n56 : Nat) (c53 : Nat) (Lb54 : LH), oyezlaw01_some_l1 l at_3 turn3 tl out2 = some (out, b_at, b_turn) ∧ F38 = F1 ∧ L1 = ((b_b, .cells #[.slice metal_a metal.length metal_c, .int .i64 at_3, .int .u32 turn3] 69 (0, 0)) :: (Lb11 ++ (Lb54 ++ (Lb50 ++ [])))) ∧ e1.sub [(7, .slice a9 n13 c10), (8, .slice a52 n56 c53), (23, .slice a46 n49 c47), (24, .int .i64 (l3.length : Int)), (25, .int .i64 k)] ∧ SlR K.w0.heap.size 3 1 (iE .i64) F1 a52 n56 c53 out2 Lb54) _ (m0 (kc (kg (fS fP) (ke kr))) ⟨_, _, rfl, Lst.start _, [], none, 0, 0, [], r45, rfl, rfl, (sc rfl (sc rfl (sc rfl (sc rfl (sc rfl (sn _)))))), SlR.nil _ _ _ _ _⟩) ?_
   rintro fu1 e1 _ _ ⟨tl, k, hn59, hk58, out2, a52, n56, c53, Lb54, r60, rfl, rfl, he61, hz55⟩
   refine shW_env _ he61 ?_; clear he61
   refine wsr ?_
   refine ov (v_lssK rfl rfl) rfl ?_
   refine shO_nil (shW_seq ?_)
   refine shW_condP rfl (fun c63 => ?_) (fun c63 => ?_)
   · obtain ⟨x, tl2, rfl, hx65, g66, hk64⟩ := Lst.succ hk58 c63
     rw [oyezlaw01_some_l1] at r60
     refine shW_skip (shW_seq ?_)
     refine shW_block ?_
     refine wsr ?_
     obtain ⟨b67, o68, c69, vs70, ha71, hs72, hle73, rfl, hl74, hc75⟩ := SlR.at (iE_ok _) h48 (L := (b_b, .cells #[.slice metal_a metal.length metal_c, .int .i64 at_3, .int .u32 turn3] 69 (0, 0)) :: (Lb11 ++ (Lb54 ++ (Lb50 ++ [])))) (fC (fS (fS fP))) g66.1 hx65
     refine ov (v_indexO Try.underlying36 Try.sizeOf3 rfl ha71 rfl (SlR.idx h48 g66)) rfl ?_
     refine ov (v_load Try.isAgg3 rfl hs72 (hc75 0 (by decide))) rfl ?_
     refine oa rfl rfl (shO_nil (shW_region (om rfl rfl (om rfl rfl (om rfl rfl ?_)))))
     obtain ⟨x2, g76, hx77, r78⟩ := ix_ok r60; clear r60
     obtain ⟨b79, o80, c81, vs82, ha83, hs84, hle85, rfl, hl86, hc87⟩ := SlR.at (iE_ok _) hz12 (L := (b_b, .cells #[.slice metal_a metal.length metal_c, .int .i64 at_3, .int .u32 turn3] 69 (0, 0)) :: (Lb11 ++ (Lb54 ++ (Lb50 ++ [])))) (fC fP) g76.1 hx77
     refine ov (v_indexO Try.underlying36 Try.sizeOf3 rfl ha83 rfl (SlR.idx hz12 g76)) rfl ?_
     refine ov (v_load Try.isAgg3 rfl hs84 (hc87 0 (by decide))) rfl ?_
     refine o_buildSlice (cs := #[.int .i64 x2]) rfl rfl (buildSlice_all slt_36 [.int .i64 x2] rfl (by decide) (by simp [Value.cells]) (by decide)) ?_; intro b88 hb88
     obtain ⟨out3, h89, g90, r91⟩ := ap_ok r78; clear r78
     refine o_appZ (xs := out2) (ys := [x2]) (zs := out3) rfl slt_36 rfl rfl (Nat.le_refl _) (fun _ => .c (.c (.s .h))) hz55 (SrcR.box (vss := [[.int .i64 x2]]) (ys := [x2]) 0 rfl (iE_ok _) (.cons rfl .nil) rfl rfl) h89 g90 (by decide) ?_; intro a92 n96 c93 Lb94 hz95
     refine kO (kd kr) ?_
     refine oa rfl rfl (shO_nil (inBlock_n (id := 1) (shW_region ?_)))
     refine ov (v_add rfl rfl (Lst.r64 hk58 c63 (SlR.llt h48))) rfl ?_
     refine om rfl rfl (shO_nil ?_)
     subst hn59; exact le kr ⟨_, _, rfl, hk64, out3, a92, n96, c93, Lb94, r91, rfl, rfl, (sc rfl (sc rfl (sc rfl (sc rfl (sc rfl (sn _)))))), hz95⟩
   obtain rfl := Lst.zero hk58 c63
   rw [oyezlaw01_some_l1] at r60
   refine shW_exit (andThen_exit (andThen_exit ?_))
   refine inBlock_exit ?_
   obtain ⟨rfl, rfl, rfl⟩ := inj3 r60
   exact mi (kc (kx (ka kn))) ⟨a52, n56, c53, Lb54, (hF26.trans hF39), rfl, (sc rfl (sn _)), hz55⟩
 rintro e1 F99 _ ⟨a15, n19, c16, Lb17, hF100, rfl, he98, hz18⟩
 refine shW_env _ he98 ?_; clear he98
 refine wsr (om rfl rfl ?_)
 obtain ⟨s_, h101, r102⟩ := b1_ok r22; clear r22
 refine o_callG (Lb := Lb17 ++ []) (Lr := [(b_b, .cells #[.slice metal_a metal.length metal_c, .int .i64 b_at, .int .u32 b_turn] 69 (0, 0))]) rfl Try.call67 rfl rfl rfl (pT ((fC fP).trans (pA pR)) (lp (ln rfl))) (slices_Sort_int_int_w hz18 h101) ?_; rintro _ F103 _ hF104 hd106 hn105 ⟨Lb107, rfl, rfl, hz108⟩
 refine shO_L (lp (ln rfl)) ?_
 refine kO (kf (fS fO) kr) ?_
 refine nsr (om rfl rfl (oa rfl rfl (shO_nil (shW_ret ?_))))
 refine q_res1 Try.results27 (res_tmp rfl) (sr) ?_
 obtain ⟨rfl, rfl, rfl⟩ := inj3 r102
 exact ⟨_, _, _, _, rfl, rfl, hz108.any⟩
set_option maxHeartbeats 1000000 in
theorem cmp_Compare_int_w {x : Int} {y : Int} {F : FS} {r : Int} (hr : cmp_Compare_int x y = some r) :
    SpecV Try.prog 68 #[.int .i64 x, .int .i64 y] F (.int .i64 r) := by
 refine spec_of_shW (args := [.int .i64 x, .int .i64 y]) Try.func68 rfl Try.ntmps68 (Nat.le_of_ble_eq_true rfl) ?_
 intro K _ _; rw [cmp_Compare_int] at hr
 refine wsr (oa rfl rfl (nsr (om rfl rfl ?_)))
 obtain ⟨ok, h1, r2⟩ := b1_ok hr; clear hr
 refine o_callV rfl Try.call92 rfl rfl rfl (cmp_isNaN_int_w h1) ?_
 refine oa rfl rfl (nsr (om rfl rfl ?_))
 obtain ⟨ok2, h3, r4⟩ := b1_ok r2; clear r2
 refine o_callV rfl Try.call92 rfl rfl rfl (cmp_isNaN_int_w h3) ?_
 refine oa rfl rfl (shO_nil (shW_seq (wsr (om rfl rfl (shO_nil ?_)))))
 refine shW_cond rfl (fun c5 => ?_) (fun c5 => ?_)
 · have r6 := bt r4 c5; clear r4
   refine shW_seq (wsr (om rfl rfl (shO_nil ?_)))
   refine shW_cond rfl (fun c7 => ?_) (fun c7 => ?_)
   · have r8 := bt r6 c7; clear r6
     refine wsr (oa rfl rfl (shO_nil (shW_ret (andThen_ret (andThen_ret ?_)))))
     refine q_res1 Try.results68 (res_tmp rfl) (sr) ?_
     obtain rfl := inj1 r8
     exact rfl
   have r9 := bf r6 c7; clear r6
   refine shW_skip (wsr (oa rfl rfl (shO_nil (shW_ret (andThen_ret ?_)))))
   refine q_res1 Try.results68 (res_tmp rfl) (sr) ?_
   obtain rfl := inj1 r9
   exact rfl
 have r10 := bf r4 c5; clear r4
 refine shW_skip (shW_seq (wsr (om rfl rfl (shO_nil ?_))))
 refine shW_cond rfl (fun c11 => ?_) (fun c11 => ?_)
 · have r12 := bt r10 c11; clear r10
   refine wsr (oa rfl rfl (shO_nil (shW_ret (andThen_ret ?_))))
   refine q_res1 Try.results68 (res_tmp rfl) (sr) ?_
   obtain rfl := inj1 r12
   exact rfl
 have r13 := bf r10 c11; clear r10
 refine shW_skip (shW_seq (wsr (om rfl rfl (om rfl rfl ?_))))
 refine ov (v_lssK rfl rfl) rfl ?_
 refine shO_nil ?_
 refine shW_condP rfl (fun c14 => ?_) (fun c14 => ?_)
 · have r15 := ite_t r13 c14; clear r13
   refine wsr (oa rfl rfl (shO_nil (shW_ret (andThen_ret ?_))))
   refine q_res1 Try.results68 (res_tmp rfl) (sr) ?_
   obtain rfl := inj1 r15
   exact rfl
 have r16 := ite_f r13 c14; clear r13
 refine shW_skip (shW_seq (wsr (om rfl rfl (om rfl rfl ?_))))
 refine ov (v_gtrK rfl rfl) rfl ?_
 refine shO_nil ?_
 refine shW_condP rfl (fun c17 => ?_) (fun c17 => ?_)
 · have r18 := ite_t r16 c17; clear r16
   refine wsr (oa rfl rfl (shO_nil (shW_ret (andThen_ret ?_))))
   refine q_res1 Try.results68 (res_tmp rfl) (sr) ?_
   obtain rfl := inj1 r18
   exact rfl
 have r19 := ite_f r16 c17; clear r16
 refine shW_skip (wsr (oa rfl rfl (shO_nil (shW_ret ?_))))
 refine q_res1 Try.results68 (res_tmp rfl) (sr) ?_
 obtain rfl := inj1 r19
 exact rfl
set_option maxHeartbeats 1000000 in
theorem slices_Compare_int_int_w {s1_a : Option Addr} {s1_c : Nat} {s1 : List Int} {s2_a : Option Addr} {s2_c : Nat} {s2 : List Int} {F : FS} (h_s1 : RowR 1 (iE .i64) F s1_a s1_c s1) (h_s2 : RowR 1 (iE .i64) F s2_a s2_c s2) {r : Int} (hr : slices_Compare_int_int s1 s2 = some r) :
    SpecV Try.prog 28 #[.slice s1_a s1.length s1_c, .slice s2_a s2.length s2_c] F (.int .i64 r) := by
 refine spec_of_shW (args := [.slice s1_a s1.length s1_c, .slice s2_a s2.length s2_c]) Try.func28 rfl Try.ntmps28 (Nat.le_of_ble_eq_true rfl) ?_
 intro K _ _; rw [slices_Compare_int_int] at hr
 refine wsr (oa rfl rfl (shO_nil ?_))
 refine shW_join (fun e1 F1 L1 => slices_Compare_int_int_j1 s1 s2 = some r ∧ F = F1 ∧ L1 = [] ∧ e1.sub [(0, .slice s1_a s1.length s1_c), (1, .slice s2_a s2.length s2_c)]) ?_ ?_
 · refine wsr (om rfl rfl ?_)
   refine ov (v_lenS Try.underlying36 rfl) rfl ?_
   refine om rfl rfl (shO_nil ?_)
   refine shW_block ?_
   refine shW_lp (fun fu2 e1 F1 L1 => ∃ (tl : List Int) (k : Int), tl.length = fu2 ∧ Lst s1 k tl ∧ slices_Compare_int_int_l2 s1 s2 tl k = some r ∧ F = F1 ∧ L1 = [] ∧ e1.sub [(0, .slice s1_a s1.length s1_c), (1, .slice s2_a s2.length s2_c), (9, .slice s1_a s1.length s1_c), (10, .int .i64 (s1.length : Int)), (11, .int .i64 k)]) _ (m0 kr ⟨_, _, rfl, Lst.start _, hr, rfl, rfl, (sc rfl (sc rfl (sc rfl (sc rfl (sc rfl (sn _))))))⟩) ?_
   rintro fu2 e1 _ _ ⟨tl, k, hn2, hk1, r3, rfl, rfl, he4⟩
   refine shW_env _ he4 ?_; clear he4
   refine wsr ?_
   refine ov (v_lssK rfl rfl) rfl ?_
   refine shO_nil (shW_seq ?_)
   refine shW_condP rfl (fun c6 => ?_) (fun c6 => ?_)
   · obtain ⟨x, tl2, rfl, hx8, g9, hk7⟩ := Lst.succ hk1 c6
     rw [slices_Compare_int_int_l2] at r3
     refine shW_skip (shW_seq ?_)
     refine shW_block ?_
     refine wsr (om rfl rfl ?_)
     obtain ⟨b10, o11, c12, vs13, ha14, hs15, hle16, rfl, hl17, hc18⟩ := RowR.at (iE_ok _) h_s1 ([]) g9.1 hx8
     refine ov (v_indexO Try.underlying36 Try.sizeOf3 rfl ha14 rfl g9) rfl ?_
     refine ov (v_load Try.isAgg3 rfl hs15 (hc18 0 (by decide))) rfl ?_
     refine oa rfl rfl (oa rfl rfl (shO_nil (shW_seq (wsr (om rfl rfl (om rfl rfl ?_))))))
     refine ov (v_lenS Try.underlying36 rfl) rfl ?_
     refine ov (v_geqK rfl rfl) rfl ?_
     refine shO_nil ?_
     refine shW_condP rfl (fun c19 => ?_) (fun c19 => ?_)
     · have r20 := ite_t r3 c19; clear r3
       refine wsr (oa rfl rfl (shO_nil (shW_ret (andThen_ret (inBlock_ret (andThen_ret (andThen_ret (inBlock_ret (andThen_ret ?_)))))))))
       refine q_res1 Try.results28 (res_tmp rfl) (sr) ?_
       obtain rfl := inj1 r20
       exact rfl
     have r21 := ite_f r3 c19; clear r3
     refine shW_skip (wsr (om rfl rfl (om rfl rfl ?_)))
     obtain ⟨x2, g22, hx23, r24⟩ := ix_ok r21; clear r21
     obtain ⟨b25, o26, c27, vs28, ha29, hs30, hle31, rfl, hl32, hc33⟩ := RowR.at (iE_ok _) h_s2 ([]) g22.1 hx23
     refine ov (v_indexO Try.underlying36 Try.sizeOf3 rfl ha29 rfl g22) rfl ?_
     refine ov (v_load Try.isAgg3 rfl hs30 (hc33 0 (by decide))) rfl ?_
     refine oa rfl rfl (nsr (om rfl rfl (om rfl rfl ?_)))
     obtain ⟨n, h34, r35⟩ := b1_ok r24; clear r24
     refine o_callV rfl Try.call68 rfl rfl rfl (cmp_Compare_int_w h34) ?_
     refine oa rfl rfl (nsr (om rfl rfl ?_))
     refine ov (v_neq rfl rfl) rfl ?_
     refine shO_nil ?_
     refine shW_condP rfl (fun c36 => ?_) (fun c36 => ?_)
     · have r37 := ite_t r35 c36; clear r35
       refine wsr (om rfl rfl (oa rfl rfl (shO_nil (shW_ret (inBlock_ret (andThen_ret (andThen_ret (inBlock_ret (andThen_ret ?_)))))))))
       refine q_res1 Try.results28 (res_tmp rfl) (sr) ?_
       obtain rfl := inj1 r37
       exact rfl
     have r38 := ite_f r35 c36; clear r35
     refine shW_skip (inBlock_n (id := 1) (shW_region ?_))
     refine ov (v_add rfl rfl (Lst.r64 hk1 c6 (RowR.lt h_s1))) rfl ?_
     refine om rfl rfl (shO_nil ?_)
     subst hn2; exact le kr ⟨_, _, rfl, hk7, r38, rfl, rfl, (sc rfl (sc rfl (sc rfl (sc rfl (sc rfl (sn _))))))⟩
   obtain rfl := Lst.zero hk1 c6
   rw [slices_Compare_int_int_l2] at r3
   refine shW_exit (andThen_exit (andThen_exit ?_))
   refine inBlock_exit ?_
   exact mi kr ⟨r3, rfl, rfl, (sc rfl (sc rfl (sn _)))⟩
 rintro e1 _ _ ⟨r39, rfl, rfl, he40⟩
 refine shW_env _ he40 ?_; clear he40
 rw [slices_Compare_int_int_j1] at r39
 refine shW_seq (wsr (om rfl rfl ?_))
 refine ov (v_lenS Try.underlying36 rfl) rfl ?_
 refine om rfl rfl ?_
 refine ov (v_lenS Try.underlying36 rfl) rfl ?_
 refine ov (v_lssK rfl rfl) rfl ?_
 refine shO_nil ?_
 refine shW_condP rfl (fun c41 => ?_) (fun c41 => ?_)
 · have r42 := ite_t r39 c41; clear r39
   refine wsr (oa rfl rfl (shO_nil (shW_ret (andThen_ret ?_))))
   refine q_res1 Try.results28 (res_tmp rfl) (sr) ?_
   obtain rfl := inj1 r42
   exact rfl
 have r43 := ite_f r39 c41; clear r39
 refine shW_skip (wsr (oa rfl rfl (shO_nil (shW_ret ?_))))
 refine q_res1 Try.results28 (res_tmp rfl) (sr) ?_
 obtain rfl := inj1 r43
 exact rfl
set_option maxHeartbeats 1000000 in
theorem oyezlaw01_HearLouder_1_w {h : Int} {b_y : Nat} {y_a : Option Addr} {y_c : Nat} {y : List Int} {mb_y : Nat × Nat} {F : FS} (hb_y : F b_y = some (.cells #[.slice y_a y.length y_c] 36 mb_y)) (h_y : RowR 1 (iE .i64) F y_a y_c y) {r : Bool} (hr : oyezlaw01_HearLouder_1 h y = some r) :
    SpecV Try.prog 21 #[.int .i64 h, .pointer (some ⟨b_y, 0, none⟩)] F (.bool r) := by
 refine spec_of_shW (args := [.int .i64 h, .pointer (some ⟨b_y, 0, none⟩)]) Try.func21 rfl Try.ntmps21 (Nat.le_of_ble_eq_true rfl) ?_
 intro K _ _; rw [oyezlaw01_HearLouder_1] at hr
 refine wsr (oa rfl rfl (nsr ?_))
 refine ov (v_load Try.isAgg36 rfl (Has.frozen hb_y) rfl) rfl ?_
 refine om rfl rfl ?_
 obtain ⟨ok, h1, r2⟩ := b1_ok hr; clear hr
 refine o_callV rfl Try.call22 rfl rfl rfl (slices_Contains_int_int_w h_y h1) ?_
 refine ov (v_notB rfl) rfl ?_
 refine oa rfl rfl (shO_nil (shW_ret ?_))
 refine q_res1 Try.results21 (res_tmp rfl) (sr) ?_
 obtain rfl := inj1 r2
 exact rfl
set_option maxHeartbeats 1000000 in
theorem oyezlaw01_HearLouder_w {numbers_a : Option Addr} {numbers_c : Nat} {numbers : List Int} {tries_a : Option Addr} {tries_c : Nat} {tries : List Int} {more : Int} {F : FS} (h_numbers : RowR 1 (iE .u8) F numbers_a numbers_c numbers) (h_tries : RowR 1 (iE .u8) F tries_a tries_c tries) {r : Bool} (hr : oyezlaw01_HearLouder numbers tries more = some r) :
    SpecV Try.prog 4 #[.slice numbers_a numbers.length numbers_c, .slice tries_a tries.length tries_c, .int .u8 more] F (.bool r) := by
 refine spec_of_shW (args := [.slice numbers_a numbers.length numbers_c, .slice tries_a tries.length tries_c, .int .u8 more]) Try.func4 rfl Try.ntmps4 (Nat.le_of_ble_eq_true rfl) ?_
 intro K _ _; rw [oyezlaw01_HearLouder] at hr
 refine wsr (oa rfl rfl (nsr (om rfl rfl ?_)))
 obtain ⟨metal, at_, turn, h1, r2⟩ := b3_ok hr; clear hr
 refine o_call0 rfl Try.call7 rfl rfl rfl (oyezkit_Hang_w h_numbers h1) ?_; rintro _ F3 _ hF4 hn5 ⟨b7, a8, c9, rfl, rfl, h10⟩
 replace h_tries := h_tries.mono (iE_ok _) hF4
 refine shO_L (lb (ln rfl)) ?_
 refine om rfl rfl ?_
 obtain ⟨metal2, at_2, turn2, h11, r12⟩ := b3_ok r2; clear r2
 refine o_call0 rfl Try.call7 rfl rfl rfl (oyezkit_Hang_w h_tries h11) ?_; rintro _ F13 _ hF14 hn15 ⟨b17, a18, c19, rfl, rfl, h20⟩
 replace h10 := h10.mono (iE_ok _) hF14
 refine shO_L (lb (ln rfl)) ?_
 refine oa rfl rfl (oa rfl rfl (nsr (om rfl rfl ?_)))
 obtain ⟨n, l, at_3, turn3, h21, r22⟩ := b4_ok r12; clear r12
 refine o_callG (Lb := [(b7, .cells #[.slice a8 metal.length c9, .int .i64 at_, .int .u32 turn] 69 (0, 0))]) (Lr := [(b17, .cells #[.slice a18 metal2.length c19, .int .i64 at_2, .int .u32 turn2] 69 (0, 0))]) rfl Try.call8 rfl rfl rfl (((fC fO).trans (pC pR))) (oyezlaw01_Made_w h10 h21) ?_; rintro _ F23 _ hF24 hd26 hn25 ⟨a27, n31, c28, Lb29, rfl, rfl, hz30⟩
 replace h10 := h10.mono (iE_ok _) hF24
 replace h20 := h20.mono (iE_ok _) hF24
 have hn33 := newp (Lb' := [(b7, .cells #[.slice a8 metal.length c9, .int .i64 at_3, .int .u32 turn3] 69 (0, 0))]) (by rfl) hd26 hn25
 replace hz30 := hz30.new fun p hp => hn33 p (by simp [hp])
 refine shO_L (lb (lp (ln rfl))) ?_
 refine kO (kc (kf (fS fO) kr)) ?_
 refine o_alloc rfl Try.zeroValue27 ?_; intro b34 hb34
 refine o_storeA (i := 0) Try.sizeOf27 rfl rfl rfl (by simp [Value.oneCell']) rfl (Nat.le_of_ble_eq_true rfl) ?_
 refine shO_L (L' := (b34, .cells #[.int .i64 n, .slice a27 n31 c28] 27 (0, 0)) :: ((b7, .cells #[.slice a8 metal.length c9, .int .i64 at_3, .int .u32 turn3] 69 (0, 0)) :: ((b17, .cells #[.slice a18 metal2.length c19, .int .i64 at_2, .int .u32 turn2] 69 (0, 0)) :: (Lb29 ++ [])))) rfl ?_
 refine shO_nil (shW_seq ?_)
 refine shW_drawM [(.pre, 4), (.still, 0), (.still, 2), (.seq, 1), (.seq, 3), (.alloc (.cells (.agg #[.int .i64 0, .int .i64 0] : Value).cells 31 (0, 0)) (fun b => .pointer (some ⟨b, 0, none⟩)) [], 4), (.seq, 5), (.still, 6)] (by kernel_rfl) (by kernel_rfl) (⟨⟨_, _, rfl, rfl, rfl, rfl, rfl, mk_alloc Try.zeroValue31⟩, trivial⟩) (by rfl) (by kernel_rfl) ?_
 refine ⟨⟨[], rfl, sn _, by kernel_rfl⟩, ?_⟩
 refine shM_v (v := .pointer (some ⟨b7, 0, none⟩)) (ek := [(7, .pointer (some ⟨b7, 0, none⟩))]) (Ls := []) rfl rfl rfl rfl ((sc rfl (sn _))) (by kernel_rfl) sm (fun H F' L' hF' hL' => v_move rfl) ?_
 refine shM_v (v := .agg #[.int .i64 n, .slice a27 n31 c28]) (ek := [(9, .pointer (some ⟨b34, 0, none⟩))]) (Ls := [(b34, .cells #[.int .i64 n, .slice a27 n31 c28] 27 (0, 0))]) rfl rfl rfl rfl ((sc rfl (sn _))) (by kernel_rfl) (s0 (s2 (s1 (s1 (s3 sr))))) (fun H F' L' hF' hL' => v_loadA (cs := #[.int .i64 n, .slice a27 n31 c28]) Try.isAgg27 Try.sizeOf27 rfl ((Has.own 0 rfl).ext hF' hL') (Nat.le_of_ble_eq_true rfl) rfl) ?_
 refine ⟨_, [(43, .pointer (some ⟨b7, 0, none⟩))], rfl, rfl, (sc rfl (sn _)), by kernel_rfl, ?_⟩; intro H
 obtain ⟨n2, n3, at_4, turn4, h35, r36⟩ := b4_ok r22; clear r22
 refine o_callG (Lb := [(b7, .cells #[.slice a8 metal.length c9, .int .i64 at_3, .int .u32 turn3] 69 (0, 0))]) (Lr := (b34, .cells #[.int .i64 n, .slice a27 n31 c28] 27 (0, 0)) :: ((b17, .cells #[.slice a18 metal2.length c19, .int .i64 at_2, .int .u32 turn2] 69 (0, 0)) :: (Lb29 ++ []))) rfl Try.call9 rfl rfl rfl (((fC fO).trans (pC pR))) (oyezlaw01_Aired_w h10 h35) ?_; rintro _ F37 _ hF38 hd40 hn39 ⟨rfl, rfl⟩
 replace h20 := h20.mono (iE_ok _) hF38
 replace hz30 := hz30.mono (iE_ok _) hF38
 refine shO_L (lb (ln rfl)) ?_
 refine shO_nil ⟨_, rfl, hF38, [2], by kernel_rfl, .inl (.inr (fun d h => by cases h; rfl)), (List.forall_mem_cons.2 ⟨s0 (s1 (s2 (s1 (s3 sr)))), (fun _ h => absurd h List.not_mem_nil)⟩), ?_⟩
 refine ⟨_, [(45, .agg #[.int .i64 n, .slice a27 n31 c28])], rfl, rfl, (sc rfl (sn _)), by kernel_rfl, ?_⟩; intro H
 obtain ⟨l2, h41, r42⟩ := b1_ok r36; clear r36
 refine o_callTO (Lb := []) (Lt := Lb29 ++ []) (Lr := [(b7, .cells #[.slice a8 metal.length c9, .int .i64 at_4, .int .u32 turn4] 69 (0, 0)), (b34, .cells #[.int .i64 n, .slice a27 n31 c28] 27 (0, 0)), (b17, .cells #[.slice a18 metal2.length c19, .int .i64 at_2, .int .u32 turn2] 69 (0, 0))]) rfl Try.call14 rfl rfl rfl (pT ((fC (fC (fC fP))).trans (pA pR)) (ln (lp (ln rfl)))) (fun F2 h2 h3 => by rw [(SlR.caps hz30).1]; exact oyezlaw01_houses_w (hz30.row (iE_ok _) h2 (fun p hp => h3 p (List.mem_append_left _ hp))) h41) (fun _ _ _ _ hq => by obtain ⟨a47, n51, c48, Lb49, rfl, rfl, hz50⟩ := hq; exact ⟨_, _, _, _, rfl, rfl, hz50.flat (fun _ _ h => h)⟩) ?_; rintro _ F43 _ hF44 hd46 hn45 ⟨a47, n51, c48, Lb49, rfl, rfl, hz50⟩
 replace h20 := h20.mono (iE_ok _) hF44
 replace hz30 := hz30.mono (iE_ok _) hF44
 have hn53 := newp (Lb' := []) (by rfl) hd46 hn45
 replace hz50 := hz50.new fun p hp => hn53 p (by simp [hp])
 refine shO_L (lp (ln (lp (ln rfl)))) ?_
 refine kO (kf (fS (fS fO)) (kf (fS (fS fO)) (kf (fS (fS fO)) kr))) ?_
 refine shO_nil ⟨_, rfl, hF44, [], by kernel_rfl, .inl (.inl rfl), (fun _ h => absurd h List.not_mem_nil), ?_⟩
 refine shM_ptr rfl ?_; intro b54 hb54
 refine shM_L (L' := (b54, .cells #[.int .i64 0, .int .i64 0] 31 (0, 0)) :: ((b7, .cells #[.slice a8 metal.length c9, .int .i64 at_4, .int .u32 turn4] 69 (0, 0)) :: ((b34, .cells #[.int .i64 n, .slice a27 n31 c28] 27 (0, 0)) :: ((b17, .cells #[.slice a18 metal2.length c19, .int .i64 at_2, .int .u32 turn2] 69 (0, 0)) :: (Lb49 ++ (Lb29 ++ [])))))) rfl ?_
 refine ⟨_, [(10, .pointer (some ⟨b54, 0, none⟩)), (44, .agg #[.int .i64 n2, .int .i64 n3])], rfl, rfl, (sc rfl (sc rfl (sn _))), by kernel_rfl, ?_⟩; intro H
 refine o_storeA (i := 0) Try.sizeOf31 rfl rfl rfl (by simp [Value.oneCell']) rfl (Nat.le_of_ble_eq_true rfl) ?_
 refine shO_L (L' := (b54, .cells #[.int .i64 n2, .int .i64 n3] 31 (0, 0)) :: ((b7, .cells #[.slice a8 metal.length c9, .int .i64 at_4, .int .u32 turn4] 69 (0, 0)) :: ((b34, .cells #[.int .i64 n, .slice a27 n31 c28] 27 (0, 0)) :: ((b17, .cells #[.slice a18 metal2.length c19, .int .i64 at_2, .int .u32 turn2] 69 (0, 0)) :: (Lb49 ++ (Lb29 ++ [])))))) rfl ?_
 refine shO_nil ⟨undef, rfl, FExt.refl _, [], by kernel_rfl, .inl (.inl rfl), (fun _ h => absurd h List.not_mem_nil), ?_⟩
 refine shM_v (v := .slice a47 n51 c48) (ek := [(46, .slice a47 n51 c48)]) (Ls := []) rfl rfl rfl rfl ((sc rfl (sn _))) (by kernel_rfl) sm (fun H F' L' hF' hL' => v_assign rfl) ?_
 refine shM_nil ?_
 refine wsr ?_
 refine ov (v_fieldAddr fa_31_0 rfl) rfl ?_
 refine ov (v_load Try.isAgg29 rfl (Has.own 0 rfl) rfl) rfl ?_
 refine ov (v_fieldAddr fa_31_1 rfl) rfl ?_
 refine ov (v_load Try.isAgg3 rfl (Has.own 0 rfl) rfl) rfl ?_
 refine om rfl rfl ?_
 refine ov (v_remT rfl rfl (by decide)) rfl ?_
 obtain ⟨g55, r56⟩ := gd_ok r42; clear r42
 refine ov (i_conv Try.underlying5 Try.underlying3 rfl g55) rfl ?_
 obtain ⟨g57, r58⟩ := gd_ok r56; clear r56
 refine ov (v_add rfl rfl g57) rfl ?_
 refine ov (v_min2 rfl rfl) rfl ?_
 refine ov (v_build (v := .agg #[.int .i64 n2, .int .i64 (if n3 + (Int.tmod more 20) < 40 then n3 + (Int.tmod more 20) else 40)]) rfl (by intro w; kernel_rfl)) rfl ?_
 refine o_alloc rfl Try.zeroValue31 ?_; intro b59 hb59
 refine o_storeA (i := 0) Try.sizeOf31 rfl rfl rfl (by simp [Value.oneCell']) rfl (Nat.le_of_ble_eq_true rfl) ?_
 refine shO_L (L' := (b59, .cells #[.int .i64 n2, .int .i64 (if n3 + (Int.tmod more 20) < 40 then n3 + (Int.tmod more 20) else 40)] 31 (0, 0)) :: ((b54, .cells #[.int .i64 n2, .int .i64 n3] 31 (0, 0)) :: ((b7, .cells #[.slice a8 metal.length c9, .int .i64 at_4, .int .u32 turn4] 69 (0, 0)) :: ((b34, .cells #[.int .i64 n, .slice a27 n31 c28] 27 (0, 0)) :: ((b17, .cells #[.slice a18 metal2.length c19, .int .i64 at_2, .int .u32 turn2] 69 (0, 0)) :: (Lb49 ++ (Lb29 ++ []))))))) rfl ?_
 refine shO_nil ?_
 refine shW_join (fun e1 F1 L1 => oyezlaw01_HearLouder_j1 more metal2 at_2 turn2 n l n2 n3 l2 = some r ∧ FExt F43 F1 ∧ L1 = ((b59, .cells #[.int .i64 n2, .int .i64 (if n3 + (Int.tmod more 20) < 40 then n3 + (Int.tmod more 20) else 40)] 31 (0, 0)) :: ((b54, .cells #[.int .i64 n2, .int .i64 n3] 31 (0, 0)) :: ((b34, .cells #[.int .i64 n, .slice a27 n31 c28] 27 (0, 0)) :: ((b17, .cells #[.slice a18 metal2.length c19, .int .i64 at_2, .int .u32 turn2] 69 (0, 0)) :: (Lb29 ++ (Lb49 ++ [])))))) ∧ e1.sub [(8, .pointer (some ⟨b17, 0, none⟩)), (9, .pointer (some ⟨b34, 0, none⟩)), (10, .pointer (some ⟨b54, 0, none⟩)), (11, .slice a47 n51 c48), (12, .pointer (some ⟨b59, 0, none⟩))]) ?_ ?_
 · refine wsr ?_
   refine ov (v_loadA (cs := #[.int .i64 n, .slice a27 n31 c28]) Try.isAgg27 Try.sizeOf27 rfl (Has.own 3 rfl) (Nat.le_of_ble_eq_true rfl) rfl) rfl ?_
   obtain ⟨l3, h60, r61⟩ := b1_ok r58; clear r58
   refine o_callTO (Lb := []) (Lt := Lb29 ++ []) (Lr := (b59, .cells #[.int .i64 n2, .int .i64 (if n3 + (Int.tmod more 20) < 40 then n3 + (Int.tmod more 20) else 40)] 31 (0, 0)) :: ((b54, .cells #[.int .i64 n2, .int .i64 n3] 31 (0, 0)) :: ((b7, .cells #[.slice a8 metal.length c9, .int .i64 at_4, .int .u32 turn4] 69 (0, 0)) :: ((b34, .cells #[.int .i64 n, .slice a27 n31 c28] 27 (0, 0)) :: ((b17, .cells #[.slice a18 metal2.length c19, .int .i64 at_2, .int .u32 turn2] 69 (0, 0)) :: (Lb49 ++ [])))))) rfl Try.call12 rfl rfl rfl (pT ((fC (fC (fC (fC (fC (fS fP)))))).trans (pA pR)) (ln (lp (ln rfl)))) (fun F2 h2 h3 => by rw [(SlR.caps hz30).1]; exact oyezlaw01_streets_w (hz30.row (iE_ok _) h2 (fun p hp => h3 p (List.mem_append_left _ hp))) h60) (fun _ _ _ _ hq => by obtain ⟨a66, n70, c67, Lb68, rfl, rfl, hz69⟩ := hq; exact ⟨_, _, _, _, rfl, rfl, hz69.flat (fun _ _ h => h)⟩) ?_; rintro _ F62 _ hF63 hd65 hn64 ⟨a66, n70, c67, Lb68, rfl, rfl, hz69⟩
   replace hz30 := hz30.mono (iE_ok _) hF63
   have hn72 := newp (Lb' := []) (by rfl) hd65 hn64
   replace hz69 := hz69.new fun p hp => hn72 p (by simp [hp])
   refine shO_L (lp (ln (lp (ln rfl)))) ?_
   refine kO (kf (fS (fS fO)) (kf (fS (fS fO)) (kf (fS (fS fO)) (kf (fS (fS fO)) (kf (fS (fS fO)) kr))))) ?_
   refine ov ((v_lenS Try.underlying36 rfl).i (SlR.lenI hz69)) rfl ?_
   refine om rfl rfl (shO_nil ?_)
   refine shW_block ?_
   refine kW (kc (kc (kd kr))) ?_
   refine shW_lp (fun fu2 e1 F1 L1 => ∃ (tl : List Int) (k : Int), tl.length = fu2 ∧ Lst l3 k tl ∧ oyezlaw01_HearLouder_l2 more metal2 at_2 turn2 n l n2 n3 l2 tl = some r ∧ FExt F62 F1 ∧ L1 = ((b59, .cells #[.int .i64 n2, .int .i64 (if n3 + (Int.tmod more 20) < 40 then n3 + (Int.tmod more 20) else 40)] 31 (0, 0)) :: ((b54, .cells #[.int .i64 n2, .int .i64 n3] 31 (0, 0)) :: ((b34, .cells #[.int .i64 n, .slice a27 n31 c28] 27 (0, 0)) :: ((b17, .cells #[.slice a18 metal2.length c19, .int .i64 at_2, .int .u32 turn2] 69 (0, 0)) :: (Lb29 ++ (Lb49 ++ (Lb68 ++ []))))))) ∧ e1.sub [(8, .pointer (some ⟨b17, 0, none⟩)), (9, .pointer (some ⟨b34, 0, none⟩)), (10, .pointer (some ⟨b54, 0, none⟩)), (11, .slice a47 n51 c48), (12, .pointer (some ⟨b59, 0, none⟩)), (58, .slice a66 n70 c67), (59, .int .i64 (l3.length : Int)), (60, .int .i64 k)]) _ (m0 (kc (kc (kc (kc (kg (fS fP) (kg (fS fP) kr)))))) ⟨_, _, rfl, Lst.start _, r61, FExt.refl _, rfl, (sc rfl (sc rfl (sc rfl (sc rfl (sc rfl (sc rfl (sc rfl (sc rfl (sn _)))))))))⟩) ?_
   rintro fu2 e1 F77 _ ⟨tl, k, hn74, hk73, r75, hF78, rfl, he76⟩
   refine shW_env _ he76 ?_; clear he76
   replace hz30 := hz30.mono (iE_ok _) hF78
   replace hz69 := hz69.mono (iE_ok _) hF78
   refine wsr ?_
   refine ov (v_lssK rfl rfl) rfl ?_
   refine shO_nil (shW_seq ?_)
   refine shW_condP rfl (fun c80 => ?_) (fun c80 => ?_)
   · obtain ⟨x, tl2, rfl, hx82, g83, hk81⟩ := Lst.succ hk73 c80
     rw [oyezlaw01_HearLouder_l2] at r75
     refine shW_skip (shW_seq ?_)
     refine shW_block ?_
     refine wsr ?_
     obtain ⟨b84, o85, c86, vs87, ha88, hs89, hle90, rfl, hl91, hc92⟩ := SlR.at (iE_ok _) hz69 (L := (b59, .cells #[.int .i64 n2, .int .i64 (if n3 + (Int.tmod more 20) < 40 then n3 + (Int.tmod more 20) else 40)] 31 (0, 0)) :: ((b54, .cells #[.int .i64 n2, .int .i64 n3] 31 (0, 0)) :: ((b34, .cells #[.int .i64 n, .slice a27 n31 c28] 27 (0, 0)) :: ((b17, .cells #[.slice a18 metal2.length c19, .int .i64 at_2, .int .u32 turn2] 69 (0, 0)) :: (Lb29 ++ (Lb49 ++ (Lb68 ++ []))))))) (fC (fC (fC (fC (fS (fS fP)))))) g83.1 hx82
     refine ov (v_indexO Try.underlying36 Try.sizeOf3 rfl ha88 rfl (SlR.idx hz69 g83)) rfl ?_
     refine ov (v_load Try.isAgg3 rfl hs89 (hc92 0 (by decide))) rfl ?_
     refine oa rfl rfl (nsr ?_)
     refine ov (v_loadA (cs := #[.int .i64 n, .slice a27 n31 c28]) Try.isAgg27 Try.sizeOf27 rfl (Has.own 2 rfl) (Nat.le_of_ble_eq_true rfl) rfl) rfl ?_
     refine ov (v_loadA (cs := #[.int .i64 n2, .int .i64 n3]) Try.isAgg31 Try.sizeOf31 rfl (Has.own 1 rfl) (Nat.le_of_ble_eq_true rfl) rfl) rfl ?_
     refine om rfl rfl ?_
     obtain ⟨l4, n4, h93, r94⟩ := b2_ok r75; clear r75
     refine o_callTO (Lb := []) (Lt := Lb29 ++ []) (Lr := (b59, .cells #[.int .i64 n2, .int .i64 (if n3 + (Int.tmod more 20) < 40 then n3 + (Int.tmod more 20) else 40)] 31 (0, 0)) :: ((b54, .cells #[.int .i64 n2, .int .i64 n3] 31 (0, 0)) :: ((b34, .cells #[.int .i64 n, .slice a27 n31 c28] 27 (0, 0)) :: ((b17, .cells #[.slice a18 metal2.length c19, .int .i64 at_2, .int .u32 turn2] 69 (0, 0)) :: (Lb49 ++ (Lb68 ++ [])))))) rfl Try.call19 rfl rfl rfl (pT ((fC (fC (fC (fC fP)))).trans (pA pR)) (ln (lp (ln rfl)))) (fun F2 h2 h3 => by rw [(SlR.caps hz30).1]; exact hear_Houses_w (hz30.row (iE_ok _) h2 (fun p hp => h3 p (List.mem_append_left _ hp))) h93) (fun _ _ _ _ hq => by obtain ⟨a99, n103, c100, Lb101, rfl, rfl, hz102⟩ := hq; exact ⟨_, _, _, _, rfl, rfl, hz102.flat (fun _ _ h => h)⟩) ?_; rintro _ F95 _ hF96 hd98 hn97 ⟨a99, n103, c100, Lb101, rfl, rfl, hz102⟩
     replace hz30 := hz30.mono (iE_ok _) hF96
     replace hz69 := hz69.mono (iE_ok _) hF96
     have hn105 := newp (Lb' := []) (by rfl) hd98 hn97
     replace hz102 := hz102.new fun p hp => hn105 p (by simp [hp])
     refine shO_L (lp (ln (lp (ln rfl)))) ?_
     refine kO (kf (fS (fS fO)) (kf (fS (fS fO)) (kf (fS (fS fO)) (kf (fS (fS fO)) kr)))) ?_
     refine om rfl rfl (ox rfl rfl rfl (ox rfl rfl rfl (oa rfl rfl (oa rfl rfl (nsr ?_)))))
     refine ov (v_loadA (cs := #[.int .i64 n, .slice a27 n31 c28]) Try.isAgg27 Try.sizeOf27 rfl (Has.own 2 rfl) (Nat.le_of_ble_eq_true rfl) rfl) rfl ?_
     refine ov (v_loadA (cs := #[.int .i64 n2, .int .i64 (if n3 + (Int.tmod more 20) < 40 then n3 + (Int.tmod more 20) else 40)]) Try.isAgg31 Try.sizeOf31 rfl (Has.own 0 rfl) (Nat.le_of_ble_eq_true rfl) rfl) rfl ?_
     refine om rfl rfl ?_
     obtain ⟨l5, n5, h106, r107⟩ := b2_ok r94; clear r94
     refine o_callTO (Lb := []) (Lt := Lb29 ++ []) (Lr := (b59, .cells #[.int .i64 n2, .int .i64 (if n3 + (Int.tmod more 20) < 40 then n3 + (Int.tmod more 20) else 40)] 31 (0, 0)) :: ((b54, .cells #[.int .i64 n2, .int .i64 n3] 31 (0, 0)) :: ((b34, .cells #[.int .i64 n, .slice a27 n31 c28] 27 (0, 0)) :: ((b17, .cells #[.slice a18 metal2.length c19, .int .i64 at_2, .int .u32 turn2] 69 (0, 0)) :: (Lb101 ++ (Lb49 ++ (Lb68 ++ []))))))) rfl Try.call19 rfl rfl rfl (pT ((fC (fC (fC (fC (fS fP))))).trans (pA pR)) (ln (lp (ln rfl)))) (fun F2 h2 h3 => by rw [(SlR.caps hz30).1]; exact hear_Houses_w (hz30.row (iE_ok _) h2 (fun p hp => h3 p (List.mem_append_left _ hp))) h106) (fun _ _ _ _ hq => by obtain ⟨a112, n116, c113, Lb114, rfl, rfl, hz115⟩ := hq; exact ⟨_, _, _, _, rfl, rfl, hz115.flat (fun _ _ h => h)⟩) ?_; rintro _ F108 _ hF109 hd111 hn110 ⟨a112, n116, c113, Lb114, rfl, rfl, hz115⟩
     replace hz69 := hz69.mono (iE_ok _) hF109
     replace hz102 := hz102.mono (iE_ok _) hF109
     have hn118 := newp (Lb' := []) (by rfl) hd111 hn110
     replace hz115 := hz115.new fun p hp => hn118 p (by simp [hp])
     refine shO_L (lp (ln (lp (ln rfl)))) ?_
     refine kO (kf (fS (fS fO)) (kf (fS (fS fO)) (kf (fS (fS fO)) (kf (fS (fS fO)) kr)))) ?_
     refine om rfl rfl (ox rfl rfl rfl (ox rfl rfl rfl ?_))
     refine o_alloc rfl Try.zeroValue36 ?_; intro b119 hb119
     refine o_store (i := 0) Try.sizeOf36 rfl rfl rfl rfl (Nat.le_of_ble_eq_true rfl) ?_
     refine shO_L (L' := (b119, .cells #[.slice a112 n116 c113] 36 (0, 0)) :: ((b59, .cells #[.int .i64 n2, .int .i64 (if n3 + (Int.tmod more 20) < 40 then n3 + (Int.tmod more 20) else 40)] 31 (0, 0)) :: ((b54, .cells #[.int .i64 n2, .int .i64 n3] 31 (0, 0)) :: ((b34, .cells #[.int .i64 n, .slice a27 n31 c28] 27 (0, 0)) :: ((b17, .cells #[.slice a18 metal2.length c19, .int .i64 at_2, .int .u32 turn2] 69 (0, 0)) :: (Lb114 ++ (Lb29 ++ (Lb101 ++ (Lb49 ++ (Lb68 ++ [])))))))))) rfl ?_
     refine oa rfl rfl (shO_nil ?_)
     obtain ⟨k2, h120, r121⟩ := b1_ok r107; clear r107
     refine shW_join (fun e1 F1 L1 => FExt F108 F1 ∧ L1 = ((b59, .cells #[.int .i64 n2, .int .i64 (if n3 + (Int.tmod more 20) < 40 then n3 + (Int.tmod more 20) else 40)] 31 (0, 0)) :: ((b54, .cells #[.int .i64 n2, .int .i64 n3] 31 (0, 0)) :: ((b34, .cells #[.int .i64 n, .slice a27 n31 c28] 27 (0, 0)) :: ((b17, .cells #[.slice a18 metal2.length c19, .int .i64 at_2, .int .u32 turn2] 69 (0, 0)) :: (Lb29 ++ (Lb49 ++ (Lb68 ++ []))))))) ∧ e1.sub [(8, .pointer (some ⟨b17, 0, none⟩)), (9, .pointer (some ⟨b34, 0, none⟩)), (10, .pointer (some ⟨b54, 0, none⟩)), (11, .slice a47 n51 c48), (12, .pointer (some ⟨b59, 0, none⟩)), (58, .slice a66 n70 c67), (59, .int .i64 (l3.length : Int)), (60, .int .i64 k), (88, .bool k2)]) ?_ ?_
     · clear r121
       refine shW_region (om rfl rfl ?_)
       refine ov (v_neq rfl rfl) rfl ?_
       refine om rfl rfl ?_
       by_cases c122 : n4 ≠ 0
       · have r123 := ite_t h120 c122; clear h120
         refine shO_off (b' := true) 80 rfl (Env.isT rfl c122) rfl rfl (shO_off (b' := true) 80 rfl (Env.isT rfl c122) rfl rfl ?_)
         refine ov (v_pick_t (evD_true rfl c122) rfl) rfl ?_
         refine om rfl rfl (shO_off (b' := true) 84 rfl rfl rfl rfl (shO_off (b' := true) 84 rfl rfl rfl rfl (shO_off (b' := true) 84 rfl rfl rfl rfl ?_)))
         refine ov (v_pick_t rfl rfl) rfl ?_
         refine shO_nil ?_
         obtain rfl := inj1 r123
         exact mi (kd (kc (kc (kc (kc (kx (ka (kx kr)))))))) ⟨FExt.refl _, rfl, (sc rfl (sc rfl (sc rfl (sc rfl (sc rfl (sc rfl (sc rfl (sc rfl (sc rfl (sn _))))))))))⟩
       have r124 := ite_f h120 c122; clear h120
       refine shO_on (b := false) 80 rfl (Env.isF rfl c122) (om rfl rfl (shO_on (b := false) 80 rfl (Env.isF rfl c122) ?_))
       refine ov (v_neq rfl rfl) rfl ?_
       refine ov (v_pick_f (evD_false rfl c122) rfl) rfl ?_
       refine om rfl rfl ?_
       by_cases c125 : n5 ≠ 0
       · have r126 := ite_t r124 c125; clear r124
         refine shO_off (b' := true) 84 rfl (Env.isT rfl c125) rfl rfl (shO_off (b' := true) 84 rfl (Env.isT rfl c125) rfl rfl (shO_off (b' := true) 84 rfl (Env.isT rfl c125) rfl rfl ?_))
         refine ov (v_pick_t (evD_true rfl c125) rfl) rfl ?_
         refine shO_nil ?_
         obtain rfl := inj1 r126
         exact mi (kd (kc (kc (kc (kc (kx (ka (kx kr)))))))) ⟨FExt.refl _, rfl, (sc rfl (sc rfl (sc rfl (sc rfl (sc rfl (sc rfl (sc rfl (sc rfl (sc rfl (sn _))))))))))⟩
       have r127 := ite_f r124 c125; clear r124
       refine shO_on (b := false) 84 rfl (Env.isF rfl c125) (om rfl rfl (shO_on (b := false) 84 rfl (Env.isF rfl c125) ?_))
       refine ov (v_makeFunc rfl rfl) rfl ?_
       refine shO_on (b := false) 84 rfl (Env.isF rfl c125) ?_
       obtain rfl := (SlR.caps hz115).1
       refine shO_freezeR (Nat.le_refl _) (iE_ok _) (fC (fC (fC (fC (fC fP))))) hz115 ?_; intro F128 hF129 h130
       replace hz102 := hz102.mono (iE_ok _) hF129
       refine shO_freeze 0 rfl hb119 ?_; intro F131 hF132 hz133
       refine shO_L (L' := (b59, .cells #[.int .i64 n2, .int .i64 (if n3 + (Int.tmod more 20) < 40 then n3 + (Int.tmod more 20) else 40)] 31 (0, 0)) :: ((b54, .cells #[.int .i64 n2, .int .i64 n3] 31 (0, 0)) :: ((b34, .cells #[.int .i64 n, .slice a27 n31 c28] 27 (0, 0)) :: ((b17, .cells #[.slice a18 metal2.length c19, .int .i64 at_2, .int .u32 turn2] 69 (0, 0)) :: (Lb29 ++ (Lb101 ++ (Lb49 ++ (Lb68 ++ [])))))))) rfl ?_
       replace h130 := h130.mono (iE_ok _) hF132
       replace hz102 := hz102.mono (iE_ok _) hF132
       have hn134 : FnR Try.prog F131 21 #[] #[.pointer (some ⟨b119, 0, none⟩)] (iE .i64) Value.bool (fun xx_ : Int => oyezlaw01_HearLouder_1 xx_ l5) := ⟨Try.call21, fun F2 h2 vs xx_ r ha hr => by obtain rfl := ha; exact oyezlaw01_HearLouder_1_w (h2 _ _ hz133) (h130.mono (iE_ok _) h2) hr⟩
       obtain ⟨ok, h135, r136⟩ := b1_ok r127; clear r127
       refine o_callT (Lt := Lb101 ++ []) (Lr := (b59, .cells #[.int .i64 n2, .int .i64 (if n3 + (Int.tmod more 20) < 40 then n3 + (Int.tmod more 20) else 40)] 31 (0, 0)) :: ((b54, .cells #[.int .i64 n2, .int .i64 n3] 31 (0, 0)) :: ((b34, .cells #[.int .i64 n, .slice a27 n31 c28] 27 (0, 0)) :: ((b17, .cells #[.slice a18 metal2.length c19, .int .i64 at_2, .int .u32 turn2] 69 (0, 0)) :: (Lb29 ++ (Lb49 ++ (Lb68 ++ []))))))) rfl Try.call20 rfl rfl rfl (pT ((fC (fC (fC (fC (fS fP))))).trans (pA pR)) (lp (ln rfl))) (fun F2 h2 h3 => by rw [(SlR.caps hz102).1]; exact slices_ContainsFunc_int_int_w (hz102.row (iE_ok _) h2 (fun p hp => h3 p (List.mem_append_left _ hp))) (hn134.mono h2) h135) ?_
       refine ov (v_pick_f (evD_false rfl c125) rfl) rfl ?_
       refine shO_nil ?_
       obtain rfl := inj1 r136
       exact mi (kc (kc (kc (kc (ka (kx kr)))))) ⟨(hF129.trans hF132), rfl, (sc rfl (sc rfl (sc rfl (sc rfl (sc rfl (sc rfl (sc rfl (sc rfl (sc rfl (sn _))))))))))⟩
     rintro e1 F138 _ ⟨hF139, rfl, he137⟩
     refine shW_env _ he137 ?_; clear he137
     replace hz69 := hz69.mono (iE_ok _) hF139
     refine shW_cond rfl (fun c140 => ?_) (fun c140 => ?_)
     · have r141 := bt r121 c140; clear r121
       refine wsr (oa rfl rfl (shO_nil ?_))
       refine kW kn ?_
       refine shW_ret (inBlock_ret (andThen_ret (andThen_ret (inBlock_ret (andThen_ret ?_)))))
       refine q_res1 Try.results4 (res_tmp rfl) (sr) ?_
       obtain rfl := inj1 r141
       exact rfl
     have r142 := bf r121 c140; clear r121
     refine shW_skip (inBlock_n (id := 1) (shW_region ?_))
     refine ov (v_add rfl rfl (Lst.r64 hk73 c80 (SlR.llt hz69))) rfl ?_
     refine om rfl rfl (shO_nil ?_)
     subst hn74; exact le kr ⟨_, _, rfl, hk81, r142, (((hF78.trans hF96).trans hF109).trans hF139), rfl, (sc rfl (sc rfl (sc rfl (sc rfl (sc rfl (sc rfl (sc rfl (sc rfl (sn _)))))))))⟩
   obtain rfl := Lst.zero hk73 c80
   rw [oyezlaw01_HearLouder_l2] at r75
   refine shW_exit (andThen_exit (andThen_exit ?_))
   refine inBlock_exit ?_
   exact mi (kc (kc (kc (kc (ka (ka kn)))))) ⟨r75, (hF63.trans hF78), rfl, (sc rfl (sc rfl (sc rfl (sc rfl (sc rfl (sn _))))))⟩
 rintro e1 F145 _ ⟨r143, hF146, rfl, he144⟩
 refine shW_env _ he144 ?_; clear he144
 replace h20 := h20.mono (iE_ok _) hF146
 replace hz30 := hz30.mono (iE_ok _) hF146
 replace hz50 := hz50.mono (iE_ok _) hF146
 rw [oyezlaw01_HearLouder_j1] at r143
 refine wsr ?_
 refine ov (v_loadA (cs := #[.int .i64 n, .slice a27 n31 c28]) Try.isAgg27 Try.sizeOf27 rfl (Has.own 2 rfl) (Nat.le_of_ble_eq_true rfl) rfl) rfl ?_
 refine ov (v_loadA (cs := #[.int .i64 n2, .int .i64 n3]) Try.isAgg31 Try.sizeOf31 rfl (Has.own 1 rfl) (Nat.le_of_ble_eq_true rfl) rfl) rfl ?_
 refine om rfl rfl ?_
 obtain ⟨l6, n6, h147, r148⟩ := b2_ok r143; clear r143
 refine o_callTO (Lb := []) (Lt := Lb29 ++ (Lb49 ++ [])) (Lr := [(b59, .cells #[.int .i64 n2, .int .i64 (if n3 + (Int.tmod more 20) < 40 then n3 + (Int.tmod more 20) else 40)] 31 (0, 0)), (b54, .cells #[.int .i64 n2, .int .i64 n3] 31 (0, 0)), (b34, .cells #[.int .i64 n, .slice a27 n31 c28] 27 (0, 0)), (b17, .cells #[.slice a18 metal2.length c19, .int .i64 at_2, .int .u32 turn2] 69 (0, 0))]) rfl Try.call15 rfl rfl rfl (pT ((fC (fC (fC (fC fP)))).trans (pA ((fC (fC (fC (fC fP)))).trans (pA pR)))) (ln (lp (lp (ln rfl))))) (fun F2 h2 h3 => by rw [(SlR.caps hz30).1]; rw [(SlR.caps hz50).1]; exact hear_Fewest_w (hz30.row (iE_ok _) h2 (fun p hp => h3 p (List.mem_append_left _ hp))) (hz50.row (iE_ok _) h2 (fun p hp => h3 p (List.mem_append_right _ (List.mem_append_left _ hp)))) h147) (fun _ _ _ _ hq => by obtain ⟨a153, n157, c154, Lb155, rfl, rfl, hz156⟩ := hq; exact ⟨_, _, _, _, rfl, rfl, hz156.flat (fun _ _ h => h)⟩) ?_; rintro _ F149 _ hF150 hd152 hn151 ⟨a153, n157, c154, Lb155, rfl, rfl, hz156⟩
 replace h20 := h20.mono (iE_ok _) hF150
 replace hz30 := hz30.mono (iE_ok _) hF150
 replace hz50 := hz50.mono (iE_ok _) hF150
 have hn159 := newp (Lb' := []) (by rfl) hd152 hn151
 replace hz156 := hz156.new fun p hp => hn159 p (by simp [hp])
 refine shO_L (lp (ln (lp (lp (ln rfl))))) ?_
 refine kO (kf (fS (fS (fS fO))) (kf (fS (fS (fS fO))) (kf (fS (fS (fS fO))) (kf (fS (fS (fS fO))) kr)))) ?_
 refine om rfl rfl (ox rfl rfl rfl (ox rfl rfl rfl (oa rfl rfl (oa rfl rfl (nsr ?_)))))
 refine ov (v_loadA (cs := #[.int .i64 n, .slice a27 n31 c28]) Try.isAgg27 Try.sizeOf27 rfl (Has.own 2 rfl) (Nat.le_of_ble_eq_true rfl) rfl) rfl ?_
 refine ov (v_loadA (cs := #[.int .i64 n2, .int .i64 (if n3 + (Int.tmod more 20) < 40 then n3 + (Int.tmod more 20) else 40)]) Try.isAgg31 Try.sizeOf31 rfl (Has.own 0 rfl) (Nat.le_of_ble_eq_true rfl) rfl) rfl ?_
 refine om rfl rfl ?_
 obtain ⟨l7, n7, h160, r161⟩ := b2_ok r148; clear r148
 refine o_callTO (Lb := []) (Lt := Lb29 ++ (Lb49 ++ [])) (Lr := (b59, .cells #[.int .i64 n2, .int .i64 (if n3 + (Int.tmod more 20) < 40 then n3 + (Int.tmod more 20) else 40)] 31 (0, 0)) :: ((b54, .cells #[.int .i64 n2, .int .i64 n3] 31 (0, 0)) :: ((b34, .cells #[.int .i64 n, .slice a27 n31 c28] 27 (0, 0)) :: ((b17, .cells #[.slice a18 metal2.length c19, .int .i64 at_2, .int .u32 turn2] 69 (0, 0)) :: (Lb155 ++ []))))) rfl Try.call15 rfl rfl rfl (pT ((fC (fC (fC (fC (fS fP))))).trans (pA ((fC (fC (fC (fC (fS fP))))).trans (pA pR)))) (ln (lp (lp (ln rfl))))) (fun F2 h2 h3 => by rw [(SlR.caps hz30).1]; rw [(SlR.caps hz50).1]; exact hear_Fewest_w (hz30.row (iE_ok _) h2 (fun p hp => h3 p (List.mem_append_left _ hp))) (hz50.row (iE_ok _) h2 (fun p hp => h3 p (List.mem_append_right _ (List.mem_append_left _ hp)))) h160) (fun _ _ _ _ hq => by obtain ⟨a166, n170, c167, Lb168, rfl, rfl, hz169⟩ := hq; exact ⟨_, _, _, _, rfl, rfl, hz169.flat (fun _ _ h => h)⟩) ?_; rintro _ F162 _ hF163 hd165 hn164 ⟨a166, n170, c167, Lb168, rfl, rfl, hz169⟩
 replace h20 := h20.mono (iE_ok _) hF163
 replace hz30 := hz30.mono (iE_ok _) hF163
 replace hz50 := hz50.mono (iE_ok _) hF163
 replace hz156 := hz156.mono (iE_ok _) hF163
 have hn172 := newp (Lb' := []) (by rfl) hd165 hn164
 replace hz169 := hz169.new fun p hp => hn172 p (by simp [hp])
 refine shO_L (lp (ln (lp (lp (ln rfl))))) ?_
 refine kO (kf (fS (fS (fS fO))) (kf (fS (fS (fS fO))) (kf (fS (fS (fS fO))) (kf (fS (fS (fS fO))) kr)))) ?_
 refine om rfl rfl (ox rfl rfl rfl (ox rfl rfl rfl (oa rfl rfl (oa rfl rfl (shO_nil (shW_seq ?_))))))
 obtain ⟨k3, h173, r174⟩ := b1_ok r161; clear r161
 refine shW_join (fun e1 F1 L1 => F162 = F1 ∧ L1 = ((b54, .cells #[.int .i64 n2, .int .i64 n3] 31 (0, 0)) :: ((b34, .cells #[.int .i64 n, .slice a27 n31 c28] 27 (0, 0)) :: ((b17, .cells #[.slice a18 metal2.length c19, .int .i64 at_2, .int .u32 turn2] 69 (0, 0)) :: (Lb29 ++ (Lb49 ++ []))))) ∧ e1.sub [(8, .pointer (some ⟨b17, 0, none⟩)), (9, .pointer (some ⟨b34, 0, none⟩)), (10, .pointer (some ⟨b54, 0, none⟩)), (11, .slice a47 n51 c48), (132, .bool k3)]) ?_ ?_
 · clear r174
   refine shW_region (om rfl rfl ?_)
   refine ov (v_neq rfl rfl) rfl ?_
   refine om rfl rfl ?_
   by_cases c175 : n6 ≠ 0
   · have r176 := ite_t h173 c175; clear h173
     refine shO_on (b := true) 106 rfl (Env.isT rfl c175) (om rfl rfl (shO_on (b := true) 106 rfl (Env.isT rfl c175) ?_))
     refine ov (v_neq rfl rfl) rfl ?_
     refine ov (v_pick_t (evD_true rfl c175) rfl) rfl ?_
     refine om rfl rfl ?_
     by_cases c177 : n6 ≠ 6
     · have r178 := ite_t r176 c177; clear r176
       refine shO_off (b' := true) 110 rfl (Env.isT rfl c177) rfl rfl (shO_off (b' := true) 110 rfl (Env.isT rfl c177) rfl rfl (shO_off (b' := true) 110 rfl (Env.isT rfl c177) rfl rfl (shO_offU 113 rfl rfl rfl (shO_offU 113 rfl rfl rfl (shO_off (b' := true) 110 rfl (Env.isT rfl c177) rfl rfl ?_)))))
       refine ov (v_pick_t (evD_true rfl c177) rfl) rfl ?_
       refine om rfl rfl (shO_off (b' := true) 118 rfl rfl rfl rfl (shO_off (b' := true) 118 rfl rfl rfl rfl (shO_off (b' := true) 118 rfl rfl rfl rfl (shO_offU 121 rfl rfl rfl (shO_offU 121 rfl rfl rfl (shO_offU 121 rfl rfl rfl (shO_offU 124 rfl rfl rfl (shO_offU 124 rfl rfl rfl (shO_offU 124 rfl rfl rfl ?_)))))))))
       refine shO_offU 124 rfl rfl rfl (shO_offU 124 rfl rfl rfl (shO_offU 121 rfl rfl rfl (shO_off (b' := true) 118 rfl rfl rfl rfl ?_)))
       refine ov (v_pick_t rfl rfl) rfl ?_
       refine shO_nil ?_
       obtain rfl := inj1 r178
       exact mi (kd (kc (kc (kc (kx (ka (ka kn))))))) ⟨rfl, rfl, (sc rfl (sc rfl (sc rfl (sc rfl (sc rfl (sn _))))))⟩
     have r179 := ite_f r176 c177; clear r176
     refine shO_on (b := false) 110 rfl (Env.isF rfl c177) (om rfl rfl (shO_on (b := false) 110 rfl (Env.isF rfl c177) ?_))
     refine ov (v_neq rfl rfl) rfl ?_
     refine shO_on (b := false) 110 rfl (Env.isF rfl c177) (om rfl rfl ?_)
     by_cases c180 : n7 ≠ 0
     · have r181 := ite_t r179 c180; clear r179
       refine shO_on (b := true) 113 rfl (Env.isT rfl c180) (om rfl rfl (shO_on (b := true) 113 rfl (Env.isT rfl c180) ?_))
       refine ov (v_neq rfl rfl) rfl ?_
       refine shO_on (b := false) 110 rfl (Env.isF rfl c177) ?_
       refine ov (v_pick_t (evD_true rfl c180) rfl) rfl ?_
       refine ov (v_pick_f (evD_false rfl c177) rfl) rfl ?_
       refine om rfl rfl ?_
       by_cases c182 : n7 ≠ 6
       · have r183 := ite_t r181 c182; clear r181
         refine shO_off (b' := true) 118 rfl (Env.isT rfl c182) rfl rfl (shO_off (b' := true) 118 rfl (Env.isT rfl c182) rfl rfl (shO_off (b' := true) 118 rfl (Env.isT rfl c182) rfl rfl (shO_offU 121 rfl rfl rfl (shO_offU 121 rfl rfl rfl (shO_offU 121 rfl rfl rfl (shO_offU 124 rfl rfl rfl (shO_offU 124 rfl rfl rfl (shO_offU 124 rfl rfl rfl (shO_offU 124 rfl rfl rfl ?_)))))))))
         refine shO_offU 124 rfl rfl rfl (shO_offU 121 rfl rfl rfl (shO_off (b' := true) 118 rfl (Env.isT rfl c182) rfl rfl ?_))
         refine ov (v_pick_t (evD_true rfl c182) rfl) rfl ?_
         refine shO_nil ?_
         obtain rfl := inj1 r183
         exact mi (kd (kc (kc (kc (kx (ka (ka kn))))))) ⟨rfl, rfl, (sc rfl (sc rfl (sc rfl (sc rfl (sc rfl (sn _))))))⟩
       have r184 := ite_f r181 c182; clear r181
       refine shO_on (b := false) 118 rfl (Env.isF rfl c182) (om rfl rfl (shO_on (b := false) 118 rfl (Env.isF rfl c182) ?_))
       refine ov (v_eql rfl rfl) rfl ?_
       refine shO_on (b := false) 118 rfl (Env.isF rfl c182) (om rfl rfl ?_)
       by_cases c185 : n6 = 0
       · have r186 := ite_t r184 c185; clear r184
         refine shO_on (b := true) 121 rfl (Env.isT rfl c185) (om rfl rfl (shO_on (b := true) 121 rfl (Env.isT rfl c185) ?_))
         refine ov (v_neq rfl rfl) rfl ?_
         refine shO_on (b := true) 121 rfl (Env.isT rfl c185) (om rfl rfl (shO_off (b' := true) 124 rfl (Env.isT rfl c180) rfl rfl (shO_off (b' := true) 124 rfl (Env.isT rfl c180) rfl rfl (shO_off (b' := true) 124 rfl (Env.isT rfl c180) rfl rfl (shO_off (b' := true) 124 rfl (Env.isT rfl c180) rfl rfl (shO_off (b' := true) 124 rfl (Env.isT rfl c180) rfl rfl (shO_on (b := true) 121 rfl (Env.isT rfl c185) ?_)))))))
         refine ov (v_pick_t (evD_true rfl c180) rfl) rfl ?_
         refine shO_on (b := false) 118 rfl (Env.isF rfl c182) ?_
         refine ov (v_pick_t (evD_true rfl c185) rfl) rfl ?_
         refine ov (v_pick_f (evD_false rfl c182) rfl) rfl ?_
         refine shO_nil ?_
         obtain rfl := inj1 r186
         exact mi (kd (kc (kc (kc (kx (ka (ka kn))))))) ⟨rfl, rfl, (sc rfl (sc rfl (sc rfl (sc rfl (sc rfl (sn _))))))⟩
       have r187 := ite_f r184 c185; clear r184
       refine shO_off (b' := false) 121 rfl (Env.isF rfl c185) rfl rfl (shO_off (b' := false) 121 rfl (Env.isF rfl c185) rfl rfl (shO_off (b' := false) 121 rfl (Env.isF rfl c185) rfl rfl (shO_offU 124 rfl rfl rfl (shO_offU 124 rfl rfl rfl (shO_offU 124 rfl rfl rfl (shO_offU 124 rfl rfl rfl (shO_offU 124 rfl rfl rfl (shO_off (b' := false) 121 rfl (Env.isF rfl c185) rfl rfl (shO_on (b := false) 118 rfl (Env.isF rfl c182) ?_)))))))))
       refine ov (v_pick_f (evD_false rfl c185) rfl) rfl ?_
       refine ov (v_pick_f (evD_false rfl c182) rfl) rfl ?_
       refine shO_nil ?_
       obtain rfl := inj1 r187
       exact mi (kd (kc (kc (kc (kx (ka (ka kn))))))) ⟨rfl, rfl, (sc rfl (sc rfl (sc rfl (sc rfl (sc rfl (sn _))))))⟩
     have r188 := ite_f r179 c180; clear r179
     refine shO_off (b' := false) 113 rfl (Env.isF rfl c180) rfl rfl (shO_off (b' := false) 113 rfl (Env.isF rfl c180) rfl rfl (shO_on (b := false) 110 rfl (Env.isF rfl c177) ?_))
     refine ov (v_pick_f (evD_false rfl c180) rfl) rfl ?_
     refine ov (v_pick_f (evD_false rfl c177) rfl) rfl ?_
     refine om rfl rfl (shO_on (b := false) 118 rfl rfl (om rfl rfl (shO_on (b := false) 118 rfl rfl ?_)))
     refine ov (v_eql rfl rfl) rfl ?_
     refine shO_on (b := false) 118 rfl rfl (om rfl rfl ?_)
     by_cases c189 : n6 = 0
     · have r190 := ite_t r188 c189; clear r188
       refine shO_on (b := true) 121 rfl (Env.isT rfl c189) (om rfl rfl (shO_on (b := true) 121 rfl (Env.isT rfl c189) ?_))
       refine ov (v_neq rfl rfl) rfl ?_
       refine shO_on (b := true) 121 rfl (Env.isT rfl c189) (om rfl rfl (shO_on (b := false) 124 rfl (Env.isF rfl c180) (om rfl rfl (shO_on (b := false) 124 rfl (Env.isF rfl c180) ?_))))
       refine ov ((v_lenS Try.underlying36 rfl).i (SlR.lenI hz169)) rfl ?_
       refine shO_on (b := false) 124 rfl (Env.isF rfl c180) (om rfl rfl (shO_on (b := false) 124 rfl (Env.isF rfl c180) ?_))
       refine ov ((v_lenS Try.underlying36 rfl).i (SlR.lenI hz156)) rfl ?_
       refine shO_on (b := false) 124 rfl (Env.isF rfl c180) ?_
       refine ov (v_gtrK rfl rfl) rfl ?_
       refine shO_on (b := true) 121 rfl (Env.isT rfl c189) ?_
       refine ov (v_pick_f (evD_false rfl c180) rfl) rfl ?_
       refine shO_on (b := false) 118 rfl rfl ?_
       refine ov (v_pick_t (evD_true rfl c189) rfl) rfl ?_
       refine ov (v_pick_f rfl rfl) rfl ?_
       refine shO_nil ?_
       obtain rfl := inj1 r190
       exact mi (kd (kc (kc (kc (kx (ka (ka kn))))))) ⟨rfl, rfl, (sc rfl (sc rfl (sc rfl (sc rfl (sc rfl (sn _))))))⟩
     have r191 := ite_f r188 c189; clear r188
     refine shO_off (b' := false) 121 rfl (Env.isF rfl c189) rfl rfl (shO_off (b' := false) 121 rfl (Env.isF rfl c189) rfl rfl (shO_off (b' := false) 121 rfl (Env.isF rfl c189) rfl rfl (shO_offU 124 rfl rfl rfl (shO_offU 124 rfl rfl rfl (shO_offU 124 rfl rfl rfl (shO_offU 124 rfl rfl rfl (shO_offU 124 rfl rfl rfl (shO_off (b' := false) 121 rfl (Env.isF rfl c189) rfl rfl (shO_on (b := false) 118 rfl rfl ?_)))))))))
     refine ov (v_pick_f (evD_false rfl c189) rfl) rfl ?_
     refine ov (v_pick_f rfl rfl) rfl ?_
     refine shO_nil ?_
     obtain rfl := inj1 r191
     exact mi (kd (kc (kc (kc (kx (ka (ka kn))))))) ⟨rfl, rfl, (sc rfl (sc rfl (sc rfl (sc rfl (sc rfl (sn _))))))⟩
   have r192 := ite_f h173 c175; clear h173
   refine shO_off (b' := false) 106 rfl (Env.isF rfl c175) rfl rfl (shO_off (b' := false) 106 rfl (Env.isF rfl c175) rfl rfl ?_)
   refine ov (v_pick_f (evD_false rfl c175) rfl) rfl ?_
   refine om rfl rfl (shO_on (b := false) 110 rfl rfl (om rfl rfl (shO_on (b := false) 110 rfl rfl ?_)))
   refine ov (v_neq rfl rfl) rfl ?_
   refine shO_on (b := false) 110 rfl rfl (om rfl rfl ?_)
   by_cases c193 : n7 ≠ 0
   · have r194 := ite_t r192 c193; clear r192
     refine shO_on (b := true) 113 rfl (Env.isT rfl c193) (om rfl rfl (shO_on (b := true) 113 rfl (Env.isT rfl c193) ?_))
     refine ov (v_neq rfl rfl) rfl ?_
     refine shO_on (b := false) 110 rfl rfl ?_
     refine ov (v_pick_t (evD_true rfl c193) rfl) rfl ?_
     refine ov (v_pick_f rfl rfl) rfl ?_
     refine om rfl rfl ?_
     by_cases c195 : n7 ≠ 6
     · have r196 := ite_t r194 c195; clear r194
       refine shO_off (b' := true) 118 rfl (Env.isT rfl c195) rfl rfl (shO_off (b' := true) 118 rfl (Env.isT rfl c195) rfl rfl (shO_off (b' := true) 118 rfl (Env.isT rfl c195) rfl rfl (shO_offU 121 rfl rfl rfl (shO_offU 121 rfl rfl rfl (shO_offU 121 rfl rfl rfl (shO_offU 124 rfl rfl rfl (shO_offU 124 rfl rfl rfl (shO_offU 124 rfl rfl rfl (shO_offU 124 rfl rfl rfl ?_)))))))))
       refine shO_offU 124 rfl rfl rfl (shO_offU 121 rfl rfl rfl (shO_off (b' := true) 118 rfl (Env.isT rfl c195) rfl rfl ?_))
       refine ov (v_pick_t (evD_true rfl c195) rfl) rfl ?_
       refine shO_nil ?_
       obtain rfl := inj1 r196
       exact mi (kd (kc (kc (kc (kx (ka (ka kn))))))) ⟨rfl, rfl, (sc rfl (sc rfl (sc rfl (sc rfl (sc rfl (sn _))))))⟩
     have r197 := ite_f r194 c195; clear r194
     refine shO_on (b := false) 118 rfl (Env.isF rfl c195) (om rfl rfl (shO_on (b := false) 118 rfl (Env.isF rfl c195) ?_))
     refine ov (v_eql rfl rfl) rfl ?_
     refine shO_on (b := false) 118 rfl (Env.isF rfl c195) (om rfl rfl ?_)
     by_cases c198 : n6 = 0
     · have r199 := ite_t r197 c198; clear r197
       refine shO_on (b := true) 121 rfl (Env.isT rfl c198) (om rfl rfl (shO_on (b := true) 121 rfl (Env.isT rfl c198) ?_))
       refine ov (v_neq rfl rfl) rfl ?_
       refine shO_on (b := true) 121 rfl (Env.isT rfl c198) (om rfl rfl (shO_off (b' := true) 124 rfl (Env.isT rfl c193) rfl rfl (shO_off (b' := true) 124 rfl (Env.isT rfl c193) rfl rfl (shO_off (b' := true) 124 rfl (Env.isT rfl c193) rfl rfl (shO_off (b' := true) 124 rfl (Env.isT rfl c193) rfl rfl (shO_off (b' := true) 124 rfl (Env.isT rfl c193) rfl rfl (shO_on (b := true) 121 rfl (Env.isT rfl c198) ?_)))))))
       refine ov (v_pick_t (evD_true rfl c193) rfl) rfl ?_
       refine shO_on (b := false) 118 rfl (Env.isF rfl c195) ?_
       refine ov (v_pick_t (evD_true rfl c198) rfl) rfl ?_
       refine ov (v_pick_f (evD_false rfl c195) rfl) rfl ?_
       refine shO_nil ?_
       obtain rfl := inj1 r199
       exact mi (kd (kc (kc (kc (kx (ka (ka kn))))))) ⟨rfl, rfl, (sc rfl (sc rfl (sc rfl (sc rfl (sc rfl (sn _))))))⟩
     have r200 := ite_f r197 c198; clear r197
     refine shO_off (b' := false) 121 rfl (Env.isF rfl c198) rfl rfl (shO_off (b' := false) 121 rfl (Env.isF rfl c198) rfl rfl (shO_off (b' := false) 121 rfl (Env.isF rfl c198) rfl rfl (shO_offU 124 rfl rfl rfl (shO_offU 124 rfl rfl rfl (shO_offU 124 rfl rfl rfl (shO_offU 124 rfl rfl rfl (shO_offU 124 rfl rfl rfl (shO_off (b' := false) 121 rfl (Env.isF rfl c198) rfl rfl (shO_on (b := false) 118 rfl (Env.isF rfl c195) ?_)))))))))
     refine ov (v_pick_f (evD_false rfl c198) rfl) rfl ?_
     refine ov (v_pick_f (evD_false rfl c195) rfl) rfl ?_
     refine shO_nil ?_
     obtain rfl := inj1 r200
     exact mi (kd (kc (kc (kc (kx (ka (ka kn))))))) ⟨rfl, rfl, (sc rfl (sc rfl (sc rfl (sc rfl (sc rfl (sn _))))))⟩
   have r201 := ite_f r192 c193; clear r192
   refine shO_off (b' := false) 113 rfl (Env.isF rfl c193) rfl rfl (shO_off (b' := false) 113 rfl (Env.isF rfl c193) rfl rfl (shO_on (b := false) 110 rfl rfl ?_))
   refine ov (v_pick_f (evD_false rfl c193) rfl) rfl ?_
   refine ov (v_pick_f rfl rfl) rfl ?_
   refine om rfl rfl (shO_on (b := false) 118 rfl rfl (om rfl rfl (shO_on (b := false) 118 rfl rfl ?_)))
   refine ov (v_eql rfl rfl) rfl ?_
   refine shO_on (b := false) 118 rfl rfl (om rfl rfl ?_)
   by_cases c202 : n6 = 0
   · have r203 := ite_t r201 c202; clear r201
     refine shO_on (b := true) 121 rfl (Env.isT rfl c202) (om rfl rfl (shO_on (b := true) 121 rfl (Env.isT rfl c202) ?_))
     refine ov (v_neq rfl rfl) rfl ?_
     refine shO_on (b := true) 121 rfl (Env.isT rfl c202) (om rfl rfl (shO_on (b := false) 124 rfl (Env.isF rfl c193) (om rfl rfl (shO_on (b := false) 124 rfl (Env.isF rfl c193) ?_))))
     refine ov ((v_lenS Try.underlying36 rfl).i (SlR.lenI hz169)) rfl ?_
     refine shO_on (b := false) 124 rfl (Env.isF rfl c193) (om rfl rfl (shO_on (b := false) 124 rfl (Env.isF rfl c193) ?_))
     refine ov ((v_lenS Try.underlying36 rfl).i (SlR.lenI hz156)) rfl ?_
     refine shO_on (b := false) 124 rfl (Env.isF rfl c193) ?_
     refine ov (v_gtrK rfl rfl) rfl ?_
     refine shO_on (b := true) 121 rfl (Env.isT rfl c202) ?_
     refine ov (v_pick_f (evD_false rfl c193) rfl) rfl ?_
     refine shO_on (b := false) 118 rfl rfl ?_
     refine ov (v_pick_t (evD_true rfl c202) rfl) rfl ?_
     refine ov (v_pick_f rfl rfl) rfl ?_
     refine shO_nil ?_
     obtain rfl := inj1 r203
     exact mi (kd (kc (kc (kc (kx (ka (ka kn))))))) ⟨rfl, rfl, (sc rfl (sc rfl (sc rfl (sc rfl (sc rfl (sn _))))))⟩
   have r204 := ite_f r201 c202; clear r201
   refine shO_off (b' := false) 121 rfl (Env.isF rfl c202) rfl rfl (shO_off (b' := false) 121 rfl (Env.isF rfl c202) rfl rfl (shO_off (b' := false) 121 rfl (Env.isF rfl c202) rfl rfl (shO_offU 124 rfl rfl rfl (shO_offU 124 rfl rfl rfl (shO_offU 124 rfl rfl rfl (shO_offU 124 rfl rfl rfl (shO_offU 124 rfl rfl rfl (shO_off (b' := false) 121 rfl (Env.isF rfl c202) rfl rfl (shO_on (b := false) 118 rfl rfl ?_)))))))))
   refine ov (v_pick_f (evD_false rfl c202) rfl) rfl ?_
   refine ov (v_pick_f rfl rfl) rfl ?_
   refine shO_nil ?_
   obtain rfl := inj1 r204
   exact mi (kd (kc (kc (kc (kx (ka (ka kn))))))) ⟨rfl, rfl, (sc rfl (sc rfl (sc rfl (sc rfl (sc rfl (sn _))))))⟩
 rintro e1 _ _ ⟨rfl, rfl, he205⟩
 refine shW_env _ he205 ?_; clear he205
 refine shW_cond rfl (fun c206 => ?_) (fun c206 => ?_)
 · have r207 := bt r174 c206; clear r174
   refine wsr (oa rfl rfl (shO_nil ?_))
   refine kW kn ?_
   refine shW_ret (andThen_ret ?_)
   refine q_res1 Try.results4 (res_tmp rfl) (sr) ?_
   obtain rfl := inj1 r207
   exact rfl
 have r208 := bf r174 c206; clear r174
 refine shW_skip (wsr (om rfl rfl ?_))
 obtain ⟨n8, at_5, turn5, h209, r210⟩ := b3_ok r208; clear r208
 refine o_callG (Lb := [(b17, .cells #[.slice a18 metal2.length c19, .int .i64 at_2, .int .u32 turn2] 69 (0, 0))]) (Lr := (b54, .cells #[.int .i64 n2, .int .i64 n3] 31 (0, 0)) :: ((b34, .cells #[.int .i64 n, .slice a27 n31 c28] 27 (0, 0)) :: (Lb29 ++ (Lb49 ++ [])))) rfl Try.call23 rfl rfl rfl (((fC (fC fO)).trans (pC pR))) (oyezkit_Bell_Stroke_w h20 h209) ?_; rintro _ F211 _ hF212 hd214 hn213 ⟨rfl, rfl⟩
 replace h20 := h20.mono (iE_ok _) hF212
 replace hz30 := hz30.mono (iE_ok _) hF212
 replace hz50 := hz50.mono (iE_ok _) hF212
 refine shO_L (lb (ln rfl)) ?_
 refine oa rfl rfl (nsr ?_)
 refine ov (v_loadA (cs := #[.int .i64 n, .slice a27 n31 c28]) Try.isAgg27 Try.sizeOf27 rfl (Has.own 2 rfl) (Nat.le_of_ble_eq_true rfl) rfl) rfl ?_
 refine ov (v_loadA (cs := #[.int .i64 n2, .int .i64 n3]) Try.isAgg31 Try.sizeOf31 rfl (Has.own 1 rfl) (Nat.le_of_ble_eq_true rfl) rfl) rfl ?_
 refine om rfl rfl (om rfl rfl ?_)
 obtain ⟨l8, n9, n10, h215, r216⟩ := b3_ok r210; clear r210
 refine o_callTO (Lb := []) (Lt := Lb29 ++ (Lb49 ++ [])) (Lr := [(b17, .cells #[.slice a18 metal2.length c19, .int .i64 at_5, .int .u32 turn5] 69 (0, 0)), (b54, .cells #[.int .i64 n2, .int .i64 n3] 31 (0, 0)), (b34, .cells #[.int .i64 n, .slice a27 n31 c28] 27 (0, 0))]) rfl Try.call24 rfl rfl rfl (pT ((fC (fC (fC fP))).trans (pA ((fC (fC (fC fP))).trans (pA pR)))) (ln (lp (lp (ln rfl))))) (fun F2 h2 h3 => by rw [(SlR.caps hz30).1]; rw [(SlR.caps hz50).1]; exact hear_Best_w (hz30.row (iE_ok _) h2 (fun p hp => h3 p (List.mem_append_left _ hp))) (hz50.row (iE_ok _) h2 (fun p hp => h3 p (List.mem_append_right _ (List.mem_append_left _ hp)))) h215) (fun _ _ _ _ hq => by obtain ⟨a221, n225, c222, Lb223, rfl, rfl, hz224⟩ := hq; exact ⟨_, _, _, _, rfl, rfl, hz224.flat (fun _ _ h => h)⟩) ?_; rintro _ F217 _ hF218 hd220 hn219 ⟨a221, n225, c222, Lb223, rfl, rfl, hz224⟩
 replace h20 := h20.mono (iE_ok _) hF218
 replace hz30 := hz30.mono (iE_ok _) hF218
 replace hz50 := hz50.mono (iE_ok _) hF218
 have hn227 := newp (Lb' := []) (by rfl) hd220 hn219
 replace hz224 := hz224.new fun p hp => hn227 p (by simp [hp])
 refine shO_L (lp (ln (lp (lp (ln rfl))))) ?_
 refine kO (kf (fS (fS (fS fO))) (kf (fS (fS (fS fO))) (kf (fS (fS (fS fO))) kr))) ?_
 refine om rfl rfl (ox rfl rfl rfl (ox rfl rfl rfl (ox rfl rfl rfl (oa rfl rfl (oa rfl rfl (oa rfl rfl (nsr ?_)))))))
 refine ov (v_loadA (cs := #[.int .i64 n, .slice a27 n31 c28]) Try.isAgg27 Try.sizeOf27 rfl (Has.own 2 rfl) (Nat.le_of_ble_eq_true rfl) rfl) rfl ?_
 refine ov (v_loadA (cs := #[.int .i64 n2, .int .i64 n3]) Try.isAgg31 Try.sizeOf31 rfl (Has.own 1 rfl) (Nat.le_of_ble_eq_true rfl) rfl) rfl ?_
 refine om rfl rfl (om rfl rfl ?_)
 obtain ⟨n11, ok2, h228, r229⟩ := b2_ok r216; clear r216
 refine o_callT (Lt := Lb29 ++ (Lb49 ++ (Lb223 ++ []))) (Lr := [(b17, .cells #[.slice a18 metal2.length c19, .int .i64 at_5, .int .u32 turn5] 69 (0, 0)), (b54, .cells #[.int .i64 n2, .int .i64 n3] 31 (0, 0)), (b34, .cells #[.int .i64 n, .slice a27 n31 c28] 27 (0, 0))]) rfl Try.call25 rfl rfl rfl (pT ((fC (fC (fC (fS fP)))).trans (pA ((fC (fC (fC (fS fP)))).trans (pA ((fC (fC (fC fP))).trans (pA pR)))))) (lp (lp (lp (ln rfl))))) (fun F2 h2 h3 => by rw [(SlR.caps hz30).1]; rw [(SlR.caps hz50).1]; rw [(SlR.caps hz224).1]; exact oyezlaw01_served_w (hz30.row (iE_ok _) h2 (fun p hp => h3 p (List.mem_append_left _ hp))) (hz50.row (iE_ok _) h2 (fun p hp => h3 p (List.mem_append_right _ (List.mem_append_left _ hp)))) (hz224.row (iE_ok _) h2 (fun p hp => h3 p (List.mem_append_right _ (List.mem_append_right _ (List.mem_append_left _ hp))))) h228) ?_
 refine om rfl rfl (ox rfl rfl rfl (ox rfl rfl rfl (oa rfl rfl (oa rfl rfl (shO_nil (shW_seq ?_))))))
 obtain ⟨k4, h230, r231⟩ := b1_ok r229; clear r229
 refine shW_join (fun e1 F1 L1 => F217 = F1 ∧ L1 = ((b17, .cells #[.slice a18 metal2.length c19, .int .i64 at_5, .int .u32 turn5] 69 (0, 0)) :: ((b54, .cells #[.int .i64 n2, .int .i64 n3] 31 (0, 0)) :: ((b34, .cells #[.int .i64 n, .slice a27 n31 c28] 27 (0, 0)) :: (Lb29 ++ (Lb49 ++ (Lb223 ++ [])))))) ∧ e1.sub [(8, .pointer (some ⟨b17, 0, none⟩)), (9, .pointer (some ⟨b34, 0, none⟩)), (10, .pointer (some ⟨b54, 0, none⟩)), (11, .slice a47 n51 c48), (23, .int .i64 n8), (24, .slice a221 n225 c222), (25, .int .i64 n9), (173, .bool k4)]) ?_ ?_
 · clear r231
   refine shW_region (om rfl rfl ?_)
   refine ov (v_neq rfl rfl) rfl ?_
   refine om rfl rfl ?_
   by_cases c232 : n10 ≠ 0
   · have r233 := ite_t h230 c232; clear h230
     refine shO_off (b' := true) 154 rfl (Env.isT rfl c232) rfl rfl (shO_off (b' := true) 154 rfl (Env.isT rfl c232) rfl rfl ?_)
     refine ov (v_pick_t (evD_true rfl c232) rfl) rfl ?_
     refine om rfl rfl (shO_off (b' := true) 158 rfl rfl rfl rfl (shO_off (b' := true) 158 rfl rfl rfl rfl (shO_off (b' := true) 158 rfl rfl rfl rfl ?_)))
     refine ov (v_pick_t rfl rfl) rfl ?_
     refine om rfl rfl (shO_off (b' := true) 163 rfl rfl rfl rfl (shO_off (b' := true) 163 rfl rfl rfl rfl (shO_off (b' := true) 163 rfl rfl rfl rfl (shO_off (b' := true) 163 rfl rfl rfl rfl ?_))))
     refine ov (v_pick_t rfl rfl) rfl ?_
     refine om rfl rfl (shO_off (b' := true) 169 rfl rfl rfl rfl (shO_off (b' := true) 169 rfl rfl rfl rfl (shO_off (b' := true) 169 rfl rfl rfl rfl ?_)))
     refine ov (v_pick_t rfl rfl) rfl ?_
     refine shO_nil ?_
     obtain rfl := inj1 r233
     exact mi (kc (kc (kc (kg (fS fP) (kg (fS fP) kr))))) ⟨rfl, rfl, (sc rfl (sc rfl (sc rfl (sc rfl (sc rfl (sc rfl (sc rfl (sc rfl (sn _)))))))))⟩
   have r234 := ite_f h230 c232; clear h230
   refine shO_on (b := false) 154 rfl (Env.isF rfl c232) (om rfl rfl (shO_on (b := false) 154 rfl (Env.isF rfl c232) ?_))
   refine ov (v_notB rfl) rfl ?_
   refine ov (v_pick_f (evD_false rfl c232) rfl) rfl ?_
   refine om rfl rfl ?_
   rcases bool_two (!ok2) with c235 | c235
   · have r236 := bt r234 c235; clear r234
     refine shO_off (b' := true) 158 rfl (EnvB rfl c235) rfl rfl (shO_off (b' := true) 158 rfl (EnvB rfl c235) rfl rfl (shO_off (b' := true) 158 rfl (EnvB rfl c235) rfl rfl ?_))
     refine ov (v_pick_t (evB rfl c235) rfl) rfl ?_
     refine om rfl rfl (shO_off (b' := true) 163 rfl rfl rfl rfl (shO_off (b' := true) 163 rfl rfl rfl rfl (shO_off (b' := true) 163 rfl rfl rfl rfl (shO_off (b' := true) 163 rfl rfl rfl rfl ?_))))
     refine ov (v_pick_t rfl rfl) rfl ?_
     refine om rfl rfl (shO_off (b' := true) 169 rfl rfl rfl rfl (shO_off (b' := true) 169 rfl rfl rfl rfl (shO_off (b' := true) 169 rfl rfl rfl rfl ?_)))
     refine ov (v_pick_t rfl rfl) rfl ?_
     refine shO_nil ?_
     obtain rfl := inj1 r236
     exact mi (kc (kc (kc (kg (fS fP) (kg (fS fP) kr))))) ⟨rfl, rfl, (sc rfl (sc rfl (sc rfl (sc rfl (sc rfl (sc rfl (sc rfl (sc rfl (sn _)))))))))⟩
   have r237 := bf r234 c235; clear r234
   refine shO_on (b := false) 158 rfl (EnvB rfl c235) (om rfl rfl (shO_on (b := false) 158 rfl (EnvB rfl c235) (om rfl rfl (shO_on (b := false) 158 rfl (EnvB rfl c235) ?_))))
   refine ov (v_neq rfl rfl) rfl ?_
   refine ov (v_pick_f (evB rfl c235) rfl) rfl ?_
   refine om rfl rfl ?_
   by_cases c238 : n11 ≠ n9
   · have r239 := ite_t r237 c238; clear r237
     refine shO_off (b' := true) 163 rfl (Env.isT rfl c238) rfl rfl (shO_off (b' := true) 163 rfl (Env.isT rfl c238) rfl rfl (shO_off (b' := true) 163 rfl (Env.isT rfl c238) rfl rfl (shO_off (b' := true) 163 rfl (Env.isT rfl c238) rfl rfl ?_)))
     refine ov (v_pick_t (evD_true rfl c238) rfl) rfl ?_
     refine om rfl rfl (shO_off (b' := true) 169 rfl rfl rfl rfl (shO_off (b' := true) 169 rfl rfl rfl rfl (shO_off (b' := true) 169 rfl rfl rfl rfl ?_)))
     refine ov (v_pick_t rfl rfl) rfl ?_
     refine shO_nil ?_
     obtain rfl := inj1 r239
     exact mi (kc (kc (kc (kg (fS fP) (kg (fS fP) kr))))) ⟨rfl, rfl, (sc rfl (sc rfl (sc rfl (sc rfl (sc rfl (sc rfl (sc rfl (sc rfl (sn _)))))))))⟩
   have r240 := ite_f r237 c238; clear r237
   refine shO_on (b := false) 163 rfl (Env.isF rfl c238) (om rfl rfl (shO_on (b := false) 163 rfl (Env.isF rfl c238) ?_))
   refine ov ((v_lenS Try.underlying36 rfl).i (SlR.lenI hz224)) rfl ?_
   refine shO_on (b := false) 163 rfl (Env.isF rfl c238) (om rfl rfl (shO_on (b := false) 163 rfl (Env.isF rfl c238) ?_))
   refine ov (v_gtrK rfl rfl) rfl ?_
   refine ov (v_pick_f (evD_false rfl c238) rfl) rfl ?_
   refine om rfl rfl ?_
   by_cases c241 : n8 < (l8.length : Int)
   · have r242 := ite_t r240 c241; clear r240
     refine shO_off (b' := true) 169 rfl (Env.isT rfl c241) rfl rfl (shO_off (b' := true) 169 rfl (Env.isT rfl c241) rfl rfl (shO_off (b' := true) 169 rfl (Env.isT rfl c241) rfl rfl ?_))
     refine ov (v_pick_t (evD_true rfl c241) rfl) rfl ?_
     refine shO_nil ?_
     obtain rfl := inj1 r242
     exact mi (kc (kc (kc (kg (fS fP) (kg (fS fP) kr))))) ⟨rfl, rfl, (sc rfl (sc rfl (sc rfl (sc rfl (sc rfl (sc rfl (sc rfl (sc rfl (sn _)))))))))⟩
   have r243 := ite_f r240 c241; clear r240
   refine shO_on (b := false) 169 rfl (Env.isF rfl c241) (om rfl rfl (shO_on (b := false) 169 rfl (Env.isF rfl c241) ?_))
   obtain ⟨ok3, h244, r245⟩ := b1_ok r243; clear r243
   refine o_callT (Lt := Lb223 ++ []) (Lr := (b17, .cells #[.slice a18 metal2.length c19, .int .i64 at_5, .int .u32 turn5] 69 (0, 0)) :: ((b54, .cells #[.int .i64 n2, .int .i64 n3] 31 (0, 0)) :: ((b34, .cells #[.int .i64 n, .slice a27 n31 c28] 27 (0, 0)) :: (Lb29 ++ (Lb49 ++ []))))) rfl Try.call26 rfl rfl rfl (pT ((fC (fC (fC fP))).trans (pA pR)) (lp (ln rfl))) (fun F2 h2 h3 => by rw [(SlR.caps hz224).1]; exact slices_IsSorted_int_int_w (hz224.row (iE_ok _) h2 (fun p hp => h3 p (List.mem_append_left _ hp))) h244) ?_
   refine shO_on (b := false) 169 rfl (Env.isF rfl c241) ?_
   refine ov (v_notB rfl) rfl ?_
   refine ov (v_pick_f (evD_false rfl c241) rfl) rfl ?_
   refine shO_nil ?_
   obtain rfl := inj1 r245
   exact mi (kc (kc (kc (kg (fS fP) (kg (fS fP) kr))))) ⟨rfl, rfl, (sc rfl (sc rfl (sc rfl (sc rfl (sc rfl (sc rfl (sc rfl (sc rfl (sn _)))))))))⟩
 rintro e1 _ _ ⟨rfl, rfl, he246⟩
 refine shW_env _ he246 ?_; clear he246
 refine shW_cond rfl (fun c247 => ?_) (fun c247 => ?_)
 · have r248 := bt r231 c247; clear r231
   refine wsr (oa rfl rfl (shO_nil ?_))
   refine kW kn ?_
   refine shW_ret (andThen_ret ?_)
   refine q_res1 Try.results4 (res_tmp rfl) (sr) ?_
   obtain rfl := inj1 r248
   exact rfl
 have r249 := bf r231 c247; clear r231
 refine shW_skip ?_
 refine shW_join (fun e1 F1 L1 => oyezlaw01_HearLouder_j3 n l n2 l2 n8 = some r ∧ FExt F217 F1 ∧ L1 = ((b54, .cells #[.int .i64 n2, .int .i64 n3] 31 (0, 0)) :: ((b34, .cells #[.int .i64 n, .slice a27 n31 c28] 27 (0, 0)) :: (Lb29 ++ (Lb49 ++ [])))) ∧ e1.sub [(9, .pointer (some ⟨b34, 0, none⟩)), (10, .pointer (some ⟨b54, 0, none⟩)), (11, .slice a47 n51 c48), (23, .int .i64 n8)]) ?_ ?_
 · refine wsr (om rfl rfl (shO_nil ?_))
   refine shW_block ?_
   obtain ⟨g250, r251⟩ := gd_ok r249; clear r249
   refine shW_lp (fun fu4 e1 F1 L1 => ∃ (k5 : Int), Ctr 0 6 k5 fu4 ∧ ∃ (q_at : Int) (q_turn : Int), oyezlaw01_HearLouder_l4 metal2 n l n2 n3 l2 n8 l8 n9 fu4 q_at q_turn = some r ∧ FExt F217 F1 ∧ L1 = ((b17, .cells #[.slice a18 metal2.length c19, .int .i64 q_at, .int .u32 q_turn] 69 (0, 0)) :: ((b54, .cells #[.int .i64 n2, .int .i64 n3] 31 (0, 0)) :: ((b34, .cells #[.int .i64 n, .slice a27 n31 c28] 27 (0, 0)) :: (Lb29 ++ (Lb49 ++ (Lb223 ++ [])))))) ∧ e1.sub [(8, .pointer (some ⟨b17, 0, none⟩)), (9, .pointer (some ⟨b34, 0, none⟩)), (10, .pointer (some ⟨b54, 0, none⟩)), (11, .slice a47 n51 c48), (23, .int .i64 n8), (24, .slice a221 n225 c222), (25, .int .i64 n9), (174, .int .i64 k5)]) _ (m0 kr ⟨_, Ctr.start _ _, at_5, turn5, r251, FExt.refl _, rfl, (sc rfl (sc rfl (sc rfl (sc rfl (sc rfl (sc rfl (sc rfl (sc rfl (sn _)))))))))⟩) ?_
   rintro fu4 e1 F256 _ ⟨k5, hk252, q_at, q_turn, r254, hF257, rfl, he255⟩
   refine shW_env _ he255 ?_; clear he255
   replace h20 := h20.mono (iE_ok _) hF257
   replace hz30 := hz30.mono (iE_ok _) hF257
   replace hz50 := hz50.mono (iE_ok _) hF257
   replace hz224 := hz224.mono (iE_ok _) hF257
   refine wsr ?_
   refine ov (v_lssK rfl rfl) rfl ?_
   refine shO_nil (shW_seq ?_)
   refine shW_condP rfl (fun c259 => ?_) (fun c259 => ?_)
   · obtain ⟨fu4, rfl, hk260⟩ := Ctr.succ hk252 c259
     rw [oyezlaw01_HearLouder_l4] at r254
     refine shW_skip (shW_seq ?_)
     refine shW_block ?_
     refine wsr (om rfl rfl ?_)
     refine ov (v_loadA (cs := #[.int .i64 n, .slice a27 n31 c28]) Try.isAgg27 Try.sizeOf27 rfl (Has.own 2 rfl) (Nat.le_of_ble_eq_true rfl) rfl) rfl ?_
     refine om rfl rfl ?_
     obtain ⟨l9, at_6, turn6, h261, r262⟩ := b3_ok r254; clear r254
     refine o_callTO (Lb := [(b17, .cells #[.slice a18 metal2.length c19, .int .i64 q_at, .int .u32 q_turn] 69 (0, 0))]) (Lt := Lb29 ++ []) (Lr := (b54, .cells #[.int .i64 n2, .int .i64 n3] 31 (0, 0)) :: ((b34, .cells #[.int .i64 n, .slice a27 n31 c28] 27 (0, 0)) :: (Lb49 ++ (Lb223 ++ [])))) rfl Try.call27 rfl rfl rfl (pT (pC ((fC (fC fP)).trans (pA pR))) (lb (ln (lp (ln rfl))))) (fun F2 h2 h3 => by rw [(SlR.caps hz30).1]; exact oyezlaw01_some_w (h20.mono (iE_ok _) h2) (hz30.row (iE_ok _) h2 (fun p hp => h3 p (List.mem_append_left _ hp))) h261) (fun _ _ _ _ hq => by obtain ⟨a267, n271, c268, Lb269, rfl, rfl, hz270⟩ := hq; exact ⟨_, _, _, _, rfl, rfl, hz270.flat (fun _ _ h => h)⟩) ?_; rintro _ F263 _ hF264 hd266 hn265 ⟨a267, n271, c268, Lb269, rfl, rfl, hz270⟩
     replace hz30 := hz30.mono (iE_ok _) hF264
     replace hz50 := hz50.mono (iE_ok _) hF264
     replace hz224 := hz224.mono (iE_ok _) hF264
     have hn273 := newp (Lb' := [(b17, .cells #[.slice a18 metal2.length c19, .int .i64 at_6, .int .u32 turn6] 69 (0, 0))]) (by rfl) hd266 hn265
     replace hz270 := hz270.new fun p hp => hn273 p (by simp [hp])
     refine shO_L (lb (lp (ln (lp (ln rfl))))) ?_
     refine kO (kc (kf (fS (fS fO)) (kf (fS (fS fO)) kr))) ?_
     refine oa rfl rfl (nsr ?_)
     refine ov (v_loadA (cs := #[.int .i64 n, .slice a27 n31 c28]) Try.isAgg27 Try.sizeOf27 rfl (Has.own 2 rfl) (Nat.le_of_ble_eq_true rfl) rfl) rfl ?_
     refine ov (v_loadA (cs := #[.int .i64 n2, .int .i64 n3]) Try.isAgg31 Try.sizeOf31 rfl (Has.own 1 rfl) (Nat.le_of_ble_eq_true rfl) rfl) rfl ?_
     refine om rfl rfl (om rfl rfl ?_)
     obtain ⟨n12, ok4, h274, r275⟩ := b2_ok r262; clear r262
     refine o_callT (Lt := Lb29 ++ (Lb49 ++ (Lb269 ++ []))) (Lr := (b17, .cells #[.slice a18 metal2.length c19, .int .i64 at_6, .int .u32 turn6] 69 (0, 0)) :: ((b54, .cells #[.int .i64 n2, .int .i64 n3] 31 (0, 0)) :: ((b34, .cells #[.int .i64 n, .slice a27 n31 c28] 27 (0, 0)) :: (Lb223 ++ [])))) rfl Try.call25 rfl rfl rfl (pT ((fC (fC (fC (fS fP)))).trans (pA ((fC (fC (fC (fS fP)))).trans (pA ((fC (fC (fC fP))).trans (pA pR)))))) (lp (lp (lp (ln rfl))))) (fun F2 h2 h3 => by rw [(SlR.caps hz30).1]; rw [(SlR.caps hz50).1]; rw [(SlR.caps hz270).1]; exact oyezlaw01_served_w (hz30.row (iE_ok _) h2 (fun p hp => h3 p (List.mem_append_left _ hp))) (hz50.row (iE_ok _) h2 (fun p hp => h3 p (List.mem_append_right _ (List.mem_append_left _ hp)))) (hz270.row (iE_ok _) h2 (fun p hp => h3 p (List.mem_append_right _ (List.mem_append_right _ (List.mem_append_left _ hp))))) h274) ?_
     refine om rfl rfl (ox rfl rfl rfl (ox rfl rfl rfl (oa rfl rfl (oa rfl rfl (shO_nil ?_)))))
     obtain ⟨k6, h276, r277⟩ := b1_ok r275; clear r275
     refine shW_join (fun e1 F1 L1 => F263 = F1 ∧ L1 = ((b17, .cells #[.slice a18 metal2.length c19, .int .i64 at_6, .int .u32 turn6] 69 (0, 0)) :: ((b54, .cells #[.int .i64 n2, .int .i64 n3] 31 (0, 0)) :: ((b34, .cells #[.int .i64 n, .slice a27 n31 c28] 27 (0, 0)) :: (Lb29 ++ (Lb49 ++ (Lb223 ++ [])))))) ∧ e1.sub [(8, .pointer (some ⟨b17, 0, none⟩)), (9, .pointer (some ⟨b34, 0, none⟩)), (10, .pointer (some ⟨b54, 0, none⟩)), (11, .slice a47 n51 c48), (23, .int .i64 n8), (24, .slice a221 n225 c222), (25, .int .i64 n9), (174, .int .i64 k5), (219, .bool k6)]) ?_ ?_
     · clear r277
       refine shW_region (om rfl rfl ?_)
       refine ov (v_notB rfl) rfl ?_
       refine om rfl rfl ?_
       rcases bool_two (!ok4) with c278 | c278
       · have r279 := bt h276 c278; clear h276
         refine shO_off (b' := true) 190 rfl (EnvB rfl c278) rfl rfl (shO_off (b' := true) 190 rfl (EnvB rfl c278) rfl rfl (shO_off (b' := true) 190 rfl (EnvB rfl c278) rfl rfl ?_))
         refine ov (v_pick_t (evB rfl c278) rfl) rfl ?_
         refine om rfl rfl (shO_off (b' := true) 195 rfl rfl rfl rfl (shO_off (b' := true) 195 rfl rfl rfl rfl (shO_off (b' := true) 195 rfl rfl rfl rfl (shO_off (b' := true) 195 rfl rfl rfl rfl (shO_offU 199 rfl rfl rfl (shO_offU 199 rfl rfl rfl (shO_offU 199 rfl rfl rfl (shO_offU 199 rfl rfl rfl (shO_offU 199 rfl rfl rfl ?_)))))))))
         refine shO_offU 199 rfl rfl rfl (shO_offU 205 rfl rfl rfl (shO_offU 205 rfl rfl rfl (shO_offU 205 rfl rfl rfl (shO_offU 205 rfl rfl rfl (shO_offU 205 rfl rfl rfl (shO_offU 205 rfl rfl rfl (shO_offU 211 rfl rfl rfl (shO_offU 211 rfl rfl rfl (shO_offU 211 rfl rfl rfl ?_)))))))))
         refine shO_offU 211 rfl rfl rfl (shO_offU 205 rfl rfl rfl (shO_offU 199 rfl rfl rfl (shO_off (b' := true) 195 rfl rfl rfl rfl ?_)))
         refine ov (v_pick_t rfl rfl) rfl ?_
         refine shO_nil ?_
         obtain rfl := inj1 r279
         exact mi (kc (kc (kc (kx kr)))) ⟨rfl, rfl, (sc rfl (sc rfl (sc rfl (sc rfl (sc rfl (sc rfl (sc rfl (sc rfl (sc rfl (sn _))))))))))⟩
       have r280 := bf h276 c278; clear h276
       refine shO_on (b := false) 190 rfl (EnvB rfl c278) (om rfl rfl (shO_on (b := false) 190 rfl (EnvB rfl c278) (om rfl rfl (shO_on (b := false) 190 rfl (EnvB rfl c278) ?_))))
       refine ov (v_gtrK rfl rfl) rfl ?_
       refine ov (v_pick_f (evB rfl c278) rfl) rfl ?_
       refine om rfl rfl ?_
       by_cases c281 : n9 < n12
       · have r282 := ite_t r280 c281; clear r280
         refine shO_off (b' := true) 195 rfl (Env.isT rfl c281) rfl rfl (shO_off (b' := true) 195 rfl (Env.isT rfl c281) rfl rfl (shO_off (b' := true) 195 rfl (Env.isT rfl c281) rfl rfl (shO_off (b' := true) 195 rfl (Env.isT rfl c281) rfl rfl (shO_offU 199 rfl rfl rfl (shO_offU 199 rfl rfl rfl (shO_offU 199 rfl rfl rfl (shO_offU 199 rfl rfl rfl (shO_offU 199 rfl rfl rfl (shO_offU 199 rfl rfl rfl ?_)))))))))
         refine shO_offU 205 rfl rfl rfl (shO_offU 205 rfl rfl rfl (shO_offU 205 rfl rfl rfl (shO_offU 205 rfl rfl rfl (shO_offU 205 rfl rfl rfl (shO_offU 205 rfl rfl rfl (shO_offU 211 rfl rfl rfl (shO_offU 211 rfl rfl rfl (shO_offU 211 rfl rfl rfl (shO_offU 211 rfl rfl rfl ?_)))))))))
         refine shO_offU 205 rfl rfl rfl (shO_offU 199 rfl rfl rfl (shO_off (b' := true) 195 rfl (Env.isT rfl c281) rfl rfl ?_))
         refine ov (v_pick_t (evD_true rfl c281) rfl) rfl ?_
         refine shO_nil ?_
         obtain rfl := inj1 r282
         exact mi (kc (kc (kc (kx kr)))) ⟨rfl, rfl, (sc rfl (sc rfl (sc rfl (sc rfl (sc rfl (sc rfl (sc rfl (sc rfl (sc rfl (sn _))))))))))⟩
       have r283 := ite_f r280 c281; clear r280
       refine shO_on (b := false) 195 rfl (Env.isF rfl c281) (om rfl rfl (shO_on (b := false) 195 rfl (Env.isF rfl c281) (om rfl rfl (shO_on (b := false) 195 rfl (Env.isF rfl c281) ?_))))
       refine ov (v_eql rfl rfl) rfl ?_
       refine shO_on (b := false) 195 rfl (Env.isF rfl c281) (om rfl rfl ?_)
       by_cases c284 : n12 = n9
       · have r285 := ite_t r283 c284; clear r283
         refine shO_on (b := true) 199 rfl (Env.isT rfl c284) (om rfl rfl (shO_on (b := true) 199 rfl (Env.isT rfl c284) ?_))
         refine ov ((v_lenS Try.underlying36 rfl).i (SlR.lenI hz270)) rfl ?_
         refine shO_on (b := true) 199 rfl (Env.isT rfl c284) (om rfl rfl (shO_on (b := true) 199 rfl (Env.isT rfl c284) ?_))
         refine ov ((v_lenS Try.underlying36 rfl).i (SlR.lenI hz224)) rfl ?_
         refine shO_on (b := true) 199 rfl (Env.isT rfl c284) ?_
         refine ov (v_lssK rfl rfl) rfl ?_
         refine shO_on (b := true) 199 rfl (Env.isT rfl c284) (om rfl rfl ?_)
         by_cases c286 : (l9.length : Int) < (l8.length : Int)
         · have r287 := ite_t r285 c286; clear r285
           refine shO_off (b' := true) 205 rfl (Env.isT rfl c286) rfl rfl (shO_off (b' := true) 205 rfl (Env.isT rfl c286) rfl rfl (shO_off (b' := true) 205 rfl (Env.isT rfl c286) rfl rfl (shO_off (b' := true) 205 rfl (Env.isT rfl c286) rfl rfl (shO_off (b' := true) 205 rfl (Env.isT rfl c286) rfl rfl (shO_off (b' := true) 205 rfl (Env.isT rfl c286) rfl rfl (shO_offU 211 rfl rfl rfl (shO_offU 211 rfl rfl rfl (shO_offU 211 rfl rfl rfl (shO_offU 211 rfl rfl rfl ?_)))))))))
           refine shO_off (b' := true) 205 rfl (Env.isT rfl c286) rfl rfl (shO_on (b := true) 199 rfl (Env.isT rfl c284) ?_)
           refine ov (v_pick_t (evD_true rfl c286) rfl) rfl ?_
           refine shO_on (b := false) 195 rfl (Env.isF rfl c281) ?_
           refine ov (v_pick_t (evD_true rfl c284) rfl) rfl ?_
           refine ov (v_pick_f (evD_false rfl c281) rfl) rfl ?_
           refine shO_nil ?_
           obtain rfl := inj1 r287
           exact mi (kc (kc (kc (kx kr)))) ⟨rfl, rfl, (sc rfl (sc rfl (sc rfl (sc rfl (sc rfl (sc rfl (sc rfl (sc rfl (sc rfl (sn _))))))))))⟩
         have r288 := ite_f r285 c286; clear r285
         refine shO_on (b := false) 205 rfl (Env.isF rfl c286) (om rfl rfl (shO_on (b := false) 205 rfl (Env.isF rfl c286) ?_))
         refine ov ((v_lenS Try.underlying36 rfl).i (SlR.lenI hz270)) rfl ?_
         refine shO_on (b := false) 205 rfl (Env.isF rfl c286) (om rfl rfl (shO_on (b := false) 205 rfl (Env.isF rfl c286) ?_))
         refine ov ((v_lenS Try.underlying36 rfl).i (SlR.lenI hz224)) rfl ?_
         refine shO_on (b := false) 205 rfl (Env.isF rfl c286) ?_
         refine ov (v_eql rfl rfl) rfl ?_
         refine shO_on (b := false) 205 rfl (Env.isF rfl c286) (om rfl rfl ?_)
         by_cases c289 : (l9.length : Int) = (l8.length : Int)
         · have r290 := ite_t r288 c289; clear r288
           refine shO_on (b := true) 211 rfl (Env.isT rfl c289) (om rfl rfl (shO_on (b := true) 211 rfl (Env.isT rfl c289) (om rfl rfl (shO_on (b := true) 211 rfl (Env.isT rfl c289) ?_))))
           obtain ⟨n13, h291, r292⟩ := b1_ok r290; clear r290
           refine o_callT (Lt := Lb269 ++ (Lb223 ++ [])) (Lr := (b17, .cells #[.slice a18 metal2.length c19, .int .i64 at_6, .int .u32 turn6] 69 (0, 0)) :: ((b54, .cells #[.int .i64 n2, .int .i64 n3] 31 (0, 0)) :: ((b34, .cells #[.int .i64 n, .slice a27 n31 c28] 27 (0, 0)) :: (Lb29 ++ (Lb49 ++ []))))) rfl Try.call28 rfl rfl rfl (pT ((fC (fC (fC fP))).trans (pA ((fC (fC (fC (fS (fS fP))))).trans (pA pR)))) (lp (lp (ln rfl)))) (fun F2 h2 h3 => by rw [(SlR.caps hz270).1]; rw [(SlR.caps hz224).1]; exact slices_Compare_int_int_w (hz270.row (iE_ok _) h2 (fun p hp => h3 p (List.mem_append_left _ hp))) (hz224.row (iE_ok _) h2 (fun p hp => h3 p (List.mem_append_right _ (List.mem_append_left _ hp)))) h291) ?_
           refine shO_on (b := true) 211 rfl (Env.isT rfl c289) ?_
           refine ov (v_lssK rfl rfl) rfl ?_
           refine shO_on (b := false) 205 rfl (Env.isF rfl c286) ?_
           refine ov (v_pick_t (evD_true rfl c289) rfl) rfl ?_
           refine shO_on (b := true) 199 rfl (Env.isT rfl c284) ?_
           refine ov (v_pick_f (evD_false rfl c286) rfl) rfl ?_
           refine shO_on (b := false) 195 rfl (Env.isF rfl c281) ?_
           refine ov (v_pick_t (evD_true rfl c284) rfl) rfl ?_
           refine ov (v_pick_f (evD_false rfl c281) rfl) rfl ?_
           refine shO_nil ?_
           obtain rfl := inj1 r292
           exact mi (kc (kc (kc (kx kr)))) ⟨rfl, rfl, (sc rfl (sc rfl (sc rfl (sc rfl (sc rfl (sc rfl (sc rfl (sc rfl (sc rfl (sn _))))))))))⟩
         have r293 := ite_f r288 c289; clear r288
         refine shO_off (b' := false) 211 rfl (Env.isF rfl c289) rfl rfl (shO_off (b' := false) 211 rfl (Env.isF rfl c289) rfl rfl (shO_off (b' := false) 211 rfl (Env.isF rfl c289) rfl rfl (shO_off (b' := false) 211 rfl (Env.isF rfl c289) rfl rfl (shO_on (b := false) 205 rfl (Env.isF rfl c286) ?_))))
         refine ov (v_pick_f (evD_false rfl c289) rfl) rfl ?_
         refine shO_on (b := true) 199 rfl (Env.isT rfl c284) ?_
         refine ov (v_pick_f (evD_false rfl c286) rfl) rfl ?_
         refine shO_on (b := false) 195 rfl (Env.isF rfl c281) ?_
         refine ov (v_pick_t (evD_true rfl c284) rfl) rfl ?_
         refine ov (v_pick_f (evD_false rfl c281) rfl) rfl ?_
         refine shO_nil ?_
         obtain rfl := inj1 r293
         exact mi (kc (kc (kc (kx kr)))) ⟨rfl, rfl, (sc rfl (sc rfl (sc rfl (sc rfl (sc rfl (sc rfl (sc rfl (sc rfl (sc rfl (sn _))))))))))⟩
       have r294 := ite_f r283 c284; clear r283
       refine shO_off (b' := false) 199 rfl (Env.isF rfl c284) rfl rfl (shO_off (b' := false) 199 rfl (Env.isF rfl c284) rfl rfl (shO_off (b' := false) 199 rfl (Env.isF rfl c284) rfl rfl (shO_off (b' := false) 199 rfl (Env.isF rfl c284) rfl rfl (shO_off (b' := false) 199 rfl (Env.isF rfl c284) rfl rfl (shO_off (b' := false) 199 rfl (Env.isF rfl c284) rfl rfl (shO_offU 205 rfl rfl rfl (shO_offU 205 rfl rfl rfl (shO_offU 205 rfl rfl rfl (shO_offU 205 rfl rfl rfl ?_)))))))))
       refine shO_offU 205 rfl rfl rfl (shO_offU 205 rfl rfl rfl (shO_offU 211 rfl rfl rfl (shO_offU 211 rfl rfl rfl (shO_offU 211 rfl rfl rfl (shO_offU 211 rfl rfl rfl (shO_offU 205 rfl rfl rfl (shO_off (b' := false) 199 rfl (Env.isF rfl c284) rfl rfl (shO_on (b := false) 195 rfl (Env.isF rfl c281) ?_))))))))
       refine ov (v_pick_f (evD_false rfl c284) rfl) rfl ?_
       refine ov (v_pick_f (evD_false rfl c281) rfl) rfl ?_
       refine shO_nil ?_
       obtain rfl := inj1 r294
       exact mi (kc (kc (kc (kx kr)))) ⟨rfl, rfl, (sc rfl (sc rfl (sc rfl (sc rfl (sc rfl (sc rfl (sc rfl (sc rfl (sc rfl (sn _))))))))))⟩
     rintro e1 _ _ ⟨rfl, rfl, he295⟩
     refine shW_env _ he295 ?_; clear he295
     refine shW_cond rfl (fun c296 => ?_) (fun c296 => ?_)
     · have r297 := bt r277 c296; clear r277
       refine wsr (oa rfl rfl (shO_nil ?_))
       refine kW kn ?_
       refine shW_ret (inBlock_ret (andThen_ret (andThen_ret (inBlock_ret (andThen_ret ?_)))))
       refine q_res1 Try.results4 (res_tmp rfl) (sr) ?_
       obtain rfl := inj1 r297
       exact rfl
     have r298 := bf r277 c296; clear r277
     refine shW_skip (inBlock_n (id := 3) (shW_region ?_))
     refine ov (v_add rfl rfl (Ctr.r64 hk252 c259 g250)) rfl ?_
     refine om rfl rfl (shO_nil ?_)
     exact le kr ⟨_, hk260, at_6, turn6, r298, (hF257.trans hF264), rfl, (sc rfl (sc rfl (sc rfl (sc rfl (sc rfl (sc rfl (sc rfl (sc rfl (sn _)))))))))⟩
   obtain rfl := Ctr.zero hk252 c259
   rw [oyezlaw01_HearLouder_l4] at r254
   refine shW_exit (andThen_exit (andThen_exit ?_))
   refine inBlock_exit ?_
   exact mi (kd (kc (kc (ka (ka kn))))) ⟨r254, hF257, rfl, (sc rfl (sc rfl (sc rfl (sc rfl (sn _)))))⟩
 rintro e1 F301 _ ⟨r299, hF302, rfl, he300⟩
 refine shW_env _ he300 ?_; clear he300
 replace hz30 := hz30.mono (iE_ok _) hF302
 replace hz50 := hz50.mono (iE_ok _) hF302
 rw [oyezlaw01_HearLouder_j3] at r299
 refine wsr ?_
 refine ov (v_loadA (cs := #[.int .i64 n, .slice a27 n31 c28]) Try.isAgg27 Try.sizeOf27 rfl (Has.own 1 rfl) (Nat.le_of_ble_eq_true rfl) rfl) rfl ?_
 refine ov (v_fieldAddr fa_31_0 rfl) rfl ?_
 refine ov (v_load Try.isAgg29 rfl (Has.own 0 rfl) rfl) rfl ?_
 refine om rfl rfl (om rfl rfl ?_)
 obtain ⟨n14, n15, h303, r304⟩ := b2_ok r299; clear r299
 refine o_callT (Lt := Lb29 ++ (Lb49 ++ [])) (Lr := [(b54, .cells #[.int .i64 n2, .int .i64 n3] 31 (0, 0)), (b34, .cells #[.int .i64 n, .slice a27 n31 c28] 27 (0, 0))]) rfl Try.call17 rfl rfl rfl (pT ((fC (fC fP)).trans (pA ((fC (fC fP)).trans (pA pR)))) (lp (lp (ln rfl)))) (fun F2 h2 h3 => by rw [(SlR.caps hz30).1]; rw [(SlR.caps hz50).1]; exact hear_Louder_w (hz30.row (iE_ok _) h2 (fun p hp => h3 p (List.mem_append_left _ hp))) (hz50.row (iE_ok _) h2 (fun p hp => h3 p (List.mem_append_right _ (List.mem_append_left _ hp)))) h303) ?_
 refine om rfl rfl (ox rfl rfl rfl (ox rfl rfl rfl (oa rfl rfl (oa rfl rfl (shO_nil ?_)))))
 refine shW_join (fun e1 F1 L1 => ∃ (v : Int), oyezlaw01_HearLouder_j5 n l n2 l2 n8 v = some r ∧ F301 = F1 ∧ L1 = ((b54, .cells #[.int .i64 n2, .int .i64 n3] 31 (0, 0)) :: ((b34, .cells #[.int .i64 n, .slice a27 n31 c28] 27 (0, 0)) :: (Lb29 ++ (Lb49 ++ [])))) ∧ e1.sub [(9, .pointer (some ⟨b34, 0, none⟩)), (10, .pointer (some ⟨b54, 0, none⟩)), (11, .slice a47 n51 c48), (23, .int .i64 n8), (31, .int .i64 v)]) ?_ ?_
 · refine wsr (om rfl rfl ?_)
   refine ov (v_eql rfl rfl) rfl ?_
   refine shO_nil ?_
   refine shW_condP rfl (fun c305 => ?_) (fun c305 => ?_)
   · have r306 := ite_t r304 c305; clear r304
     refine shW_region (oa rfl rfl (shO_nil ?_))
     exact mi kr ⟨41, r306, rfl, rfl, (sc rfl (sc rfl (sc rfl (sc rfl (sc rfl (sn _))))))⟩
   have r307 := ite_f r304 c305; clear r304
   obtain ⟨k7, h308, r309⟩ := b1_ok r307; clear r307
   refine shW_join (fun e1 F1 L1 => F301 = F1 ∧ L1 = ((b54, .cells #[.int .i64 n2, .int .i64 n3] 31 (0, 0)) :: ((b34, .cells #[.int .i64 n, .slice a27 n31 c28] 27 (0, 0)) :: (Lb29 ++ (Lb49 ++ [])))) ∧ e1.sub [(9, .pointer (some ⟨b34, 0, none⟩)), (10, .pointer (some ⟨b54, 0, none⟩)), (11, .slice a47 n51 c48), (23, .int .i64 n8), (31, .int .i64 n14), (241, .bool k7)]) ?_ ?_
   · clear r309
     refine shW_region (om rfl rfl ?_)
     refine ov (v_neq rfl rfl) rfl ?_
     refine om rfl rfl ?_
     by_cases c310 : n15 ≠ 0
     · have r311 := ite_t h308 c310; clear h308
       refine shO_off (b' := true) 234 rfl (Env.isT rfl c310) rfl rfl (shO_off (b' := true) 234 rfl (Env.isT rfl c310) rfl rfl ?_)
       refine ov (v_pick_t (evD_true rfl c310) rfl) rfl ?_
       refine om rfl rfl (shO_off (b' := true) 238 rfl rfl rfl rfl (shO_off (b' := true) 238 rfl rfl rfl rfl ?_))
       refine ov (v_pick_t rfl rfl) rfl ?_
       refine shO_nil ?_
       obtain rfl := inj1 r311
       exact mi kr ⟨rfl, rfl, (sc rfl (sc rfl (sc rfl (sc rfl (sc rfl (sc rfl (sn _)))))))⟩
     have r312 := ite_f h308 c310; clear h308
     refine shO_on (b := false) 234 rfl (Env.isF rfl c310) (om rfl rfl (shO_on (b := false) 234 rfl (Env.isF rfl c310) ?_))
     refine ov (v_lssK rfl rfl) rfl ?_
     refine ov (v_pick_f (evD_false rfl c310) rfl) rfl ?_
     refine om rfl rfl ?_
     by_cases c313 : n14 < 1
     · have r314 := ite_t r312 c313; clear r312
       refine shO_off (b' := true) 238 rfl (Env.isT rfl c313) rfl rfl (shO_off (b' := true) 238 rfl (Env.isT rfl c313) rfl rfl ?_)
       refine ov (v_pick_t (evD_true rfl c313) rfl) rfl ?_
       refine shO_nil ?_
       obtain rfl := inj1 r314
       exact mi kr ⟨rfl, rfl, (sc rfl (sc rfl (sc rfl (sc rfl (sc rfl (sc rfl (sn _)))))))⟩
     have r315 := ite_f r312 c313; clear r312
     refine shO_on (b := false) 238 rfl (Env.isF rfl c313) (om rfl rfl (shO_on (b := false) 238 rfl (Env.isF rfl c313) ?_))
     refine ov (v_gtrK rfl rfl) rfl ?_
     refine ov (v_pick_f (evD_false rfl c313) rfl) rfl ?_
     refine shO_nil ?_
     obtain rfl := inj1 r315
     exact mi kr ⟨rfl, rfl, (sc rfl (sc rfl (sc rfl (sc rfl (sc rfl (sc rfl (sn _)))))))⟩
   rintro e1 _ _ ⟨rfl, rfl, he316⟩
   refine shW_env _ he316 ?_; clear he316
   refine shW_cond rfl (fun c317 => ?_) (fun c317 => ?_)
   · have r318 := bt r309 c317; clear r309
     refine wsr (oa rfl rfl (shO_nil ?_))
     refine kW kn ?_
     refine shW_ret (andThen_ret ?_)
     refine q_res1 Try.results4 (res_tmp rfl) (sr) ?_
     obtain rfl := inj1 r318
     exact rfl
   have r319 := bf r309 c317; clear r309
   refine shW_skip ?_
   exact mi kr ⟨n14, r319, rfl, rfl, (sc rfl (sc rfl (sc rfl (sc rfl (sc rfl (sn _))))))⟩
 rintro e1 _ _ ⟨v, r320, rfl, rfl, he321⟩
 refine shW_env _ he321 ?_; clear he321
 rw [oyezlaw01_HearLouder_j5] at r320
 refine shW_join (fun e1 F1 L1 => oyezlaw01_HearLouder_j6 = some r ∧ FExt F301 F1 ∧ L1 = [] ∧ e1.sub []) ?_ ?_
 · refine wsr (om rfl rfl ?_)
   obtain ⟨g322, r323⟩ := gd_ok r320; clear r320
   refine ov (v_sub rfl rfl g322) rfl ?_
   refine om rfl rfl ?_
   refine o_buildSlice (cs := #[.int .i64 (v - 1), .int .i64 v]) rfl rfl (buildSlice_all slt_36 [.int .i64 (v - 1), .int .i64 v] rfl (by decide) (by simp [Value.cells]) (by decide)) ?_; intro b324 hb324
   refine ov (v_lenS Try.underlying36 rfl) rfl ?_
   refine om rfl rfl (shO_nil ?_)
   refine shW_block ?_
   refine shW_freeze 0 rfl hb324 ?_; intro F325 hF326 hz327
   refine shW_L (L' := (b54, .cells #[.int .i64 n2, .int .i64 n3] 31 (0, 0)) :: ((b34, .cells #[.int .i64 n, .slice a27 n31 c28] 27 (0, 0)) :: (Lb29 ++ (Lb49 ++ [])))) rfl ?_
   replace hz30 := hz30.mono (iE_ok _) hF326
   replace hz50 := hz50.mono (iE_ok _) hF326
   have h328 : RowR 1 (iE .i64) F325 (some ⟨b324, 0, none⟩) 2 [v - 1, v] := RowR.of_block (iE_ok _) (vss := [[.int .i64 (v - 1)], [.int .i64 v]]) (xs := [v - 1, v]) hz327 (.cons rfl (.cons rfl .nil)) rfl (by simp [maxLen])
   obtain ⟨g329, r330⟩ := gd_ok r323; clear r323
   refine shW_lp (fun fu7 e1 F1 L1 => ∃ (k8 : Int), Ctr 0 2 k8 fu7 ∧ oyezlaw01_HearLouder_l7 n l n2 l2 n8 v fu7 k8 = some r ∧ FExt F325 F1 ∧ L1 = ((b54, .cells #[.int .i64 n2, .int .i64 n3] 31 (0, 0)) :: ((b34, .cells #[.int .i64 n, .slice a27 n31 c28] 27 (0, 0)) :: (Lb29 ++ (Lb49 ++ [])))) ∧ e1.sub [(9, .pointer (some ⟨b34, 0, none⟩)), (10, .pointer (some ⟨b54, 0, none⟩)), (11, .slice a47 n51 c48), (23, .int .i64 n8), (245, .slice (some ⟨b324, 0, none⟩) [v - 1, v].length 2), (246, .int .i64 2), (247, .int .i64 k8)]) _ (m0 kr ⟨_, Ctr.start _ _, r330, FExt.refl _, rfl, (sc rfl (sc rfl (sc rfl (sc rfl (sc rfl (sc rfl (sc rfl (sn _))))))))⟩) ?_
   rintro fu7 e1 F335 _ ⟨k8, hk331, r333, hF336, rfl, he334⟩
   refine shW_env _ he334 ?_; clear he334
   replace h328 := h328.mono (iE_ok _) hF336
   replace hz30 := hz30.mono (iE_ok _) hF336
   replace hz50 := hz50.mono (iE_ok _) hF336
   refine wsr ?_
   refine ov (v_lssK rfl rfl) rfl ?_
   refine shO_nil (shW_seq ?_)
   refine shW_condP rfl (fun c338 => ?_) (fun c338 => ?_)
   · obtain ⟨fu7, rfl, hk339⟩ := Ctr.succ hk331 c338
     rw [oyezlaw01_HearLouder_l7] at r333
     refine shW_skip (shW_seq ?_)
     refine shW_block ?_
     refine wsr (om rfl rfl ?_)
     obtain ⟨x2, g340, hx341, r342⟩ := ix_ok r333; clear r333
     obtain ⟨b343, o344, c345, vs346, ha347, hs348, hle349, rfl, hl350, hc351⟩ := RowR.at (iE_ok _) h328 ((b54, .cells #[.int .i64 n2, .int .i64 n3] 31 (0, 0)) :: ((b34, .cells #[.int .i64 n, .slice a27 n31 c28] 27 (0, 0)) :: (Lb29 ++ (Lb49 ++ [])))) g340.1 hx341
     refine ov (v_indexO Try.underlying36 Try.sizeOf3 rfl ha347 rfl g340) rfl ?_
     refine ov (v_load Try.isAgg3 rfl hs348 (hc351 0 (by decide))) rfl ?_
     refine oa rfl rfl (oa rfl rfl (shO_nil (shW_seq ?_)))
     obtain ⟨k9, h352, r353⟩ := b1_ok r342; clear r342
     refine shW_join (fun e1 F1 L1 => F335 = F1 ∧ L1 = ((b54, .cells #[.int .i64 n2, .int .i64 n3] 31 (0, 0)) :: ((b34, .cells #[.int .i64 n, .slice a27 n31 c28] 27 (0, 0)) :: (Lb29 ++ (Lb49 ++ [])))) ∧ e1.sub [(9, .pointer (some ⟨b34, 0, none⟩)), (10, .pointer (some ⟨b54, 0, none⟩)), (11, .slice a47 n51 c48), (23, .int .i64 n8), (32, .int .i64 k8), (33, .int .i64 x2), (245, .slice (some ⟨b324, 0, none⟩) [v - 1, v].length 2), (246, .int .i64 2), (247, .int .i64 k8), (257, .bool k9)]) ?_ ?_
     · clear r353
       refine shW_region (om rfl rfl ?_)
       refine ov (v_lssK rfl rfl) rfl ?_
       refine om rfl rfl ?_
       by_cases c354 : x2 < 1
       · have r355 := ite_t h352 c354; clear h352
         refine shO_off (b' := true) 254 rfl (Env.isT rfl c354) rfl rfl (shO_off (b' := true) 254 rfl (Env.isT rfl c354) rfl rfl ?_)
         refine ov (v_pick_t (evD_true rfl c354) rfl) rfl ?_
         refine shO_nil ?_
         obtain rfl := inj1 r355
         exact mi kr ⟨rfl, rfl, (sc rfl (sc rfl (sc rfl (sc rfl (sc rfl (sc rfl (sc rfl (sc rfl (sc rfl (sc rfl (sn _)))))))))))⟩
       have r356 := ite_f h352 c354; clear h352
       refine shO_on (b := false) 254 rfl (Env.isF rfl c354) (om rfl rfl (shO_on (b := false) 254 rfl (Env.isF rfl c354) ?_))
       refine ov (v_gtrK rfl rfl) rfl ?_
       refine ov (v_pick_f (evD_false rfl c354) rfl) rfl ?_
       refine shO_nil ?_
       obtain rfl := inj1 r356
       exact mi kr ⟨rfl, rfl, (sc rfl (sc rfl (sc rfl (sc rfl (sc rfl (sc rfl (sc rfl (sc rfl (sc rfl (sc rfl (sn _)))))))))))⟩
     rintro e1 _ _ ⟨rfl, rfl, he357⟩
     refine shW_env _ he357 ?_; clear he357
     refine shW_cond rfl (fun c358 => ?_) (fun c358 => ?_)
     · have r359 := bt r353 c358; clear r353
       refine shW_exit (andThen_exit ?_)
       refine inBlock_exit ?_
       refine shW_region ?_
       refine ov (v_add rfl rfl (Ctr.r64 hk331 c338 g329)) rfl ?_
       refine om rfl rfl (shO_nil ?_)
       exact le kr ⟨_, hk339, r359, hF336, rfl, (sc rfl (sc rfl (sc rfl (sc rfl (sc rfl (sc rfl (sc rfl (sn _))))))))⟩
     have r360 := bf r353 c358; clear r353
     refine shW_skip (wsr ?_)
     refine ov (v_loadA (cs := #[.int .i64 n, .slice a27 n31 c28]) Try.isAgg27 Try.sizeOf27 rfl (Has.own 1 rfl) (Nat.le_of_ble_eq_true rfl) rfl) rfl ?_
     refine ov (v_fieldAddr fa_31_0 rfl) rfl ?_
     refine ov (v_load Try.isAgg29 rfl (Has.own 0 rfl) rfl) rfl ?_
     refine om rfl rfl ?_
     refine ov (v_build (v := .agg #[.int .i64 n2, .int .i64 x2]) rfl (by intro w; kernel_rfl)) rfl ?_
     refine om rfl rfl (om rfl rfl ?_)
     obtain ⟨l10, n16, n17, h361, r362⟩ := b3_ok r360; clear r360
     refine o_callTO (Lb := []) (Lt := Lb29 ++ (Lb49 ++ [])) (Lr := [(b54, .cells #[.int .i64 n2, .int .i64 n3] 31 (0, 0)), (b34, .cells #[.int .i64 n, .slice a27 n31 c28] 27 (0, 0))]) rfl Try.call24 rfl rfl rfl (pT ((fC (fC fP)).trans (pA ((fC (fC fP)).trans (pA pR)))) (ln (lp (lp (ln rfl))))) (fun F2 h2 h3 => by rw [(SlR.caps hz30).1]; rw [(SlR.caps hz50).1]; exact hear_Best_w (hz30.row (iE_ok _) h2 (fun p hp => h3 p (List.mem_append_left _ hp))) (hz50.row (iE_ok _) h2 (fun p hp => h3 p (List.mem_append_right _ (List.mem_append_left _ hp)))) h361) (fun _ _ _ _ hq => by obtain ⟨a367, n371, c368, Lb369, rfl, rfl, hz370⟩ := hq; exact ⟨_, _, _, _, rfl, rfl, hz370.flat (fun _ _ h => h)⟩) ?_; rintro _ F363 _ hF364 hd366 hn365 ⟨a367, n371, c368, Lb369, rfl, rfl, hz370⟩
     replace hz50 := hz50.mono (iE_ok _) hF364
     refine shO_L (lp (ln (lp (lp (ln rfl))))) ?_
     refine kO (kf (fS (fS (fS fO))) (kf (fS (fS (fS fO))) kr)) ?_
     refine om rfl rfl (ox rfl rfl rfl (ox rfl rfl rfl (ox rfl rfl rfl (oa rfl rfl (oa rfl rfl (oa rfl rfl (shO_nil ?_)))))))
     obtain ⟨k10, h374, r375⟩ := b1_ok r362; clear r362
     refine shW_join (fun e1 F1 L1 => F363 = F1 ∧ L1 = ((b54, .cells #[.int .i64 n2, .int .i64 n3] 31 (0, 0)) :: ((b34, .cells #[.int .i64 n, .slice a27 n31 c28] 27 (0, 0)) :: (Lb29 ++ (Lb49 ++ [])))) ∧ e1.sub [(9, .pointer (some ⟨b34, 0, none⟩)), (10, .pointer (some ⟨b54, 0, none⟩)), (11, .slice a47 n51 c48), (23, .int .i64 n8), (245, .slice (some ⟨b324, 0, none⟩) [v - 1, v].length 2), (246, .int .i64 2), (247, .int .i64 k8), (280, .bool k10)]) ?_ ?_
     · clear r375
       refine shW_region (om rfl rfl ?_)
       refine ov (v_neq rfl rfl) rfl ?_
       refine om rfl rfl ?_
       by_cases c376 : n17 ≠ 0
       · have r377 := ite_t h374 c376; clear h374
         refine shO_off (b' := true) 272 rfl (Env.isT rfl c376) rfl rfl (shO_off (b' := true) 272 rfl (Env.isT rfl c376) rfl rfl (shO_off (b' := true) 272 rfl (Env.isT rfl c376) rfl rfl (shO_off (b' := true) 272 rfl (Env.isT rfl c376) rfl rfl (shO_off (b' := true) 272 rfl (Env.isT rfl c376) rfl rfl (shO_off (b' := true) 272 rfl (Env.isT rfl c376) rfl rfl (shO_off (b' := true) 272 rfl (Env.isT rfl c376) rfl rfl ?_))))))
         refine ov (v_pick_t (evD_true rfl c376) rfl) rfl ?_
         refine shO_nil ?_
         obtain rfl := inj1 r377
         exact mi (kc (kc (kx kr))) ⟨rfl, rfl, (sc rfl (sc rfl (sc rfl (sc rfl (sc rfl (sc rfl (sc rfl (sc rfl (sn _)))))))))⟩
       have r378 := ite_f h374 c376; clear h374
       refine shO_on (b := false) 272 rfl (Env.isF rfl c376) (om rfl rfl (shO_on (b := false) 272 rfl (Env.isF rfl c376) (om rfl rfl (shO_on (b := false) 272 rfl (Env.isF rfl c376) ?_))))
       refine ov ((v_lenS Try.underlying36 rfl).i (SlR.lenI hz50)) rfl ?_
       refine shO_on (b := false) 272 rfl (Env.isF rfl c376) ?_
       refine ov (v_eql rfl rfl) rfl ?_
       refine shO_on (b := false) 272 rfl (Env.isF rfl c376) (om rfl rfl (shO_on (b := false) 272 rfl (Env.isF rfl c376) ?_))
       refine ov (v_eql rfl rfl) rfl ?_
       refine shO_on (b := false) 272 rfl (Env.isF rfl c376) ?_
       refine ov (v_neqB Try.underlying4 rfl rfl) rfl ?_
       refine ov (v_pick_f (evD_false rfl c376) rfl) rfl ?_
       refine shO_nil ?_
       obtain rfl := inj1 r378
       exact mi (kc (kc (kx kr))) ⟨rfl, rfl, (sc rfl (sc rfl (sc rfl (sc rfl (sc rfl (sc rfl (sc rfl (sc rfl (sn _)))))))))⟩
     rintro e1 _ _ ⟨rfl, rfl, he379⟩
     refine shW_env _ he379 ?_; clear he379
     refine shW_cond rfl (fun c380 => ?_) (fun c380 => ?_)
     · have r381 := bt r375 c380; clear r375
       refine wsr (oa rfl rfl (shO_nil ?_))
       refine kW kn ?_
       refine shW_ret (inBlock_ret (andThen_ret (andThen_ret (inBlock_ret (andThen_ret ?_)))))
       refine q_res1 Try.results4 (res_tmp rfl) (sr) ?_
       obtain rfl := inj1 r381
       exact rfl
     have r382 := bf r375 c380; clear r375
     refine shW_skip (inBlock_n (id := 5) (shW_region ?_))
     refine ov (v_add rfl rfl (Ctr.r64 hk331 c338 g329)) rfl ?_
     refine om rfl rfl (shO_nil ?_)
     exact le kr ⟨_, hk339, r382, (hF336.trans hF364), rfl, (sc rfl (sc rfl (sc rfl (sc rfl (sc rfl (sc rfl (sc rfl (sn _))))))))⟩
   obtain rfl := Ctr.zero hk331 c338
   rw [oyezlaw01_HearLouder_l7] at r333
   refine shW_exit (andThen_exit (andThen_exit ?_))
   refine inBlock_exit ?_
   exact mi kn ⟨r333, (hF326.trans hF336), rfl, (sn _)⟩
 rintro e1 F385 _ ⟨r383, hF386, rfl, he384⟩
 refine shW_env _ he384 ?_; clear he384
 rw [oyezlaw01_HearLouder_j6] at r383
 refine wsr ?_
 obtain ⟨ok5, h387, r388⟩ := b1_ok r383; clear r383
 refine o_callV rfl Try.call18 rfl rfl rfl (oyezlaw01_awake_w h387) ?_
 refine oa rfl rfl (shO_nil (shW_ret ?_))
 refine q_res1 Try.results4 (res_tmp rfl) (sr) ?_
 obtain rfl := inj1 r388
 exact rfl
end Go.Proofs.Ytejkgppikpkkpaa
