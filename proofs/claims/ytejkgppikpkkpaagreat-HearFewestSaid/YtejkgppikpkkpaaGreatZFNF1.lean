/- The walks that this claim needs, printed by a program of mine; part 1. -/
import Derived.Test.YtejkgppikpkkpaaGreatZFTf
import Derived.Test.YtejkgppikpkkpaaGreatZFTd
namespace Go.Proofs.YtejkgppikpkkpaaGreat
open Go.SH Go.PL
set_option maxHeartbeats 1000000 in
theorem oyezlaw01_great_w {wide : Int} {plots_a : Option Addr} {plots_c : Nat} {plots : List Int} {F : FS} (_h_plots : RowR 1 (iE .i64) F plots_a plots_c plots) {r : Bool} (hr : oyezlaw01_great wide plots = some r) :
    SpecV Tryz.prog 32 #[.agg #[.int .i64 wide, .slice plots_a plots.length plots_c]] F (.bool r) := by
 refine spec_of_shW (args := [.agg #[.int .i64 wide, .slice plots_a plots.length plots_c]]) Tryz.func32 rfl Tryz.ntmps32 (Nat.le_of_ble_eq_true rfl) ?_
 intro K _ _; rw [oyezlaw01_great] at hr
 refine wsr ?_
 refine o_box rfl rfl ?_; intro b1 hb1
 refine oa rfl rfl (nsr ?_)
 refine ov (v_fieldAddr fa_24_1 rfl) rfl ?_
 refine ov (v_load Tryz.isAgg22 rfl (Has.own 0 rfl) rfl) rfl ?_
 refine ov (v_lenS Tryz.underlying22 rfl) rfl ?_
 refine ov (v_gtrK rfl rfl) rfl ?_
 refine oa rfl rfl (shO_nil ?_)
 refine kW kn ?_
 refine shW_ret ?_
 refine q_res1 Tryz.results32 (res_tmp rfl) (sr) ?_
 obtain rfl := inj1 hr
 exact rfl
set_option maxHeartbeats 1000000 in
theorem oyezlaw01_many_w {wide : Int} {plots_a : Option Addr} {plots_c : Nat} {plots : List Int} {most : Int} {F : FS} (h_plots : RowR 1 (iE .i64) F plots_a plots_c plots) {r : Bool} (hr : oyezlaw01_many wide plots most = some r) :
    SpecV Tryz.prog 5 #[.agg #[.int .i64 wide, .slice plots_a plots.length plots_c], .int .i64 most] F (.bool r) := by
 refine spec_of_shW (args := [.agg #[.int .i64 wide, .slice plots_a plots.length plots_c], .int .i64 most]) Tryz.func5 rfl Tryz.ntmps5 (Nat.le_of_ble_eq_true rfl) ?_
 intro K _ _; rw [oyezlaw01_many] at hr
 refine wsr ?_
 refine o_box rfl rfl ?_; intro b1 hb1
 refine oa rfl rfl (nsr (oa rfl rfl (shO_nil ?_)))
 obtain ⟨n, h2, r3⟩ := b1_ok hr; clear hr
 refine shW_join (fun e1 F1 L1 => F = F1 ∧ L1 = [(b1, .cells #[.int .i64 wide, .slice plots_a plots.length plots_c] 24 (0, 0))] ∧ e1.sub [(1, .int .i64 most), (2, .pointer (some ⟨b1, 0, none⟩)), (5, .int .i64 n)]) ?_ ?_
 · clear r3
   refine wsr ?_
   refine ov (v_fieldAddr fa_24_1 rfl) rfl ?_
   refine ov (v_load Tryz.isAgg22 rfl (Has.own 0 rfl) rfl) rfl ?_
   refine ov (v_lenS Tryz.underlying22 rfl) rfl ?_
   refine om rfl rfl (shO_nil ?_)
   refine shW_block ?_
   refine shW_lp (fun fu1 e1 F1 L1 => ∃ (tl : List Int) (k : Int), tl.length = fu1 ∧ Lst plots k tl ∧ ∃ (n2 : Int), oyezlaw01_many_l1 tl n2 = some n ∧ F = F1 ∧ L1 = [(b1, .cells #[.int .i64 wide, .slice plots_a plots.length plots_c] 24 (0, 0))] ∧ e1.sub [(1, .int .i64 most), (2, .pointer (some ⟨b1, 0, none⟩)), (5, .int .i64 n2), (9, .slice plots_a plots.length plots_c), (10, .int .i64 (plots.length : Int)), (11, .int .i64 k)]) _ (m0 kr ⟨_, _, rfl, Lst.start _, 0, h2, rfl, rfl, (sc rfl (sc rfl (sc rfl (sc rfl (sc rfl (sc rfl (sn _)))))))⟩) ?_
   rintro fu1 e1 _ _ ⟨tl, k, hn5, hk4, n2, r6, rfl, rfl, he7⟩
   refine shW_env _ he7 ?_; clear he7
   refine wsr ?_
   refine ov (v_lssK rfl rfl) rfl ?_
   refine shO_nil (shW_seq ?_)
   refine shW_condP rfl (fun c9 => ?_) (fun c9 => ?_)
   · obtain ⟨x, tl2, rfl, hx11, g12, hk10⟩ := Lst.succ hk4 c9
     rw [oyezlaw01_many_l1] at r6
     refine shW_skip (shW_seq ?_)
     refine shW_block ?_
     refine wsr ?_
     obtain ⟨b13, o14, c15, vs16, ha17, hs18, hle19, rfl, hl20, hc21⟩ := RowR.at (iE_ok _) h_plots ([(b1, .cells #[.int .i64 wide, .slice plots_a plots.length plots_c] 24 (0, 0))]) g12.1 hx11
     refine ov (v_indexO Tryz.underlying22 Tryz.sizeOf61 rfl ha17 rfl g12) rfl ?_
     refine ov (v_load Tryz.isAgg61 rfl hs18 (hc21 0 (by decide))) rfl ?_
     refine oa rfl rfl (nsr (om rfl rfl ?_))
     refine ov (v_eql rfl rfl) rfl ?_
     refine shO_nil ?_
     refine shW_condP rfl (fun c22 => ?_) (fun c22 => ?_)
     · have r23 := ite_t r6 c22; clear r6
       refine shW_region (om rfl rfl ?_)
       obtain ⟨g24, r25⟩ := gd_ok r23; clear r23
       refine ov (v_add rfl rfl g24) rfl ?_
       refine oa rfl rfl (shO_nil (inBlock_n (id := 1) (shW_region ?_)))
       refine ov (v_add rfl rfl (Lst.r64 hk4 c9 (RowR.lt h_plots))) rfl ?_
       refine om rfl rfl (shO_nil ?_)
       subst hn5; exact le kr ⟨_, _, rfl, hk10, n2 + 1, r25, rfl, rfl, (sc rfl (sc rfl (sc rfl (sc rfl (sc rfl (sc rfl (sn _)))))))⟩
     have r26 := ite_f r6 c22; clear r6
     refine shW_skip (inBlock_n (id := 1) (shW_region ?_))
     refine ov (v_add rfl rfl (Lst.r64 hk4 c9 (RowR.lt h_plots))) rfl ?_
     refine om rfl rfl (shO_nil ?_)
     subst hn5; exact le kr ⟨_, _, rfl, hk10, n2, r26, rfl, rfl, (sc rfl (sc rfl (sc rfl (sc rfl (sc rfl (sc rfl (sn _)))))))⟩
   obtain rfl := Lst.zero hk4 c9
   rw [oyezlaw01_many_l1] at r6
   refine shW_exit (andThen_exit (andThen_exit ?_))
   refine inBlock_exit ?_
   obtain rfl := inj1 r6
   exact mi kr ⟨rfl, rfl, (sc rfl (sc rfl (sc rfl (sn _))))⟩
 rintro e1 _ _ ⟨rfl, rfl, he27⟩
 refine shW_env _ he27 ?_; clear he27
 refine wsr ?_
 refine ov (v_loadA (cs := #[.int .i64 wide, .slice plots_a plots.length plots_c]) Tryz.isAgg24 Tryz.sizeOf24 rfl (Has.own 0 rfl) (Nat.le_of_ble_eq_true rfl) rfl) rfl ?_
 obtain ⟨ok, h28, r29⟩ := b1_ok r3; clear r3
 refine o_callV rfl Tryz.call32 rfl rfl rfl (oyezlaw01_great_w h_plots h28) ?_
 refine om rfl rfl ?_
 rcases bool_two ok with c30 | c30
 · have r31 := bt r29 c30; clear r29
   refine shO_off (b' := true) 22 rfl (EnvB rfl c30) rfl rfl (shO_off (b' := true) 22 rfl (EnvB rfl c30) rfl rfl (shO_off (b' := true) 22 rfl (EnvB rfl c30) rfl rfl (shO_off (b' := true) 22 rfl (EnvB rfl c30) rfl rfl (shO_offU 26 rfl rfl rfl (shO_offU 26 rfl rfl rfl (shO_offU 26 rfl rfl rfl (shO_offU 26 rfl rfl rfl (shO_off (b' := true) 22 rfl (EnvB rfl c30) rfl rfl ?_))))))))
   refine ov (v_pick_t (evB rfl c30) rfl) rfl ?_
   refine oa rfl rfl (shO_nil ?_)
   refine kW kn ?_
   refine shW_ret ?_
   refine q_res1 Tryz.results5 (res_tmp rfl) (sr) ?_
   obtain rfl := inj1 r31
   exact rfl
 have r32 := bf r29 c30; clear r29
 refine shO_on (b := false) 22 rfl (EnvB rfl c30) (om rfl rfl (shO_on (b := false) 22 rfl (EnvB rfl c30) (om rfl rfl (shO_on (b := false) 22 rfl (EnvB rfl c30) ?_))))
 refine ov (v_gtrK rfl rfl) rfl ?_
 refine shO_on (b := false) 22 rfl (EnvB rfl c30) (om rfl rfl ?_)
 by_cases c33 : most < n
 · have r34 := ite_t r32 c33; clear r32
   refine shO_on (b := true) 26 rfl (Env.isT rfl c33) ?_
   refine ov (v_fieldAddr fa_24_1 rfl) rfl ?_
   refine shO_on (b := true) 26 rfl (Env.isT rfl c33) ?_
   refine ov (v_load Tryz.isAgg22 rfl (Has.own 0 rfl) rfl) rfl ?_
   refine shO_on (b := true) 26 rfl (Env.isT rfl c33) ?_
   refine ov (v_lenS Tryz.underlying22 rfl) rfl ?_
   refine shO_on (b := true) 26 rfl (Env.isT rfl c33) ?_
   refine ov (v_leqK rfl rfl) rfl ?_
   refine shO_on (b := false) 22 rfl (EnvB rfl c30) ?_
   refine ov (v_pick_t (evD_true rfl c33) rfl) rfl ?_
   refine ov (v_pick_f (evB rfl c30) rfl) rfl ?_
   refine oa rfl rfl (shO_nil ?_)
   refine kW kn ?_
   refine shW_ret ?_
   refine q_res1 Tryz.results5 (res_tmp rfl) (sr) ?_
   obtain rfl := inj1 r34
   exact rfl
 have r35 := ite_f r32 c33; clear r32
 refine shO_off (b' := false) 26 rfl (Env.isF rfl c33) rfl rfl (shO_off (b' := false) 26 rfl (Env.isF rfl c33) rfl rfl (shO_off (b' := false) 26 rfl (Env.isF rfl c33) rfl rfl (shO_off (b' := false) 26 rfl (Env.isF rfl c33) rfl rfl (shO_on (b := false) 22 rfl (EnvB rfl c30) ?_))))
 refine ov (v_pick_f (evD_false rfl c33) rfl) rfl ?_
 refine ov (v_pick_f (evB rfl c30) rfl) rfl ?_
 refine oa rfl rfl (shO_nil ?_)
 refine kW kn ?_
 refine shW_ret ?_
 refine q_res1 Tryz.results5 (res_tmp rfl) (sr) ?_
 obtain rfl := inj1 r35
 exact rfl
set_option maxHeartbeats 1000000 in
theorem hear_in_w {n : Int} {lo : Int} {hi : Int} {F : FS} {r : Bool} (hr : hear_in n lo hi = some r) :
    SpecV Tryz.prog 68 #[.int .i64 n, .int .i64 lo, .int .i64 hi] F (.bool r) := by
 refine spec_of_shW (args := [.int .i64 n, .int .i64 lo, .int .i64 hi]) Tryz.func68 rfl Tryz.ntmps68 (Nat.le_of_ble_eq_true rfl) ?_
 intro K _ _; rw [hear_in] at hr
 refine wsr (oa rfl rfl (nsr (om rfl rfl (om rfl rfl ?_))))
 refine ov (v_geqK rfl rfl) rfl ?_
 refine om rfl rfl ?_
 by_cases c1 : lo ≤ n
 · have r2 := ite_t hr c1; clear hr
   refine shO_on (b := true) 10 rfl (Env.isT rfl c1) (om rfl rfl (shO_on (b := true) 10 rfl (Env.isT rfl c1) (om rfl rfl (shO_on (b := true) 10 rfl (Env.isT rfl c1) ?_))))
   refine ov (v_leqK rfl rfl) rfl ?_
   refine ov (v_pick_t (evD_true rfl c1) rfl) rfl ?_
   refine oa rfl rfl (shO_nil (shW_ret ?_))
   refine q_res1 Tryz.results68 (res_tmp rfl) (sr) ?_
   obtain rfl := inj1 r2
   exact rfl
 have r3 := ite_f hr c1; clear hr
 refine shO_off (b' := false) 10 rfl (Env.isF rfl c1) rfl rfl (shO_off (b' := false) 10 rfl (Env.isF rfl c1) rfl rfl (shO_off (b' := false) 10 rfl (Env.isF rfl c1) rfl rfl ?_))
 refine ov (v_pick_f (evD_false rfl c1) rfl) rfl ?_
 refine oa rfl rfl (shO_nil (shW_ret ?_))
 refine q_res1 Tryz.results68 (res_tmp rfl) (sr) ?_
 obtain rfl := inj1 r3
 exact rfl
set_option maxHeartbeats 1000000 in
theorem slices_IndexFunc_hear_Plot_hear_Plot_w {s__a : Option Addr} {s__c : Nat} {s_ : List Int} {f_f : FuncId} {f_1 : Array Value} {f_2 : Array Value} {f : Int → Option Bool} {F : FS} (h_s_ : RowR 1 (iE .i64) F s__a s__c s_) (h_f : FnR Tryz.prog F f_f f_1 f_2 (iE .i64) Value.bool f) {r : Int} (hr : slices_IndexFunc_hear_Plot_hear_Plot s_ f = some r) :
    SpecV Tryz.prog 128 #[.slice s__a s_.length s__c, .func (.func f_f) f_1 f_2] F (.int .i64 r) := by
 refine spec_of_shW (args := [.slice s__a s_.length s__c, .func (.func f_f) f_1 f_2]) Tryz.func128 rfl Tryz.ntmps128 (Nat.le_of_ble_eq_true rfl) ?_
 intro K _ _; rw [slices_IndexFunc_hear_Plot_hear_Plot] at hr
 refine wsr (oa rfl rfl (shO_nil ?_))
 refine shW_join (fun e1 F1 L1 => slices_IndexFunc_hear_Plot_hear_Plot_j1 = some r ∧ F = F1 ∧ L1 = [] ∧ e1.sub []) ?_ ?_
 · refine wsr (om rfl rfl ?_)
   refine ov (v_lenS Tryz.underlying22 rfl) rfl ?_
   refine om rfl rfl (shO_nil ?_)
   refine shW_block ?_
   refine shW_lp (fun fu2 e1 F1 L1 => ∃ (tl : List Int) (k : Int), tl.length = fu2 ∧ Lst s_ k tl ∧ slices_IndexFunc_hear_Plot_hear_Plot_l2 f tl k = some r ∧ F = F1 ∧ L1 = [] ∧ e1.sub [(0, .slice s__a s_.length s__c), (1, .func (.func f_f) f_1 f_2), (7, .int .i64 (s_.length : Int)), (8, .int .i64 k)]) _ (m0 kr ⟨_, _, rfl, Lst.start _, hr, rfl, rfl, (sc rfl (sc rfl (sc rfl (sc rfl (sn _)))))⟩) ?_
   rintro fu2 e1 _ _ ⟨tl, k, hn2, hk1, r3, rfl, rfl, he4⟩
   refine shW_env _ he4 ?_; clear he4
   refine wsr ?_
   refine ov (v_lssK rfl rfl) rfl ?_
   refine shO_nil (shW_seq ?_)
   refine shW_condP rfl (fun c6 => ?_) (fun c6 => ?_)
   · obtain ⟨x, tl2, rfl, hx8, g9, hk7⟩ := Lst.succ hk1 c6
     rw [slices_IndexFunc_hear_Plot_hear_Plot_l2] at r3
     refine shW_skip (shW_seq ?_)
     refine shW_block ?_
     refine wsr (om rfl rfl (oa rfl rfl (nsr (om rfl rfl (om rfl rfl (om rfl rfl ?_))))))
     obtain ⟨b10, o11, c12, vs13, ha14, hs15, hle16, rfl, hl17, hc18⟩ := RowR.at (iE_ok _) h_s_ ([]) g9.1 hx8
     refine ov (v_indexO Tryz.underlying22 Tryz.sizeOf61 rfl ha14 rfl g9) rfl ?_
     refine ov (v_load Tryz.isAgg61 rfl hs15 (hc18 0 (by decide))) rfl ?_
     obtain ⟨ok, h19, r20⟩ := b1_ok r3; clear r3
     refine o_callV rfl h_f.1 rfl rfl rfl (h_f.2 _ (FExt.refl _) _ _ _ rfl h19) ?_
     refine shO_nil ?_
     refine shW_cond rfl (fun c21 => ?_) (fun c21 => ?_)
     · have r22 := bt r20 c21; clear r20
       refine wsr (om rfl rfl (oa rfl rfl (shO_nil (shW_ret (inBlock_ret (andThen_ret (andThen_ret (inBlock_ret (andThen_ret ?_)))))))))
       refine q_res1 Tryz.results128 (res_tmp rfl) (sr) ?_
       obtain rfl := inj1 r22
       exact rfl
     have r23 := bf r20 c21; clear r20
     refine shW_skip (inBlock_n (id := 1) (shW_region ?_))
     refine ov (v_add rfl rfl (Lst.r64 hk1 c6 (RowR.lt h_s_))) rfl ?_
     refine om rfl rfl (shO_nil ?_)
     subst hn2; exact le kr ⟨_, _, rfl, hk7, r23, rfl, rfl, (sc rfl (sc rfl (sc rfl (sc rfl (sn _)))))⟩
   obtain rfl := Lst.zero hk1 c6
   rw [slices_IndexFunc_hear_Plot_hear_Plot_l2] at r3
   refine shW_exit (andThen_exit (andThen_exit ?_))
   refine inBlock_exit ?_
   exact mi kr ⟨r3, rfl, rfl, (sn _)⟩
 rintro e1 _ _ ⟨r24, rfl, rfl, he25⟩
 refine shW_env _ he25 ?_; clear he25
 rw [slices_IndexFunc_hear_Plot_hear_Plot_j1] at r24
 refine wsr (oa rfl rfl (shO_nil (shW_ret ?_)))
 refine q_res1 Tryz.results128 (res_tmp rfl) (sr) ?_
 obtain rfl := inj1 r24
 exact rfl
set_option maxHeartbeats 1000000 in
theorem slices_ContainsFunc_hear_Plot_hear_Plot_w {s__a : Option Addr} {s__c : Nat} {s_ : List Int} {f_f : FuncId} {f_1 : Array Value} {f_2 : Array Value} {f : Int → Option Bool} {F : FS} (h_s_ : RowR 1 (iE .i64) F s__a s__c s_) (h_f : FnR Tryz.prog F f_f f_1 f_2 (iE .i64) Value.bool f) {r : Bool} (hr : slices_ContainsFunc_hear_Plot_hear_Plot s_ f = some r) :
    SpecV Tryz.prog 106 #[.slice s__a s_.length s__c, .func (.func f_f) f_1 f_2] F (.bool r) := by
 refine spec_of_shW (args := [.slice s__a s_.length s__c, .func (.func f_f) f_1 f_2]) Tryz.func106 rfl Tryz.ntmps106 (Nat.le_of_ble_eq_true rfl) ?_
 intro K _ _; rw [slices_ContainsFunc_hear_Plot_hear_Plot] at hr
 refine wsr (oa rfl rfl (nsr (om rfl rfl (om rfl rfl ?_))))
 obtain ⟨n, h1, r2⟩ := b1_ok hr; clear hr
 refine o_callV rfl Tryz.call128 rfl rfl rfl (slices_IndexFunc_hear_Plot_hear_Plot_w h_s_ h_f h1) ?_
 refine ov (v_geqK rfl rfl) rfl ?_
 refine oa rfl rfl (shO_nil (shW_ret ?_))
 refine q_res1 Tryz.results106 (res_tmp rfl) (sr) ?_
 obtain rfl := inj1 r2
 exact rfl
set_option maxHeartbeats 1000000 in
theorem hear_every_Plot_1_w {x : Int} {b_so : Nat} {so_f : FuncId} {so_1 : Array Value} {so_2 : Array Value} {so : Int → Option Bool} {mb_so : Nat × Nat} {F : FS} (hb_so : F b_so = some (.cells #[.func (.func so_f) so_1 so_2] 107 mb_so)) (h_so : FnR Tryz.prog F so_f so_1 so_2 (iE .i64) Value.bool so) {r : Bool} (hr : hear_every_Plot_1 x so = some r) :
    SpecV Tryz.prog 107 #[.int .i64 x, .pointer (some ⟨b_so, 0, none⟩)] F (.bool r) := by
 refine spec_of_shW (args := [.int .i64 x, .pointer (some ⟨b_so, 0, none⟩)]) Tryz.func107 rfl Tryz.ntmps107 (Nat.le_of_ble_eq_true rfl) ?_
 intro K _ _; rw [hear_every_Plot_1] at hr
 refine wsr (oa rfl rfl (nsr ?_))
 refine ov (v_load Tryz.isAgg107 rfl (Has.frozen hb_so) rfl) rfl ?_
 refine om rfl rfl ?_
 obtain ⟨ok, h1, r2⟩ := b1_ok hr; clear hr
 refine o_callV rfl h_so.1 rfl rfl rfl (h_so.2 _ (FExt.refl _) _ _ _ rfl h1) ?_
 refine ov (v_notB rfl) rfl ?_
 refine oa rfl rfl (shO_nil (shW_ret ?_))
 refine q_res1 Tryz.results107 (res_tmp rfl) (sr) ?_
 obtain rfl := inj1 r2
 exact rfl
set_option maxHeartbeats 1000000 in
theorem hear_every_Plot_w {l_a : Option Addr} {l_c : Nat} {l : List Int} {so_f : FuncId} {so_1 : Array Value} {so_2 : Array Value} {so : Int → Option Bool} {F : FS} (h_l : RowR 1 (iE .i64) F l_a l_c l) (h_so : FnR Tryz.prog F so_f so_1 so_2 (iE .i64) Value.bool so) {r : Bool} (hr : hear_every_Plot l so = some r) :
    SpecV Tryz.prog 69 #[.slice l_a l.length l_c, .func (.func so_f) so_1 so_2] F (.bool r) := by
 refine spec_of_shW (args := [.slice l_a l.length l_c, .func (.func so_f) so_1 so_2]) Tryz.func69 rfl Tryz.ntmps69 (Nat.le_of_ble_eq_true rfl) ?_
 intro K _ _; rw [hear_every_Plot] at hr
 refine wsr ?_
 refine o_box rfl rfl ?_; intro b1 hb1
 refine oa rfl rfl (nsr (om rfl rfl ?_))
 refine ov (v_makeFunc rfl rfl) rfl ?_
 refine shO_freeze 0 rfl hb1 ?_; intro F2 hF3 hz4
 refine shO_L (L' := []) rfl ?_
 replace h_l := h_l.mono (iE_ok _) hF3
 replace h_so := h_so.mono hF3
 have hn5 : FnR Tryz.prog F2 107 #[] #[.pointer (some ⟨b1, 0, none⟩)] (iE .i64) Value.bool (fun xx_ : Int => hear_every_Plot_1 xx_ so) := ⟨Tryz.call107, fun F2 h2 vs xx_ r ha hr => by obtain rfl := ha; exact hear_every_Plot_1_w (h2 _ _ hz4) (h_so.mono h2) hr⟩
 obtain ⟨ok, h6, r7⟩ := b1_ok hr; clear hr
 refine o_callV rfl Tryz.call106 rfl rfl rfl (slices_ContainsFunc_hear_Plot_hear_Plot_w h_l hn5 h6) ?_
 refine ov (v_notB rfl) rfl ?_
 refine oa rfl rfl (shO_nil (shW_ret ?_))
 refine q_res1 Tryz.results69 (res_tmp rfl) (sr) ?_
 obtain rfl := inj1 r7
 exact rfl
set_option maxHeartbeats 1000000 in
theorem hear_Check_1_w {p : Int} {F : FS} {r : Bool} (hr : hear_Check_1 p = some r) :
    SpecV Tryz.prog 70 #[.int .i64 p] F (.bool r) := by
 refine spec_of_shW (args := [.int .i64 p]) Tryz.func70 rfl Tryz.ntmps70 (Nat.le_of_ble_eq_true rfl) ?_
 intro K _ _; rw [hear_Check_1] at hr
 refine wsr (oa rfl rfl (nsr (om rfl rfl ?_)))
 obtain ⟨ok, h1, r2⟩ := b1_ok hr; clear hr
 refine o_callV rfl Tryz.call68 rfl rfl rfl (hear_in_w h1) ?_
 refine oa rfl rfl (shO_nil (shW_ret ?_))
 refine q_res1 Tryz.results70 (res_tmp rfl) (sr) ?_
 obtain rfl := inj1 r2
 exact rfl
set_option maxHeartbeats 1000000 in
theorem hear_Town_houses_w {wide : Int} {plots_a : Option Addr} {plots_c : Nat} {plots : List Int} {F : FS} (h_plots : RowR 1 (iE .i64) F plots_a plots_c plots) {r : Int} (hr : hear_Town_houses wide plots = some r) :
    SpecV Tryz.prog 71 #[.agg #[.int .i64 wide, .slice plots_a plots.length plots_c]] F (.int .i64 r) := by
 refine spec_of_shW (args := [.agg #[.int .i64 wide, .slice plots_a plots.length plots_c]]) Tryz.func71 rfl Tryz.ntmps71 (Nat.le_of_ble_eq_true rfl) ?_
 intro K _ _; rw [hear_Town_houses] at hr
 refine wsr ?_
 refine o_box rfl rfl ?_; intro b1 hb1
 refine oa rfl rfl (nsr (oa rfl rfl (shO_nil ?_)))
 obtain ⟨n, h2, r3⟩ := b1_ok hr; clear hr
 refine shW_join (fun e1 F1 L1 => F = F1 ∧ L1 = [] ∧ e1.sub [(3, .int .i64 n)]) ?_ ?_
 · clear r3
   refine wsr ?_
   refine ov (v_fieldAddr fa_24_1 rfl) rfl ?_
   refine ov (v_load Tryz.isAgg22 rfl (Has.own 0 rfl) rfl) rfl ?_
   refine ov (v_lenS Tryz.underlying22 rfl) rfl ?_
   refine om rfl rfl (shO_nil ?_)
   refine shW_block ?_
   refine kW kn ?_
   refine shW_lp (fun fu1 e1 F1 L1 => ∃ (tl : List Int) (k : Int), tl.length = fu1 ∧ Lst plots k tl ∧ ∃ (n2 : Int), hear_Town_houses_l1 tl n2 = some n ∧ F = F1 ∧ L1 = [] ∧ e1.sub [(3, .int .i64 n2), (7, .slice plots_a plots.length plots_c), (8, .int .i64 (plots.length : Int)), (9, .int .i64 k)]) _ (m0 kr ⟨_, _, rfl, Lst.start _, 0, h2, rfl, rfl, (sc rfl (sc rfl (sc rfl (sc rfl (sn _)))))⟩) ?_
   rintro fu1 e1 _ _ ⟨tl, k, hn5, hk4, n2, r6, rfl, rfl, he7⟩
   refine shW_env _ he7 ?_; clear he7
   refine wsr ?_
   refine ov (v_lssK rfl rfl) rfl ?_
   refine shO_nil (shW_seq ?_)
   refine shW_condP rfl (fun c9 => ?_) (fun c9 => ?_)
   · obtain ⟨x, tl2, rfl, hx11, g12, hk10⟩ := Lst.succ hk4 c9
     rw [hear_Town_houses_l1] at r6
     refine shW_skip (shW_seq ?_)
     refine shW_block ?_
     refine wsr ?_
     obtain ⟨b13, o14, c15, vs16, ha17, hs18, hle19, rfl, hl20, hc21⟩ := RowR.at (iE_ok _) h_plots ([]) g12.1 hx11
     refine ov (v_indexO Tryz.underlying22 Tryz.sizeOf61 rfl ha17 rfl g12) rfl ?_
     refine ov (v_load Tryz.isAgg61 rfl hs18 (hc21 0 (by decide))) rfl ?_
     refine oa rfl rfl (nsr (om rfl rfl ?_))
     refine ov (v_eql rfl rfl) rfl ?_
     refine shO_nil ?_
     refine shW_condP rfl (fun c22 => ?_) (fun c22 => ?_)
     · have r23 := ite_t r6 c22; clear r6
       refine shW_region (om rfl rfl ?_)
       obtain ⟨g24, r25⟩ := gd_ok r23; clear r23
       refine ov (v_add rfl rfl g24) rfl ?_
       refine oa rfl rfl (shO_nil (inBlock_n (id := 1) (shW_region ?_)))
       refine ov (v_add rfl rfl (Lst.r64 hk4 c9 (RowR.lt h_plots))) rfl ?_
       refine om rfl rfl (shO_nil ?_)
       subst hn5; exact le kr ⟨_, _, rfl, hk10, n2 + 1, r25, rfl, rfl, (sc rfl (sc rfl (sc rfl (sc rfl (sn _)))))⟩
     have r26 := ite_f r6 c22; clear r6
     refine shW_skip (inBlock_n (id := 1) (shW_region ?_))
     refine ov (v_add rfl rfl (Lst.r64 hk4 c9 (RowR.lt h_plots))) rfl ?_
     refine om rfl rfl (shO_nil ?_)
     subst hn5; exact le kr ⟨_, _, rfl, hk10, n2, r26, rfl, rfl, (sc rfl (sc rfl (sc rfl (sc rfl (sn _)))))⟩
   obtain rfl := Lst.zero hk4 c9
   rw [hear_Town_houses_l1] at r6
   refine shW_exit (andThen_exit (andThen_exit ?_))
   refine inBlock_exit ?_
   obtain rfl := inj1 r6
   exact mi kr ⟨rfl, rfl, (sc rfl (sn _))⟩
 rintro e1 _ _ ⟨rfl, rfl, he27⟩
 refine shW_env _ he27 ?_; clear he27
 refine wsr (om rfl rfl (oa rfl rfl (shO_nil (shW_ret ?_))))
 refine q_res1 Tryz.results71 (res_tmp rfl) (sr) ?_
 obtain rfl := inj1 r3
 exact rfl
set_option maxHeartbeats 1000000 in
theorem hear_Check_w {wide : Int} {plots_a : Option Addr} {plots_c : Nat} {plots : List Int} {F : FS} (h_plots : RowR 1 (iE .i64) F plots_a plots_c plots) {r : Int} (hr : hear_Check wide plots = some r) :
    SpecV Tryz.prog 23 #[.agg #[.int .i64 wide, .slice plots_a plots.length plots_c]] F (.int .i64 r) := by
 refine spec_of_shW (args := [.agg #[.int .i64 wide, .slice plots_a plots.length plots_c]]) Tryz.func23 rfl Tryz.ntmps23 (Nat.le_of_ble_eq_true rfl) ?_
 intro K _ _; rw [hear_Check] at hr
 refine wsr ?_
 refine o_box rfl rfl ?_; intro b1 hb1
 refine oa rfl rfl (shO_nil (shW_seq ?_))
 refine shW_block ?_
 obtain ⟨k, h2, r3⟩ := b1_ok hr; clear hr
 refine shW_join (fun e1 F1 L1 => F = F1 ∧ L1 = [(b1, .cells #[.int .i64 wide, .slice plots_a plots.length plots_c] 24 (0, 0))] ∧ e1.sub [(1, .pointer (some ⟨b1, 0, none⟩)), (3, .bool k)]) ?_ ?_
 · clear r3
   refine shW_region ?_
   refine ov (v_fieldAddr fa_24_0 rfl) rfl ?_
   refine ov (v_load Tryz.isAgg3 rfl (Has.own 0 rfl) rfl) rfl ?_
   obtain ⟨ok, h4, r5⟩ := b1_ok h2; clear h2
   refine o_callV rfl Tryz.call68 rfl rfl rfl (hear_in_w h4) ?_
   refine ov (v_notB rfl) rfl ?_
   refine om rfl rfl ?_
   rcases bool_two (!ok) with c6 | c6
   · have r7 := bt r5 c6; clear r5
     refine shO_off (b' := true) 8 rfl (EnvB rfl c6) rfl rfl (shO_off (b' := true) 8 rfl (EnvB rfl c6) rfl rfl (shO_off (b' := true) 8 rfl (EnvB rfl c6) rfl rfl (shO_off (b' := true) 8 rfl (EnvB rfl c6) rfl rfl (shO_off (b' := true) 8 rfl (EnvB rfl c6) rfl rfl ?_))))
     refine ov (v_pick_t (evB rfl c6) rfl) rfl ?_
     refine om rfl rfl (shO_off (b' := true) 15 rfl rfl rfl rfl (shO_off (b' := true) 15 rfl rfl rfl rfl (shO_off (b' := true) 15 rfl rfl rfl rfl (shO_off (b' := true) 15 rfl rfl rfl rfl (shO_off (b' := true) 15 rfl rfl rfl rfl (shO_off (b' := true) 15 rfl rfl rfl rfl (shO_off (b' := true) 15 rfl rfl rfl rfl ?_)))))))
     refine ov (v_pick_t rfl rfl) rfl ?_
     refine oa rfl rfl (shO_nil ?_)
     obtain rfl := inj1 r7
     exact mi kr ⟨rfl, rfl, (sc rfl (sc rfl (sn _)))⟩
   have r8 := bf r5 c6; clear r5
   refine shO_on (b := false) 8 rfl (EnvB rfl c6) ?_
   refine ov (v_fieldAddr fa_24_1 rfl) rfl ?_
   refine shO_on (b := false) 8 rfl (EnvB rfl c6) ?_
   refine ov (v_load Tryz.isAgg22 rfl (Has.own 0 rfl) rfl) rfl ?_
   refine shO_on (b := false) 8 rfl (EnvB rfl c6) ?_
   refine ov (v_lenS Tryz.underlying22 rfl) rfl ?_
   refine shO_on (b := false) 8 rfl (EnvB rfl c6) ?_
   obtain ⟨ok2, h9, r10⟩ := b1_ok r8; clear r8
   refine o_callV rfl Tryz.call68 rfl rfl rfl (hear_in_w h9) ?_
   refine shO_on (b := false) 8 rfl (EnvB rfl c6) ?_
   refine ov (v_notB rfl) rfl ?_
   refine ov (v_pick_f (evB rfl c6) rfl) rfl ?_
   refine om rfl rfl ?_
   rcases bool_two (!ok2) with c11 | c11
   · have r12 := bt r10 c11; clear r10
     refine shO_off (b' := true) 15 rfl (EnvB rfl c11) rfl rfl (shO_off (b' := true) 15 rfl (EnvB rfl c11) rfl rfl (shO_off (b' := true) 15 rfl (EnvB rfl c11) rfl rfl (shO_off (b' := true) 15 rfl (EnvB rfl c11) rfl rfl (shO_off (b' := true) 15 rfl (EnvB rfl c11) rfl rfl (shO_off (b' := true) 15 rfl (EnvB rfl c11) rfl rfl (shO_off (b' := true) 15 rfl (EnvB rfl c11) rfl rfl ?_))))))
     refine ov (v_pick_t (evB rfl c11) rfl) rfl ?_
     refine oa rfl rfl (shO_nil ?_)
     obtain rfl := inj1 r12
     exact mi kr ⟨rfl, rfl, (sc rfl (sc rfl (sn _)))⟩
   have r13 := bf r10 c11; clear r10
   refine shO_on (b := false) 15 rfl (EnvB rfl c11) ?_
   refine ov (v_fieldAddr fa_24_1 rfl) rfl ?_
   refine shO_on (b := false) 15 rfl (EnvB rfl c11) ?_
   refine ov (v_load Tryz.isAgg22 rfl (Has.own 0 rfl) rfl) rfl ?_
   refine shO_on (b := false) 15 rfl (EnvB rfl c11) ?_
   refine ov (v_lenS Tryz.underlying22 rfl) rfl ?_
   refine shO_on (b := false) 15 rfl (EnvB rfl c11) ?_
   refine ov (v_fieldAddr fa_24_0 rfl) rfl ?_
   refine shO_on (b := false) 15 rfl (EnvB rfl c11) ?_
   refine ov (v_load Tryz.isAgg3 rfl (Has.own 0 rfl) rfl) rfl ?_
   refine shO_on (b := false) 15 rfl (EnvB rfl c11) ?_
   obtain ⟨g14, r15⟩ := gd_ok r13; clear r13
   refine ov (v_remT rfl rfl g14) rfl ?_
   refine shO_on (b := false) 15 rfl (EnvB rfl c11) ?_
   refine ov (v_neq rfl rfl) rfl ?_
   refine ov (v_pick_f (evB rfl c11) rfl) rfl ?_
   refine oa rfl rfl (shO_nil ?_)
   obtain rfl := inj1 r15
   exact mi kr ⟨rfl, rfl, (sc rfl (sc rfl (sn _)))⟩
 rintro e1 _ _ ⟨rfl, rfl, he16⟩
 refine shW_env _ he16 ?_; clear he16
 refine shW_cond rfl (fun c17 => ?_) (fun c17 => ?_)
 · have r18 := bt r3 c17; clear r3
   refine wsr (oa rfl rfl (shO_nil ?_))
   refine kW kn ?_
   refine shW_ret (inBlock_ret (andThen_ret ?_))
   refine q_res1 Tryz.results23 (res_tmp rfl) (sr) ?_
   obtain rfl := inj1 r18
   exact rfl
 have r19 := bf r3 c17; clear r3
 refine wsr ?_
 refine ov (v_fieldAddr fa_24_1 rfl) rfl ?_
 refine ov (v_load Tryz.isAgg22 rfl (Has.own 0 rfl) rfl) rfl ?_
 have hn20 : FnR Tryz.prog F 70 #[] #[] (iE .i64) Value.bool (fun xx_ : Int => hear_Check_1 xx_) := ⟨Tryz.call70, fun F2 h2 vs xx_ r ha hr => by obtain rfl := ha; exact hear_Check_1_w hr⟩
 obtain ⟨ok3, h21, r22⟩ := b1_ok r19; clear r19
 refine o_callV rfl Tryz.call69 rfl rfl rfl (hear_every_Plot_w h_plots hn20 h21) ?_
 refine ov (v_notB rfl) rfl ?_
 refine oa rfl rfl (shO_nil ?_)
 refine shW_cond rfl (fun c23 => ?_) (fun c23 => ?_)
 · have r24 := bt r22 c23; clear r22
   refine wsr (oa rfl rfl (shO_nil ?_))
   refine kW kn ?_
   refine shW_ret (inBlock_ret (andThen_ret ?_))
   refine q_res1 Tryz.results23 (res_tmp rfl) (sr) ?_
   obtain rfl := inj1 r24
   exact rfl
 have r25 := bf r22 c23; clear r22
 refine wsr ?_
 refine ov (v_loadA (cs := #[.int .i64 wide, .slice plots_a plots.length plots_c]) Tryz.isAgg24 Tryz.sizeOf24 rfl (Has.own 0 rfl) (Nat.le_of_ble_eq_true rfl) rfl) rfl ?_
 obtain ⟨n, h26, r27⟩ := b1_ok r25; clear r25
 refine o_callV rfl Tryz.call71 rfl rfl rfl (hear_Town_houses_w h_plots h26) ?_
 refine ov (v_gtrK rfl rfl) rfl ?_
 refine oa rfl rfl (shO_nil ?_)
 refine shW_condP rfl (fun c28 => ?_) (fun c28 => ?_)
 · have r29 := ite_t r27 c28; clear r27
   refine wsr (oa rfl rfl (shO_nil ?_))
   refine kW kn ?_
   refine shW_ret (inBlock_ret (andThen_ret ?_))
   refine q_res1 Tryz.results23 (res_tmp rfl) (sr) ?_
   obtain rfl := inj1 r29
   exact rfl
 have r30 := ite_f r27 c28; clear r27
 refine shW_skip (inBlock_n (id := 0) (wsr (oa rfl rfl (shO_nil ?_))))
 refine kW kn ?_
 refine shW_ret ?_
 refine q_res1 Tryz.results23 (res_tmp rfl) (sr) ?_
 obtain rfl := inj1 r30
 exact rfl
set_option maxHeartbeats 1000000 in
theorem hear_Dir_there_w {w : Int} {F : FS} {r : Bool} (hr : hear_Dir_there w = some r) :
    SpecV Tryz.prog 111 #[.int .i64 w] F (.bool r) := by
 refine spec_of_shW (args := [.int .i64 w]) Tryz.func111 rfl Tryz.ntmps111 (Nat.le_of_ble_eq_true rfl) ?_
 intro K _ _; rw [hear_Dir_there] at hr
 refine wsr (oa rfl rfl (nsr (om rfl rfl ?_)))
 obtain ⟨ok, h1, r2⟩ := b1_ok hr; clear hr
 refine o_callV rfl Tryz.call68 rfl rfl rfl (hear_in_w h1) ?_
 refine oa rfl rfl (shO_nil (shW_ret ?_))
 refine q_res1 Tryz.results111 (res_tmp rfl) (sr) ?_
 obtain rfl := inj1 r2
 exact rfl
set_option maxHeartbeats 1000000 in
theorem hear_steps_w {F : FS} {r : List (Int × (Int × Int))} (hr : hear_steps = some r) :
    SH.Spec Tryz.prog 112 #[] F [] fun _ L' v => ∃ (rb : Nat) (res : Array MapEntry) (rcl : Nat), v = .map (some rb) ∧ L' = [(rb, .map res rcl)] ∧ MapR (Value.int .i64) (vA (cP (cI .i64) (cI .i64))) res r := by
 refine spec_of_shW (args := []) Tryz.func112 rfl Tryz.ntmps112 (Nat.le_of_ble_eq_true rfl) ?_
 intro K _ _; rw [hear_steps] at hr
 refine wsr (oa rfl rfl (nsr ?_))
 refine o_makeMap rfl ?_; intro b1 hb1
 refine ov (v_build (v := .agg #[.int .i64 (-1), .int .i64 0]) rfl (by intro w; kernel_rfl)) rfl ?_
 refine o_insert (i := 0) (k := 1) (v := (-1, 0)) Tryz.underlying146 (keyOK_int Tryz.underlying25) rfl rfl rfl rfl (show MapR (Value.int .i64) (vA (cP (cI .i64) (cI .i64))) #[] ([] : List (Int × (Int × Int))) from MapR.nil) ?_; intro es2 cl3 hR4
 obtain ⟨met, h5, r6⟩ := bv_ok hr; clear hr
 rw [← h5] at hR4
 refine shO_L (L' := [(b1, .map es2 cl3)]) rfl ?_
 refine ov (v_build (v := .agg #[.int .i64 0, .int .i64 1]) rfl (by intro w; kernel_rfl)) rfl ?_
 refine o_insert (i := 0) (k := 2) (v := (0, 1)) Tryz.underlying146 (keyOK_int Tryz.underlying25) rfl rfl rfl rfl (show MapR (Value.int .i64) (vA (cP (cI .i64) (cI .i64))) es2 (met : List (Int × (Int × Int))) from hR4) ?_; intro es7 cl8 hR9
 obtain ⟨met2, h10, r11⟩ := bv_ok r6; clear r6
 rw [← h10] at hR9
 refine shO_L (L' := [(b1, .map es7 cl8)]) rfl ?_
 refine ov (v_build (v := .agg #[.int .i64 1, .int .i64 0]) rfl (by intro w; kernel_rfl)) rfl ?_
 refine o_insert (i := 0) (k := 3) (v := (1, 0)) Tryz.underlying146 (keyOK_int Tryz.underlying25) rfl rfl rfl rfl (show MapR (Value.int .i64) (vA (cP (cI .i64) (cI .i64))) es7 (met2 : List (Int × (Int × Int))) from hR9) ?_; intro es12 cl13 hR14
 obtain ⟨met3, h15, r16⟩ := bv_ok r11; clear r11
 rw [← h15] at hR14
 refine shO_L (L' := [(b1, .map es12 cl13)]) rfl ?_
 refine ov (v_build (v := .agg #[.int .i64 0, .int .i64 (-1)]) rfl (by intro w; kernel_rfl)) rfl ?_
 refine o_insert (i := 0) (k := 4) (v := (0, -1)) Tryz.underlying146 (keyOK_int Tryz.underlying25) rfl rfl rfl rfl (show MapR (Value.int .i64) (vA (cP (cI .i64) (cI .i64))) es12 (met3 : List (Int × (Int × Int))) from hR14) ?_; intro es17 cl18 hR19
 obtain ⟨met4, h20, r21⟩ := bv_ok r16; clear r16
 rw [← h20] at hR19
 refine shO_L (L' := [(b1, .map es17 cl18)]) rfl ?_
 refine om rfl rfl (oa rfl rfl (shO_nil (shW_ret ?_)))
 refine q_res1 Tryz.results112 (res_tmp rfl) (sr) ?_
 obtain rfl := inj1 r21
 exact ⟨_, _, _, rfl, rfl, hR19⟩
set_option maxHeartbeats 1000000 in
theorem hear_opened_w {wide : Int} {plots_a : Option Addr} {plots_c : Nat} {plots : List Int} {wind : Int} {F : FS} (h_plots : RowR 1 (iE .i64) F plots_a plots_c plots) {r : Option (Int × (List Int) × Int × Int × Bool)} {r2 : Int} (hr : hear_opened wide plots wind = some (r, r2)) :
    SH.Spec Tryz.prog 84 #[.agg #[.int .i64 wide, .slice plots_a plots.length plots_c], .int .i64 wind] F [] fun F' L' v => ∃ (rv : Value), v = .tuple #[rv, .int .i64 r2] ∧ L' = [] ∧ PtrR 142 (prE (iE .i64) (prE (slE 1 (iE .i64)) (prE (iE .i64) (prE (iE .i64) bE)))) F' rv r := by
 refine spec_of_shW (args := [.agg #[.int .i64 wide, .slice plots_a plots.length plots_c], .int .i64 wind]) Tryz.func84 rfl Tryz.ntmps84 (Nat.le_of_ble_eq_true rfl) ?_
 intro K _ _; rw [hear_opened] at hr
 refine wsr ?_
 refine o_box rfl rfl ?_; intro b1 hb1
 refine oa rfl rfl (oa rfl rfl (shO_nil (shW_seq (wsr ?_))))
 refine ov (v_loadA (cs := #[.int .i64 wide, .slice plots_a plots.length plots_c]) Tryz.isAgg24 Tryz.sizeOf24 rfl (Has.own 0 rfl) (Nat.le_of_ble_eq_true rfl) rfl) rfl ?_
 obtain ⟨n, h2, r3⟩ := b1_ok hr; clear hr
 refine o_callV rfl Tryz.call23 rfl rfl rfl (hear_Check_w h_plots h2) ?_
 refine oa rfl rfl (nsr (om rfl rfl ?_))
 refine ov (v_neq rfl rfl) rfl ?_
 refine shO_nil ?_
 refine shW_condP rfl (fun c4 => ?_) (fun c4 => ?_)
 · have r5 := ite_t r3 c4; clear r3
   refine wsr (om rfl rfl (oa rfl rfl (oa rfl rfl (shO_nil ?_))))
   refine kW kn ?_
   refine shW_ret (andThen_ret ?_)
   refine q_res2 Tryz.results84 (res_tmp rfl) (res_tmp rfl) (sr) ?_
   obtain ⟨rfl, rfl⟩ := inj2 r5
   exact ⟨_, rfl, rfl, rfl⟩
 have r6 := ite_f r3 c4; clear r3
 refine shW_skip (shW_seq (wsr (om rfl rfl ?_)))
 obtain ⟨ok, h7, r8⟩ := b1_ok r6; clear r6
 refine o_callV rfl Tryz.call111 rfl rfl rfl (hear_Dir_there_w h7) ?_
 refine ov (v_notB rfl) rfl ?_
 refine shO_nil ?_
 refine shW_cond rfl (fun c9 => ?_) (fun c9 => ?_)
 · have r10 := bt r8 c9; clear r8
   refine wsr (oa rfl rfl (oa rfl rfl (shO_nil ?_)))
   refine kW kn ?_
   refine shW_ret (andThen_ret ?_)
   refine q_res2 Tryz.results84 (res_tmp rfl) (res_tmp rfl) (sr) ?_
   obtain ⟨rfl, rfl⟩ := inj2 r10
   exact ⟨_, rfl, rfl, rfl⟩
 have r11 := bf r8 c9; clear r8
 refine shW_skip (wsr ?_)
 obtain ⟨m, h12, r13⟩ := b1_ok r11; clear r11
 refine o_call0 rfl Tryz.call112 rfl rfl rfl (hear_steps_w h12) ?_; rintro _ F14 _ hF15 hn16 ⟨b18, es19, cl20, rfl, rfl, hR21⟩
 replace h_plots := h_plots.mono (iE_ok _) hF15
 refine shO_L (lb (ln rfl)) ?_
 refine om rfl rfl ?_
 refine ov (OpV.eq (v' := .tuple #[.agg #[.int .i64 (((mget m wind).getD (0, 0)).1), .int .i64 (((mget m wind).getD (0, 0)).2)], .bool ((mget m wind).isSome)]) (v_lookS2 (k := wind) (z0 := (0, 0)) rfl Tryz.underlying146 (keyOK_int Tryz.underlying25) Tryz.zeroValue140 rfl rfl (HasM.own 0 rfl) (show MapR (Value.int .i64) (vA (cP (cI .i64) (cI .i64))) es19 (m : List (Int × (Int × Int))) from hR21)) rfl) rfl ?_
 refine om rfl rfl (ox rfl rfl rfl (ox rfl rfl rfl ?_))
 refine o_alloc rfl Tryz.zeroValue140 ?_; intro b22 hb22
 refine o_storeA (i := 0) Tryz.sizeOf140 rfl rfl rfl (by simp [Value.oneCell']) rfl (Nat.le_of_ble_eq_true rfl) ?_
 refine shO_L (L' := [(b22, .cells #[.int .i64 (((mget m wind).getD (0, 0)).1), .int .i64 (((mget m wind).getD (0, 0)).2)] 140 (0, 0)), (b18, .map es19 cl20), (b1, .cells #[.int .i64 wide, .slice plots_a plots.length plots_c] 24 (0, 0))]) rfl ?_
 refine oa rfl rfl (nsr ?_)
 refine ov (v_loadA (cs := #[.int .i64 wide, .slice plots_a plots.length plots_c]) Tryz.isAgg24 Tryz.sizeOf24 rfl (Has.own 2 rfl) (Nat.le_of_ble_eq_true rfl) rfl) rfl ?_
 refine ov (v_loadA (cs := #[.int .i64 (((mget m wind).getD (0, 0)).1), .int .i64 (((mget m wind).getD (0, 0)).2)]) Tryz.isAgg140 Tryz.sizeOf140 rfl (Has.own 0 rfl) (Nat.le_of_ble_eq_true rfl) rfl) rfl ?_
 refine om rfl rfl ?_
 refine ov (v_build (v := .agg #[.int .i64 wide, .slice plots_a plots.length plots_c, .int .i64 (((mget m wind).getD (0, 0)).1), .int .i64 (((mget m wind).getD (0, 0)).2), .bool ((mget m wind).isSome)]) rfl (by intro w; kernel_rfl)) rfl ?_
 refine o_box rfl rfl ?_; intro b23 hb23
 refine oa rfl rfl (oa rfl rfl (shO_nil ?_))
 refine shW_freeze 0 rfl hb23 ?_; intro F24 hF25 hz26
 refine shW_L (L' := [(b22, .cells #[.int .i64 (((mget m wind).getD (0, 0)).1), .int .i64 (((mget m wind).getD (0, 0)).2)] 140 (0, 0)), (b18, .map es19 cl20), (b1, .cells #[.int .i64 wide, .slice plots_a plots.length plots_c] 24 (0, 0))]) rfl ?_
 replace h_plots := h_plots.mono (iE_ok _) hF25
 refine kW kn ?_
 refine shW_ret ?_
 refine q_res2 Tryz.results84 (res_tmp rfl) (res_tmp rfl) (sr) ?_
 obtain ⟨rfl, rfl⟩ := inj2 r13
 exact ⟨_, rfl, rfl, ⟨_, _, _, rfl, hz26, ⟨_, _, rfl, rfl, ⟨_, _, rfl, ⟨_, _, rfl, h_plots⟩, ⟨_, _, rfl, rfl, ⟨_, _, rfl, rfl, rfl⟩⟩⟩⟩⟩⟩
set_option maxHeartbeats 1000000 in
theorem hear_CheckAir_w {wind : Int} {voice : Int} {F : FS} {r : Int} (hr : hear_CheckAir wind voice = some r) :
    SpecV Tryz.prog 104 #[.agg #[.int .i64 wind, .int .i64 voice]] F (.int .i64 r) := by
 refine spec_of_shW (args := [.agg #[.int .i64 wind, .int .i64 voice]]) Tryz.func104 rfl Tryz.ntmps104 (Nat.le_of_ble_eq_true rfl) ?_
 intro K _ _; rw [hear_CheckAir] at hr
 refine wsr ?_
 refine o_box rfl rfl ?_; intro b1 hb1
 refine oa rfl rfl (shO_nil (shW_seq ?_))
 obtain ⟨k, h2, r3⟩ := b1_ok hr; clear hr
 refine shW_join (fun e1 F1 L1 => F = F1 ∧ L1 = [] ∧ e1.sub [(12, .bool k)]) ?_ ?_
 · clear r3
   refine shW_region ?_
   refine ov (v_fieldAddr fa_27_0 rfl) rfl ?_
   refine ov (v_load Tryz.isAgg25 rfl (Has.own 0 rfl) rfl) rfl ?_
   obtain ⟨ok, h4, r5⟩ := b1_ok h2; clear h2
   refine o_callV rfl Tryz.call111 rfl rfl rfl (hear_Dir_there_w h4) ?_
   refine ov (v_notB rfl) rfl ?_
   refine om rfl rfl ?_
   rcases bool_two (!ok) with c6 | c6
   · have r7 := bt r5 c6; clear r5
     refine shO_off (b' := true) 7 rfl (EnvB rfl c6) rfl rfl (shO_off (b' := true) 7 rfl (EnvB rfl c6) rfl rfl (shO_off (b' := true) 7 rfl (EnvB rfl c6) rfl rfl (shO_off (b' := true) 7 rfl (EnvB rfl c6) rfl rfl ?_)))
     refine ov (v_pick_t (evB rfl c6) rfl) rfl ?_
     refine shO_nil ?_
     obtain rfl := inj1 r7
     exact mi kn ⟨rfl, rfl, (sc rfl (sn _))⟩
   have r8 := bf r5 c6; clear r5
   refine shO_on (b := false) 7 rfl (EnvB rfl c6) ?_
   refine ov (v_fieldAddr fa_27_1 rfl) rfl ?_
   refine shO_on (b := false) 7 rfl (EnvB rfl c6) ?_
   refine ov (v_load Tryz.isAgg3 rfl (Has.own 0 rfl) rfl) rfl ?_
   refine shO_on (b := false) 7 rfl (EnvB rfl c6) ?_
   obtain ⟨ok2, h9, r10⟩ := b1_ok r8; clear r8
   refine o_callV rfl Tryz.call68 rfl rfl rfl (hear_in_w h9) ?_
   refine shO_on (b := false) 7 rfl (EnvB rfl c6) ?_
   refine ov (v_notB rfl) rfl ?_
   refine ov (v_pick_f (evB rfl c6) rfl) rfl ?_
   refine shO_nil ?_
   obtain rfl := inj1 r10
   exact mi kn ⟨rfl, rfl, (sc rfl (sn _))⟩
 rintro e1 _ _ ⟨rfl, rfl, he11⟩
 refine shW_env _ he11 ?_; clear he11
 refine shW_cond rfl (fun c12 => ?_) (fun c12 => ?_)
 · have r13 := bt r3 c12; clear r3
   refine wsr (oa rfl rfl (shO_nil (shW_ret (andThen_ret ?_))))
   refine q_res1 Tryz.results104 (res_tmp rfl) (sr) ?_
   obtain rfl := inj1 r13
   exact rfl
 have r14 := bf r3 c12; clear r3
 refine shW_skip (wsr (oa rfl rfl (shO_nil (shW_ret ?_))))
 refine q_res1 Tryz.results104 (res_tmp rfl) (sr) ?_
 obtain rfl := inj1 r14
 exact rfl
set_option maxHeartbeats 1000000 in
theorem hear_Town_wall_w {wide : Int} {plots_a : Option Addr} {plots_c : Nat} {plots : List Int} {p : Int} {F : FS} (h_plots : RowR 1 (iE .i64) F plots_a plots_c plots) {r : Bool} (hr : hear_Town_wall wide plots p = some r) :
    SpecV Tryz.prog 83 #[.agg #[.int .i64 wide, .slice plots_a plots.length plots_c], .int .i64 p] F (.bool r) := by
 refine spec_of_shW (args := [.agg #[.int .i64 wide, .slice plots_a plots.length plots_c], .int .i64 p]) Tryz.func83 rfl Tryz.ntmps83 (Nat.le_of_ble_eq_true rfl) ?_
 intro K _ _; rw [hear_Town_wall] at hr
 refine wsr ?_
 refine o_box rfl rfl ?_; intro b1 hb1
 refine oa rfl rfl (nsr ?_)
 refine ov (v_fieldAddr fa_24_1 rfl) rfl ?_
 refine ov (v_load Tryz.isAgg22 rfl (Has.own 0 rfl) rfl) rfl ?_
 refine om rfl rfl ?_
 obtain ⟨x, g2, hx3, r4⟩ := ix_ok hr; clear hr
 obtain ⟨b5, o6, c7, vs8, ha9, hs10, hle11, rfl, hl12, hc13⟩ := RowR.at (iE_ok _) h_plots ([(b1, .cells #[.int .i64 wide, .slice plots_a plots.length plots_c] 24 (0, 0))]) g2.1 hx3
 refine ov (v_indexO Tryz.underlying22 Tryz.sizeOf61 rfl ha9 rfl g2) rfl ?_
 refine ov (v_load Tryz.isAgg61 rfl hs10 (hc13 0 (by decide))) rfl ?_
 refine ov (v_eql rfl rfl) rfl ?_
 refine oa rfl rfl (shO_nil ?_)
 refine kW kn ?_
 refine shW_ret ?_
 refine q_res1 Tryz.results83 (res_tmp rfl) (sr) ?_
 obtain rfl := inj1 r4
 exact rfl
set_option maxHeartbeats 1000000 in
theorem hear_Town_plot_w {wide : Int} {plots_a : Option Addr} {plots_c : Nat} {plots : List Int} {p : Int} {F : FS} (_h_plots : RowR 1 (iE .i64) F plots_a plots_c plots) {r : Bool} (hr : hear_Town_plot wide plots p = some r) :
    SpecV Tryz.prog 86 #[.agg #[.int .i64 wide, .slice plots_a plots.length plots_c], .int .i64 p] F (.bool r) := by
 refine spec_of_shW (args := [.agg #[.int .i64 wide, .slice plots_a plots.length plots_c], .int .i64 p]) Tryz.func86 rfl Tryz.ntmps86 (Nat.le_of_ble_eq_true rfl) ?_
 intro K _ _; rw [hear_Town_plot] at hr
 refine wsr ?_
 refine o_box rfl rfl ?_; intro b1 hb1
 refine oa rfl rfl (nsr (om rfl rfl ?_))
 refine ov (v_fieldAddr fa_24_1 rfl) rfl ?_
 refine ov (v_load Tryz.isAgg22 rfl (Has.own 0 rfl) rfl) rfl ?_
 refine ov (v_lenS Tryz.underlying22 rfl) rfl ?_
 obtain ⟨g2, r3⟩ := gd_ok hr; clear hr
 refine ov (v_sub rfl rfl g2) rfl ?_
 obtain ⟨ok, h4, r5⟩ := b1_ok r3; clear r3
 refine o_callV rfl Tryz.call68 rfl rfl rfl (hear_in_w h4) ?_
 refine oa rfl rfl (shO_nil ?_)
 refine kW kn ?_
 refine shW_ret ?_
 refine q_res1 Tryz.results86 (res_tmp rfl) (sr) ?_
 obtain rfl := inj1 r5
 exact rfl
set_option maxHeartbeats 1000000 in
theorem hear_step_back_w {down : Int} {right_ : Int} {F : FS} {r : Int} {r2 : Int} (hr : hear_step_back down right_ = some (r, r2)) :
    SpecV Tryz.prog 129 #[.agg #[.int .i64 down, .int .i64 right_]] F (.agg #[.int .i64 r, .int .i64 r2]) := by
 refine spec_of_shW (args := [.agg #[.int .i64 down, .int .i64 right_]]) Tryz.func129 rfl Tryz.ntmps129 (Nat.le_of_ble_eq_true rfl) ?_
 intro K _ _; rw [hear_step_back] at hr
 refine wsr ?_
 refine o_box rfl rfl ?_; intro b1 hb1
 refine o_alloc rfl Tryz.zeroValue140 ?_; intro b2 hb2
 refine nsr ?_
 refine ov (v_fieldAddr fa_140_0 rfl) rfl ?_
 refine ov (v_load Tryz.isAgg3 rfl (Has.own 1 rfl) rfl) rfl ?_
 obtain ⟨g3, r4⟩ := gd_ok hr; clear hr
 refine ov (v_negT rfl g3) rfl ?_
 refine ov (v_fieldAddr fa_140_1 rfl) rfl ?_
 refine ov (v_load Tryz.isAgg3 rfl (Has.own 1 rfl) rfl) rfl ?_
 obtain ⟨g5, r6⟩ := gd_ok r4; clear r4
 refine ov (v_negT rfl g5) rfl ?_
 refine ov (v_build (v := .agg #[.int .i64 (-down), .int .i64 (-right_)]) rfl (by intro w; kernel_rfl)) rfl ?_
 refine o_storeA (i := 0) Tryz.sizeOf140 rfl rfl rfl (by simp [Value.oneCell']) rfl (Nat.le_of_ble_eq_true rfl) ?_
 refine shO_L (L' := [(b2, .cells #[.int .i64 (-down), .int .i64 (-right_)] 140 (0, 0)), (b1, .cells #[.int .i64 down, .int .i64 right_] 140 (0, 0))]) rfl ?_
 refine shO_nil ?_
 refine kW (kc kn) ?_
 refine shW_ret ?_
 refine q_res1 Tryz.results129 (res_cellA (cs := #[.int .i64 (-down), .int .i64 (-right_)]) Tryz.isAgg140 Tryz.sizeOf140 rfl (Has.own 0 rfl) (Nat.le_of_ble_eq_true rfl) rfl) (s1 sr) ?_
 obtain ⟨rfl, rfl⟩ := inj2 r6
 exact rfl
set_option maxHeartbeats 1000000 in
theorem hear_desk_needs_w {b_d : Nat} {wide : Int} {plots_a : Option Addr} {plots_c : Nat} {plots : List Int} {down : Int} {right_ : Int} {blows : Bool} {mb_d : Nat × Nat} {down2 : Int} {right_2 : Int} {to : Int} {F : FS} (hb_d : F b_d = some (.cells #[.int .i64 wide, .slice plots_a plots.length plots_c, .int .i64 down, .int .i64 right_, .bool blows] 142 mb_d)) (h_plots : RowR 1 (iE .i64) F plots_a plots_c plots) {r : Int} (hr : hear_desk_needs wide plots down right_ blows down2 right_2 to = some r) :
    SpecV Tryz.prog 110 #[.pointer (some ⟨b_d, 0, none⟩), .agg #[.int .i64 down2, .int .i64 right_2], .int .i64 to] F (.int .i64 r) := by
 refine spec_of_shW (args := [.pointer (some ⟨b_d, 0, none⟩), .agg #[.int .i64 down2, .int .i64 right_2], .int .i64 to]) Tryz.func110 rfl Tryz.ntmps110 (Nat.le_of_ble_eq_true rfl) ?_
 intro K _ _; rw [hear_desk_needs] at hr
 refine wsr ?_
 refine o_box rfl rfl ?_; intro b1 hb1
 refine oa rfl rfl (nsr (oa rfl rfl (shO_nil ?_)))
 obtain ⟨n, h2, r3⟩ := b1_ok hr; clear hr
 refine shW_join (fun e1 F1 L1 => F = F1 ∧ L1 = [] ∧ e1.sub [(0, .pointer (some ⟨b_d, 0, none⟩)), (2, .int .i64 to), (7, .int .i64 n)]) ?_ ?_
 · clear r3
   refine shW_block ?_
   refine wsr (om rfl rfl ?_)
   refine ov (v_nilCheck rfl) rfl ?_
   refine ov (v_fieldAddr fa_142_2 rfl) rfl ?_
   refine ov (v_load Tryz.isAgg4 rfl (Has.frozen hb_d) rfl) rfl ?_
   refine ov (v_notB rfl) rfl ?_
   refine oa rfl rfl (shO_nil ?_)
   refine shW_cond rfl (fun c4 => ?_) (fun c4 => ?_)
   · have r5 := bt h2 c4; clear h2
     refine shW_skip (inBlock_n (id := 0) ?_)
     obtain rfl := inj1 r5
     exact mi kn ⟨rfl, rfl, (sc rfl (sc rfl (sc rfl (sn _))))⟩
   have r6 := bf h2 c4; clear h2
   refine wsd (by kernel_rfl) (by kernel_rfl) (by kernel_rfl) ?_
   refine qv (v_loadA (cs := #[.int .i64 down2, .int .i64 right_2]) Tryz.isAgg140 Tryz.sizeOf140 rfl (Has.own 0 rfl) (Nat.le_of_ble_eq_true rfl) rfl) rfl ?_
   refine qm rfl rfl ?_
   refine qv (v_nilCheck rfl) rfl ?_
   refine qv (v_fieldAddr fa_142_1 rfl) rfl ?_
   refine qv (v_loadA (cs := #[.int .i64 down, .int .i64 right_]) Tryz.isAgg140 Tryz.sizeOf140 rfl (Has.frozen hb_d) (Nat.le_of_ble_eq_true rfl) rfl) rfl ?_
   refine qv (v_eqA (eqg_140 _ _ _ _) (eq_140 _ _ _ _) rfl rfl) rfl ?_
   refine qa rfl rfl (shQ_nil ?_)
   refine shW_condP rfl (fun c7 => ?_) (fun c7 => ?_)
   · have r8 := ite_t r6 c7; clear r6
     refine shW_region (oa rfl rfl (shO_nil (inBlock_n (id := 0) ?_)))
     obtain rfl := inj1 r8
     exact mi kn ⟨rfl, rfl, (sc rfl (sc rfl (sc rfl (sn _))))⟩
   have r9 := ite_f r6 c7; clear r6
   refine wsd (by kernel_rfl) (by kernel_rfl) (by kernel_rfl) ?_
   refine qv (v_loadA (cs := #[.int .i64 down2, .int .i64 right_2]) Tryz.isAgg140 Tryz.sizeOf140 rfl (Has.own 0 rfl) (Nat.le_of_ble_eq_true rfl) rfl) rfl ?_
   refine qm rfl rfl ?_
   refine qv (v_nilCheck rfl) rfl ?_
   refine qv (v_fieldAddr fa_142_1 rfl) rfl ?_
   refine qv (v_loadA (cs := #[.int .i64 down, .int .i64 right_]) Tryz.isAgg140 Tryz.sizeOf140 rfl (Has.frozen hb_d) (Nat.le_of_ble_eq_true rfl) rfl) rfl ?_
   obtain ⟨n2, n3, h10, r11⟩ := b2_ok r9; clear r9
   refine shQ_callV rfl Tryz.call129 rfl rfl rfl (hear_step_back_w h10) ?_
   refine qv (v_eqA (eqg_140 _ _ _ _) (eq_140 _ _ _ _) rfl rfl) rfl ?_
   refine qa rfl rfl (shQ_nil ?_)
   refine shW_condP rfl (fun c12 => ?_) (fun c12 => ?_)
   · have r13 := ite_t r11 c12; clear r11
     refine shW_region (oa rfl rfl (shO_nil (inBlock_n (id := 0) ?_)))
     obtain rfl := inj1 r13
     exact mi kn ⟨rfl, rfl, (sc rfl (sc rfl (sc rfl (sn _))))⟩
   have r14 := ite_f r11 c12; clear r11
   refine shW_skip (inBlock_n (id := 0) ?_)
   obtain rfl := inj1 r14
   exact mi kn ⟨rfl, rfl, (sc rfl (sc rfl (sc rfl (sn _))))⟩
 rintro e1 _ _ ⟨rfl, rfl, he15⟩
 refine shW_env _ he15 ?_; clear he15
 refine shW_seq (wsr (om rfl rfl ?_))
 refine ov (v_nilCheck rfl) rfl ?_
 refine ov (v_fieldAddr fa_142_0 rfl) rfl ?_
 refine ov (v_fieldAddr fa_24_1 rfl) rfl ?_
 refine ov (v_load Tryz.isAgg22 rfl (Has.frozen hb_d) rfl) rfl ?_
 refine om rfl rfl ?_
 obtain ⟨x, g16, hx17, r18⟩ := ix_ok r3; clear r3
 obtain ⟨b19, o20, c21, vs22, ha23, hs24, hle25, rfl, hl26, hc27⟩ := RowR.at (iE_ok _) h_plots ([]) g16.1 hx17
 refine ov (v_indexO Tryz.underlying22 Tryz.sizeOf61 rfl ha23 rfl g16) rfl ?_
 refine ov (v_load Tryz.isAgg61 rfl hs24 (hc27 0 (by decide))) rfl ?_
 refine ov (v_eql rfl rfl) rfl ?_
 refine shO_nil ?_
 refine shW_condP rfl (fun c28 => ?_) (fun c28 => ?_)
 · have r29 := ite_t r18 c28; clear r18
   refine shW_region (om rfl rfl ?_)
   obtain ⟨g30, r31⟩ := gd_ok r29; clear r29
   refine ov (v_add rfl rfl g30) rfl ?_
   refine oa rfl rfl (nsr (om rfl rfl (oa rfl rfl (shO_nil (shW_ret ?_)))))
   refine q_res1 Tryz.results110 (res_tmp rfl) (sr) ?_
   obtain rfl := inj1 r31
   exact rfl
 have r32 := ite_f r18 c28; clear r18
 refine shW_skip (wsr (om rfl rfl (oa rfl rfl (shO_nil (shW_ret ?_)))))
 refine q_res1 Tryz.results110 (res_tmp rfl) (sr) ?_
 obtain rfl := inj1 r32
 exact rfl
set_option maxHeartbeats 1000000 in
theorem hear_desk_next_1_w {b_p : Nat} {p : Int} {mb_p : Nat × Nat} {b_d : Nat} {b_d_ : Nat} {wide : Int} {plots_a : Option Addr} {plots_c : Nat} {plots : List Int} {down : Int} {right_ : Int} {blows : Bool} {mb_d_ : Nat × Nat} {mb_d : Nat × Nat} {b_closed : Nat} {closed_f : FuncId} {closed_1 : Array Value} {closed_2 : Array Value} {closed : Int → Option Bool} {mb_closed : Nat × Nat} {F : FS} (hb_p : F b_p = some (.cells #[.int .i64 p] 3 mb_p)) (hb_d : F b_d = some (.cells #[.pointer (some ⟨b_d_, 0, none⟩)] 116 mb_d)) (hb_d_ : F b_d_ = some (.cells #[.int .i64 wide, .slice plots_a plots.length plots_c, .int .i64 down, .int .i64 right_, .bool blows] 142 mb_d_)) (h_plots : RowR 1 (iE .i64) F plots_a plots_c plots) (hb_closed : F b_closed = some (.cells #[.func (.func closed_f) closed_1 closed_2] 59 mb_closed)) (h_closed : FnR Tryz.prog F closed_f closed_1 closed_2 (iE .i64) Value.bool closed) {xs : List (Int × Int)} (hr : hear_desk_next_1 p wide plots down right_ blows closed = some xs) :
    IterOK Tryz.prog 109 #[] #[.pointer (some ⟨b_p, 0, none⟩), .pointer (some ⟨b_d, 0, none⟩), .pointer (some ⟨b_closed, 0, none⟩)] F (fun x : Int × Int => #[.int .i64 x.1, .int .i64 x.2]) xs := by
 intro G0 hG0 yv J Jx hJm hJxm hy Fc L0 hG hJ0
 replace hb_p := (hG0.trans hG) _ _ hb_p
 replace hb_d := (hG0.trans hG) _ _ hb_d
 replace hb_d_ := (hG0.trans hG) _ _ hb_d_
 replace h_plots := h_plots.mono (iE_ok _) (hG0.trans hG)
 replace hb_closed := (hG0.trans hG) _ _ hb_closed
 replace h_closed := h_closed.mono (hG0.trans hG)
 have hfull0 : xs = [] ++ xs := rfl
 show SH.Spec Tryz.prog 109 #[yv, .pointer (some ⟨b_p, 0, none⟩), .pointer (some ⟨b_d, 0, none⟩), .pointer (some ⟨b_closed, 0, none⟩)] Fc L0 _
 refine spec_of_shW (args := [yv, .pointer (some ⟨b_p, 0, none⟩), .pointer (some ⟨b_d, 0, none⟩), .pointer (some ⟨b_closed, 0, none⟩)]) Tryz.func109 rfl Tryz.ntmps109 (Nat.le_of_ble_eq_true rfl) ?_
 intro K _ _; rw [hear_desk_next_1] at hr; refine shW_L (L' := L0 ++ []) (by simp) ?_
 refine wsr ?_
 refine ov (v_build (v := .agg #[.int .i64 (-1), .int .i64 0]) rfl (by intro w; kernel_rfl)) rfl ?_
 refine ov (v_build (v := .agg #[.int .i64 0, .int .i64 (-1)]) rfl (by intro w; kernel_rfl)) rfl ?_
 refine ov (v_build (v := .agg #[.int .i64 0, .int .i64 1]) rfl (by intro w; kernel_rfl)) rfl ?_
 refine ov (v_build (v := .agg #[.int .i64 1, .int .i64 0]) rfl (by intro w; kernel_rfl)) rfl ?_
 refine o_buildSlice (cs := #[.int .i64 (-1), .int .i64 0, .int .i64 0, .int .i64 (-1), .int .i64 0, .int .i64 1, .int .i64 1, .int .i64 0]) rfl rfl (buildSlice_all slt_143 [.agg #[.int .i64 (-1), .int .i64 0], .agg #[.int .i64 0, .int .i64 (-1)], .agg #[.int .i64 0, .int .i64 1], .agg #[.int .i64 1, .int .i64 0]] rfl (by decide) (by simp [Value.cells]) (by decide)) ?_; intro b1 hb1
 refine ov (v_lenS Tryz.underlying143 rfl) rfl ?_
 refine om rfl rfl (shO_nil ?_)
 refine shW_block ?_
 refine shW_freeze 0 rfl hb1 ?_; intro F2 hF3 hz4
 refine shW_L (L' := L0 ++ []) rfl ?_
 replace h_plots := h_plots.mono (iE_ok _) hF3
 replace h_closed := h_closed.mono hF3
 replace hb_p := hF3 _ _ hb_p
 replace hb_d_ := hF3 _ _ hb_d_
 replace hb_d := hF3 _ _ hb_d
 replace hb_closed := hF3 _ _ hb_closed
 replace hG := hG.trans hF3
 replace hJ0 := hJm _ _ _ _ hJ0 hF3
 have h5 : RowR 2 (prE (iE .i64) (iE .i64)) F2 (some ⟨b1, 0, none⟩) 4 [(-1, 0), (0, -1), (0, 1), (1, 0)] := RowR.of_block (prE_ok (iE_ok _) (iE_ok _)) (vss := [[.int .i64 (-1), .int .i64 0], [.int .i64 0, .int .i64 (-1)], [.int .i64 0, .int .i64 1], [.int .i64 1, .int .i64 0]]) (xs := [(-1, 0), (0, -1), (0, 1), (1, 0)]) hz4 (.cons ⟨_, _, rfl, rfl, rfl⟩ (.cons ⟨_, _, rfl, rfl, rfl⟩ (.cons ⟨_, _, rfl, rfl, rfl⟩ (.cons ⟨_, _, rfl, rfl, rfl⟩ .nil)))) rfl (by simp [maxLen])
 obtain ⟨g11, r12⟩ := gd_ok hr; clear hr
 refine shW_lp (fun fu1 e1 F1 L1 => ∃ (k : Int), Ctr 0 4 k fu1 ∧ ∃ (pre6 : List (Int × Int)) (rem7 : List (Int × Int)) (Lj8 : LH), hear_desk_next_1_l1 p wide plots down right_ blows closed fu1 k = some rem7 ∧ FExt F2 F1 ∧ L1 = (Lj8 ++ []) ∧ e1.sub [(0, yv), (1, .pointer (some ⟨b_p, 0, none⟩)), (2, .pointer (some ⟨b_d, 0, none⟩)), (3, .pointer (some ⟨b_closed, 0, none⟩)), (12, .slice (some ⟨b1, 0, none⟩) [(-1, 0), (0, -1), (0, 1), (1, 0)].length 4), (13, .int .i64 4), (14, .int .i64 k)] ∧ xs = pre6 ++ rem7 ∧ J pre6 F1 Lj8 ∧ FExt G0 F1) _ (m0 kr ⟨_, Ctr.start _ _, [], xs, L0, r12, FExt.refl _, rfl, (sc rfl (sc rfl (sc rfl (sc rfl (sc rfl (sc rfl (sc rfl (sn _)))))))), hfull0, hJ0, hG⟩) ?_
 rintro fu1 e1 F17 _ ⟨k, hk13, pre6, rem7, Lj8, r15, hF18, rfl, he16, hfull10, hJ9, hG⟩
 refine shW_env _ he16 ?_; clear he16
 replace h_plots := h_plots.mono (iE_ok _) hF18
 replace h5 := h5.mono (prE_ok (iE_ok _) (iE_ok _)) hF18
 replace h_closed := h_closed.mono hF18
 replace hb_p := hF18 _ _ hb_p
 replace hb_d_ := hF18 _ _ hb_d_
 replace hb_d := hF18 _ _ hb_d
 replace hb_closed := hF18 _ _ hb_closed
 refine wsr ?_
 refine ov (v_lssK rfl rfl) rfl ?_
 refine shO_nil (shW_seq ?_)
 refine shW_condP rfl (fun c20 => ?_) (fun c20 => ?_)
 · obtain ⟨fu1, rfl, hk21⟩ := Ctr.succ hk13 c20
   rw [hear_desk_next_1_l1] at r15
   refine shW_skip (shW_seq ?_)
   refine shW_block ?_
   refine wsr ?_
   obtain ⟨x, g22, hx23, r24⟩ := ix_ok r15; clear r15
   obtain ⟨b25, o26, c27, vs28, ha29, hs30, hle31, ⟨_, _, rfl, rfl, rfl⟩, hl32, hc33⟩ := RowR.at (prE_ok (iE_ok _) (iE_ok _)) h5 (Lj8 ++ []) g22.1 hx23
   refine ov (v_indexO Tryz.underlying143 Tryz.sizeOf140 rfl ha29 rfl g22) rfl ?_
   refine ov (v_loadA (cs := #[.int .i64 x.1, .int .i64 x.2]) Tryz.isAgg140 Tryz.sizeOf140 rfl hs30 hle31 (extract_cells hle31 hl32 hc33)) rfl ?_
   refine o_alloc rfl Tryz.zeroValue140 ?_; intro b34 hb34
   refine o_storeA (i := 0) Tryz.sizeOf140 rfl rfl rfl (by simp [Value.oneCell']) rfl (Nat.le_of_ble_eq_true rfl) ?_
   refine shO_L (L' := (b34, .cells #[.int .i64 x.1, .int .i64 x.2] 140 (0, 0)) :: (Lj8 ++ [])) rfl ?_
   refine nsd (by kernel_rfl) (by kernel_rfl) (by kernel_rfl) ?_
   refine qv (v_load Tryz.isAgg3 rfl (Has.frozen hb_p) rfl) rfl ?_
   refine qv (v_fieldAddr fa_140_0 rfl) rfl ?_
   refine qv (v_load Tryz.isAgg3 rfl (Has.own 0 rfl) rfl) rfl ?_
   refine qv (v_load Tryz.isAgg116 rfl (Has.frozen hb_d) rfl) rfl ?_
   refine qv (v_nilCheck rfl) rfl ?_
   refine qv (v_fieldAddr fa_142_0 rfl) rfl ?_
   refine qv (v_fieldAddr fa_24_0 rfl) rfl ?_
   refine qv (v_load Tryz.isAgg3 rfl (Has.frozen hb_d_) rfl) rfl ?_
   obtain ⟨g35, r36⟩ := gd_ok r24; clear r24
   refine qv (v_mul rfl rfl g35) rfl ?_
   obtain ⟨g37, r38⟩ := gd_ok r36; clear r36
   refine qv (v_add rfl rfl g37) rfl ?_
   refine qv (v_fieldAddr fa_140_1 rfl) rfl ?_
   refine qv (v_load Tryz.isAgg3 rfl (Has.own 0 rfl) rfl) rfl ?_
   obtain ⟨g39, r40⟩ := gd_ok r38; clear r38
   refine qv (v_add rfl rfl g39) rfl ?_
   refine qa rfl rfl (shQ_nil (shW_seq ?_))
   refine wsd (by kernel_rfl) (by kernel_rfl) (by kernel_rfl) ?_
   refine qv (v_load Tryz.isAgg116 rfl (Has.frozen hb_d) rfl) rfl ?_
   refine qv (v_nilCheck rfl) rfl ?_
   refine qv (v_fieldAddr fa_142_0 rfl) rfl ?_
   refine qv (v_loadA (cs := #[.int .i64 wide, .slice plots_a plots.length plots_c]) Tryz.isAgg24 Tryz.sizeOf24 rfl (Has.frozen hb_d_) (Nat.le_of_ble_eq_true rfl) rfl) rfl ?_
   refine qm rfl rfl ?_
   obtain ⟨ok, h41, r42⟩ := b1_ok r40; clear r40
   refine shQ_callV rfl Tryz.call86 rfl rfl rfl (hear_Town_plot_w h_plots h41) ?_
   refine qv (v_notB rfl) rfl ?_
   refine qm rfl rfl ?_
   rcases bool_two (!ok) with c43 | c43
   · have r44 := bt r42 c43; clear r42
     refine shQ_off (b' := true) 38 rfl (EnvB rfl c43) rfl rfl (shQ_off (b' := true) 38 rfl (EnvB rfl c43) rfl rfl (shQ_off (b' := true) 38 rfl (EnvB rfl c43) rfl rfl (shQ_off (b' := true) 38 rfl (EnvB rfl c43) rfl rfl (shQ_offU 42 rfl rfl rfl (shQ_offU 42 rfl rfl rfl (shQ_offU 42 rfl rfl rfl (shQ_offU 42 rfl rfl rfl (shQ_offU 42 rfl rfl rfl (shQ_offU 42 rfl rfl rfl ?_)))))))))
     refine shQ_offU 42 rfl rfl rfl (shQ_offU 42 rfl rfl rfl (shQ_offU 42 rfl rfl rfl (shQ_offU 42 rfl rfl rfl (shQ_offU 42 rfl rfl rfl (shQ_offU 42 rfl rfl rfl (shQ_offU 42 rfl rfl rfl (shQ_offU 42 rfl rfl rfl (shQ_offU 42 rfl rfl rfl (shQ_off (b' := true) 38 rfl (EnvB rfl c43) rfl rfl ?_)))))))))
     refine qv (v_pick_t (evB rfl c43) rfl) rfl ?_
     refine qm rfl rfl (shQ_off (b' := true) 60 rfl rfl rfl rfl (shQ_off (b' := true) 60 rfl rfl rfl rfl (shQ_off (b' := true) 60 rfl rfl rfl rfl ?_)))
     refine qv (v_pick_t rfl rfl) rfl ?_
     refine shQ_nil ?_
     refine shW_cond rfl (fun c45 => ?_) (fun c45 => nomatch c45)
     refine shW_exit (andThen_exit ?_)
     refine inBlock_exit ?_
     refine shW_region ?_
     refine ov (v_add rfl rfl (Ctr.r64 hk13 c20 g11)) rfl ?_
     refine om rfl rfl (shO_nil ?_)
     exact le (kd kr) ⟨_, hk21, pre6, rem7, Lj8, r44, hF18, rfl, (sc rfl (sc rfl (sc rfl (sc rfl (sc rfl (sc rfl (sc rfl (sn _)))))))), hfull10, hJ9, hG⟩
   have r46 := bf r42 c43; clear r42
   refine shQ_on (b := false) 38 rfl (EnvB rfl c43) ?_
   refine qv (v_fieldAddr fa_140_0 rfl) rfl ?_
   refine shQ_on (b := false) 38 rfl (EnvB rfl c43) ?_
   refine qv (v_load Tryz.isAgg3 rfl (Has.own 0 rfl) rfl) rfl ?_
   refine shQ_on (b := false) 38 rfl (EnvB rfl c43) ?_
   refine qv (v_eql rfl rfl) rfl ?_
   refine shQ_on (b := false) 38 rfl (EnvB rfl c43) (qm rfl rfl ?_)
   by_cases c47 : x.1 = 0
   · have r48 := ite_t r46 c47; clear r46
     refine shQ_on (b := true) 42 rfl (Env.isT rfl c47) (qm rfl rfl (shQ_on (b := true) 42 rfl (Env.isT rfl c47) ?_))
     refine qv (v_load Tryz.isAgg116 rfl (Has.frozen hb_d) rfl) rfl ?_
     refine shQ_on (b := true) 42 rfl (Env.isT rfl c47) ?_
     refine qv (v_nilCheck rfl) rfl ?_
     refine shQ_on (b := true) 42 rfl (Env.isT rfl c47) ?_
     refine qv (v_fieldAddr fa_142_0 rfl) rfl ?_
     refine shQ_on (b := true) 42 rfl (Env.isT rfl c47) ?_
     refine qv (v_fieldAddr fa_24_0 rfl) rfl ?_
     refine shQ_on (b := true) 42 rfl (Env.isT rfl c47) ?_
     refine qv (v_load Tryz.isAgg3 rfl (Has.frozen hb_d_) rfl) rfl ?_
     refine shQ_on (b := true) 42 rfl (Env.isT rfl c47) ?_
     obtain ⟨g49, r50⟩ := gd_ok r48; clear r48
     refine qv (v_quoT rfl rfl g49) rfl ?_
     refine shQ_on (b := true) 42 rfl (Env.isT rfl c47) ?_
     refine qv (v_load Tryz.isAgg3 rfl (Has.frozen hb_p) rfl) rfl ?_
     refine shQ_on (b := true) 42 rfl (Env.isT rfl c47) ?_
     refine qv (v_load Tryz.isAgg116 rfl (Has.frozen hb_d) rfl) rfl ?_
     refine shQ_on (b := true) 42 rfl (Env.isT rfl c47) ?_
     refine qv (v_nilCheck rfl) rfl ?_
     refine shQ_on (b := true) 42 rfl (Env.isT rfl c47) ?_
     refine qv (v_fieldAddr fa_142_0 rfl) rfl ?_
     refine shQ_on (b := true) 42 rfl (Env.isT rfl c47) ?_
     refine qv (v_fieldAddr fa_24_0 rfl) rfl ?_
     refine shQ_on (b := true) 42 rfl (Env.isT rfl c47) ?_
     refine qv (v_load Tryz.isAgg3 rfl (Has.frozen hb_d_) rfl) rfl ?_
     refine shQ_on (b := true) 42 rfl (Env.isT rfl c47) ?_
     obtain ⟨g51, r52⟩ := gd_ok r50; clear r50
     refine qv (v_quoT rfl rfl g51) rfl ?_
     refine shQ_on (b := true) 42 rfl (Env.isT rfl c47) ?_
     refine qv (v_neq rfl rfl) rfl ?_
     refine shQ_on (b := false) 38 rfl (EnvB rfl c43) ?_
     refine qv (v_pick_t (evD_true rfl c47) rfl) rfl ?_
     refine qv (v_pick_f (evB rfl c43) rfl) rfl ?_
     refine qm rfl rfl ?_
     by_cases c53 : (Int.tdiv ((p + (x.1 * wide)) + x.2) wide) ≠ (Int.tdiv p wide)
     · have r54 := ite_t r52 c53; clear r52
       refine shQ_off (b' := true) 60 rfl (Env.isT rfl c53) rfl rfl (shQ_off (b' := true) 60 rfl (Env.isT rfl c53) rfl rfl (shQ_off (b' := true) 60 rfl (Env.isT rfl c53) rfl rfl ?_))
       refine qv (v_pick_t (evD_true rfl c53) rfl) rfl ?_
       refine shQ_nil ?_
       refine shW_cond rfl (fun c55 => ?_) (fun c55 => nomatch c55)
       refine shW_exit (andThen_exit ?_)
       refine inBlock_exit ?_
       refine shW_region ?_
       refine ov (v_add rfl rfl (Ctr.r64 hk13 c20 g11)) rfl ?_
       refine om rfl rfl (shO_nil ?_)
       exact le (kd kr) ⟨_, hk21, pre6, rem7, Lj8, r54, hF18, rfl, (sc rfl (sc rfl (sc rfl (sc rfl (sc rfl (sc rfl (sc rfl (sn _)))))))), hfull10, hJ9, hG⟩
     have r56 := ite_f r52 c53; clear r52
     refine shQ_on (b := false) 60 rfl (Env.isF rfl c53) ?_
     refine qv (v_load Tryz.isAgg59 rfl (Has.frozen hb_closed) rfl) rfl ?_
     refine shQ_on (b := false) 60 rfl (Env.isF rfl c53) (qm rfl rfl (shQ_on (b := false) 60 rfl (Env.isF rfl c53) ?_))
     obtain ⟨ok2, h57, r58⟩ := b1_ok r56; clear r56
     refine shQ_callV rfl h_closed.1 rfl rfl rfl (h_closed.2 _ (FExt.refl _) _ _ _ rfl h57) ?_
     refine qv (v_pick_f (evD_false rfl c53) rfl) rfl ?_
     refine shQ_nil ?_
     refine shW_cond rfl (fun c59 => ?_) (fun c59 => ?_)
     · have r60 := bt r58 c59; clear r58
       refine shW_exit (andThen_exit ?_)
       refine inBlock_exit ?_
       refine shW_region ?_
       refine ov (v_add rfl rfl (Ctr.r64 hk13 c20 g11)) rfl ?_
       refine om rfl rfl (shO_nil ?_)
       exact le (kd kr) ⟨_, hk21, pre6, rem7, Lj8, r60, hF18, rfl, (sc rfl (sc rfl (sc rfl (sc rfl (sc rfl (sc rfl (sc rfl (sn _)))))))), hfull10, hJ9, hG⟩
     have r61 := bf r58 c59; clear r58
     refine shW_skip (wsr (om rfl rfl (om rfl rfl ?_)))
     refine ov (v_load Tryz.isAgg116 rfl (Has.frozen hb_d) rfl) rfl ?_
     refine ov (v_loadA (cs := #[.int .i64 x.1, .int .i64 x.2]) Tryz.isAgg140 Tryz.sizeOf140 rfl (Has.own 0 rfl) (Nat.le_of_ble_eq_true rfl) rfl) rfl ?_
     refine om rfl rfl ?_
     obtain ⟨n, h62, r63⟩ := b1_ok r61; clear r61
     refine o_callV rfl Tryz.call110 rfl rfl rfl (hear_desk_needs_w hb_d_ h_plots h62) ?_
     obtain ⟨tl64, r66, hx65⟩ := yl_ok r63; clear r63
     refine o_callC (Lb := Lj8) (Lr := [(b34, .cells #[.int .i64 x.1, .int .i64 x.2] 140 (0, 0))]) (vs := [.int .i64 ((p + (x.1 * wide)) + x.2), .int .i64 n]) rfl rfl rfl (fC fP) (hy pre6 ((p + (x.1 * wide)) + x.2, n) tl64 (by rw [hfull10, hx65]) _ _ hG hJ9) ?_
     rintro v74 F67 Lj68 hF69 hz70; obtain ⟨yb71, rfl, hbt72, hbf73⟩ := yield_bool hz70
     replace hG := hG.trans hF69
     refine kO (kf (fS fO) kr) ?_
     refine ov (v_notB rfl) rfl ?_
     refine shO_nil ?_
     refine shW_cond rfl (fun c75 => ?_) (fun c75 => ?_)
     · have hJ76 := hbf73 (by simpa using c75)
       refine shW_ret (inBlock_ret (andThen_ret (andThen_ret (inBlock_ret ?_))))
       refine q_end0s (.inl rfl) Tryz.results109 (s1 (s4 sr)) ?_
       exact .inr (by rw [List.append_nil]; exact hJ76)
     have hJ77 := hbt72 (by simpa using c75)
     have hfull78 : xs = (pre6 ++ [((p + (x.1 * wide)) + x.2, n)]) ++ tl64 := by rw [hfull10, hx65]; simp
     refine shW_skip (inBlock_n (id := 1) (shW_region ?_))
     refine ov (v_add rfl rfl (Ctr.r64 hk13 c20 g11)) rfl ?_
     refine om rfl rfl (shO_nil ?_)
     exact le (kd kr) ⟨_, hk21, pre6 ++ [((p + (x.1 * wide)) + x.2, n)], tl64, Lj68, r66, (hF18.trans hF69), rfl, (sc rfl (sc rfl (sc rfl (sc rfl (sc rfl (sc rfl (sc rfl (sn _)))))))), hfull78, hJ77, hG⟩
   have r79 := ite_f r46 c47; clear r46
   refine shQ_off (b' := false) 42 rfl (Env.isF rfl c47) rfl rfl (shQ_off (b' := false) 42 rfl (Env.isF rfl c47) rfl rfl (shQ_off (b' := false) 42 rfl (Env.isF rfl c47) rfl rfl (shQ_off (b' := false) 42 rfl (Env.isF rfl c47) rfl rfl (shQ_off (b' := false) 42 rfl (Env.isF rfl c47) rfl rfl (shQ_off (b' := false) 42 rfl (Env.isF rfl c47) rfl rfl (shQ_off (b' := false) 42 rfl (Env.isF rfl c47) rfl rfl (shQ_off (b' := false) 42 rfl (Env.isF rfl c47) rfl rfl (shQ_off (b' := false) 42 rfl (Env.isF rfl c47) rfl rfl (shQ_off (b' := false) 42 rfl (Env.isF rfl c47) rfl rfl ?_)))))))))
   refine shQ_off (b' := false) 42 rfl (Env.isF rfl c47) rfl rfl (shQ_off (b' := false) 42 rfl (Env.isF rfl c47) rfl rfl (shQ_off (b' := false) 42 rfl (Env.isF rfl c47) rfl rfl (shQ_off (b' := false) 42 rfl (Env.isF rfl c47) rfl rfl (shQ_off (b' := false) 42 rfl (Env.isF rfl c47) rfl rfl (shQ_on (b := false) 38 rfl (EnvB rfl c43) ?_)))))
   refine qv (v_pick_f (evD_false rfl c47) rfl) rfl ?_
   refine qv (v_pick_f (evB rfl c43) rfl) rfl ?_
   refine qm rfl rfl (shQ_on (b := false) 60 rfl rfl ?_)
   refine qv (v_load Tryz.isAgg59 rfl (Has.frozen hb_closed) rfl) rfl ?_
   refine shQ_on (b := false) 60 rfl rfl (qm rfl rfl (shQ_on (b := false) 60 rfl rfl ?_))
   obtain ⟨ok3, h80, r81⟩ := b1_ok r79; clear r79
   refine shQ_callV rfl h_closed.1 rfl rfl rfl (h_closed.2 _ (FExt.refl _) _ _ _ rfl h80) ?_
   refine qv (v_pick_f rfl rfl) rfl ?_
   refine shQ_nil ?_
   refine shW_cond rfl (fun c82 => ?_) (fun c82 => ?_)
   · have r83 := bt r81 c82; clear r81
     refine shW_exit (andThen_exit ?_)
     refine inBlock_exit ?_
     refine shW_region ?_
     refine ov (v_add rfl rfl (Ctr.r64 hk13 c20 g11)) rfl ?_
     refine om rfl rfl (shO_nil ?_)
     exact le (kd kr) ⟨_, hk21, pre6, rem7, Lj8, r83, hF18, rfl, (sc rfl (sc rfl (sc rfl (sc rfl (sc rfl (sc rfl (sc rfl (sn _)))))))), hfull10, hJ9, hG⟩
   have r84 := bf r81 c82; clear r81
   refine shW_skip (wsr (om rfl rfl (om rfl rfl ?_)))
   refine ov (v_load Tryz.isAgg116 rfl (Has.frozen hb_d) rfl) rfl ?_
   refine ov (v_loadA (cs := #[.int .i64 x.1, .int .i64 x.2]) Tryz.isAgg140 Tryz.sizeOf140 rfl (Has.own 0 rfl) (Nat.le_of_ble_eq_true rfl) rfl) rfl ?_
   refine om rfl rfl ?_
   obtain ⟨n2, h85, r86⟩ := b1_ok r84; clear r84
   refine o_callV rfl Tryz.call110 rfl rfl rfl (hear_desk_needs_w hb_d_ h_plots h85) ?_
   obtain ⟨tl87, r89, hx88⟩ := yl_ok r86; clear r86
   refine o_callC (Lb := Lj8) (Lr := [(b34, .cells #[.int .i64 x.1, .int .i64 x.2] 140 (0, 0))]) (vs := [.int .i64 ((p + (x.1 * wide)) + x.2), .int .i64 n2]) rfl rfl rfl (fC fP) (hy pre6 ((p + (x.1 * wide)) + x.2, n2) tl87 (by rw [hfull10, hx88]) _ _ hG hJ9) ?_
   rintro v97 F90 Lj91 hF92 hz93; obtain ⟨yb94, rfl, hbt95, hbf96⟩ := yield_bool hz93
   replace hG := hG.trans hF92
   refine kO (kf (fS fO) kr) ?_
   refine ov (v_notB rfl) rfl ?_
   refine shO_nil ?_
   refine shW_cond rfl (fun c98 => ?_) (fun c98 => ?_)
   · have hJ99 := hbf96 (by simpa using c98)
     refine shW_ret (inBlock_ret (andThen_ret (andThen_ret (inBlock_ret ?_))))
     refine q_end0s (.inl rfl) Tryz.results109 (s1 (s4 sr)) ?_
     exact .inr (by rw [List.append_nil]; exact hJ99)
   have hJ100 := hbt95 (by simpa using c98)
   have hfull101 : xs = (pre6 ++ [((p + (x.1 * wide)) + x.2, n2)]) ++ tl87 := by rw [hfull10, hx88]; simp
   refine shW_skip (inBlock_n (id := 1) (shW_region ?_))
   refine ov (v_add rfl rfl (Ctr.r64 hk13 c20 g11)) rfl ?_
   refine om rfl rfl (shO_nil ?_)
   exact le (kd kr) ⟨_, hk21, pre6 ++ [((p + (x.1 * wide)) + x.2, n2)], tl87, Lj91, r89, (hF18.trans hF92), rfl, (sc rfl (sc rfl (sc rfl (sc rfl (sc rfl (sc rfl (sc rfl (sn _)))))))), hfull101, hJ100, hG⟩
 obtain rfl := Ctr.zero hk13 c20
 rw [hear_desk_next_1_l1] at r15
 refine shW_exit (andThen_exit (andThen_exit ?_))
 refine inBlock_exit ?_
 refine q_end0s (.inr rfl) Tryz.results109 (sr) ?_
 obtain rfl := inj1 r15
 exact .inl (by have e1 := hfull10; rw [List.append_nil] at e1; rw [List.append_nil, e1]; exact hJ9)
set_option maxHeartbeats 1000000 in
theorem hear_desk_next_w {b_d : Nat} {wide : Int} {plots_a : Option Addr} {plots_c : Nat} {plots : List Int} {down : Int} {right_ : Int} {blows : Bool} {mb_d : Nat × Nat} {p : Int} {F : FS} (hb_d : F b_d = some (.cells #[.int .i64 wide, .slice plots_a plots.length plots_c, .int .i64 down, .int .i64 right_, .bool blows] 142 mb_d)) (h_plots : RowR 1 (iE .i64) F plots_a plots_c plots) {r : List (Int × Int)} (hr : hear_desk_next wide plots down right_ blows p = some r) :
    SH.Spec Tryz.prog 82 #[.pointer (some ⟨b_d, 0, none⟩), .int .i64 p] F [] fun F' L' v => ∃ (rcp : Array Value), v = .func (.func 109) #[] rcp ∧ L' = [] ∧ IterOK Tryz.prog 109 #[] rcp F' (fun x : Int × Int => #[.int .i64 x.1, .int .i64 x.2]) r := by
 refine spec_of_shW (args := [.pointer (some ⟨b_d, 0, none⟩), .int .i64 p]) Tryz.func82 rfl Tryz.ntmps82 (Nat.le_of_ble_eq_true rfl) ?_
 intro K _ _; rw [hear_desk_next] at hr
 refine wsr ?_
 refine o_box rfl rfl ?_; intro b1 hb1
 refine o_box rfl rfl ?_; intro b2 hb2
 refine oa rfl rfl (nsr ?_)
 refine ov (v_load Tryz.isAgg116 rfl (Has.own 1 rfl) rfl) rfl ?_
 refine ov (v_nilCheck rfl) rfl ?_
 refine ov (v_fieldAddr fa_142_0 rfl) rfl ?_
 refine ov (v_loadA (cs := #[.int .i64 wide, .slice plots_a plots.length plots_c]) Tryz.isAgg24 Tryz.sizeOf24 rfl (Has.frozen hb_d) (Nat.le_of_ble_eq_true rfl) rfl) rfl ?_
 refine ov (v_makeFunc rfl rfl) rfl ?_
 refine o_alloc rfl Tryz.zeroValue59 ?_; intro b3 hb3
 refine o_store (i := 0) Tryz.sizeOf59 rfl rfl rfl rfl (Nat.le_of_ble_eq_true rfl) ?_
 refine shO_L (L' := [(b3, .cells (#[.func (.func 83) #[.agg #[.int .i64 wide, .slice plots_a plots.length plots_c]] #[]]) 59 (0, 0)), (b2, .cells #[.int .i64 p] 3 (0, 0)), (b1, .cells #[.pointer (some ⟨b_d, 0, none⟩)] 116 (0, 0))]) rfl ?_
 refine nsr ?_
 refine ov (v_makeFunc rfl rfl) rfl ?_
 refine oa rfl rfl (shO_nil ?_)
 refine shW_freeze 1 rfl hb2 ?_; intro F4 hF5 hz6
 refine shW_L (L' := [(b3, .cells (#[.func (.func 83) #[.agg #[.int .i64 wide, .slice plots_a plots.length plots_c]] #[]]) 59 (0, 0)), (b1, .cells #[.pointer (some ⟨b_d, 0, none⟩)] 116 (0, 0))]) rfl ?_
 replace h_plots := h_plots.mono (iE_ok _) hF5
 replace hb_d := hF5 _ _ hb_d
 refine shW_freeze 1 rfl hb1 ?_; intro F7 hF8 hz9
 refine shW_L (L' := [(b3, .cells (#[.func (.func 83) #[.agg #[.int .i64 wide, .slice plots_a plots.length plots_c]] #[]]) 59 (0, 0))]) rfl ?_
 replace h_plots := h_plots.mono (iE_ok _) hF8
 replace hb_d := hF8 _ _ hb_d
 replace hz6 := hF8 _ _ hz6
 refine shW_freeze 0 rfl hb3 ?_; intro F10 hF11 hz12
 refine shW_L (L' := []) rfl ?_
 replace h_plots := h_plots.mono (iE_ok _) hF11
 replace hb_d := hF11 _ _ hb_d
 replace hz6 := hF11 _ _ hz6
 replace hz9 := hF11 _ _ hz9
 have hn13 : FnR Tryz.prog F10 83 #[.agg #[.int .i64 wide, .slice plots_a plots.length plots_c]] #[] (iE .i64) Value.bool (fun xx_ : Int => hear_Town_wall wide plots xx_) := ⟨Tryz.call83, fun F2 h2 vs xx_ r ha hr => by obtain rfl := ha; exact hear_Town_wall_w (h_plots.mono (iE_ok _) h2) hr⟩
 obtain ⟨l, h14, r16⟩ := b1_ok hr; clear hr
 have hit15 : IterOK Tryz.prog 109 #[] #[.pointer (some ⟨b2, 0, none⟩), .pointer (some ⟨b1, 0, none⟩), .pointer (some ⟨b3, 0, none⟩)] F10 (fun x : Int × Int => #[.int .i64 x.1, .int .i64 x.2]) l := hear_desk_next_1_w hz6 hz9 hb_d h_plots hz12 hn13 h14
 refine shW_ret ?_
 refine q_res1 Tryz.results82 (res_tmp rfl) (sr) ?_
 obtain rfl := inj1 r16
 exact ⟨_, rfl, rfl, hit15⟩
set_option maxHeartbeats 1000000 in
theorem hear_desk_from_w {b_d : Nat} {wide : Int} {plots_a : Option Addr} {plots_c : Nat} {plots : List Int} {down : Int} {right_ : Int} {blows : Bool} {mb_d : Nat × Nat} {stand : Int} {F : FS} (hb_d : F b_d = some (.cells #[.int .i64 wide, .slice plots_a plots.length plots_c, .int .i64 down, .int .i64 right_, .bool blows] 142 mb_d)) (h_plots : RowR 1 (iE .i64) F plots_a plots_c plots) {r : List Int} (hr : hear_desk_from wide plots down right_ blows stand = some r) :
    SH.Spec Tryz.prog 81 #[.pointer (some ⟨b_d, 0, none⟩), .int .i64 stand] F [] fun F' L' v => ∃ (ra : Option Addr) (rn : Nat) (rc : Nat) (rL : LH), v = .slice ra rn rc ∧ L' = rL ++ [] ∧ SlR 0 3 1 (iE .i64) F' ra rn rc r rL := by
 refine spec_of_shW (args := [.pointer (some ⟨b_d, 0, none⟩), .int .i64 stand]) Tryz.func81 rfl Tryz.ntmps81 (Nat.le_of_ble_eq_true rfl) ?_
 intro K _ _; rw [hear_desk_from] at hr
 refine wsr (oa rfl rfl (nsr (om rfl rfl ?_)))
 refine ov (v_nilCheck rfl) rfl ?_
 refine ov (v_fieldAddr fa_142_0 rfl) rfl ?_
 refine ov (v_fieldAddr fa_24_1 rfl) rfl ?_
 refine ov (v_load Tryz.isAgg22 rfl (Has.frozen hb_d) rfl) rfl ?_
 refine ov (v_lenS Tryz.underlying22 rfl) rfl ?_
 obtain ⟨g1, r2⟩ := gd_ok hr; clear hr
 obtain ⟨l, h3, r4⟩ := bv_ok r2; clear r2
 refine o_makeZ (R := (iE .i64)) (z0 := 0) (zs := l) rfl slt_28 (by decide) (iE_ok _) (fun _ => rfl) rfl g1 h3 (fun _ => .n) ?_; intro a5 n8 Lb6 hz7
 refine o_alloc rfl Tryz.zeroValue28 ?_; intro b10 hb10
 refine o_store (i := 0) Tryz.sizeOf28 rfl rfl rfl rfl (Nat.le_of_ble_eq_true rfl) ?_
 refine shO_L (L' := (b10, .cells #[.slice a5 n8 n8] 28 (0, 0)) :: (Lb6 ++ [])) rfl ?_
 refine shO_nil ?_
 obtain ⟨out, h13, r14⟩ := b1_ok r4; clear r4
 refine shW_join (fun e1 F1 L1 => ∃ (Lb11 : LH), F = F1 ∧ L1 = ((b10, .cells #[.slice a5 n8 n8] 28 (0, 0)) :: (Lb11 ++ [])) ∧ e1.sub [(0, .pointer (some ⟨b_d, 0, none⟩)), (1, .int .i64 stand), (5, .pointer (some ⟨b10, 0, none⟩))] ∧ SlR K.w0.heap.size 3 1 (iE .i64) F1 a5 n8 n8 out Lb11) ?_ ?_
 · clear r14
   refine wsr ?_
   refine ov (v_load Tryz.isAgg28 rfl (Has.own 0 rfl) rfl) rfl ?_
   refine ov ((v_lenS Tryz.underlying28 rfl).i (SlR.lenI hz7)) rfl ?_
   refine om rfl rfl (shO_nil ?_)
   refine shW_block ?_
   obtain ⟨g17, r18⟩ := gd_ok h13; clear h13
   refine shW_lp (fun fu1 e1 F1 L1 => ∃ (k : Int), Ctr 0 (l.length : Int) k fu1 ∧ ∃ (out2 : List Int) (Lb15 : LH), hear_desk_from_l1 fu1 k out2 = some out ∧ F = F1 ∧ L1 = ((b10, .cells #[.slice a5 n8 n8] 28 (0, 0)) :: (Lb15 ++ [])) ∧ e1.sub [(0, .pointer (some ⟨b_d, 0, none⟩)), (1, .int .i64 stand), (5, .pointer (some ⟨b10, 0, none⟩)), (19, .int .i64 (l.length : Int)), (20, .int .i64 k)] ∧ SlR K.w0.heap.size 3 1 (iE .i64) F1 a5 n8 n8 out2 Lb15) _ (m0 kr ⟨_, Ctr.start _ _, l, Lb6, r18, rfl, rfl, (sc rfl (sc rfl (sc rfl (sc rfl (sc rfl (sn _)))))), hz7⟩) ?_
   rintro fu1 e1 _ _ ⟨k, hk19, out2, Lb15, r21, rfl, rfl, he22, hz16⟩
   refine shW_env _ he22 ?_; clear he22
   refine wsr ?_
   refine ov (v_lssK rfl rfl) rfl ?_
   refine shO_nil (shW_seq ?_)
   refine shW_condP rfl (fun c24 => ?_) (fun c24 => ?_)
   · obtain ⟨fu1, rfl, hk25⟩ := Ctr.succ hk19 c24
     rw [hear_desk_from_l1] at r21
     refine shW_skip (shW_seq ?_)
     refine shW_block ?_
     refine wsr (om rfl rfl (oa rfl rfl (shO_nil (shW_region ?_))))
     refine ov (v_load Tryz.isAgg28 rfl (Has.own 0 rfl) rfl) rfl ?_
     refine om rfl rfl ?_
     obtain ⟨x, g26, hx27, r28⟩ := ix_ok r21; clear r21
     obtain ⟨b29, o30, c31, vs32, ha33, hs34, hle35, rfl, hl36, hc37⟩ := SlR.at (iE_ok _) hz16 (L := (b10, .cells #[.slice a5 n8 n8] 28 (0, 0)) :: (Lb15 ++ [])) (fC fP) g26.1 hx27
     refine ov (v_indexO Tryz.underlying28 Tryz.sizeOf3 rfl ha33 rfl (SlR.idx hz16 g26)) rfl ?_
     obtain ⟨out3, h38, r39⟩ := bv_ok r28; clear r28
     refine o_storeZ (u := -1) Tryz.sizeOf3 (iE_ok _) rfl ha33 rfl rfl (fun _ => .c .h) hz16 h38 g26 ?_; intro Lb40 hz41
     refine shO_nil (inBlock_n (id := 1) (shW_region ?_))
     refine ov (v_add rfl rfl (Ctr.r64 hk19 c24 g17)) rfl ?_
     refine om rfl rfl (shO_nil ?_)
     exact le kr ⟨_, hk25, out3, Lb40, r39, rfl, rfl, (sc rfl (sc rfl (sc rfl (sc rfl (sc rfl (sn _)))))), hz41⟩
   obtain rfl := Ctr.zero hk19 c24
   rw [hear_desk_from_l1] at r21
   refine shW_exit (andThen_exit (andThen_exit ?_))
   refine inBlock_exit ?_
   obtain rfl := inj1 r21
   exact mi kr ⟨Lb15, rfl, rfl, (sc rfl (sc rfl (sc rfl (sn _)))), hz16⟩
 rintro e1 _ _ ⟨Lb11, rfl, rfl, he42, hz12⟩
 refine shW_env _ he42 ?_; clear he42
 refine wsr ?_
 refine ov (v_load Tryz.isAgg28 rfl (Has.own 0 rfl) rfl) rfl ?_
 refine om rfl rfl ?_
 obtain ⟨x2, g43, hx44, r45⟩ := ix_ok r14; clear r14
 obtain ⟨b46, o47, c48, vs49, ha50, hs51, hle52, rfl, hl53, hc54⟩ := SlR.at (iE_ok _) hz12 (L := (b10, .cells #[.slice a5 n8 n8] 28 (0, 0)) :: (Lb11 ++ [])) (fC fP) g43.1 hx44
 refine ov (v_indexO Tryz.underlying28 Tryz.sizeOf3 rfl ha50 rfl (SlR.idx hz12 g43)) rfl ?_
 obtain ⟨out4, h55, r56⟩ := bv_ok r45; clear r45
 refine o_storeZ (u := 0) Tryz.sizeOf3 (iE_ok _) rfl ha50 rfl rfl (fun _ => .c .h) hz12 h55 g43 ?_; intro Lb57 hz58
 refine nsr (om rfl rfl ?_)
 refine o_buildSlice (cs := #[.int .i64 stand]) rfl rfl (buildSlice_all slt_28 [.int .i64 stand] rfl (by decide) (by simp [Value.cells]) (by decide)) ?_; intro b59 hb59
 refine o_alloc rfl Tryz.zeroValue28 ?_; intro b60 hb60
 have hz62 : SlR K.w0.heap.size 3 1 (iE .i64) F (some ⟨b59, 0, none⟩) 1 1 [stand] [(b59, .cells #[.int .i64 stand] 3 (0, 0))] := SlR.of_block (vss := [[.int .i64 stand]]) (iE_ok _) hb59 (.cons rfl .nil) rfl rfl (by simp [maxLen])
 generalize hLLb61 : ([(b59, .cells #[.int .i64 stand] 3 (0, 0))] : LH) = Lb61 at hz62
 refine shO_perm (L' := Lb61 ++ ((b60, .cells #[.slice none 0 0] 28 (0, 0)) :: ((b10, .cells #[.slice a5 n8 n8] 28 (0, 0)) :: (Lb57 ++ [])))) (by rw [← hLLb61]; exact (fC fO)) ?_
 refine shO_perm (L' := (b60, .cells #[.slice none 0 0] 28 (0, 0)) :: ((b10, .cells #[.slice a5 n8 n8] 28 (0, 0)) :: (Lb61 ++ (Lb57 ++ [])))) (List.Perm.symm (fC (fC fP))) ?_
 refine o_store (i := 0) Tryz.sizeOf28 rfl rfl rfl rfl (Nat.le_of_ble_eq_true rfl) ?_
 refine shO_L (L' := (b60, .cells #[.slice (some ⟨b59, 0, none⟩) 1 1] 28 (0, 0)) :: ((b10, .cells #[.slice a5 n8 n8] 28 (0, 0)) :: (Lb61 ++ (Lb57 ++ [])))) rfl ?_
 refine shO_nil ?_
 obtain ⟨out5, h66, r67⟩ := b1_ok r56; clear r56
 refine shW_join (fun e1 F1 L1 => ∃ (Lb64 : LH), FExt F F1 ∧ L1 = ((b10, .cells #[.slice a5 n8 n8] 28 (0, 0)) :: (Lb64 ++ [])) ∧ e1.sub [(5, .pointer (some ⟨b10, 0, none⟩))] ∧ SlR K.w0.heap.size 3 1 (iE .i64) F1 a5 n8 n8 out5 Lb64) ?_ ?_
 · clear r67
   refine shW_block ?_
   refine shW_lp (fun fu2 e1 F1 L1 => ∃ (out6 : List Int) (line : List Int) (Lb68 : LH) (a70 : Option Addr) (n74 : Nat) (c71 : Nat) (Lb72 : LH), hear_desk_from_l2 wide plots down right_ blows fu2 out6 line = some out5 ∧ FExt F F1 ∧ L1 = ((b60, .cells #[.slice a70 n74 c71] 28 (0, 0)) :: ((b10, .cells #[.slice a5 n8 n8] 28 (0, 0)) :: (Lb68 ++ (Lb72 ++ [])))) ∧ e1.sub [(0, .pointer (some ⟨b_d, 0, none⟩)), (5, .pointer (some ⟨b10, 0, none⟩)), (7, .pointer (some ⟨b60, 0, none⟩))] ∧ SlR K.w0.heap.size 3 1 (iE .i64) F1 a5 n8 n8 out6 Lb68 ∧ SlR K.w0.heap.size 3 1 (iE .i64) F1 a70 n74 c71 line Lb72) FU (m0 (kc (kc (kg (fS fP) kr))) ⟨out4, [stand], Lb57, (some ⟨b59, 0, none⟩), 1, 1, Lb61, h66, FExt.refl _, rfl, (sc rfl (sc rfl (sc rfl (sn _)))), hz58, hz62⟩) ?_
   rintro fu2 e1 F80 _ ⟨out6, line, Lb68, a70, n74, c71, Lb72, r78, hF81, rfl, he79, hz69, hz73⟩
   refine shW_env _ he79 ?_; clear he79
   replace h_plots := h_plots.mono (iE_ok _) hF81
   replace hb_d := hF81 _ _ hb_d
   rcases fu2 with _ | fu2
   · rw [hear_desk_from_l2] at r78; cases r78
   rw [hear_desk_from_l2] at r78
   refine shW_seq (wsr ?_)
   refine ov (v_load Tryz.isAgg28 rfl (Has.own 0 rfl) rfl) rfl ?_
   refine ov ((v_lenS Tryz.underlying28 rfl).i (SlR.lenI hz73)) rfl ?_
   refine ov (v_gtrK rfl rfl) rfl ?_
   refine shO_nil ?_
   refine shW_condP rfl (fun c82 => ?_) (fun c82 => ?_)
   · have r83 := ite_t r78 c82; clear r78
     refine shW_skip ?_
     refine shW_block ?_
     refine wsr ?_
     refine ov (v_load Tryz.isAgg28 rfl (Has.own 0 rfl) rfl) rfl ?_
     obtain ⟨x3, g84, hx85, r86⟩ := ix_ok r83; clear r83
     obtain ⟨b87, o88, c89, vs90, ha91, hs92, hle93, rfl, hl94, hc95⟩ := SlR.at (iE_ok _) hz73 (L := (b60, .cells #[.slice a70 n74 c71] 28 (0, 0)) :: ((b10, .cells #[.slice a5 n8 n8] 28 (0, 0)) :: (Lb68 ++ (Lb72 ++ [])))) (fC (fC (fS fP))) g84.1 hx85
     refine ov (v_indexO Tryz.underlying28 Tryz.sizeOf3 rfl ha91 rfl (SlR.idx hz73 g84)) rfl ?_
     refine ov (v_load Tryz.isAgg3 rfl hs92 (hc95 0 (by decide))) rfl ?_
     refine o_alloc rfl Tryz.zeroValue3 ?_; intro b96 hb96
     refine o_store (i := 0) Tryz.sizeOf3 rfl rfl rfl rfl (Nat.le_of_ble_eq_true rfl) ?_
     refine shO_L (L' := (b96, .cells #[.int .i64 x3] 3 (0, 0)) :: ((b60, .cells #[.slice a70 n74 c71] 28 (0, 0)) :: ((b10, .cells #[.slice a5 n8 n8] 28 (0, 0)) :: (Lb68 ++ (Lb72 ++ []))))) rfl ?_
     refine nsr ?_
     refine ov (v_load Tryz.isAgg28 rfl (Has.own 1 rfl) rfl) rfl ?_
     obtain ⟨g97, r98⟩ := gd_ok r86; clear r86
     obtain ⟨line2, h99, r100⟩ := bv_ok r98; clear r98
     refine o_sliceZ (l := 1) (h := (line.length : Int)) (zs := line2) rfl slt_28 (iE_ok _) rfl (.inr ⟨_, rfl, rfl⟩) (.inl ⟨rfl, rfl⟩) (fun _ => .c (.c (.c (.s .h)))) hz73 g97 h99 ?_; intro a101 n104 c102 Lb105 h103
     refine o_store (i := 1) Tryz.sizeOf28 rfl rfl rfl rfl (Nat.le_of_ble_eq_true rfl) ?_
     refine shO_L (L' := (b96, .cells #[.int .i64 x3] 3 (0, 0)) :: ((b60, .cells #[.slice a101 n104 c102] 28 (0, 0)) :: ((b10, .cells #[.slice a5 n8 n8] 28 (0, 0)) :: (Lb68 ++ (Lb105 ++ []))))) rfl ?_
     refine nsr (om rfl rfl ?_)
     refine ov (v_load Tryz.isAgg3 rfl (Has.own 0 rfl) rfl) rfl ?_
     obtain ⟨y, h107, r108⟩ := b1_ok r100; clear r100
     refine o_call0 rfl Tryz.call82 rfl rfl rfl (hear_desk_next_w hb_d h_plots h107) ?_; rintro _ F109 _ hF110 hn111 ⟨cp113, rfl, rfl, hit114⟩
     replace hz69 := hz69.mono (iE_ok _) hF110
     replace h103 := h103.mono (iE_ok _) hF110
     refine shO_L (ln rfl) ?_
     refine shO_nil ?_
     refine shW_block ?_
     refine shW_rangeFunc (encs := (fun x : Int × Int => #[.int .i64 x.1, .int .i64 x.2])) (xs := y) rfl Tryz.call109 rfl (fun _ => rfl) hit114 (fun pre F1 L1 => ∃ (tl : List (Int × Int)) (out7 : List Int) (line3 : List Int) (Lb115 : LH) (a117 : Option Addr) (n121 : Nat) (c118 : Nat) (Lb119 : LH), y = pre ++ tl ∧ hear_desk_from_l3 x3 (hear_desk_from_l2 wide plots down right_ blows fu2) tl out7 line3 = some out5 ∧ L1 = ((b96, .cells #[.int .i64 x3] 3 (0, 0)) :: ((b60, .cells #[.slice a117 n121 c118] 28 (0, 0)) :: ((b10, .cells #[.slice a5 n8 n8] 28 (0, 0)) :: (Lb115 ++ (Lb119 ++ []))))) ∧ SlR K.w0.heap.size 3 1 (iE .i64) F1 a5 n8 n8 out7 Lb115 ∧ SlR K.w0.heap.size 3 1 (iE .i64) F1 a117 n121 c118 line3 Lb119) (fun _ _ _ => False) ?_ ?_ ?_ ?_ ?_ ?_
     · rintro pre F1 F2 L1 ⟨tl, out7, line3, Lb115, a117, n121, c118, Lb119, hs123, r124, rfl, hz116, hz120⟩ hx; exact ⟨tl, out7, line3, Lb115, a117, n121, c118, Lb119, hs123, r124, rfl, hz116.mono (iE_ok _) hx, hz120.mono (iE_ok _) hx⟩
     · intro c F1 F2 L1 h hx; exact h
     · exact ⟨_, out6, line2, Lb68, a101, n104, c102, Lb105, rfl, r108, rfl, hz69, h103⟩
     · rintro l125 wr126 Fr127 Xr128 Ha129 Hb130 hnb131 hH135 pre x4 tl2 hxs134 F132 _ hF133 ⟨tl, out7, line3, Lb115, a117, n121, c118, Lb119, hs123, r136, rfl, hz116, hz120⟩
       obtain rfl := rest_head hs123 hxs134
       rw [hear_desk_from_l3] at r136
       refine shW_env [(0, .pointer (some ⟨b_d, 0, none⟩)), (5, .pointer (some ⟨b10, 0, none⟩)), (7, .pointer (some ⟨b60, 0, none⟩)), (8, .pointer (some ⟨b96, 0, none⟩)), (43, .int .i64 x4.1), (44, .int .i64 x4.2)] (by exact (sc rfl (sc rfl (sc rfl (sc rfl (sc rfl (sc rfl (sn _)))))))) ?_
       refine wsr (oa rfl rfl (shO_nil (shW_region (oa rfl rfl (shO_nil ?_)))))
       refine ⟨rfl, ?_⟩
       refine shW_block ?_
       obtain ⟨k2, h137, r138⟩ := b1_ok r136; clear r136
       refine shW_join (fun e1 F1 L1 => F132 = F1 ∧ L1 = ((b96, .cells #[.int .i64 x3] 3 (0, 0)) :: ((b60, .cells #[.slice a117 n121 c118] 28 (0, 0)) :: ((b10, .cells #[.slice a5 n8 n8] 28 (0, 0)) :: (Lb115 ++ (Lb119 ++ []))))) ∧ e1.sub [(0, .pointer (some ⟨b_d, 0, none⟩)), (5, .pointer (some ⟨b10, 0, none⟩)), (7, .pointer (some ⟨b60, 0, none⟩)), (8, .pointer (some ⟨b96, 0, none⟩)), (9, .int .i64 x4.1), (10, .int .i64 x4.2), (43, .int .i64 x4.1), (44, .int .i64 x4.2), (62, .bool k2)]) ?_ ?_
       · clear r138
         refine shW_draw (by kernel_rfl) (by kernel_rfl) (by kernel_rfl) ?_
         refine qv (v_load Tryz.isAgg28 rfl (Has.own 2 rfl) rfl) rfl ?_
         refine qm rfl rfl ?_
         obtain ⟨x5, g139, hx140, r141⟩ := ix_ok h137; clear h137
         obtain ⟨b142, o143, c144, vs145, ha146, hs147, hle148, rfl, hl149, hc150⟩ := SlR.at (iE_ok _) hz116 (L := (b96, .cells #[.int .i64 x3] 3 (0, 0)) :: ((b60, .cells #[.slice a117 n121 c118] 28 (0, 0)) :: ((b10, .cells #[.slice a5 n8 n8] 28 (0, 0)) :: (Lb115 ++ (Lb119 ++ []))))) (fC (fC (fC fP))) g139.1 hx140
         refine qv (v_indexO Tryz.underlying28 Tryz.sizeOf3 rfl ha146 rfl (SlR.idx hz116 g139)) rfl ?_
         refine qv (v_load Tryz.isAgg3 rfl hs147 (hc150 0 (by decide))) rfl ?_
         refine qv (v_eql rfl rfl) rfl ?_
         refine qm rfl rfl ?_
         by_cases c151 : x5 = (-1)
         · have r152 := ite_t r141 c151; clear r141
           refine shQ_off (b' := true) 50 rfl (Env.isT rfl c151) rfl rfl (shQ_off (b' := true) 50 rfl (Env.isT rfl c151) rfl rfl (shQ_off (b' := true) 50 rfl (Env.isT rfl c151) rfl rfl (shQ_off (b' := true) 50 rfl (Env.isT rfl c151) rfl rfl (shQ_off (b' := true) 50 rfl (Env.isT rfl c151) rfl rfl (shQ_off (b' := true) 50 rfl (Env.isT rfl c151) rfl rfl (shQ_off (b' := true) 50 rfl (Env.isT rfl c151) rfl rfl (shQ_off (b' := true) 50 rfl (Env.isT rfl c151) rfl rfl (shQ_off (b' := true) 50 rfl (Env.isT rfl c151) rfl rfl (shQ_off (b' := true) 50 rfl (Env.isT rfl c151) rfl rfl ?_)))))))))
           refine shQ_off (b' := true) 50 rfl (Env.isT rfl c151) rfl rfl ?_
           refine qv (v_pick_t (evD_true rfl c151) rfl) rfl ?_
           refine shQ_nil ?_
           obtain rfl := inj1 r152
           exact mi kr ⟨rfl, rfl, (sc rfl (sc rfl (sc rfl (sc rfl (sc rfl (sc rfl (sc rfl (sc rfl (sc rfl (sn _))))))))))⟩
         have r153 := ite_f r141 c151; clear r141
         refine shQ_on (b := false) 50 rfl (Env.isF rfl c151) ?_
         refine qv (v_load Tryz.isAgg28 rfl (Has.own 2 rfl) rfl) rfl ?_
         refine shQ_on (b := false) 50 rfl (Env.isF rfl c151) ?_
         refine qv (v_load Tryz.isAgg3 rfl (Has.own 0 rfl) rfl) rfl ?_
         refine shQ_on (b := false) 50 rfl (Env.isF rfl c151) ?_
         obtain ⟨x6, g154, hx155, r156⟩ := ix_ok r153; clear r153
         obtain ⟨b157, o158, c159, vs160, ha161, hs162, hle163, rfl, hl164, hc165⟩ := SlR.at (iE_ok _) hz116 (L := (b96, .cells #[.int .i64 x3] 3 (0, 0)) :: ((b60, .cells #[.slice a117 n121 c118] 28 (0, 0)) :: ((b10, .cells #[.slice a5 n8 n8] 28 (0, 0)) :: (Lb115 ++ (Lb119 ++ []))))) (fC (fC (fC fP))) g154.1 hx155
         refine qv (v_indexO Tryz.underlying28 Tryz.sizeOf3 rfl ha161 rfl (SlR.idx hz116 g154)) rfl ?_
         refine shQ_on (b := false) 50 rfl (Env.isF rfl c151) ?_
         refine qv (v_load Tryz.isAgg3 rfl hs162 (hc165 0 (by decide))) rfl ?_
         refine shQ_on (b := false) 50 rfl (Env.isF rfl c151) (qm rfl rfl (shQ_on (b := false) 50 rfl (Env.isF rfl c151) ?_))
         obtain ⟨g166, r167⟩ := gd_ok r156; clear r156
         refine qv (v_add rfl rfl g166) rfl ?_
         refine shQ_on (b := false) 50 rfl (Env.isF rfl c151) ?_
         refine qv (v_load Tryz.isAgg28 rfl (Has.own 2 rfl) rfl) rfl ?_
         refine shQ_on (b := false) 50 rfl (Env.isF rfl c151) (qm rfl rfl (shQ_on (b := false) 50 rfl (Env.isF rfl c151) ?_))
         obtain ⟨b168, o169, c170, vs171, ha172, hs173, hle174, rfl, hl175, hc176⟩ := SlR.at (iE_ok _) hz116 (L := (b96, .cells #[.int .i64 x3] 3 (0, 0)) :: ((b60, .cells #[.slice a117 n121 c118] 28 (0, 0)) :: ((b10, .cells #[.slice a5 n8 n8] 28 (0, 0)) :: (Lb115 ++ (Lb119 ++ []))))) (fC (fC (fC fP))) g139.1 hx140
         refine qv (v_indexO Tryz.underlying28 Tryz.sizeOf3 rfl ha172 rfl (SlR.idx hz116 g139)) rfl ?_
         refine shQ_on (b := false) 50 rfl (Env.isF rfl c151) ?_
         refine qv (v_load Tryz.isAgg3 rfl hs173 (hc176 0 (by decide))) rfl ?_
         refine shQ_on (b := false) 50 rfl (Env.isF rfl c151) ?_
         refine qv (v_lssK rfl rfl) rfl ?_
         refine qv (v_pick_f (evD_false rfl c151) rfl) rfl ?_
         refine shQ_nil ?_
         obtain rfl := inj1 r167
         exact mi kr ⟨rfl, rfl, (sc rfl (sc rfl (sc rfl (sc rfl (sc rfl (sc rfl (sc rfl (sc rfl (sc rfl (sn _))))))))))⟩
       rintro e1 _ _ ⟨rfl, rfl, he177⟩
       refine shW_env _ he177 ?_; clear he177
       refine shW_cond rfl (fun c178 => ?_) (fun c178 => ?_)
       · have r179 := bt r138 c178; clear r138
         refine shW_seq ?_
         refine shW_drawM [(.still, 0), (.still, 1), (.still, 2), (.still, 3), (.still, 4), (.still, 5), (.still, 6), (.still, 7), (.still, 8), (.seq, 9)] (by kernel_rfl) (by kernel_rfl) (trivial) (by rfl) (by kernel_rfl) ?_
         refine shM_v (v := .slice a5 n8 n8) (ek := [(5, .pointer (some ⟨b10, 0, none⟩))]) (Ls := [(b10, .cells #[.slice a5 n8 n8] 28 (0, 0))]) rfl rfl rfl rfl ((sc rfl (sn _))) (by kernel_rfl) (s0 (s1 (s1 (s2 (s3 (s3 sr)))))) (fun H F' L' hF' hL' => v_load Tryz.isAgg28 rfl ((Has.own 0 rfl).ext hF' hL') rfl) ?_
         refine shM_v (v := .int .i64 x4.1) (ek := [(9, .int .i64 x4.1)]) (Ls := []) rfl rfl rfl rfl ((sc rfl (sn _))) (by kernel_rfl) sm (fun H F' L' hF' hL' => v_move rfl) ?_
         refine shM_v (v := .slice a5 n8 n8) (ek := [(5, .pointer (some ⟨b10, 0, none⟩))]) (Ls := [(b10, .cells #[.slice a5 n8 n8] 28 (0, 0))]) rfl rfl rfl rfl ((sc rfl (sn _))) (by kernel_rfl) (s0 (s1 (s1 (s2 (s3 (s3 sr)))))) (fun H F' L' hF' hL' => v_load Tryz.isAgg28 rfl ((Has.own 0 rfl).ext hF' hL') rfl) ?_
         refine shM_v (v := .int .i64 x3) (ek := [(8, .pointer (some ⟨b96, 0, none⟩))]) (Ls := [(b96, .cells #[.int .i64 x3] 3 (0, 0))]) rfl rfl rfl rfl ((sc rfl (sn _))) (by kernel_rfl) (s0 (s2 (s1 (s1 (s3 (s3 sr)))))) (fun H F' L' hF' hL' => v_load Tryz.isAgg3 rfl ((Has.own 0 rfl).ext hF' hL') rfl) ?_
         obtain ⟨x7, g180, hx181, r182⟩ := ix_ok r179; clear r179
         obtain ⟨b183, o184, c185, vs186, ha187, hs188, hle189, rfl, hl190, hc191⟩ := SlR.at (iE_ok _) hz116 (L := Lb115 ++ []) fP g180.1 hx181
         refine shM_v (v := .pointer (some ⟨b183, o184 + (x3 : Int).toNat * 1, none⟩)) (ek := [(65, .slice a5 n8 n8), (66, .int .i64 x3)]) (Ls := []) rfl rfl rfl rfl ((sc rfl (sc rfl (sn _)))) (by kernel_rfl) sm (fun H F' L' hF' hL' => v_indexO Tryz.underlying28 Tryz.sizeOf3 rfl ha187 rfl (SlR.idx hz116 g180)) ?_
         refine shM_v (v := .int .i64 x7) (ek := [(67, .pointer (some ⟨b183, o184 + (x3 : Int).toNat * 1, none⟩))]) (Ls := Lb115 ++ []) rfl rfl rfl rfl ((sc rfl (sn _))) (by kernel_rfl) (s0 (s1 (s1 (s1 (s4 (s3 sr)))))) (fun H F' L' hF' hL' => v_load Tryz.isAgg3 rfl (hs188.ext hF' hL') (hc191 0 (by decide))) ?_
         refine shM_v (v := .int .i64 x4.2) (ek := [(10, .int .i64 x4.2)]) (Ls := []) rfl rfl rfl rfl ((sc rfl (sn _))) (by kernel_rfl) sm (fun H F' L' hF' hL' => v_move rfl) ?_
         obtain ⟨g192, r193⟩ := gd_ok r182; clear r182
         refine shM_v (v := .int .i64 (x7 + x4.2)) (ek := [(68, .int .i64 x7), (69, .int .i64 x4.2)]) (Ls := []) rfl rfl rfl rfl ((sc rfl (sc rfl (sn _)))) (by kernel_rfl) sm (fun H F' L' hF' hL' => v_add rfl rfl g192) ?_
         obtain ⟨x8, g194, hx195, r196⟩ := ix_ok r193; clear r193
         obtain ⟨b197, o198, c199, vs200, ha201, hs202, hle203, rfl, hl204, hc205⟩ := SlR.at (iE_ok _) hz116 (L := Lb115 ++ []) fP g194.1 hx195
         refine shM_v (v := .pointer (some ⟨b197, o198 + (x4.1 : Int).toNat * 1, none⟩)) (ek := [(63, .slice a5 n8 n8), (64, .int .i64 x4.1)]) (Ls := []) rfl rfl rfl rfl ((sc rfl (sc rfl (sn _)))) (by kernel_rfl) sm (fun H F' L' hF' hL' => v_indexO Tryz.underlying28 Tryz.sizeOf3 rfl ha201 rfl (SlR.idx hz116 g194)) ?_
         refine ⟨_, [(70, .int .i64 (x7 + x4.2)), (71, .pointer (some ⟨b197, o198 + (x4.1 : Int).toNat * 1, none⟩))], rfl, rfl, (sc rfl (sc rfl (sn _))), by kernel_rfl, ?_⟩; intro H
         obtain ⟨l2, h206, r207⟩ := bv_ok r196; clear r196
         refine o_storeZ (u := x7 + x4.2) Tryz.sizeOf3 (iE_ok _) rfl ha201 rfl rfl (fun _ => .c (.c (.c .h))) hz116 h206 g194 ?_; intro Lb208 hz209
         refine shO_nil ⟨undef, rfl, FExt.refl _, [], by kernel_rfl, .inl (.inl rfl), (fun _ h => absurd h List.not_mem_nil), ?_⟩
         refine shM_nil ?_
         refine shW_region ?_
         refine ov (v_load Tryz.isAgg28 rfl (Has.own 1 rfl) rfl) rfl ?_
         refine om rfl rfl ?_
         refine o_buildSlice (cs := #[.int .i64 x4.1]) rfl rfl (buildSlice_all slt_28 [.int .i64 x4.1] rfl (by decide) (by simp [Value.cells]) (by decide)) ?_; intro b210 hb210
         obtain ⟨line4, h211, g212, r213⟩ := ap_ok r207; clear r207
         refine o_appZ (xs := line3) (ys := [x4.1]) (zs := line4) rfl slt_28 rfl rfl hnb131 (fun _ => .c (.c (.c (.c (.s .h))))) hz120 (SrcR.box (vss := [[.int .i64 x4.1]]) (ys := [x4.1]) 0 rfl (iE_ok _) (.cons rfl .nil) rfl rfl) h211 g212 (by decide) ?_; intro a214 n218 c215 Lb216 hz217
         refine kO (kd kr) ?_
         refine o_store (i := 1) Tryz.sizeOf28 rfl rfl rfl rfl (Nat.le_of_ble_eq_true rfl) ?_
         refine shO_L (L' := (b96, .cells #[.int .i64 x3] 3 (0, 0)) :: ((b60, .cells #[.slice a214 n218 c215] 28 (0, 0)) :: ((b10, .cells #[.slice a5 n8 n8] 28 (0, 0)) :: (Lb208 ++ (Lb216 ++ []))))) rfl ?_
         refine shO_nil (inBlock_n (id := 5) ?_)
         refine ⟨(b96, .cells #[.int .i64 x3] 3 (0, 0)) :: ((b60, .cells #[.slice a214 n218 c215] 28 (0, 0)) :: ((b10, .cells #[.slice a5 n8 n8] 28 (0, 0)) :: (Lb208 ++ (Lb216 ++ [])))), sr, ?_⟩; exact ⟨_, l2, line4, Lb208, a214, n218, c215, Lb216, (by rw [hxs134]; simp), r213, rfl, hz209, hz217⟩
       have r220 := bf r138 c178; clear r138
       refine shW_skip (inBlock_n (id := 5) ?_)
       refine ⟨(b96, .cells #[.int .i64 x3] 3 (0, 0)) :: ((b60, .cells #[.slice a117 n121 c118] 28 (0, 0)) :: ((b10, .cells #[.slice a5 n8 n8] 28 (0, 0)) :: (Lb115 ++ (Lb119 ++ [])))), sr, ?_⟩; exact ⟨_, out7, line3, Lb115, a117, n121, c118, Lb119, (by rw [hxs134]; simp), r220, rfl, hz116, hz120⟩
     · rintro F221 _ hF222 ⟨tl, out7, line3, Lb115, a117, n121, c118, Lb119, hs123, r223, rfl, hz116, hz120⟩
       obtain rfl := rest_nil hs123; rw [hear_desk_from_l3] at r223
       refine inBlock_n (id := 4) (inBlock_n (id := 3) ?_)
       exact le (kd kr) ⟨out7, line3, Lb115, a117, n121, c118, Lb119, r223, ((hF81.trans hF110).trans hF222), rfl, (sc rfl (sc rfl (sc rfl (sn _)))), hz116, hz120⟩
     intro c F1 L1 hx h; exact h.elim
   have r224 := ite_f r78 c82; clear r78
   refine shW_exit (andThen_exit (andThen_exit ?_))
   refine inBlock_exit ?_
   obtain rfl := inj1 r224
   exact mi (kd (kc (ka kn))) ⟨Lb68, hF81, rfl, (sc rfl (sn _)), hz69⟩
 rintro e1 F226 _ ⟨Lb64, hF227, rfl, he225, hz65⟩
 refine shW_env _ he225 ?_; clear he225
 refine wsr ?_
 refine ov (v_load Tryz.isAgg28 rfl (Has.own 0 rfl) rfl) rfl ?_
 refine oa rfl rfl (shO_nil ?_)
 refine kW (kd kr) ?_
 refine shW_ret ?_
 refine q_res1 Tryz.results81 (res_tmp rfl) (sr) ?_
 obtain rfl := inj1 r67
 exact ⟨_, _, _, _, rfl, rfl, hz65.any⟩
set_option maxHeartbeats 1000000 in
theorem hear_desk_heard_w {b_d : Nat} {wide : Int} {plots_a : Option Addr} {plots_c : Nat} {plots : List Int} {down : Int} {right_ : Int} {blows : Bool} {mb_d : Nat × Nat} {voice : Int} {F : FS} (hb_d : F b_d = some (.cells #[.int .i64 wide, .slice plots_a plots.length plots_c, .int .i64 down, .int .i64 right_, .bool blows] 142 mb_d)) (h_plots : RowR 1 (iE .i64) F plots_a plots_c plots) {r : List (List Bool)} (hr : hear_desk_heard wide plots down right_ blows voice = some r) :
    SH.Spec Tryz.prog 105 #[.pointer (some ⟨b_d, 0, none⟩), .int .i64 voice] F [] fun F' L' v => ∃ (ra : Option Addr) (rn : Nat) (rc : Nat) (rL : LH), v = .slice ra rn rc ∧ L' = rL ++ [] ∧ SlR 0 80 30 (arE 30 cB) F' ra rn rc r rL := by
 refine spec_of_shW (args := [.pointer (some ⟨b_d, 0, none⟩), .int .i64 voice]) Tryz.func105 rfl Tryz.ntmps105 (Nat.le_of_ble_eq_true rfl) ?_
 intro K _ _; rw [hear_desk_heard] at hr
 refine wsr (oa rfl rfl (nsr (om rfl rfl ?_)))
 refine ov (v_nilCheck rfl) rfl ?_
 refine ov (v_fieldAddr fa_142_0 rfl) rfl ?_
 refine ov (v_fieldAddr fa_24_1 rfl) rfl ?_
 refine ov (v_load Tryz.isAgg22 rfl (Has.frozen hb_d) rfl) rfl ?_
 refine ov (v_lenS Tryz.underlying22 rfl) rfl ?_
 obtain ⟨g1, r2⟩ := gd_ok hr; clear hr
 obtain ⟨l, h3, r4⟩ := bv_ok r2; clear r2
 refine o_makeZ (R := (arE 30 cB)) (z0 := List.replicate 30 false) (zs := l) rfl slt_72 (by decide) (arE_ok (n := 30) (sz := 1) cB_ok) (fun _ => ⟨rfl, rfl⟩) rfl g1 h3 (fun _ => .n) ?_; intro a5 n8 Lb6 hz7
 refine oa rfl rfl (shO_nil ?_)
 obtain ⟨out, h12, r13⟩ := b1_ok r4; clear r4
 refine shW_join (fun e1 F1 L1 => ∃ (Lb10 : LH), FExt F F1 ∧ L1 = (Lb10 ++ []) ∧ e1.sub [(5, .slice a5 n8 n8)] ∧ SlR K.w0.heap.size 80 30 (arE 30 cB) F1 a5 n8 n8 out Lb10) ?_ ?_
 · clear r13
   refine wsr (om rfl rfl ?_)
   refine ov (v_nilCheck rfl) rfl ?_
   refine ov (v_fieldAddr fa_142_0 rfl) rfl ?_
   refine ov (v_fieldAddr fa_24_1 rfl) rfl ?_
   refine ov (v_load Tryz.isAgg22 rfl (Has.frozen hb_d) rfl) rfl ?_
   refine ov (v_lenS Tryz.underlying22 rfl) rfl ?_
   refine om rfl rfl (shO_nil ?_)
   refine shW_block ?_
   refine shW_lp (fun fu1 e1 F1 L1 => ∃ (tl : List Int) (k : Int), tl.length = fu1 ∧ Lst plots k tl ∧ ∃ (out2 : List (List Bool)) (Lb14 : LH), hear_desk_heard_l1 wide plots down right_ blows voice tl k out2 = some out ∧ FExt F F1 ∧ L1 = (Lb14 ++ []) ∧ e1.sub [(0, .pointer (some ⟨b_d, 0, none⟩)), (1, .int .i64 voice), (5, .slice a5 n8 n8), (21, .slice plots_a plots.length plots_c), (22, .int .i64 (plots.length : Int)), (23, .int .i64 k)] ∧ SlR K.w0.heap.size 80 30 (arE 30 cB) F1 a5 n8 n8 out2 Lb14) _ (m0 kr ⟨_, _, rfl, Lst.start _, l, Lb6, h12, FExt.refl _, rfl, (sc rfl (sc rfl (sc rfl (sc rfl (sc rfl (sc rfl (sn _))))))), hz7⟩) ?_
   rintro fu1 e1 F20 _ ⟨tl, k, hn17, hk16, out2, Lb14, r18, hF21, rfl, he19, hz15⟩
   refine shW_env _ he19 ?_; clear he19
   replace h_plots := h_plots.mono (iE_ok _) hF21
   replace hb_d := hF21 _ _ hb_d
   refine wsr ?_
   refine ov (v_lssK rfl rfl) rfl ?_
   refine shO_nil (shW_seq ?_)
   refine shW_condP rfl (fun c23 => ?_) (fun c23 => ?_)
   · obtain ⟨x, tl2, rfl, hx25, g26, hk24⟩ := Lst.succ hk16 c23
     rw [hear_desk_heard_l1] at r18
     refine shW_skip ?_
     obtain ⟨out3, h29, r30⟩ := b1_ok r18; clear r18
     refine shW_join (fun e1 F1 L1 => ∃ (Lb27 : LH), FExt F20 F1 ∧ L1 = (Lb27 ++ []) ∧ e1.sub [(0, .pointer (some ⟨b_d, 0, none⟩)), (1, .int .i64 voice), (5, .slice a5 n8 n8), (21, .slice plots_a plots.length plots_c), (22, .int .i64 (plots.length : Int)), (23, .int .i64 k)] ∧ SlR K.w0.heap.size 80 30 (arE 30 cB) F1 a5 n8 n8 out3 Lb27) ?_ ?_
     · clear r30
       refine shW_block ?_
       refine wsr (om rfl rfl ?_)
       obtain ⟨b31, o32, c33, vs34, ha35, hs36, hle37, rfl, hl38, hc39⟩ := RowR.at (iE_ok _) h_plots (Lb14 ++ []) g26.1 hx25
       refine ov (v_indexO Tryz.underlying22 Tryz.sizeOf61 rfl ha35 rfl g26) rfl ?_
       refine ov (v_load Tryz.isAgg61 rfl hs36 (hc39 0 (by decide))) rfl ?_
       refine oa rfl rfl (oa rfl rfl (shO_nil (shW_seq (wsr (om rfl rfl ?_)))))
       refine ov (v_neq rfl rfl) rfl ?_
       refine shO_nil ?_
       refine shW_condP rfl (fun c40 => ?_) (fun c40 => ?_)
       · have r41 := ite_t h29 c40; clear h29
         refine shW_exit (andThen_exit ?_)
         refine inBlock_exit ?_
         obtain rfl := inj1 r41
         exact mi kr ⟨Lb14, FExt.refl _, rfl, (sc rfl (sc rfl (sc rfl (sc rfl (sc rfl (sc rfl (sn _))))))), hz15⟩
       have r42 := ite_f h29 c40; clear h29
       refine shW_skip (wsr (om rfl rfl (om rfl rfl ?_)))
       obtain ⟨l2, h43, r44⟩ := b1_ok r42; clear r42
       refine o_call0 rfl Tryz.call81 rfl rfl rfl (hear_desk_from_w hb_d h_plots h43) ?_; rintro _ F45 _ hF46 hn47 ⟨a49, n53, c50, Lb51, rfl, rfl, hz52⟩
       replace h_plots := h_plots.mono (iE_ok _) hF46
       replace hz15 := hz15.mono (arE_ok (n := 30) (sz := 1) cB_ok) hF46
       replace hb_d := hF46 _ _ hb_d
       replace hz52 := hz52.new fun p hp => hn47 p (by simp [hp])
       refine shO_L (lp (ln rfl)) ?_
       refine ov ((v_lenS Tryz.underlying28 rfl).i (SlR.lenI hz52)) rfl ?_
       refine om rfl rfl (shO_nil ?_)
       refine shW_block ?_
       refine shW_lp (fun fu2 e1 F1 L1 => ∃ (tl3 : List Int) (k2 : Int), tl3.length = fu2 ∧ Lst l2 k2 tl3 ∧ ∃ (out4 : List (List Bool)) (Lb55 : LH), hear_desk_heard_l2 plots voice k tl3 k2 out4 = some out3 ∧ F45 = F1 ∧ L1 = (Lb55 ++ (Lb51 ++ [])) ∧ e1.sub [(0, .pointer (some ⟨b_d, 0, none⟩)), (1, .int .i64 voice), (5, .slice a5 n8 n8), (6, .int .i64 k), (21, .slice plots_a plots.length plots_c), (22, .int .i64 (plots.length : Int)), (23, .int .i64 k), (32, .slice a49 n53 c50), (33, .int .i64 (l2.length : Int)), (34, .int .i64 k2)] ∧ SlR K.w0.heap.size 80 30 (arE 30 cB) F1 a5 n8 n8 out4 Lb55) _ (m0 (kg (fS fP) kr) ⟨_, _, rfl, Lst.start _, out2, Lb14, r44, rfl, rfl, (sc rfl (sc rfl (sc rfl (sc rfl (sc rfl (sc rfl (sc rfl (sc rfl (sc rfl (sc rfl (sn _))))))))))), hz15⟩) ?_
       rintro fu2 e1 _ _ ⟨tl3, k2, hn58, hk57, out4, Lb55, r59, rfl, rfl, he60, hz56⟩
       refine shW_env _ he60 ?_; clear he60
       refine wsr ?_
       refine ov (v_lssK rfl rfl) rfl ?_
       refine shO_nil (shW_seq ?_)
       refine shW_condP rfl (fun c62 => ?_) (fun c62 => ?_)
       · obtain ⟨x2, tl4, rfl, hx64, g65, hk63⟩ := Lst.succ hk57 c62
         rw [hear_desk_heard_l2] at r59
         refine shW_skip (shW_seq ?_)
         refine shW_block ?_
         refine wsr (om rfl rfl ?_)
         obtain ⟨b66, o67, c68, vs69, ha70, hs71, hle72, rfl, hl73, hc74⟩ := SlR.at (iE_ok _) hz52 (L := Lb55 ++ (Lb51 ++ [])) (fS fP) g65.1 hx64
         refine ov (v_indexO Tryz.underlying28 Tryz.sizeOf3 rfl ha70 rfl (SlR.idx hz52 g65)) rfl ?_
         refine ov (v_load Tryz.isAgg3 rfl hs71 (hc74 0 (by decide))) rfl ?_
         refine oa rfl rfl (oa rfl rfl (shO_nil ?_))
         obtain ⟨k3, h75, r76⟩ := b1_ok r59; clear r59
         refine shW_join (fun e1 F1 L1 => F45 = F1 ∧ L1 = (Lb55 ++ (Lb51 ++ [])) ∧ e1.sub [(0, .pointer (some ⟨b_d, 0, none⟩)), (1, .int .i64 voice), (5, .slice a5 n8 n8), (6, .int .i64 k), (8, .int .i64 k2), (21, .slice plots_a plots.length plots_c), (22, .int .i64 (plots.length : Int)), (23, .int .i64 k), (32, .slice a49 n53 c50), (33, .int .i64 (l2.length : Int)), (34, .int .i64 k2), (52, .bool k3)]) ?_ ?_
         · clear r76
           refine shW_region (om rfl rfl ?_)
           refine ov (v_nilCheck rfl) rfl ?_
           refine ov (v_fieldAddr fa_142_0 rfl) rfl ?_
           refine ov (v_fieldAddr fa_24_1 rfl) rfl ?_
           refine ov (v_load Tryz.isAgg22 rfl (Has.frozen hb_d) rfl) rfl ?_
           refine om rfl rfl ?_
           obtain ⟨x3, g77, hx78, r79⟩ := ix_ok h75; clear h75
           obtain ⟨b80, o81, c82, vs83, ha84, hs85, hle86, rfl, hl87, hc88⟩ := RowR.at (iE_ok _) h_plots (Lb55 ++ (Lb51 ++ [])) g77.1 hx78
           refine ov (v_indexO Tryz.underlying22 Tryz.sizeOf61 rfl ha84 rfl g77) rfl ?_
           refine ov (v_load Tryz.isAgg61 rfl hs85 (hc88 0 (by decide))) rfl ?_
           refine ov (v_eql rfl rfl) rfl ?_
           refine om rfl rfl ?_
           by_cases c89 : x3 = 1
           · have r90 := ite_t r79 c89; clear r79
             refine shO_on (b := true) 48 rfl (Env.isT rfl c89) (om rfl rfl (shO_on (b := true) 48 rfl (Env.isT rfl c89) (om rfl rfl (shO_on (b := true) 48 rfl (Env.isT rfl c89) ?_))))
             obtain ⟨ok, h91, r92⟩ := b1_ok r90; clear r90
             refine o_callV rfl Tryz.call68 rfl rfl rfl (hear_in_w h91) ?_
             refine ov (v_pick_t (evD_true rfl c89) rfl) rfl ?_
             refine shO_nil ?_
             obtain rfl := inj1 r92
             exact mi kr ⟨rfl, rfl, (sc rfl (sc rfl (sc rfl (sc rfl (sc rfl (sc rfl (sc rfl (sc rfl (sc rfl (sc rfl (sc rfl (sc rfl (sn _)))))))))))))⟩
           have r93 := ite_f r79 c89; clear r79
           refine shO_off (b' := false) 48 rfl (Env.isF rfl c89) rfl rfl (shO_off (b' := false) 48 rfl (Env.isF rfl c89) rfl rfl (shO_off (b' := false) 48 rfl (Env.isF rfl c89) rfl rfl ?_))
           refine ov (v_pick_f (evD_false rfl c89) rfl) rfl ?_
           refine shO_nil ?_
           obtain rfl := inj1 r93
           exact mi kr ⟨rfl, rfl, (sc rfl (sc rfl (sc rfl (sc rfl (sc rfl (sc rfl (sc rfl (sc rfl (sc rfl (sc rfl (sc rfl (sc rfl (sn _)))))))))))))⟩
         rintro e1 _ _ ⟨rfl, rfl, he94⟩
         refine shW_env _ he94 ?_; clear he94
         refine shW_cond rfl (fun c95 => ?_) (fun c95 => ?_)
         · have r96 := bt r76 c95; clear r76
           refine shW_region (om rfl rfl (om rfl rfl (om rfl rfl ?_)))
           obtain ⟨x4, g97, hx98, r99⟩ := ix_ok r96; clear r96
           obtain ⟨b100, o101, c102, vs103, ha104, hs105, hle106, ⟨rfl, h109⟩, hl107, hc108⟩ := SlR.at (arE_ok (n := 30) (sz := 1) cB_ok) hz56 (L := Lb55 ++ (Lb51 ++ [])) fP g97.1 hx98
           refine ov (v_indexO Tryz.underlying72 Tryz.sizeOf80 rfl ha104 rfl (SlR.idx hz56 g97)) rfl ?_
           obtain ⟨x5, g110, hx111, r112⟩ := ix_ok r99; clear r99
           refine ov (v_indexA Tryz.underlying80 Tryz.sizeOf4 rfl rfl (arr_lt h109 g110)) rfl ?_
           obtain ⟨out5, h114, r115⟩ := bv_ok r112; clear r112
           refine o_storeZP (zs := out5) (off := (k : Int).toNat * 1) (x0 := x4) (u := x4.set (k : Int).toNat true) Tryz.sizeOf4 (arE_ok (n := 30) (sz := 1) cB_ok) rfl ha104 rfl rfl (arr_off (arr_lt h109 g110)) hx98 (fun vs h => arE_set cB_ok h (arr_ltN (arr_lt h109 g110)) rfl) (fun _ => .h) hz56 h114 g97 ?_; intro Lb116 hz117
           refine shO_nil (inBlock_n (id := 3) (shW_region ?_))
           refine ov (v_add rfl rfl (Lst.r64 hk57 c62 (SlR.llt hz52))) rfl ?_
           refine om rfl rfl (shO_nil ?_)
           subst hn58; exact le kr ⟨_, _, rfl, hk63, out5, Lb116, r115, rfl, rfl, (sc rfl (sc rfl (sc rfl (sc rfl (sc rfl (sc rfl (sc rfl (sc rfl (sc rfl (sc rfl (sn _))))))))))), hz117⟩
         have r118 := bf r76 c95; clear r76
         refine shW_skip (inBlock_n (id := 3) (shW_region ?_))
         refine ov (v_add rfl rfl (Lst.r64 hk57 c62 (SlR.llt hz52))) rfl ?_
         refine om rfl rfl (shO_nil ?_)
         subst hn58; exact le kr ⟨_, _, rfl, hk63, out4, Lb55, r118, rfl, rfl, (sc rfl (sc rfl (sc rfl (sc rfl (sc rfl (sc rfl (sc rfl (sc rfl (sc rfl (sc rfl (sn _))))))))))), hz56⟩
       obtain rfl := Lst.zero hk57 c62
       rw [hear_desk_heard_l2] at r59
       refine shW_exit (andThen_exit (andThen_exit ?_))
       refine inBlock_exit ?_
       refine inBlock_n (id := 1) ?_
       obtain rfl := inj1 r59
       exact mi (ka kn) ⟨Lb55, hF46, rfl, (sc rfl (sc rfl (sc rfl (sc rfl (sc rfl (sc rfl (sn _))))))), hz56⟩
     rintro e1 F120 _ ⟨Lb27, hF121, rfl, he119, hz28⟩
     refine shW_env _ he119 ?_; clear he119
     replace h_plots := h_plots.mono (iE_ok _) hF121
     refine shW_region ?_
     refine ov (v_add rfl rfl (Lst.r64 hk16 c23 (RowR.lt h_plots))) rfl ?_
     refine om rfl rfl (shO_nil ?_)
     subst hn17; exact le kr ⟨_, _, rfl, hk24, out3, Lb27, r30, (hF21.trans hF121), rfl, (sc rfl (sc rfl (sc rfl (sc rfl (sc rfl (sc rfl (sn _))))))), hz28⟩
   obtain rfl := Lst.zero hk16 c23
   rw [hear_desk_heard_l1] at r18
   refine shW_exit (andThen_exit (andThen_exit ?_))
   refine inBlock_exit ?_
   obtain rfl := inj1 r18
   exact mi kr ⟨Lb14, hF21, rfl, (sc rfl (sn _)), hz15⟩
 rintro e1 F123 _ ⟨Lb10, hF124, rfl, he122, hz11⟩
 refine shW_env _ he122 ?_; clear he122
 refine wsr (om rfl rfl (oa rfl rfl (shO_nil (shW_ret ?_))))
 refine q_res1 Tryz.results105 (res_tmp rfl) (sr) ?_
 obtain rfl := inj1 r13
 exact ⟨_, _, _, _, rfl, rfl, hz11.any⟩
set_option maxHeartbeats 1000000 in
theorem hear_aired_w {wide : Int} {plots_a : Option Addr} {plots_c : Nat} {plots : List Int} {wind : Int} {voice : Int} {F : FS} (h_plots : RowR 1 (iE .i64) F plots_a plots_c plots) {r : List (List Bool)} {r2 : Int} (hr : hear_aired wide plots wind voice = some (r, r2)) :
    SH.Spec Tryz.prog 67 #[.agg #[.int .i64 wide, .slice plots_a plots.length plots_c], .agg #[.int .i64 wind, .int .i64 voice]] F [] fun F' L' v => ∃ (ra : Option Addr) (rn : Nat) (rc : Nat) (rL : LH), v = .tuple #[.slice ra rn rc, .int .i64 r2] ∧ L' = rL ++ [] ∧ SlR 0 80 30 (arE 30 cB) F' ra rn rc r rL := by
 refine spec_of_shW (args := [.agg #[.int .i64 wide, .slice plots_a plots.length plots_c], .agg #[.int .i64 wind, .int .i64 voice]]) Tryz.func67 rfl Tryz.ntmps67 (Nat.le_of_ble_eq_true rfl) ?_
 intro K _ _; rw [hear_aired] at hr
 refine wsr ?_
 refine o_box rfl rfl ?_; intro b1 hb1
 refine o_box rfl rfl ?_; intro b2 hb2
 refine oa rfl rfl (oa rfl rfl (shO_nil (shW_seq (wsr ?_))))
 refine ov (v_loadA (cs := #[.int .i64 wide, .slice plots_a plots.length plots_c]) Tryz.isAgg24 Tryz.sizeOf24 rfl (Has.own 1 rfl) (Nat.le_of_ble_eq_true rfl) rfl) rfl ?_
 obtain ⟨n, h3, r4⟩ := b1_ok hr; clear hr
 refine o_callV rfl Tryz.call23 rfl rfl rfl (hear_Check_w h_plots h3) ?_
 refine oa rfl rfl (nsr (om rfl rfl ?_))
 refine ov (v_neq rfl rfl) rfl ?_
 refine shO_nil ?_
 refine shW_condP rfl (fun c5 => ?_) (fun c5 => ?_)
 · have r6 := ite_t r4 c5; clear r4
   refine wsr (om rfl rfl (oa rfl rfl (oa rfl rfl (shO_nil ?_))))
   refine kW kn ?_
   refine shW_ret (andThen_ret ?_)
   refine q_res2 Tryz.results67 (res_tmp rfl) (res_tmp rfl) (sr) ?_
   obtain ⟨rfl, rfl⟩ := inj2 r6
   exact ⟨_, _, _, [], rfl, rfl, SlR.nil _ _ _ _ _⟩
 have r7 := ite_f r4 c5; clear r4
 refine shW_skip (shW_seq (wsr ?_))
 refine ov (v_loadA (cs := #[.int .i64 wind, .int .i64 voice]) Tryz.isAgg27 Tryz.sizeOf27 rfl (Has.own 0 rfl) (Nat.le_of_ble_eq_true rfl) rfl) rfl ?_
 obtain ⟨n2, h8, r9⟩ := b1_ok r7; clear r7
 refine o_callV rfl Tryz.call104 rfl rfl rfl (hear_CheckAir_w h8) ?_
 refine oa rfl rfl (nsr (om rfl rfl ?_))
 refine ov (v_neq rfl rfl) rfl ?_
 refine shO_nil ?_
 refine shW_condP rfl (fun c10 => ?_) (fun c10 => ?_)
 · have r11 := ite_t r9 c10; clear r9
   refine wsr (om rfl rfl (oa rfl rfl (oa rfl rfl (shO_nil ?_))))
   refine kW kn ?_
   refine shW_ret (andThen_ret ?_)
   refine q_res2 Tryz.results67 (res_tmp rfl) (res_tmp rfl) (sr) ?_
   obtain ⟨rfl, rfl⟩ := inj2 r11
   exact ⟨_, _, _, [], rfl, rfl, SlR.nil _ _ _ _ _⟩
 have r12 := ite_f r9 c10; clear r9
 refine shW_skip (wsr ?_)
 refine ov (v_loadA (cs := #[.int .i64 wide, .slice plots_a plots.length plots_c]) Tryz.isAgg24 Tryz.sizeOf24 rfl (Has.own 1 rfl) (Nat.le_of_ble_eq_true rfl) rfl) rfl ?_
 refine ov (v_fieldAddr fa_27_0 rfl) rfl ?_
 refine ov (v_load Tryz.isAgg25 rfl (Has.own 0 rfl) rfl) rfl ?_
 obtain ⟨d, n3, h13, r14⟩ := b2_ok r12; clear r12
 refine o_call0 rfl Tryz.call84 rfl rfl rfl (hear_opened_w h_plots h13) ?_; rintro _ F15 _ hF16 hn17 ⟨v19, rfl, rfl, hp20⟩
 refine shO_L (ln rfl) ?_
 refine om rfl rfl (ox rfl rfl rfl (ox rfl rfl rfl (oa rfl rfl (oa rfl rfl (nsr (om rfl rfl ?_))))))
 refine ov (v_fieldAddr fa_27_1 rfl) rfl ?_
 refine ov (v_load Tryz.isAgg3 rfl (Has.own 0 rfl) rfl) rfl ?_
 obtain ⟨wide2, plots2, down, right_, blows, h21, r22⟩ := b5_ok r14; clear r14
 have h31 := hp20; rw [h21] at h31; obtain ⟨b23, c24, m25, hv26, hz27, ⟨_, _, rfl, rfl, ⟨_, _, rfl, ⟨a28, c29, rfl, h30⟩, ⟨_, _, rfl, rfl, ⟨_, _, rfl, rfl, rfl⟩⟩⟩⟩⟩ := h31; subst hv26
 have hz27 : F15 b23 = some (.cells #[.int .i64 wide2, .slice a28 plots2.length c29, .int .i64 down, .int .i64 right_, .bool blows] 142 m25) := hz27
 obtain ⟨l, h32, r33⟩ := b1_ok r22; clear r22
 refine o_call0 rfl Tryz.call105 rfl rfl rfl (hear_desk_heard_w hz27 h30 h32) ?_; rintro _ F34 _ hF35 hn36 ⟨a38, n42, c39, Lb40, rfl, rfl, hz41⟩
 replace hz41 := hz41.new fun p hp => hn36 p (by simp [hp])
 refine shO_L (lp (ln rfl)) ?_
 refine kO (kf (fS fO) (kf (fS fO) kr)) ?_
 refine oa rfl rfl (oa rfl rfl (shO_nil ?_))
 refine kW (kd (kd kr)) ?_
 refine shW_ret ?_
 refine q_res2 Tryz.results67 (res_tmp rfl) (res_tmp rfl) (sr) ?_
 obtain ⟨rfl, rfl⟩ := inj2 r33
 exact ⟨_, _, _, _, rfl, rfl, hz41.any⟩
set_option maxHeartbeats 1000000 in
theorem slices_Index_int_int_w {s__a : Option Addr} {s__c : Nat} {s_ : List Int} {v : Int} {F : FS} (h_s_ : RowR 1 (iE .i64) F s__a s__c s_) {r : Int} (hr : slices_Index_int_int s_ v = some r) :
    SpecV Tryz.prog 79 #[.slice s__a s_.length s__c, .int .i64 v] F (.int .i64 r) := by
 refine spec_of_shW (args := [.slice s__a s_.length s__c, .int .i64 v]) Tryz.func79 rfl Tryz.ntmps79 (Nat.le_of_ble_eq_true rfl) ?_
 intro K _ _; rw [slices_Index_int_int] at hr
 refine wsr (oa rfl rfl (shO_nil ?_))
 refine shW_join (fun e1 F1 L1 => slices_Index_int_int_j1 = some r ∧ F = F1 ∧ L1 = [] ∧ e1.sub []) ?_ ?_
 · refine wsr (om rfl rfl ?_)
   refine ov (v_lenS Tryz.underlying28 rfl) rfl ?_
   refine om rfl rfl (shO_nil ?_)
   refine shW_block ?_
   refine shW_lp (fun fu2 e1 F1 L1 => ∃ (tl : List Int) (k : Int), tl.length = fu2 ∧ Lst s_ k tl ∧ slices_Index_int_int_l2 v tl k = some r ∧ F = F1 ∧ L1 = [] ∧ e1.sub [(0, .slice s__a s_.length s__c), (1, .int .i64 v), (7, .int .i64 (s_.length : Int)), (8, .int .i64 k)]) _ (m0 kr ⟨_, _, rfl, Lst.start _, hr, rfl, rfl, (sc rfl (sc rfl (sc rfl (sc rfl (sn _)))))⟩) ?_
   rintro fu2 e1 _ _ ⟨tl, k, hn2, hk1, r3, rfl, rfl, he4⟩
   refine shW_env _ he4 ?_; clear he4
   refine wsr ?_
   refine ov (v_lssK rfl rfl) rfl ?_
   refine shO_nil (shW_seq ?_)
   refine shW_condP rfl (fun c6 => ?_) (fun c6 => ?_)
   · obtain ⟨x, tl2, rfl, hx8, g9, hk7⟩ := Lst.succ hk1 c6
     rw [slices_Index_int_int_l2] at r3
     refine shW_skip (shW_seq ?_)
     refine shW_block ?_
     refine wsr (om rfl rfl (oa rfl rfl (nsr (om rfl rfl (om rfl rfl (om rfl rfl ?_))))))
     obtain ⟨b10, o11, c12, vs13, ha14, hs15, hle16, rfl, hl17, hc18⟩ := RowR.at (iE_ok _) h_s_ ([]) g9.1 hx8
     refine ov (v_indexO Tryz.underlying28 Tryz.sizeOf3 rfl ha14 rfl g9) rfl ?_
     refine ov (v_load Tryz.isAgg3 rfl hs15 (hc18 0 (by decide))) rfl ?_
     refine ov (v_eql rfl rfl) rfl ?_
     refine shO_nil ?_
     refine shW_condP rfl (fun c19 => ?_) (fun c19 => ?_)
     · have r20 := ite_t r3 c19; clear r3
       refine wsr (om rfl rfl (oa rfl rfl (shO_nil (shW_ret (inBlock_ret (andThen_ret (andThen_ret (inBlock_ret (andThen_ret ?_)))))))))
       refine q_res1 Tryz.results79 (res_tmp rfl) (sr) ?_
       obtain rfl := inj1 r20
       exact rfl
     have r21 := ite_f r3 c19; clear r3
     refine shW_skip (inBlock_n (id := 1) (shW_region ?_))
     refine ov (v_add rfl rfl (Lst.r64 hk1 c6 (RowR.lt h_s_))) rfl ?_
     refine om rfl rfl (shO_nil ?_)
     subst hn2; exact le kr ⟨_, _, rfl, hk7, r21, rfl, rfl, (sc rfl (sc rfl (sc rfl (sc rfl (sn _)))))⟩
   obtain rfl := Lst.zero hk1 c6
   rw [slices_Index_int_int_l2] at r3
   refine shW_exit (andThen_exit (andThen_exit ?_))
   refine inBlock_exit ?_
   exact mi kr ⟨r3, rfl, rfl, (sn _)⟩
 rintro e1 _ _ ⟨r22, rfl, rfl, he23⟩
 refine shW_env _ he23 ?_; clear he23
 rw [slices_Index_int_int_j1] at r22
 refine wsr (oa rfl rfl (shO_nil (shW_ret ?_)))
 refine q_res1 Tryz.results79 (res_tmp rfl) (sr) ?_
 obtain rfl := inj1 r22
 exact rfl
set_option maxHeartbeats 1000000 in
theorem slices_Contains_int_int_w {s__a : Option Addr} {s__c : Nat} {s_ : List Int} {v : Int} {F : FS} (h_s_ : RowR 1 (iE .i64) F s__a s__c s_) {r : Bool} (hr : slices_Contains_int_int s_ v = some r) :
    SpecV Tryz.prog 31 #[.slice s__a s_.length s__c, .int .i64 v] F (.bool r) := by
 refine spec_of_shW (args := [.slice s__a s_.length s__c, .int .i64 v]) Tryz.func31 rfl Tryz.ntmps31 (Nat.le_of_ble_eq_true rfl) ?_
 intro K _ _; rw [slices_Contains_int_int] at hr
 refine wsr (oa rfl rfl (nsr (om rfl rfl (om rfl rfl ?_))))
 obtain ⟨n, h1, r2⟩ := b1_ok hr; clear hr
 refine o_callV rfl Tryz.call79 rfl rfl rfl (slices_Index_int_int_w h_s_ h1) ?_
 refine ov (v_geqK rfl rfl) rfl ?_
 refine oa rfl rfl (shO_nil (shW_ret ?_))
 refine q_res1 Tryz.results31 (res_tmp rfl) (sr) ?_
 obtain rfl := inj1 r2
 exact rfl
set_option maxHeartbeats 1000000 in
theorem hear_Town_is_w {wide : Int} {plots_a : Option Addr} {plots_c : Nat} {plots : List Int} {p : Int} {kind : Int} {F : FS} (h_plots : RowR 1 (iE .i64) F plots_a plots_c plots) {r : Int} (hr : hear_Town_is wide plots p kind = some r) :
    SpecV Tryz.prog 72 #[.agg #[.int .i64 wide, .slice plots_a plots.length plots_c], .int .i64 p, .int .i64 kind] F (.int .i64 r) := by
 refine spec_of_shW (args := [.agg #[.int .i64 wide, .slice plots_a plots.length plots_c], .int .i64 p, .int .i64 kind]) Tryz.func72 rfl Tryz.ntmps72 (Nat.le_of_ble_eq_true rfl) ?_
 intro K _ _; rw [hear_Town_is] at hr
 refine wsr ?_
 refine o_box rfl rfl ?_; intro b1 hb1
 refine oa rfl rfl (shO_nil (shW_seq ?_))
 refine shW_block ?_
 refine wsr ?_
 refine ov (v_loadA (cs := #[.int .i64 wide, .slice plots_a plots.length plots_c]) Tryz.isAgg24 Tryz.sizeOf24 rfl (Has.own 0 rfl) (Nat.le_of_ble_eq_true rfl) rfl) rfl ?_
 refine om rfl rfl ?_
 obtain ⟨ok, h2, r3⟩ := b1_ok hr; clear hr
 refine o_callV rfl Tryz.call86 rfl rfl rfl (hear_Town_plot_w h_plots h2) ?_
 refine ov (v_notB rfl) rfl ?_
 refine oa rfl rfl (shO_nil ?_)
 refine shW_cond rfl (fun c4 => ?_) (fun c4 => ?_)
 · have r5 := bt r3 c4; clear r3
   refine wsr (oa rfl rfl (shO_nil ?_))
   refine kW kn ?_
   refine shW_ret (inBlock_ret (andThen_ret ?_))
   refine q_res1 Tryz.results72 (res_tmp rfl) (sr) ?_
   obtain rfl := inj1 r5
   exact rfl
 have r6 := bf r3 c4; clear r3
 refine wsr ?_
 refine ov (v_fieldAddr fa_24_1 rfl) rfl ?_
 refine ov (v_load Tryz.isAgg22 rfl (Has.own 0 rfl) rfl) rfl ?_
 refine om rfl rfl ?_
 obtain ⟨x, g7, hx8, r9⟩ := ix_ok r6; clear r6
 obtain ⟨b10, o11, c12, vs13, ha14, hs15, hle16, rfl, hl17, hc18⟩ := RowR.at (iE_ok _) h_plots ([(b1, .cells #[.int .i64 wide, .slice plots_a plots.length plots_c] 24 (0, 0))]) g7.1 hx8
 refine ov (v_indexO Tryz.underlying22 Tryz.sizeOf61 rfl ha14 rfl g7) rfl ?_
 refine ov (v_load Tryz.isAgg61 rfl hs15 (hc18 0 (by decide))) rfl ?_
 refine om rfl rfl ?_
 refine ov (v_neq rfl rfl) rfl ?_
 refine oa rfl rfl (shO_nil ?_)
 refine shW_condP rfl (fun c19 => ?_) (fun c19 => ?_)
 · have r20 := ite_t r9 c19; clear r9
   refine wsr (oa rfl rfl (shO_nil ?_))
   refine kW kn ?_
   refine shW_ret (inBlock_ret (andThen_ret ?_))
   refine q_res1 Tryz.results72 (res_tmp rfl) (sr) ?_
   obtain rfl := inj1 r20
   exact rfl
 have r21 := ite_f r9 c19; clear r9
 refine shW_skip (inBlock_n (id := 0) (wsr (oa rfl rfl (shO_nil ?_))))
 refine kW kn ?_
 refine shW_ret ?_
 refine q_res1 Tryz.results72 (res_tmp rfl) (sr) ?_
 obtain rfl := inj1 r21
 exact rfl
set_option maxHeartbeats 1000000 in
theorem hear_Town_named_w {wide : Int} {plots_a : Option Addr} {plots_c : Nat} {plots : List Int} {houses_a : Option Addr} {houses_c : Nat} {houses : List Int} {F : FS} (h_plots : RowR 1 (iE .i64) F plots_a plots_c plots) (h_houses : RowR 1 (iE .i64) F houses_a houses_c houses) {r : Int} (hr : hear_Town_named wide plots houses = some r) :
    SpecV Tryz.prog 87 #[.agg #[.int .i64 wide, .slice plots_a plots.length plots_c], .slice houses_a houses.length houses_c] F (.int .i64 r) := by
 refine spec_of_shW (args := [.agg #[.int .i64 wide, .slice plots_a plots.length plots_c], .slice houses_a houses.length houses_c]) Tryz.func87 rfl Tryz.ntmps87 (Nat.le_of_ble_eq_true rfl) ?_
 intro K _ _; rw [hear_Town_named] at hr
 refine wsr ?_
 refine o_box rfl rfl ?_; intro b1 hb1
 refine oa rfl rfl (shO_nil ?_)
 refine shW_join (fun e1 F1 L1 => hear_Town_named_j1 = some r ∧ F = F1 ∧ L1 = [] ∧ e1.sub []) ?_ ?_
 · refine wsr (om rfl rfl ?_)
   refine ov (v_lenS Tryz.underlying28 rfl) rfl ?_
   refine om rfl rfl (shO_nil ?_)
   refine shW_block ?_
   refine shW_lp (fun fu2 e1 F1 L1 => ∃ (tl : List Int) (k : Int), tl.length = fu2 ∧ Lst houses k tl ∧ hear_Town_named_l2 wide plots houses tl k = some r ∧ F = F1 ∧ L1 = [(b1, .cells #[.int .i64 wide, .slice plots_a plots.length plots_c] 24 (0, 0))] ∧ e1.sub [(1, .slice houses_a houses.length houses_c), (2, .pointer (some ⟨b1, 0, none⟩)), (8, .slice houses_a houses.length houses_c), (9, .int .i64 (houses.length : Int)), (10, .int .i64 k)]) _ (m0 kr ⟨_, _, rfl, Lst.start _, hr, rfl, rfl, (sc rfl (sc rfl (sc rfl (sc rfl (sc rfl (sn _))))))⟩) ?_
   rintro fu2 e1 _ _ ⟨tl, k, hn3, hk2, r4, rfl, rfl, he5⟩
   refine shW_env _ he5 ?_; clear he5
   refine wsr ?_
   refine ov (v_lssK rfl rfl) rfl ?_
   refine shO_nil (shW_seq ?_)
   refine shW_condP rfl (fun c7 => ?_) (fun c7 => ?_)
   · obtain ⟨x, tl2, rfl, hx9, g10, hk8⟩ := Lst.succ hk2 c7
     rw [hear_Town_named_l2] at r4
     refine shW_skip (shW_seq ?_)
     refine shW_block ?_
     refine wsr (om rfl rfl ?_)
     obtain ⟨b11, o12, c13, vs14, ha15, hs16, hle17, rfl, hl18, hc19⟩ := RowR.at (iE_ok _) h_houses ([(b1, .cells #[.int .i64 wide, .slice plots_a plots.length plots_c] 24 (0, 0))]) g10.1 hx9
     refine ov (v_indexO Tryz.underlying28 Tryz.sizeOf3 rfl ha15 rfl g10) rfl ?_
     refine ov (v_load Tryz.isAgg3 rfl hs16 (hc19 0 (by decide))) rfl ?_
     refine oa rfl rfl (oa rfl rfl (shO_nil (shW_seq (wsr ?_))))
     refine ov (v_loadA (cs := #[.int .i64 wide, .slice plots_a plots.length plots_c]) Tryz.isAgg24 Tryz.sizeOf24 rfl (Has.own 0 rfl) (Nat.le_of_ble_eq_true rfl) rfl) rfl ?_
     refine om rfl rfl ?_
     obtain ⟨n, h20, r21⟩ := b1_ok r4; clear r4
     refine o_callV rfl Tryz.call72 rfl rfl rfl (hear_Town_is_w h_plots h20) ?_
     refine oa rfl rfl (nsr (om rfl rfl ?_))
     refine ov (v_neq rfl rfl) rfl ?_
     refine shO_nil ?_
     refine shW_condP rfl (fun c22 => ?_) (fun c22 => ?_)
     · have r23 := ite_t r21 c22; clear r21
       refine wsr (om rfl rfl (oa rfl rfl (shO_nil ?_)))
       refine kW kn ?_
       refine shW_ret (andThen_ret (inBlock_ret (andThen_ret (andThen_ret (inBlock_ret (andThen_ret ?_))))))
       refine q_res1 Tryz.results87 (res_tmp rfl) (sr) ?_
       obtain rfl := inj1 r23
       exact rfl
     have r24 := ite_f r21 c22; clear r21
     refine shW_skip (wsr (om rfl rfl (om rfl rfl ?_)))
     obtain ⟨g25, r26⟩ := gd_ok r24; clear r24
     obtain ⟨houses2, h27, r28⟩ := bv_ok r26; clear r26
     obtain ⟨a29, c30, h31, hvh31⟩ := RowR.slice (iE_ok _) h_houses g25 h27
     refine ov ((v_slice (l := 0) (h := k) Tryz.underlying28 Tryz.sizeOf3 rfl (.inl ⟨rfl, rfl⟩) (.inr ⟨_, rfl, rfl⟩) hvh31.1).eq hvh31.2) rfl ?_
     refine om rfl rfl ?_
     obtain ⟨ok, h33, r34⟩ := b1_ok r28; clear r28
     refine o_callV rfl Tryz.call31 rfl rfl rfl (slices_Contains_int_int_w h31 h33) ?_
     refine shO_nil ?_
     refine shW_cond rfl (fun c35 => ?_) (fun c35 => ?_)
     · have r36 := bt r34 c35; clear r34
       refine wsr (oa rfl rfl (shO_nil ?_))
       refine kW kn ?_
       refine shW_ret (inBlock_ret (andThen_ret (andThen_ret (inBlock_ret (andThen_ret ?_)))))
       refine q_res1 Tryz.results87 (res_tmp rfl) (sr) ?_
       obtain rfl := inj1 r36
       exact rfl
     have r37 := bf r34 c35; clear r34
     refine shW_skip (inBlock_n (id := 1) (shW_region ?_))
     refine ov (v_add rfl rfl (Lst.r64 hk2 c7 (RowR.lt h_houses))) rfl ?_
     refine om rfl rfl (shO_nil ?_)
     subst hn3; exact le kr ⟨_, _, rfl, hk8, r37, rfl, rfl, (sc rfl (sc rfl (sc rfl (sc rfl (sc rfl (sn _))))))⟩
   obtain rfl := Lst.zero hk2 c7
   rw [hear_Town_named_l2] at r4
   refine shW_exit (andThen_exit (andThen_exit ?_))
   refine inBlock_exit ?_
   exact mi kn ⟨r4, rfl, rfl, (sn _)⟩
 rintro e1 _ _ ⟨r38, rfl, rfl, he39⟩
 refine shW_env _ he39 ?_; clear he39
 rw [hear_Town_named_j1] at r38
 refine wsr (oa rfl rfl (shO_nil (shW_ret ?_)))
 refine q_res1 Tryz.results87 (res_tmp rfl) (sr) ?_
 obtain rfl := inj1 r38
 exact rfl
set_option maxHeartbeats 1000000 in
theorem hear_ones_w {set_ : Int} {F : FS} {r : Int} (hr : hear_ones set_ = some r) :
    SpecV Tryz.prog 88 #[.int .i64 set_] F (.int .i64 r) := by
 refine spec_of_shW (args := [.int .i64 set_]) Tryz.func88 rfl Tryz.ntmps88 (Nat.le_of_ble_eq_true rfl) ?_
 intro K _ _; rw [hear_ones] at hr
 refine wsr (oa rfl rfl (nsr (oa rfl rfl (shO_nil ?_))))
 obtain ⟨n, h1, r2⟩ := b1_ok hr; clear hr
 refine shW_join (fun e1 F1 L1 => F = F1 ∧ L1 = [] ∧ e1.sub [(3, .int .i64 n)]) ?_ ?_
 · clear r2
   refine shW_block ?_
   refine shW_lp (fun fu1 e1 F1 L1 => ∃ (set_2 : Int) (n2 : Int), hear_ones_l1 fu1 set_2 n2 = some n ∧ F = F1 ∧ L1 = [] ∧ e1.sub [(0, .int .i64 set_2), (3, .int .i64 n2)]) FU (m0 kr ⟨set_, 0, h1, rfl, rfl, (sc rfl (sc rfl (sn _)))⟩) ?_
   rintro fu1 e1 _ _ ⟨set_2, n2, r5, rfl, rfl, he6⟩
   refine shW_env _ he6 ?_; clear he6
   rcases fu1 with _ | fu1
   · rw [hear_ones_l1] at r5; cases r5
   rw [hear_ones_l1] at r5
   refine shW_seq (wsr (om rfl rfl ?_))
   refine ov (v_gtrK rfl rfl) rfl ?_
   refine shO_nil ?_
   refine shW_condP rfl (fun c7 => ?_) (fun c7 => ?_)
   · have r8 := ite_t r5 c7; clear r5
     refine shW_skip (shW_seq ?_)
     refine shW_block ?_
     refine shW_region (om rfl rfl (om rfl rfl ?_))
     refine ov (v_remT rfl rfl (by decide)) rfl ?_
     obtain ⟨g9, r10⟩ := gd_ok r8; clear r8
     refine ov (v_add rfl rfl g9) rfl ?_
     refine oa rfl rfl (shO_nil (inBlock_n (id := 1) (shW_region (om rfl rfl ?_))))
     obtain ⟨g11, r12⟩ := gd_ok r10; clear r10
     refine ov (v_quoT rfl rfl g11) rfl ?_
     refine oa rfl rfl (shO_nil ?_)
     exact le kr ⟨Int.tdiv set_2 2, n2 + (Int.tmod set_2 2), r12, rfl, rfl, (sc rfl (sc rfl (sn _)))⟩
   have r13 := ite_f r5 c7; clear r5
   refine shW_exit (andThen_exit (andThen_exit ?_))
   refine inBlock_exit ?_
   obtain rfl := inj1 r13
   exact mi kr ⟨rfl, rfl, (sc rfl (sn _))⟩
 rintro e1 _ _ ⟨rfl, rfl, he14⟩
 refine shW_env _ he14 ?_; clear he14
 refine wsr (om rfl rfl (oa rfl rfl (shO_nil (shW_ret ?_))))
 refine q_res1 Tryz.results88 (res_tmp rfl) (sr) ?_
 obtain rfl := inj1 r2
 exact rfl
set_option maxHeartbeats 1000000 in
theorem hear_asked_w {wide : Int} {plots_a : Option Addr} {plots_c : Nat} {plots : List Int} {wind : Int} {voice : Int} {houses_a : Option Addr} {houses_c : Nat} {houses : List Int} {F : FS} (h_plots : RowR 1 (iE .i64) F plots_a plots_c plots) (h_houses : RowR 1 (iE .i64) F houses_a houses_c houses) {r : List (List Bool)} {r2 : Bool} {r3 : Int} (hr : hear_asked wide plots wind voice houses = some (r, r2, r3)) :
    SH.Spec Tryz.prog 40 #[.agg #[.int .i64 wide, .slice plots_a plots.length plots_c], .agg #[.int .i64 wind, .int .i64 voice], .slice houses_a houses.length houses_c] F [] fun F' L' v => ∃ (ra : Option Addr) (rn : Nat) (rc : Nat) (rL : LH) (r2v : Value), v = .tuple #[.agg #[.slice ra rn rc, r2v], .int .i64 r3] ∧ L' = rL ++ [] ∧ SlR 0 80 30 (arE 30 cB) F' ra rn rc r rL ∧ FnOR r2v r2 88 := by
 refine spec_of_shW (args := [.agg #[.int .i64 wide, .slice plots_a plots.length plots_c], .agg #[.int .i64 wind, .int .i64 voice], .slice houses_a houses.length houses_c]) Tryz.func40 rfl Tryz.ntmps40 (Nat.le_of_ble_eq_true rfl) ?_
 intro K _ _; rw [hear_asked] at hr
 refine wsr ?_
 refine o_box rfl rfl ?_; intro b1 hb1
 refine o_box rfl rfl ?_; intro b2 hb2
 refine o_alloc rfl Tryz.zeroValue75 ?_; intro b3 hb3
 refine oa rfl rfl (nsr ?_)
 refine ov (v_loadA (cs := #[.int .i64 wide, .slice plots_a plots.length plots_c]) Tryz.isAgg24 Tryz.sizeOf24 rfl (Has.own 2 rfl) (Nat.le_of_ble_eq_true rfl) rfl) rfl ?_
 refine ov (v_loadA (cs := #[.int .i64 wind, .int .i64 voice]) Tryz.isAgg27 Tryz.sizeOf27 rfl (Has.own 1 rfl) (Nat.le_of_ble_eq_true rfl) rfl) rfl ?_
 obtain ⟨l, n, h4, r5⟩ := b2_ok hr; clear hr
 refine o_call0 rfl Tryz.call67 rfl rfl rfl (hear_aired_w h_plots h4) ?_; rintro _ F6 _ hF7 hn8 ⟨a10, n14, c11, Lb12, rfl, rfl, hz13⟩
 replace h_plots := h_plots.mono (iE_ok _) hF7
 replace h_houses := h_houses.mono (iE_ok _) hF7
 replace hz13 := hz13.new fun p hp => hn8 p (by simp [hp])
 refine shO_L (lp (ln rfl)) ?_
 refine kO (kf (fS fO) (kf (fS fO) (kf (fS fO) kr))) ?_
 refine om rfl rfl (ox rfl rfl rfl (ox rfl rfl rfl (oa rfl rfl (oa rfl rfl (shO_nil (shW_seq (wsr (om rfl rfl ?_))))))))
 refine ov (v_neq rfl rfl) rfl ?_
 refine shO_nil ?_
 refine shW_condP rfl (fun c16 => ?_) (fun c16 => ?_)
 · have r17 := ite_t r5 c16; clear r5
   refine wsr ?_
   refine ov (v_build (v := .agg #[.slice none 0 0, .nilFunc]) rfl (by intro w; kernel_rfl)) rfl ?_
   refine om rfl rfl ?_
   refine o_storeA (i := 0) Tryz.sizeOf75 rfl rfl rfl (by simp [Value.oneCell']) rfl (Nat.le_of_ble_eq_true rfl) ?_
   refine shO_L (L' := (b3, .cells #[.slice none 0 0, .nilFunc] 75 (0, 0)) :: ((b2, .cells #[.int .i64 wind, .int .i64 voice] 27 (0, 0)) :: ((b1, .cells #[.int .i64 wide, .slice plots_a plots.length plots_c] 24 (0, 0)) :: (Lb12 ++ [])))) rfl ?_
   refine oa rfl rfl (shO_nil ?_)
   refine kW (kc kn) ?_
   refine shW_ret (andThen_ret ?_)
   refine q_res2 Tryz.results40 (res_cellA (cs := #[.slice none 0 0, .nilFunc]) Tryz.isAgg75 Tryz.sizeOf75 rfl (Has.own 0 rfl) (Nat.le_of_ble_eq_true rfl) rfl) (res_tmp rfl) (s1 sr) ?_
   obtain ⟨rfl, rfl, rfl⟩ := inj3 r17
   exact ⟨_, _, _, [], _, rfl, rfl, SlR.nil _ _ _ _ _, FnOR.nil _⟩
 have r18 := ite_f r5 c16; clear r5
 refine shW_skip (shW_seq (wsr ?_))
 refine ov (v_loadA (cs := #[.int .i64 wide, .slice plots_a plots.length plots_c]) Tryz.isAgg24 Tryz.sizeOf24 rfl (Has.own 2 rfl) (Nat.le_of_ble_eq_true rfl) rfl) rfl ?_
 refine om rfl rfl ?_
 obtain ⟨n2, h19, r20⟩ := b1_ok r18; clear r18
 refine o_callV rfl Tryz.call87 rfl rfl rfl (hear_Town_named_w h_plots h_houses h19) ?_
 refine oa rfl rfl (nsr (om rfl rfl ?_))
 refine ov (v_neq rfl rfl) rfl ?_
 refine shO_nil ?_
 refine shW_condP rfl (fun c21 => ?_) (fun c21 => ?_)
 · have r22 := ite_t r20 c21; clear r20
   refine wsr ?_
   refine ov (v_build (v := .agg #[.slice none 0 0, .nilFunc]) rfl (by intro w; kernel_rfl)) rfl ?_
   refine om rfl rfl ?_
   refine o_storeA (i := 0) Tryz.sizeOf75 rfl rfl rfl (by simp [Value.oneCell']) rfl (Nat.le_of_ble_eq_true rfl) ?_
   refine shO_L (L' := (b3, .cells #[.slice none 0 0, .nilFunc] 75 (0, 0)) :: ((b2, .cells #[.int .i64 wind, .int .i64 voice] 27 (0, 0)) :: ((b1, .cells #[.int .i64 wide, .slice plots_a plots.length plots_c] 24 (0, 0)) :: (Lb12 ++ [])))) rfl ?_
   refine oa rfl rfl (shO_nil ?_)
   refine kW (kc kn) ?_
   refine shW_ret (andThen_ret ?_)
   refine q_res2 Tryz.results40 (res_cellA (cs := #[.slice none 0 0, .nilFunc]) Tryz.isAgg75 Tryz.sizeOf75 rfl (Has.own 0 rfl) (Nat.le_of_ble_eq_true rfl) rfl) (res_tmp rfl) (s1 sr) ?_
   obtain ⟨rfl, rfl, rfl⟩ := inj3 r22
   exact ⟨_, _, _, [], _, rfl, rfl, SlR.nil _ _ _ _ _, FnOR.nil _⟩
 have r23 := ite_f r20 c21; clear r20
 refine shW_skip (wsr ?_)
 refine ov (v_build (v := .agg (#[.slice none 0 0, .func (.func 88) #[] #[]])) rfl (by intro w; kernel_rfl)) rfl ?_
 refine o_alloc rfl Tryz.zeroValue75 ?_; intro b24 hb24
 refine o_storeA (i := 0) Tryz.sizeOf75 rfl rfl rfl (by simp [Value.oneCell']) rfl (Nat.le_of_ble_eq_true rfl) ?_
 refine shO_L (L' := (b24, .cells (#[.slice none 0 0, .func (.func 88) #[] #[]]) 75 (0, 0)) :: ((b3, .cells #[.slice none 0 0, .nilFunc] 75 (0, 0)) :: ((b2, .cells #[.int .i64 wind, .int .i64 voice] 27 (0, 0)) :: ((b1, .cells #[.int .i64 wide, .slice plots_a plots.length plots_c] 24 (0, 0)) :: (Lb12 ++ []))))) rfl ?_
 refine shO_nil ?_
 obtain ⟨q_ears, h31, r32⟩ := b1_ok r23; clear r23
 refine shW_join (fun e1 F1 L1 => ∃ (a25 : Option Addr) (n29 : Nat) (c26 : Nat) (Lb27 : LH), F6 = F1 ∧ L1 = ((b24, .cells (#[.slice a25 n29 c26, .func (.func 88) #[] #[]]) 75 (0, 0)) :: ((b3, .cells #[.slice none 0 0, .nilFunc] 75 (0, 0)) :: (Lb27 ++ []))) ∧ e1.sub [(6, .pointer (some ⟨b3, 0, none⟩)), (11, .pointer (some ⟨b24, 0, none⟩))] ∧ SlR K.w0.heap.size 80 30 (arE 30 cB) F1 a25 n29 c26 q_ears Lb27) ?_ ?_
 · clear r32
   refine wsr (om rfl rfl ?_)
   refine ov (v_lenS Tryz.underlying28 rfl) rfl ?_
   refine om rfl rfl (shO_nil ?_)
   refine shW_block ?_
   refine kW (kc (kc (kd (kd kr)))) ?_
   refine shW_lp (fun fu1 e1 F1 L1 => ∃ (tl : List Int) (k : Int), tl.length = fu1 ∧ Lst houses k tl ∧ ∃ (q_ears2 : List (List Bool)) (a33 : Option Addr) (n37 : Nat) (c34 : Nat) (Lb35 : LH), hear_asked_l1 l tl q_ears2 = some q_ears ∧ F6 = F1 ∧ L1 = ((b24, .cells (#[.slice a33 n37 c34, .func (.func 88) #[] #[]]) 75 (0, 0)) :: ((b3, .cells #[.slice none 0 0, .nilFunc] 75 (0, 0)) :: (Lb12 ++ (Lb35 ++ [])))) ∧ e1.sub [(6, .pointer (some ⟨b3, 0, none⟩)), (8, .slice a10 n14 c11), (11, .pointer (some ⟨b24, 0, none⟩)), (32, .slice houses_a houses.length houses_c), (33, .int .i64 (houses.length : Int)), (34, .int .i64 k)] ∧ SlR K.w0.heap.size 80 30 (arE 30 cB) F1 a33 n37 c34 q_ears2 Lb35) _ (m0 (kc (kc (ka (ke kr)))) ⟨_, _, rfl, Lst.start _, [], none, 0, 0, [], h31, rfl, rfl, (sc rfl (sc rfl (sc rfl (sc rfl (sc rfl (sc rfl (sn _))))))), SlR.nil _ _ _ _ _⟩) ?_
   rintro fu1 e1 _ _ ⟨tl, k, hn40, hk39, q_ears2, a33, n37, c34, Lb35, r41, rfl, rfl, he42, hz36⟩
   refine shW_env _ he42 ?_; clear he42
   refine wsr ?_
   refine ov (v_lssK rfl rfl) rfl ?_
   refine shO_nil (shW_seq ?_)
   refine shW_condP rfl (fun c44 => ?_) (fun c44 => ?_)
   · obtain ⟨x, tl2, rfl, hx46, g47, hk45⟩ := Lst.succ hk39 c44
     rw [hear_asked_l1] at r41
     refine shW_skip (shW_seq ?_)
     refine shW_block ?_
     refine wsr ?_
     obtain ⟨b48, o49, c50, vs51, ha52, hs53, hle54, rfl, hl55, hc56⟩ := RowR.at (iE_ok _) h_houses ((b24, .cells (#[.slice a33 n37 c34, .func (.func 88) #[] #[]]) 75 (0, 0)) :: ((b3, .cells #[.slice none 0 0, .nilFunc] 75 (0, 0)) :: (Lb12 ++ (Lb35 ++ [])))) g47.1 hx46
     refine ov (v_indexO Tryz.underlying28 Tryz.sizeOf3 rfl ha52 rfl g47) rfl ?_
     refine ov (v_load Tryz.isAgg3 rfl hs53 (hc56 0 (by decide))) rfl ?_
     refine oa rfl rfl (shO_nil ?_)
     refine shW_drawM [(.still, 0), (.still, 1), (.still, 2), (.still, 3), (.still, 4), (.still, 5), (.seq, 6), (.seq, 7), (.still, 8), (.seq, 9)] (by kernel_rfl) (by kernel_rfl) (trivial) (by rfl) (by kernel_rfl) ?_
     refine shM_v (v := .pointer (some ⟨b24, 0, none⟩)) (ek := [(11, .pointer (some ⟨b24, 0, none⟩))]) (Ls := []) rfl rfl rfl rfl ((sc rfl (sn _))) (by kernel_rfl) sm (fun H F' L' hF' hL' => v_fieldAddr fa_75_0 rfl) ?_
     refine shM_v (v := .slice a33 n37 c34) (ek := [(38, .pointer (some ⟨b24, 0, none⟩))]) (Ls := [(b24, .cells (#[.slice a33 n37 c34, .func (.func 88) #[] #[]]) 75 (0, 0))]) rfl rfl rfl rfl ((sc rfl (sn _))) (by kernel_rfl) (s0 (s2 (s1 (s3 (s3 sr))))) (fun H F' L' hF' hL' => v_load Tryz.isAgg72 rfl ((Has.own 0 rfl).ext hF' hL') rfl) ?_
     refine shM_v (v := .slice a10 n14 c11) (ek := [(8, .slice a10 n14 c11)]) (Ls := []) rfl rfl rfl rfl ((sc rfl (sn _))) (by kernel_rfl) sm (fun H F' L' hF' hL' => v_move rfl) ?_
     refine shM_v (v := .int .i64 x) (ek := [(13, .int .i64 x)]) (Ls := []) rfl rfl rfl rfl ((sc rfl (sn _))) (by kernel_rfl) sm (fun H F' L' hF' hL' => v_move rfl) ?_
     obtain ⟨x2, g57, hx58, r59⟩ := ix_ok r41; clear r41
     obtain ⟨b60, o61, c62, vs63, ha64, hs65, hle66, ⟨rfl, h69⟩, hl67, hc68⟩ := SlR.at (arE_ok (n := 30) (sz := 1) cB_ok) hz13 (L := Lb12 ++ []) fP g57.1 hx58
     refine shM_v (v := .pointer (some ⟨b60, o61 + (x : Int).toNat * 30, none⟩)) (ek := [(40, .slice a10 n14 c11), (41, .int .i64 x)]) (Ls := []) rfl rfl rfl rfl ((sc rfl (sc rfl (sn _)))) (by kernel_rfl) sm (fun H F' L' hF' hL' => v_indexO Tryz.underlying72 Tryz.sizeOf80 rfl ha64 rfl (SlR.idx hz13 g57)) ?_
     refine shM_v (v := .agg (arr cB x2)) (ek := [(42, .pointer (some ⟨b60, o61 + (x : Int).toNat * 30, none⟩))]) (Ls := Lb12 ++ []) rfl rfl rfl rfl ((sc rfl (sn _))) (by kernel_rfl) (s0 (s1 (s1 (s4 (s3 sr))))) (fun H F' L' hF' hL' => v_loadA (cs := arr cB x2) Tryz.isAgg80 Tryz.sizeOf80 rfl (hs65.ext hF' hL') hle66 (extract_cells hle66 hl67 hc68)) ?_
     refine ⟨_, [(43, .agg (arr cB x2))], rfl, rfl, (sc rfl (sn _)), by kernel_rfl, ?_⟩; intro H
     refine o_buildSlice (cs := arr cB x2) rfl rfl (buildSlice_arr slt_72 cB_ok h69 rfl (by decide)) ?_; intro b70 hb70
     refine shO_nil ⟨_, rfl, FExt.refl _, [1, 0], by kernel_rfl, .inl (.inr (fun d h => by cases h; rfl)), (List.forall_mem_cons.2 ⟨s0 (s1 (s2 (s1 (s3 (s3 sr))))), (List.forall_mem_cons.2 ⟨sm, (fun _ h => absurd h List.not_mem_nil)⟩)⟩), ?_⟩
     refine ⟨_, [(39, .slice a33 n37 c34), (44, .slice (some ⟨b70, 0, none⟩) 1 1)], rfl, rfl, (sc rfl (sc rfl (sn _))), by kernel_rfl, ?_⟩; intro H
     obtain ⟨l2, h71, g72, r73⟩ := ap_ok r59; clear r59
     refine o_appZ (xs := q_ears2) (ys := [x2]) (zs := l2) rfl slt_72 rfl rfl (Nat.le_refl _) (fun _ => .c (.c (.c (.s .h)))) hz36 (SrcR.box (vss := [(arr cB x2).toList]) (ys := [x2]) 0 rfl (arE_ok (n := 30) (sz := 1) cB_ok) (.cons ⟨rfl, h69⟩ .nil) (by simp) rfl) h71 g72 (by decide) ?_; intro a74 n78 c75 Lb76 hz77
     refine kO (kd kr) ?_
     refine shO_nil ⟨_, rfl, FExt.refl _, [], by kernel_rfl, .inl (.inl rfl), (fun _ h => absurd h List.not_mem_nil), ?_⟩
     refine shM_v (v := .pointer (some ⟨b24, 0, none⟩)) (ek := [(11, .pointer (some ⟨b24, 0, none⟩))]) (Ls := []) rfl rfl rfl rfl ((sc rfl (sn _))) (by kernel_rfl) sm (fun H F' L' hF' hL' => v_fieldAddr fa_75_0 rfl) ?_
     refine ⟨_, [(45, .slice a74 n78 c75), (46, .pointer (some ⟨b24, 0, none⟩))], rfl, rfl, (sc rfl (sc rfl (sn _))), by kernel_rfl, ?_⟩; intro H
     refine o_store (i := 0) Tryz.sizeOf72 rfl rfl rfl rfl (Nat.le_of_ble_eq_true rfl) ?_
     refine shO_L (L' := (b24, .cells (#[.slice a74 n78 c75, .func (.func 88) #[] #[]]) 75 (0, 0)) :: ((b3, .cells #[.slice none 0 0, .nilFunc] 75 (0, 0)) :: (Lb12 ++ (Lb76 ++ [])))) rfl ?_
     refine shO_nil ⟨undef, rfl, FExt.refl _, [], by kernel_rfl, .inl (.inl rfl), (fun _ h => absurd h List.not_mem_nil), ?_⟩
     refine shM_nil ?_
     refine inBlock_n (id := 1) (shW_region ?_)
     refine ov (v_add rfl rfl (Lst.r64 hk39 c44 (RowR.lt h_houses))) rfl ?_
     refine om rfl rfl (shO_nil ?_)
     subst hn40; exact le kr ⟨_, _, rfl, hk45, l2, a74, n78, c75, Lb76, r73, rfl, rfl, (sc rfl (sc rfl (sc rfl (sc rfl (sc rfl (sc rfl (sn _))))))), hz77⟩
   obtain rfl := Lst.zero hk39 c44
   rw [hear_asked_l1] at r41
   refine shW_exit (andThen_exit (andThen_exit ?_))
   refine inBlock_exit ?_
   obtain rfl := inj1 r41
   exact mi (kc (kc (kx kr))) ⟨a33, n37, c34, Lb35, rfl, rfl, (sc rfl (sc rfl (sn _))), hz36⟩
 rintro e1 _ _ ⟨a25, n29, c26, Lb27, rfl, rfl, he80, hz28⟩
 refine shW_env _ he80 ?_; clear he80
 refine wsr ?_
 refine ov (v_loadA (cs := #[.slice a25 n29 c26, .func (.func 88) #[] #[]]) Tryz.isAgg75 Tryz.sizeOf75 rfl (Has.own 0 rfl) (Nat.le_of_ble_eq_true rfl) rfl) rfl ?_
 refine o_storeA (i := 1) Tryz.sizeOf75 rfl rfl rfl (by simp [Value.oneCell']) rfl (Nat.le_of_ble_eq_true rfl) ?_
 refine shO_L (L' := (b24, .cells (#[.slice a25 n29 c26, .func (.func 88) #[] #[]]) 75 (0, 0)) :: ((b3, .cells (#[.slice a25 n29 c26, .func (.func 88) #[] #[]]) 75 (0, 0)) :: (Lb27 ++ []))) rfl ?_
 refine oa rfl rfl (shO_nil ?_)
 refine kW (kd kr) ?_
 refine shW_ret ?_
 refine q_res2 Tryz.results40 (res_cellA (cs := #[.slice a25 n29 c26, .func (.func 88) #[] #[]]) Tryz.isAgg75 Tryz.sizeOf75 rfl (Has.own 0 rfl) (Nat.le_of_ble_eq_true rfl) rfl) (res_tmp rfl) (s1 (s4 sr)) ?_
 obtain ⟨rfl, rfl, rfl⟩ := inj3 r32
 exact ⟨_, _, _, _, _, rfl, rfl, hz28.any, FnOR.fn _⟩
set_option maxHeartbeats 1000000 in
theorem slices_Index_hear_ears_hear_ears_w {s__a : Option Addr} {s__c : Nat} {s_ : List (List Bool)} {v : List Bool} {F : FS} (h_s_ : RowR 30 (arE 30 cB) F s__a s__c s_) (h_v : v.length = 30) {r : Int} (hr : slices_Index_hear_ears_hear_ears s_ v = some r) :
    SpecV Tryz.prog 113 #[.slice s__a s_.length s__c, .agg (arr cB v)] F (.int .i64 r) := by
 refine spec_of_shW (args := [.slice s__a s_.length s__c, .agg (arr cB v)]) Tryz.func113 rfl Tryz.ntmps113 (Nat.le_of_ble_eq_true rfl) ?_
 intro K _ _; rw [slices_Index_hear_ears_hear_ears] at hr
 refine wsr ?_
 refine o_box rfl rfl ?_; intro b1 hb1
 refine oa rfl rfl (shO_nil ?_)
 refine shW_join (fun e1 F1 L1 => slices_Index_hear_ears_hear_ears_j1 = some r ∧ F = F1 ∧ L1 = [] ∧ e1.sub []) ?_ ?_
 · refine wsr (om rfl rfl ?_)
   refine ov (v_lenS Tryz.underlying72 rfl) rfl ?_
   refine om rfl rfl (shO_nil ?_)
   refine shW_block ?_
   refine shW_lp (fun fu2 e1 F1 L1 => ∃ (tl : List (List Bool)) (k : Int), tl.length = fu2 ∧ Lst s_ k tl ∧ slices_Index_hear_ears_hear_ears_l2 v tl k = some r ∧ F = F1 ∧ L1 = [(b1, .cells (arr cB v) 80 (0, 0))] ∧ e1.sub [(0, .slice s__a s_.length s__c), (3, .pointer (some ⟨b1, 0, none⟩)), (7, .int .i64 (s_.length : Int)), (8, .int .i64 k)]) _ (m0 kr ⟨_, _, rfl, Lst.start _, hr, rfl, rfl, (sc rfl (sc rfl (sc rfl (sc rfl (sn _)))))⟩) ?_
   rintro fu2 e1 _ _ ⟨tl, k, hn3, hk2, r4, rfl, rfl, he5⟩
   refine shW_env _ he5 ?_; clear he5
   refine wsr ?_
   refine ov (v_lssK rfl rfl) rfl ?_
   refine shO_nil (shW_seq ?_)
   refine shW_condP rfl (fun c7 => ?_) (fun c7 => ?_)
   · obtain ⟨x, tl2, rfl, hx9, g10, hk8⟩ := Lst.succ hk2 c7
     rw [slices_Index_hear_ears_hear_ears_l2] at r4
     refine shW_skip (shW_seq ?_)
     refine shW_block ?_
     refine wsr (om rfl rfl (oa rfl rfl ?_))
     refine nsd (by kernel_rfl) (by kernel_rfl) (by kernel_rfl) ?_
     refine qv (v_loadW Tryz.isAgg80 Tryz.sizeOf80 rfl (Has.own 0 rfl) (arr_sz cB_ok h_v)) rfl ?_
     refine qm rfl rfl (qm rfl rfl ?_)
     obtain ⟨b11, o12, c13, vs14, ha15, hs16, hle17, ⟨rfl, h20⟩, hl18, hc19⟩ := RowR.at (arE_ok (n := 30) (sz := 1) cB_ok) h_s_ ([(b1, .cells (arr cB v) 80 (0, 0))]) g10.1 hx9
     refine qv (v_indexO Tryz.underlying72 Tryz.sizeOf80 rfl ha15 rfl g10) rfl ?_
     refine qv (v_loadA (cs := arr cB x) Tryz.isAgg80 Tryz.sizeOf80 rfl hs16 hle17 (extract_cells hle17 hl18 hc19)) rfl ?_
     refine qv (v_eqA (eqga_80 _ _ _ _) (eqa_80 h_v h20) rfl rfl) rfl ?_
     refine shQ_nil ?_
     refine shW_condP rfl (fun c21 => ?_) (fun c21 => ?_)
     · have r22 := ite_t r4 c21; clear r4
       refine wsr (om rfl rfl (oa rfl rfl (shO_nil ?_)))
       refine kW kn ?_
       refine shW_ret (inBlock_ret (andThen_ret (andThen_ret (inBlock_ret (andThen_ret ?_)))))
       refine q_res1 Tryz.results113 (res_tmp rfl) (sr) ?_
       obtain rfl := inj1 r22
       exact rfl
     have r23 := ite_f r4 c21; clear r4
     refine shW_skip (inBlock_n (id := 1) (shW_region ?_))
     refine ov (v_add rfl rfl (Lst.r64 hk2 c7 (RowR.lt h_s_))) rfl ?_
     refine om rfl rfl (shO_nil ?_)
     subst hn3; exact le kr ⟨_, _, rfl, hk8, r23, rfl, rfl, (sc rfl (sc rfl (sc rfl (sc rfl (sn _)))))⟩
   obtain rfl := Lst.zero hk2 c7
   rw [slices_Index_hear_ears_hear_ears_l2] at r4
   refine shW_exit (andThen_exit (andThen_exit ?_))
   refine inBlock_exit ?_
   exact mi kn ⟨r4, rfl, rfl, (sn _)⟩
 rintro e1 _ _ ⟨r24, rfl, rfl, he25⟩
 refine shW_env _ he25 ?_; clear he25
 rw [slices_Index_hear_ears_hear_ears_j1] at r24
 refine wsr (oa rfl rfl (shO_nil (shW_ret ?_)))
 refine q_res1 Tryz.results113 (res_tmp rfl) (sr) ?_
 obtain rfl := inj1 r24
 exact rfl
set_option maxHeartbeats 1000000 in
theorem slices_Contains_hear_ears_hear_ears_w {s__a : Option Addr} {s__c : Nat} {s_ : List (List Bool)} {v : List Bool} {F : FS} (h_s_ : RowR 30 (arE 30 cB) F s__a s__c s_) (h_v : v.length = 30) {r : Bool} (hr : slices_Contains_hear_ears_hear_ears s_ v = some r) :
    SpecV Tryz.prog 89 #[.slice s__a s_.length s__c, .agg (arr cB v)] F (.bool r) := by
 refine spec_of_shW (args := [.slice s__a s_.length s__c, .agg (arr cB v)]) Tryz.func89 rfl Tryz.ntmps89 (Nat.le_of_ble_eq_true rfl) ?_
 intro K _ _; rw [slices_Contains_hear_ears_hear_ears] at hr
 refine wsr ?_
 refine o_box rfl rfl ?_; intro b1 hb1
 refine oa rfl rfl (nsr (om rfl rfl ?_))
 refine ov (v_loadW Tryz.isAgg80 Tryz.sizeOf80 rfl (Has.own 0 rfl) (arr_sz cB_ok h_v)) rfl ?_
 obtain ⟨n, h2, r3⟩ := b1_ok hr; clear hr
 refine o_callV rfl Tryz.call113 rfl rfl rfl (slices_Index_hear_ears_hear_ears_w h_s_ h_v h2) ?_
 refine ov (v_geqK rfl rfl) rfl ?_
 refine oa rfl rfl (shO_nil ?_)
 refine kW kn ?_
 refine shW_ret ?_
 refine q_res1 Tryz.results89 (res_tmp rfl) (sr) ?_
 obtain rfl := inj1 r3
 exact rfl
set_option maxHeartbeats 1000000 in
theorem hear_quarter_deaf_w {ears_a : Option Addr} {ears_c : Nat} {ears : List (List Bool)} {count_f : FuncId} {count_1 : Array Value} {count_2 : Array Value} {count : Int → Option Int} {F : FS} (h_ears : RowR 30 (arE 30 cB) F ears_a ears_c ears) (_h_count : FnR Tryz.prog F count_f count_1 count_2 (iE .i64) (Value.int .i64) count) {r : Bool} (hr : hear_quarter_deaf ears count = some r) :
    SpecV Tryz.prog 41 #[.agg #[.slice ears_a ears.length ears_c, .func (.func count_f) count_1 count_2]] F (.bool r) := by
 refine spec_of_shW (args := [.agg #[.slice ears_a ears.length ears_c, .func (.func count_f) count_1 count_2]]) Tryz.func41 rfl Tryz.ntmps41 (Nat.le_of_ble_eq_true rfl) ?_
 intro K _ _; rw [hear_quarter_deaf] at hr
 refine wsr ?_
 refine o_box rfl rfl ?_; intro b1 hb1
 refine oa rfl rfl (nsr ?_)
 refine ov (v_fieldAddr fa_75_0 rfl) rfl ?_
 refine ov (v_load Tryz.isAgg72 rfl (Has.own 0 rfl) rfl) rfl ?_
 refine ov (v_build (v := .agg (arr cB (List.replicate 30 false))) rfl (by intro w; kernel_rfl)) rfl ?_
 obtain ⟨ok, h2, r3⟩ := b1_ok hr; clear hr
 refine o_callV rfl Tryz.call89 rfl rfl rfl (slices_Contains_hear_ears_hear_ears_w h_ears List.length_replicate h2) ?_
 refine oa rfl rfl (shO_nil ?_)
 refine kW kn ?_
 refine shW_ret ?_
 refine q_res1 Tryz.results41 (res_tmp rfl) (sr) ?_
 obtain rfl := inj1 r3
 exact rfl
set_option maxHeartbeats 1000000 in
theorem slices_Compact_hear_ears_hear_ears_w {s__a : Option Addr} {s__n : Nat} {s__c : Nat} {s__L : LH} {s_ : List (List Bool)} {s__nb : Nat} {F : FS} (h_s_ : SlR s__nb 80 30 (arE 30 cB) F s__a s__n s__c s_ s__L) {r : List (List Bool)} (hr : slices_Compact_hear_ears_hear_ears s_ = some r) :
    SH.Spec Tryz.prog 42 #[.slice s__a s__n s__c] F (s__L ++ []) fun F' L' v => ∃ (ra : Option Addr) (rn : Nat) (rc : Nat) (rL : LH), v = .slice ra rn rc ∧ L' = rL ++ [] ∧ SlR s__nb 80 30 (arE 30 cB) F' ra rn rc r rL := by
 refine spec_of_shW (args := [.slice s__a s__n s__c]) Tryz.func42 rfl Tryz.ntmps42 (Nat.le_of_ble_eq_true rfl) ?_
 intro K _ _; rw [slices_Compact_hear_ears_hear_ears] at hr
 refine shW_L (L' := s__L ++ []) (by simp) ?_
 refine wsr (oa rfl rfl (shO_nil (shW_seq (wsr (om rfl rfl ?_)))))
 refine ov ((v_lenS Tryz.underlying72 rfl).i (SlR.lenI h_s_)) rfl ?_
 refine ov (v_lssK rfl rfl) rfl ?_
 refine shO_nil ?_
 refine shW_condP rfl (fun c1 => ?_) (fun c1 => ?_)
 · have r2 := ite_t hr c1; clear hr
   refine wsr (om rfl rfl (oa rfl rfl (shO_nil (shW_ret (andThen_ret ?_)))))
   refine q_res1 Tryz.results42 (res_tmp rfl) (sr) ?_
   obtain rfl := inj1 r2
   exact ⟨_, _, _, _, rfl, rfl, h_s_⟩
 have r3 := ite_f hr c1; clear hr
 refine shW_skip ?_
 refine shW_join (fun e1 F1 L1 => slices_Compact_hear_ears_hear_ears_j1 s_ = some r ∧ F = F1 ∧ L1 = (s__L ++ []) ∧ e1.sub [(0, .slice s__a s__n s__c)]) ?_ ?_
 · refine wsr (oa rfl rfl (shO_nil ?_))
   refine shW_block ?_
   obtain ⟨g4, r5⟩ := gd_ok r3; clear r3
   refine shW_lp (fun fu2 e1 F1 L1 => ∃ (k : Int), Ctr 1 (s_.length : Int) k fu2 ∧ slices_Compact_hear_ears_hear_ears_l2 s_ fu2 k = some r ∧ F = F1 ∧ L1 = (s__L ++ []) ∧ e1.sub [(0, .slice s__a s__n s__c), (3, .int .i64 k)]) _ (m0 kr ⟨_, Ctr.start _ _, r5, rfl, rfl, (sc rfl (sc rfl (sn _)))⟩) ?_
   rintro fu2 e1 _ _ ⟨k, hk6, r8, rfl, rfl, he9⟩
   refine shW_env _ he9 ?_; clear he9
   refine shW_seq (wsr (om rfl rfl (om rfl rfl ?_)))
   refine ov ((v_lenS Tryz.underlying72 rfl).i (SlR.lenI h_s_)) rfl ?_
   refine ov (v_lssK rfl rfl) rfl ?_
   refine shO_nil ?_
   refine shW_condP rfl (fun c11 => ?_) (fun c11 => ?_)
   · obtain ⟨fu2, rfl, hk12⟩ := Ctr.succ hk6 c11
     rw [slices_Compact_hear_ears_hear_ears_l2] at r8
     refine shW_skip ?_
     refine shW_join (fun e1 F1 L1 => slices_Compact_hear_ears_hear_ears_j3 k (slices_Compact_hear_ears_hear_ears_l2 s_ fu2) = some r ∧ F = F1 ∧ L1 = (s__L ++ []) ∧ e1.sub [(0, .slice s__a s__n s__c), (3, .int .i64 k)]) ?_ ?_
     · refine shW_block ?_
       refine wsd (by kernel_rfl) (by kernel_rfl) (by kernel_rfl) ?_
       refine qm rfl rfl (qm rfl rfl ?_)
       obtain ⟨x, g13, hx14, r15⟩ := ix_ok r8; clear r8
       obtain ⟨b16, o17, c18, vs19, ha20, hs21, hle22, ⟨rfl, h25⟩, hl23, hc24⟩ := SlR.at (arE_ok (n := 30) (sz := 1) cB_ok) h_s_ (L := s__L ++ []) fP g13.1 hx14
       refine qv (v_indexO Tryz.underlying72 Tryz.sizeOf80 rfl ha20 rfl (SlR.idx h_s_ g13)) rfl ?_
       refine qv (v_loadA (cs := arr cB x) Tryz.isAgg80 Tryz.sizeOf80 rfl hs21 hle22 (extract_cells hle22 hl23 hc24)) rfl ?_
       refine qm rfl rfl (qm rfl rfl ?_)
       obtain ⟨g26, r27⟩ := gd_ok r15; clear r15
       refine qv (v_sub rfl rfl g26) rfl ?_
       obtain ⟨x2, g28, hx29, r30⟩ := ix_ok r27; clear r27
       obtain ⟨b31, o32, c33, vs34, ha35, hs36, hle37, ⟨rfl, h40⟩, hl38, hc39⟩ := SlR.at (arE_ok (n := 30) (sz := 1) cB_ok) h_s_ (L := s__L ++ []) fP g28.1 hx29
       refine qv (v_indexO Tryz.underlying72 Tryz.sizeOf80 rfl ha35 rfl (SlR.idx h_s_ g28)) rfl ?_
       refine qv (v_loadA (cs := arr cB x2) Tryz.isAgg80 Tryz.sizeOf80 rfl hs36 hle37 (extract_cells hle37 hl38 hc39)) rfl ?_
       refine qv (v_eqA (eqga_80 _ _ _ _) (eqa_80 h25 h40) rfl rfl) rfl ?_
       refine shQ_nil ?_
       refine shW_condP rfl (fun c41 => ?_) (fun c41 => ?_)
       · have r42 := ite_t r30 c41; clear r30
         refine wsr (om rfl rfl (om rfl rfl ?_))
         obtain ⟨g43, r44⟩ := gd_ok r42; clear r42
         have gv45 := SlR.gV h_s_ g43
         refine ov (OpV.eq (v' := .slice (vwA s__a s__c (Int.toNat k) 30) (s__n - Int.toNat k) (s__c - Int.toNat k)) (v_slice (l := k) (h := (s__n : Nat)) Tryz.underlying72 Tryz.sizeOf80 rfl (.inr ⟨_, rfl, rfl⟩) (.inl ⟨rfl, rfl⟩) (SlR.capV h_s_ gv45)) rfl) rfl ?_
         refine oa rfl rfl (shO_nil ?_)
         obtain ⟨s_2, k2, h48, r49⟩ := b2_ok r44; clear r44
         refine shW_join (fun e1 F1 L1 => ∃ (Lb46 : LH), F = F1 ∧ L1 = (Lb46 ++ []) ∧ e1.sub [(0, .slice s__a s__n s__c), (3, .int .i64 k2)] ∧ SlR s__nb 80 30 (arE 30 cB) F1 s__a s__n s__c s_2 Lb46) ?_ ?_
         · clear r49
           refine wsr (oa rfl rfl (shO_nil ?_))
           refine shW_block ?_
           refine shW_lp (fun fu4 e1 F1 L1 => ∃ (s_3 : List (List Bool)) (k3 : Int) (k2_2 : Int) (Lb50 : LH), slices_Compact_hear_ears_hear_ears_l4 k fu4 s_3 k3 k2_2 = some (s_2, k2) ∧ F = F1 ∧ L1 = (Lb50 ++ []) ∧ e1.sub [(0, .slice s__a s__n s__c), (3, .int .i64 k3), (4, .slice (vwA s__a s__c (Int.toNat k) 30) (s__n - Int.toNat k) (s__c - Int.toNat k)), (5, .int .i64 k2_2)] ∧ SlR s__nb 80 30 (arE 30 cB) F1 s__a s__n s__c s_3 Lb50) FU (m0 kr ⟨s_, k, 1, s__L, h48, rfl, rfl, (sc rfl (sc rfl (sc rfl (sc rfl (sn _))))), h_s_⟩) ?_
           rintro fu4 e1 _ _ ⟨s_3, k3, k2_2, Lb50, r54, rfl, rfl, he55, hz51⟩
           refine shW_env _ he55 ?_; clear he55
           rcases fu4 with _ | fu4
           · rw [slices_Compact_hear_ears_hear_ears_l4] at r54; cases r54
           rw [slices_Compact_hear_ears_hear_ears_l4] at r54
           refine shW_seq (wsr (om rfl rfl (om rfl rfl ?_)))
           refine ov ((v_lenS Tryz.underlying72 rfl).i (SlR.lenV hz51).symm) rfl ?_
           refine ov (v_lssK rfl rfl) rfl ?_
           refine shO_nil ?_
           refine shW_condP rfl (fun c56 => ?_) (fun c56 => ?_)
           · have r57 := ite_t r54 c56; clear r54
             refine shW_skip (shW_seq ?_)
             refine shW_block ?_
             refine wsd (by kernel_rfl) (by kernel_rfl) (by kernel_rfl) ?_
             refine qm rfl rfl (qm rfl rfl ?_)
             obtain ⟨x3, g58, hx59, r60⟩ := ix_ok r57; clear r57
             obtain ⟨b61, o62, c63, vs64, ha65, hs66, hle67, ⟨rfl, h70⟩, hl68, hc69⟩ := SlR.atV (arE_ok (n := 30) (sz := 1) cB_ok) hz51 (L := Lb50 ++ []) fP gv45 g58.1 hx59
             refine qv (v_indexO Tryz.underlying72 Tryz.sizeOf80 rfl ha65 rfl (SlR.idxV hz51 g58)) rfl ?_
             refine qv (v_loadA (cs := arr cB x3) Tryz.isAgg80 Tryz.sizeOf80 rfl hs66 hle67 (extract_cells hle67 hl68 hc69)) rfl ?_
             refine qm rfl rfl (qm rfl rfl ?_)
             obtain ⟨g71, r72⟩ := gd_ok r60; clear r60
             refine qv (v_sub rfl rfl g71) rfl ?_
             obtain ⟨x4, g73, hx74, r75⟩ := ix_ok r72; clear r72
             obtain ⟨b76, o77, c78, vs79, ha80, hs81, hle82, ⟨rfl, h85⟩, hl83, hc84⟩ := SlR.atV (arE_ok (n := 30) (sz := 1) cB_ok) hz51 (L := Lb50 ++ []) fP gv45 g73.1 hx74
             refine qv (v_indexO Tryz.underlying72 Tryz.sizeOf80 rfl ha80 rfl (SlR.idxV hz51 g73)) rfl ?_
             refine qv (v_loadA (cs := arr cB x4) Tryz.isAgg80 Tryz.sizeOf80 rfl hs81 hle82 (extract_cells hle82 hl83 hc84)) rfl ?_
             refine qv (v_neA (eqgna_80 _ _ _ _) (nea_80 h70 h85) rfl rfl) rfl ?_
             refine shQ_nil ?_
             refine shW_condP rfl (fun c86 => ?_) (fun c86 => ?_)
             · have r87 := ite_t r75 c86; clear r75
               refine wsr (om rfl rfl (om rfl rfl (om rfl rfl (om rfl rfl ?_))))
               obtain ⟨b88, o89, c90, vs91, ha92, hs93, hle94, ⟨rfl, h97⟩, hl95, hc96⟩ := SlR.atV (arE_ok (n := 30) (sz := 1) cB_ok) hz51 (L := Lb50 ++ []) fP gv45 g58.1 hx59
               refine ov (v_indexO Tryz.underlying72 Tryz.sizeOf80 rfl ha92 rfl (SlR.idxV hz51 g58)) rfl ?_
               refine ov (v_loadA (cs := arr cB x3) Tryz.isAgg80 Tryz.sizeOf80 rfl hs93 hle94 (extract_cells hle94 hl95 hc96)) rfl ?_
               obtain ⟨x5, g98, hx99, r100⟩ := ix_ok r87; clear r87
               obtain ⟨b101, o102, c103, vs104, ha105, hs106, hle107, ⟨rfl, h110⟩, hl108, hc109⟩ := SlR.at (arE_ok (n := 30) (sz := 1) cB_ok) hz51 (L := Lb50 ++ []) fP g98.1 hx99
               refine ov (v_indexO Tryz.underlying72 Tryz.sizeOf80 rfl ha105 rfl (SlR.idx hz51 g98)) rfl ?_
               obtain ⟨s_4, h111, r112⟩ := bv_ok r100; clear r100
               refine o_storeZ (u := x3) Tryz.sizeOf80 (arE_ok (n := 30) (sz := 1) cB_ok) rfl ha105 rfl ⟨rfl, h97⟩ (fun _ => .h) hz51 h111 g98 ?_; intro Lb113 hz114
               refine shO_nil (shW_region (om rfl rfl ?_))
               obtain ⟨g115, r116⟩ := gd_ok r112; clear r112
               refine ov (v_add rfl rfl g115) rfl ?_
               refine oa rfl rfl (shO_nil (inBlock_n (id := 3) (shW_region (om rfl rfl ?_))))
               obtain ⟨g117, r118⟩ := gd_ok r116; clear r116
               refine ov (v_add rfl rfl g117) rfl ?_
               refine oa rfl rfl (shO_nil ?_)
               exact le kr ⟨s_4, k3 + 1, k2_2 + 1, Lb113, r118, rfl, rfl, (sc rfl (sc rfl (sc rfl (sc rfl (sn _))))), hz114⟩
             have r119 := ite_f r75 c86; clear r75
             refine shW_skip (inBlock_n (id := 3) (shW_region (om rfl rfl ?_)))
             obtain ⟨g120, r121⟩ := gd_ok r119; clear r119
             refine ov (v_add rfl rfl g120) rfl ?_
             refine oa rfl rfl (shO_nil ?_)
             exact le kr ⟨s_3, k3, k2_2 + 1, Lb50, r121, rfl, rfl, (sc rfl (sc rfl (sc rfl (sc rfl (sn _))))), hz51⟩
           have r122 := ite_f r54 c56; clear r54
           refine shW_exit (andThen_exit (andThen_exit ?_))
           refine inBlock_exit ?_
           obtain ⟨rfl, rfl⟩ := inj2 r122
           exact mi kr ⟨Lb50, rfl, rfl, (sc rfl (sc rfl (sn _))), hz51⟩
         rintro e1 _ _ ⟨Lb46, rfl, rfl, he123, hz47⟩
         refine shW_env _ he123 ?_; clear he123
         refine wsr (om rfl rfl (om rfl rfl ?_))
         obtain ⟨g124, r125⟩ := gd_ok r49; clear r49
         have gv126 := SlR.gV hz47 g124
         refine ov (OpV.eq (v' := .slice (vwA s__a s__c (Int.toNat k2) 30) (s__n - Int.toNat k2) (s__c - Int.toNat k2)) (v_slice (l := k2) (h := (s__n : Nat)) Tryz.underlying72 Tryz.sizeOf80 rfl (.inr ⟨_, rfl, rfl⟩) (.inl ⟨rfl, rfl⟩) (SlR.capV hz47 gv126)) rfl) rfl ?_
         obtain ⟨s_5, h127, r128⟩ := bv_ok r125; clear r125
         refine o_clearV (z0 := List.replicate 30 false) (zs := s_5) (l := k2) rfl slt_72 (by decide) (arE_ok (n := 30) (sz := 1) cB_ok) (fun _ => ⟨rfl, rfl⟩) rfl (fun _ => .h) hz47 gv126 h127 ?_; intro Lb129 hz130
         refine nsr (om rfl rfl (om rfl rfl ?_))
         obtain ⟨g131, r132⟩ := gd_ok r128; clear r128
         obtain ⟨s_6, h133, r134⟩ := bv_ok r132; clear r132
         refine o_sliceZ (l := 0) (h := k2) (zs := s_6) rfl slt_72 (arE_ok (n := 30) (sz := 1) cB_ok) rfl (.inl ⟨rfl, rfl⟩) (.inr ⟨_, rfl, rfl⟩) (fun _ => .h) hz130 g131 h133 ?_; intro a135 n138 c136 Lb139 h137
         refine oa rfl rfl (shO_nil (shW_ret (inBlock_ret (andThen_ret (andThen_ret (inBlock_ret (andThen_ret ?_)))))))
         refine q_res1 Tryz.results42 (res_tmp rfl) (sr) ?_
         obtain rfl := inj1 r134
         exact ⟨_, _, _, _, rfl, rfl, h137⟩
       have r141 := ite_f r30 c41; clear r30
       refine shW_skip (inBlock_n (id := 1) ?_)
       exact mi kr ⟨r141, rfl, rfl, (sc rfl (sc rfl (sn _)))⟩
     rintro e1 _ _ ⟨r142, rfl, rfl, he143⟩
     refine shW_env _ he143 ?_; clear he143
     rw [slices_Compact_hear_ears_hear_ears_j3] at r142
     refine shW_region (om rfl rfl ?_)
     refine ov (v_add rfl rfl (Ctr.r64 hk6 c11 g4)) rfl ?_
     refine oa rfl rfl (shO_nil ?_)
     exact le kr ⟨_, hk12, r142, rfl, rfl, (sc rfl (sc rfl (sn _)))⟩
   obtain rfl := Ctr.zero hk6 c11
   rw [slices_Compact_hear_ears_hear_ears_l2] at r8
   refine shW_exit (andThen_exit (andThen_exit ?_))
   refine inBlock_exit ?_
   exact mi kr ⟨r8, rfl, rfl, (sc rfl (sn _))⟩
 rintro e1 _ _ ⟨r144, rfl, rfl, he145⟩
 refine shW_env _ he145 ?_; clear he145
 rw [slices_Compact_hear_ears_hear_ears_j1] at r144
 refine wsr (om rfl rfl (oa rfl rfl (shO_nil (shW_ret ?_))))
 refine q_res1 Tryz.results42 (res_tmp rfl) (sr) ?_
 obtain rfl := inj1 r144
 exact ⟨_, _, _, _, rfl, rfl, h_s_⟩
set_option maxHeartbeats 1000000 in
theorem slices_Clone_hear_ears_hear_ears_w {s__a : Option Addr} {s__c : Nat} {s_ : List (List Bool)} {F : FS} (h_s_ : RowR 30 (arE 30 cB) F s__a s__c s_) {r : List (List Bool)} (hr : slices_Clone_hear_ears_hear_ears s_ = some r) :
    SH.Spec Tryz.prog 43 #[.slice s__a s_.length s__c] F [] fun F' L' v => ∃ (ra : Option Addr) (rn : Nat) (rc : Nat) (rL : LH), v = .slice ra rn rc ∧ L' = rL ++ [] ∧ SlR 0 80 30 (arE 30 cB) F' ra rn rc r rL := by
 refine spec_of_shW (args := [.slice s__a s_.length s__c]) Tryz.func43 rfl Tryz.ntmps43 (Nat.le_of_ble_eq_true rfl) ?_
 intro K _ _; rw [slices_Clone_hear_ears_hear_ears] at hr
 refine wsr (oa rfl rfl (shO_nil (shW_seq (wsr (om rfl rfl ?_)))))
 refine ov (v_eqlNil Tryz.underlying72 rfl) rfl ?_
 refine shO_nil ?_
 refine shW_cond rfl (fun c1 => ?_) (fun c1 => ?_)
 · have r2 := nilIf_t hr (RowR.isNone h_s_ c1); clear hr
   refine wsr (oa rfl rfl (shO_nil (shW_ret (andThen_ret ?_))))
   refine q_res1 Tryz.results43 (res_tmp rfl) (sr) ?_
   obtain rfl := inj1 r2
   exact ⟨_, _, _, [], rfl, rfl, SlR.nil _ _ _ _ _⟩
 have r3 := nilIf_f hr; clear hr
 refine shW_skip (wsr ?_)
 refine o_buildSlice (cs := #[]) rfl rfl (buildSlice_none slt_72) ?_; intro b4 hb4
 refine om rfl rfl ?_
 have hz6 : SlR K.w0.heap.size 80 30 (arE 30 cB) F (some ⟨b4, 0, none⟩) 0 0 ([] : List (List Bool)) [(b4, .cells #[] 80 (0, 0))] := SlR.of_block (vss := []) (arE_ok (n := 30) (sz := 1) cB_ok) hb4 .nil rfl rfl (by simp [maxLen])
 generalize hLLb5 : ([(b4, .cells #[] 80 (0, 0))] : LH) = Lb5 at hz6
 refine shO_perm (L' := Lb5 ++ []) (by rw [← hLLb5]; exact fO) ?_
 obtain ⟨l, h8, g9, r10⟩ := ap_ok r3; clear r3
 refine o_appZ (xs := ([] : List (List Bool))) (ys := s_) (zs := l) rfl slt_72 rfl rfl (Nat.le_refl _) (fun _ => .h) hz6 (RowR.src h_s_) h8 g9 (by decide) ?_; intro a11 n15 c12 Lb13 hz14
 refine oa rfl rfl (shO_nil (shW_ret ?_))
 refine q_res1 Tryz.results43 (res_tmp rfl) (sr) ?_
 obtain rfl := inj1 r10
 exact ⟨_, _, _, _, rfl, rfl, hz14.any⟩
set_option maxHeartbeats 1000000 in
theorem hear_quarter_by_w {ears_a : Option Addr} {ears_c : Nat} {ears : List (List Bool)} {count_f : FuncId} {count_1 : Array Value} {count_2 : Array Value} {count : Int → Option Int} {stand : Int} {F : FS} (h_ears : RowR 30 (arE 30 cB) F ears_a ears_c ears) (_h_count : FnR Tryz.prog F count_f count_1 count_2 (iE .i64) (Value.int .i64) count) {r : Int} (hr : hear_quarter_by ears count stand = some r) :
    SpecV Tryz.prog 91 #[.agg #[.slice ears_a ears.length ears_c, .func (.func count_f) count_1 count_2], .int .i64 stand] F (.int .i64 r) := by
 refine spec_of_shW (args := [.agg #[.slice ears_a ears.length ears_c, .func (.func count_f) count_1 count_2], .int .i64 stand]) Tryz.func91 rfl Tryz.ntmps91 (Nat.le_of_ble_eq_true rfl) ?_
 intro K _ _; rw [hear_quarter_by] at hr
 refine wsr ?_
 refine o_box rfl rfl ?_; intro b1 hb1
 refine oa rfl rfl (nsr (oa rfl rfl (shO_nil ?_)))
 obtain ⟨set_, h2, r3⟩ := b1_ok hr; clear hr
 refine shW_join (fun e1 F1 L1 => F = F1 ∧ L1 = [] ∧ e1.sub [(5, .int .i64 set_)]) ?_ ?_
 · clear r3
   refine wsr ?_
   refine ov (v_fieldAddr fa_75_0 rfl) rfl ?_
   refine ov (v_load Tryz.isAgg72 rfl (Has.own 0 rfl) rfl) rfl ?_
   refine ov (v_lenS Tryz.underlying72 rfl) rfl ?_
   refine om rfl rfl (shO_nil ?_)
   refine shW_block ?_
   refine kW kn ?_
   refine shW_lp (fun fu1 e1 F1 L1 => ∃ (tl : List (List Bool)) (k : Int), tl.length = fu1 ∧ Lst ears k tl ∧ ∃ (set_2 : Int), hear_quarter_by_l1 stand tl k set_2 = some set_ ∧ F = F1 ∧ L1 = [] ∧ e1.sub [(1, .int .i64 stand), (5, .int .i64 set_2), (9, .slice ears_a ears.length ears_c), (10, .int .i64 (ears.length : Int)), (11, .int .i64 k)]) _ (m0 kr ⟨_, _, rfl, Lst.start _, 0, h2, rfl, rfl, (sc rfl (sc rfl (sc rfl (sc rfl (sc rfl (sn _))))))⟩) ?_
   rintro fu1 e1 _ _ ⟨tl, k, hn5, hk4, set_2, r6, rfl, rfl, he7⟩
   refine shW_env _ he7 ?_; clear he7
   refine wsr ?_
   refine ov (v_lssK rfl rfl) rfl ?_
   refine shO_nil (shW_seq ?_)
   refine shW_condP rfl (fun c9 => ?_) (fun c9 => ?_)
   · obtain ⟨x, tl2, rfl, hx11, g12, hk10⟩ := Lst.succ hk4 c9
     rw [hear_quarter_by_l1] at r6
     refine shW_skip (shW_seq ?_)
     refine shW_block ?_
     refine wsr (om rfl rfl ?_)
     obtain ⟨b13, o14, c15, vs16, ha17, hs18, hle19, ⟨rfl, h22⟩, hl20, hc21⟩ := RowR.at (arE_ok (n := 30) (sz := 1) cB_ok) h_ears ([]) g12.1 hx11
     refine ov (v_indexO Tryz.underlying72 Tryz.sizeOf80 rfl ha17 rfl g12) rfl ?_
     refine ov (v_loadA (cs := arr cB x) Tryz.isAgg80 Tryz.sizeOf80 rfl hs18 hle19 (extract_cells hle19 hl20 hc21)) rfl ?_
     refine o_alloc rfl Tryz.zeroValue80 ?_; intro b23 hb23
     refine shO_L (L' := [(b23, .cells (arr cB (List.replicate 30 false)) 80 (0, 0))]) rfl ?_
     refine oa rfl rfl ?_
     refine o_storeW (i := 0) Tryz.sizeOf80 rfl rfl rfl (arr_sz cB_ok List.length_replicate) (arr_sz cB_ok h22) (arr_one cB_ok) ?_
     refine shO_L (L' := [(b23, .cells (arr cB x) 80 (0, 0))]) rfl ?_
     refine nsr (om rfl rfl ?_)
     obtain ⟨x2, g24, hx25, r26⟩ := ix_ok r6; clear r6
     have hc27 := arr_at cB_ok h22 hx25
     refine ov (v_indexA Tryz.underlying80 Tryz.sizeOf4 rfl rfl (arr_lt h22 g24)) rfl ?_
     refine ov (v_load Tryz.isAgg4 rfl (Has.own 0 rfl) ((hc27).2.2 0 (by decide))) rfl ?_
     refine shO_nil ?_
     refine shW_cond rfl (fun c28 => ?_) (fun c28 => ?_)
     · have r29 := bt r26 c28; clear r26
       refine shW_region (om rfl rfl (om rfl rfl ?_))
       obtain ⟨g30, r31⟩ := gd_ok r29; clear r29
       refine ov (v_shl rfl rfl g30) rfl ?_
       refine ov (v_or rfl rfl) rfl ?_
       refine oa rfl rfl (shO_nil (inBlock_n (id := 1) (shW_region ?_)))
       refine ov (v_add rfl rfl (Lst.r64 hk4 c9 (RowR.lt h_ears))) rfl ?_
       refine om rfl rfl (shO_nil ?_)
       subst hn5; exact le kn ⟨_, _, rfl, hk10, bor set_2 (shl 1 k), r31, rfl, rfl, (sc rfl (sc rfl (sc rfl (sc rfl (sc rfl (sn _))))))⟩
     have r32 := bf r26 c28; clear r26
     refine shW_skip (inBlock_n (id := 1) (shW_region ?_))
     refine ov (v_add rfl rfl (Lst.r64 hk4 c9 (RowR.lt h_ears))) rfl ?_
     refine om rfl rfl (shO_nil ?_)
     subst hn5; exact le kn ⟨_, _, rfl, hk10, set_2, r32, rfl, rfl, (sc rfl (sc rfl (sc rfl (sc rfl (sc rfl (sn _))))))⟩
   obtain rfl := Lst.zero hk4 c9
   rw [hear_quarter_by_l1] at r6
   refine shW_exit (andThen_exit (andThen_exit ?_))
   refine inBlock_exit ?_
   obtain rfl := inj1 r6
   exact mi kr ⟨rfl, rfl, (sc rfl (sn _))⟩
 rintro e1 _ _ ⟨rfl, rfl, he33⟩
 refine shW_env _ he33 ?_; clear he33
 refine wsr (om rfl rfl (oa rfl rfl (shO_nil (shW_ret ?_))))
 refine q_res1 Tryz.results91 (res_tmp rfl) (sr) ?_
 obtain rfl := inj1 r3
 exact rfl
set_option maxHeartbeats 1000000 in
theorem hear_least_w {n : Int} {more_a : Option Addr} {more_c : Nat} {more : List Int} {F : FS} (h_more : RowR 1 (iE .i64) F more_a more_c more) {r : Int} (hr : hear_least n more = some r) :
    SpecV Tryz.prog 92 #[.int .i64 n, .slice more_a more.length more_c] F (.int .i64 r) := by
 refine spec_of_shW (args := [.int .i64 n, .slice more_a more.length more_c]) Tryz.func92 rfl Tryz.ntmps92 (Nat.le_of_ble_eq_true rfl) ?_
 intro K _ _; rw [hear_least] at hr
 refine wsr (oa rfl rfl (shO_nil ?_))
 obtain ⟨n2, h1, r2⟩ := b1_ok hr; clear hr
 refine shW_join (fun e1 F1 L1 => F = F1 ∧ L1 = [] ∧ e1.sub [(0, .int .i64 n2)]) ?_ ?_
 · clear r2
   refine wsr (om rfl rfl ?_)
   refine ov (v_lenS Tryz.underlying28 rfl) rfl ?_
   refine om rfl rfl (shO_nil ?_)
   refine shW_block ?_
   refine shW_lp (fun fu1 e1 F1 L1 => ∃ (tl : List Int) (k : Int), tl.length = fu1 ∧ Lst more k tl ∧ ∃ (n3 : Int), hear_least_l1 tl n3 = some n2 ∧ F = F1 ∧ L1 = [] ∧ e1.sub [(0, .int .i64 n3), (7, .slice more_a more.length more_c), (8, .int .i64 (more.length : Int)), (9, .int .i64 k)]) _ (m0 kr ⟨_, _, rfl, Lst.start _, n, h1, rfl, rfl, (sc rfl (sc rfl (sc rfl (sc rfl (sn _)))))⟩) ?_
   rintro fu1 e1 _ _ ⟨tl, k, hn4, hk3, n3, r5, rfl, rfl, he6⟩
   refine shW_env _ he6 ?_; clear he6
   refine wsr ?_
   refine ov (v_lssK rfl rfl) rfl ?_
   refine shO_nil (shW_seq ?_)
   refine shW_condP rfl (fun c8 => ?_) (fun c8 => ?_)
   · obtain ⟨x, tl2, rfl, hx10, g11, hk9⟩ := Lst.succ hk3 c8
     rw [hear_least_l1] at r5
     refine shW_skip (shW_seq ?_)
     refine shW_block ?_
     refine wsr ?_
     obtain ⟨b12, o13, c14, vs15, ha16, hs17, hle18, rfl, hl19, hc20⟩ := RowR.at (iE_ok _) h_more ([]) g11.1 hx10
     refine ov (v_indexO Tryz.underlying28 Tryz.sizeOf3 rfl ha16 rfl g11) rfl ?_
     refine ov (v_load Tryz.isAgg3 rfl hs17 (hc20 0 (by decide))) rfl ?_
     refine oa rfl rfl (shO_nil (shW_region (om rfl rfl (om rfl rfl ?_))))
     refine ov (v_min2 rfl rfl) rfl ?_
     refine oa rfl rfl (shO_nil (inBlock_n (id := 1) (shW_region ?_)))
     refine ov (v_add rfl rfl (Lst.r64 hk3 c8 (RowR.lt h_more))) rfl ?_
     refine om rfl rfl (shO_nil ?_)
     subst hn4; exact le kr ⟨_, _, rfl, hk9, if x < n3 then x else n3, r5, rfl, rfl, (sc rfl (sc rfl (sc rfl (sc rfl (sn _)))))⟩
   obtain rfl := Lst.zero hk3 c8
   rw [hear_least_l1] at r5
   refine shW_exit (andThen_exit (andThen_exit ?_))
   refine inBlock_exit ?_
   obtain rfl := inj1 r5
   exact mi kr ⟨rfl, rfl, (sc rfl (sn _))⟩
 rintro e1 _ _ ⟨rfl, rfl, he21⟩
 refine shW_env _ he21 ?_; clear he21
 refine wsr (om rfl rfl (oa rfl rfl (shO_nil (shW_ret ?_))))
 refine q_res1 Tryz.results92 (res_tmp rfl) (sr) ?_
 obtain rfl := inj1 r2
 exact rfl
set_option maxHeartbeats 1000000 in
theorem hear_quarter_chosen_1B_w {rec_ : Int → Int → Int → (List (List Bool)) → (Int → Option Int) → (List ((Int × Int × Int) × Int)) → Option (Int × (List ((Int × Int × Int) × Int)))} (hrec : ∀ {from_ : Int} {left_ : Int} {set_ : Int} {b_q : Nat} {ears_a : Option Addr} {ears_c : Nat} {ears : List (List Bool)} {count_f : FuncId} {count_1 : Array Value} {count_2 : Array Value} {count : Int → Option Int} {mb_q : Nat × Nat} {b_met : Nat} {met_b : Nat} {met_es : Array MapEntry} {met_cl : Nat} {met : List ((Int × Int × Int) × Int)} {mb_met : Nat × Nat} {b_on : Nat} {mb_on : Nat × Nat} {F : FS} (_ : F b_q = some (.cells #[.slice ears_a ears.length ears_c, .func (.func count_f) count_1 count_2] 75 mb_q)) (_ : RowR 30 (arE 30 cB) F ears_a ears_c ears) (_ : FnR Tryz.prog F count_f count_1 count_2 (iE .i64) (Value.int .i64) count) (_ : F b_met = some (.cells #[.map (some met_b)] 126 mb_met)) (_ : MapR (vA (cP (cI .i64) (cP (cI .i64) (cI .i64)))) (Value.int .i64) met_es met) (_ : F b_on = some (.cells (#[.func (.func 90) #[] #[.pointer (some ⟨b_q, 0, none⟩), .pointer (some ⟨b_met, 0, none⟩), .pointer (some ⟨b_on, 0, none⟩)]]) 127 mb_on)) {r : Int} {r2 : List ((Int × Int × Int) × Int)} , rec_ from_ left_ set_ ears count met = some (r, r2) → SH.Spec Tryz.prog 90 #[.agg #[.int .i64 from_, .int .i64 left_, .int .i64 set_], .pointer (some ⟨b_q, 0, none⟩), .pointer (some ⟨b_met, 0, none⟩), .pointer (some ⟨b_on, 0, none⟩)] F [(met_b, .map met_es met_cl)] fun _ L' v => ∃ (met_es2 : Array MapEntry) (met_cl2 : Nat), v = .int .i64 r ∧ L' = [(met_b, .map met_es2 met_cl2)] ∧ MapR (vA (cP (cI .i64) (cP (cI .i64) (cI .i64)))) (Value.int .i64) met_es2 r2) {from_ : Int} {left_ : Int} {set_ : Int} {b_q : Nat} {ears_a : Option Addr} {ears_c : Nat} {ears : List (List Bool)} {count_f : FuncId} {count_1 : Array Value} {count_2 : Array Value} {count : Int → Option Int} {mb_q : Nat × Nat} {b_met : Nat} {met_b : Nat} {met_es : Array MapEntry} {met_cl : Nat} {met : List ((Int × Int × Int) × Int)} {mb_met : Nat × Nat} {b_on : Nat} {mb_on : Nat × Nat} {F : FS} (hb_q : F b_q = some (.cells #[.slice ears_a ears.length ears_c, .func (.func count_f) count_1 count_2] 75 mb_q)) (h_ears : RowR 30 (arE 30 cB) F ears_a ears_c ears) (h_count : FnR Tryz.prog F count_f count_1 count_2 (iE .i64) (Value.int .i64) count) (hb_met : F b_met = some (.cells #[.map (some met_b)] 126 mb_met)) (h_met : MapR (vA (cP (cI .i64) (cP (cI .i64) (cI .i64)))) (Value.int .i64) met_es met) (hb_on : F b_on = some (.cells (#[.func (.func 90) #[] #[.pointer (some ⟨b_q, 0, none⟩), .pointer (some ⟨b_met, 0, none⟩), .pointer (some ⟨b_on, 0, none⟩)]]) 127 mb_on)) {r : Int} {r2 : List ((Int × Int × Int) × Int)} (hr : hear_quarter_chosen_1B rec_ from_ left_ set_ ears count met = some (r, r2)) :
    SH.Spec Tryz.prog 90 #[.agg #[.int .i64 from_, .int .i64 left_, .int .i64 set_], .pointer (some ⟨b_q, 0, none⟩), .pointer (some ⟨b_met, 0, none⟩), .pointer (some ⟨b_on, 0, none⟩)] F [(met_b, .map met_es met_cl)] fun _ L' v => ∃ (met_es2 : Array MapEntry) (met_cl2 : Nat), v = .int .i64 r ∧ L' = [(met_b, .map met_es2 met_cl2)] ∧ MapR (vA (cP (cI .i64) (cP (cI .i64) (cI .i64)))) (Value.int .i64) met_es2 r2 := by
 refine spec_of_shW (args := [.agg #[.int .i64 from_, .int .i64 left_, .int .i64 set_], .pointer (some ⟨b_q, 0, none⟩), .pointer (some ⟨b_met, 0, none⟩), .pointer (some ⟨b_on, 0, none⟩)]) Tryz.func90 rfl Tryz.ntmps90 (Nat.le_of_ble_eq_true rfl) ?_
 intro K _ _; rw [hear_quarter_chosen_1B] at hr
 refine wsr ?_
 refine o_box rfl rfl ?_; intro b1 hb1
 refine oa rfl rfl (shO_nil (shW_seq ?_))
 obtain ⟨k, h2, r3⟩ := b1_ok hr; clear hr
 refine shW_join (fun e1 F1 L1 => F = F1 ∧ L1 = [(b1, .cells #[.int .i64 from_, .int .i64 left_, .int .i64 set_] 129 (0, 0)), (met_b, .map met_es met_cl)] ∧ e1.sub [(1, .pointer (some ⟨b_q, 0, none⟩)), (2, .pointer (some ⟨b_met, 0, none⟩)), (3, .pointer (some ⟨b_on, 0, none⟩)), (4, .pointer (some ⟨b1, 0, none⟩)), (17, .bool k)]) ?_ ?_
 · clear r3
   refine shW_region ?_
   refine ov (v_fieldAddr fa_129_1 rfl) rfl ?_
   refine ov (v_load Tryz.isAgg3 rfl (Has.own 0 rfl) rfl) rfl ?_
   refine ov (v_eql rfl rfl) rfl ?_
   refine om rfl rfl ?_
   by_cases c4 : left_ = 0
   · have r5 := ite_t h2 c4; clear h2
     refine shO_off (b' := true) 13 rfl (Env.isT rfl c4) rfl rfl (shO_off (b' := true) 13 rfl (Env.isT rfl c4) rfl rfl (shO_off (b' := true) 13 rfl (Env.isT rfl c4) rfl rfl ?_))
     refine ov (v_pick_t (evD_true rfl c4) rfl) rfl ?_
     refine shO_nil ?_
     obtain rfl := inj1 r5
     exact mi kr ⟨rfl, rfl, (sc rfl (sc rfl (sc rfl (sc rfl (sc rfl (sn _))))))⟩
   have r6 := ite_f h2 c4; clear h2
   refine shO_on (b := false) 13 rfl (Env.isF rfl c4) ?_
   refine ov (v_fieldAddr fa_129_0 rfl) rfl ?_
   refine shO_on (b := false) 13 rfl (Env.isF rfl c4) ?_
   refine ov (v_load Tryz.isAgg3 rfl (Has.own 0 rfl) rfl) rfl ?_
   refine shO_on (b := false) 13 rfl (Env.isF rfl c4) ?_
   refine ov (v_eql rfl rfl) rfl ?_
   refine ov (v_pick_f (evD_false rfl c4) rfl) rfl ?_
   refine shO_nil ?_
   obtain rfl := inj1 r6
   exact mi kr ⟨rfl, rfl, (sc rfl (sc rfl (sc rfl (sc rfl (sc rfl (sn _))))))⟩
 rintro e1 _ _ ⟨rfl, rfl, he7⟩
 refine shW_env _ he7 ?_; clear he7
 refine shW_cond rfl (fun c8 => ?_) (fun c8 => ?_)
 · have r9 := bt r3 c8; clear r3
   refine wsr ?_
   refine ov (v_fieldAddr fa_75_1 rfl) rfl ?_
   refine ov (v_load Tryz.isAgg73 rfl (Has.frozen hb_q) rfl) rfl ?_
   refine ov (v_fieldAddr fa_129_2 rfl) rfl ?_
   refine ov (v_load Tryz.isAgg3 rfl (Has.own 0 rfl) rfl) rfl ?_
   obtain ⟨n, h10, r11⟩ := b1_ok r9; clear r9
   refine o_callV rfl h_count.1 rfl rfl rfl (h_count.2 _ (FExt.refl _) _ _ _ rfl h10) ?_
   refine oa rfl rfl (shO_nil ?_)
   refine kW (kd kr) ?_
   refine shW_ret (andThen_ret ?_)
   refine q_res1 Tryz.results90 (res_tmp rfl) (sr) ?_
   obtain ⟨rfl, rfl⟩ := inj2 r11
   exact ⟨_, _, rfl, rfl, h_met⟩
 have r12 := bf r3 c8; clear r3
 refine shW_skip (shW_seq (wsr ?_))
 refine ov (v_load Tryz.isAgg126 rfl (Has.frozen hb_met) rfl) rfl ?_
 refine ov (v_loadA (cs := #[.int .i64 from_, .int .i64 left_, .int .i64 set_]) Tryz.isAgg129 Tryz.sizeOf129 rfl (Has.own 0 rfl) (Nat.le_of_ble_eq_true rfl) rfl) rfl ?_
 refine ov (OpV.eq (v' := .tuple #[.int .i64 ((mget met (from_, left_, set_)).getD 0), .bool ((mget met (from_, left_, set_)).isSome)]) (v_lookS2 (k := (from_, left_, set_)) (z0 := 0) rfl Tryz.underlying126 key_129 Tryz.zeroValue3 rfl rfl (HasM.own 1 rfl) (show MapR (vA (cP (cI .i64) (cP (cI .i64) (cI .i64)))) (Value.int .i64) met_es (met : List ((Int × Int × Int) × Int)) from h_met)) rfl) rfl ?_
 refine om rfl rfl (ox rfl rfl rfl (ox rfl rfl rfl ?_))
 obtain ⟨n2, h13, r14⟩ := bv_ok r12; clear r12
 refine ov ((v_assign rfl).i h13) rfl ?_
 refine oa rfl rfl (nsr (om rfl rfl (shO_nil ?_)))
 refine shW_cond rfl (fun c15 => ?_) (fun c15 => ?_)
 · have r16 := bt r14 c15; clear r14
   refine wsr (om rfl rfl (oa rfl rfl (shO_nil ?_)))
   refine kW (kd kr) ?_
   refine shW_ret (andThen_ret ?_)
   refine q_res1 Tryz.results90 (res_tmp rfl) (sr) ?_
   obtain ⟨rfl, rfl⟩ := inj2 r16
   exact ⟨_, _, rfl, rfl, h_met⟩
 have r17 := bf r14 c15; clear r14
 refine shW_skip (wsr ?_)
 refine ov (v_load Tryz.isAgg127 rfl (Has.frozen hb_on) rfl) rfl ?_
 refine ov (v_fieldAddr fa_129_0 rfl) rfl ?_
 refine ov (v_load Tryz.isAgg3 rfl (Has.own 0 rfl) rfl) rfl ?_
 obtain ⟨g18, r19⟩ := gd_ok r17; clear r17
 refine ov (v_add rfl rfl g18) rfl ?_
 refine ov (v_fieldAddr fa_129_1 rfl) rfl ?_
 refine ov (v_load Tryz.isAgg3 rfl (Has.own 0 rfl) rfl) rfl ?_
 refine ov (v_fieldAddr fa_129_2 rfl) rfl ?_
 refine ov (v_load Tryz.isAgg3 rfl (Has.own 0 rfl) rfl) rfl ?_
 refine ov (v_build (v := .agg #[.int .i64 (from_ + 1), .int .i64 left_, .int .i64 set_]) rfl (by intro w; kernel_rfl)) rfl ?_
 obtain ⟨n3, met2, h20, r21⟩ := b2_ok r19; clear r19
 refine o_callG (Lb := [(met_b, .map met_es met_cl)]) (Lr := [(b1, .cells #[.int .i64 from_, .int .i64 left_, .int .i64 set_] 129 (0, 0))]) rfl Tryz.call90 rfl rfl rfl (((fC fO).trans (pC pR))) (hrec hb_q h_ears h_count hb_met h_met hb_on h20) ?_; rintro _ F22 _ hF23 hd25 hn24 ⟨es26, cl27, rfl, rfl, hR28⟩
 replace h_ears := h_ears.mono (arE_ok (n := 30) (sz := 1) cB_ok) hF23
 replace h_count := h_count.mono hF23
 replace hb_q := hF23 _ _ hb_q
 replace hb_met := hF23 _ _ hb_met
 replace hb_on := hF23 _ _ hb_on
 refine shO_L (lb (ln rfl)) ?_
 refine oa rfl rfl (shO_nil ?_)
 obtain ⟨m, n4, h32, r33⟩ := b2_ok r21; clear r21
 refine shW_join (fun e1 F1 L1 => ∃ (es29 : Array MapEntry) (cl30 : Nat), FExt F22 F1 ∧ L1 = [(met_b, .map es29 cl30), (b1, .cells #[.int .i64 from_, .int .i64 left_, .int .i64 set_] 129 (0, 0))] ∧ e1.sub [(2, .pointer (some ⟨b_met, 0, none⟩)), (4, .pointer (some ⟨b1, 0, none⟩)), (8, .int .i64 n4)] ∧ MapR (vA (cP (cI .i64) (cP (cI .i64) (cI .i64)))) (Value.int .i64) es29 m) ?_ ?_
 · clear r33
   refine wsd (by kernel_rfl) (by kernel_rfl) (by kernel_rfl) ?_
   refine qv (v_fieldAddr fa_129_2 rfl) rfl ?_
   refine qv (v_load Tryz.isAgg3 rfl (Has.own 1 rfl) rfl) rfl ?_
   refine qv (v_loadA (cs := #[.slice ears_a ears.length ears_c, .func (.func count_f) count_1 count_2]) Tryz.isAgg75 Tryz.sizeOf75 rfl (Has.frozen hb_q) (Nat.le_of_ble_eq_true rfl) rfl) rfl ?_
   refine qv (v_fieldAddr fa_129_0 rfl) rfl ?_
   refine qv (v_load Tryz.isAgg3 rfl (Has.own 1 rfl) rfl) rfl ?_
   obtain ⟨n5, h34, r35⟩ := b1_ok h32; clear h32
   refine shQ_callV rfl Tryz.call91 rfl rfl rfl (hear_quarter_by_w h_ears h_count h34) ?_
   refine qv (v_or rfl rfl) rfl ?_
   refine qa rfl rfl (qsr (om rfl rfl ?_))
   refine ov (v_fieldAddr fa_129_2 rfl) rfl ?_
   refine ov (v_load Tryz.isAgg3 rfl (Has.own 1 rfl) rfl) rfl ?_
   refine ov (v_neq rfl rfl) rfl ?_
   refine shO_nil ?_
   refine shW_condP rfl (fun c36 => ?_) (fun c36 => ?_)
   · have r37 := ite_t r35 c36; clear r35
     refine shW_region (om rfl rfl ?_)
     refine ov (v_load Tryz.isAgg127 rfl (Has.frozen hb_on) rfl) rfl ?_
     refine ov (v_fieldAddr fa_129_0 rfl) rfl ?_
     refine ov (v_load Tryz.isAgg3 rfl (Has.own 1 rfl) rfl) rfl ?_
     obtain ⟨g38, r39⟩ := gd_ok r37; clear r37
     refine ov (v_add rfl rfl g38) rfl ?_
     refine ov (v_fieldAddr fa_129_1 rfl) rfl ?_
     refine ov (v_load Tryz.isAgg3 rfl (Has.own 1 rfl) rfl) rfl ?_
     obtain ⟨g40, r41⟩ := gd_ok r39; clear r39
     refine ov (v_sub rfl rfl g40) rfl ?_
     refine om rfl rfl ?_
     refine ov (v_build (v := .agg #[.int .i64 (from_ + 1), .int .i64 (left_ - 1), .int .i64 (bor set_ n5)]) rfl (by intro w; kernel_rfl)) rfl ?_
     obtain ⟨n6, met3, h42, r43⟩ := b2_ok r41; clear r41
     refine o_callG (Lb := [(met_b, .map es26 cl27)]) (Lr := [(b1, .cells #[.int .i64 from_, .int .i64 left_, .int .i64 set_] 129 (0, 0))]) rfl Tryz.call90 rfl rfl rfl (pR) (hrec hb_q h_ears h_count hb_met hR28 hb_on h42) ?_; rintro _ F44 _ hF45 hd47 hn46 ⟨es48, cl49, rfl, rfl, hR50⟩
     refine shO_L (lb (ln rfl)) ?_
     refine ov (v_max2 rfl rfl) rfl ?_
     refine oa rfl rfl (shO_nil ?_)
     obtain ⟨rfl, rfl⟩ := inj2 r43
     exact mi kr ⟨es48, cl49, hF45, rfl, (sc rfl (sc rfl (sc rfl (sn _)))), hR50⟩
   have r51 := ite_f r35 c36; clear r35
   refine shW_skip ?_
   obtain ⟨rfl, rfl⟩ := inj2 r51
   exact mi kr ⟨es26, cl27, FExt.refl _, rfl, (sc rfl (sc rfl (sc rfl (sn _)))), hR28⟩
 rintro e1 F53 _ ⟨es29, cl30, hF54, rfl, he52, hR31⟩
 refine shW_env _ he52 ?_; clear he52
 replace hb_met := hF54 _ _ hb_met
 refine wsr ?_
 refine ov (v_load Tryz.isAgg126 rfl (Has.frozen hb_met) rfl) rfl ?_
 refine ov (v_loadA (cs := #[.int .i64 from_, .int .i64 left_, .int .i64 set_]) Tryz.isAgg129 Tryz.sizeOf129 rfl (Has.own 1 rfl) (Nat.le_of_ble_eq_true rfl) rfl) rfl ?_
 refine om rfl rfl ?_
 refine o_mapUpdate (i := 0) (k := (from_, left_, set_)) (v := n4) Tryz.underlying126 key_129 rfl rfl rfl rfl (show MapR (vA (cP (cI .i64) (cP (cI .i64) (cI .i64)))) (Value.int .i64) es29 (m : List ((Int × Int × Int) × Int)) from hR31) ?_; intro es55 cl56 hR57
 obtain ⟨met4, h58, r59⟩ := bv_ok r33; clear r33
 rw [← h58] at hR57
 refine shO_L (L' := [(met_b, .map es55 cl56), (b1, .cells #[.int .i64 from_, .int .i64 left_, .int .i64 set_] 129 (0, 0))]) rfl ?_
 refine nsr (om rfl rfl (oa rfl rfl (shO_nil ?_)))
 refine kW (kc kn) ?_
 refine shW_ret ?_
 refine q_res1 Tryz.results90 (res_tmp rfl) (sr) ?_
 obtain ⟨rfl, rfl⟩ := inj2 r59
 exact ⟨_, _, rfl, rfl, hR57⟩
set_option maxHeartbeats 1000000 in
theorem hear_quarter_chosen_1_w : ∀ (fu : Nat) {from_ : Int} {left_ : Int} {set_ : Int} {b_q : Nat} {ears_a : Option Addr} {ears_c : Nat} {ears : List (List Bool)} {count_f : FuncId} {count_1 : Array Value} {count_2 : Array Value} {count : Int → Option Int} {mb_q : Nat × Nat} {b_met : Nat} {met_b : Nat} {met_es : Array MapEntry} {met_cl : Nat} {met : List ((Int × Int × Int) × Int)} {mb_met : Nat × Nat} {b_on : Nat} {mb_on : Nat × Nat} {F : FS} (_ : F b_q = some (.cells #[.slice ears_a ears.length ears_c, .func (.func count_f) count_1 count_2] 75 mb_q)) (_ : RowR 30 (arE 30 cB) F ears_a ears_c ears) (_ : FnR Tryz.prog F count_f count_1 count_2 (iE .i64) (Value.int .i64) count) (_ : F b_met = some (.cells #[.map (some met_b)] 126 mb_met)) (_ : MapR (vA (cP (cI .i64) (cP (cI .i64) (cI .i64)))) (Value.int .i64) met_es met) (_ : F b_on = some (.cells (#[.func (.func 90) #[] #[.pointer (some ⟨b_q, 0, none⟩), .pointer (some ⟨b_met, 0, none⟩), .pointer (some ⟨b_on, 0, none⟩)]]) 127 mb_on)) {r : Int} {r2 : List ((Int × Int × Int) × Int)} , hear_quarter_chosen_1 fu from_ left_ set_ ears count met = some (r, r2) → SH.Spec Tryz.prog 90 #[.agg #[.int .i64 from_, .int .i64 left_, .int .i64 set_], .pointer (some ⟨b_q, 0, none⟩), .pointer (some ⟨b_met, 0, none⟩), .pointer (some ⟨b_on, 0, none⟩)] F [(met_b, .map met_es met_cl)] fun _ L' v => ∃ (met_es2 : Array MapEntry) (met_cl2 : Nat), v = .int .i64 r ∧ L' = [(met_b, .map met_es2 met_cl2)] ∧ MapR (vA (cP (cI .i64) (cP (cI .i64) (cI .i64)))) (Value.int .i64) met_es2 r2 := by
  intro fu
  induction fu with
  | zero => intros; rename_i hr; rw [hear_quarter_chosen_1] at hr; cases hr
  | succ fu ih => intros; rename_i hr; rw [hear_quarter_chosen_1] at hr; exact hear_quarter_chosen_1B_w ih (by assumption) (by assumption) (by assumption) (by assumption) (by assumption) (by assumption) hr
set_option maxHeartbeats 1000000 in
theorem hear_quarter_chosen_w {ears_a : Option Addr} {ears_c : Nat} {ears : List (List Bool)} {count_f : FuncId} {count_1 : Array Value} {count_2 : Array Value} {count : Int → Option Int} {most : Int} {F : FS} (h_ears : RowR 30 (arE 30 cB) F ears_a ears_c ears) (h_count : FnR Tryz.prog F count_f count_1 count_2 (iE .i64) (Value.int .i64) count) {r : List Int} {r2 : Int} (hr : hear_quarter_chosen ears count most = some (r, r2)) :
    SH.Spec Tryz.prog 44 #[.agg #[.slice ears_a ears.length ears_c, .func (.func count_f) count_1 count_2], .int .i64 most] F [] fun F' L' v => ∃ (ra : Option Addr) (rn : Nat) (rc : Nat) (rL : LH), v = .tuple #[.slice ra rn rc, .int .i64 r2] ∧ L' = rL ++ [] ∧ SlR 0 3 1 (iE .i64) F' ra rn rc r rL := by
 refine spec_of_shW (args := [.agg #[.slice ears_a ears.length ears_c, .func (.func count_f) count_1 count_2], .int .i64 most]) Tryz.func44 rfl Tryz.ntmps44 (Nat.le_of_ble_eq_true rfl) ?_
 intro K _ _; rw [hear_quarter_chosen] at hr
 refine wsr ?_
 refine o_box rfl rfl ?_; intro b1 hb1
 refine oa rfl rfl (oa rfl rfl (nsr ?_))
 refine o_makeMap rfl ?_; intro b2 hb2
 refine o_alloc rfl Tryz.zeroValue126 ?_; intro b3 hb3
 refine o_store (i := 0) Tryz.sizeOf126 rfl rfl rfl rfl (Nat.le_of_ble_eq_true rfl) ?_
 refine shO_L (L' := [(b3, .cells #[.map (some b2)] 126 (0, 0)), (b2, .map #[] 0), (b1, .cells #[.slice ears_a ears.length ears_c, .func (.func count_f) count_1 count_2] 75 (0, 0))]) rfl ?_
 refine nsr ?_
 refine o_alloc rfl Tryz.zeroValue127 ?_; intro b4 hb4
 refine nsr ?_
 refine ov (v_makeFunc rfl rfl) rfl ?_
 refine o_store (i := 0) Tryz.sizeOf127 rfl rfl rfl rfl (Nat.le_of_ble_eq_true rfl) ?_
 refine shO_L (L' := [(b4, .cells (#[.func (.func 90) #[] #[.pointer (some ⟨b1, 0, none⟩), .pointer (some ⟨b3, 0, none⟩), .pointer (some ⟨b4, 0, none⟩)]]) 127 (0, 0)), (b3, .cells #[.map (some b2)] 126 (0, 0)), (b2, .map #[] 0), (b1, .cells #[.slice ears_a ears.length ears_c, .func (.func count_f) count_1 count_2] 75 (0, 0))]) rfl ?_
 refine nsr (om rfl rfl ?_)
 refine ov (v_fieldAddr fa_75_0 rfl) rfl ?_
 refine ov (v_load Tryz.isAgg72 rfl (Has.own 3 rfl) rfl) rfl ?_
 refine ov (v_lenS Tryz.underlying72 rfl) rfl ?_
 refine o_buildSlice (cs := #[.int .i64 (ears.length : Int)]) rfl rfl (buildSlice_all slt_28 [.int .i64 (ears.length : Int)] rfl (by decide) (by simp [Value.cells]) (by decide)) ?_; intro b5 hb5
 refine shO_freeze 0 rfl hb5 ?_; intro F6 hF7 hz8
 refine shO_L (L' := [(b4, .cells (#[.func (.func 90) #[] #[.pointer (some ⟨b1, 0, none⟩), .pointer (some ⟨b3, 0, none⟩), .pointer (some ⟨b4, 0, none⟩)]]) 127 (0, 0)), (b3, .cells #[.map (some b2)] 126 (0, 0)), (b2, .map #[] 0), (b1, .cells #[.slice ears_a ears.length ears_c, .func (.func count_f) count_1 count_2] 75 (0, 0))]) rfl ?_
 replace h_ears := h_ears.mono (arE_ok (n := 30) (sz := 1) cB_ok) hF7
 replace h_count := h_count.mono hF7
 have h9 : RowR 1 (iE .i64) F6 (some ⟨b5, 0, none⟩) 1 [(ears.length : Int)] := RowR.of_block (iE_ok _) (vss := [[.int .i64 (ears.length : Int)]]) (xs := [(ears.length : Int)]) hz8 (.cons rfl .nil) rfl (by simp [maxLen])
 obtain ⟨n, h10, r11⟩ := b1_ok hr; clear hr
 refine o_callV rfl Tryz.call92 rfl rfl rfl (hear_least_w h9 h10) ?_
 refine oa rfl rfl (nsr ?_)
 refine ov (v_load Tryz.isAgg127 rfl (Has.own 0 rfl) rfl) rfl ?_
 refine om rfl rfl ?_
 refine ov (v_build (v := .agg #[.int .i64 0, .int .i64 n, .int .i64 0]) rfl (by intro w; kernel_rfl)) rfl ?_
 refine shO_freeze 3 rfl hb1 ?_; intro F12 hF13 hz14
 refine shO_L (L' := [(b4, .cells (#[.func (.func 90) #[] #[.pointer (some ⟨b1, 0, none⟩), .pointer (some ⟨b3, 0, none⟩), .pointer (some ⟨b4, 0, none⟩)]]) 127 (0, 0)), (b3, .cells #[.map (some b2)] 126 (0, 0)), (b2, .map #[] 0)]) rfl ?_
 replace h_ears := h_ears.mono (arE_ok (n := 30) (sz := 1) cB_ok) hF13
 replace h_count := h_count.mono hF13
 refine shO_freeze 1 rfl hb3 ?_; intro F15 hF16 hz17
 refine shO_L (L' := [(b4, .cells (#[.func (.func 90) #[] #[.pointer (some ⟨b1, 0, none⟩), .pointer (some ⟨b3, 0, none⟩), .pointer (some ⟨b4, 0, none⟩)]]) 127 (0, 0)), (b2, .map #[] 0)]) rfl ?_
 replace h_ears := h_ears.mono (arE_ok (n := 30) (sz := 1) cB_ok) hF16
 replace h_count := h_count.mono hF16
 replace hz14 := hF16 _ _ hz14
 refine shO_freeze 0 rfl hb4 ?_; intro F18 hF19 hz20
 refine shO_L (L' := [(b2, .map #[] 0)]) rfl ?_
 replace h_ears := h_ears.mono (arE_ok (n := 30) (sz := 1) cB_ok) hF19
 replace h_count := h_count.mono hF19
 replace hz14 := hF19 _ _ hz14
 replace hz17 := hF19 _ _ hz17
 obtain ⟨n2, met, h21, r22⟩ := b2_ok r11; clear r11
 refine o_callG (Lb := [(b2, .map #[] 0)]) (Lr := []) rfl Tryz.call90 rfl rfl rfl (pR) ((hear_quarter_chosen_1_w FU) hz14 h_ears h_count hz17 MapR.nil hz20 h21) ?_; rintro _ F23 _ hF24 hd26 hn25 ⟨es27, cl28, rfl, rfl, hR29⟩
 replace h_ears := h_ears.mono (arE_ok (n := 30) (sz := 1) cB_ok) hF24
 replace h_count := h_count.mono hF24
 replace hz14 := hF24 _ _ hz14
 replace hz17 := hF24 _ _ hz17
 replace hz20 := hF24 _ _ hz20
 refine shO_L (lb (ln rfl)) ?_
 refine oa rfl rfl (nsr ?_)
 refine ov (v_build (v := .agg #[.int .i64 0, .int .i64 0, .int .i64 0]) rfl (by intro w; kernel_rfl)) rfl ?_
 refine o_alloc rfl Tryz.zeroValue129 ?_; intro b30 hb30
 refine o_storeA (i := 0) Tryz.sizeOf129 rfl rfl rfl (by simp [Value.oneCell']) rfl (Nat.le_of_ble_eq_true rfl) ?_
 refine shO_L (L' := [(b30, .cells #[.int .i64 0, .int .i64 0, .int .i64 0] 129 (0, 0)), (b2, .map es27 cl28)]) rfl ?_
 refine shO_nil ?_
 obtain ⟨m, x_left, h34, r35⟩ := b2_ok r22; clear r22
 refine shW_join (fun e1 F1 L1 => ∃ (es31 : Array MapEntry) (cl32 : Nat), FExt F23 F1 ∧ L1 = [(b2, .map es31 cl32), (b30, .cells #[.int .i64 0, .int .i64 x_left, .int .i64 0] 129 (0, 0))] ∧ e1.sub [(2, .pointer (some ⟨b1, 0, none⟩)), (7, .pointer (some ⟨b4, 0, none⟩)), (8, .int .i64 n2), (9, .pointer (some ⟨b30, 0, none⟩))] ∧ MapR (vA (cP (cI .i64) (cP (cI .i64) (cI .i64)))) (Value.int .i64) es31 m) ?_ ?_
 · clear r35
   refine shW_block ?_
   refine shW_lp (fun fu1 e1 F1 L1 => ∃ (m2 : List ((Int × Int × Int) × Int)) (x_left2 : Int) (es36 : Array MapEntry) (cl37 : Nat), hear_quarter_chosen_l1 ears count n2 fu1 m2 x_left2 = some (m, x_left) ∧ FExt F23 F1 ∧ L1 = [(b30, .cells #[.int .i64 0, .int .i64 x_left2, .int .i64 0] 129 (0, 0)), (b2, .map es36 cl37)] ∧ e1.sub [(2, .pointer (some ⟨b1, 0, none⟩)), (7, .pointer (some ⟨b4, 0, none⟩)), (8, .int .i64 n2), (9, .pointer (some ⟨b30, 0, none⟩))] ∧ MapR (vA (cP (cI .i64) (cP (cI .i64) (cI .i64)))) (Value.int .i64) es36 m2) FU (m0 kr ⟨met, 0, es27, cl28, h34, FExt.refl _, rfl, (sc rfl (sc rfl (sc rfl (sc rfl (sn _))))), hR29⟩) ?_
   rintro fu1 e1 F43 _ ⟨m2, x_left2, es36, cl37, r41, hF44, rfl, he42, hR38⟩
   refine shW_env _ he42 ?_; clear he42
   replace h_ears := h_ears.mono (arE_ok (n := 30) (sz := 1) cB_ok) hF44
   replace h_count := h_count.mono hF44
   replace hz14 := hF44 _ _ hz14
   replace hz17 := hF44 _ _ hz17
   replace hz20 := hF44 _ _ hz20
   rcases fu1 with _ | fu1
   · rw [hear_quarter_chosen_l1] at r41; cases r41
   rw [hear_quarter_chosen_l1] at r41
   refine shW_seq (wsr ?_)
   refine ov (v_load Tryz.isAgg127 rfl (Has.frozen hz20) rfl) rfl ?_
   refine ov (v_fieldAddr fa_129_1 rfl) rfl ?_
   refine ov (v_load Tryz.isAgg3 rfl (Has.own 0 rfl) rfl) rfl ?_
   refine ov (v_build (v := .agg #[.int .i64 0, .int .i64 x_left2, .int .i64 0]) rfl (by intro w; kernel_rfl)) rfl ?_
   obtain ⟨n3, met2, h45, r46⟩ := b2_ok r41; clear r41
   refine o_callG (Lb := [(b2, .map es36 cl37)]) (Lr := [(b30, .cells #[.int .i64 0, .int .i64 x_left2, .int .i64 0] 129 (0, 0))]) rfl Tryz.call90 rfl rfl rfl (((fC fO).trans (pC pR))) ((hear_quarter_chosen_1_w FU) hz14 h_ears h_count hz17 hR38 hz20 h45) ?_; rintro _ F47 _ hF48 hd50 hn49 ⟨es51, cl52, rfl, rfl, hR53⟩
   refine shO_L (lb (ln rfl)) ?_
   refine om rfl rfl ?_
   refine ov (v_lssK rfl rfl) rfl ?_
   refine shO_nil ?_
   refine shW_condP rfl (fun c54 => ?_) (fun c54 => ?_)
   · have r55 := ite_t r46 c54; clear r46
     refine shW_skip ?_
     refine shW_block ?_
     refine shW_region ?_
     refine ov (v_fieldAddr fa_129_1 rfl) rfl ?_
     refine ov (v_load Tryz.isAgg3 rfl (Has.own 1 rfl) rfl) rfl ?_
     obtain ⟨g56, r57⟩ := gd_ok r55; clear r55
     refine ov (v_add rfl rfl g56) rfl ?_
     refine ov (v_fieldAddr fa_129_1 rfl) rfl ?_
     refine o_store (i := 1) Tryz.sizeOf3 rfl rfl rfl rfl (Nat.le_of_ble_eq_true rfl) ?_
     refine shO_L (L' := [(b2, .map es51 cl52), (b30, .cells #[.int .i64 0, .int .i64 (x_left2 + 1), .int .i64 0] 129 (0, 0))]) rfl ?_
     refine shO_nil (inBlock_n (id := 1) ?_)
     exact le (kf (fC fO) kr) ⟨met2, x_left2 + 1, es51, cl52, r57, (hF44.trans hF48), rfl, (sc rfl (sc rfl (sc rfl (sc rfl (sn _))))), hR53⟩
   have r58 := ite_f r46 c54; clear r46
   refine shW_exit (andThen_exit (andThen_exit ?_))
   refine inBlock_exit ?_
   obtain ⟨rfl, rfl⟩ := inj2 r58
   exact mi kr ⟨es51, cl52, (hF44.trans hF48), rfl, (sc rfl (sc rfl (sc rfl (sc rfl (sn _))))), hR53⟩
 rintro e1 F60 _ ⟨es31, cl32, hF61, rfl, he59, hR33⟩
 refine shW_env _ he59 ?_; clear he59
 replace h_ears := h_ears.mono (arE_ok (n := 30) (sz := 1) cB_ok) hF61
 replace h_count := h_count.mono hF61
 replace hz14 := hF61 _ _ hz14
 replace hz17 := hF61 _ _ hz17
 replace hz20 := hF61 _ _ hz20
 refine wsr (oa rfl rfl (shO_nil ?_))
 obtain ⟨out, h68, r69⟩ := b1_ok r35; clear r35
 refine shW_join (fun e1 F1 L1 => ∃ (a62 : Option Addr) (n66 : Nat) (c63 : Nat) (Lb64 : LH), FExt F60 F1 ∧ L1 = (Lb64 ++ []) ∧ e1.sub [(8, .int .i64 n2), (10, .slice a62 n66 c63)] ∧ SlR K.w0.heap.size 3 1 (iE .i64) F1 a62 n66 c63 out Lb64) ?_ ?_
 · clear r69
   refine shW_block ?_
   refine shW_lp (fun fu2 e1 F1 L1 => ∃ (m3 : List ((Int × Int × Int) × Int)) (x_from : Int) (x_left3 : Int) (x_set : Int) (out2 : List Int) (es70 : Array MapEntry) (cl71 : Nat) (a73 : Option Addr) (n77 : Nat) (c74 : Nat) (Lb75 : LH), hear_quarter_chosen_l2 ears count n2 fu2 m3 x_from x_left3 x_set out2 = some out ∧ FExt F60 F1 ∧ L1 = ((b2, .map es70 cl71) :: ((b30, .cells #[.int .i64 x_from, .int .i64 x_left3, .int .i64 x_set] 129 (0, 0)) :: (Lb75 ++ []))) ∧ e1.sub [(2, .pointer (some ⟨b1, 0, none⟩)), (7, .pointer (some ⟨b4, 0, none⟩)), (8, .int .i64 n2), (9, .pointer (some ⟨b30, 0, none⟩)), (10, .slice a73 n77 c74)] ∧ MapR (vA (cP (cI .i64) (cP (cI .i64) (cI .i64)))) (Value.int .i64) es70 m3 ∧ SlR K.w0.heap.size 3 1 (iE .i64) F1 a73 n77 c74 out2 Lb75) FU (m0 (kc (kc (ke kr))) ⟨m, 0, x_left, 0, [], es31, cl32, none, 0, 0, [], h68, FExt.refl _, rfl, (sc rfl (sc rfl (sc rfl (sc rfl (sc rfl (sn _)))))), hR33, SlR.nil _ _ _ _ _⟩) ?_
   rintro fu2 e1 F83 _ ⟨m3, x_from, x_left3, x_set, out2, es70, cl71, a73, n77, c74, Lb75, r81, hF84, rfl, he82, hR72, hz76⟩
   refine shW_env _ he82 ?_; clear he82
   replace h_ears := h_ears.mono (arE_ok (n := 30) (sz := 1) cB_ok) hF84
   replace h_count := h_count.mono hF84
   replace hz14 := hF84 _ _ hz14
   replace hz17 := hF84 _ _ hz17
   replace hz20 := hF84 _ _ hz20
   rcases fu2 with _ | fu2
   · rw [hear_quarter_chosen_l2] at r81; cases r81
   rw [hear_quarter_chosen_l2] at r81
   refine shW_seq (wsr ?_)
   refine ov (v_fieldAddr fa_129_1 rfl) rfl ?_
   refine ov (v_load Tryz.isAgg3 rfl (Has.own 1 rfl) rfl) rfl ?_
   refine ov (v_gtrK rfl rfl) rfl ?_
   refine shO_nil ?_
   refine shW_condP rfl (fun c85 => ?_) (fun c85 => ?_)
   · have r86 := ite_t r81 c85; clear r81
     refine shW_skip ?_
     refine shW_block ?_
     obtain ⟨m4, x_from2, h90, r91⟩ := b2_ok r86; clear r86
     refine shW_join (fun e1 F1 L1 => ∃ (es87 : Array MapEntry) (cl88 : Nat), FExt F83 F1 ∧ L1 = ((b2, .map es87 cl88) :: ((b30, .cells #[.int .i64 x_from2, .int .i64 x_left3, .int .i64 x_set] 129 (0, 0)) :: (Lb75 ++ []))) ∧ e1.sub [(2, .pointer (some ⟨b1, 0, none⟩)), (7, .pointer (some ⟨b4, 0, none⟩)), (8, .int .i64 n2), (9, .pointer (some ⟨b30, 0, none⟩)), (10, .slice a73 n77 c74)] ∧ MapR (vA (cP (cI .i64) (cP (cI .i64) (cI .i64)))) (Value.int .i64) es87 m4) ?_ ?_
     · clear r91
       refine shW_block ?_
       refine shW_lp (fun fu3 e1 F1 L1 => ∃ (m5 : List ((Int × Int × Int) × Int)) (x_from3 : Int) (es92 : Array MapEntry) (cl93 : Nat), hear_quarter_chosen_l3 ears count n2 x_left3 x_set fu3 m5 x_from3 = some (m4, x_from2) ∧ FExt F83 F1 ∧ L1 = ((b2, .map es92 cl93) :: ((b30, .cells #[.int .i64 x_from3, .int .i64 x_left3, .int .i64 x_set] 129 (0, 0)) :: (Lb75 ++ []))) ∧ e1.sub [(2, .pointer (some ⟨b1, 0, none⟩)), (7, .pointer (some ⟨b4, 0, none⟩)), (8, .int .i64 n2), (9, .pointer (some ⟨b30, 0, none⟩)), (10, .slice a73 n77 c74)] ∧ MapR (vA (cP (cI .i64) (cP (cI .i64) (cI .i64)))) (Value.int .i64) es92 m5) FU (m0 kr ⟨m3, x_from, es70, cl71, h90, FExt.refl _, rfl, (sc rfl (sc rfl (sc rfl (sc rfl (sc rfl (sn _)))))), hR72⟩) ?_
       rintro fu3 e1 F99 _ ⟨m5, x_from3, es92, cl93, r97, hF100, rfl, he98, hR94⟩
       refine shW_env _ he98 ?_; clear he98
       replace h_ears := h_ears.mono (arE_ok (n := 30) (sz := 1) cB_ok) hF100
       replace h_count := h_count.mono hF100
       replace hz14 := hF100 _ _ hz14
       replace hz17 := hF100 _ _ hz17
       replace hz20 := hF100 _ _ hz20
       rcases fu3 with _ | fu3
       · rw [hear_quarter_chosen_l3] at r97; cases r97
       rw [hear_quarter_chosen_l3] at r97
       refine shW_seq (shW_seq ?_)
       refine shW_drawM [(.still, 0), (.still, 1), (.still, 2), (.still, 3), (.still, 4), (.still, 5), (.still, 6), (.still, 7), (.still, 8), (.still, 9), (.still, 10), (.still, 11), (.still, 16), (.seq, 12), (.still, 13), (.still, 14), (.seq, 15), (.still, 17)] (by kernel_rfl) (by kernel_rfl) (trivial) (by rfl) (by kernel_rfl) ?_
       refine shM_v (v := .func (.func 90) #[] #[.pointer (some ⟨b1, 0, none⟩), .pointer (some ⟨b3, 0, none⟩), .pointer (some ⟨b4, 0, none⟩)]) (ek := [(7, .pointer (some ⟨b4, 0, none⟩))]) (Ls := []) rfl rfl rfl rfl ((sc rfl (sn _))) (by kernel_rfl) sm (fun H F' L' hF' hL' => v_load Tryz.isAgg127 rfl ((Has.frozen hz20).ext hF' hL') rfl) ?_
       refine shM_v (v := .pointer (some ⟨b30, 0, none⟩)) (ek := [(9, .pointer (some ⟨b30, 0, none⟩))]) (Ls := []) rfl rfl rfl rfl ((sc rfl (sn _))) (by kernel_rfl) sm (fun H F' L' hF' hL' => v_fieldAddr fa_129_0 rfl) ?_
       refine shM_v (v := .int .i64 x_from3) (ek := [(39, .pointer (some ⟨b30, 0, none⟩))]) (Ls := [(b30, .cells #[.int .i64 x_from3, .int .i64 x_left3, .int .i64 x_set] 129 (0, 0))]) rfl rfl rfl rfl ((sc rfl (sn _))) (by kernel_rfl) (s0 (s1 (s2 (s3 sr)))) (fun H F' L' hF' hL' => v_load Tryz.isAgg3 rfl ((Has.own 0 rfl).ext hF' hL') rfl) ?_
       obtain ⟨g101, r102⟩ := gd_ok r97; clear r97
       refine shM_v (v := .int .i64 (x_from3 + 1)) (ek := [(40, .int .i64 x_from3)]) (Ls := []) rfl rfl rfl rfl ((sc rfl (sn _))) (by kernel_rfl) sm (fun H F' L' hF' hL' => v_add rfl rfl g101) ?_
       refine shM_v (v := .pointer (some ⟨b30, 1, none⟩)) (ek := [(9, .pointer (some ⟨b30, 0, none⟩))]) (Ls := []) rfl rfl rfl rfl ((sc rfl (sn _))) (by kernel_rfl) sm (fun H F' L' hF' hL' => v_fieldAddr fa_129_1 rfl) ?_
       refine shM_v (v := .int .i64 x_left3) (ek := [(42, .pointer (some ⟨b30, 1, none⟩))]) (Ls := [(b30, .cells #[.int .i64 x_from3, .int .i64 x_left3, .int .i64 x_set] 129 (0, 0))]) rfl rfl rfl rfl ((sc rfl (sn _))) (by kernel_rfl) (s0 (s1 (s2 (s3 sr)))) (fun H F' L' hF' hL' => v_load Tryz.isAgg3 rfl ((Has.own 0 rfl).ext hF' hL') rfl) ?_
       obtain ⟨g103, r104⟩ := gd_ok r102; clear r102
       refine shM_v (v := .int .i64 (x_left3 - 1)) (ek := [(43, .int .i64 x_left3)]) (Ls := []) rfl rfl rfl rfl ((sc rfl (sn _))) (by kernel_rfl) sm (fun H F' L' hF' hL' => v_sub rfl rfl g103) ?_
       refine shM_v (v := .pointer (some ⟨b30, 2, none⟩)) (ek := [(9, .pointer (some ⟨b30, 0, none⟩))]) (Ls := []) rfl rfl rfl rfl ((sc rfl (sn _))) (by kernel_rfl) sm (fun H F' L' hF' hL' => v_fieldAddr fa_129_2 rfl) ?_
       refine shM_v (v := .int .i64 x_set) (ek := [(45, .pointer (some ⟨b30, 2, none⟩))]) (Ls := [(b30, .cells #[.int .i64 x_from3, .int .i64 x_left3, .int .i64 x_set] 129 (0, 0))]) rfl rfl rfl rfl ((sc rfl (sn _))) (by kernel_rfl) (s0 (s1 (s2 (s3 sr)))) (fun H F' L' hF' hL' => v_load Tryz.isAgg3 rfl ((Has.own 0 rfl).ext hF' hL') rfl) ?_
       refine shM_v (v := .agg #[.slice ears_a ears.length ears_c, .func (.func count_f) count_1 count_2]) (ek := [(2, .pointer (some ⟨b1, 0, none⟩))]) (Ls := []) rfl rfl rfl rfl ((sc rfl (sn _))) (by kernel_rfl) sm (fun H F' L' hF' hL' => v_loadA (cs := #[.slice ears_a ears.length ears_c, .func (.func count_f) count_1 count_2]) Tryz.isAgg75 Tryz.sizeOf75 rfl ((Has.frozen hz14).ext hF' hL') (Nat.le_of_ble_eq_true rfl) rfl) ?_
       refine shM_v (v := .pointer (some ⟨b30, 0, none⟩)) (ek := [(9, .pointer (some ⟨b30, 0, none⟩))]) (Ls := []) rfl rfl rfl rfl ((sc rfl (sn _))) (by kernel_rfl) sm (fun H F' L' hF' hL' => v_fieldAddr fa_129_0 rfl) ?_
       refine shM_v (v := .int .i64 x_from3) (ek := [(48, .pointer (some ⟨b30, 0, none⟩))]) (Ls := [(b30, .cells #[.int .i64 x_from3, .int .i64 x_left3, .int .i64 x_set] 129 (0, 0))]) rfl rfl rfl rfl ((sc rfl (sn _))) (by kernel_rfl) (s0 (s1 (s2 (s3 sr)))) (fun H F' L' hF' hL' => v_load Tryz.isAgg3 rfl ((Has.own 0 rfl).ext hF' hL') rfl) ?_
       refine shM_v (v := .int .i64 n2) (ek := [(8, .int .i64 n2)]) (Ls := []) rfl rfl rfl rfl ((sc rfl (sn _))) (by kernel_rfl) sm (fun H F' L' hF' hL' => v_move rfl) ?_
       refine ⟨_, [(47, .agg #[.slice ears_a ears.length ears_c, .func (.func count_f) count_1 count_2]), (49, .int .i64 x_from3)], rfl, rfl, (sc rfl (sc rfl (sn _))), by kernel_rfl, ?_⟩; intro H
       obtain ⟨n4, h105, r106⟩ := b1_ok r104; clear r104
       refine o_callV rfl Tryz.call91 rfl rfl rfl (hear_quarter_by_w h_ears h_count h105) ?_
       refine shO_nil ⟨_, rfl, FExt.refl _, [16, 8, 7, 6, 5, 4, 3, 2, 1, 0], by kernel_rfl, .inl (.inr (fun d h => by cases h; rfl)), (List.forall_mem_cons.2 ⟨sm, (List.forall_mem_cons.2 ⟨s0 (s1 (s2 (s3 sr))), (List.forall_mem_cons.2 ⟨sm, (List.forall_mem_cons.2 ⟨sm, (List.forall_mem_cons.2 ⟨s0 (s1 (s2 (s3 sr))), (List.forall_mem_cons.2 ⟨sm, (List.forall_mem_cons.2 ⟨sm, (List.forall_mem_cons.2 ⟨s0 (s1 (s2 (s3 sr))), (List.forall_mem_cons.2 ⟨sm, (List.forall_mem_cons.2 ⟨sm, (fun _ h => absurd h List.not_mem_nil)⟩)⟩)⟩)⟩)⟩)⟩)⟩)⟩)⟩)⟩), ?_⟩
       refine shM_v (v := .int .i64 (bor x_set n4)) (ek := [(46, .int .i64 x_set), (50, .int .i64 n4)]) (Ls := []) rfl rfl rfl rfl ((sc rfl (sc rfl (sn _)))) (by kernel_rfl) sm (fun H F' L' hF' hL' => v_or rfl rfl) ?_
       refine shM_v (v := .agg #[.int .i64 (x_from3 + 1), .int .i64 (x_left3 - 1), .int .i64 (bor x_set n4)]) (ek := [(41, .int .i64 (x_from3 + 1)), (44, .int .i64 (x_left3 - 1)), (51, .int .i64 (bor x_set n4))]) (Ls := []) rfl rfl rfl rfl ((sc rfl (sc rfl (sc rfl (sn _))))) (by kernel_rfl) sm (fun H F' L' hF' hL' => v_build (v := .agg #[.int .i64 (x_from3 + 1), .int .i64 (x_left3 - 1), .int .i64 (bor x_set n4)]) rfl (by intro w; kernel_rfl)) ?_
       refine ⟨_, [(38, .func (.func 90) #[] #[.pointer (some ⟨b1, 0, none⟩), .pointer (some ⟨b3, 0, none⟩), .pointer (some ⟨b4, 0, none⟩)]), (52, .agg #[.int .i64 (x_from3 + 1), .int .i64 (x_left3 - 1), .int .i64 (bor x_set n4)])], rfl, rfl, (sc rfl (sc rfl (sn _))), by kernel_rfl, ?_⟩; intro H
       obtain ⟨n5, met3, h107, r108⟩ := b2_ok r106; clear r106
       refine o_callG (Lb := [(b2, .map es92 cl93)]) (Lr := (b30, .cells #[.int .i64 x_from3, .int .i64 x_left3, .int .i64 x_set] 129 (0, 0)) :: (Lb75 ++ [])) rfl Tryz.call90 rfl rfl rfl (pR) ((hear_quarter_chosen_1_w FU) hz14 h_ears h_count hz17 hR94 hz20 h107) ?_; rintro _ F109 _ hF110 hd112 hn111 ⟨es113, cl114, rfl, rfl, hR115⟩
       refine shO_L (lb (ln rfl)) ?_
       refine shO_nil ⟨_, rfl, hF110, [16], by kernel_rfl, .inl (.inr (fun d h => by cases h; rfl)), (List.forall_mem_cons.2 ⟨sm, (fun _ h => absurd h List.not_mem_nil)⟩), ?_⟩
       refine shM_v (v := .bool (decide (n5 < n2))) (ek := [(53, .int .i64 n5), (54, .int .i64 n2)]) (Ls := []) rfl rfl rfl rfl ((sc rfl (sc rfl (sn _)))) (by kernel_rfl) sm (fun H F' L' hF' hL' => v_lssK rfl rfl) ?_
       refine shM_nil ?_
       refine shW_condP rfl (fun c116 => ?_) (fun c116 => ?_)
       · have r117 := ite_t r108 c116; clear r108
         refine shW_skip ?_
         refine shW_block ?_
         refine shW_region ?_
         refine ov (v_fieldAddr fa_129_0 rfl) rfl ?_
         refine ov (v_load Tryz.isAgg3 rfl (Has.own 1 rfl) rfl) rfl ?_
         obtain ⟨g118, r119⟩ := gd_ok r117; clear r117
         refine ov (v_add rfl rfl g118) rfl ?_
         refine ov (v_fieldAddr fa_129_0 rfl) rfl ?_
         refine o_store (i := 1) Tryz.sizeOf3 rfl rfl rfl rfl (Nat.le_of_ble_eq_true rfl) ?_
         refine shO_L (L' := (b2, .map es113 cl114) :: ((b30, .cells #[.int .i64 (x_from3 + 1), .int .i64 x_left3, .int .i64 x_set] 129 (0, 0)) :: (Lb75 ++ []))) rfl ?_
         refine shO_nil (inBlock_n (id := 5) ?_)
         exact le kr ⟨met3, x_from3 + 1, es113, cl114, r119, (hF100.trans hF110), rfl, (sc rfl (sc rfl (sc rfl (sc rfl (sc rfl (sn _)))))), hR115⟩
       have r120 := ite_f r108 c116; clear r108
       refine shW_exit (andThen_exit (andThen_exit ?_))
       refine inBlock_exit ?_
       obtain ⟨rfl, rfl⟩ := inj2 r120
       exact mi kr ⟨es113, cl114, (hF100.trans hF110), rfl, (sc rfl (sc rfl (sc rfl (sc rfl (sc rfl (sn _)))))), hR115⟩
     rintro e1 F122 _ ⟨es87, cl88, hF123, rfl, he121, hR89⟩
     refine shW_env _ he121 ?_; clear he121
     replace h_ears := h_ears.mono (arE_ok (n := 30) (sz := 1) cB_ok) hF123
     replace h_count := h_count.mono hF123
     replace hz76 := hz76.mono (iE_ok _) hF123
     replace hz14 := hF123 _ _ hz14
     refine wsr (om rfl rfl ?_)
     refine ov (v_fieldAddr fa_129_0 rfl) rfl ?_
     refine ov (v_load Tryz.isAgg3 rfl (Has.own 1 rfl) rfl) rfl ?_
     refine o_buildSlice (cs := #[.int .i64 x_from2]) rfl rfl (buildSlice_all slt_28 [.int .i64 x_from2] rfl (by decide) (by simp [Value.cells]) (by decide)) ?_; intro b124 hb124
     obtain ⟨out3, h125, g126, r127⟩ := ap_ok r91; clear r91
     refine o_appZ (xs := out2) (ys := [x_from2]) (zs := out3) rfl slt_28 rfl rfl (Nat.le_refl _) (fun _ => .c (.c (.c .h))) hz76 (SrcR.box (vss := [[.int .i64 x_from2]]) (ys := [x_from2]) 0 rfl (iE_ok _) (.cons rfl .nil) rfl rfl) h125 g126 (by decide) ?_; intro a128 n132 c129 Lb130 hz131
     refine kO (kd kr) ?_
     refine oa rfl rfl (shO_nil ?_)
     refine shW_drawM [(.still, 0), (.still, 1), (.still, 2), (.still, 3), (.still, 4), (.still, 5), (.still, 6), (.still, 7), (.still, 8), (.still, 9), (.still, 10), (.seq, 11), (.still, 12), (.still, 13), (.seq, 14)] (by kernel_rfl) (by kernel_rfl) (trivial) (by rfl) (by kernel_rfl) ?_
     refine shM_v (v := .pointer (some ⟨b30, 0, none⟩)) (ek := [(9, .pointer (some ⟨b30, 0, none⟩))]) (Ls := []) rfl rfl rfl rfl ((sc rfl (sn _))) (by kernel_rfl) sm (fun H F' L' hF' hL' => v_fieldAddr fa_129_0 rfl) ?_
     refine shM_v (v := .int .i64 x_from2) (ek := [(65, .pointer (some ⟨b30, 0, none⟩))]) (Ls := [(b30, .cells #[.int .i64 x_from2, .int .i64 x_left3, .int .i64 x_set] 129 (0, 0))]) rfl rfl rfl rfl ((sc rfl (sn _))) (by kernel_rfl) (s0 (s1 (s2 (s3 sr)))) (fun H F' L' hF' hL' => v_load Tryz.isAgg3 rfl ((Has.own 0 rfl).ext hF' hL') rfl) ?_
     obtain ⟨g134, r135⟩ := gd_ok r127; clear r127
     refine shM_v (v := .int .i64 (x_from2 + 1)) (ek := [(66, .int .i64 x_from2)]) (Ls := []) rfl rfl rfl rfl ((sc rfl (sn _))) (by kernel_rfl) sm (fun H F' L' hF' hL' => v_add rfl rfl g134) ?_
     refine shM_v (v := .pointer (some ⟨b30, 1, none⟩)) (ek := [(9, .pointer (some ⟨b30, 0, none⟩))]) (Ls := []) rfl rfl rfl rfl ((sc rfl (sn _))) (by kernel_rfl) sm (fun H F' L' hF' hL' => v_fieldAddr fa_129_1 rfl) ?_
     refine shM_v (v := .int .i64 x_left3) (ek := [(68, .pointer (some ⟨b30, 1, none⟩))]) (Ls := [(b30, .cells #[.int .i64 x_from2, .int .i64 x_left3, .int .i64 x_set] 129 (0, 0))]) rfl rfl rfl rfl ((sc rfl (sn _))) (by kernel_rfl) (s0 (s1 (s2 (s3 sr)))) (fun H F' L' hF' hL' => v_load Tryz.isAgg3 rfl ((Has.own 0 rfl).ext hF' hL') rfl) ?_
     obtain ⟨g136, r137⟩ := gd_ok r135; clear r135
     refine shM_v (v := .int .i64 (x_left3 - 1)) (ek := [(69, .int .i64 x_left3)]) (Ls := []) rfl rfl rfl rfl ((sc rfl (sn _))) (by kernel_rfl) sm (fun H F' L' hF' hL' => v_sub rfl rfl g136) ?_
     refine shM_v (v := .pointer (some ⟨b30, 2, none⟩)) (ek := [(9, .pointer (some ⟨b30, 0, none⟩))]) (Ls := []) rfl rfl rfl rfl ((sc rfl (sn _))) (by kernel_rfl) sm (fun H F' L' hF' hL' => v_fieldAddr fa_129_2 rfl) ?_
     refine shM_v (v := .int .i64 x_set) (ek := [(71, .pointer (some ⟨b30, 2, none⟩))]) (Ls := [(b30, .cells #[.int .i64 x_from2, .int .i64 x_left3, .int .i64 x_set] 129 (0, 0))]) rfl rfl rfl rfl ((sc rfl (sn _))) (by kernel_rfl) (s0 (s1 (s2 (s3 sr)))) (fun H F' L' hF' hL' => v_load Tryz.isAgg3 rfl ((Has.own 0 rfl).ext hF' hL') rfl) ?_
     refine shM_v (v := .agg #[.slice ears_a ears.length ears_c, .func (.func count_f) count_1 count_2]) (ek := [(2, .pointer (some ⟨b1, 0, none⟩))]) (Ls := []) rfl rfl rfl rfl ((sc rfl (sn _))) (by kernel_rfl) sm (fun H F' L' hF' hL' => v_loadA (cs := #[.slice ears_a ears.length ears_c, .func (.func count_f) count_1 count_2]) Tryz.isAgg75 Tryz.sizeOf75 rfl ((Has.frozen hz14).ext hF' hL') (Nat.le_of_ble_eq_true rfl) rfl) ?_
     refine shM_v (v := .pointer (some ⟨b30, 0, none⟩)) (ek := [(9, .pointer (some ⟨b30, 0, none⟩))]) (Ls := []) rfl rfl rfl rfl ((sc rfl (sn _))) (by kernel_rfl) sm (fun H F' L' hF' hL' => v_fieldAddr fa_129_0 rfl) ?_
     refine shM_v (v := .int .i64 x_from2) (ek := [(74, .pointer (some ⟨b30, 0, none⟩))]) (Ls := [(b30, .cells #[.int .i64 x_from2, .int .i64 x_left3, .int .i64 x_set] 129 (0, 0))]) rfl rfl rfl rfl ((sc rfl (sn _))) (by kernel_rfl) (s0 (s1 (s2 (s3 sr)))) (fun H F' L' hF' hL' => v_load Tryz.isAgg3 rfl ((Has.own 0 rfl).ext hF' hL') rfl) ?_
     refine ⟨_, [(73, .agg #[.slice ears_a ears.length ears_c, .func (.func count_f) count_1 count_2]), (75, .int .i64 x_from2)], rfl, rfl, (sc rfl (sc rfl (sn _))), by kernel_rfl, ?_⟩; intro H
     obtain ⟨n6, h138, r139⟩ := b1_ok r137; clear r137
     refine o_callV rfl Tryz.call91 rfl rfl rfl (hear_quarter_by_w h_ears h_count h138) ?_
     refine shO_nil ⟨_, rfl, FExt.refl _, [7, 6, 5, 4, 3, 2, 1, 0], by kernel_rfl, .inl (.inr (fun d h => by cases h; rfl)), (List.forall_mem_cons.2 ⟨s0 (s1 (s2 (s3 sr))), (List.forall_mem_cons.2 ⟨sm, (List.forall_mem_cons.2 ⟨sm, (List.forall_mem_cons.2 ⟨s0 (s1 (s2 (s3 sr))), (List.forall_mem_cons.2 ⟨sm, (List.forall_mem_cons.2 ⟨sm, (List.forall_mem_cons.2 ⟨s0 (s1 (s2 (s3 sr))), (List.forall_mem_cons.2 ⟨sm, (fun _ h => absurd h List.not_mem_nil)⟩)⟩)⟩)⟩)⟩)⟩)⟩)⟩), ?_⟩
     refine shM_v (v := .int .i64 (bor x_set n6)) (ek := [(72, .int .i64 x_set), (76, .int .i64 n6)]) (Ls := []) rfl rfl rfl rfl ((sc rfl (sc rfl (sn _)))) (by kernel_rfl) sm (fun H F' L' hF' hL' => v_or rfl rfl) ?_
     refine shM_v (v := .agg #[.int .i64 (x_from2 + 1), .int .i64 (x_left3 - 1), .int .i64 (bor x_set n6)]) (ek := [(67, .int .i64 (x_from2 + 1)), (70, .int .i64 (x_left3 - 1)), (77, .int .i64 (bor x_set n6))]) (Ls := []) rfl rfl rfl rfl ((sc rfl (sc rfl (sc rfl (sn _))))) (by kernel_rfl) sm (fun H F' L' hF' hL' => v_build (v := .agg #[.int .i64 (x_from2 + 1), .int .i64 (x_left3 - 1), .int .i64 (bor x_set n6)]) rfl (by intro w; kernel_rfl)) ?_
     refine ⟨_, [(9, .pointer (some ⟨b30, 0, none⟩)), (78, .agg #[.int .i64 (x_from2 + 1), .int .i64 (x_left3 - 1), .int .i64 (bor x_set n6)])], rfl, rfl, (sc rfl (sc rfl (sn _))), by kernel_rfl, ?_⟩; intro H
     refine o_storeA (i := 1) Tryz.sizeOf129 rfl rfl rfl (by simp [Value.oneCell']) rfl (Nat.le_of_ble_eq_true rfl) ?_
     refine shO_L (L' := (b2, .map es87 cl88) :: ((b30, .cells #[.int .i64 (x_from2 + 1), .int .i64 (x_left3 - 1), .int .i64 (bor x_set n6)] 129 (0, 0)) :: (Lb130 ++ []))) rfl ?_
     refine shO_nil ⟨undef, rfl, FExt.refl _, [], by kernel_rfl, .inl (.inl rfl), (fun _ h => absurd h List.not_mem_nil), ?_⟩
     refine shM_nil ?_
     refine inBlock_n (id := 3) ?_
     exact le kr ⟨m4, x_from2 + 1, x_left3 - 1, bor x_set n6, out3, es87, cl88, a128, n132, c129, Lb130, r139, (hF84.trans hF123), rfl, (sc rfl (sc rfl (sc rfl (sc rfl (sc rfl (sn _)))))), hR89, hz131⟩
   have r140 := ite_f r81 c85; clear r81
   refine shW_exit (andThen_exit (andThen_exit ?_))
   refine inBlock_exit ?_
   obtain rfl := inj1 r140
   exact mi (kd (kd kr)) ⟨a73, n77, c74, Lb75, hF84, rfl, (sc rfl (sc rfl (sn _))), hz76⟩
 rintro e1 F142 _ ⟨a62, n66, c63, Lb64, hF143, rfl, he141, hz65⟩
 refine shW_env _ he141 ?_; clear he141
 refine wsr (om rfl rfl (om rfl rfl (oa rfl rfl (oa rfl rfl (shO_nil (shW_ret ?_))))))
 refine q_res2 Tryz.results44 (res_tmp rfl) (res_tmp rfl) (sr) ?_
 obtain ⟨rfl, rfl⟩ := inj2 r69
 exact ⟨_, _, _, _, rfl, rfl, hz65.any⟩
set_option maxHeartbeats 1000000 in
theorem hear_Fewest_w {wide : Int} {plots_a : Option Addr} {plots_c : Nat} {plots : List Int} {wind : Int} {voice : Int} {houses_a : Option Addr} {houses_c : Nat} {houses : List Int} {F : FS} (h_plots : RowR 1 (iE .i64) F plots_a plots_c plots) (h_houses : RowR 1 (iE .i64) F houses_a houses_c houses) {r : List Int} {r2 : Int} (hr : hear_Fewest wide plots wind voice houses = some (r, r2)) :
    SH.Spec Tryz.prog 10 #[.agg #[.int .i64 wide, .slice plots_a plots.length plots_c], .agg #[.int .i64 wind, .int .i64 voice], .slice houses_a houses.length houses_c] F [] fun F' L' v => ∃ (ra : Option Addr) (rn : Nat) (rc : Nat) (rL : LH), v = .tuple #[.slice ra rn rc, .int .i64 r2] ∧ L' = rL ++ [] ∧ SlR 0 3 1 (iE .i64) F' ra rn rc r rL := by
 refine spec_of_shW (args := [.agg #[.int .i64 wide, .slice plots_a plots.length plots_c], .agg #[.int .i64 wind, .int .i64 voice], .slice houses_a houses.length houses_c]) Tryz.func10 rfl Tryz.ntmps10 (Nat.le_of_ble_eq_true rfl) ?_
 intro K _ _; rw [hear_Fewest] at hr
 refine wsr ?_
 refine o_box rfl rfl ?_; intro b1 hb1
 refine o_box rfl rfl ?_; intro b2 hb2
 refine oa rfl rfl (oa rfl rfl (nsr ?_))
 refine ov (v_loadA (cs := #[.int .i64 wide, .slice plots_a plots.length plots_c]) Tryz.isAgg24 Tryz.sizeOf24 rfl (Has.own 1 rfl) (Nat.le_of_ble_eq_true rfl) rfl) rfl ?_
 refine ov (v_loadA (cs := #[.int .i64 wind, .int .i64 voice]) Tryz.isAgg27 Tryz.sizeOf27 rfl (Has.own 0 rfl) (Nat.le_of_ble_eq_true rfl) rfl) rfl ?_
 refine om rfl rfl ?_
 obtain ⟨l, y, n, h3, r4⟩ := b3_ok hr; clear hr
 refine o_call0 rfl Tryz.call40 rfl rfl rfl (hear_asked_w h_plots h_houses h3) ?_; rintro _ F5 _ hF6 hn7 ⟨a9, n13, c10, Lb11, v15, rfl, rfl, hz12, hp16⟩
 replace hz12 := hz12.new fun p hp => hn7 p (by simp [hp])
 refine shO_L (lp (ln rfl)) ?_
 refine kO (kf (fS fO) (kf (fS fO) kr)) ?_
 refine om rfl rfl (ox rfl rfl rfl (ox rfl rfl rfl ?_))
 refine o_alloc rfl Tryz.zeroValue75 ?_; intro b17 hb17
 refine o_storeA (i := 0) Tryz.sizeOf75 rfl rfl rfl (List.forall_mem_cons.2 ⟨rfl, (List.forall_mem_cons.2 ⟨hp16.1, (fun _ h => absurd h List.not_mem_nil)⟩)⟩) rfl (Nat.le_of_ble_eq_true rfl) ?_
 refine shO_L (L' := (b17, .cells #[.slice a9 n13 c10, v15] 75 (0, 0)) :: ((b2, .cells #[.int .i64 wind, .int .i64 voice] 27 (0, 0)) :: ((b1, .cells #[.int .i64 wide, .slice plots_a plots.length plots_c] 24 (0, 0)) :: (Lb11 ++ [])))) rfl ?_
 refine oa rfl rfl (shO_nil (shW_seq ?_))
 refine shW_block ?_
 refine wsr (om rfl rfl ?_)
 refine ov (v_neq rfl rfl) rfl ?_
 refine oa rfl rfl (shO_nil ?_)
 refine shW_condP rfl (fun c18 => ?_) (fun c18 => ?_)
 · have r19 := ite_t r4 c18; clear r4
   refine wsr (om rfl rfl (oa rfl rfl (oa rfl rfl (shO_nil ?_))))
   refine kW kn ?_
   refine shW_ret (inBlock_ret (andThen_ret ?_))
   refine q_res2 Tryz.results10 (res_tmp rfl) (res_tmp rfl) (sr) ?_
   obtain ⟨rfl, rfl⟩ := inj2 r19
   exact ⟨_, _, _, [], rfl, rfl, SlR.nil _ _ _ _ _⟩
 have r20 := ite_f r4 c18; clear r4
 refine wsr ?_
 refine ov (v_loadA (cs := #[.slice a9 n13 c10, v15]) Tryz.isAgg75 Tryz.sizeOf75 rfl (Has.own 0 rfl) (Nat.le_of_ble_eq_true rfl) rfl) rfl ?_
 obtain ⟨g21, r22⟩ := gd_ok r20; clear r20
 obtain rfl := hp16.2 g21
 have hn23 : FnR Tryz.prog F5 88 #[] #[] (iE .i64) (Value.int .i64) (fun xx_ : Int => hear_ones xx_) := ⟨Tryz.call88, fun F2 h2 vs xx_ r ha hr => by obtain rfl := ha; exact hear_ones_w hr⟩
 obtain ⟨ok, h24, r25⟩ := b1_ok r22; clear r22
 refine o_callT (Lt := Lb11 ++ []) (Lr := [(b17, .cells (#[.slice a9 n13 c10, .func (.func 88) #[] #[]]) 75 (0, 0)), (b2, .cells #[.int .i64 wind, .int .i64 voice] 27 (0, 0)), (b1, .cells #[.int .i64 wide, .slice plots_a plots.length plots_c] 24 (0, 0))]) rfl Tryz.call41 rfl rfl rfl (pT ((fC (fC (fC fP))).trans (pA pR)) (lp (ln rfl))) (fun F2 h2 h3 => by rw [(SlR.caps hz12).1]; exact hear_quarter_deaf_w (hz12.row (arE_ok (n := 30) (sz := 1) cB_ok) h2 (fun p hp => h3 p (List.mem_append_left _ hp))) (hn23.mono h2) h24) ?_
 refine oa rfl rfl (shO_nil ?_)
 refine shW_cond rfl (fun c26 => ?_) (fun c26 => ?_)
 · have r27 := bt r25 c26; clear r25
   refine wsr (oa rfl rfl (oa rfl rfl (shO_nil ?_)))
   refine kW kn ?_
   refine shW_ret (inBlock_ret (andThen_ret ?_))
   refine q_res2 Tryz.results10 (res_tmp rfl) (res_tmp rfl) (sr) ?_
   obtain ⟨rfl, rfl⟩ := inj2 r27
   exact ⟨_, _, _, [], rfl, rfl, SlR.nil _ _ _ _ _⟩
 have r28 := bf r25 c26; clear r25
 refine shW_skip (inBlock_n (id := 0) (wsr ?_))
 refine ov (v_fieldAddr fa_75_0 rfl) rfl ?_
 refine ov (v_load Tryz.isAgg72 rfl (Has.own 0 rfl) rfl) rfl ?_
 obtain ⟨l2, h29, r30⟩ := b1_ok r28; clear r28
 refine o_callTO (Lb := []) (Lt := Lb11 ++ []) (Lr := [(b17, .cells (#[.slice a9 n13 c10, .func (.func 88) #[] #[]]) 75 (0, 0)), (b2, .cells #[.int .i64 wind, .int .i64 voice] 27 (0, 0)), (b1, .cells #[.int .i64 wide, .slice plots_a plots.length plots_c] 24 (0, 0))]) rfl Tryz.call43 rfl rfl rfl (pT ((fC (fC (fC fP))).trans (pA pR)) (ln (lp (ln rfl)))) (fun F2 h2 h3 => by rw [(SlR.caps hz12).1]; exact slices_Clone_hear_ears_hear_ears_w (hz12.row (arE_ok (n := 30) (sz := 1) cB_ok) h2 (fun p hp => h3 p (List.mem_append_left _ hp))) h29) (fun _ _ _ _ hq => by obtain ⟨a35, n39, c36, Lb37, rfl, rfl, hz38⟩ := hq; exact ⟨_, _, _, _, rfl, rfl, hz38.flat (fun _ _ h => h)⟩) ?_; rintro _ F31 _ hF32 hd34 hn33 ⟨a35, n39, c36, Lb37, rfl, rfl, hz38⟩
 replace hn23 := hn23.mono hF32
 have hn41 := newp (Lb' := []) (by rfl) hd34 hn33
 replace hz38 := hz38.new fun p hp => hn41 p (by simp [hp])
 refine shO_L (lp (ln (lp (ln rfl)))) ?_
 refine kO (kf (fS (fS fO)) (kf (fS (fS fO)) (kf (fS (fS fO)) kr))) ?_
 obtain ⟨l3, h42, r43⟩ := b1_ok r30; clear r30
 refine o_callG (Lb := Lb37 ++ []) (Lr := (b17, .cells (#[.slice a9 n13 c10, .func (.func 88) #[] #[]]) 75 (0, 0)) :: ((b2, .cells #[.int .i64 wind, .int .i64 voice] 27 (0, 0)) :: ((b1, .cells #[.int .i64 wide, .slice plots_a plots.length plots_c] 24 (0, 0)) :: (Lb11 ++ [])))) rfl Tryz.call42 rfl rfl rfl (pT ((fC (fC (fC fP))).trans (pA pR)) (lp (ln rfl))) (slices_Compact_hear_ears_hear_ears_w hz38 h42) ?_; rintro _ F44 _ hF45 hd47 hn46 ⟨a48, n52, c49, Lb50, rfl, rfl, hz51⟩
 replace hn23 := hn23.mono hF45
 refine shO_L (lp (ln rfl)) ?_
 refine kO (kf (fS fO) (kf (fS fO) (kf (fS fO) kr))) ?_
 refine ov (v_fieldAddr fa_75_0 rfl) rfl ?_
 refine o_store (i := 0) Tryz.sizeOf72 rfl rfl rfl rfl (Nat.le_of_ble_eq_true rfl) ?_
 refine shO_L (L' := (b17, .cells (#[.slice a48 n52 c49, .func (.func 88) #[] #[]]) 75 (0, 0)) :: ((b2, .cells #[.int .i64 wind, .int .i64 voice] 27 (0, 0)) :: ((b1, .cells #[.int .i64 wide, .slice plots_a plots.length plots_c] 24 (0, 0)) :: (Lb50 ++ (Lb11 ++ []))))) rfl ?_
 refine nsr ?_
 refine ov (v_loadA (cs := #[.slice a48 n52 c49, .func (.func 88) #[] #[]]) Tryz.isAgg75 Tryz.sizeOf75 rfl (Has.own 0 rfl) (Nat.le_of_ble_eq_true rfl) rfl) rfl ?_
 refine ov (v_fieldAddr fa_75_0 rfl) rfl ?_
 refine ov (v_load Tryz.isAgg72 rfl (Has.own 0 rfl) rfl) rfl ?_
 refine ov ((v_lenS Tryz.underlying72 rfl).i (SlR.lenI hz51)) rfl ?_
 obtain ⟨l4, n2, h54, r55⟩ := b2_ok r43; clear r43
 refine o_callTO (Lb := []) (Lt := Lb50 ++ []) (Lr := (b17, .cells (#[.slice a48 n52 c49, .func (.func 88) #[] #[]]) 75 (0, 0)) :: ((b2, .cells #[.int .i64 wind, .int .i64 voice] 27 (0, 0)) :: ((b1, .cells #[.int .i64 wide, .slice plots_a plots.length plots_c] 24 (0, 0)) :: (Lb11 ++ [])))) rfl Tryz.call44 rfl rfl rfl (pT ((fC (fC (fC fP))).trans (pA pR)) (ln (lp (ln rfl)))) (fun F2 h2 h3 => by rw [(SlR.caps hz51).1]; exact hear_quarter_chosen_w (hz51.row (arE_ok (n := 30) (sz := 1) cB_ok) h2 (fun p hp => h3 p (List.mem_append_left _ hp))) (hn23.mono h2) h54) (fun _ _ _ _ hq => by obtain ⟨a60, n64, c61, Lb62, rfl, rfl, hz63⟩ := hq; exact ⟨_, _, _, _, rfl, rfl, hz63.flat (fun _ _ h => h)⟩) ?_; rintro _ F56 _ hF57 hd59 hn58 ⟨a60, n64, c61, Lb62, rfl, rfl, hz63⟩
 have hn66 := newp (Lb' := []) (by rfl) hd59 hn58
 replace hz63 := hz63.new fun p hp => hn66 p (by simp [hp])
 refine shO_L (lp (ln (lp (ln rfl)))) ?_
 refine kO (kf (fS (fS fO)) (kf (fS (fS fO)) (kf (fS (fS fO)) kr))) ?_
 refine om rfl rfl (ox rfl rfl rfl (ox rfl rfl rfl (oa rfl rfl (oa rfl rfl (nsr (om rfl rfl (oa rfl rfl (oa rfl rfl (shO_nil ?_)))))))))
 refine kW (kd (kd (kd (ka kn)))) ?_
 refine shW_ret ?_
 refine q_res2 Tryz.results10 (res_tmp rfl) (res_tmp rfl) (sr) ?_
 obtain ⟨rfl, rfl⟩ := inj2 r55
 exact ⟨_, _, _, _, rfl, rfl, hz63.any⟩
set_option maxHeartbeats 1000000 in
theorem slices_Equal_int_int_w {s1_a : Option Addr} {s1_c : Nat} {s1 : List Int} {s2_a : Option Addr} {s2_c : Nat} {s2 : List Int} {F : FS} (h_s1 : RowR 1 (iE .i64) F s1_a s1_c s1) (h_s2 : RowR 1 (iE .i64) F s2_a s2_c s2) {r : Bool} (hr : slices_Equal_int_int s1 s2 = some r) :
    SpecV Tryz.prog 51 #[.slice s1_a s1.length s1_c, .slice s2_a s2.length s2_c] F (.bool r) := by
 refine spec_of_shW (args := [.slice s1_a s1.length s1_c, .slice s2_a s2.length s2_c]) Tryz.func51 rfl Tryz.ntmps51 (Nat.le_of_ble_eq_true rfl) ?_
 intro K _ _; rw [slices_Equal_int_int] at hr
 refine wsr (oa rfl rfl (shO_nil (shW_seq (wsr (om rfl rfl ?_)))))
 refine ov (v_lenS Tryz.underlying28 rfl) rfl ?_
 refine om rfl rfl ?_
 refine ov (v_lenS Tryz.underlying28 rfl) rfl ?_
 refine ov (v_neq rfl rfl) rfl ?_
 refine shO_nil ?_
 refine shW_condP rfl (fun c1 => ?_) (fun c1 => ?_)
 · have r2 := ite_t hr c1; clear hr
   refine wsr (oa rfl rfl (shO_nil (shW_ret (andThen_ret ?_))))
   refine q_res1 Tryz.results51 (res_tmp rfl) (sr) ?_
   obtain rfl := inj1 r2
   exact rfl
 have r3 := ite_f hr c1; clear hr
 refine shW_skip ?_
 refine shW_join (fun e1 F1 L1 => slices_Equal_int_int_j1 = some r ∧ F = F1 ∧ L1 = [] ∧ e1.sub []) ?_ ?_
 · refine wsr (om rfl rfl ?_)
   refine ov (v_lenS Tryz.underlying28 rfl) rfl ?_
   refine om rfl rfl (shO_nil ?_)
   refine shW_block ?_
   refine shW_lp (fun fu2 e1 F1 L1 => ∃ (tl : List Int) (k : Int), tl.length = fu2 ∧ Lst s1 k tl ∧ slices_Equal_int_int_l2 s2 tl k = some r ∧ F = F1 ∧ L1 = [] ∧ e1.sub [(0, .slice s1_a s1.length s1_c), (1, .slice s2_a s2.length s2_c), (12, .int .i64 (s1.length : Int)), (13, .int .i64 k)]) _ (m0 kr ⟨_, _, rfl, Lst.start _, r3, rfl, rfl, (sc rfl (sc rfl (sc rfl (sc rfl (sn _)))))⟩) ?_
   rintro fu2 e1 _ _ ⟨tl, k, hn5, hk4, r6, rfl, rfl, he7⟩
   refine shW_env _ he7 ?_; clear he7
   refine wsr ?_
   refine ov (v_lssK rfl rfl) rfl ?_
   refine shO_nil (shW_seq ?_)
   refine shW_condP rfl (fun c9 => ?_) (fun c9 => ?_)
   · obtain ⟨x, tl2, rfl, hx11, g12, hk10⟩ := Lst.succ hk4 c9
     rw [slices_Equal_int_int_l2] at r6
     refine shW_skip (shW_seq ?_)
     refine shW_block ?_
     refine wsr (om rfl rfl (oa rfl rfl ?_))
     refine nsd (by kernel_rfl) (by kernel_rfl) (by kernel_rfl) ?_
     refine qm rfl rfl (qm rfl rfl ?_)
     obtain ⟨b13, o14, c15, vs16, ha17, hs18, hle19, rfl, hl20, hc21⟩ := RowR.at (iE_ok _) h_s1 ([]) g12.1 hx11
     refine qv (v_indexO Tryz.underlying28 Tryz.sizeOf3 rfl ha17 rfl g12) rfl ?_
     refine qv (v_load Tryz.isAgg3 rfl hs18 (hc21 0 (by decide))) rfl ?_
     refine qm rfl rfl (qm rfl rfl ?_)
     obtain ⟨x2, g22, hx23, r24⟩ := ix_ok r6; clear r6
     obtain ⟨b25, o26, c27, vs28, ha29, hs30, hle31, rfl, hl32, hc33⟩ := RowR.at (iE_ok _) h_s2 ([]) g22.1 hx23
     refine qv (v_indexO Tryz.underlying28 Tryz.sizeOf3 rfl ha29 rfl g22) rfl ?_
     refine qv (v_load Tryz.isAgg3 rfl hs30 (hc33 0 (by decide))) rfl ?_
     refine qv (v_neq rfl rfl) rfl ?_
     refine shQ_nil ?_
     refine shW_condP rfl (fun c34 => ?_) (fun c34 => ?_)
     · have r35 := ite_t r24 c34; clear r24
       refine wsr (oa rfl rfl (shO_nil (shW_ret (inBlock_ret (andThen_ret (andThen_ret (inBlock_ret (andThen_ret ?_))))))))
       refine q_res1 Tryz.results51 (res_tmp rfl) (sr) ?_
       obtain rfl := inj1 r35
       exact rfl
     have r36 := ite_f r24 c34; clear r24
     refine shW_skip (inBlock_n (id := 1) (shW_region ?_))
     refine ov (v_add rfl rfl (Lst.r64 hk4 c9 (RowR.lt h_s1))) rfl ?_
     refine om rfl rfl (shO_nil ?_)
     subst hn5; exact le kr ⟨_, _, rfl, hk10, r36, rfl, rfl, (sc rfl (sc rfl (sc rfl (sc rfl (sn _)))))⟩
   obtain rfl := Lst.zero hk4 c9
   rw [slices_Equal_int_int_l2] at r6
   refine shW_exit (andThen_exit (andThen_exit ?_))
   refine inBlock_exit ?_
   exact mi kr ⟨r6, rfl, rfl, (sn _)⟩
 rintro e1 _ _ ⟨r37, rfl, rfl, he38⟩
 refine shW_env _ he38 ?_; clear he38
 rw [slices_Equal_int_int_j1] at r37
 refine wsr (oa rfl rfl (shO_nil (shW_ret ?_)))
 refine q_res1 Tryz.results51 (res_tmp rfl) (sr) ?_
 obtain rfl := inj1 r37
 exact rfl
set_option maxHeartbeats 1000000 in
theorem oyezkit_Like_int_w {a_a : Option Addr} {a_c : Nat} {a : List Int} {b_a : Option Addr} {b_c : Nat} {b : List Int} {F : FS} (h_a : RowR 1 (iE .i64) F a_a a_c a) (h_b : RowR 1 (iE .i64) F b_a b_c b) {r : Bool} (hr : oyezkit_Like_int a b = some r) :
    SpecV Tryz.prog 12 #[.slice a_a a.length a_c, .slice b_a b.length b_c] F (.bool r) := by
 refine spec_of_shW (args := [.slice a_a a.length a_c, .slice b_a b.length b_c]) Tryz.func12 rfl Tryz.ntmps12 (Nat.le_of_ble_eq_true rfl) ?_
 intro K _ _; rw [oyezkit_Like_int] at hr
 refine wsr (oa rfl rfl (nsr (om rfl rfl (om rfl rfl ?_))))
 obtain ⟨ok, h1, r2⟩ := b1_ok hr; clear hr
 refine o_callV rfl Tryz.call51 rfl rfl rfl (slices_Equal_int_int_w h_a h_b h1) ?_
 refine oa rfl rfl (shO_nil (shW_ret ?_))
 refine q_res1 Tryz.results12 (res_tmp rfl) (sr) ?_
 obtain rfl := inj1 r2
 exact rfl
set_option maxHeartbeats 1000000 in
theorem oyezlaw01_Drawn_w {rows_a : Option Addr} {rows_c : Nat} {rows : List (List Int)} {F : FS} (h_rows : RowR 1 sE F rows_a rows_c rows) {r : Int} {r2 : List Int} (hr : oyezlaw01_Drawn rows = some (r, r2)) :
    SH.Spec Tryz.prog 33 #[.slice rows_a rows.length rows_c] F [] fun F' L' v => ∃ (r2a : Option Addr) (r2n : Nat) (r2c : Nat) (r2L : LH), v = .agg #[.int .i64 r, .slice r2a r2n r2c] ∧ L' = r2L ++ [] ∧ SlR 0 61 1 (iE .i64) F' r2a r2n r2c r2 r2L := by
 refine spec_of_shW (args := [.slice rows_a rows.length rows_c]) Tryz.func33 rfl Tryz.ntmps33 (Nat.le_of_ble_eq_true rfl) ?_
 intro K _ _; rw [oyezlaw01_Drawn] at hr
 refine wsr ?_
 refine o_alloc rfl Tryz.zeroValue24 ?_; intro b1 hb1
 refine nsr ?_
 refine o_alloc rfl Tryz.zeroValue24 ?_; intro b2 hb2
 refine shO_nil ?_
 obtain ⟨t_wide, t_plots, h9, r10⟩ := b2_ok hr; clear hr
 refine shW_join (fun e1 F1 L1 => ∃ (a3 : Option Addr) (n7 : Nat) (c4 : Nat) (Lb5 : LH), F = F1 ∧ L1 = ((b2, .cells #[.int .i64 t_wide, .slice a3 n7 c4] 24 (0, 0)) :: ((b1, .cells #[.int .i64 0, .slice none 0 0] 24 (0, 0)) :: (Lb5 ++ []))) ∧ e1.sub [(2, .pointer (some ⟨b1, 0, none⟩)), (3, .pointer (some ⟨b2, 0, none⟩))] ∧ SlR K.w0.heap.size 61 1 (iE .i64) F1 a3 n7 c4 t_plots Lb5) ?_ ?_
 · clear r10
   refine wsr (om rfl rfl ?_)
   refine ov (v_lenS Tryz.underlying115 rfl) rfl ?_
   refine om rfl rfl (shO_nil ?_)
   refine shW_block ?_
   refine shW_lp (fun fu1 e1 F1 L1 => ∃ (tl : List (List Int)) (k : Int), tl.length = fu1 ∧ Lst rows k tl ∧ ∃ (t_wide2 : Int) (t_plots2 : List Int) (a11 : Option Addr) (n15 : Nat) (c12 : Nat) (Lb13 : LH), oyezlaw01_Drawn_l1 tl t_wide2 t_plots2 = some (t_wide, t_plots) ∧ F = F1 ∧ L1 = ((b2, .cells #[.int .i64 t_wide2, .slice a11 n15 c12] 24 (0, 0)) :: ((b1, .cells #[.int .i64 0, .slice none 0 0] 24 (0, 0)) :: (Lb13 ++ []))) ∧ e1.sub [(2, .pointer (some ⟨b1, 0, none⟩)), (3, .pointer (some ⟨b2, 0, none⟩)), (9, .slice rows_a rows.length rows_c), (10, .int .i64 (rows.length : Int)), (11, .int .i64 k)] ∧ SlR K.w0.heap.size 61 1 (iE .i64) F1 a11 n15 c12 t_plots2 Lb13) _ (m0 (kc (kc (ke kr))) ⟨_, _, rfl, Lst.start _, 0, [], none, 0, 0, [], h9, rfl, rfl, (sc rfl (sc rfl (sc rfl (sc rfl (sc rfl (sn _)))))), SlR.nil _ _ _ _ _⟩) ?_
   rintro fu1 e1 _ _ ⟨tl, k, hn18, hk17, t_wide2, t_plots2, a11, n15, c12, Lb13, r19, rfl, rfl, he20, hz14⟩
   refine shW_env _ he20 ?_; clear he20
   refine wsr ?_
   refine ov (v_lssK rfl rfl) rfl ?_
   refine shO_nil (shW_seq ?_)
   refine shW_condP rfl (fun c22 => ?_) (fun c22 => ?_)
   · obtain ⟨x, tl2, rfl, hx24, g25, hk23⟩ := Lst.succ hk17 c22
     rw [oyezlaw01_Drawn_l1] at r19
     refine shW_skip ?_
     obtain ⟨t_plots3, h32, r33⟩ := b1_ok r19; clear r19
     refine shW_join (fun e1 F1 L1 => ∃ (a26 : Option Addr) (n30 : Nat) (c27 : Nat) (Lb28 : LH), F = F1 ∧ L1 = ((b2, .cells #[.int .i64 (x.length : Int), .slice a26 n30 c27] 24 (0, 0)) :: ((b1, .cells #[.int .i64 0, .slice none 0 0] 24 (0, 0)) :: (Lb28 ++ []))) ∧ e1.sub [(2, .pointer (some ⟨b1, 0, none⟩)), (3, .pointer (some ⟨b2, 0, none⟩)), (9, .slice rows_a rows.length rows_c), (10, .int .i64 (rows.length : Int)), (11, .int .i64 k)] ∧ SlR K.w0.heap.size 61 1 (iE .i64) F1 a26 n30 c27 t_plots3 Lb28) ?_ ?_
     · clear r33
       refine shW_block ?_
       refine wsr ?_
       obtain ⟨b34, o35, c36, vs37, ha38, hs39, hle40, rfl, hl41, hc42⟩ := RowR.at sE_ok h_rows ((b2, .cells #[.int .i64 t_wide2, .slice a11 n15 c12] 24 (0, 0)) :: ((b1, .cells #[.int .i64 0, .slice none 0 0] 24 (0, 0)) :: (Lb13 ++ []))) g25.1 hx24
       refine ov (v_indexO Tryz.underlying115 Tryz.sizeOf9 rfl ha38 rfl g25) rfl ?_
       refine ov (v_load Tryz.isAgg9 rfl hs39 (hc42 0 (by decide))) rfl ?_
       refine oa rfl rfl (nsr (om rfl rfl ?_))
       refine ov (v_lenStr Tryz.underlying9 rfl) rfl ?_
       refine ov (v_fieldAddr fa_24_0 rfl) rfl ?_
       refine o_store (i := 0) Tryz.sizeOf3 rfl rfl rfl rfl (Nat.le_of_ble_eq_true rfl) ?_
       refine shO_L (L' := (b2, .cells #[.int .i64 (x.length : Int), .slice a11 n15 c12] 24 (0, 0)) :: ((b1, .cells #[.int .i64 0, .slice none 0 0] 24 (0, 0)) :: (Lb13 ++ []))) rfl ?_
       refine nsr (om rfl rfl ?_)
       refine o_rangeStr (s := x) rfl Tryz.underlying9 rfl ?_; intro b43 hb43
       refine shO_nil ?_
       refine shW_block ?_
       refine shW_lp (fun fu2 e1 F1 L1 => ∃ (t_plots4 : List Int) (pos : Nat) (a44 : Option Addr) (n48 : Nat) (c45 : Nat) (Lb46 : LH), oyezlaw01_Drawn_l2 x fu2 t_plots4 pos = some t_plots3 ∧ F = F1 ∧ L1 = ((b43, .stringIter (sB x) pos) :: ((b2, .cells #[.int .i64 (x.length : Int), .slice a44 n48 c45] 24 (0, 0)) :: ((b1, .cells #[.int .i64 0, .slice none 0 0] 24 (0, 0)) :: (Lb46 ++ [])))) ∧ e1.sub [(2, .pointer (some ⟨b1, 0, none⟩)), (3, .pointer (some ⟨b2, 0, none⟩)), (9, .slice rows_a rows.length rows_c), (10, .int .i64 (rows.length : Int)), (11, .int .i64 k), (19, .pointer (some ⟨b43, 0, none⟩))] ∧ SlR K.w0.heap.size 61 1 (iE .i64) F1 a44 n48 c45 t_plots4 Lb46) FU (m0 kr ⟨t_plots2, 0, a11, n15, c12, Lb13, h32, rfl, rfl, (sc rfl (sc rfl (sc rfl (sc rfl (sc rfl (sc rfl (sn _))))))), hz14⟩) ?_
       rintro fu2 e1 _ _ ⟨t_plots4, pos, a44, n48, c45, Lb46, r52, rfl, rfl, he53, hz47⟩
       refine shW_env _ he53 ?_; clear he53
       rcases fu2 with _ | fu2
       · rw [oyezlaw01_Drawn_l2] at r52; cases r52
       rw [oyezlaw01_Drawn_l2] at r52
       refine wsr ?_
       by_cases c54 : pos < x.length
       · have r55 := ite_t r52 c54; clear r52
         obtain ⟨c, g56, hx57, r58⟩ := ix_ok r55; clear r55
         obtain ⟨g59, r60⟩ := gd_ok r58; clear r58
         refine o_nextStr (i := 0) (c := c) rfl rfl rfl (by simpa using hx57) g59 ?_
         refine shO_L (L' := (b43, .stringIter (sB x) (pos + 1)) :: ((b2, .cells #[.int .i64 (x.length : Int), .slice a44 n48 c45] 24 (0, 0)) :: ((b1, .cells #[.int .i64 0, .slice none 0 0] 24 (0, 0)) :: (Lb46 ++ [])))) rfl ?_
         refine ox rfl rfl rfl (shO_nil (shW_seq ?_))
         refine shW_cond rfl (fun c61 => ?_) (fun c61 => nomatch c61)
         refine shW_skip ?_
         refine shW_block ?_
         refine wsr (ox rfl rfl rfl (oa rfl rfl (nsr (oa rfl rfl (shO_nil ?_)))))
         obtain ⟨p, h62, r63⟩ := b1_ok r60; clear r60
         refine shW_join (fun e1 F1 L1 => F = F1 ∧ L1 = ((b43, .stringIter (sB x) (pos + 1)) :: ((b2, .cells #[.int .i64 (x.length : Int), .slice a44 n48 c45] 24 (0, 0)) :: ((b1, .cells #[.int .i64 0, .slice none 0 0] 24 (0, 0)) :: (Lb46 ++ [])))) ∧ e1.sub [(2, .pointer (some ⟨b1, 0, none⟩)), (3, .pointer (some ⟨b2, 0, none⟩)), (7, .int .i32 c), (8, .int .i64 p), (9, .slice rows_a rows.length rows_c), (10, .int .i64 (rows.length : Int)), (11, .int .i64 k), (19, .pointer (some ⟨b43, 0, none⟩))]) ?_ ?_
         · clear r63
           refine wsr (om rfl rfl ?_)
           refine ov (v_eql rfl rfl) rfl ?_
           refine shO_nil ?_
           refine shW_condP rfl (fun c64 => ?_) (fun c64 => ?_)
           · have r65 := ite_t h62 c64; clear h62
             refine shW_region (oa rfl rfl (shO_nil ?_))
             obtain rfl := inj1 r65
             exact mi kr ⟨rfl, rfl, (sc rfl (sc rfl (sc rfl (sc rfl (sc rfl (sc rfl (sc rfl (sc rfl (sn _)))))))))⟩
           have r66 := ite_f h62 c64; clear h62
           refine shW_skip ?_
           obtain rfl := inj1 r66
           exact mi kr ⟨rfl, rfl, (sc rfl (sc rfl (sc rfl (sc rfl (sc rfl (sc rfl (sc rfl (sc rfl (sn _)))))))))⟩
         rintro e1 _ _ ⟨rfl, rfl, he67⟩
         refine shW_env _ he67 ?_; clear he67
         obtain ⟨p2, h68, r69⟩ := b1_ok r63; clear r63
         refine shW_join (fun e1 F1 L1 => F = F1 ∧ L1 = ((b43, .stringIter (sB x) (pos + 1)) :: ((b2, .cells #[.int .i64 (x.length : Int), .slice a44 n48 c45] 24 (0, 0)) :: ((b1, .cells #[.int .i64 0, .slice none 0 0] 24 (0, 0)) :: (Lb46 ++ [])))) ∧ e1.sub [(2, .pointer (some ⟨b1, 0, none⟩)), (3, .pointer (some ⟨b2, 0, none⟩)), (8, .int .i64 p2), (9, .slice rows_a rows.length rows_c), (10, .int .i64 (rows.length : Int)), (11, .int .i64 k), (19, .pointer (some ⟨b43, 0, none⟩))]) ?_ ?_
         · clear r69
           refine wsr (om rfl rfl ?_)
           refine ov (v_eql rfl rfl) rfl ?_
           refine shO_nil ?_
           refine shW_condP rfl (fun c70 => ?_) (fun c70 => ?_)
           · have r71 := ite_t h68 c70; clear h68
             refine shW_region (oa rfl rfl (shO_nil ?_))
             obtain rfl := inj1 r71
             exact mi kr ⟨rfl, rfl, (sc rfl (sc rfl (sc rfl (sc rfl (sc rfl (sc rfl (sc rfl (sn _))))))))⟩
           have r72 := ite_f h68 c70; clear h68
           refine shW_skip ?_
           obtain rfl := inj1 r72
           exact mi kr ⟨rfl, rfl, (sc rfl (sc rfl (sc rfl (sc rfl (sc rfl (sc rfl (sc rfl (sn _))))))))⟩
         rintro e1 _ _ ⟨rfl, rfl, he73⟩
         refine shW_env _ he73 ?_; clear he73
         refine shW_region ?_
         refine ov (v_fieldAddr fa_24_1 rfl) rfl ?_
         refine ov (v_load Tryz.isAgg22 rfl (Has.own 1 rfl) rfl) rfl ?_
         refine om rfl rfl ?_
         refine o_buildSlice (cs := #[.int .i64 p2]) rfl rfl (buildSlice_all slt_22 [.int .i64 p2] rfl (by decide) (by simp [Value.cells]) (by decide)) ?_; intro b74 hb74
         obtain ⟨t, h75, g76, r77⟩ := ap_ok r69; clear r69
         refine o_appZ (xs := t_plots4) (ys := [p2]) (zs := t) rfl slt_22 rfl rfl (Nat.le_refl _) (fun _ => .c (.c (.c (.c .h)))) hz47 (SrcR.box (vss := [[.int .i64 p2]]) (ys := [p2]) 0 rfl (iE_ok _) (.cons rfl .nil) rfl rfl) h75 g76 (by decide) ?_; intro a78 n82 c79 Lb80 hz81
         refine kO (kd kr) ?_
         refine ov (v_fieldAddr fa_24_1 rfl) rfl ?_
         refine o_store (i := 1) Tryz.sizeOf22 rfl rfl rfl rfl (Nat.le_of_ble_eq_true rfl) ?_
         refine shO_L (L' := (b43, .stringIter (sB x) (pos + 1)) :: ((b2, .cells #[.int .i64 (x.length : Int), .slice a78 n82 c79] 24 (0, 0)) :: ((b1, .cells #[.int .i64 0, .slice none 0 0] 24 (0, 0)) :: (Lb80 ++ [])))) rfl ?_
         refine shO_nil (inBlock_n (id := 3) ?_)
         exact le kr ⟨t, pos + 1, a78, n82, c79, Lb80, r77, rfl, rfl, (sc rfl (sc rfl (sc rfl (sc rfl (sc rfl (sc rfl (sn _))))))), hz81⟩
       have r84 := ite_f r52 c54; clear r52
       refine o_nextStr0 (i := 0) (s := x) rfl rfl rfl c54 ?_
       refine ox rfl rfl rfl (shO_nil (shW_seq ?_))
       refine shW_cond rfl (fun c85 => nomatch c85) (fun c85 => ?_)
       refine shW_exit (andThen_exit (andThen_exit ?_))
       refine inBlock_exit ?_
       refine inBlock_n (id := 1) ?_
       obtain rfl := inj1 r84
       exact mi (kd kr) ⟨a44, n48, c45, Lb46, rfl, rfl, (sc rfl (sc rfl (sc rfl (sc rfl (sc rfl (sn _)))))), hz47⟩
     rintro e1 _ _ ⟨a26, n30, c27, Lb28, rfl, rfl, he86, hz29⟩
     refine shW_env _ he86 ?_; clear he86
     refine shW_region ?_
     refine ov (v_add rfl rfl (Lst.r64 hk17 c22 (RowR.lt h_rows))) rfl ?_
     refine om rfl rfl (shO_nil ?_)
     subst hn18; exact le kr ⟨_, _, rfl, hk23, (x.length : Int), t_plots3, a26, n30, c27, Lb28, r33, rfl, rfl, (sc rfl (sc rfl (sc rfl (sc rfl (sc rfl (sn _)))))), hz29⟩
   obtain rfl := Lst.zero hk17 c22
   rw [oyezlaw01_Drawn_l1] at r19
   refine shW_exit (andThen_exit (andThen_exit ?_))
   refine inBlock_exit ?_
   obtain ⟨rfl, rfl⟩ := inj2 r19
   exact mi kr ⟨a11, n15, c12, Lb13, rfl, rfl, (sc rfl (sc rfl (sn _))), hz14⟩
 rintro e1 _ _ ⟨a3, n7, c4, Lb5, rfl, rfl, he87, hz6⟩
 refine shW_env _ he87 ?_; clear he87
 refine wsr ?_
 refine ov (v_loadA (cs := #[.int .i64 t_wide, .slice a3 n7 c4]) Tryz.isAgg24 Tryz.sizeOf24 rfl (Has.own 0 rfl) (Nat.le_of_ble_eq_true rfl) rfl) rfl ?_
 refine o_storeA (i := 1) Tryz.sizeOf24 rfl rfl rfl (by simp [Value.oneCell']) rfl (Nat.le_of_ble_eq_true rfl) ?_
 refine shO_L (L' := (b2, .cells #[.int .i64 t_wide, .slice a3 n7 c4] 24 (0, 0)) :: ((b1, .cells #[.int .i64 t_wide, .slice a3 n7 c4] 24 (0, 0)) :: (Lb5 ++ []))) rfl ?_
 refine shO_nil ?_
 refine kW (kd kr) ?_
 refine shW_ret ?_
 refine q_res1 Tryz.results33 (res_cellA (cs := #[.int .i64 t_wide, .slice a3 n7 c4]) Tryz.isAgg24 Tryz.sizeOf24 rfl (Has.own 0 rfl) (Nat.le_of_ble_eq_true rfl) rfl) (s1 (s4 sr)) ?_
 obtain ⟨rfl, rfl⟩ := inj2 r10
 exact ⟨_, _, _, _, rfl, rfl, hz6.any⟩
set_option maxHeartbeats 1000000 in
theorem hear_standing_w {wide : Int} {plots_a : Option Addr} {plots_c : Nat} {plots : List Int} {wind : Int} {stand : Int} {F : FS} (h_plots : RowR 1 (iE .i64) F plots_a plots_c plots) {r : Option (Int × (List Int) × Int × Int × Bool)} {r2 : Int} (hr : hear_standing wide plots wind stand = some (r, r2)) :
    SH.Spec Tryz.prog 80 #[.agg #[.int .i64 wide, .slice plots_a plots.length plots_c], .int .i64 wind, .int .i64 stand] F [] fun F' L' v => ∃ (rv : Value), v = .tuple #[rv, .int .i64 r2] ∧ L' = [] ∧ PtrR 142 (prE (iE .i64) (prE (slE 1 (iE .i64)) (prE (iE .i64) (prE (iE .i64) bE)))) F' rv r := by
 refine spec_of_shW (args := [.agg #[.int .i64 wide, .slice plots_a plots.length plots_c], .int .i64 wind, .int .i64 stand]) Tryz.func80 rfl Tryz.ntmps80 (Nat.le_of_ble_eq_true rfl) ?_
 intro K _ _; rw [hear_standing] at hr
 refine wsr ?_
 refine o_box rfl rfl ?_; intro b1 hb1
 refine oa rfl rfl (oa rfl rfl (nsr ?_))
 refine ov (v_loadA (cs := #[.int .i64 wide, .slice plots_a plots.length plots_c]) Tryz.isAgg24 Tryz.sizeOf24 rfl (Has.own 0 rfl) (Nat.le_of_ble_eq_true rfl) rfl) rfl ?_
 refine om rfl rfl ?_
 obtain ⟨d, n, h2, r3⟩ := b2_ok hr; clear hr
 refine o_call0 rfl Tryz.call84 rfl rfl rfl (hear_opened_w h_plots h2) ?_; rintro _ F4 _ hF5 hn6 ⟨v8, rfl, rfl, hp9⟩
 replace h_plots := h_plots.mono (iE_ok _) hF5
 refine shO_L (ln rfl) ?_
 refine om rfl rfl (ox rfl rfl rfl (ox rfl rfl rfl (oa rfl rfl (oa rfl rfl (shO_nil (shW_seq (wsr (om rfl rfl ?_))))))))
 refine ov (v_neq rfl rfl) rfl ?_
 refine shO_nil ?_
 refine shW_condP rfl (fun c10 => ?_) (fun c10 => ?_)
 · have r11 := ite_t r3 c10; clear r3
   refine wsr (om rfl rfl (oa rfl rfl (oa rfl rfl (shO_nil ?_))))
   refine kW kn ?_
   refine shW_ret (andThen_ret ?_)
   refine q_res2 Tryz.results80 (res_tmp rfl) (res_tmp rfl) (sr) ?_
   obtain ⟨rfl, rfl⟩ := inj2 r11
   exact ⟨_, rfl, rfl, rfl⟩
 have r12 := ite_f r3 c10; clear r3
 refine shW_skip (shW_seq (wsr ?_))
 refine ov (v_loadA (cs := #[.int .i64 wide, .slice plots_a plots.length plots_c]) Tryz.isAgg24 Tryz.sizeOf24 rfl (Has.own 0 rfl) (Nat.le_of_ble_eq_true rfl) rfl) rfl ?_
 refine om rfl rfl ?_
 obtain ⟨n2, h13, r14⟩ := b1_ok r12; clear r12
 refine o_callV rfl Tryz.call72 rfl rfl rfl (hear_Town_is_w h_plots h13) ?_
 refine oa rfl rfl (nsr (om rfl rfl ?_))
 refine ov (v_neq rfl rfl) rfl ?_
 refine shO_nil ?_
 refine shW_condP rfl (fun c15 => ?_) (fun c15 => ?_)
 · have r16 := ite_t r14 c15; clear r14
   refine wsr (om rfl rfl (oa rfl rfl (oa rfl rfl (shO_nil ?_))))
   refine kW kn ?_
   refine shW_ret (andThen_ret ?_)
   refine q_res2 Tryz.results80 (res_tmp rfl) (res_tmp rfl) (sr) ?_
   obtain ⟨rfl, rfl⟩ := inj2 r16
   exact ⟨_, rfl, rfl, rfl⟩
 have r17 := ite_f r14 c15; clear r14
 refine shW_skip (wsr (om rfl rfl (oa rfl rfl (oa rfl rfl (shO_nil ?_)))))
 refine kW kn ?_
 refine shW_ret ?_
 refine q_res2 Tryz.results80 (res_tmp rfl) (res_tmp rfl) (sr) ?_
 obtain ⟨rfl, rfl⟩ := inj2 r17
 exact ⟨_, rfl, rfl, hp9⟩
set_option maxHeartbeats 1000000 in
theorem hear_Needs_w {wide : Int} {plots_a : Option Addr} {plots_c : Nat} {plots : List Int} {wind : Int} {stand : Int} {F : FS} (h_plots : RowR 1 (iE .i64) F plots_a plots_c plots) {r : List Int} {r2 : Int} (hr : hear_Needs wide plots wind stand = some (r, r2)) :
    SH.Spec Tryz.prog 34 #[.agg #[.int .i64 wide, .slice plots_a plots.length plots_c], .int .i64 wind, .int .i64 stand] F [] fun F' L' v => ∃ (ra : Option Addr) (rn : Nat) (rc : Nat) (rL : LH), v = .tuple #[.slice ra rn rc, .int .i64 r2] ∧ L' = rL ++ [] ∧ SlR 0 3 1 (iE .i64) F' ra rn rc r rL := by
 refine spec_of_shW (args := [.agg #[.int .i64 wide, .slice plots_a plots.length plots_c], .int .i64 wind, .int .i64 stand]) Tryz.func34 rfl Tryz.ntmps34 (Nat.le_of_ble_eq_true rfl) ?_
 intro K _ _; rw [hear_Needs] at hr
 refine wsr ?_
 refine o_box rfl rfl ?_; intro b1 hb1
 refine oa rfl rfl (oa rfl rfl (nsr ?_))
 refine ov (v_loadA (cs := #[.int .i64 wide, .slice plots_a plots.length plots_c]) Tryz.isAgg24 Tryz.sizeOf24 rfl (Has.own 0 rfl) (Nat.le_of_ble_eq_true rfl) rfl) rfl ?_
 refine om rfl rfl (om rfl rfl ?_)
 obtain ⟨d, n, h2, r3⟩ := b2_ok hr; clear hr
 refine o_call0 rfl Tryz.call80 rfl rfl rfl (hear_standing_w h_plots h2) ?_; rintro _ F4 _ hF5 hn6 ⟨v8, rfl, rfl, hp9⟩
 refine shO_L (ln rfl) ?_
 refine om rfl rfl (ox rfl rfl rfl (ox rfl rfl rfl (oa rfl rfl (oa rfl rfl (shO_nil (shW_seq (wsr (om rfl rfl ?_))))))))
 refine ov (v_neq rfl rfl) rfl ?_
 refine shO_nil ?_
 refine shW_condP rfl (fun c10 => ?_) (fun c10 => ?_)
 · have r11 := ite_t r3 c10; clear r3
   refine wsr (om rfl rfl (oa rfl rfl (oa rfl rfl (shO_nil ?_))))
   refine kW kn ?_
   refine shW_ret (andThen_ret ?_)
   refine q_res2 Tryz.results34 (res_tmp rfl) (res_tmp rfl) (sr) ?_
   obtain ⟨rfl, rfl⟩ := inj2 r11
   exact ⟨_, _, _, [], rfl, rfl, SlR.nil _ _ _ _ _⟩
 have r12 := ite_f r3 c10; clear r3
 refine shW_skip (wsr (om rfl rfl (om rfl rfl ?_)))
 obtain ⟨wide2, plots2, down, right_, blows, h13, r14⟩ := b5_ok r12; clear r12
 have h23 := hp9; rw [h13] at h23; obtain ⟨b15, c16, m17, hv18, hz19, ⟨_, _, rfl, rfl, ⟨_, _, rfl, ⟨a20, c21, rfl, h22⟩, ⟨_, _, rfl, rfl, ⟨_, _, rfl, rfl, rfl⟩⟩⟩⟩⟩ := h23; subst hv18
 have hz19 : F4 b15 = some (.cells #[.int .i64 wide2, .slice a20 plots2.length c21, .int .i64 down, .int .i64 right_, .bool blows] 142 m17) := hz19
 obtain ⟨l, h24, r25⟩ := b1_ok r14; clear r14
 refine o_call0 rfl Tryz.call81 rfl rfl rfl (hear_desk_from_w hz19 h22 h24) ?_; rintro _ F26 _ hF27 hn28 ⟨a30, n34, c31, Lb32, rfl, rfl, hz33⟩
 replace hz33 := hz33.new fun p hp => hn28 p (by simp [hp])
 refine shO_L (lp (ln rfl)) ?_
 refine kO (kf (fS fO) kr) ?_
 refine oa rfl rfl (oa rfl rfl (shO_nil ?_))
 refine kW (kd kr) ?_
 refine shW_ret ?_
 refine q_res2 Tryz.results34 (res_tmp rfl) (res_tmp rfl) (sr) ?_
 obtain ⟨rfl, rfl⟩ := inj2 r25
 exact ⟨_, _, _, _, rfl, rfl, hz33.any⟩
set_option maxHeartbeats 1000000 in
theorem hear_Holds_w {wide : Int} {plots_a : Option Addr} {plots_c : Nat} {plots : List Int} {wind : Int} {stand : Int} {table_a : Option Addr} {table_c : Nat} {table : List Int} {F : FS} (h_plots : RowR 1 (iE .i64) F plots_a plots_c plots) (h_table : RowR 1 (iE .i64) F table_a table_c table) {r : Bool} {r2 : Int} (hr : hear_Holds wide plots wind stand table = some (r, r2)) :
    SpecV Tryz.prog 35 #[.agg #[.int .i64 wide, .slice plots_a plots.length plots_c], .int .i64 wind, .int .i64 stand, .slice table_a table.length table_c] F (.tuple #[.bool r, .int .i64 r2]) := by
 refine spec_of_shW (args := [.agg #[.int .i64 wide, .slice plots_a plots.length plots_c], .int .i64 wind, .int .i64 stand, .slice table_a table.length table_c]) Tryz.func35 rfl Tryz.ntmps35 (Nat.le_of_ble_eq_true rfl) ?_
 intro K _ _; rw [hear_Holds] at hr
 refine wsr ?_
 refine o_box rfl rfl ?_; intro b1 hb1
 refine o_box rfl rfl ?_; intro b2 hb2
 refine o_alloc rfl Tryz.zeroValue4 ?_; intro b3 hb3
 refine o_alloc rfl Tryz.zeroValue36 ?_; intro b4 hb4
 refine nsr ?_
 refine ov (v_loadA (cs := #[.int .i64 wide, .slice plots_a plots.length plots_c]) Tryz.isAgg24 Tryz.sizeOf24 rfl (Has.own 3 rfl) (Nat.le_of_ble_eq_true rfl) rfl) rfl ?_
 refine om rfl rfl (om rfl rfl ?_)
 obtain ⟨d, n, h5, r6⟩ := b2_ok hr; clear hr
 refine o_call0 rfl Tryz.call80 rfl rfl rfl (hear_standing_w h_plots h5) ?_; rintro _ F7 _ hF8 hn9 ⟨v11, rfl, rfl, hp12⟩
 replace h_plots := h_plots.mono (iE_ok _) hF8
 replace h_table := h_table.mono (iE_ok _) hF8
 refine shO_L (ln rfl) ?_
 refine om rfl rfl (ox rfl rfl rfl (ox rfl rfl rfl (oa rfl rfl (oa rfl rfl (shO_nil (shW_seq ?_))))))
 refine shW_block ?_
 refine wsr (om rfl rfl ?_)
 refine ov (v_neq rfl rfl) rfl ?_
 refine oa rfl rfl (shO_nil ?_)
 refine shW_condP rfl (fun c13 => ?_) (fun c13 => ?_)
 · have r14 := ite_t r6 c13; clear r6
   refine wsr (om rfl rfl ?_)
   refine o_store (i := 1) Tryz.sizeOf4 rfl rfl rfl rfl (Nat.le_of_ble_eq_true rfl) ?_
   refine shO_L (L' := [(b4, .cells #[.int .i64 0] 36 (0, 0)), (b3, .cells #[.bool false] 4 (0, 0)), (b2, .cells #[.slice table_a table.length table_c] 28 (0, 0)), (b1, .cells #[.int .i64 wide, .slice plots_a plots.length plots_c] 24 (0, 0))]) rfl ?_
   refine o_store (i := 0) Tryz.sizeOf36 rfl rfl rfl rfl (Nat.le_of_ble_eq_true rfl) ?_
   refine shO_L (L' := [(b4, .cells #[.int .i64 n] 36 (0, 0)), (b3, .cells #[.bool false] 4 (0, 0)), (b2, .cells #[.slice table_a table.length table_c] 28 (0, 0)), (b1, .cells #[.int .i64 wide, .slice plots_a plots.length plots_c] 24 (0, 0))]) rfl ?_
   refine shO_nil ?_
   refine kW (kc (kc kn)) ?_
   refine shW_ret (inBlock_ret (andThen_ret ?_))
   refine q_res2 Tryz.results35 (res_cell Tryz.isAgg4 rfl (Has.own 1 rfl) rfl) (res_cell Tryz.isAgg36 rfl (Has.own 0 rfl) rfl) (s1 (s1 sr)) ?_
   obtain ⟨rfl, rfl⟩ := inj2 r14
   exact rfl
 have r15 := ite_f r6 c13; clear r6
 refine wsr ?_
 refine ov (v_load Tryz.isAgg28 rfl (Has.own 2 rfl) rfl) rfl ?_
 refine ov (v_lenS Tryz.underlying28 rfl) rfl ?_
 refine ov (v_fieldAddr fa_24_1 rfl) rfl ?_
 refine ov (v_load Tryz.isAgg22 rfl (Has.own 3 rfl) rfl) rfl ?_
 refine ov (v_lenS Tryz.underlying22 rfl) rfl ?_
 refine ov (v_neq rfl rfl) rfl ?_
 refine oa rfl rfl (shO_nil ?_)
 refine shW_condP rfl (fun c16 => ?_) (fun c16 => ?_)
 · have r17 := ite_t r15 c16; clear r15
   refine wsr ?_
   refine o_store (i := 1) Tryz.sizeOf4 rfl rfl rfl rfl (Nat.le_of_ble_eq_true rfl) ?_
   refine shO_L (L' := [(b4, .cells #[.int .i64 0] 36 (0, 0)), (b3, .cells #[.bool false] 4 (0, 0)), (b2, .cells #[.slice table_a table.length table_c] 28 (0, 0)), (b1, .cells #[.int .i64 wide, .slice plots_a plots.length plots_c] 24 (0, 0))]) rfl ?_
   refine o_store (i := 0) Tryz.sizeOf36 rfl rfl rfl rfl (Nat.le_of_ble_eq_true rfl) ?_
   refine shO_L (L' := [(b4, .cells #[.int .i64 2] 36 (0, 0)), (b3, .cells #[.bool false] 4 (0, 0)), (b2, .cells #[.slice table_a table.length table_c] 28 (0, 0)), (b1, .cells #[.int .i64 wide, .slice plots_a plots.length plots_c] 24 (0, 0))]) rfl ?_
   refine shO_nil ?_
   refine kW (kc (kc kn)) ?_
   refine shW_ret (inBlock_ret (andThen_ret ?_))
   refine q_res2 Tryz.results35 (res_cell Tryz.isAgg4 rfl (Has.own 1 rfl) rfl) (res_cell Tryz.isAgg36 rfl (Has.own 0 rfl) rfl) (s1 (s1 sr)) ?_
   obtain ⟨rfl, rfl⟩ := inj2 r17
   exact rfl
 have r18 := ite_f r15 c16; clear r15
 refine wsr ?_
 refine ov (v_load Tryz.isAgg28 rfl (Has.own 2 rfl) rfl) rfl ?_
 refine om rfl rfl ?_
 obtain ⟨x, g19, hx20, r21⟩ := ix_ok r18; clear r18
 obtain ⟨b22, o23, c24, vs25, ha26, hs27, hle28, rfl, hl29, hc30⟩ := RowR.at (iE_ok _) h_table ([(b4, .cells #[.int .i64 0] 36 (0, 0)), (b3, .cells #[.bool false] 4 (0, 0)), (b2, .cells #[.slice table_a table.length table_c] 28 (0, 0)), (b1, .cells #[.int .i64 wide, .slice plots_a plots.length plots_c] 24 (0, 0))]) g19.1 hx20
 refine ov (v_indexO Tryz.underlying28 Tryz.sizeOf3 rfl ha26 rfl g19) rfl ?_
 refine ov (v_load Tryz.isAgg3 rfl hs27 (hc30 0 (by decide))) rfl ?_
 refine ov (v_neq rfl rfl) rfl ?_
 refine oa rfl rfl (shO_nil ?_)
 refine shW_condP rfl (fun c31 => ?_) (fun c31 => ?_)
 · have r32 := ite_t r21 c31; clear r21
   refine wsr ?_
   refine o_store (i := 1) Tryz.sizeOf4 rfl rfl rfl rfl (Nat.le_of_ble_eq_true rfl) ?_
   refine shO_L (L' := [(b4, .cells #[.int .i64 0] 36 (0, 0)), (b3, .cells #[.bool false] 4 (0, 0)), (b2, .cells #[.slice table_a table.length table_c] 28 (0, 0)), (b1, .cells #[.int .i64 wide, .slice plots_a plots.length plots_c] 24 (0, 0))]) rfl ?_
   refine o_store (i := 0) Tryz.sizeOf36 rfl rfl rfl rfl (Nat.le_of_ble_eq_true rfl) ?_
   refine shO_L (L' := [(b4, .cells #[.int .i64 0] 36 (0, 0)), (b3, .cells #[.bool false] 4 (0, 0)), (b2, .cells #[.slice table_a table.length table_c] 28 (0, 0)), (b1, .cells #[.int .i64 wide, .slice plots_a plots.length plots_c] 24 (0, 0))]) rfl ?_
   refine shO_nil ?_
   refine kW (kc (kc kn)) ?_
   refine shW_ret (inBlock_ret (andThen_ret ?_))
   refine q_res2 Tryz.results35 (res_cell Tryz.isAgg4 rfl (Has.own 1 rfl) rfl) (res_cell Tryz.isAgg36 rfl (Has.own 0 rfl) rfl) (s1 (s1 sr)) ?_
   obtain ⟨rfl, rfl⟩ := inj2 r32
   exact rfl
 have r33 := ite_f r21 c31; clear r21
 refine shW_skip (inBlock_n (id := 0) ?_)
 refine shW_join (fun e1 F1 L1 => hear_Holds_j1 = some (r, r2) ∧ FExt F7 F1 ∧ L1 = [(b4, .cells #[.int .i64 0] 36 (0, 0)), (b3, .cells #[.bool false] 4 (0, 0))] ∧ e1.sub [(8, .pointer (some ⟨b3, 0, none⟩)), (9, .pointer (some ⟨b4, 0, none⟩))]) ?_ ?_
 · refine wsr ?_
   refine ov (v_fieldAddr fa_24_1 rfl) rfl ?_
   refine ov (v_load Tryz.isAgg22 rfl (Has.own 3 rfl) rfl) rfl ?_
   refine ov (v_lenS Tryz.underlying22 rfl) rfl ?_
   refine om rfl rfl (shO_nil ?_)
   refine shW_block ?_
   refine shW_lp (fun fu2 e1 F1 L1 => ∃ (tl : List Int) (k : Int), tl.length = fu2 ∧ Lst plots k tl ∧ ∃ (v34 : Value), hear_Holds_l2 wide plots table d tl k = some (r, r2) ∧ FExt F7 F1 ∧ L1 = [(b4, .cells #[.int .i64 0] 36 (0, 0)), (b3, .cells #[.bool false] 4 (0, 0)), (b2, .cells #[.slice table_a table.length table_c] 28 (0, 0)), (b1, .cells #[.int .i64 wide, .slice plots_a plots.length plots_c] 24 (0, 0))] ∧ e1.sub [(4, .pointer (some ⟨b1, 0, none⟩)), (7, .pointer (some ⟨b2, 0, none⟩)), (8, .pointer (some ⟨b3, 0, none⟩)), (9, .pointer (some ⟨b4, 0, none⟩)), (10, v34), (41, .int .i64 (plots.length : Int)), (42, .int .i64 k)] ∧ PtrR 142 (prE (iE .i64) (prE (slE 1 (iE .i64)) (prE (iE .i64) (prE (iE .i64) bE)))) F1 v34 d) _ (m0 kr ⟨_, _, rfl, Lst.start _, v11, r33, FExt.refl _, rfl, (sc rfl (sc rfl (sc rfl (sc rfl (sc rfl (sc rfl (sc rfl (sn _)))))))), hp12⟩) ?_
   rintro fu2 e1 F40 _ ⟨tl, k, hn37, hk36, v34, r38, hF41, rfl, he39, hp35⟩
   refine shW_env _ he39 ?_; clear he39
   replace h_plots := h_plots.mono (iE_ok _) hF41
   replace h_table := h_table.mono (iE_ok _) hF41
   refine wsr ?_
   refine ov (v_lssK rfl rfl) rfl ?_
   refine shO_nil (shW_seq ?_)
   refine shW_condP rfl (fun c43 => ?_) (fun c43 => ?_)
   · obtain ⟨x2, tl2, rfl, hx45, g46, hk44⟩ := Lst.succ hk36 c43
     rw [hear_Holds_l2] at r38
     refine shW_skip ?_
     refine shW_join (fun e1 F1 L1 => ∃ (v47 : Value), hear_Holds_j3 k (hear_Holds_l2 wide plots table d tl2) = some (r, r2) ∧ FExt F40 F1 ∧ L1 = [(b4, .cells #[.int .i64 0] 36 (0, 0)), (b3, .cells #[.bool false] 4 (0, 0)), (b2, .cells #[.slice table_a table.length table_c] 28 (0, 0)), (b1, .cells #[.int .i64 wide, .slice plots_a plots.length plots_c] 24 (0, 0))] ∧ e1.sub [(4, .pointer (some ⟨b1, 0, none⟩)), (7, .pointer (some ⟨b2, 0, none⟩)), (8, .pointer (some ⟨b3, 0, none⟩)), (9, .pointer (some ⟨b4, 0, none⟩)), (10, v47), (41, .int .i64 (plots.length : Int)), (42, .int .i64 k)] ∧ PtrR 142 (prE (iE .i64) (prE (slE 1 (iE .i64)) (prE (iE .i64) (prE (iE .i64) bE)))) F1 v47 d) ?_ ?_
     · refine shW_block ?_
       refine wsr (om rfl rfl ?_)
       refine o_alloc rfl Tryz.zeroValue3 ?_; intro b49 hb49
       refine o_store (i := 0) Tryz.sizeOf3 rfl rfl rfl rfl (Nat.le_of_ble_eq_true rfl) ?_
       refine shO_L (L' := [(b49, .cells #[.int .i64 k] 3 (0, 0)), (b4, .cells #[.int .i64 0] 36 (0, 0)), (b3, .cells #[.bool false] 4 (0, 0)), (b2, .cells #[.slice table_a table.length table_c] 28 (0, 0)), (b1, .cells #[.int .i64 wide, .slice plots_a plots.length plots_c] 24 (0, 0))]) rfl ?_
       refine nsr (om rfl rfl ?_)
       refine ov (v_load Tryz.isAgg3 rfl (Has.own 0 rfl) rfl) rfl ?_
       obtain ⟨wide2, plots2, down, right_, blows, h50, r51⟩ := b5_ok r38; clear r38
       have h60 := hp35; rw [h50] at h60; obtain ⟨b52, c53, m54, hv55, hz56, ⟨_, _, rfl, rfl, ⟨_, _, rfl, ⟨a57, c58, rfl, h59⟩, ⟨_, _, rfl, rfl, ⟨_, _, rfl, rfl, rfl⟩⟩⟩⟩⟩ := h60; subst hv55
       have hz56 : F40 b52 = some (.cells #[.int .i64 wide2, .slice a57 plots2.length c58, .int .i64 down, .int .i64 right_, .bool blows] 142 m54) := hz56
       obtain ⟨y, h61, r62⟩ := b1_ok r51; clear r51
       refine o_call0 rfl Tryz.call82 rfl rfl rfl (hear_desk_next_w hz56 h59 h61) ?_; rintro _ F63 _ hF64 hn65 ⟨cp67, rfl, rfl, hit68⟩
       replace h_plots := h_plots.mono (iE_ok _) hF64
       replace h_table := h_table.mono (iE_ok _) hF64
       replace hp35 := hp35.mono (prE_ok (iE_ok _) (prE_ok (slE_ok (iE_ok _)) (prE_ok (iE_ok _) (prE_ok (iE_ok _) bE_ok)))) hF64
       refine shO_L (ln rfl) ?_
       refine shO_nil ?_
       refine shW_block ?_
       refine shW_rangeFunc (encs := (fun x : Int × Int => #[.int .i64 x.1, .int .i64 x.2])) (xs := y) rfl Tryz.call109 rfl (fun _ => rfl) hit68 (fun pre F1 L1 => ∃ (tl3 : List (Int × Int)), y = pre ++ tl3 ∧ hear_Holds_l4 wide plots table k (hear_Holds_l2 wide plots table d tl2) tl3 = some (r, r2) ∧ L1 = [(b49, .cells #[.int .i64 k] 3 (0, 0)), (b4, .cells #[.int .i64 0] 36 (0, 0)), (b3, .cells #[.bool false] 4 (0, 0)), (b2, .cells #[.slice table_a table.length table_c] 28 (0, 0)), (b1, .cells #[.int .i64 wide, .slice plots_a plots.length plots_c] 24 (0, 0))]) (fun c F1 L1 => c = .ret ∧ hear_Holds_j5 = some (r, r2) ∧ L1 = [(b4, .cells #[.int .i64 0] 36 (0, 0)), (b3, .cells #[.bool false] 4 (0, 0))]) ?_ ?_ ?_ ?_ ?_ ?_
       · rintro pre F1 F2 L1 ⟨tl3, hs69, r70, rfl⟩ hx; exact ⟨tl3, hs69, r70, rfl⟩
       · rintro c F1 F2 L1 ⟨rfl, hq, rfl⟩ hx; exact ⟨rfl, hq, rfl⟩
       · exact ⟨_, rfl, r62, rfl⟩
       · rintro l71 wr72 Fr73 Xr74 Ha75 Hb76 hnb77 hH81 pre x3 tl4 hxs80 F78 _ hF79 ⟨tl3, hs69, r82, rfl⟩
         obtain rfl := rest_head hs69 hxs80
         rw [hear_Holds_l4] at r82
         replace h_plots := h_plots.mono (iE_ok _) hF79
         replace h_table := h_table.mono (iE_ok _) hF79
         refine shW_env [(4, .pointer (some ⟨b1, 0, none⟩)), (7, .pointer (some ⟨b2, 0, none⟩)), (8, .pointer (some ⟨b3, 0, none⟩)), (9, .pointer (some ⟨b4, 0, none⟩)), (10, .pointer (some ⟨b52, 0, none⟩)), (12, .pointer (some ⟨b49, 0, none⟩)), (41, .int .i64 (plots.length : Int)), (42, .int .i64 k), (48, .int .i64 x3.1), (49, .int .i64 x3.2)] (by exact (sc rfl (sc rfl (sc rfl (sc rfl (sc rfl (sc rfl (sc rfl (sc rfl (sc rfl (sc rfl (sn _)))))))))))) ?_
         refine wsr (oa rfl rfl (shO_nil (shW_region (oa rfl rfl (shO_nil ?_)))))
         refine ⟨rfl, ?_⟩
         refine shW_block ?_
         obtain ⟨k2, h83, r84⟩ := b1_ok r82; clear r82
         refine shW_join (fun e1 F1 L1 => F78 = F1 ∧ L1 = [(b49, .cells #[.int .i64 k] 3 (0, 0)), (b4, .cells #[.int .i64 0] 36 (0, 0)), (b3, .cells #[.bool false] 4 (0, 0)), (b2, .cells #[.slice table_a table.length table_c] 28 (0, 0)), (b1, .cells #[.int .i64 wide, .slice plots_a plots.length plots_c] 24 (0, 0))] ∧ e1.sub [(4, .pointer (some ⟨b1, 0, none⟩)), (7, .pointer (some ⟨b2, 0, none⟩)), (8, .pointer (some ⟨b3, 0, none⟩)), (9, .pointer (some ⟨b4, 0, none⟩)), (10, .pointer (some ⟨b52, 0, none⟩)), (12, .pointer (some ⟨b49, 0, none⟩)), (41, .int .i64 (plots.length : Int)), (42, .int .i64 k), (48, .int .i64 x3.1), (49, .int .i64 x3.2), (80, .bool k2)]) ?_ ?_
         · clear r84
           refine shW_draw (by kernel_rfl) (by kernel_rfl) (by kernel_rfl) ?_
           refine qv (v_loadA (cs := #[.int .i64 wide, .slice plots_a plots.length plots_c]) Tryz.isAgg24 Tryz.sizeOf24 rfl (Has.own 4 rfl) (Nat.le_of_ble_eq_true rfl) rfl) rfl ?_
           refine qv (v_load Tryz.isAgg3 rfl (Has.own 0 rfl) rfl) rfl ?_
           obtain ⟨ok, h85, r86⟩ := b1_ok h83; clear h83
           refine shQ_callV rfl Tryz.call83 rfl rfl rfl (hear_Town_wall_w h_plots h85) ?_
           refine qv (v_notB rfl) rfl ?_
           refine qm rfl rfl ?_
           rcases bool_two (!ok) with c87 | c87
           · have r88 := bt r86 c87; clear r86
             refine shQ_on (b := true) 54 rfl (EnvB rfl c87) ?_
             refine qv (v_load Tryz.isAgg28 rfl (Has.own 3 rfl) rfl) rfl ?_
             refine shQ_on (b := true) 54 rfl (EnvB rfl c87) (qm rfl rfl (shQ_on (b := true) 54 rfl (EnvB rfl c87) ?_))
             obtain ⟨x4, g89, hx90, r91⟩ := ix_ok r88; clear r88
             obtain ⟨b92, o93, c94, vs95, ha96, hs97, hle98, rfl, hl99, hc100⟩ := RowR.at (iE_ok _) h_table ([(b49, .cells #[.int .i64 k] 3 (0, 0)), (b4, .cells #[.int .i64 0] 36 (0, 0)), (b3, .cells #[.bool false] 4 (0, 0)), (b2, .cells #[.slice table_a table.length table_c] 28 (0, 0)), (b1, .cells #[.int .i64 wide, .slice plots_a plots.length plots_c] 24 (0, 0))]) g89.1 hx90
             refine qv (v_indexO Tryz.underlying28 Tryz.sizeOf3 rfl ha96 rfl g89) rfl ?_
             refine shQ_on (b := true) 54 rfl (EnvB rfl c87) ?_
             refine qv (v_load Tryz.isAgg3 rfl hs97 (hc100 0 (by decide))) rfl ?_
             refine shQ_on (b := true) 54 rfl (EnvB rfl c87) ?_
             refine qv (v_load Tryz.isAgg28 rfl (Has.own 3 rfl) rfl) rfl ?_
             refine shQ_on (b := true) 54 rfl (EnvB rfl c87) ?_
             refine qv (v_load Tryz.isAgg3 rfl (Has.own 0 rfl) rfl) rfl ?_
             refine shQ_on (b := true) 54 rfl (EnvB rfl c87) ?_
             obtain ⟨x5, g101, hx102, r103⟩ := ix_ok r91; clear r91
             obtain ⟨b104, o105, c106, vs107, ha108, hs109, hle110, rfl, hl111, hc112⟩ := RowR.at (iE_ok _) h_table ([(b49, .cells #[.int .i64 k] 3 (0, 0)), (b4, .cells #[.int .i64 0] 36 (0, 0)), (b3, .cells #[.bool false] 4 (0, 0)), (b2, .cells #[.slice table_a table.length table_c] 28 (0, 0)), (b1, .cells #[.int .i64 wide, .slice plots_a plots.length plots_c] 24 (0, 0))]) g101.1 hx102
             refine qv (v_indexO Tryz.underlying28 Tryz.sizeOf3 rfl ha108 rfl g101) rfl ?_
             refine shQ_on (b := true) 54 rfl (EnvB rfl c87) ?_
             refine qv (v_load Tryz.isAgg3 rfl hs109 (hc112 0 (by decide))) rfl ?_
             refine shQ_on (b := true) 54 rfl (EnvB rfl c87) ?_
             refine qv (v_gtrK rfl rfl) rfl ?_
             refine qv (v_pick_t (evB rfl c87) rfl) rfl ?_
             refine qm rfl rfl ?_
             by_cases c113 : x5 < x4
             · have r114 := ite_t r103 c113; clear r103
               refine shQ_on (b := true) 65 rfl (Env.isT rfl c113) ?_
               refine qv (v_load Tryz.isAgg28 rfl (Has.own 3 rfl) rfl) rfl ?_
               refine shQ_on (b := true) 65 rfl (Env.isT rfl c113) (qm rfl rfl (shQ_on (b := true) 65 rfl (Env.isT rfl c113) ?_))
               obtain ⟨b115, o116, c117, vs118, ha119, hs120, hle121, rfl, hl122, hc123⟩ := RowR.at (iE_ok _) h_table ([(b49, .cells #[.int .i64 k] 3 (0, 0)), (b4, .cells #[.int .i64 0] 36 (0, 0)), (b3, .cells #[.bool false] 4 (0, 0)), (b2, .cells #[.slice table_a table.length table_c] 28 (0, 0)), (b1, .cells #[.int .i64 wide, .slice plots_a plots.length plots_c] 24 (0, 0))]) g89.1 hx90
               refine qv (v_indexO Tryz.underlying28 Tryz.sizeOf3 rfl ha119 rfl g89) rfl ?_
               refine shQ_on (b := true) 65 rfl (Env.isT rfl c113) ?_
               refine qv (v_load Tryz.isAgg3 rfl hs120 (hc123 0 (by decide))) rfl ?_
               refine shQ_on (b := true) 65 rfl (Env.isT rfl c113) ?_
               refine qv (u_conv rfl Tryz.underlying3 Tryz.underlying122 rfl) rfl ?_
               refine shQ_on (b := true) 65 rfl (Env.isT rfl c113) ?_
               refine qv (v_load Tryz.isAgg28 rfl (Has.own 3 rfl) rfl) rfl ?_
               refine shQ_on (b := true) 65 rfl (Env.isT rfl c113) ?_
               refine qv (v_load Tryz.isAgg3 rfl (Has.own 0 rfl) rfl) rfl ?_
               refine shQ_on (b := true) 65 rfl (Env.isT rfl c113) ?_
               obtain ⟨b124, o125, c126, vs127, ha128, hs129, hle130, rfl, hl131, hc132⟩ := RowR.at (iE_ok _) h_table ([(b49, .cells #[.int .i64 k] 3 (0, 0)), (b4, .cells #[.int .i64 0] 36 (0, 0)), (b3, .cells #[.bool false] 4 (0, 0)), (b2, .cells #[.slice table_a table.length table_c] 28 (0, 0)), (b1, .cells #[.int .i64 wide, .slice plots_a plots.length plots_c] 24 (0, 0))]) g101.1 hx102
               refine qv (v_indexO Tryz.underlying28 Tryz.sizeOf3 rfl ha128 rfl g101) rfl ?_
               refine shQ_on (b := true) 65 rfl (Env.isT rfl c113) ?_
               refine qv (v_load Tryz.isAgg3 rfl hs129 (hc132 0 (by decide))) rfl ?_
               refine shQ_on (b := true) 65 rfl (Env.isT rfl c113) ?_
               refine qv (u_conv rfl Tryz.underlying3 Tryz.underlying122 rfl) rfl ?_
               refine shQ_on (b := true) 65 rfl (Env.isT rfl c113) ?_
               refine qv (u_sub rfl rfl rfl) rfl ?_
               refine shQ_on (b := true) 65 rfl (Env.isT rfl c113) (qm rfl rfl (shQ_on (b := true) 65 rfl (Env.isT rfl c113) ?_))
               refine qv (u_conv rfl Tryz.underlying3 Tryz.underlying122 rfl) rfl ?_
               refine shQ_on (b := true) 65 rfl (Env.isT rfl c113) ?_
               refine qv (v_gtrK rfl rfl) rfl ?_
               refine qv (v_pick_t (evD_true rfl c113) rfl) rfl ?_
               refine shQ_nil ?_
               obtain rfl := inj1 r114
               exact mi kr ⟨rfl, rfl, (sc rfl (sc rfl (sc rfl (sc rfl (sc rfl (sc rfl (sc rfl (sc rfl (sc rfl (sc rfl (sc rfl (sn _))))))))))))⟩
             have r133 := ite_f r103 c113; clear r103
             refine shQ_off (b' := false) 65 rfl (Env.isF rfl c113) rfl rfl (shQ_off (b' := false) 65 rfl (Env.isF rfl c113) rfl rfl (shQ_off (b' := false) 65 rfl (Env.isF rfl c113) rfl rfl (shQ_off (b' := false) 65 rfl (Env.isF rfl c113) rfl rfl (shQ_off (b' := false) 65 rfl (Env.isF rfl c113) rfl rfl (shQ_off (b' := false) 65 rfl (Env.isF rfl c113) rfl rfl (shQ_off (b' := false) 65 rfl (Env.isF rfl c113) rfl rfl (shQ_off (b' := false) 65 rfl (Env.isF rfl c113) rfl rfl (shQ_off (b' := false) 65 rfl (Env.isF rfl c113) rfl rfl (shQ_off (b' := false) 65 rfl (Env.isF rfl c113) rfl rfl ?_)))))))))
             refine shQ_off (b' := false) 65 rfl (Env.isF rfl c113) rfl rfl (shQ_off (b' := false) 65 rfl (Env.isF rfl c113) rfl rfl (shQ_off (b' := false) 65 rfl (Env.isF rfl c113) rfl rfl (shQ_off (b' := false) 65 rfl (Env.isF rfl c113) rfl rfl ?_)))
             refine qv (v_pick_f (evD_false rfl c113) rfl) rfl ?_
             refine shQ_nil ?_
             obtain rfl := inj1 r133
             exact mi kr ⟨rfl, rfl, (sc rfl (sc rfl (sc rfl (sc rfl (sc rfl (sc rfl (sc rfl (sc rfl (sc rfl (sc rfl (sc rfl (sn _))))))))))))⟩
           have r134 := bf r86 c87; clear r86
           refine shQ_off (b' := false) 54 rfl (EnvB rfl c87) rfl rfl (shQ_off (b' := false) 54 rfl (EnvB rfl c87) rfl rfl (shQ_off (b' := false) 54 rfl (EnvB rfl c87) rfl rfl (shQ_off (b' := false) 54 rfl (EnvB rfl c87) rfl rfl (shQ_off (b' := false) 54 rfl (EnvB rfl c87) rfl rfl (shQ_off (b' := false) 54 rfl (EnvB rfl c87) rfl rfl (shQ_off (b' := false) 54 rfl (EnvB rfl c87) rfl rfl (shQ_off (b' := false) 54 rfl (EnvB rfl c87) rfl rfl (shQ_off (b' := false) 54 rfl (EnvB rfl c87) rfl rfl ?_))))))))
           refine qv (v_pick_f (evB rfl c87) rfl) rfl ?_
           refine qm rfl rfl (shQ_off (b' := false) 65 rfl rfl rfl rfl (shQ_off (b' := false) 65 rfl rfl rfl rfl (shQ_off (b' := false) 65 rfl rfl rfl rfl (shQ_off (b' := false) 65 rfl rfl rfl rfl (shQ_off (b' := false) 65 rfl rfl rfl rfl (shQ_off (b' := false) 65 rfl rfl rfl rfl (shQ_off (b' := false) 65 rfl rfl rfl rfl (shQ_off (b' := false) 65 rfl rfl rfl rfl (shQ_off (b' := false) 65 rfl rfl rfl rfl ?_)))))))))
           refine shQ_off (b' := false) 65 rfl rfl rfl rfl (shQ_off (b' := false) 65 rfl rfl rfl rfl (shQ_off (b' := false) 65 rfl rfl rfl rfl (shQ_off (b' := false) 65 rfl rfl rfl rfl (shQ_off (b' := false) 65 rfl rfl rfl rfl ?_))))
           refine qv (v_pick_f rfl rfl) rfl ?_
           refine shQ_nil ?_
           obtain rfl := inj1 r134
           exact mi kr ⟨rfl, rfl, (sc rfl (sc rfl (sc rfl (sc rfl (sc rfl (sc rfl (sc rfl (sc rfl (sc rfl (sc rfl (sc rfl (sn _))))))))))))⟩
         rintro e1 _ _ ⟨rfl, rfl, he135⟩
         refine shW_env _ he135 ?_; clear he135
         refine shW_cond rfl (fun c136 => ?_) (fun c136 => ?_)
         · have r137 := bt r84 c136; clear r84
           refine wsr ?_
           refine o_store (i := 2) Tryz.sizeOf4 rfl rfl rfl rfl (Nat.le_of_ble_eq_true rfl) ?_
           refine shO_L (L' := [(b49, .cells #[.int .i64 k] 3 (0, 0)), (b4, .cells #[.int .i64 0] 36 (0, 0)), (b3, .cells #[.bool false] 4 (0, 0)), (b2, .cells #[.slice table_a table.length table_c] 28 (0, 0)), (b1, .cells #[.int .i64 wide, .slice plots_a plots.length plots_c] 24 (0, 0))]) rfl ?_
           refine o_store (i := 1) Tryz.sizeOf36 rfl rfl rfl rfl (Nat.le_of_ble_eq_true rfl) ?_
           refine shO_L (L' := [(b49, .cells #[.int .i64 k] 3 (0, 0)), (b4, .cells #[.int .i64 0] 36 (0, 0)), (b3, .cells #[.bool false] 4 (0, 0)), (b2, .cells #[.slice table_a table.length table_c] 28 (0, 0)), (b1, .cells #[.int .i64 wide, .slice plots_a plots.length plots_c] 24 (0, 0))]) rfl ?_
           refine shO_nil (shW_ret (inBlock_ret ?_))
           refine ⟨[(b4, .cells #[.int .i64 0] 36 (0, 0)), (b3, .cells #[.bool false] 4 (0, 0))], s1 (s2 (s2 (s1 (s1 sr)))), ?_⟩; exact ⟨rfl, r137, rfl⟩
         have r138 := bf r84 c136; clear r84
         refine shW_skip (inBlock_n (id := 4) ?_)
         refine ⟨[(b49, .cells #[.int .i64 k] 3 (0, 0)), (b4, .cells #[.int .i64 0] 36 (0, 0)), (b3, .cells #[.bool false] 4 (0, 0)), (b2, .cells #[.slice table_a table.length table_c] 28 (0, 0)), (b1, .cells #[.int .i64 wide, .slice plots_a plots.length plots_c] 24 (0, 0))], sr, ?_⟩; exact ⟨_, (by rw [hxs80]; simp), r138, rfl⟩
       · rintro F139 _ hF140 ⟨tl3, hs69, r141, rfl⟩
         obtain rfl := rest_nil hs69; rw [hear_Holds_l4] at r141
         replace hp35 := hp35.mono (prE_ok (iE_ok _) (prE_ok (slE_ok (iE_ok _)) (prE_ok (iE_ok _) (prE_ok (iE_ok _) bE_ok)))) hF140
         refine inBlock_n (id := 3) (inBlock_n (id := 2) ?_)
         exact mi (kd kr) ⟨.pointer (some ⟨b52, 0, none⟩), r141, (hF64.trans hF140), rfl, (sc rfl (sc rfl (sc rfl (sc rfl (sc rfl (sc rfl (sc rfl (sn _)))))))), hp35⟩
       rintro _ F142 _ hF143 ⟨rfl, r144, rfl⟩
       rw [hear_Holds_j5] at r144
       refine shW_ret (inBlock_ret (inBlock_ret (andThen_ret (andThen_ret (inBlock_ret (andThen_ret ?_))))))
       refine q_res2 Tryz.results35 (res_cell Tryz.isAgg4 rfl (Has.own 1 rfl) rfl) (res_cell Tryz.isAgg36 rfl (Has.own 0 rfl) rfl) (s1 (s1 sr)) ?_
       obtain ⟨rfl, rfl⟩ := inj2 r144
       exact rfl
     rintro e1 F147 _ ⟨v47, r145, hF148, rfl, he146, hp48⟩
     refine shW_env _ he146 ?_; clear he146
     replace h_plots := h_plots.mono (iE_ok _) hF148
     rw [hear_Holds_j3] at r145
     refine shW_region ?_
     refine ov (v_add rfl rfl (Lst.r64 hk36 c43 (RowR.lt h_plots))) rfl ?_
     refine om rfl rfl (shO_nil ?_)
     subst hn37; exact le kr ⟨_, _, rfl, hk44, v47, r145, (hF41.trans hF148), rfl, (sc rfl (sc rfl (sc rfl (sc rfl (sc rfl (sc rfl (sc rfl (sn _)))))))), hp48⟩
   obtain rfl := Lst.zero hk36 c43
   rw [hear_Holds_l2] at r38
   refine shW_exit (andThen_exit (andThen_exit ?_))
   refine inBlock_exit ?_
   exact mi (kc (kc kn)) ⟨r38, hF41, rfl, (sc rfl (sc rfl (sn _)))⟩
 rintro e1 F151 _ ⟨r149, hF152, rfl, he150⟩
 refine shW_env _ he150 ?_; clear he150
 rw [hear_Holds_j1] at r149
 refine wsr ?_
 refine o_store (i := 1) Tryz.sizeOf4 rfl rfl rfl rfl (Nat.le_of_ble_eq_true rfl) ?_
 refine shO_L (L' := [(b4, .cells #[.int .i64 0] 36 (0, 0)), (b3, .cells #[.bool true] 4 (0, 0))]) rfl ?_
 refine o_store (i := 0) Tryz.sizeOf36 rfl rfl rfl rfl (Nat.le_of_ble_eq_true rfl) ?_
 refine shO_L (L' := [(b4, .cells #[.int .i64 0] 36 (0, 0)), (b3, .cells #[.bool true] 4 (0, 0))]) rfl ?_
 refine shO_nil (shW_ret ?_)
 refine q_res2 Tryz.results35 (res_cell Tryz.isAgg4 rfl (Has.own 1 rfl) rfl) (res_cell Tryz.isAgg36 rfl (Has.own 0 rfl) rfl) (s1 (s1 sr)) ?_
 obtain ⟨rfl, rfl⟩ := inj2 r149
 exact rfl
set_option maxHeartbeats 1000000 in
theorem hear_Louder_w {wide : Int} {plots_a : Option Addr} {plots_c : Nat} {plots : List Int} {wind : Int} {houses_a : Option Addr} {houses_c : Nat} {houses : List Int} {stands : Int} {F : FS} (h_plots : RowR 1 (iE .i64) F plots_a plots_c plots) (h_houses : RowR 1 (iE .i64) F houses_a houses_c houses) {r : Int} {r2 : Int} (hr : hear_Louder wide plots wind houses stands = some (r, r2)) :
    SpecV Tryz.prog 36 #[.agg #[.int .i64 wide, .slice plots_a plots.length plots_c], .int .i64 wind, .slice houses_a houses.length houses_c, .int .i64 stands] F (.tuple #[.int .i64 r, .int .i64 r2]) := by
 refine spec_of_shW (args := [.agg #[.int .i64 wide, .slice plots_a plots.length plots_c], .int .i64 wind, .slice houses_a houses.length houses_c, .int .i64 stands]) Tryz.func36 rfl Tryz.ntmps36 (Nat.le_of_ble_eq_true rfl) ?_
 intro K _ _; rw [hear_Louder] at hr
 refine wsr ?_
 refine o_box rfl rfl ?_; intro b1 hb1
 refine oa rfl rfl (oa rfl rfl (shO_nil ?_))
 refine shW_scope ?_
 refine shW_seq (wsr ?_)
 refine ov (v_loadA (cs := #[.int .i64 wide, .slice plots_a plots.length plots_c]) Tryz.isAgg24 Tryz.sizeOf24 rfl (Has.own 0 rfl) (Nat.le_of_ble_eq_true rfl) rfl) rfl ?_
 refine om rfl rfl ?_
 refine ov (v_build (v := .agg #[.int .i64 wind, .int .i64 40]) rfl (by intro w; kernel_rfl)) rfl ?_
 refine om rfl rfl ?_
 obtain ⟨l, y, n, h2, r3⟩ := b3_ok hr; clear hr
 refine o_call0 rfl Tryz.call40 rfl rfl rfl (hear_asked_w h_plots h_houses h2) ?_; rintro _ F4 _ hF5 hn6 ⟨a8, n12, c9, Lb10, v14, rfl, rfl, hz11, hp15⟩
 replace h_plots := h_plots.mono (iE_ok _) hF5
 replace h_houses := h_houses.mono (iE_ok _) hF5
 refine shO_L (lp (ln rfl)) ?_
 refine kO (kf (fS fO) kr) ?_
 refine om rfl rfl (ox rfl rfl rfl (ox rfl rfl rfl ?_))
 refine o_alloc rfl Tryz.zeroValue75 ?_; intro b16 hb16
 refine o_storeA (i := 0) Tryz.sizeOf75 rfl rfl rfl (List.forall_mem_cons.2 ⟨rfl, (List.forall_mem_cons.2 ⟨hp15.1, (fun _ h => absurd h List.not_mem_nil)⟩)⟩) rfl (Nat.le_of_ble_eq_true rfl) ?_
 refine shO_L (L' := (b16, .cells #[.slice a8 n12 c9, v14] 75 (0, 0)) :: ((b1, .cells #[.int .i64 wide, .slice plots_a plots.length plots_c] 24 (0, 0)) :: (Lb10 ++ []))) rfl ?_
 refine oa rfl rfl (nsr (om rfl rfl ?_))
 refine ov (v_neq rfl rfl) rfl ?_
 refine shO_nil ?_
 refine shW_condP rfl (fun c17 => ?_) (fun c17 => ?_)
 · have r18 := ite_t r3 c17; clear r3
   refine wsr (om rfl rfl (oa rfl rfl (oa rfl rfl (shO_nil ?_))))
   refine kW kn ?_
   refine shW_ret (andThen_ret (noGoto_ret ?_))
   refine q_res2 Tryz.results36 (res_tmp rfl) (res_tmp rfl) (sr) ?_
   obtain ⟨rfl, rfl⟩ := inj2 r18
   exact rfl
 have r19 := ite_f r3 c17; clear r3
 refine shW_skip (shW_seq (wsr (om rfl rfl ?_)))
 obtain ⟨ok, h20, r21⟩ := b1_ok r19; clear r19
 refine o_callV rfl Tryz.call68 rfl rfl rfl (hear_in_w h20) ?_
 refine ov (v_notB rfl) rfl ?_
 refine shO_nil ?_
 refine shW_cond rfl (fun c22 => ?_) (fun c22 => ?_)
 · have r23 := bt r21 c22; clear r21
   refine wsr (oa rfl rfl (oa rfl rfl (shO_nil ?_)))
   refine kW kn ?_
   refine shW_ret (andThen_ret (noGoto_ret ?_))
   refine q_res2 Tryz.results36 (res_tmp rfl) (res_tmp rfl) (sr) ?_
   obtain ⟨rfl, rfl⟩ := inj2 r23
   exact rfl
 have r24 := bf r21 c22; clear r21
 refine shW_skip (wsr (oa rfl rfl (shO_nil (shW_seq ?_))))
 refine shW_label ?_
 obtain ⟨out, h25, r26⟩ := b1_ok r24; clear r24
 refine shW_join (fun e1 F1 L1 => FExt F4 F1 ∧ L1 = [] ∧ e1.sub [(12, .int .i64 out)]) ?_ ?_
 · clear r26
   refine wsr (om rfl rfl (shO_nil ?_))
   refine shW_block ?_
   refine kW (kd (kc kn)) ?_
   obtain ⟨g27, r28⟩ := gd_ok h25; clear h25
   refine shW_lp (fun fu1 e1 F1 L1 => ∃ (k : Int), Ctr 0 40 k fu1 ∧ hear_Louder_l1 wide plots wind houses stands fu1 k = some out ∧ FExt F4 F1 ∧ L1 = [(b1, .cells #[.int .i64 wide, .slice plots_a plots.length plots_c] 24 (0, 0))] ∧ e1.sub [(1, .int .i64 wind), (2, .slice houses_a houses.length houses_c), (3, .int .i64 stands), (4, .pointer (some ⟨b1, 0, none⟩)), (12, .int .i64 0), (32, .int .i64 k)]) _ (m0 kr ⟨_, Ctr.start _ _, r28, FExt.refl _, rfl, (sc rfl (sc rfl (sc rfl (sc rfl (sc rfl (sc rfl (sn _)))))))⟩) ?_
   rintro fu1 e1 F33 _ ⟨k, hk29, r31, hF34, rfl, he32⟩
   refine shW_env _ he32 ?_; clear he32
   replace h_plots := h_plots.mono (iE_ok _) hF34
   replace h_houses := h_houses.mono (iE_ok _) hF34
   refine wsr ?_
   refine ov (v_lssK rfl rfl) rfl ?_
   refine shO_nil (shW_seq ?_)
   refine shW_condP rfl (fun c36 => ?_) (fun c36 => ?_)
   · obtain ⟨fu1, rfl, hk37⟩ := Ctr.succ hk29 c36
     rw [hear_Louder_l1] at r31
     refine shW_skip (shW_seq ?_)
     refine shW_block ?_
     refine wsr (om rfl rfl (oa rfl rfl (nsr ?_)))
     refine ov (v_loadA (cs := #[.int .i64 wide, .slice plots_a plots.length plots_c]) Tryz.isAgg24 Tryz.sizeOf24 rfl (Has.own 0 rfl) (Nat.le_of_ble_eq_true rfl) rfl) rfl ?_
     refine om rfl rfl (om rfl rfl ?_)
     refine ov (v_add rfl rfl (Ctr.r64 hk29 c36 g27)) rfl ?_
     refine ov (v_build (v := .agg #[.int .i64 wind, .int .i64 (k + 1)]) rfl (by intro w; kernel_rfl)) rfl ?_
     refine om rfl rfl ?_
     obtain ⟨l2, y2, n2, h38, r39⟩ := b3_ok r31; clear r31
     refine o_call0 rfl Tryz.call40 rfl rfl rfl (hear_asked_w h_plots h_houses h38) ?_; rintro _ F40 _ hF41 hn42 ⟨a44, n48, c45, Lb46, v50, rfl, rfl, hz47, hp51⟩
     replace hz47 := hz47.new fun p hp => hn42 p (by simp [hp])
     refine shO_L (lp (ln rfl)) ?_
     refine kO (kf (fS fO) kr) ?_
     refine om rfl rfl (ox rfl rfl rfl (ox rfl rfl rfl ?_))
     refine o_alloc rfl Tryz.zeroValue75 ?_; intro b52 hb52
     refine o_storeA (i := 0) Tryz.sizeOf75 rfl rfl rfl (List.forall_mem_cons.2 ⟨rfl, (List.forall_mem_cons.2 ⟨hp51.1, (fun _ h => absurd h List.not_mem_nil)⟩)⟩) rfl (Nat.le_of_ble_eq_true rfl) ?_
     refine shO_L (L' := (b52, .cells #[.slice a44 n48 c45, v50] 75 (0, 0)) :: ((b1, .cells #[.int .i64 wide, .slice plots_a plots.length plots_c] 24 (0, 0)) :: (Lb46 ++ []))) rfl ?_
     refine oa rfl rfl (nsr ?_)
     refine ov (v_loadA (cs := #[.slice a44 n48 c45, v50]) Tryz.isAgg75 Tryz.sizeOf75 rfl (Has.own 0 rfl) (Nat.le_of_ble_eq_true rfl) rfl) rfl ?_
     refine om rfl rfl ?_
     obtain ⟨g53, r54⟩ := gd_ok r39; clear r39
     obtain rfl := hp51.2 g53
     have hn55 : FnR Tryz.prog F40 88 #[] #[] (iE .i64) (Value.int .i64) (fun xx_ : Int => hear_ones xx_) := ⟨Tryz.call88, fun F2 h2 vs xx_ r ha hr => by obtain rfl := ha; exact hear_ones_w hr⟩
     obtain ⟨l3, n3, h56, r57⟩ := b2_ok r54; clear r54
     refine o_callTO (Lb := []) (Lt := Lb46 ++ []) (Lr := [(b52, .cells (#[.slice a44 n48 c45, .func (.func 88) #[] #[]]) 75 (0, 0)), (b1, .cells #[.int .i64 wide, .slice plots_a plots.length plots_c] 24 (0, 0))]) rfl Tryz.call44 rfl rfl rfl (pT ((fC (fC fP)).trans (pA pR)) (ln (lp (ln rfl)))) (fun F2 h2 h3 => by rw [(SlR.caps hz47).1]; exact hear_quarter_chosen_w (hz47.row (arE_ok (n := 30) (sz := 1) cB_ok) h2 (fun p hp => h3 p (List.mem_append_left _ hp))) (hn55.mono h2) h56) (fun _ _ _ _ hq => by obtain ⟨a62, n66, c63, Lb64, rfl, rfl, hz65⟩ := hq; exact ⟨_, _, _, _, rfl, rfl, hz65.flat (fun _ _ h => h)⟩) ?_; rintro _ F58 _ hF59 hd61 hn60 ⟨a62, n66, c63, Lb64, rfl, rfl, hz65⟩
     refine shO_L (lp (ln (lp (ln rfl)))) ?_
     refine kO (kf (fS (fS fO)) (kf (fS (fS fO)) kr)) ?_
     refine om rfl rfl (ox rfl rfl rfl (ox rfl rfl rfl (oa rfl rfl (oa rfl rfl (nsr (om rfl rfl (om rfl rfl ?_)))))))
     refine ov (v_lenS Tryz.underlying28 rfl) rfl ?_
     refine ov (v_eql rfl rfl) rfl ?_
     refine shO_nil ?_
     refine shW_condP rfl (fun c69 => ?_) (fun c69 => ?_)
     · have r70 := ite_t r57 c69; clear r57
       refine wsr (om rfl rfl ?_)
       refine ov (v_add rfl rfl (Ctr.r64 hk29 c36 g27)) rfl ?_
       refine oa rfl rfl (shO_nil (shW_exit ?_))
       refine inBlock_other rfl ?_
       refine andThen_exit (andThen_exit ?_)
       refine inBlock_exit ?_
       obtain rfl := inj1 r70
       exact mi kn ⟨((hF34.trans hF41).trans hF59), rfl, (sc rfl (sn _))⟩
     have r71 := ite_f r57 c69; clear r57
     refine shW_skip (inBlock_n (id := 1) (shW_region ?_))
     refine ov (v_add rfl rfl (Ctr.r64 hk29 c36 g27)) rfl ?_
     refine om rfl rfl (shO_nil ?_)
     exact le (kd (kc kn)) ⟨_, hk37, r71, ((hF34.trans hF41).trans hF59), rfl, (sc rfl (sc rfl (sc rfl (sc rfl (sc rfl (sc rfl (sn _)))))))⟩
   obtain rfl := Ctr.zero hk29 c36
   rw [hear_Louder_l1] at r31
   refine shW_exit (andThen_exit (andThen_exit ?_))
   refine inBlock_exit ?_
   obtain rfl := inj1 r31
   exact mi kn ⟨hF34, rfl, (sc rfl (sn _))⟩
 rintro e1 F73 _ ⟨hF74, rfl, he72⟩
 refine shW_env _ he72 ?_; clear he72
 refine shW_seq (wsr (om rfl rfl ?_))
 refine ov (v_eql rfl rfl) rfl ?_
 refine shO_nil ?_
 refine shW_condP rfl (fun c75 => ?_) (fun c75 => ?_)
 · have r76 := ite_t r26 c75; clear r26
   refine wsr (oa rfl rfl (oa rfl rfl (shO_nil (shW_ret (andThen_ret (noGoto_ret ?_))))))
   refine q_res2 Tryz.results36 (res_tmp rfl) (res_tmp rfl) (sr) ?_
   obtain ⟨rfl, rfl⟩ := inj2 r76
   exact rfl
 have r77 := ite_f r26 c75; clear r26
 refine shW_skip (wsr (om rfl rfl (oa rfl rfl (oa rfl rfl (shO_nil (shW_ret (noGoto_ret ?_)))))))
 refine q_res2 Tryz.results36 (res_tmp rfl) (res_tmp rfl) (sr) ?_
 obtain ⟨rfl, rfl⟩ := inj2 r77
 exact rfl
set_option maxHeartbeats 1000000 in
theorem hear_Need_w {wide : Int} {plots_a : Option Addr} {plots_c : Nat} {plots : List Int} {wind : Int} {stand : Int} {plot : Int} {F : FS} (h_plots : RowR 1 (iE .i64) F plots_a plots_c plots) {r : Int} {r2 : Int} (hr : hear_Need wide plots wind stand plot = some (r, r2)) :
    SpecV Tryz.prog 38 #[.agg #[.int .i64 wide, .slice plots_a plots.length plots_c], .int .i64 wind, .int .i64 stand, .int .i64 plot] F (.tuple #[.int .i64 r, .int .i64 r2]) := by
 refine spec_of_shW (args := [.agg #[.int .i64 wide, .slice plots_a plots.length plots_c], .int .i64 wind, .int .i64 stand, .int .i64 plot]) Tryz.func38 rfl Tryz.ntmps38 (Nat.le_of_ble_eq_true rfl) ?_
 intro K _ _; rw [hear_Need] at hr
 refine wsr ?_
 refine o_box rfl rfl ?_; intro b1 hb1
 refine oa rfl rfl (oa rfl rfl (nsr ?_))
 refine ov (v_loadA (cs := #[.int .i64 wide, .slice plots_a plots.length plots_c]) Tryz.isAgg24 Tryz.sizeOf24 rfl (Has.own 0 rfl) (Nat.le_of_ble_eq_true rfl) rfl) rfl ?_
 refine om rfl rfl (om rfl rfl ?_)
 obtain ⟨l, n, h2, r3⟩ := b2_ok hr; clear hr
 refine o_call0 rfl Tryz.call34 rfl rfl rfl (hear_Needs_w h_plots h2) ?_; rintro _ F4 _ hF5 hn6 ⟨a8, n12, c9, Lb10, rfl, rfl, hz11⟩
 replace h_plots := h_plots.mono (iE_ok _) hF5
 replace hz11 := hz11.new fun p hp => hn6 p (by simp [hp])
 refine shO_L (lp (ln rfl)) ?_
 refine kO (kf (fS fO) kr) ?_
 refine om rfl rfl (ox rfl rfl rfl (ox rfl rfl rfl (oa rfl rfl (oa rfl rfl (shO_nil (shW_seq ?_))))))
 refine shW_block ?_
 refine wsr (om rfl rfl ?_)
 refine ov (v_neq rfl rfl) rfl ?_
 refine oa rfl rfl (shO_nil ?_)
 refine shW_condP rfl (fun c14 => ?_) (fun c14 => ?_)
 · have r15 := ite_t r3 c14; clear r3
   refine wsr (om rfl rfl (oa rfl rfl (oa rfl rfl (shO_nil ?_))))
   refine kW kn ?_
   refine shW_ret (inBlock_ret (andThen_ret ?_))
   refine q_res2 Tryz.results38 (res_tmp rfl) (res_tmp rfl) (sr) ?_
   obtain ⟨rfl, rfl⟩ := inj2 r15
   exact rfl
 have r16 := ite_f r3 c14; clear r3
 refine wsr ?_
 refine ov (v_loadA (cs := #[.int .i64 wide, .slice plots_a plots.length plots_c]) Tryz.isAgg24 Tryz.sizeOf24 rfl (Has.own 0 rfl) (Nat.le_of_ble_eq_true rfl) rfl) rfl ?_
 refine om rfl rfl ?_
 obtain ⟨ok, h17, r18⟩ := b1_ok r16; clear r16
 refine o_callV rfl Tryz.call86 rfl rfl rfl (hear_Town_plot_w h_plots h17) ?_
 refine ov (v_notB rfl) rfl ?_
 refine oa rfl rfl (shO_nil ?_)
 refine shW_cond rfl (fun c19 => ?_) (fun c19 => ?_)
 · have r20 := bt r18 c19; clear r18
   refine wsr (oa rfl rfl (oa rfl rfl (shO_nil ?_)))
   refine kW kn ?_
   refine shW_ret (inBlock_ret (andThen_ret ?_))
   refine q_res2 Tryz.results38 (res_tmp rfl) (res_tmp rfl) (sr) ?_
   obtain ⟨rfl, rfl⟩ := inj2 r20
   exact rfl
 have r21 := bf r18 c19; clear r18
 refine wsr (om rfl rfl (om rfl rfl ?_))
 obtain ⟨x, g22, hx23, r24⟩ := ix_ok r21; clear r21
 obtain ⟨b25, o26, c27, vs28, ha29, hs30, hle31, rfl, hl32, hc33⟩ := SlR.at (iE_ok _) hz11 (L := (b1, .cells #[.int .i64 wide, .slice plots_a plots.length plots_c] 24 (0, 0)) :: (Lb10 ++ [])) (fC fP) g22.1 hx23
 refine ov (v_indexO Tryz.underlying28 Tryz.sizeOf3 rfl ha29 rfl (SlR.idx hz11 g22)) rfl ?_
 refine ov (v_load Tryz.isAgg3 rfl hs30 (hc33 0 (by decide))) rfl ?_
 refine ov (v_eql rfl rfl) rfl ?_
 refine oa rfl rfl (shO_nil ?_)
 refine shW_condP rfl (fun c34 => ?_) (fun c34 => ?_)
 · have r35 := ite_t r24 c34; clear r24
   refine wsr (oa rfl rfl (oa rfl rfl (shO_nil ?_)))
   refine kW kn ?_
   refine shW_ret (inBlock_ret (andThen_ret ?_))
   refine q_res2 Tryz.results38 (res_tmp rfl) (res_tmp rfl) (sr) ?_
   obtain ⟨rfl, rfl⟩ := inj2 r35
   exact rfl
 have r36 := ite_f r24 c34; clear r24
 refine shW_skip (inBlock_n (id := 0) (wsr (om rfl rfl (om rfl rfl ?_))))
 obtain ⟨b37, o38, c39, vs40, ha41, hs42, hle43, rfl, hl44, hc45⟩ := SlR.at (iE_ok _) hz11 (L := (b1, .cells #[.int .i64 wide, .slice plots_a plots.length plots_c] 24 (0, 0)) :: (Lb10 ++ [])) (fC fP) g22.1 hx23
 refine ov (v_indexO Tryz.underlying28 Tryz.sizeOf3 rfl ha41 rfl (SlR.idx hz11 g22)) rfl ?_
 refine ov (v_load Tryz.isAgg3 rfl hs42 (hc45 0 (by decide))) rfl ?_
 refine oa rfl rfl (oa rfl rfl (shO_nil ?_))
 refine kW kn ?_
 refine shW_ret ?_
 refine q_res2 Tryz.results38 (res_tmp rfl) (res_tmp rfl) (sr) ?_
 obtain ⟨rfl, rfl⟩ := inj2 r36
 exact rfl
end Go.Proofs.YtejkgppikpkkpaaGreat
