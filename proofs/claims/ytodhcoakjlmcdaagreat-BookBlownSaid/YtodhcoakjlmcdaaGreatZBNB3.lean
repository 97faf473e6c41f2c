/- The walks that this claim needs, printed by a program of mine; part 3. -/
import Derived.Test.YtodhcoakjlmcdaaGreatZBNB2
namespace Go.Proofs.YtodhcoakjlmcdaaGreat
open Go.SH Go.PL
set_option maxHeartbeats 1000000 in
theorem hear_standing_w {wide : Int} {plots_a : Option Addr} {plots_c : Nat} {plots : List Int} {wind : Int} {stand : Int} {F : FS} (h_plots : RowR 1 (iE .i64) F plots_a plots_c plots) {r : Option (Int × (List Int) × Int × Int × Bool)} {r2 : Int} (hr : hear_standing wide plots wind stand = some (r, r2)) :
    SH.Spec Tryz.prog 116 #[.agg #[.int .i64 wide, .slice plots_a plots.length plots_c], .int .i64 wind, .int .i64 stand] F [] fun F' L' v => ∃ (rv : Value), v = .tuple #[rv, .int .i64 r2] ∧ L' = [] ∧ PtrR 229 (prE (iE .i64) (prE (slE 1 (iE .i64)) (prE (iE .i64) (prE (iE .i64) bE)))) F' rv r := by
 refine spec_of_shW (args := [.agg #[.int .i64 wide, .slice plots_a plots.length plots_c], .int .i64 wind, .int .i64 stand]) Tryz.func116 rfl Tryz.ntmps116 (Nat.le_of_ble_eq_true rfl) ?_
 intro K _ _; rw [hear_standing] at hr
 refine wsr ?_
 refine o_box rfl rfl ?_; intro b1 hb1
 refine oa rfl rfl (oa rfl rfl (nsr ?_))
 refine ov (v_loadA (cs := #[.int .i64 wide, .slice plots_a plots.length plots_c]) Tryz.isAgg56 Tryz.sizeOf56 rfl (Has.own 0 rfl) (Nat.le_of_ble_eq_true rfl) rfl) rfl ?_
 refine om rfl rfl ?_
 obtain ⟨d, n, h2, r3⟩ := b2_ok hr; clear hr
 refine o_call0 rfl Tryz.call145 rfl rfl rfl (hear_opened_w h_plots h2) ?_; rintro _ F4 _ hF5 hn6 ⟨v8, rfl, rfl, hp9⟩
 replace h_plots := h_plots.mono (iE_ok _) hF5
 refine shO_L (ln rfl) ?_
 refine om rfl rfl (ox rfl rfl rfl (ox rfl rfl rfl (oa rfl rfl (oa rfl rfl (shO_nil (shW_seq (wsr (om rfl rfl ?_))))))))
 refine ov (v_neq rfl rfl) rfl ?_
 refine shO_nil ?_
 refine shW_condP rfl (fun c10 => ?_) (fun c10 => ?_)
 · have r11 := ite_t r3 c10; clear r3
   refine wsr (om rfl rfl (oa rfl rfl (oa rfl rfl (shO_nil ?_))))
   refine kW kn ?_
   refine shW_ret (andThen_ret ?_)
   refine q_res2 Tryz.results116 (res_tmp rfl) (res_tmp rfl) (sr) ?_
   obtain ⟨rfl, rfl⟩ := inj2 r11
   exact ⟨_, rfl, rfl, rfl⟩
 have r12 := ite_f r3 c10; clear r3
 refine shW_skip (shW_seq (wsr ?_))
 refine ov (v_loadA (cs := #[.int .i64 wide, .slice plots_a plots.length plots_c]) Tryz.isAgg56 Tryz.sizeOf56 rfl (Has.own 0 rfl) (Nat.le_of_ble_eq_true rfl) rfl) rfl ?_
 refine om rfl rfl ?_
 obtain ⟨n2, h13, r14⟩ := b1_ok r12; clear r12
 refine o_callV rfl Tryz.call77 rfl rfl rfl (hear_Town_is_w h_plots h13) ?_
 refine oa rfl rfl (nsr (om rfl rfl ?_))
 refine ov (v_neq rfl rfl) rfl ?_
 refine shO_nil ?_
 refine shW_condP rfl (fun c15 => ?_) (fun c15 => ?_)
 · have r16 := ite_t r14 c15; clear r14
   refine wsr (om rfl rfl (oa rfl rfl (oa rfl rfl (shO_nil ?_))))
   refine kW kn ?_
   refine shW_ret (andThen_ret ?_)
   refine q_res2 Tryz.results116 (res_tmp rfl) (res_tmp rfl) (sr) ?_
   obtain ⟨rfl, rfl⟩ := inj2 r16
   exact ⟨_, rfl, rfl, rfl⟩
 have r17 := ite_f r14 c15; clear r14
 refine shW_skip (wsr (om rfl rfl (oa rfl rfl (oa rfl rfl (shO_nil ?_)))))
 refine kW kn ?_
 refine shW_ret ?_
 refine q_res2 Tryz.results116 (res_tmp rfl) (res_tmp rfl) (sr) ?_
 obtain ⟨rfl, rfl⟩ := inj2 r17
 exact ⟨_, rfl, rfl, hp9⟩
set_option maxHeartbeats 1000000 in
theorem hear_Town_wall_w {wide : Int} {plots_a : Option Addr} {plots_c : Nat} {plots : List Int} {p : Int} {F : FS} (h_plots : RowR 1 (iE .i64) F plots_a plots_c plots) {r : Bool} (hr : hear_Town_wall wide plots p = some r) :
    SpecV Tryz.prog 165 #[.agg #[.int .i64 wide, .slice plots_a plots.length plots_c], .int .i64 p] F (.bool r) := by
 refine spec_of_shW (args := [.agg #[.int .i64 wide, .slice plots_a plots.length plots_c], .int .i64 p]) Tryz.func165 rfl Tryz.ntmps165 (Nat.le_of_ble_eq_true rfl) ?_
 intro K _ _; rw [hear_Town_wall] at hr
 refine wsr ?_
 refine o_box rfl rfl ?_; intro b1 hb1
 refine oa rfl rfl (nsr ?_)
 refine ov (v_fieldAddr fa_56_1 rfl) rfl ?_
 refine ov (v_load Tryz.isAgg54 rfl (Has.own 0 rfl) rfl) rfl ?_
 refine om rfl rfl ?_
 obtain ⟨x, g2, hx3, r4⟩ := ix_ok hr; clear hr
 obtain ⟨b5, o6, c7, vs8, ha9, hs10, hle11, rfl, hl12, hc13⟩ := RowR.at (iE_ok _) h_plots ([(b1, .cells #[.int .i64 wide, .slice plots_a plots.length plots_c] 56 (0, 0))]) g2.1 hx3
 refine ov (v_indexO Tryz.underlying54 Tryz.sizeOf62 rfl ha9 rfl g2) rfl ?_
 refine ov (v_load Tryz.isAgg62 rfl hs10 (hc13 0 (by decide))) rfl ?_
 refine ov (v_eql rfl rfl) rfl ?_
 refine oa rfl rfl (shO_nil ?_)
 refine kW kn ?_
 refine shW_ret ?_
 refine q_res1 Tryz.results165 (res_tmp rfl) (sr) ?_
 obtain rfl := inj1 r4
 exact rfl
set_option maxHeartbeats 1000000 in
theorem hear_step_back_w {down : Int} {right_ : Int} {F : FS} {r : Int} {r2 : Int} (hr : hear_step_back down right_ = some (r, r2)) :
    SpecV Tryz.prog 176 #[.agg #[.int .i64 down, .int .i64 right_]] F (.agg #[.int .i64 r, .int .i64 r2]) := by
 refine spec_of_shW (args := [.agg #[.int .i64 down, .int .i64 right_]]) Tryz.func176 rfl Tryz.ntmps176 (Nat.le_of_ble_eq_true rfl) ?_
 intro K _ _; rw [hear_step_back] at hr
 refine wsr ?_
 refine o_box rfl rfl ?_; intro b1 hb1
 refine o_alloc rfl Tryz.zeroValue227 ?_; intro b2 hb2
 refine nsr ?_
 refine ov (v_fieldAddr fa_227_0 rfl) rfl ?_
 refine ov (v_load Tryz.isAgg3 rfl (Has.own 1 rfl) rfl) rfl ?_
 obtain ⟨g3, r4⟩ := gd_ok hr; clear hr
 refine ov (v_negT rfl g3) rfl ?_
 refine ov (v_fieldAddr fa_227_1 rfl) rfl ?_
 refine ov (v_load Tryz.isAgg3 rfl (Has.own 1 rfl) rfl) rfl ?_
 obtain ⟨g5, r6⟩ := gd_ok r4; clear r4
 refine ov (v_negT rfl g5) rfl ?_
 refine ov (v_build (v := .agg #[.int .i64 (-down), .int .i64 (-right_)]) rfl (by intro w; kernel_rfl)) rfl ?_
 refine o_storeA (i := 0) Tryz.sizeOf227 rfl rfl rfl (by simp [Value.oneCell']) rfl (Nat.le_of_ble_eq_true rfl) ?_
 refine shO_L (L' := [(b2, .cells #[.int .i64 (-down), .int .i64 (-right_)] 227 (0, 0)), (b1, .cells #[.int .i64 down, .int .i64 right_] 227 (0, 0))]) rfl ?_
 refine shO_nil ?_
 refine kW (kc kn) ?_
 refine shW_ret ?_
 refine q_res1 Tryz.results176 (res_cellA (cs := #[.int .i64 (-down), .int .i64 (-right_)]) Tryz.isAgg227 Tryz.sizeOf227 rfl (Has.own 0 rfl) (Nat.le_of_ble_eq_true rfl) rfl) (s1 sr) ?_
 obtain ⟨rfl, rfl⟩ := inj2 r6
 exact rfl
set_option maxHeartbeats 1000000 in
theorem hear_desk_needs_w {b_d : Nat} {wide : Int} {plots_a : Option Addr} {plots_c : Nat} {plots : List Int} {down : Int} {right_ : Int} {blows : Bool} {mb_d : Nat × Nat} {down2 : Int} {right_2 : Int} {to : Int} {F : FS} (hb_d : F b_d = some (.cells #[.int .i64 wide, .slice plots_a plots.length plots_c, .int .i64 down, .int .i64 right_, .bool blows] 229 mb_d)) (h_plots : RowR 1 (iE .i64) F plots_a plots_c plots) {r : Int} (hr : hear_desk_needs wide plots down right_ blows down2 right_2 to = some r) :
    SpecV Tryz.prog 167 #[.pointer (some ⟨b_d, 0, none⟩), .agg #[.int .i64 down2, .int .i64 right_2], .int .i64 to] F (.int .i64 r) := by
 refine spec_of_shW (args := [.pointer (some ⟨b_d, 0, none⟩), .agg #[.int .i64 down2, .int .i64 right_2], .int .i64 to]) Tryz.func167 rfl Tryz.ntmps167 (Nat.le_of_ble_eq_true rfl) ?_
 intro K _ _; rw [hear_desk_needs] at hr
 refine wsr ?_
 refine o_box rfl rfl ?_; intro b1 hb1
 refine oa rfl rfl (nsr (oa rfl rfl (shO_nil ?_)))
 obtain ⟨n, h2, r3⟩ := b1_ok hr; clear hr
 refine shW_join (fun e1 F1 L1 => F = F1 ∧ L1 = [] ∧ e1.sub [(0, .pointer (some ⟨b_d, 0, none⟩)), (2, .int .i64 to), (7, .int .i64 n)]) ?_ ?_
 · clear r3
   refine shW_block ?_
   refine wsr (om rfl rfl ?_)
   refine ov (v_nilCheck rfl) rfl ?_
   refine ov (v_fieldAddr fa_229_2 rfl) rfl ?_
   refine ov (v_load Tryz.isAgg4 rfl (Has.frozen hb_d) rfl) rfl ?_
   refine ov (v_notB rfl) rfl ?_
   refine oa rfl rfl (shO_nil ?_)
   refine shW_cond rfl (fun c4 => ?_) (fun c4 => ?_)
   · have r5 := bt h2 c4; clear h2
     refine shW_skip (inBlock_n (id := 0) ?_)
     obtain rfl := inj1 r5
     exact mi kn ⟨rfl, rfl, (sc rfl (sc rfl (sc rfl (sn _))))⟩
   have r6 := bf h2 c4; clear h2
   refine wsd (by kernel_rfl) (by kernel_rfl) (by kernel_rfl) ?_
   refine qv (v_loadA (cs := #[.int .i64 down2, .int .i64 right_2]) Tryz.isAgg227 Tryz.sizeOf227 rfl (Has.own 0 rfl) (Nat.le_of_ble_eq_true rfl) rfl) rfl ?_
   refine qm rfl rfl ?_
   refine qv (v_nilCheck rfl) rfl ?_
   refine qv (v_fieldAddr fa_229_1 rfl) rfl ?_
   refine qv (v_loadA (cs := #[.int .i64 down, .int .i64 right_]) Tryz.isAgg227 Tryz.sizeOf227 rfl (Has.frozen hb_d) (Nat.le_of_ble_eq_true rfl) rfl) rfl ?_
   refine qv (v_eqA (eqg_227 _ _ _ _) (eq_227 _ _ _ _) rfl rfl) rfl ?_
   refine qa rfl rfl (shQ_nil ?_)
   refine shW_condP rfl (fun c7 => ?_) (fun c7 => ?_)
   · have r8 := ite_t r6 c7; clear r6
     refine shW_region (oa rfl rfl (shO_nil (inBlock_n (id := 0) ?_)))
     obtain rfl := inj1 r8
     exact mi kn ⟨rfl, rfl, (sc rfl (sc rfl (sc rfl (sn _))))⟩
   have r9 := ite_f r6 c7; clear r6
   refine wsd (by kernel_rfl) (by kernel_rfl) (by kernel_rfl) ?_
   refine qv (v_loadA (cs := #[.int .i64 down2, .int .i64 right_2]) Tryz.isAgg227 Tryz.sizeOf227 rfl (Has.own 0 rfl) (Nat.le_of_ble_eq_true rfl) rfl) rfl ?_
   refine qm rfl rfl ?_
   refine qv (v_nilCheck rfl) rfl ?_
   refine qv (v_fieldAddr fa_229_1 rfl) rfl ?_
   refine qv (v_loadA (cs := #[.int .i64 down, .int .i64 right_]) Tryz.isAgg227 Tryz.sizeOf227 rfl (Has.frozen hb_d) (Nat.le_of_ble_eq_true rfl) rfl) rfl ?_
   obtain ⟨n2, n3, h10, r11⟩ := b2_ok r9; clear r9
   refine shQ_callV rfl Tryz.call176 rfl rfl rfl (hear_step_back_w h10) ?_
   refine qv (v_eqA (eqg_227 _ _ _ _) (eq_227 _ _ _ _) rfl rfl) rfl ?_
   refine qa rfl rfl (shQ_nil ?_)
   refine shW_condP rfl (fun c12 => ?_) (fun c12 => ?_)
   · have r13 := ite_t r11 c12; clear r11
     refine shW_region (oa rfl rfl (shO_nil (inBlock_n (id := 0) ?_)))
     obtain rfl := inj1 r13
     exact mi kn ⟨rfl, rfl, (sc rfl (sc rfl (sc rfl (sn _))))⟩
   have r14 := ite_f r11 c12; clear r11
   refine shW_skip (inBlock_n (id := 0) ?_)
   obtain rfl := inj1 r14
   exact mi kn ⟨rfl, rfl, (sc rfl (sc rfl (sc rfl (sn _))))⟩
 rintro e1 _ _ ⟨rfl, rfl, he15⟩
 refine shW_env _ he15 ?_; clear he15
 refine shW_seq (wsr (om rfl rfl ?_))
 refine ov (v_nilCheck rfl) rfl ?_
 refine ov (v_fieldAddr fa_229_0 rfl) rfl ?_
 refine ov (v_fieldAddr fa_56_1 rfl) rfl ?_
 refine ov (v_load Tryz.isAgg54 rfl (Has.frozen hb_d) rfl) rfl ?_
 refine om rfl rfl ?_
 obtain ⟨x, g16, hx17, r18⟩ := ix_ok r3; clear r3
 obtain ⟨b19, o20, c21, vs22, ha23, hs24, hle25, rfl, hl26, hc27⟩ := RowR.at (iE_ok _) h_plots ([]) g16.1 hx17
 refine ov (v_indexO Tryz.underlying54 Tryz.sizeOf62 rfl ha23 rfl g16) rfl ?_
 refine ov (v_load Tryz.isAgg62 rfl hs24 (hc27 0 (by decide))) rfl ?_
 refine ov (v_eql rfl rfl) rfl ?_
 refine shO_nil ?_
 refine shW_condP rfl (fun c28 => ?_) (fun c28 => ?_)
 · have r29 := ite_t r18 c28; clear r18
   refine shW_region (om rfl rfl ?_)
   obtain ⟨g30, r31⟩ := gd_ok r29; clear r29
   refine ov (v_add rfl rfl g30) rfl ?_
   refine oa rfl rfl (nsr (om rfl rfl (oa rfl rfl (shO_nil (shW_ret ?_)))))
   refine q_res1 Tryz.results167 (res_tmp rfl) (sr) ?_
   obtain rfl := inj1 r31
   exact rfl
 have r32 := ite_f r18 c28; clear r18
 refine shW_skip (wsr (om rfl rfl (oa rfl rfl (shO_nil (shW_ret ?_)))))
 refine q_res1 Tryz.results167 (res_tmp rfl) (sr) ?_
 obtain rfl := inj1 r32
 exact rfl
set_option maxHeartbeats 1000000 in
theorem hear_desk_next_1_w {b_p : Nat} {p : Int} {mb_p : Nat × Nat} {b_d : Nat} {b_d_ : Nat} {wide : Int} {plots_a : Option Addr} {plots_c : Nat} {plots : List Int} {down : Int} {right_ : Int} {blows : Bool} {mb_d_ : Nat × Nat} {mb_d : Nat × Nat} {b_closed : Nat} {closed_f : FuncId} {closed_1 : Array Value} {closed_2 : Array Value} {closed : Int → Option Bool} {mb_closed : Nat × Nat} {F : FS} (hb_p : F b_p = some (.cells #[.int .i64 p] 3 mb_p)) (hb_d : F b_d = some (.cells #[.pointer (some ⟨b_d_, 0, none⟩)] 176 mb_d)) (hb_d_ : F b_d_ = some (.cells #[.int .i64 wide, .slice plots_a plots.length plots_c, .int .i64 down, .int .i64 right_, .bool blows] 229 mb_d_)) (h_plots : RowR 1 (iE .i64) F plots_a plots_c plots) (hb_closed : F b_closed = some (.cells #[.func (.func closed_f) closed_1 closed_2] 34 mb_closed)) (h_closed : FnR Tryz.prog F closed_f closed_1 closed_2 (iE .i64) Value.bool closed) {xs : List (Int × Int)} (hr : hear_desk_next_1 p wide plots down right_ blows closed = some xs) :
    IterOK Tryz.prog 166 #[] #[.pointer (some ⟨b_p, 0, none⟩), .pointer (some ⟨b_d, 0, none⟩), .pointer (some ⟨b_closed, 0, none⟩)] F (fun x : Int × Int => #[.int .i64 x.1, .int .i64 x.2]) xs := by
 intro G0 hG0 yv J Jx hJm hJxm hy Fc L0 hG hJ0
 replace hb_p := (hG0.trans hG) _ _ hb_p
 replace hb_d := (hG0.trans hG) _ _ hb_d
 replace hb_d_ := (hG0.trans hG) _ _ hb_d_
 replace h_plots := h_plots.mono (iE_ok _) (hG0.trans hG)
 replace hb_closed := (hG0.trans hG) _ _ hb_closed
 replace h_closed := h_closed.mono (hG0.trans hG)
 have hfull0 : xs = [] ++ xs := rfl
 show SH.Spec Tryz.prog 166 #[yv, .pointer (some ⟨b_p, 0, none⟩), .pointer (some ⟨b_d, 0, none⟩), .pointer (some ⟨b_closed, 0, none⟩)] Fc L0 _
 refine spec_of_shW (args := [yv, .pointer (some ⟨b_p, 0, none⟩), .pointer (some ⟨b_d, 0, none⟩), .pointer (some ⟨b_closed, 0, none⟩)]) Tryz.func166 rfl Tryz.ntmps166 (Nat.le_of_ble_eq_true rfl) ?_
 intro K _ _; rw [hear_desk_next_1] at hr; refine shW_L (L' := L0 ++ []) (by simp) ?_
 refine wsr ?_
 refine ov (v_build (v := .agg #[.int .i64 (-1), .int .i64 0]) rfl (by intro w; kernel_rfl)) rfl ?_
 refine ov (v_build (v := .agg #[.int .i64 0, .int .i64 (-1)]) rfl (by intro w; kernel_rfl)) rfl ?_
 refine ov (v_build (v := .agg #[.int .i64 0, .int .i64 1]) rfl (by intro w; kernel_rfl)) rfl ?_
 refine ov (v_build (v := .agg #[.int .i64 1, .int .i64 0]) rfl (by intro w; kernel_rfl)) rfl ?_
 refine o_buildSlice (cs := #[.int .i64 (-1), .int .i64 0, .int .i64 0, .int .i64 (-1), .int .i64 0, .int .i64 1, .int .i64 1, .int .i64 0]) rfl rfl (buildSlice_all slt_242 [.agg #[.int .i64 (-1), .int .i64 0], .agg #[.int .i64 0, .int .i64 (-1)], .agg #[.int .i64 0, .int .i64 1], .agg #[.int .i64 1, .int .i64 0]] rfl (by decide) (by simp [Value.cells]) (by decide)) ?_; intro b1 hb1
 refine ov (v_lenS Tryz.underlying242 rfl) rfl ?_
 refine om rfl rfl (shO_nil ?_)
 refine shW_block ?_
 refine shW_freeze 0 rfl hb1 ?_; intro F2 hF3 hz4
 refine shW_L (L' := L0 ++ []) rfl ?_
 replace h_plots := h_plots.mono (iE_ok _) hF3
 replace h_closed := h_closed.mono hF3
 replace hb_p := hF3 _ _ hb_p
 replace hb_d_ := hF3 _ _ hb_d_
 replace hb_d := hF3 _ _ hb_d
 replace hb_closed := hF3 _ _ hb_closed
 replace hG := hG.trans hF3
 replace hJ0 := hJm _ _ _ _ hJ0 hF3
 have h5 : RowR 2 (prE (iE .i64) (iE .i64)) F2 (some ⟨b1, 0, none⟩) 4 [(-1, 0), (0, -1), (0, 1), (1, 0)] := RowR.of_block (prE_ok (iE_ok _) (iE_ok _)) (vss := [[.int .i64 (-1), .int .i64 0], [.int .i64 0, .int .i64 (-1)], [.int .i64 0, .int .i64 1], [.int .i64 1, .int .i64 0]]) (xs := [(-1, 0), (0, -1), (0, 1), (1, 0)]) hz4 (.cons ⟨_, _, rfl, rfl, rfl⟩ (.cons ⟨_, _, rfl, rfl, rfl⟩ (.cons ⟨_, _, rfl, rfl, rfl⟩ (.cons ⟨_, _, rfl, rfl, rfl⟩ .nil)))) rfl (by simp [maxLen])
 obtain ⟨g11, r12⟩ := gd_ok hr; clear hr
 refine shW_lp (fun fu1 e1 F1 L1 => ∃ (k : Int), Ctr 0 4 k fu1 ∧ ∃ (pre6 : List (Int × Int)) (rem7 : List (Int × Int)) (Lj8 : LH), hear_desk_next_1_l1 p wide plots down right_ blows closed fu1 k = some rem7 ∧ FExt F2 F1 ∧ L1 = (Lj8 ++ []) ∧ e1.sub [(0, yv), (1, .pointer (some ⟨b_p, 0, none⟩)), (2, .pointer (some ⟨b_d, 0, none⟩)), (3, .pointer (some ⟨b_closed, 0, none⟩)), (12, .slice (some ⟨b1, 0, none⟩) [(-1, 0), (0, -1), (0, 1), (1, 0)].length 4), (13, .int .i64 4), (14, .int .i64 k)] ∧ xs = pre6 ++ rem7 ∧ J pre6 F1 Lj8 ∧ FExt G0 F1) _ (m0 kr ⟨_, Ctr.start _ _, [], xs, L0, r12, FExt.refl _, rfl, (sc rfl (sc rfl (sc rfl (sc rfl (sc rfl (sc rfl (sc rfl (sn _)))))))), hfull0, hJ0, hG⟩) ?_
 rintro fu1 e1 F17 _ ⟨k, hk13, pre6, rem7, Lj8, r15, hF18, rfl, he16, hfull10, hJ9, hG⟩
 refine shW_env _ he16 ?_; clear he16
 replace h_plots := h_plots.mono (iE_ok _) hF18
 replace h5 := h5.mono (prE_ok (iE_ok _) (iE_ok _)) hF18
 replace h_closed := h_closed.mono hF18
 replace hb_p := hF18 _ _ hb_p
 replace hb_d_ := hF18 _ _ hb_d_
 replace hb_d := hF18 _ _ hb_d
 replace hb_closed := hF18 _ _ hb_closed
 refine wsr ?_
 refine ov (v_lssK rfl rfl) rfl ?_
 refine shO_nil (shW_seq ?_)
 refine shW_condP rfl (fun c20 => ?_) (fun c20 => ?_)
 · obtain ⟨fu1, rfl, hk21⟩ := Ctr.succ hk13 c20
   rw [hear_desk_next_1_l1] at r15
   refine shW_skip (shW_seq ?_)
   refine shW_block ?_
   refine wsr ?_
   obtain ⟨x, g22, hx23, r24⟩ := ix_ok r15; clear r15
   obtain ⟨b25, o26, c27, vs28, ha29, hs30, hle31, ⟨_, _, rfl, rfl, rfl⟩, hl32, hc33⟩ := RowR.at (prE_ok (iE_ok _) (iE_ok _)) h5 (Lj8 ++ []) g22.1 hx23
   refine ov (v_indexO Tryz.underlying242 Tryz.sizeOf227 rfl ha29 rfl g22) rfl ?_
   refine ov (v_loadA (cs := #[.int .i64 x.1, .int .i64 x.2]) Tryz.isAgg227 Tryz.sizeOf227 rfl hs30 hle31 (extract_cells hle31 hl32 hc33)) rfl ?_
   refine o_alloc rfl Tryz.zeroValue227 ?_; intro b34 hb34
   refine o_storeA (i := 0) Tryz.sizeOf227 rfl rfl rfl (by simp [Value.oneCell']) rfl (Nat.le_of_ble_eq_true rfl) ?_
   refine shO_L (L' := (b34, .cells #[.int .i64 x.1, .int .i64 x.2] 227 (0, 0)) :: (Lj8 ++ [])) rfl ?_
   refine nsd (by kernel_rfl) (by kernel_rfl) (by kernel_rfl) ?_
   refine qv (v_load Tryz.isAgg3 rfl (Has.frozen hb_p) rfl) rfl ?_
   refine qv (v_fieldAddr fa_227_0 rfl) rfl ?_
   refine qv (v_load Tryz.isAgg3 rfl (Has.own 0 rfl) rfl) rfl ?_
   refine qv (v_load Tryz.isAgg176 rfl (Has.frozen hb_d) rfl) rfl ?_
   refine qv (v_nilCheck rfl) rfl ?_
   refine qv (v_fieldAddr fa_229_0 rfl) rfl ?_
   refine qv (v_fieldAddr fa_56_0 rfl) rfl ?_
   refine qv (v_load Tryz.isAgg3 rfl (Has.frozen hb_d_) rfl) rfl ?_
   obtain ⟨g35, r36⟩ := gd_ok r24; clear r24
   refine qv (v_mul rfl rfl g35) rfl ?_
   obtain ⟨g37, r38⟩ := gd_ok r36; clear r36
   refine qv (v_add rfl rfl g37) rfl ?_
   refine qv (v_fieldAddr fa_227_1 rfl) rfl ?_
   refine qv (v_load Tryz.isAgg3 rfl (Has.own 0 rfl) rfl) rfl ?_
   obtain ⟨g39, r40⟩ := gd_ok r38; clear r38
   refine qv (v_add rfl rfl g39) rfl ?_
   refine qa rfl rfl (shQ_nil (shW_seq ?_))
   refine wsd (by kernel_rfl) (by kernel_rfl) (by kernel_rfl) ?_
   refine qv (v_load Tryz.isAgg176 rfl (Has.frozen hb_d) rfl) rfl ?_
   refine qv (v_nilCheck rfl) rfl ?_
   refine qv (v_fieldAddr fa_229_0 rfl) rfl ?_
   refine qv (v_loadA (cs := #[.int .i64 wide, .slice plots_a plots.length plots_c]) Tryz.isAgg56 Tryz.sizeOf56 rfl (Has.frozen hb_d_) (Nat.le_of_ble_eq_true rfl) rfl) rfl ?_
   refine qm rfl rfl ?_
   obtain ⟨ok, h41, r42⟩ := b1_ok r40; clear r40
   refine shQ_callV rfl Tryz.call118 rfl rfl rfl (hear_Town_plot_w h_plots h41) ?_
   refine qv (v_notB rfl) rfl ?_
   refine qm rfl rfl ?_
   rcases bool_two (!ok) with c43 | c43
   · have r44 := bt r42 c43; clear r42
     refine shQ_off (b' := true) 38 rfl (EnvB rfl c43) rfl rfl (shQ_off (b' := true) 38 rfl (EnvB rfl c43) rfl rfl (shQ_off (b' := true) 38 rfl (EnvB rfl c43) rfl rfl (shQ_off (b' := true) 38 rfl (EnvB rfl c43) rfl rfl (shQ_offU 42 rfl rfl rfl (shQ_offU 42 rfl rfl rfl (shQ_offU 42 rfl rfl rfl (shQ_offU 42 rfl rfl rfl (shQ_offU 42 rfl rfl rfl (shQ_offU 42 rfl rfl rfl ?_)))))))))
     refine shQ_offU 42 rfl rfl rfl (shQ_offU 42 rfl rfl rfl (shQ_offU 42 rfl rfl rfl (shQ_offU 42 rfl rfl rfl (shQ_offU 42 rfl rfl rfl (shQ_offU 42 rfl rfl rfl (shQ_offU 42 rfl rfl rfl (shQ_offU 42 rfl rfl rfl (shQ_offU 42 rfl rfl rfl (shQ_off (b' := true) 38 rfl (EnvB rfl c43) rfl rfl ?_)))))))))
     refine qv (v_pick_t (evB rfl c43) rfl) rfl ?_
     refine qm rfl rfl (shQ_off (b' := true) 60 rfl rfl rfl rfl (shQ_off (b' := true) 60 rfl rfl rfl rfl (shQ_off (b' := true) 60 rfl rfl rfl rfl ?_)))
     refine qv (v_pick_t rfl rfl) rfl ?_
     refine shQ_nil ?_
     refine shW_cond rfl (fun c45 => ?_) (fun c45 => nomatch c45)
     refine shW_exit (andThen_exit ?_)
     refine inBlock_exit ?_
     refine shW_region ?_
     refine ov (v_add rfl rfl (Ctr.r64 hk13 c20 g11)) rfl ?_
     refine om rfl rfl (shO_nil ?_)
     exact le (kd kr) ⟨_, hk21, pre6, rem7, Lj8, r44, hF18, rfl, (sc rfl (sc rfl (sc rfl (sc rfl (sc rfl (sc rfl (sc rfl (sn _)))))))), hfull10, hJ9, hG⟩
   have r46 := bf r42 c43; clear r42
   refine shQ_on (b := false) 38 rfl (EnvB rfl c43) ?_
   refine qv (v_fieldAddr fa_227_0 rfl) rfl ?_
   refine shQ_on (b := false) 38 rfl (EnvB rfl c43) ?_
   refine qv (v_load Tryz.isAgg3 rfl (Has.own 0 rfl) rfl) rfl ?_
   refine shQ_on (b := false) 38 rfl (EnvB rfl c43) ?_
   refine qv (v_eql rfl rfl) rfl ?_
   refine shQ_on (b := false) 38 rfl (EnvB rfl c43) (qm rfl rfl ?_)
   by_cases c47 : x.1 = 0
   · have r48 := ite_t r46 c47; clear r46
     refine shQ_on (b := true) 42 rfl (Env.isT rfl c47) (qm rfl rfl (shQ_on (b := true) 42 rfl (Env.isT rfl c47) ?_))
     refine qv (v_load Tryz.isAgg176 rfl (Has.frozen hb_d) rfl) rfl ?_
     refine shQ_on (b := true) 42 rfl (Env.isT rfl c47) ?_
     refine qv (v_nilCheck rfl) rfl ?_
     refine shQ_on (b := true) 42 rfl (Env.isT rfl c47) ?_
     refine qv (v_fieldAddr fa_229_0 rfl) rfl ?_
     refine shQ_on (b := true) 42 rfl (Env.isT rfl c47) ?_
     refine qv (v_fieldAddr fa_56_0 rfl) rfl ?_
     refine shQ_on (b := true) 42 rfl (Env.isT rfl c47) ?_
     refine qv (v_load Tryz.isAgg3 rfl (Has.frozen hb_d_) rfl) rfl ?_
     refine shQ_on (b := true) 42 rfl (Env.isT rfl c47) ?_
     obtain ⟨g49, r50⟩ := gd_ok r48; clear r48
     refine qv (v_quoT rfl rfl g49) rfl ?_
     refine shQ_on (b := true) 42 rfl (Env.isT rfl c47) ?_
     refine qv (v_load Tryz.isAgg3 rfl (Has.frozen hb_p) rfl) rfl ?_
     refine shQ_on (b := true) 42 rfl (Env.isT rfl c47) ?_
     refine qv (v_load Tryz.isAgg176 rfl (Has.frozen hb_d) rfl) rfl ?_
     refine shQ_on (b := true) 42 rfl (Env.isT rfl c47) ?_
     refine qv (v_nilCheck rfl) rfl ?_
     refine shQ_on (b := true) 42 rfl (Env.isT rfl c47) ?_
     refine qv (v_fieldAddr fa_229_0 rfl) rfl ?_
     refine shQ_on (b := true) 42 rfl (Env.isT rfl c47) ?_
     refine qv (v_fieldAddr fa_56_0 rfl) rfl ?_
     refine shQ_on (b := true) 42 rfl (Env.isT rfl c47) ?_
     refine qv (v_load Tryz.isAgg3 rfl (Has.frozen hb_d_) rfl) rfl ?_
     refine shQ_on (b := true) 42 rfl (Env.isT rfl c47) ?_
     obtain ⟨g51, r52⟩ := gd_ok r50; clear r50
     refine qv (v_quoT rfl rfl g51) rfl ?_
     refine shQ_on (b := true) 42 rfl (Env.isT rfl c47) ?_
     refine qv (v_neq rfl rfl) rfl ?_
     refine shQ_on (b := false) 38 rfl (EnvB rfl c43) ?_
     refine qv (v_pick_t (evD_true rfl c47) rfl) rfl ?_
     refine qv (v_pick_f (evB rfl c43) rfl) rfl ?_
     refine qm rfl rfl ?_
     by_cases c53 : (Int.tdiv ((p + (x.1 * wide)) + x.2) wide) ≠ (Int.tdiv p wide)
     · have r54 := ite_t r52 c53; clear r52
       refine shQ_off (b' := true) 60 rfl (Env.isT rfl c53) rfl rfl (shQ_off (b' := true) 60 rfl (Env.isT rfl c53) rfl rfl (shQ_off (b' := true) 60 rfl (Env.isT rfl c53) rfl rfl ?_))
       refine qv (v_pick_t (evD_true rfl c53) rfl) rfl ?_
       refine shQ_nil ?_
       refine shW_cond rfl (fun c55 => ?_) (fun c55 => nomatch c55)
       refine shW_exit (andThen_exit ?_)
       refine inBlock_exit ?_
       refine shW_region ?_
       refine ov (v_add rfl rfl (Ctr.r64 hk13 c20 g11)) rfl ?_
       refine om rfl rfl (shO_nil ?_)
       exact le (kd kr) ⟨_, hk21, pre6, rem7, Lj8, r54, hF18, rfl, (sc rfl (sc rfl (sc rfl (sc rfl (sc rfl (sc rfl (sc rfl (sn _)))))))), hfull10, hJ9, hG⟩
     have r56 := ite_f r52 c53; clear r52
     refine shQ_on (b := false) 60 rfl (Env.isF rfl c53) ?_
     refine qv (v_load Tryz.isAgg34 rfl (Has.frozen hb_closed) rfl) rfl ?_
     refine shQ_on (b := false) 60 rfl (Env.isF rfl c53) (qm rfl rfl (shQ_on (b := false) 60 rfl (Env.isF rfl c53) ?_))
     obtain ⟨ok2, h57, r58⟩ := b1_ok r56; clear r56
     refine shQ_callV rfl h_closed.1 rfl rfl rfl (h_closed.2 _ (FExt.refl _) _ _ _ rfl h57) ?_
     refine qv (v_pick_f (evD_false rfl c53) rfl) rfl ?_
     refine shQ_nil ?_
     refine shW_cond rfl (fun c59 => ?_) (fun c59 => ?_)
     · have r60 := bt r58 c59; clear r58
       refine shW_exit (andThen_exit ?_)
       refine inBlock_exit ?_
       refine shW_region ?_
       refine ov (v_add rfl rfl (Ctr.r64 hk13 c20 g11)) rfl ?_
       refine om rfl rfl (shO_nil ?_)
       exact le (kd kr) ⟨_, hk21, pre6, rem7, Lj8, r60, hF18, rfl, (sc rfl (sc rfl (sc rfl (sc rfl (sc rfl (sc rfl (sc rfl (sn _)))))))), hfull10, hJ9, hG⟩
     have r61 := bf r58 c59; clear r58
     refine shW_skip (wsr (om rfl rfl (om rfl rfl ?_)))
     refine ov (v_load Tryz.isAgg176 rfl (Has.frozen hb_d) rfl) rfl ?_
     refine ov (v_loadA (cs := #[.int .i64 x.1, .int .i64 x.2]) Tryz.isAgg227 Tryz.sizeOf227 rfl (Has.own 0 rfl) (Nat.le_of_ble_eq_true rfl) rfl) rfl ?_
     refine om rfl rfl ?_
     obtain ⟨n, h62, r63⟩ := b1_ok r61; clear r61
     refine o_callV rfl Tryz.call167 rfl rfl rfl (hear_desk_needs_w hb_d_ h_plots h62) ?_
     obtain ⟨tl64, r66, hx65⟩ := yl_ok r63; clear r63
     refine o_callC (Lb := Lj8) (Lr := [(b34, .cells #[.int .i64 x.1, .int .i64 x.2] 227 (0, 0))]) (vs := [.int .i64 ((p + (x.1 * wide)) + x.2), .int .i64 n]) rfl rfl rfl (fC fP) (hy pre6 ((p + (x.1 * wide)) + x.2, n) tl64 (by rw [hfull10, hx65]) _ _ hG hJ9) ?_
     rintro v74 F67 Lj68 hF69 hz70; obtain ⟨yb71, rfl, hbt72, hbf73⟩ := yield_bool hz70
     replace hG := hG.trans hF69
     refine kO (kf (fS fO) kr) ?_
     refine ov (v_notB rfl) rfl ?_
     refine shO_nil ?_
     refine shW_cond rfl (fun c75 => ?_) (fun c75 => ?_)
     · have hJ76 := hbf73 (by simpa using c75)
       refine shW_ret (inBlock_ret (andThen_ret (andThen_ret (inBlock_ret ?_))))
       refine q_end0s (.inl rfl) Tryz.results166 (s1 (s4 sr)) ?_
       exact .inr (by rw [List.append_nil]; exact hJ76)
     have hJ77 := hbt72 (by simpa using c75)
     have hfull78 : xs = (pre6 ++ [((p + (x.1 * wide)) + x.2, n)]) ++ tl64 := by rw [hfull10, hx65]; simp
     refine shW_skip (inBlock_n (id := 1) (shW_region ?_))
     refine ov (v_add rfl rfl (Ctr.r64 hk13 c20 g11)) rfl ?_
     refine om rfl rfl (shO_nil ?_)
     exact le (kd kr) ⟨_, hk21, pre6 ++ [((p + (x.1 * wide)) + x.2, n)], tl64, Lj68, r66, (hF18.trans hF69), rfl, (sc rfl (sc rfl (sc rfl (sc rfl (sc rfl (sc rfl (sc rfl (sn _)))))))), hfull78, hJ77, hG⟩
   have r79 := ite_f r46 c47; clear r46
   refine shQ_off (b' := false) 42 rfl (Env.isF rfl c47) rfl rfl (shQ_off (b' := false) 42 rfl (Env.isF rfl c47) rfl rfl (shQ_off (b' := false) 42 rfl (Env.isF rfl c47) rfl rfl (shQ_off (b' := false) 42 rfl (Env.isF rfl c47) rfl rfl (shQ_off (b' := false) 42 rfl (Env.isF rfl c47) rfl rfl (shQ_off (b' := false) 42 rfl (Env.isF rfl c47) rfl rfl (shQ_off (b' := false) 42 rfl (Env.isF rfl c47) rfl rfl (shQ_off (b' := false) 42 rfl (Env.isF rfl c47) rfl rfl (shQ_off (b' := false) 42 rfl (Env.isF rfl c47) rfl rfl (shQ_off (b' := false) 42 rfl (Env.isF rfl c47) rfl rfl ?_)))))))))
   refine shQ_off (b' := false) 42 rfl (Env.isF rfl c47) rfl rfl (shQ_off (b' := false) 42 rfl (Env.isF rfl c47) rfl rfl (shQ_off (b' := false) 42 rfl (Env.isF rfl c47) rfl rfl (shQ_off (b' := false) 42 rfl (Env.isF rfl c47) rfl rfl (shQ_off (b' := false) 42 rfl (Env.isF rfl c47) rfl rfl (shQ_on (b := false) 38 rfl (EnvB rfl c43) ?_)))))
   refine qv (v_pick_f (evD_false rfl c47) rfl) rfl ?_
   refine qv (v_pick_f (evB rfl c43) rfl) rfl ?_
   refine qm rfl rfl (shQ_on (b := false) 60 rfl rfl ?_)
   refine qv (v_load Tryz.isAgg34 rfl (Has.frozen hb_closed) rfl) rfl ?_
   refine shQ_on (b := false) 60 rfl rfl (qm rfl rfl (shQ_on (b := false) 60 rfl rfl ?_))
   obtain ⟨ok3, h80, r81⟩ := b1_ok r79; clear r79
   refine shQ_callV rfl h_closed.1 rfl rfl rfl (h_closed.2 _ (FExt.refl _) _ _ _ rfl h80) ?_
   refine qv (v_pick_f rfl rfl) rfl ?_
   refine shQ_nil ?_
   refine shW_cond rfl (fun c82 => ?_) (fun c82 => ?_)
   · have r83 := bt r81 c82; clear r81
     refine shW_exit (andThen_exit ?_)
     refine inBlock_exit ?_
     refine shW_region ?_
     refine ov (v_add rfl rfl (Ctr.r64 hk13 c20 g11)) rfl ?_
     refine om rfl rfl (shO_nil ?_)
     exact le (kd kr) ⟨_, hk21, pre6, rem7, Lj8, r83, hF18, rfl, (sc rfl (sc rfl (sc rfl (sc rfl (sc rfl (sc rfl (sc rfl (sn _)))))))), hfull10, hJ9, hG⟩
   have r84 := bf r81 c82; clear r81
   refine shW_skip (wsr (om rfl rfl (om rfl rfl ?_)))
   refine ov (v_load Tryz.isAgg176 rfl (Has.frozen hb_d) rfl) rfl ?_
   refine ov (v_loadA (cs := #[.int .i64 x.1, .int .i64 x.2]) Tryz.isAgg227 Tryz.sizeOf227 rfl (Has.own 0 rfl) (Nat.le_of_ble_eq_true rfl) rfl) rfl ?_
   refine om rfl rfl ?_
   obtain ⟨n2, h85, r86⟩ := b1_ok r84; clear r84
   refine o_callV rfl Tryz.call167 rfl rfl rfl (hear_desk_needs_w hb_d_ h_plots h85) ?_
   obtain ⟨tl87, r89, hx88⟩ := yl_ok r86; clear r86
   refine o_callC (Lb := Lj8) (Lr := [(b34, .cells #[.int .i64 x.1, .int .i64 x.2] 227 (0, 0))]) (vs := [.int .i64 ((p + (x.1 * wide)) + x.2), .int .i64 n2]) rfl rfl rfl (fC fP) (hy pre6 ((p + (x.1 * wide)) + x.2, n2) tl87 (by rw [hfull10, hx88]) _ _ hG hJ9) ?_
   rintro v97 F90 Lj91 hF92 hz93; obtain ⟨yb94, rfl, hbt95, hbf96⟩ := yield_bool hz93
   replace hG := hG.trans hF92
   refine kO (kf (fS fO) kr) ?_
   refine ov (v_notB rfl) rfl ?_
   refine shO_nil ?_
   refine shW_cond rfl (fun c98 => ?_) (fun c98 => ?_)
   · have hJ99 := hbf96 (by simpa using c98)
     refine shW_ret (inBlock_ret (andThen_ret (andThen_ret (inBlock_ret ?_))))
     refine q_end0s (.inl rfl) Tryz.results166 (s1 (s4 sr)) ?_
     exact .inr (by rw [List.append_nil]; exact hJ99)
   have hJ100 := hbt95 (by simpa using c98)
   have hfull101 : xs = (pre6 ++ [((p + (x.1 * wide)) + x.2, n2)]) ++ tl87 := by rw [hfull10, hx88]; simp
   refine shW_skip (inBlock_n (id := 1) (shW_region ?_))
   refine ov (v_add rfl rfl (Ctr.r64 hk13 c20 g11)) rfl ?_
   refine om rfl rfl (shO_nil ?_)
   exact le (kd kr) ⟨_, hk21, pre6 ++ [((p + (x.1 * wide)) + x.2, n2)], tl87, Lj91, r89, (hF18.trans hF92), rfl, (sc rfl (sc rfl (sc rfl (sc rfl (sc rfl (sc rfl (sc rfl (sn _)))))))), hfull101, hJ100, hG⟩
 obtain rfl := Ctr.zero hk13 c20
 rw [hear_desk_next_1_l1] at r15
 refine shW_exit (andThen_exit (andThen_exit ?_))
 refine inBlock_exit ?_
 refine q_end0s (.inr rfl) Tryz.results166 (sr) ?_
 obtain rfl := inj1 r15
 exact .inl (by have e1 := hfull10; rw [List.append_nil] at e1; rw [List.append_nil, e1]; exact hJ9)
set_option maxHeartbeats 1000000 in
theorem hear_desk_next_w {b_d : Nat} {wide : Int} {plots_a : Option Addr} {plots_c : Nat} {plots : List Int} {down : Int} {right_ : Int} {blows : Bool} {mb_d : Nat × Nat} {p : Int} {F : FS} (hb_d : F b_d = some (.cells #[.int .i64 wide, .slice plots_a plots.length plots_c, .int .i64 down, .int .i64 right_, .bool blows] 229 mb_d)) (h_plots : RowR 1 (iE .i64) F plots_a plots_c plots) {r : List (Int × Int)} (hr : hear_desk_next wide plots down right_ blows p = some r) :
    SH.Spec Tryz.prog 146 #[.pointer (some ⟨b_d, 0, none⟩), .int .i64 p] F [] fun F' L' v => ∃ (rcp : Array Value), v = .func (.func 166) #[] rcp ∧ L' = [] ∧ IterOK Tryz.prog 166 #[] rcp F' (fun x : Int × Int => #[.int .i64 x.1, .int .i64 x.2]) r := by
 refine spec_of_shW (args := [.pointer (some ⟨b_d, 0, none⟩), .int .i64 p]) Tryz.func146 rfl Tryz.ntmps146 (Nat.le_of_ble_eq_true rfl) ?_
 intro K _ _; rw [hear_desk_next] at hr
 refine wsr ?_
 refine o_box rfl rfl ?_; intro b1 hb1
 refine o_box rfl rfl ?_; intro b2 hb2
 refine oa rfl rfl (nsr ?_)
 refine ov (v_load Tryz.isAgg176 rfl (Has.own 1 rfl) rfl) rfl ?_
 refine ov (v_nilCheck rfl) rfl ?_
 refine ov (v_fieldAddr fa_229_0 rfl) rfl ?_
 refine ov (v_loadA (cs := #[.int .i64 wide, .slice plots_a plots.length plots_c]) Tryz.isAgg56 Tryz.sizeOf56 rfl (Has.frozen hb_d) (Nat.le_of_ble_eq_true rfl) rfl) rfl ?_
 refine ov (v_makeFunc rfl rfl) rfl ?_
 refine o_alloc rfl Tryz.zeroValue34 ?_; intro b3 hb3
 refine o_store (i := 0) Tryz.sizeOf34 rfl rfl rfl rfl (Nat.le_of_ble_eq_true rfl) ?_
 refine shO_L (L' := [(b3, .cells (#[.func (.func 165) #[.agg #[.int .i64 wide, .slice plots_a plots.length plots_c]] #[]]) 34 (0, 0)), (b2, .cells #[.int .i64 p] 3 (0, 0)), (b1, .cells #[.pointer (some ⟨b_d, 0, none⟩)] 176 (0, 0))]) rfl ?_
 refine nsr ?_
 refine ov (v_makeFunc rfl rfl) rfl ?_
 refine oa rfl rfl (shO_nil ?_)
 refine shW_freeze 1 rfl hb2 ?_; intro F4 hF5 hz6
 refine shW_L (L' := [(b3, .cells (#[.func (.func 165) #[.agg #[.int .i64 wide, .slice plots_a plots.length plots_c]] #[]]) 34 (0, 0)), (b1, .cells #[.pointer (some ⟨b_d, 0, none⟩)] 176 (0, 0))]) rfl ?_
 replace h_plots := h_plots.mono (iE_ok _) hF5
 replace hb_d := hF5 _ _ hb_d
 refine shW_freeze 1 rfl hb1 ?_; intro F7 hF8 hz9
 refine shW_L (L' := [(b3, .cells (#[.func (.func 165) #[.agg #[.int .i64 wide, .slice plots_a plots.length plots_c]] #[]]) 34 (0, 0))]) rfl ?_
 replace h_plots := h_plots.mono (iE_ok _) hF8
 replace hb_d := hF8 _ _ hb_d
 replace hz6 := hF8 _ _ hz6
 refine shW_freeze 0 rfl hb3 ?_; intro F10 hF11 hz12
 refine shW_L (L' := []) rfl ?_
 replace h_plots := h_plots.mono (iE_ok _) hF11
 replace hb_d := hF11 _ _ hb_d
 replace hz6 := hF11 _ _ hz6
 replace hz9 := hF11 _ _ hz9
 have hn13 : FnR Tryz.prog F10 165 #[.agg #[.int .i64 wide, .slice plots_a plots.length plots_c]] #[] (iE .i64) Value.bool (fun xx_ : Int => hear_Town_wall wide plots xx_) := ⟨Tryz.call165, fun F2 h2 vs xx_ r ha hr => by obtain rfl := ha; exact hear_Town_wall_w (h_plots.mono (iE_ok _) h2) hr⟩
 obtain ⟨l, h14, r16⟩ := b1_ok hr; clear hr
 have hit15 : IterOK Tryz.prog 166 #[] #[.pointer (some ⟨b2, 0, none⟩), .pointer (some ⟨b1, 0, none⟩), .pointer (some ⟨b3, 0, none⟩)] F10 (fun x : Int × Int => #[.int .i64 x.1, .int .i64 x.2]) l := hear_desk_next_1_w hz6 hz9 hb_d h_plots hz12 hn13 h14
 refine shW_ret ?_
 refine q_res1 Tryz.results146 (res_tmp rfl) (sr) ?_
 obtain rfl := inj1 r16
 exact ⟨_, rfl, rfl, hit15⟩
set_option maxHeartbeats 1000000 in
theorem hear_desk_from_w {b_d : Nat} {wide : Int} {plots_a : Option Addr} {plots_c : Nat} {plots : List Int} {down : Int} {right_ : Int} {blows : Bool} {mb_d : Nat × Nat} {stand : Int} {F : FS} (hb_d : F b_d = some (.cells #[.int .i64 wide, .slice plots_a plots.length plots_c, .int .i64 down, .int .i64 right_, .bool blows] 229 mb_d)) (h_plots : RowR 1 (iE .i64) F plots_a plots_c plots) {r : List Int} (hr : hear_desk_from wide plots down right_ blows stand = some r) :
    SH.Spec Tryz.prog 117 #[.pointer (some ⟨b_d, 0, none⟩), .int .i64 stand] F [] fun F' L' v => ∃ (ra : Option Addr) (rn : Nat) (rc : Nat) (rL : LH), v = .slice ra rn rc ∧ L' = rL ++ [] ∧ SlR 0 3 1 (iE .i64) F' ra rn rc r rL := by
 refine spec_of_shW (args := [.pointer (some ⟨b_d, 0, none⟩), .int .i64 stand]) Tryz.func117 rfl Tryz.ntmps117 (Nat.le_of_ble_eq_true rfl) ?_
 intro K _ _; rw [hear_desk_from] at hr
 refine wsr (oa rfl rfl (nsr (om rfl rfl ?_)))
 refine ov (v_nilCheck rfl) rfl ?_
 refine ov (v_fieldAddr fa_229_0 rfl) rfl ?_
 refine ov (v_fieldAddr fa_56_1 rfl) rfl ?_
 refine ov (v_load Tryz.isAgg54 rfl (Has.frozen hb_d) rfl) rfl ?_
 refine ov (v_lenS Tryz.underlying54 rfl) rfl ?_
 obtain ⟨g1, r2⟩ := gd_ok hr; clear hr
 obtain ⟨l, h3, r4⟩ := bv_ok r2; clear r2
 refine o_makeZ (R := (iE .i64)) (z0 := 0) (zs := l) rfl slt_24 (by decide) (iE_ok _) (fun _ => rfl) rfl g1 h3 (fun _ => .n) ?_; intro a5 n8 Lb6 hz7
 refine o_alloc rfl Tryz.zeroValue24 ?_; intro b10 hb10
 refine o_store (i := 0) Tryz.sizeOf24 rfl rfl rfl rfl (Nat.le_of_ble_eq_true rfl) ?_
 refine shO_L (L' := (b10, .cells #[.slice a5 n8 n8] 24 (0, 0)) :: (Lb6 ++ [])) rfl ?_
 refine shO_nil ?_
 obtain ⟨out, h13, r14⟩ := b1_ok r4; clear r4
 refine shW_join (fun e1 F1 L1 => ∃ (Lb11 : LH), F = F1 ∧ L1 = ((b10, .cells #[.slice a5 n8 n8] 24 (0, 0)) :: (Lb11 ++ [])) ∧ e1.sub [(0, .pointer (some ⟨b_d, 0, none⟩)), (1, .int .i64 stand), (5, .pointer (some ⟨b10, 0, none⟩))] ∧ SlR K.w0.heap.size 3 1 (iE .i64) F1 a5 n8 n8 out Lb11) ?_ ?_
 · clear r14
   refine wsr ?_
   refine ov (v_load Tryz.isAgg24 rfl (Has.own 0 rfl) rfl) rfl ?_
   refine ov ((v_lenS Tryz.underlying24 rfl).i (SlR.lenI hz7)) rfl ?_
   refine om rfl rfl (shO_nil ?_)
   refine shW_block ?_
   obtain ⟨g17, r18⟩ := gd_ok h13; clear h13
   refine shW_lp (fun fu1 e1 F1 L1 => ∃ (k : Int), Ctr 0 (l.length : Int) k fu1 ∧ ∃ (out2 : List Int) (Lb15 : LH), hear_desk_from_l1 fu1 k out2 = some out ∧ F = F1 ∧ L1 = ((b10, .cells #[.slice a5 n8 n8] 24 (0, 0)) :: (Lb15 ++ [])) ∧ e1.sub [(0, .pointer (some ⟨b_d, 0, none⟩)), (1, .int .i64 stand), (5, .pointer (some ⟨b10, 0, none⟩)), (19, .int .i64 (l.length : Int)), (20, .int .i64 k)] ∧ SlR K.w0.heap.size 3 1 (iE .i64) F1 a5 n8 n8 out2 Lb15) _ (m0 kr ⟨_, Ctr.start _ _, l, Lb6, r18, rfl, rfl, (sc rfl (sc rfl (sc rfl (sc rfl (sc rfl (sn _)))))), hz7⟩) ?_
   rintro fu1 e1 _ _ ⟨k, hk19, out2, Lb15, r21, rfl, rfl, he22, hz16⟩
   refine shW_env _ he22 ?_; clear he22
   refine wsr ?_
   refine ov (v_lssK rfl rfl) rfl ?_
   refine shO_nil (shW_seq ?_)
   refine shW_condP rfl (fun c24 => ?_) (fun c24 => ?_)
   · obtain ⟨fu1, rfl, hk25⟩ := Ctr.succ hk19 c24
     rw [hear_desk_from_l1] at r21
     refine shW_skip (shW_seq ?_)
     refine shW_block ?_
     refine wsr (om rfl rfl (oa rfl rfl (shO_nil (shW_region ?_))))
     refine ov (v_load Tryz.isAgg24 rfl (Has.own 0 rfl) rfl) rfl ?_
     refine om rfl rfl ?_
     obtain ⟨x, g26, hx27, r28⟩ := ix_ok r21; clear r21
     obtain ⟨b29, o30, c31, vs32, ha33, hs34, hle35, rfl, hl36, hc37⟩ := SlR.at (iE_ok _) hz16 (L := (b10, .cells #[.slice a5 n8 n8] 24 (0, 0)) :: (Lb15 ++ [])) (fC fP) g26.1 hx27
     refine ov (v_indexO Tryz.underlying24 Tryz.sizeOf3 rfl ha33 rfl (SlR.idx hz16 g26)) rfl ?_
     obtain ⟨out3, h38, r39⟩ := bv_ok r28; clear r28
     refine o_storeZ (u := -1) Tryz.sizeOf3 (iE_ok _) rfl ha33 rfl rfl (fun _ => .c .h) hz16 h38 g26 ?_; intro Lb40 hz41
     refine shO_nil (inBlock_n (id := 1) (shW_region ?_))
     refine ov (v_add rfl rfl (Ctr.r64 hk19 c24 g17)) rfl ?_
     refine om rfl rfl (shO_nil ?_)
     exact le kr ⟨_, hk25, out3, Lb40, r39, rfl, rfl, (sc rfl (sc rfl (sc rfl (sc rfl (sc rfl (sn _)))))), hz41⟩
   obtain rfl := Ctr.zero hk19 c24
   rw [hear_desk_from_l1] at r21
   refine shW_exit (andThen_exit (andThen_exit ?_))
   refine inBlock_exit ?_
   obtain rfl := inj1 r21
   exact mi kr ⟨Lb15, rfl, rfl, (sc rfl (sc rfl (sc rfl (sn _)))), hz16⟩
 rintro e1 _ _ ⟨Lb11, rfl, rfl, he42, hz12⟩
 refine shW_env _ he42 ?_; clear he42
 refine wsr ?_
 refine ov (v_load Tryz.isAgg24 rfl (Has.own 0 rfl) rfl) rfl ?_
 refine om rfl rfl ?_
 obtain ⟨x2, g43, hx44, r45⟩ := ix_ok r14; clear r14
 obtain ⟨b46, o47, c48, vs49, ha50, hs51, hle52, rfl, hl53, hc54⟩ := SlR.at (iE_ok _) hz12 (L := (b10, .cells #[.slice a5 n8 n8] 24 (0, 0)) :: (Lb11 ++ [])) (fC fP) g43.1 hx44
 refine ov (v_indexO Tryz.underlying24 Tryz.sizeOf3 rfl ha50 rfl (SlR.idx hz12 g43)) rfl ?_
 obtain ⟨out4, h55, r56⟩ := bv_ok r45; clear r45
 refine o_storeZ (u := 0) Tryz.sizeOf3 (iE_ok _) rfl ha50 rfl rfl (fun _ => .c .h) hz12 h55 g43 ?_; intro Lb57 hz58
 refine nsr (om rfl rfl ?_)
 refine o_buildSlice (cs := #[.int .i64 stand]) rfl rfl (buildSlice_all slt_24 [.int .i64 stand] rfl (by decide) (by simp [Value.cells]) (by decide)) ?_; intro b59 hb59
 refine o_alloc rfl Tryz.zeroValue24 ?_; intro b60 hb60
 have hz62 : SlR K.w0.heap.size 3 1 (iE .i64) F (some ⟨b59, 0, none⟩) 1 1 [stand] [(b59, .cells #[.int .i64 stand] 3 (0, 0))] := SlR.of_block (vss := [[.int .i64 stand]]) (iE_ok _) hb59 (.cons rfl .nil) rfl rfl (by simp [maxLen])
 generalize hLLb61 : ([(b59, .cells #[.int .i64 stand] 3 (0, 0))] : LH) = Lb61 at hz62
 refine shO_perm (L' := Lb61 ++ ((b60, .cells #[.slice none 0 0] 24 (0, 0)) :: ((b10, .cells #[.slice a5 n8 n8] 24 (0, 0)) :: (Lb57 ++ [])))) (by rw [← hLLb61]; exact (fC fO)) ?_
 refine shO_perm (L' := (b60, .cells #[.slice none 0 0] 24 (0, 0)) :: ((b10, .cells #[.slice a5 n8 n8] 24 (0, 0)) :: (Lb61 ++ (Lb57 ++ [])))) (List.Perm.symm (fC (fC fP))) ?_
 refine o_store (i := 0) Tryz.sizeOf24 rfl rfl rfl rfl (Nat.le_of_ble_eq_true rfl) ?_
 refine shO_L (L' := (b60, .cells #[.slice (some ⟨b59, 0, none⟩) 1 1] 24 (0, 0)) :: ((b10, .cells #[.slice a5 n8 n8] 24 (0, 0)) :: (Lb61 ++ (Lb57 ++ [])))) rfl ?_
 refine shO_nil ?_
 obtain ⟨out5, h66, r67⟩ := b1_ok r56; clear r56
 refine shW_join (fun e1 F1 L1 => ∃ (Lb64 : LH), FExt F F1 ∧ L1 = ((b10, .cells #[.slice a5 n8 n8] 24 (0, 0)) :: (Lb64 ++ [])) ∧ e1.sub [(5, .pointer (some ⟨b10, 0, none⟩))] ∧ SlR K.w0.heap.size 3 1 (iE .i64) F1 a5 n8 n8 out5 Lb64) ?_ ?_
 · clear r67
   refine shW_block ?_
   refine shW_lp (fun fu2 e1 F1 L1 => ∃ (out6 : List Int) (line : List Int) (Lb68 : LH) (a70 : Option Addr) (n74 : Nat) (c71 : Nat) (Lb72 : LH), hear_desk_from_l2 wide plots down right_ blows fu2 out6 line = some out5 ∧ FExt F F1 ∧ L1 = ((b60, .cells #[.slice a70 n74 c71] 24 (0, 0)) :: ((b10, .cells #[.slice a5 n8 n8] 24 (0, 0)) :: (Lb68 ++ (Lb72 ++ [])))) ∧ e1.sub [(0, .pointer (some ⟨b_d, 0, none⟩)), (5, .pointer (some ⟨b10, 0, none⟩)), (7, .pointer (some ⟨b60, 0, none⟩))] ∧ SlR K.w0.heap.size 3 1 (iE .i64) F1 a5 n8 n8 out6 Lb68 ∧ SlR K.w0.heap.size 3 1 (iE .i64) F1 a70 n74 c71 line Lb72) FU (m0 (kc (kc (kg (fS fP) kr))) ⟨out4, [stand], Lb57, (some ⟨b59, 0, none⟩), 1, 1, Lb61, h66, FExt.refl _, rfl, (sc rfl (sc rfl (sc rfl (sn _)))), hz58, hz62⟩) ?_
   rintro fu2 e1 F80 _ ⟨out6, line, Lb68, a70, n74, c71, Lb72, r78, hF81, rfl, he79, hz69, hz73⟩
   refine shW_env _ he79 ?_; clear he79
   replace h_plots := h_plots.mono (iE_ok _) hF81
   replace hb_d := hF81 _ _ hb_d
   rcases fu2 with _ | fu2
   · rw [hear_desk_from_l2] at r78; cases r78
   rw [hear_desk_from_l2] at r78
   refine shW_seq (wsr ?_)
   refine ov (v_load Tryz.isAgg24 rfl (Has.own 0 rfl) rfl) rfl ?_
   refine ov ((v_lenS Tryz.underlying24 rfl).i (SlR.lenI hz73)) rfl ?_
   refine ov (v_gtrK rfl rfl) rfl ?_
   refine shO_nil ?_
   refine shW_condP rfl (fun c82 => ?_) (fun c82 => ?_)
   · have r83 := ite_t r78 c82; clear r78
     refine shW_skip ?_
     refine shW_block ?_
     refine wsr ?_
     refine ov (v_load Tryz.isAgg24 rfl (Has.own 0 rfl) rfl) rfl ?_
     obtain ⟨x3, g84, hx85, r86⟩ := ix_ok r83; clear r83
     obtain ⟨b87, o88, c89, vs90, ha91, hs92, hle93, rfl, hl94, hc95⟩ := SlR.at (iE_ok _) hz73 (L := (b60, .cells #[.slice a70 n74 c71] 24 (0, 0)) :: ((b10, .cells #[.slice a5 n8 n8] 24 (0, 0)) :: (Lb68 ++ (Lb72 ++ [])))) (fC (fC (fS fP))) g84.1 hx85
     refine ov (v_indexO Tryz.underlying24 Tryz.sizeOf3 rfl ha91 rfl (SlR.idx hz73 g84)) rfl ?_
     refine ov (v_load Tryz.isAgg3 rfl hs92 (hc95 0 (by decide))) rfl ?_
     refine o_alloc rfl Tryz.zeroValue3 ?_; intro b96 hb96
     refine o_store (i := 0) Tryz.sizeOf3 rfl rfl rfl rfl (Nat.le_of_ble_eq_true rfl) ?_
     refine shO_L (L' := (b96, .cells #[.int .i64 x3] 3 (0, 0)) :: ((b60, .cells #[.slice a70 n74 c71] 24 (0, 0)) :: ((b10, .cells #[.slice a5 n8 n8] 24 (0, 0)) :: (Lb68 ++ (Lb72 ++ []))))) rfl ?_
     refine nsr ?_
     refine ov (v_load Tryz.isAgg24 rfl (Has.own 1 rfl) rfl) rfl ?_
     obtain ⟨g97, r98⟩ := gd_ok r86; clear r86
     obtain ⟨line2, h99, r100⟩ := bv_ok r98; clear r98
     refine o_sliceZ (l := 1) (h := (line.length : Int)) (zs := line2) rfl slt_24 (iE_ok _) rfl (.inr ⟨_, rfl, rfl⟩) (.inl ⟨rfl, rfl⟩) (fun _ => .c (.c (.c (.s .h)))) hz73 g97 h99 ?_; intro a101 n104 c102 Lb105 h103
     refine o_store (i := 1) Tryz.sizeOf24 rfl rfl rfl rfl (Nat.le_of_ble_eq_true rfl) ?_
     refine shO_L (L' := (b96, .cells #[.int .i64 x3] 3 (0, 0)) :: ((b60, .cells #[.slice a101 n104 c102] 24 (0, 0)) :: ((b10, .cells #[.slice a5 n8 n8] 24 (0, 0)) :: (Lb68 ++ (Lb105 ++ []))))) rfl ?_
     refine nsr (om rfl rfl ?_)
     refine ov (v_load Tryz.isAgg3 rfl (Has.own 0 rfl) rfl) rfl ?_
     obtain ⟨y, h107, r108⟩ := b1_ok r100; clear r100
     refine o_call0 rfl Tryz.call146 rfl rfl rfl (hear_desk_next_w hb_d h_plots h107) ?_; rintro _ F109 _ hF110 hn111 ⟨cp113, rfl, rfl, hit114⟩
     replace hz69 := hz69.mono (iE_ok _) hF110
     replace h103 := h103.mono (iE_ok _) hF110
     refine shO_L (ln rfl) ?_
     refine shO_nil ?_
     refine shW_block ?_
     refine shW_rangeFunc (encs := (fun x : Int × Int => #[.int .i64 x.1, .int .i64 x.2])) (xs := y) rfl Tryz.call166 rfl (fun _ => rfl) hit114 (fun pre F1 L1 => ∃ (tl : List (Int × Int)) (out7 : List Int) (line3 : List Int) (Lb115 : LH) (a117 : Option Addr) (n121 : Nat) (c118 : Nat) (Lb119 : LH), y = pre ++ tl ∧ hear_desk_from_l3 x3 (hear_desk_from_l2 wide plots down right_ blows fu2) tl out7 line3 = some out5 ∧ L1 = ((b96, .cells #[.int .i64 x3] 3 (0, 0)) :: ((b60, .cells #[.slice a117 n121 c118] 24 (0, 0)) :: ((b10, .cells #[.slice a5 n8 n8] 24 (0, 0)) :: (Lb115 ++ (Lb119 ++ []))))) ∧ SlR K.w0.heap.size 3 1 (iE .i64) F1 a5 n8 n8 out7 Lb115 ∧ SlR K.w0.heap.size 3 1 (iE .i64) F1 a117 n121 c118 line3 Lb119) (fun _ _ _ => False) ?_ ?_ ?_ ?_ ?_ ?_
     · rintro pre F1 F2 L1 ⟨tl, out7, line3, Lb115, a117, n121, c118, Lb119, hs123, r124, rfl, hz116, hz120⟩ hx; exact ⟨tl, out7, line3, Lb115, a117, n121, c118, Lb119, hs123, r124, rfl, hz116.mono (iE_ok _) hx, hz120.mono (iE_ok _) hx⟩
     · intro c F1 F2 L1 h hx; exact h
     · exact ⟨_, out6, line2, Lb68, a101, n104, c102, Lb105, rfl, r108, rfl, hz69, h103⟩
     · rintro l125 wr126 Fr127 Xr128 Ha129 Hb130 hnb131 hH135 pre x4 tl2 hxs134 F132 _ hF133 ⟨tl, out7, line3, Lb115, a117, n121, c118, Lb119, hs123, r136, rfl, hz116, hz120⟩
       obtain rfl := rest_head hs123 hxs134
       rw [hear_desk_from_l3] at r136
       refine shW_env [(0, .pointer (some ⟨b_d, 0, none⟩)), (5, .pointer (some ⟨b10, 0, none⟩)), (7, .pointer (some ⟨b60, 0, none⟩)), (8, .pointer (some ⟨b96, 0, none⟩)), (43, .int .i64 x4.1), (44, .int .i64 x4.2)] (by exact (sc rfl (sc rfl (sc rfl (sc rfl (sc rfl (sc rfl (sn _)))))))) ?_
       refine wsr (oa rfl rfl (shO_nil (shW_region (oa rfl rfl (shO_nil ?_)))))
       refine ⟨rfl, ?_⟩
       refine shW_block ?_
       obtain ⟨k2, h137, r138⟩ := b1_ok r136; clear r136
       refine shW_join (fun e1 F1 L1 => F132 = F1 ∧ L1 = ((b96, .cells #[.int .i64 x3] 3 (0, 0)) :: ((b60, .cells #[.slice a117 n121 c118] 24 (0, 0)) :: ((b10, .cells #[.slice a5 n8 n8] 24 (0, 0)) :: (Lb115 ++ (Lb119 ++ []))))) ∧ e1.sub [(0, .pointer (some ⟨b_d, 0, none⟩)), (5, .pointer (some ⟨b10, 0, none⟩)), (7, .pointer (some ⟨b60, 0, none⟩)), (8, .pointer (some ⟨b96, 0, none⟩)), (9, .int .i64 x4.1), (10, .int .i64 x4.2), (43, .int .i64 x4.1), (44, .int .i64 x4.2), (62, .bool k2)]) ?_ ?_
       · clear r138
         refine shW_draw (by kernel_rfl) (by kernel_rfl) (by kernel_rfl) ?_
         refine qv (v_load Tryz.isAgg24 rfl (Has.own 2 rfl) rfl) rfl ?_
         refine qm rfl rfl ?_
         obtain ⟨x5, g139, hx140, r141⟩ := ix_ok h137; clear h137
         obtain ⟨b142, o143, c144, vs145, ha146, hs147, hle148, rfl, hl149, hc150⟩ := SlR.at (iE_ok _) hz116 (L := (b96, .cells #[.int .i64 x3] 3 (0, 0)) :: ((b60, .cells #[.slice a117 n121 c118] 24 (0, 0)) :: ((b10, .cells #[.slice a5 n8 n8] 24 (0, 0)) :: (Lb115 ++ (Lb119 ++ []))))) (fC (fC (fC fP))) g139.1 hx140
         refine qv (v_indexO Tryz.underlying24 Tryz.sizeOf3 rfl ha146 rfl (SlR.idx hz116 g139)) rfl ?_
         refine qv (v_load Tryz.isAgg3 rfl hs147 (hc150 0 (by decide))) rfl ?_
         refine qv (v_eql rfl rfl) rfl ?_
         refine qm rfl rfl ?_
         by_cases c151 : x5 = (-1)
         · have r152 := ite_t r141 c151; clear r141
           refine shQ_off (b' := true) 50 rfl (Env.isT rfl c151) rfl rfl (shQ_off (b' := true) 50 rfl (Env.isT rfl c151) rfl rfl (shQ_off (b' := true) 50 rfl (Env.isT rfl c151) rfl rfl (shQ_off (b' := true) 50 rfl (Env.isT rfl c151) rfl rfl (shQ_off (b' := true) 50 rfl (Env.isT rfl c151) rfl rfl (shQ_off (b' := true) 50 rfl (Env.isT rfl c151) rfl rfl (shQ_off (b' := true) 50 rfl (Env.isT rfl c151) rfl rfl (shQ_off (b' := true) 50 rfl (Env.isT rfl c151) rfl rfl (shQ_off (b' := true) 50 rfl (Env.isT rfl c151) rfl rfl (shQ_off (b' := true) 50 rfl (Env.isT rfl c151) rfl rfl ?_)))))))))
           refine shQ_off (b' := true) 50 rfl (Env.isT rfl c151) rfl rfl ?_
           refine qv (v_pick_t (evD_true rfl c151) rfl) rfl ?_
           refine shQ_nil ?_
           obtain rfl := inj1 r152
           exact mi kr ⟨rfl, rfl, (sc rfl (sc rfl (sc rfl (sc rfl (sc rfl (sc rfl (sc rfl (sc rfl (sc rfl (sn _))))))))))⟩
         have r153 := ite_f r141 c151; clear r141
         refine shQ_on (b := false) 50 rfl (Env.isF rfl c151) ?_
         refine qv (v_load Tryz.isAgg24 rfl (Has.own 2 rfl) rfl) rfl ?_
         refine shQ_on (b := false) 50 rfl (Env.isF rfl c151) ?_
         refine qv (v_load Tryz.isAgg3 rfl (Has.own 0 rfl) rfl) rfl ?_
         refine shQ_on (b := false) 50 rfl (Env.isF rfl c151) ?_
         obtain ⟨x6, g154, hx155, r156⟩ := ix_ok r153; clear r153
         obtain ⟨b157, o158, c159, vs160, ha161, hs162, hle163, rfl, hl164, hc165⟩ := SlR.at (iE_ok _) hz116 (L := (b96, .cells #[.int .i64 x3] 3 (0, 0)) :: ((b60, .cells #[.slice a117 n121 c118] 24 (0, 0)) :: ((b10, .cells #[.slice a5 n8 n8] 24 (0, 0)) :: (Lb115 ++ (Lb119 ++ []))))) (fC (fC (fC fP))) g154.1 hx155
         refine qv (v_indexO Tryz.underlying24 Tryz.sizeOf3 rfl ha161 rfl (SlR.idx hz116 g154)) rfl ?_
         refine shQ_on (b := false) 50 rfl (Env.isF rfl c151) ?_
         refine qv (v_load Tryz.isAgg3 rfl hs162 (hc165 0 (by decide))) rfl ?_
         refine shQ_on (b := false) 50 rfl (Env.isF rfl c151) (qm rfl rfl (shQ_on (b := false) 50 rfl (Env.isF rfl c151) ?_))
         obtain ⟨g166, r167⟩ := gd_ok r156; clear r156
         refine qv (v_add rfl rfl g166) rfl ?_
         refine shQ_on (b := false) 50 rfl (Env.isF rfl c151) ?_
         refine qv (v_load Tryz.isAgg24 rfl (Has.own 2 rfl) rfl) rfl ?_
         refine shQ_on (b := false) 50 rfl (Env.isF rfl c151) (qm rfl rfl (shQ_on (b := false) 50 rfl (Env.isF rfl c151) ?_))
         obtain ⟨b168, o169, c170, vs171, ha172, hs173, hle174, rfl, hl175, hc176⟩ := SlR.at (iE_ok _) hz116 (L := (b96, .cells #[.int .i64 x3] 3 (0, 0)) :: ((b60, .cells #[.slice a117 n121 c118] 24 (0, 0)) :: ((b10, .cells #[.slice a5 n8 n8] 24 (0, 0)) :: (Lb115 ++ (Lb119 ++ []))))) (fC (fC (fC fP))) g139.1 hx140
         refine qv (v_indexO Tryz.underlying24 Tryz.sizeOf3 rfl ha172 rfl (SlR.idx hz116 g139)) rfl ?_
         refine shQ_on (b := false) 50 rfl (Env.isF rfl c151) ?_
         refine qv (v_load Tryz.isAgg3 rfl hs173 (hc176 0 (by decide))) rfl ?_
         refine shQ_on (b := false) 50 rfl (Env.isF rfl c151) ?_
         refine qv (v_lssK rfl rfl) rfl ?_
         refine qv (v_pick_f (evD_false rfl c151) rfl) rfl ?_
         refine shQ_nil ?_
         obtain rfl := inj1 r167
         exact mi kr ⟨rfl, rfl, (sc rfl (sc rfl (sc rfl (sc rfl (sc rfl (sc rfl (sc rfl (sc rfl (sc rfl (sn _))))))))))⟩
       rintro e1 _ _ ⟨rfl, rfl, he177⟩
       refine shW_env _ he177 ?_; clear he177
       refine shW_cond rfl (fun c178 => ?_) (fun c178 => ?_)
       · have r179 := bt r138 c178; clear r138
         refine shW_seq ?_
         refine shW_drawM [(.still, 0), (.still, 1), (.still, 2), (.still, 3), (.still, 4), (.still, 5), (.still, 6), (.still, 7), (.still, 8), (.seq, 9)] (by kernel_rfl) (by kernel_rfl) (trivial) (by rfl) (by kernel_rfl) ?_
         refine shM_v (v := .slice a5 n8 n8) (ek := [(5, .pointer (some ⟨b10, 0, none⟩))]) (Ls := [(b10, .cells #[.slice a5 n8 n8] 24 (0, 0))]) rfl rfl rfl rfl ((sc rfl (sn _))) (by kernel_rfl) (s0 (s1 (s1 (s2 (s3 (s3 sr)))))) (fun H F' L' hF' hL' => v_load Tryz.isAgg24 rfl ((Has.own 0 rfl).ext hF' hL') rfl) ?_
         refine shM_v (v := .int .i64 x4.1) (ek := [(9, .int .i64 x4.1)]) (Ls := []) rfl rfl rfl rfl ((sc rfl (sn _))) (by kernel_rfl) sm (fun H F' L' hF' hL' => v_move rfl) ?_
         refine shM_v (v := .slice a5 n8 n8) (ek := [(5, .pointer (some ⟨b10, 0, none⟩))]) (Ls := [(b10, .cells #[.slice a5 n8 n8] 24 (0, 0))]) rfl rfl rfl rfl ((sc rfl (sn _))) (by kernel_rfl) (s0 (s1 (s1 (s2 (s3 (s3 sr)))))) (fun H F' L' hF' hL' => v_load Tryz.isAgg24 rfl ((Has.own 0 rfl).ext hF' hL') rfl) ?_
         refine shM_v (v := .int .i64 x3) (ek := [(8, .pointer (some ⟨b96, 0, none⟩))]) (Ls := [(b96, .cells #[.int .i64 x3] 3 (0, 0))]) rfl rfl rfl rfl ((sc rfl (sn _))) (by kernel_rfl) (s0 (s2 (s1 (s1 (s3 (s3 sr)))))) (fun H F' L' hF' hL' => v_load Tryz.isAgg3 rfl ((Has.own 0 rfl).ext hF' hL') rfl) ?_
         obtain ⟨x7, g180, hx181, r182⟩ := ix_ok r179; clear r179
         obtain ⟨b183, o184, c185, vs186, ha187, hs188, hle189, rfl, hl190, hc191⟩ := SlR.at (iE_ok _) hz116 (L := Lb115 ++ []) fP g180.1 hx181
         refine shM_v (v := .pointer (some ⟨b183, o184 + (x3 : Int).toNat * 1, none⟩)) (ek := [(65, .slice a5 n8 n8), (66, .int .i64 x3)]) (Ls := []) rfl rfl rfl rfl ((sc rfl (sc rfl (sn _)))) (by kernel_rfl) sm (fun H F' L' hF' hL' => v_indexO Tryz.underlying24 Tryz.sizeOf3 rfl ha187 rfl (SlR.idx hz116 g180)) ?_
         refine shM_v (v := .int .i64 x7) (ek := [(67, .pointer (some ⟨b183, o184 + (x3 : Int).toNat * 1, none⟩))]) (Ls := Lb115 ++ []) rfl rfl rfl rfl ((sc rfl (sn _))) (by kernel_rfl) (s0 (s1 (s1 (s1 (s4 (s3 sr)))))) (fun H F' L' hF' hL' => v_load Tryz.isAgg3 rfl (hs188.ext hF' hL') (hc191 0 (by decide))) ?_
         refine shM_v (v := .int .i64 x4.2) (ek := [(10, .int .i64 x4.2)]) (Ls := []) rfl rfl rfl rfl ((sc rfl (sn _))) (by kernel_rfl) sm (fun H F' L' hF' hL' => v_move rfl) ?_
         obtain ⟨g192, r193⟩ := gd_ok r182; clear r182
         refine shM_v (v := .int .i64 (x7 + x4.2)) (ek := [(68, .int .i64 x7), (69, .int .i64 x4.2)]) (Ls := []) rfl rfl rfl rfl ((sc rfl (sc rfl (sn _)))) (by kernel_rfl) sm (fun H F' L' hF' hL' => v_add rfl rfl g192) ?_
         obtain ⟨x8, g194, hx195, r196⟩ := ix_ok r193; clear r193
         obtain ⟨b197, o198, c199, vs200, ha201, hs202, hle203, rfl, hl204, hc205⟩ := SlR.at (iE_ok _) hz116 (L := Lb115 ++ []) fP g194.1 hx195
         refine shM_v (v := .pointer (some ⟨b197, o198 + (x4.1 : Int).toNat * 1, none⟩)) (ek := [(63, .slice a5 n8 n8), (64, .int .i64 x4.1)]) (Ls := []) rfl rfl rfl rfl ((sc rfl (sc rfl (sn _)))) (by kernel_rfl) sm (fun H F' L' hF' hL' => v_indexO Tryz.underlying24 Tryz.sizeOf3 rfl ha201 rfl (SlR.idx hz116 g194)) ?_
         refine ⟨_, [(70, .int .i64 (x7 + x4.2)), (71, .pointer (some ⟨b197, o198 + (x4.1 : Int).toNat * 1, none⟩))], rfl, rfl, (sc rfl (sc rfl (sn _))), by kernel_rfl, ?_⟩; intro H
         obtain ⟨l2, h206, r207⟩ := bv_ok r196; clear r196
         refine o_storeZ (u := x7 + x4.2) Tryz.sizeOf3 (iE_ok _) rfl ha201 rfl rfl (fun _ => .c (.c (.c .h))) hz116 h206 g194 ?_; intro Lb208 hz209
         refine shO_nil ⟨undef, rfl, FExt.refl _, [], by kernel_rfl, .inl (.inl rfl), (fun _ h => absurd h List.not_mem_nil), ?_⟩
         refine shM_nil ?_
         refine shW_region ?_
         refine ov (v_load Tryz.isAgg24 rfl (Has.own 1 rfl) rfl) rfl ?_
         refine om rfl rfl ?_
         refine o_buildSlice (cs := #[.int .i64 x4.1]) rfl rfl (buildSlice_all slt_24 [.int .i64 x4.1] rfl (by decide) (by simp [Value.cells]) (by decide)) ?_; intro b210 hb210
         obtain ⟨line4, h211, g212, r213⟩ := ap_ok r207; clear r207
         refine o_appZ (xs := line3) (ys := [x4.1]) (zs := line4) rfl slt_24 rfl rfl hnb131 (fun _ => .c (.c (.c (.c (.s .h))))) hz120 (SrcR.box (vss := [[.int .i64 x4.1]]) (ys := [x4.1]) 0 rfl (iE_ok _) (.cons rfl .nil) rfl rfl) h211 g212 (by decide) ?_; intro a214 n218 c215 Lb216 hz217
         refine kO (kd kr) ?_
         refine o_store (i := 1) Tryz.sizeOf24 rfl rfl rfl rfl (Nat.le_of_ble_eq_true rfl) ?_
         refine shO_L (L' := (b96, .cells #[.int .i64 x3] 3 (0, 0)) :: ((b60, .cells #[.slice a214 n218 c215] 24 (0, 0)) :: ((b10, .cells #[.slice a5 n8 n8] 24 (0, 0)) :: (Lb208 ++ (Lb216 ++ []))))) rfl ?_
         refine shO_nil (inBlock_n (id := 5) ?_)
         refine ⟨(b96, .cells #[.int .i64 x3] 3 (0, 0)) :: ((b60, .cells #[.slice a214 n218 c215] 24 (0, 0)) :: ((b10, .cells #[.slice a5 n8 n8] 24 (0, 0)) :: (Lb208 ++ (Lb216 ++ [])))), ⟨_, .refl _, sr⟩, ?_⟩; exact ⟨_, l2, line4, Lb208, a214, n218, c215, Lb216, (by rw [hxs134]; simp), r213, rfl, hz209, hz217⟩
       have r220 := bf r138 c178; clear r138
       refine shW_skip (inBlock_n (id := 5) ?_)
       refine ⟨(b96, .cells #[.int .i64 x3] 3 (0, 0)) :: ((b60, .cells #[.slice a117 n121 c118] 24 (0, 0)) :: ((b10, .cells #[.slice a5 n8 n8] 24 (0, 0)) :: (Lb115 ++ (Lb119 ++ [])))), ⟨_, .refl _, sr⟩, ?_⟩; exact ⟨_, out7, line3, Lb115, a117, n121, c118, Lb119, (by rw [hxs134]; simp), r220, rfl, hz116, hz120⟩
     · rintro F221 _ hF222 ⟨tl, out7, line3, Lb115, a117, n121, c118, Lb119, hs123, r223, rfl, hz116, hz120⟩
       obtain rfl := rest_nil hs123; rw [hear_desk_from_l3] at r223
       refine inBlock_n (id := 4) (inBlock_n (id := 3) ?_)
       exact le (kd kr) ⟨out7, line3, Lb115, a117, n121, c118, Lb119, r223, ((hF81.trans hF110).trans hF222), rfl, (sc rfl (sc rfl (sc rfl (sn _)))), hz116, hz120⟩
     intro c F1 L1 hx h; exact h.elim
   have r224 := ite_f r78 c82; clear r78
   refine shW_exit (andThen_exit (andThen_exit ?_))
   refine inBlock_exit ?_
   obtain rfl := inj1 r224
   exact mi (kd (kc (ka kn))) ⟨Lb68, hF81, rfl, (sc rfl (sn _)), hz69⟩
 rintro e1 F226 _ ⟨Lb64, hF227, rfl, he225, hz65⟩
 refine shW_env _ he225 ?_; clear he225
 refine wsr ?_
 refine ov (v_load Tryz.isAgg24 rfl (Has.own 0 rfl) rfl) rfl ?_
 refine oa rfl rfl (shO_nil ?_)
 refine kW (kd kr) ?_
 refine shW_ret ?_
 refine q_res1 Tryz.results117 (res_tmp rfl) (sr) ?_
 obtain rfl := inj1 r67
 exact ⟨_, _, _, _, rfl, rfl, hz65.any⟩
set_option maxHeartbeats 1000000 in
theorem hear_Needs_w {wide : Int} {plots_a : Option Addr} {plots_c : Nat} {plots : List Int} {wind : Int} {stand : Int} {F : FS} (h_plots : RowR 1 (iE .i64) F plots_a plots_c plots) {r : List Int} {r2 : Int} (hr : hear_Needs wide plots wind stand = some (r, r2)) :
    SH.Spec Tryz.prog 74 #[.agg #[.int .i64 wide, .slice plots_a plots.length plots_c], .int .i64 wind, .int .i64 stand] F [] fun F' L' v => ∃ (ra : Option Addr) (rn : Nat) (rc : Nat) (rL : LH), v = .tuple #[.slice ra rn rc, .int .i64 r2] ∧ L' = rL ++ [] ∧ SlR 0 3 1 (iE .i64) F' ra rn rc r rL := by
 refine spec_of_shW (args := [.agg #[.int .i64 wide, .slice plots_a plots.length plots_c], .int .i64 wind, .int .i64 stand]) Tryz.func74 rfl Tryz.ntmps74 (Nat.le_of_ble_eq_true rfl) ?_
 intro K _ _; rw [hear_Needs] at hr
 refine wsr ?_
 refine o_box rfl rfl ?_; intro b1 hb1
 refine oa rfl rfl (oa rfl rfl (nsr ?_))
 refine ov (v_loadA (cs := #[.int .i64 wide, .slice plots_a plots.length plots_c]) Tryz.isAgg56 Tryz.sizeOf56 rfl (Has.own 0 rfl) (Nat.le_of_ble_eq_true rfl) rfl) rfl ?_
 refine om rfl rfl (om rfl rfl ?_)
 obtain ⟨d, n, h2, r3⟩ := b2_ok hr; clear hr
 refine o_call0 rfl Tryz.call116 rfl rfl rfl (hear_standing_w h_plots h2) ?_; rintro _ F4 _ hF5 hn6 ⟨v8, rfl, rfl, hp9⟩
 refine shO_L (ln rfl) ?_
 refine om rfl rfl (ox rfl rfl rfl (ox rfl rfl rfl (oa rfl rfl (oa rfl rfl (shO_nil (shW_seq (wsr (om rfl rfl ?_))))))))
 refine ov (v_neq rfl rfl) rfl ?_
 refine shO_nil ?_
 refine shW_condP rfl (fun c10 => ?_) (fun c10 => ?_)
 · have r11 := ite_t r3 c10; clear r3
   refine wsr (om rfl rfl (oa rfl rfl (oa rfl rfl (shO_nil ?_))))
   refine kW kn ?_
   refine shW_ret (andThen_ret ?_)
   refine q_res2 Tryz.results74 (res_tmp rfl) (res_tmp rfl) (sr) ?_
   obtain ⟨rfl, rfl⟩ := inj2 r11
   exact ⟨_, _, _, [], rfl, rfl, SlR.nil _ _ _ _ _⟩
 have r12 := ite_f r3 c10; clear r3
 refine shW_skip (wsr (om rfl rfl (om rfl rfl ?_)))
 obtain ⟨wide2, plots2, down, right_, blows, h13, r14⟩ := b5_ok r12; clear r12
 have h23 := hp9; rw [h13] at h23; obtain ⟨b15, c16, m17, hv18, hz19, ⟨_, _, rfl, rfl, ⟨_, _, rfl, ⟨a20, c21, rfl, h22⟩, ⟨_, _, rfl, rfl, ⟨_, _, rfl, rfl, rfl⟩⟩⟩⟩⟩ := h23; subst hv18
 have hz19 : F4 b15 = some (.cells #[.int .i64 wide2, .slice a20 plots2.length c21, .int .i64 down, .int .i64 right_, .bool blows] 229 m17) := hz19
 obtain ⟨l, h24, r25⟩ := b1_ok r14; clear r14
 refine o_call0 rfl Tryz.call117 rfl rfl rfl (hear_desk_from_w hz19 h22 h24) ?_; rintro _ F26 _ hF27 hn28 ⟨a30, n34, c31, Lb32, rfl, rfl, hz33⟩
 replace hz33 := hz33.new fun p hp => hn28 p (by simp [hp])
 refine shO_L (lp (ln rfl)) ?_
 refine kO (kf (fS fO) kr) ?_
 refine oa rfl rfl (oa rfl rfl (shO_nil ?_))
 refine kW (kd kr) ?_
 refine shW_ret ?_
 refine q_res2 Tryz.results74 (res_tmp rfl) (res_tmp rfl) (sr) ?_
 obtain ⟨rfl, rfl⟩ := inj2 r25
 exact ⟨_, _, _, _, rfl, rfl, hz33.any⟩
set_option maxHeartbeats 1000000 in
theorem hear_Houses_w {wide : Int} {plots_a : Option Addr} {plots_c : Nat} {plots : List Int} {wind : Int} {voice : Int} {stand : Int} {F : FS} (h_plots : RowR 1 (iE .i64) F plots_a plots_c plots) {r : List Int} {r2 : Int} (hr : hear_Houses wide plots wind voice stand = some (r, r2)) :
    SH.Spec Tryz.prog 27 #[.agg #[.int .i64 wide, .slice plots_a plots.length plots_c], .agg #[.int .i64 wind, .int .i64 voice], .int .i64 stand] F [] fun F' L' v => ∃ (ra : Option Addr) (rn : Nat) (rc : Nat) (rL : LH), v = .tuple #[.slice ra rn rc, .int .i64 r2] ∧ L' = rL ++ [] ∧ SlR 0 3 1 (iE .i64) F' ra rn rc r rL := by
 refine spec_of_shW (args := [.agg #[.int .i64 wide, .slice plots_a plots.length plots_c], .agg #[.int .i64 wind, .int .i64 voice], .int .i64 stand]) Tryz.func27 rfl Tryz.ntmps27 (Nat.le_of_ble_eq_true rfl) ?_
 intro K _ _; rw [hear_Houses] at hr
 refine wsr ?_
 refine o_box rfl rfl ?_; intro b1 hb1
 refine o_box rfl rfl ?_; intro b2 hb2
 refine oa rfl rfl (oa rfl rfl (shO_nil (shW_seq (wsr ?_))))
 refine ov (v_loadA (cs := #[.int .i64 wide, .slice plots_a plots.length plots_c]) Tryz.isAgg56 Tryz.sizeOf56 rfl (Has.own 1 rfl) (Nat.le_of_ble_eq_true rfl) rfl) rfl ?_
 obtain ⟨n, h3, r4⟩ := b1_ok hr; clear hr
 refine o_callV rfl Tryz.call72 rfl rfl rfl (hear_Check_w h_plots h3) ?_
 refine oa rfl rfl (nsr (om rfl rfl ?_))
 refine ov (v_neq rfl rfl) rfl ?_
 refine shO_nil ?_
 refine shW_condP rfl (fun c5 => ?_) (fun c5 => ?_)
 · have r6 := ite_t r4 c5; clear r4
   refine wsr (om rfl rfl (oa rfl rfl (oa rfl rfl (shO_nil ?_))))
   refine kW kn ?_
   refine shW_ret (andThen_ret ?_)
   refine q_res2 Tryz.results27 (res_tmp rfl) (res_tmp rfl) (sr) ?_
   obtain ⟨rfl, rfl⟩ := inj2 r6
   exact ⟨_, _, _, [], rfl, rfl, SlR.nil _ _ _ _ _⟩
 have r7 := ite_f r4 c5; clear r4
 refine shW_skip (shW_seq (wsr ?_))
 refine ov (v_loadA (cs := #[.int .i64 wind, .int .i64 voice]) Tryz.isAgg60 Tryz.sizeOf60 rfl (Has.own 0 rfl) (Nat.le_of_ble_eq_true rfl) rfl) rfl ?_
 obtain ⟨n2, h8, r9⟩ := b1_ok r7; clear r7
 refine o_callV rfl Tryz.call73 rfl rfl rfl (hear_CheckAir_w h8) ?_
 refine oa rfl rfl (nsr (om rfl rfl ?_))
 refine ov (v_neq rfl rfl) rfl ?_
 refine shO_nil ?_
 refine shW_condP rfl (fun c10 => ?_) (fun c10 => ?_)
 · have r11 := ite_t r9 c10; clear r9
   refine wsr (om rfl rfl (oa rfl rfl (oa rfl rfl (shO_nil ?_))))
   refine kW kn ?_
   refine shW_ret (andThen_ret ?_)
   refine q_res2 Tryz.results27 (res_tmp rfl) (res_tmp rfl) (sr) ?_
   obtain ⟨rfl, rfl⟩ := inj2 r11
   exact ⟨_, _, _, [], rfl, rfl, SlR.nil _ _ _ _ _⟩
 have r12 := ite_f r9 c10; clear r9
 refine shW_skip (wsr ?_)
 refine ov (v_loadA (cs := #[.int .i64 wide, .slice plots_a plots.length plots_c]) Tryz.isAgg56 Tryz.sizeOf56 rfl (Has.own 1 rfl) (Nat.le_of_ble_eq_true rfl) rfl) rfl ?_
 refine ov (v_fieldAddr fa_60_0 rfl) rfl ?_
 refine ov (v_load Tryz.isAgg58 rfl (Has.own 0 rfl) rfl) rfl ?_
 refine om rfl rfl ?_
 obtain ⟨l, n3, h13, r14⟩ := b2_ok r12; clear r12
 refine o_call0 rfl Tryz.call74 rfl rfl rfl (hear_Needs_w h_plots h13) ?_; rintro _ F15 _ hF16 hn17 ⟨a19, n23, c20, Lb21, rfl, rfl, hz22⟩
 replace h_plots := h_plots.mono (iE_ok _) hF16
 replace hz22 := hz22.new fun p hp => hn17 p (by simp [hp])
 refine shO_L (lp (ln rfl)) ?_
 refine kO (kf (fS fO) (kf (fS fO) kr)) ?_
 refine om rfl rfl (ox rfl rfl rfl (ox rfl rfl rfl (oa rfl rfl (oa rfl rfl (shO_nil (shW_seq (wsr (om rfl rfl ?_))))))))
 refine ov (v_neq rfl rfl) rfl ?_
 refine shO_nil ?_
 refine shW_condP rfl (fun c25 => ?_) (fun c25 => ?_)
 · have r26 := ite_t r14 c25; clear r14
   refine wsr (om rfl rfl (oa rfl rfl (oa rfl rfl (shO_nil ?_))))
   refine kW kn ?_
   refine shW_ret (andThen_ret ?_)
   refine q_res2 Tryz.results27 (res_tmp rfl) (res_tmp rfl) (sr) ?_
   obtain ⟨rfl, rfl⟩ := inj2 r26
   exact ⟨_, _, _, [], rfl, rfl, SlR.nil _ _ _ _ _⟩
 have r27 := ite_f r14 c25; clear r14
 refine shW_skip (wsr (oa rfl rfl (shO_nil ?_)))
 obtain ⟨out, h34, r35⟩ := b1_ok r27; clear r27
 refine shW_join (fun e1 F1 L1 => ∃ (a28 : Option Addr) (n32 : Nat) (c29 : Nat) (Lb30 : LH), F15 = F1 ∧ L1 = (Lb30 ++ []) ∧ e1.sub [(12, .slice a28 n32 c29)] ∧ SlR K.w0.heap.size 3 1 (iE .i64) F1 a28 n32 c29 out Lb30) ?_ ?_
 · clear r35
   refine wsr (om rfl rfl ?_)
   refine ov ((v_lenS Tryz.underlying24 rfl).i (SlR.lenI hz22)) rfl ?_
   refine om rfl rfl (shO_nil ?_)
   refine shW_block ?_
   refine shW_lp (fun fu1 e1 F1 L1 => ∃ (tl : List Int) (k : Int), tl.length = fu1 ∧ Lst l k tl ∧ ∃ (out2 : List Int) (a36 : Option Addr) (n40 : Nat) (c37 : Nat) (Lb38 : LH), hear_Houses_l1 plots voice tl k out2 = some out ∧ F15 = F1 ∧ L1 = ((b2, .cells #[.int .i64 wind, .int .i64 voice] 60 (0, 0)) :: ((b1, .cells #[.int .i64 wide, .slice plots_a plots.length plots_c] 56 (0, 0)) :: (Lb38 ++ (Lb21 ++ [])))) ∧ e1.sub [(3, .pointer (some ⟨b1, 0, none⟩)), (4, .pointer (some ⟨b2, 0, none⟩)), (12, .slice a36 n40 c37), (36, .slice a19 n23 c20), (37, .int .i64 (l.length : Int)), (38, .int .i64 k)] ∧ SlR K.w0.heap.size 3 1 (iE .i64) F1 a36 n40 c37 out2 Lb38) _ (m0 (kc (kc (ke kr))) ⟨_, _, rfl, Lst.start _, [], none, 0, 0, [], h34, rfl, rfl, (sc rfl (sc rfl (sc rfl (sc rfl (sc rfl (sc rfl (sn _))))))), SlR.nil _ _ _ _ _⟩) ?_
   rintro fu1 e1 _ _ ⟨tl, k, hn43, hk42, out2, a36, n40, c37, Lb38, r44, rfl, rfl, he45, hz39⟩
   refine shW_env _ he45 ?_; clear he45
   refine wsr ?_
   refine ov (v_lssK rfl rfl) rfl ?_
   refine shO_nil (shW_seq ?_)
   refine shW_condP rfl (fun c47 => ?_) (fun c47 => ?_)
   · obtain ⟨x, tl2, rfl, hx49, g50, hk48⟩ := Lst.succ hk42 c47
     rw [hear_Houses_l1] at r44
     refine shW_skip (shW_seq ?_)
     refine shW_block ?_
     refine wsr (om rfl rfl ?_)
     obtain ⟨b51, o52, c53, vs54, ha55, hs56, hle57, rfl, hl58, hc59⟩ := SlR.at (iE_ok _) hz22 (L := (b2, .cells #[.int .i64 wind, .int .i64 voice] 60 (0, 0)) :: ((b1, .cells #[.int .i64 wide, .slice plots_a plots.length plots_c] 56 (0, 0)) :: (Lb38 ++ (Lb21 ++ [])))) (fC (fC (fS fP))) g50.1 hx49
     refine ov (v_indexO Tryz.underlying24 Tryz.sizeOf3 rfl ha55 rfl (SlR.idx hz22 g50)) rfl ?_
     refine ov (v_load Tryz.isAgg3 rfl hs56 (hc59 0 (by decide))) rfl ?_
     refine oa rfl rfl (oa rfl rfl (shO_nil ?_))
     obtain ⟨k2, h60, r61⟩ := b1_ok r44; clear r44
     refine shW_join (fun e1 F1 L1 => F15 = F1 ∧ L1 = ((b2, .cells #[.int .i64 wind, .int .i64 voice] 60 (0, 0)) :: ((b1, .cells #[.int .i64 wide, .slice plots_a plots.length plots_c] 56 (0, 0)) :: (Lb38 ++ (Lb21 ++ [])))) ∧ e1.sub [(3, .pointer (some ⟨b1, 0, none⟩)), (4, .pointer (some ⟨b2, 0, none⟩)), (12, .slice a36 n40 c37), (13, .int .i64 k), (36, .slice a19 n23 c20), (37, .int .i64 (l.length : Int)), (38, .int .i64 k), (54, .bool k2)]) ?_ ?_
     · clear r61
       refine shW_region ?_
       refine ov (v_fieldAddr fa_56_1 rfl) rfl ?_
       refine ov (v_load Tryz.isAgg54 rfl (Has.own 1 rfl) rfl) rfl ?_
       refine om rfl rfl ?_
       obtain ⟨x2, g62, hx63, r64⟩ := ix_ok h60; clear h60
       obtain ⟨b65, o66, c67, vs68, ha69, hs70, hle71, rfl, hl72, hc73⟩ := RowR.at (iE_ok _) h_plots ((b2, .cells #[.int .i64 wind, .int .i64 voice] 60 (0, 0)) :: ((b1, .cells #[.int .i64 wide, .slice plots_a plots.length plots_c] 56 (0, 0)) :: (Lb38 ++ (Lb21 ++ [])))) g62.1 hx63
       refine ov (v_indexO Tryz.underlying54 Tryz.sizeOf62 rfl ha69 rfl g62) rfl ?_
       refine ov (v_load Tryz.isAgg62 rfl hs70 (hc73 0 (by decide))) rfl ?_
       refine ov (v_eql rfl rfl) rfl ?_
       refine om rfl rfl ?_
       by_cases c74 : x2 = 1
       · have r75 := ite_t r64 c74; clear r64
         refine shO_on (b := true) 49 rfl (Env.isT rfl c74) (om rfl rfl (shO_on (b := true) 49 rfl (Env.isT rfl c74) ?_))
         refine ov (v_fieldAddr fa_60_1 rfl) rfl ?_
         refine shO_on (b := true) 49 rfl (Env.isT rfl c74) ?_
         refine ov (v_load Tryz.isAgg3 rfl (Has.own 0 rfl) rfl) rfl ?_
         refine shO_on (b := true) 49 rfl (Env.isT rfl c74) ?_
         obtain ⟨ok, h76, r77⟩ := b1_ok r75; clear r75
         refine o_callV rfl Tryz.call75 rfl rfl rfl (hear_in_w h76) ?_
         refine ov (v_pick_t (evD_true rfl c74) rfl) rfl ?_
         refine shO_nil ?_
         obtain rfl := inj1 r77
         exact mi kr ⟨rfl, rfl, (sc rfl (sc rfl (sc rfl (sc rfl (sc rfl (sc rfl (sc rfl (sc rfl (sn _)))))))))⟩
       have r78 := ite_f r64 c74; clear r64
       refine shO_off (b' := false) 49 rfl (Env.isF rfl c74) rfl rfl (shO_off (b' := false) 49 rfl (Env.isF rfl c74) rfl rfl (shO_off (b' := false) 49 rfl (Env.isF rfl c74) rfl rfl (shO_off (b' := false) 49 rfl (Env.isF rfl c74) rfl rfl ?_)))
       refine ov (v_pick_f (evD_false rfl c74) rfl) rfl ?_
       refine shO_nil ?_
       obtain rfl := inj1 r78
       exact mi kr ⟨rfl, rfl, (sc rfl (sc rfl (sc rfl (sc rfl (sc rfl (sc rfl (sc rfl (sc rfl (sn _)))))))))⟩
     rintro e1 _ _ ⟨rfl, rfl, he79⟩
     refine shW_env _ he79 ?_; clear he79
     refine shW_cond rfl (fun c80 => ?_) (fun c80 => ?_)
     · have r81 := bt r61 c80; clear r61
       refine shW_region (om rfl rfl (om rfl rfl ?_))
       refine o_buildSlice (cs := #[.int .i64 k]) rfl rfl (buildSlice_all slt_24 [.int .i64 k] rfl (by decide) (by simp [Value.cells]) (by decide)) ?_; intro b82 hb82
       obtain ⟨out3, h83, g84, r85⟩ := ap_ok r81; clear r81
       refine o_appZ (xs := out2) (ys := [k]) (zs := out3) rfl slt_24 rfl rfl (Nat.le_refl _) (fun _ => .c (.c (.c .h))) hz39 (SrcR.box (vss := [[.int .i64 k]]) (ys := [k]) 0 rfl (iE_ok _) (.cons rfl .nil) rfl rfl) h83 g84 (by decide) ?_; intro a86 n90 c87 Lb88 hz89
       refine kO (kd kr) ?_
       refine oa rfl rfl (shO_nil (inBlock_n (id := 1) (shW_region ?_)))
       refine ov (v_add rfl rfl (Lst.r64 hk42 c47 (SlR.llt hz22))) rfl ?_
       refine om rfl rfl (shO_nil ?_)
       subst hn43; exact le kr ⟨_, _, rfl, hk48, out3, a86, n90, c87, Lb88, r85, rfl, rfl, (sc rfl (sc rfl (sc rfl (sc rfl (sc rfl (sc rfl (sn _))))))), hz89⟩
     have r92 := bf r61 c80; clear r61
     refine shW_skip (inBlock_n (id := 1) (shW_region ?_))
     refine ov (v_add rfl rfl (Lst.r64 hk42 c47 (SlR.llt hz22))) rfl ?_
     refine om rfl rfl (shO_nil ?_)
     subst hn43; exact le kr ⟨_, _, rfl, hk48, out2, a36, n40, c37, Lb38, r92, rfl, rfl, (sc rfl (sc rfl (sc rfl (sc rfl (sc rfl (sc rfl (sn _))))))), hz39⟩
   obtain rfl := Lst.zero hk42 c47
   rw [hear_Houses_l1] at r44
   refine shW_exit (andThen_exit (andThen_exit ?_))
   refine inBlock_exit ?_
   obtain rfl := inj1 r44
   exact mi (kd (kd (ka kn))) ⟨a36, n40, c37, Lb38, rfl, rfl, (sc rfl (sn _)), hz39⟩
 rintro e1 _ _ ⟨a28, n32, c29, Lb30, rfl, rfl, he93, hz31⟩
 refine shW_env _ he93 ?_; clear he93
 refine wsr (om rfl rfl (oa rfl rfl (oa rfl rfl (shO_nil (shW_ret ?_)))))
 refine q_res2 Tryz.results27 (res_tmp rfl) (res_tmp rfl) (sr) ?_
 obtain ⟨rfl, rfl⟩ := inj2 r35
 exact ⟨_, _, _, _, rfl, rfl, hz31.any⟩
set_option maxHeartbeats 1000000 in
theorem hear_Need_w {wide : Int} {plots_a : Option Addr} {plots_c : Nat} {plots : List Int} {wind : Int} {stand : Int} {plot : Int} {F : FS} (h_plots : RowR 1 (iE .i64) F plots_a plots_c plots) {r : Int} {r2 : Int} (hr : hear_Need wide plots wind stand plot = some (r, r2)) :
    SpecV Tryz.prog 78 #[.agg #[.int .i64 wide, .slice plots_a plots.length plots_c], .int .i64 wind, .int .i64 stand, .int .i64 plot] F (.tuple #[.int .i64 r, .int .i64 r2]) := by
 refine spec_of_shW (args := [.agg #[.int .i64 wide, .slice plots_a plots.length plots_c], .int .i64 wind, .int .i64 stand, .int .i64 plot]) Tryz.func78 rfl Tryz.ntmps78 (Nat.le_of_ble_eq_true rfl) ?_
 intro K _ _; rw [hear_Need] at hr
 refine wsr ?_
 refine o_box rfl rfl ?_; intro b1 hb1
 refine oa rfl rfl (oa rfl rfl (nsr ?_))
 refine ov (v_loadA (cs := #[.int .i64 wide, .slice plots_a plots.length plots_c]) Tryz.isAgg56 Tryz.sizeOf56 rfl (Has.own 0 rfl) (Nat.le_of_ble_eq_true rfl) rfl) rfl ?_
 refine om rfl rfl (om rfl rfl ?_)
 obtain ⟨l, n, h2, r3⟩ := b2_ok hr; clear hr
 refine o_call0 rfl Tryz.call74 rfl rfl rfl (hear_Needs_w h_plots h2) ?_; rintro _ F4 _ hF5 hn6 ⟨a8, n12, c9, Lb10, rfl, rfl, hz11⟩
 replace h_plots := h_plots.mono (iE_ok _) hF5
 replace hz11 := hz11.new fun p hp => hn6 p (by simp [hp])
 refine shO_L (lp (ln rfl)) ?_
 refine kO (kf (fS fO) kr) ?_
 refine om rfl rfl (ox rfl rfl rfl (ox rfl rfl rfl (oa rfl rfl (oa rfl rfl (shO_nil (shW_seq ?_))))))
 refine shW_block ?_
 refine wsr (om rfl rfl ?_)
 refine ov (v_neq rfl rfl) rfl ?_
 refine oa rfl rfl (shO_nil ?_)
 refine shW_condP rfl (fun c14 => ?_) (fun c14 => ?_)
 · have r15 := ite_t r3 c14; clear r3
   refine wsr (om rfl rfl (oa rfl rfl (oa rfl rfl (shO_nil ?_))))
   refine kW kn ?_
   refine shW_ret (inBlock_ret (andThen_ret ?_))
   refine q_res2 Tryz.results78 (res_tmp rfl) (res_tmp rfl) (sr) ?_
   obtain ⟨rfl, rfl⟩ := inj2 r15
   exact rfl
 have r16 := ite_f r3 c14; clear r3
 refine wsr ?_
 refine ov (v_loadA (cs := #[.int .i64 wide, .slice plots_a plots.length plots_c]) Tryz.isAgg56 Tryz.sizeOf56 rfl (Has.own 0 rfl) (Nat.le_of_ble_eq_true rfl) rfl) rfl ?_
 refine om rfl rfl ?_
 obtain ⟨ok, h17, r18⟩ := b1_ok r16; clear r16
 refine o_callV rfl Tryz.call118 rfl rfl rfl (hear_Town_plot_w h_plots h17) ?_
 refine ov (v_notB rfl) rfl ?_
 refine oa rfl rfl (shO_nil ?_)
 refine shW_cond rfl (fun c19 => ?_) (fun c19 => ?_)
 · have r20 := bt r18 c19; clear r18
   refine wsr (oa rfl rfl (oa rfl rfl (shO_nil ?_)))
   refine kW kn ?_
   refine shW_ret (inBlock_ret (andThen_ret ?_))
   refine q_res2 Tryz.results78 (res_tmp rfl) (res_tmp rfl) (sr) ?_
   obtain ⟨rfl, rfl⟩ := inj2 r20
   exact rfl
 have r21 := bf r18 c19; clear r18
 refine wsr (om rfl rfl (om rfl rfl ?_))
 obtain ⟨x, g22, hx23, r24⟩ := ix_ok r21; clear r21
 obtain ⟨b25, o26, c27, vs28, ha29, hs30, hle31, rfl, hl32, hc33⟩ := SlR.at (iE_ok _) hz11 (L := (b1, .cells #[.int .i64 wide, .slice plots_a plots.length plots_c] 56 (0, 0)) :: (Lb10 ++ [])) (fC fP) g22.1 hx23
 refine ov (v_indexO Tryz.underlying24 Tryz.sizeOf3 rfl ha29 rfl (SlR.idx hz11 g22)) rfl ?_
 refine ov (v_load Tryz.isAgg3 rfl hs30 (hc33 0 (by decide))) rfl ?_
 refine ov (v_eql rfl rfl) rfl ?_
 refine oa rfl rfl (shO_nil ?_)
 refine shW_condP rfl (fun c34 => ?_) (fun c34 => ?_)
 · have r35 := ite_t r24 c34; clear r24
   refine wsr (oa rfl rfl (oa rfl rfl (shO_nil ?_)))
   refine kW kn ?_
   refine shW_ret (inBlock_ret (andThen_ret ?_))
   refine q_res2 Tryz.results78 (res_tmp rfl) (res_tmp rfl) (sr) ?_
   obtain ⟨rfl, rfl⟩ := inj2 r35
   exact rfl
 have r36 := ite_f r24 c34; clear r24
 refine shW_skip (inBlock_n (id := 0) (wsr (om rfl rfl (om rfl rfl ?_))))
 obtain ⟨b37, o38, c39, vs40, ha41, hs42, hle43, rfl, hl44, hc45⟩ := SlR.at (iE_ok _) hz11 (L := (b1, .cells #[.int .i64 wide, .slice plots_a plots.length plots_c] 56 (0, 0)) :: (Lb10 ++ [])) (fC fP) g22.1 hx23
 refine ov (v_indexO Tryz.underlying24 Tryz.sizeOf3 rfl ha41 rfl (SlR.idx hz11 g22)) rfl ?_
 refine ov (v_load Tryz.isAgg3 rfl hs42 (hc45 0 (by decide))) rfl ?_
 refine oa rfl rfl (oa rfl rfl (shO_nil ?_))
 refine kW kn ?_
 refine shW_ret ?_
 refine q_res2 Tryz.results78 (res_tmp rfl) (res_tmp rfl) (sr) ?_
 obtain ⟨rfl, rfl⟩ := inj2 r36
 exact rfl
set_option maxHeartbeats 1000000 in
theorem hear_Winds_w {wide : Int} {plots_a : Option Addr} {plots_c : Nat} {plots : List Int} {voice : Int} {stand : Int} {house : Int} {F : FS} (h_plots : RowR 1 (iE .i64) F plots_a plots_c plots) {r : List Int} {r2 : Int} (hr : hear_Winds wide plots voice stand house = some (r, r2)) :
    SH.Spec Tryz.prog 30 #[.agg #[.int .i64 wide, .slice plots_a plots.length plots_c], .int .i64 voice, .int .i64 stand, .int .i64 house] F [] fun F' L' v => ∃ (ra : Option Addr) (rn : Nat) (rc : Nat) (rL : LH), v = .tuple #[.slice ra rn rc, .int .i64 r2] ∧ L' = rL ++ [] ∧ SlR 0 58 1 (iE .i64) F' ra rn rc r rL := by
 refine spec_of_shW (args := [.agg #[.int .i64 wide, .slice plots_a plots.length plots_c], .int .i64 voice, .int .i64 stand, .int .i64 house]) Tryz.func30 rfl Tryz.ntmps30 (Nat.le_of_ble_eq_true rfl) ?_
 intro K _ _; rw [hear_Winds] at hr
 refine wsr ?_
 refine o_box rfl rfl ?_; intro b1 hb1
 refine oa rfl rfl (oa rfl rfl (shO_nil (shW_seq (wsr ?_))))
 refine ov (v_loadA (cs := #[.int .i64 wide, .slice plots_a plots.length plots_c]) Tryz.isAgg56 Tryz.sizeOf56 rfl (Has.own 0 rfl) (Nat.le_of_ble_eq_true rfl) rfl) rfl ?_
 obtain ⟨n, h2, r3⟩ := b1_ok hr; clear hr
 refine o_callV rfl Tryz.call72 rfl rfl rfl (hear_Check_w h_plots h2) ?_
 refine oa rfl rfl (nsr (om rfl rfl ?_))
 refine ov (v_neq rfl rfl) rfl ?_
 refine shO_nil ?_
 refine shW_condP rfl (fun c4 => ?_) (fun c4 => ?_)
 · have r5 := ite_t r3 c4; clear r3
   refine wsr (om rfl rfl (oa rfl rfl (oa rfl rfl (shO_nil ?_))))
   refine kW kn ?_
   refine shW_ret (andThen_ret ?_)
   refine q_res2 Tryz.results30 (res_tmp rfl) (res_tmp rfl) (sr) ?_
   obtain ⟨rfl, rfl⟩ := inj2 r5
   exact ⟨_, _, _, [], rfl, rfl, SlR.nil _ _ _ _ _⟩
 have r6 := ite_f r3 c4; clear r3
 refine shW_skip (shW_seq (wsr (om rfl rfl ?_)))
 refine ov (v_build (v := .agg #[.int .i64 0, .int .i64 voice]) rfl (by intro w; kernel_rfl)) rfl ?_
 obtain ⟨n2, h7, r8⟩ := b1_ok r6; clear r6
 refine o_callV rfl Tryz.call73 rfl rfl rfl (hear_CheckAir_w h7) ?_
 refine oa rfl rfl (nsr (om rfl rfl ?_))
 refine ov (v_neq rfl rfl) rfl ?_
 refine shO_nil ?_
 refine shW_condP rfl (fun c9 => ?_) (fun c9 => ?_)
 · have r10 := ite_t r8 c9; clear r8
   refine wsr (om rfl rfl (oa rfl rfl (oa rfl rfl (shO_nil ?_))))
   refine kW kn ?_
   refine shW_ret (andThen_ret ?_)
   refine q_res2 Tryz.results30 (res_tmp rfl) (res_tmp rfl) (sr) ?_
   obtain ⟨rfl, rfl⟩ := inj2 r10
   exact ⟨_, _, _, [], rfl, rfl, SlR.nil _ _ _ _ _⟩
 have r11 := ite_f r8 c9; clear r8
 refine shW_skip ?_
 refine shW_join (fun e1 F1 L1 => hear_Winds_j1 wide plots voice stand house = some (r, r2) ∧ FExt F F1 ∧ L1 = [(b1, .cells #[.int .i64 wide, .slice plots_a plots.length plots_c] 56 (0, 0))] ∧ e1.sub [(1, .int .i64 voice), (2, .int .i64 stand), (3, .int .i64 house), (4, .pointer (some ⟨b1, 0, none⟩))]) ?_ ?_
 · refine shW_seq ?_
   refine shW_drawM [(.still, 0), (.still, 1), (.still, 3), (.still, 4), (.still, 8), (.seq, 2), (.seq, 5), (.seq, 6), (.still, 7)] (by kernel_rfl) (by kernel_rfl) (trivial) (by rfl) (by kernel_rfl) ?_
   refine shM_v (v := .agg #[.int .i64 wide, .slice plots_a plots.length plots_c]) (ek := [(4, .pointer (some ⟨b1, 0, none⟩))]) (Ls := [(b1, .cells #[.int .i64 wide, .slice plots_a plots.length plots_c] 56 (0, 0))]) rfl rfl rfl rfl ((sc rfl (sn _))) (by kernel_rfl) (s0 sr) (fun H F' L' hF' hL' => v_loadA (cs := #[.int .i64 wide, .slice plots_a plots.length plots_c]) Tryz.isAgg56 Tryz.sizeOf56 rfl ((Has.own 0 rfl).ext hF' hL') (Nat.le_of_ble_eq_true rfl) rfl) ?_
   refine shM_v (v := .int .i64 stand) (ek := [(2, .int .i64 stand)]) (Ls := []) rfl rfl rfl rfl ((sc rfl (sn _))) (by kernel_rfl) sm (fun H F' L' hF' hL' => v_move rfl) ?_
   refine shM_v (v := .agg #[.int .i64 wide, .slice plots_a plots.length plots_c]) (ek := [(4, .pointer (some ⟨b1, 0, none⟩))]) (Ls := [(b1, .cells #[.int .i64 wide, .slice plots_a plots.length plots_c] 56 (0, 0))]) rfl rfl rfl rfl ((sc rfl (sn _))) (by kernel_rfl) (s0 sr) (fun H F' L' hF' hL' => v_loadA (cs := #[.int .i64 wide, .slice plots_a plots.length plots_c]) Tryz.isAgg56 Tryz.sizeOf56 rfl ((Has.own 0 rfl).ext hF' hL') (Nat.le_of_ble_eq_true rfl) rfl) ?_
   refine shM_v (v := .int .i64 house) (ek := [(3, .int .i64 house)]) (Ls := []) rfl rfl rfl rfl ((sc rfl (sn _))) (by kernel_rfl) sm (fun H F' L' hF' hL' => v_move rfl) ?_
   refine shM_v (v := .int .i64 0) (ek := []) (Ls := []) rfl rfl rfl rfl ((sn _)) (by kernel_rfl) sm (fun H F' L' hF' hL' => v_move rfl) ?_
   refine ⟨_, [(29, .agg #[.int .i64 wide, .slice plots_a plots.length plots_c]), (30, .int .i64 stand)], rfl, rfl, (sc rfl (sc rfl (sn _))), by kernel_rfl, ?_⟩; intro H
   obtain ⟨n3, h12, r13⟩ := b1_ok r11; clear r11
   refine o_callV rfl Tryz.call77 rfl rfl rfl (hear_Town_is_w h_plots h12) ?_
   refine shO_nil ⟨_, rfl, FExt.refl _, [8, 4, 3], by kernel_rfl, .inl (.inr (fun d h => by cases h; rfl)), (List.forall_mem_cons.2 ⟨sm, (List.forall_mem_cons.2 ⟨sm, (List.forall_mem_cons.2 ⟨s0 sr, (fun _ h => absurd h List.not_mem_nil)⟩)⟩)⟩), ?_⟩
   refine ⟨_, [(32, .agg #[.int .i64 wide, .slice plots_a plots.length plots_c]), (33, .int .i64 house)], rfl, rfl, (sc rfl (sc rfl (sn _))), by kernel_rfl, ?_⟩; intro H
   obtain ⟨n4, h14, r15⟩ := b1_ok r13; clear r13
   refine o_callV rfl Tryz.call77 rfl rfl rfl (hear_Town_is_w h_plots h14) ?_
   refine shO_nil ⟨_, rfl, FExt.refl _, [8], by kernel_rfl, .inl (.inr (fun d h => by cases h; rfl)), (List.forall_mem_cons.2 ⟨sm, (fun _ h => absurd h List.not_mem_nil)⟩), ?_⟩
   refine ⟨_, [(31, .int .i64 n3), (34, .int .i64 n4)], rfl, rfl, (sc rfl (sc rfl (sn _))), by kernel_rfl, ?_⟩; intro H
   refine o_buildSlice (cs := #[.int .i64 n3, .int .i64 n4]) rfl rfl (buildSlice_all slt_139 [.int .i64 n3, .int .i64 n4] rfl (by decide) (by simp [Value.cells]) (by decide)) ?_; intro b16 hb16
   refine shO_nil ⟨_, rfl, FExt.refl _, [8], by kernel_rfl, .inl (.inr (fun d h => by cases h; rfl)), (List.forall_mem_cons.2 ⟨sm, (fun _ h => absurd h List.not_mem_nil)⟩), ?_⟩
   refine shM_v (v := .int .i64 2) (ek := [(35, .slice (some ⟨b16, 0, none⟩) 2 2)]) (Ls := []) rfl rfl rfl rfl ((sc rfl (sn _))) (by kernel_rfl) sm (fun H F' L' hF' hL' => v_lenS Tryz.underlying139 rfl) ?_
   refine shM_nil ?_
   refine shW_block ?_
   refine shW_freeze 0 rfl hb16 ?_; intro F17 hF18 hz19
   refine shW_L (L' := [(b1, .cells #[.int .i64 wide, .slice plots_a plots.length plots_c] 56 (0, 0))]) rfl ?_
   have h20 : RowR 1 (iE .i64) F17 (some ⟨b16, 0, none⟩) 2 [n3, n4] := RowR.of_block (iE_ok _) (vss := [[.int .i64 n3], [.int .i64 n4]]) (xs := [n3, n4]) hz19 (.cons rfl (.cons rfl .nil)) rfl (by simp [maxLen])
   obtain ⟨g21, r22⟩ := gd_ok r15; clear r15
   refine shW_lp (fun fu2 e1 F1 L1 => ∃ (k : Int), Ctr 0 2 k fu2 ∧ hear_Winds_l2 wide plots voice stand house n3 n4 fu2 k = some (r, r2) ∧ F17 = F1 ∧ L1 = [(b1, .cells #[.int .i64 wide, .slice plots_a plots.length plots_c] 56 (0, 0))] ∧ e1.sub [(1, .int .i64 voice), (2, .int .i64 stand), (3, .int .i64 house), (4, .pointer (some ⟨b1, 0, none⟩)), (35, .slice (some ⟨b16, 0, none⟩) [n3, n4].length 2), (36, .int .i64 2), (37, .int .i64 k)]) _ (m0 kr ⟨_, Ctr.start _ _, r22, rfl, rfl, (sc rfl (sc rfl (sc rfl (sc rfl (sc rfl (sc rfl (sc rfl (sn _))))))))⟩) ?_
   rintro fu2 e1 _ _ ⟨k, hk23, r25, rfl, rfl, he26⟩
   refine shW_env _ he26 ?_; clear he26
   refine wsr ?_
   refine ov (v_lssK rfl rfl) rfl ?_
   refine shO_nil (shW_seq ?_)
   refine shW_condP rfl (fun c28 => ?_) (fun c28 => ?_)
   · obtain ⟨fu2, rfl, hk29⟩ := Ctr.succ hk23 c28
     rw [hear_Winds_l2] at r25
     refine shW_skip (shW_seq ?_)
     refine shW_block ?_
     refine wsr ?_
     obtain ⟨x, g30, hx31, r32⟩ := ix_ok r25; clear r25
     obtain ⟨b33, o34, c35, vs36, ha37, hs38, hle39, rfl, hl40, hc41⟩ := RowR.at (iE_ok _) h20 ([(b1, .cells #[.int .i64 wide, .slice plots_a plots.length plots_c] 56 (0, 0))]) g30.1 hx31
     refine ov (v_indexO Tryz.underlying139 Tryz.sizeOf37 rfl ha37 rfl g30) rfl ?_
     refine ov (v_load Tryz.isAgg37 rfl hs38 (hc41 0 (by decide))) rfl ?_
     refine oa rfl rfl (nsr (om rfl rfl ?_))
     refine ov (v_neq rfl rfl) rfl ?_
     refine shO_nil ?_
     refine shW_condP rfl (fun c42 => ?_) (fun c42 => ?_)
     · have r43 := ite_t r32 c42; clear r32
       refine wsr (om rfl rfl (oa rfl rfl (oa rfl rfl (shO_nil ?_))))
       refine kW kn ?_
       refine shW_ret (inBlock_ret (andThen_ret (andThen_ret (inBlock_ret (andThen_ret ?_)))))
       refine q_res2 Tryz.results30 (res_tmp rfl) (res_tmp rfl) (sr) ?_
       obtain ⟨rfl, rfl⟩ := inj2 r43
       exact ⟨_, _, _, [], rfl, rfl, SlR.nil _ _ _ _ _⟩
     have r44 := ite_f r32 c42; clear r32
     refine shW_skip (inBlock_n (id := 1) (shW_region ?_))
     refine ov (v_add rfl rfl (Ctr.r64 hk23 c28 g21)) rfl ?_
     refine om rfl rfl (shO_nil ?_)
     exact le kr ⟨_, hk29, r44, rfl, rfl, (sc rfl (sc rfl (sc rfl (sc rfl (sc rfl (sc rfl (sc rfl (sn _))))))))⟩
   obtain rfl := Ctr.zero hk23 c28
   rw [hear_Winds_l2] at r25
   refine shW_exit (andThen_exit (andThen_exit ?_))
   refine inBlock_exit ?_
   exact mi kr ⟨r25, hF18, rfl, (sc rfl (sc rfl (sc rfl (sc rfl (sn _)))))⟩
 rintro e1 F47 _ ⟨r45, hF48, rfl, he46⟩
 refine shW_env _ he46 ?_; clear he46
 replace h_plots := h_plots.mono (iE_ok _) hF48
 rw [hear_Winds_j1] at r45
 refine wsr (oa rfl rfl (shO_nil ?_))
 obtain ⟨out, h55, r56⟩ := b1_ok r45; clear r45
 refine shW_join (fun e1 F1 L1 => ∃ (a49 : Option Addr) (n53 : Nat) (c50 : Nat) (Lb51 : LH), F47 = F1 ∧ L1 = (Lb51 ++ []) ∧ e1.sub [(14, .slice a49 n53 c50)] ∧ SlR K.w0.heap.size 58 1 (iE .i64) F1 a49 n53 c50 out Lb51) ?_ ?_
 · clear r56
   refine wsr (oa rfl rfl (shO_nil ?_))
   refine shW_block ?_
   refine shW_lp (fun fu3 e1 F1 L1 => ∃ (out2 : List Int) (w : Int) (a57 : Option Addr) (n61 : Nat) (c58 : Nat) (Lb59 : LH), hear_Winds_l3 wide plots voice stand house fu3 out2 w = some out ∧ F47 = F1 ∧ L1 = ((b1, .cells #[.int .i64 wide, .slice plots_a plots.length plots_c] 56 (0, 0)) :: (Lb59 ++ [])) ∧ e1.sub [(1, .int .i64 voice), (2, .int .i64 stand), (3, .int .i64 house), (4, .pointer (some ⟨b1, 0, none⟩)), (14, .slice a57 n61 c58), (15, .int .i64 w)] ∧ SlR K.w0.heap.size 58 1 (iE .i64) F1 a57 n61 c58 out2 Lb59) FU (m0 (kc (ke kr)) ⟨[], 0, none, 0, 0, [], h55, rfl, rfl, (sc rfl (sc rfl (sc rfl (sc rfl (sc rfl (sc rfl (sn _))))))), SlR.nil _ _ _ _ _⟩) ?_
   rintro fu3 e1 _ _ ⟨out2, w, a57, n61, c58, Lb59, r65, rfl, rfl, he66, hz60⟩
   refine shW_env _ he66 ?_; clear he66
   rcases fu3 with _ | fu3
   · rw [hear_Winds_l3] at r65; cases r65
   rw [hear_Winds_l3] at r65
   refine shW_seq (wsr (om rfl rfl ?_))
   refine ov (v_leqK rfl rfl) rfl ?_
   refine shO_nil ?_
   refine shW_condP rfl (fun c67 => ?_) (fun c67 => ?_)
   · have r68 := ite_t r65 c67; clear r65
     refine shW_skip (shW_seq ?_)
     refine shW_block ?_
     refine wsr ?_
     refine ov (v_loadA (cs := #[.int .i64 wide, .slice plots_a plots.length plots_c]) Tryz.isAgg56 Tryz.sizeOf56 rfl (Has.own 0 rfl) (Nat.le_of_ble_eq_true rfl) rfl) rfl ?_
     refine om rfl rfl (om rfl rfl (om rfl rfl ?_))
     obtain ⟨n5, n6, h69, r70⟩ := b2_ok r68; clear r68
     refine o_callV rfl Tryz.call78 rfl rfl rfl (hear_Need_w h_plots h69) ?_
     refine om rfl rfl (ox rfl rfl rfl (ox rfl rfl rfl (oa rfl rfl (oa rfl rfl (shO_nil ?_)))))
     obtain ⟨k2, h71, r72⟩ := b1_ok r70; clear r70
     refine shW_join (fun e1 F1 L1 => F47 = F1 ∧ L1 = ((b1, .cells #[.int .i64 wide, .slice plots_a plots.length plots_c] 56 (0, 0)) :: (Lb59 ++ [])) ∧ e1.sub [(1, .int .i64 voice), (2, .int .i64 stand), (3, .int .i64 house), (4, .pointer (some ⟨b1, 0, none⟩)), (14, .slice a57 n61 c58), (15, .int .i64 w), (63, .bool k2)]) ?_ ?_
     · clear r72
       refine shW_region (om rfl rfl ?_)
       refine ov (v_eql rfl rfl) rfl ?_
       refine om rfl rfl ?_
       by_cases c73 : n6 = 0
       · have r74 := ite_t h71 c73; clear h71
         refine shO_on (b := true) 59 rfl (Env.isT rfl c73) (om rfl rfl (shO_on (b := true) 59 rfl (Env.isT rfl c73) (om rfl rfl (shO_on (b := true) 59 rfl (Env.isT rfl c73) ?_))))
         refine ov (v_leqK rfl rfl) rfl ?_
         refine ov (v_pick_t (evD_true rfl c73) rfl) rfl ?_
         refine shO_nil ?_
         obtain rfl := inj1 r74
         exact mi kr ⟨rfl, rfl, (sc rfl (sc rfl (sc rfl (sc rfl (sc rfl (sc rfl (sc rfl (sn _))))))))⟩
       have r75 := ite_f h71 c73; clear h71
       refine shO_off (b' := false) 59 rfl (Env.isF rfl c73) rfl rfl (shO_off (b' := false) 59 rfl (Env.isF rfl c73) rfl rfl (shO_off (b' := false) 59 rfl (Env.isF rfl c73) rfl rfl ?_))
       refine ov (v_pick_f (evD_false rfl c73) rfl) rfl ?_
       refine shO_nil ?_
       obtain rfl := inj1 r75
       exact mi kr ⟨rfl, rfl, (sc rfl (sc rfl (sc rfl (sc rfl (sc rfl (sc rfl (sc rfl (sn _))))))))⟩
     rintro e1 _ _ ⟨rfl, rfl, he76⟩
     refine shW_env _ he76 ?_; clear he76
     refine shW_cond rfl (fun c77 => ?_) (fun c77 => ?_)
     · have r78 := bt r72 c77; clear r72
       refine shW_region (om rfl rfl (om rfl rfl ?_))
       refine o_buildSlice (cs := #[.int .i64 w]) rfl rfl (buildSlice_all slt_63 [.int .i64 w] rfl (by decide) (by simp [Value.cells]) (by decide)) ?_; intro b79 hb79
       obtain ⟨out3, h80, g81, r82⟩ := ap_ok r78; clear r78
       refine o_appZ (xs := out2) (ys := [w]) (zs := out3) rfl slt_63 rfl rfl (Nat.le_refl _) (fun _ => .c (.c .h)) hz60 (SrcR.box (vss := [[.int .i64 w]]) (ys := [w]) 0 rfl (iE_ok _) (.cons rfl .nil) rfl rfl) h80 g81 (by decide) ?_; intro a83 n87 c84 Lb85 hz86
       refine kO (kd kr) ?_
       refine oa rfl rfl (shO_nil (inBlock_n (id := 3) (shW_region (om rfl rfl ?_))))
       obtain ⟨g89, r90⟩ := gd_ok r82; clear r82
       refine ov (v_add rfl rfl g89) rfl ?_
       refine oa rfl rfl (shO_nil ?_)
       exact le kr ⟨out3, w + 1, a83, n87, c84, Lb85, r90, rfl, rfl, (sc rfl (sc rfl (sc rfl (sc rfl (sc rfl (sc rfl (sn _))))))), hz86⟩
     have r91 := bf r72 c77; clear r72
     refine shW_skip (inBlock_n (id := 3) (shW_region (om rfl rfl ?_)))
     obtain ⟨g92, r93⟩ := gd_ok r91; clear r91
     refine ov (v_add rfl rfl g92) rfl ?_
     refine oa rfl rfl (shO_nil ?_)
     exact le kr ⟨out2, w + 1, a57, n61, c58, Lb59, r93, rfl, rfl, (sc rfl (sc rfl (sc rfl (sc rfl (sc rfl (sc rfl (sn _))))))), hz60⟩
   have r94 := ite_f r65 c67; clear r65
   refine shW_exit (andThen_exit (andThen_exit ?_))
   refine inBlock_exit ?_
   obtain rfl := inj1 r94
   exact mi (kd kr) ⟨a57, n61, c58, Lb59, rfl, rfl, (sc rfl (sn _)), hz60⟩
 rintro e1 _ _ ⟨a49, n53, c50, Lb51, rfl, rfl, he95, hz52⟩
 refine shW_env _ he95 ?_; clear he95
 refine wsr (om rfl rfl (oa rfl rfl (oa rfl rfl (shO_nil (shW_ret ?_)))))
 refine q_res2 Tryz.results30 (res_tmp rfl) (res_tmp rfl) (sr) ?_
 obtain ⟨rfl, rfl⟩ := inj2 r56
 exact ⟨_, _, _, _, rfl, rfl, hz52.any⟩
set_option maxHeartbeats 1000000 in
theorem slices_IndexFunc_hear_Dir_hear_Dir_w {s__a : Option Addr} {s__c : Nat} {s_ : List Int} {f_f : FuncId} {f_1 : Array Value} {f_2 : Array Value} {f : Int → Option Bool} {F : FS} (h_s_ : RowR 1 (iE .i64) F s__a s__c s_) (h_f : FnR Tryz.prog F f_f f_1 f_2 (iE .i64) Value.bool f) {r : Int} (hr : slices_IndexFunc_hear_Dir_hear_Dir s_ f = some r) :
    SpecV Tryz.prog 79 #[.slice s__a s_.length s__c, .func (.func f_f) f_1 f_2] F (.int .i64 r) := by
 refine spec_of_shW (args := [.slice s__a s_.length s__c, .func (.func f_f) f_1 f_2]) Tryz.func79 rfl Tryz.ntmps79 (Nat.le_of_ble_eq_true rfl) ?_
 intro K _ _; rw [slices_IndexFunc_hear_Dir_hear_Dir] at hr
 refine wsr (oa rfl rfl (shO_nil ?_))
 refine shW_join (fun e1 F1 L1 => slices_IndexFunc_hear_Dir_hear_Dir_j1 = some r ∧ F = F1 ∧ L1 = [] ∧ e1.sub []) ?_ ?_
 · refine wsr (om rfl rfl ?_)
   refine ov (v_lenS Tryz.underlying63 rfl) rfl ?_
   refine om rfl rfl (shO_nil ?_)
   refine shW_block ?_
   refine shW_lp (fun fu2 e1 F1 L1 => ∃ (tl : List Int) (k : Int), tl.length = fu2 ∧ Lst s_ k tl ∧ slices_IndexFunc_hear_Dir_hear_Dir_l2 f tl k = some r ∧ F = F1 ∧ L1 = [] ∧ e1.sub [(0, .slice s__a s_.length s__c), (1, .func (.func f_f) f_1 f_2), (7, .int .i64 (s_.length : Int)), (8, .int .i64 k)]) _ (m0 kr ⟨_, _, rfl, Lst.start _, hr, rfl, rfl, (sc rfl (sc rfl (sc rfl (sc rfl (sn _)))))⟩) ?_
   rintro fu2 e1 _ _ ⟨tl, k, hn2, hk1, r3, rfl, rfl, he4⟩
   refine shW_env _ he4 ?_; clear he4
   refine wsr ?_
   refine ov (v_lssK rfl rfl) rfl ?_
   refine shO_nil (shW_seq ?_)
   refine shW_condP rfl (fun c6 => ?_) (fun c6 => ?_)
   · obtain ⟨x, tl2, rfl, hx8, g9, hk7⟩ := Lst.succ hk1 c6
     rw [slices_IndexFunc_hear_Dir_hear_Dir_l2] at r3
     refine shW_skip (shW_seq ?_)
     refine shW_block ?_
     refine wsr (om rfl rfl (oa rfl rfl (nsr (om rfl rfl (om rfl rfl (om rfl rfl ?_))))))
     obtain ⟨b10, o11, c12, vs13, ha14, hs15, hle16, rfl, hl17, hc18⟩ := RowR.at (iE_ok _) h_s_ ([]) g9.1 hx8
     refine ov (v_indexO Tryz.underlying63 Tryz.sizeOf58 rfl ha14 rfl g9) rfl ?_
     refine ov (v_load Tryz.isAgg58 rfl hs15 (hc18 0 (by decide))) rfl ?_
     obtain ⟨ok, h19, r20⟩ := b1_ok r3; clear r3
     refine o_callV rfl h_f.1 rfl rfl rfl (h_f.2 _ (FExt.refl _) _ _ _ rfl h19) ?_
     refine shO_nil ?_
     refine shW_cond rfl (fun c21 => ?_) (fun c21 => ?_)
     · have r22 := bt r20 c21; clear r20
       refine wsr (om rfl rfl (oa rfl rfl (shO_nil (shW_ret (inBlock_ret (andThen_ret (andThen_ret (inBlock_ret (andThen_ret ?_)))))))))
       refine q_res1 Tryz.results79 (res_tmp rfl) (sr) ?_
       obtain rfl := inj1 r22
       exact rfl
     have r23 := bf r20 c21; clear r20
     refine shW_skip (inBlock_n (id := 1) (shW_region ?_))
     refine ov (v_add rfl rfl (Lst.r64 hk1 c6 (RowR.lt h_s_))) rfl ?_
     refine om rfl rfl (shO_nil ?_)
     subst hn2; exact le kr ⟨_, _, rfl, hk7, r23, rfl, rfl, (sc rfl (sc rfl (sc rfl (sc rfl (sn _)))))⟩
   obtain rfl := Lst.zero hk1 c6
   rw [slices_IndexFunc_hear_Dir_hear_Dir_l2] at r3
   refine shW_exit (andThen_exit (andThen_exit ?_))
   refine inBlock_exit ?_
   exact mi kr ⟨r3, rfl, rfl, (sn _)⟩
 rintro e1 _ _ ⟨r24, rfl, rfl, he25⟩
 refine shW_env _ he25 ?_; clear he25
 rw [slices_IndexFunc_hear_Dir_hear_Dir_j1] at r24
 refine wsr (oa rfl rfl (shO_nil (shW_ret ?_)))
 refine q_res1 Tryz.results79 (res_tmp rfl) (sr) ?_
 obtain rfl := inj1 r24
 exact rfl
set_option maxHeartbeats 1000000 in
theorem slices_DeleteFunc_hear_Dir_hear_Dir_w {s__a : Option Addr} {s__n : Nat} {s__c : Nat} {s__L : LH} {s_ : List Int} {s__nb : Nat} {del_f : FuncId} {del_1 : Array Value} {del_2 : Array Value} {del : Int → Option Bool} {F : FS} (h_s_ : SlR s__nb 58 1 (iE .i64) F s__a s__n s__c s_ s__L) (h_del : FnR Tryz.prog F del_f del_1 del_2 (iE .i64) Value.bool del) {r : List Int} (hr : slices_DeleteFunc_hear_Dir_hear_Dir s_ del = some r) :
    SH.Spec Tryz.prog 31 #[.slice s__a s__n s__c, .func (.func del_f) del_1 del_2] F (s__L ++ []) fun F' L' v => ∃ (ra : Option Addr) (rn : Nat) (rc : Nat) (rL : LH), v = .slice ra rn rc ∧ L' = rL ++ [] ∧ SlR s__nb 58 1 (iE .i64) F' ra rn rc r rL := by
 refine spec_of_shW (args := [.slice s__a s__n s__c, .func (.func del_f) del_1 del_2]) Tryz.func31 rfl Tryz.ntmps31 (Nat.le_of_ble_eq_true rfl) ?_
 intro K _ _; rw [slices_DeleteFunc_hear_Dir_hear_Dir] at hr
 refine shW_L (L' := s__L ++ []) (by simp) ?_
 refine wsr (oa rfl rfl (nsr (om rfl rfl (om rfl rfl ?_))))
 obtain ⟨n, h1, r2⟩ := b1_ok hr; clear hr
 refine o_callT (Lt := s__L ++ []) (Lr := []) rfl Tryz.call79 rfl rfl rfl (pT pR (lp (ln rfl))) (fun F2 h2 h3 => by rw [(SlR.caps h_s_).1]; exact slices_IndexFunc_hear_Dir_hear_Dir_w (h_s_.row (iE_ok _) h2 (fun p hp => h3 p (List.mem_append_left _ hp))) (h_del.mono h2) h1) ?_
 refine oa rfl rfl (shO_nil (shW_seq (wsr (om rfl rfl ?_))))
 refine ov (v_eql rfl rfl) rfl ?_
 refine shO_nil ?_
 refine shW_condP rfl (fun c3 => ?_) (fun c3 => ?_)
 · have r4 := ite_t r2 c3; clear r2
   refine wsr (om rfl rfl (oa rfl rfl (shO_nil (shW_ret (andThen_ret ?_)))))
   refine q_res1 Tryz.results31 (res_tmp rfl) (sr) ?_
   obtain rfl := inj1 r4
   exact ⟨_, _, _, _, rfl, rfl, h_s_⟩
 have r5 := ite_f r2 c3; clear r2
 refine shW_skip ?_
 obtain ⟨s_2, i, h8, r9⟩ := b2_ok r5; clear r5
 refine shW_join (fun e1 F1 L1 => ∃ (Lb6 : LH), F = F1 ∧ L1 = (Lb6 ++ []) ∧ e1.sub [(0, .slice s__a s__n s__c), (5, .int .i64 i)] ∧ SlR s__nb 58 1 (iE .i64) F1 s__a s__n s__c s_2 Lb6) ?_ ?_
 · clear r9
   refine wsr (om rfl rfl ?_)
   obtain ⟨g10, r11⟩ := gd_ok h8; clear h8
   refine ov (v_add rfl rfl g10) rfl ?_
   refine oa rfl rfl (shO_nil ?_)
   refine shW_block ?_
   refine shW_lp (fun fu1 e1 F1 L1 => ∃ (s_3 : List Int) (i2 : Int) (j : Int) (Lb12 : LH), slices_DeleteFunc_hear_Dir_hear_Dir_l1 del fu1 s_3 i2 j = some (s_2, i) ∧ F = F1 ∧ L1 = (Lb12 ++ []) ∧ e1.sub [(0, .slice s__a s__n s__c), (1, .func (.func del_f) del_1 del_2), (5, .int .i64 i2), (6, .int .i64 j)] ∧ SlR s__nb 58 1 (iE .i64) F1 s__a s__n s__c s_3 Lb12) FU (m0 kr ⟨s_, n, n + 1, s__L, r11, rfl, rfl, (sc rfl (sc rfl (sc rfl (sc rfl (sn _))))), h_s_⟩) ?_
   rintro fu1 e1 _ _ ⟨s_3, i2, j, Lb12, r16, rfl, rfl, he17, hz13⟩
   refine shW_env _ he17 ?_; clear he17
   rcases fu1 with _ | fu1
   · rw [slices_DeleteFunc_hear_Dir_hear_Dir_l1] at r16; cases r16
   rw [slices_DeleteFunc_hear_Dir_hear_Dir_l1] at r16
   refine shW_seq (wsr (om rfl rfl (om rfl rfl ?_)))
   refine ov ((v_lenS Tryz.underlying63 rfl).i (SlR.lenI hz13)) rfl ?_
   refine ov (v_lssK rfl rfl) rfl ?_
   refine shO_nil ?_
   refine shW_condP rfl (fun c18 => ?_) (fun c18 => ?_)
   · have r19 := ite_t r16 c18; clear r16
     refine shW_skip (shW_seq ?_)
     refine shW_block ?_
     refine wsr (om rfl rfl (om rfl rfl ?_))
     obtain ⟨x, g20, hx21, r22⟩ := ix_ok r19; clear r19
     obtain ⟨b23, o24, c25, vs26, ha27, hs28, hle29, rfl, hl30, hc31⟩ := SlR.at (iE_ok _) hz13 (L := Lb12 ++ []) fP g20.1 hx21
     refine ov (v_indexO Tryz.underlying63 Tryz.sizeOf58 rfl ha27 rfl (SlR.idx hz13 g20)) rfl ?_
     refine ov (v_load Tryz.isAgg58 rfl hs28 (hc31 0 (by decide))) rfl ?_
     refine oa rfl rfl (nsr (om rfl rfl (om rfl rfl ?_)))
     obtain ⟨ok, h32, r33⟩ := b1_ok r22; clear r22
     refine o_callV rfl h_del.1 rfl rfl rfl (h_del.2 _ (FExt.refl _) _ _ _ rfl h32) ?_
     refine ov (v_notB rfl) rfl ?_
     refine shO_nil ?_
     refine shW_cond rfl (fun c34 => ?_) (fun c34 => ?_)
     · have r35 := bt r33 c34; clear r33
       refine wsr (om rfl rfl (om rfl rfl (om rfl rfl ?_)))
       obtain ⟨x2, g36, hx37, r38⟩ := ix_ok r35; clear r35
       obtain ⟨b39, o40, c41, vs42, ha43, hs44, hle45, rfl, hl46, hc47⟩ := SlR.at (iE_ok _) hz13 (L := Lb12 ++ []) fP g36.1 hx37
       refine ov (v_indexO Tryz.underlying63 Tryz.sizeOf58 rfl ha43 rfl (SlR.idx hz13 g36)) rfl ?_
       obtain ⟨s_4, h48, r49⟩ := bv_ok r38; clear r38
       refine o_storeZ (u := x) Tryz.sizeOf58 (iE_ok _) rfl ha43 rfl rfl (fun _ => .h) hz13 h48 g36 ?_; intro Lb50 hz51
       refine shO_nil (shW_region (om rfl rfl ?_))
       obtain ⟨g52, r53⟩ := gd_ok r49; clear r49
       refine ov (v_add rfl rfl g52) rfl ?_
       refine oa rfl rfl (shO_nil (inBlock_n (id := 1) (shW_region (om rfl rfl ?_))))
       obtain ⟨g54, r55⟩ := gd_ok r53; clear r53
       refine ov (v_add rfl rfl g54) rfl ?_
       refine oa rfl rfl (shO_nil ?_)
       exact le kr ⟨s_4, i2 + 1, j + 1, Lb50, r55, rfl, rfl, (sc rfl (sc rfl (sc rfl (sc rfl (sn _))))), hz51⟩
     have r56 := bf r33 c34; clear r33
     refine shW_skip (inBlock_n (id := 1) (shW_region (om rfl rfl ?_)))
     obtain ⟨g57, r58⟩ := gd_ok r56; clear r56
     refine ov (v_add rfl rfl g57) rfl ?_
     refine oa rfl rfl (shO_nil ?_)
     exact le kr ⟨s_3, i2, j + 1, Lb12, r58, rfl, rfl, (sc rfl (sc rfl (sc rfl (sc rfl (sn _))))), hz13⟩
   have r59 := ite_f r16 c18; clear r16
   refine shW_exit (andThen_exit (andThen_exit ?_))
   refine inBlock_exit ?_
   obtain ⟨rfl, rfl⟩ := inj2 r59
   exact mi kr ⟨Lb12, rfl, rfl, (sc rfl (sc rfl (sn _))), hz13⟩
 rintro e1 _ _ ⟨Lb6, rfl, rfl, he60, hz7⟩
 refine shW_env _ he60 ?_; clear he60
 refine wsr (om rfl rfl (om rfl rfl ?_))
 obtain ⟨g61, r62⟩ := gd_ok r9; clear r9
 have gv63 := SlR.gV hz7 g61
 refine ov (OpV.eq (v' := .slice (vwA s__a s__c (Int.toNat i) 1) (s__n - Int.toNat i) (s__c - Int.toNat i)) (v_slice (l := i) (h := (s__n : Nat)) Tryz.underlying63 Tryz.sizeOf58 rfl (.inr ⟨_, rfl, rfl⟩) (.inl ⟨rfl, rfl⟩) (SlR.capV hz7 gv63)) rfl) rfl ?_
 obtain ⟨s_5, h64, r65⟩ := bv_ok r62; clear r62
 refine o_clearV (z0 := 0) (zs := s_5) (l := i) rfl slt_63 (by decide) (iE_ok _) (fun _ => rfl) rfl (fun _ => .h) hz7 gv63 h64 ?_; intro Lb66 hz67
 refine nsr (om rfl rfl (om rfl rfl ?_))
 obtain ⟨g68, r69⟩ := gd_ok r65; clear r65
 obtain ⟨s_6, h70, r71⟩ := bv_ok r69; clear r69
 refine o_sliceZ (l := 0) (h := i) (zs := s_6) rfl slt_63 (iE_ok _) rfl (.inl ⟨rfl, rfl⟩) (.inr ⟨_, rfl, rfl⟩) (fun _ => .h) hz67 g68 h70 ?_; intro a72 n75 c73 Lb76 h74
 refine oa rfl rfl (shO_nil (shW_ret ?_))
 refine q_res1 Tryz.results31 (res_tmp rfl) (sr) ?_
 obtain rfl := inj1 r71
 exact ⟨_, _, _, _, rfl, rfl, h74⟩
set_option maxHeartbeats 1000000 in
theorem oyezlaw07_BookBlown_1_w {w : Int} {F : FS} {r : Bool} (hr : oyezlaw07_BookBlown_1 w = some r) :
    SpecV Tryz.prog 32 #[.int .i64 w] F (.bool r) := by
 refine spec_of_shW (args := [.int .i64 w]) Tryz.func32 rfl Tryz.ntmps32 (Nat.le_of_ble_eq_true rfl) ?_
 intro K _ _; rw [oyezlaw07_BookBlown_1] at hr
 refine wsr (oa rfl rfl (nsr (om rfl rfl ?_)))
 refine ov (v_eql rfl rfl) rfl ?_
 refine oa rfl rfl (shO_nil (shW_ret ?_))
 refine q_res1 Tryz.results32 (res_tmp rfl) (sr) ?_
 obtain rfl := inj1 hr
 exact rfl
set_option maxHeartbeats 1000000 in
theorem oyezlaw07_BookBlown_w {numbers_a : Option Addr} {numbers_c : Nat} {numbers : List Int} {cries_a : Option Addr} {cries_c : Nat} {cries : List Int} {F : FS} (h_numbers : RowR 1 (iE .u8) F numbers_a numbers_c numbers) (h_cries : RowR 1 (iE .u8) F cries_a cries_c cries) {r : Bool} (hr : oyezlaw07_BookBlown numbers cries = some r) :
    SpecV Tryz.prog 4 #[.slice numbers_a numbers.length numbers_c, .slice cries_a cries.length cries_c] F (.bool r) := by
 refine spec_of_shW (args := [.slice numbers_a numbers.length numbers_c, .slice cries_a cries.length cries_c]) Tryz.func4 rfl Tryz.ntmps4 (Nat.le_of_ble_eq_true rfl) ?_
 intro K _ _; rw [oyezlaw07_BookBlown] at hr
 refine wsr (oa rfl rfl (nsr (om rfl rfl ?_)))
 obtain ⟨metal, at_, turn, h1, r2⟩ := b3_ok hr; clear hr
 refine o_call0 rfl Tryz.call7 rfl rfl rfl (oyezkit_Hang_w h_numbers h1) ?_; rintro _ F3 _ hF4 hn5 ⟨b7, a8, c9, rfl, rfl, h10⟩
 replace h_cries := h_cries.mono (iE_ok _) hF4
 refine shO_L (lb (ln rfl)) ?_
 refine om rfl rfl ?_
 obtain ⟨metal2, at_2, turn2, h11, r12⟩ := b3_ok r2; clear r2
 refine o_call0 rfl Tryz.call7 rfl rfl rfl (oyezkit_Hang_w h_cries h11) ?_; rintro _ F13 _ hF14 hn15 ⟨b17, a18, c19, rfl, rfl, h20⟩
 replace h10 := h10.mono (iE_ok _) hF14
 refine shO_L (lb (ln rfl)) ?_
 refine oa rfl rfl (oa rfl rfl (nsr (om rfl rfl ?_)))
 obtain ⟨n, l, at_3, turn3, h21, r22⟩ := b4_ok r12; clear r12
 refine o_callG (Lb := [(b7, .cells #[.slice a8 metal.length c9, .int .i64 at_, .int .u32 turn] 95 (0, 0))]) (Lr := [(b17, .cells #[.slice a18 metal2.length c19, .int .i64 at_2, .int .u32 turn2] 95 (0, 0))]) rfl Tryz.call25 rfl rfl rfl (((fC fO).trans (pC pR))) (oyezlaw01_Made_w h10 h21) ?_; rintro _ F23 _ hF24 hd26 hn25 ⟨a27, n31, c28, Lb29, rfl, rfl, hz30⟩
 replace h10 := h10.mono (iE_ok _) hF24
 replace h20 := h20.mono (iE_ok _) hF24
 have hn33 := newp (Lb' := [(b7, .cells #[.slice a8 metal.length c9, .int .i64 at_3, .int .u32 turn3] 95 (0, 0))]) (by rfl) hd26 hn25
 replace hz30 := hz30.new fun p hp => hn33 p (by simp [hp])
 refine shO_L (lb (lp (ln rfl))) ?_
 refine kO (kc (kf (fS fO) kr)) ?_
 refine o_alloc rfl Tryz.zeroValue56 ?_; intro b34 hb34
 refine o_storeA (i := 0) Tryz.sizeOf56 rfl rfl rfl (by simp [Value.oneCell']) rfl (Nat.le_of_ble_eq_true rfl) ?_
 refine shO_L (L' := (b34, .cells #[.int .i64 n, .slice a27 n31 c28] 56 (0, 0)) :: ((b7, .cells #[.slice a8 metal.length c9, .int .i64 at_3, .int .u32 turn3] 95 (0, 0)) :: ((b17, .cells #[.slice a18 metal2.length c19, .int .i64 at_2, .int .u32 turn2] 95 (0, 0)) :: (Lb29 ++ [])))) rfl ?_
 refine nsr (om rfl rfl ?_)
 obtain ⟨n2, n3, at_4, turn4, h35, r36⟩ := b4_ok r22; clear r22
 refine o_callG (Lb := [(b7, .cells #[.slice a8 metal.length c9, .int .i64 at_3, .int .u32 turn3] 95 (0, 0))]) (Lr := (b34, .cells #[.int .i64 n, .slice a27 n31 c28] 56 (0, 0)) :: ((b17, .cells #[.slice a18 metal2.length c19, .int .i64 at_2, .int .u32 turn2] 95 (0, 0)) :: (Lb29 ++ []))) rfl Tryz.call26 rfl rfl rfl (((fC fO).trans (pC pR))) (oyezlaw01_Aired_w h10 h35) ?_; rintro _ F37 _ hF38 hd40 hn39 ⟨rfl, rfl⟩
 replace h20 := h20.mono (iE_ok _) hF38
 replace hz30 := hz30.mono (iE_ok _) hF38
 refine shO_L (lb (ln rfl)) ?_
 refine ov (v_field (v := .int .i64 n3) (by intro w; kernel_rfl) rfl) rfl ?_
 refine oa rfl rfl (nsr (oa rfl rfl (oa rfl rfl (shO_nil ?_))))
 obtain ⟨streets, houses, h53, r54⟩ := b2_ok r36; clear r36
 refine shW_join (fun e1 F1 L1 => ∃ (a41 : Option Addr) (n45 : Nat) (c42 : Nat) (Lb43 : LH) (a47 : Option Addr) (n51 : Nat) (c48 : Nat) (Lb49 : LH), F37 = F1 ∧ L1 = ((b34, .cells #[.int .i64 n, .slice a27 n31 c28] 56 (0, 0)) :: ((b17, .cells #[.slice a18 metal2.length c19, .int .i64 at_2, .int .u32 turn2] 95 (0, 0)) :: (Lb29 ++ (Lb43 ++ (Lb49 ++ []))))) ∧ e1.sub [(6, .pointer (some ⟨b17, 0, none⟩)), (7, .pointer (some ⟨b34, 0, none⟩)), (8, .int .i64 n3), (9, .slice a41 n45 c42), (10, .slice a47 n51 c48)] ∧ SlR K.w0.heap.size 3 1 (iE .i64) F1 a41 n45 c42 streets Lb43 ∧ SlR K.w0.heap.size 3 1 (iE .i64) F1 a47 n51 c48 houses Lb49) ?_ ?_
 · clear r54
   refine wsr ?_
   refine ov (v_fieldAddr fa_56_1 rfl) rfl ?_
   refine ov (v_load Tryz.isAgg54 rfl (Has.own 1 rfl) rfl) rfl ?_
   refine ov ((v_lenS Tryz.underlying54 rfl).i (SlR.lenI hz30)) rfl ?_
   refine om rfl rfl (shO_nil ?_)
   refine shW_block ?_
   refine kW (kd kr) ?_
   refine shW_lp (fun fu1 e1 F1 L1 => ∃ (tl : List Int) (k : Int), tl.length = fu1 ∧ Lst l k tl ∧ ∃ (streets2 : List Int) (houses2 : List Int) (a55 : Option Addr) (n59 : Nat) (c56 : Nat) (Lb57 : LH) (a61 : Option Addr) (n65 : Nat) (c62 : Nat) (Lb63 : LH), oyezlaw07_BookBlown_l1 tl k streets2 houses2 = some (streets, houses) ∧ F37 = F1 ∧ L1 = ((b34, .cells #[.int .i64 n, .slice a27 n31 c28] 56 (0, 0)) :: ((b17, .cells #[.slice a18 metal2.length c19, .int .i64 at_2, .int .u32 turn2] 95 (0, 0)) :: (Lb29 ++ (Lb57 ++ (Lb63 ++ []))))) ∧ e1.sub [(6, .pointer (some ⟨b17, 0, none⟩)), (7, .pointer (some ⟨b34, 0, none⟩)), (8, .int .i64 n3), (9, .slice a55 n59 c56), (10, .slice a61 n65 c62), (46, .slice a27 n31 c28), (47, .int .i64 (l.length : Int)), (48, .int .i64 k)] ∧ SlR K.w0.heap.size 3 1 (iE .i64) F1 a55 n59 c56 streets2 Lb57 ∧ SlR K.w0.heap.size 3 1 (iE .i64) F1 a61 n65 c62 houses2 Lb63) _ (m0 (kc (kc (ka (ke (ke kr))))) ⟨_, _, rfl, Lst.start _, [], [], none, 0, 0, [], none, 0, 0, [], h53, rfl, rfl, (sc rfl (sc rfl (sc rfl (sc rfl (sc rfl (sc rfl (sc rfl (sc rfl (sn _))))))))), SlR.nil _ _ _ _ _, SlR.nil _ _ _ _ _⟩) ?_
   rintro fu1 e1 _ _ ⟨tl, k, hn68, hk67, streets2, houses2, a55, n59, c56, Lb57, a61, n65, c62, Lb63, r69, rfl, rfl, he70, hz58, hz64⟩
   refine shW_env _ he70 ?_; clear he70
   refine wsr ?_
   refine ov (v_lssK rfl rfl) rfl ?_
   refine shO_nil (shW_seq ?_)
   refine shW_condP rfl (fun c72 => ?_) (fun c72 => ?_)
   · obtain ⟨x, tl2, rfl, hx74, g75, hk73⟩ := Lst.succ hk67 c72
     rw [oyezlaw07_BookBlown_l1] at r69
     refine shW_skip (shW_seq ?_)
     refine shW_block ?_
     refine wsr (om rfl rfl ?_)
     obtain ⟨b76, o77, c78, vs79, ha80, hs81, hle82, rfl, hl83, hc84⟩ := SlR.at (iE_ok _) hz30 (L := (b34, .cells #[.int .i64 n, .slice a27 n31 c28] 56 (0, 0)) :: ((b17, .cells #[.slice a18 metal2.length c19, .int .i64 at_2, .int .u32 turn2] 95 (0, 0)) :: (Lb29 ++ (Lb57 ++ (Lb63 ++ []))))) (fC (fC fP)) g75.1 hx74
     refine ov (v_indexO Tryz.underlying54 Tryz.sizeOf62 rfl ha80 rfl (SlR.idx hz30 g75)) rfl ?_
     refine ov (v_load Tryz.isAgg62 rfl hs81 (hc84 0 (by decide))) rfl ?_
     refine oa rfl rfl (oa rfl rfl (shO_nil ?_))
     obtain ⟨streets3, h91, r92⟩ := b1_ok r69; clear r69
     refine shW_join (fun e1 F1 L1 => ∃ (a85 : Option Addr) (n89 : Nat) (c86 : Nat) (Lb87 : LH), F37 = F1 ∧ L1 = ((b34, .cells #[.int .i64 n, .slice a27 n31 c28] 56 (0, 0)) :: ((b17, .cells #[.slice a18 metal2.length c19, .int .i64 at_2, .int .u32 turn2] 95 (0, 0)) :: (Lb29 ++ (Lb87 ++ (Lb63 ++ []))))) ∧ e1.sub [(6, .pointer (some ⟨b17, 0, none⟩)), (7, .pointer (some ⟨b34, 0, none⟩)), (8, .int .i64 n3), (9, .slice a85 n89 c86), (10, .slice a61 n65 c62), (11, .int .i64 k), (12, .int .i64 x), (46, .slice a27 n31 c28), (47, .int .i64 (l.length : Int)), (48, .int .i64 k)] ∧ SlR K.w0.heap.size 3 1 (iE .i64) F1 a85 n89 c86 streets3 Lb87) ?_ ?_
     · clear r92
       obtain ⟨k2, h93, r94⟩ := b1_ok h91; clear h91
       refine shW_join (fun e1 F1 L1 => F37 = F1 ∧ L1 = ((b34, .cells #[.int .i64 n, .slice a27 n31 c28] 56 (0, 0)) :: ((b17, .cells #[.slice a18 metal2.length c19, .int .i64 at_2, .int .u32 turn2] 95 (0, 0)) :: (Lb29 ++ (Lb57 ++ (Lb63 ++ []))))) ∧ e1.sub [(6, .pointer (some ⟨b17, 0, none⟩)), (7, .pointer (some ⟨b34, 0, none⟩)), (8, .int .i64 n3), (9, .slice a55 n59 c56), (10, .slice a61 n65 c62), (11, .int .i64 k), (12, .int .i64 x), (46, .slice a27 n31 c28), (47, .int .i64 (l.length : Int)), (48, .int .i64 k), (59, .bool k2)]) ?_ ?_
       · clear r94
         refine shW_region (om rfl rfl ?_)
         refine ov (v_eql rfl rfl) rfl ?_
         refine om rfl rfl ?_
         by_cases c95 : x = 0
         · have r96 := ite_t h93 c95; clear h93
           refine shO_on (b := true) 55 rfl (Env.isT rfl c95) (om rfl rfl (shO_on (b := true) 55 rfl (Env.isT rfl c95) ?_))
           refine ov ((v_lenS Tryz.underlying24 rfl).i (SlR.lenI hz58)) rfl ?_
           refine shO_on (b := true) 55 rfl (Env.isT rfl c95) ?_
           refine ov (v_lssK rfl rfl) rfl ?_
           refine ov (v_pick_t (evD_true rfl c95) rfl) rfl ?_
           refine shO_nil ?_
           obtain rfl := inj1 r96
           exact mi kr ⟨rfl, rfl, (sc rfl (sc rfl (sc rfl (sc rfl (sc rfl (sc rfl (sc rfl (sc rfl (sc rfl (sc rfl (sc rfl (sn _))))))))))))⟩
         have r97 := ite_f h93 c95; clear h93
         refine shO_off (b' := false) 55 rfl (Env.isF rfl c95) rfl rfl (shO_off (b' := false) 55 rfl (Env.isF rfl c95) rfl rfl (shO_off (b' := false) 55 rfl (Env.isF rfl c95) rfl rfl ?_))
         refine ov (v_pick_f (evD_false rfl c95) rfl) rfl ?_
         refine shO_nil ?_
         obtain rfl := inj1 r97
         exact mi kr ⟨rfl, rfl, (sc rfl (sc rfl (sc rfl (sc rfl (sc rfl (sc rfl (sc rfl (sc rfl (sc rfl (sc rfl (sc rfl (sn _))))))))))))⟩
       rintro e1 _ _ ⟨rfl, rfl, he98⟩
       refine shW_env _ he98 ?_; clear he98
       refine shW_cond rfl (fun c99 => ?_) (fun c99 => ?_)
       · have r100 := bt r94 c99; clear r94
         refine shW_region (om rfl rfl (om rfl rfl ?_))
         refine o_buildSlice (cs := #[.int .i64 k]) rfl rfl (buildSlice_all slt_24 [.int .i64 k] rfl (by decide) (by simp [Value.cells]) (by decide)) ?_; intro b101 hb101
         obtain ⟨streets4, h102, g103, r104⟩ := ap_ok r100; clear r100
         refine o_appZ (xs := streets2) (ys := [k]) (zs := streets4) rfl slt_24 rfl rfl (Nat.le_refl _) (fun _ => .c (.c (.c (.s .h)))) hz58 (SrcR.box (vss := [[.int .i64 k]]) (ys := [k]) 0 rfl (iE_ok _) (.cons rfl .nil) rfl rfl) h102 g103 (by decide) ?_; intro a105 n109 c106 Lb107 hz108
         refine kO (kd kr) ?_
         refine oa rfl rfl (shO_nil ?_)
         obtain rfl := inj1 r104
         exact mi kr ⟨a105, n109, c106, Lb107, rfl, rfl, (sc rfl (sc rfl (sc rfl (sc rfl (sc rfl (sc rfl (sc rfl (sc rfl (sc rfl (sc rfl (sn _))))))))))), hz108⟩
       have r111 := bf r94 c99; clear r94
       refine shW_skip ?_
       obtain rfl := inj1 r111
       exact mi kr ⟨a55, n59, c56, Lb57, rfl, rfl, (sc rfl (sc rfl (sc rfl (sc rfl (sc rfl (sc rfl (sc rfl (sc rfl (sc rfl (sc rfl (sn _))))))))))), hz58⟩
     rintro e1 _ _ ⟨a85, n89, c86, Lb87, rfl, rfl, he112, hz88⟩
     refine shW_env _ he112 ?_; clear he112
     obtain ⟨k3, h113, r114⟩ := b1_ok r92; clear r92
     refine shW_join (fun e1 F1 L1 => F37 = F1 ∧ L1 = ((b34, .cells #[.int .i64 n, .slice a27 n31 c28] 56 (0, 0)) :: ((b17, .cells #[.slice a18 metal2.length c19, .int .i64 at_2, .int .u32 turn2] 95 (0, 0)) :: (Lb29 ++ (Lb87 ++ (Lb63 ++ []))))) ∧ e1.sub [(6, .pointer (some ⟨b17, 0, none⟩)), (7, .pointer (some ⟨b34, 0, none⟩)), (8, .int .i64 n3), (9, .slice a85 n89 c86), (10, .slice a61 n65 c62), (11, .int .i64 k), (46, .slice a27 n31 c28), (47, .int .i64 (l.length : Int)), (48, .int .i64 k), (70, .bool k3)]) ?_ ?_
     · clear r114
       refine shW_region (om rfl rfl ?_)
       refine ov (v_eql rfl rfl) rfl ?_
       refine om rfl rfl ?_
       by_cases c115 : x = 1
       · have r116 := ite_t h113 c115; clear h113
         refine shO_on (b := true) 66 rfl (Env.isT rfl c115) (om rfl rfl (shO_on (b := true) 66 rfl (Env.isT rfl c115) ?_))
         refine ov ((v_lenS Tryz.underlying24 rfl).i (SlR.lenI hz64)) rfl ?_
         refine shO_on (b := true) 66 rfl (Env.isT rfl c115) ?_
         refine ov (v_lssK rfl rfl) rfl ?_
         refine ov (v_pick_t (evD_true rfl c115) rfl) rfl ?_
         refine shO_nil ?_
         obtain rfl := inj1 r116
         exact mi kr ⟨rfl, rfl, (sc rfl (sc rfl (sc rfl (sc rfl (sc rfl (sc rfl (sc rfl (sc rfl (sc rfl (sc rfl (sn _)))))))))))⟩
       have r117 := ite_f h113 c115; clear h113
       refine shO_off (b' := false) 66 rfl (Env.isF rfl c115) rfl rfl (shO_off (b' := false) 66 rfl (Env.isF rfl c115) rfl rfl (shO_off (b' := false) 66 rfl (Env.isF rfl c115) rfl rfl ?_))
       refine ov (v_pick_f (evD_false rfl c115) rfl) rfl ?_
       refine shO_nil ?_
       obtain rfl := inj1 r117
       exact mi kr ⟨rfl, rfl, (sc rfl (sc rfl (sc rfl (sc rfl (sc rfl (sc rfl (sc rfl (sc rfl (sc rfl (sc rfl (sn _)))))))))))⟩
     rintro e1 _ _ ⟨rfl, rfl, he118⟩
     refine shW_env _ he118 ?_; clear he118
     refine shW_cond rfl (fun c119 => ?_) (fun c119 => ?_)
     · have r120 := bt r114 c119; clear r114
       refine shW_region (om rfl rfl (om rfl rfl ?_))
       refine o_buildSlice (cs := #[.int .i64 k]) rfl rfl (buildSlice_all slt_24 [.int .i64 k] rfl (by decide) (by simp [Value.cells]) (by decide)) ?_; intro b121 hb121
       obtain ⟨houses3, h122, g123, r124⟩ := ap_ok r120; clear r120
       refine o_appZ (xs := houses2) (ys := [k]) (zs := houses3) rfl slt_24 rfl rfl (Nat.le_refl _) (fun _ => .c (.c (.c (.s (.s .h))))) hz64 (SrcR.box (vss := [[.int .i64 k]]) (ys := [k]) 0 rfl (iE_ok _) (.cons rfl .nil) rfl rfl) h122 g123 (by decide) ?_; intro a125 n129 c126 Lb127 hz128
       refine kO (kd kr) ?_
       refine oa rfl rfl (shO_nil (inBlock_n (id := 1) (shW_region ?_)))
       refine ov (v_add rfl rfl (Lst.r64 hk67 c72 (SlR.llt hz30))) rfl ?_
       refine om rfl rfl (shO_nil ?_)
       subst hn68; exact le kr ⟨_, _, rfl, hk73, streets3, houses3, a85, n89, c86, Lb87, a125, n129, c126, Lb127, r124, rfl, rfl, (sc rfl (sc rfl (sc rfl (sc rfl (sc rfl (sc rfl (sc rfl (sc rfl (sn _))))))))), hz88, hz128⟩
     have r131 := bf r114 c119; clear r114
     refine shW_skip (inBlock_n (id := 1) (shW_region ?_))
     refine ov (v_add rfl rfl (Lst.r64 hk67 c72 (SlR.llt hz30))) rfl ?_
     refine om rfl rfl (shO_nil ?_)
     subst hn68; exact le kr ⟨_, _, rfl, hk73, streets3, houses2, a85, n89, c86, Lb87, a61, n65, c62, Lb63, r131, rfl, rfl, (sc rfl (sc rfl (sc rfl (sc rfl (sc rfl (sc rfl (sc rfl (sc rfl (sn _))))))))), hz88, hz64⟩
   obtain rfl := Lst.zero hk67 c72
   rw [oyezlaw07_BookBlown_l1] at r69
   refine shW_exit (andThen_exit (andThen_exit ?_))
   refine inBlock_exit ?_
   obtain ⟨rfl, rfl⟩ := inj2 r69
   exact mi kr ⟨a55, n59, c56, Lb57, a61, n65, c62, Lb63, rfl, rfl, (sc rfl (sc rfl (sc rfl (sc rfl (sc rfl (sn _)))))), hz58, hz64⟩
 rintro e1 _ _ ⟨a41, n45, c42, Lb43, a47, n51, c48, Lb49, rfl, rfl, he132, hz44, hz50⟩
 refine shW_env _ he132 ?_; clear he132
 refine shW_seq (wsr (om rfl rfl ?_))
 refine ov ((v_lenS Tryz.underlying24 rfl).i (SlR.lenI hz50)) rfl ?_
 refine ov (v_eql rfl rfl) rfl ?_
 refine shO_nil ?_
 refine shW_condP rfl (fun c133 => ?_) (fun c133 => ?_)
 · have r134 := ite_t r54 c133; clear r54
   refine wsr ?_
   obtain ⟨ok, h135, r136⟩ := b1_ok r134; clear r134
   refine o_callV rfl Tryz.call24 rfl rfl rfl (oyezlaw07_awake_w h135) ?_
   refine oa rfl rfl (shO_nil ?_)
   refine kW kn ?_
   refine shW_ret (andThen_ret ?_)
   refine q_res1 Tryz.results4 (res_tmp rfl) (sr) ?_
   obtain rfl := inj1 r136
   exact rfl
 have r137 := ite_f r54 c133; clear r54
 refine shW_skip (wsr (om rfl rfl ?_))
 refine ov ((v_lenS Tryz.underlying24 rfl).i (SlR.lenI hz50)) rfl ?_
 refine ov (v_build (v := .agg #[.int .i64 (houses.length : Int), .int .i64 2, .slice none 0 0, .slice none 0 0, .slice none 0 0]) rfl (by intro w; kernel_rfl)) rfl ?_
 refine o_alloc rfl Tryz.zeroValue27 ?_; intro b138 hb138
 refine o_storeA (i := 0) Tryz.sizeOf27 rfl rfl rfl (by simp [Value.oneCell']) rfl (Nat.le_of_ble_eq_true rfl) ?_
 refine shO_L (L' := (b138, .cells #[.int .i64 (houses.length : Int), .int .i64 2, .slice none 0 0, .slice none 0 0, .slice none 0 0] 27 (0, 0)) :: ((b34, .cells #[.int .i64 n, .slice a27 n31 c28] 56 (0, 0)) :: ((b17, .cells #[.slice a18 metal2.length c19, .int .i64 at_2, .int .u32 turn2] 95 (0, 0)) :: (Lb29 ++ (Lb43 ++ (Lb49 ++ [])))))) rfl ?_
 refine shO_nil ?_
 refine shW_join (fun e1 F1 L1 => ∃ (b_hears : List (List (List Int))) (a139 : Option Addr) (n143 : Nat) (c140 : Nat) (Lb141 : LH), oyezlaw07_BookBlown_j2 metal2 at_2 turn2 n l n3 streets houses b_hears = some r ∧ FExt F37 F1 ∧ L1 = ((b138, .cells #[.int .i64 (houses.length : Int), .int .i64 2, .slice a139 n143 c140, .slice none 0 0, .slice none 0 0] 27 (0, 0)) :: ((b34, .cells #[.int .i64 n, .slice a27 n31 c28] 56 (0, 0)) :: ((b17, .cells #[.slice a18 metal2.length c19, .int .i64 at_2, .int .u32 turn2] 95 (0, 0)) :: (Lb29 ++ (Lb43 ++ (Lb49 ++ (Lb141 ++ []))))))) ∧ e1.sub [(6, .pointer (some ⟨b17, 0, none⟩)), (7, .pointer (some ⟨b34, 0, none⟩)), (8, .int .i64 n3), (9, .slice a41 n45 c42), (10, .slice a47 n51 c48), (13, .pointer (some ⟨b138, 0, none⟩))] ∧ SlR K.w0.heap.size 49 1 (slE 1 (slE 1 (iE .i64))) F1 a139 n143 c140 b_hears Lb141) ?_ ?_
 · refine wsr (om rfl rfl ?_)
   refine ov ((v_lenS Tryz.underlying24 rfl).i (SlR.lenI hz44)) rfl ?_
   refine om rfl rfl (shO_nil ?_)
   refine shW_block ?_
   refine shW_lp (fun fu3 e1 F1 L1 => ∃ (tl3 : List Int) (k4 : Int), tl3.length = fu3 ∧ Lst streets k4 tl3 ∧ ∃ (b_hears2 : List (List (List Int))) (a145 : Option Addr) (n149 : Nat) (c146 : Nat) (Lb147 : LH), oyezlaw07_BookBlown_l3 metal2 at_2 turn2 n l n3 streets houses tl3 b_hears2 = some r ∧ FExt F37 F1 ∧ L1 = ((b138, .cells #[.int .i64 (houses.length : Int), .int .i64 2, .slice a145 n149 c146, .slice none 0 0, .slice none 0 0] 27 (0, 0)) :: ((b34, .cells #[.int .i64 n, .slice a27 n31 c28] 56 (0, 0)) :: ((b17, .cells #[.slice a18 metal2.length c19, .int .i64 at_2, .int .u32 turn2] 95 (0, 0)) :: (Lb29 ++ (Lb43 ++ (Lb49 ++ (Lb147 ++ []))))))) ∧ e1.sub [(6, .pointer (some ⟨b17, 0, none⟩)), (7, .pointer (some ⟨b34, 0, none⟩)), (8, .int .i64 n3), (9, .slice a41 n45 c42), (10, .slice a47 n51 c48), (13, .pointer (some ⟨b138, 0, none⟩)), (83, .slice a41 n45 c42), (84, .int .i64 (streets.length : Int)), (85, .int .i64 k4)] ∧ SlR K.w0.heap.size 49 1 (slE 1 (slE 1 (iE .i64))) F1 a145 n149 c146 b_hears2 Lb147) _ (m0 (kc (kc (kc (ka (ka (ka (ke kr))))))) ⟨_, _, rfl, Lst.start _, [], none, 0, 0, [], r137, FExt.refl _, rfl, (sc rfl (sc rfl (sc rfl (sc rfl (sc rfl (sc rfl (sc rfl (sc rfl (sc rfl (sn _)))))))))), SlR.nil _ _ _ _ _⟩) ?_
   rintro fu3 e1 F155 _ ⟨tl3, k4, hn152, hk151, b_hears2, a145, n149, c146, Lb147, r153, hF156, rfl, he154, hz148⟩
   refine shW_env _ he154 ?_; clear he154
   replace hz30 := hz30.mono (iE_ok _) hF156
   replace hz44 := hz44.mono (iE_ok _) hF156
   replace hz50 := hz50.mono (iE_ok _) hF156
   refine wsr ?_
   refine ov (v_lssK rfl rfl) rfl ?_
   refine shO_nil (shW_seq ?_)
   refine shW_condP rfl (fun c158 => ?_) (fun c158 => ?_)
   · obtain ⟨x2, tl4, rfl, hx160, g161, hk159⟩ := Lst.succ hk151 c158
     rw [oyezlaw07_BookBlown_l3] at r153
     refine shW_skip ?_
     refine shW_join (fun e1 F1 L1 => ∃ (b_hears3 : List (List (List Int))) (a162 : Option Addr) (n166 : Nat) (c163 : Nat) (Lb164 : LH), oyezlaw07_BookBlown_j4 (oyezlaw07_BookBlown_l3 metal2 at_2 turn2 n l n3 streets houses tl4) b_hears3 = some r ∧ FExt F155 F1 ∧ L1 = ((b138, .cells #[.int .i64 (houses.length : Int), .int .i64 2, .slice a162 n166 c163, .slice none 0 0, .slice none 0 0] 27 (0, 0)) :: ((b34, .cells #[.int .i64 n, .slice a27 n31 c28] 56 (0, 0)) :: ((b17, .cells #[.slice a18 metal2.length c19, .int .i64 at_2, .int .u32 turn2] 95 (0, 0)) :: (Lb29 ++ (Lb43 ++ (Lb49 ++ (Lb164 ++ []))))))) ∧ e1.sub [(6, .pointer (some ⟨b17, 0, none⟩)), (7, .pointer (some ⟨b34, 0, none⟩)), (8, .int .i64 n3), (9, .slice a41 n45 c42), (10, .slice a47 n51 c48), (13, .pointer (some ⟨b138, 0, none⟩)), (83, .slice a41 n45 c42), (84, .int .i64 (streets.length : Int)), (85, .int .i64 k4)] ∧ SlR K.w0.heap.size 49 1 (slE 1 (slE 1 (iE .i64))) F1 a162 n166 c163 b_hears3 Lb164) ?_ ?_
     · refine shW_block ?_
       refine wsr ?_
       obtain ⟨b168, o169, c170, vs171, ha172, hs173, hle174, rfl, hl175, hc176⟩ := SlR.at (iE_ok _) hz44 (L := (b138, .cells #[.int .i64 (houses.length : Int), .int .i64 2, .slice a145 n149 c146, .slice none 0 0, .slice none 0 0] 27 (0, 0)) :: ((b34, .cells #[.int .i64 n, .slice a27 n31 c28] 56 (0, 0)) :: ((b17, .cells #[.slice a18 metal2.length c19, .int .i64 at_2, .int .u32 turn2] 95 (0, 0)) :: (Lb29 ++ (Lb43 ++ (Lb49 ++ (Lb147 ++ []))))))) (fC (fC (fC (fS fP)))) g161.1 hx160
       refine ov (v_indexO Tryz.underlying24 Tryz.sizeOf3 rfl ha172 rfl (SlR.idx hz44 g161)) rfl ?_
       refine ov (v_load Tryz.isAgg3 rfl hs173 (hc176 0 (by decide))) rfl ?_
       refine oa rfl rfl (nsr ?_)
       obtain ⟨g177, r178⟩ := gd_ok r153; clear r153
       obtain ⟨l2, h179, r180⟩ := bv_ok r178; clear r178
       refine o_makeZ (R := hdE) (z0 := (none, 0, 0)) (zs := List.replicate (8 : Int).toNat (none, 0, 0)) rfl slt_49 (by decide) hdE_ok (fun _ => rfl) rfl g177 rfl (fun _ => .c (.c (.c .n))) ?_; intro a181 n184 Lb182 hO185
       have hz183 : NlR K.w0.heap.size 24 3 1 (iE .i64) F155 a181 n184 n184 l2 Lb182 := NlR.made hO185 h179
       refine oa rfl rfl (shO_nil ?_)
       refine shW_join (fun e1 F1 L1 => ∃ (winds : List (List Int)) (Lb187 : LH), oyezlaw07_BookBlown_j5 b_hears2 (oyezlaw07_BookBlown_l3 metal2 at_2 turn2 n l n3 streets houses tl4) winds = some r ∧ FExt F155 F1 ∧ L1 = ((b138, .cells #[.int .i64 (houses.length : Int), .int .i64 2, .slice a145 n149 c146, .slice none 0 0, .slice none 0 0] 27 (0, 0)) :: ((b34, .cells #[.int .i64 n, .slice a27 n31 c28] 56 (0, 0)) :: ((b17, .cells #[.slice a18 metal2.length c19, .int .i64 at_2, .int .u32 turn2] 95 (0, 0)) :: (Lb29 ++ (Lb43 ++ (Lb49 ++ (Lb147 ++ (Lb187 ++ [])))))))) ∧ e1.sub [(6, .pointer (some ⟨b17, 0, none⟩)), (7, .pointer (some ⟨b34, 0, none⟩)), (8, .int .i64 n3), (9, .slice a41 n45 c42), (10, .slice a47 n51 c48), (13, .pointer (some ⟨b138, 0, none⟩)), (16, .slice a181 n184 n184), (83, .slice a41 n45 c42), (84, .int .i64 (streets.length : Int)), (85, .int .i64 k4)] ∧ NlR K.w0.heap.size 24 3 1 (iE .i64) F1 a181 n184 n184 winds Lb187) ?_ ?_
       · refine wsr ?_
         refine o_buildSlice (cs := #[.int .i64 1, .int .i64 2, .int .i64 3, .int .i64 4]) rfl rfl (buildSlice_all slt_63 [.int .i64 1, .int .i64 2, .int .i64 3, .int .i64 4] rfl (by decide) (by simp [Value.cells]) (by decide)) ?_; intro b189 hb189
         refine ov (v_lenS Tryz.underlying63 rfl) rfl ?_
         refine om rfl rfl (shO_nil ?_)
         refine shW_block ?_
         refine shW_freeze 0 rfl hb189 ?_; intro F190 hF191 hz192
         refine shW_L (L' := (b138, .cells #[.int .i64 (houses.length : Int), .int .i64 2, .slice a145 n149 c146, .slice none 0 0, .slice none 0 0] 27 (0, 0)) :: ((b34, .cells #[.int .i64 n, .slice a27 n31 c28] 56 (0, 0)) :: ((b17, .cells #[.slice a18 metal2.length c19, .int .i64 at_2, .int .u32 turn2] 95 (0, 0)) :: (Lb182 ++ (Lb29 ++ (Lb43 ++ (Lb49 ++ (Lb147 ++ [])))))))) rfl ?_
         replace hz30 := hz30.mono (iE_ok _) hF191
         replace hz50 := hz50.mono (iE_ok _) hF191
         replace hz183 := hz183.mono (iE_ok _) hF191
         have h193 : RowR 1 (iE .i64) F190 (some ⟨b189, 0, none⟩) 4 [1, 2, 3, 4] := RowR.of_block (iE_ok _) (vss := [[.int .i64 1], [.int .i64 2], [.int .i64 3], [.int .i64 4]]) (xs := [1, 2, 3, 4]) hz192 (.cons rfl (.cons rfl (.cons rfl (.cons rfl .nil)))) rfl (by simp [maxLen])
         obtain ⟨g196, r197⟩ := gd_ok r180; clear r180
         refine shW_lp (fun fu6 e1 F1 L1 => ∃ (k5 : Int), Ctr 0 4 k5 fu6 ∧ ∃ (winds2 : List (List Int)) (Lb194 : LH), oyezlaw07_BookBlown_l6 n l n3 houses b_hears2 x2 (oyezlaw07_BookBlown_l3 metal2 at_2 turn2 n l n3 streets houses tl4) fu6 k5 winds2 = some r ∧ FExt F190 F1 ∧ L1 = ((b138, .cells #[.int .i64 (houses.length : Int), .int .i64 2, .slice a145 n149 c146, .slice none 0 0, .slice none 0 0] 27 (0, 0)) :: ((b34, .cells #[.int .i64 n, .slice a27 n31 c28] 56 (0, 0)) :: ((b17, .cells #[.slice a18 metal2.length c19, .int .i64 at_2, .int .u32 turn2] 95 (0, 0)) :: (Lb29 ++ (Lb43 ++ (Lb49 ++ (Lb147 ++ (Lb194 ++ [])))))))) ∧ e1.sub [(6, .pointer (some ⟨b17, 0, none⟩)), (7, .pointer (some ⟨b34, 0, none⟩)), (8, .int .i64 n3), (9, .slice a41 n45 c42), (10, .slice a47 n51 c48), (13, .pointer (some ⟨b138, 0, none⟩)), (15, .int .i64 x2), (16, .slice a181 n184 n184), (83, .slice a41 n45 c42), (84, .int .i64 (streets.length : Int)), (85, .int .i64 k4), (90, .slice (some ⟨b189, 0, none⟩) [1, 2, 3, 4].length 4), (91, .int .i64 4), (92, .int .i64 k5)] ∧ NlR K.w0.heap.size 24 3 1 (iE .i64) F1 a181 n184 n184 winds2 Lb194) _ (m0 (kc (kc (kc (kg (fS fP) (kg (fS fP) (kg (fS fP) (kg (fS fP) kr))))))) ⟨_, Ctr.start _ _, l2, Lb182, r197, FExt.refl _, rfl, (sc rfl (sc rfl (sc rfl (sc rfl (sc rfl (sc rfl (sc rfl (sc rfl (sc rfl (sc rfl (sc rfl (sc rfl (sc rfl (sc rfl (sn _))))))))))))))), hz183⟩) ?_
         rintro fu6 e1 F202 _ ⟨k5, hk198, winds2, Lb194, r200, hF203, rfl, he201, hz195⟩
         refine shW_env _ he201 ?_; clear he201
         replace h193 := h193.mono (iE_ok _) hF203
         replace hz30 := hz30.mono (iE_ok _) hF203
         replace hz50 := hz50.mono (iE_ok _) hF203
         refine wsr ?_
         refine ov (v_lssK rfl rfl) rfl ?_
         refine shO_nil (shW_seq ?_)
         refine shW_condP rfl (fun c205 => ?_) (fun c205 => ?_)
         · obtain ⟨fu6, rfl, hk206⟩ := Ctr.succ hk198 c205
           rw [oyezlaw07_BookBlown_l6] at r200
           refine shW_skip ?_
           refine shW_join (fun e1 F1 L1 => ∃ (winds3 : List (List Int)) (Lb207 : LH), oyezlaw07_BookBlown_j7 k5 (oyezlaw07_BookBlown_l6 n l n3 houses b_hears2 x2 (oyezlaw07_BookBlown_l3 metal2 at_2 turn2 n l n3 streets houses tl4) fu6) winds3 = some r ∧ FExt F202 F1 ∧ L1 = ((b138, .cells #[.int .i64 (houses.length : Int), .int .i64 2, .slice a145 n149 c146, .slice none 0 0, .slice none 0 0] 27 (0, 0)) :: ((b34, .cells #[.int .i64 n, .slice a27 n31 c28] 56 (0, 0)) :: ((b17, .cells #[.slice a18 metal2.length c19, .int .i64 at_2, .int .u32 turn2] 95 (0, 0)) :: (Lb29 ++ (Lb43 ++ (Lb49 ++ (Lb147 ++ (Lb207 ++ [])))))))) ∧ e1.sub [(6, .pointer (some ⟨b17, 0, none⟩)), (7, .pointer (some ⟨b34, 0, none⟩)), (8, .int .i64 n3), (9, .slice a41 n45 c42), (10, .slice a47 n51 c48), (13, .pointer (some ⟨b138, 0, none⟩)), (15, .int .i64 x2), (16, .slice a181 n184 n184), (83, .slice a41 n45 c42), (84, .int .i64 (streets.length : Int)), (85, .int .i64 k4), (90, .slice (some ⟨b189, 0, none⟩) [1, 2, 3, 4].length 4), (91, .int .i64 4), (92, .int .i64 k5)] ∧ NlR K.w0.heap.size 24 3 1 (iE .i64) F1 a181 n184 n184 winds3 Lb207) ?_ ?_
           · refine shW_block ?_
             refine wsr (om rfl rfl ?_)
             obtain ⟨x3, g209, hx210, r211⟩ := ix_ok r200; clear r200
             obtain ⟨b212, o213, c214, vs215, ha216, hs217, hle218, rfl, hl219, hc220⟩ := RowR.at (iE_ok _) h193 ((b138, .cells #[.int .i64 (houses.length : Int), .int .i64 2, .slice a145 n149 c146, .slice none 0 0, .slice none 0 0] 27 (0, 0)) :: ((b34, .cells #[.int .i64 n, .slice a27 n31 c28] 56 (0, 0)) :: ((b17, .cells #[.slice a18 metal2.length c19, .int .i64 at_2, .int .u32 turn2] 95 (0, 0)) :: (Lb29 ++ (Lb43 ++ (Lb49 ++ (Lb147 ++ (Lb194 ++ [])))))))) g209.1 hx210
             refine ov (v_indexO Tryz.underlying63 Tryz.sizeOf58 rfl ha216 rfl g209) rfl ?_
             refine ov (v_load Tryz.isAgg58 rfl hs217 (hc220 0 (by decide))) rfl ?_
             refine oa rfl rfl (oa rfl rfl (nsr ?_))
             refine ov (v_loadA (cs := #[.int .i64 n, .slice a27 n31 c28]) Tryz.isAgg56 Tryz.sizeOf56 rfl (Has.own 1 rfl) (Nat.le_of_ble_eq_true rfl) rfl) rfl ?_
             refine om rfl rfl (om rfl rfl ?_)
             refine ov (v_build (v := .agg #[.int .i64 x3, .int .i64 n3]) rfl (by intro w; kernel_rfl)) rfl ?_
             refine om rfl rfl ?_
             obtain ⟨l3, n4, h221, r222⟩ := b2_ok r211; clear r211
             refine o_callTO (Lb := []) (Lt := Lb29 ++ []) (Lr := (b138, .cells #[.int .i64 (houses.length : Int), .int .i64 2, .slice a145 n149 c146, .slice none 0 0, .slice none 0 0] 27 (0, 0)) :: ((b34, .cells #[.int .i64 n, .slice a27 n31 c28] 56 (0, 0)) :: ((b17, .cells #[.slice a18 metal2.length c19, .int .i64 at_2, .int .u32 turn2] 95 (0, 0)) :: (Lb43 ++ (Lb49 ++ (Lb147 ++ (Lb194 ++ []))))))) rfl Tryz.call27 rfl rfl rfl (pT ((fC (fC (fC fP))).trans (pA pR)) (ln (lp (ln rfl)))) (fun F2 h2 h3 => by rw [(SlR.caps hz30).1]; exact hear_Houses_w (hz30.row (iE_ok _) h2 (fun p hp => h3 p (List.mem_append_left _ hp))) h221) (fun _ _ _ _ hq => by obtain ⟨a227, n231, c228, Lb229, rfl, rfl, hz230⟩ := hq; exact ⟨_, _, _, _, rfl, rfl, hz230.flat (fun _ _ h => h)⟩) ?_; rintro _ F223 _ hF224 hd226 hn225 ⟨a227, n231, c228, Lb229, rfl, rfl, hz230⟩
             replace hz50 := hz50.mono (iE_ok _) hF224
             replace hz195 := hz195.mono (iE_ok _) hF224
             have hn233 := newp (Lb' := []) (by rfl) hd226 hn225
             replace hz230 := hz230.new fun p hp => hn233 p (by simp [hp])
             refine shO_L (lp (ln (lp (ln rfl)))) ?_
             refine kO (kf (fS (fS fO)) (kf (fS (fS fO)) (kf (fS (fS fO)) kr))) ?_
             refine om rfl rfl (ox rfl rfl rfl (ox rfl rfl rfl (oa rfl rfl (oa rfl rfl (shO_nil (shW_seq (wsr (om rfl rfl ?_))))))))
             refine ov (v_neq rfl rfl) rfl ?_
             refine shO_nil ?_
             refine shW_condP rfl (fun c234 => ?_) (fun c234 => ?_)
             · have r235 := ite_t r222 c234; clear r222
               refine wsr (oa rfl rfl (shO_nil ?_))
               refine kW kn ?_
               refine shW_ret (andThen_ret (inBlock_ret (andThen_ret (andThen_ret (inBlock_ret (andThen_ret (inBlock_ret (andThen_ret (andThen_ret ?_)))))))))
               refine inBlock_ret (andThen_ret ?_)
               refine q_res1 Tryz.results4 (res_tmp rfl) (sr) ?_
               obtain rfl := inj1 r235
               exact rfl
             have r236 := ite_f r222 c234; clear r222
             refine shW_skip (wsr (om rfl rfl ?_))
             refine ov ((v_lenS Tryz.underlying24 rfl).i (SlR.lenI hz50)) rfl ?_
             refine om rfl rfl (shO_nil ?_)
             refine shW_block ?_
             refine shW_lp (fun fu8 e1 F1 L1 => ∃ (tl5 : List Int) (k6 : Int), tl5.length = fu8 ∧ Lst houses k6 tl5 ∧ ∃ (winds4 : List (List Int)) (Lb237 : LH), oyezlaw07_BookBlown_l8 k5 l3 (oyezlaw07_BookBlown_l6 n l n3 houses b_hears2 x2 (oyezlaw07_BookBlown_l3 metal2 at_2 turn2 n l n3 streets houses tl4) fu6) tl5 k6 winds4 = some r ∧ F223 = F1 ∧ L1 = ((b138, .cells #[.int .i64 (houses.length : Int), .int .i64 2, .slice a145 n149 c146, .slice none 0 0, .slice none 0 0] 27 (0, 0)) :: ((b34, .cells #[.int .i64 n, .slice a27 n31 c28] 56 (0, 0)) :: ((b17, .cells #[.slice a18 metal2.length c19, .int .i64 at_2, .int .u32 turn2] 95 (0, 0)) :: (Lb29 ++ (Lb43 ++ (Lb49 ++ (Lb147 ++ (Lb237 ++ (Lb229 ++ []))))))))) ∧ e1.sub [(6, .pointer (some ⟨b17, 0, none⟩)), (7, .pointer (some ⟨b34, 0, none⟩)), (8, .int .i64 n3), (9, .slice a41 n45 c42), (10, .slice a47 n51 c48), (13, .pointer (some ⟨b138, 0, none⟩)), (15, .int .i64 x2), (16, .slice a181 n184 n184), (17, .int .i64 k5), (19, .slice a227 n231 c228), (83, .slice a41 n45 c42), (84, .int .i64 (streets.length : Int)), (85, .int .i64 k4), (90, .slice (some ⟨b189, 0, none⟩) [1, 2, 3, 4].length 4), (91, .int .i64 4), (92, .int .i64 k5), (108, .slice a47 n51 c48), (109, .int .i64 (houses.length : Int)), (110, .int .i64 k6)] ∧ NlR K.w0.heap.size 24 3 1 (iE .i64) F1 a181 n184 n184 winds4 Lb237) _ (m0 (kc (kc (kc (kg (fS fP) (kg (fS fP) (kg (fS fP) (kg (fS fP) (kg (fS fP) kr)))))))) ⟨_, _, rfl, Lst.start _, winds2, Lb194, r236, rfl, rfl, (sc rfl (sc rfl (sc rfl (sc rfl (sc rfl (sc rfl (sc rfl (sc rfl (sc rfl (sc rfl (sc rfl (sc rfl (sc rfl (sc rfl (sc rfl (sc rfl (sc rfl (sc rfl (sc rfl (sn _)))))))))))))))))))), hz195⟩) ?_
             rintro fu8 e1 _ _ ⟨tl5, k6, hn240, hk239, winds4, Lb237, r241, rfl, rfl, he242, hz238⟩
             refine shW_env _ he242 ?_; clear he242
             refine wsr ?_
             refine ov (v_lssK rfl rfl) rfl ?_
             refine shO_nil (shW_seq ?_)
             refine shW_condP rfl (fun c244 => ?_) (fun c244 => ?_)
             · obtain ⟨x4, tl6, rfl, hx246, g247, hk245⟩ := Lst.succ hk239 c244
               rw [oyezlaw07_BookBlown_l8] at r241
               refine shW_skip (shW_seq ?_)
               refine shW_block ?_
               refine wsr (om rfl rfl ?_)
               obtain ⟨b248, o249, c250, vs251, ha252, hs253, hle254, rfl, hl255, hc256⟩ := SlR.at (iE_ok _) hz50 (L := (b138, .cells #[.int .i64 (houses.length : Int), .int .i64 2, .slice a145 n149 c146, .slice none 0 0, .slice none 0 0] 27 (0, 0)) :: ((b34, .cells #[.int .i64 n, .slice a27 n31 c28] 56 (0, 0)) :: ((b17, .cells #[.slice a18 metal2.length c19, .int .i64 at_2, .int .u32 turn2] 95 (0, 0)) :: (Lb29 ++ (Lb43 ++ (Lb49 ++ (Lb147 ++ (Lb237 ++ (Lb229 ++ []))))))))) (fC (fC (fC (fS (fS fP))))) g247.1 hx246
               refine ov (v_indexO Tryz.underlying24 Tryz.sizeOf3 rfl ha252 rfl (SlR.idx hz50 g247)) rfl ?_
               refine ov (v_load Tryz.isAgg3 rfl hs253 (hc256 0 (by decide))) rfl ?_
               refine oa rfl rfl (oa rfl rfl (nsr (om rfl rfl (om rfl rfl ?_))))
               obtain ⟨ok2, h257, r258⟩ := b1_ok r241; clear r241
               refine o_callT (Lt := Lb229 ++ []) (Lr := (b138, .cells #[.int .i64 (houses.length : Int), .int .i64 2, .slice a145 n149 c146, .slice none 0 0, .slice none 0 0] 27 (0, 0)) :: ((b34, .cells #[.int .i64 n, .slice a27 n31 c28] 56 (0, 0)) :: ((b17, .cells #[.slice a18 metal2.length c19, .int .i64 at_2, .int .u32 turn2] 95 (0, 0)) :: (Lb29 ++ (Lb43 ++ (Lb49 ++ (Lb147 ++ (Lb237 ++ [])))))))) rfl Tryz.call17 rfl rfl rfl (pT ((fC (fC (fC (fS (fS (fS (fS (fS fP)))))))).trans (pA pR)) (lp (ln rfl))) (fun F2 h2 h3 => by rw [(SlR.caps hz230).1]; exact slices_Contains_int_int_w (hz230.row (iE_ok _) h2 (fun p hp => h3 p (List.mem_append_left _ hp))) h257) ?_
               refine shO_nil ?_
               refine shW_cond rfl (fun c259 => ?_) (fun c259 => ?_)
               · have r260 := bt r258 c259; clear r258
                 refine shW_region (om rfl rfl (om rfl rfl ?_))
                 obtain ⟨g261, r262⟩ := gd_ok r260; clear r260
                 refine ov (v_mul rfl rfl g261) rfl ?_
                 refine om rfl rfl (om rfl rfl ?_)
                 obtain ⟨g263, r264⟩ := gd_ok r262; clear r262
                 refine ov (v_mul rfl rfl g263) rfl ?_
                 obtain ⟨x5, g265, hx266, r267⟩ := ix_ok r264; clear r264
                 have hn279 := (NlR.caps hz238).1
                 refine shO_open (fC (fC (fC (fS (fS (fS (fS fP))))))) hz238 hx266 ?_; intro hs268 Lo269 Lc270 a271 n272 c273 Lb274 hh275 hO276 hz277 hI278
                 refine kO (kf (fS (fS (fS fO))) (kf (fS (fS (fS fO))) (kf (fS (fS (fS fO))) kr))) ?_
                 obtain ⟨b281, o282, c283, vs284, ha285, hs286, hle287, rfl, hl288, hc289⟩ := SlR.at hdE_ok hO276 (L := (b138, .cells #[.int .i64 (houses.length : Int), .int .i64 2, .slice a145 n149 c146, .slice none 0 0, .slice none 0 0] 27 (0, 0)) :: ((b34, .cells #[.int .i64 n, .slice a27 n31 c28] 56 (0, 0)) :: ((b17, .cells #[.slice a18 metal2.length c19, .int .i64 at_2, .int .u32 turn2] 95 (0, 0)) :: (Lo269 ++ (Lb274 ++ (Lc270 ++ (Lb29 ++ (Lb43 ++ (Lb49 ++ (Lb147 ++ (Lb229 ++ []))))))))))) (fC (fC (fC fP))) g265.1 hh275
                 refine ov (v_indexO Tryz.underlying49 Tryz.sizeOf24 rfl ha285 rfl (idxN hn279 g265)) rfl ?_
                 refine ov (v_load Tryz.isAgg24 rfl hs286 (hc289 0 (by decide))) rfl ?_
                 refine om rfl rfl ?_
                 refine o_buildSlice (cs := #[.int .i64 k6]) rfl rfl (buildSlice_all slt_24 [.int .i64 k6] rfl (by decide) (by simp [Value.cells]) (by decide)) ?_; intro b290 hb290
                 obtain ⟨l4, h291, g292, r293⟩ := ap_ok r267; clear r267
                 refine o_appZ (xs := x5) (ys := [k6]) (zs := l4) rfl slt_24 rfl rfl (Nat.le_refl _) (fun _ => .c (.c (.c (.c (.s .h))))) hz277 (SrcR.box (vss := [[.int .i64 k6]]) (ys := [k6]) 0 rfl (iE_ok _) (.cons rfl .nil) rfl rfl) h291 g292 (by decide) ?_; intro a294 n298 c295 Lb296 hz297
                 refine kO (kd kr) ?_
                 obtain ⟨b300, o301, c302, vs303, ha304, hs305, hle306, rfl, hl307, hc308⟩ := SlR.at hdE_ok hO276 (L := (b138, .cells #[.int .i64 (houses.length : Int), .int .i64 2, .slice a145 n149 c146, .slice none 0 0, .slice none 0 0] 27 (0, 0)) :: ((b34, .cells #[.int .i64 n, .slice a27 n31 c28] 56 (0, 0)) :: ((b17, .cells #[.slice a18 metal2.length c19, .int .i64 at_2, .int .u32 turn2] 95 (0, 0)) :: (Lo269 ++ (Lb296 ++ (Lc270 ++ (Lb29 ++ (Lb43 ++ (Lb49 ++ (Lb147 ++ (Lb229 ++ []))))))))))) (fC (fC (fC fP))) g265.1 hh275
                 refine ov (v_indexO Tryz.underlying49 Tryz.sizeOf24 rfl ha304 rfl (idxN hn279 g265)) rfl ?_
                 refine o_storeZ (zs := hs268.set (2 * k5 : Int).toNat (a294, n298, c295)) (u := (a294, n298, c295)) Tryz.sizeOf24 hdE_ok rfl ha304 rfl rfl (fun _ => .c (.c (.c .h))) hO276 rfl (idxH hn279 hO276 g265) ?_; intro Lo309 hO310
                 obtain ⟨winds5, h311, r312⟩ := bv_ok r293; clear r293
                 refine shO_fold (p := fun X => NlR K.w0.heap.size 24 3 1 (iE .i64) F223 a181 n184 n184 winds5 X) (InH.back hI278 hO310 hz297 h311) (pT ((fC (fC (fC fP))).trans (pA ((fC (fC (fC fP))).trans (pA ((fC (fC (fC fP))).trans (pA pR)))))) (lp (lp (lp (ln rfl))))) ?_; intro Lb313 hz314
                 refine kO (kf (fS fO) (kf (fS fO) (kf (fS fO) kr))) ?_
                 refine shO_nil (inBlock_n (id := 7) (shW_region ?_))
                 refine ov (v_add rfl rfl (Lst.r64 hk239 c244 (SlR.llt hz50))) rfl ?_
                 refine om rfl rfl (shO_nil ?_)
                 subst hn240; exact le (kc (kc (kc (kg (fS fP) (kg (fS fP) (kg (fS fP) (kg (fS fP) kr))))))) ⟨_, _, rfl, hk245, winds5, Lb313, r312, rfl, rfl, (sc rfl (sc rfl (sc rfl (sc rfl (sc rfl (sc rfl (sc rfl (sc rfl (sc rfl (sc rfl (sc rfl (sc rfl (sc rfl (sc rfl (sc rfl (sc rfl (sc rfl (sc rfl (sc rfl (sn _)))))))))))))))))))), hz314⟩
               have r315 := bf r258 c259; clear r258
               refine shW_skip (inBlock_n (id := 7) (shW_region ?_))
               refine ov (v_add rfl rfl (Lst.r64 hk239 c244 (SlR.llt hz50))) rfl ?_
               refine om rfl rfl (shO_nil ?_)
               subst hn240; exact le kr ⟨_, _, rfl, hk245, winds4, Lb237, r315, rfl, rfl, (sc rfl (sc rfl (sc rfl (sc rfl (sc rfl (sc rfl (sc rfl (sc rfl (sc rfl (sc rfl (sc rfl (sc rfl (sc rfl (sc rfl (sc rfl (sc rfl (sc rfl (sc rfl (sc rfl (sn _)))))))))))))))))))), hz238⟩
             obtain rfl := Lst.zero hk239 c244
             rw [oyezlaw07_BookBlown_l8] at r241
             refine shW_exit (andThen_exit (andThen_exit ?_))
             refine inBlock_exit ?_
             refine inBlock_n (id := 5) ?_
             exact mi (kc (kc (kc (ka (ka (ka (ka (ka kn)))))))) ⟨winds4, Lb237, r241, hF224, rfl, (sc rfl (sc rfl (sc rfl (sc rfl (sc rfl (sc rfl (sc rfl (sc rfl (sc rfl (sc rfl (sc rfl (sc rfl (sc rfl (sc rfl (sn _))))))))))))))), hz238⟩
           rintro e1 F318 _ ⟨winds3, Lb207, r316, hF319, rfl, he317, hz208⟩
           refine shW_env _ he317 ?_; clear he317
           rw [oyezlaw07_BookBlown_j7] at r316
           refine shW_region ?_
           refine ov (v_add rfl rfl (Ctr.r64 hk198 c205 g196)) rfl ?_
           refine om rfl rfl (shO_nil ?_)
           exact le kr ⟨_, hk206, winds3, Lb207, r316, (hF203.trans hF319), rfl, (sc rfl (sc rfl (sc rfl (sc rfl (sc rfl (sc rfl (sc rfl (sc rfl (sc rfl (sc rfl (sc rfl (sc rfl (sc rfl (sc rfl (sn _))))))))))))))), hz208⟩
         obtain rfl := Ctr.zero hk198 c205
         rw [oyezlaw07_BookBlown_l6] at r200
         refine shW_exit (andThen_exit (andThen_exit ?_))
         refine inBlock_exit ?_
         exact mi kr ⟨winds2, Lb194, r200, (hF191.trans hF203), rfl, (sc rfl (sc rfl (sc rfl (sc rfl (sc rfl (sc rfl (sc rfl (sc rfl (sc rfl (sc rfl (sn _))))))))))), hz195⟩
       rintro e1 F322 _ ⟨winds, Lb187, r320, hF323, rfl, he321, hz188⟩
       refine shW_env _ he321 ?_; clear he321
       replace hz148 := hz148.mono (slE_ok (slE_ok (iE_ok _))) hF323
       rw [oyezlaw07_BookBlown_j5] at r320
       obtain ⟨winds6, h326, r327⟩ := b1_ok r320; clear r320
       refine shW_join (fun e1 F1 L1 => ∃ (Lb324 : LH), F322 = F1 ∧ L1 = ((b138, .cells #[.int .i64 (houses.length : Int), .int .i64 2, .slice a145 n149 c146, .slice none 0 0, .slice none 0 0] 27 (0, 0)) :: ((b34, .cells #[.int .i64 n, .slice a27 n31 c28] 56 (0, 0)) :: ((b17, .cells #[.slice a18 metal2.length c19, .int .i64 at_2, .int .u32 turn2] 95 (0, 0)) :: (Lb29 ++ (Lb43 ++ (Lb49 ++ (Lb147 ++ (Lb324 ++ [])))))))) ∧ e1.sub [(6, .pointer (some ⟨b17, 0, none⟩)), (7, .pointer (some ⟨b34, 0, none⟩)), (8, .int .i64 n3), (9, .slice a41 n45 c42), (10, .slice a47 n51 c48), (13, .pointer (some ⟨b138, 0, none⟩)), (16, .slice a181 n184 n184), (83, .slice a41 n45 c42), (84, .int .i64 (streets.length : Int)), (85, .int .i64 k4)] ∧ NlR K.w0.heap.size 24 3 1 (iE .i64) F1 a181 n184 n184 winds6 Lb324) ?_ ?_
       · clear r327
         refine wsr (oa rfl rfl (shO_nil ?_))
         refine shW_block ?_
         refine shW_lp (fun fu9 e1 F1 L1 => ∃ (winds7 : List (List Int)) (w : Int) (Lb328 : LH), oyezlaw07_BookBlown_l9 fu9 winds7 w = some winds6 ∧ F322 = F1 ∧ L1 = ((b138, .cells #[.int .i64 (houses.length : Int), .int .i64 2, .slice a145 n149 c146, .slice none 0 0, .slice none 0 0] 27 (0, 0)) :: ((b34, .cells #[.int .i64 n, .slice a27 n31 c28] 56 (0, 0)) :: ((b17, .cells #[.slice a18 metal2.length c19, .int .i64 at_2, .int .u32 turn2] 95 (0, 0)) :: (Lb29 ++ (Lb43 ++ (Lb49 ++ (Lb147 ++ (Lb328 ++ [])))))))) ∧ e1.sub [(6, .pointer (some ⟨b17, 0, none⟩)), (7, .pointer (some ⟨b34, 0, none⟩)), (8, .int .i64 n3), (9, .slice a41 n45 c42), (10, .slice a47 n51 c48), (13, .pointer (some ⟨b138, 0, none⟩)), (16, .slice a181 n184 n184), (23, .int .i64 w), (83, .slice a41 n45 c42), (84, .int .i64 (streets.length : Int)), (85, .int .i64 k4)] ∧ NlR K.w0.heap.size 24 3 1 (iE .i64) F1 a181 n184 n184 winds7 Lb328) FU (m0 kr ⟨winds, 1, Lb187, h326, rfl, rfl, (sc rfl (sc rfl (sc rfl (sc rfl (sc rfl (sc rfl (sc rfl (sc rfl (sc rfl (sc rfl (sc rfl (sn _)))))))))))), hz188⟩) ?_
         rintro fu9 e1 _ _ ⟨winds7, w, Lb328, r332, rfl, rfl, he333, hz329⟩
         refine shW_env _ he333 ?_; clear he333
         rcases fu9 with _ | fu9
         · rw [oyezlaw07_BookBlown_l9] at r332; cases r332
         rw [oyezlaw07_BookBlown_l9] at r332
         refine shW_seq (wsr (om rfl rfl ?_))
         refine ov (v_lssK rfl rfl) rfl ?_
         refine shO_nil ?_
         refine shW_condP rfl (fun c334 => ?_) (fun c334 => ?_)
         · have r335 := ite_t r332 c334; clear r332
           refine shW_skip ?_
           obtain ⟨winds8, h340, r341⟩ := b1_ok r335; clear r335
           refine shW_joinF (fun e1 F1 L1 => ∃ (Lb338 : LH), F322 = F1 ∧ L1 = ((b138, .cells #[.int .i64 (houses.length : Int), .int .i64 2, .slice a145 n149 c146, .slice none 0 0, .slice none 0 0] 27 (0, 0)) :: ((b34, .cells #[.int .i64 n, .slice a27 n31 c28] 56 (0, 0)) :: ((b17, .cells #[.slice a18 metal2.length c19, .int .i64 at_2, .int .u32 turn2] 95 (0, 0)) :: (Lb29 ++ (Lb43 ++ (Lb49 ++ (Lb147 ++ (Lb338 ++ [])))))))) ∧ e1.sub [(6, .pointer (some ⟨b17, 0, none⟩)), (7, .pointer (some ⟨b34, 0, none⟩)), (8, .int .i64 n3), (9, .slice a41 n45 c42), (10, .slice a47 n51 c48), (13, .pointer (some ⟨b138, 0, none⟩)), (16, .slice a181 n184 n184), (23, .int .i64 w), (83, .slice a41 n45 c42), (84, .int .i64 (streets.length : Int)), (85, .int .i64 k4)] ∧ NlR K.w0.heap.size 24 3 1 (iE .i64) F1 a181 n184 n184 winds8 Lb338) ?_ ?_
           · clear r341
             refine shW_block ?_
             refine wsr (om rfl rfl (om rfl rfl ?_))
             obtain ⟨g342, r343⟩ := gd_ok h340; clear h340
             refine ov (v_sub rfl rfl g342) rfl ?_
             obtain ⟨x6, g344, hx345, r346⟩ := ix_ok r343; clear r343
             have hn358 := (NlR.caps hz329).1
             refine shO_open (fC (fC (fC (fS (fS (fS (fS fP))))))) hz329 hx345 ?_; intro hs347 Lo348 Lc349 a350 n351 c352 Lb353 hh354 hO355 hz356 hI357
             refine kO (kf (fS (fS (fS fO))) (kf (fS (fS (fS fO))) (kf (fS (fS (fS fO))) kr))) ?_
             obtain ⟨b360, o361, c362, vs363, ha364, hs365, hle366, rfl, hl367, hc368⟩ := SlR.at hdE_ok hO355 (L := (b138, .cells #[.int .i64 (houses.length : Int), .int .i64 2, .slice a145 n149 c146, .slice none 0 0, .slice none 0 0] 27 (0, 0)) :: ((b34, .cells #[.int .i64 n, .slice a27 n31 c28] 56 (0, 0)) :: ((b17, .cells #[.slice a18 metal2.length c19, .int .i64 at_2, .int .u32 turn2] 95 (0, 0)) :: (Lo348 ++ (Lb353 ++ (Lc349 ++ (Lb29 ++ (Lb43 ++ (Lb49 ++ (Lb147 ++ [])))))))))) (fC (fC (fC fP))) g344.1 hh354
             refine ov (v_indexO Tryz.underlying49 Tryz.sizeOf24 rfl ha364 rfl (idxN hn358 g344)) rfl ?_
             refine ov (v_load Tryz.isAgg24 rfl hs365 (hc368 0 (by decide))) rfl ?_
             refine ov ((v_lenS Tryz.underlying24 rfl).i (SlR.lenI hz356)) rfl ?_
             refine om rfl rfl ?_
             refine shO_fold (p := fun X => NlG (w - 1 : Int).toNat (a350, n351, c352) x6 K.w0.heap.size 24 3 1 (iE .i64) F322 a181 n184 n184 winds7 X) (InH.take hI357 hO355 hh354 hx345) (pT ((fC (fC (fC fP))).trans (pA ((fC (fC (fC (fS fP)))).trans (pA pR)))) (lp (lp (ln rfl)))) ?_; intro Lb369 hz370
             refine kO (kf (fS fO) (kf (fS fO) (kf (fS fO) kr))) ?_
             refine shO_nil ?_
             refine shW_block ?_
             refine shW_lp (fun fu10 e1 F1 L1 => ∃ (tl7 : List Int) (k7 : Int), tl7.length = fu10 ∧ Lst x6 k7 tl7 ∧ ∃ (winds9 : List (List Int)) (Lb371 : LH), oyezlaw07_BookBlown_l10 w tl7 winds9 = some winds8 ∧ F322 = F1 ∧ L1 = ((b138, .cells #[.int .i64 (houses.length : Int), .int .i64 2, .slice a145 n149 c146, .slice none 0 0, .slice none 0 0] 27 (0, 0)) :: ((b34, .cells #[.int .i64 n, .slice a27 n31 c28] 56 (0, 0)) :: ((b17, .cells #[.slice a18 metal2.length c19, .int .i64 at_2, .int .u32 turn2] 95 (0, 0)) :: (Lb29 ++ (Lb43 ++ (Lb49 ++ (Lb147 ++ (Lb371 ++ (Lb353 ++ []))))))))) ∧ e1.sub [(6, .pointer (some ⟨b17, 0, none⟩)), (7, .pointer (some ⟨b34, 0, none⟩)), (8, .int .i64 n3), (9, .slice a41 n45 c42), (10, .slice a47 n51 c48), (13, .pointer (some ⟨b138, 0, none⟩)), (16, .slice a181 n184 n184), (23, .int .i64 w), (83, .slice a41 n45 c42), (84, .int .i64 (streets.length : Int)), (85, .int .i64 k4), (140, .slice a350 n351 c352), (141, .int .i64 (x6.length : Int)), (142, .int .i64 k7)] ∧ NlG (w - 1 : Int).toNat (a350, n351, c352) x6 K.w0.heap.size 24 3 1 (iE .i64) F1 a181 n184 n184 winds9 Lb371) _ (m0 (kc (kc (kc (kg (fS (fS fP)) (kg (fS (fS fP)) (kg (fS (fS fP)) (kg (fS (fS fP)) kr))))))) ⟨_, _, rfl, Lst.start _, winds7, Lb369, r346, rfl, rfl, (sc rfl (sc rfl (sc rfl (sc rfl (sc rfl (sc rfl (sc rfl (sc rfl (sc rfl (sc rfl (sc rfl (sc rfl (sc rfl (sc rfl (sn _))))))))))))))), hz370⟩) ?_
             rintro fu10 e1 _ _ ⟨tl7, k7, hn374, hk373, winds9, Lb371, r375, rfl, rfl, he376, hz372⟩
             refine shW_env _ he376 ?_; clear he376
             refine wsr ?_
             refine ov (v_lssK rfl rfl) rfl ?_
             refine shO_nil (shW_seq ?_)
             refine shW_condP rfl (fun c378 => ?_) (fun c378 => ?_)
             · obtain ⟨x7, tl8, rfl, hx380, g381, hk379⟩ := Lst.succ hk373 c378
               rw [oyezlaw07_BookBlown_l10] at r375
               refine shW_skip (shW_seq ?_)
               refine shW_block ?_
               refine wsr ?_
               obtain ⟨b382, o383, c384, vs385, ha386, hs387, hle388, rfl, hl389, hc390⟩ := SlR.at (iE_ok _) hz356 (L := (b138, .cells #[.int .i64 (houses.length : Int), .int .i64 2, .slice a145 n149 c146, .slice none 0 0, .slice none 0 0] 27 (0, 0)) :: ((b34, .cells #[.int .i64 n, .slice a27 n31 c28] 56 (0, 0)) :: ((b17, .cells #[.slice a18 metal2.length c19, .int .i64 at_2, .int .u32 turn2] 95 (0, 0)) :: (Lb29 ++ (Lb43 ++ (Lb49 ++ (Lb147 ++ (Lb371 ++ (Lb353 ++ []))))))))) (fC (fC (fC (fS (fS (fS (fS (fS fP)))))))) g381.1 hx380
               refine ov (v_indexO Tryz.underlying24 Tryz.sizeOf3 rfl ha386 rfl (SlR.idx hz356 g381)) rfl ?_
               refine ov (v_load Tryz.isAgg3 rfl hs387 (hc390 0 (by decide))) rfl ?_
               refine oa rfl rfl (nsr (om rfl rfl (om rfl rfl ?_)))
               obtain ⟨g391, r392⟩ := gd_ok r375; clear r375
               refine ov (v_add rfl rfl g391) rfl ?_
               refine ov (v_remT rfl rfl (by decide)) rfl ?_
               obtain ⟨x8, g393, hx394, r395⟩ := ix_ok r392; clear r392
               obtain ⟨g396, r397⟩ := gd_ok r395; clear r395
               have hn398 := gd_ne g393 g344 g396
               have hn410 := (NlG.caps hz372).1
               refine shO_openG (fC (fC (fC (fS (fS (fS (fS fP))))))) hz372 hn398 hx394 ?_; intro hs399 Lo400 Lc401 a402 n403 c404 Lb405 hh406 hO407 hz408 hI409
               refine kO (kf (fS (fS (fS fO))) (kf (fS (fS (fS fO))) (kf (fS (fS (fS fO))) kr))) ?_
               obtain ⟨b412, o413, c414, vs415, ha416, hs417, hle418, rfl, hl419, hc420⟩ := SlR.at hdE_ok hO407 (L := (b138, .cells #[.int .i64 (houses.length : Int), .int .i64 2, .slice a145 n149 c146, .slice none 0 0, .slice none 0 0] 27 (0, 0)) :: ((b34, .cells #[.int .i64 n, .slice a27 n31 c28] 56 (0, 0)) :: ((b17, .cells #[.slice a18 metal2.length c19, .int .i64 at_2, .int .u32 turn2] 95 (0, 0)) :: (Lo400 ++ (Lb405 ++ (Lc401 ++ (Lb29 ++ (Lb43 ++ (Lb49 ++ (Lb147 ++ (Lb353 ++ []))))))))))) (fC (fC (fC fP))) g393.1 hh406
               refine ov (v_indexO Tryz.underlying49 Tryz.sizeOf24 rfl ha416 rfl (idxN hn410 g393)) rfl ?_
               refine ov (v_load Tryz.isAgg24 rfl hs417 (hc420 0 (by decide))) rfl ?_
               refine om rfl rfl ?_
               obtain ⟨ok3, h421, r422⟩ := b1_ok r397; clear r397
               refine o_callT (Lt := Lb405 ++ []) (Lr := (b138, .cells #[.int .i64 (houses.length : Int), .int .i64 2, .slice a145 n149 c146, .slice none 0 0, .slice none 0 0] 27 (0, 0)) :: ((b34, .cells #[.int .i64 n, .slice a27 n31 c28] 56 (0, 0)) :: ((b17, .cells #[.slice a18 metal2.length c19, .int .i64 at_2, .int .u32 turn2] 95 (0, 0)) :: (Lo400 ++ (Lc401 ++ (Lb29 ++ (Lb43 ++ (Lb49 ++ (Lb147 ++ (Lb353 ++ [])))))))))) rfl Tryz.call17 rfl rfl rfl (pT ((fC (fC (fC (fS fP)))).trans (pA pR)) (lp (ln rfl))) (fun F2 h2 h3 => by rw [(SlR.caps hz408).1]; exact slices_Contains_int_int_w (hz408.row (iE_ok _) h2 (fun p hp => h3 p (List.mem_append_left _ hp))) h421) ?_
               refine shO_fold (p := fun X => NlG (w - 1 : Int).toNat (a350, n351, c352) x6 K.w0.heap.size 24 3 1 (iE .i64) F322 a181 n184 n184 winds9 X) (InK.back1 hI409 hO407 hh406 hz408 hx394) (pT ((fC (fC (fC fP))).trans (pA ((fC (fC (fC fP))).trans (pA ((fC (fC (fC fP))).trans (pA pR)))))) (lp (lp (lp (ln rfl))))) ?_; intro Lb423 hz424
               refine kO (kf (fS fO) (kf (fS fO) (kf (fS fO) kr))) ?_
               refine shO_nil ?_
               refine shW_cond rfl (fun c425 => ?_) (fun c425 => ?_)
               · have r426 := bt r422 c425; clear r422
                 refine shW_region (om rfl rfl (om rfl rfl (om rfl rfl (om rfl rfl ?_))))
                 obtain ⟨x9, g427, hx428, r429⟩ := ix_ok r426; clear r426
                 obtain ⟨g430, r431⟩ := gd_ok r429; clear r429
                 have hn432 := gd_ne g427 g344 g430
                 have hn444 := (NlG.caps hz424).1
                 refine shO_openG (fC (fC (fC fP))) hz424 hn432 hx428 ?_; intro hs433 Lo434 Lc435 a436 n437 c438 Lb439 hh440 hO441 hz442 hI443
                 refine kO (kf (fS (fS (fS fO))) (kf (fS (fS (fS fO))) (kf (fS (fS (fS fO))) kr))) ?_
                 obtain ⟨b446, o447, c448, vs449, ha450, hs451, hle452, rfl, hl453, hc454⟩ := SlR.at hdE_ok hO441 (L := (b138, .cells #[.int .i64 (houses.length : Int), .int .i64 2, .slice a145 n149 c146, .slice none 0 0, .slice none 0 0] 27 (0, 0)) :: ((b34, .cells #[.int .i64 n, .slice a27 n31 c28] 56 (0, 0)) :: ((b17, .cells #[.slice a18 metal2.length c19, .int .i64 at_2, .int .u32 turn2] 95 (0, 0)) :: (Lo434 ++ (Lb439 ++ (Lc435 ++ (Lb29 ++ (Lb43 ++ (Lb49 ++ (Lb147 ++ (Lb353 ++ []))))))))))) (fC (fC (fC fP))) g427.1 hh440
                 refine ov (v_indexO Tryz.underlying49 Tryz.sizeOf24 rfl ha450 rfl (idxN hn444 g427)) rfl ?_
                 refine ov (v_load Tryz.isAgg24 rfl hs451 (hc454 0 (by decide))) rfl ?_
                 refine om rfl rfl ?_
                 refine o_buildSlice (cs := #[.int .i64 x7]) rfl rfl (buildSlice_all slt_24 [.int .i64 x7] rfl (by decide) (by simp [Value.cells]) (by decide)) ?_; intro b455 hb455
                 obtain ⟨l5, h456, g457, r458⟩ := ap_ok r431; clear r431
                 refine o_appZ (xs := x9) (ys := [x7]) (zs := l5) rfl slt_24 rfl rfl (Nat.le_refl _) (fun _ => .c (.c (.c (.c (.s .h))))) hz442 (SrcR.box (vss := [[.int .i64 x7]]) (ys := [x7]) 0 rfl (iE_ok _) (.cons rfl .nil) rfl rfl) h456 g457 (by decide) ?_; intro a459 n463 c460 Lb461 hz462
                 refine kO (kd kr) ?_
                 obtain ⟨b465, o466, c467, vs468, ha469, hs470, hle471, rfl, hl472, hc473⟩ := SlR.at hdE_ok hO441 (L := (b138, .cells #[.int .i64 (houses.length : Int), .int .i64 2, .slice a145 n149 c146, .slice none 0 0, .slice none 0 0] 27 (0, 0)) :: ((b34, .cells #[.int .i64 n, .slice a27 n31 c28] 56 (0, 0)) :: ((b17, .cells #[.slice a18 metal2.length c19, .int .i64 at_2, .int .u32 turn2] 95 (0, 0)) :: (Lo434 ++ (Lb461 ++ (Lc435 ++ (Lb29 ++ (Lb43 ++ (Lb49 ++ (Lb147 ++ (Lb353 ++ []))))))))))) (fC (fC (fC fP))) g427.1 hh440
                 refine ov (v_indexO Tryz.underlying49 Tryz.sizeOf24 rfl ha469 rfl (idxN hn444 g427)) rfl ?_
                 refine o_storeZ (zs := hs433.set (w : Int).toNat (a459, n463, c460)) (u := (a459, n463, c460)) Tryz.sizeOf24 hdE_ok rfl ha469 rfl rfl (fun _ => .c (.c (.c .h))) hO441 rfl (idxH hn444 hO441 g427) ?_; intro Lo474 hO475
                 obtain ⟨winds10, h476, r477⟩ := bv_ok r458; clear r458
                 refine shO_fold (p := fun X => NlG (w - 1 : Int).toNat (a350, n351, c352) x6 K.w0.heap.size 24 3 1 (iE .i64) F322 a181 n184 n184 winds10 X) (InK.back hI443 hO475 hz462 h476) (pT ((fC (fC (fC fP))).trans (pA ((fC (fC (fC fP))).trans (pA ((fC (fC (fC fP))).trans (pA pR)))))) (lp (lp (lp (ln rfl))))) ?_; intro Lb478 hz479
                 refine kO (kf (fS fO) (kf (fS fO) (kf (fS fO) kr))) ?_
                 refine shO_nil (inBlock_n (id := 11) (shW_region ?_))
                 refine ov (v_add rfl rfl (Lst.r64 hk373 c378 (SlR.llt hz356))) rfl ?_
                 refine om rfl rfl (shO_nil ?_)
                 subst hn374; exact le (kc (kc (kc (kg (fS fP) (kg (fS fP) (kg (fS fP) (kg (fS fP) kr))))))) ⟨_, _, rfl, hk379, winds10, Lb478, r477, rfl, rfl, (sc rfl (sc rfl (sc rfl (sc rfl (sc rfl (sc rfl (sc rfl (sc rfl (sc rfl (sc rfl (sc rfl (sc rfl (sc rfl (sc rfl (sn _))))))))))))))), hz479⟩
               have r480 := bf r422 c425; clear r422
               refine shW_skip (inBlock_n (id := 11) (shW_region ?_))
               refine ov (v_add rfl rfl (Lst.r64 hk373 c378 (SlR.llt hz356))) rfl ?_
               refine om rfl rfl (shO_nil ?_)
               subst hn374; exact le (kc (kc (kc (kg (fS fP) (kg (fS fP) (kg (fS fP) (kg (fS fP) kr))))))) ⟨_, _, rfl, hk379, winds9, Lb423, r480, rfl, rfl, (sc rfl (sc rfl (sc rfl (sc rfl (sc rfl (sc rfl (sc rfl (sc rfl (sc rfl (sc rfl (sc rfl (sc rfl (sc rfl (sc rfl (sn _))))))))))))))), hz424⟩
             obtain rfl := Lst.zero hk373 c378
             rw [oyezlaw07_BookBlown_l10] at r375
             refine shW_exit (andThen_exit (andThen_exit ?_))
             refine inBlock_exit ?_
             refine inBlock_n (id := 9) ?_
             refine shmz_fold (p := fun X => NlR K.w0.heap.size 24 3 1 (iE .i64) F322 a181 n184 n184 winds9 X) (NlG.give hz372 hz356) (pT ((fC (fC (fC (fS (fS (fS (fS fP))))))).trans (pA ((fC (fC (fC (fS (fS (fS (fS fP))))))).trans (pA pR)))) (lp (lp (ln rfl)))) ?_; intro Lb481 hz482
             obtain rfl := inj1 r375
             exact mf (kf (fS fO) (kf (fS fO) (kf (fS fO) (kg (fS fP) (kg (fS fP) (kg (fS fP) (kg (fS fP) kr))))))) ⟨Lb481, rfl, rfl, (sc rfl (sc rfl (sc rfl (sc rfl (sc rfl (sc rfl (sc rfl (sc rfl (sc rfl (sc rfl (sc rfl (sn _)))))))))))), hz482⟩
           rintro e1 _ _ ⟨Lb338, rfl, rfl, he483, hz339⟩
           refine shW_env _ he483 ?_; clear he483
           refine shW_region (om rfl rfl ?_)
           obtain ⟨g484, r485⟩ := gd_ok r341; clear r341
           refine ov (v_add rfl rfl g484) rfl ?_
           refine oa rfl rfl (shO_nil ?_)
           exact le kr ⟨winds8, w + 2, Lb338, r485, rfl, rfl, (sc rfl (sc rfl (sc rfl (sc rfl (sc rfl (sc rfl (sc rfl (sc rfl (sc rfl (sc rfl (sc rfl (sn _)))))))))))), hz339⟩
         have r486 := ite_f r332 c334; clear r332
         refine shW_exit (andThen_exit (andThen_exit ?_))
         refine inBlock_exit ?_
         obtain rfl := inj1 r486
         exact mi kr ⟨Lb328, rfl, rfl, (sc rfl (sc rfl (sc rfl (sc rfl (sc rfl (sc rfl (sc rfl (sc rfl (sc rfl (sc rfl (sn _))))))))))), hz329⟩
       rintro e1 _ _ ⟨Lb324, rfl, rfl, he487, hz325⟩
       refine shW_env _ he487 ?_; clear he487
       refine shW_region ?_
       refine ov (v_fieldAddr fa_27_2 rfl) rfl ?_
       refine ov (v_load Tryz.isAgg23 rfl (Has.own 0 rfl) rfl) rfl ?_
       refine om rfl rfl ?_
       refine o_buildSlice (cs := #[.slice a181 n184 n184]) rfl rfl (buildSlice_all slt_23 [.slice a181 n184 n184] rfl (by decide) (by simp [Value.cells]) (by decide)) ?_; intro b488 hb488
       obtain rfl := (NlR.caps hz325).1
       refine shO_freezeN (Nat.le_refl _) (iE_ok _) (fC (fC (fC (fC (fS (fS (fS (fS fP)))))))) hz325 ?_; intro F489 hF490 h491
       replace hz148 := hz148.mono (slE_ok (slE_ok (iE_ok _))) hF490
       obtain ⟨b, h492, g493, r494⟩ := ap_ok r327; clear r327
       refine o_appZ (xs := b_hears2) (ys := [winds6]) (zs := b) rfl slt_23 rfl rfl (Nat.le_refl _) (fun _ => .c (.c (.c (.c (.s (.s (.s .h))))))) hz148 (SrcR.box (vss := [[.slice a181 winds6.length winds6.length]]) (ys := [winds6]) 0 rfl (slE_ok (slE_ok (iE_ok _))) (.cons ⟨_, _, rfl, h491⟩ .nil) rfl rfl) h492 g493 (by decide) ?_; intro a495 n499 c496 Lb497 hz498
       refine kO (kd kr) ?_
       refine ov (v_fieldAddr fa_27_2 rfl) rfl ?_
       refine o_store (i := 0) Tryz.sizeOf23 rfl rfl rfl rfl (Nat.le_of_ble_eq_true rfl) ?_
       refine shO_L (L' := (b138, .cells #[.int .i64 (houses.length : Int), .int .i64 2, .slice a495 n499 c496, .slice none 0 0, .slice none 0 0] 27 (0, 0)) :: ((b34, .cells #[.int .i64 n, .slice a27 n31 c28] 56 (0, 0)) :: ((b17, .cells #[.slice a18 metal2.length c19, .int .i64 at_2, .int .u32 turn2] 95 (0, 0)) :: (Lb29 ++ (Lb43 ++ (Lb49 ++ (Lb497 ++ []))))))) rfl ?_
       refine shO_nil (inBlock_n (id := 3) ?_)
       exact mi kr ⟨b, a495, n499, c496, Lb497, r494, (hF323.trans hF490), rfl, (sc rfl (sc rfl (sc rfl (sc rfl (sc rfl (sc rfl (sc rfl (sc rfl (sc rfl (sn _)))))))))), hz498⟩
     rintro e1 F503 _ ⟨b_hears3, a162, n166, c163, Lb164, r501, hF504, rfl, he502, hz165⟩
     refine shW_env _ he502 ?_; clear he502
     replace hz44 := hz44.mono (iE_ok _) hF504
     rw [oyezlaw07_BookBlown_j4] at r501
     refine shW_region ?_
     refine ov (v_add rfl rfl (Lst.r64 hk151 c158 (SlR.llt hz44))) rfl ?_
     refine om rfl rfl (shO_nil ?_)
     subst hn152; exact le kr ⟨_, _, rfl, hk159, b_hears3, a162, n166, c163, Lb164, r501, (hF156.trans hF504), rfl, (sc rfl (sc rfl (sc rfl (sc rfl (sc rfl (sc rfl (sc rfl (sc rfl (sc rfl (sn _)))))))))), hz165⟩
   obtain rfl := Lst.zero hk151 c158
   rw [oyezlaw07_BookBlown_l3] at r153
   refine shW_exit (andThen_exit (andThen_exit ?_))
   refine inBlock_exit ?_
   exact mi kr ⟨b_hears2, a145, n149, c146, Lb147, r153, hF156, rfl, (sc rfl (sc rfl (sc rfl (sc rfl (sc rfl (sc rfl (sn _))))))), hz148⟩
 rintro e1 F507 _ ⟨b_hears, a139, n143, c140, Lb141, r505, hF508, rfl, he506, hz142⟩
 refine shW_env _ he506 ?_; clear he506
 replace h20 := h20.mono (iE_ok _) hF508
 replace hz30 := hz30.mono (iE_ok _) hF508
 replace hz44 := hz44.mono (iE_ok _) hF508
 replace hz50 := hz50.mono (iE_ok _) hF508
 rw [oyezlaw07_BookBlown_j2] at r505
 obtain ⟨q_at, q_turn, b_readings, h515, r516⟩ := b3_ok r505; clear r505
 refine shW_join (fun e1 F1 L1 => ∃ (a509 : Option Addr) (n513 : Nat) (c510 : Nat) (Lb511 : LH), FExt F507 F1 ∧ L1 = ((b17, .cells #[.slice a18 metal2.length c19, .int .i64 q_at, .int .u32 q_turn] 95 (0, 0)) :: ((b138, .cells #[.int .i64 (houses.length : Int), .int .i64 2, .slice a139 n143 c140, .slice a509 n513 c510, .slice none 0 0] 27 (0, 0)) :: ((b34, .cells #[.int .i64 n, .slice a27 n31 c28] 56 (0, 0)) :: (Lb29 ++ (Lb43 ++ (Lb49 ++ (Lb141 ++ (Lb511 ++ [])))))))) ∧ e1.sub [(6, .pointer (some ⟨b17, 0, none⟩)), (7, .pointer (some ⟨b34, 0, none⟩)), (8, .int .i64 n3), (9, .slice a41 n45 c42), (10, .slice a47 n51 c48), (13, .pointer (some ⟨b138, 0, none⟩))] ∧ SlR K.w0.heap.size 3 1 (iE .i64) F1 a509 n513 c510 b_readings Lb511) ?_ ?_
 · clear r516
   refine wsr (om rfl rfl ?_)
   obtain ⟨n5, at_5, turn5, h517, r518⟩ := b3_ok h515; clear h515
   refine o_callG (Lb := [(b17, .cells #[.slice a18 metal2.length c19, .int .i64 at_2, .int .u32 turn2] 95 (0, 0))]) (Lr := (b138, .cells #[.int .i64 (houses.length : Int), .int .i64 2, .slice a139 n143 c140, .slice none 0 0, .slice none 0 0] 27 (0, 0)) :: ((b34, .cells #[.int .i64 n, .slice a27 n31 c28] 56 (0, 0)) :: (Lb29 ++ (Lb43 ++ (Lb49 ++ (Lb141 ++ [])))))) rfl Tryz.call28 rfl rfl rfl (((fC (fC fO)).trans (pC pR))) (oyezkit_Bell_Strike_w h20 h517) ?_; rintro _ F519 _ hF520 hd522 hn521 ⟨rfl, rfl⟩
   refine shO_L (lb (ln rfl)) ?_
   refine om rfl rfl (shO_nil ?_)
   refine shW_block ?_
   obtain ⟨g529, r530⟩ := gd_ok r518; clear r518
   refine shW_lp (fun fu11 e1 F1 L1 => ∃ (k8 : Int), Ctr 0 n5 k8 fu11 ∧ ∃ (b_readings2 : List Int) (a523 : Option Addr) (n527 : Nat) (c524 : Nat) (Lb525 : LH), oyezlaw07_BookBlown_l11 at_5 turn5 fu11 b_readings2 = some (q_at, q_turn, b_readings) ∧ F519 = F1 ∧ L1 = ((b17, .cells #[.slice a18 metal2.length c19, .int .i64 at_5, .int .u32 turn5] 95 (0, 0)) :: ((b138, .cells #[.int .i64 (houses.length : Int), .int .i64 2, .slice a139 n143 c140, .slice a523 n527 c524, .slice none 0 0] 27 (0, 0)) :: ((b34, .cells #[.int .i64 n, .slice a27 n31 c28] 56 (0, 0)) :: (Lb29 ++ (Lb43 ++ (Lb49 ++ (Lb141 ++ (Lb525 ++ [])))))))) ∧ e1.sub [(6, .pointer (some ⟨b17, 0, none⟩)), (7, .pointer (some ⟨b34, 0, none⟩)), (8, .int .i64 n3), (9, .slice a41 n45 c42), (10, .slice a47 n51 c48), (13, .pointer (some ⟨b138, 0, none⟩)), (173, .int .i64 n5), (174, .int .i64 k8)] ∧ SlR K.w0.heap.size 3 1 (iE .i64) F1 a523 n527 c524 b_readings2 Lb525) _ (m0 (kc (kc (kc (ka (ka (ka (ka (ke kr)))))))) ⟨_, Ctr.start _ _, [], none, 0, 0, [], r530, rfl, rfl, (sc rfl (sc rfl (sc rfl (sc rfl (sc rfl (sc rfl (sc rfl (sc rfl (sn _))))))))), SlR.nil _ _ _ _ _⟩) ?_
   rintro fu11 e1 _ _ ⟨k8, hk531, b_readings2, a523, n527, c524, Lb525, r533, rfl, rfl, he534, hz526⟩
   refine shW_env _ he534 ?_; clear he534
   refine wsr ?_
   refine ov (v_lssK rfl rfl) rfl ?_
   refine shO_nil (shW_seq ?_)
   refine shW_condP rfl (fun c536 => ?_) (fun c536 => ?_)
   · obtain ⟨fu11, rfl, hk537⟩ := Ctr.succ hk531 c536
     rw [oyezlaw07_BookBlown_l11] at r533
     refine shW_skip (shW_seq ?_)
     refine shW_block ?_
     refine shW_region ?_
     refine ov (v_fieldAddr fa_27_3 rfl) rfl ?_
     refine ov (v_load Tryz.isAgg24 rfl (Has.own 1 rfl) rfl) rfl ?_
     refine o_buildSlice (cs := #[.int .i64 (-1)]) rfl rfl (buildSlice_all slt_24 [.int .i64 (-1)] rfl (by decide) (by simp [Value.cells]) (by decide)) ?_; intro b538 hb538
     obtain ⟨b_2, h539, g540, r541⟩ := ap_ok r533; clear r533
     refine o_appZ (xs := b_readings2) (ys := [-1]) (zs := b_2) rfl slt_24 rfl rfl (Nat.le_refl _) (fun _ => .c (.c (.c (.c (.s (.s (.s (.s .h)))))))) hz526 (SrcR.box (vss := [[.int .i64 (-1)]]) (ys := [-1]) 0 rfl (iE_ok _) (.cons rfl .nil) rfl rfl) h539 g540 (by decide) ?_; intro a542 n546 c543 Lb544 hz545
     refine kO (kd kr) ?_
     refine ov (v_fieldAddr fa_27_3 rfl) rfl ?_
     refine o_store (i := 1) Tryz.sizeOf24 rfl rfl rfl rfl (Nat.le_of_ble_eq_true rfl) ?_
     refine shO_L (L' := (b17, .cells #[.slice a18 metal2.length c19, .int .i64 at_5, .int .u32 turn5] 95 (0, 0)) :: ((b138, .cells #[.int .i64 (houses.length : Int), .int .i64 2, .slice a139 n143 c140, .slice a542 n546 c543, .slice none 0 0] 27 (0, 0)) :: ((b34, .cells #[.int .i64 n, .slice a27 n31 c28] 56 (0, 0)) :: (Lb29 ++ (Lb43 ++ (Lb49 ++ (Lb141 ++ (Lb544 ++ [])))))))) rfl ?_
     refine shO_nil (inBlock_n (id := 13) (shW_region ?_))
     refine ov (v_add rfl rfl (Ctr.r64 hk531 c536 g529)) rfl ?_
     refine om rfl rfl (shO_nil ?_)
     exact le kr ⟨_, hk537, b_2, a542, n546, c543, Lb544, r541, rfl, rfl, (sc rfl (sc rfl (sc rfl (sc rfl (sc rfl (sc rfl (sc rfl (sc rfl (sn _))))))))), hz545⟩
   obtain rfl := Ctr.zero hk531 c536
   rw [oyezlaw07_BookBlown_l11] at r533
   refine shW_exit (andThen_exit (andThen_exit ?_))
   refine inBlock_exit ?_
   obtain ⟨rfl, rfl, rfl⟩ := inj3 r533
   exact mi kr ⟨a523, n527, c524, Lb525, hF520, rfl, (sc rfl (sc rfl (sc rfl (sc rfl (sc rfl (sc rfl (sn _))))))), hz526⟩
 rintro e1 F549 _ ⟨a509, n513, c510, Lb511, hF550, rfl, he548, hz512⟩
 refine shW_env _ he548 ?_; clear he548
 replace h20 := h20.mono (iE_ok _) hF550
 replace hz30 := hz30.mono (iE_ok _) hF550
 replace hz44 := hz44.mono (iE_ok _) hF550
 replace hz50 := hz50.mono (iE_ok _) hF550
 replace hz142 := hz142.mono (slE_ok (slE_ok (iE_ok _))) hF550
 obtain ⟨b_cries, h557, r558⟩ := b1_ok r516; clear r516
 refine shW_join (fun e1 F1 L1 => ∃ (a551 : Option Addr) (n555 : Nat) (c552 : Nat) (Lb553 : LH), FExt F549 F1 ∧ L1 = ((b138, .cells #[.int .i64 (houses.length : Int), .int .i64 2, .slice a139 n143 c140, .slice a509 n513 c510, .slice a551 n555 c552] 27 (0, 0)) :: ((b34, .cells #[.int .i64 n, .slice a27 n31 c28] 56 (0, 0)) :: (Lb29 ++ (Lb43 ++ (Lb49 ++ (Lb141 ++ (Lb511 ++ (Lb553 ++ [])))))))) ∧ e1.sub [(7, .pointer (some ⟨b34, 0, none⟩)), (8, .int .i64 n3), (9, .slice a41 n45 c42), (10, .slice a47 n51 c48), (13, .pointer (some ⟨b138, 0, none⟩))] ∧ SlR K.w0.heap.size 67 3 (prE (iE .i64) (prE (iE .i64) (iE .i64))) F1 a551 n555 c552 b_cries Lb553) ?_ ?_
 · clear r558
   refine wsr (om rfl rfl ?_)
   obtain ⟨n6, at_6, turn6, h559, r560⟩ := b3_ok h557; clear h557
   refine o_callG (Lb := [(b17, .cells #[.slice a18 metal2.length c19, .int .i64 q_at, .int .u32 q_turn] 95 (0, 0))]) (Lr := (b138, .cells #[.int .i64 (houses.length : Int), .int .i64 2, .slice a139 n143 c140, .slice a509 n513 c510, .slice none 0 0] 27 (0, 0)) :: ((b34, .cells #[.int .i64 n, .slice a27 n31 c28] 56 (0, 0)) :: (Lb29 ++ (Lb43 ++ (Lb49 ++ (Lb141 ++ (Lb511 ++ []))))))) rfl Tryz.call28 rfl rfl rfl (pR) (oyezkit_Bell_Strike_w h20 h559) ?_; rintro _ F561 _ hF562 hd564 hn563 ⟨rfl, rfl⟩
   replace h20 := h20.mono (iE_ok _) hF562
   replace hz44 := hz44.mono (iE_ok _) hF562
   replace hz512 := hz512.mono (iE_ok _) hF562
   refine shO_L (lb (ln rfl)) ?_
   refine om rfl rfl (shO_nil ?_)
   refine shW_block ?_
   obtain ⟨g571, r572⟩ := gd_ok r560; clear r560
   refine shW_lp (fun fu12 e1 F1 L1 => ∃ (k9 : Int), Ctr 0 n6 k9 fu12 ∧ ∃ (q_at2 : Int) (q_turn2 : Int) (b_cries2 : List (Int × Int × Int)) (a565 : Option Addr) (n569 : Nat) (c566 : Nat) (Lb567 : LH), oyezlaw07_BookBlown_l12 metal2 streets b_readings fu12 q_at2 q_turn2 b_cries2 = some b_cries ∧ FExt F561 F1 ∧ L1 = ((b17, .cells #[.slice a18 metal2.length c19, .int .i64 q_at2, .int .u32 q_turn2] 95 (0, 0)) :: ((b138, .cells #[.int .i64 (houses.length : Int), .int .i64 2, .slice a139 n143 c140, .slice a509 n513 c510, .slice a565 n569 c566] 27 (0, 0)) :: ((b34, .cells #[.int .i64 n, .slice a27 n31 c28] 56 (0, 0)) :: (Lb29 ++ (Lb43 ++ (Lb49 ++ (Lb141 ++ (Lb511 ++ (Lb567 ++ []))))))))) ∧ e1.sub [(6, .pointer (some ⟨b17, 0, none⟩)), (7, .pointer (some ⟨b34, 0, none⟩)), (8, .int .i64 n3), (9, .slice a41 n45 c42), (10, .slice a47 n51 c48), (13, .pointer (some ⟨b138, 0, none⟩)), (183, .int .i64 n6), (184, .int .i64 k9)] ∧ SlR K.w0.heap.size 67 3 (prE (iE .i64) (prE (iE .i64) (iE .i64))) F1 a565 n569 c566 b_cries2 Lb567) _ (m0 (kc (kc (kc (ka (ka (ka (ka (ka (ke kr))))))))) ⟨_, Ctr.start _ _, at_6, turn6, [], none, 0, 0, [], r572, FExt.refl _, rfl, (sc rfl (sc rfl (sc rfl (sc rfl (sc rfl (sc rfl (sc rfl (sc rfl (sn _))))))))), SlR.nil _ _ _ _ _⟩) ?_
   rintro fu12 e1 F577 _ ⟨k9, hk573, q_at2, q_turn2, b_cries2, a565, n569, c566, Lb567, r575, hF578, rfl, he576, hz568⟩
   refine shW_env _ he576 ?_; clear he576
   replace h20 := h20.mono (iE_ok _) hF578
   replace hz44 := hz44.mono (iE_ok _) hF578
   replace hz512 := hz512.mono (iE_ok _) hF578
   refine wsr ?_
   refine ov (v_lssK rfl rfl) rfl ?_
   refine shO_nil (shW_seq ?_)
   refine shW_condP rfl (fun c580 => ?_) (fun c580 => ?_)
   · obtain ⟨fu12, rfl, hk581⟩ := Ctr.succ hk573 c580
     rw [oyezlaw07_BookBlown_l12] at r575
     refine shW_skip (shW_seq ?_)
     refine shW_block ?_
     refine shW_drawM [(.still, 0), (.still, 1), (.still, 2), (.still, 3), (.still, 4), (.still, 5), (.still, 6), (.still, 8), (.still, 9), (.still, 10), (.still, 11), (.seq, 7), (.seq, 12), (.still, 13), (.seq, 14), (.seq, 15), (.still, 16), (.seq, 17)] (by kernel_rfl) (by kernel_rfl) (trivial) (by rfl) (by kernel_rfl) ?_
     refine shM_v (v := .pointer (some ⟨b138, 4, none⟩)) (ek := [(13, .pointer (some ⟨b138, 0, none⟩))]) (Ls := []) rfl rfl rfl rfl ((sc rfl (sn _))) (by kernel_rfl) sm (fun H F' L' hF' hL' => v_fieldAddr fa_27_4 rfl) ?_
     refine shM_v (v := .slice a565 n569 c566) (ek := [(186, .pointer (some ⟨b138, 4, none⟩))]) (Ls := [(b138, .cells #[.int .i64 (houses.length : Int), .int .i64 2, .slice a139 n143 c140, .slice a509 n513 c510, .slice a565 n569 c566] 27 (0, 0))]) rfl rfl rfl rfl ((sc rfl (sn _))) (by kernel_rfl) (s0 (s1 (s2 (s1 (s3 (s3 (s3 (s3 (s3 (s3 sr)))))))))) (fun H F' L' hF' hL' => v_load Tryz.isAgg25 rfl ((Has.own 0 rfl).ext hF' hL') rfl) ?_
     refine shM_v (v := .pointer (some ⟨b17, 0, none⟩)) (ek := [(6, .pointer (some ⟨b17, 0, none⟩))]) (Ls := []) rfl rfl rfl rfl ((sc rfl (sn _))) (by kernel_rfl) sm (fun H F' L' hF' hL' => v_move rfl) ?_
     refine shM_v (v := .pointer (some ⟨b138, 3, none⟩)) (ek := [(13, .pointer (some ⟨b138, 0, none⟩))]) (Ls := []) rfl rfl rfl rfl ((sc rfl (sn _))) (by kernel_rfl) sm (fun H F' L' hF' hL' => v_fieldAddr fa_27_3 rfl) ?_
     refine shM_v (v := .slice a509 n513 c510) (ek := [(189, .pointer (some ⟨b138, 3, none⟩))]) (Ls := [(b138, .cells #[.int .i64 (houses.length : Int), .int .i64 2, .slice a139 n143 c140, .slice a509 n513 c510, .slice a565 n569 c566] 27 (0, 0))]) rfl rfl rfl rfl ((sc rfl (sn _))) (by kernel_rfl) (s0 (s1 (s2 (s1 (s3 (s3 (s3 (s3 (s3 (s3 sr)))))))))) (fun H F' L' hF' hL' => v_load Tryz.isAgg24 rfl ((Has.own 0 rfl).ext hF' hL') rfl) ?_
     refine shM_v (v := .int .i64 (b_readings.length : Int)) (ek := [(190, .slice a509 n513 c510)]) (Ls := []) rfl rfl rfl rfl ((sc rfl (sn _))) (by kernel_rfl) sm (fun H F' L' hF' hL' => (v_lenS Tryz.underlying24 rfl).i (SlR.lenI hz512)) ?_
     obtain ⟨g582, r583⟩ := gd_ok r575; clear r575
     refine shM_v (v := .int .i64 ((b_readings.length : Int) - 1)) (ek := [(191, .int .i64 (b_readings.length : Int))]) (Ls := []) rfl rfl rfl rfl ((sc rfl (sn _))) (by kernel_rfl) sm (fun H F' L' hF' hL' => v_sub rfl rfl g582) ?_
     refine shM_v (v := .pointer (some ⟨b17, 0, none⟩)) (ek := [(6, .pointer (some ⟨b17, 0, none⟩))]) (Ls := []) rfl rfl rfl rfl ((sc rfl (sn _))) (by kernel_rfl) sm (fun H F' L' hF' hL' => v_move rfl) ?_
     refine shM_v (v := .slice a41 n45 c42) (ek := [(9, .slice a41 n45 c42)]) (Ls := []) rfl rfl rfl rfl ((sc rfl (sn _))) (by kernel_rfl) sm (fun H F' L' hF' hL' => v_move rfl) ?_
     refine shM_v (v := .int .i64 (streets.length : Int)) (ek := [(195, .slice a41 n45 c42)]) (Ls := []) rfl rfl rfl rfl ((sc rfl (sn _))) (by kernel_rfl) sm (fun H F' L' hF' hL' => (v_lenS Tryz.underlying24 rfl).i (SlR.lenI hz44)) ?_
     obtain ⟨g584, r585⟩ := gd_ok r583; clear r583
     refine shM_v (v := .int .i64 ((streets.length : Int) - 1)) (ek := [(196, .int .i64 (streets.length : Int))]) (Ls := []) rfl rfl rfl rfl ((sc rfl (sn _))) (by kernel_rfl) sm (fun H F' L' hF' hL' => v_sub rfl rfl g584) ?_
     refine ⟨_, [(188, .pointer (some ⟨b17, 0, none⟩)), (192, .int .i64 ((b_readings.length : Int) - 1))], rfl, rfl, (sc rfl (sc rfl (sn _))), by kernel_rfl, ?_⟩; intro H
     obtain ⟨n7, at_7, turn7, h586, r587⟩ := b3_ok r585; clear r585
     refine o_callG (Lb := [(b17, .cells #[.slice a18 metal2.length c19, .int .i64 q_at2, .int .u32 q_turn2] 95 (0, 0))]) (Lr := (b138, .cells #[.int .i64 (houses.length : Int), .int .i64 2, .slice a139 n143 c140, .slice a509 n513 c510, .slice a565 n569 c566] 27 (0, 0)) :: ((b34, .cells #[.int .i64 n, .slice a27 n31 c28] 56 (0, 0)) :: (Lb29 ++ (Lb43 ++ (Lb49 ++ (Lb141 ++ (Lb511 ++ (Lb567 ++ [])))))))) rfl Tryz.call8 rfl rfl rfl (pR) (oyezkit_Bell_Stroke_w h20 h586) ?_; rintro _ F588 _ hF589 hd591 hn590 ⟨rfl, rfl⟩
     replace h20 := h20.mono (iE_ok _) hF589
     replace hz568 := hz568.mono (prE_ok (iE_ok _) (prE_ok (iE_ok _) (iE_ok _))) hF589
     refine shO_L (lb (ln rfl)) ?_
     refine shO_nil ⟨_, rfl, hF589, [11, 10, 9, 8, 1, 0], by kernel_rfl, .inl (.inr (fun d h => by cases h; rfl)), (List.forall_mem_cons.2 ⟨sm, (List.forall_mem_cons.2 ⟨sm, (List.forall_mem_cons.2 ⟨sm, (List.forall_mem_cons.2 ⟨sm, (List.forall_mem_cons.2 ⟨s0 (s1 (s2 (s1 (s3 (s3 (s3 (s3 (s3 (s3 sr))))))))), (List.forall_mem_cons.2 ⟨sm, (fun _ h => absurd h List.not_mem_nil)⟩)⟩)⟩)⟩)⟩)⟩), ?_⟩
     refine ⟨_, [(194, .pointer (some ⟨b17, 0, none⟩)), (197, .int .i64 ((streets.length : Int) - 1))], rfl, rfl, (sc rfl (sc rfl (sn _))), by kernel_rfl, ?_⟩; intro H
     obtain ⟨n8, at_8, turn8, h592, r593⟩ := b3_ok r587; clear r587
     refine o_callG (Lb := [(b17, .cells #[.slice a18 metal2.length c19, .int .i64 at_7, .int .u32 turn7] 95 (0, 0))]) (Lr := (b138, .cells #[.int .i64 (houses.length : Int), .int .i64 2, .slice a139 n143 c140, .slice a509 n513 c510, .slice a565 n569 c566] 27 (0, 0)) :: ((b34, .cells #[.int .i64 n, .slice a27 n31 c28] 56 (0, 0)) :: (Lb29 ++ (Lb43 ++ (Lb49 ++ (Lb141 ++ (Lb511 ++ (Lb567 ++ [])))))))) rfl Tryz.call8 rfl rfl rfl (pR) (oyezkit_Bell_Stroke_w h20 h592) ?_; rintro _ F594 _ hF595 hd597 hn596 ⟨rfl, rfl⟩
     replace hz568 := hz568.mono (prE_ok (iE_ok _) (prE_ok (iE_ok _) (iE_ok _))) hF595
     refine shO_L (lb (ln rfl)) ?_
     refine shO_nil ⟨_, rfl, hF595, [1, 0], by kernel_rfl, .inl (.inr (fun d h => by cases h; rfl)), (List.forall_mem_cons.2 ⟨s0 (s1 (s2 (s1 (s3 (s3 (s3 (s3 (s3 (s3 sr))))))))), (List.forall_mem_cons.2 ⟨sm, (fun _ h => absurd h List.not_mem_nil)⟩)⟩), ?_⟩
     refine shM_v (v := .agg #[.int .i64 n7, .int .i64 n8, .int .i64 0]) (ek := [(193, .int .i64 n7), (198, .int .i64 n8)]) (Ls := []) rfl rfl rfl rfl ((sc rfl (sc rfl (sn _)))) (by kernel_rfl) sm (fun H F' L' hF' hL' => v_build (v := .agg #[.int .i64 n7, .int .i64 n8, .int .i64 0]) rfl (by intro w; kernel_rfl)) ?_
     refine ⟨_, [(199, .agg #[.int .i64 n7, .int .i64 n8, .int .i64 0])], rfl, rfl, (sc rfl (sn _)), by kernel_rfl, ?_⟩; intro H
     refine o_buildSlice (cs := #[.int .i64 n7, .int .i64 n8, .int .i64 0]) rfl rfl (buildSlice_all slt_25 [.agg #[.int .i64 n7, .int .i64 n8, .int .i64 0]] rfl (by decide) (by simp [Value.cells]) (by decide)) ?_; intro b598 hb598
     refine shO_nil ⟨_, rfl, FExt.refl _, [1, 0], by kernel_rfl, .inl (.inr (fun d h => by cases h; rfl)), (List.forall_mem_cons.2 ⟨s0 (s1 (s1 (s2 (s1 (s3 (s3 (s3 (s3 (s3 (s3 sr)))))))))), (List.forall_mem_cons.2 ⟨sm, (fun _ h => absurd h List.not_mem_nil)⟩)⟩), ?_⟩
     refine ⟨_, [(187, .slice a565 n569 c566), (200, .slice (some ⟨b598, 0, none⟩) 1 1)], rfl, rfl, (sc rfl (sc rfl (sn _))), by kernel_rfl, ?_⟩; intro H
     obtain ⟨l6, h599, g600, r601⟩ := ap_ok r593; clear r593
     refine o_appZ (xs := b_cries2) (ys := [(n7, n8, 0)]) (zs := l6) rfl slt_25 rfl rfl (Nat.le_refl _) (fun _ => .c (.c (.c (.c (.s (.s (.s (.s (.s .h))))))))) hz568 (SrcR.box (vss := [[.int .i64 n7, .int .i64 n8, .int .i64 0]]) (ys := [(n7, n8, 0)]) 0 rfl (prE_ok (iE_ok _) (prE_ok (iE_ok _) (iE_ok _))) (.cons ⟨_, _, rfl, rfl, ⟨_, _, rfl, rfl, rfl⟩⟩ .nil) rfl rfl) h599 g600 (by decide) ?_; intro a602 n606 c603 Lb604 hz605
     refine kO (kd kr) ?_
     refine shO_nil ⟨_, rfl, FExt.refl _, [], by kernel_rfl, .inl (.inl rfl), (fun _ h => absurd h List.not_mem_nil), ?_⟩
     refine shM_v (v := .pointer (some ⟨b138, 4, none⟩)) (ek := [(13, .pointer (some ⟨b138, 0, none⟩))]) (Ls := []) rfl rfl rfl rfl ((sc rfl (sn _))) (by kernel_rfl) sm (fun H F' L' hF' hL' => v_fieldAddr fa_27_4 rfl) ?_
     refine ⟨_, [(201, .slice a602 n606 c603), (202, .pointer (some ⟨b138, 4, none⟩))], rfl, rfl, (sc rfl (sc rfl (sn _))), by kernel_rfl, ?_⟩; intro H
     refine o_store (i := 1) Tryz.sizeOf25 rfl rfl rfl rfl (Nat.le_of_ble_eq_true rfl) ?_
     refine shO_L (L' := (b17, .cells #[.slice a18 metal2.length c19, .int .i64 at_8, .int .u32 turn8] 95 (0, 0)) :: ((b138, .cells #[.int .i64 (houses.length : Int), .int .i64 2, .slice a139 n143 c140, .slice a509 n513 c510, .slice a602 n606 c603] 27 (0, 0)) :: ((b34, .cells #[.int .i64 n, .slice a27 n31 c28] 56 (0, 0)) :: (Lb29 ++ (Lb43 ++ (Lb49 ++ (Lb141 ++ (Lb511 ++ (Lb604 ++ []))))))))) rfl ?_
     refine shO_nil ⟨undef, rfl, FExt.refl _, [], by kernel_rfl, .inl (.inl rfl), (fun _ h => absurd h List.not_mem_nil), ?_⟩
     refine shM_nil ?_
     refine inBlock_n (id := 15) (shW_region ?_)
     refine ov (v_add rfl rfl (Ctr.r64 hk573 c580 g571)) rfl ?_
     refine om rfl rfl (shO_nil ?_)
     exact le kr ⟨_, hk581, at_8, turn8, l6, a602, n606, c603, Lb604, r601, ((hF578.trans hF589).trans hF595), rfl, (sc rfl (sc rfl (sc rfl (sc rfl (sc rfl (sc rfl (sc rfl (sc rfl (sn _))))))))), hz605⟩
   obtain rfl := Ctr.zero hk573 c580
   rw [oyezlaw07_BookBlown_l12] at r575
   refine shW_exit (andThen_exit (andThen_exit ?_))
   refine inBlock_exit ?_
   obtain rfl := inj1 r575
   exact mi (kd kr) ⟨a565, n569, c566, Lb567, (hF562.trans hF578), rfl, (sc rfl (sc rfl (sc rfl (sc rfl (sc rfl (sn _)))))), hz568⟩
 rintro e1 F609 _ ⟨a551, n555, c552, Lb553, hF610, rfl, he608, hz554⟩
 refine shW_env _ he608 ?_; clear he608
 replace hz30 := hz30.mono (iE_ok _) hF610
 replace hz44 := hz44.mono (iE_ok _) hF610
 replace hz50 := hz50.mono (iE_ok _) hF610
 replace hz142 := hz142.mono (slE_ok (slE_ok (iE_ok _))) hF610
 replace hz512 := hz512.mono (iE_ok _) hF610
 refine wsr ?_
 refine ov (v_loadA (cs := #[.int .i64 (houses.length : Int), .int .i64 2, .slice a139 n143 c140, .slice a509 n513 c510, .slice a551 n555 c552]) Tryz.isAgg27 Tryz.sizeOf27 rfl (Has.own 0 rfl) (Nat.le_of_ble_eq_true rfl) rfl) rfl ?_
 obtain rfl := (SlR.caps hz142).1
 refine shO_freezeR (Nat.le_refl _) (slE_ok (slE_ok (iE_ok _))) (fC (fC (fS (fS (fS fP))))) hz142 ?_; intro F611 hF612 h613
 replace hz30 := hz30.mono (iE_ok _) hF612
 replace hz44 := hz44.mono (iE_ok _) hF612
 replace hz50 := hz50.mono (iE_ok _) hF612
 replace hz512 := hz512.mono (iE_ok _) hF612
 replace hz554 := hz554.mono (prE_ok (iE_ok _) (prE_ok (iE_ok _) (iE_ok _))) hF612
 obtain rfl := (SlR.caps hz512).1
 refine shO_freezeR (Nat.le_refl _) (iE_ok _) (fC (fC (fS (fS (fS fP))))) hz512 ?_; intro F614 hF615 h616
 replace h613 := h613.mono (slE_ok (slE_ok (iE_ok _))) hF615
 replace hz30 := hz30.mono (iE_ok _) hF615
 replace hz44 := hz44.mono (iE_ok _) hF615
 replace hz50 := hz50.mono (iE_ok _) hF615
 replace hz554 := hz554.mono (prE_ok (iE_ok _) (prE_ok (iE_ok _) (iE_ok _))) hF615
 obtain rfl := (SlR.caps hz554).1
 refine shO_freezeR (Nat.le_refl _) (prE_ok (iE_ok _) (prE_ok (iE_ok _) (iE_ok _))) (fC (fC (fS (fS (fS fP))))) hz554 ?_; intro F617 hF618 h619
 replace h613 := h613.mono (slE_ok (slE_ok (iE_ok _))) hF618
 replace h616 := h616.mono (iE_ok _) hF618
 replace hz30 := hz30.mono (iE_ok _) hF618
 replace hz44 := hz44.mono (iE_ok _) hF618
 replace hz50 := hz50.mono (iE_ok _) hF618
 obtain ⟨l7, n9, h620, r621⟩ := b2_ok r558; clear r558
 refine o_call0 rfl Tryz.call29 rfl rfl rfl (book_Verdicts_w h613 h616 h619 h620) ?_; rintro _ F622 _ hF623 hn624 ⟨a626, c627, rfl, rfl, h628⟩
 replace h619 := h619.mono (prE_ok (iE_ok _) (prE_ok (iE_ok _) (iE_ok _))) hF623
 replace hz30 := hz30.mono (iE_ok _) hF623
 replace hz44 := hz44.mono (iE_ok _) hF623
 replace hz50 := hz50.mono (iE_ok _) hF623
 refine shO_L (ln rfl) ?_
 refine om rfl rfl (ox rfl rfl rfl (ox rfl rfl rfl (oa rfl rfl (oa rfl rfl (shO_nil (shW_seq ?_))))))
 obtain ⟨k10, h629, r630⟩ := b1_ok r621; clear r621
 refine shW_join (fun e1 F1 L1 => F622 = F1 ∧ L1 = ((b138, .cells #[.int .i64 (houses.length : Int), .int .i64 2, .slice a139 b_hears.length c140, .slice a509 b_readings.length c510, .slice a551 b_cries.length c552] 27 (0, 0)) :: ((b34, .cells #[.int .i64 n, .slice a27 n31 c28] 56 (0, 0)) :: (Lb29 ++ (Lb43 ++ (Lb49 ++ []))))) ∧ e1.sub [(7, .pointer (some ⟨b34, 0, none⟩)), (8, .int .i64 n3), (9, .slice a41 n45 c42), (10, .slice a47 n51 c48), (13, .pointer (some ⟨b138, 0, none⟩)), (26, .slice a626 l7.length c627), (217, .bool k10)]) ?_ ?_
 · clear r630
   refine shW_region (om rfl rfl ?_)
   refine ov (v_neq rfl rfl) rfl ?_
   refine om rfl rfl ?_
   by_cases c631 : n9 ≠ 0
   · have r632 := ite_t h629 c631; clear h629
     refine shO_off (b' := true) 211 rfl (Env.isT rfl c631) rfl rfl (shO_off (b' := true) 211 rfl (Env.isT rfl c631) rfl rfl (shO_off (b' := true) 211 rfl (Env.isT rfl c631) rfl rfl (shO_off (b' := true) 211 rfl (Env.isT rfl c631) rfl rfl (shO_off (b' := true) 211 rfl (Env.isT rfl c631) rfl rfl ?_))))
     refine ov (v_pick_t (evD_true rfl c631) rfl) rfl ?_
     refine shO_nil ?_
     obtain rfl := inj1 r632
     exact mi kr ⟨rfl, rfl, (sc rfl (sc rfl (sc rfl (sc rfl (sc rfl (sc rfl (sc rfl (sn _))))))))⟩
   have r633 := ite_f h629 c631; clear h629
   refine shO_on (b := false) 211 rfl (Env.isF rfl c631) (om rfl rfl (shO_on (b := false) 211 rfl (Env.isF rfl c631) ?_))
   refine ov (v_lenS Tryz.underlying68 rfl) rfl ?_
   refine shO_on (b := false) 211 rfl (Env.isF rfl c631) (om rfl rfl (shO_on (b := false) 211 rfl (Env.isF rfl c631) ?_))
   refine ov ((v_lenS Tryz.underlying24 rfl).i (SlR.lenI hz50)) rfl ?_
   refine shO_on (b := false) 211 rfl (Env.isF rfl c631) ?_
   refine ov (v_neq rfl rfl) rfl ?_
   refine ov (v_pick_f (evD_false rfl c631) rfl) rfl ?_
   refine shO_nil ?_
   obtain rfl := inj1 r633
   exact mi kr ⟨rfl, rfl, (sc rfl (sc rfl (sc rfl (sc rfl (sc rfl (sc rfl (sc rfl (sn _))))))))⟩
 rintro e1 _ _ ⟨rfl, rfl, he634⟩
 refine shW_env _ he634 ?_; clear he634
 refine shW_cond rfl (fun c635 => ?_) (fun c635 => ?_)
 · have r636 := bt r630 c635; clear r630
   refine wsr (oa rfl rfl (shO_nil ?_))
   refine kW kn ?_
   refine shW_ret (andThen_ret ?_)
   refine q_res1 Tryz.results4 (res_tmp rfl) (sr) ?_
   obtain rfl := inj1 r636
   exact rfl
 have r637 := bf r630 c635; clear r630
 refine shW_skip ?_
 refine shW_join (fun e1 F1 L1 => oyezlaw07_BookBlown_j13 = some r ∧ FExt F622 F1 ∧ L1 = [] ∧ e1.sub []) ?_ ?_
 · refine wsr (om rfl rfl ?_)
   refine ov ((v_lenS Tryz.underlying24 rfl).i (SlR.lenI hz50)) rfl ?_
   refine om rfl rfl (shO_nil ?_)
   refine shW_block ?_
   refine shW_lp (fun fu14 e1 F1 L1 => ∃ (tl9 : List Int) (k11 : Int), tl9.length = fu14 ∧ Lst houses k11 tl9 ∧ oyezlaw07_BookBlown_l14 n l n3 streets b_cries l7 tl9 k11 = some r ∧ FExt F622 F1 ∧ L1 = ((b138, .cells #[.int .i64 (houses.length : Int), .int .i64 2, .slice a139 b_hears.length c140, .slice a509 b_readings.length c510, .slice a551 b_cries.length c552] 27 (0, 0)) :: ((b34, .cells #[.int .i64 n, .slice a27 n31 c28] 56 (0, 0)) :: (Lb29 ++ (Lb43 ++ (Lb49 ++ []))))) ∧ e1.sub [(7, .pointer (some ⟨b34, 0, none⟩)), (8, .int .i64 n3), (9, .slice a41 n45 c42), (13, .pointer (some ⟨b138, 0, none⟩)), (26, .slice a626 l7.length c627), (218, .slice a47 n51 c48), (219, .int .i64 (houses.length : Int)), (220, .int .i64 k11)]) _ (m0 kr ⟨_, _, rfl, Lst.start _, r637, FExt.refl _, rfl, (sc rfl (sc rfl (sc rfl (sc rfl (sc rfl (sc rfl (sc rfl (sc rfl (sn _)))))))))⟩) ?_
   rintro fu14 e1 F642 _ ⟨tl9, k11, hn639, hk638, r640, hF643, rfl, he641⟩
   refine shW_env _ he641 ?_; clear he641
   replace h619 := h619.mono (prE_ok (iE_ok _) (prE_ok (iE_ok _) (iE_ok _))) hF643
   replace h628 := h628.mono (slE_ok (iE_ok _)) hF643
   replace hz30 := hz30.mono (iE_ok _) hF643
   replace hz44 := hz44.mono (iE_ok _) hF643
   replace hz50 := hz50.mono (iE_ok _) hF643
   refine wsr ?_
   refine ov (v_lssK rfl rfl) rfl ?_
   refine shO_nil (shW_seq ?_)
   refine shW_condP rfl (fun c645 => ?_) (fun c645 => ?_)
   · obtain ⟨x10, tl10, rfl, hx647, g648, hk646⟩ := Lst.succ hk638 c645
     rw [oyezlaw07_BookBlown_l14] at r640
     refine shW_skip ?_
     refine shW_join (fun e1 F1 L1 => oyezlaw07_BookBlown_j15 k11 (oyezlaw07_BookBlown_l14 n l n3 streets b_cries l7 tl10) = some r ∧ FExt F642 F1 ∧ L1 = ((b138, .cells #[.int .i64 (houses.length : Int), .int .i64 2, .slice a139 b_hears.length c140, .slice a509 b_readings.length c510, .slice a551 b_cries.length c552] 27 (0, 0)) :: ((b34, .cells #[.int .i64 n, .slice a27 n31 c28] 56 (0, 0)) :: (Lb29 ++ (Lb43 ++ (Lb49 ++ []))))) ∧ e1.sub [(7, .pointer (some ⟨b34, 0, none⟩)), (8, .int .i64 n3), (9, .slice a41 n45 c42), (13, .pointer (some ⟨b138, 0, none⟩)), (26, .slice a626 l7.length c627), (218, .slice a47 n51 c48), (219, .int .i64 (houses.length : Int)), (220, .int .i64 k11)]) ?_ ?_
     · refine shW_block ?_
       refine wsr (om rfl rfl ?_)
       obtain ⟨b649, o650, c651, vs652, ha653, hs654, hle655, rfl, hl656, hc657⟩ := SlR.at (iE_ok _) hz50 (L := (b138, .cells #[.int .i64 (houses.length : Int), .int .i64 2, .slice a139 b_hears.length c140, .slice a509 b_readings.length c510, .slice a551 b_cries.length c552] 27 (0, 0)) :: ((b34, .cells #[.int .i64 n, .slice a27 n31 c28] 56 (0, 0)) :: (Lb29 ++ (Lb43 ++ (Lb49 ++ []))))) (fC (fC (fS (fS fP)))) g648.1 hx647
       refine ov (v_indexO Tryz.underlying24 Tryz.sizeOf3 rfl ha653 rfl (SlR.idx hz50 g648)) rfl ?_
       refine ov (v_load Tryz.isAgg3 rfl hs654 (hc657 0 (by decide))) rfl ?_
       refine oa rfl rfl (oa rfl rfl (shO_nil (shW_seq ?_)))
       obtain ⟨k12, h658, r659⟩ := b1_ok r640; clear r640
       refine shW_join (fun e1 F1 L1 => F642 = F1 ∧ L1 = ((b138, .cells #[.int .i64 (houses.length : Int), .int .i64 2, .slice a139 b_hears.length c140, .slice a509 b_readings.length c510, .slice a551 b_cries.length c552] 27 (0, 0)) :: ((b34, .cells #[.int .i64 n, .slice a27 n31 c28] 56 (0, 0)) :: (Lb29 ++ (Lb43 ++ (Lb49 ++ []))))) ∧ e1.sub [(7, .pointer (some ⟨b34, 0, none⟩)), (8, .int .i64 n3), (9, .slice a41 n45 c42), (13, .pointer (some ⟨b138, 0, none⟩)), (26, .slice a626 l7.length c627), (28, .int .i64 k11), (29, .int .i64 x10), (218, .slice a47 n51 c48), (219, .int .i64 (houses.length : Int)), (220, .int .i64 k11), (239, .bool k12)]) ?_ ?_
       · clear r659
         refine shW_region (om rfl rfl (om rfl rfl ?_))
         obtain ⟨x11, g660, hx661, r662⟩ := ix_ok h658; clear h658
         obtain ⟨b663, o664, c665, vs666, ha667, hs668, hle669, ⟨a672, c673, rfl, h674⟩, hl670, hc671⟩ := RowR.at (slE_ok (iE_ok _)) h628 ((b138, .cells #[.int .i64 (houses.length : Int), .int .i64 2, .slice a139 b_hears.length c140, .slice a509 b_readings.length c510, .slice a551 b_cries.length c552] 27 (0, 0)) :: ((b34, .cells #[.int .i64 n, .slice a27 n31 c28] 56 (0, 0)) :: (Lb29 ++ (Lb43 ++ (Lb49 ++ []))))) g660.1 hx661
         refine ov (v_indexO Tryz.underlying68 Tryz.sizeOf71 rfl ha667 rfl g660) rfl ?_
         refine ov (v_load Tryz.isAgg71 rfl hs668 (hc671 0 (by decide))) rfl ?_
         refine ov (v_lenS Tryz.underlying71 rfl) rfl ?_
         refine ov (v_neq rfl rfl) rfl ?_
         refine om rfl rfl ?_
         by_cases c675 : (x11.length : Int) ≠ 2
         · have r676 := ite_t r662 c675; clear r662
           refine shO_off (b' := true) 231 rfl (Env.isT rfl c675) rfl rfl (shO_off (b' := true) 231 rfl (Env.isT rfl c675) rfl rfl (shO_off (b' := true) 231 rfl (Env.isT rfl c675) rfl rfl (shO_off (b' := true) 231 rfl (Env.isT rfl c675) rfl rfl (shO_off (b' := true) 231 rfl (Env.isT rfl c675) rfl rfl (shO_off (b' := true) 231 rfl (Env.isT rfl c675) rfl rfl (shO_off (b' := true) 231 rfl (Env.isT rfl c675) rfl rfl ?_))))))
           refine ov (v_pick_t (evD_true rfl c675) rfl) rfl ?_
           refine shO_nil ?_
           obtain rfl := inj1 r676
           exact mi kr ⟨rfl, rfl, (sc rfl (sc rfl (sc rfl (sc rfl (sc rfl (sc rfl (sc rfl (sc rfl (sc rfl (sc rfl (sc rfl (sn _))))))))))))⟩
         have r677 := ite_f r662 c675; clear r662
         refine shO_on (b := false) 231 rfl (Env.isF rfl c675) (om rfl rfl (shO_on (b := false) 231 rfl (Env.isF rfl c675) (om rfl rfl (shO_on (b := false) 231 rfl (Env.isF rfl c675) ?_))))
         obtain ⟨b678, o679, c680, vs681, ha682, hs683, hle684, ⟨a687, c688, rfl, h689⟩, hl685, hc686⟩ := RowR.at (slE_ok (iE_ok _)) h628 ((b138, .cells #[.int .i64 (houses.length : Int), .int .i64 2, .slice a139 b_hears.length c140, .slice a509 b_readings.length c510, .slice a551 b_cries.length c552] 27 (0, 0)) :: ((b34, .cells #[.int .i64 n, .slice a27 n31 c28] 56 (0, 0)) :: (Lb29 ++ (Lb43 ++ (Lb49 ++ []))))) g660.1 hx661
         refine ov (v_indexO Tryz.underlying68 Tryz.sizeOf71 rfl ha682 rfl g660) rfl ?_
         refine shO_on (b := false) 231 rfl (Env.isF rfl c675) ?_
         refine ov (v_load Tryz.isAgg71 rfl hs683 (hc686 0 (by decide))) rfl ?_
         refine shO_on (b := false) 231 rfl (Env.isF rfl c675) ?_
         obtain ⟨x12, g690, hx691, r692⟩ := ix_ok r677; clear r677
         obtain ⟨b693, o694, c695, vs696, ha697, hs698, hle699, rfl, hl700, hc701⟩ := RowR.at (iE_ok _) h689 ((b138, .cells #[.int .i64 (houses.length : Int), .int .i64 2, .slice a139 b_hears.length c140, .slice a509 b_readings.length c510, .slice a551 b_cries.length c552] 27 (0, 0)) :: ((b34, .cells #[.int .i64 n, .slice a27 n31 c28] 56 (0, 0)) :: (Lb29 ++ (Lb43 ++ (Lb49 ++ []))))) g690.1 hx691
         refine ov (v_indexO Tryz.underlying71 Tryz.sizeOf72 rfl ha697 rfl g690) rfl ?_
         refine shO_on (b := false) 231 rfl (Env.isF rfl c675) ?_
         refine ov (v_load Tryz.isAgg72 rfl hs698 (hc701 0 (by decide))) rfl ?_
         refine shO_on (b := false) 231 rfl (Env.isF rfl c675) ?_
         refine ov (v_neq rfl rfl) rfl ?_
         refine ov (v_pick_f (evD_false rfl c675) rfl) rfl ?_
         refine shO_nil ?_
         obtain rfl := inj1 r692
         exact mi kr ⟨rfl, rfl, (sc rfl (sc rfl (sc rfl (sc rfl (sc rfl (sc rfl (sc rfl (sc rfl (sc rfl (sc rfl (sc rfl (sn _))))))))))))⟩
       rintro e1 _ _ ⟨rfl, rfl, he702⟩
       refine shW_env _ he702 ?_; clear he702
       refine shW_cond rfl (fun c703 => ?_) (fun c703 => ?_)
       · have r704 := bt r659 c703; clear r659
         refine wsr (oa rfl rfl (shO_nil ?_))
         refine kW kn ?_
         refine shW_ret (andThen_ret (inBlock_ret (andThen_ret (andThen_ret (inBlock_ret (andThen_ret ?_))))))
         refine q_res1 Tryz.results4 (res_tmp rfl) (sr) ?_
         obtain rfl := inj1 r704
         exact rfl
       have r705 := bf r659 c703; clear r659
       refine shW_skip (wsr (oa rfl rfl (oa rfl rfl (shO_nil ?_))))
       refine shW_join (fun e1 F1 L1 => ∃ (all_ : Bool) (some_ : Bool), oyezlaw07_BookBlown_j16 l7 k11 (oyezlaw07_BookBlown_l14 n l n3 streets b_cries l7 tl10) all_ some_ = some r ∧ FExt F642 F1 ∧ L1 = ((b138, .cells #[.int .i64 (houses.length : Int), .int .i64 2, .slice a139 b_hears.length c140, .slice a509 b_readings.length c510, .slice a551 b_cries.length c552] 27 (0, 0)) :: ((b34, .cells #[.int .i64 n, .slice a27 n31 c28] 56 (0, 0)) :: (Lb29 ++ (Lb43 ++ (Lb49 ++ []))))) ∧ e1.sub [(7, .pointer (some ⟨b34, 0, none⟩)), (8, .int .i64 n3), (9, .slice a41 n45 c42), (13, .pointer (some ⟨b138, 0, none⟩)), (26, .slice a626 l7.length c627), (28, .int .i64 k11), (30, .bool all_), (31, .bool some_), (218, .slice a47 n51 c48), (219, .int .i64 (houses.length : Int)), (220, .int .i64 k11)]) ?_ ?_
       · refine wsr ?_
         refine ov (v_fieldAddr fa_27_4 rfl) rfl ?_
         refine ov (v_load Tryz.isAgg25 rfl (Has.own 0 rfl) rfl) rfl ?_
         refine ov (v_lenS Tryz.underlying25 rfl) rfl ?_
         refine om rfl rfl (shO_nil ?_)
         refine shW_block ?_
         refine shW_lp (fun fu17 e1 F1 L1 => ∃ (tl11 : List (Int × Int × Int)) (k13 : Int), tl11.length = fu17 ∧ Lst b_cries k13 tl11 ∧ ∃ (all_2 : Bool) (some_2 : Bool), oyezlaw07_BookBlown_l17 n l n3 streets l7 k11 x10 (oyezlaw07_BookBlown_l14 n l n3 streets b_cries l7 tl10) tl11 all_2 some_2 = some r ∧ FExt F642 F1 ∧ L1 = ((b138, .cells #[.int .i64 (houses.length : Int), .int .i64 2, .slice a139 b_hears.length c140, .slice a509 b_readings.length c510, .slice a551 b_cries.length c552] 27 (0, 0)) :: ((b34, .cells #[.int .i64 n, .slice a27 n31 c28] 56 (0, 0)) :: (Lb29 ++ (Lb43 ++ (Lb49 ++ []))))) ∧ e1.sub [(7, .pointer (some ⟨b34, 0, none⟩)), (8, .int .i64 n3), (9, .slice a41 n45 c42), (13, .pointer (some ⟨b138, 0, none⟩)), (26, .slice a626 l7.length c627), (28, .int .i64 k11), (29, .int .i64 x10), (30, .bool all_2), (31, .bool some_2), (218, .slice a47 n51 c48), (219, .int .i64 (houses.length : Int)), (220, .int .i64 k11), (241, .slice a551 b_cries.length c552), (242, .int .i64 (b_cries.length : Int)), (243, .int .i64 k13)]) _ (m0 kr ⟨_, _, rfl, Lst.start _, false, false, r705, FExt.refl _, rfl, (sc rfl (sc rfl (sc rfl (sc rfl (sc rfl (sc rfl (sc rfl (sc rfl (sc rfl (sc rfl (sc rfl (sc rfl (sc rfl (sc rfl (sc rfl (sn _))))))))))))))))⟩) ?_
         rintro fu17 e1 F710 _ ⟨tl11, k13, hn707, hk706, all_2, some_2, r708, hF711, rfl, he709⟩
         refine shW_env _ he709 ?_; clear he709
         replace h619 := h619.mono (prE_ok (iE_ok _) (prE_ok (iE_ok _) (iE_ok _))) hF711
         replace hz30 := hz30.mono (iE_ok _) hF711
         replace hz44 := hz44.mono (iE_ok _) hF711
         refine wsr ?_
         refine ov (v_lssK rfl rfl) rfl ?_
         refine shO_nil (shW_seq ?_)
         refine shW_condP rfl (fun c713 => ?_) (fun c713 => ?_)
         · obtain ⟨x13, tl12, rfl, hx715, g716, hk714⟩ := Lst.succ hk706 c713
           rw [oyezlaw07_BookBlown_l17] at r708
           refine shW_skip (shW_seq ?_)
           refine shW_block ?_
           refine wsr ?_
           obtain ⟨b717, o718, c719, vs720, ha721, hs722, hle723, ⟨_, _, rfl, rfl, ⟨_, _, rfl, rfl, rfl⟩⟩, hl724, hc725⟩ := RowR.at (prE_ok (iE_ok _) (prE_ok (iE_ok _) (iE_ok _))) h619 ((b138, .cells #[.int .i64 (houses.length : Int), .int .i64 2, .slice a139 b_hears.length c140, .slice a509 b_readings.length c510, .slice a551 b_cries.length c552] 27 (0, 0)) :: ((b34, .cells #[.int .i64 n, .slice a27 n31 c28] 56 (0, 0)) :: (Lb29 ++ (Lb43 ++ (Lb49 ++ []))))) g716.1 hx715
           refine ov (v_indexO Tryz.underlying25 Tryz.sizeOf67 rfl ha721 rfl g716) rfl ?_
           refine ov (v_loadA (cs := #[.int .i64 x13.1, .int .i64 x13.2.1, .int .i64 x13.2.2]) Tryz.isAgg67 Tryz.sizeOf67 rfl hs722 hle723 (extract_cells hle723 hl724 hc725)) rfl ?_
           refine o_alloc rfl Tryz.zeroValue67 ?_; intro b726 hb726
           refine o_storeA (i := 0) Tryz.sizeOf67 rfl rfl rfl (by simp [Value.oneCell']) rfl (Nat.le_of_ble_eq_true rfl) ?_
           refine shO_L (L' := (b726, .cells #[.int .i64 x13.1, .int .i64 x13.2.1, .int .i64 x13.2.2] 67 (0, 0)) :: ((b138, .cells #[.int .i64 (houses.length : Int), .int .i64 2, .slice a139 b_hears.length c140, .slice a509 b_readings.length c510, .slice a551 b_cries.length c552] 27 (0, 0)) :: ((b34, .cells #[.int .i64 n, .slice a27 n31 c28] 56 (0, 0)) :: (Lb29 ++ (Lb43 ++ (Lb49 ++ [])))))) rfl ?_
           refine shO_nil (shW_seq ?_)
           refine shW_drawM [(.still, 0), (.still, 1), (.still, 2), (.still, 3), (.still, 4), (.still, 5), (.still, 6), (.still, 7), (.seq, 8), (.still, 9), (.still, 10), (.still, 11), (.still, 12), (.still, 13)] (by kernel_rfl) (by kernel_rfl) (trivial) (by rfl) (by kernel_rfl) ?_
           refine shM_v (v := .agg #[.int .i64 n, .slice a27 n31 c28]) (ek := [(7, .pointer (some ⟨b34, 0, none⟩))]) (Ls := [(b34, .cells #[.int .i64 n, .slice a27 n31 c28] 56 (0, 0))]) rfl rfl rfl rfl ((sc rfl (sn _))) (by kernel_rfl) (s0 (s1 (s1 (s2 (s3 (s3 (s3 sr))))))) (fun H F' L' hF' hL' => v_loadA (cs := #[.int .i64 n, .slice a27 n31 c28]) Tryz.isAgg56 Tryz.sizeOf56 rfl ((Has.own 0 rfl).ext hF' hL') (Nat.le_of_ble_eq_true rfl) rfl) ?_
           refine shM_v (v := .int .i64 n3) (ek := [(8, .int .i64 n3)]) (Ls := []) rfl rfl rfl rfl ((sc rfl (sn _))) (by kernel_rfl) sm (fun H F' L' hF' hL' => v_move rfl) ?_
           refine shM_v (v := .slice a41 n45 c42) (ek := [(9, .slice a41 n45 c42)]) (Ls := []) rfl rfl rfl rfl ((sc rfl (sn _))) (by kernel_rfl) sm (fun H F' L' hF' hL' => v_move rfl) ?_
           refine shM_v (v := .pointer (some ⟨b726, 1, none⟩)) (ek := [(33, .pointer (some ⟨b726, 0, none⟩))]) (Ls := []) rfl rfl rfl rfl ((sc rfl (sn _))) (by kernel_rfl) sm (fun H F' L' hF' hL' => v_fieldAddr fa_67_1 rfl) ?_
           refine shM_v (v := .int .i64 x13.2.1) (ek := [(251, .pointer (some ⟨b726, 1, none⟩))]) (Ls := [(b726, .cells #[.int .i64 x13.1, .int .i64 x13.2.1, .int .i64 x13.2.2] 67 (0, 0))]) rfl rfl rfl rfl ((sc rfl (sn _))) (by kernel_rfl) (s0 (s2 (s1 (s1 (s3 (s3 (s3 sr))))))) (fun H F' L' hF' hL' => v_load Tryz.isAgg3 rfl ((Has.own 0 rfl).ext hF' hL') rfl) ?_
           obtain ⟨x14, g727, hx728, r729⟩ := ix_ok r708; clear r708
           obtain ⟨b730, o731, c732, vs733, ha734, hs735, hle736, rfl, hl737, hc738⟩ := SlR.at (iE_ok _) hz44 (L := Lb43 ++ []) fP g727.1 hx728
           refine shM_v (v := .pointer (some ⟨b730, o731 + (x13.2.1 : Int).toNat * 1, none⟩)) (ek := [(250, .slice a41 n45 c42), (252, .int .i64 x13.2.1)]) (Ls := []) rfl rfl rfl rfl ((sc rfl (sc rfl (sn _)))) (by kernel_rfl) sm (fun H F' L' hF' hL' => v_indexO Tryz.underlying24 Tryz.sizeOf3 rfl ha734 rfl (SlR.idx hz44 g727)) ?_
           refine shM_v (v := .int .i64 x14) (ek := [(253, .pointer (some ⟨b730, o731 + (x13.2.1 : Int).toNat * 1, none⟩))]) (Ls := Lb43 ++ []) rfl rfl rfl rfl ((sc rfl (sn _))) (by kernel_rfl) (s0 (s1 (s1 (s1 (s3 (s4 (s3 sr))))))) (fun H F' L' hF' hL' => v_load Tryz.isAgg3 rfl (hs735.ext hF' hL') (hc738 0 (by decide))) ?_
           refine shM_v (v := .int .i64 x10) (ek := [(29, .int .i64 x10)]) (Ls := []) rfl rfl rfl rfl ((sc rfl (sn _))) (by kernel_rfl) sm (fun H F' L' hF' hL' => v_move rfl) ?_
           refine ⟨_, [(248, .agg #[.int .i64 n, .slice a27 n31 c28]), (249, .int .i64 n3), (254, .int .i64 x14), (255, .int .i64 x10)], rfl, rfl, (sc rfl (sc rfl (sc rfl (sc rfl (sn _))))), by kernel_rfl, ?_⟩; intro H
           obtain ⟨l8, n10, h739, r740⟩ := b2_ok r729; clear r729
           refine o_callTO (Lb := []) (Lt := Lb29 ++ []) (Lr := (b726, .cells #[.int .i64 x13.1, .int .i64 x13.2.1, .int .i64 x13.2.2] 67 (0, 0)) :: ((b138, .cells #[.int .i64 (houses.length : Int), .int .i64 2, .slice a139 b_hears.length c140, .slice a509 b_readings.length c510, .slice a551 b_cries.length c552] 27 (0, 0)) :: ((b34, .cells #[.int .i64 n, .slice a27 n31 c28] 56 (0, 0)) :: (Lb43 ++ (Lb49 ++ []))))) rfl Tryz.call30 rfl rfl rfl (pT ((fC (fC (fC fP))).trans (pA pR)) (ln (lp (ln rfl)))) (fun F2 h2 h3 => by rw [(SlR.caps hz30).1]; exact hear_Winds_w (hz30.row (iE_ok _) h2 (fun p hp => h3 p (List.mem_append_left _ hp))) h739) (fun _ _ _ _ hq => by obtain ⟨a745, n749, c746, Lb747, rfl, rfl, hz748⟩ := hq; exact ⟨_, _, _, _, rfl, rfl, hz748.flat (fun _ _ h => h)⟩) ?_; rintro _ F741 _ hF742 hd744 hn743 ⟨a745, n749, c746, Lb747, rfl, rfl, hz748⟩
           replace h619 := h619.mono (prE_ok (iE_ok _) (prE_ok (iE_ok _) (iE_ok _))) hF742
           have hn751 := newp (Lb' := []) (by rfl) hd744 hn743
           replace hz748 := hz748.new fun p hp => hn751 p (by simp [hp])
           refine shO_L (lp (ln (lp (ln rfl)))) ?_
           refine kO (kf (fS (fS fO)) (kf (fS (fS fO)) (kf (fS (fS fO)) kr))) ?_
           refine shO_nil ⟨_, rfl, hF742, [], by kernel_rfl, .inl (.inl rfl), (fun _ h => absurd h List.not_mem_nil), ?_⟩
           refine shM_v (v := .tuple #[.slice a745 n749 c746, .int .i64 n10]) (ek := [(256, .tuple #[.slice a745 n749 c746, .int .i64 n10])]) (Ls := []) rfl rfl rfl rfl ((sc rfl (sn _))) (by kernel_rfl) sm (fun H F' L' hF' hL' => v_move rfl) ?_
           refine shM_v (v := .slice a745 n749 c746) (ek := [(247, .tuple #[.slice a745 n749 c746, .int .i64 n10])]) (Ls := []) rfl rfl rfl rfl ((sc rfl (sn _))) (by kernel_rfl) sm (fun H F' L' hF' hL' => v_extract rfl rfl) ?_
           refine shM_v (v := .int .i64 n10) (ek := [(247, .tuple #[.slice a745 n749 c746, .int .i64 n10])]) (Ls := []) rfl rfl rfl rfl ((sc rfl (sn _))) (by kernel_rfl) sm (fun H F' L' hF' hL' => v_extract rfl rfl) ?_
           refine shM_v (v := .slice a745 n749 c746) (ek := [(257, .slice a745 n749 c746)]) (Ls := []) rfl rfl rfl rfl ((sc rfl (sn _))) (by kernel_rfl) sm (fun H F' L' hF' hL' => v_assign rfl) ?_
           refine shM_v (v := .int .i64 n10) (ek := [(258, .int .i64 n10)]) (Ls := []) rfl rfl rfl rfl ((sc rfl (sn _))) (by kernel_rfl) sm (fun H F' L' hF' hL' => v_assign rfl) ?_
           refine shM_nil ?_
           refine shW_seq (wsr (om rfl rfl ?_))
           refine ov (v_neq rfl rfl) rfl ?_
           refine shO_nil ?_
           refine shW_condP rfl (fun c752 => ?_) (fun c752 => ?_)
           · have r753 := ite_t r740 c752; clear r740
             refine wsr (oa rfl rfl (shO_nil ?_))
             refine kW kn ?_
             refine shW_ret (andThen_ret (inBlock_ret (andThen_ret (andThen_ret (inBlock_ret (andThen_ret (inBlock_ret (andThen_ret (andThen_ret ?_)))))))))
             refine inBlock_ret (andThen_ret ?_)
             refine q_res1 Tryz.results4 (res_tmp rfl) (sr) ?_
             obtain rfl := inj1 r753
             exact rfl
           have r754 := ite_f r740 c752; clear r740
           refine shW_skip (wsr (om rfl rfl ?_))
           have hn755 : FnR Tryz.prog F741 32 #[] #[] (iE .i64) Value.bool (fun xx_ : Int => oyezlaw07_BookBlown_1 xx_) := ⟨Tryz.call32, fun F2 h2 vs xx_ r ha hr => by obtain rfl := ha; exact oyezlaw07_BookBlown_1_w hr⟩
           obtain ⟨l9, h756, r757⟩ := b1_ok r754; clear r754
           refine o_callG (Lb := Lb747 ++ []) (Lr := (b726, .cells #[.int .i64 x13.1, .int .i64 x13.2.1, .int .i64 x13.2.2] 67 (0, 0)) :: ((b138, .cells #[.int .i64 (houses.length : Int), .int .i64 2, .slice a139 b_hears.length c140, .slice a509 b_readings.length c510, .slice a551 b_cries.length c552] 27 (0, 0)) :: ((b34, .cells #[.int .i64 n, .slice a27 n31 c28] 56 (0, 0)) :: (Lb29 ++ (Lb43 ++ (Lb49 ++ [])))))) rfl Tryz.call31 rfl rfl rfl (pT ((fC (fC (fC fP))).trans (pA pR)) (lp (ln rfl))) (slices_DeleteFunc_hear_Dir_hear_Dir_w hz748 hn755 h756) ?_; rintro _ F758 _ hF759 hd761 hn760 ⟨a762, n766, c763, Lb764, rfl, rfl, hz765⟩
           replace h619 := h619.mono (prE_ok (iE_ok _) (prE_ok (iE_ok _) (iE_ok _))) hF759
           refine shO_L (lp (ln rfl)) ?_
           refine kO (kf (fS fO) (kf (fS fO) (kf (fS fO) kr))) ?_
           refine oa rfl rfl (shO_nil (shW_region (om rfl rfl (om rfl rfl ?_))))
           rcases bool_two all_2 with c768 | c768
           · have r769 := bt r757 c768; clear r757
             refine shO_off (b' := true) 264 rfl (EnvB rfl c768) rfl rfl (shO_off (b' := true) 264 rfl (EnvB rfl c768) rfl rfl (shO_off (b' := true) 264 rfl (EnvB rfl c768) rfl rfl ?_))
             refine ov (v_pick_t (evB rfl c768) rfl) rfl ?_
             refine om rfl rfl (om rfl rfl ?_)
             rcases bool_two some_2 with c770 | c770
             · have r771 := bt r769 c770; clear r769
               refine shO_off (b' := true) 270 rfl (EnvB rfl c770) rfl rfl (shO_off (b' := true) 270 rfl (EnvB rfl c770) rfl rfl (shO_off (b' := true) 270 rfl (EnvB rfl c770) rfl rfl ?_))
               refine ov (v_pick_t (evB rfl c770) rfl) rfl ?_
               refine oa rfl rfl (oa rfl rfl (shO_nil (inBlock_n (id := 19) (shW_region ?_))))
               refine ov (v_add rfl rfl (Lst.r64 hk706 c713 (RowR.lt h619))) rfl ?_
               refine om rfl rfl (shO_nil ?_)
               subst hn707; exact le (kd (kc (kc (kx kr)))) ⟨_, _, rfl, hk714, true, true, r771, ((hF711.trans hF742).trans hF759), rfl, (sc rfl (sc rfl (sc rfl (sc rfl (sc rfl (sc rfl (sc rfl (sc rfl (sc rfl (sc rfl (sc rfl (sc rfl (sc rfl (sc rfl (sc rfl (sn _))))))))))))))))⟩
             have r772 := bf r769 c770; clear r769
             refine shO_on (b := false) 270 rfl (EnvB rfl c770) (om rfl rfl (shO_on (b := false) 270 rfl (EnvB rfl c770) ?_))
             refine ov ((v_lenS Tryz.underlying63 rfl).i (SlR.lenI hz765)) rfl ?_
             refine shO_on (b := false) 270 rfl (EnvB rfl c770) ?_
             refine ov (v_gtrK rfl rfl) rfl ?_
             refine ov (v_pick_f (evB rfl c770) rfl) rfl ?_
             refine oa rfl rfl (oa rfl rfl (shO_nil (inBlock_n (id := 19) (shW_region ?_))))
             refine ov (v_add rfl rfl (Lst.r64 hk706 c713 (RowR.lt h619))) rfl ?_
             refine om rfl rfl (shO_nil ?_)
             subst hn707; exact le (kd (kc (kc (kx kr)))) ⟨_, _, rfl, hk714, true, decide (0 < (l9.length : Int)), r772, ((hF711.trans hF742).trans hF759), rfl, (sc rfl (sc rfl (sc rfl (sc rfl (sc rfl (sc rfl (sc rfl (sc rfl (sc rfl (sc rfl (sc rfl (sc rfl (sc rfl (sc rfl (sc rfl (sn _))))))))))))))))⟩
           have r773 := bf r757 c768; clear r757
           refine shO_on (b := false) 264 rfl (EnvB rfl c768) (om rfl rfl (shO_on (b := false) 264 rfl (EnvB rfl c768) ?_))
           refine ov ((v_lenS Tryz.underlying63 rfl).i (SlR.lenI hz765)) rfl ?_
           refine shO_on (b := false) 264 rfl (EnvB rfl c768) ?_
           refine ov (v_eql rfl rfl) rfl ?_
           refine ov (v_pick_f (evB rfl c768) rfl) rfl ?_
           refine om rfl rfl (om rfl rfl ?_)
           rcases bool_two some_2 with c774 | c774
           · have r775 := bt r773 c774; clear r773
             refine shO_off (b' := true) 270 rfl (EnvB rfl c774) rfl rfl (shO_off (b' := true) 270 rfl (EnvB rfl c774) rfl rfl (shO_off (b' := true) 270 rfl (EnvB rfl c774) rfl rfl ?_))
             refine ov (v_pick_t (evB rfl c774) rfl) rfl ?_
             refine oa rfl rfl (oa rfl rfl (shO_nil (inBlock_n (id := 19) (shW_region ?_))))
             refine ov (v_add rfl rfl (Lst.r64 hk706 c713 (RowR.lt h619))) rfl ?_
             refine om rfl rfl (shO_nil ?_)
             subst hn707; exact le (kd (kc (kc (kx kr)))) ⟨_, _, rfl, hk714, decide ((l9.length : Int) = 4), true, r775, ((hF711.trans hF742).trans hF759), rfl, (sc rfl (sc rfl (sc rfl (sc rfl (sc rfl (sc rfl (sc rfl (sc rfl (sc rfl (sc rfl (sc rfl (sc rfl (sc rfl (sc rfl (sc rfl (sn _))))))))))))))))⟩
           have r776 := bf r773 c774; clear r773
           refine shO_on (b := false) 270 rfl (EnvB rfl c774) (om rfl rfl (shO_on (b := false) 270 rfl (EnvB rfl c774) ?_))
           refine ov ((v_lenS Tryz.underlying63 rfl).i (SlR.lenI hz765)) rfl ?_
           refine shO_on (b := false) 270 rfl (EnvB rfl c774) ?_
           refine ov (v_gtrK rfl rfl) rfl ?_
           refine ov (v_pick_f (evB rfl c774) rfl) rfl ?_
           refine oa rfl rfl (oa rfl rfl (shO_nil (inBlock_n (id := 19) (shW_region ?_))))
           refine ov (v_add rfl rfl (Lst.r64 hk706 c713 (RowR.lt h619))) rfl ?_
           refine om rfl rfl (shO_nil ?_)
           subst hn707; exact le (kd (kc (kc (kx kr)))) ⟨_, _, rfl, hk714, decide ((l9.length : Int) = 4), decide (0 < (l9.length : Int)), r776, ((hF711.trans hF742).trans hF759), rfl, (sc rfl (sc rfl (sc rfl (sc rfl (sc rfl (sc rfl (sc rfl (sc rfl (sc rfl (sc rfl (sc rfl (sc rfl (sc rfl (sc rfl (sc rfl (sn _))))))))))))))))⟩
         obtain rfl := Lst.zero hk706 c713
         rw [oyezlaw07_BookBlown_l17] at r708
         refine shW_exit (andThen_exit (andThen_exit ?_))
         refine inBlock_exit ?_
         exact mi kr ⟨all_2, some_2, r708, hF711, rfl, (sc rfl (sc rfl (sc rfl (sc rfl (sc rfl (sc rfl (sc rfl (sc rfl (sc rfl (sc rfl (sc rfl (sn _))))))))))))⟩
       rintro e1 F779 _ ⟨all_, some_, r777, hF780, rfl, he778⟩
       refine shW_env _ he778 ?_; clear he778
       replace h628 := h628.mono (slE_ok (iE_ok _)) hF780
       rw [oyezlaw07_BookBlown_j16] at r777
       obtain ⟨k14, h781, r782⟩ := b1_ok r777; clear r777
       refine shW_join (fun e1 F1 L1 => F779 = F1 ∧ L1 = ((b138, .cells #[.int .i64 (houses.length : Int), .int .i64 2, .slice a139 b_hears.length c140, .slice a509 b_readings.length c510, .slice a551 b_cries.length c552] 27 (0, 0)) :: ((b34, .cells #[.int .i64 n, .slice a27 n31 c28] 56 (0, 0)) :: (Lb29 ++ (Lb43 ++ (Lb49 ++ []))))) ∧ e1.sub [(7, .pointer (some ⟨b34, 0, none⟩)), (8, .int .i64 n3), (9, .slice a41 n45 c42), (13, .pointer (some ⟨b138, 0, none⟩)), (26, .slice a626 l7.length c627), (218, .slice a47 n51 c48), (219, .int .i64 (houses.length : Int)), (220, .int .i64 k11), (297, .bool k14)]) ?_ ?_
       · clear r782
         refine shW_region (om rfl rfl (om rfl rfl ?_))
         rcases bool_two all_ with c783 | c783
         · have r784 := bt h781 c783; clear h781
           refine shO_on (b := true) 277 rfl (EnvB rfl c783) (om rfl rfl (shO_on (b := true) 277 rfl (EnvB rfl c783) (om rfl rfl (shO_on (b := true) 277 rfl (EnvB rfl c783) ?_))))
           obtain ⟨x15, g785, hx786, r787⟩ := ix_ok r784; clear r784
           obtain ⟨b788, o789, c790, vs791, ha792, hs793, hle794, ⟨a797, c798, rfl, h799⟩, hl795, hc796⟩ := RowR.at (slE_ok (iE_ok _)) h628 ((b138, .cells #[.int .i64 (houses.length : Int), .int .i64 2, .slice a139 b_hears.length c140, .slice a509 b_readings.length c510, .slice a551 b_cries.length c552] 27 (0, 0)) :: ((b34, .cells #[.int .i64 n, .slice a27 n31 c28] 56 (0, 0)) :: (Lb29 ++ (Lb43 ++ (Lb49 ++ []))))) g785.1 hx786
           refine ov (v_indexO Tryz.underlying68 Tryz.sizeOf71 rfl ha792 rfl g785) rfl ?_
           refine shO_on (b := true) 277 rfl (EnvB rfl c783) ?_
           refine ov (v_load Tryz.isAgg71 rfl hs793 (hc796 0 (by decide))) rfl ?_
           refine shO_on (b := true) 277 rfl (EnvB rfl c783) ?_
           obtain ⟨x16, g800, hx801, r802⟩ := ix_ok r787; clear r787
           obtain ⟨b803, o804, c805, vs806, ha807, hs808, hle809, rfl, hl810, hc811⟩ := RowR.at (iE_ok _) h799 ((b138, .cells #[.int .i64 (houses.length : Int), .int .i64 2, .slice a139 b_hears.length c140, .slice a509 b_readings.length c510, .slice a551 b_cries.length c552] 27 (0, 0)) :: ((b34, .cells #[.int .i64 n, .slice a27 n31 c28] 56 (0, 0)) :: (Lb29 ++ (Lb43 ++ (Lb49 ++ []))))) g800.1 hx801
           refine ov (v_indexO Tryz.underlying71 Tryz.sizeOf72 rfl ha807 rfl g800) rfl ?_
           refine shO_on (b := true) 277 rfl (EnvB rfl c783) ?_
           refine ov (v_load Tryz.isAgg72 rfl hs808 (hc811 0 (by decide))) rfl ?_
           refine shO_on (b := true) 277 rfl (EnvB rfl c783) ?_
           refine ov (v_neq rfl rfl) rfl ?_
           refine ov (v_pick_t (evB rfl c783) rfl) rfl ?_
           refine om rfl rfl ?_
           by_cases c812 : x16 ≠ 1
           · have r813 := ite_t r802 c812; clear r802
             refine shO_off (b' := true) 286 rfl (Env.isT rfl c812) rfl rfl (shO_off (b' := true) 286 rfl (Env.isT rfl c812) rfl rfl (shO_off (b' := true) 286 rfl (Env.isT rfl c812) rfl rfl (shO_off (b' := true) 286 rfl (Env.isT rfl c812) rfl rfl (shO_off (b' := true) 286 rfl (Env.isT rfl c812) rfl rfl (shO_off (b' := true) 286 rfl (Env.isT rfl c812) rfl rfl (shO_off (b' := true) 286 rfl (Env.isT rfl c812) rfl rfl (shO_off (b' := true) 286 rfl (Env.isT rfl c812) rfl rfl (shO_off (b' := true) 286 rfl (Env.isT rfl c812) rfl rfl (shO_off (b' := true) 286 rfl (Env.isT rfl c812) rfl rfl ?_)))))))))
             refine ov (v_pick_t (evD_true rfl c812) rfl) rfl ?_
             refine shO_nil ?_
             obtain rfl := inj1 r813
             exact mi kr ⟨rfl, rfl, (sc rfl (sc rfl (sc rfl (sc rfl (sc rfl (sc rfl (sc rfl (sc rfl (sc rfl (sn _))))))))))⟩
           have r814 := ite_f r802 c812; clear r802
           refine shO_on (b := false) 286 rfl (Env.isF rfl c812) (om rfl rfl (shO_on (b := false) 286 rfl (Env.isF rfl c812) ?_))
           refine ov (v_notB rfl) rfl ?_
           refine shO_on (b := false) 286 rfl (Env.isF rfl c812) (om rfl rfl (shO_on (b := false) 286 rfl (Env.isF rfl c812) (om rfl rfl (shO_on (b := false) 286 rfl (Env.isF rfl c812) ?_))))
           obtain ⟨b815, o816, c817, vs818, ha819, hs820, hle821, ⟨a824, c825, rfl, h826⟩, hl822, hc823⟩ := RowR.at (slE_ok (iE_ok _)) h628 ((b138, .cells #[.int .i64 (houses.length : Int), .int .i64 2, .slice a139 b_hears.length c140, .slice a509 b_readings.length c510, .slice a551 b_cries.length c552] 27 (0, 0)) :: ((b34, .cells #[.int .i64 n, .slice a27 n31 c28] 56 (0, 0)) :: (Lb29 ++ (Lb43 ++ (Lb49 ++ []))))) g785.1 hx786
           refine ov (v_indexO Tryz.underlying68 Tryz.sizeOf71 rfl ha819 rfl g785) rfl ?_
           refine shO_on (b := false) 286 rfl (Env.isF rfl c812) ?_
           refine ov (v_load Tryz.isAgg71 rfl hs820 (hc823 0 (by decide))) rfl ?_
           refine shO_on (b := false) 286 rfl (Env.isF rfl c812) ?_
           obtain ⟨b827, o828, c829, vs830, ha831, hs832, hle833, rfl, hl834, hc835⟩ := RowR.at (iE_ok _) h826 ((b138, .cells #[.int .i64 (houses.length : Int), .int .i64 2, .slice a139 b_hears.length c140, .slice a509 b_readings.length c510, .slice a551 b_cries.length c552] 27 (0, 0)) :: ((b34, .cells #[.int .i64 n, .slice a27 n31 c28] 56 (0, 0)) :: (Lb29 ++ (Lb43 ++ (Lb49 ++ []))))) g800.1 hx801
           refine ov (v_indexO Tryz.underlying71 Tryz.sizeOf72 rfl ha831 rfl g800) rfl ?_
           refine shO_on (b := false) 286 rfl (Env.isF rfl c812) ?_
           refine ov (v_load Tryz.isAgg72 rfl hs832 (hc835 0 (by decide))) rfl ?_
           refine shO_on (b := false) 286 rfl (Env.isF rfl c812) ?_
           refine ov (v_eql rfl rfl) rfl ?_
           refine shO_on (b := false) 286 rfl (Env.isF rfl c812) ?_
           refine ov (v_neqB Tryz.underlying4 rfl rfl) rfl ?_
           refine ov (v_pick_f (evD_false rfl c812) rfl) rfl ?_
           refine shO_nil ?_
           obtain rfl := inj1 r814
           exact mi kr ⟨rfl, rfl, (sc rfl (sc rfl (sc rfl (sc rfl (sc rfl (sc rfl (sc rfl (sc rfl (sc rfl (sn _))))))))))⟩
         have r836 := bf h781 c783; clear h781
         refine shO_off (b' := false) 277 rfl (EnvB rfl c783) rfl rfl (shO_off (b' := false) 277 rfl (EnvB rfl c783) rfl rfl (shO_off (b' := false) 277 rfl (EnvB rfl c783) rfl rfl (shO_off (b' := false) 277 rfl (EnvB rfl c783) rfl rfl (shO_off (b' := false) 277 rfl (EnvB rfl c783) rfl rfl (shO_off (b' := false) 277 rfl (EnvB rfl c783) rfl rfl (shO_off (b' := false) 277 rfl (EnvB rfl c783) rfl rfl ?_))))))
         refine ov (v_pick_f (evB rfl c783) rfl) rfl ?_
         refine om rfl rfl (shO_on (b := false) 286 rfl rfl (om rfl rfl (shO_on (b := false) 286 rfl rfl ?_)))
         refine ov (v_notB rfl) rfl ?_
         refine shO_on (b := false) 286 rfl rfl (om rfl rfl (shO_on (b := false) 286 rfl rfl (om rfl rfl (shO_on (b := false) 286 rfl rfl ?_))))
         obtain ⟨x17, g837, hx838, r839⟩ := ix_ok r836; clear r836
         obtain ⟨b840, o841, c842, vs843, ha844, hs845, hle846, ⟨a849, c850, rfl, h851⟩, hl847, hc848⟩ := RowR.at (slE_ok (iE_ok _)) h628 ((b138, .cells #[.int .i64 (houses.length : Int), .int .i64 2, .slice a139 b_hears.length c140, .slice a509 b_readings.length c510, .slice a551 b_cries.length c552] 27 (0, 0)) :: ((b34, .cells #[.int .i64 n, .slice a27 n31 c28] 56 (0, 0)) :: (Lb29 ++ (Lb43 ++ (Lb49 ++ []))))) g837.1 hx838
         refine ov (v_indexO Tryz.underlying68 Tryz.sizeOf71 rfl ha844 rfl g837) rfl ?_
         refine shO_on (b := false) 286 rfl rfl ?_
         refine ov (v_load Tryz.isAgg71 rfl hs845 (hc848 0 (by decide))) rfl ?_
         refine shO_on (b := false) 286 rfl rfl ?_
         obtain ⟨x18, g852, hx853, r854⟩ := ix_ok r839; clear r839
         obtain ⟨b855, o856, c857, vs858, ha859, hs860, hle861, rfl, hl862, hc863⟩ := RowR.at (iE_ok _) h851 ((b138, .cells #[.int .i64 (houses.length : Int), .int .i64 2, .slice a139 b_hears.length c140, .slice a509 b_readings.length c510, .slice a551 b_cries.length c552] 27 (0, 0)) :: ((b34, .cells #[.int .i64 n, .slice a27 n31 c28] 56 (0, 0)) :: (Lb29 ++ (Lb43 ++ (Lb49 ++ []))))) g852.1 hx853
         refine ov (v_indexO Tryz.underlying71 Tryz.sizeOf72 rfl ha859 rfl g852) rfl ?_
         refine shO_on (b := false) 286 rfl rfl ?_
         refine ov (v_load Tryz.isAgg72 rfl hs860 (hc863 0 (by decide))) rfl ?_
         refine shO_on (b := false) 286 rfl rfl ?_
         refine ov (v_eql rfl rfl) rfl ?_
         refine shO_on (b := false) 286 rfl rfl ?_
         refine ov (v_neqB Tryz.underlying4 rfl rfl) rfl ?_
         refine ov (v_pick_f rfl rfl) rfl ?_
         refine shO_nil ?_
         obtain rfl := inj1 r854
         exact mi kr ⟨rfl, rfl, (sc rfl (sc rfl (sc rfl (sc rfl (sc rfl (sc rfl (sc rfl (sc rfl (sc rfl (sn _))))))))))⟩
       rintro e1 _ _ ⟨rfl, rfl, he864⟩
       refine shW_env _ he864 ?_; clear he864
       refine shW_cond rfl (fun c865 => ?_) (fun c865 => ?_)
       · have r866 := bt r782 c865; clear r782
         refine wsr (oa rfl rfl (shO_nil ?_))
         refine kW kn ?_
         refine shW_ret (inBlock_ret (andThen_ret (andThen_ret (inBlock_ret (andThen_ret ?_)))))
         refine q_res1 Tryz.results4 (res_tmp rfl) (sr) ?_
         obtain rfl := inj1 r866
         exact rfl
       have r867 := bf r782 c865; clear r782
       refine shW_skip (inBlock_n (id := 17) ?_)
       exact mi kr ⟨r867, hF780, rfl, (sc rfl (sc rfl (sc rfl (sc rfl (sc rfl (sc rfl (sc rfl (sc rfl (sn _)))))))))⟩
     rintro e1 F870 _ ⟨r868, hF871, rfl, he869⟩
     refine shW_env _ he869 ?_; clear he869
     replace hz50 := hz50.mono (iE_ok _) hF871
     rw [oyezlaw07_BookBlown_j15] at r868
     refine shW_region ?_
     refine ov (v_add rfl rfl (Lst.r64 hk638 c645 (SlR.llt hz50))) rfl ?_
     refine om rfl rfl (shO_nil ?_)
     subst hn639; exact le kr ⟨_, _, rfl, hk646, r868, (hF643.trans hF871), rfl, (sc rfl (sc rfl (sc rfl (sc rfl (sc rfl (sc rfl (sc rfl (sc rfl (sn _)))))))))⟩
   obtain rfl := Lst.zero hk638 c645
   rw [oyezlaw07_BookBlown_l14] at r640
   refine shW_exit (andThen_exit (andThen_exit ?_))
   refine inBlock_exit ?_
   exact mi kn ⟨r640, hF643, rfl, (sn _)⟩
 rintro e1 F874 _ ⟨r872, hF875, rfl, he873⟩
 refine shW_env _ he873 ?_; clear he873
 rw [oyezlaw07_BookBlown_j13] at r872
 refine wsr ?_
 obtain ⟨ok4, h876, r877⟩ := b1_ok r872; clear r872
 refine o_callV rfl Tryz.call24 rfl rfl rfl (oyezlaw07_awake_w h876) ?_
 refine oa rfl rfl (shO_nil (shW_ret ?_))
 refine q_res1 Tryz.results4 (res_tmp rfl) (sr) ?_
 obtain rfl := inj1 r877
 exact rfl
end Go.Proofs.YtodhcoakjlmcdaaGreat
