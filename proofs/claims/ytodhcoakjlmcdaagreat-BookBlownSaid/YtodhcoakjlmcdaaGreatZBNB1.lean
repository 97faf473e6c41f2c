/- The walks that this claim needs, printed by a program of mine; part 1. -/
import Derived.Test.YtodhcoakjlmcdaaGreatZBTf
import Derived.Test.YtodhcoakjlmcdaaGreatZBTd
namespace Go.Proofs.YtodhcoakjlmcdaaGreat
open Go.SH Go.PL
set_option maxHeartbeats 1000000 in
theorem oyezkit_Bell_ring_w {b_b : Nat} {metal_a : Option Addr} {metal_c : Nat} {metal : List Int} {at_ : Int} {turn : Int} {F : FS} (h_metal : RowR 1 (iE .u8) F metal_a metal_c metal) {r : Int} {r2 : Int} {r3 : Int} (hr : oyezkit_Bell_ring metal at_ turn = some (r, r2, r3)) :
    SH.Spec Tryz.prog 40 #[.pointer (some ⟨b_b, 0, none⟩)] F [(b_b, .cells #[.slice metal_a metal.length metal_c, .int .i64 at_, .int .u32 turn] 95 (0, 0))] fun _ L' v => v = .int .i64 r ∧ L' = [(b_b, .cells #[.slice metal_a metal.length metal_c, .int .i64 r2, .int .u32 r3] 95 (0, 0))] := by
 refine spec_of_shW (args := [.pointer (some ⟨b_b, 0, none⟩)]) Tryz.func40 rfl Tryz.ntmps40 (Nat.le_of_ble_eq_true rfl) ?_
 intro K _ _; rw [oyezkit_Bell_ring] at hr
 refine wsr (oa rfl rfl (shO_nil ?_))
 obtain ⟨b_at, b_turn, h1, r4⟩ := b2_ok hr; clear hr
 refine shW_join (fun e1 F1 L1 => F = F1 ∧ L1 = [(b_b, .cells #[.slice metal_a metal.length metal_c, .int .i64 b_at, .int .u32 b_turn] 95 (0, 0))] ∧ e1.sub [(0, .pointer (some ⟨b_b, 0, none⟩))]) ?_ ?_
 · clear r4
   refine wsd (by kernel_rfl) (by kernel_rfl) (by kernel_rfl) ?_
   refine qm rfl rfl ?_
   refine qv (v_nilCheck rfl) rfl ?_
   refine qv (v_fieldAddr fa_95_1 rfl) rfl ?_
   refine qv (v_load Tryz.isAgg3 rfl (Has.own 0 rfl) rfl) rfl ?_
   refine qm rfl rfl ?_
   refine qv (v_nilCheck rfl) rfl ?_
   refine qv (v_fieldAddr fa_95_0 rfl) rfl ?_
   refine qv (v_load Tryz.isAgg22 rfl (Has.own 0 rfl) rfl) rfl ?_
   refine qv (v_lenS Tryz.underlying22 rfl) rfl ?_
   refine qv (v_eql rfl rfl) rfl ?_
   refine shQ_nil ?_
   refine shW_condP rfl (fun c5 => ?_) (fun c5 => ?_)
   · have r6 := ite_t h1 c5; clear h1
     refine shW_region (om rfl rfl (om rfl rfl (om rfl rfl ?_)))
     refine ov (v_nilCheck rfl) rfl ?_
     refine ov (v_fieldAddr fa_95_2 rfl) rfl ?_
     refine ov (v_load Tryz.isAgg93 rfl (Has.own 0 rfl) rfl) rfl ?_
     refine ov (u_add rfl rfl rfl) rfl ?_
     refine ov (v_nilCheck rfl) rfl ?_
     refine ov (v_fieldAddr fa_95_1 rfl) rfl ?_
     refine o_store (i := 0) Tryz.sizeOf3 rfl rfl rfl rfl (Nat.le_of_ble_eq_true rfl) ?_
     refine shO_L (L' := [(b_b, .cells #[.slice metal_a metal.length metal_c, .int .i64 0, .int .u32 turn] 95 (0, 0))]) rfl ?_
     refine ov (v_nilCheck rfl) rfl ?_
     refine ov (v_fieldAddr fa_95_2 rfl) rfl ?_
     refine o_store (i := 0) Tryz.sizeOf93 rfl rfl rfl rfl (Nat.le_of_ble_eq_true rfl) ?_
     refine shO_L (L' := [(b_b, .cells #[.slice metal_a metal.length metal_c, .int .i64 0, .int .u32 ((turn + 1) % 4294967296)] 95 (0, 0))]) rfl ?_
     refine shO_nil ?_
     obtain ⟨rfl, rfl⟩ := inj2 r6
     exact mi kr ⟨rfl, rfl, (sc rfl (sn _))⟩
   have r7 := ite_f h1 c5; clear h1
   refine shW_skip ?_
   obtain ⟨rfl, rfl⟩ := inj2 r7
   exact mi kr ⟨rfl, rfl, (sc rfl (sn _))⟩
 rintro e1 _ _ ⟨rfl, rfl, he8⟩
 refine shW_env _ he8 ?_; clear he8
 refine wsr (om rfl rfl ?_)
 refine ov (v_nilCheck rfl) rfl ?_
 refine ov (v_fieldAddr fa_95_2 rfl) rfl ?_
 refine ov (v_load Tryz.isAgg93 rfl (Has.own 0 rfl) rfl) rfl ?_
 refine ov (u_mul rfl rfl rfl) rfl ?_
 obtain ⟨n, h9, r10⟩ := bv_ok r4; clear r4
 refine ov ((v_assign rfl).i h9) rfl ?_
 refine shO_nil ?_
 obtain ⟨n2, b_at2, h11, r12⟩ := b2_ok r10; clear r10
 refine shW_join (fun e1 F1 L1 => F = F1 ∧ L1 = [(b_b, .cells #[.slice metal_a metal.length metal_c, .int .i64 b_at2, .int .u32 b_turn] 95 (0, 0))] ∧ e1.sub [(3, .int .u32 n2)]) ?_ ?_
 · clear r12
   refine wsr (om rfl rfl ?_)
   refine ov (v_nilCheck rfl) rfl ?_
   refine ov (v_fieldAddr fa_95_0 rfl) rfl ?_
   refine ov (v_load Tryz.isAgg22 rfl (Has.own 0 rfl) rfl) rfl ?_
   refine ov (v_lenS Tryz.underlying22 rfl) rfl ?_
   refine ov (v_gtrK rfl rfl) rfl ?_
   refine shO_nil ?_
   refine shW_condP rfl (fun c13 => ?_) (fun c13 => ?_)
   · have r14 := ite_t h11 c13; clear h11
     refine wsd (by kernel_rfl) (by kernel_rfl) (by kernel_rfl) ?_
     refine qm rfl rfl (qm rfl rfl ?_)
     refine qv (v_nilCheck rfl) rfl ?_
     refine qv (v_fieldAddr fa_95_0 rfl) rfl ?_
     refine qv (v_load Tryz.isAgg22 rfl (Has.own 0 rfl) rfl) rfl ?_
     refine qm rfl rfl ?_
     refine qv (v_nilCheck rfl) rfl ?_
     refine qv (v_fieldAddr fa_95_1 rfl) rfl ?_
     refine qv (v_load Tryz.isAgg3 rfl (Has.own 0 rfl) rfl) rfl ?_
     obtain ⟨x, g15, hx16, r17⟩ := ix_ok r14; clear r14
     obtain ⟨b18, o19, c20, vs21, ha22, hs23, hle24, rfl, hl25, hc26⟩ := RowR.at (iE_ok _) h_metal ([(b_b, .cells #[.slice metal_a metal.length metal_c, .int .i64 b_at, .int .u32 b_turn] 95 (0, 0))]) g15.1 hx16
     refine qv (v_indexO Tryz.underlying22 Tryz.sizeOf5 rfl ha22 rfl g15) rfl ?_
     refine qv (v_load Tryz.isAgg5 rfl hs23 (hc26 0 (by decide))) rfl ?_
     refine qv (u_conv rfl Tryz.underlying5 Tryz.underlying93 rfl) rfl ?_
     refine qv (u_mul rfl rfl rfl) rfl ?_
     refine qv (u_add rfl rfl rfl) rfl ?_
     obtain ⟨n3, h27, r28⟩ := bv_ok r17; clear r17
     refine qv ((v_assign rfl).i h27) rfl ?_
     refine shQ_nil (shW_region (om rfl rfl ?_))
     refine ov (v_nilCheck rfl) rfl ?_
     refine ov (v_fieldAddr fa_95_1 rfl) rfl ?_
     refine ov (v_load Tryz.isAgg3 rfl (Has.own 0 rfl) rfl) rfl ?_
     obtain ⟨g29, r30⟩ := gd_ok r28; clear r28
     refine ov (v_add rfl rfl g29) rfl ?_
     refine ov (v_nilCheck rfl) rfl ?_
     refine ov (v_fieldAddr fa_95_1 rfl) rfl ?_
     refine o_store (i := 0) Tryz.sizeOf3 rfl rfl rfl rfl (Nat.le_of_ble_eq_true rfl) ?_
     refine shO_L (L' := [(b_b, .cells #[.slice metal_a metal.length metal_c, .int .i64 (b_at + 1), .int .u32 b_turn] 95 (0, 0))]) rfl ?_
     refine shO_nil ?_
     obtain ⟨rfl, rfl⟩ := inj2 r30
     exact mi kr ⟨rfl, rfl, (sc rfl (sn _))⟩
   have r31 := ite_f h11 c13; clear h11
   refine shW_skip ?_
   obtain ⟨rfl, rfl⟩ := inj2 r31
   exact mi kr ⟨rfl, rfl, (sc rfl (sn _))⟩
 rintro e1 _ _ ⟨rfl, rfl, he32⟩
 refine shW_env _ he32 ?_; clear he32
 refine wsr (om rfl rfl (om rfl rfl ?_))
 refine ov (v_shr rfl rfl (by decide)) rfl ?_
 refine ov (u_xor rfl rfl rfl) rfl ?_
 refine ov (u_and rfl rfl rfl) rfl ?_
 obtain ⟨g33, r34⟩ := gd_ok r12; clear r12
 refine ov (i_conv Tryz.underlying93 Tryz.underlying3 rfl g33) rfl ?_
 refine oa rfl rfl (shO_nil (shW_ret ?_))
 refine q_res1 Tryz.results40 (res_tmp rfl) (sr) ?_
 obtain ⟨rfl, rfl, rfl⟩ := inj3 r34
 exact ⟨rfl, rfl⟩
set_option maxHeartbeats 1000000 in
theorem oyezkit_Bell_Stroke_w {b_b : Nat} {metal_a : Option Addr} {metal_c : Nat} {metal : List Int} {at_ : Int} {turn : Int} {n : Int} {F : FS} (h_metal : RowR 1 (iE .u8) F metal_a metal_c metal) {r : Int} {r2 : Int} {r3 : Int} (hr : oyezkit_Bell_Stroke metal at_ turn n = some (r, r2, r3)) :
    SH.Spec Tryz.prog 8 #[.pointer (some ⟨b_b, 0, none⟩), .int .i64 n] F [(b_b, .cells #[.slice metal_a metal.length metal_c, .int .i64 at_, .int .u32 turn] 95 (0, 0))] fun _ L' v => v = .int .i64 r ∧ L' = [(b_b, .cells #[.slice metal_a metal.length metal_c, .int .i64 r2, .int .u32 r3] 95 (0, 0))] := by
 refine spec_of_shW (args := [.pointer (some ⟨b_b, 0, none⟩), .int .i64 n]) Tryz.func8 rfl Tryz.ntmps8 (Nat.le_of_ble_eq_true rfl) ?_
 intro K _ _; rw [oyezkit_Bell_Stroke] at hr
 refine wsr (oa rfl rfl (nsr (om rfl rfl ?_)))
 obtain ⟨n2, at_2, turn2, h1, r4⟩ := b3_ok hr; clear hr
 refine o_callG (Lb := [(b_b, .cells #[.slice metal_a metal.length metal_c, .int .i64 at_, .int .u32 turn] 95 (0, 0))]) (Lr := []) rfl Tryz.call40 rfl rfl rfl (pR) (oyezkit_Bell_ring_w h_metal h1) ?_; rintro _ F5 _ hF6 hd8 hn7 ⟨rfl, rfl⟩
 refine shO_L (lb (ln rfl)) ?_
 refine om rfl rfl ?_
 obtain ⟨g9, r10⟩ := gd_ok r4; clear r4
 refine ov (v_add rfl rfl g9) rfl ?_
 refine ov (v_max2 rfl rfl) rfl ?_
 obtain ⟨g11, r12⟩ := gd_ok r10; clear r10
 refine ov (v_remT rfl rfl g11) rfl ?_
 refine oa rfl rfl (shO_nil (shW_ret ?_))
 refine q_res1 Tryz.results8 (res_tmp rfl) (sr) ?_
 obtain ⟨rfl, rfl, rfl⟩ := inj3 r12
 exact ⟨rfl, rfl⟩
set_option maxHeartbeats 1000000 in
theorem oyezkit_Bell_Strike_w {b_b : Nat} {metal_a : Option Addr} {metal_c : Nat} {metal : List Int} {at_ : Int} {turn : Int} {lo : Int} {hi : Int} {F : FS} (h_metal : RowR 1 (iE .u8) F metal_a metal_c metal) {r : Int} {r2 : Int} {r3 : Int} (hr : oyezkit_Bell_Strike metal at_ turn lo hi = some (r, r2, r3)) :
    SH.Spec Tryz.prog 28 #[.pointer (some ⟨b_b, 0, none⟩), .int .i64 lo, .int .i64 hi] F [(b_b, .cells #[.slice metal_a metal.length metal_c, .int .i64 at_, .int .u32 turn] 95 (0, 0))] fun _ L' v => v = .int .i64 r ∧ L' = [(b_b, .cells #[.slice metal_a metal.length metal_c, .int .i64 r2, .int .u32 r3] 95 (0, 0))] := by
 refine spec_of_shW (args := [.pointer (some ⟨b_b, 0, none⟩), .int .i64 lo, .int .i64 hi]) Tryz.func28 rfl Tryz.ntmps28 (Nat.le_of_ble_eq_true rfl) ?_
 intro K _ _; rw [oyezkit_Bell_Strike] at hr
 refine wsr (oa rfl rfl (nsr (om rfl rfl (om rfl rfl (om rfl rfl (om rfl rfl ?_))))))
 obtain ⟨g1, r4⟩ := gd_ok hr; clear hr
 refine ov (v_sub rfl rfl g1) rfl ?_
 obtain ⟨n, at_2, turn2, h5, r6⟩ := b3_ok r4; clear r4
 refine o_callG (Lb := [(b_b, .cells #[.slice metal_a metal.length metal_c, .int .i64 at_, .int .u32 turn] 95 (0, 0))]) (Lr := []) rfl Tryz.call8 rfl rfl rfl (pR) (oyezkit_Bell_Stroke_w h_metal h5) ?_; rintro _ F7 _ hF8 hd10 hn9 ⟨rfl, rfl⟩
 refine shO_L (lb (ln rfl)) ?_
 obtain ⟨g11, r12⟩ := gd_ok r6; clear r6
 refine ov (v_add rfl rfl g11) rfl ?_
 refine oa rfl rfl (shO_nil (shW_ret ?_))
 refine q_res1 Tryz.results28 (res_tmp rfl) (sr) ?_
 obtain ⟨rfl, rfl, rfl⟩ := inj3 r12
 exact ⟨rfl, rfl⟩
set_option maxHeartbeats 1000000 in
theorem oyezkit_Hang_w {metal_a : Option Addr} {metal_c : Nat} {metal : List Int} {F : FS} (h_metal : RowR 1 (iE .u8) F metal_a metal_c metal) {r : List Int} {r2 : Int} {r3 : Int} (hr : oyezkit_Hang metal = some (r, r2, r3)) :
    SH.Spec Tryz.prog 7 #[.slice metal_a metal.length metal_c] F [] fun F' L' v => ∃ (rb : Nat) (ra : Option Addr) (rc : Nat), v = .pointer (some ⟨rb, 0, none⟩) ∧ L' = [(rb, .cells #[.slice ra r.length rc, .int .i64 r2, .int .u32 r3] 95 (0, 0))] ∧ RowR 1 (iE .u8) F' ra rc r := by
 refine spec_of_shW (args := [.slice metal_a metal.length metal_c]) Tryz.func7 rfl Tryz.ntmps7 (Nat.le_of_ble_eq_true rfl) ?_
 intro K _ _; rw [oyezkit_Hang] at hr
 refine wsr (oa rfl rfl (nsr (om rfl rfl ?_)))
 refine ov (v_build (v := .agg #[.slice metal_a metal.length metal_c, .int .i64 0, .int .u32 0]) rfl (by intro w; kernel_rfl)) rfl ?_
 refine o_box rfl rfl ?_; intro b1 hb1
 refine oa rfl rfl (shO_nil (shW_ret ?_))
 refine q_res1 Tryz.results7 (res_tmp rfl) (sr) ?_
 obtain ⟨rfl, rfl, rfl⟩ := inj3 hr
 exact ⟨_, _, _, rfl, rfl, h_metal⟩
set_option maxHeartbeats 1000000 in
theorem cmp_isNaN_int_w {x : Int} {F : FS} {r : Bool} (hr : cmp_isNaN_int x = some r) :
    SpecV Tryz.prog 90 #[.int .i64 x] F (.bool r) := by
 refine spec_of_shW (args := [.int .i64 x]) Tryz.func90 rfl Tryz.ntmps90 (Nat.le_of_ble_eq_true rfl) ?_
 intro K _ _; rw [cmp_isNaN_int] at hr
 refine wsr (oa rfl rfl (nsr (om rfl rfl (om rfl rfl ?_))))
 refine ov (v_neq rfl rfl) rfl ?_
 refine oa rfl rfl (shO_nil (shW_ret ?_))
 refine q_res1 Tryz.results90 (res_tmp rfl) (sr) ?_
 obtain rfl := inj1 hr
 exact rfl
set_option maxHeartbeats 1000000 in
theorem cmp_Compare_int_w {x : Int} {y : Int} {F : FS} {r : Int} (hr : cmp_Compare_int x y = some r) :
    SpecV Tryz.prog 63 #[.int .i64 x, .int .i64 y] F (.int .i64 r) := by
 refine spec_of_shW (args := [.int .i64 x, .int .i64 y]) Tryz.func63 rfl Tryz.ntmps63 (Nat.le_of_ble_eq_true rfl) ?_
 intro K _ _; rw [cmp_Compare_int] at hr
 refine wsr (oa rfl rfl (nsr (om rfl rfl ?_)))
 obtain ⟨ok, h1, r2⟩ := b1_ok hr; clear hr
 refine o_callV rfl Tryz.call90 rfl rfl rfl (cmp_isNaN_int_w h1) ?_
 refine oa rfl rfl (nsr (om rfl rfl ?_))
 obtain ⟨ok2, h3, r4⟩ := b1_ok r2; clear r2
 refine o_callV rfl Tryz.call90 rfl rfl rfl (cmp_isNaN_int_w h3) ?_
 refine oa rfl rfl (shO_nil (shW_seq (wsr (om rfl rfl (shO_nil ?_)))))
 refine shW_cond rfl (fun c5 => ?_) (fun c5 => ?_)
 · have r6 := bt r4 c5; clear r4
   refine shW_seq (wsr (om rfl rfl (shO_nil ?_)))
   refine shW_cond rfl (fun c7 => ?_) (fun c7 => ?_)
   · have r8 := bt r6 c7; clear r6
     refine wsr (oa rfl rfl (shO_nil (shW_ret (andThen_ret (andThen_ret ?_)))))
     refine q_res1 Tryz.results63 (res_tmp rfl) (sr) ?_
     obtain rfl := inj1 r8
     exact rfl
   have r9 := bf r6 c7; clear r6
   refine shW_skip (wsr (oa rfl rfl (shO_nil (shW_ret (andThen_ret ?_)))))
   refine q_res1 Tryz.results63 (res_tmp rfl) (sr) ?_
   obtain rfl := inj1 r9
   exact rfl
 have r10 := bf r4 c5; clear r4
 refine shW_skip (shW_seq (wsr (om rfl rfl (shO_nil ?_))))
 refine shW_cond rfl (fun c11 => ?_) (fun c11 => ?_)
 · have r12 := bt r10 c11; clear r10
   refine wsr (oa rfl rfl (shO_nil (shW_ret (andThen_ret ?_))))
   refine q_res1 Tryz.results63 (res_tmp rfl) (sr) ?_
   obtain rfl := inj1 r12
   exact rfl
 have r13 := bf r10 c11; clear r10
 refine shW_skip (shW_seq (wsr (om rfl rfl (om rfl rfl ?_))))
 refine ov (v_lssK rfl rfl) rfl ?_
 refine shO_nil ?_
 refine shW_condP rfl (fun c14 => ?_) (fun c14 => ?_)
 · have r15 := ite_t r13 c14; clear r13
   refine wsr (oa rfl rfl (shO_nil (shW_ret (andThen_ret ?_))))
   refine q_res1 Tryz.results63 (res_tmp rfl) (sr) ?_
   obtain rfl := inj1 r15
   exact rfl
 have r16 := ite_f r13 c14; clear r13
 refine shW_skip (shW_seq (wsr (om rfl rfl (om rfl rfl ?_))))
 refine ov (v_gtrK rfl rfl) rfl ?_
 refine shO_nil ?_
 refine shW_condP rfl (fun c17 => ?_) (fun c17 => ?_)
 · have r18 := ite_t r16 c17; clear r16
   refine wsr (oa rfl rfl (shO_nil (shW_ret (andThen_ret ?_))))
   refine q_res1 Tryz.results63 (res_tmp rfl) (sr) ?_
   obtain rfl := inj1 r18
   exact rfl
 have r19 := ite_f r16 c17; clear r16
 refine shW_skip (wsr (oa rfl rfl (shO_nil (shW_ret ?_))))
 refine q_res1 Tryz.results63 (res_tmp rfl) (sr) ?_
 obtain rfl := inj1 r19
 exact rfl
set_option maxHeartbeats 1000000 in
theorem slices_Compare_int_int_w {s1_a : Option Addr} {s1_c : Nat} {s1 : List Int} {s2_a : Option Addr} {s2_c : Nat} {s2 : List Int} {F : FS} (h_s1 : RowR 1 (iE .i64) F s1_a s1_c s1) (h_s2 : RowR 1 (iE .i64) F s2_a s2_c s2) {r : Int} (hr : slices_Compare_int_int s1 s2 = some r) :
    SpecV Tryz.prog 23 #[.slice s1_a s1.length s1_c, .slice s2_a s2.length s2_c] F (.int .i64 r) := by
 refine spec_of_shW (args := [.slice s1_a s1.length s1_c, .slice s2_a s2.length s2_c]) Tryz.func23 rfl Tryz.ntmps23 (Nat.le_of_ble_eq_true rfl) ?_
 intro K _ _; rw [slices_Compare_int_int] at hr
 refine wsr (oa rfl rfl (shO_nil ?_))
 refine shW_join (fun e1 F1 L1 => slices_Compare_int_int_j1 s1 s2 = some r ∧ F = F1 ∧ L1 = [] ∧ e1.sub [(0, .slice s1_a s1.length s1_c), (1, .slice s2_a s2.length s2_c)]) ?_ ?_
 · refine wsr (om rfl rfl ?_)
   refine ov (v_lenS Tryz.underlying24 rfl) rfl ?_
   refine om rfl rfl (shO_nil ?_)
   refine shW_block ?_
   refine shW_lp (fun fu2 e1 F1 L1 => ∃ (tl : List Int) (k : Int), tl.length = fu2 ∧ Lst s1 k tl ∧ slices_Compare_int_int_l2 s1 s2 tl k = some r ∧ F = F1 ∧ L1 = [] ∧ e1.sub [(0, .slice s1_a s1.length s1_c), (1, .slice s2_a s2.length s2_c), (9, .slice s1_a s1.length s1_c), (10, .int .i64 (s1.length : Int)), (11, .int .i64 k)]) _ (m0 kr ⟨_, _, rfl, Lst.start _, hr, rfl, rfl, (sc rfl (sc rfl (sc rfl (sc rfl (sc rfl (sn _))))))⟩) ?_
   rintro fu2 e1 _ _ ⟨tl, k, hn2, hk1, r3, rfl, rfl, he4⟩
   refine shW_env _ he4 ?_; clear he4
   refine wsr ?_
   refine ov (v_lssK rfl rfl) rfl ?_
   refine shO_nil (shW_seq ?_)
   refine shW_condP rfl (fun c6 => ?_) (fun c6 => ?_)
   · obtain ⟨x, tl2, rfl, hx8, g9, hk7⟩ := Lst.succ hk1 c6
     rw [slices_Compare_int_int_l2] at r3
     refine shW_skip (shW_seq ?_)
     refine shW_block ?_
     refine wsr (om rfl rfl ?_)
     obtain ⟨b10, o11, c12, vs13, ha14, hs15, hle16, rfl, hl17, hc18⟩ := RowR.at (iE_ok _) h_s1 ([]) g9.1 hx8
     refine ov (v_indexO Tryz.underlying24 Tryz.sizeOf3 rfl ha14 rfl g9) rfl ?_
     refine ov (v_load Tryz.isAgg3 rfl hs15 (hc18 0 (by decide))) rfl ?_
     refine oa rfl rfl (oa rfl rfl (shO_nil (shW_seq (wsr (om rfl rfl (om rfl rfl ?_))))))
     refine ov (v_lenS Tryz.underlying24 rfl) rfl ?_
     refine ov (v_geqK rfl rfl) rfl ?_
     refine shO_nil ?_
     refine shW_condP rfl (fun c19 => ?_) (fun c19 => ?_)
     · have r20 := ite_t r3 c19; clear r3
       refine wsr (oa rfl rfl (shO_nil (shW_ret (andThen_ret (inBlock_ret (andThen_ret (andThen_ret (inBlock_ret (andThen_ret ?_)))))))))
       refine q_res1 Tryz.results23 (res_tmp rfl) (sr) ?_
       obtain rfl := inj1 r20
       exact rfl
     have r21 := ite_f r3 c19; clear r3
     refine shW_skip (wsr (om rfl rfl (om rfl rfl ?_)))
     obtain ⟨x2, g22, hx23, r24⟩ := ix_ok r21; clear r21
     obtain ⟨b25, o26, c27, vs28, ha29, hs30, hle31, rfl, hl32, hc33⟩ := RowR.at (iE_ok _) h_s2 ([]) g22.1 hx23
     refine ov (v_indexO Tryz.underlying24 Tryz.sizeOf3 rfl ha29 rfl g22) rfl ?_
     refine ov (v_load Tryz.isAgg3 rfl hs30 (hc33 0 (by decide))) rfl ?_
     refine oa rfl rfl (nsr (om rfl rfl (om rfl rfl ?_)))
     obtain ⟨n, h34, r35⟩ := b1_ok r24; clear r24
     refine o_callV rfl Tryz.call63 rfl rfl rfl (cmp_Compare_int_w h34) ?_
     refine oa rfl rfl (nsr (om rfl rfl ?_))
     refine ov (v_neq rfl rfl) rfl ?_
     refine shO_nil ?_
     refine shW_condP rfl (fun c36 => ?_) (fun c36 => ?_)
     · have r37 := ite_t r35 c36; clear r35
       refine wsr (om rfl rfl (oa rfl rfl (shO_nil (shW_ret (inBlock_ret (andThen_ret (andThen_ret (inBlock_ret (andThen_ret ?_)))))))))
       refine q_res1 Tryz.results23 (res_tmp rfl) (sr) ?_
       obtain rfl := inj1 r37
       exact rfl
     have r38 := ite_f r35 c36; clear r35
     refine shW_skip (inBlock_n (id := 1) (shW_region ?_))
     refine ov (v_add rfl rfl (Lst.r64 hk1 c6 (RowR.lt h_s1))) rfl ?_
     refine om rfl rfl (shO_nil ?_)
     subst hn2; exact le kr ⟨_, _, rfl, hk7, r38, rfl, rfl, (sc rfl (sc rfl (sc rfl (sc rfl (sc rfl (sn _))))))⟩
   obtain rfl := Lst.zero hk1 c6
   rw [slices_Compare_int_int_l2] at r3
   refine shW_exit (andThen_exit (andThen_exit ?_))
   refine inBlock_exit ?_
   exact mi kr ⟨r3, rfl, rfl, (sc rfl (sc rfl (sn _)))⟩
 rintro e1 _ _ ⟨r39, rfl, rfl, he40⟩
 refine shW_env _ he40 ?_; clear he40
 rw [slices_Compare_int_int_j1] at r39
 refine shW_seq (wsr (om rfl rfl ?_))
 refine ov (v_lenS Tryz.underlying24 rfl) rfl ?_
 refine om rfl rfl ?_
 refine ov (v_lenS Tryz.underlying24 rfl) rfl ?_
 refine ov (v_lssK rfl rfl) rfl ?_
 refine shO_nil ?_
 refine shW_condP rfl (fun c41 => ?_) (fun c41 => ?_)
 · have r42 := ite_t r39 c41; clear r39
   refine wsr (oa rfl rfl (shO_nil (shW_ret (andThen_ret ?_))))
   refine q_res1 Tryz.results23 (res_tmp rfl) (sr) ?_
   obtain rfl := inj1 r42
   exact rfl
 have r43 := ite_f r39 c41; clear r39
 refine shW_skip (wsr (oa rfl rfl (shO_nil (shW_ret ?_))))
 refine q_res1 Tryz.results23 (res_tmp rfl) (sr) ?_
 obtain rfl := inj1 r43
 exact rfl
set_option maxHeartbeats 1000000 in
theorem slices_IndexFunc_int_int_w {s__a : Option Addr} {s__c : Nat} {s_ : List Int} {f_f : FuncId} {f_1 : Array Value} {f_2 : Array Value} {f : Int → Option Bool} {F : FS} (h_s_ : RowR 1 (iE .i64) F s__a s__c s_) (h_f : FnR Tryz.prog F f_f f_1 f_2 (iE .i64) Value.bool f) {r : Int} (hr : slices_IndexFunc_int_int s_ f = some r) :
    SpecV Tryz.prog 61 #[.slice s__a s_.length s__c, .func (.func f_f) f_1 f_2] F (.int .i64 r) := by
 refine spec_of_shW (args := [.slice s__a s_.length s__c, .func (.func f_f) f_1 f_2]) Tryz.func61 rfl Tryz.ntmps61 (Nat.le_of_ble_eq_true rfl) ?_
 intro K _ _; rw [slices_IndexFunc_int_int] at hr
 refine wsr (oa rfl rfl (shO_nil ?_))
 refine shW_join (fun e1 F1 L1 => slices_IndexFunc_int_int_j1 = some r ∧ F = F1 ∧ L1 = [] ∧ e1.sub []) ?_ ?_
 · refine wsr (om rfl rfl ?_)
   refine ov (v_lenS Tryz.underlying24 rfl) rfl ?_
   refine om rfl rfl (shO_nil ?_)
   refine shW_block ?_
   refine shW_lp (fun fu2 e1 F1 L1 => ∃ (tl : List Int) (k : Int), tl.length = fu2 ∧ Lst s_ k tl ∧ slices_IndexFunc_int_int_l2 f tl k = some r ∧ F = F1 ∧ L1 = [] ∧ e1.sub [(0, .slice s__a s_.length s__c), (1, .func (.func f_f) f_1 f_2), (7, .int .i64 (s_.length : Int)), (8, .int .i64 k)]) _ (m0 kr ⟨_, _, rfl, Lst.start _, hr, rfl, rfl, (sc rfl (sc rfl (sc rfl (sc rfl (sn _)))))⟩) ?_
   rintro fu2 e1 _ _ ⟨tl, k, hn2, hk1, r3, rfl, rfl, he4⟩
   refine shW_env _ he4 ?_; clear he4
   refine wsr ?_
   refine ov (v_lssK rfl rfl) rfl ?_
   refine shO_nil (shW_seq ?_)
   refine shW_condP rfl (fun c6 => ?_) (fun c6 => ?_)
   · obtain ⟨x, tl2, rfl, hx8, g9, hk7⟩ := Lst.succ hk1 c6
     rw [slices_IndexFunc_int_int_l2] at r3
     refine shW_skip (shW_seq ?_)
     refine shW_block ?_
     refine wsr (om rfl rfl (oa rfl rfl (nsr (om rfl rfl (om rfl rfl (om rfl rfl ?_))))))
     obtain ⟨b10, o11, c12, vs13, ha14, hs15, hle16, rfl, hl17, hc18⟩ := RowR.at (iE_ok _) h_s_ ([]) g9.1 hx8
     refine ov (v_indexO Tryz.underlying24 Tryz.sizeOf3 rfl ha14 rfl g9) rfl ?_
     refine ov (v_load Tryz.isAgg3 rfl hs15 (hc18 0 (by decide))) rfl ?_
     obtain ⟨ok, h19, r20⟩ := b1_ok r3; clear r3
     refine o_callV rfl h_f.1 rfl rfl rfl (h_f.2 _ (FExt.refl _) _ _ _ rfl h19) ?_
     refine shO_nil ?_
     refine shW_cond rfl (fun c21 => ?_) (fun c21 => ?_)
     · have r22 := bt r20 c21; clear r20
       refine wsr (om rfl rfl (oa rfl rfl (shO_nil (shW_ret (inBlock_ret (andThen_ret (andThen_ret (inBlock_ret (andThen_ret ?_)))))))))
       refine q_res1 Tryz.results61 (res_tmp rfl) (sr) ?_
       obtain rfl := inj1 r22
       exact rfl
     have r23 := bf r20 c21; clear r20
     refine shW_skip (inBlock_n (id := 1) (shW_region ?_))
     refine ov (v_add rfl rfl (Lst.r64 hk1 c6 (RowR.lt h_s_))) rfl ?_
     refine om rfl rfl (shO_nil ?_)
     subst hn2; exact le kr ⟨_, _, rfl, hk7, r23, rfl, rfl, (sc rfl (sc rfl (sc rfl (sc rfl (sn _)))))⟩
   obtain rfl := Lst.zero hk1 c6
   rw [slices_IndexFunc_int_int_l2] at r3
   refine shW_exit (andThen_exit (andThen_exit ?_))
   refine inBlock_exit ?_
   exact mi kr ⟨r3, rfl, rfl, (sn _)⟩
 rintro e1 _ _ ⟨r24, rfl, rfl, he25⟩
 refine shW_env _ he25 ?_; clear he25
 rw [slices_IndexFunc_int_int_j1] at r24
 refine wsr (oa rfl rfl (shO_nil (shW_ret ?_)))
 refine q_res1 Tryz.results61 (res_tmp rfl) (sr) ?_
 obtain rfl := inj1 r24
 exact rfl
set_option maxHeartbeats 1000000 in
theorem slices_ContainsFunc_int_int_w {s__a : Option Addr} {s__c : Nat} {s_ : List Int} {f_f : FuncId} {f_1 : Array Value} {f_2 : Array Value} {f : Int → Option Bool} {F : FS} (h_s_ : RowR 1 (iE .i64) F s__a s__c s_) (h_f : FnR Tryz.prog F f_f f_1 f_2 (iE .i64) Value.bool f) {r : Bool} (hr : slices_ContainsFunc_int_int s_ f = some r) :
    SpecV Tryz.prog 57 #[.slice s__a s_.length s__c, .func (.func f_f) f_1 f_2] F (.bool r) := by
 refine spec_of_shW (args := [.slice s__a s_.length s__c, .func (.func f_f) f_1 f_2]) Tryz.func57 rfl Tryz.ntmps57 (Nat.le_of_ble_eq_true rfl) ?_
 intro K _ _; rw [slices_ContainsFunc_int_int] at hr
 refine wsr (oa rfl rfl (nsr (om rfl rfl (om rfl rfl ?_))))
 obtain ⟨n, h1, r2⟩ := b1_ok hr; clear hr
 refine o_callV rfl Tryz.call61 rfl rfl rfl (slices_IndexFunc_int_int_w h_s_ h_f h1) ?_
 refine ov (v_geqK rfl rfl) rfl ?_
 refine oa rfl rfl (shO_nil (shW_ret ?_))
 refine q_res1 Tryz.results57 (res_tmp rfl) (sr) ?_
 obtain rfl := inj1 r2
 exact rfl
set_option maxHeartbeats 1000000 in
theorem book_every_int_1_w {x : Int} {b_so : Nat} {so_f : FuncId} {so_1 : Array Value} {so_2 : Array Value} {so : Int → Option Bool} {mb_so : Nat × Nat} {F : FS} (hb_so : F b_so = some (.cells #[.func (.func so_f) so_1 so_2] 34 mb_so)) (h_so : FnR Tryz.prog F so_f so_1 so_2 (iE .i64) Value.bool so) {r : Bool} (hr : book_every_int_1 x so = some r) :
    SpecV Tryz.prog 88 #[.int .i64 x, .pointer (some ⟨b_so, 0, none⟩)] F (.bool r) := by
 refine spec_of_shW (args := [.int .i64 x, .pointer (some ⟨b_so, 0, none⟩)]) Tryz.func88 rfl Tryz.ntmps88 (Nat.le_of_ble_eq_true rfl) ?_
 intro K _ _; rw [book_every_int_1] at hr
 refine wsr (oa rfl rfl (nsr ?_))
 refine ov (v_load Tryz.isAgg34 rfl (Has.frozen hb_so) rfl) rfl ?_
 refine om rfl rfl ?_
 obtain ⟨ok, h1, r2⟩ := b1_ok hr; clear hr
 refine o_callV rfl h_so.1 rfl rfl rfl (h_so.2 _ (FExt.refl _) _ _ _ rfl h1) ?_
 refine ov (v_notB rfl) rfl ?_
 refine oa rfl rfl (shO_nil (shW_ret ?_))
 refine q_res1 Tryz.results88 (res_tmp rfl) (sr) ?_
 obtain rfl := inj1 r2
 exact rfl
set_option maxHeartbeats 1000000 in
theorem book_every_int_w {l_a : Option Addr} {l_c : Nat} {l : List Int} {so_f : FuncId} {so_1 : Array Value} {so_2 : Array Value} {so : Int → Option Bool} {F : FS} (h_l : RowR 1 (iE .i64) F l_a l_c l) (h_so : FnR Tryz.prog F so_f so_1 so_2 (iE .i64) Value.bool so) {r : Bool} (hr : book_every_int l so = some r) :
    SpecV Tryz.prog 45 #[.slice l_a l.length l_c, .func (.func so_f) so_1 so_2] F (.bool r) := by
 refine spec_of_shW (args := [.slice l_a l.length l_c, .func (.func so_f) so_1 so_2]) Tryz.func45 rfl Tryz.ntmps45 (Nat.le_of_ble_eq_true rfl) ?_
 intro K _ _; rw [book_every_int] at hr
 refine wsr ?_
 refine o_box rfl rfl ?_; intro b1 hb1
 refine oa rfl rfl (nsr (om rfl rfl ?_))
 refine ov (v_makeFunc rfl rfl) rfl ?_
 refine shO_freeze 0 rfl hb1 ?_; intro F2 hF3 hz4
 refine shO_L (L' := []) rfl ?_
 replace h_l := h_l.mono (iE_ok _) hF3
 replace h_so := h_so.mono hF3
 have hn5 : FnR Tryz.prog F2 88 #[] #[.pointer (some ⟨b1, 0, none⟩)] (iE .i64) Value.bool (fun xx_ : Int => book_every_int_1 xx_ so) := ⟨Tryz.call88, fun F2 h2 vs xx_ r ha hr => by obtain rfl := ha; exact book_every_int_1_w (h2 _ _ hz4) (h_so.mono h2) hr⟩
 obtain ⟨ok, h6, r7⟩ := b1_ok hr; clear hr
 refine o_callV rfl Tryz.call57 rfl rfl rfl (slices_ContainsFunc_int_int_w h_l hn5 h6) ?_
 refine ov (v_notB rfl) rfl ?_
 refine oa rfl rfl (shO_nil (shW_ret ?_))
 refine q_res1 Tryz.results45 (res_tmp rfl) (sr) ?_
 obtain rfl := inj1 r7
 exact rfl
set_option maxHeartbeats 1000000 in
theorem slices_Index_int_int_w {s__a : Option Addr} {s__c : Nat} {s_ : List Int} {v : Int} {F : FS} (h_s_ : RowR 1 (iE .i64) F s__a s__c s_) {r : Int} (hr : slices_Index_int_int s_ v = some r) :
    SpecV Tryz.prog 60 #[.slice s__a s_.length s__c, .int .i64 v] F (.int .i64 r) := by
 refine spec_of_shW (args := [.slice s__a s_.length s__c, .int .i64 v]) Tryz.func60 rfl Tryz.ntmps60 (Nat.le_of_ble_eq_true rfl) ?_
 intro K _ _; rw [slices_Index_int_int] at hr
 refine wsr (oa rfl rfl (shO_nil ?_))
 refine shW_join (fun e1 F1 L1 => slices_Index_int_int_j1 = some r ∧ F = F1 ∧ L1 = [] ∧ e1.sub []) ?_ ?_
 · refine wsr (om rfl rfl ?_)
   refine ov (v_lenS Tryz.underlying24 rfl) rfl ?_
   refine om rfl rfl (shO_nil ?_)
   refine shW_block ?_
   refine shW_lp (fun fu2 e1 F1 L1 => ∃ (tl : List Int) (k : Int), tl.length = fu2 ∧ Lst s_ k tl ∧ slices_Index_int_int_l2 v tl k = some r ∧ F = F1 ∧ L1 = [] ∧ e1.sub [(0, .slice s__a s_.length s__c), (1, .int .i64 v), (7, .int .i64 (s_.length : Int)), (8, .int .i64 k)]) _ (m0 kr ⟨_, _, rfl, Lst.start _, hr, rfl, rfl, (sc rfl (sc rfl (sc rfl (sc rfl (sn _)))))⟩) ?_
   rintro fu2 e1 _ _ ⟨tl, k, hn2, hk1, r3, rfl, rfl, he4⟩
   refine shW_env _ he4 ?_; clear he4
   refine wsr ?_
   refine ov (v_lssK rfl rfl) rfl ?_
   refine shO_nil (shW_seq ?_)
   refine shW_condP rfl (fun c6 => ?_) (fun c6 => ?_)
   · obtain ⟨x, tl2, rfl, hx8, g9, hk7⟩ := Lst.succ hk1 c6
     rw [slices_Index_int_int_l2] at r3
     refine shW_skip (shW_seq ?_)
     refine shW_block ?_
     refine wsr (om rfl rfl (oa rfl rfl (nsr (om rfl rfl (om rfl rfl (om rfl rfl ?_))))))
     obtain ⟨b10, o11, c12, vs13, ha14, hs15, hle16, rfl, hl17, hc18⟩ := RowR.at (iE_ok _) h_s_ ([]) g9.1 hx8
     refine ov (v_indexO Tryz.underlying24 Tryz.sizeOf3 rfl ha14 rfl g9) rfl ?_
     refine ov (v_load Tryz.isAgg3 rfl hs15 (hc18 0 (by decide))) rfl ?_
     refine ov (v_eql rfl rfl) rfl ?_
     refine shO_nil ?_
     refine shW_condP rfl (fun c19 => ?_) (fun c19 => ?_)
     · have r20 := ite_t r3 c19; clear r3
       refine wsr (om rfl rfl (oa rfl rfl (shO_nil (shW_ret (inBlock_ret (andThen_ret (andThen_ret (inBlock_ret (andThen_ret ?_)))))))))
       refine q_res1 Tryz.results60 (res_tmp rfl) (sr) ?_
       obtain rfl := inj1 r20
       exact rfl
     have r21 := ite_f r3 c19; clear r3
     refine shW_skip (inBlock_n (id := 1) (shW_region ?_))
     refine ov (v_add rfl rfl (Lst.r64 hk1 c6 (RowR.lt h_s_))) rfl ?_
     refine om rfl rfl (shO_nil ?_)
     subst hn2; exact le kr ⟨_, _, rfl, hk7, r21, rfl, rfl, (sc rfl (sc rfl (sc rfl (sc rfl (sn _)))))⟩
   obtain rfl := Lst.zero hk1 c6
   rw [slices_Index_int_int_l2] at r3
   refine shW_exit (andThen_exit (andThen_exit ?_))
   refine inBlock_exit ?_
   exact mi kr ⟨r3, rfl, rfl, (sn _)⟩
 rintro e1 _ _ ⟨r22, rfl, rfl, he23⟩
 refine shW_env _ he23 ?_; clear he23
 rw [slices_Index_int_int_j1] at r22
 refine wsr (oa rfl rfl (shO_nil (shW_ret ?_)))
 refine q_res1 Tryz.results60 (res_tmp rfl) (sr) ?_
 obtain rfl := inj1 r22
 exact rfl
set_option maxHeartbeats 1000000 in
theorem slices_Contains_int_int_w {s__a : Option Addr} {s__c : Nat} {s_ : List Int} {v : Int} {F : FS} (h_s_ : RowR 1 (iE .i64) F s__a s__c s_) {r : Bool} (hr : slices_Contains_int_int s_ v = some r) :
    SpecV Tryz.prog 17 #[.slice s__a s_.length s__c, .int .i64 v] F (.bool r) := by
 refine spec_of_shW (args := [.slice s__a s_.length s__c, .int .i64 v]) Tryz.func17 rfl Tryz.ntmps17 (Nat.le_of_ble_eq_true rfl) ?_
 intro K _ _; rw [slices_Contains_int_int] at hr
 refine wsr (oa rfl rfl (nsr (om rfl rfl (om rfl rfl ?_))))
 obtain ⟨n, h1, r2⟩ := b1_ok hr; clear hr
 refine o_callV rfl Tryz.call60 rfl rfl rfl (slices_Index_int_int_w h_s_ h1) ?_
 refine ov (v_geqK rfl rfl) rfl ?_
 refine oa rfl rfl (shO_nil (shW_ret ?_))
 refine q_res1 Tryz.results17 (res_tmp rfl) (sr) ?_
 obtain rfl := inj1 r2
 exact rfl
set_option maxHeartbeats 1000000 in
theorem book_in_w {n : Int} {lo : Int} {hi : Int} {F : FS} {r : Bool} (hr : book_in n lo hi = some r) :
    SpecV Tryz.prog 95 #[.int .i64 n, .int .i64 lo, .int .i64 hi] F (.bool r) := by
 refine spec_of_shW (args := [.int .i64 n, .int .i64 lo, .int .i64 hi]) Tryz.func95 rfl Tryz.ntmps95 (Nat.le_of_ble_eq_true rfl) ?_
 intro K _ _; rw [book_in] at hr
 refine wsr (oa rfl rfl (nsr (om rfl rfl (om rfl rfl ?_))))
 refine ov (v_geqK rfl rfl) rfl ?_
 refine om rfl rfl ?_
 by_cases c1 : lo ≤ n
 · have r2 := ite_t hr c1; clear hr
   refine shO_on (b := true) 10 rfl (Env.isT rfl c1) (om rfl rfl (shO_on (b := true) 10 rfl (Env.isT rfl c1) (om rfl rfl (shO_on (b := true) 10 rfl (Env.isT rfl c1) ?_))))
   refine ov (v_leqK rfl rfl) rfl ?_
   refine ov (v_pick_t (evD_true rfl c1) rfl) rfl ?_
   refine oa rfl rfl (shO_nil (shW_ret ?_))
   refine q_res1 Tryz.results95 (res_tmp rfl) (sr) ?_
   obtain rfl := inj1 r2
   exact rfl
 have r3 := ite_f hr c1; clear hr
 refine shO_off (b' := false) 10 rfl (Env.isF rfl c1) rfl rfl (shO_off (b' := false) 10 rfl (Env.isF rfl c1) rfl rfl (shO_off (b' := false) 10 rfl (Env.isF rfl c1) rfl rfl ?_))
 refine ov (v_pick_f (evD_false rfl c1) rfl) rfl ?_
 refine oa rfl rfl (shO_nil (shW_ret ?_))
 refine q_res1 Tryz.results95 (res_tmp rfl) (sr) ?_
 obtain rfl := inj1 r3
 exact rfl
set_option maxHeartbeats 1000000 in
theorem book_Book_house_w {houses : Int} {notices : Int} {hears_a : Option Addr} {hears_c : Nat} {hears : List (List (List Int))} {readings_a : Option Addr} {readings_c : Nat} {readings : List Int} {cries_a : Option Addr} {cries_c : Nat} {cries : List (Int × Int × Int)} {h : Int} {F : FS} (_h_hears : RowR 1 (slE 1 (slE 1 (iE .i64))) F hears_a hears_c hears) (_h_readings : RowR 1 (iE .i64) F readings_a readings_c readings) (_h_cries : RowR 3 (prE (iE .i64) (prE (iE .i64) (iE .i64))) F cries_a cries_c cries) {r : Bool} (hr : book_Book_house houses notices hears readings cries h = some r) :
    SpecV Tryz.prog 134 #[.agg #[.int .i64 houses, .int .i64 notices, .slice hears_a hears.length hears_c, .slice readings_a readings.length readings_c, .slice cries_a cries.length cries_c], .int .i64 h] F (.bool r) := by
 refine spec_of_shW (args := [.agg #[.int .i64 houses, .int .i64 notices, .slice hears_a hears.length hears_c, .slice readings_a readings.length readings_c, .slice cries_a cries.length cries_c], .int .i64 h]) Tryz.func134 rfl Tryz.ntmps134 (Nat.le_of_ble_eq_true rfl) ?_
 intro K _ _; rw [book_Book_house] at hr
 refine wsr ?_
 refine o_box rfl rfl ?_; intro b1 hb1
 refine oa rfl rfl (nsr (om rfl rfl ?_))
 refine ov (v_fieldAddr fa_27_0 rfl) rfl ?_
 refine ov (v_load Tryz.isAgg3 rfl (Has.own 0 rfl) rfl) rfl ?_
 obtain ⟨g2, r3⟩ := gd_ok hr; clear hr
 refine ov (v_sub rfl rfl g2) rfl ?_
 obtain ⟨ok, h4, r5⟩ := b1_ok r3; clear r3
 refine o_callV rfl Tryz.call95 rfl rfl rfl (book_in_w h4) ?_
 refine oa rfl rfl (shO_nil ?_)
 refine kW kn ?_
 refine shW_ret ?_
 refine q_res1 Tryz.results134 (res_tmp rfl) (sr) ?_
 obtain rfl := inj1 r5
 exact rfl
set_option maxHeartbeats 1000000 in
theorem book_Book_listed_w {houses : Int} {notices : Int} {hears_a : Option Addr} {hears_c : Nat} {hears : List (List (List Int))} {readings_a : Option Addr} {readings_c : Nat} {readings : List Int} {cries_a : Option Addr} {cries_c : Nat} {cries : List (Int × Int × Int)} {l_a : Option Addr} {l_c : Nat} {l : List Int} {F : FS} (h_hears : RowR 1 (slE 1 (slE 1 (iE .i64))) F hears_a hears_c hears) (h_readings : RowR 1 (iE .i64) F readings_a readings_c readings) (h_cries : RowR 3 (prE (iE .i64) (prE (iE .i64) (iE .i64))) F cries_a cries_c cries) (h_l : RowR 1 (iE .i64) F l_a l_c l) {r : Int} (hr : book_Book_listed houses notices hears readings cries l = some r) :
    SpecV Tryz.prog 106 #[.agg #[.int .i64 houses, .int .i64 notices, .slice hears_a hears.length hears_c, .slice readings_a readings.length readings_c, .slice cries_a cries.length cries_c], .slice l_a l.length l_c] F (.int .i64 r) := by
 refine spec_of_shW (args := [.agg #[.int .i64 houses, .int .i64 notices, .slice hears_a hears.length hears_c, .slice readings_a readings.length readings_c, .slice cries_a cries.length cries_c], .slice l_a l.length l_c]) Tryz.func106 rfl Tryz.ntmps106 (Nat.le_of_ble_eq_true rfl) ?_
 intro K _ _; rw [book_Book_listed] at hr
 refine wsr ?_
 refine o_box rfl rfl ?_; intro b1 hb1
 refine oa rfl rfl (shO_nil ?_)
 refine shW_join (fun e1 F1 L1 => book_Book_listed_j1 = some r ∧ F = F1 ∧ L1 = [] ∧ e1.sub []) ?_ ?_
 · refine wsr (om rfl rfl ?_)
   refine ov (v_lenS Tryz.underlying24 rfl) rfl ?_
   refine om rfl rfl (shO_nil ?_)
   refine shW_block ?_
   refine shW_lp (fun fu2 e1 F1 L1 => ∃ (tl : List Int) (k : Int), tl.length = fu2 ∧ Lst l k tl ∧ book_Book_listed_l2 houses notices hears readings cries l tl k = some r ∧ F = F1 ∧ L1 = [(b1, .cells #[.int .i64 houses, .int .i64 notices, .slice hears_a hears.length hears_c, .slice readings_a readings.length readings_c, .slice cries_a cries.length cries_c] 27 (0, 0))] ∧ e1.sub [(1, .slice l_a l.length l_c), (2, .pointer (some ⟨b1, 0, none⟩)), (7, .slice l_a l.length l_c), (8, .int .i64 (l.length : Int)), (9, .int .i64 k)]) _ (m0 kr ⟨_, _, rfl, Lst.start _, hr, rfl, rfl, (sc rfl (sc rfl (sc rfl (sc rfl (sc rfl (sn _))))))⟩) ?_
   rintro fu2 e1 _ _ ⟨tl, k, hn3, hk2, r4, rfl, rfl, he5⟩
   refine shW_env _ he5 ?_; clear he5
   refine wsr ?_
   refine ov (v_lssK rfl rfl) rfl ?_
   refine shO_nil (shW_seq ?_)
   refine shW_condP rfl (fun c7 => ?_) (fun c7 => ?_)
   · obtain ⟨x, tl2, rfl, hx9, g10, hk8⟩ := Lst.succ hk2 c7
     rw [book_Book_listed_l2] at r4
     refine shW_skip (shW_seq ?_)
     refine shW_block ?_
     refine wsr (om rfl rfl ?_)
     obtain ⟨b11, o12, c13, vs14, ha15, hs16, hle17, rfl, hl18, hc19⟩ := RowR.at (iE_ok _) h_l ([(b1, .cells #[.int .i64 houses, .int .i64 notices, .slice hears_a hears.length hears_c, .slice readings_a readings.length readings_c, .slice cries_a cries.length cries_c] 27 (0, 0))]) g10.1 hx9
     refine ov (v_indexO Tryz.underlying24 Tryz.sizeOf3 rfl ha15 rfl g10) rfl ?_
     refine ov (v_load Tryz.isAgg3 rfl hs16 (hc19 0 (by decide))) rfl ?_
     refine oa rfl rfl (oa rfl rfl (shO_nil (shW_seq (wsr ?_))))
     refine ov (v_loadA (cs := #[.int .i64 houses, .int .i64 notices, .slice hears_a hears.length hears_c, .slice readings_a readings.length readings_c, .slice cries_a cries.length cries_c]) Tryz.isAgg27 Tryz.sizeOf27 rfl (Has.own 0 rfl) (Nat.le_of_ble_eq_true rfl) rfl) rfl ?_
     refine om rfl rfl ?_
     obtain ⟨ok, h20, r21⟩ := b1_ok r4; clear r4
     refine o_callV rfl Tryz.call134 rfl rfl rfl (book_Book_house_w h_hears h_readings h_cries h20) ?_
     refine ov (v_notB rfl) rfl ?_
     refine shO_nil ?_
     refine shW_cond rfl (fun c22 => ?_) (fun c22 => ?_)
     · have r23 := bt r21 c22; clear r21
       refine wsr (oa rfl rfl (shO_nil ?_))
       refine kW kn ?_
       refine shW_ret (andThen_ret (inBlock_ret (andThen_ret (andThen_ret (inBlock_ret (andThen_ret ?_))))))
       refine q_res1 Tryz.results106 (res_tmp rfl) (sr) ?_
       obtain rfl := inj1 r23
       exact rfl
     have r24 := bf r21 c22; clear r21
     refine shW_skip (wsr (om rfl rfl (om rfl rfl ?_)))
     obtain ⟨g25, r26⟩ := gd_ok r24; clear r24
     obtain ⟨l2, h27, r28⟩ := bv_ok r26; clear r26
     obtain ⟨a29, c30, h31, hvh31⟩ := RowR.slice (iE_ok _) h_l g25 h27
     refine ov ((v_slice (l := 0) (h := k) Tryz.underlying24 Tryz.sizeOf3 rfl (.inl ⟨rfl, rfl⟩) (.inr ⟨_, rfl, rfl⟩) hvh31.1).eq hvh31.2) rfl ?_
     refine om rfl rfl ?_
     obtain ⟨ok2, h33, r34⟩ := b1_ok r28; clear r28
     refine o_callV rfl Tryz.call17 rfl rfl rfl (slices_Contains_int_int_w h31 h33) ?_
     refine shO_nil ?_
     refine shW_cond rfl (fun c35 => ?_) (fun c35 => ?_)
     · have r36 := bt r34 c35; clear r34
       refine wsr (oa rfl rfl (shO_nil ?_))
       refine kW kn ?_
       refine shW_ret (inBlock_ret (andThen_ret (andThen_ret (inBlock_ret (andThen_ret ?_)))))
       refine q_res1 Tryz.results106 (res_tmp rfl) (sr) ?_
       obtain rfl := inj1 r36
       exact rfl
     have r37 := bf r34 c35; clear r34
     refine shW_skip (inBlock_n (id := 1) (shW_region ?_))
     refine ov (v_add rfl rfl (Lst.r64 hk2 c7 (RowR.lt h_l))) rfl ?_
     refine om rfl rfl (shO_nil ?_)
     subst hn3; exact le kr ⟨_, _, rfl, hk8, r37, rfl, rfl, (sc rfl (sc rfl (sc rfl (sc rfl (sc rfl (sn _))))))⟩
   obtain rfl := Lst.zero hk2 c7
   rw [book_Book_listed_l2] at r4
   refine shW_exit (andThen_exit (andThen_exit ?_))
   refine inBlock_exit ?_
   exact mi kn ⟨r4, rfl, rfl, (sn _)⟩
 rintro e1 _ _ ⟨r38, rfl, rfl, he39⟩
 refine shW_env _ he39 ?_; clear he39
 rw [book_Book_listed_j1] at r38
 refine wsr (oa rfl rfl (shO_nil (shW_ret ?_)))
 refine q_res1 Tryz.results106 (res_tmp rfl) (sr) ?_
 obtain rfl := inj1 r38
 exact rfl
set_option maxHeartbeats 1000000 in
theorem slices_IndexFunc_int_int__w {s__a : Option Addr} {s__c : Nat} {s_ : List (List (List Int))} {f_f : FuncId} {f_1 : Array Value} {f_2 : Array Value} {f : (List (List Int)) → Option Bool} {F : FS} (h_s_ : RowR 1 (slE 1 (slE 1 (iE .i64))) F s__a s__c s_) (h_f : FnR Tryz.prog F f_f f_1 f_2 (slE 1 (slE 1 (iE .i64))) Value.bool f) {r : Int} (hr : slices_IndexFunc_int_int_ s_ f = some r) :
    SpecV Tryz.prog 189 #[.slice s__a s_.length s__c, .func (.func f_f) f_1 f_2] F (.int .i64 r) := by
 refine spec_of_shW (args := [.slice s__a s_.length s__c, .func (.func f_f) f_1 f_2]) Tryz.func189 rfl Tryz.ntmps189 (Nat.le_of_ble_eq_true rfl) ?_
 intro K _ _; rw [slices_IndexFunc_int_int_] at hr
 refine wsr (oa rfl rfl (shO_nil ?_))
 refine shW_join (fun e1 F1 L1 => slices_IndexFunc_int_int__j1 = some r ∧ F = F1 ∧ L1 = [] ∧ e1.sub []) ?_ ?_
 · refine wsr (om rfl rfl ?_)
   refine ov (v_lenS Tryz.underlying23 rfl) rfl ?_
   refine om rfl rfl (shO_nil ?_)
   refine shW_block ?_
   refine shW_lp (fun fu2 e1 F1 L1 => ∃ (tl : List (List (List Int))) (k : Int), tl.length = fu2 ∧ Lst s_ k tl ∧ slices_IndexFunc_int_int__l2 f tl k = some r ∧ F = F1 ∧ L1 = [] ∧ e1.sub [(0, .slice s__a s_.length s__c), (1, .func (.func f_f) f_1 f_2), (7, .int .i64 (s_.length : Int)), (8, .int .i64 k)]) _ (m0 kr ⟨_, _, rfl, Lst.start _, hr, rfl, rfl, (sc rfl (sc rfl (sc rfl (sc rfl (sn _)))))⟩) ?_
   rintro fu2 e1 _ _ ⟨tl, k, hn2, hk1, r3, rfl, rfl, he4⟩
   refine shW_env _ he4 ?_; clear he4
   refine wsr ?_
   refine ov (v_lssK rfl rfl) rfl ?_
   refine shO_nil (shW_seq ?_)
   refine shW_condP rfl (fun c6 => ?_) (fun c6 => ?_)
   · obtain ⟨x, tl2, rfl, hx8, g9, hk7⟩ := Lst.succ hk1 c6
     rw [slices_IndexFunc_int_int__l2] at r3
     refine shW_skip (shW_seq ?_)
     refine shW_block ?_
     refine wsr (om rfl rfl (oa rfl rfl (nsr (om rfl rfl (om rfl rfl (om rfl rfl ?_))))))
     obtain ⟨b10, o11, c12, vs13, ha14, hs15, hle16, ⟨a19, c20, rfl, h21⟩, hl17, hc18⟩ := RowR.at (slE_ok (slE_ok (iE_ok _))) h_s_ ([]) g9.1 hx8
     refine ov (v_indexO Tryz.underlying23 Tryz.sizeOf49 rfl ha14 rfl g9) rfl ?_
     refine ov (v_load Tryz.isAgg49 rfl hs15 (hc18 0 (by decide))) rfl ?_
     obtain ⟨ok, h22, r23⟩ := b1_ok r3; clear r3
     refine o_callV rfl h_f.1 rfl rfl rfl (h_f.2 _ (FExt.refl _) _ _ _ ⟨_, _, rfl, h21⟩ h22) ?_
     refine shO_nil ?_
     refine shW_cond rfl (fun c24 => ?_) (fun c24 => ?_)
     · have r25 := bt r23 c24; clear r23
       refine wsr (om rfl rfl (oa rfl rfl (shO_nil (shW_ret (inBlock_ret (andThen_ret (andThen_ret (inBlock_ret (andThen_ret ?_)))))))))
       refine q_res1 Tryz.results189 (res_tmp rfl) (sr) ?_
       obtain rfl := inj1 r25
       exact rfl
     have r26 := bf r23 c24; clear r23
     refine shW_skip (inBlock_n (id := 1) (shW_region ?_))
     refine ov (v_add rfl rfl (Lst.r64 hk1 c6 (RowR.lt h_s_))) rfl ?_
     refine om rfl rfl (shO_nil ?_)
     subst hn2; exact le kr ⟨_, _, rfl, hk7, r26, rfl, rfl, (sc rfl (sc rfl (sc rfl (sc rfl (sn _)))))⟩
   obtain rfl := Lst.zero hk1 c6
   rw [slices_IndexFunc_int_int__l2] at r3
   refine shW_exit (andThen_exit (andThen_exit ?_))
   refine inBlock_exit ?_
   exact mi kr ⟨r3, rfl, rfl, (sn _)⟩
 rintro e1 _ _ ⟨r27, rfl, rfl, he28⟩
 refine shW_env _ he28 ?_; clear he28
 rw [slices_IndexFunc_int_int__j1] at r27
 refine wsr (oa rfl rfl (shO_nil (shW_ret ?_)))
 refine q_res1 Tryz.results189 (res_tmp rfl) (sr) ?_
 obtain rfl := inj1 r27
 exact rfl
set_option maxHeartbeats 1000000 in
theorem slices_ContainsFunc_int_int__w {s__a : Option Addr} {s__c : Nat} {s_ : List (List (List Int))} {f_f : FuncId} {f_1 : Array Value} {f_2 : Array Value} {f : (List (List Int)) → Option Bool} {F : FS} (h_s_ : RowR 1 (slE 1 (slE 1 (iE .i64))) F s__a s__c s_) (h_f : FnR Tryz.prog F f_f f_1 f_2 (slE 1 (slE 1 (iE .i64))) Value.bool f) {r : Bool} (hr : slices_ContainsFunc_int_int_ s_ f = some r) :
    SpecV Tryz.prog 173 #[.slice s__a s_.length s__c, .func (.func f_f) f_1 f_2] F (.bool r) := by
 refine spec_of_shW (args := [.slice s__a s_.length s__c, .func (.func f_f) f_1 f_2]) Tryz.func173 rfl Tryz.ntmps173 (Nat.le_of_ble_eq_true rfl) ?_
 intro K _ _; rw [slices_ContainsFunc_int_int_] at hr
 refine wsr (oa rfl rfl (nsr (om rfl rfl (om rfl rfl ?_))))
 obtain ⟨n, h1, r2⟩ := b1_ok hr; clear hr
 refine o_callV rfl Tryz.call189 rfl rfl rfl (slices_IndexFunc_int_int__w h_s_ h_f h1) ?_
 refine ov (v_geqK rfl rfl) rfl ?_
 refine oa rfl rfl (shO_nil (shW_ret ?_))
 refine q_res1 Tryz.results173 (res_tmp rfl) (sr) ?_
 obtain rfl := inj1 r2
 exact rfl
set_option maxHeartbeats 1000000 in
theorem book_every_int_1__w {x_a : Option Addr} {x_c : Nat} {x : List (List Int)} {b_so : Nat} {so_f : FuncId} {so_1 : Array Value} {so_2 : Array Value} {so : (List (List Int)) → Option Bool} {mb_so : Nat × Nat} {F : FS} (h_x : RowR 1 (slE 1 (iE .i64)) F x_a x_c x) (hb_so : F b_so = some (.cells #[.func (.func so_f) so_1 so_2] 236 mb_so)) (h_so : FnR Tryz.prog F so_f so_1 so_2 (slE 1 (slE 1 (iE .i64))) Value.bool so) {r : Bool} (hr : book_every_int_1_ x so = some r) :
    SpecV Tryz.prog 174 #[.slice x_a x.length x_c, .pointer (some ⟨b_so, 0, none⟩)] F (.bool r) := by
 refine spec_of_shW (args := [.slice x_a x.length x_c, .pointer (some ⟨b_so, 0, none⟩)]) Tryz.func174 rfl Tryz.ntmps174 (Nat.le_of_ble_eq_true rfl) ?_
 intro K _ _; rw [book_every_int_1_] at hr
 refine wsr (oa rfl rfl (nsr ?_))
 refine ov (v_load Tryz.isAgg236 rfl (Has.frozen hb_so) rfl) rfl ?_
 refine om rfl rfl ?_
 obtain ⟨ok, h1, r2⟩ := b1_ok hr; clear hr
 refine o_callV rfl h_so.1 rfl rfl rfl (h_so.2 _ (FExt.refl _) _ _ _ ⟨_, _, rfl, h_x⟩ h1) ?_
 refine ov (v_notB rfl) rfl ?_
 refine oa rfl rfl (shO_nil (shW_ret ?_))
 refine q_res1 Tryz.results174 (res_tmp rfl) (sr) ?_
 obtain rfl := inj1 r2
 exact rfl
set_option maxHeartbeats 1000000 in
theorem book_every_int__w {l_a : Option Addr} {l_c : Nat} {l : List (List (List Int))} {so_f : FuncId} {so_1 : Array Value} {so_2 : Array Value} {so : (List (List Int)) → Option Bool} {F : FS} (h_l : RowR 1 (slE 1 (slE 1 (iE .i64))) F l_a l_c l) (h_so : FnR Tryz.prog F so_f so_1 so_2 (slE 1 (slE 1 (iE .i64))) Value.bool so) {r : Bool} (hr : book_every_int_ l so = some r) :
    SpecV Tryz.prog 157 #[.slice l_a l.length l_c, .func (.func so_f) so_1 so_2] F (.bool r) := by
 refine spec_of_shW (args := [.slice l_a l.length l_c, .func (.func so_f) so_1 so_2]) Tryz.func157 rfl Tryz.ntmps157 (Nat.le_of_ble_eq_true rfl) ?_
 intro K _ _; rw [book_every_int_] at hr
 refine wsr ?_
 refine o_box rfl rfl ?_; intro b1 hb1
 refine oa rfl rfl (nsr (om rfl rfl ?_))
 refine ov (v_makeFunc rfl rfl) rfl ?_
 refine shO_freeze 0 rfl hb1 ?_; intro F2 hF3 hz4
 refine shO_L (L' := []) rfl ?_
 replace h_l := h_l.mono (slE_ok (slE_ok (iE_ok _))) hF3
 replace h_so := h_so.mono hF3
 have hn8 : FnR Tryz.prog F2 174 #[] #[.pointer (some ⟨b1, 0, none⟩)] (slE 1 (slE 1 (iE .i64))) Value.bool (fun xx_ : (List (List Int)) => book_every_int_1_ xx_ so) := ⟨Tryz.call174, fun F2 h2 vs xx_ r ha hr => by obtain ⟨a5, c6, rfl, h7⟩ := ha; exact book_every_int_1__w h7 (h2 _ _ hz4) (h_so.mono h2) hr⟩
 obtain ⟨ok, h9, r10⟩ := b1_ok hr; clear hr
 refine o_callV rfl Tryz.call173 rfl rfl rfl (slices_ContainsFunc_int_int__w h_l hn8 h9) ?_
 refine ov (v_notB rfl) rfl ?_
 refine oa rfl rfl (shO_nil (shW_ret ?_))
 refine q_res1 Tryz.results157 (res_tmp rfl) (sr) ?_
 obtain rfl := inj1 r10
 exact rfl
set_option maxHeartbeats 1000000 in
theorem book_Book_counted_1_w {l_a : Option Addr} {l_c : Nat} {l : List (List Int)} {F : FS} (_h_l : RowR 1 (slE 1 (iE .i64)) F l_a l_c l) {r : Bool} (hr : book_Book_counted_1 l = some r) :
    SpecV Tryz.prog 158 #[.slice l_a l.length l_c] F (.bool r) := by
 refine spec_of_shW (args := [.slice l_a l.length l_c]) Tryz.func158 rfl Tryz.ntmps158 (Nat.le_of_ble_eq_true rfl) ?_
 intro K _ _; rw [book_Book_counted_1] at hr
 refine wsr (oa rfl rfl (nsr (om rfl rfl ?_)))
 refine ov (v_lenS Tryz.underlying49 rfl) rfl ?_
 refine ov (v_eql rfl rfl) rfl ?_
 refine oa rfl rfl (shO_nil (shW_ret ?_))
 refine q_res1 Tryz.results158 (res_tmp rfl) (sr) ?_
 obtain rfl := inj1 hr
 exact rfl
set_option maxHeartbeats 1000000 in
theorem book_Book_counted_w {houses : Int} {notices : Int} {hears_a : Option Addr} {hears_c : Nat} {hears : List (List (List Int))} {readings_a : Option Addr} {readings_c : Nat} {readings : List Int} {cries_a : Option Addr} {cries_c : Nat} {cries : List (Int × Int × Int)} {F : FS} (h_hears : RowR 1 (slE 1 (slE 1 (iE .i64))) F hears_a hears_c hears) (_h_readings : RowR 1 (iE .i64) F readings_a readings_c readings) (_h_cries : RowR 3 (prE (iE .i64) (prE (iE .i64) (iE .i64))) F cries_a cries_c cries) {r : Bool} (hr : book_Book_counted houses notices hears readings cries = some r) :
    SpecV Tryz.prog 130 #[.agg #[.int .i64 houses, .int .i64 notices, .slice hears_a hears.length hears_c, .slice readings_a readings.length readings_c, .slice cries_a cries.length cries_c]] F (.bool r) := by
 refine spec_of_shW (args := [.agg #[.int .i64 houses, .int .i64 notices, .slice hears_a hears.length hears_c, .slice readings_a readings.length readings_c, .slice cries_a cries.length cries_c]]) Tryz.func130 rfl Tryz.ntmps130 (Nat.le_of_ble_eq_true rfl) ?_
 intro K _ _; rw [book_Book_counted] at hr
 refine wsr ?_
 refine o_box rfl rfl ?_; intro b1 hb1
 refine oa rfl rfl (nsr ?_)
 refine ov (v_fieldAddr fa_27_0 rfl) rfl ?_
 refine ov (v_load Tryz.isAgg3 rfl (Has.own 0 rfl) rfl) rfl ?_
 obtain ⟨ok, h2, r3⟩ := b1_ok hr; clear hr
 refine o_callV rfl Tryz.call95 rfl rfl rfl (book_in_w h2) ?_
 refine om rfl rfl ?_
 rcases bool_two ok with c4 | c4
 · have r5 := bt r3 c4; clear r3
   refine shO_on (b := true) 6 rfl (EnvB rfl c4) ?_
   refine ov (v_fieldAddr fa_27_1 rfl) rfl ?_
   refine shO_on (b := true) 6 rfl (EnvB rfl c4) ?_
   refine ov (v_load Tryz.isAgg3 rfl (Has.own 0 rfl) rfl) rfl ?_
   refine shO_on (b := true) 6 rfl (EnvB rfl c4) ?_
   obtain ⟨ok2, h6, r7⟩ := b1_ok r5; clear r5
   refine o_callV rfl Tryz.call95 rfl rfl rfl (book_in_w h6) ?_
   refine ov (v_pick_t (evB rfl c4) rfl) rfl ?_
   refine om rfl rfl ?_
   rcases bool_two ok2 with c8 | c8
   · have r9 := bt r7 c8; clear r7
     refine shO_on (b := true) 11 rfl (EnvB rfl c8) ?_
     refine ov (v_fieldAddr fa_27_2 rfl) rfl ?_
     refine shO_on (b := true) 11 rfl (EnvB rfl c8) ?_
     refine ov (v_load Tryz.isAgg23 rfl (Has.own 0 rfl) rfl) rfl ?_
     refine shO_on (b := true) 11 rfl (EnvB rfl c8) ?_
     refine ov (v_lenS Tryz.underlying23 rfl) rfl ?_
     refine shO_on (b := true) 11 rfl (EnvB rfl c8) ?_
     obtain ⟨ok3, h10, r11⟩ := b1_ok r9; clear r9
     refine o_callV rfl Tryz.call95 rfl rfl rfl (book_in_w h10) ?_
     refine ov (v_pick_t (evB rfl c8) rfl) rfl ?_
     refine om rfl rfl ?_
     rcases bool_two ok3 with c12 | c12
     · have r13 := bt r11 c12; clear r11
       refine shO_on (b := true) 17 rfl (EnvB rfl c12) ?_
       refine ov (v_fieldAddr fa_27_3 rfl) rfl ?_
       refine shO_on (b := true) 17 rfl (EnvB rfl c12) ?_
       refine ov (v_load Tryz.isAgg24 rfl (Has.own 0 rfl) rfl) rfl ?_
       refine shO_on (b := true) 17 rfl (EnvB rfl c12) ?_
       refine ov (v_lenS Tryz.underlying24 rfl) rfl ?_
       refine shO_on (b := true) 17 rfl (EnvB rfl c12) ?_
       obtain ⟨ok4, h14, r15⟩ := b1_ok r13; clear r13
       refine o_callV rfl Tryz.call95 rfl rfl rfl (book_in_w h14) ?_
       refine ov (v_pick_t (evB rfl c12) rfl) rfl ?_
       refine om rfl rfl ?_
       rcases bool_two ok4 with c16 | c16
       · have r17 := bt r15 c16; clear r15
         refine shO_on (b := true) 23 rfl (EnvB rfl c16) ?_
         refine ov (v_fieldAddr fa_27_4 rfl) rfl ?_
         refine shO_on (b := true) 23 rfl (EnvB rfl c16) ?_
         refine ov (v_load Tryz.isAgg25 rfl (Has.own 0 rfl) rfl) rfl ?_
         refine shO_on (b := true) 23 rfl (EnvB rfl c16) ?_
         refine ov (v_lenS Tryz.underlying25 rfl) rfl ?_
         refine shO_on (b := true) 23 rfl (EnvB rfl c16) ?_
         refine ov (v_leqK rfl rfl) rfl ?_
         refine ov (v_pick_t (evB rfl c16) rfl) rfl ?_
         refine om rfl rfl ?_
         by_cases c18 : (cries.length : Int) ≤ 12
         · have r19 := ite_t r17 c18; clear r17
           refine shO_on (b := true) 29 rfl (Env.isT rfl c18) ?_
           refine ov (v_fieldAddr fa_27_2 rfl) rfl ?_
           refine shO_on (b := true) 29 rfl (Env.isT rfl c18) ?_
           refine ov (v_load Tryz.isAgg23 rfl (Has.own 0 rfl) rfl) rfl ?_
           refine shO_on (b := true) 29 rfl (Env.isT rfl c18) ?_
           have hn23 : FnR Tryz.prog F 158 #[] #[] (slE 1 (slE 1 (iE .i64))) Value.bool (fun xx_ : (List (List Int)) => book_Book_counted_1 xx_) := ⟨Tryz.call158, fun F2 h2 vs xx_ r ha hr => by obtain ⟨a20, c21, rfl, h22⟩ := ha; exact book_Book_counted_1_w h22 hr⟩
           obtain ⟨ok5, h24, r25⟩ := b1_ok r19; clear r19
           refine o_callV rfl Tryz.call157 rfl rfl rfl (book_every_int__w h_hears hn23 h24) ?_
           refine ov (v_pick_t (evD_true rfl c18) rfl) rfl ?_
           refine oa rfl rfl (shO_nil ?_)
           refine kW kn ?_
           refine shW_ret ?_
           refine q_res1 Tryz.results130 (res_tmp rfl) (sr) ?_
           obtain rfl := inj1 r25
           exact rfl
         have r26 := ite_f r17 c18; clear r17
         refine shO_off (b' := false) 29 rfl (Env.isF rfl c18) rfl rfl (shO_off (b' := false) 29 rfl (Env.isF rfl c18) rfl rfl (shO_off (b' := false) 29 rfl (Env.isF rfl c18) rfl rfl ?_))
         refine ov (v_pick_f (evD_false rfl c18) rfl) rfl ?_
         refine oa rfl rfl (shO_nil ?_)
         refine kW kn ?_
         refine shW_ret ?_
         refine q_res1 Tryz.results130 (res_tmp rfl) (sr) ?_
         obtain rfl := inj1 r26
         exact rfl
       have r27 := bf r15 c16; clear r15
       refine shO_off (b' := false) 23 rfl (EnvB rfl c16) rfl rfl (shO_off (b' := false) 23 rfl (EnvB rfl c16) rfl rfl (shO_off (b' := false) 23 rfl (EnvB rfl c16) rfl rfl (shO_off (b' := false) 23 rfl (EnvB rfl c16) rfl rfl ?_)))
       refine ov (v_pick_f (evB rfl c16) rfl) rfl ?_
       refine om rfl rfl (shO_off (b' := false) 29 rfl rfl rfl rfl (shO_off (b' := false) 29 rfl rfl rfl rfl (shO_off (b' := false) 29 rfl rfl rfl rfl ?_)))
       refine ov (v_pick_f rfl rfl) rfl ?_
       refine oa rfl rfl (shO_nil ?_)
       refine kW kn ?_
       refine shW_ret ?_
       refine q_res1 Tryz.results130 (res_tmp rfl) (sr) ?_
       obtain rfl := inj1 r27
       exact rfl
     have r28 := bf r11 c12; clear r11
     refine shO_off (b' := false) 17 rfl (EnvB rfl c12) rfl rfl (shO_off (b' := false) 17 rfl (EnvB rfl c12) rfl rfl (shO_off (b' := false) 17 rfl (EnvB rfl c12) rfl rfl (shO_off (b' := false) 17 rfl (EnvB rfl c12) rfl rfl ?_)))
     refine ov (v_pick_f (evB rfl c12) rfl) rfl ?_
     refine om rfl rfl (shO_off (b' := false) 23 rfl rfl rfl rfl (shO_off (b' := false) 23 rfl rfl rfl rfl (shO_off (b' := false) 23 rfl rfl rfl rfl (shO_off (b' := false) 23 rfl rfl rfl rfl ?_))))
     refine ov (v_pick_f rfl rfl) rfl ?_
     refine om rfl rfl (shO_off (b' := false) 29 rfl rfl rfl rfl (shO_off (b' := false) 29 rfl rfl rfl rfl (shO_off (b' := false) 29 rfl rfl rfl rfl ?_)))
     refine ov (v_pick_f rfl rfl) rfl ?_
     refine oa rfl rfl (shO_nil ?_)
     refine kW kn ?_
     refine shW_ret ?_
     refine q_res1 Tryz.results130 (res_tmp rfl) (sr) ?_
     obtain rfl := inj1 r28
     exact rfl
   have r29 := bf r7 c8; clear r7
   refine shO_off (b' := false) 11 rfl (EnvB rfl c8) rfl rfl (shO_off (b' := false) 11 rfl (EnvB rfl c8) rfl rfl (shO_off (b' := false) 11 rfl (EnvB rfl c8) rfl rfl (shO_off (b' := false) 11 rfl (EnvB rfl c8) rfl rfl ?_)))
   refine ov (v_pick_f (evB rfl c8) rfl) rfl ?_
   refine om rfl rfl (shO_off (b' := false) 17 rfl rfl rfl rfl (shO_off (b' := false) 17 rfl rfl rfl rfl (shO_off (b' := false) 17 rfl rfl rfl rfl (shO_off (b' := false) 17 rfl rfl rfl rfl ?_))))
   refine ov (v_pick_f rfl rfl) rfl ?_
   refine om rfl rfl (shO_off (b' := false) 23 rfl rfl rfl rfl (shO_off (b' := false) 23 rfl rfl rfl rfl (shO_off (b' := false) 23 rfl rfl rfl rfl (shO_off (b' := false) 23 rfl rfl rfl rfl ?_))))
   refine ov (v_pick_f rfl rfl) rfl ?_
   refine om rfl rfl (shO_off (b' := false) 29 rfl rfl rfl rfl (shO_off (b' := false) 29 rfl rfl rfl rfl (shO_off (b' := false) 29 rfl rfl rfl rfl ?_)))
   refine ov (v_pick_f rfl rfl) rfl ?_
   refine oa rfl rfl (shO_nil ?_)
   refine kW kn ?_
   refine shW_ret ?_
   refine q_res1 Tryz.results130 (res_tmp rfl) (sr) ?_
   obtain rfl := inj1 r29
   exact rfl
 have r30 := bf r3 c4; clear r3
 refine shO_off (b' := false) 6 rfl (EnvB rfl c4) rfl rfl (shO_off (b' := false) 6 rfl (EnvB rfl c4) rfl rfl (shO_off (b' := false) 6 rfl (EnvB rfl c4) rfl rfl ?_))
 refine ov (v_pick_f (evB rfl c4) rfl) rfl ?_
 refine om rfl rfl (shO_off (b' := false) 11 rfl rfl rfl rfl (shO_off (b' := false) 11 rfl rfl rfl rfl (shO_off (b' := false) 11 rfl rfl rfl rfl (shO_off (b' := false) 11 rfl rfl rfl rfl ?_))))
 refine ov (v_pick_f rfl rfl) rfl ?_
 refine om rfl rfl (shO_off (b' := false) 17 rfl rfl rfl rfl (shO_off (b' := false) 17 rfl rfl rfl rfl (shO_off (b' := false) 17 rfl rfl rfl rfl (shO_off (b' := false) 17 rfl rfl rfl rfl ?_))))
 refine ov (v_pick_f rfl rfl) rfl ?_
 refine om rfl rfl (shO_off (b' := false) 23 rfl rfl rfl rfl (shO_off (b' := false) 23 rfl rfl rfl rfl (shO_off (b' := false) 23 rfl rfl rfl rfl (shO_off (b' := false) 23 rfl rfl rfl rfl ?_))))
 refine ov (v_pick_f rfl rfl) rfl ?_
 refine om rfl rfl (shO_off (b' := false) 29 rfl rfl rfl rfl (shO_off (b' := false) 29 rfl rfl rfl rfl (shO_off (b' := false) 29 rfl rfl rfl rfl ?_)))
 refine ov (v_pick_f rfl rfl) rfl ?_
 refine oa rfl rfl (shO_nil ?_)
 refine kW kn ?_
 refine shW_ret ?_
 refine q_res1 Tryz.results130 (res_tmp rfl) (sr) ?_
 obtain rfl := inj1 r30
 exact rfl
set_option maxHeartbeats 1000000 in
theorem book_read_w {n : Int} {F : FS} {r : Bool} (hr : book_read n = some r) :
    SpecV Tryz.prog 131 #[.int .i64 n] F (.bool r) := by
 refine spec_of_shW (args := [.int .i64 n]) Tryz.func131 rfl Tryz.ntmps131 (Nat.le_of_ble_eq_true rfl) ?_
 intro K _ _; rw [book_read] at hr
 refine wsr (oa rfl rfl (nsr (om rfl rfl ?_)))
 refine ov (v_eql rfl rfl) rfl ?_
 refine om rfl rfl ?_
 by_cases c1 : n = (-1)
 · have r2 := ite_t hr c1; clear hr
   refine shO_off (b' := true) 5 rfl (Env.isT rfl c1) rfl rfl (shO_off (b' := true) 5 rfl (Env.isT rfl c1) rfl rfl ?_)
   refine ov (v_pick_t (evD_true rfl c1) rfl) rfl ?_
   refine oa rfl rfl (shO_nil (shW_ret ?_))
   refine q_res1 Tryz.results131 (res_tmp rfl) (sr) ?_
   obtain rfl := inj1 r2
   exact rfl
 have r3 := ite_f hr c1; clear hr
 refine shO_on (b := false) 5 rfl (Env.isF rfl c1) (om rfl rfl (shO_on (b := false) 5 rfl (Env.isF rfl c1) ?_))
 obtain ⟨ok, h4, r5⟩ := b1_ok r3; clear r3
 refine o_callV rfl Tryz.call95 rfl rfl rfl (book_in_w h4) ?_
 refine ov (v_pick_f (evD_false rfl c1) rfl) rfl ?_
 refine oa rfl rfl (shO_nil (shW_ret ?_))
 refine q_res1 Tryz.results131 (res_tmp rfl) (sr) ?_
 obtain rfl := inj1 r5
 exact rfl
set_option maxHeartbeats 1000000 in
theorem slices_IndexFunc_book_Cry_book_Cry_w {s__a : Option Addr} {s__c : Nat} {s_ : List (Int × Int × Int)} {f_f : FuncId} {f_1 : Array Value} {f_2 : Array Value} {f : (Int × Int × Int) → Option Bool} {F : FS} (h_s_ : RowR 3 (prE (iE .i64) (prE (iE .i64) (iE .i64))) F s__a s__c s_) (h_f : FnR Tryz.prog F f_f f_1 f_2 (agE (prE (iE .i64) (prE (iE .i64) (iE .i64)))) Value.bool f) {r : Int} (hr : slices_IndexFunc_book_Cry_book_Cry s_ f = some r) :
    SpecV Tryz.prog 175 #[.slice s__a s_.length s__c, .func (.func f_f) f_1 f_2] F (.int .i64 r) := by
 refine spec_of_shW (args := [.slice s__a s_.length s__c, .func (.func f_f) f_1 f_2]) Tryz.func175 rfl Tryz.ntmps175 (Nat.le_of_ble_eq_true rfl) ?_
 intro K _ _; rw [slices_IndexFunc_book_Cry_book_Cry] at hr
 refine wsr (oa rfl rfl (shO_nil ?_))
 refine shW_join (fun e1 F1 L1 => slices_IndexFunc_book_Cry_book_Cry_j1 = some r ∧ F = F1 ∧ L1 = [] ∧ e1.sub []) ?_ ?_
 · refine wsr (om rfl rfl ?_)
   refine ov (v_lenS Tryz.underlying25 rfl) rfl ?_
   refine om rfl rfl (shO_nil ?_)
   refine shW_block ?_
   refine shW_lp (fun fu2 e1 F1 L1 => ∃ (tl : List (Int × Int × Int)) (k : Int), tl.length = fu2 ∧ Lst s_ k tl ∧ slices_IndexFunc_book_Cry_book_Cry_l2 f tl k = some r ∧ F = F1 ∧ L1 = [] ∧ e1.sub [(0, .slice s__a s_.length s__c), (1, .func (.func f_f) f_1 f_2), (7, .int .i64 (s_.length : Int)), (8, .int .i64 k)]) _ (m0 kr ⟨_, _, rfl, Lst.start _, hr, rfl, rfl, (sc rfl (sc rfl (sc rfl (sc rfl (sn _)))))⟩) ?_
   rintro fu2 e1 _ _ ⟨tl, k, hn2, hk1, r3, rfl, rfl, he4⟩
   refine shW_env _ he4 ?_; clear he4
   refine wsr ?_
   refine ov (v_lssK rfl rfl) rfl ?_
   refine shO_nil (shW_seq ?_)
   refine shW_condP rfl (fun c6 => ?_) (fun c6 => ?_)
   · obtain ⟨x, tl2, rfl, hx8, g9, hk7⟩ := Lst.succ hk1 c6
     rw [slices_IndexFunc_book_Cry_book_Cry_l2] at r3
     refine shW_skip (shW_seq ?_)
     refine shW_block ?_
     refine wsr (om rfl rfl (oa rfl rfl (nsr (om rfl rfl (om rfl rfl (om rfl rfl ?_))))))
     obtain ⟨b10, o11, c12, vs13, ha14, hs15, hle16, ⟨_, _, rfl, rfl, ⟨_, _, rfl, rfl, rfl⟩⟩, hl17, hc18⟩ := RowR.at (prE_ok (iE_ok _) (prE_ok (iE_ok _) (iE_ok _))) h_s_ ([]) g9.1 hx8
     refine ov (v_indexO Tryz.underlying25 Tryz.sizeOf67 rfl ha14 rfl g9) rfl ?_
     refine ov (v_loadA (cs := #[.int .i64 x.1, .int .i64 x.2.1, .int .i64 x.2.2]) Tryz.isAgg67 Tryz.sizeOf67 rfl hs15 hle16 (extract_cells hle16 hl17 hc18)) rfl ?_
     obtain ⟨ok, h19, r20⟩ := b1_ok r3; clear r3
     refine o_callV rfl h_f.1 rfl rfl rfl (h_f.2 _ (FExt.refl _) _ _ _ ⟨_, rfl, ⟨_, _, rfl, rfl, ⟨_, _, rfl, rfl, rfl⟩⟩⟩ h19) ?_
     refine shO_nil ?_
     refine shW_cond rfl (fun c21 => ?_) (fun c21 => ?_)
     · have r22 := bt r20 c21; clear r20
       refine wsr (om rfl rfl (oa rfl rfl (shO_nil (shW_ret (inBlock_ret (andThen_ret (andThen_ret (inBlock_ret (andThen_ret ?_)))))))))
       refine q_res1 Tryz.results175 (res_tmp rfl) (sr) ?_
       obtain rfl := inj1 r22
       exact rfl
     have r23 := bf r20 c21; clear r20
     refine shW_skip (inBlock_n (id := 1) (shW_region ?_))
     refine ov (v_add rfl rfl (Lst.r64 hk1 c6 (RowR.lt h_s_))) rfl ?_
     refine om rfl rfl (shO_nil ?_)
     subst hn2; exact le kr ⟨_, _, rfl, hk7, r23, rfl, rfl, (sc rfl (sc rfl (sc rfl (sc rfl (sn _)))))⟩
   obtain rfl := Lst.zero hk1 c6
   rw [slices_IndexFunc_book_Cry_book_Cry_l2] at r3
   refine shW_exit (andThen_exit (andThen_exit ?_))
   refine inBlock_exit ?_
   exact mi kr ⟨r3, rfl, rfl, (sn _)⟩
 rintro e1 _ _ ⟨r24, rfl, rfl, he25⟩
 refine shW_env _ he25 ?_; clear he25
 rw [slices_IndexFunc_book_Cry_book_Cry_j1] at r24
 refine wsr (oa rfl rfl (shO_nil (shW_ret ?_)))
 refine q_res1 Tryz.results175 (res_tmp rfl) (sr) ?_
 obtain rfl := inj1 r24
 exact rfl
set_option maxHeartbeats 1000000 in
theorem slices_ContainsFunc_book_Cry_book_Cry_w {s__a : Option Addr} {s__c : Nat} {s_ : List (Int × Int × Int)} {f_f : FuncId} {f_1 : Array Value} {f_2 : Array Value} {f : (Int × Int × Int) → Option Bool} {F : FS} (h_s_ : RowR 3 (prE (iE .i64) (prE (iE .i64) (iE .i64))) F s__a s__c s_) (h_f : FnR Tryz.prog F f_f f_1 f_2 (agE (prE (iE .i64) (prE (iE .i64) (iE .i64)))) Value.bool f) {r : Bool} (hr : slices_ContainsFunc_book_Cry_book_Cry s_ f = some r) :
    SpecV Tryz.prog 159 #[.slice s__a s_.length s__c, .func (.func f_f) f_1 f_2] F (.bool r) := by
 refine spec_of_shW (args := [.slice s__a s_.length s__c, .func (.func f_f) f_1 f_2]) Tryz.func159 rfl Tryz.ntmps159 (Nat.le_of_ble_eq_true rfl) ?_
 intro K _ _; rw [slices_ContainsFunc_book_Cry_book_Cry] at hr
 refine wsr (oa rfl rfl (nsr (om rfl rfl (om rfl rfl ?_))))
 obtain ⟨n, h1, r2⟩ := b1_ok hr; clear hr
 refine o_callV rfl Tryz.call175 rfl rfl rfl (slices_IndexFunc_book_Cry_book_Cry_w h_s_ h_f h1) ?_
 refine ov (v_geqK rfl rfl) rfl ?_
 refine oa rfl rfl (shO_nil (shW_ret ?_))
 refine q_res1 Tryz.results159 (res_tmp rfl) (sr) ?_
 obtain rfl := inj1 r2
 exact rfl
set_option maxHeartbeats 1000000 in
theorem book_every_Cry_1_w {hour : Int} {stand : Int} {notice : Int} {b_so : Nat} {so_f : FuncId} {so_1 : Array Value} {so_2 : Array Value} {so : (Int × Int × Int) → Option Bool} {mb_so : Nat × Nat} {F : FS} (hb_so : F b_so = some (.cells #[.func (.func so_f) so_1 so_2] 212 mb_so)) (h_so : FnR Tryz.prog F so_f so_1 so_2 (agE (prE (iE .i64) (prE (iE .i64) (iE .i64)))) Value.bool so) {r : Bool} (hr : book_every_Cry_1 hour stand notice so = some r) :
    SpecV Tryz.prog 160 #[.agg #[.int .i64 hour, .int .i64 stand, .int .i64 notice], .pointer (some ⟨b_so, 0, none⟩)] F (.bool r) := by
 refine spec_of_shW (args := [.agg #[.int .i64 hour, .int .i64 stand, .int .i64 notice], .pointer (some ⟨b_so, 0, none⟩)]) Tryz.func160 rfl Tryz.ntmps160 (Nat.le_of_ble_eq_true rfl) ?_
 intro K _ _; rw [book_every_Cry_1] at hr
 refine wsr ?_
 refine o_box rfl rfl ?_; intro b1 hb1
 refine oa rfl rfl (nsr ?_)
 refine ov (v_load Tryz.isAgg212 rfl (Has.frozen hb_so) rfl) rfl ?_
 refine ov (v_loadA (cs := #[.int .i64 hour, .int .i64 stand, .int .i64 notice]) Tryz.isAgg67 Tryz.sizeOf67 rfl (Has.own 0 rfl) (Nat.le_of_ble_eq_true rfl) rfl) rfl ?_
 obtain ⟨ok, h2, r3⟩ := b1_ok hr; clear hr
 refine o_callV rfl h_so.1 rfl rfl rfl (h_so.2 _ (FExt.refl _) _ _ _ ⟨_, rfl, ⟨_, _, rfl, rfl, ⟨_, _, rfl, rfl, rfl⟩⟩⟩ h2) ?_
 refine ov (v_notB rfl) rfl ?_
 refine oa rfl rfl (shO_nil ?_)
 refine kW kn ?_
 refine shW_ret ?_
 refine q_res1 Tryz.results160 (res_tmp rfl) (sr) ?_
 obtain rfl := inj1 r3
 exact rfl
set_option maxHeartbeats 1000000 in
theorem book_every_Cry_w {l_a : Option Addr} {l_c : Nat} {l : List (Int × Int × Int)} {so_f : FuncId} {so_1 : Array Value} {so_2 : Array Value} {so : (Int × Int × Int) → Option Bool} {F : FS} (h_l : RowR 3 (prE (iE .i64) (prE (iE .i64) (iE .i64))) F l_a l_c l) (h_so : FnR Tryz.prog F so_f so_1 so_2 (agE (prE (iE .i64) (prE (iE .i64) (iE .i64)))) Value.bool so) {r : Bool} (hr : book_every_Cry l so = some r) :
    SpecV Tryz.prog 132 #[.slice l_a l.length l_c, .func (.func so_f) so_1 so_2] F (.bool r) := by
 refine spec_of_shW (args := [.slice l_a l.length l_c, .func (.func so_f) so_1 so_2]) Tryz.func132 rfl Tryz.ntmps132 (Nat.le_of_ble_eq_true rfl) ?_
 intro K _ _; rw [book_every_Cry] at hr
 refine wsr ?_
 refine o_box rfl rfl ?_; intro b1 hb1
 refine oa rfl rfl (nsr (om rfl rfl ?_))
 refine ov (v_makeFunc rfl rfl) rfl ?_
 refine shO_freeze 0 rfl hb1 ?_; intro F2 hF3 hz4
 refine shO_L (L' := []) rfl ?_
 replace h_l := h_l.mono (prE_ok (iE_ok _) (prE_ok (iE_ok _) (iE_ok _))) hF3
 replace h_so := h_so.mono hF3
 have hn5 : FnR Tryz.prog F2 160 #[] #[.pointer (some ⟨b1, 0, none⟩)] (agE (prE (iE .i64) (prE (iE .i64) (iE .i64)))) Value.bool (fun xx_ : (Int × Int × Int) => book_every_Cry_1 xx_.1 xx_.2.1 xx_.2.2 so) := ⟨Tryz.call160, fun F2 h2 vs xx_ r ha hr => by obtain ⟨_, rfl, ⟨_, _, rfl, rfl, ⟨_, _, rfl, rfl, rfl⟩⟩⟩ := ha; exact book_every_Cry_1_w (h2 _ _ hz4) (h_so.mono h2) hr⟩
 obtain ⟨ok, h6, r7⟩ := b1_ok hr; clear hr
 refine o_callV rfl Tryz.call159 rfl rfl rfl (slices_ContainsFunc_book_Cry_book_Cry_w h_l hn5 h6) ?_
 refine ov (v_notB rfl) rfl ?_
 refine oa rfl rfl (shO_nil (shW_ret ?_))
 refine q_res1 Tryz.results132 (res_tmp rfl) (sr) ?_
 obtain rfl := inj1 r7
 exact rfl
set_option maxHeartbeats 1000000 in
theorem book_Book_notice_w {houses : Int} {notices : Int} {hears_a : Option Addr} {hears_c : Nat} {hears : List (List (List Int))} {readings_a : Option Addr} {readings_c : Nat} {readings : List Int} {cries_a : Option Addr} {cries_c : Nat} {cries : List (Int × Int × Int)} {n : Int} {F : FS} (_h_hears : RowR 1 (slE 1 (slE 1 (iE .i64))) F hears_a hears_c hears) (_h_readings : RowR 1 (iE .i64) F readings_a readings_c readings) (_h_cries : RowR 3 (prE (iE .i64) (prE (iE .i64) (iE .i64))) F cries_a cries_c cries) {r : Bool} (hr : book_Book_notice houses notices hears readings cries n = some r) :
    SpecV Tryz.prog 104 #[.agg #[.int .i64 houses, .int .i64 notices, .slice hears_a hears.length hears_c, .slice readings_a readings.length readings_c, .slice cries_a cries.length cries_c], .int .i64 n] F (.bool r) := by
 refine spec_of_shW (args := [.agg #[.int .i64 houses, .int .i64 notices, .slice hears_a hears.length hears_c, .slice readings_a readings.length readings_c, .slice cries_a cries.length cries_c], .int .i64 n]) Tryz.func104 rfl Tryz.ntmps104 (Nat.le_of_ble_eq_true rfl) ?_
 intro K _ _; rw [book_Book_notice] at hr
 refine wsr ?_
 refine o_box rfl rfl ?_; intro b1 hb1
 refine oa rfl rfl (nsr (om rfl rfl ?_))
 refine ov (v_fieldAddr fa_27_1 rfl) rfl ?_
 refine ov (v_load Tryz.isAgg3 rfl (Has.own 0 rfl) rfl) rfl ?_
 obtain ⟨g2, r3⟩ := gd_ok hr; clear hr
 refine ov (v_sub rfl rfl g2) rfl ?_
 obtain ⟨ok, h4, r5⟩ := b1_ok r3; clear r3
 refine o_callV rfl Tryz.call95 rfl rfl rfl (book_in_w h4) ?_
 refine oa rfl rfl (shO_nil ?_)
 refine kW kn ?_
 refine shW_ret ?_
 refine q_res1 Tryz.results104 (res_tmp rfl) (sr) ?_
 obtain rfl := inj1 r5
 exact rfl
set_option maxHeartbeats 1000000 in
theorem book_Book_hour_w {houses : Int} {notices : Int} {hears_a : Option Addr} {hears_c : Nat} {hears : List (List (List Int))} {readings_a : Option Addr} {readings_c : Nat} {readings : List Int} {cries_a : Option Addr} {cries_c : Nat} {cries : List (Int × Int × Int)} {h : Int} {F : FS} (_h_hears : RowR 1 (slE 1 (slE 1 (iE .i64))) F hears_a hears_c hears) (_h_readings : RowR 1 (iE .i64) F readings_a readings_c readings) (_h_cries : RowR 3 (prE (iE .i64) (prE (iE .i64) (iE .i64))) F cries_a cries_c cries) {r : Bool} (hr : book_Book_hour houses notices hears readings cries h = some r) :
    SpecV Tryz.prog 105 #[.agg #[.int .i64 houses, .int .i64 notices, .slice hears_a hears.length hears_c, .slice readings_a readings.length readings_c, .slice cries_a cries.length cries_c], .int .i64 h] F (.bool r) := by
 refine spec_of_shW (args := [.agg #[.int .i64 houses, .int .i64 notices, .slice hears_a hears.length hears_c, .slice readings_a readings.length readings_c, .slice cries_a cries.length cries_c], .int .i64 h]) Tryz.func105 rfl Tryz.ntmps105 (Nat.le_of_ble_eq_true rfl) ?_
 intro K _ _; rw [book_Book_hour] at hr
 refine wsr ?_
 refine o_box rfl rfl ?_; intro b1 hb1
 refine oa rfl rfl (nsr (om rfl rfl ?_))
 refine ov (v_fieldAddr fa_27_3 rfl) rfl ?_
 refine ov (v_load Tryz.isAgg24 rfl (Has.own 0 rfl) rfl) rfl ?_
 refine ov (v_lenS Tryz.underlying24 rfl) rfl ?_
 obtain ⟨g2, r3⟩ := gd_ok hr; clear hr
 refine ov (v_sub rfl rfl g2) rfl ?_
 obtain ⟨ok, h4, r5⟩ := b1_ok r3; clear r3
 refine o_callV rfl Tryz.call95 rfl rfl rfl (book_in_w h4) ?_
 refine oa rfl rfl (shO_nil ?_)
 refine kW kn ?_
 refine shW_ret ?_
 refine q_res1 Tryz.results105 (res_tmp rfl) (sr) ?_
 obtain rfl := inj1 r5
 exact rfl
set_option maxHeartbeats 1000000 in
theorem book_Check_1_w {hour : Int} {stand : Int} {notice : Int} {b_b : Nat} {houses : Int} {notices : Int} {hears_a : Option Addr} {hears_c : Nat} {hears : List (List (List Int))} {readings_a : Option Addr} {readings_c : Nat} {readings : List Int} {cries_a : Option Addr} {cries_c : Nat} {cries : List (Int × Int × Int)} {mb_b : Nat × Nat} {F : FS} (hb_b : F b_b = some (.cells #[.int .i64 houses, .int .i64 notices, .slice hears_a hears.length hears_c, .slice readings_a readings.length readings_c, .slice cries_a cries.length cries_c] 27 mb_b)) (h_hears : RowR 1 (slE 1 (slE 1 (iE .i64))) F hears_a hears_c hears) (h_readings : RowR 1 (iE .i64) F readings_a readings_c readings) (h_cries : RowR 3 (prE (iE .i64) (prE (iE .i64) (iE .i64))) F cries_a cries_c cries) {r : Bool} (hr : book_Check_1 hour stand notice houses notices hears readings cries = some r) :
    SpecV Tryz.prog 133 #[.agg #[.int .i64 hour, .int .i64 stand, .int .i64 notice], .pointer (some ⟨b_b, 0, none⟩)] F (.bool r) := by
 refine spec_of_shW (args := [.agg #[.int .i64 hour, .int .i64 stand, .int .i64 notice], .pointer (some ⟨b_b, 0, none⟩)]) Tryz.func133 rfl Tryz.ntmps133 (Nat.le_of_ble_eq_true rfl) ?_
 intro K _ _; rw [book_Check_1] at hr
 refine wsr ?_
 refine o_box rfl rfl ?_; intro b1 hb1
 refine oa rfl rfl (nsr ?_)
 refine ov (v_loadA (cs := #[.int .i64 houses, .int .i64 notices, .slice hears_a hears.length hears_c, .slice readings_a readings.length readings_c, .slice cries_a cries.length cries_c]) Tryz.isAgg27 Tryz.sizeOf27 rfl (Has.frozen hb_b) (Nat.le_of_ble_eq_true rfl) rfl) rfl ?_
 refine ov (v_fieldAddr fa_67_0 rfl) rfl ?_
 refine ov (v_load Tryz.isAgg3 rfl (Has.own 0 rfl) rfl) rfl ?_
 obtain ⟨ok, h2, r3⟩ := b1_ok hr; clear hr
 refine o_callV rfl Tryz.call105 rfl rfl rfl (book_Book_hour_w h_hears h_readings h_cries h2) ?_
 refine om rfl rfl ?_
 rcases bool_two ok with c4 | c4
 · have r5 := bt r3 c4; clear r3
   refine shO_on (b := true) 8 rfl (EnvB rfl c4) ?_
   refine ov (v_fieldAddr fa_67_1 rfl) rfl ?_
   refine shO_on (b := true) 8 rfl (EnvB rfl c4) ?_
   refine ov (v_load Tryz.isAgg3 rfl (Has.own 0 rfl) rfl) rfl ?_
   refine shO_on (b := true) 8 rfl (EnvB rfl c4) ?_
   refine ov (v_fieldAddr fa_27_2 rfl) rfl ?_
   refine shO_on (b := true) 8 rfl (EnvB rfl c4) ?_
   refine ov (v_load Tryz.isAgg23 rfl (Has.frozen hb_b) rfl) rfl ?_
   refine shO_on (b := true) 8 rfl (EnvB rfl c4) ?_
   refine ov (v_lenS Tryz.underlying23 rfl) rfl ?_
   refine shO_on (b := true) 8 rfl (EnvB rfl c4) ?_
   obtain ⟨g6, r7⟩ := gd_ok r5; clear r5
   refine ov (v_sub rfl rfl g6) rfl ?_
   refine shO_on (b := true) 8 rfl (EnvB rfl c4) ?_
   obtain ⟨ok2, h8, r9⟩ := b1_ok r7; clear r7
   refine o_callV rfl Tryz.call95 rfl rfl rfl (book_in_w h8) ?_
   refine ov (v_pick_t (evB rfl c4) rfl) rfl ?_
   refine om rfl rfl ?_
   rcases bool_two ok2 with c10 | c10
   · have r11 := bt r9 c10; clear r9
     refine shO_on (b := true) 17 rfl (EnvB rfl c10) ?_
     refine ov (v_loadA (cs := #[.int .i64 houses, .int .i64 notices, .slice hears_a hears.length hears_c, .slice readings_a readings.length readings_c, .slice cries_a cries.length cries_c]) Tryz.isAgg27 Tryz.sizeOf27 rfl (Has.frozen hb_b) (Nat.le_of_ble_eq_true rfl) rfl) rfl ?_
     refine shO_on (b := true) 17 rfl (EnvB rfl c10) ?_
     refine ov (v_fieldAddr fa_67_2 rfl) rfl ?_
     refine shO_on (b := true) 17 rfl (EnvB rfl c10) ?_
     refine ov (v_load Tryz.isAgg3 rfl (Has.own 0 rfl) rfl) rfl ?_
     refine shO_on (b := true) 17 rfl (EnvB rfl c10) ?_
     obtain ⟨ok3, h12, r13⟩ := b1_ok r11; clear r11
     refine o_callV rfl Tryz.call104 rfl rfl rfl (book_Book_notice_w h_hears h_readings h_cries h12) ?_
     refine ov (v_pick_t (evB rfl c10) rfl) rfl ?_
     refine oa rfl rfl (shO_nil ?_)
     refine kW kn ?_
     refine shW_ret ?_
     refine q_res1 Tryz.results133 (res_tmp rfl) (sr) ?_
     obtain rfl := inj1 r13
     exact rfl
   have r14 := bf r9 c10; clear r9
   refine shO_off (b' := false) 17 rfl (EnvB rfl c10) rfl rfl (shO_off (b' := false) 17 rfl (EnvB rfl c10) rfl rfl (shO_off (b' := false) 17 rfl (EnvB rfl c10) rfl rfl (shO_off (b' := false) 17 rfl (EnvB rfl c10) rfl rfl ?_)))
   refine ov (v_pick_f (evB rfl c10) rfl) rfl ?_
   refine oa rfl rfl (shO_nil ?_)
   refine kW kn ?_
   refine shW_ret ?_
   refine q_res1 Tryz.results133 (res_tmp rfl) (sr) ?_
   obtain rfl := inj1 r14
   exact rfl
 have r15 := bf r3 c4; clear r3
 refine shO_off (b' := false) 8 rfl (EnvB rfl c4) rfl rfl (shO_off (b' := false) 8 rfl (EnvB rfl c4) rfl rfl (shO_off (b' := false) 8 rfl (EnvB rfl c4) rfl rfl (shO_off (b' := false) 8 rfl (EnvB rfl c4) rfl rfl (shO_off (b' := false) 8 rfl (EnvB rfl c4) rfl rfl (shO_off (b' := false) 8 rfl (EnvB rfl c4) rfl rfl (shO_off (b' := false) 8 rfl (EnvB rfl c4) rfl rfl ?_))))))
 refine ov (v_pick_f (evB rfl c4) rfl) rfl ?_
 refine om rfl rfl (shO_off (b' := false) 17 rfl rfl rfl rfl (shO_off (b' := false) 17 rfl rfl rfl rfl (shO_off (b' := false) 17 rfl rfl rfl rfl (shO_off (b' := false) 17 rfl rfl rfl rfl ?_))))
 refine ov (v_pick_f rfl rfl) rfl ?_
 refine oa rfl rfl (shO_nil ?_)
 refine kW kn ?_
 refine shW_ret ?_
 refine q_res1 Tryz.results133 (res_tmp rfl) (sr) ?_
 obtain rfl := inj1 r15
 exact rfl
set_option maxHeartbeats 1000000 in
theorem book_Check_w {houses : Int} {notices : Int} {hears_a : Option Addr} {hears_c : Nat} {hears : List (List (List Int))} {readings_a : Option Addr} {readings_c : Nat} {readings : List Int} {cries_a : Option Addr} {cries_c : Nat} {cries : List (Int × Int × Int)} {F : FS} (h_hears : RowR 1 (slE 1 (slE 1 (iE .i64))) F hears_a hears_c hears) (h_readings : RowR 1 (iE .i64) F readings_a readings_c readings) (h_cries : RowR 3 (prE (iE .i64) (prE (iE .i64) (iE .i64))) F cries_a cries_c cries) {r : Int} (hr : book_Check houses notices hears readings cries = some r) :
    SpecV Tryz.prog 91 #[.agg #[.int .i64 houses, .int .i64 notices, .slice hears_a hears.length hears_c, .slice readings_a readings.length readings_c, .slice cries_a cries.length cries_c]] F (.int .i64 r) := by
 refine spec_of_shW (args := [.agg #[.int .i64 houses, .int .i64 notices, .slice hears_a hears.length hears_c, .slice readings_a readings.length readings_c, .slice cries_a cries.length cries_c]]) Tryz.func91 rfl Tryz.ntmps91 (Nat.le_of_ble_eq_true rfl) ?_
 intro K _ _; rw [book_Check] at hr
 refine wsr ?_
 refine o_box rfl rfl ?_; intro b1 hb1
 refine oa rfl rfl (shO_nil (shW_seq (wsr ?_)))
 refine ov (v_loadA (cs := #[.int .i64 houses, .int .i64 notices, .slice hears_a hears.length hears_c, .slice readings_a readings.length readings_c, .slice cries_a cries.length cries_c]) Tryz.isAgg27 Tryz.sizeOf27 rfl (Has.own 0 rfl) (Nat.le_of_ble_eq_true rfl) rfl) rfl ?_
 obtain ⟨ok, h2, r3⟩ := b1_ok hr; clear hr
 refine o_callV rfl Tryz.call130 rfl rfl rfl (book_Book_counted_w h_hears h_readings h_cries h2) ?_
 refine ov (v_notB rfl) rfl ?_
 refine shO_nil ?_
 refine shW_cond rfl (fun c4 => ?_) (fun c4 => ?_)
 · have r5 := bt r3 c4; clear r3
   refine wsr (oa rfl rfl (shO_nil ?_))
   refine kW kn ?_
   refine shW_ret (andThen_ret ?_)
   refine q_res1 Tryz.results91 (res_tmp rfl) (sr) ?_
   obtain rfl := inj1 r5
   exact rfl
 have r6 := bf r3 c4; clear r3
 refine shW_skip ?_
 refine shW_join (fun e1 F1 L1 => book_Check_j1 houses notices hears readings cries = some r ∧ F = F1 ∧ L1 = [(b1, .cells #[.int .i64 houses, .int .i64 notices, .slice hears_a hears.length hears_c, .slice readings_a readings.length readings_c, .slice cries_a cries.length cries_c] 27 (0, 0))] ∧ e1.sub [(1, .pointer (some ⟨b1, 0, none⟩))]) ?_ ?_
 · refine wsr ?_
   refine ov (v_fieldAddr fa_27_2 rfl) rfl ?_
   refine ov (v_load Tryz.isAgg23 rfl (Has.own 0 rfl) rfl) rfl ?_
   refine ov (v_lenS Tryz.underlying23 rfl) rfl ?_
   refine om rfl rfl (shO_nil ?_)
   refine shW_block ?_
   refine shW_lp (fun fu2 e1 F1 L1 => ∃ (tl : List (List (List Int))) (k : Int), tl.length = fu2 ∧ Lst hears k tl ∧ book_Check_l2 houses notices hears readings cries tl = some r ∧ F = F1 ∧ L1 = [(b1, .cells #[.int .i64 houses, .int .i64 notices, .slice hears_a hears.length hears_c, .slice readings_a readings.length readings_c, .slice cries_a cries.length cries_c] 27 (0, 0))] ∧ e1.sub [(1, .pointer (some ⟨b1, 0, none⟩)), (12, .slice hears_a hears.length hears_c), (13, .int .i64 (hears.length : Int)), (14, .int .i64 k)]) _ (m0 kr ⟨_, _, rfl, Lst.start _, r6, rfl, rfl, (sc rfl (sc rfl (sc rfl (sc rfl (sn _)))))⟩) ?_
   rintro fu2 e1 _ _ ⟨tl, k, hn8, hk7, r9, rfl, rfl, he10⟩
   refine shW_env _ he10 ?_; clear he10
   refine wsr ?_
   refine ov (v_lssK rfl rfl) rfl ?_
   refine shO_nil (shW_seq ?_)
   refine shW_condP rfl (fun c12 => ?_) (fun c12 => ?_)
   · obtain ⟨x, tl2, rfl, hx14, g15, hk13⟩ := Lst.succ hk7 c12
     rw [book_Check_l2] at r9
     refine shW_skip ?_
     refine shW_join (fun e1 F1 L1 => book_Check_j3 (book_Check_l2 houses notices hears readings cries tl2) = some r ∧ F = F1 ∧ L1 = [(b1, .cells #[.int .i64 houses, .int .i64 notices, .slice hears_a hears.length hears_c, .slice readings_a readings.length readings_c, .slice cries_a cries.length cries_c] 27 (0, 0))] ∧ e1.sub [(1, .pointer (some ⟨b1, 0, none⟩)), (12, .slice hears_a hears.length hears_c), (13, .int .i64 (hears.length : Int)), (14, .int .i64 k)]) ?_ ?_
     · refine shW_block ?_
       refine wsr ?_
       obtain ⟨b16, o17, c18, vs19, ha20, hs21, hle22, ⟨a25, c26, rfl, h27⟩, hl23, hc24⟩ := RowR.at (slE_ok (slE_ok (iE_ok _))) h_hears ([(b1, .cells #[.int .i64 houses, .int .i64 notices, .slice hears_a hears.length hears_c, .slice readings_a readings.length readings_c, .slice cries_a cries.length cries_c] 27 (0, 0))]) g15.1 hx14
       refine ov (v_indexO Tryz.underlying23 Tryz.sizeOf49 rfl ha20 rfl g15) rfl ?_
       refine ov (v_load Tryz.isAgg49 rfl hs21 (hc24 0 (by decide))) rfl ?_
       refine oa rfl rfl (nsr (om rfl rfl ?_))
       refine ov (v_lenS Tryz.underlying49 rfl) rfl ?_
       refine om rfl rfl (shO_nil ?_)
       refine shW_block ?_
       refine shW_lp (fun fu4 e1 F1 L1 => ∃ (tl3 : List (List Int)) (k2 : Int), tl3.length = fu4 ∧ Lst x k2 tl3 ∧ book_Check_l4 houses notices hears readings cries (book_Check_l2 houses notices hears readings cries tl2) tl3 = some r ∧ F = F1 ∧ L1 = [(b1, .cells #[.int .i64 houses, .int .i64 notices, .slice hears_a hears.length hears_c, .slice readings_a readings.length readings_c, .slice cries_a cries.length cries_c] 27 (0, 0))] ∧ e1.sub [(1, .pointer (some ⟨b1, 0, none⟩)), (12, .slice hears_a hears.length hears_c), (13, .int .i64 (hears.length : Int)), (14, .int .i64 k), (18, .slice a25 x.length c26), (19, .int .i64 (x.length : Int)), (20, .int .i64 k2)]) _ (m0 kr ⟨_, _, rfl, Lst.start _, r9, rfl, rfl, (sc rfl (sc rfl (sc rfl (sc rfl (sc rfl (sc rfl (sc rfl (sn _))))))))⟩) ?_
       rintro fu4 e1 _ _ ⟨tl3, k2, hn29, hk28, r30, rfl, rfl, he31⟩
       refine shW_env _ he31 ?_; clear he31
       refine wsr ?_
       refine ov (v_lssK rfl rfl) rfl ?_
       refine shO_nil (shW_seq ?_)
       refine shW_condP rfl (fun c33 => ?_) (fun c33 => ?_)
       · obtain ⟨x2, tl4, rfl, hx35, g36, hk34⟩ := Lst.succ hk28 c33
         rw [book_Check_l4] at r30
         refine shW_skip (shW_seq ?_)
         refine shW_block ?_
         refine wsr ?_
         obtain ⟨b37, o38, c39, vs40, ha41, hs42, hle43, ⟨a46, c47, rfl, h48⟩, hl44, hc45⟩ := RowR.at (slE_ok (iE_ok _)) h27 ([(b1, .cells #[.int .i64 houses, .int .i64 notices, .slice hears_a hears.length hears_c, .slice readings_a readings.length readings_c, .slice cries_a cries.length cries_c] 27 (0, 0))]) g36.1 hx35
         refine ov (v_indexO Tryz.underlying49 Tryz.sizeOf24 rfl ha41 rfl g36) rfl ?_
         refine ov (v_load Tryz.isAgg24 rfl hs42 (hc45 0 (by decide))) rfl ?_
         refine oa rfl rfl (nsr ?_)
         refine ov (v_loadA (cs := #[.int .i64 houses, .int .i64 notices, .slice hears_a hears.length hears_c, .slice readings_a readings.length readings_c, .slice cries_a cries.length cries_c]) Tryz.isAgg27 Tryz.sizeOf27 rfl (Has.own 0 rfl) (Nat.le_of_ble_eq_true rfl) rfl) rfl ?_
         refine om rfl rfl ?_
         obtain ⟨n, h49, r50⟩ := b1_ok r30; clear r30
         refine o_callV rfl Tryz.call106 rfl rfl rfl (book_Book_listed_w h_hears h_readings h_cries h48 h49) ?_
         refine oa rfl rfl (nsr (om rfl rfl ?_))
         refine ov (v_neq rfl rfl) rfl ?_
         refine shO_nil ?_
         refine shW_condP rfl (fun c51 => ?_) (fun c51 => ?_)
         · have r52 := ite_t r50 c51; clear r50
           refine wsr (om rfl rfl (oa rfl rfl (shO_nil ?_)))
           refine kW kn ?_
           refine shW_ret (inBlock_ret (andThen_ret (andThen_ret (inBlock_ret (inBlock_ret (andThen_ret (andThen_ret (inBlock_ret (andThen_ret ?_)))))))))
           refine q_res1 Tryz.results91 (res_tmp rfl) (sr) ?_
           obtain rfl := inj1 r52
           exact rfl
         have r53 := ite_f r50 c51; clear r50
         refine shW_skip (inBlock_n (id := 3) (shW_region ?_))
         refine ov (v_add rfl rfl (Lst.r64 hk28 c33 (RowR.lt h27))) rfl ?_
         refine om rfl rfl (shO_nil ?_)
         subst hn29; exact le kr ⟨_, _, rfl, hk34, r53, rfl, rfl, (sc rfl (sc rfl (sc rfl (sc rfl (sc rfl (sc rfl (sc rfl (sn _))))))))⟩
       obtain rfl := Lst.zero hk28 c33
       rw [book_Check_l4] at r30
       refine shW_exit (andThen_exit (andThen_exit ?_))
       refine inBlock_exit ?_
       refine inBlock_n (id := 1) ?_
       exact mi kr ⟨r30, rfl, rfl, (sc rfl (sc rfl (sc rfl (sc rfl (sn _)))))⟩
     rintro e1 _ _ ⟨r54, rfl, rfl, he55⟩
     refine shW_env _ he55 ?_; clear he55
     rw [book_Check_j3] at r54
     refine shW_region ?_
     refine ov (v_add rfl rfl (Lst.r64 hk7 c12 (RowR.lt h_hears))) rfl ?_
     refine om rfl rfl (shO_nil ?_)
     subst hn8; exact le kr ⟨_, _, rfl, hk13, r54, rfl, rfl, (sc rfl (sc rfl (sc rfl (sc rfl (sn _)))))⟩
   obtain rfl := Lst.zero hk7 c12
   rw [book_Check_l2] at r9
   refine shW_exit (andThen_exit (andThen_exit ?_))
   refine inBlock_exit ?_
   exact mi kr ⟨r9, rfl, rfl, (sc rfl (sn _))⟩
 rintro e1 _ _ ⟨r56, rfl, rfl, he57⟩
 refine shW_env _ he57 ?_; clear he57
 rw [book_Check_j1] at r56
 refine shW_seq ?_
 refine shW_block ?_
 refine wsr ?_
 refine ov (v_fieldAddr fa_27_3 rfl) rfl ?_
 refine ov (v_load Tryz.isAgg24 rfl (Has.own 0 rfl) rfl) rfl ?_
 have hn58 : FnR Tryz.prog F 131 #[] #[] (iE .i64) Value.bool (fun xx_ : Int => book_read xx_) := ⟨Tryz.call131, fun F2 h2 vs xx_ r ha hr => by obtain rfl := ha; exact book_read_w hr⟩
 obtain ⟨ok2, h59, r60⟩ := b1_ok r56; clear r56
 refine o_callV rfl Tryz.call45 rfl rfl rfl (book_every_int_w h_readings hn58 h59) ?_
 refine ov (v_notB rfl) rfl ?_
 refine oa rfl rfl (shO_nil ?_)
 refine shW_cond rfl (fun c61 => ?_) (fun c61 => ?_)
 · have r62 := bt r60 c61; clear r60
   refine wsr (oa rfl rfl (shO_nil ?_))
   refine kW kn ?_
   refine shW_ret (inBlock_ret (andThen_ret ?_))
   refine q_res1 Tryz.results91 (res_tmp rfl) (sr) ?_
   obtain rfl := inj1 r62
   exact rfl
 have r63 := bf r60 c61; clear r60
 refine wsr ?_
 refine ov (v_fieldAddr fa_27_4 rfl) rfl ?_
 refine ov (v_load Tryz.isAgg25 rfl (Has.own 0 rfl) rfl) rfl ?_
 refine ov (v_makeFunc rfl rfl) rfl ?_
 refine shO_freeze 0 rfl hb1 ?_; intro F64 hF65 hz66
 refine shO_L (L' := []) rfl ?_
 replace h_hears := h_hears.mono (slE_ok (slE_ok (iE_ok _))) hF65
 replace h_readings := h_readings.mono (iE_ok _) hF65
 replace h_cries := h_cries.mono (prE_ok (iE_ok _) (prE_ok (iE_ok _) (iE_ok _))) hF65
 have hn67 : FnR Tryz.prog F64 133 #[] #[.pointer (some ⟨b1, 0, none⟩)] (agE (prE (iE .i64) (prE (iE .i64) (iE .i64)))) Value.bool (fun xx_ : (Int × Int × Int) => book_Check_1 xx_.1 xx_.2.1 xx_.2.2 houses notices hears readings cries) := ⟨Tryz.call133, fun F2 h2 vs xx_ r ha hr => by obtain ⟨_, rfl, ⟨_, _, rfl, rfl, ⟨_, _, rfl, rfl, rfl⟩⟩⟩ := ha; exact book_Check_1_w (h2 _ _ hz66) (h_hears.mono (slE_ok (slE_ok (iE_ok _))) h2) (h_readings.mono (iE_ok _) h2) (h_cries.mono (prE_ok (iE_ok _) (prE_ok (iE_ok _) (iE_ok _))) h2) hr⟩
 obtain ⟨ok3, h68, r69⟩ := b1_ok r63; clear r63
 refine o_callV rfl Tryz.call132 rfl rfl rfl (book_every_Cry_w h_cries hn67 h68) ?_
 refine ov (v_notB rfl) rfl ?_
 refine oa rfl rfl (shO_nil ?_)
 refine shW_cond rfl (fun c70 => ?_) (fun c70 => ?_)
 · have r71 := bt r69 c70; clear r69
   refine wsr (oa rfl rfl (shO_nil (shW_ret (inBlock_ret (andThen_ret ?_)))))
   refine q_res1 Tryz.results91 (res_tmp rfl) (sr) ?_
   obtain rfl := inj1 r71
   exact rfl
 have r72 := bf r69 c70; clear r69
 refine shW_skip (inBlock_n (id := 4) (wsr (oa rfl rfl (shO_nil (shW_ret ?_)))))
 refine q_res1 Tryz.results91 (res_tmp rfl) (sr) ?_
 obtain rfl := inj1 r72
 exact rfl
set_option maxHeartbeats 1000000 in
theorem book_Complaint_error_w {house : Int} {notice : Int} {heard : Bool} {houses : Int} {notices : Int} {hears_a : Option Addr} {hears_c : Nat} {hears : List (List (List Int))} {readings_a : Option Addr} {readings_c : Nat} {readings : List Int} {cries_a : Option Addr} {cries_c : Nat} {cries : List (Int × Int × Int)} {F : FS} (h_hears : RowR 1 (slE 1 (slE 1 (iE .i64))) F hears_a hears_c hears) (h_readings : RowR 1 (iE .i64) F readings_a readings_c readings) (h_cries : RowR 3 (prE (iE .i64) (prE (iE .i64) (iE .i64))) F cries_a cries_c cries) {r : Int} (hr : book_Complaint_error house notice heard houses notices hears readings cries = some r) :
    SpecV Tryz.prog 92 #[.agg #[.int .i64 house, .int .i64 notice, .bool heard], .agg #[.int .i64 houses, .int .i64 notices, .slice hears_a hears.length hears_c, .slice readings_a readings.length readings_c, .slice cries_a cries.length cries_c]] F (.int .i64 r) := by
 refine spec_of_shW (args := [.agg #[.int .i64 house, .int .i64 notice, .bool heard], .agg #[.int .i64 houses, .int .i64 notices, .slice hears_a hears.length hears_c, .slice readings_a readings.length readings_c, .slice cries_a cries.length cries_c]]) Tryz.func92 rfl Tryz.ntmps92 (Nat.le_of_ble_eq_true rfl) ?_
 intro K _ _; rw [book_Complaint_error] at hr
 refine wsr ?_
 refine o_box rfl rfl ?_; intro b1 hb1
 refine o_box rfl rfl ?_; intro b2 hb2
 refine oa rfl rfl (shO_nil (shW_seq ?_))
 obtain ⟨k, h3, r4⟩ := b1_ok hr; clear hr
 refine shW_join (fun e1 F1 L1 => F = F1 ∧ L1 = [] ∧ e1.sub [(16, .bool k)]) ?_ ?_
 · clear r4
   refine shW_region ?_
   refine ov (v_loadA (cs := #[.int .i64 houses, .int .i64 notices, .slice hears_a hears.length hears_c, .slice readings_a readings.length readings_c, .slice cries_a cries.length cries_c]) Tryz.isAgg27 Tryz.sizeOf27 rfl (Has.own 0 rfl) (Nat.le_of_ble_eq_true rfl) rfl) rfl ?_
   refine ov (v_fieldAddr fa_36_0 rfl) rfl ?_
   refine ov (v_load Tryz.isAgg3 rfl (Has.own 1 rfl) rfl) rfl ?_
   obtain ⟨ok, h5, r6⟩ := b1_ok h3; clear h3
   refine o_callV rfl Tryz.call134 rfl rfl rfl (book_Book_house_w h_hears h_readings h_cries h5) ?_
   refine ov (v_notB rfl) rfl ?_
   refine om rfl rfl ?_
   rcases bool_two (!ok) with c7 | c7
   · have r8 := bt r6 c7; clear r6
     refine shO_off (b' := true) 10 rfl (EnvB rfl c7) rfl rfl (shO_off (b' := true) 10 rfl (EnvB rfl c7) rfl rfl (shO_off (b' := true) 10 rfl (EnvB rfl c7) rfl rfl (shO_off (b' := true) 10 rfl (EnvB rfl c7) rfl rfl (shO_off (b' := true) 10 rfl (EnvB rfl c7) rfl rfl ?_))))
     refine ov (v_pick_t (evB rfl c7) rfl) rfl ?_
     refine shO_nil ?_
     obtain rfl := inj1 r8
     exact mi kn ⟨rfl, rfl, (sc rfl (sn _))⟩
   have r9 := bf r6 c7; clear r6
   refine shO_on (b := false) 10 rfl (EnvB rfl c7) ?_
   refine ov (v_loadA (cs := #[.int .i64 houses, .int .i64 notices, .slice hears_a hears.length hears_c, .slice readings_a readings.length readings_c, .slice cries_a cries.length cries_c]) Tryz.isAgg27 Tryz.sizeOf27 rfl (Has.own 0 rfl) (Nat.le_of_ble_eq_true rfl) rfl) rfl ?_
   refine shO_on (b := false) 10 rfl (EnvB rfl c7) ?_
   refine ov (v_fieldAddr fa_36_1 rfl) rfl ?_
   refine shO_on (b := false) 10 rfl (EnvB rfl c7) ?_
   refine ov (v_load Tryz.isAgg3 rfl (Has.own 1 rfl) rfl) rfl ?_
   refine shO_on (b := false) 10 rfl (EnvB rfl c7) ?_
   obtain ⟨ok2, h10, r11⟩ := b1_ok r9; clear r9
   refine o_callV rfl Tryz.call104 rfl rfl rfl (book_Book_notice_w h_hears h_readings h_cries h10) ?_
   refine shO_on (b := false) 10 rfl (EnvB rfl c7) ?_
   refine ov (v_notB rfl) rfl ?_
   refine ov (v_pick_f (evB rfl c7) rfl) rfl ?_
   refine shO_nil ?_
   obtain rfl := inj1 r11
   exact mi kn ⟨rfl, rfl, (sc rfl (sn _))⟩
 rintro e1 _ _ ⟨rfl, rfl, he12⟩
 refine shW_env _ he12 ?_; clear he12
 refine shW_cond rfl (fun c13 => ?_) (fun c13 => ?_)
 · have r14 := bt r4 c13; clear r4
   refine wsr (oa rfl rfl (shO_nil (shW_ret (andThen_ret ?_))))
   refine q_res1 Tryz.results92 (res_tmp rfl) (sr) ?_
   obtain rfl := inj1 r14
   exact rfl
 have r15 := bf r4 c13; clear r4
 refine shW_skip (wsr (oa rfl rfl (shO_nil (shW_ret ?_))))
 refine q_res1 Tryz.results92 (res_tmp rfl) (sr) ?_
 obtain rfl := inj1 r15
 exact rfl
set_option maxHeartbeats 1000000 in
theorem book_complained_w {houses : Int} {notices : Int} {hears_a : Option Addr} {hears_c : Nat} {hears : List (List (List Int))} {readings_a : Option Addr} {readings_c : Nat} {readings : List Int} {cries_a : Option Addr} {cries_c : Nat} {cries : List (Int × Int × Int)} {l_a : Option Addr} {l_c : Nat} {l : List (Int × Int × Bool)} {F : FS} (h_hears : RowR 1 (slE 1 (slE 1 (iE .i64))) F hears_a hears_c hears) (h_readings : RowR 1 (iE .i64) F readings_a readings_c readings) (h_cries : RowR 3 (prE (iE .i64) (prE (iE .i64) (iE .i64))) F cries_a cries_c cries) (h_l : RowR 3 (prE (iE .i64) (prE (iE .i64) bE)) F l_a l_c l) {r : Int} (hr : book_complained houses notices hears readings cries l = some r) :
    SpecV Tryz.prog 54 #[.agg #[.int .i64 houses, .int .i64 notices, .slice hears_a hears.length hears_c, .slice readings_a readings.length readings_c, .slice cries_a cries.length cries_c], .slice l_a l.length l_c] F (.int .i64 r) := by
 refine spec_of_shW (args := [.agg #[.int .i64 houses, .int .i64 notices, .slice hears_a hears.length hears_c, .slice readings_a readings.length readings_c, .slice cries_a cries.length cries_c], .slice l_a l.length l_c]) Tryz.func54 rfl Tryz.ntmps54 (Nat.le_of_ble_eq_true rfl) ?_
 intro K _ _; rw [book_complained] at hr
 refine wsr ?_
 refine o_box rfl rfl ?_; intro b1 hb1
 refine oa rfl rfl (shO_nil (shW_seq (wsr ?_)))
 refine ov (v_loadA (cs := #[.int .i64 houses, .int .i64 notices, .slice hears_a hears.length hears_c, .slice readings_a readings.length readings_c, .slice cries_a cries.length cries_c]) Tryz.isAgg27 Tryz.sizeOf27 rfl (Has.own 0 rfl) (Nat.le_of_ble_eq_true rfl) rfl) rfl ?_
 obtain ⟨n, h2, r3⟩ := b1_ok hr; clear hr
 refine o_callV rfl Tryz.call91 rfl rfl rfl (book_Check_w h_hears h_readings h_cries h2) ?_
 refine oa rfl rfl (nsr (om rfl rfl ?_))
 refine ov (v_neq rfl rfl) rfl ?_
 refine shO_nil ?_
 refine shW_condP rfl (fun c4 => ?_) (fun c4 => ?_)
 · have r5 := ite_t r3 c4; clear r3
   refine wsr (om rfl rfl (oa rfl rfl (shO_nil ?_)))
   refine kW kn ?_
   refine shW_ret (andThen_ret ?_)
   refine q_res1 Tryz.results54 (res_tmp rfl) (sr) ?_
   obtain rfl := inj1 r5
   exact rfl
 have r6 := ite_f r3 c4; clear r3
 refine shW_skip (shW_seq (wsr (om rfl rfl ?_)))
 refine ov (v_lenS Tryz.underlying32 rfl) rfl ?_
 refine ov (v_gtrK rfl rfl) rfl ?_
 refine shO_nil ?_
 refine shW_condP rfl (fun c7 => ?_) (fun c7 => ?_)
 · have r8 := ite_t r6 c7; clear r6
   refine wsr (oa rfl rfl (shO_nil ?_))
   refine kW kn ?_
   refine shW_ret (andThen_ret ?_)
   refine q_res1 Tryz.results54 (res_tmp rfl) (sr) ?_
   obtain rfl := inj1 r8
   exact rfl
 have r9 := ite_f r6 c7; clear r6
 refine shW_skip ?_
 refine shW_join (fun e1 F1 L1 => book_complained_j1 = some r ∧ F = F1 ∧ L1 = [] ∧ e1.sub []) ?_ ?_
 · refine wsr (om rfl rfl ?_)
   refine ov (v_lenS Tryz.underlying32 rfl) rfl ?_
   refine om rfl rfl (shO_nil ?_)
   refine shW_block ?_
   refine shW_lp (fun fu2 e1 F1 L1 => ∃ (tl : List (Int × Int × Bool)) (k : Int), tl.length = fu2 ∧ Lst l k tl ∧ book_complained_l2 houses notices hears readings cries tl = some r ∧ F = F1 ∧ L1 = [(b1, .cells #[.int .i64 houses, .int .i64 notices, .slice hears_a hears.length hears_c, .slice readings_a readings.length readings_c, .slice cries_a cries.length cries_c] 27 (0, 0))] ∧ e1.sub [(2, .pointer (some ⟨b1, 0, none⟩)), (17, .slice l_a l.length l_c), (18, .int .i64 (l.length : Int)), (19, .int .i64 k)]) _ (m0 kr ⟨_, _, rfl, Lst.start _, r9, rfl, rfl, (sc rfl (sc rfl (sc rfl (sc rfl (sn _)))))⟩) ?_
   rintro fu2 e1 _ _ ⟨tl, k, hn11, hk10, r12, rfl, rfl, he13⟩
   refine shW_env _ he13 ?_; clear he13
   refine wsr ?_
   refine ov (v_lssK rfl rfl) rfl ?_
   refine shO_nil (shW_seq ?_)
   refine shW_condP rfl (fun c15 => ?_) (fun c15 => ?_)
   · obtain ⟨x, tl2, rfl, hx17, g18, hk16⟩ := Lst.succ hk10 c15
     rw [book_complained_l2] at r12
     refine shW_skip (shW_seq ?_)
     refine shW_block ?_
     refine wsr ?_
     obtain ⟨b19, o20, c21, vs22, ha23, hs24, hle25, ⟨_, _, rfl, rfl, ⟨_, _, rfl, rfl, rfl⟩⟩, hl26, hc27⟩ := RowR.at (prE_ok (iE_ok _) (prE_ok (iE_ok _) bE_ok)) h_l ([(b1, .cells #[.int .i64 houses, .int .i64 notices, .slice hears_a hears.length hears_c, .slice readings_a readings.length readings_c, .slice cries_a cries.length cries_c] 27 (0, 0))]) g18.1 hx17
     refine ov (v_indexO Tryz.underlying32 Tryz.sizeOf36 rfl ha23 rfl g18) rfl ?_
     refine ov (v_loadA (cs := #[.int .i64 x.1, .int .i64 x.2.1, .bool x.2.2]) Tryz.isAgg36 Tryz.sizeOf36 rfl hs24 hle25 (extract_cells hle25 hl26 hc27)) rfl ?_
     refine o_alloc rfl Tryz.zeroValue36 ?_; intro b28 hb28
     refine o_storeA (i := 0) Tryz.sizeOf36 rfl rfl rfl (by simp [Value.oneCell']) rfl (Nat.le_of_ble_eq_true rfl) ?_
     refine shO_L (L' := [(b28, .cells #[.int .i64 x.1, .int .i64 x.2.1, .bool x.2.2] 36 (0, 0)), (b1, .cells #[.int .i64 houses, .int .i64 notices, .slice hears_a hears.length hears_c, .slice readings_a readings.length readings_c, .slice cries_a cries.length cries_c] 27 (0, 0))]) rfl ?_
     refine nsr ?_
     refine ov (v_loadA (cs := #[.int .i64 x.1, .int .i64 x.2.1, .bool x.2.2]) Tryz.isAgg36 Tryz.sizeOf36 rfl (Has.own 0 rfl) (Nat.le_of_ble_eq_true rfl) rfl) rfl ?_
     refine ov (v_loadA (cs := #[.int .i64 houses, .int .i64 notices, .slice hears_a hears.length hears_c, .slice readings_a readings.length readings_c, .slice cries_a cries.length cries_c]) Tryz.isAgg27 Tryz.sizeOf27 rfl (Has.own 1 rfl) (Nat.le_of_ble_eq_true rfl) rfl) rfl ?_
     obtain ⟨n2, h29, r30⟩ := b1_ok r12; clear r12
     refine o_callV rfl Tryz.call92 rfl rfl rfl (book_Complaint_error_w h_hears h_readings h_cries h29) ?_
     refine oa rfl rfl (nsr (om rfl rfl ?_))
     refine ov (v_neq rfl rfl) rfl ?_
     refine shO_nil ?_
     refine shW_condP rfl (fun c31 => ?_) (fun c31 => ?_)
     · have r32 := ite_t r30 c31; clear r30
       refine wsr (om rfl rfl (oa rfl rfl (shO_nil ?_)))
       refine kW kn ?_
       refine shW_ret (inBlock_ret (andThen_ret (andThen_ret (inBlock_ret (andThen_ret ?_)))))
       refine q_res1 Tryz.results54 (res_tmp rfl) (sr) ?_
       obtain rfl := inj1 r32
       exact rfl
     have r33 := ite_f r30 c31; clear r30
     refine shW_skip (inBlock_n (id := 1) (shW_region ?_))
     refine ov (v_add rfl rfl (Lst.r64 hk10 c15 (RowR.lt h_l))) rfl ?_
     refine om rfl rfl (shO_nil ?_)
     subst hn11; exact le (kd kr) ⟨_, _, rfl, hk16, r33, rfl, rfl, (sc rfl (sc rfl (sc rfl (sc rfl (sn _)))))⟩
   obtain rfl := Lst.zero hk10 c15
   rw [book_complained_l2] at r12
   refine shW_exit (andThen_exit (andThen_exit ?_))
   refine inBlock_exit ?_
   exact mi kn ⟨r12, rfl, rfl, (sn _)⟩
 rintro e1 _ _ ⟨r34, rfl, rfl, he35⟩
 refine shW_env _ he35 ?_; clear he35
 rw [book_complained_j1] at r34
 refine wsr (oa rfl rfl (shO_nil (shW_ret ?_)))
 refine q_res1 Tryz.results54 (res_tmp rfl) (sr) ?_
 obtain rfl := inj1 r34
 exact rfl
set_option maxHeartbeats 1000000 in
theorem book_opened_w {houses : Int} {notices : Int} {hears_a : Option Addr} {hears_c : Nat} {hears : List (List (List Int))} {readings_a : Option Addr} {readings_c : Nat} {readings : List Int} {cries_a : Option Addr} {cries_c : Nat} {cries : List (Int × Int × Int)} {F : FS} (h_hears : RowR 1 (slE 1 (slE 1 (iE .i64))) F hears_a hears_c hears) (h_readings : RowR 1 (iE .i64) F readings_a readings_c readings) (h_cries : RowR 3 (prE (iE .i64) (prE (iE .i64) (iE .i64))) F cries_a cries_c cries) {r : Option (Int × Int × (List (List (List Int))) × (List Int) × (List (Int × Int × Int)))} {r2 : Int} (hr : book_opened houses notices hears readings cries = some (r, r2)) :
    SH.Spec Tryz.prog 93 #[.agg #[.int .i64 houses, .int .i64 notices, .slice hears_a hears.length hears_c, .slice readings_a readings.length readings_c, .slice cries_a cries.length cries_c]] F [] fun F' L' v => ∃ (rv : Value), v = .tuple #[rv, .int .i64 r2] ∧ L' = [] ∧ PtrR 171 (prE (iE .i64) (prE (iE .i64) (prE (slE 1 (slE 1 (slE 1 (iE .i64)))) (prE (slE 1 (iE .i64)) (slE 3 (prE (iE .i64) (prE (iE .i64) (iE .i64)))))))) F' rv r := by
 refine spec_of_shW (args := [.agg #[.int .i64 houses, .int .i64 notices, .slice hears_a hears.length hears_c, .slice readings_a readings.length readings_c, .slice cries_a cries.length cries_c]]) Tryz.func93 rfl Tryz.ntmps93 (Nat.le_of_ble_eq_true rfl) ?_
 intro K _ _; rw [book_opened] at hr
 refine wsr ?_
 refine o_box rfl rfl ?_; intro b1 hb1
 refine oa rfl rfl (oa rfl rfl (shO_nil (shW_seq (wsr ?_))))
 refine ov (v_loadA (cs := #[.int .i64 houses, .int .i64 notices, .slice hears_a hears.length hears_c, .slice readings_a readings.length readings_c, .slice cries_a cries.length cries_c]) Tryz.isAgg27 Tryz.sizeOf27 rfl (Has.own 0 rfl) (Nat.le_of_ble_eq_true rfl) rfl) rfl ?_
 obtain ⟨n, h2, r3⟩ := b1_ok hr; clear hr
 refine o_callV rfl Tryz.call91 rfl rfl rfl (book_Check_w h_hears h_readings h_cries h2) ?_
 refine oa rfl rfl (nsr (om rfl rfl ?_))
 refine ov (v_neq rfl rfl) rfl ?_
 refine shO_nil ?_
 refine shW_condP rfl (fun c4 => ?_) (fun c4 => ?_)
 · have r5 := ite_t r3 c4; clear r3
   refine wsr (om rfl rfl (oa rfl rfl (oa rfl rfl (shO_nil ?_))))
   refine kW kn ?_
   refine shW_ret (andThen_ret ?_)
   refine q_res2 Tryz.results93 (res_tmp rfl) (res_tmp rfl) (sr) ?_
   obtain ⟨rfl, rfl⟩ := inj2 r5
   exact ⟨_, rfl, rfl, rfl⟩
 have r6 := ite_f r3 c4; clear r3
 refine shW_skip (wsr ?_)
 refine ov (v_loadA (cs := #[.int .i64 houses, .int .i64 notices, .slice hears_a hears.length hears_c, .slice readings_a readings.length readings_c, .slice cries_a cries.length cries_c]) Tryz.isAgg27 Tryz.sizeOf27 rfl (Has.own 0 rfl) (Nat.le_of_ble_eq_true rfl) rfl) rfl ?_
 refine ov (v_build (v := .agg #[.int .i64 houses, .int .i64 notices, .slice hears_a hears.length hears_c, .slice readings_a readings.length readings_c, .slice cries_a cries.length cries_c]) rfl (by intro w; kernel_rfl)) rfl ?_
 refine o_box rfl rfl ?_; intro b7 hb7
 refine oa rfl rfl (oa rfl rfl (shO_nil ?_))
 refine shW_freeze 0 rfl hb7 ?_; intro F8 hF9 hz10
 refine shW_L (L' := [(b1, .cells #[.int .i64 houses, .int .i64 notices, .slice hears_a hears.length hears_c, .slice readings_a readings.length readings_c, .slice cries_a cries.length cries_c] 27 (0, 0))]) rfl ?_
 replace h_hears := h_hears.mono (slE_ok (slE_ok (iE_ok _))) hF9
 replace h_readings := h_readings.mono (iE_ok _) hF9
 replace h_cries := h_cries.mono (prE_ok (iE_ok _) (prE_ok (iE_ok _) (iE_ok _))) hF9
 refine kW kn ?_
 refine shW_ret ?_
 refine q_res2 Tryz.results93 (res_tmp rfl) (res_tmp rfl) (sr) ?_
 obtain ⟨rfl, rfl⟩ := inj2 r6
 exact ⟨_, rfl, rfl, ⟨_, _, _, rfl, hz10, ⟨_, _, rfl, rfl, ⟨_, _, rfl, rfl, ⟨_, _, rfl, ⟨_, _, rfl, h_hears⟩, ⟨_, _, rfl, ⟨_, _, rfl, h_readings⟩, ⟨_, _, rfl, h_cries⟩⟩⟩⟩⟩⟩⟩
set_option maxHeartbeats 1000000 in
theorem book_least_w {n : Int} {more_a : Option Addr} {more_c : Nat} {more : List Int} {F : FS} (h_more : RowR 1 (iE .i64) F more_a more_c more) {r : Int} (hr : book_least n more = some r) :
    SpecV Tryz.prog 137 #[.int .i64 n, .slice more_a more.length more_c] F (.int .i64 r) := by
 refine spec_of_shW (args := [.int .i64 n, .slice more_a more.length more_c]) Tryz.func137 rfl Tryz.ntmps137 (Nat.le_of_ble_eq_true rfl) ?_
 intro K _ _; rw [book_least] at hr
 refine wsr (oa rfl rfl (shO_nil ?_))
 obtain ⟨n2, h1, r2⟩ := b1_ok hr; clear hr
 refine shW_join (fun e1 F1 L1 => F = F1 ∧ L1 = [] ∧ e1.sub [(0, .int .i64 n2)]) ?_ ?_
 · clear r2
   refine wsr (om rfl rfl ?_)
   refine ov (v_lenS Tryz.underlying24 rfl) rfl ?_
   refine om rfl rfl (shO_nil ?_)
   refine shW_block ?_
   refine shW_lp (fun fu1 e1 F1 L1 => ∃ (tl : List Int) (k : Int), tl.length = fu1 ∧ Lst more k tl ∧ ∃ (n3 : Int), book_least_l1 tl n3 = some n2 ∧ F = F1 ∧ L1 = [] ∧ e1.sub [(0, .int .i64 n3), (7, .slice more_a more.length more_c), (8, .int .i64 (more.length : Int)), (9, .int .i64 k)]) _ (m0 kr ⟨_, _, rfl, Lst.start _, n, h1, rfl, rfl, (sc rfl (sc rfl (sc rfl (sc rfl (sn _)))))⟩) ?_
   rintro fu1 e1 _ _ ⟨tl, k, hn4, hk3, n3, r5, rfl, rfl, he6⟩
   refine shW_env _ he6 ?_; clear he6
   refine wsr ?_
   refine ov (v_lssK rfl rfl) rfl ?_
   refine shO_nil (shW_seq ?_)
   refine shW_condP rfl (fun c8 => ?_) (fun c8 => ?_)
   · obtain ⟨x, tl2, rfl, hx10, g11, hk9⟩ := Lst.succ hk3 c8
     rw [book_least_l1] at r5
     refine shW_skip (shW_seq ?_)
     refine shW_block ?_
     refine wsr ?_
     obtain ⟨b12, o13, c14, vs15, ha16, hs17, hle18, rfl, hl19, hc20⟩ := RowR.at (iE_ok _) h_more ([]) g11.1 hx10
     refine ov (v_indexO Tryz.underlying24 Tryz.sizeOf3 rfl ha16 rfl g11) rfl ?_
     refine ov (v_load Tryz.isAgg3 rfl hs17 (hc20 0 (by decide))) rfl ?_
     refine oa rfl rfl (shO_nil (shW_region (om rfl rfl (om rfl rfl ?_))))
     refine ov (v_min2 rfl rfl) rfl ?_
     refine oa rfl rfl (shO_nil (inBlock_n (id := 1) (shW_region ?_)))
     refine ov (v_add rfl rfl (Lst.r64 hk3 c8 (RowR.lt h_more))) rfl ?_
     refine om rfl rfl (shO_nil ?_)
     subst hn4; exact le kr ⟨_, _, rfl, hk9, if x < n3 then x else n3, r5, rfl, rfl, (sc rfl (sc rfl (sc rfl (sc rfl (sn _)))))⟩
   obtain rfl := Lst.zero hk3 c8
   rw [book_least_l1] at r5
   refine shW_exit (andThen_exit (andThen_exit ?_))
   refine inBlock_exit ?_
   obtain rfl := inj1 r5
   exact mi kr ⟨rfl, rfl, (sc rfl (sn _))⟩
 rintro e1 _ _ ⟨rfl, rfl, he21⟩
 refine shW_env _ he21 ?_; clear he21
 refine wsr (om rfl rfl (oa rfl rfl (shO_nil (shW_ret ?_))))
 refine q_res1 Tryz.results137 (res_tmp rfl) (sr) ?_
 obtain rfl := inj1 r2
 exact rfl
set_option maxHeartbeats 1000000 in
theorem book_near_w {a : Int} {b : Int} {F : FS} {r : Bool} (hr : book_near a b = some r) :
    SpecV Tryz.prog 99 #[.int .i64 a, .int .i64 b] F (.bool r) := by
 refine spec_of_shW (args := [.int .i64 a, .int .i64 b]) Tryz.func99 rfl Tryz.ntmps99 (Nat.le_of_ble_eq_true rfl) ?_
 intro K _ _; rw [book_near] at hr
 refine wsr (oa rfl rfl (nsr (om rfl rfl (om rfl rfl ?_))))
 obtain ⟨g1, r2⟩ := gd_ok hr; clear hr
 refine ov (v_sub rfl rfl g1) rfl ?_
 obtain ⟨g3, r4⟩ := gd_ok r2; clear r2
 refine ov (v_add rfl rfl g3) rfl ?_
 refine ov (v_remT rfl rfl (by decide)) rfl ?_
 refine oa rfl rfl (nsr (om rfl rfl (om rfl rfl ?_)))
 obtain ⟨g5, r6⟩ := gd_ok r4; clear r4
 refine ov (v_sub rfl rfl g5) rfl ?_
 refine o_buildSlice (cs := #[.int .i64 (8 - (Int.tmod ((a - b) + 8) 8))]) rfl rfl (buildSlice_all slt_24 [.int .i64 (8 - (Int.tmod ((a - b) + 8) 8))] rfl (by decide) (by simp [Value.cells]) (by decide)) ?_; intro b7 hb7
 refine shO_freeze 0 rfl hb7 ?_; intro F8 hF9 hz10
 refine shO_L (L' := []) rfl ?_
 have h11 : RowR 1 (iE .i64) F8 (some ⟨b7, 0, none⟩) 1 [8 - (Int.tmod ((a - b) + 8) 8)] := RowR.of_block (iE_ok _) (vss := [[.int .i64 (8 - (Int.tmod ((a - b) + 8) 8))]]) (xs := [8 - (Int.tmod ((a - b) + 8) 8)]) hz10 (.cons rfl .nil) rfl (by simp [maxLen])
 obtain ⟨n, h12, r13⟩ := b1_ok r6; clear r6
 refine o_callV rfl Tryz.call137 rfl rfl rfl (book_least_w h11 h12) ?_
 refine ov (v_leqK rfl rfl) rfl ?_
 refine oa rfl rfl (shO_nil (shW_ret ?_))
 refine q_res1 Tryz.results99 (res_tmp rfl) (sr) ?_
 obtain rfl := inj1 r13
 exact rfl
set_option maxHeartbeats 1000000 in
theorem book_Book_can_w {houses : Int} {notices : Int} {hears_a : Option Addr} {hears_c : Nat} {hears : List (List (List Int))} {readings_a : Option Addr} {readings_c : Nat} {readings : List Int} {cries_a : Option Addr} {cries_c : Nat} {cries : List (Int × Int × Int)} {hour : Int} {wind : Int} {F : FS} (_h_hears : RowR 1 (slE 1 (slE 1 (iE .i64))) F hears_a hears_c hears) (h_readings : RowR 1 (iE .i64) F readings_a readings_c readings) (_h_cries : RowR 3 (prE (iE .i64) (prE (iE .i64) (iE .i64))) F cries_a cries_c cries) {r : Bool} (hr : book_Book_can houses notices hears readings cries hour wind = some r) :
    SpecV Tryz.prog 138 #[.agg #[.int .i64 houses, .int .i64 notices, .slice hears_a hears.length hears_c, .slice readings_a readings.length readings_c, .slice cries_a cries.length cries_c], .int .i64 hour, .int .i64 wind] F (.bool r) := by
 refine spec_of_shW (args := [.agg #[.int .i64 houses, .int .i64 notices, .slice hears_a hears.length hears_c, .slice readings_a readings.length readings_c, .slice cries_a cries.length cries_c], .int .i64 hour, .int .i64 wind]) Tryz.func138 rfl Tryz.ntmps138 (Nat.le_of_ble_eq_true rfl) ?_
 intro K _ _; rw [book_Book_can] at hr
 refine wsr ?_
 refine o_box rfl rfl ?_; intro b1 hb1
 refine oa rfl rfl (nsr ?_)
 refine ov (v_fieldAddr fa_27_3 rfl) rfl ?_
 refine ov (v_load Tryz.isAgg24 rfl (Has.own 0 rfl) rfl) rfl ?_
 refine om rfl rfl ?_
 obtain ⟨x, g2, hx3, r4⟩ := ix_ok hr; clear hr
 obtain ⟨b5, o6, c7, vs8, ha9, hs10, hle11, rfl, hl12, hc13⟩ := RowR.at (iE_ok _) h_readings ([(b1, .cells #[.int .i64 houses, .int .i64 notices, .slice hears_a hears.length hears_c, .slice readings_a readings.length readings_c, .slice cries_a cries.length cries_c] 27 (0, 0))]) g2.1 hx3
 refine ov (v_indexO Tryz.underlying24 Tryz.sizeOf3 rfl ha9 rfl g2) rfl ?_
 refine ov (v_load Tryz.isAgg3 rfl hs10 (hc13 0 (by decide))) rfl ?_
 refine ov (v_eql rfl rfl) rfl ?_
 refine om rfl rfl ?_
 by_cases c14 : x = (-1)
 · have r15 := ite_t r4 c14; clear r4
   refine shO_off (b' := true) 13 rfl (Env.isT rfl c14) rfl rfl (shO_off (b' := true) 13 rfl (Env.isT rfl c14) rfl rfl (shO_off (b' := true) 13 rfl (Env.isT rfl c14) rfl rfl (shO_off (b' := true) 13 rfl (Env.isT rfl c14) rfl rfl (shO_off (b' := true) 13 rfl (Env.isT rfl c14) rfl rfl (shO_off (b' := true) 13 rfl (Env.isT rfl c14) rfl rfl (shO_off (b' := true) 13 rfl (Env.isT rfl c14) rfl rfl ?_))))))
   refine ov (v_pick_t (evD_true rfl c14) rfl) rfl ?_
   refine oa rfl rfl (shO_nil ?_)
   refine kW kn ?_
   refine shW_ret ?_
   refine q_res1 Tryz.results138 (res_tmp rfl) (sr) ?_
   obtain rfl := inj1 r15
   exact rfl
 have r16 := ite_f r4 c14; clear r4
 refine shO_on (b := false) 13 rfl (Env.isF rfl c14) (om rfl rfl (shO_on (b := false) 13 rfl (Env.isF rfl c14) ?_))
 refine ov (v_fieldAddr fa_27_3 rfl) rfl ?_
 refine shO_on (b := false) 13 rfl (Env.isF rfl c14) ?_
 refine ov (v_load Tryz.isAgg24 rfl (Has.own 0 rfl) rfl) rfl ?_
 refine shO_on (b := false) 13 rfl (Env.isF rfl c14) (om rfl rfl (shO_on (b := false) 13 rfl (Env.isF rfl c14) ?_))
 obtain ⟨b17, o18, c19, vs20, ha21, hs22, hle23, rfl, hl24, hc25⟩ := RowR.at (iE_ok _) h_readings ([(b1, .cells #[.int .i64 houses, .int .i64 notices, .slice hears_a hears.length hears_c, .slice readings_a readings.length readings_c, .slice cries_a cries.length cries_c] 27 (0, 0))]) g2.1 hx3
 refine ov (v_indexO Tryz.underlying24 Tryz.sizeOf3 rfl ha21 rfl g2) rfl ?_
 refine shO_on (b := false) 13 rfl (Env.isF rfl c14) ?_
 refine ov (v_load Tryz.isAgg3 rfl hs22 (hc25 0 (by decide))) rfl ?_
 refine shO_on (b := false) 13 rfl (Env.isF rfl c14) ?_
 obtain ⟨ok, h26, r27⟩ := b1_ok r16; clear r16
 refine o_callV rfl Tryz.call99 rfl rfl rfl (book_near_w h26) ?_
 refine ov (v_pick_f (evD_false rfl c14) rfl) rfl ?_
 refine oa rfl rfl (shO_nil ?_)
 refine kW kn ?_
 refine shW_ret ?_
 refine q_res1 Tryz.results138 (res_tmp rfl) (sr) ?_
 obtain rfl := inj1 r27
 exact rfl
set_option maxHeartbeats 1000000 in
theorem slices_Clone_int_int_w {s__a : Option Addr} {s__c : Nat} {s_ : List Int} {F : FS} (h_s_ : RowR 1 (iE .i64) F s__a s__c s_) {r : List Int} (hr : slices_Clone_int_int s_ = some r) :
    SH.Spec Tryz.prog 51 #[.slice s__a s_.length s__c] F [] fun F' L' v => ∃ (ra : Option Addr) (rn : Nat) (rc : Nat) (rL : LH), v = .slice ra rn rc ∧ L' = rL ++ [] ∧ SlR 0 3 1 (iE .i64) F' ra rn rc r rL := by
 refine spec_of_shW (args := [.slice s__a s_.length s__c]) Tryz.func51 rfl Tryz.ntmps51 (Nat.le_of_ble_eq_true rfl) ?_
 intro K _ _; rw [slices_Clone_int_int] at hr
 refine wsr (oa rfl rfl (shO_nil (shW_seq (wsr (om rfl rfl ?_)))))
 refine ov (v_eqlNil Tryz.underlying24 rfl) rfl ?_
 refine shO_nil ?_
 refine shW_cond rfl (fun c1 => ?_) (fun c1 => ?_)
 · have r2 := nilIf_t hr (RowR.isNone h_s_ c1); clear hr
   refine wsr (oa rfl rfl (shO_nil (shW_ret (andThen_ret ?_))))
   refine q_res1 Tryz.results51 (res_tmp rfl) (sr) ?_
   obtain rfl := inj1 r2
   exact ⟨_, _, _, [], rfl, rfl, SlR.nil _ _ _ _ _⟩
 have r3 := nilIf_f hr; clear hr
 refine shW_skip (wsr ?_)
 refine o_buildSlice (cs := #[]) rfl rfl (buildSlice_none slt_24) ?_; intro b4 hb4
 refine om rfl rfl ?_
 have hz6 : SlR K.w0.heap.size 3 1 (iE .i64) F (some ⟨b4, 0, none⟩) 0 0 ([] : List Int) [(b4, .cells #[] 3 (0, 0))] := SlR.of_block (vss := []) (iE_ok _) hb4 .nil rfl rfl (by simp [maxLen])
 generalize hLLb5 : ([(b4, .cells #[] 3 (0, 0))] : LH) = Lb5 at hz6
 refine shO_perm (L' := Lb5 ++ []) (by rw [← hLLb5]; exact fO) ?_
 obtain ⟨l, h8, g9, r10⟩ := ap_ok r3; clear r3
 refine o_appZ (xs := ([] : List Int)) (ys := s_) (zs := l) rfl slt_24 rfl rfl (Nat.le_refl _) (fun _ => .h) hz6 (RowR.src h_s_) h8 g9 (by decide) ?_; intro a11 n15 c12 Lb13 hz14
 refine oa rfl rfl (shO_nil (shW_ret ?_))
 refine q_res1 Tryz.results51 (res_tmp rfl) (sr) ?_
 obtain rfl := inj1 r10
 exact ⟨_, _, _, _, rfl, rfl, hz14.any⟩
set_option maxHeartbeats 1000000 in
theorem book_desk_hear_w {b_d : Nat} {houses : Int} {notices : Int} {hears_a : Option Addr} {hears_c : Nat} {hears : List (List (List Int))} {readings_a : Option Addr} {readings_c : Nat} {readings : List Int} {cries_a : Option Addr} {cries_c : Nat} {cries : List (Int × Int × Int)} {mb_d : Nat × Nat} {g : List Bool} {hour : Int} {wind : Int} {F : FS} (hb_d : F b_d = some (.cells #[.int .i64 houses, .int .i64 notices, .slice hears_a hears.length hears_c, .slice readings_a readings.length readings_c, .slice cries_a cries.length cries_c] 171 mb_d)) (h_hears : RowR 1 (slE 1 (slE 1 (iE .i64))) F hears_a hears_c hears) (_h_readings : RowR 1 (iE .i64) F readings_a readings_c readings) (h_cries : RowR 3 (prE (iE .i64) (prE (iE .i64) (iE .i64))) F cries_a cries_c cries) (h_g : g.length = 24) {r : List Bool} (hr : book_desk_hear houses notices hears readings cries g hour wind = some r) :
    SH.Spec Tryz.prog 96 #[.pointer (some ⟨b_d, 0, none⟩), .agg (arr cB g), .int .i64 hour, .int .i64 wind] F [] fun _ L' v => v = .agg (arr cB r) ∧ L' = [] ∧ r.length = 24 := by
 refine spec_of_shW (args := [.pointer (some ⟨b_d, 0, none⟩), .agg (arr cB g), .int .i64 hour, .int .i64 wind]) Tryz.func96 rfl Tryz.ntmps96 (Nat.le_of_ble_eq_true rfl) ?_
 intro K _ _; rw [book_desk_hear] at hr
 refine wsr ?_
 refine o_box rfl rfl ?_; intro b1 hb1
 refine o_alloc rfl Tryz.zeroValue103 ?_; intro b2 hb2
 refine shO_L (L' := [(b2, .cells (arr cB (List.replicate 24 false)) 103 (0, 0)), (b1, .cells (arr cB g) 103 (0, 0))]) rfl ?_
 refine shO_nil ?_
 obtain ⟨g2, h4, r5⟩ := b1_ok hr; clear hr
 refine shW_join (fun e1 F1 L1 => F = F1 ∧ L1 = [(b2, .cells (arr cB (List.replicate 24 false)) 103 (0, 0)), (b1, .cells (arr cB g2) 103 (0, 0))] ∧ e1.sub [(5, .pointer (some ⟨b1, 0, none⟩)), (8, .pointer (some ⟨b2, 0, none⟩))] ∧ g2.length = 24) ?_ ?_
 · clear r5
   refine wsr (om rfl rfl ?_)
   refine ov (v_nilCheck rfl) rfl ?_
   refine ov (v_fieldAddr fa_171_0 rfl) rfl ?_
   refine ov (v_fieldAddr fa_27_4 rfl) rfl ?_
   refine ov (v_load Tryz.isAgg25 rfl (Has.frozen hb_d) rfl) rfl ?_
   refine ov (v_lenS Tryz.underlying25 rfl) rfl ?_
   refine om rfl rfl (shO_nil ?_)
   refine shW_block ?_
   refine shW_lp (fun fu1 e1 F1 L1 => ∃ (tl : List (Int × Int × Int)) (k : Int), tl.length = fu1 ∧ Lst cries k tl ∧ ∃ (g3 : List Bool), book_desk_hear_l1 hears hour wind tl g3 = some g2 ∧ F = F1 ∧ L1 = [(b2, .cells (arr cB (List.replicate 24 false)) 103 (0, 0)), (b1, .cells (arr cB g3) 103 (0, 0))] ∧ e1.sub [(0, .pointer (some ⟨b_d, 0, none⟩)), (2, .int .i64 hour), (3, .int .i64 wind), (5, .pointer (some ⟨b1, 0, none⟩)), (8, .pointer (some ⟨b2, 0, none⟩)), (17, .slice cries_a cries.length cries_c), (18, .int .i64 (cries.length : Int)), (19, .int .i64 k)] ∧ g3.length = 24) _ (m0 kr ⟨_, _, rfl, Lst.start _, g, h4, rfl, rfl, (sc rfl (sc rfl (sc rfl (sc rfl (sc rfl (sc rfl (sc rfl (sc rfl (sn _))))))))), h_g⟩) ?_
   rintro fu1 e1 _ _ ⟨tl, k, hn8, hk7, g3, r9, rfl, rfl, he10, h6⟩
   refine shW_env _ he10 ?_; clear he10
   refine wsr ?_
   refine ov (v_lssK rfl rfl) rfl ?_
   refine shO_nil (shW_seq ?_)
   refine shW_condP rfl (fun c12 => ?_) (fun c12 => ?_)
   · obtain ⟨x, tl2, rfl, hx14, g15, hk13⟩ := Lst.succ hk7 c12
     rw [book_desk_hear_l1] at r9
     refine shW_skip ?_
     obtain ⟨g4, h17, r18⟩ := b1_ok r9; clear r9
     refine shW_join (fun e1 F1 L1 => F = F1 ∧ L1 = [(b2, .cells (arr cB (List.replicate 24 false)) 103 (0, 0)), (b1, .cells (arr cB g4) 103 (0, 0))] ∧ e1.sub [(0, .pointer (some ⟨b_d, 0, none⟩)), (2, .int .i64 hour), (3, .int .i64 wind), (5, .pointer (some ⟨b1, 0, none⟩)), (8, .pointer (some ⟨b2, 0, none⟩)), (17, .slice cries_a cries.length cries_c), (18, .int .i64 (cries.length : Int)), (19, .int .i64 k)] ∧ g4.length = 24) ?_ ?_
     · clear r18
       refine shW_block ?_
       refine wsr ?_
       obtain ⟨b19, o20, c21, vs22, ha23, hs24, hle25, ⟨_, _, rfl, rfl, ⟨_, _, rfl, rfl, rfl⟩⟩, hl26, hc27⟩ := RowR.at (prE_ok (iE_ok _) (prE_ok (iE_ok _) (iE_ok _))) h_cries ([(b2, .cells (arr cB (List.replicate 24 false)) 103 (0, 0)), (b1, .cells (arr cB g3) 103 (0, 0))]) g15.1 hx14
       refine ov (v_indexO Tryz.underlying25 Tryz.sizeOf67 rfl ha23 rfl g15) rfl ?_
       refine ov (v_loadA (cs := #[.int .i64 x.1, .int .i64 x.2.1, .int .i64 x.2.2]) Tryz.isAgg67 Tryz.sizeOf67 rfl hs24 hle25 (extract_cells hle25 hl26 hc27)) rfl ?_
       refine o_alloc rfl Tryz.zeroValue67 ?_; intro b28 hb28
       refine o_storeA (i := 0) Tryz.sizeOf67 rfl rfl rfl (by simp [Value.oneCell']) rfl (Nat.le_of_ble_eq_true rfl) ?_
       refine shO_L (L' := [(b28, .cells #[.int .i64 x.1, .int .i64 x.2.1, .int .i64 x.2.2] 67 (0, 0)), (b2, .cells (arr cB (List.replicate 24 false)) 103 (0, 0)), (b1, .cells (arr cB g3) 103 (0, 0))]) rfl ?_
       refine shO_nil (shW_seq (wsr ?_))
       refine ov (v_fieldAddr fa_67_0 rfl) rfl ?_
       refine ov (v_load Tryz.isAgg3 rfl (Has.own 0 rfl) rfl) rfl ?_
       refine om rfl rfl ?_
       refine ov (v_neq rfl rfl) rfl ?_
       refine shO_nil ?_
       refine shW_condP rfl (fun c29 => ?_) (fun c29 => ?_)
       · have r30 := ite_t h17 c29; clear h17
         refine shW_exit (andThen_exit ?_)
         refine inBlock_exit ?_
         obtain rfl := inj1 r30
         exact mi (kd kr) ⟨rfl, rfl, (sc rfl (sc rfl (sc rfl (sc rfl (sc rfl (sc rfl (sc rfl (sc rfl (sn _))))))))), h6⟩
       have r31 := ite_f h17 c29; clear h17
       refine shW_skip ?_
       refine wsd (by kernel_rfl) (by kernel_rfl) (by kernel_rfl) ?_
       refine qm rfl rfl ?_
       refine qv (v_nilCheck rfl) rfl ?_
       refine qv (v_fieldAddr fa_171_0 rfl) rfl ?_
       refine qv (v_fieldAddr fa_27_2 rfl) rfl ?_
       refine qv (v_load Tryz.isAgg23 rfl (Has.frozen hb_d) rfl) rfl ?_
       refine qv (v_fieldAddr fa_67_1 rfl) rfl ?_
       refine qv (v_load Tryz.isAgg3 rfl (Has.own 0 rfl) rfl) rfl ?_
       obtain ⟨x2, g32, hx33, r34⟩ := ix_ok r31; clear r31
       obtain ⟨b35, o36, c37, vs38, ha39, hs40, hle41, ⟨a44, c45, rfl, h46⟩, hl42, hc43⟩ := RowR.at (slE_ok (slE_ok (iE_ok _))) h_hears ([(b28, .cells #[.int .i64 x.1, .int .i64 x.2.1, .int .i64 x.2.2] 67 (0, 0)), (b2, .cells (arr cB (List.replicate 24 false)) 103 (0, 0)), (b1, .cells (arr cB g3) 103 (0, 0))]) g32.1 hx33
       refine qv (v_indexO Tryz.underlying23 Tryz.sizeOf49 rfl ha39 rfl g32) rfl ?_
       refine qv (v_load Tryz.isAgg49 rfl hs40 (hc43 0 (by decide))) rfl ?_
       refine qm rfl rfl ?_
       obtain ⟨x3, g47, hx48, r49⟩ := ix_ok r34; clear r34
       obtain ⟨b50, o51, c52, vs53, ha54, hs55, hle56, ⟨a59, c60, rfl, h61⟩, hl57, hc58⟩ := RowR.at (slE_ok (iE_ok _)) h46 ([(b28, .cells #[.int .i64 x.1, .int .i64 x.2.1, .int .i64 x.2.2] 67 (0, 0)), (b2, .cells (arr cB (List.replicate 24 false)) 103 (0, 0)), (b1, .cells (arr cB g3) 103 (0, 0))]) g47.1 hx48
       refine qv (v_indexO Tryz.underlying49 Tryz.sizeOf24 rfl ha54 rfl g47) rfl ?_
       refine qv (v_load Tryz.isAgg24 rfl hs55 (hc58 0 (by decide))) rfl ?_
       refine qv (v_lenS Tryz.underlying24 rfl) rfl ?_
       refine qm rfl rfl (shQ_nil ?_)
       refine shW_block ?_
       refine shW_lp (fun fu2 e1 F1 L1 => ∃ (tl3 : List Int) (k2 : Int), tl3.length = fu2 ∧ Lst x3 k2 tl3 ∧ ∃ (g5 : List Bool), book_desk_hear_l2 x tl3 g5 = some g4 ∧ F = F1 ∧ L1 = [(b28, .cells #[.int .i64 x.1, .int .i64 x.2.1, .int .i64 x.2.2] 67 (0, 0)), (b2, .cells (arr cB (List.replicate 24 false)) 103 (0, 0)), (b1, .cells (arr cB g5) 103 (0, 0))] ∧ e1.sub [(0, .pointer (some ⟨b_d, 0, none⟩)), (2, .int .i64 hour), (3, .int .i64 wind), (5, .pointer (some ⟨b1, 0, none⟩)), (8, .pointer (some ⟨b2, 0, none⟩)), (10, .pointer (some ⟨b28, 0, none⟩)), (17, .slice cries_a cries.length cries_c), (18, .int .i64 (cries.length : Int)), (19, .int .i64 k), (38, .slice a59 x3.length c60), (39, .int .i64 (x3.length : Int)), (40, .int .i64 k2)] ∧ g5.length = 24) _ (m0 kr ⟨_, _, rfl, Lst.start _, g3, r49, rfl, rfl, (sc rfl (sc rfl (sc rfl (sc rfl (sc rfl (sc rfl (sc rfl (sc rfl (sc rfl (sc rfl (sc rfl (sc rfl (sn _))))))))))))), h6⟩) ?_
       rintro fu2 e1 _ _ ⟨tl3, k2, hn64, hk63, g5, r65, rfl, rfl, he66, h62⟩
       refine shW_env _ he66 ?_; clear he66
       refine wsr ?_
       refine ov (v_lssK rfl rfl) rfl ?_
       refine shO_nil (shW_seq ?_)
       refine shW_condP rfl (fun c68 => ?_) (fun c68 => ?_)
       · obtain ⟨x4, tl4, rfl, hx70, g71, hk69⟩ := Lst.succ hk63 c68
         rw [book_desk_hear_l2] at r65
         refine shW_skip (shW_seq ?_)
         refine shW_block ?_
         refine wsr ?_
         obtain ⟨b72, o73, c74, vs75, ha76, hs77, hle78, rfl, hl79, hc80⟩ := RowR.at (iE_ok _) h61 ([(b28, .cells #[.int .i64 x.1, .int .i64 x.2.1, .int .i64 x.2.2] 67 (0, 0)), (b2, .cells (arr cB (List.replicate 24 false)) 103 (0, 0)), (b1, .cells (arr cB g5) 103 (0, 0))]) g71.1 hx70
         refine ov (v_indexO Tryz.underlying24 Tryz.sizeOf3 rfl ha76 rfl g71) rfl ?_
         refine ov (v_load Tryz.isAgg3 rfl hs77 (hc80 0 (by decide))) rfl ?_
         refine oa rfl rfl (shO_nil ?_)
         refine shW_drawM [(.still, 0), (.still, 1), (.still, 2), (.still, 3), (.still, 4), (.seq, 5)] (by kernel_rfl) (by kernel_rfl) (trivial) (by rfl) (by kernel_rfl) ?_
         refine shM_v (v := .int .i64 x4) (ek := [(12, .int .i64 x4)]) (Ls := []) rfl rfl rfl rfl ((sc rfl (sn _))) (by kernel_rfl) sm (fun H F' L' hF' hL' => v_move rfl) ?_
         refine shM_v (v := .pointer (some ⟨b28, 2, none⟩)) (ek := [(10, .pointer (some ⟨b28, 0, none⟩))]) (Ls := []) rfl rfl rfl rfl ((sc rfl (sn _))) (by kernel_rfl) sm (fun H F' L' hF' hL' => v_fieldAddr fa_67_2 rfl) ?_
         refine shM_v (v := .int .i64 x.2.2) (ek := [(45, .pointer (some ⟨b28, 2, none⟩))]) (Ls := [(b28, .cells #[.int .i64 x.1, .int .i64 x.2.1, .int .i64 x.2.2] 67 (0, 0))]) rfl rfl rfl rfl ((sc rfl (sn _))) (by kernel_rfl) (s0 (s2 (s1 (s1 sr)))) (fun H F' L' hF' hL' => v_load Tryz.isAgg3 rfl ((Has.own 0 rfl).ext hF' hL') rfl) ?_
         obtain ⟨g81, r82⟩ := gd_ok r65; clear r65
         refine shM_v (v := .pointer (some ⟨b1, 0 + (x4 : Int).toNat * 4, none⟩)) (ek := [(5, .pointer (some ⟨b1, 0, none⟩)), (44, .int .i64 x4)]) (Ls := []) rfl rfl rfl rfl ((sc rfl (sc rfl (sn _)))) (by kernel_rfl) sm (fun H F' L' hF' hL' => v_indexA Tryz.underlying103 Tryz.sizeOf101 rfl rfl g81) ?_
         obtain ⟨g83, r84⟩ := gd_ok r82; clear r82
         obtain ⟨x5, g85, hx86, r87⟩ := ix_ok r84; clear r84
         have hq89 : (x4 * 4 + x.2.2 : Int).toNat = (x4 : Int).toNat * 4 + (x.2.2 : Int).toNat := by have := g81; have := g83; omega
         refine shM_v (v := .pointer (some ⟨b1, 0 + (x4 : Int).toNat * 4 + (x.2.2 : Int).toNat * 1, none⟩)) (ek := [(46, .int .i64 x.2.2), (47, .pointer (some ⟨b1, 0 + (x4 : Int).toNat * 4, none⟩))]) (Ls := []) rfl rfl rfl rfl ((sc rfl (sc rfl (sn _)))) (by kernel_rfl) sm (fun H F' L' hF' hL' => v_indexA Tryz.underlying101 Tryz.sizeOf4 rfl rfl g83) ?_
         refine ⟨_, [(48, .pointer (some ⟨b1, 0 + (x4 : Int).toNat * 4 + (x.2.2 : Int).toNat * 1, none⟩))], rfl, rfl, (sc rfl (sn _)), by kernel_rfl, ?_⟩; intro H
         obtain ⟨l, h90, r91⟩ := bv_ok r87; clear r87
         have h92 : l.length = 24 := by rw [h90, List.length_set]; exact h62
         refine o_storeArr2 (i := 2) Tryz.sizeOf4 cB_ok rfl rfl rfl rfl hq89 (by have := g85; have := h62; omega) h62 ?_
         refine shO_L (L' := [(b28, .cells #[.int .i64 x.1, .int .i64 x.2.1, .int .i64 x.2.2] 67 (0, 0)), (b2, .cells (arr cB (List.replicate 24 false)) 103 (0, 0)), (b1, .cells (arr cB l) 103 (0, 0))]) (by rw [h90]; rfl) ?_
         refine shO_nil ⟨undef, rfl, FExt.refl _, [], by kernel_rfl, .inl (.inl rfl), (fun _ h => absurd h List.not_mem_nil), ?_⟩
         refine shM_nil ?_
         refine inBlock_n (id := 3) (shW_region ?_)
         refine ov (v_add rfl rfl (Lst.r64 hk63 c68 (RowR.lt h61))) rfl ?_
         refine om rfl rfl (shO_nil ?_)
         subst hn64; exact le kr ⟨_, _, rfl, hk69, l, r91, rfl, rfl, (sc rfl (sc rfl (sc rfl (sc rfl (sc rfl (sc rfl (sc rfl (sc rfl (sc rfl (sc rfl (sc rfl (sc rfl (sn _))))))))))))), h92⟩
       obtain rfl := Lst.zero hk63 c68
       rw [book_desk_hear_l2] at r65
       refine shW_exit (andThen_exit (andThen_exit ?_))
       refine inBlock_exit ?_
       refine inBlock_n (id := 1) ?_
       obtain rfl := inj1 r65
       exact mi (kd kr) ⟨rfl, rfl, (sc rfl (sc rfl (sc rfl (sc rfl (sc rfl (sc rfl (sc rfl (sc rfl (sn _))))))))), h62⟩
     rintro e1 _ _ ⟨rfl, rfl, he93, h16⟩
     refine shW_env _ he93 ?_; clear he93
     refine shW_region ?_
     refine ov (v_add rfl rfl (Lst.r64 hk7 c12 (RowR.lt h_cries))) rfl ?_
     refine om rfl rfl (shO_nil ?_)
     subst hn8; exact le kr ⟨_, _, rfl, hk13, g4, r18, rfl, rfl, (sc rfl (sc rfl (sc rfl (sc rfl (sc rfl (sc rfl (sc rfl (sc rfl (sn _))))))))), h16⟩
   obtain rfl := Lst.zero hk7 c12
   rw [book_desk_hear_l1] at r9
   refine shW_exit (andThen_exit (andThen_exit ?_))
   refine inBlock_exit ?_
   obtain rfl := inj1 r9
   exact mi kr ⟨rfl, rfl, (sc rfl (sc rfl (sn _))), h6⟩
 rintro e1 _ _ ⟨rfl, rfl, he94, h3⟩
 refine shW_env _ he94 ?_; clear he94
 refine wsr ?_
 refine ov (v_loadW Tryz.isAgg103 Tryz.sizeOf103 rfl (Has.own 1 rfl) (arr_sz cB_ok h3)) rfl ?_
 refine o_storeW (i := 0) Tryz.sizeOf103 rfl rfl rfl (arr_sz cB_ok List.length_replicate) (arr_sz cB_ok h3) (arr_one cB_ok) ?_
 refine shO_L (L' := [(b2, .cells (arr cB g2) 103 (0, 0)), (b1, .cells (arr cB g2) 103 (0, 0))]) rfl ?_
 refine shO_nil ?_
 refine kW (kc kn) ?_
 refine shW_ret ?_
 refine q_res1 Tryz.results96 (res_cellA (cs := arr cB g2) Tryz.isAgg103 Tryz.sizeOf103 rfl (Has.own 0 rfl) (li_le (li_end (lfl cB_ok h3))) (li_ext (lfl cB_ok h3) (li_end (lfl cB_ok h3)))) (s1 sr) ?_
 obtain rfl := inj1 r5
 exact ⟨rfl, rfl, h3⟩
set_option maxHeartbeats 1000000 in
theorem book_turned_1_w {b_wind : Nat} {wind : Int} {mb_wind : Nat × Nat} {F : FS} (hb_wind : F b_wind = some (.cells #[.int .i64 wind] 3 mb_wind)) {xs : List Int} (hr : book_turned_1 wind = some xs) :
    IterOK Tryz.prog 161 #[] #[.pointer (some ⟨b_wind, 0, none⟩)] F (fun x : Int => #[.int .i64 x]) xs := by
 intro G0 hG0 yv J Jx hJm hJxm hy Fc L0 hG hJ0
 replace hb_wind := (hG0.trans hG) _ _ hb_wind
 have hfull0 : xs = [] ++ xs := rfl
 show SH.Spec Tryz.prog 161 #[yv, .pointer (some ⟨b_wind, 0, none⟩)] Fc L0 _
 refine spec_of_shW (args := [yv, .pointer (some ⟨b_wind, 0, none⟩)]) Tryz.func161 rfl Tryz.ntmps161 (Nat.le_of_ble_eq_true rfl) ?_
 intro K _ _; rw [book_turned_1] at hr; refine shW_L (L' := L0 ++ []) (by simp) ?_
 refine wsr (om rfl rfl (shO_nil ?_))
 refine shW_block ?_
 obtain ⟨g6, r7⟩ := gd_ok hr; clear hr
 refine shW_lp (fun fu1 e1 F1 L1 => ∃ (k : Int), Ctr 0 8 k fu1 ∧ ∃ (pre1 : List Int) (rem2 : List Int) (Lj3 : LH), book_turned_1_l1 wind fu1 k = some rem2 ∧ FExt Fc F1 ∧ L1 = (Lj3 ++ []) ∧ e1.sub [(0, yv), (1, .pointer (some ⟨b_wind, 0, none⟩)), (4, .int .i64 k)] ∧ xs = pre1 ++ rem2 ∧ J pre1 F1 Lj3 ∧ FExt G0 F1) _ (m0 kr ⟨_, Ctr.start _ _, [], xs, L0, r7, FExt.refl _, rfl, (sc rfl (sc rfl (sc rfl (sn _)))), hfull0, hJ0, hG⟩) ?_
 rintro fu1 e1 F12 _ ⟨k, hk8, pre1, rem2, Lj3, r10, hF13, rfl, he11, hfull5, hJ4, hG⟩
 refine shW_env _ he11 ?_; clear he11
 replace hb_wind := hF13 _ _ hb_wind
 refine wsr ?_
 refine ov (v_lssK rfl rfl) rfl ?_
 refine shO_nil (shW_seq ?_)
 refine shW_condP rfl (fun c15 => ?_) (fun c15 => ?_)
 · obtain ⟨fu1, rfl, hk16⟩ := Ctr.succ hk8 c15
   rw [book_turned_1_l1] at r10
   refine shW_skip (shW_seq ?_)
   refine shW_block ?_
   refine wsr (om rfl rfl (oa rfl rfl (nsr (om rfl rfl ?_))))
   refine ov (v_load Tryz.isAgg3 rfl (Has.frozen hb_wind) rfl) rfl ?_
   obtain ⟨ok, h17, r18⟩ := b1_ok r10; clear r10
   refine o_callV rfl Tryz.call99 rfl rfl rfl (book_near_w h17) ?_
   refine om rfl rfl ?_
   rcases bool_two ok with c19 | c19
   · have r20 := bt r18 c19; clear r18
     refine shO_on (b := true) 10 rfl (EnvB rfl c19) (om rfl rfl (shO_on (b := true) 10 rfl (EnvB rfl c19) (om rfl rfl (shO_on (b := true) 10 rfl (EnvB rfl c19) ?_))))
     obtain ⟨tl21, r23, hx22⟩ := yl_ok r20; clear r20
     refine o_callC (Lb := Lj3) (Lr := []) (vs := [.int .i64 k]) rfl rfl rfl fP (hy pre1 k tl21 (by rw [hfull5, hx22]) _ _ hG hJ4) ?_
     rintro v31 F24 Lj25 hF26 hz27; obtain ⟨yb28, rfl, hbt29, hbf30⟩ := yield_bool hz27
     replace hG := hG.trans hF26
     refine shO_on (b := true) 10 rfl (EnvB rfl c19) ?_
     refine ov (v_notB rfl) rfl ?_
     refine ov (v_pick_t (evB rfl c19) rfl) rfl ?_
     refine shO_nil ?_
     refine shW_cond rfl (fun c32 => ?_) (fun c32 => ?_)
     · have hJ33 := hbf30 (by simpa using c32)
       refine shW_ret (inBlock_ret (andThen_ret (andThen_ret (inBlock_ret ?_))))
       refine q_end0s (.inl rfl) Tryz.results161 (sr) ?_
       exact .inr (by rw [List.append_nil]; exact hJ33)
     have hJ34 := hbt29 (by simpa using c32)
     have hfull35 : xs = (pre1 ++ [k]) ++ tl21 := by rw [hfull5, hx22]; simp
     refine shW_skip (inBlock_n (id := 1) (shW_region ?_))
     refine ov (v_add rfl rfl (Ctr.r64 hk8 c15 g6)) rfl ?_
     refine om rfl rfl (shO_nil ?_)
     exact le kr ⟨_, hk16, pre1 ++ [k], tl21, Lj25, r23, (hF13.trans hF26), rfl, (sc rfl (sc rfl (sc rfl (sn _)))), hfull35, hJ34, hG⟩
   have r36 := bf r18 c19; clear r18
   refine shO_off (b' := false) 10 rfl (EnvB rfl c19) rfl rfl (shO_off (b' := false) 10 rfl (EnvB rfl c19) rfl rfl (shO_off (b' := false) 10 rfl (EnvB rfl c19) rfl rfl (shO_off (b' := false) 10 rfl (EnvB rfl c19) rfl rfl ?_)))
   refine ov (v_pick_f (evB rfl c19) rfl) rfl ?_
   refine shO_nil ?_
   refine shW_cond rfl (fun c37 => nomatch c37) (fun c37 => ?_)
   refine shW_skip (inBlock_n (id := 1) (shW_region ?_))
   refine ov (v_add rfl rfl (Ctr.r64 hk8 c15 g6)) rfl ?_
   refine om rfl rfl (shO_nil ?_)
   exact le kr ⟨_, hk16, pre1, rem2, Lj3, r36, hF13, rfl, (sc rfl (sc rfl (sc rfl (sn _)))), hfull5, hJ4, hG⟩
 obtain rfl := Ctr.zero hk8 c15
 rw [book_turned_1_l1] at r10
 refine shW_exit (andThen_exit (andThen_exit ?_))
 refine inBlock_exit ?_
 refine q_end0s (.inr rfl) Tryz.results161 (sr) ?_
 obtain rfl := inj1 r10
 exact .inl (by have e1 := hfull5; rw [List.append_nil] at e1; rw [List.append_nil, e1]; exact hJ4)
set_option maxHeartbeats 1000000 in
theorem book_turned_w {wind : Int} {F : FS} {r : List Int} (hr : book_turned wind = some r) :
    SH.Spec Tryz.prog 140 #[.int .i64 wind] F [] fun F' L' v => ∃ (rcp : Array Value), v = .func (.func 161) #[] rcp ∧ L' = [] ∧ IterOK Tryz.prog 161 #[] rcp F' (fun x : Int => #[.int .i64 x]) r := by
 refine spec_of_shW (args := [.int .i64 wind]) Tryz.func140 rfl Tryz.ntmps140 (Nat.le_of_ble_eq_true rfl) ?_
 intro K _ _; rw [book_turned] at hr
 refine wsr ?_
 refine o_box rfl rfl ?_; intro b1 hb1
 refine oa rfl rfl (nsr ?_)
 refine ov (v_makeFunc rfl rfl) rfl ?_
 refine oa rfl rfl (shO_nil ?_)
 refine shW_freeze 0 rfl hb1 ?_; intro F2 hF3 hz4
 refine shW_L (L' := []) rfl ?_
 obtain ⟨l, h5, r7⟩ := b1_ok hr; clear hr
 have hit6 : IterOK Tryz.prog 161 #[] #[.pointer (some ⟨b1, 0, none⟩)] F2 (fun x : Int => #[.int .i64 x]) l := book_turned_1_w hz4 h5
 refine shW_ret ?_
 refine q_res1 Tryz.results140 (res_tmp rfl) (sr) ?_
 obtain rfl := inj1 r7
 exact ⟨_, rfl, rfl, hit6⟩
set_option maxHeartbeats 1000000 in
theorem slices_IndexFunc_book_ending_book_ending_w {s__a : Option Addr} {s__c : Nat} {s_ : List ((List Bool) × (List Int))} {f_f : FuncId} {f_1 : Array Value} {f_2 : Array Value} {f : ((List Bool) × (List Int)) → Option Bool} {F : FS} (h_s_ : RowR 25 (prE (arE 24 cB) (slE 1 (iE .i64))) F s__a s__c s_) (h_f : FnR Tryz.prog F f_f f_1 f_2 (agE (prE (arE 24 cB) (slE 1 (iE .i64)))) Value.bool f) {r : Int} (hr : slices_IndexFunc_book_ending_book_ending s_ f = some r) :
    SpecV Tryz.prog 162 #[.slice s__a s_.length s__c, .func (.func f_f) f_1 f_2] F (.int .i64 r) := by
 refine spec_of_shW (args := [.slice s__a s_.length s__c, .func (.func f_f) f_1 f_2]) Tryz.func162 rfl Tryz.ntmps162 (Nat.le_of_ble_eq_true rfl) ?_
 intro K _ _; rw [slices_IndexFunc_book_ending_book_ending] at hr
 refine wsr (oa rfl rfl (shO_nil ?_))
 refine shW_join (fun e1 F1 L1 => slices_IndexFunc_book_ending_book_ending_j1 = some r ∧ F = F1 ∧ L1 = [] ∧ e1.sub []) ?_ ?_
 · refine wsr (om rfl rfl ?_)
   refine ov (v_lenS Tryz.underlying97 rfl) rfl ?_
   refine om rfl rfl (shO_nil ?_)
   refine shW_block ?_
   refine shW_lp (fun fu2 e1 F1 L1 => ∃ (tl : List ((List Bool) × (List Int))) (k : Int), tl.length = fu2 ∧ Lst s_ k tl ∧ slices_IndexFunc_book_ending_book_ending_l2 f tl k = some r ∧ F = F1 ∧ L1 = [] ∧ e1.sub [(0, .slice s__a s_.length s__c), (1, .func (.func f_f) f_1 f_2), (7, .int .i64 (s_.length : Int)), (8, .int .i64 k)]) _ (m0 kr ⟨_, _, rfl, Lst.start _, hr, rfl, rfl, (sc rfl (sc rfl (sc rfl (sc rfl (sn _)))))⟩) ?_
   rintro fu2 e1 _ _ ⟨tl, k, hn2, hk1, r3, rfl, rfl, he4⟩
   refine shW_env _ he4 ?_; clear he4
   refine wsr ?_
   refine ov (v_lssK rfl rfl) rfl ?_
   refine shO_nil (shW_seq ?_)
   refine shW_condP rfl (fun c6 => ?_) (fun c6 => ?_)
   · obtain ⟨x, tl2, rfl, hx8, g9, hk7⟩ := Lst.succ hk1 c6
     rw [slices_IndexFunc_book_ending_book_ending_l2] at r3
     refine shW_skip (shW_seq ?_)
     refine shW_block ?_
     refine wsr (om rfl rfl (oa rfl rfl (nsr (om rfl rfl (om rfl rfl (om rfl rfl ?_))))))
     obtain ⟨b10, o11, c12, vs13, ha14, hs15, hle16, ⟨_, _, rfl, ⟨rfl, h19⟩, ⟨a20, c21, rfl, h22⟩⟩, hl17, hc18⟩ := RowR.at (prE_ok (arE_ok (n := 24) (sz := 1) cB_ok) (slE_ok (iE_ok _))) h_s_ ([]) g9.1 hx8
     refine ov (v_indexO Tryz.underlying97 Tryz.sizeOf105 rfl ha14 rfl g9) rfl ?_
     refine ov (v_loadA (cs := (x.1.flatMap cB ++ (([.slice a20 x.2.length c21] : List Value))).toArray) Tryz.isAgg105 Tryz.sizeOf105 rfl hs15 hle16 (extract_cells hle16 hl17 hc18)) rfl ?_
     obtain ⟨ok, h23, r24⟩ := b1_ok r3; clear r3
     refine o_callV rfl h_f.1 rfl rfl rfl (h_f.2 _ (FExt.refl _) _ _ _ ⟨_, rfl, ⟨_, _, rfl, ⟨rfl, h19⟩, ⟨_, _, rfl, h22⟩⟩⟩ h23) ?_
     refine shO_nil ?_
     refine shW_cond rfl (fun c25 => ?_) (fun c25 => ?_)
     · have r26 := bt r24 c25; clear r24
       refine wsr (om rfl rfl (oa rfl rfl (shO_nil (shW_ret (inBlock_ret (andThen_ret (andThen_ret (inBlock_ret (andThen_ret ?_)))))))))
       refine q_res1 Tryz.results162 (res_tmp rfl) (sr) ?_
       obtain rfl := inj1 r26
       exact rfl
     have r27 := bf r24 c25; clear r24
     refine shW_skip (inBlock_n (id := 1) (shW_region ?_))
     refine ov (v_add rfl rfl (Lst.r64 hk1 c6 (RowR.lt h_s_))) rfl ?_
     refine om rfl rfl (shO_nil ?_)
     subst hn2; exact le kr ⟨_, _, rfl, hk7, r27, rfl, rfl, (sc rfl (sc rfl (sc rfl (sc rfl (sn _)))))⟩
   obtain rfl := Lst.zero hk1 c6
   rw [slices_IndexFunc_book_ending_book_ending_l2] at r3
   refine shW_exit (andThen_exit (andThen_exit ?_))
   refine inBlock_exit ?_
   exact mi kr ⟨r3, rfl, rfl, (sn _)⟩
 rintro e1 _ _ ⟨r28, rfl, rfl, he29⟩
 refine shW_env _ he29 ?_; clear he29
 rw [slices_IndexFunc_book_ending_book_ending_j1] at r28
 refine wsr (oa rfl rfl (shO_nil (shW_ret ?_)))
 refine q_res1 Tryz.results162 (res_tmp rfl) (sr) ?_
 obtain rfl := inj1 r28
 exact rfl
set_option maxHeartbeats 1000000 in
theorem slices_ContainsFunc_book_ending_book_ending_w {s__a : Option Addr} {s__c : Nat} {s_ : List ((List Bool) × (List Int))} {f_f : FuncId} {f_1 : Array Value} {f_2 : Array Value} {f : ((List Bool) × (List Int)) → Option Bool} {F : FS} (h_s_ : RowR 25 (prE (arE 24 cB) (slE 1 (iE .i64))) F s__a s__c s_) (h_f : FnR Tryz.prog F f_f f_1 f_2 (agE (prE (arE 24 cB) (slE 1 (iE .i64)))) Value.bool f) {r : Bool} (hr : slices_ContainsFunc_book_ending_book_ending s_ f = some r) :
    SpecV Tryz.prog 141 #[.slice s__a s_.length s__c, .func (.func f_f) f_1 f_2] F (.bool r) := by
 refine spec_of_shW (args := [.slice s__a s_.length s__c, .func (.func f_f) f_1 f_2]) Tryz.func141 rfl Tryz.ntmps141 (Nat.le_of_ble_eq_true rfl) ?_
 intro K _ _; rw [slices_ContainsFunc_book_ending_book_ending] at hr
 refine wsr (oa rfl rfl (nsr (om rfl rfl (om rfl rfl ?_))))
 obtain ⟨n, h1, r2⟩ := b1_ok hr; clear hr
 refine o_callV rfl Tryz.call162 rfl rfl rfl (slices_IndexFunc_book_ending_book_ending_w h_s_ h_f h1) ?_
 refine ov (v_geqK rfl rfl) rfl ?_
 refine oa rfl rfl (shO_nil (shW_ret ?_))
 refine q_res1 Tryz.results141 (res_tmp rfl) (sr) ?_
 obtain rfl := inj1 r2
 exact rfl
set_option maxHeartbeats 1000000 in
theorem book_desk_endings_1_w {wind : Int} {got : List Bool} {course_a : Option Addr} {course_c : Nat} {course : List Int} {wind2 : Int} {b_x : Nat} {x_f : FuncId} {x_1 : Array Value} {x_2 : Array Value} {x : (Int × Int) → Option Bool} {mb_x : Nat × Nat} {b_x_ : Nat} {x2 : Int} {mb_x_ : Nat × Nat} {b_d : Nat} {b_d_ : Nat} {houses : Int} {notices : Int} {hears_a : Option Addr} {hears_c : Nat} {hears : List (List (List Int))} {readings_a : Option Addr} {readings_c : Nat} {readings : List Int} {cries_a : Option Addr} {cries_c : Nat} {cries : List (Int × Int × Int)} {mb_d_ : Nat × Nat} {mb_d : Nat × Nat} {b_x__ : Nat} {x3_b : Nat} {x3_es : Array MapEntry} {x3_cl : Nat} {x3 : List ((Int × (List Bool)) × Bool)} {mb_x__ : Nat × Nat} {b_next_ : Nat} {next__a : Option Addr} {next__n : Nat} {next__c : Nat} {next__L : LH} {next_ : List (Int × (List Bool) × (List Int))} {F : FS} (h_got : got.length = 24) (h_course : RowR 1 (iE .i64) F course_a course_c course) (hb_x : F b_x = some (.cells #[.func (.func x_f) x_1 x_2] 114 mb_x)) (h_x : FnR Tryz.prog F x_f x_1 x_2 (prE (iE .i64) (iE .i64)) Value.bool x) (hb_x_ : F b_x_ = some (.cells #[.int .i64 x2] 3 mb_x_)) (hb_d : F b_d = some (.cells #[.pointer (some ⟨b_d_, 0, none⟩)] 116 mb_d)) (hb_d_ : F b_d_ = some (.cells #[.int .i64 houses, .int .i64 notices, .slice hears_a hears.length hears_c, .slice readings_a readings.length readings_c, .slice cries_a cries.length cries_c] 171 mb_d_)) (h_hears : RowR 1 (slE 1 (slE 1 (iE .i64))) F hears_a hears_c hears) (h_readings : RowR 1 (iE .i64) F readings_a readings_c readings) (h_cries : RowR 3 (prE (iE .i64) (prE (iE .i64) (iE .i64))) F cries_a cries_c cries) (hb_x__ : F b_x__ = some (.cells #[.map (some x3_b)] 216 mb_x__)) (h_x3 : MapRP gk_218 (vA (cP (cI .i64) (cA cB))) Value.bool x3_es x3) (h_next_ : SlR 0 220 26 (prE (iE .i64) (prE (arE 24 cB) (slE 1 (iE .i64)))) F next__a next__n next__c next_ next__L) {r : List ((Int × (List Bool)) × Bool)} {r2 : List (Int × (List Bool) × (List Int))} (hr : book_desk_endings_1 wind got course wind2 x x2 houses notices hears readings cries x3 next_ = some (r, r2)) :
    SH.Spec Tryz.prog 139 #[.agg ((([.int .i64 wind] : List Value) ++ (got.flatMap cB ++ (([.slice course_a course.length course_c] : List Value)))).toArray), .int .i64 wind2, .pointer (some ⟨b_x, 0, none⟩), .pointer (some ⟨b_x_, 0, none⟩), .pointer (some ⟨b_d, 0, none⟩), .pointer (some ⟨b_x__, 0, none⟩), .pointer (some ⟨b_next_, 0, none⟩)] F ((x3_b, .map x3_es x3_cl) :: ((b_next_, .cells #[.slice next__a next__n next__c] 215 (0, 0)) :: (next__L ++ []))) fun F' L' v => ∃ (x_es2 : Array MapEntry) (x_cl2 : Nat) (r2a : Option Addr) (r2n : Nat) (r2c : Nat) (r2L : LH), v = .tuple #[] ∧ L' = (x3_b, .map x_es2 x_cl2) :: ((b_next_, .cells #[.slice r2a r2n r2c] 215 (0, 0)) :: (r2L ++ [])) ∧ MapRP gk_218 (vA (cP (cI .i64) (cA cB))) Value.bool x_es2 r ∧ SlR 0 220 26 (prE (iE .i64) (prE (arE 24 cB) (slE 1 (iE .i64)))) F' r2a r2n r2c r2 r2L := by
 refine spec_of_shW (args := [.agg ((([.int .i64 wind] : List Value) ++ (got.flatMap cB ++ (([.slice course_a course.length course_c] : List Value)))).toArray), .int .i64 wind2, .pointer (some ⟨b_x, 0, none⟩), .pointer (some ⟨b_x_, 0, none⟩), .pointer (some ⟨b_d, 0, none⟩), .pointer (some ⟨b_x__, 0, none⟩), .pointer (some ⟨b_next_, 0, none⟩)]) Tryz.func139 rfl Tryz.ntmps139 (Nat.le_of_ble_eq_true rfl) ?_
 intro K _ _; rw [book_desk_endings_1] at hr
 refine shW_L (L' := (x3_b, .map x3_es x3_cl) :: ((b_next_, .cells #[.slice next__a next__n next__c] 215 (0, 0)) :: (next__L ++ []))) (by simp) ?_
 refine wsr ?_
 refine o_box rfl rfl ?_; intro b1 hb1
 refine shO_nil (shW_seq (wsr ?_))
 refine ov (v_load Tryz.isAgg114 rfl (Has.frozen hb_x) rfl) rfl ?_
 refine ov (v_load Tryz.isAgg3 rfl (Has.frozen hb_x_) rfl) rfl ?_
 refine om rfl rfl ?_
 obtain ⟨ok, h2, r3⟩ := b1_ok hr; clear hr
 refine o_callV rfl h_x.1 rfl rfl rfl (h_x.2 _ (FExt.refl _) _ _ _ ⟨_, _, rfl, rfl, rfl⟩ h2) ?_
 refine ov (v_notB rfl) rfl ?_
 refine shO_nil ?_
 refine shW_cond rfl (fun c4 => ?_) (fun c4 => ?_)
 · have r5 := bt r3 c4; clear r3
   refine kW (kd kr) ?_
   refine shW_ret (andThen_ret ?_)
   refine q_end0 (.inl rfl) Tryz.results139 ?_
   obtain ⟨rfl, rfl⟩ := inj2 r5
   exact ⟨_, _, _, _, _, _, rfl, rfl, h_x3, h_next_.any⟩
 have r6 := bf r3 c4; clear r3
 refine shW_skip (wsr (om rfl rfl ?_))
 refine ov (v_load Tryz.isAgg116 rfl (Has.frozen hb_d) rfl) rfl ?_
 refine ov (v_fieldAddr fa_220_0 rfl) rfl ?_
 refine ov (v_fieldAddr fa_218_1 rfl) rfl ?_
 refine ov (v_loadA (cs := arr cB got) Tryz.isAgg103 Tryz.sizeOf103 rfl (Has.own 0 rfl) (li_le (li_skip (A := ([.int .i64 wind] : List Value)) (k := 1) (o := 0) rfl (li_here (B := ([.slice course_a course.length course_c] : List Value)) (lfl cB_ok h_got)))) (li_ext (lfl cB_ok h_got) (li_skip (A := ([.int .i64 wind] : List Value)) (k := 1) (o := 0) rfl (li_here (B := ([.slice course_a course.length course_c] : List Value)) (lfl cB_ok h_got))))) rfl ?_
 refine ov (v_load Tryz.isAgg3 rfl (Has.frozen hb_x_) rfl) rfl ?_
 refine om rfl rfl ?_
 obtain ⟨a, h7, r8⟩ := b1_ok r6; clear r6
 refine o_call0 rfl Tryz.call96 rfl rfl rfl (book_desk_hear_w hb_d_ h_hears h_readings h_cries h_got h7) ?_; rintro _ F9 _ hF10 hn11 ⟨rfl, rfl, h13⟩
 replace h_course := h_course.mono (iE_ok _) hF10
 replace h_next_ := h_next_.mono (prE_ok (iE_ok _) (prE_ok (arE_ok (n := 24) (sz := 1) cB_ok) (slE_ok (iE_ok _)))) hF10
 replace hb_x__ := hF10 _ _ hb_x__
 refine shO_L (ln rfl) ?_
 refine ov (v_build (v := .agg ((([.int .i64 wind2] : List Value) ++ (a.flatMap cB)).toArray)) rfl (by intro w; obtain ⟨a0, a1, a2, a3, a4, a5, a6, a7, a8, a9, a10, a11, a12, a13, a14, a15, a16, a17, a18, a19, a20, a21, a22, a23, rfl⟩ := len_24 h13; kernel_rfl)) rfl ?_
 refine o_alloc rfl Tryz.zeroValue218 ?_; intro b14 hb14
 refine shO_L (L' := (b14, .cells ((([.int .i64 0] : List Value) ++ ((List.replicate 24 false).flatMap cB)).toArray) 218 (0, 0)) :: ((b1, .cells ((([.int .i64 wind] : List Value) ++ (got.flatMap cB ++ (([.slice course_a course.length course_c] : List Value)))).toArray) 220 (0, 0)) :: ((x3_b, .map x3_es x3_cl) :: ((b_next_, .cells #[.slice next__a next__n next__c] 215 (0, 0)) :: (next__L ++ []))))) rfl ?_
 refine o_storeW (i := 0) Tryz.sizeOf218 rfl rfl rfl (lz (la rfl (lfl cB_ok List.length_replicate))) (lz (la rfl (lfl cB_ok h13))) (oc_app (by simp [Value.oneCell']) (flat_one cB_ok _)) ?_
 refine shO_L (L' := (b14, .cells ((([.int .i64 wind2] : List Value) ++ (a.flatMap cB)).toArray) 218 (0, 0)) :: ((b1, .cells ((([.int .i64 wind] : List Value) ++ (got.flatMap cB ++ (([.slice course_a course.length course_c] : List Value)))).toArray) 220 (0, 0)) :: ((x3_b, .map x3_es x3_cl) :: ((b_next_, .cells #[.slice next__a next__n next__c] 215 (0, 0)) :: (next__L ++ []))))) rfl ?_
 refine nsr ?_
 refine ov (v_load Tryz.isAgg216 rfl (Has.frozen hb_x__) rfl) rfl ?_
 refine ov (v_loadA (cs := (([.int .i64 wind2] : List Value) ++ (a.flatMap cB)).toArray) Tryz.isAgg218 Tryz.sizeOf218 rfl (Has.own 0 rfl) (li_le (li_cat rfl (li_here (B := a.flatMap cB) rfl) (li_skip (A := ([.int .i64 wind2] : List Value)) (k := 1) (o := 0) rfl (li_end (lfl cB_ok h13))))) (li_ext (la rfl (lfl cB_ok h13)) (li_cat rfl (li_here (B := a.flatMap cB) rfl) (li_skip (A := ([.int .i64 wind2] : List Value)) (k := 1) (o := 0) rfl (li_end (lfl cB_ok h13)))))) rfl ?_
 obtain ⟨g15, r16⟩ := gd_ok r8; clear r8
 refine ov (OpV.eq (v' := .bool ((mget x3 (wind2, a)).getD false)) (v_lookS1P (k := (wind2, a)) (z0 := false) rfl Tryz.underlying216 key_218 Tryz.zeroValue4 rfl rfl (HasM.own 2 rfl) (show MapRP gk_218 (vA (cP (cI .i64) (cA cB))) Value.bool x3_es (x3 : List ((Int × (List Bool)) × Bool)) from h_x3) ⟨g15, h13⟩) rfl) rfl ?_
 refine ov (v_notB rfl) rfl ?_
 refine shO_nil ?_
 refine shW_cond rfl (fun c17 => ?_) (fun c17 => ?_)
 · have r18 := bt r16 c17; clear r16
   refine wsr ?_
   refine ov (v_load Tryz.isAgg216 rfl (Has.frozen hb_x__) rfl) rfl ?_
   refine ov (v_loadA (cs := (([.int .i64 wind2] : List Value) ++ (a.flatMap cB)).toArray) Tryz.isAgg218 Tryz.sizeOf218 rfl (Has.own 0 rfl) (li_le (li_cat rfl (li_here (B := a.flatMap cB) rfl) (li_skip (A := ([.int .i64 wind2] : List Value)) (k := 1) (o := 0) rfl (li_end (lfl cB_ok h13))))) (li_ext (la rfl (lfl cB_ok h13)) (li_cat rfl (li_here (B := a.flatMap cB) rfl) (li_skip (A := ([.int .i64 wind2] : List Value)) (k := 1) (o := 0) rfl (li_end (lfl cB_ok h13)))))) rfl ?_
   obtain ⟨g22, r23⟩ := gd_ok r18; clear r18
   refine o_mapUpdateP (i := 2) (k := (wind2, a)) (v := true) Tryz.underlying216 key_218 rfl rfl rfl rfl (show MapRP gk_218 (vA (cP (cI .i64) (cA cB))) Value.bool x3_es (x3 : List ((Int × (List Bool)) × Bool)) from h_x3) ⟨g22, h13⟩ ?_; intro es19 cl20 hR21
   obtain ⟨met, h24, r25⟩ := bv_ok r23; clear r23
   rw [← h24] at hR21
   refine shO_L (L' := (b14, .cells ((([.int .i64 wind2] : List Value) ++ (a.flatMap cB)).toArray) 218 (0, 0)) :: ((b1, .cells ((([.int .i64 wind] : List Value) ++ (got.flatMap cB ++ (([.slice course_a course.length course_c] : List Value)))).toArray) 220 (0, 0)) :: ((x3_b, .map es19 cl20) :: ((b_next_, .cells #[.slice next__a next__n next__c] 215 (0, 0)) :: (next__L ++ []))))) rfl ?_
   refine shO_nil ?_
   refine shW_drawM [(.still, 0), (.still, 1), (.still, 2), (.still, 3), (.still, 5), (.pre, 6), (.seq, 4), (.alloc (.cells #[.int .i64 wind2] 3 (0, 0)) (fun b => .slice (some ⟨b, 0, none⟩) 1 1) [(35, .int .i64 wind2)], 6), (.seq, 7), (.still, 8), (.seq, 9), (.seq, 10), (.seq, 11)] (by kernel_rfl) (by kernel_rfl) (⟨⟨_, _, rfl, rfl, rfl, rfl, rfl, mk_build rfl (buildSlice_all slt_24 [.int .i64 wind2] rfl (by decide) (by simp [Value.cells]) (by decide))⟩, trivial⟩) (by rfl) (by kernel_rfl) ?_
   refine shM_v (v := .slice next__a next__n next__c) (ek := [(6, .pointer (some ⟨b_next_, 0, none⟩))]) (Ls := [(b_next_, .cells #[.slice next__a next__n next__c] 215 (0, 0))]) rfl rfl rfl rfl ((sc rfl (sn _))) (by kernel_rfl) (s0 (s1 (s1 (s1 (s2 (s3 sr)))))) (fun H F' L' hF' hL' => v_load Tryz.isAgg215 rfl ((Has.own 0 rfl).ext hF' hL') rfl) ?_
   refine shM_v (v := .agg ((([.int .i64 wind2] : List Value) ++ (a.flatMap cB)).toArray)) (ek := [(9, .pointer (some ⟨b14, 0, none⟩))]) (Ls := [(b14, .cells ((([.int .i64 wind2] : List Value) ++ (a.flatMap cB)).toArray) 218 (0, 0))]) rfl rfl rfl rfl ((sc rfl (sn _))) (by kernel_rfl) (s0 (s2 (s1 (s1 (s1 (s3 sr)))))) (fun H F' L' hF' hL' => v_loadA (cs := (([.int .i64 wind2] : List Value) ++ (a.flatMap cB)).toArray) Tryz.isAgg218 Tryz.sizeOf218 rfl ((Has.own 0 rfl).ext hF' hL') (li_le (li_cat rfl (li_here (B := a.flatMap cB) rfl) (li_skip (A := ([.int .i64 wind2] : List Value)) (k := 1) (o := 0) rfl (li_end (lfl cB_ok h13))))) (li_ext (la rfl (lfl cB_ok h13)) (li_cat rfl (li_here (B := a.flatMap cB) rfl) (li_skip (A := ([.int .i64 wind2] : List Value)) (k := 1) (o := 0) rfl (li_end (lfl cB_ok h13)))))) ?_
   refine shM_v (v := .pointer (some ⟨b1, 25, none⟩)) (ek := [(7, .pointer (some ⟨b1, 0, none⟩))]) (Ls := []) rfl rfl rfl rfl ((sc rfl (sn _))) (by kernel_rfl) sm (fun H F' L' hF' hL' => v_fieldAddr fa_220_1 rfl) ?_
   refine shM_v (v := .slice course_a course.length course_c) (ek := [(32, .pointer (some ⟨b1, 25, none⟩))]) (Ls := [(b1, .cells ((([.int .i64 wind] : List Value) ++ (got.flatMap cB ++ (([.slice course_a course.length course_c] : List Value)))).toArray) 220 (0, 0))]) rfl rfl rfl rfl ((sc rfl (sn _))) (by kernel_rfl) (s0 (s1 (s2 (s1 (s1 (s3 sr)))))) (fun H F' L' hF' hL' => v_load Tryz.isAgg24 rfl ((Has.own 0 rfl).ext hF' hL') (li_cell (li_skip (A := ([.int .i64 wind] : List Value)) (k := 1) (o := 24) rfl (li_skip (A := got.flatMap cB) (k := 24) (o := 0) (lfl cB_ok h_got) (li_end rfl))))) ?_
   refine shM_v (v := .int .i64 wind2) (ek := [(1, .int .i64 wind2)]) (Ls := []) rfl rfl rfl rfl ((sc rfl (sn _))) (by kernel_rfl) sm (fun H F' L' hF' hL' => v_move rfl) ?_
   refine ⟨⟨_, rfl, (sc rfl (sn _)), by kernel_rfl⟩, ?_⟩
   refine ⟨_, [(33, .slice course_a course.length course_c)], rfl, rfl, (sc rfl (sn _)), by kernel_rfl, ?_⟩; intro H
   obtain ⟨l, h26, r27⟩ := b1_ok r25; clear r25
   refine o_call0 rfl Tryz.call51 rfl rfl rfl (slices_Clone_int_int_w h_course h26) ?_; rintro _ F28 _ hF29 hn30 ⟨a32, n36, c33, Lb34, rfl, rfl, hz35⟩
   replace h_next_ := h_next_.mono (prE_ok (iE_ok _) (prE_ok (arE_ok (n := 24) (sz := 1) cB_ok) (slE_ok (iE_ok _)))) hF29
   replace hz35 := hz35.new fun p hp => hn30 p (by simp [hp])
   refine shO_L (lp (ln rfl)) ?_
   refine kO (kf (fS fO) (kf (fS fO) (kf (fS fO) (kf (fS fO) kr)))) ?_
   refine shO_nil ⟨_, rfl, hF29, [5, 1, 0], by kernel_rfl, .inl (.inr (fun d h => by cases h; rfl)), (List.forall_mem_cons.2 ⟨sm, (List.forall_mem_cons.2 ⟨s0 (s2 (s1 (s1 (s1 (s3 (s3 sr)))))), (List.forall_mem_cons.2 ⟨s0 (s1 (s1 (s1 (s2 (s3 (s3 sr)))))), (fun _ h => absurd h List.not_mem_nil)⟩)⟩)⟩), ?_⟩
   refine shM_bs rfl ?_; intro b38 hb38
   refine shM_L (L' := (b38, .cells #[.int .i64 wind2] 3 (0, 0)) :: ((b14, .cells ((([.int .i64 wind2] : List Value) ++ (a.flatMap cB)).toArray) 218 (0, 0)) :: ((b1, .cells ((([.int .i64 wind] : List Value) ++ (got.flatMap cB ++ (([.slice course_a course.length course_c] : List Value)))).toArray) 220 (0, 0)) :: ((x3_b, .map es19 cl20) :: ((b_next_, .cells #[.slice next__a next__n next__c] 215 (0, 0)) :: (Lb34 ++ (next__L ++ []))))))) rfl ?_
   refine ⟨_, [(34, .slice a32 n36 c33), (36, .slice (some ⟨b38, 0, none⟩) 1 1)], rfl, rfl, (sc rfl (sc rfl (sn _))), by kernel_rfl, ?_⟩; intro H
   obtain ⟨l2, h39, g40, r41⟩ := ap_ok r27; clear r27
   refine o_appZ (xs := l) (ys := [wind2]) (zs := l2) rfl slt_24 rfl rfl (Nat.le_refl _) (fun _ => .c (.c (.c (.c (.c .h))))) hz35 (SrcR.box (vss := [[.int .i64 wind2]]) (ys := [wind2]) 0 rfl (iE_ok _) (.cons rfl .nil) rfl rfl) h39 g40 (by decide) ?_; intro a42 n46 c43 Lb44 hz45
   refine kO (kd kr) ?_
   refine shO_nil ⟨_, rfl, FExt.refl _, [1, 0], by kernel_rfl, .inl (.inr (fun d h => by cases h; rfl)), (List.forall_mem_cons.2 ⟨s0 (s2 (s1 (s1 (s1 (s3 (s3 sr)))))), (List.forall_mem_cons.2 ⟨s0 (s1 (s1 (s1 (s2 (s3 (s3 sr)))))), (fun _ h => absurd h List.not_mem_nil)⟩)⟩), ?_⟩
   refine shM_v (v := .agg ((([.int .i64 wind2] : List Value) ++ (a.flatMap cB ++ (([.slice a42 n46 c43] : List Value)))).toArray)) (ek := [(31, .agg ((([.int .i64 wind2] : List Value) ++ (a.flatMap cB)).toArray)), (37, .slice a42 n46 c43)]) (Ls := []) rfl rfl rfl rfl ((sc rfl (sc rfl (sn _)))) (by kernel_rfl) sm (fun H F' L' hF' hL' => v_build (v := .agg ((([.int .i64 wind2] : List Value) ++ (a.flatMap cB ++ (([.slice a42 n46 c43] : List Value)))).toArray)) rfl (by intro w; obtain ⟨a0, a1, a2, a3, a4, a5, a6, a7, a8, a9, a10, a11, a12, a13, a14, a15, a16, a17, a18, a19, a20, a21, a22, a23, rfl⟩ := len_24 h13; kernel_rfl)) ?_
   refine ⟨_, [(38, .agg ((([.int .i64 wind2] : List Value) ++ (a.flatMap cB ++ (([.slice a42 n46 c43] : List Value)))).toArray))], rfl, rfl, (sc rfl (sn _)), by kernel_rfl, ?_⟩; intro H
   refine o_buildSlice (cs := (([.int .i64 wind2] : List Value) ++ (a.flatMap cB ++ (([.slice a42 n46 c43] : List Value)))).toArray) rfl rfl (buildSlice_one slt_215 (.agg (([.int .i64 wind2] : List Value) ++ (a.flatMap cB ++ (([.slice a42 n46 c43] : List Value)))).toArray) (lz (la rfl (la (lfl cB_ok h13) rfl))) (by decide)) ?_; intro b48 hb48
   refine shO_nil ⟨_, rfl, FExt.refl _, [0], by kernel_rfl, .inl (.inr (fun d h => by cases h; rfl)), (List.forall_mem_cons.2 ⟨s0 (s1 (s1 (s1 (s1 (s2 (s3 (s3 sr))))))), (fun _ h => absurd h List.not_mem_nil)⟩), ?_⟩
   refine ⟨_, [(30, .slice next__a next__n next__c), (39, .slice (some ⟨b48, 0, none⟩) 1 1)], rfl, rfl, (sc rfl (sc rfl (sn _))), by kernel_rfl, ?_⟩; intro H
   obtain rfl := (SlR.caps hz45).1
   refine shO_freezeR (Nat.le_refl _) (iE_ok _) (fC (fC (fC (fC (fC fP))))) hz45 ?_; intro F49 hF50 h51
   replace h_next_ := h_next_.mono (prE_ok (iE_ok _) (prE_ok (arE_ok (n := 24) (sz := 1) cB_ok) (slE_ok (iE_ok _)))) hF50
   obtain ⟨l3, h52, g53, r54⟩ := ap_ok r41; clear r41
   refine o_appZ (xs := next_) (ys := [(wind2, a, l2)]) (zs := l3) rfl slt_215 rfl rfl (Nat.zero_le _) (fun _ => .c (.c (.c (.c (.c .h))))) h_next_ (SrcR.box (vss := [(([.int .i64 wind2] : List Value) ++ (a.flatMap cB ++ (([.slice a42 l2.length c43] : List Value))))]) (ys := [(wind2, a, l2)]) 0 rfl (prE_ok (iE_ok _) (prE_ok (arE_ok (n := 24) (sz := 1) cB_ok) (slE_ok (iE_ok _)))) (.cons ⟨_, _, rfl, rfl, ⟨_, _, rfl, ⟨rfl, h13⟩, ⟨_, _, rfl, h51⟩⟩⟩ .nil) (by simp) rfl) h52 g53 (by decide) ?_; intro a55 n59 c56 Lb57 hz58
   refine kO (kd kr) ?_
   refine shO_nil ⟨_, rfl, hF50, [], by kernel_rfl, .inl (.inl rfl), (fun _ h => absurd h List.not_mem_nil), ?_⟩
   refine ⟨_, [(6, .pointer (some ⟨b_next_, 0, none⟩)), (40, .slice a55 n59 c56)], rfl, rfl, (sc rfl (sc rfl (sn _))), by kernel_rfl, ?_⟩; intro H
   refine o_store (i := 3) Tryz.sizeOf215 rfl rfl rfl rfl (Nat.le_of_ble_eq_true rfl) ?_
   refine shO_L (L' := (b14, .cells ((([.int .i64 wind2] : List Value) ++ (a.flatMap cB)).toArray) 218 (0, 0)) :: ((b1, .cells ((([.int .i64 wind] : List Value) ++ (got.flatMap cB ++ (([.slice course_a course.length course_c] : List Value)))).toArray) 220 (0, 0)) :: ((x3_b, .map es19 cl20) :: ((b_next_, .cells #[.slice a55 n59 c56] 215 (0, 0)) :: (Lb57 ++ []))))) rfl ?_
   refine shO_nil ⟨undef, rfl, FExt.refl _, [], by kernel_rfl, .inl (.inl rfl), (fun _ h => absurd h List.not_mem_nil), ?_⟩
   refine shM_nil ?_
   refine q_end0s (.inr rfl) Tryz.results139 (s1 (s1 (s2 (s2 (s4 sr))))) ?_
   obtain ⟨rfl, rfl⟩ := inj2 r54
   exact ⟨_, _, _, _, _, _, rfl, rfl, hR21, hz58.any⟩
 have r61 := bf r16 c17; clear r16
 refine shW_skip ?_
 refine q_end0s (.inr rfl) Tryz.results139 (s1 (s1 (s2 (s2 (s4 sr))))) ?_
 obtain ⟨rfl, rfl⟩ := inj2 r61
 exact ⟨_, _, _, _, _, _, rfl, rfl, h_x3, h_next_.any⟩
set_option maxHeartbeats 1000000 in
theorem book_desk_endings_2_w {got : List Bool} {course_a : Option Addr} {course_c : Nat} {course : List Int} {b_x : Nat} {wind : Int} {got2 : List Bool} {course2_a : Option Addr} {course2_c : Nat} {course2 : List Int} {mb_x : Nat × Nat} {F : FS} (h_got : got.length = 24) (_h_course : RowR 1 (iE .i64) F course_a course_c course) (hb_x : F b_x = some (.cells ((([.int .i64 wind] : List Value) ++ (got2.flatMap cB ++ (([.slice course2_a course2.length course2_c] : List Value)))).toArray) 220 mb_x)) (h_got2 : got2.length = 24) (_h_course2 : RowR 1 (iE .i64) F course2_a course2_c course2) {r : Bool} (hr : book_desk_endings_2 got course wind got2 course2 = some r) :
    SpecV Tryz.prog 142 #[.agg ((got.flatMap cB ++ (([.slice course_a course.length course_c] : List Value))).toArray), .pointer (some ⟨b_x, 0, none⟩)] F (.bool r) := by
 refine spec_of_shW (args := [.agg ((got.flatMap cB ++ (([.slice course_a course.length course_c] : List Value))).toArray), .pointer (some ⟨b_x, 0, none⟩)]) Tryz.func142 rfl Tryz.ntmps142 (Nat.le_of_ble_eq_true rfl) ?_
 intro K _ _; rw [book_desk_endings_2] at hr
 refine wsr ?_
 refine o_box rfl rfl ?_; intro b1 hb1
 refine oa rfl rfl (nsr ?_)
 refine ov (v_fieldAddr fa_105_0 rfl) rfl ?_
 refine ov (v_loadA (cs := arr cB got) Tryz.isAgg103 Tryz.sizeOf103 rfl (Has.own 0 rfl) (li_le (li_here (B := ([.slice course_a course.length course_c] : List Value)) (lfl cB_ok h_got))) (li_ext (lfl cB_ok h_got) (li_here (B := ([.slice course_a course.length course_c] : List Value)) (lfl cB_ok h_got)))) rfl ?_
 refine ov (v_fieldAddr fa_220_0 rfl) rfl ?_
 refine ov (v_fieldAddr fa_218_1 rfl) rfl ?_
 refine ov (v_loadA (cs := arr cB got2) Tryz.isAgg103 Tryz.sizeOf103 rfl (Has.frozen hb_x) (li_le (li_skip (A := ([.int .i64 wind] : List Value)) (k := 1) (o := 0) rfl (li_here (B := ([.slice course2_a course2.length course2_c] : List Value)) (lfl cB_ok h_got2)))) (li_ext (lfl cB_ok h_got2) (li_skip (A := ([.int .i64 wind] : List Value)) (k := 1) (o := 0) rfl (li_here (B := ([.slice course2_a course2.length course2_c] : List Value)) (lfl cB_ok h_got2))))) rfl ?_
 refine ov (v_eqA (eqg_103 _ _ _ _) (fun w => eqb_deep (eqd_103 got got2 h_got h_got2 w)) rfl rfl) rfl ?_
 refine oa rfl rfl (shO_nil ?_)
 refine kW kn ?_
 refine shW_ret ?_
 refine q_res1 Tryz.results142 (res_tmp rfl) (sr) ?_
 obtain rfl := inj1 hr
 exact rfl
set_option maxHeartbeats 1000000 in
theorem book_desk_endings_w {b_d : Nat} {houses : Int} {notices : Int} {hears_a : Option Addr} {hears_c : Nat} {hears : List (List (List Int))} {readings_a : Option Addr} {readings_c : Nat} {readings : List Int} {cries_a : Option Addr} {cries_c : Nat} {cries : List (Int × Int × Int)} {mb_d : Nat × Nat} {F : FS} (hb_d : F b_d = some (.cells #[.int .i64 houses, .int .i64 notices, .slice hears_a hears.length hears_c, .slice readings_a readings.length readings_c, .slice cries_a cries.length cries_c] 171 mb_d)) (h_hears : RowR 1 (slE 1 (slE 1 (iE .i64))) F hears_a hears_c hears) (h_readings : RowR 1 (iE .i64) F readings_a readings_c readings) (h_cries : RowR 3 (prE (iE .i64) (prE (iE .i64) (iE .i64))) F cries_a cries_c cries) {r : List ((List Bool) × (List Int))} (hr : book_desk_endings houses notices hears readings cries = some r) :
    SH.Spec Tryz.prog 111 #[.pointer (some ⟨b_d, 0, none⟩)] F [] fun F' L' v => ∃ (ra : Option Addr) (rn : Nat) (rc : Nat) (rL : LH), v = .slice ra rn rc ∧ L' = rL ++ [] ∧ SlR 0 105 25 (prE (arE 24 cB) (slE 1 (iE .i64))) F' ra rn rc r rL := by
 refine spec_of_shW (args := [.pointer (some ⟨b_d, 0, none⟩)]) Tryz.func111 rfl Tryz.ntmps111 (Nat.le_of_ble_eq_true rfl) ?_
 intro K _ _; rw [book_desk_endings] at hr
 refine wsr ?_
 refine o_box rfl rfl ?_; intro b1 hb1
 refine oa rfl rfl (nsr (oa rfl rfl (shO_nil ?_)))
 obtain ⟨now, h8, r9⟩ := b1_ok hr; clear hr
 refine shW_join (fun e1 F1 L1 => ∃ (a2 : Option Addr) (n6 : Nat) (c3 : Nat) (Lb4 : LH), FExt F F1 ∧ L1 = (Lb4 ++ []) ∧ e1.sub [(3, .slice a2 n6 c3)] ∧ SlR 0 220 26 (prE (iE .i64) (prE (arE 24 cB) (slE 1 (iE .i64)))) F1 a2 n6 c3 now Lb4) ?_ ?_
 · clear r9
   refine wsr ?_
   refine ov (v_load Tryz.isAgg116 rfl (Has.own 0 rfl) rfl) rfl ?_
   refine ov (v_nilCheck rfl) rfl ?_
   refine ov (v_fieldAddr fa_171_0 rfl) rfl ?_
   refine ov (v_fieldAddr fa_27_3 rfl) rfl ?_
   refine ov (v_load Tryz.isAgg24 rfl (Has.frozen hb_d) rfl) rfl ?_
   refine ov (v_lenS Tryz.underlying24 rfl) rfl ?_
   refine om rfl rfl (shO_nil ?_)
   refine shW_block ?_
   refine shW_freeze 0 rfl hb1 ?_; intro F10 hF11 hz12
   refine shW_L (L' := []) rfl ?_
   replace h_hears := h_hears.mono (slE_ok (slE_ok (iE_ok _))) hF11
   replace h_readings := h_readings.mono (iE_ok _) hF11
   replace h_cries := h_cries.mono (prE_ok (iE_ok _) (prE_ok (iE_ok _) (iE_ok _))) hF11
   replace hb_d := hF11 _ _ hb_d
   refine shW_lpF (fun fu1 e1 F1 L1 => ∃ (tl : List Int) (k : Int), tl.length = fu1 ∧ Lst readings k tl ∧ ∃ (now2 : List (Int × (List Bool) × (List Int))) (a13 : Option Addr) (n17 : Nat) (c14 : Nat) (Lb15 : LH), book_desk_endings_l1 houses notices hears readings cries tl k now2 = some now ∧ FExt F10 F1 ∧ L1 = (Lb15 ++ []) ∧ e1.sub [(1, .pointer (some ⟨b1, 0, none⟩)), (3, .slice a13 n17 c14), (21, .int .i64 (readings.length : Int)), (22, .int .i64 k)] ∧ SlR 0 220 26 (prE (iE .i64) (prE (arE 24 cB) (slE 1 (iE .i64)))) F1 a13 n17 c14 now2 Lb15) _ (m0 (ke kr) ⟨_, _, rfl, Lst.start _, [], none, 0, 0, [], h8, FExt.refl _, rfl, (sc rfl (sc rfl (sc rfl (sc rfl (sn _))))), SlR.nil _ _ _ _ _⟩) ?_
   rintro fu1 e1 F23 _ ⟨tl, k, hn20, hk19, now2, a13, n17, c14, Lb15, r21, hF24, rfl, he22, hz16⟩
   refine shW_env _ he22 ?_; clear he22
   replace h_hears := h_hears.mono (slE_ok (slE_ok (iE_ok _))) hF24
   replace h_readings := h_readings.mono (iE_ok _) hF24
   replace h_cries := h_cries.mono (prE_ok (iE_ok _) (prE_ok (iE_ok _) (iE_ok _))) hF24
   replace hb_d := hF24 _ _ hb_d
   replace hz12 := hF24 _ _ hz12
   refine wsr ?_
   refine ov (v_lssK rfl rfl) rfl ?_
   refine shO_nil (shW_seq ?_)
   refine shW_condP rfl (fun c26 => ?_) (fun c26 => ?_)
   · obtain ⟨x, tl2, rfl, hx28, g29, hk27⟩ := Lst.succ hk19 c26
     rw [book_desk_endings_l1] at r21
     refine shW_skip ?_
     obtain ⟨now3, h36, r37⟩ := b1_ok r21; clear r21
     refine shW_join (fun e1 F1 L1 => ∃ (a30 : Option Addr) (n34 : Nat) (c31 : Nat) (Lb32 : LH), FExt F23 F1 ∧ L1 = (Lb32 ++ []) ∧ e1.sub [(1, .pointer (some ⟨b1, 0, none⟩)), (3, .slice a30 n34 c31), (21, .int .i64 (readings.length : Int)), (22, .int .i64 k)] ∧ SlR 0 220 26 (prE (iE .i64) (prE (arE 24 cB) (slE 1 (iE .i64)))) F1 a30 n34 c31 now3 Lb32) ?_ ?_
     · clear r37
       refine shW_block ?_
       refine wsr (om rfl rfl ?_)
       refine o_alloc rfl Tryz.zeroValue3 ?_; intro b38 hb38
       refine o_store (i := 0) Tryz.sizeOf3 rfl rfl rfl rfl (Nat.le_of_ble_eq_true rfl) ?_
       refine shO_L (L' := (b38, .cells #[.int .i64 k] 3 (0, 0)) :: (Lb15 ++ [])) rfl ?_
       refine nsr ?_
       refine o_makeMap rfl ?_; intro b39 hb39
       refine o_alloc rfl Tryz.zeroValue216 ?_; intro b40 hb40
       refine o_store (i := 0) Tryz.sizeOf216 rfl rfl rfl rfl (Nat.le_of_ble_eq_true rfl) ?_
       refine shO_L (L' := (b40, .cells #[.map (some b39)] 216 (0, 0)) :: ((b39, .map #[] 0) :: ((b38, .cells #[.int .i64 k] 3 (0, 0)) :: (Lb15 ++ [])))) rfl ?_
       refine nsr ?_
       refine o_alloc rfl Tryz.zeroValue215 ?_; intro b41 hb41
       refine nsr ?_
       refine ov (v_load Tryz.isAgg116 rfl (Has.frozen hz12) rfl) rfl ?_
       refine ov (v_nilCheck rfl) rfl ?_
       refine ov (v_fieldAddr fa_171_0 rfl) rfl ?_
       refine ov (v_loadA (cs := #[.int .i64 houses, .int .i64 notices, .slice hears_a hears.length hears_c, .slice readings_a readings.length readings_c, .slice cries_a cries.length cries_c]) Tryz.isAgg27 Tryz.sizeOf27 rfl (Has.frozen hb_d) (Nat.le_of_ble_eq_true rfl) rfl) rfl ?_
       refine ov (v_makeFunc rfl rfl) rfl ?_
       refine o_alloc rfl Tryz.zeroValue114 ?_; intro b42 hb42
       refine o_store (i := 0) Tryz.sizeOf114 rfl rfl rfl rfl (Nat.le_of_ble_eq_true rfl) ?_
       refine shO_L (L' := (b42, .cells (#[.func (.func 138) #[.agg #[.int .i64 houses, .int .i64 notices, .slice hears_a hears.length hears_c, .slice readings_a readings.length readings_c, .slice cries_a cries.length cries_c]] #[]]) 114 (0, 0)) :: ((b41, .cells #[.slice none 0 0] 215 (0, 0)) :: ((b40, .cells #[.map (some b39)] 216 (0, 0)) :: ((b39, .map #[] 0) :: ((b38, .cells #[.int .i64 k] 3 (0, 0)) :: (Lb15 ++ [])))))) rfl ?_
       refine nsr ?_
       refine ov (v_makeFunc rfl rfl) rfl ?_
       refine o_alloc rfl Tryz.zeroValue221 ?_; intro b43 hb43
       refine o_store (i := 0) Tryz.sizeOf221 rfl rfl rfl rfl (Nat.le_of_ble_eq_true rfl) ?_
       refine shO_L (L' := (b43, .cells (#[.func (.func 139) #[] #[.pointer (some ⟨b42, 0, none⟩), .pointer (some ⟨b38, 0, none⟩), .pointer (some ⟨b1, 0, none⟩), .pointer (some ⟨b40, 0, none⟩), .pointer (some ⟨b41, 0, none⟩)]]) 221 (0, 0)) :: ((b42, .cells (#[.func (.func 138) #[.agg #[.int .i64 houses, .int .i64 notices, .slice hears_a hears.length hears_c, .slice readings_a readings.length readings_c, .slice cries_a cries.length cries_c]] #[]]) 114 (0, 0)) :: ((b41, .cells #[.slice none 0 0] 215 (0, 0)) :: ((b40, .cells #[.map (some b39)] 216 (0, 0)) :: ((b39, .map #[] 0) :: ((b38, .cells #[.int .i64 k] 3 (0, 0)) :: (Lb15 ++ []))))))) rfl ?_
       refine shO_nil ?_
       obtain ⟨next_4, m, h86, r87⟩ := b2_ok h36; clear h36
       refine shW_joinF (fun e1 F1 L1 => ∃ (a74 : Option Addr) (n78 : Nat) (c75 : Nat) (Lb76 : LH) (es82 : Array MapEntry) (cl83 : Nat), FExt F23 F1 ∧ L1 = ((b43, .cells (#[.func (.func 139) #[] #[.pointer (some ⟨b42, 0, none⟩), .pointer (some ⟨b38, 0, none⟩), .pointer (some ⟨b1, 0, none⟩), .pointer (some ⟨b40, 0, none⟩), .pointer (some ⟨b41, 0, none⟩)]]) 221 (0, 0)) :: ((b41, .cells #[.slice a74 n78 c75] 215 (0, 0)) :: ((b39, .map es82 cl83) :: (Lb15 ++ (Lb76 ++ []))))) ∧ e1.sub [(1, .pointer (some ⟨b1, 0, none⟩)), (3, .slice a13 n17 c14), (6, .pointer (some ⟨b41, 0, none⟩)), (8, .pointer (some ⟨b43, 0, none⟩)), (21, .int .i64 (readings.length : Int)), (22, .int .i64 k)] ∧ SlR 0 220 26 (prE (iE .i64) (prE (arE 24 cB) (slE 1 (iE .i64)))) F1 a74 n78 c75 next_4 Lb76 ∧ F1 b42 = some (.cells (#[.func (.func 138) #[.agg #[.int .i64 houses, .int .i64 notices, .slice hears_a hears.length hears_c, .slice readings_a readings.length readings_c, .slice cries_a cries.length cries_c]] #[]]) 114 (0, 0)) ∧ F1 b38 = some (.cells #[.int .i64 k] 3 (0, 0)) ∧ MapRP gk_218 (vA (cP (cI .i64) (cA cB))) Value.bool es82 m ∧ F1 b40 = some (.cells #[.map (some b39)] 216 (0, 0))) ?_ ?_
       · clear r87
         refine wsr ?_
         refine ov (v_load Tryz.isAgg3 rfl (Has.own 5 rfl) rfl) rfl ?_
         refine ov (v_eql rfl rfl) rfl ?_
         refine shO_nil ?_
         refine shW_condP rfl (fun c88 => ?_) (fun c88 => ?_)
         · have r89 := ite_t h86 c88; clear h86
           refine wsr (om rfl rfl (shO_nil ?_))
           refine shW_block ?_
           refine shW_freeze 1 rfl hb42 ?_; intro F90 hF91 hz92
           refine shW_L (L' := (b43, .cells (#[.func (.func 139) #[] #[.pointer (some ⟨b42, 0, none⟩), .pointer (some ⟨b38, 0, none⟩), .pointer (some ⟨b1, 0, none⟩), .pointer (some ⟨b40, 0, none⟩), .pointer (some ⟨b41, 0, none⟩)]]) 221 (0, 0)) :: ((b41, .cells #[.slice none 0 0] 215 (0, 0)) :: ((b40, .cells #[.map (some b39)] 216 (0, 0)) :: ((b39, .map #[] 0) :: ((b38, .cells #[.int .i64 k] 3 (0, 0)) :: (Lb15 ++ [])))))) rfl ?_
           replace h_hears := h_hears.mono (slE_ok (slE_ok (iE_ok _))) hF91
           replace h_readings := h_readings.mono (iE_ok _) hF91
           replace h_cries := h_cries.mono (prE_ok (iE_ok _) (prE_ok (iE_ok _) (iE_ok _))) hF91
           replace hb_d := hF91 _ _ hb_d
           replace hz12 := hF91 _ _ hz12
           refine shW_freeze 4 rfl hb38 ?_; intro F93 hF94 hz95
           refine shW_L (L' := (b43, .cells (#[.func (.func 139) #[] #[.pointer (some ⟨b42, 0, none⟩), .pointer (some ⟨b38, 0, none⟩), .pointer (some ⟨b1, 0, none⟩), .pointer (some ⟨b40, 0, none⟩), .pointer (some ⟨b41, 0, none⟩)]]) 221 (0, 0)) :: ((b41, .cells #[.slice none 0 0] 215 (0, 0)) :: ((b40, .cells #[.map (some b39)] 216 (0, 0)) :: ((b39, .map #[] 0) :: (Lb15 ++ []))))) rfl ?_
           replace h_hears := h_hears.mono (slE_ok (slE_ok (iE_ok _))) hF94
           replace h_readings := h_readings.mono (iE_ok _) hF94
           replace h_cries := h_cries.mono (prE_ok (iE_ok _) (prE_ok (iE_ok _) (iE_ok _))) hF94
           replace hb_d := hF94 _ _ hb_d
           replace hz12 := hF94 _ _ hz12
           replace hz92 := hF94 _ _ hz92
           refine shW_freeze 2 rfl hb40 ?_; intro F96 hF97 hz98
           refine shW_L (L' := (b43, .cells (#[.func (.func 139) #[] #[.pointer (some ⟨b42, 0, none⟩), .pointer (some ⟨b38, 0, none⟩), .pointer (some ⟨b1, 0, none⟩), .pointer (some ⟨b40, 0, none⟩), .pointer (some ⟨b41, 0, none⟩)]]) 221 (0, 0)) :: ((b41, .cells #[.slice none 0 0] 215 (0, 0)) :: ((b39, .map #[] 0) :: (Lb15 ++ [])))) rfl ?_
           replace h_hears := h_hears.mono (slE_ok (slE_ok (iE_ok _))) hF97
           replace h_readings := h_readings.mono (iE_ok _) hF97
           replace h_cries := h_cries.mono (prE_ok (iE_ok _) (prE_ok (iE_ok _) (iE_ok _))) hF97
           replace hb_d := hF97 _ _ hb_d
           replace hz12 := hF97 _ _ hz12
           replace hz92 := hF97 _ _ hz92
           replace hz95 := hF97 _ _ hz95
           obtain ⟨g108, r109⟩ := gd_ok r89; clear r89
           refine shW_lpF (fun fu2 e1 F1 L1 => ∃ (k2 : Int), Ctr 0 8 k2 fu2 ∧ ∃ (next_5 : List (Int × (List Bool) × (List Int))) (m2 : List ((Int × (List Bool)) × Bool)) (a99 : Option Addr) (n103 : Nat) (c100 : Nat) (Lb101 : LH) (es105 : Array MapEntry) (cl106 : Nat), book_desk_endings_l2 houses notices hears readings cries k fu2 k2 next_5 m2 = some (next_4, m) ∧ FExt F96 F1 ∧ L1 = ((b43, .cells (#[.func (.func 139) #[] #[.pointer (some ⟨b42, 0, none⟩), .pointer (some ⟨b38, 0, none⟩), .pointer (some ⟨b1, 0, none⟩), .pointer (some ⟨b40, 0, none⟩), .pointer (some ⟨b41, 0, none⟩)]]) 221 (0, 0)) :: ((b41, .cells #[.slice a99 n103 c100] 215 (0, 0)) :: ((b39, .map es105 cl106) :: (Lb15 ++ (Lb101 ++ []))))) ∧ e1.sub [(1, .pointer (some ⟨b1, 0, none⟩)), (3, .slice a13 n17 c14), (6, .pointer (some ⟨b41, 0, none⟩)), (8, .pointer (some ⟨b43, 0, none⟩)), (21, .int .i64 (readings.length : Int)), (22, .int .i64 k), (34, .int .i64 k2)] ∧ SlR 0 220 26 (prE (iE .i64) (prE (arE 24 cB) (slE 1 (iE .i64)))) F1 a99 n103 c100 next_5 Lb101 ∧ MapRP gk_218 (vA (cP (cI .i64) (cA cB))) Value.bool es105 m2) _ (m0 (kc (kc (kc (ka (ke kr))))) ⟨_, Ctr.start _ _, [], [], none, 0, 0, [], #[], 0, r109, FExt.refl _, rfl, (sc rfl (sc rfl (sc rfl (sc rfl (sc rfl (sc rfl (sc rfl (sn _)))))))), SlR.nil _ _ _ _ _, MapRP.nil⟩) ?_
           rintro fu2 e1 F114 _ ⟨k2, hk110, next_5, m2, a99, n103, c100, Lb101, es105, cl106, r112, hF115, rfl, he113, hz102, hR107⟩
           refine shW_env _ he113 ?_; clear he113
           replace h_hears := h_hears.mono (slE_ok (slE_ok (iE_ok _))) hF115
           replace h_readings := h_readings.mono (iE_ok _) hF115
           replace h_cries := h_cries.mono (prE_ok (iE_ok _) (prE_ok (iE_ok _) (iE_ok _))) hF115
           replace hb_d := hF115 _ _ hb_d
           replace hz12 := hF115 _ _ hz12
           replace hz92 := hF115 _ _ hz92
           replace hz95 := hF115 _ _ hz95
           replace hz98 := hF115 _ _ hz98
           refine wsr ?_
           refine ov (v_lssK rfl rfl) rfl ?_
           refine shO_nil (shW_seq ?_)
           refine shW_condP rfl (fun c117 => ?_) (fun c117 => ?_)
           · obtain ⟨fu2, rfl, hk118⟩ := Ctr.succ hk110 c117
             rw [book_desk_endings_l2] at r112
             refine shW_skip (shW_seq ?_)
             refine shW_block ?_
             refine wsr (om rfl rfl (oa rfl rfl (shO_nil (shW_region ?_))))
             refine ov (v_load Tryz.isAgg221 rfl (Has.own 0 rfl) rfl) rfl ?_
             refine ov (v_build (v := .agg ((([.int .i64 0] : List Value) ++ ((List.replicate 24 false).flatMap cB ++ (([.slice none 0 0] : List Value)))).toArray)) rfl (by intro w; kernel_rfl)) rfl ?_
             refine om rfl rfl ?_
             have hn119 : FnR Tryz.prog F114 138 #[.agg #[.int .i64 houses, .int .i64 notices, .slice hears_a hears.length hears_c, .slice readings_a readings.length readings_c, .slice cries_a cries.length cries_c]] #[] (prE (iE .i64) (iE .i64)) Value.bool (fun xx_ : Int × Int => book_Book_can houses notices hears readings cries xx_.1 xx_.2) := ⟨Tryz.call138, fun F2 h2 vs xx_ r ha hr => by obtain ⟨_, _, rfl, rfl, rfl⟩ := ha; exact book_Book_can_w (h_hears.mono (slE_ok (slE_ok (iE_ok _))) h2) (h_readings.mono (iE_ok _) h2) (h_cries.mono (prE_ok (iE_ok _) (prE_ok (iE_ok _) (iE_ok _))) h2) hr⟩
             obtain ⟨x2, next_6, h120, r121⟩ := b2_ok r112; clear r112
             refine o_callG (Lb := (b39, .map es105 cl106) :: ((b41, .cells #[.slice a99 n103 c100] 215 (0, 0)) :: (Lb101 ++ []))) (Lr := (b43, .cells (#[.func (.func 139) #[] #[.pointer (some ⟨b42, 0, none⟩), .pointer (some ⟨b38, 0, none⟩), .pointer (some ⟨b1, 0, none⟩), .pointer (some ⟨b40, 0, none⟩), .pointer (some ⟨b41, 0, none⟩)]]) 221 (0, 0)) :: (Lb15 ++ [])) rfl Tryz.call139 rfl rfl rfl (pT ((fC (fC fO)).trans (pC ((fC fO).trans (pC ((fC (fS fP)).trans (pA pR)))))) (lb (lb (lp (ln rfl))))) (book_desk_endings_1_w List.length_replicate (RowR.nil _ _ _) hz92 hn119 hz95 hz12 hb_d h_hears h_readings h_cries hz98 hR107 hz102 h120) ?_; rintro _ F122 _ hF123 hd125 hn124 ⟨es126, cl127, a130, n134, c131, Lb132, rfl, rfl, hR128, hz133⟩
             refine shO_L (lb (lb (lp (ln rfl)))) ?_
             refine kO (kc (kc (kf (fS fO) kr))) ?_
             refine shO_nil (inBlock_n (id := 3) (shW_region ?_))
             refine ov (v_add rfl rfl (Ctr.r64 hk110 c117 g108)) rfl ?_
             refine om rfl rfl (shO_nil ?_)
             refine lf ?_
             exact mf (kf (fC (fC fO)) (kf (fC fO) (kc (kg (fS fP) kr)))) ⟨_, hk118, next_6, x2, a130, n134, c131, Lb132, es126, cl127, r121, (hF115.trans hF123), rfl, (sc rfl (sc rfl (sc rfl (sc rfl (sc rfl (sc rfl (sc rfl (sn _)))))))), hz133, hR128⟩
           obtain rfl := Ctr.zero hk110 c117
           rw [book_desk_endings_l2] at r112
           refine shW_exit (andThen_exit (andThen_exit ?_))
           refine inBlock_exit ?_
           obtain ⟨rfl, rfl⟩ := inj2 r112
           exact mf kr ⟨a99, n103, c100, Lb101, es105, cl106, (((hF91.trans hF94).trans hF97).trans hF115), rfl, (sc rfl (sc rfl (sc rfl (sc rfl (sc rfl (sc rfl (sn _))))))), hz102, hz92, hz95, hR107, hz98⟩
         have r135 := ite_f h86 c88; clear h86
         refine shW_skip ?_
         refine shmz_freeze 1 rfl hb42 ?_; intro F136 hF137 hz138
         refine shmz_L (L' := (b43, .cells (#[.func (.func 139) #[] #[.pointer (some ⟨b42, 0, none⟩), .pointer (some ⟨b38, 0, none⟩), .pointer (some ⟨b1, 0, none⟩), .pointer (some ⟨b40, 0, none⟩), .pointer (some ⟨b41, 0, none⟩)]]) 221 (0, 0)) :: ((b41, .cells #[.slice none 0 0] 215 (0, 0)) :: ((b40, .cells #[.map (some b39)] 216 (0, 0)) :: ((b39, .map #[] 0) :: ((b38, .cells #[.int .i64 k] 3 (0, 0)) :: (Lb15 ++ [])))))) rfl ?_
         refine shmz_freeze 4 rfl hb38 ?_; intro F139 hF140 hz141
         refine shmz_L (L' := (b43, .cells (#[.func (.func 139) #[] #[.pointer (some ⟨b42, 0, none⟩), .pointer (some ⟨b38, 0, none⟩), .pointer (some ⟨b1, 0, none⟩), .pointer (some ⟨b40, 0, none⟩), .pointer (some ⟨b41, 0, none⟩)]]) 221 (0, 0)) :: ((b41, .cells #[.slice none 0 0] 215 (0, 0)) :: ((b40, .cells #[.map (some b39)] 216 (0, 0)) :: ((b39, .map #[] 0) :: (Lb15 ++ []))))) rfl ?_
         replace hz138 := hF140 _ _ hz138
         refine shmz_freeze 2 rfl hb40 ?_; intro F142 hF143 hz144
         refine shmz_L (L' := (b43, .cells (#[.func (.func 139) #[] #[.pointer (some ⟨b42, 0, none⟩), .pointer (some ⟨b38, 0, none⟩), .pointer (some ⟨b1, 0, none⟩), .pointer (some ⟨b40, 0, none⟩), .pointer (some ⟨b41, 0, none⟩)]]) 221 (0, 0)) :: ((b41, .cells #[.slice none 0 0] 215 (0, 0)) :: ((b39, .map #[] 0) :: (Lb15 ++ [])))) rfl ?_
         replace hz138 := hF143 _ _ hz138
         replace hz141 := hF143 _ _ hz141
         obtain ⟨rfl, rfl⟩ := inj2 r135
         exact mf (kc (kc (kc (ka (ke kr))))) ⟨none, 0, 0, [], #[], 0, ((hF137.trans hF140).trans hF143), rfl, (sc rfl (sc rfl (sc rfl (sc rfl (sc rfl (sc rfl (sn _))))))), SlR.nil _ _ _ _ _, hz138, hz141, MapRP.nil, hz144⟩
       rintro e1 F146 _ ⟨a74, n78, c75, Lb76, es82, cl83, hF147, rfl, he145, hz77, hz80, hz81, hR84, hz85⟩
       refine shW_env _ he145 ?_; clear he145
       replace h_hears := h_hears.mono (slE_ok (slE_ok (iE_ok _))) hF147
       replace h_readings := h_readings.mono (iE_ok _) hF147
       replace h_cries := h_cries.mono (prE_ok (iE_ok _) (prE_ok (iE_ok _) (iE_ok _))) hF147
       replace hz16 := hz16.mono (prE_ok (iE_ok _) (prE_ok (arE_ok (n := 24) (sz := 1) cB_ok) (slE_ok (iE_ok _)))) hF147
       replace hb_d := hF147 _ _ hb_d
       replace hz12 := hF147 _ _ hz12
       obtain ⟨next_7, h154, r155⟩ := b1_ok r87; clear r87
       refine shW_join (fun e1 F1 L1 => ∃ (a148 : Option Addr) (n152 : Nat) (c149 : Nat) (Lb150 : LH), FExt F146 F1 ∧ L1 = ((b41, .cells #[.slice a148 n152 c149] 215 (0, 0)) :: (Lb150 ++ [])) ∧ e1.sub [(1, .pointer (some ⟨b1, 0, none⟩)), (6, .pointer (some ⟨b41, 0, none⟩)), (21, .int .i64 (readings.length : Int)), (22, .int .i64 k)] ∧ SlR 0 220 26 (prE (iE .i64) (prE (arE 24 cB) (slE 1 (iE .i64)))) F1 a148 n152 c149 next_7 Lb150) ?_ ?_
       · clear r155
         refine wsr (om rfl rfl ?_)
         refine ov ((v_lenS Tryz.underlying215 rfl).i (SlR.lenI hz16)) rfl ?_
         refine om rfl rfl (shO_nil ?_)
         refine shW_block ?_
         refine shW_lp (fun fu3 e1 F1 L1 => ∃ (tl3 : List (Int × (List Bool) × (List Int))) (k3 : Int), tl3.length = fu3 ∧ Lst now2 k3 tl3 ∧ ∃ (next_8 : List (Int × (List Bool) × (List Int))) (m3 : List ((Int × (List Bool)) × Bool)) (a156 : Option Addr) (n160 : Nat) (c157 : Nat) (Lb158 : LH) (es162 : Array MapEntry) (cl163 : Nat), book_desk_endings_l3 houses notices hears readings cries k tl3 next_8 m3 = some next_7 ∧ FExt F146 F1 ∧ L1 = ((b43, .cells (#[.func (.func 139) #[] #[.pointer (some ⟨b42, 0, none⟩), .pointer (some ⟨b38, 0, none⟩), .pointer (some ⟨b1, 0, none⟩), .pointer (some ⟨b40, 0, none⟩), .pointer (some ⟨b41, 0, none⟩)]]) 221 (0, 0)) :: ((b41, .cells #[.slice a156 n160 c157] 215 (0, 0)) :: ((b39, .map es162 cl163) :: (Lb158 ++ (Lb15 ++ []))))) ∧ e1.sub [(1, .pointer (some ⟨b1, 0, none⟩)), (6, .pointer (some ⟨b41, 0, none⟩)), (8, .pointer (some ⟨b43, 0, none⟩)), (21, .int .i64 (readings.length : Int)), (22, .int .i64 k), (42, .slice a13 n17 c14), (43, .int .i64 (now2.length : Int)), (44, .int .i64 k3)] ∧ SlR 0 220 26 (prE (iE .i64) (prE (arE 24 cB) (slE 1 (iE .i64)))) F1 a156 n160 c157 next_8 Lb158 ∧ MapRP gk_218 (vA (cP (cI .i64) (cA cB))) Value.bool es162 m3) _ (m0 (kc (kc (kc (kg (fS fP) kr)))) ⟨_, _, rfl, Lst.start _, next_4, m, a74, n78, c75, Lb76, es82, cl83, h154, FExt.refl _, rfl, (sc rfl (sc rfl (sc rfl (sc rfl (sc rfl (sc rfl (sc rfl (sc rfl (sn _))))))))), hz77, hR84⟩) ?_
         rintro fu3 e1 F169 _ ⟨tl3, k3, hn166, hk165, next_8, m3, a156, n160, c157, Lb158, es162, cl163, r167, hF170, rfl, he168, hz159, hR164⟩
         refine shW_env _ he168 ?_; clear he168
         replace h_hears := h_hears.mono (slE_ok (slE_ok (iE_ok _))) hF170
         replace h_readings := h_readings.mono (iE_ok _) hF170
         replace h_cries := h_cries.mono (prE_ok (iE_ok _) (prE_ok (iE_ok _) (iE_ok _))) hF170
         replace hz16 := hz16.mono (prE_ok (iE_ok _) (prE_ok (arE_ok (n := 24) (sz := 1) cB_ok) (slE_ok (iE_ok _)))) hF170
         replace hb_d := hF170 _ _ hb_d
         replace hz12 := hF170 _ _ hz12
         replace hz80 := hF170 _ _ hz80
         replace hz81 := hF170 _ _ hz81
         replace hz85 := hF170 _ _ hz85
         refine wsr ?_
         refine ov (v_lssK rfl rfl) rfl ?_
         refine shO_nil (shW_seq ?_)
         refine shW_condP rfl (fun c172 => ?_) (fun c172 => ?_)
         · obtain ⟨x3, tl4, rfl, hx174, g175, hk173⟩ := Lst.succ hk165 c172
           rw [book_desk_endings_l3] at r167
           refine shW_skip ?_
           obtain ⟨next_9, m4, h185, r186⟩ := b2_ok r167; clear r167
           refine shW_join (fun e1 F1 L1 => ∃ (a176 : Option Addr) (n180 : Nat) (c177 : Nat) (Lb178 : LH) (es182 : Array MapEntry) (cl183 : Nat), FExt F169 F1 ∧ L1 = ((b43, .cells (#[.func (.func 139) #[] #[.pointer (some ⟨b42, 0, none⟩), .pointer (some ⟨b38, 0, none⟩), .pointer (some ⟨b1, 0, none⟩), .pointer (some ⟨b40, 0, none⟩), .pointer (some ⟨b41, 0, none⟩)]]) 221 (0, 0)) :: ((b41, .cells #[.slice a176 n180 c177] 215 (0, 0)) :: ((b39, .map es182 cl183) :: (Lb178 ++ (Lb15 ++ []))))) ∧ e1.sub [(1, .pointer (some ⟨b1, 0, none⟩)), (6, .pointer (some ⟨b41, 0, none⟩)), (8, .pointer (some ⟨b43, 0, none⟩)), (21, .int .i64 (readings.length : Int)), (22, .int .i64 k), (42, .slice a13 n17 c14), (43, .int .i64 (now2.length : Int)), (44, .int .i64 k3)] ∧ SlR 0 220 26 (prE (iE .i64) (prE (arE 24 cB) (slE 1 (iE .i64)))) F1 a176 n180 c177 next_9 Lb178 ∧ MapRP gk_218 (vA (cP (cI .i64) (cA cB))) Value.bool es182 m4) ?_ ?_
           · clear r186
             refine shW_block ?_
             refine wsr ?_
             obtain ⟨b187, o188, c189, vs190, ha191, hs192, hle193, ⟨_, _, rfl, rfl, ⟨_, _, rfl, ⟨rfl, h196⟩, ⟨a197, c198, rfl, h199⟩⟩⟩, hl194, hc195⟩ := SlR.at (prE_ok (iE_ok _) (prE_ok (arE_ok (n := 24) (sz := 1) cB_ok) (slE_ok (iE_ok _)))) hz16 (L := (b43, .cells (#[.func (.func 139) #[] #[.pointer (some ⟨b42, 0, none⟩), .pointer (some ⟨b38, 0, none⟩), .pointer (some ⟨b1, 0, none⟩), .pointer (some ⟨b40, 0, none⟩), .pointer (some ⟨b41, 0, none⟩)]]) 221 (0, 0)) :: ((b41, .cells #[.slice a156 n160 c157] 215 (0, 0)) :: ((b39, .map es162 cl163) :: (Lb158 ++ (Lb15 ++ []))))) (fC (fC (fC (fS fP)))) g175.1 hx174
             refine ov (v_indexO Tryz.underlying215 Tryz.sizeOf220 rfl ha191 rfl (SlR.idx hz16 g175)) rfl ?_
             refine ov (v_loadA (cs := (([.int .i64 x3.1] : List Value) ++ (x3.2.1.flatMap cB ++ (([.slice a197 x3.2.2.length c198] : List Value)))).toArray) Tryz.isAgg220 Tryz.sizeOf220 rfl hs192 hle193 (extract_cells hle193 hl194 hc195)) rfl ?_
             refine o_alloc rfl Tryz.zeroValue220 ?_; intro b200 hb200
             refine shO_L (L' := (b200, .cells ((([.int .i64 0] : List Value) ++ ((List.replicate 24 false).flatMap cB ++ (([.slice none 0 0] : List Value)))).toArray) 220 (0, 0)) :: ((b43, .cells (#[.func (.func 139) #[] #[.pointer (some ⟨b42, 0, none⟩), .pointer (some ⟨b38, 0, none⟩), .pointer (some ⟨b1, 0, none⟩), .pointer (some ⟨b40, 0, none⟩), .pointer (some ⟨b41, 0, none⟩)]]) 221 (0, 0)) :: ((b41, .cells #[.slice a156 n160 c157] 215 (0, 0)) :: ((b39, .map es162 cl163) :: (Lb158 ++ (Lb15 ++ [])))))) rfl ?_
             refine o_storeW (i := 0) Tryz.sizeOf220 rfl rfl rfl (lz (la rfl (la (lfl cB_ok List.length_replicate) rfl))) (lz (la rfl (la (lfl cB_ok h196) rfl))) (oc_app (by simp [Value.oneCell']) (oc_app (flat_one cB_ok _) (by simp [Value.oneCell']))) ?_
             refine shO_L (L' := (b200, .cells ((([.int .i64 x3.1] : List Value) ++ (x3.2.1.flatMap cB ++ (([.slice a197 x3.2.2.length c198] : List Value)))).toArray) 220 (0, 0)) :: ((b43, .cells (#[.func (.func 139) #[] #[.pointer (some ⟨b42, 0, none⟩), .pointer (some ⟨b38, 0, none⟩), .pointer (some ⟨b1, 0, none⟩), .pointer (some ⟨b40, 0, none⟩), .pointer (some ⟨b41, 0, none⟩)]]) 221 (0, 0)) :: ((b41, .cells #[.slice a156 n160 c157] 215 (0, 0)) :: ((b39, .map es162 cl163) :: (Lb158 ++ (Lb15 ++ [])))))) rfl ?_
             refine nsr ?_
             refine ov (v_fieldAddr fa_220_0 rfl) rfl ?_
             refine ov (v_fieldAddr fa_218_0 rfl) rfl ?_
             refine ov (v_load Tryz.isAgg3 rfl (Has.own 0 rfl) (li_cell (li_here (B := x3.2.1.flatMap cB ++ (([.slice a197 x3.2.2.length c198] : List Value))) rfl))) rfl ?_
             obtain ⟨y, h201, r202⟩ := b1_ok h185; clear h185
             refine o_call0 rfl Tryz.call140 rfl rfl rfl (book_turned_w h201) ?_; rintro _ F203 _ hF204 hn205 ⟨cp207, rfl, rfl, hit208⟩
             replace h_hears := h_hears.mono (slE_ok (slE_ok (iE_ok _))) hF204
             replace h_readings := h_readings.mono (iE_ok _) hF204
             replace h_cries := h_cries.mono (prE_ok (iE_ok _) (prE_ok (iE_ok _) (iE_ok _))) hF204
             replace h199 := h199.mono (iE_ok _) hF204
             replace hz159 := hz159.mono (prE_ok (iE_ok _) (prE_ok (arE_ok (n := 24) (sz := 1) cB_ok) (slE_ok (iE_ok _)))) hF204
             replace hb_d := hF204 _ _ hb_d
             replace hz12 := hF204 _ _ hz12
             replace hz80 := hF204 _ _ hz80
             replace hz81 := hF204 _ _ hz81
             replace hz85 := hF204 _ _ hz85
             refine shO_L (ln rfl) ?_
             refine shO_nil ?_
             refine shW_block ?_
             refine shW_rangeFunc (encs := (fun x : Int => #[.int .i64 x])) (xs := y) rfl Tryz.call161 rfl (fun _ => rfl) hit208 (fun pre F1 L1 => ∃ (tl5 : List Int) (next_10 : List (Int × (List Bool) × (List Int))) (m5 : List ((Int × (List Bool)) × Bool)) (a209 : Option Addr) (n213 : Nat) (c210 : Nat) (Lb211 : LH) (es215 : Array MapEntry) (cl216 : Nat), y = pre ++ tl5 ∧ book_desk_endings_l4 houses notices hears readings cries k x3 tl5 next_10 m5 = some (next_9, m4) ∧ L1 = ((b200, .cells ((([.int .i64 x3.1] : List Value) ++ (x3.2.1.flatMap cB ++ (([.slice a197 x3.2.2.length c198] : List Value)))).toArray) 220 (0, 0)) :: ((b43, .cells (#[.func (.func 139) #[] #[.pointer (some ⟨b42, 0, none⟩), .pointer (some ⟨b38, 0, none⟩), .pointer (some ⟨b1, 0, none⟩), .pointer (some ⟨b40, 0, none⟩), .pointer (some ⟨b41, 0, none⟩)]]) 221 (0, 0)) :: ((b41, .cells #[.slice a209 n213 c210] 215 (0, 0)) :: ((b39, .map es215 cl216) :: (Lb211 ++ (Lb15 ++ [])))))) ∧ SlR 0 220 26 (prE (iE .i64) (prE (arE 24 cB) (slE 1 (iE .i64)))) F1 a209 n213 c210 next_10 Lb211 ∧ MapRP gk_218 (vA (cP (cI .i64) (cA cB))) Value.bool es215 m5) (fun _ _ _ => False) ?_ ?_ ?_ ?_ ?_ ?_
             · rintro pre F1 F2 L1 ⟨tl5, next_10, m5, a209, n213, c210, Lb211, es215, cl216, hs218, r219, rfl, hz212, hR217⟩ hx; exact ⟨tl5, next_10, m5, a209, n213, c210, Lb211, es215, cl216, hs218, r219, rfl, hz212.mono (prE_ok (iE_ok _) (prE_ok (arE_ok (n := 24) (sz := 1) cB_ok) (slE_ok (iE_ok _)))) hx, hR217⟩
             · intro c F1 F2 L1 h hx; exact h
             · exact ⟨_, next_8, m3, a156, n160, c157, Lb158, es162, cl163, rfl, r202, rfl, hz159, hR164⟩
             · rintro l220 wr221 Fr222 Xr223 Ha224 Hb225 hnb226 hH230 pre x4 tl6 hxs229 F227 _ hF228 ⟨tl5, next_10, m5, a209, n213, c210, Lb211, es215, cl216, hs218, r231, rfl, hz212, hR217⟩
               obtain rfl := rest_head hs218 hxs229
               rw [book_desk_endings_l4] at r231
               replace h_hears := h_hears.mono (slE_ok (slE_ok (iE_ok _))) hF228
               replace h_readings := h_readings.mono (iE_ok _) hF228
               replace h_cries := h_cries.mono (prE_ok (iE_ok _) (prE_ok (iE_ok _) (iE_ok _))) hF228
               replace h199 := h199.mono (iE_ok _) hF228
               replace hb_d := hF228 _ _ hb_d
               replace hz12 := hF228 _ _ hz12
               replace hz80 := hF228 _ _ hz80
               replace hz81 := hF228 _ _ hz81
               replace hz85 := hF228 _ _ hz85
               refine shW_env [(1, .pointer (some ⟨b1, 0, none⟩)), (6, .pointer (some ⟨b41, 0, none⟩)), (8, .pointer (some ⟨b43, 0, none⟩)), (11, .pointer (some ⟨b200, 0, none⟩)), (21, .int .i64 (readings.length : Int)), (22, .int .i64 k), (42, .slice a13 n17 c14), (43, .int .i64 (now2.length : Int)), (44, .int .i64 k3), (51, .func (.func 161) #[] cp207), (52, .int .i64 x4)] (by exact (sc rfl (sc rfl (sc rfl (sc rfl (sc rfl (sc rfl (sc rfl (sc rfl (sc rfl (sc rfl (sc rfl (sn _))))))))))))) ?_
               refine shW_region (oa rfl rfl (shO_nil ?_))
               refine ⟨rfl, ?_⟩
               refine shW_block ?_
               refine shW_region ?_
               refine ov (v_load Tryz.isAgg221 rfl (Has.own 1 rfl) rfl) rfl ?_
               refine ov (v_loadA (cs := (([.int .i64 x3.1] : List Value) ++ (x3.2.1.flatMap cB ++ (([.slice a197 x3.2.2.length c198] : List Value)))).toArray) Tryz.isAgg220 Tryz.sizeOf220 rfl (Has.own 0 rfl) (li_le (li_cat rfl (li_here (B := x3.2.1.flatMap cB ++ (([.slice a197 x3.2.2.length c198] : List Value))) rfl) (li_cat (lfl cB_ok h196) (li_skip (A := ([.int .i64 x3.1] : List Value)) (k := 1) (o := 0) rfl (li_here (B := ([.slice a197 x3.2.2.length c198] : List Value)) (lfl cB_ok h196))) (li_skip (A := ([.int .i64 x3.1] : List Value)) (k := 1) (o := 24) rfl (li_skip (A := x3.2.1.flatMap cB) (k := 24) (o := 0) (lfl cB_ok h196) (li_end rfl)))))) (li_ext (la rfl (la (lfl cB_ok h196) rfl)) (li_cat rfl (li_here (B := x3.2.1.flatMap cB ++ (([.slice a197 x3.2.2.length c198] : List Value))) rfl) (li_cat (lfl cB_ok h196) (li_skip (A := ([.int .i64 x3.1] : List Value)) (k := 1) (o := 0) rfl (li_here (B := ([.slice a197 x3.2.2.length c198] : List Value)) (lfl cB_ok h196))) (li_skip (A := ([.int .i64 x3.1] : List Value)) (k := 1) (o := 24) rfl (li_skip (A := x3.2.1.flatMap cB) (k := 24) (o := 0) (lfl cB_ok h196) (li_end rfl))))))) rfl ?_
               refine om rfl rfl ?_
               have hn232 : FnR Tryz.prog F227 138 #[.agg #[.int .i64 houses, .int .i64 notices, .slice hears_a hears.length hears_c, .slice readings_a readings.length readings_c, .slice cries_a cries.length cries_c]] #[] (prE (iE .i64) (iE .i64)) Value.bool (fun xx_ : Int × Int => book_Book_can houses notices hears readings cries xx_.1 xx_.2) := ⟨Tryz.call138, fun F2 h2 vs xx_ r ha hr => by obtain ⟨_, _, rfl, rfl, rfl⟩ := ha; exact book_Book_can_w (h_hears.mono (slE_ok (slE_ok (iE_ok _))) h2) (h_readings.mono (iE_ok _) h2) (h_cries.mono (prE_ok (iE_ok _) (prE_ok (iE_ok _) (iE_ok _))) h2) hr⟩
               obtain ⟨x5, next_11, h233, r234⟩ := b2_ok r231; clear r231
               refine o_callG (Lb := (b39, .map es215 cl216) :: ((b41, .cells #[.slice a209 n213 c210] 215 (0, 0)) :: (Lb211 ++ []))) (Lr := (b200, .cells ((([.int .i64 x3.1] : List Value) ++ (x3.2.1.flatMap cB ++ (([.slice a197 x3.2.2.length c198] : List Value)))).toArray) 220 (0, 0)) :: ((b43, .cells (#[.func (.func 139) #[] #[.pointer (some ⟨b42, 0, none⟩), .pointer (some ⟨b38, 0, none⟩), .pointer (some ⟨b1, 0, none⟩), .pointer (some ⟨b40, 0, none⟩), .pointer (some ⟨b41, 0, none⟩)]]) 221 (0, 0)) :: (Lb15 ++ []))) rfl Tryz.call139 rfl rfl rfl (pT ((fC (fC (fC fO))).trans (pC ((fC (fC fO)).trans (pC ((fC (fC fP)).trans (pA pR)))))) (lb (lb (lp (ln rfl))))) (book_desk_endings_1_w h196 h199 hz80 hn232 hz81 hz12 hb_d h_hears h_readings h_cries hz85 hR217 hz212 h233) ?_; rintro _ F235 _ hF236 hd238 hn237 ⟨es239, cl240, a243, n247, c244, Lb245, rfl, rfl, hR241, hz246⟩
               refine shO_L (lb (lb (lp (ln rfl)))) ?_
               refine kO (kc (kc (kf (fS fO) (kf (fS fO) kr)))) ?_
               refine shO_nil (inBlock_n (id := 7) ?_)
               refine ⟨(b200, .cells ((([.int .i64 x3.1] : List Value) ++ (x3.2.1.flatMap cB ++ (([.slice a197 x3.2.2.length c198] : List Value)))).toArray) 220 (0, 0)) :: ((b43, .cells (#[.func (.func 139) #[] #[.pointer (some ⟨b42, 0, none⟩), .pointer (some ⟨b38, 0, none⟩), .pointer (some ⟨b1, 0, none⟩), .pointer (some ⟨b40, 0, none⟩), .pointer (some ⟨b41, 0, none⟩)]]) 221 (0, 0)) :: ((b41, .cells #[.slice a243 n247 c244] 215 (0, 0)) :: ((b39, .map es239 cl240) :: (Lb245 ++ (Lb15 ++ []))))), (show KL _ _ from kf (fC (fC fO)) (kf (fC (fC fO)) (kf (fC fO) kr))), ?_⟩; exact ⟨_, next_11, x5, a243, n247, c244, Lb245, es239, cl240, (by rw [hxs229]; simp), r234, rfl, hz246, hR241⟩
             · rintro F248 _ hF249 ⟨tl5, next_10, m5, a209, n213, c210, Lb211, es215, cl216, hs218, r250, rfl, hz212, hR217⟩
               obtain rfl := rest_nil hs218; rw [book_desk_endings_l4] at r250
               refine inBlock_n (id := 6) (inBlock_n (id := 5) ?_)
               obtain ⟨rfl, rfl⟩ := inj2 r250
               exact mi (kd kr) ⟨a209, n213, c210, Lb211, es215, cl216, (hF204.trans hF249), rfl, (sc rfl (sc rfl (sc rfl (sc rfl (sc rfl (sc rfl (sc rfl (sc rfl (sn _))))))))), hz212, hR217⟩
             intro c F1 L1 hx h; exact h.elim
           rintro e1 F252 _ ⟨a176, n180, c177, Lb178, es182, cl183, hF253, rfl, he251, hz179, hR184⟩
           refine shW_env _ he251 ?_; clear he251
           replace hz16 := hz16.mono (prE_ok (iE_ok _) (prE_ok (arE_ok (n := 24) (sz := 1) cB_ok) (slE_ok (iE_ok _)))) hF253
           refine shW_region ?_
           refine ov (v_add rfl rfl (Lst.r64 hk165 c172 (SlR.llt hz16))) rfl ?_
           refine om rfl rfl (shO_nil ?_)
           subst hn166; exact le kr ⟨_, _, rfl, hk173, next_9, m4, a176, n180, c177, Lb178, es182, cl183, r186, (hF170.trans hF253), rfl, (sc rfl (sc rfl (sc rfl (sc rfl (sc rfl (sc rfl (sc rfl (sc rfl (sn _))))))))), hz179, hR184⟩
         obtain rfl := Lst.zero hk165 c172
         rw [book_desk_endings_l3] at r167
         refine shW_exit (andThen_exit (andThen_exit ?_))
         refine inBlock_exit ?_
         obtain rfl := inj1 r167
         exact mi (kd (kc (kd (ka kn)))) ⟨a156, n160, c157, Lb158, hF170, rfl, (sc rfl (sc rfl (sc rfl (sc rfl (sn _))))), hz159⟩
       rintro e1 F255 _ ⟨a148, n152, c149, Lb150, hF256, rfl, he254, hz151⟩
       refine shW_env _ he254 ?_; clear he254
       refine shW_region ?_
       refine ov (v_load Tryz.isAgg215 rfl (Has.own 0 rfl) rfl) rfl ?_
       refine oa rfl rfl (shO_nil (inBlock_n (id := 1) ?_))
       obtain rfl := inj1 r155
       exact mi (kd kr) ⟨a148, n152, c149, Lb150, (hF147.trans hF256), rfl, (sc rfl (sc rfl (sc rfl (sc rfl (sn _))))), hz151⟩
     rintro e1 F258 _ ⟨a30, n34, c31, Lb32, hF259, rfl, he257, hz33⟩
     refine shW_env _ he257 ?_; clear he257
     replace h_readings := h_readings.mono (iE_ok _) hF259
     refine shW_region ?_
     refine ov (v_add rfl rfl (Lst.r64 hk19 c26 (RowR.lt h_readings))) rfl ?_
     refine om rfl rfl (shO_nil ?_)
     subst hn20; refine lf ?_
     exact mf kr ⟨_, _, rfl, hk27, now3, a30, n34, c31, Lb32, r37, (hF24.trans hF259), rfl, (sc rfl (sc rfl (sc rfl (sc rfl (sn _))))), hz33⟩
   obtain rfl := Lst.zero hk19 c26
   rw [book_desk_endings_l1] at r21
   refine shW_exit (andThen_exit (andThen_exit ?_))
   refine inBlock_exit ?_
   obtain rfl := inj1 r21
   exact mi kr ⟨a13, n17, c14, Lb15, (hF11.trans hF24), rfl, (sc rfl (sn _)), hz16⟩
 rintro e1 F261 _ ⟨a2, n6, c3, Lb4, hF262, rfl, he260, hz5⟩
 refine shW_env _ he260 ?_; clear he260
 refine wsr (oa rfl rfl (shO_nil ?_))
 obtain ⟨out, h269, r270⟩ := b1_ok r9; clear r9
 refine shW_join (fun e1 F1 L1 => ∃ (a263 : Option Addr) (n267 : Nat) (c264 : Nat) (Lb265 : LH), FExt F261 F1 ∧ L1 = (Lb265 ++ []) ∧ e1.sub [(13, .slice a263 n267 c264)] ∧ SlR K.w0.heap.size 105 25 (prE (arE 24 cB) (slE 1 (iE .i64))) F1 a263 n267 c264 out Lb265) ?_ ?_
 · clear r270
   refine wsr (om rfl rfl ?_)
   refine ov ((v_lenS Tryz.underlying215 rfl).i (SlR.lenI hz5)) rfl ?_
   refine om rfl rfl (shO_nil ?_)
   refine shW_block ?_
   refine shW_lp (fun fu5 e1 F1 L1 => ∃ (tl7 : List (Int × (List Bool) × (List Int))) (k4 : Int), tl7.length = fu5 ∧ Lst now k4 tl7 ∧ ∃ (out2 : List ((List Bool) × (List Int))) (a271 : Option Addr) (n275 : Nat) (c272 : Nat) (Lb273 : LH), book_desk_endings_l5 tl7 out2 = some out ∧ FExt F261 F1 ∧ L1 = (Lb273 ++ (Lb4 ++ [])) ∧ e1.sub [(13, .slice a271 n275 c272), (60, .slice a2 n6 c3), (61, .int .i64 (now.length : Int)), (62, .int .i64 k4)] ∧ SlR K.w0.heap.size 105 25 (prE (arE 24 cB) (slE 1 (iE .i64))) F1 a271 n275 c272 out2 Lb273) _ (m0 (ke kr) ⟨_, _, rfl, Lst.start _, [], none, 0, 0, [], h269, FExt.refl _, rfl, (sc rfl (sc rfl (sc rfl (sc rfl (sn _))))), SlR.nil _ _ _ _ _⟩) ?_
   rintro fu5 e1 F281 _ ⟨tl7, k4, hn278, hk277, out2, a271, n275, c272, Lb273, r279, hF282, rfl, he280, hz274⟩
   refine shW_env _ he280 ?_; clear he280
   replace hz5 := hz5.mono (prE_ok (iE_ok _) (prE_ok (arE_ok (n := 24) (sz := 1) cB_ok) (slE_ok (iE_ok _)))) hF282
   refine wsr ?_
   refine ov (v_lssK rfl rfl) rfl ?_
   refine shO_nil (shW_seq ?_)
   refine shW_condP rfl (fun c284 => ?_) (fun c284 => ?_)
   · obtain ⟨x6, tl8, rfl, hx286, g287, hk285⟩ := Lst.succ hk277 c284
     rw [book_desk_endings_l5] at r279
     refine shW_skip (shW_seq ?_)
     refine shW_block ?_
     refine wsr ?_
     obtain ⟨b288, o289, c290, vs291, ha292, hs293, hle294, ⟨_, _, rfl, rfl, ⟨_, _, rfl, ⟨rfl, h297⟩, ⟨a298, c299, rfl, h300⟩⟩⟩, hl295, hc296⟩ := SlR.at (prE_ok (iE_ok _) (prE_ok (arE_ok (n := 24) (sz := 1) cB_ok) (slE_ok (iE_ok _)))) hz5 (L := Lb273 ++ (Lb4 ++ [])) (fS fP) g287.1 hx286
     refine ov (v_indexO Tryz.underlying215 Tryz.sizeOf220 rfl ha292 rfl (SlR.idx hz5 g287)) rfl ?_
     refine ov (v_loadA (cs := (([.int .i64 x6.1] : List Value) ++ (x6.2.1.flatMap cB ++ (([.slice a298 x6.2.2.length c299] : List Value)))).toArray) Tryz.isAgg220 Tryz.sizeOf220 rfl hs293 hle294 (extract_cells hle294 hl295 hc296)) rfl ?_
     refine o_alloc rfl Tryz.zeroValue220 ?_; intro b301 hb301
     refine shO_L (L' := (b301, .cells ((([.int .i64 0] : List Value) ++ ((List.replicate 24 false).flatMap cB ++ (([.slice none 0 0] : List Value)))).toArray) 220 (0, 0)) :: (Lb273 ++ (Lb4 ++ []))) rfl ?_
     refine o_storeW (i := 0) Tryz.sizeOf220 rfl rfl rfl (lz (la rfl (la (lfl cB_ok List.length_replicate) rfl))) (lz (la rfl (la (lfl cB_ok h297) rfl))) (oc_app (by simp [Value.oneCell']) (oc_app (flat_one cB_ok _) (by simp [Value.oneCell']))) ?_
     refine shO_L (L' := (b301, .cells ((([.int .i64 x6.1] : List Value) ++ (x6.2.1.flatMap cB ++ (([.slice a298 x6.2.2.length c299] : List Value)))).toArray) 220 (0, 0)) :: (Lb273 ++ (Lb4 ++ []))) rfl ?_
     refine nsr (om rfl rfl ?_)
     refine ov (v_makeFunc rfl rfl) rfl ?_
     refine shO_freeze 0 rfl hb301 ?_; intro F302 hF303 hz304
     refine shO_L (L' := Lb273 ++ (Lb4 ++ [])) rfl ?_
     replace h300 := h300.mono (iE_ok _) hF303
     replace hz5 := hz5.mono (prE_ok (iE_ok _) (prE_ok (arE_ok (n := 24) (sz := 1) cB_ok) (slE_ok (iE_ok _)))) hF303
     replace hz274 := hz274.mono (prE_ok (arE_ok (n := 24) (sz := 1) cB_ok) (slE_ok (iE_ok _))) hF303
     have hn309 : FnR Tryz.prog F302 142 #[] #[.pointer (some ⟨b301, 0, none⟩)] (agE (prE (arE 24 cB) (slE 1 (iE .i64)))) Value.bool (fun xx_ : ((List Bool) × (List Int)) => book_desk_endings_2 xx_.1 xx_.2 x6.1 x6.2.1 x6.2.2) := ⟨Tryz.call142, fun F2 h2 vs xx_ r ha hr => by obtain ⟨_, rfl, ⟨_, _, rfl, ⟨rfl, h305⟩, ⟨a306, c307, rfl, h308⟩⟩⟩ := ha; exact book_desk_endings_2_w h305 h308 (h2 _ _ hz304) h297 (h300.mono (iE_ok _) h2) hr⟩
     obtain ⟨ok, h310, r311⟩ := b1_ok r279; clear r279
     refine o_callT (Lt := Lb273 ++ []) (Lr := Lb4 ++ []) rfl Tryz.call141 rfl rfl rfl (pT pR (lp (ln rfl))) (fun F2 h2 h3 => by rw [(SlR.caps hz274).1]; exact slices_ContainsFunc_book_ending_book_ending_w (hz274.row (prE_ok (arE_ok (n := 24) (sz := 1) cB_ok) (slE_ok (iE_ok _))) h2 (fun p hp => h3 p (List.mem_append_left _ hp))) (hn309.mono h2) h310) ?_
     refine ov (v_notB rfl) rfl ?_
     refine shO_nil ?_
     refine shW_cond rfl (fun c312 => ?_) (fun c312 => ?_)
     · have r313 := bt r311 c312; clear r311
       refine shW_region (om rfl rfl ?_)
       refine ov (v_fieldAddr fa_220_0 rfl) rfl ?_
       refine ov (v_fieldAddr fa_218_1 rfl) rfl ?_
       refine ov (v_loadA (cs := arr cB x6.2.1) Tryz.isAgg103 Tryz.sizeOf103 rfl (Has.frozen hz304) (li_le (li_skip (A := ([.int .i64 x6.1] : List Value)) (k := 1) (o := 0) rfl (li_here (B := ([.slice a298 x6.2.2.length c299] : List Value)) (lfl cB_ok h297)))) (li_ext (lfl cB_ok h297) (li_skip (A := ([.int .i64 x6.1] : List Value)) (k := 1) (o := 0) rfl (li_here (B := ([.slice a298 x6.2.2.length c299] : List Value)) (lfl cB_ok h297))))) rfl ?_
       refine ov (v_fieldAddr fa_220_1 rfl) rfl ?_
       refine ov (v_load Tryz.isAgg24 rfl (Has.frozen hz304) (li_cell (li_skip (A := ([.int .i64 x6.1] : List Value)) (k := 1) (o := 24) rfl (li_skip (A := x6.2.1.flatMap cB) (k := 24) (o := 0) (lfl cB_ok h297) (li_end rfl))))) rfl ?_
       refine ov (v_build (v := .agg ((x6.2.1.flatMap cB ++ (([.slice a298 x6.2.2.length c299] : List Value))).toArray)) rfl (by intro w; have hq_ := h297; revert hq_; generalize x6.2.1 = zq_; intro hq_; obtain ⟨a0, a1, a2, a3, a4, a5, a6, a7, a8, a9, a10, a11, a12, a13, a14, a15, a16, a17, a18, a19, a20, a21, a22, a23, rfl⟩ := len_24 hq_; show _ = _; kernel_rfl)) rfl ?_
       refine o_buildSlice (cs := (x6.2.1.flatMap cB ++ (([.slice a298 x6.2.2.length c299] : List Value))).toArray) rfl rfl (buildSlice_one slt_97 (.agg (x6.2.1.flatMap cB ++ (([.slice a298 x6.2.2.length c299] : List Value))).toArray) (lz (la (lfl cB_ok h297) rfl)) (by decide)) ?_; intro b314 hb314
       obtain ⟨out3, h315, g316, r317⟩ := ap_ok r313; clear r313
       refine o_appZ (xs := out2) (ys := [(x6.2.1, x6.2.2)]) (zs := out3) rfl slt_97 rfl rfl (Nat.le_refl _) (fun _ => .c .h) hz274 (SrcR.box (vss := [(x6.2.1.flatMap cB ++ (([.slice a298 x6.2.2.length c299] : List Value)))]) (ys := [(x6.2.1, x6.2.2)]) 0 rfl (prE_ok (arE_ok (n := 24) (sz := 1) cB_ok) (slE_ok (iE_ok _))) (.cons ⟨_, _, rfl, ⟨rfl, h297⟩, ⟨_, _, rfl, h300⟩⟩ .nil) (by simp) rfl) h315 g316 (by decide) ?_; intro a318 n322 c319 Lb320 hz321
       refine kO (kd kr) ?_
       refine oa rfl rfl (shO_nil (inBlock_n (id := 9) (shW_region ?_)))
       refine ov (v_add rfl rfl (Lst.r64 hk277 c284 (SlR.llt hz5))) rfl ?_
       refine om rfl rfl (shO_nil ?_)
       subst hn278; exact le kr ⟨_, _, rfl, hk285, out3, a318, n322, c319, Lb320, r317, (hF282.trans hF303), rfl, (sc rfl (sc rfl (sc rfl (sc rfl (sn _))))), hz321⟩
     have r324 := bf r311 c312; clear r311
     refine shW_skip (inBlock_n (id := 9) (shW_region ?_))
     refine ov (v_add rfl rfl (Lst.r64 hk277 c284 (SlR.llt hz5))) rfl ?_
     refine om rfl rfl (shO_nil ?_)
     subst hn278; exact le kr ⟨_, _, rfl, hk285, out2, a271, n275, c272, Lb273, r324, (hF282.trans hF303), rfl, (sc rfl (sc rfl (sc rfl (sc rfl (sn _))))), hz274⟩
   obtain rfl := Lst.zero hk277 c284
   rw [book_desk_endings_l5] at r279
   refine shW_exit (andThen_exit (andThen_exit ?_))
   refine inBlock_exit ?_
   obtain rfl := inj1 r279
   exact mi (ka kn) ⟨a271, n275, c272, Lb273, hF282, rfl, (sc rfl (sn _)), hz274⟩
 rintro e1 F326 _ ⟨a263, n267, c264, Lb265, hF327, rfl, he325, hz266⟩
 refine shW_env _ he325 ?_; clear he325
 refine wsr (om rfl rfl (oa rfl rfl (shO_nil (shW_ret ?_))))
 refine q_res1 Tryz.results111 (res_tmp rfl) (sr) ?_
 obtain rfl := inj1 r270
 exact ⟨_, _, _, _, rfl, rfl, hz266.any⟩
set_option maxHeartbeats 1000000 in
theorem book_told_w {houses : Int} {notices : Int} {hears_a : Option Addr} {hears_c : Nat} {hears : List (List (List Int))} {readings_a : Option Addr} {readings_c : Nat} {readings : List Int} {cries_a : Option Addr} {cries_c : Nat} {cries : List (Int × Int × Int)} {F : FS} (h_hears : RowR 1 (slE 1 (slE 1 (iE .i64))) F hears_a hears_c hears) (h_readings : RowR 1 (iE .i64) F readings_a readings_c readings) (h_cries : RowR 3 (prE (iE .i64) (prE (iE .i64) (iE .i64))) F cries_a cries_c cries) {r : Option (Int × Int × (List (List (List Int))) × (List Int) × (List (Int × Int × Int)))} {r2 : List ((List Bool) × (List Int))} {r3 : Int} (hr : book_told houses notices hears readings cries = some (r, r2, r3)) :
    SH.Spec Tryz.prog 76 #[.agg #[.int .i64 houses, .int .i64 notices, .slice hears_a hears.length hears_c, .slice readings_a readings.length readings_c, .slice cries_a cries.length cries_c]] F [] fun F' L' v => ∃ (rv : Value) (r2a : Option Addr) (r2n : Nat) (r2c : Nat) (r2L : LH), v = .tuple #[rv, .slice r2a r2n r2c, .int .i64 r3] ∧ L' = r2L ++ [] ∧ PtrR 171 (prE (iE .i64) (prE (iE .i64) (prE (slE 1 (slE 1 (slE 1 (iE .i64)))) (prE (slE 1 (iE .i64)) (slE 3 (prE (iE .i64) (prE (iE .i64) (iE .i64)))))))) F' rv r ∧ SlR 0 105 25 (prE (arE 24 cB) (slE 1 (iE .i64))) F' r2a r2n r2c r2 r2L := by
 refine spec_of_shW (args := [.agg #[.int .i64 houses, .int .i64 notices, .slice hears_a hears.length hears_c, .slice readings_a readings.length readings_c, .slice cries_a cries.length cries_c]]) Tryz.func76 rfl Tryz.ntmps76 (Nat.le_of_ble_eq_true rfl) ?_
 intro K _ _; rw [book_told] at hr
 refine wsr ?_
 refine o_box rfl rfl ?_; intro b1 hb1
 refine oa rfl rfl (oa rfl rfl (oa rfl rfl (nsr ?_)))
 refine ov (v_loadA (cs := #[.int .i64 houses, .int .i64 notices, .slice hears_a hears.length hears_c, .slice readings_a readings.length readings_c, .slice cries_a cries.length cries_c]) Tryz.isAgg27 Tryz.sizeOf27 rfl (Has.own 0 rfl) (Nat.le_of_ble_eq_true rfl) rfl) rfl ?_
 obtain ⟨d, n, h2, r4⟩ := b2_ok hr; clear hr
 refine o_call0 rfl Tryz.call93 rfl rfl rfl (book_opened_w h_hears h_readings h_cries h2) ?_; rintro _ F5 _ hF6 hn7 ⟨v9, rfl, rfl, hp10⟩
 refine shO_L (ln rfl) ?_
 refine om rfl rfl (ox rfl rfl rfl (ox rfl rfl rfl (oa rfl rfl (oa rfl rfl (shO_nil (shW_seq (wsr (om rfl rfl ?_))))))))
 refine ov (v_neq rfl rfl) rfl ?_
 refine shO_nil ?_
 refine shW_condP rfl (fun c11 => ?_) (fun c11 => ?_)
 · have r12 := ite_t r4 c11; clear r4
   refine wsr (om rfl rfl (oa rfl rfl (oa rfl rfl (oa rfl rfl (shO_nil ?_)))))
   refine kW kn ?_
   refine shW_ret (andThen_ret ?_)
   refine q_res3 Tryz.results76 (res_tmp rfl) (res_tmp rfl) (res_tmp rfl) (sr) ?_
   obtain ⟨rfl, rfl, rfl⟩ := inj3 r12
   exact ⟨_, _, _, _, [], rfl, rfl, rfl, SlR.nil _ _ _ _ _⟩
 have r13 := ite_f r4 c11; clear r4
 refine shW_skip (wsr (om rfl rfl ?_))
 obtain ⟨houses2, notices2, hears2, readings2, cries2, h14, r15⟩ := b5_ok r13; clear r13
 have h30 := hp10; rw [h14] at h30; obtain ⟨b16, c17, m18, hv19, hz20, ⟨_, _, rfl, rfl, ⟨_, _, rfl, rfl, ⟨_, _, rfl, ⟨a21, c22, rfl, h23⟩, ⟨_, _, rfl, ⟨a24, c25, rfl, h26⟩, ⟨a27, c28, rfl, h29⟩⟩⟩⟩⟩⟩ := h30; subst hv19
 have hz20 : F5 b16 = some (.cells #[.int .i64 houses2, .int .i64 notices2, .slice a21 hears2.length c22, .slice a24 readings2.length c25, .slice a27 cries2.length c28] 171 m18) := hz20
 obtain ⟨l, h31, r32⟩ := b1_ok r15; clear r15
 refine o_call0 rfl Tryz.call111 rfl rfl rfl (book_desk_endings_w hz20 h23 h26 h29 h31) ?_; rintro _ F33 _ hF34 hn35 ⟨a37, n41, c38, Lb39, rfl, rfl, hz40⟩
 replace h23 := h23.mono (slE_ok (slE_ok (iE_ok _))) hF34
 replace h26 := h26.mono (iE_ok _) hF34
 replace h29 := h29.mono (prE_ok (iE_ok _) (prE_ok (iE_ok _) (iE_ok _))) hF34
 replace hz20 := hF34 _ _ hz20
 replace hz40 := hz40.new fun p hp => hn35 p (by simp [hp])
 refine shO_L (lp (ln rfl)) ?_
 refine kO (kf (fS fO) kr) ?_
 refine oa rfl rfl (shO_nil (shW_seq (wsr (om rfl rfl ?_))))
 refine ov ((v_lenS Tryz.underlying97 rfl).i (SlR.lenI hz40)) rfl ?_
 refine ov (v_eql rfl rfl) rfl ?_
 refine shO_nil ?_
 refine shW_condP rfl (fun c43 => ?_) (fun c43 => ?_)
 · have r44 := ite_t r32 c43; clear r32
   refine wsr (oa rfl rfl (oa rfl rfl (oa rfl rfl (shO_nil ?_))))
   refine kW kn ?_
   refine shW_ret (andThen_ret ?_)
   refine q_res3 Tryz.results76 (res_tmp rfl) (res_tmp rfl) (res_tmp rfl) (sr) ?_
   obtain ⟨rfl, rfl, rfl⟩ := inj3 r44
   exact ⟨_, _, _, _, [], rfl, rfl, rfl, SlR.nil _ _ _ _ _⟩
 have r45 := ite_f r32 c43; clear r32
 refine shW_skip (wsr (om rfl rfl (om rfl rfl (oa rfl rfl (oa rfl rfl (oa rfl rfl (shO_nil ?_)))))))
 refine kW (kd kr) ?_
 refine shW_ret ?_
 refine q_res3 Tryz.results76 (res_tmp rfl) (res_tmp rfl) (res_tmp rfl) (sr) ?_
 obtain ⟨rfl, rfl, rfl⟩ := inj3 r45
 exact ⟨_, _, _, _, _, rfl, rfl, ⟨_, _, _, rfl, hz20, ⟨_, _, rfl, rfl, ⟨_, _, rfl, rfl, ⟨_, _, rfl, ⟨_, _, rfl, h23⟩, ⟨_, _, rfl, ⟨_, _, rfl, h26⟩, ⟨_, _, rfl, h29⟩⟩⟩⟩⟩⟩, hz40.any⟩
set_option maxHeartbeats 1000000 in
theorem book_heard_w {houses : Int} {notices : Int} {hears_a : Option Addr} {hears_c : Nat} {hears : List (List (List Int))} {readings_a : Option Addr} {readings_c : Nat} {readings : List Int} {cries_a : Option Addr} {cries_c : Nat} {cries : List (Int × Int × Int)} {complaints_a : Option Addr} {complaints_c : Nat} {complaints : List (Int × Int × Bool)} {F : FS} (h_hears : RowR 1 (slE 1 (slE 1 (iE .i64))) F hears_a hears_c hears) (h_readings : RowR 1 (iE .i64) F readings_a readings_c readings) (h_cries : RowR 3 (prE (iE .i64) (prE (iE .i64) (iE .i64))) F cries_a cries_c cries) (h_complaints : RowR 3 (prE (iE .i64) (prE (iE .i64) bE)) F complaints_a complaints_c complaints) {r : List ((List Bool) × (List Int))} {r2 : Int} (hr : book_heard houses notices hears readings cries complaints = some (r, r2)) :
    SH.Spec Tryz.prog 41 #[.agg #[.int .i64 houses, .int .i64 notices, .slice hears_a hears.length hears_c, .slice readings_a readings.length readings_c, .slice cries_a cries.length cries_c], .slice complaints_a complaints.length complaints_c] F [] fun F' L' v => ∃ (ra : Option Addr) (rn : Nat) (rc : Nat) (rL : LH), v = .tuple #[.slice ra rn rc, .int .i64 r2] ∧ L' = rL ++ [] ∧ SlR 0 105 25 (prE (arE 24 cB) (slE 1 (iE .i64))) F' ra rn rc r rL := by
 refine spec_of_shW (args := [.agg #[.int .i64 houses, .int .i64 notices, .slice hears_a hears.length hears_c, .slice readings_a readings.length readings_c, .slice cries_a cries.length cries_c], .slice complaints_a complaints.length complaints_c]) Tryz.func41 rfl Tryz.ntmps41 (Nat.le_of_ble_eq_true rfl) ?_
 intro K _ _; rw [book_heard] at hr
 refine wsr ?_
 refine o_box rfl rfl ?_; intro b1 hb1
 refine oa rfl rfl (oa rfl rfl (shO_nil (shW_seq (wsr ?_))))
 refine ov (v_loadA (cs := #[.int .i64 houses, .int .i64 notices, .slice hears_a hears.length hears_c, .slice readings_a readings.length readings_c, .slice cries_a cries.length cries_c]) Tryz.isAgg27 Tryz.sizeOf27 rfl (Has.own 0 rfl) (Nat.le_of_ble_eq_true rfl) rfl) rfl ?_
 refine om rfl rfl ?_
 obtain ⟨n, h2, r3⟩ := b1_ok hr; clear hr
 refine o_callV rfl Tryz.call54 rfl rfl rfl (book_complained_w h_hears h_readings h_cries h_complaints h2) ?_
 refine oa rfl rfl (nsr (om rfl rfl ?_))
 refine ov (v_neq rfl rfl) rfl ?_
 refine shO_nil ?_
 refine shW_condP rfl (fun c4 => ?_) (fun c4 => ?_)
 · have r5 := ite_t r3 c4; clear r3
   refine wsr (om rfl rfl (oa rfl rfl (oa rfl rfl (shO_nil ?_))))
   refine kW kn ?_
   refine shW_ret (andThen_ret ?_)
   refine q_res2 Tryz.results41 (res_tmp rfl) (res_tmp rfl) (sr) ?_
   obtain ⟨rfl, rfl⟩ := inj2 r5
   exact ⟨_, _, _, [], rfl, rfl, SlR.nil _ _ _ _ _⟩
 have r6 := ite_f r3 c4; clear r3
 refine shW_skip (wsr ?_)
 refine ov (v_loadA (cs := #[.int .i64 houses, .int .i64 notices, .slice hears_a hears.length hears_c, .slice readings_a readings.length readings_c, .slice cries_a cries.length cries_c]) Tryz.isAgg27 Tryz.sizeOf27 rfl (Has.own 0 rfl) (Nat.le_of_ble_eq_true rfl) rfl) rfl ?_
 obtain ⟨d, l, n2, h7, r8⟩ := b3_ok r6; clear r6
 refine o_call0 rfl Tryz.call76 rfl rfl rfl (book_told_w h_hears h_readings h_cries h7) ?_; rintro _ F9 _ hF10 hn11 ⟨v13, a15, n19, c16, Lb17, rfl, rfl, hp14, hz18⟩
 replace hz18 := hz18.new fun p hp => hn11 p (by simp [hp])
 refine shO_L (lp (ln rfl)) ?_
 refine kO (kf (fS fO) kr) ?_
 refine om rfl rfl (ox rfl rfl rfl (ox rfl rfl rfl (ox rfl rfl rfl (oa rfl rfl (oa rfl rfl (oa rfl rfl (nsr (om rfl rfl (om rfl rfl ?_)))))))))
 refine oa rfl rfl (oa rfl rfl (shO_nil ?_))
 refine kW (kd kr) ?_
 refine shW_ret ?_
 refine q_res2 Tryz.results41 (res_tmp rfl) (res_tmp rfl) (sr) ?_
 obtain ⟨rfl, rfl⟩ := inj2 r8
 exact ⟨_, _, _, _, rfl, rfl, hz18.any⟩
set_option maxHeartbeats 1000000 in
theorem book_Complaint_is_w {house : Int} {notice : Int} {heard : Bool} {g : List Bool} {F : FS} (h_g : g.length = 24) {r : Bool} (hr : book_Complaint_is house notice heard g = some r) :
    SpecV Tryz.prog 47 #[.agg #[.int .i64 house, .int .i64 notice, .bool heard], .agg (arr cB g)] F (.bool r) := by
 refine spec_of_shW (args := [.agg #[.int .i64 house, .int .i64 notice, .bool heard], .agg (arr cB g)]) Tryz.func47 rfl Tryz.ntmps47 (Nat.le_of_ble_eq_true rfl) ?_
 intro K _ _; rw [book_Complaint_is] at hr
 refine wsr ?_
 refine o_box rfl rfl ?_; intro b1 hb1
 refine o_box rfl rfl ?_; intro b2 hb2
 refine oa rfl rfl ?_
 refine nsd (by kernel_rfl) (by kernel_rfl) (by kernel_rfl) ?_
 refine qv (v_fieldAddr fa_36_0 rfl) rfl ?_
 refine qv (v_load Tryz.isAgg3 rfl (Has.own 1 rfl) rfl) rfl ?_
 refine qv (v_fieldAddr fa_36_1 rfl) rfl ?_
 refine qv (v_load Tryz.isAgg3 rfl (Has.own 1 rfl) rfl) rfl ?_
 obtain ⟨g3, r4⟩ := gd_ok hr; clear hr
 refine qv (v_indexA Tryz.underlying103 Tryz.sizeOf101 rfl rfl g3) rfl ?_
 obtain ⟨g5, r6⟩ := gd_ok r4; clear r4
 obtain ⟨x, g7, hx8, r9⟩ := ix_ok r6; clear r6
 have hq11 : (house * 4 + notice : Int).toNat = (house : Int).toNat * 4 + (notice : Int).toNat := by have := g3; have := g5; omega
 have hc10 := el_at2 cB_ok h_g hq11 hx8 (li_arr (li_end (lfl cB_ok h_g))) (li_le (li_end (lfl cB_ok h_g)))
 refine qv (v_indexA Tryz.underlying101 Tryz.sizeOf4 rfl rfl g5) rfl ?_
 refine qv (v_load Tryz.isAgg4 rfl (Has.own 0 rfl) ((hc10).2.2 0 (by decide))) rfl ?_
 refine qv (v_fieldAddr fa_36_2 rfl) rfl ?_
 refine qv (v_load Tryz.isAgg4 rfl (Has.own 1 rfl) rfl) rfl ?_
 refine qv (v_eqlB Tryz.underlying4 rfl rfl) rfl ?_
 refine qa rfl rfl (shQ_nil ?_)
 refine kW kn ?_
 refine shW_ret ?_
 refine q_res1 Tryz.results47 (res_tmp rfl) (sr) ?_
 obtain rfl := inj1 r9
 exact rfl
set_option maxHeartbeats 1000000 in
theorem book_wrong_w {complaints_a : Option Addr} {complaints_c : Nat} {complaints : List (Int × Int × Bool)} {g : List Bool} {F : FS} (h_complaints : RowR 3 (prE (iE .i64) (prE (iE .i64) bE)) F complaints_a complaints_c complaints) (h_g : g.length = 24) {r : List Int} (hr : book_wrong complaints g = some r) :
    SH.Spec Tryz.prog 42 #[.slice complaints_a complaints.length complaints_c, .agg (arr cB g)] F [] fun F' L' v => ∃ (ra : Option Addr) (rn : Nat) (rc : Nat) (rL : LH), v = .slice ra rn rc ∧ L' = rL ++ [] ∧ SlR 0 3 1 (iE .i64) F' ra rn rc r rL := by
 refine spec_of_shW (args := [.slice complaints_a complaints.length complaints_c, .agg (arr cB g)]) Tryz.func42 rfl Tryz.ntmps42 (Nat.le_of_ble_eq_true rfl) ?_
 intro K _ _; rw [book_wrong] at hr
 refine wsr ?_
 refine o_box rfl rfl ?_; intro b1 hb1
 refine oa rfl rfl (nsr (oa rfl rfl (shO_nil ?_)))
 obtain ⟨out, h8, r9⟩ := b1_ok hr; clear hr
 refine shW_join (fun e1 F1 L1 => ∃ (a2 : Option Addr) (n6 : Nat) (c3 : Nat) (Lb4 : LH), F = F1 ∧ L1 = (Lb4 ++ []) ∧ e1.sub [(5, .slice a2 n6 c3)] ∧ SlR K.w0.heap.size 3 1 (iE .i64) F1 a2 n6 c3 out Lb4) ?_ ?_
 · clear r9
   refine wsr (om rfl rfl ?_)
   refine ov (v_lenS Tryz.underlying32 rfl) rfl ?_
   refine om rfl rfl (shO_nil ?_)
   refine shW_block ?_
   refine shW_lp (fun fu1 e1 F1 L1 => ∃ (tl : List (Int × Int × Bool)) (k : Int), tl.length = fu1 ∧ Lst complaints k tl ∧ ∃ (out2 : List Int) (a10 : Option Addr) (n14 : Nat) (c11 : Nat) (Lb12 : LH), book_wrong_l1 g tl k out2 = some out ∧ F = F1 ∧ L1 = ((b1, .cells (arr cB g) 103 (0, 0)) :: (Lb12 ++ [])) ∧ e1.sub [(3, .pointer (some ⟨b1, 0, none⟩)), (5, .slice a10 n14 c11), (8, .slice complaints_a complaints.length complaints_c), (9, .int .i64 (complaints.length : Int)), (10, .int .i64 k)] ∧ SlR K.w0.heap.size 3 1 (iE .i64) F1 a10 n14 c11 out2 Lb12) _ (m0 (kc (ke kr)) ⟨_, _, rfl, Lst.start _, [], none, 0, 0, [], h8, rfl, rfl, (sc rfl (sc rfl (sc rfl (sc rfl (sc rfl (sn _)))))), SlR.nil _ _ _ _ _⟩) ?_
   rintro fu1 e1 _ _ ⟨tl, k, hn17, hk16, out2, a10, n14, c11, Lb12, r18, rfl, rfl, he19, hz13⟩
   refine shW_env _ he19 ?_; clear he19
   refine wsr ?_
   refine ov (v_lssK rfl rfl) rfl ?_
   refine shO_nil (shW_seq ?_)
   refine shW_condP rfl (fun c21 => ?_) (fun c21 => ?_)
   · obtain ⟨x, tl2, rfl, hx23, g24, hk22⟩ := Lst.succ hk16 c21
     rw [book_wrong_l1] at r18
     refine shW_skip (shW_seq ?_)
     refine shW_block ?_
     refine wsr (om rfl rfl ?_)
     obtain ⟨b25, o26, c27, vs28, ha29, hs30, hle31, ⟨_, _, rfl, rfl, ⟨_, _, rfl, rfl, rfl⟩⟩, hl32, hc33⟩ := RowR.at (prE_ok (iE_ok _) (prE_ok (iE_ok _) bE_ok)) h_complaints ((b1, .cells (arr cB g) 103 (0, 0)) :: (Lb12 ++ [])) g24.1 hx23
     refine ov (v_indexO Tryz.underlying32 Tryz.sizeOf36 rfl ha29 rfl g24) rfl ?_
     refine ov (v_loadA (cs := #[.int .i64 x.1, .int .i64 x.2.1, .bool x.2.2]) Tryz.isAgg36 Tryz.sizeOf36 rfl hs30 hle31 (extract_cells hle31 hl32 hc33)) rfl ?_
     refine o_alloc rfl Tryz.zeroValue36 ?_; intro b34 hb34
     refine oa rfl rfl ?_
     refine o_storeA (i := 0) Tryz.sizeOf36 rfl rfl rfl (by simp [Value.oneCell']) rfl (Nat.le_of_ble_eq_true rfl) ?_
     refine shO_L (L' := (b34, .cells #[.int .i64 x.1, .int .i64 x.2.1, .bool x.2.2] 36 (0, 0)) :: ((b1, .cells (arr cB g) 103 (0, 0)) :: (Lb12 ++ []))) rfl ?_
     refine nsr ?_
     refine ov (v_loadA (cs := #[.int .i64 x.1, .int .i64 x.2.1, .bool x.2.2]) Tryz.isAgg36 Tryz.sizeOf36 rfl (Has.own 0 rfl) (Nat.le_of_ble_eq_true rfl) rfl) rfl ?_
     refine ov (v_loadW Tryz.isAgg103 Tryz.sizeOf103 rfl (Has.own 1 rfl) (arr_sz cB_ok h_g)) rfl ?_
     obtain ⟨ok, h35, r36⟩ := b1_ok r18; clear r18
     refine o_callV rfl Tryz.call47 rfl rfl rfl (book_Complaint_is_w h_g h35) ?_
     refine ov (v_notB rfl) rfl ?_
     refine shO_nil ?_
     refine shW_cond rfl (fun c37 => ?_) (fun c37 => ?_)
     · have r38 := bt r36 c37; clear r36
       refine shW_region (om rfl rfl (om rfl rfl ?_))
       refine o_buildSlice (cs := #[.int .i64 k]) rfl rfl (buildSlice_all slt_24 [.int .i64 k] rfl (by decide) (by simp [Value.cells]) (by decide)) ?_; intro b39 hb39
       obtain ⟨out3, h40, g41, r42⟩ := ap_ok r38; clear r38
       refine o_appZ (xs := out2) (ys := [k]) (zs := out3) rfl slt_24 rfl rfl (Nat.le_refl _) (fun _ => .c (.c (.c .h))) hz13 (SrcR.box (vss := [[.int .i64 k]]) (ys := [k]) 0 rfl (iE_ok _) (.cons rfl .nil) rfl rfl) h40 g41 (by decide) ?_; intro a43 n47 c44 Lb45 hz46
       refine kO (kd kr) ?_
       refine oa rfl rfl (shO_nil (inBlock_n (id := 1) (shW_region ?_)))
       refine ov (v_add rfl rfl (Lst.r64 hk16 c21 (RowR.lt h_complaints))) rfl ?_
       refine om rfl rfl (shO_nil ?_)
       subst hn17; exact le (kd kr) ⟨_, _, rfl, hk22, out3, a43, n47, c44, Lb45, r42, rfl, rfl, (sc rfl (sc rfl (sc rfl (sc rfl (sc rfl (sn _)))))), hz46⟩
     have r49 := bf r36 c37; clear r36
     refine shW_skip (inBlock_n (id := 1) (shW_region ?_))
     refine ov (v_add rfl rfl (Lst.r64 hk16 c21 (RowR.lt h_complaints))) rfl ?_
     refine om rfl rfl (shO_nil ?_)
     subst hn17; exact le (kd kr) ⟨_, _, rfl, hk22, out2, a10, n14, c11, Lb12, r49, rfl, rfl, (sc rfl (sc rfl (sc rfl (sc rfl (sc rfl (sn _)))))), hz13⟩
   obtain rfl := Lst.zero hk16 c21
   rw [book_wrong_l1] at r18
   refine shW_exit (andThen_exit (andThen_exit ?_))
   refine inBlock_exit ?_
   obtain rfl := inj1 r18
   exact mi (kd kr) ⟨a10, n14, c11, Lb12, rfl, rfl, (sc rfl (sn _)), hz13⟩
 rintro e1 _ _ ⟨a2, n6, c3, Lb4, rfl, rfl, he50, hz5⟩
 refine shW_env _ he50 ?_; clear he50
 refine wsr (om rfl rfl (oa rfl rfl (shO_nil (shW_ret ?_))))
 refine q_res1 Tryz.results42 (res_tmp rfl) (sr) ?_
 obtain rfl := inj1 r9
 exact ⟨_, _, _, _, rfl, rfl, hz5.any⟩
set_option maxHeartbeats 1000000 in
theorem book_Fewest_w {houses : Int} {notices : Int} {hears_a : Option Addr} {hears_c : Nat} {hears : List (List (List Int))} {readings_a : Option Addr} {readings_c : Nat} {readings : List Int} {cries_a : Option Addr} {cries_c : Nat} {cries : List (Int × Int × Int)} {complaints_a : Option Addr} {complaints_c : Nat} {complaints : List (Int × Int × Bool)} {F : FS} (h_hears : RowR 1 (slE 1 (slE 1 (iE .i64))) F hears_a hears_c hears) (h_readings : RowR 1 (iE .i64) F readings_a readings_c readings) (h_cries : RowR 3 (prE (iE .i64) (prE (iE .i64) (iE .i64))) F cries_a cries_c cries) (h_complaints : RowR 3 (prE (iE .i64) (prE (iE .i64) bE)) F complaints_a complaints_c complaints) {r : List Int} {r2 : Int} (hr : book_Fewest houses notices hears readings cries complaints = some (r, r2)) :
    SH.Spec Tryz.prog 10 #[.agg #[.int .i64 houses, .int .i64 notices, .slice hears_a hears.length hears_c, .slice readings_a readings.length readings_c, .slice cries_a cries.length cries_c], .slice complaints_a complaints.length complaints_c] F [] fun F' L' v => ∃ (ra : Option Addr) (rn : Nat) (rc : Nat) (rL : LH), v = .tuple #[.slice ra rn rc, .int .i64 r2] ∧ L' = rL ++ [] ∧ SlR 0 3 1 (iE .i64) F' ra rn rc r rL := by
 refine spec_of_shW (args := [.agg #[.int .i64 houses, .int .i64 notices, .slice hears_a hears.length hears_c, .slice readings_a readings.length readings_c, .slice cries_a cries.length cries_c], .slice complaints_a complaints.length complaints_c]) Tryz.func10 rfl Tryz.ntmps10 (Nat.le_of_ble_eq_true rfl) ?_
 intro K _ _; rw [book_Fewest] at hr
 refine wsr ?_
 refine o_box rfl rfl ?_; intro b1 hb1
 refine oa rfl rfl (oa rfl rfl (nsr ?_))
 refine ov (v_loadA (cs := #[.int .i64 houses, .int .i64 notices, .slice hears_a hears.length hears_c, .slice readings_a readings.length readings_c, .slice cries_a cries.length cries_c]) Tryz.isAgg27 Tryz.sizeOf27 rfl (Has.own 0 rfl) (Nat.le_of_ble_eq_true rfl) rfl) rfl ?_
 refine om rfl rfl ?_
 obtain ⟨l, n, h2, r3⟩ := b2_ok hr; clear hr
 refine o_call0 rfl Tryz.call41 rfl rfl rfl (book_heard_w h_hears h_readings h_cries h_complaints h2) ?_; rintro _ F4 _ hF5 hn6 ⟨a8, n12, c9, Lb10, rfl, rfl, hz11⟩
 replace h_complaints := h_complaints.mono (prE_ok (iE_ok _) (prE_ok (iE_ok _) bE_ok)) hF5
 replace hz11 := hz11.new fun p hp => hn6 p (by simp [hp])
 refine shO_L (lp (ln rfl)) ?_
 refine kO (kf (fS fO) kr) ?_
 refine om rfl rfl (ox rfl rfl rfl (ox rfl rfl rfl (oa rfl rfl (oa rfl rfl (shO_nil (shW_seq (wsr (om rfl rfl ?_))))))))
 refine ov (v_neq rfl rfl) rfl ?_
 refine shO_nil ?_
 refine shW_condP rfl (fun c14 => ?_) (fun c14 => ?_)
 · have r15 := ite_t r3 c14; clear r3
   refine wsr (om rfl rfl (oa rfl rfl (oa rfl rfl (shO_nil ?_))))
   refine kW kn ?_
   refine shW_ret (andThen_ret ?_)
   refine q_res2 Tryz.results10 (res_tmp rfl) (res_tmp rfl) (sr) ?_
   obtain ⟨rfl, rfl⟩ := inj2 r15
   exact ⟨_, _, _, [], rfl, rfl, SlR.nil _ _ _ _ _⟩
 have r16 := ite_f r3 c14; clear r3
 refine shW_skip (wsr (om rfl rfl (om rfl rfl ?_)))
 obtain ⟨x, g17, hx18, r19⟩ := ix_ok r16; clear r16
 obtain ⟨b20, o21, c22, vs23, ha24, hs25, hle26, ⟨_, _, rfl, ⟨rfl, h29⟩, ⟨a30, c31, rfl, h32⟩⟩, hl27, hc28⟩ := SlR.at (prE_ok (arE_ok (n := 24) (sz := 1) cB_ok) (slE_ok (iE_ok _))) hz11 (L := (b1, .cells #[.int .i64 houses, .int .i64 notices, .slice hears_a hears.length hears_c, .slice readings_a readings.length readings_c, .slice cries_a cries.length cries_c] 27 (0, 0)) :: (Lb10 ++ [])) (fC fP) g17.1 hx18
 refine ov (v_indexO Tryz.underlying97 Tryz.sizeOf105 rfl ha24 rfl (SlR.idx hz11 g17)) rfl ?_
 refine ov (v_fieldAddr fa_105_0 rfl) rfl ?_
 refine ov (v_loadA (cs := arr cB x.1) Tryz.isAgg103 Tryz.sizeOf103 rfl hs25 (li_off hc28 hle26 hl27 (li_here (B := ([.slice a30 x.2.length c31] : List Value)) (lfl cB_ok h29))).2 (extract_cells (li_off hc28 hle26 hl27 (li_here (B := ([.slice a30 x.2.length c31] : List Value)) (lfl cB_ok h29))).2 (lfl cB_ok h29) (li_off hc28 hle26 hl27 (li_here (B := ([.slice a30 x.2.length c31] : List Value)) (lfl cB_ok h29))).1)) rfl ?_
 obtain ⟨l2, h33, r34⟩ := b1_ok r19; clear r19
 refine o_call0 rfl Tryz.call42 rfl rfl rfl (book_wrong_w h_complaints h29 h33) ?_; rintro _ F35 _ hF36 hn37 ⟨a39, n43, c40, Lb41, rfl, rfl, hz42⟩
 replace h_complaints := h_complaints.mono (prE_ok (iE_ok _) (prE_ok (iE_ok _) bE_ok)) hF36
 replace hz11 := hz11.mono (prE_ok (arE_ok (n := 24) (sz := 1) cB_ok) (slE_ok (iE_ok _))) hF36
 replace hz42 := hz42.new fun p hp => hn37 p (by simp [hp])
 refine shO_L (lp (ln rfl)) ?_
 refine kO (kf (fS fO) kr) ?_
 refine oa rfl rfl (shO_nil ?_)
 obtain ⟨best, h51, r52⟩ := b1_ok r34; clear r34
 refine shW_join (fun e1 F1 L1 => ∃ (a45 : Option Addr) (n49 : Nat) (c46 : Nat) (Lb47 : LH), FExt F35 F1 ∧ L1 = (Lb47 ++ []) ∧ e1.sub [(8, .slice a45 n49 c46)] ∧ SlR K.w0.heap.size 3 1 (iE .i64) F1 a45 n49 c46 best Lb47) ?_ ?_
 · clear r52
   refine wsr (om rfl rfl ?_)
   obtain ⟨g53, r54⟩ := gd_ok h51; clear h51
   obtain ⟨l3, h55, r56⟩ := bv_ok r54; clear r54
   refine o_sliceZ (l := 1) (h := (l.length : Int)) (zs := l3) rfl slt_97 (prE_ok (arE_ok (n := 24) (sz := 1) cB_ok) (slE_ok (iE_ok _))) rfl (.inr ⟨_, rfl, rfl⟩) (.inl ⟨rfl, rfl⟩) (fun _ => .c (.s .h)) hz11 g53 h55 ?_; intro a57 n60 c58 Lb61 h59
   refine ov ((v_lenS Tryz.underlying97 rfl).i (SlR.lenI h59)) rfl ?_
   refine om rfl rfl (shO_nil ?_)
   refine shW_block ?_
   refine kW (kd kr) ?_
   refine shW_lp (fun fu1 e1 F1 L1 => ∃ (tl : List ((List Bool) × (List Int))) (k : Int), tl.length = fu1 ∧ Lst l3 k tl ∧ ∃ (best2 : List Int) (a63 : Option Addr) (n67 : Nat) (c64 : Nat) (Lb65 : LH), book_Fewest_l1 complaints tl best2 = some best ∧ FExt F35 F1 ∧ L1 = (Lb65 ++ (Lb61 ++ [])) ∧ e1.sub [(1, .slice complaints_a complaints.length complaints_c), (8, .slice a63 n67 c64), (28, .slice a57 n60 c58), (29, .int .i64 (l3.length : Int)), (30, .int .i64 k)] ∧ SlR K.w0.heap.size 3 1 (iE .i64) F1 a63 n67 c64 best2 Lb65) _ (m0 kr ⟨_, _, rfl, Lst.start _, l2, a39, n43, c40, Lb41, r56, FExt.refl _, rfl, (sc rfl (sc rfl (sc rfl (sc rfl (sc rfl (sn _)))))), hz42⟩) ?_
   rintro fu1 e1 F73 _ ⟨tl, k, hn70, hk69, best2, a63, n67, c64, Lb65, r71, hF74, rfl, he72, hz66⟩
   refine shW_env _ he72 ?_; clear he72
   replace h_complaints := h_complaints.mono (prE_ok (iE_ok _) (prE_ok (iE_ok _) bE_ok)) hF74
   replace h59 := h59.mono (prE_ok (arE_ok (n := 24) (sz := 1) cB_ok) (slE_ok (iE_ok _))) hF74
   refine wsr ?_
   refine ov (v_lssK rfl rfl) rfl ?_
   refine shO_nil (shW_seq ?_)
   refine shW_condP rfl (fun c76 => ?_) (fun c76 => ?_)
   · obtain ⟨x2, tl2, rfl, hx78, g79, hk77⟩ := Lst.succ hk69 c76
     rw [book_Fewest_l1] at r71
     refine shW_skip (shW_seq ?_)
     refine shW_block ?_
     refine wsr ?_
     obtain ⟨b80, o81, c82, vs83, ha84, hs85, hle86, ⟨_, _, rfl, ⟨rfl, h89⟩, ⟨a90, c91, rfl, h92⟩⟩, hl87, hc88⟩ := SlR.at (prE_ok (arE_ok (n := 24) (sz := 1) cB_ok) (slE_ok (iE_ok _))) h59 (L := Lb65 ++ (Lb61 ++ [])) (fS fP) g79.1 hx78
     refine ov (v_indexO Tryz.underlying97 Tryz.sizeOf105 rfl ha84 rfl (SlR.idx h59 g79)) rfl ?_
     refine ov (v_loadA (cs := (x2.1.flatMap cB ++ (([.slice a90 x2.2.length c91] : List Value))).toArray) Tryz.isAgg105 Tryz.sizeOf105 rfl hs85 hle86 (extract_cells hle86 hl87 hc88)) rfl ?_
     refine o_alloc rfl Tryz.zeroValue105 ?_; intro b93 hb93
     refine shO_L (L' := (b93, .cells (((List.replicate 24 false).flatMap cB ++ (([.slice none 0 0] : List Value))).toArray) 105 (0, 0)) :: (Lb65 ++ (Lb61 ++ []))) rfl ?_
     refine o_storeW (i := 0) Tryz.sizeOf105 rfl rfl rfl (lz (la (lfl cB_ok List.length_replicate) rfl)) (lz (la (lfl cB_ok h89) rfl)) (oc_app (flat_one cB_ok _) (by simp [Value.oneCell'])) ?_
     refine shO_L (L' := (b93, .cells ((x2.1.flatMap cB ++ (([.slice a90 x2.2.length c91] : List Value))).toArray) 105 (0, 0)) :: (Lb65 ++ (Lb61 ++ []))) rfl ?_
     refine nsr (om rfl rfl ?_)
     refine ov (v_fieldAddr fa_105_0 rfl) rfl ?_
     refine ov (v_loadA (cs := arr cB x2.1) Tryz.isAgg103 Tryz.sizeOf103 rfl (Has.own 0 rfl) (li_le (li_here (B := ([.slice a90 x2.2.length c91] : List Value)) (lfl cB_ok h89))) (li_ext (lfl cB_ok h89) (li_here (B := ([.slice a90 x2.2.length c91] : List Value)) (lfl cB_ok h89)))) rfl ?_
     obtain ⟨l4, h94, r95⟩ := b1_ok r71; clear r71
     refine o_call0 rfl Tryz.call42 rfl rfl rfl (book_wrong_w h_complaints h89 h94) ?_; rintro _ F96 _ hF97 hn98 ⟨a100, n104, c101, Lb102, rfl, rfl, hz103⟩
     replace h59 := h59.mono (prE_ok (arE_ok (n := 24) (sz := 1) cB_ok) (slE_ok (iE_ok _))) hF97
     replace hz66 := hz66.mono (iE_ok _) hF97
     replace hz103 := hz103.new fun p hp => hn98 p (by simp [hp])
     refine shO_L (lp (ln rfl)) ?_
     refine kO (kf (fS fO) kr) ?_
     refine oa rfl rfl (shO_nil ?_)
     obtain ⟨k2, h106, r107⟩ := b1_ok r95; clear r95
     refine shW_join (fun e1 F1 L1 => F96 = F1 ∧ L1 = (Lb65 ++ (Lb102 ++ (Lb61 ++ []))) ∧ e1.sub [(1, .slice complaints_a complaints.length complaints_c), (8, .slice a63 n67 c64), (11, .slice a100 n104 c101), (28, .slice a57 n60 c58), (29, .int .i64 (l3.length : Int)), (30, .int .i64 k), (55, .bool k2)]) ?_ ?_
     · clear r107
       refine shW_region (om rfl rfl ?_)
       refine ov ((v_lenS Tryz.underlying24 rfl).i (SlR.lenI hz103)) rfl ?_
       refine om rfl rfl ?_
       refine ov ((v_lenS Tryz.underlying24 rfl).i (SlR.lenI hz66)) rfl ?_
       refine ov (v_lssK rfl rfl) rfl ?_
       refine om rfl rfl ?_
       by_cases c108 : (l4.length : Int) < (best2.length : Int)
       · have r109 := ite_t h106 c108; clear h106
         refine shO_off (b' := true) 43 rfl (Env.isT rfl c108) rfl rfl (shO_off (b' := true) 43 rfl (Env.isT rfl c108) rfl rfl (shO_off (b' := true) 43 rfl (Env.isT rfl c108) rfl rfl (shO_off (b' := true) 43 rfl (Env.isT rfl c108) rfl rfl (shO_off (b' := true) 43 rfl (Env.isT rfl c108) rfl rfl (shO_off (b' := true) 43 rfl (Env.isT rfl c108) rfl rfl (shO_offU 49 rfl rfl rfl (shO_offU 49 rfl rfl rfl (shO_offU 49 rfl rfl rfl (shO_offU 49 rfl rfl rfl ?_)))))))))
         refine shO_off (b' := true) 43 rfl (Env.isT rfl c108) rfl rfl ?_
         refine ov (v_pick_t (evD_true rfl c108) rfl) rfl ?_
         refine shO_nil ?_
         obtain rfl := inj1 r109
         exact mi (kd (kg (fS fP) kr)) ⟨rfl, rfl, (sc rfl (sc rfl (sc rfl (sc rfl (sc rfl (sc rfl (sc rfl (sn _))))))))⟩
       have r110 := ite_f h106 c108; clear h106
       refine shO_on (b := false) 43 rfl (Env.isF rfl c108) (om rfl rfl (shO_on (b := false) 43 rfl (Env.isF rfl c108) ?_))
       refine ov ((v_lenS Tryz.underlying24 rfl).i (SlR.lenI hz103)) rfl ?_
       refine shO_on (b := false) 43 rfl (Env.isF rfl c108) (om rfl rfl (shO_on (b := false) 43 rfl (Env.isF rfl c108) ?_))
       refine ov ((v_lenS Tryz.underlying24 rfl).i (SlR.lenI hz66)) rfl ?_
       refine shO_on (b := false) 43 rfl (Env.isF rfl c108) ?_
       refine ov (v_eql rfl rfl) rfl ?_
       refine shO_on (b := false) 43 rfl (Env.isF rfl c108) (om rfl rfl ?_)
       by_cases c111 : (l4.length : Int) = (best2.length : Int)
       · have r112 := ite_t r110 c111; clear r110
         refine shO_on (b := true) 49 rfl (Env.isT rfl c111) (om rfl rfl (shO_on (b := true) 49 rfl (Env.isT rfl c111) (om rfl rfl (shO_on (b := true) 49 rfl (Env.isT rfl c111) ?_))))
         obtain ⟨n2, h113, r114⟩ := b1_ok r112; clear r112
         refine o_callT (Lt := Lb102 ++ (Lb65 ++ [])) (Lr := (b93, .cells ((x2.1.flatMap cB ++ (([.slice a90 x2.2.length c91] : List Value))).toArray) 105 (0, 0)) :: (Lb61 ++ [])) rfl Tryz.call23 rfl rfl rfl (pT ((fC fP).trans (pA ((fC fP).trans (pA pR)))) (lp (lp (ln rfl)))) (fun F2 h2 h3 => by rw [(SlR.caps hz103).1]; rw [(SlR.caps hz66).1]; exact slices_Compare_int_int_w (hz103.row (iE_ok _) h2 (fun p hp => h3 p (List.mem_append_left _ hp))) (hz66.row (iE_ok _) h2 (fun p hp => h3 p (List.mem_append_right _ (List.mem_append_left _ hp)))) h113) ?_
         refine shO_on (b := true) 49 rfl (Env.isT rfl c111) ?_
         refine ov (v_lssK rfl rfl) rfl ?_
         refine shO_on (b := false) 43 rfl (Env.isF rfl c108) ?_
         refine ov (v_pick_t (evD_true rfl c111) rfl) rfl ?_
         refine ov (v_pick_f (evD_false rfl c108) rfl) rfl ?_
         refine shO_nil ?_
         obtain rfl := inj1 r114
         exact mi (kd (kg (fS fP) kr)) ⟨rfl, rfl, (sc rfl (sc rfl (sc rfl (sc rfl (sc rfl (sc rfl (sc rfl (sn _))))))))⟩
       have r115 := ite_f r110 c111; clear r110
       refine shO_off (b' := false) 49 rfl (Env.isF rfl c111) rfl rfl (shO_off (b' := false) 49 rfl (Env.isF rfl c111) rfl rfl (shO_off (b' := false) 49 rfl (Env.isF rfl c111) rfl rfl (shO_off (b' := false) 49 rfl (Env.isF rfl c111) rfl rfl (shO_on (b := false) 43 rfl (Env.isF rfl c108) ?_))))
       refine ov (v_pick_f (evD_false rfl c111) rfl) rfl ?_
       refine ov (v_pick_f (evD_false rfl c108) rfl) rfl ?_
       refine shO_nil ?_
       obtain rfl := inj1 r115
       exact mi (kd (kg (fS fP) kr)) ⟨rfl, rfl, (sc rfl (sc rfl (sc rfl (sc rfl (sc rfl (sc rfl (sc rfl (sn _))))))))⟩
     rintro e1 _ _ ⟨rfl, rfl, he116⟩
     refine shW_env _ he116 ?_; clear he116
     refine shW_cond rfl (fun c117 => ?_) (fun c117 => ?_)
     · have r118 := bt r107 c117; clear r107
       refine shW_region (om rfl rfl (oa rfl rfl (shO_nil (inBlock_n (id := 1) (shW_region ?_)))))
       refine ov (v_add rfl rfl (Lst.r64 hk69 c76 (SlR.llt h59))) rfl ?_
       refine om rfl rfl (shO_nil ?_)
       subst hn70; exact le (kx kr) ⟨_, _, rfl, hk77, l4, a100, n104, c101, Lb102, r118, (hF74.trans hF97), rfl, (sc rfl (sc rfl (sc rfl (sc rfl (sc rfl (sn _)))))), hz103⟩
     have r119 := bf r107 c117; clear r107
     refine shW_skip (inBlock_n (id := 1) (shW_region ?_))
     refine ov (v_add rfl rfl (Lst.r64 hk69 c76 (SlR.llt h59))) rfl ?_
     refine om rfl rfl (shO_nil ?_)
     subst hn70; exact le (ka (kx kr)) ⟨_, _, rfl, hk77, best2, a63, n67, c64, Lb65, r119, (hF74.trans hF97), rfl, (sc rfl (sc rfl (sc rfl (sc rfl (sc rfl (sn _)))))), hz66⟩
   obtain rfl := Lst.zero hk69 c76
   rw [book_Fewest_l1] at r71
   refine shW_exit (andThen_exit (andThen_exit ?_))
   refine inBlock_exit ?_
   obtain rfl := inj1 r71
   exact mi (ka kn) ⟨a63, n67, c64, Lb65, hF74, rfl, (sc rfl (sn _)), hz66⟩
 rintro e1 F121 _ ⟨a45, n49, c46, Lb47, hF122, rfl, he120, hz48⟩
 refine shW_env _ he120 ?_; clear he120
 refine wsr (om rfl rfl (oa rfl rfl (oa rfl rfl (shO_nil (shW_ret ?_)))))
 refine q_res2 Tryz.results10 (res_tmp rfl) (res_tmp rfl) (sr) ?_
 obtain ⟨rfl, rfl⟩ := inj2 r52
 exact ⟨_, _, _, _, rfl, rfl, hz48.any⟩
set_option maxHeartbeats 1000000 in
theorem book_goal_find_w {met_f : FuncId} {met_1 : Array Value} {met_2 : Array Value} {met : (List Bool) → Option Bool} {l_a : Option Addr} {l_c : Nat} {l : List ((List Bool) × (List Int))} {F : FS} (h_met : FnR Tryz.prog F met_f met_1 met_2 (agE (arE 24 cB)) Value.bool met) (h_l : RowR 25 (prE (arE 24 cB) (slE 1 (iE .i64))) F l_a l_c l) {r : List Int} (hr : book_goal_find met l = some r) :
    SH.Spec Tryz.prog 48 #[.agg #[.func (.func met_f) met_1 met_2], .slice l_a l.length l_c] F [] fun F' L' v => ∃ (ra : Option Addr) (rc : Nat), v = .slice ra r.length rc ∧ L' = [] ∧ RowR 1 (iE .i64) F' ra rc r ∧ (ra = none ↔ r = []) := by
 refine spec_of_shW (args := [.agg #[.func (.func met_f) met_1 met_2], .slice l_a l.length l_c]) Tryz.func48 rfl Tryz.ntmps48 (Nat.le_of_ble_eq_true rfl) ?_
 intro K _ _; rw [book_goal_find] at hr
 refine wsr ?_
 refine o_box rfl rfl ?_; intro b1 hb1
 refine oa rfl rfl (shO_nil ?_)
 refine shW_join (fun e1 F1 L1 => book_goal_find_j1 = some r ∧ F = F1 ∧ L1 = [] ∧ e1.sub []) ?_ ?_
 · refine wsr (om rfl rfl ?_)
   refine ov (v_lenS Tryz.underlying97 rfl) rfl ?_
   refine om rfl rfl (shO_nil ?_)
   refine shW_block ?_
   refine shW_lp (fun fu2 e1 F1 L1 => ∃ (tl : List ((List Bool) × (List Int))) (k : Int), tl.length = fu2 ∧ Lst l k tl ∧ book_goal_find_l2 met tl = some r ∧ F = F1 ∧ L1 = [(b1, .cells #[.func (.func met_f) met_1 met_2] 110 (0, 0))] ∧ e1.sub [(2, .pointer (some ⟨b1, 0, none⟩)), (7, .slice l_a l.length l_c), (8, .int .i64 (l.length : Int)), (9, .int .i64 k)]) _ (m0 kr ⟨_, _, rfl, Lst.start _, hr, rfl, rfl, (sc rfl (sc rfl (sc rfl (sc rfl (sn _)))))⟩) ?_
   rintro fu2 e1 _ _ ⟨tl, k, hn3, hk2, r4, rfl, rfl, he5⟩
   refine shW_env _ he5 ?_; clear he5
   refine wsr ?_
   refine ov (v_lssK rfl rfl) rfl ?_
   refine shO_nil (shW_seq ?_)
   refine shW_condP rfl (fun c7 => ?_) (fun c7 => ?_)
   · obtain ⟨x, tl2, rfl, hx9, g10, hk8⟩ := Lst.succ hk2 c7
     rw [book_goal_find_l2] at r4
     refine shW_skip (shW_seq ?_)
     refine shW_block ?_
     refine wsr ?_
     obtain ⟨b11, o12, c13, vs14, ha15, hs16, hle17, ⟨_, _, rfl, ⟨rfl, h20⟩, ⟨a21, c22, rfl, h23⟩⟩, hl18, hc19⟩ := RowR.at (prE_ok (arE_ok (n := 24) (sz := 1) cB_ok) (slE_ok (iE_ok _))) h_l ([(b1, .cells #[.func (.func met_f) met_1 met_2] 110 (0, 0))]) g10.1 hx9
     refine ov (v_indexO Tryz.underlying97 Tryz.sizeOf105 rfl ha15 rfl g10) rfl ?_
     refine ov (v_loadA (cs := (x.1.flatMap cB ++ (([.slice a21 x.2.length c22] : List Value))).toArray) Tryz.isAgg105 Tryz.sizeOf105 rfl hs16 hle17 (extract_cells hle17 hl18 hc19)) rfl ?_
     refine o_alloc rfl Tryz.zeroValue105 ?_; intro b24 hb24
     refine shO_L (L' := [(b24, .cells (((List.replicate 24 false).flatMap cB ++ (([.slice none 0 0] : List Value))).toArray) 105 (0, 0)), (b1, .cells #[.func (.func met_f) met_1 met_2] 110 (0, 0))]) rfl ?_
     refine o_storeW (i := 0) Tryz.sizeOf105 rfl rfl rfl (lz (la (lfl cB_ok List.length_replicate) rfl)) (lz (la (lfl cB_ok h20) rfl)) (oc_app (flat_one cB_ok _) (by simp [Value.oneCell'])) ?_
     refine shO_L (L' := [(b24, .cells ((x.1.flatMap cB ++ (([.slice a21 x.2.length c22] : List Value))).toArray) 105 (0, 0)), (b1, .cells #[.func (.func met_f) met_1 met_2] 110 (0, 0))]) rfl ?_
     refine nsr ?_
     refine ov (v_fieldAddr fa_110_0 rfl) rfl ?_
     refine ov (v_load Tryz.isAgg108 rfl (Has.own 1 rfl) rfl) rfl ?_
     refine ov (v_fieldAddr fa_105_0 rfl) rfl ?_
     refine ov (v_loadA (cs := arr cB x.1) Tryz.isAgg103 Tryz.sizeOf103 rfl (Has.own 0 rfl) (li_le (li_here (B := ([.slice a21 x.2.length c22] : List Value)) (lfl cB_ok h20))) (li_ext (lfl cB_ok h20) (li_here (B := ([.slice a21 x.2.length c22] : List Value)) (lfl cB_ok h20)))) rfl ?_
     obtain ⟨ok, h25, r26⟩ := b1_ok r4; clear r4
     refine o_callV rfl h_met.1 rfl rfl rfl (h_met.2 _ (FExt.refl _) _ _ _ ⟨_, rfl, ⟨rfl, h20⟩⟩ h25) ?_
     refine shO_nil ?_
     refine shW_cond rfl (fun c27 => ?_) (fun c27 => ?_)
     · have r28 := bt r26 c27; clear r26
       refine wsr ?_
       refine ov (v_fieldAddr fa_105_1 rfl) rfl ?_
       refine ov (v_load Tryz.isAgg24 rfl (Has.own 0 rfl) (li_cell (li_skip (A := x.1.flatMap cB) (k := 24) (o := 0) (lfl cB_ok h20) (li_end rfl)))) rfl ?_
       refine oa rfl rfl (shO_nil ?_)
       obtain ⟨g29, r30⟩ := gd_ok r28; clear r28
       refine kW kn ?_
       refine shW_ret (inBlock_ret (andThen_ret (andThen_ret (inBlock_ret (andThen_ret ?_)))))
       refine q_res1 Tryz.results48 (res_tmp rfl) (sr) ?_
       obtain rfl := inj1 r30
       exact ⟨_, _, rfl, rfl, h23, RowR.nn h23 g29⟩
     have r31 := bf r26 c27; clear r26
     refine shW_skip (inBlock_n (id := 1) (shW_region ?_))
     refine ov (v_add rfl rfl (Lst.r64 hk2 c7 (RowR.lt h_l))) rfl ?_
     refine om rfl rfl (shO_nil ?_)
     subst hn3; exact le (kd kr) ⟨_, _, rfl, hk8, r31, rfl, rfl, (sc rfl (sc rfl (sc rfl (sc rfl (sn _)))))⟩
   obtain rfl := Lst.zero hk2 c7
   rw [book_goal_find_l2] at r4
   refine shW_exit (andThen_exit (andThen_exit ?_))
   refine inBlock_exit ?_
   exact mi kn ⟨r4, rfl, rfl, (sn _)⟩
 rintro e1 _ _ ⟨r32, rfl, rfl, he33⟩
 refine shW_env _ he33 ?_; clear he33
 rw [book_goal_find_j1] at r32
 refine wsr (oa rfl rfl (shO_nil (shW_ret ?_)))
 refine q_res1 Tryz.results48 (res_tmp rfl) (sr) ?_
 obtain rfl := inj1 r32
 exact ⟨_, _, rfl, rfl, RowR.nil _ _ _, nilq_nil⟩
set_option maxHeartbeats 1000000 in
theorem book_Together_1_w {g : List Bool} {b_complaints : Nat} {complaints_a : Option Addr} {complaints_c : Nat} {complaints : List (Int × Int × Bool)} {mb_complaints : Nat × Nat} {F : FS} (h_g : g.length = 24) (hb_complaints : F b_complaints = some (.cells #[.slice complaints_a complaints.length complaints_c] 32 mb_complaints)) (h_complaints : RowR 3 (prE (iE .i64) (prE (iE .i64) bE)) F complaints_a complaints_c complaints) {r : Bool} (hr : book_Together_1 g complaints = some r) :
    SpecV Tryz.prog 52 #[.agg (arr cB g), .pointer (some ⟨b_complaints, 0, none⟩)] F (.bool r) := by
 refine spec_of_shW (args := [.agg (arr cB g), .pointer (some ⟨b_complaints, 0, none⟩)]) Tryz.func52 rfl Tryz.ntmps52 (Nat.le_of_ble_eq_true rfl) ?_
 intro K _ _; rw [book_Together_1] at hr
 refine wsr ?_
 refine o_box rfl rfl ?_; intro b1 hb1
 refine oa rfl rfl (nsr ?_)
 refine ov (v_load Tryz.isAgg32 rfl (Has.frozen hb_complaints) rfl) rfl ?_
 refine ov (v_loadW Tryz.isAgg103 Tryz.sizeOf103 rfl (Has.own 0 rfl) (arr_sz cB_ok h_g)) rfl ?_
 obtain ⟨l, h2, r3⟩ := b1_ok hr; clear hr
 refine o_call0 rfl Tryz.call42 rfl rfl rfl (book_wrong_w h_complaints h_g h2) ?_; rintro _ F4 _ hF5 hn6 ⟨a8, n12, c9, Lb10, rfl, rfl, hz11⟩
 replace hz11 := hz11.new fun p hp => hn6 p (by simp [hp])
 refine shO_L (lp (ln rfl)) ?_
 refine kO (kf (fS fO) kr) ?_
 refine ov ((v_lenS Tryz.underlying24 rfl).i (SlR.lenI hz11)) rfl ?_
 refine ov (v_eql rfl rfl) rfl ?_
 refine oa rfl rfl (shO_nil ?_)
 refine kW kn ?_
 refine shW_ret ?_
 refine q_res1 Tryz.results52 (res_tmp rfl) (sr) ?_
 obtain rfl := inj1 r3
 exact rfl
set_option maxHeartbeats 1000000 in
theorem book_Together_w {houses : Int} {notices : Int} {hears_a : Option Addr} {hears_c : Nat} {hears : List (List (List Int))} {readings_a : Option Addr} {readings_c : Nat} {readings : List Int} {cries_a : Option Addr} {cries_c : Nat} {cries : List (Int × Int × Int)} {complaints_a : Option Addr} {complaints_c : Nat} {complaints : List (Int × Int × Bool)} {F : FS} (h_hears : RowR 1 (slE 1 (slE 1 (iE .i64))) F hears_a hears_c hears) (h_readings : RowR 1 (iE .i64) F readings_a readings_c readings) (h_cries : RowR 3 (prE (iE .i64) (prE (iE .i64) (iE .i64))) F cries_a cries_c cries) (h_complaints : RowR 3 (prE (iE .i64) (prE (iE .i64) bE)) F complaints_a complaints_c complaints) {r : List Int} {r2 : Int} (hr : book_Together houses notices hears readings cries complaints = some (r, r2)) :
    SH.Spec Tryz.prog 12 #[.agg #[.int .i64 houses, .int .i64 notices, .slice hears_a hears.length hears_c, .slice readings_a readings.length readings_c, .slice cries_a cries.length cries_c], .slice complaints_a complaints.length complaints_c] F [] fun F' L' v => ∃ (ra : Option Addr) (rc : Nat), v = .tuple #[.slice ra r.length rc, .int .i64 r2] ∧ L' = [] ∧ RowR 1 (iE .i64) F' ra rc r := by
 refine spec_of_shW (args := [.agg #[.int .i64 houses, .int .i64 notices, .slice hears_a hears.length hears_c, .slice readings_a readings.length readings_c, .slice cries_a cries.length cries_c], .slice complaints_a complaints.length complaints_c]) Tryz.func12 rfl Tryz.ntmps12 (Nat.le_of_ble_eq_true rfl) ?_
 intro K _ _; rw [book_Together] at hr
 refine wsr ?_
 refine o_box rfl rfl ?_; intro b1 hb1
 refine o_box rfl rfl ?_; intro b2 hb2
 refine oa rfl rfl (oa rfl rfl (nsr ?_))
 refine ov (v_loadA (cs := #[.int .i64 houses, .int .i64 notices, .slice hears_a hears.length hears_c, .slice readings_a readings.length readings_c, .slice cries_a cries.length cries_c]) Tryz.isAgg27 Tryz.sizeOf27 rfl (Has.own 1 rfl) (Nat.le_of_ble_eq_true rfl) rfl) rfl ?_
 refine ov (v_load Tryz.isAgg32 rfl (Has.own 0 rfl) rfl) rfl ?_
 obtain ⟨l, n, h3, r4⟩ := b2_ok hr; clear hr
 refine o_call0 rfl Tryz.call41 rfl rfl rfl (book_heard_w h_hears h_readings h_cries h_complaints h3) ?_; rintro _ F5 _ hF6 hn7 ⟨a9, n13, c10, Lb11, rfl, rfl, hz12⟩
 replace h_complaints := h_complaints.mono (prE_ok (iE_ok _) (prE_ok (iE_ok _) bE_ok)) hF6
 replace hz12 := hz12.new fun p hp => hn7 p (by simp [hp])
 refine shO_L (lp (ln rfl)) ?_
 refine kO (kf (fS fO) (kf (fS fO) kr)) ?_
 refine om rfl rfl (ox rfl rfl rfl (ox rfl rfl rfl (oa rfl rfl (oa rfl rfl (shO_nil (shW_seq (wsr (om rfl rfl ?_))))))))
 refine ov (v_neq rfl rfl) rfl ?_
 refine shO_nil ?_
 refine shW_condP rfl (fun c15 => ?_) (fun c15 => ?_)
 · have r16 := ite_t r4 c15; clear r4
   refine wsr (om rfl rfl (oa rfl rfl (oa rfl rfl (shO_nil ?_))))
   refine kW kn ?_
   refine shW_ret (andThen_ret ?_)
   refine q_res2 Tryz.results12 (res_tmp rfl) (res_tmp rfl) (sr) ?_
   obtain ⟨rfl, rfl⟩ := inj2 r16
   exact ⟨_, _, rfl, rfl, RowR.nil _ _ _⟩
 have r17 := ite_f r4 c15; clear r4
 refine shW_skip (wsr ?_)
 refine ov (v_makeFunc rfl rfl) rfl ?_
 refine ov (v_build (v := .agg (#[.func (.func 52) #[] #[.pointer (some ⟨b2, 0, none⟩)]])) rfl (by intro w; kernel_rfl)) rfl ?_
 refine om rfl rfl ?_
 refine shO_freeze 0 rfl hb2 ?_; intro F18 hF19 hz20
 refine shO_L (L' := (b1, .cells #[.int .i64 houses, .int .i64 notices, .slice hears_a hears.length hears_c, .slice readings_a readings.length readings_c, .slice cries_a cries.length cries_c] 27 (0, 0)) :: (Lb11 ++ [])) rfl ?_
 replace h_complaints := h_complaints.mono (prE_ok (iE_ok _) (prE_ok (iE_ok _) bE_ok)) hF19
 replace hz12 := hz12.mono (prE_ok (arE_ok (n := 24) (sz := 1) cB_ok) (slE_ok (iE_ok _))) hF19
 have hn22 : FnR Tryz.prog F18 52 #[] #[.pointer (some ⟨b2, 0, none⟩)] (agE (arE 24 cB)) Value.bool (fun xx_ : (List Bool) => book_Together_1 xx_ complaints) := ⟨Tryz.call52, fun F2 h2 vs xx_ r ha hr => by obtain ⟨_, rfl, ⟨rfl, h21⟩⟩ := ha; exact book_Together_1_w h21 (h2 _ _ hz20) (h_complaints.mono (prE_ok (iE_ok _) (prE_ok (iE_ok _) bE_ok)) h2) hr⟩
 obtain rfl := (SlR.caps hz12).1
 refine shO_freezeR (Nat.le_refl _) (prE_ok (arE_ok (n := 24) (sz := 1) cB_ok) (slE_ok (iE_ok _))) (fC fP) hz12 ?_; intro F23 hF24 h25
 replace hn22 := hn22.mono hF24
 obtain ⟨l2, h26, r27⟩ := b1_ok r17; clear r17
 refine o_call0 rfl Tryz.call48 rfl rfl rfl (book_goal_find_w hn22 h25 h26) ?_; rintro _ F28 _ hF29 hn30 ⟨a32, c33, rfl, rfl, h34, hq35⟩
 refine shO_L (ln rfl) ?_
 refine oa rfl rfl (shO_nil (shW_seq (wsr (om rfl rfl ?_))))
 refine ov ((v_eqlNil Tryz.underlying24 rfl).b (nilq_dec hq35)) rfl ?_
 refine shO_nil ?_
 refine shW_condP rfl (fun c36 => ?_) (fun c36 => ?_)
 · have r37 := ite_t r27 c36; clear r27
   refine wsr (oa rfl rfl (oa rfl rfl (shO_nil ?_)))
   refine kW kn ?_
   refine shW_ret (andThen_ret ?_)
   refine q_res2 Tryz.results12 (res_tmp rfl) (res_tmp rfl) (sr) ?_
   obtain ⟨rfl, rfl⟩ := inj2 r37
   exact ⟨_, _, rfl, rfl, RowR.nil _ _ _⟩
 have r38 := ite_f r27 c36; clear r27
 refine shW_skip (wsr (om rfl rfl (oa rfl rfl (oa rfl rfl (shO_nil ?_)))))
 refine kW kn ?_
 refine shW_ret ?_
 refine q_res2 Tryz.results12 (res_tmp rfl) (res_tmp rfl) (sr) ?_
 obtain ⟨rfl, rfl⟩ := inj2 r38
 exact ⟨_, _, rfl, rfl, h34⟩
set_option maxHeartbeats 1000000 in
theorem book_Witness_w {houses : Int} {notices : Int} {hears_a : Option Addr} {hears_c : Nat} {hears : List (List (List Int))} {readings_a : Option Addr} {readings_c : Nat} {readings : List Int} {cries_a : Option Addr} {cries_c : Nat} {cries : List (Int × Int × Int)} {house : Int} {notice : Int} {heard : Bool} {F : FS} (h_hears : RowR 1 (slE 1 (slE 1 (iE .i64))) F hears_a hears_c hears) (h_readings : RowR 1 (iE .i64) F readings_a readings_c readings) (h_cries : RowR 3 (prE (iE .i64) (prE (iE .i64) (iE .i64))) F cries_a cries_c cries) {r : List Int} {r2 : Int} (hr : book_Witness houses notices hears readings cries house notice heard = some (r, r2)) :
    SH.Spec Tryz.prog 62 #[.agg #[.int .i64 houses, .int .i64 notices, .slice hears_a hears.length hears_c, .slice readings_a readings.length readings_c, .slice cries_a cries.length cries_c], .agg #[.int .i64 house, .int .i64 notice, .bool heard]] F [] fun F' L' v => ∃ (ra : Option Addr) (rc : Nat), v = .tuple #[.slice ra r.length rc, .int .i64 r2] ∧ L' = [] ∧ RowR 1 (iE .i64) F' ra rc r := by
 refine spec_of_shW (args := [.agg #[.int .i64 houses, .int .i64 notices, .slice hears_a hears.length hears_c, .slice readings_a readings.length readings_c, .slice cries_a cries.length cries_c], .agg #[.int .i64 house, .int .i64 notice, .bool heard]]) Tryz.func62 rfl Tryz.ntmps62 (Nat.le_of_ble_eq_true rfl) ?_
 intro K _ _; rw [book_Witness] at hr
 refine wsr ?_
 refine o_box rfl rfl ?_; intro b1 hb1
 refine o_box rfl rfl ?_; intro b2 hb2
 refine oa rfl rfl (oa rfl rfl (nsr ?_))
 refine ov (v_loadA (cs := #[.int .i64 houses, .int .i64 notices, .slice hears_a hears.length hears_c, .slice readings_a readings.length readings_c, .slice cries_a cries.length cries_c]) Tryz.isAgg27 Tryz.sizeOf27 rfl (Has.own 1 rfl) (Nat.le_of_ble_eq_true rfl) rfl) rfl ?_
 refine ov (v_loadA (cs := #[.int .i64 house, .int .i64 notice, .bool heard]) Tryz.isAgg36 Tryz.sizeOf36 rfl (Has.own 0 rfl) (Nat.le_of_ble_eq_true rfl) rfl) rfl ?_
 refine o_buildSlice (cs := #[.int .i64 house, .int .i64 notice, .bool heard]) rfl rfl (buildSlice_all slt_32 [.agg #[.int .i64 house, .int .i64 notice, .bool heard]] rfl (by decide) (by simp [Value.cells]) (by decide)) ?_; intro b3 hb3
 refine shO_freeze 0 rfl hb3 ?_; intro F4 hF5 hz6
 refine shO_L (L' := [(b2, .cells #[.int .i64 house, .int .i64 notice, .bool heard] 36 (0, 0)), (b1, .cells #[.int .i64 houses, .int .i64 notices, .slice hears_a hears.length hears_c, .slice readings_a readings.length readings_c, .slice cries_a cries.length cries_c] 27 (0, 0))]) rfl ?_
 replace h_hears := h_hears.mono (slE_ok (slE_ok (iE_ok _))) hF5
 replace h_readings := h_readings.mono (iE_ok _) hF5
 replace h_cries := h_cries.mono (prE_ok (iE_ok _) (prE_ok (iE_ok _) (iE_ok _))) hF5
 have h7 : RowR 3 (prE (iE .i64) (prE (iE .i64) bE)) F4 (some ⟨b3, 0, none⟩) 1 [(house, notice, heard)] := RowR.of_block (prE_ok (iE_ok _) (prE_ok (iE_ok _) bE_ok)) (vss := [[.int .i64 house, .int .i64 notice, .bool heard]]) (xs := [(house, notice, heard)]) hz6 (.cons ⟨_, _, rfl, rfl, ⟨_, _, rfl, rfl, rfl⟩⟩ .nil) rfl (by simp [maxLen])
 obtain ⟨l, n, h8, r9⟩ := b2_ok hr; clear hr
 refine o_call0 rfl Tryz.call12 rfl rfl rfl (book_Together_w h_hears h_readings h_cries h7 h8) ?_; rintro _ F10 _ hF11 hn12 ⟨a14, c15, rfl, rfl, h16⟩
 refine shO_L (ln rfl) ?_
 refine ox rfl rfl rfl (ox rfl rfl rfl (oa rfl rfl (oa rfl rfl (shO_nil ?_))))
 refine kW kn ?_
 refine shW_ret ?_
 refine q_res2 Tryz.results62 (res_tmp rfl) (res_tmp rfl) (sr) ?_
 obtain ⟨rfl, rfl⟩ := inj2 r9
 exact ⟨_, _, rfl, rfl, h16⟩
set_option maxHeartbeats 1000000 in
theorem book_Refuted_w {houses : Int} {notices : Int} {hears_a : Option Addr} {hears_c : Nat} {hears : List (List (List Int))} {readings_a : Option Addr} {readings_c : Nat} {readings : List Int} {cries_a : Option Addr} {cries_c : Nat} {cries : List (Int × Int × Int)} {house : Int} {notice : Int} {heard : Bool} {F : FS} (h_hears : RowR 1 (slE 1 (slE 1 (iE .i64))) F hears_a hears_c hears) (h_readings : RowR 1 (iE .i64) F readings_a readings_c readings) (h_cries : RowR 3 (prE (iE .i64) (prE (iE .i64) (iE .i64))) F cries_a cries_c cries) {r : Bool} {r2 : Int} (hr : book_Refuted houses notices hears readings cries house notice heard = some (r, r2)) :
    SpecV Tryz.prog 21 #[.agg #[.int .i64 houses, .int .i64 notices, .slice hears_a hears.length hears_c, .slice readings_a readings.length readings_c, .slice cries_a cries.length cries_c], .agg #[.int .i64 house, .int .i64 notice, .bool heard]] F (.tuple #[.bool r, .int .i64 r2]) := by
 refine spec_of_shW (args := [.agg #[.int .i64 houses, .int .i64 notices, .slice hears_a hears.length hears_c, .slice readings_a readings.length readings_c, .slice cries_a cries.length cries_c], .agg #[.int .i64 house, .int .i64 notice, .bool heard]]) Tryz.func21 rfl Tryz.ntmps21 (Nat.le_of_ble_eq_true rfl) ?_
 intro K _ _; rw [book_Refuted] at hr
 refine wsr ?_
 refine o_box rfl rfl ?_; intro b1 hb1
 refine o_box rfl rfl ?_; intro b2 hb2
 refine oa rfl rfl (oa rfl rfl (nsr ?_))
 refine ov (v_loadA (cs := #[.int .i64 houses, .int .i64 notices, .slice hears_a hears.length hears_c, .slice readings_a readings.length readings_c, .slice cries_a cries.length cries_c]) Tryz.isAgg27 Tryz.sizeOf27 rfl (Has.own 1 rfl) (Nat.le_of_ble_eq_true rfl) rfl) rfl ?_
 refine ov (v_loadA (cs := #[.int .i64 house, .int .i64 notice, .bool heard]) Tryz.isAgg36 Tryz.sizeOf36 rfl (Has.own 0 rfl) (Nat.le_of_ble_eq_true rfl) rfl) rfl ?_
 obtain ⟨l, n, h3, r4⟩ := b2_ok hr; clear hr
 refine o_call0 rfl Tryz.call62 rfl rfl rfl (book_Witness_w h_hears h_readings h_cries h3) ?_; rintro _ F5 _ hF6 hn7 ⟨a9, c10, rfl, rfl, h11⟩
 refine shO_L (ln rfl) ?_
 refine om rfl rfl (ox rfl rfl rfl (ox rfl rfl rfl (oa rfl rfl (oa rfl rfl (shO_nil (shW_seq (wsr (om rfl rfl (shO_nil ?_)))))))))
 refine shW_block ?_
 refine wsr ?_
 refine ov (v_eql rfl rfl) rfl ?_
 refine oa rfl rfl (shO_nil ?_)
 refine shW_condP rfl (fun c12 => ?_) (fun c12 => ?_)
 · have r13 := ite_t r4 c12; clear r4
   refine wsr (oa rfl rfl (oa rfl rfl (shO_nil ?_)))
   refine kW kn ?_
   refine shW_ret (inBlock_ret (andThen_ret ?_))
   refine q_res2 Tryz.results21 (res_tmp rfl) (res_tmp rfl) (sr) ?_
   obtain ⟨rfl, rfl⟩ := inj2 r13
   exact rfl
 have r14 := ite_f r4 c12; clear r4
 refine wsr ?_
 refine ov (v_eql rfl rfl) rfl ?_
 refine oa rfl rfl (shO_nil ?_)
 refine shW_condP rfl (fun c15 => ?_) (fun c15 => ?_)
 · have r16 := ite_t r14 c15; clear r14
   refine wsr (oa rfl rfl (oa rfl rfl (shO_nil ?_)))
   refine kW kn ?_
   refine shW_ret (inBlock_ret (andThen_ret ?_))
   refine q_res2 Tryz.results21 (res_tmp rfl) (res_tmp rfl) (sr) ?_
   obtain ⟨rfl, rfl⟩ := inj2 r16
   exact rfl
 have r17 := ite_f r14 c15; clear r14
 refine shW_skip (inBlock_n (id := 0) (wsr (om rfl rfl (oa rfl rfl (oa rfl rfl (shO_nil ?_))))))
 refine kW kn ?_
 refine shW_ret ?_
 refine q_res2 Tryz.results21 (res_tmp rfl) (res_tmp rfl) (sr) ?_
 obtain ⟨rfl, rfl⟩ := inj2 r17
 exact rfl
set_option maxHeartbeats 1000000 in
theorem book_Verdicts_w {houses : Int} {notices : Int} {hears_a : Option Addr} {hears_c : Nat} {hears : List (List (List Int))} {readings_a : Option Addr} {readings_c : Nat} {readings : List Int} {cries_a : Option Addr} {cries_c : Nat} {cries : List (Int × Int × Int)} {F : FS} (h_hears : RowR 1 (slE 1 (slE 1 (iE .i64))) F hears_a hears_c hears) (h_readings : RowR 1 (iE .i64) F readings_a readings_c readings) (h_cries : RowR 3 (prE (iE .i64) (prE (iE .i64) (iE .i64))) F cries_a cries_c cries) {r : List (List Int)} {r2 : Int} (hr : book_Verdicts houses notices hears readings cries = some (r, r2)) :
    SH.Spec Tryz.prog 29 #[.agg #[.int .i64 houses, .int .i64 notices, .slice hears_a hears.length hears_c, .slice readings_a readings.length readings_c, .slice cries_a cries.length cries_c]] F [] fun F' L' v => ∃ (ra : Option Addr) (rc : Nat), v = .tuple #[.slice ra r.length rc, .int .i64 r2] ∧ L' = [] ∧ RowR 1 (slE 1 (iE .i64)) F' ra rc r := by
 refine spec_of_shW (args := [.agg #[.int .i64 houses, .int .i64 notices, .slice hears_a hears.length hears_c, .slice readings_a readings.length readings_c, .slice cries_a cries.length cries_c]]) Tryz.func29 rfl Tryz.ntmps29 (Nat.le_of_ble_eq_true rfl) ?_
 intro K _ _; rw [book_Verdicts] at hr
 refine wsr ?_
 refine o_box rfl rfl ?_; intro b1 hb1
 refine oa rfl rfl (oa rfl rfl (nsr ?_))
 refine ov (v_loadA (cs := #[.int .i64 houses, .int .i64 notices, .slice hears_a hears.length hears_c, .slice readings_a readings.length readings_c, .slice cries_a cries.length cries_c]) Tryz.isAgg27 Tryz.sizeOf27 rfl (Has.own 0 rfl) (Nat.le_of_ble_eq_true rfl) rfl) rfl ?_
 obtain ⟨d, l, n, h2, r3⟩ := b3_ok hr; clear hr
 refine o_call0 rfl Tryz.call76 rfl rfl rfl (book_told_w h_hears h_readings h_cries h2) ?_; rintro _ F4 _ hF5 hn6 ⟨v8, a10, n14, c11, Lb12, rfl, rfl, hp9, hz13⟩
 replace hz13 := hz13.new fun p hp => hn6 p (by simp [hp])
 refine shO_L (lp (ln rfl)) ?_
 refine kO (kf (fS fO) kr) ?_
 refine om rfl rfl (ox rfl rfl rfl (ox rfl rfl rfl (ox rfl rfl rfl (oa rfl rfl (oa rfl rfl (oa rfl rfl (shO_nil (shW_seq (wsr ?_)))))))))
 refine om rfl rfl ?_
 refine ov (v_neq rfl rfl) rfl ?_
 refine shO_nil ?_
 refine shW_condP rfl (fun c16 => ?_) (fun c16 => ?_)
 · have r17 := ite_t r3 c16; clear r3
   refine wsr (om rfl rfl (oa rfl rfl (oa rfl rfl (shO_nil ?_))))
   refine kW kn ?_
   refine shW_ret (andThen_ret ?_)
   refine q_res2 Tryz.results29 (res_tmp rfl) (res_tmp rfl) (sr) ?_
   obtain ⟨rfl, rfl⟩ := inj2 r17
   exact ⟨_, _, rfl, rfl, RowR.nil _ _ _⟩
 have r18 := ite_f r3 c16; clear r3
 refine shW_skip (wsr ?_)
 refine ov (v_fieldAddr fa_27_0 rfl) rfl ?_
 refine ov (v_load Tryz.isAgg3 rfl (Has.own 0 rfl) rfl) rfl ?_
 obtain ⟨g19, r20⟩ := gd_ok r18; clear r18
 obtain ⟨l2, h21, r22⟩ := bv_ok r20; clear r20
 refine o_makeZ (R := hdE) (z0 := (none, 0, 0)) (zs := List.replicate (houses : Int).toNat (none, 0, 0)) rfl slt_68 (by decide) hdE_ok (fun _ => rfl) rfl g19 rfl (fun _ => .c .n) ?_; intro a23 n26 Lb24 hO27
 have hz25 : NlR K.w0.heap.size 71 72 1 (iE .i64) F4 a23 n26 n26 l2 Lb24 := NlR.made hO27 h21
 refine oa rfl rfl (shO_nil ?_)
 obtain ⟨out, h31, r32⟩ := b1_ok r22; clear r22
 refine shW_join (fun e1 F1 L1 => ∃ (Lb29 : LH), F4 = F1 ∧ L1 = (Lb29 ++ []) ∧ e1.sub [(7, .slice a23 n26 n26)] ∧ NlR K.w0.heap.size 71 72 1 (iE .i64) F1 a23 n26 n26 out Lb29) ?_ ?_
 · clear r32
   refine wsr (om rfl rfl ?_)
   refine ov ((v_lenS Tryz.underlying68 rfl).i (NlR.lenI hz25)) rfl ?_
   refine om rfl rfl (shO_nil ?_)
   refine shW_block ?_
   obtain ⟨g35, r36⟩ := gd_ok h31; clear h31
   refine shW_lp (fun fu1 e1 F1 L1 => ∃ (k : Int), Ctr 0 (l2.length : Int) k fu1 ∧ ∃ (out2 : List (List Int)) (Lb33 : LH), book_Verdicts_l1 notices l fu1 k out2 = some out ∧ F4 = F1 ∧ L1 = ((b1, .cells #[.int .i64 houses, .int .i64 notices, .slice hears_a hears.length hears_c, .slice readings_a readings.length readings_c, .slice cries_a cries.length cries_c] 27 (0, 0)) :: (Lb12 ++ (Lb33 ++ []))) ∧ e1.sub [(1, .pointer (some ⟨b1, 0, none⟩)), (5, .slice a10 n14 c11), (7, .slice a23 n26 n26), (27, .int .i64 (l2.length : Int)), (28, .int .i64 k)] ∧ NlR K.w0.heap.size 71 72 1 (iE .i64) F1 a23 n26 n26 out2 Lb33) _ (m0 (kc (kg (fS fP) kr)) ⟨_, Ctr.start _ _, l2, Lb24, r36, rfl, rfl, (sc rfl (sc rfl (sc rfl (sc rfl (sc rfl (sn _)))))), hz25⟩) ?_
   rintro fu1 e1 _ _ ⟨k, hk37, out2, Lb33, r39, rfl, rfl, he40, hz34⟩
   refine shW_env _ he40 ?_; clear he40
   refine wsr ?_
   refine ov (v_lssK rfl rfl) rfl ?_
   refine shO_nil (shW_seq ?_)
   refine shW_condP rfl (fun c42 => ?_) (fun c42 => ?_)
   · obtain ⟨fu1, rfl, hk43⟩ := Ctr.succ hk37 c42
     rw [book_Verdicts_l1] at r39
     refine shW_skip ?_
     obtain ⟨out3, h46, r47⟩ := b1_ok r39; clear r39
     refine shW_join (fun e1 F1 L1 => ∃ (Lb44 : LH), F4 = F1 ∧ L1 = ((b1, .cells #[.int .i64 houses, .int .i64 notices, .slice hears_a hears.length hears_c, .slice readings_a readings.length readings_c, .slice cries_a cries.length cries_c] 27 (0, 0)) :: (Lb12 ++ (Lb44 ++ []))) ∧ e1.sub [(1, .pointer (some ⟨b1, 0, none⟩)), (5, .slice a10 n14 c11), (7, .slice a23 n26 n26), (27, .int .i64 (l2.length : Int)), (28, .int .i64 k)] ∧ NlR K.w0.heap.size 71 72 1 (iE .i64) F1 a23 n26 n26 out3 Lb44) ?_ ?_
     · clear r47
       refine shW_block ?_
       refine wsr (om rfl rfl (oa rfl rfl (nsr ?_)))
       refine ov (v_fieldAddr fa_27_1 rfl) rfl ?_
       refine ov (v_load Tryz.isAgg3 rfl (Has.own 0 rfl) rfl) rfl ?_
       refine om rfl rfl (shO_nil ?_)
       refine shW_block ?_
       obtain ⟨g50, r51⟩ := gd_ok h46; clear h46
       refine shW_lp (fun fu2 e1 F1 L1 => ∃ (k2 : Int), Ctr 0 notices k2 fu2 ∧ ∃ (out4 : List (List Int)) (Lb48 : LH), book_Verdicts_l2 l k fu2 k2 out4 = some out3 ∧ F4 = F1 ∧ L1 = ((b1, .cells #[.int .i64 houses, .int .i64 notices, .slice hears_a hears.length hears_c, .slice readings_a readings.length readings_c, .slice cries_a cries.length cries_c] 27 (0, 0)) :: (Lb12 ++ (Lb48 ++ []))) ∧ e1.sub [(1, .pointer (some ⟨b1, 0, none⟩)), (5, .slice a10 n14 c11), (7, .slice a23 n26 n26), (8, .int .i64 k), (27, .int .i64 (l2.length : Int)), (28, .int .i64 k), (32, .int .i64 notices), (33, .int .i64 k2)] ∧ NlR K.w0.heap.size 71 72 1 (iE .i64) F1 a23 n26 n26 out4 Lb48) _ (m0 kr ⟨_, Ctr.start _ _, out2, Lb33, r51, rfl, rfl, (sc rfl (sc rfl (sc rfl (sc rfl (sc rfl (sc rfl (sc rfl (sc rfl (sn _))))))))), hz34⟩) ?_
       rintro fu2 e1 _ _ ⟨k2, hk52, out4, Lb48, r54, rfl, rfl, he55, hz49⟩
       refine shW_env _ he55 ?_; clear he55
       refine wsr ?_
       refine ov (v_lssK rfl rfl) rfl ?_
       refine shO_nil (shW_seq ?_)
       refine shW_condP rfl (fun c57 => ?_) (fun c57 => ?_)
       · obtain ⟨fu2, rfl, hk58⟩ := Ctr.succ hk52 c57
         rw [book_Verdicts_l2] at r54
         refine shW_skip ?_
         obtain ⟨out5, h61, r62⟩ := b1_ok r54; clear r54
         refine shW_join (fun e1 F1 L1 => ∃ (Lb59 : LH), F4 = F1 ∧ L1 = ((b1, .cells #[.int .i64 houses, .int .i64 notices, .slice hears_a hears.length hears_c, .slice readings_a readings.length readings_c, .slice cries_a cries.length cries_c] 27 (0, 0)) :: (Lb12 ++ (Lb59 ++ []))) ∧ e1.sub [(1, .pointer (some ⟨b1, 0, none⟩)), (5, .slice a10 n14 c11), (7, .slice a23 n26 n26), (8, .int .i64 k), (27, .int .i64 (l2.length : Int)), (28, .int .i64 k), (32, .int .i64 notices), (33, .int .i64 k2)] ∧ NlR K.w0.heap.size 71 72 1 (iE .i64) F1 a23 n26 n26 out5 Lb59) ?_ ?_
         · clear r62
           refine shW_block ?_
           refine wsr (om rfl rfl (oa rfl rfl (nsr (oa rfl rfl (shO_nil ?_)))))
           obtain ⟨many, h63, r64⟩ := b1_ok h61; clear h61
           refine shW_join (fun e1 F1 L1 => F4 = F1 ∧ L1 = ((b1, .cells #[.int .i64 houses, .int .i64 notices, .slice hears_a hears.length hears_c, .slice readings_a readings.length readings_c, .slice cries_a cries.length cries_c] 27 (0, 0)) :: (Lb12 ++ (Lb48 ++ []))) ∧ e1.sub [(1, .pointer (some ⟨b1, 0, none⟩)), (5, .slice a10 n14 c11), (7, .slice a23 n26 n26), (8, .int .i64 k), (10, .int .i64 many), (27, .int .i64 (l2.length : Int)), (28, .int .i64 k), (32, .int .i64 notices), (33, .int .i64 k2)]) ?_ ?_
           · clear r64
             refine wsr (om rfl rfl ?_)
             refine ov ((v_lenS Tryz.underlying97 rfl).i (SlR.lenI hz13)) rfl ?_
             refine om rfl rfl (shO_nil ?_)
             refine shW_block ?_
             refine shW_lp (fun fu3 e1 F1 L1 => ∃ (tl : List ((List Bool) × (List Int))) (k3 : Int), tl.length = fu3 ∧ Lst l k3 tl ∧ ∃ (many2 : Int), book_Verdicts_l3 k k2 tl many2 = some many ∧ F4 = F1 ∧ L1 = ((b1, .cells #[.int .i64 houses, .int .i64 notices, .slice hears_a hears.length hears_c, .slice readings_a readings.length readings_c, .slice cries_a cries.length cries_c] 27 (0, 0)) :: (Lb12 ++ (Lb48 ++ []))) ∧ e1.sub [(1, .pointer (some ⟨b1, 0, none⟩)), (5, .slice a10 n14 c11), (7, .slice a23 n26 n26), (8, .int .i64 k), (9, .int .i64 k2), (10, .int .i64 many2), (27, .int .i64 (l2.length : Int)), (28, .int .i64 k), (32, .int .i64 notices), (33, .int .i64 k2), (36, .slice a10 n14 c11), (37, .int .i64 (l.length : Int)), (38, .int .i64 k3)]) _ (m0 kr ⟨_, _, rfl, Lst.start _, 0, h63, rfl, rfl, (sc rfl (sc rfl (sc rfl (sc rfl (sc rfl (sc rfl (sc rfl (sc rfl (sc rfl (sc rfl (sc rfl (sc rfl (sc rfl (sn _))))))))))))))⟩) ?_
             rintro fu3 e1 _ _ ⟨tl, k3, hn66, hk65, many2, r67, rfl, rfl, he68⟩
             refine shW_env _ he68 ?_; clear he68
             refine wsr ?_
             refine ov (v_lssK rfl rfl) rfl ?_
             refine shO_nil (shW_seq ?_)
             refine shW_condP rfl (fun c70 => ?_) (fun c70 => ?_)
             · obtain ⟨x, tl2, rfl, hx72, g73, hk71⟩ := Lst.succ hk65 c70
               rw [book_Verdicts_l3] at r67
               refine shW_skip (shW_seq ?_)
               refine shW_block ?_
               refine wsr ?_
               obtain ⟨b74, o75, c76, vs77, ha78, hs79, hle80, ⟨_, _, rfl, ⟨rfl, h83⟩, ⟨a84, c85, rfl, h86⟩⟩, hl81, hc82⟩ := SlR.at (prE_ok (arE_ok (n := 24) (sz := 1) cB_ok) (slE_ok (iE_ok _))) hz13 (L := (b1, .cells #[.int .i64 houses, .int .i64 notices, .slice hears_a hears.length hears_c, .slice readings_a readings.length readings_c, .slice cries_a cries.length cries_c] 27 (0, 0)) :: (Lb12 ++ (Lb48 ++ []))) (fC fP) g73.1 hx72
               refine ov (v_indexO Tryz.underlying97 Tryz.sizeOf105 rfl ha78 rfl (SlR.idx hz13 g73)) rfl ?_
               refine ov (v_loadA (cs := (x.1.flatMap cB ++ (([.slice a84 x.2.length c85] : List Value))).toArray) Tryz.isAgg105 Tryz.sizeOf105 rfl hs79 hle80 (extract_cells hle80 hl81 hc82)) rfl ?_
               refine o_alloc rfl Tryz.zeroValue105 ?_; intro b87 hb87
               refine shO_L (L' := (b87, .cells (((List.replicate 24 false).flatMap cB ++ (([.slice none 0 0] : List Value))).toArray) 105 (0, 0)) :: ((b1, .cells #[.int .i64 houses, .int .i64 notices, .slice hears_a hears.length hears_c, .slice readings_a readings.length readings_c, .slice cries_a cries.length cries_c] 27 (0, 0)) :: (Lb12 ++ (Lb48 ++ [])))) rfl ?_
               refine o_storeW (i := 0) Tryz.sizeOf105 rfl rfl rfl (lz (la (lfl cB_ok List.length_replicate) rfl)) (lz (la (lfl cB_ok h83) rfl)) (oc_app (flat_one cB_ok _) (by simp [Value.oneCell'])) ?_
               refine shO_L (L' := (b87, .cells ((x.1.flatMap cB ++ (([.slice a84 x.2.length c85] : List Value))).toArray) 105 (0, 0)) :: ((b1, .cells #[.int .i64 houses, .int .i64 notices, .slice hears_a hears.length hears_c, .slice readings_a readings.length readings_c, .slice cries_a cries.length cries_c] 27 (0, 0)) :: (Lb12 ++ (Lb48 ++ [])))) rfl ?_
               refine nsr (om rfl rfl (om rfl rfl ?_))
               refine ov (v_fieldAddr fa_105_0 rfl) rfl ?_
               obtain ⟨g88, r89⟩ := gd_ok r67; clear r67
               refine ov (v_indexA Tryz.underlying103 Tryz.sizeOf101 rfl rfl g88) rfl ?_
               obtain ⟨g90, r91⟩ := gd_ok r89; clear r89
               obtain ⟨x2, g92, hx93, r94⟩ := ix_ok r91; clear r91
               have hq96 : (k * 4 + k2 : Int).toNat = (k : Int).toNat * 4 + (k2 : Int).toNat := by have := g88; have := g90; omega
               have hc95 := el_at2 cB_ok h83 hq96 hx93 (li_arr (li_here (B := ([.slice a84 x.2.length c85] : List Value)) (lfl cB_ok h83))) (li_le (li_here (B := ([.slice a84 x.2.length c85] : List Value)) (lfl cB_ok h83)))
               refine ov (v_indexA Tryz.underlying101 Tryz.sizeOf4 rfl rfl g90) rfl ?_
               refine ov (v_load Tryz.isAgg4 rfl (Has.own 0 rfl) ((hc95).2.2 0 (by decide))) rfl ?_
               refine shO_nil ?_
               refine shW_cond rfl (fun c97 => ?_) (fun c97 => ?_)
               · have r98 := bt r94 c97; clear r94
                 refine shW_region (om rfl rfl ?_)
                 obtain ⟨g99, r100⟩ := gd_ok r98; clear r98
                 refine ov (v_add rfl rfl g99) rfl ?_
                 refine oa rfl rfl (shO_nil (inBlock_n (id := 5) (shW_region ?_)))
                 refine ov (v_add rfl rfl (Lst.r64 hk65 c70 (SlR.llt hz13))) rfl ?_
                 refine om rfl rfl (shO_nil ?_)
                 subst hn66; exact le (kd kr) ⟨_, _, rfl, hk71, many2 + 1, r100, rfl, rfl, (sc rfl (sc rfl (sc rfl (sc rfl (sc rfl (sc rfl (sc rfl (sc rfl (sc rfl (sc rfl (sc rfl (sc rfl (sc rfl (sn _))))))))))))))⟩
               have r101 := bf r94 c97; clear r94
               refine shW_skip (inBlock_n (id := 5) (shW_region ?_))
               refine ov (v_add rfl rfl (Lst.r64 hk65 c70 (SlR.llt hz13))) rfl ?_
               refine om rfl rfl (shO_nil ?_)
               subst hn66; exact le (kd kr) ⟨_, _, rfl, hk71, many2, r101, rfl, rfl, (sc rfl (sc rfl (sc rfl (sc rfl (sc rfl (sc rfl (sc rfl (sc rfl (sc rfl (sc rfl (sc rfl (sc rfl (sc rfl (sn _))))))))))))))⟩
             obtain rfl := Lst.zero hk65 c70
             rw [book_Verdicts_l3] at r67
             refine shW_exit (andThen_exit (andThen_exit ?_))
             refine inBlock_exit ?_
             obtain rfl := inj1 r67
             exact mi kr ⟨rfl, rfl, (sc rfl (sc rfl (sc rfl (sc rfl (sc rfl (sc rfl (sc rfl (sc rfl (sc rfl (sn _))))))))))⟩
           rintro e1 _ _ ⟨rfl, rfl, he102⟩
           refine shW_env _ he102 ?_; clear he102
           refine wsr (oa rfl rfl (shO_nil ?_))
           obtain ⟨v, h103, r104⟩ := b1_ok r64; clear r64
           refine shW_join (fun e1 F1 L1 => F4 = F1 ∧ L1 = ((b1, .cells #[.int .i64 houses, .int .i64 notices, .slice hears_a hears.length hears_c, .slice readings_a readings.length readings_c, .slice cries_a cries.length cries_c] 27 (0, 0)) :: (Lb12 ++ (Lb48 ++ []))) ∧ e1.sub [(1, .pointer (some ⟨b1, 0, none⟩)), (5, .slice a10 n14 c11), (7, .slice a23 n26 n26), (8, .int .i64 k), (13, .int .i64 v), (27, .int .i64 (l2.length : Int)), (28, .int .i64 k), (32, .int .i64 notices), (33, .int .i64 k2)]) ?_ ?_
           · clear r104
             refine wsr (om rfl rfl (shO_nil ?_))
             refine shW_block ?_
             refine wsr (om rfl rfl ?_)
             refine ov ((v_lenS Tryz.underlying97 rfl).i (SlR.lenI hz13)) rfl ?_
             refine ov (v_eql rfl rfl) rfl ?_
             refine oa rfl rfl (shO_nil ?_)
             refine shW_condP rfl (fun c105 => ?_) (fun c105 => ?_)
             · have r106 := ite_t h103 c105; clear h103
               refine shW_region (oa rfl rfl (shO_nil (inBlock_n (id := 6) ?_)))
               obtain rfl := inj1 r106
               exact mi kr ⟨rfl, rfl, (sc rfl (sc rfl (sc rfl (sc rfl (sc rfl (sc rfl (sc rfl (sc rfl (sc rfl (sn _))))))))))⟩
             have r107 := ite_f h103 c105; clear h103
             refine wsr ?_
             refine ov (v_eql rfl rfl) rfl ?_
             refine oa rfl rfl (shO_nil ?_)
             refine shW_condP rfl (fun c108 => ?_) (fun c108 => ?_)
             · have r109 := ite_t r107 c108; clear r107
               refine shW_region (oa rfl rfl (shO_nil (inBlock_n (id := 6) ?_)))
               obtain rfl := inj1 r109
               exact mi kr ⟨rfl, rfl, (sc rfl (sc rfl (sc rfl (sc rfl (sc rfl (sc rfl (sc rfl (sc rfl (sc rfl (sn _))))))))))⟩
             have r110 := ite_f r107 c108; clear r107
             refine shW_skip (inBlock_n (id := 6) ?_)
             obtain rfl := inj1 r110
             exact mi kr ⟨rfl, rfl, (sc rfl (sc rfl (sc rfl (sc rfl (sc rfl (sc rfl (sc rfl (sc rfl (sc rfl (sn _))))))))))⟩
           rintro e1 _ _ ⟨rfl, rfl, he111⟩
           refine shW_env _ he111 ?_; clear he111
           refine shW_region (om rfl rfl (om rfl rfl (om rfl rfl (om rfl rfl ?_))))
           obtain ⟨x3, g112, hx113, r114⟩ := ix_ok r104; clear r104
           have hn126 := (NlR.caps hz49).1
           refine shO_open (fC (fS fP)) hz49 hx113 ?_; intro hs115 Lo116 Lc117 a118 n119 c120 Lb121 hh122 hO123 hz124 hI125
           refine kO (kf (fS (fS (fS fO))) kr) ?_
           obtain ⟨b128, o129, c130, vs131, ha132, hs133, hle134, rfl, hl135, hc136⟩ := SlR.at hdE_ok hO123 (L := (b1, .cells #[.int .i64 houses, .int .i64 notices, .slice hears_a hears.length hears_c, .slice readings_a readings.length readings_c, .slice cries_a cries.length cries_c] 27 (0, 0)) :: (Lo116 ++ (Lb121 ++ (Lc117 ++ (Lb12 ++ []))))) (fC fP) g112.1 hh122
           refine ov (v_indexO Tryz.underlying68 Tryz.sizeOf71 rfl ha132 rfl (idxN hn126 g112)) rfl ?_
           refine ov (v_load Tryz.isAgg71 rfl hs133 (hc136 0 (by decide))) rfl ?_
           refine om rfl rfl ?_
           refine o_buildSlice (cs := #[.int .i64 v]) rfl rfl (buildSlice_all slt_71 [.int .i64 v] rfl (by decide) (by simp [Value.cells]) (by decide)) ?_; intro b137 hb137
           obtain ⟨l3, h138, g139, r140⟩ := ap_ok r114; clear r114
           refine o_appZ (xs := x3) (ys := [v]) (zs := l3) rfl slt_71 rfl rfl (Nat.le_refl _) (fun _ => .c (.c (.s .h))) hz124 (SrcR.box (vss := [[.int .i64 v]]) (ys := [v]) 0 rfl (iE_ok _) (.cons rfl .nil) rfl rfl) h138 g139 (by decide) ?_; intro a141 n145 c142 Lb143 hz144
           refine kO (kd kr) ?_
           obtain ⟨b147, o148, c149, vs150, ha151, hs152, hle153, rfl, hl154, hc155⟩ := SlR.at hdE_ok hO123 (L := (b1, .cells #[.int .i64 houses, .int .i64 notices, .slice hears_a hears.length hears_c, .slice readings_a readings.length readings_c, .slice cries_a cries.length cries_c] 27 (0, 0)) :: (Lo116 ++ (Lb143 ++ (Lc117 ++ (Lb12 ++ []))))) (fC fP) g112.1 hh122
           refine ov (v_indexO Tryz.underlying68 Tryz.sizeOf71 rfl ha151 rfl (idxN hn126 g112)) rfl ?_
           refine o_storeZ (zs := hs115.set (k : Int).toNat (a141, n145, c142)) (u := (a141, n145, c142)) Tryz.sizeOf71 hdE_ok rfl ha151 rfl rfl (fun _ => .c .h) hO123 rfl (idxH hn126 hO123 g112) ?_; intro Lo156 hO157
           obtain ⟨out6, h158, r159⟩ := bv_ok r140; clear r140
           refine shO_fold (p := fun X => NlR K.w0.heap.size 71 72 1 (iE .i64) F4 a23 n26 n26 out6 X) (InH.back hI125 hO157 hz144 h158) (pT ((fC fP).trans (pA ((fC fP).trans (pA ((fC fP).trans (pA pR)))))) (lp (lp (lp (ln rfl))))) ?_; intro Lb160 hz161
           refine kO (kf (fS fO) kr) ?_
           refine shO_nil (inBlock_n (id := 3) ?_)
           obtain rfl := inj1 r159
           exact mi (kc (kg (fS fP) kr)) ⟨Lb160, rfl, rfl, (sc rfl (sc rfl (sc rfl (sc rfl (sc rfl (sc rfl (sc rfl (sc rfl (sn _))))))))), hz161⟩
         rintro e1 _ _ ⟨Lb59, rfl, rfl, he162, hz60⟩
         refine shW_env _ he162 ?_; clear he162
         refine shW_region ?_
         refine ov (v_add rfl rfl (Ctr.r64 hk52 c57 g50)) rfl ?_
         refine om rfl rfl (shO_nil ?_)
         exact le kr ⟨_, hk58, out5, Lb59, r62, rfl, rfl, (sc rfl (sc rfl (sc rfl (sc rfl (sc rfl (sc rfl (sc rfl (sc rfl (sn _))))))))), hz60⟩
       obtain rfl := Ctr.zero hk52 c57
       rw [book_Verdicts_l2] at r54
       refine shW_exit (andThen_exit (andThen_exit ?_))
       refine inBlock_exit ?_
       refine inBlock_n (id := 1) ?_
       obtain rfl := inj1 r54
       exact mi kr ⟨Lb48, rfl, rfl, (sc rfl (sc rfl (sc rfl (sc rfl (sc rfl (sn _)))))), hz49⟩
     rintro e1 _ _ ⟨Lb44, rfl, rfl, he163, hz45⟩
     refine shW_env _ he163 ?_; clear he163
     refine shW_region ?_
     refine ov (v_add rfl rfl (Ctr.r64 hk37 c42 g35)) rfl ?_
     refine om rfl rfl (shO_nil ?_)
     exact le kr ⟨_, hk43, out3, Lb44, r47, rfl, rfl, (sc rfl (sc rfl (sc rfl (sc rfl (sc rfl (sn _)))))), hz45⟩
   obtain rfl := Ctr.zero hk37 c42
   rw [book_Verdicts_l1] at r39
   refine shW_exit (andThen_exit (andThen_exit ?_))
   refine inBlock_exit ?_
   obtain rfl := inj1 r39
   exact mi (kd (kx kr)) ⟨Lb33, rfl, rfl, (sc rfl (sn _)), hz34⟩
 rintro e1 _ _ ⟨Lb29, rfl, rfl, he164, hz30⟩
 refine shW_env _ he164 ?_; clear he164
 refine wsr (om rfl rfl (oa rfl rfl (oa rfl rfl (shO_nil ?_))))
 obtain rfl := (NlR.caps hz30).1
 refine shW_freezeN (Nat.le_refl _) (iE_ok _) fP hz30 ?_; intro F165 hF166 h167
 refine shW_ret ?_
 refine q_res2 Tryz.results29 (res_tmp rfl) (res_tmp rfl) (sr) ?_
 obtain ⟨rfl, rfl⟩ := inj2 r32
 exact ⟨_, _, rfl, rfl, h167⟩
end Go.Proofs.YtodhcoakjlmcdaaGreat
