/- The walks that this claim needs, printed by a program of mine; part 1. -/
import Derived.Test.YtjgeaaganpkceaaZjTf
import Derived.Test.YtjgeaaganpkceaaZjTd
namespace Go.Proofs.Ytjgeaaganpkceaa
open Go.SH Go.PL
set_option maxHeartbeats 1000000 in
theorem oyezkit_Bell_ring_w {b_b : Nat} {metal_a : Option Addr} {metal_c : Nat} {metal : List Int} {at_ : Int} {turn : Int} {F : FS} (h_metal : RowR 1 (iE .u8) F metal_a metal_c metal) {r : Int} {r2 : Int} {r3 : Int} (hr : oyezkit_Bell_ring metal at_ turn = some (r, r2, r3)) :
    SH.Spec Try.prog 71 #[.pointer (some ⟨b_b, 0, none⟩)] F [(b_b, .cells #[.slice metal_a metal.length metal_c, .int .i64 at_, .int .u32 turn] 104 (0, 0))] fun _ L' v => v = .int .i64 r ∧ L' = [(b_b, .cells #[.slice metal_a metal.length metal_c, .int .i64 r2, .int .u32 r3] 104 (0, 0))] := by
 refine spec_of_shW (args := [.pointer (some ⟨b_b, 0, none⟩)]) Try.func71 rfl Try.ntmps71 (Nat.le_of_ble_eq_true rfl) ?_
 intro K _ _; rw [oyezkit_Bell_ring] at hr
 refine wsr (oa rfl rfl (shO_nil ?_))
 obtain ⟨b_at, b_turn, h1, r4⟩ := b2_ok hr; clear hr
 refine shW_join (fun e1 F1 L1 => F = F1 ∧ L1 = [(b_b, .cells #[.slice metal_a metal.length metal_c, .int .i64 b_at, .int .u32 b_turn] 104 (0, 0))] ∧ e1.sub [(0, .pointer (some ⟨b_b, 0, none⟩))]) ?_ ?_
 · clear r4
   refine wsd (by kernel_rfl) (by kernel_rfl) (by kernel_rfl) ?_
   refine qm rfl rfl ?_
   refine qv (v_nilCheck rfl) rfl ?_
   refine qv (v_fieldAddr fa_104_1 rfl) rfl ?_
   refine qv (v_load Try.isAgg3 rfl (Has.own 0 rfl) rfl) rfl ?_
   refine qm rfl rfl ?_
   refine qv (v_nilCheck rfl) rfl ?_
   refine qv (v_fieldAddr fa_104_0 rfl) rfl ?_
   refine qv (v_load Try.isAgg22 rfl (Has.own 0 rfl) rfl) rfl ?_
   refine qv (v_lenS Try.underlying22 rfl) rfl ?_
   refine qv (v_eql rfl rfl) rfl ?_
   refine shQ_nil ?_
   refine shW_condP rfl (fun c5 => ?_) (fun c5 => ?_)
   · have r6 := ite_t h1 c5; clear h1
     refine shW_region (om rfl rfl (om rfl rfl (om rfl rfl ?_)))
     refine ov (v_nilCheck rfl) rfl ?_
     refine ov (v_fieldAddr fa_104_2 rfl) rfl ?_
     refine ov (v_load Try.isAgg102 rfl (Has.own 0 rfl) rfl) rfl ?_
     refine ov (u_add rfl rfl rfl) rfl ?_
     refine ov (v_nilCheck rfl) rfl ?_
     refine ov (v_fieldAddr fa_104_1 rfl) rfl ?_
     refine o_store (i := 0) Try.sizeOf3 rfl rfl rfl rfl (Nat.le_of_ble_eq_true rfl) ?_
     refine shO_L (L' := [(b_b, .cells #[.slice metal_a metal.length metal_c, .int .i64 0, .int .u32 turn] 104 (0, 0))]) rfl ?_
     refine ov (v_nilCheck rfl) rfl ?_
     refine ov (v_fieldAddr fa_104_2 rfl) rfl ?_
     refine o_store (i := 0) Try.sizeOf102 rfl rfl rfl rfl (Nat.le_of_ble_eq_true rfl) ?_
     refine shO_L (L' := [(b_b, .cells #[.slice metal_a metal.length metal_c, .int .i64 0, .int .u32 ((turn + 1) % 4294967296)] 104 (0, 0))]) rfl ?_
     refine shO_nil ?_
     obtain ⟨rfl, rfl⟩ := inj2 r6
     exact mi kr ⟨rfl, rfl, (sc rfl (sn _))⟩
   have r7 := ite_f h1 c5; clear h1
   refine shW_skip ?_
   obtain ⟨rfl, rfl⟩ := inj2 r7
   exact mi kr ⟨rfl, rfl, (sc rfl (sn _))⟩
 rintro e1 _ _ ⟨rfl, rfl, he8⟩
 refine shW_env _ he8 ?_; clear he8
 refine wsr (om rfl rfl ?_)
 refine ov (v_nilCheck rfl) rfl ?_
 refine ov (v_fieldAddr fa_104_2 rfl) rfl ?_
 refine ov (v_load Try.isAgg102 rfl (Has.own 0 rfl) rfl) rfl ?_
 refine ov (u_mul rfl rfl rfl) rfl ?_
 obtain ⟨n, h9, r10⟩ := bv_ok r4; clear r4
 refine ov ((v_assign rfl).i h9) rfl ?_
 refine shO_nil ?_
 obtain ⟨n2, b_at2, h11, r12⟩ := b2_ok r10; clear r10
 refine shW_join (fun e1 F1 L1 => F = F1 ∧ L1 = [(b_b, .cells #[.slice metal_a metal.length metal_c, .int .i64 b_at2, .int .u32 b_turn] 104 (0, 0))] ∧ e1.sub [(3, .int .u32 n2)]) ?_ ?_
 · clear r12
   refine wsr (om rfl rfl ?_)
   refine ov (v_nilCheck rfl) rfl ?_
   refine ov (v_fieldAddr fa_104_0 rfl) rfl ?_
   refine ov (v_load Try.isAgg22 rfl (Has.own 0 rfl) rfl) rfl ?_
   refine ov (v_lenS Try.underlying22 rfl) rfl ?_
   refine ov (v_gtrK rfl rfl) rfl ?_
   refine shO_nil ?_
   refine shW_condP rfl (fun c13 => ?_) (fun c13 => ?_)
   · have r14 := ite_t h11 c13; clear h11
     refine wsd (by kernel_rfl) (by kernel_rfl) (by kernel_rfl) ?_
     refine qm rfl rfl (qm rfl rfl ?_)
     refine qv (v_nilCheck rfl) rfl ?_
     refine qv (v_fieldAddr fa_104_0 rfl) rfl ?_
     refine qv (v_load Try.isAgg22 rfl (Has.own 0 rfl) rfl) rfl ?_
     refine qm rfl rfl ?_
     refine qv (v_nilCheck rfl) rfl ?_
     refine qv (v_fieldAddr fa_104_1 rfl) rfl ?_
     refine qv (v_load Try.isAgg3 rfl (Has.own 0 rfl) rfl) rfl ?_
     obtain ⟨x, g15, hx16, r17⟩ := ix_ok r14; clear r14
     obtain ⟨b18, o19, c20, vs21, ha22, hs23, hle24, rfl, hl25, hc26⟩ := RowR.at (iE_ok _) h_metal ([(b_b, .cells #[.slice metal_a metal.length metal_c, .int .i64 b_at, .int .u32 b_turn] 104 (0, 0))]) g15.1 hx16
     refine qv (v_indexO Try.underlying22 Try.sizeOf5 rfl ha22 rfl g15) rfl ?_
     refine qv (v_load Try.isAgg5 rfl hs23 (hc26 0 (by decide))) rfl ?_
     refine qv (u_conv rfl Try.underlying5 Try.underlying102 rfl) rfl ?_
     refine qv (u_mul rfl rfl rfl) rfl ?_
     refine qv (u_add rfl rfl rfl) rfl ?_
     obtain ⟨n3, h27, r28⟩ := bv_ok r17; clear r17
     refine qv ((v_assign rfl).i h27) rfl ?_
     refine shQ_nil (shW_region (om rfl rfl ?_))
     refine ov (v_nilCheck rfl) rfl ?_
     refine ov (v_fieldAddr fa_104_1 rfl) rfl ?_
     refine ov (v_load Try.isAgg3 rfl (Has.own 0 rfl) rfl) rfl ?_
     obtain ⟨g29, r30⟩ := gd_ok r28; clear r28
     refine ov (v_add rfl rfl g29) rfl ?_
     refine ov (v_nilCheck rfl) rfl ?_
     refine ov (v_fieldAddr fa_104_1 rfl) rfl ?_
     refine o_store (i := 0) Try.sizeOf3 rfl rfl rfl rfl (Nat.le_of_ble_eq_true rfl) ?_
     refine shO_L (L' := [(b_b, .cells #[.slice metal_a metal.length metal_c, .int .i64 (b_at + 1), .int .u32 b_turn] 104 (0, 0))]) rfl ?_
     refine shO_nil ?_
     obtain ⟨rfl, rfl⟩ := inj2 r30
     exact mi kr ⟨rfl, rfl, (sc rfl (sn _))⟩
   have r31 := ite_f h11 c13; clear h11
   refine shW_skip ?_
   obtain ⟨rfl, rfl⟩ := inj2 r31
   exact mi kr ⟨rfl, rfl, (sc rfl (sn _))⟩
 rintro e1 _ _ ⟨rfl, rfl, he32⟩
 refine shW_env _ he32 ?_; clear he32
 refine wsr (om rfl rfl (om rfl rfl ?_))
 refine ov (v_shr rfl rfl (by decide)) rfl ?_
 refine ov (u_xor rfl rfl rfl) rfl ?_
 refine ov (u_and rfl rfl rfl) rfl ?_
 obtain ⟨g33, r34⟩ := gd_ok r12; clear r12
 refine ov (i_conv Try.underlying102 Try.underlying3 rfl g33) rfl ?_
 refine oa rfl rfl (shO_nil (shW_ret ?_))
 refine q_res1 Try.results71 (res_tmp rfl) (sr) ?_
 obtain ⟨rfl, rfl, rfl⟩ := inj3 r34
 exact ⟨rfl, rfl⟩
set_option maxHeartbeats 1000000 in
theorem oyezkit_Bell_Stroke_w {b_b : Nat} {metal_a : Option Addr} {metal_c : Nat} {metal : List Int} {at_ : Int} {turn : Int} {n : Int} {F : FS} (h_metal : RowR 1 (iE .u8) F metal_a metal_c metal) {r : Int} {r2 : Int} {r3 : Int} (hr : oyezkit_Bell_Stroke metal at_ turn n = some (r, r2, r3)) :
    SH.Spec Try.prog 19 #[.pointer (some ⟨b_b, 0, none⟩), .int .i64 n] F [(b_b, .cells #[.slice metal_a metal.length metal_c, .int .i64 at_, .int .u32 turn] 104 (0, 0))] fun _ L' v => v = .int .i64 r ∧ L' = [(b_b, .cells #[.slice metal_a metal.length metal_c, .int .i64 r2, .int .u32 r3] 104 (0, 0))] := by
 refine spec_of_shW (args := [.pointer (some ⟨b_b, 0, none⟩), .int .i64 n]) Try.func19 rfl Try.ntmps19 (Nat.le_of_ble_eq_true rfl) ?_
 intro K _ _; rw [oyezkit_Bell_Stroke] at hr
 refine wsr (oa rfl rfl (nsr (om rfl rfl ?_)))
 obtain ⟨n2, at_2, turn2, h1, r4⟩ := b3_ok hr; clear hr
 refine o_callG (Lb := [(b_b, .cells #[.slice metal_a metal.length metal_c, .int .i64 at_, .int .u32 turn] 104 (0, 0))]) (Lr := []) rfl Try.call71 rfl rfl rfl (pR) (oyezkit_Bell_ring_w h_metal h1) ?_; rintro _ F5 _ hF6 hd8 hn7 ⟨rfl, rfl⟩
 refine shO_L (lb (ln rfl)) ?_
 refine om rfl rfl ?_
 obtain ⟨g9, r10⟩ := gd_ok r4; clear r4
 refine ov (v_add rfl rfl g9) rfl ?_
 refine ov (v_max2 rfl rfl) rfl ?_
 obtain ⟨g11, r12⟩ := gd_ok r10; clear r10
 refine ov (v_remT rfl rfl g11) rfl ?_
 refine oa rfl rfl (shO_nil (shW_ret ?_))
 refine q_res1 Try.results19 (res_tmp rfl) (sr) ?_
 obtain ⟨rfl, rfl, rfl⟩ := inj3 r12
 exact ⟨rfl, rfl⟩
set_option maxHeartbeats 1000000 in
theorem oyezkit_Bell_Strike_w {b_b : Nat} {metal_a : Option Addr} {metal_c : Nat} {metal : List Int} {at_ : Int} {turn : Int} {lo : Int} {hi : Int} {F : FS} (h_metal : RowR 1 (iE .u8) F metal_a metal_c metal) {r : Int} {r2 : Int} {r3 : Int} (hr : oyezkit_Bell_Strike metal at_ turn lo hi = some (r, r2, r3)) :
    SH.Spec Try.prog 34 #[.pointer (some ⟨b_b, 0, none⟩), .int .i64 lo, .int .i64 hi] F [(b_b, .cells #[.slice metal_a metal.length metal_c, .int .i64 at_, .int .u32 turn] 104 (0, 0))] fun _ L' v => v = .int .i64 r ∧ L' = [(b_b, .cells #[.slice metal_a metal.length metal_c, .int .i64 r2, .int .u32 r3] 104 (0, 0))] := by
 refine spec_of_shW (args := [.pointer (some ⟨b_b, 0, none⟩), .int .i64 lo, .int .i64 hi]) Try.func34 rfl Try.ntmps34 (Nat.le_of_ble_eq_true rfl) ?_
 intro K _ _; rw [oyezkit_Bell_Strike] at hr
 refine wsr (oa rfl rfl (nsr (om rfl rfl (om rfl rfl (om rfl rfl (om rfl rfl ?_))))))
 obtain ⟨g1, r4⟩ := gd_ok hr; clear hr
 refine ov (v_sub rfl rfl g1) rfl ?_
 obtain ⟨n, at_2, turn2, h5, r6⟩ := b3_ok r4; clear r4
 refine o_callG (Lb := [(b_b, .cells #[.slice metal_a metal.length metal_c, .int .i64 at_, .int .u32 turn] 104 (0, 0))]) (Lr := []) rfl Try.call19 rfl rfl rfl (pR) (oyezkit_Bell_Stroke_w h_metal h5) ?_; rintro _ F7 _ hF8 hd10 hn9 ⟨rfl, rfl⟩
 refine shO_L (lb (ln rfl)) ?_
 obtain ⟨g11, r12⟩ := gd_ok r6; clear r6
 refine ov (v_add rfl rfl g11) rfl ?_
 refine oa rfl rfl (shO_nil (shW_ret ?_))
 refine q_res1 Try.results34 (res_tmp rfl) (sr) ?_
 obtain ⟨rfl, rfl, rfl⟩ := inj3 r12
 exact ⟨rfl, rfl⟩
set_option maxHeartbeats 1000000 in
theorem oyezkit_Hang_w {metal_a : Option Addr} {metal_c : Nat} {metal : List Int} {F : FS} (h_metal : RowR 1 (iE .u8) F metal_a metal_c metal) {r : List Int} {r2 : Int} {r3 : Int} (hr : oyezkit_Hang metal = some (r, r2, r3)) :
    SH.Spec Try.prog 13 #[.slice metal_a metal.length metal_c] F [] fun F' L' v => ∃ (rb : Nat) (ra : Option Addr) (rc : Nat), v = .pointer (some ⟨rb, 0, none⟩) ∧ L' = [(rb, .cells #[.slice ra r.length rc, .int .i64 r2, .int .u32 r3] 104 (0, 0))] ∧ RowR 1 (iE .u8) F' ra rc r := by
 refine spec_of_shW (args := [.slice metal_a metal.length metal_c]) Try.func13 rfl Try.ntmps13 (Nat.le_of_ble_eq_true rfl) ?_
 intro K _ _; rw [oyezkit_Hang] at hr
 refine wsr (oa rfl rfl (nsr (om rfl rfl ?_)))
 refine ov (v_build (v := .agg #[.slice metal_a metal.length metal_c, .int .i64 0, .int .u32 0]) rfl (by intro w; kernel_rfl)) rfl ?_
 refine o_box rfl rfl ?_; intro b1 hb1
 refine oa rfl rfl (shO_nil (shW_ret ?_))
 refine q_res1 Try.results13 (res_tmp rfl) (sr) ?_
 obtain ⟨rfl, rfl, rfl⟩ := inj3 hr
 exact ⟨_, _, _, rfl, rfl, h_metal⟩
set_option maxHeartbeats 1000000 in
theorem night_desk_sets_w {b_d : Nat} {listens_a : Option Addr} {listens_c : Nat} {listens : List (List Int)} {hours_a : Option Addr} {hours_c : Nat} {hours : List (List Int)} {v1 : Value} {v2 : Value} {mb_d : Nat × Nat} {F : FS} (hb_d : F b_d = some (.cells #[.slice listens_a listens.length listens_c, .slice hours_a hours.length hours_c, v1, v2] 139 mb_d)) (_h_listens : RowR 1 (slE 1 (iE .i64)) F listens_a listens_c listens) (_h_hours : RowR 1 (slE 1 (iE .i64)) F hours_a hours_c hours) {r : Int} (hr : night_desk_sets listens hours = some r) :
    SpecV Try.prog 72 #[.pointer (some ⟨b_d, 0, none⟩)] F (.int .i64 r) := by
 refine spec_of_shW (args := [.pointer (some ⟨b_d, 0, none⟩)]) Try.func72 rfl Try.ntmps72 (Nat.le_of_ble_eq_true rfl) ?_
 intro K _ _; rw [night_desk_sets] at hr
 refine wsr (oa rfl rfl (nsr (om rfl rfl ?_)))
 refine ov (v_nilCheck rfl) rfl ?_
 refine ov (v_fieldAddr fa_139_0 rfl) rfl ?_
 refine ov (v_fieldAddr fa_26_0 rfl) rfl ?_
 refine ov (v_load Try.isAgg23 rfl (Has.frozen hb_d) rfl) rfl ?_
 refine ov (v_lenS Try.underlying23 rfl) rfl ?_
 obtain ⟨g3, r4⟩ := gd_ok hr; clear hr
 refine ov (v_shl rfl rfl g3) rfl ?_
 refine oa rfl rfl (shO_nil (shW_ret ?_))
 refine q_res1 Try.results72 (res_tmp rfl) (sr) ?_
 obtain rfl := inj1 r4
 exact rfl
set_option maxHeartbeats 1000000 in
theorem slices_Index_int_int_w {s__a : Option Addr} {s__c : Nat} {s_ : List Int} {v : Int} {F : FS} (h_s_ : RowR 1 (iE .i64) F s__a s__c s_) {r : Int} (hr : slices_Index_int_int s_ v = some r) :
    SpecV Try.prog 93 #[.slice s__a s_.length s__c, .int .i64 v] F (.int .i64 r) := by
 refine spec_of_shW (args := [.slice s__a s_.length s__c, .int .i64 v]) Try.func93 rfl Try.ntmps93 (Nat.le_of_ble_eq_true rfl) ?_
 intro K _ _; rw [slices_Index_int_int] at hr
 refine wsr (oa rfl rfl (shO_nil ?_))
 refine shW_join (fun e1 F1 L1 => slices_Index_int_int_j1 = some r ∧ F = F1 ∧ L1 = [] ∧ e1.sub []) ?_ ?_
 · refine wsr (om rfl rfl ?_)
   refine ov (v_lenS Try.underlying27 rfl) rfl ?_
   refine om rfl rfl (shO_nil ?_)
   refine shW_block ?_
   refine shW_lp (fun fu2 e1 F1 L1 => ∃ (tl : List Int) (k : Int), tl.length = fu2 ∧ Lst s_ k tl ∧ slices_Index_int_int_l2 v tl k = some r ∧ F = F1 ∧ L1 = [] ∧ e1.sub [(0, .slice s__a s_.length s__c), (1, .int .i64 v), (7, .int .i64 (s_.length : Int)), (8, .int .i64 k)]) _ (m0 kr ⟨_, _, rfl, Lst.start _, hr, rfl, rfl, (sc rfl (sc rfl (sc rfl (sc rfl (sn _)))))⟩) ?_
   rintro fu2 e1 _ _ ⟨tl, k, hn2, hk1, r3, rfl, rfl, he4⟩
   refine shW_env _ he4 ?_; clear he4
   refine wsr ?_
   refine ov (v_lssK rfl rfl) rfl ?_
   refine shO_nil (shW_seq ?_)
   refine shW_condP rfl (fun c6 => ?_) (fun c6 => ?_)
   · obtain ⟨x, tl2, rfl, hx8, g9, hk7⟩ := Lst.succ hk1 c6
     rw [slices_Index_int_int_l2] at r3
     refine shW_skip (shW_seq ?_)
     refine shW_block ?_
     refine wsr (om rfl rfl (oa rfl rfl (nsr (om rfl rfl (om rfl rfl (om rfl rfl ?_))))))
     obtain ⟨b10, o11, c12, vs13, ha14, hs15, hle16, rfl, hl17, hc18⟩ := RowR.at (iE_ok _) h_s_ ([]) g9.1 hx8
     refine ov (v_indexO Try.underlying27 Try.sizeOf3 rfl ha14 rfl g9) rfl ?_
     refine ov (v_load Try.isAgg3 rfl hs15 (hc18 0 (by decide))) rfl ?_
     refine ov (v_eql rfl rfl) rfl ?_
     refine shO_nil ?_
     refine shW_condP rfl (fun c19 => ?_) (fun c19 => ?_)
     · have r20 := ite_t r3 c19; clear r3
       refine wsr (om rfl rfl (oa rfl rfl (shO_nil (shW_ret (inBlock_ret (andThen_ret (andThen_ret (inBlock_ret (andThen_ret ?_)))))))))
       refine q_res1 Try.results93 (res_tmp rfl) (sr) ?_
       obtain rfl := inj1 r20
       exact rfl
     have r21 := ite_f r3 c19; clear r3
     refine shW_skip (inBlock_n (id := 1) (shW_region ?_))
     refine ov (v_add rfl rfl (Lst.r64 hk1 c6 (RowR.lt h_s_))) rfl ?_
     refine om rfl rfl (shO_nil ?_)
     subst hn2; exact le kr ⟨_, _, rfl, hk7, r21, rfl, rfl, (sc rfl (sc rfl (sc rfl (sc rfl (sn _)))))⟩
   obtain rfl := Lst.zero hk1 c6
   rw [slices_Index_int_int_l2] at r3
   refine shW_exit (andThen_exit (andThen_exit ?_))
   refine inBlock_exit ?_
   exact mi kr ⟨r3, rfl, rfl, (sn _)⟩
 rintro e1 _ _ ⟨r22, rfl, rfl, he23⟩
 refine shW_env _ he23 ?_; clear he23
 rw [slices_Index_int_int_j1] at r22
 refine wsr (oa rfl rfl (shO_nil (shW_ret ?_)))
 refine q_res1 Try.results93 (res_tmp rfl) (sr) ?_
 obtain rfl := inj1 r22
 exact rfl
set_option maxHeartbeats 1000000 in
theorem slices_Contains_int_int_w {s__a : Option Addr} {s__c : Nat} {s_ : List Int} {v : Int} {F : FS} (h_s_ : RowR 1 (iE .i64) F s__a s__c s_) {r : Bool} (hr : slices_Contains_int_int s_ v = some r) :
    SpecV Try.prog 40 #[.slice s__a s_.length s__c, .int .i64 v] F (.bool r) := by
 refine spec_of_shW (args := [.slice s__a s_.length s__c, .int .i64 v]) Try.func40 rfl Try.ntmps40 (Nat.le_of_ble_eq_true rfl) ?_
 intro K _ _; rw [slices_Contains_int_int] at hr
 refine wsr (oa rfl rfl (nsr (om rfl rfl (om rfl rfl ?_))))
 obtain ⟨n, h1, r2⟩ := b1_ok hr; clear hr
 refine o_callV rfl Try.call93 rfl rfl rfl (slices_Index_int_int_w h_s_ h1) ?_
 refine ov (v_geqK rfl rfl) rfl ?_
 refine oa rfl rfl (shO_nil (shW_ret ?_))
 refine q_res1 Try.results40 (res_tmp rfl) (sr) ?_
 obtain rfl := inj1 r2
 exact rfl
set_option maxHeartbeats 1000000 in
theorem night_in_w {n : Int} {lo : Int} {hi : Int} {F : FS} {r : Bool} (hr : night_in n lo hi = some r) :
    SpecV Try.prog 59 #[.int .i64 n, .int .i64 lo, .int .i64 hi] F (.bool r) := by
 refine spec_of_shW (args := [.int .i64 n, .int .i64 lo, .int .i64 hi]) Try.func59 rfl Try.ntmps59 (Nat.le_of_ble_eq_true rfl) ?_
 intro K _ _; rw [night_in] at hr
 refine wsr (oa rfl rfl (nsr (om rfl rfl (om rfl rfl ?_))))
 refine ov (v_geqK rfl rfl) rfl ?_
 refine om rfl rfl ?_
 by_cases c1 : lo ≤ n
 · have r2 := ite_t hr c1; clear hr
   refine shO_on (b := true) 10 rfl (Env.isT rfl c1) (om rfl rfl (shO_on (b := true) 10 rfl (Env.isT rfl c1) (om rfl rfl (shO_on (b := true) 10 rfl (Env.isT rfl c1) ?_))))
   refine ov (v_leqK rfl rfl) rfl ?_
   refine ov (v_pick_t (evD_true rfl c1) rfl) rfl ?_
   refine oa rfl rfl (shO_nil (shW_ret ?_))
   refine q_res1 Try.results59 (res_tmp rfl) (sr) ?_
   obtain rfl := inj1 r2
   exact rfl
 have r3 := ite_f hr c1; clear hr
 refine shO_off (b' := false) 10 rfl (Env.isF rfl c1) rfl rfl (shO_off (b' := false) 10 rfl (Env.isF rfl c1) rfl rfl (shO_off (b' := false) 10 rfl (Env.isF rfl c1) rfl rfl ?_))
 refine ov (v_pick_f (evD_false rfl c1) rfl) rfl ?_
 refine oa rfl rfl (shO_nil (shW_ret ?_))
 refine q_res1 Try.results59 (res_tmp rfl) (sr) ?_
 obtain rfl := inj1 r3
 exact rfl
set_option maxHeartbeats 1000000 in
theorem slices_IndexFunc_night_Mark_night_Mark_w {s__a : Option Addr} {s__c : Nat} {s_ : List (List Int)} {f_f : FuncId} {f_1 : Array Value} {f_2 : Array Value} {f : (List Int) → Option Bool} {F : FS} (h_s_ : RowR 1 (slE 1 (iE .i64)) F s__a s__c s_) (h_f : FnR Try.prog F f_f f_1 f_2 (slE 1 (iE .i64)) Value.bool f) {r : Int} (hr : slices_IndexFunc_night_Mark_night_Mark s_ f = some r) :
    SpecV Try.prog 126 #[.slice s__a s_.length s__c, .func (.func f_f) f_1 f_2] F (.int .i64 r) := by
 refine spec_of_shW (args := [.slice s__a s_.length s__c, .func (.func f_f) f_1 f_2]) Try.func126 rfl Try.ntmps126 (Nat.le_of_ble_eq_true rfl) ?_
 intro K _ _; rw [slices_IndexFunc_night_Mark_night_Mark] at hr
 refine wsr (oa rfl rfl (shO_nil ?_))
 refine shW_join (fun e1 F1 L1 => slices_IndexFunc_night_Mark_night_Mark_j1 = some r ∧ F = F1 ∧ L1 = [] ∧ e1.sub []) ?_ ?_
 · refine wsr (om rfl rfl ?_)
   refine ov (v_lenS Try.underlying24 rfl) rfl ?_
   refine om rfl rfl (shO_nil ?_)
   refine shW_block ?_
   refine shW_lp (fun fu2 e1 F1 L1 => ∃ (tl : List (List Int)) (k : Int), tl.length = fu2 ∧ Lst s_ k tl ∧ slices_IndexFunc_night_Mark_night_Mark_l2 f tl k = some r ∧ F = F1 ∧ L1 = [] ∧ e1.sub [(0, .slice s__a s_.length s__c), (1, .func (.func f_f) f_1 f_2), (7, .int .i64 (s_.length : Int)), (8, .int .i64 k)]) _ (m0 kr ⟨_, _, rfl, Lst.start _, hr, rfl, rfl, (sc rfl (sc rfl (sc rfl (sc rfl (sn _)))))⟩) ?_
   rintro fu2 e1 _ _ ⟨tl, k, hn2, hk1, r3, rfl, rfl, he4⟩
   refine shW_env _ he4 ?_; clear he4
   refine wsr ?_
   refine ov (v_lssK rfl rfl) rfl ?_
   refine shO_nil (shW_seq ?_)
   refine shW_condP rfl (fun c6 => ?_) (fun c6 => ?_)
   · obtain ⟨x, tl2, rfl, hx8, g9, hk7⟩ := Lst.succ hk1 c6
     rw [slices_IndexFunc_night_Mark_night_Mark_l2] at r3
     refine shW_skip (shW_seq ?_)
     refine shW_block ?_
     refine wsr (om rfl rfl (oa rfl rfl (nsr (om rfl rfl (om rfl rfl (om rfl rfl ?_))))))
     obtain ⟨b10, o11, c12, vs13, ha14, hs15, hle16, ⟨a19, c20, rfl, h21⟩, hl17, hc18⟩ := RowR.at (slE_ok (iE_ok _)) h_s_ ([]) g9.1 hx8
     refine ov (v_indexO Try.underlying24 Try.sizeOf40 rfl ha14 rfl g9) rfl ?_
     refine ov (v_load Try.isAgg40 rfl hs15 (hc18 0 (by decide))) rfl ?_
     obtain ⟨ok, h22, r23⟩ := b1_ok r3; clear r3
     refine o_callV rfl h_f.1 rfl rfl rfl (h_f.2 _ (FExt.refl _) _ _ _ ⟨_, _, rfl, h21⟩ h22) ?_
     refine shO_nil ?_
     refine shW_cond rfl (fun c24 => ?_) (fun c24 => ?_)
     · have r25 := bt r23 c24; clear r23
       refine wsr (om rfl rfl (oa rfl rfl (shO_nil (shW_ret (inBlock_ret (andThen_ret (andThen_ret (inBlock_ret (andThen_ret ?_)))))))))
       refine q_res1 Try.results126 (res_tmp rfl) (sr) ?_
       obtain rfl := inj1 r25
       exact rfl
     have r26 := bf r23 c24; clear r23
     refine shW_skip (inBlock_n (id := 1) (shW_region ?_))
     refine ov (v_add rfl rfl (Lst.r64 hk1 c6 (RowR.lt h_s_))) rfl ?_
     refine om rfl rfl (shO_nil ?_)
     subst hn2; exact le kr ⟨_, _, rfl, hk7, r26, rfl, rfl, (sc rfl (sc rfl (sc rfl (sc rfl (sn _)))))⟩
   obtain rfl := Lst.zero hk1 c6
   rw [slices_IndexFunc_night_Mark_night_Mark_l2] at r3
   refine shW_exit (andThen_exit (andThen_exit ?_))
   refine inBlock_exit ?_
   exact mi kr ⟨r3, rfl, rfl, (sn _)⟩
 rintro e1 _ _ ⟨r27, rfl, rfl, he28⟩
 refine shW_env _ he28 ?_; clear he28
 rw [slices_IndexFunc_night_Mark_night_Mark_j1] at r27
 refine wsr (oa rfl rfl (shO_nil (shW_ret ?_)))
 refine q_res1 Try.results126 (res_tmp rfl) (sr) ?_
 obtain rfl := inj1 r27
 exact rfl
set_option maxHeartbeats 1000000 in
theorem slices_ContainsFunc_night_Mark_night_Mark_w {s__a : Option Addr} {s__c : Nat} {s_ : List (List Int)} {f_f : FuncId} {f_1 : Array Value} {f_2 : Array Value} {f : (List Int) → Option Bool} {F : FS} (h_s_ : RowR 1 (slE 1 (iE .i64)) F s__a s__c s_) (h_f : FnR Try.prog F f_f f_1 f_2 (slE 1 (iE .i64)) Value.bool f) {r : Bool} (hr : slices_ContainsFunc_night_Mark_night_Mark s_ f = some r) :
    SpecV Try.prog 118 #[.slice s__a s_.length s__c, .func (.func f_f) f_1 f_2] F (.bool r) := by
 refine spec_of_shW (args := [.slice s__a s_.length s__c, .func (.func f_f) f_1 f_2]) Try.func118 rfl Try.ntmps118 (Nat.le_of_ble_eq_true rfl) ?_
 intro K _ _; rw [slices_ContainsFunc_night_Mark_night_Mark] at hr
 refine wsr (oa rfl rfl (nsr (om rfl rfl (om rfl rfl ?_))))
 obtain ⟨n, h1, r2⟩ := b1_ok hr; clear hr
 refine o_callV rfl Try.call126 rfl rfl rfl (slices_IndexFunc_night_Mark_night_Mark_w h_s_ h_f h1) ?_
 refine ov (v_geqK rfl rfl) rfl ?_
 refine oa rfl rfl (shO_nil (shW_ret ?_))
 refine q_res1 Try.results118 (res_tmp rfl) (sr) ?_
 obtain rfl := inj1 r2
 exact rfl
set_option maxHeartbeats 1000000 in
theorem night_every_night_Mark_1_w {x_a : Option Addr} {x_c : Nat} {x : List Int} {b_so : Nat} {so_f : FuncId} {so_1 : Array Value} {so_2 : Array Value} {so : (List Int) → Option Bool} {mb_so : Nat × Nat} {F : FS} (h_x : RowR 1 (iE .i64) F x_a x_c x) (hb_so : F b_so = some (.cells #[.func (.func so_f) so_1 so_2] 151 mb_so)) (h_so : FnR Try.prog F so_f so_1 so_2 (slE 1 (iE .i64)) Value.bool so) {r : Bool} (hr : night_every_night_Mark_1 x so = some r) :
    SpecV Try.prog 119 #[.slice x_a x.length x_c, .pointer (some ⟨b_so, 0, none⟩)] F (.bool r) := by
 refine spec_of_shW (args := [.slice x_a x.length x_c, .pointer (some ⟨b_so, 0, none⟩)]) Try.func119 rfl Try.ntmps119 (Nat.le_of_ble_eq_true rfl) ?_
 intro K _ _; rw [night_every_night_Mark_1] at hr
 refine wsr (oa rfl rfl (nsr ?_))
 refine ov (v_load Try.isAgg151 rfl (Has.frozen hb_so) rfl) rfl ?_
 refine om rfl rfl ?_
 obtain ⟨ok, h1, r2⟩ := b1_ok hr; clear hr
 refine o_callV rfl h_so.1 rfl rfl rfl (h_so.2 _ (FExt.refl _) _ _ _ ⟨_, _, rfl, h_x⟩ h1) ?_
 refine ov (v_notB rfl) rfl ?_
 refine oa rfl rfl (shO_nil (shW_ret ?_))
 refine q_res1 Try.results119 (res_tmp rfl) (sr) ?_
 obtain rfl := inj1 r2
 exact rfl
set_option maxHeartbeats 1000000 in
theorem night_every_night_Mark_w {l_a : Option Addr} {l_c : Nat} {l : List (List Int)} {so_f : FuncId} {so_1 : Array Value} {so_2 : Array Value} {so : (List Int) → Option Bool} {F : FS} (h_l : RowR 1 (slE 1 (iE .i64)) F l_a l_c l) (h_so : FnR Try.prog F so_f so_1 so_2 (slE 1 (iE .i64)) Value.bool so) {r : Bool} (hr : night_every_night_Mark l so = some r) :
    SpecV Try.prog 106 #[.slice l_a l.length l_c, .func (.func so_f) so_1 so_2] F (.bool r) := by
 refine spec_of_shW (args := [.slice l_a l.length l_c, .func (.func so_f) so_1 so_2]) Try.func106 rfl Try.ntmps106 (Nat.le_of_ble_eq_true rfl) ?_
 intro K _ _; rw [night_every_night_Mark] at hr
 refine wsr ?_
 refine o_box rfl rfl ?_; intro b1 hb1
 refine oa rfl rfl (nsr (om rfl rfl ?_))
 refine ov (v_makeFunc rfl rfl) rfl ?_
 refine shO_freeze 0 rfl hb1 ?_; intro F2 hF3 hz4
 refine shO_L (L' := []) rfl ?_
 replace h_l := h_l.mono (slE_ok (iE_ok _)) hF3
 replace h_so := h_so.mono hF3
 have hn8 : FnR Try.prog F2 119 #[] #[.pointer (some ⟨b1, 0, none⟩)] (slE 1 (iE .i64)) Value.bool (fun xx_ : (List Int) => night_every_night_Mark_1 xx_ so) := ⟨Try.call119, fun F2 h2 vs xx_ r ha hr => by obtain ⟨a5, c6, rfl, h7⟩ := ha; exact night_every_night_Mark_1_w h7 (h2 _ _ hz4) (h_so.mono h2) hr⟩
 obtain ⟨ok, h9, r10⟩ := b1_ok hr; clear hr
 refine o_callV rfl Try.call118 rfl rfl rfl (slices_ContainsFunc_night_Mark_night_Mark_w h_l hn8 h9) ?_
 refine ov (v_notB rfl) rfl ?_
 refine oa rfl rfl (shO_nil (shW_ret ?_))
 refine q_res1 Try.results106 (res_tmp rfl) (sr) ?_
 obtain rfl := inj1 r10
 exact rfl
set_option maxHeartbeats 1000000 in
theorem night_Mark_there_w {m : Int} {F : FS} {r : Bool} (hr : night_Mark_there m = some r) :
    SpecV Try.prog 81 #[.int .i64 m] F (.bool r) := by
 refine spec_of_shW (args := [.int .i64 m]) Try.func81 rfl Try.ntmps81 (Nat.le_of_ble_eq_true rfl) ?_
 intro K _ _; rw [night_Mark_there] at hr
 refine wsr (oa rfl rfl (nsr (om rfl rfl ?_)))
 obtain ⟨ok, h1, r2⟩ := b1_ok hr; clear hr
 refine o_callV rfl Try.call59 rfl rfl rfl (night_in_w h1) ?_
 refine oa rfl rfl (shO_nil (shW_ret ?_))
 refine q_res1 Try.results81 (res_tmp rfl) (sr) ?_
 obtain rfl := inj1 r2
 exact rfl
set_option maxHeartbeats 1000000 in
theorem slices_IndexFunc_night_Mark_night_Mark__w {s__a : Option Addr} {s__c : Nat} {s_ : List Int} {f_f : FuncId} {f_1 : Array Value} {f_2 : Array Value} {f : Int → Option Bool} {F : FS} (h_s_ : RowR 1 (iE .i64) F s__a s__c s_) (h_f : FnR Try.prog F f_f f_1 f_2 (iE .i64) Value.bool f) {r : Int} (hr : slices_IndexFunc_night_Mark_night_Mark_ s_ f = some r) :
    SpecV Try.prog 127 #[.slice s__a s_.length s__c, .func (.func f_f) f_1 f_2] F (.int .i64 r) := by
 refine spec_of_shW (args := [.slice s__a s_.length s__c, .func (.func f_f) f_1 f_2]) Try.func127 rfl Try.ntmps127 (Nat.le_of_ble_eq_true rfl) ?_
 intro K _ _; rw [slices_IndexFunc_night_Mark_night_Mark_] at hr
 refine wsr (oa rfl rfl (shO_nil ?_))
 refine shW_join (fun e1 F1 L1 => slices_IndexFunc_night_Mark_night_Mark__j1 = some r ∧ F = F1 ∧ L1 = [] ∧ e1.sub []) ?_ ?_
 · refine wsr (om rfl rfl ?_)
   refine ov (v_lenS Try.underlying40 rfl) rfl ?_
   refine om rfl rfl (shO_nil ?_)
   refine shW_block ?_
   refine shW_lp (fun fu2 e1 F1 L1 => ∃ (tl : List Int) (k : Int), tl.length = fu2 ∧ Lst s_ k tl ∧ slices_IndexFunc_night_Mark_night_Mark__l2 f tl k = some r ∧ F = F1 ∧ L1 = [] ∧ e1.sub [(0, .slice s__a s_.length s__c), (1, .func (.func f_f) f_1 f_2), (7, .int .i64 (s_.length : Int)), (8, .int .i64 k)]) _ (m0 kr ⟨_, _, rfl, Lst.start _, hr, rfl, rfl, (sc rfl (sc rfl (sc rfl (sc rfl (sn _)))))⟩) ?_
   rintro fu2 e1 _ _ ⟨tl, k, hn2, hk1, r3, rfl, rfl, he4⟩
   refine shW_env _ he4 ?_; clear he4
   refine wsr ?_
   refine ov (v_lssK rfl rfl) rfl ?_
   refine shO_nil (shW_seq ?_)
   refine shW_condP rfl (fun c6 => ?_) (fun c6 => ?_)
   · obtain ⟨x, tl2, rfl, hx8, g9, hk7⟩ := Lst.succ hk1 c6
     rw [slices_IndexFunc_night_Mark_night_Mark__l2] at r3
     refine shW_skip (shW_seq ?_)
     refine shW_block ?_
     refine wsr (om rfl rfl (oa rfl rfl (nsr (om rfl rfl (om rfl rfl (om rfl rfl ?_))))))
     obtain ⟨b10, o11, c12, vs13, ha14, hs15, hle16, rfl, hl17, hc18⟩ := RowR.at (iE_ok _) h_s_ ([]) g9.1 hx8
     refine ov (v_indexO Try.underlying40 Try.sizeOf41 rfl ha14 rfl g9) rfl ?_
     refine ov (v_load Try.isAgg41 rfl hs15 (hc18 0 (by decide))) rfl ?_
     obtain ⟨ok, h19, r20⟩ := b1_ok r3; clear r3
     refine o_callV rfl h_f.1 rfl rfl rfl (h_f.2 _ (FExt.refl _) _ _ _ rfl h19) ?_
     refine shO_nil ?_
     refine shW_cond rfl (fun c21 => ?_) (fun c21 => ?_)
     · have r22 := bt r20 c21; clear r20
       refine wsr (om rfl rfl (oa rfl rfl (shO_nil (shW_ret (inBlock_ret (andThen_ret (andThen_ret (inBlock_ret (andThen_ret ?_)))))))))
       refine q_res1 Try.results127 (res_tmp rfl) (sr) ?_
       obtain rfl := inj1 r22
       exact rfl
     have r23 := bf r20 c21; clear r20
     refine shW_skip (inBlock_n (id := 1) (shW_region ?_))
     refine ov (v_add rfl rfl (Lst.r64 hk1 c6 (RowR.lt h_s_))) rfl ?_
     refine om rfl rfl (shO_nil ?_)
     subst hn2; exact le kr ⟨_, _, rfl, hk7, r23, rfl, rfl, (sc rfl (sc rfl (sc rfl (sc rfl (sn _)))))⟩
   obtain rfl := Lst.zero hk1 c6
   rw [slices_IndexFunc_night_Mark_night_Mark__l2] at r3
   refine shW_exit (andThen_exit (andThen_exit ?_))
   refine inBlock_exit ?_
   exact mi kr ⟨r3, rfl, rfl, (sn _)⟩
 rintro e1 _ _ ⟨r24, rfl, rfl, he25⟩
 refine shW_env _ he25 ?_; clear he25
 rw [slices_IndexFunc_night_Mark_night_Mark__j1] at r24
 refine wsr (oa rfl rfl (shO_nil (shW_ret ?_)))
 refine q_res1 Try.results127 (res_tmp rfl) (sr) ?_
 obtain rfl := inj1 r24
 exact rfl
set_option maxHeartbeats 1000000 in
theorem slices_ContainsFunc_night_Mark_night_Mark__w {s__a : Option Addr} {s__c : Nat} {s_ : List Int} {f_f : FuncId} {f_1 : Array Value} {f_2 : Array Value} {f : Int → Option Bool} {F : FS} (h_s_ : RowR 1 (iE .i64) F s__a s__c s_) (h_f : FnR Try.prog F f_f f_1 f_2 (iE .i64) Value.bool f) {r : Bool} (hr : slices_ContainsFunc_night_Mark_night_Mark_ s_ f = some r) :
    SpecV Try.prog 120 #[.slice s__a s_.length s__c, .func (.func f_f) f_1 f_2] F (.bool r) := by
 refine spec_of_shW (args := [.slice s__a s_.length s__c, .func (.func f_f) f_1 f_2]) Try.func120 rfl Try.ntmps120 (Nat.le_of_ble_eq_true rfl) ?_
 intro K _ _; rw [slices_ContainsFunc_night_Mark_night_Mark_] at hr
 refine wsr (oa rfl rfl (nsr (om rfl rfl (om rfl rfl ?_))))
 obtain ⟨n, h1, r2⟩ := b1_ok hr; clear hr
 refine o_callV rfl Try.call127 rfl rfl rfl (slices_IndexFunc_night_Mark_night_Mark__w h_s_ h_f h1) ?_
 refine ov (v_geqK rfl rfl) rfl ?_
 refine oa rfl rfl (shO_nil (shW_ret ?_))
 refine q_res1 Try.results120 (res_tmp rfl) (sr) ?_
 obtain rfl := inj1 r2
 exact rfl
set_option maxHeartbeats 1000000 in
theorem night_every_Mark_1_w {x : Int} {b_so : Nat} {so_f : FuncId} {so_1 : Array Value} {so_2 : Array Value} {so : Int → Option Bool} {mb_so : Nat × Nat} {F : FS} (hb_so : F b_so = some (.cells #[.func (.func so_f) so_1 so_2] 153 mb_so)) (h_so : FnR Try.prog F so_f so_1 so_2 (iE .i64) Value.bool so) {r : Bool} (hr : night_every_Mark_1 x so = some r) :
    SpecV Try.prog 121 #[.int .i64 x, .pointer (some ⟨b_so, 0, none⟩)] F (.bool r) := by
 refine spec_of_shW (args := [.int .i64 x, .pointer (some ⟨b_so, 0, none⟩)]) Try.func121 rfl Try.ntmps121 (Nat.le_of_ble_eq_true rfl) ?_
 intro K _ _; rw [night_every_Mark_1] at hr
 refine wsr (oa rfl rfl (nsr ?_))
 refine ov (v_load Try.isAgg153 rfl (Has.frozen hb_so) rfl) rfl ?_
 refine om rfl rfl ?_
 obtain ⟨ok, h1, r2⟩ := b1_ok hr; clear hr
 refine o_callV rfl h_so.1 rfl rfl rfl (h_so.2 _ (FExt.refl _) _ _ _ rfl h1) ?_
 refine ov (v_notB rfl) rfl ?_
 refine oa rfl rfl (shO_nil (shW_ret ?_))
 refine q_res1 Try.results121 (res_tmp rfl) (sr) ?_
 obtain rfl := inj1 r2
 exact rfl
set_option maxHeartbeats 1000000 in
theorem night_every_Mark_w {l_a : Option Addr} {l_c : Nat} {l : List Int} {so_f : FuncId} {so_1 : Array Value} {so_2 : Array Value} {so : Int → Option Bool} {F : FS} (h_l : RowR 1 (iE .i64) F l_a l_c l) (h_so : FnR Try.prog F so_f so_1 so_2 (iE .i64) Value.bool so) {r : Bool} (hr : night_every_Mark l so = some r) :
    SpecV Try.prog 109 #[.slice l_a l.length l_c, .func (.func so_f) so_1 so_2] F (.bool r) := by
 refine spec_of_shW (args := [.slice l_a l.length l_c, .func (.func so_f) so_1 so_2]) Try.func109 rfl Try.ntmps109 (Nat.le_of_ble_eq_true rfl) ?_
 intro K _ _; rw [night_every_Mark] at hr
 refine wsr ?_
 refine o_box rfl rfl ?_; intro b1 hb1
 refine oa rfl rfl (nsr (om rfl rfl ?_))
 refine ov (v_makeFunc rfl rfl) rfl ?_
 refine shO_freeze 0 rfl hb1 ?_; intro F2 hF3 hz4
 refine shO_L (L' := []) rfl ?_
 replace h_l := h_l.mono (iE_ok _) hF3
 replace h_so := h_so.mono hF3
 have hn5 : FnR Try.prog F2 121 #[] #[.pointer (some ⟨b1, 0, none⟩)] (iE .i64) Value.bool (fun xx_ : Int => night_every_Mark_1 xx_ so) := ⟨Try.call121, fun F2 h2 vs xx_ r ha hr => by obtain rfl := ha; exact night_every_Mark_1_w (h2 _ _ hz4) (h_so.mono h2) hr⟩
 obtain ⟨ok, h6, r7⟩ := b1_ok hr; clear hr
 refine o_callV rfl Try.call120 rfl rfl rfl (slices_ContainsFunc_night_Mark_night_Mark__w h_l hn5 h6) ?_
 refine ov (v_notB rfl) rfl ?_
 refine oa rfl rfl (shO_nil (shW_ret ?_))
 refine q_res1 Try.results109 (res_tmp rfl) (sr) ?_
 obtain rfl := inj1 r7
 exact rfl
set_option maxHeartbeats 1000000 in
theorem night_Check_2_w {l_a : Option Addr} {l_c : Nat} {l : List Int} {F : FS} (h_l : RowR 1 (iE .i64) F l_a l_c l) {r : Bool} (hr : night_Check_2 l = some r) :
    SpecV Try.prog 108 #[.slice l_a l.length l_c] F (.bool r) := by
 refine spec_of_shW (args := [.slice l_a l.length l_c]) Try.func108 rfl Try.ntmps108 (Nat.le_of_ble_eq_true rfl) ?_
 intro K _ _; rw [night_Check_2] at hr
 refine wsr (oa rfl rfl (nsr (om rfl rfl ?_)))
 have hn1 : FnR Try.prog F 81 #[] #[] (iE .i64) Value.bool (fun xx_ : Int => night_Mark_there xx_) := ⟨Try.call81, fun F2 h2 vs xx_ r ha hr => by obtain rfl := ha; exact night_Mark_there_w hr⟩
 obtain ⟨ok, h2, r3⟩ := b1_ok hr; clear hr
 refine o_callV rfl Try.call109 rfl rfl rfl (night_every_Mark_w h_l hn1 h2) ?_
 refine oa rfl rfl (shO_nil (shW_ret ?_))
 refine q_res1 Try.results108 (res_tmp rfl) (sr) ?_
 obtain rfl := inj1 r3
 exact rfl
set_option maxHeartbeats 1000000 in
theorem night_Check_1_w {l_a : Option Addr} {l_c : Nat} {l : List Int} {b_men : Nat} {men : Int} {mb_men : Nat × Nat} {F : FS} (_h_l : RowR 1 (iE .i64) F l_a l_c l) (hb_men : F b_men = some (.cells #[.int .i64 men] 3 mb_men)) {r : Bool} (hr : night_Check_1 l men = some r) :
    SpecV Try.prog 107 #[.slice l_a l.length l_c, .pointer (some ⟨b_men, 0, none⟩)] F (.bool r) := by
 refine spec_of_shW (args := [.slice l_a l.length l_c, .pointer (some ⟨b_men, 0, none⟩)]) Try.func107 rfl Try.ntmps107 (Nat.le_of_ble_eq_true rfl) ?_
 intro K _ _; rw [night_Check_1] at hr
 refine wsr (oa rfl rfl (nsr (om rfl rfl ?_)))
 refine ov (v_lenS Try.underlying40 rfl) rfl ?_
 refine ov (v_load Try.isAgg3 rfl (Has.frozen hb_men) rfl) rfl ?_
 refine ov (v_eql rfl rfl) rfl ?_
 refine oa rfl rfl (shO_nil (shW_ret ?_))
 refine q_res1 Try.results107 (res_tmp rfl) (sr) ?_
 obtain rfl := inj1 hr
 exact rfl
set_option maxHeartbeats 1000000 in
theorem night_Check_w {listens_a : Option Addr} {listens_c : Nat} {listens : List (List Int)} {hours_a : Option Addr} {hours_c : Nat} {hours : List (List Int)} {F : FS} (h_listens : RowR 1 (slE 1 (iE .i64)) F listens_a listens_c listens) (h_hours : RowR 1 (slE 1 (iE .i64)) F hours_a hours_c hours) {r : Int} (hr : night_Check listens hours = some r) :
    SpecV Try.prog 80 #[.agg #[.slice listens_a listens.length listens_c, .slice hours_a hours.length hours_c]] F (.int .i64 r) := by
 refine spec_of_shW (args := [.agg #[.slice listens_a listens.length listens_c, .slice hours_a hours.length hours_c]]) Try.func80 rfl Try.ntmps80 (Nat.le_of_ble_eq_true rfl) ?_
 intro K _ _; rw [night_Check] at hr
 refine wsr ?_
 refine o_box rfl rfl ?_; intro b1 hb1
 refine oa rfl rfl (nsr ?_)
 refine ov (v_fieldAddr fa_26_0 rfl) rfl ?_
 refine ov (v_load Try.isAgg23 rfl (Has.own 0 rfl) rfl) rfl ?_
 refine ov (v_lenS Try.underlying23 rfl) rfl ?_
 refine o_alloc rfl Try.zeroValue3 ?_; intro b2 hb2
 refine o_store (i := 0) Try.sizeOf3 rfl rfl rfl rfl (Nat.le_of_ble_eq_true rfl) ?_
 refine shO_L (L' := [(b2, .cells #[.int .i64 (listens.length : Int)] 3 (0, 0)), (b1, .cells #[.slice listens_a listens.length listens_c, .slice hours_a hours.length hours_c] 26 (0, 0))]) rfl ?_
 refine shO_nil (shW_seq ?_)
 obtain ⟨k, h3, r4⟩ := b1_ok hr; clear hr
 refine shW_join (fun e1 F1 L1 => FExt F F1 ∧ L1 = [(b1, .cells #[.slice listens_a listens.length listens_c, .slice hours_a hours.length hours_c] 26 (0, 0))] ∧ e1.sub [(1, .pointer (some ⟨b1, 0, none⟩)), (27, .bool k)]) ?_ ?_
 · clear r4
   refine shW_region ?_
   refine ov (v_load Try.isAgg3 rfl (Has.own 0 rfl) rfl) rfl ?_
   obtain ⟨ok, h5, r6⟩ := b1_ok h3; clear h3
   refine o_callV rfl Try.call59 rfl rfl rfl (night_in_w h5) ?_
   refine ov (v_notB rfl) rfl ?_
   refine om rfl rfl ?_
   rcases bool_two (!ok) with c7 | c7
   · have r8 := bt r6 c7; clear r6
     refine shO_off (b' := true) 14 rfl (EnvB rfl c7) rfl rfl (shO_off (b' := true) 14 rfl (EnvB rfl c7) rfl rfl (shO_off (b' := true) 14 rfl (EnvB rfl c7) rfl rfl (shO_off (b' := true) 14 rfl (EnvB rfl c7) rfl rfl (shO_off (b' := true) 14 rfl (EnvB rfl c7) rfl rfl ?_))))
     refine ov (v_pick_t (evB rfl c7) rfl) rfl ?_
     refine om rfl rfl (shO_off (b' := true) 21 rfl rfl rfl rfl (shO_off (b' := true) 21 rfl rfl rfl rfl (shO_off (b' := true) 21 rfl rfl rfl rfl (shO_off (b' := true) 21 rfl rfl rfl rfl (shO_off (b' := true) 21 rfl rfl rfl rfl ?_)))))
     refine ov (v_pick_t rfl rfl) rfl ?_
     refine shO_nil ?_
     obtain rfl := inj1 r8
     exact mi (kd kr) ⟨FExt.refl _, rfl, (sc rfl (sc rfl (sn _)))⟩
   have r9 := bf r6 c7; clear r6
   refine shO_on (b := false) 14 rfl (EnvB rfl c7) ?_
   refine ov (v_fieldAddr fa_26_1 rfl) rfl ?_
   refine shO_on (b := false) 14 rfl (EnvB rfl c7) ?_
   refine ov (v_load Try.isAgg24 rfl (Has.own 1 rfl) rfl) rfl ?_
   refine shO_on (b := false) 14 rfl (EnvB rfl c7) ?_
   refine ov (v_lenS Try.underlying24 rfl) rfl ?_
   refine shO_on (b := false) 14 rfl (EnvB rfl c7) ?_
   obtain ⟨ok2, h10, r11⟩ := b1_ok r9; clear r9
   refine o_callV rfl Try.call59 rfl rfl rfl (night_in_w h10) ?_
   refine shO_on (b := false) 14 rfl (EnvB rfl c7) ?_
   refine ov (v_notB rfl) rfl ?_
   refine ov (v_pick_f (evB rfl c7) rfl) rfl ?_
   refine om rfl rfl ?_
   rcases bool_two (!ok2) with c12 | c12
   · have r13 := bt r11 c12; clear r11
     refine shO_off (b' := true) 21 rfl (EnvB rfl c12) rfl rfl (shO_off (b' := true) 21 rfl (EnvB rfl c12) rfl rfl (shO_off (b' := true) 21 rfl (EnvB rfl c12) rfl rfl (shO_off (b' := true) 21 rfl (EnvB rfl c12) rfl rfl (shO_off (b' := true) 21 rfl (EnvB rfl c12) rfl rfl ?_))))
     refine ov (v_pick_t (evB rfl c12) rfl) rfl ?_
     refine shO_nil ?_
     obtain rfl := inj1 r13
     exact mi (kd kr) ⟨FExt.refl _, rfl, (sc rfl (sc rfl (sn _)))⟩
   have r14 := bf r11 c12; clear r11
   refine shO_on (b := false) 21 rfl (EnvB rfl c12) ?_
   refine ov (v_fieldAddr fa_26_1 rfl) rfl ?_
   refine shO_on (b := false) 21 rfl (EnvB rfl c12) ?_
   refine ov (v_load Try.isAgg24 rfl (Has.own 1 rfl) rfl) rfl ?_
   refine shO_on (b := false) 21 rfl (EnvB rfl c12) ?_
   refine ov (v_makeFunc rfl rfl) rfl ?_
   refine shO_on (b := false) 21 rfl (EnvB rfl c12) ?_
   refine shO_freeze 0 rfl hb2 ?_; intro F15 hF16 hz17
   refine shO_L (L' := [(b1, .cells #[.slice listens_a listens.length listens_c, .slice hours_a hours.length hours_c] 26 (0, 0))]) rfl ?_
   replace h_hours := h_hours.mono (slE_ok (iE_ok _)) hF16
   have hn21 : FnR Try.prog F15 107 #[] #[.pointer (some ⟨b2, 0, none⟩)] (slE 1 (iE .i64)) Value.bool (fun xx_ : (List Int) => night_Check_1 xx_ (listens.length : Int)) := ⟨Try.call107, fun F2 h2 vs xx_ r ha hr => by obtain ⟨a18, c19, rfl, h20⟩ := ha; exact night_Check_1_w h20 (h2 _ _ hz17) hr⟩
   obtain ⟨ok3, h22, r23⟩ := b1_ok r14; clear r14
   refine o_callV rfl Try.call106 rfl rfl rfl (night_every_night_Mark_w h_hours hn21 h22) ?_
   refine shO_on (b := false) 21 rfl (EnvB rfl c12) ?_
   refine ov (v_notB rfl) rfl ?_
   refine ov (v_pick_f (evB rfl c12) rfl) rfl ?_
   refine shO_nil ?_
   obtain rfl := inj1 r23
   exact mi kr ⟨hF16, rfl, (sc rfl (sc rfl (sn _)))⟩
 rintro e1 F25 _ ⟨hF26, rfl, he24⟩
 refine shW_env _ he24 ?_; clear he24
 replace h_listens := h_listens.mono (slE_ok (iE_ok _)) hF26
 replace h_hours := h_hours.mono (slE_ok (iE_ok _)) hF26
 refine shW_cond rfl (fun c27 => ?_) (fun c27 => ?_)
 · have r28 := bt r4 c27; clear r4
   refine wsr (oa rfl rfl (shO_nil ?_))
   refine kW kn ?_
   refine shW_ret (andThen_ret ?_)
   refine q_res1 Try.results80 (res_tmp rfl) (sr) ?_
   obtain rfl := inj1 r28
   exact rfl
 have r29 := bf r4 c27; clear r4
 refine shW_skip ?_
 refine shW_join (fun e1 F1 L1 => night_Check_j1 hours = some r ∧ F25 = F1 ∧ L1 = [(b1, .cells #[.slice listens_a listens.length listens_c, .slice hours_a hours.length hours_c] 26 (0, 0))] ∧ e1.sub [(1, .pointer (some ⟨b1, 0, none⟩))]) ?_ ?_
 · refine wsr ?_
   refine ov (v_fieldAddr fa_26_0 rfl) rfl ?_
   refine ov (v_load Try.isAgg23 rfl (Has.own 0 rfl) rfl) rfl ?_
   refine ov (v_lenS Try.underlying23 rfl) rfl ?_
   refine om rfl rfl (shO_nil ?_)
   refine shW_block ?_
   refine shW_lp (fun fu2 e1 F1 L1 => ∃ (tl : List (List Int)) (k2 : Int), tl.length = fu2 ∧ Lst listens k2 tl ∧ night_Check_l2 hours tl k2 = some r ∧ F25 = F1 ∧ L1 = [(b1, .cells #[.slice listens_a listens.length listens_c, .slice hours_a hours.length hours_c] 26 (0, 0))] ∧ e1.sub [(1, .pointer (some ⟨b1, 0, none⟩)), (29, .slice listens_a listens.length listens_c), (30, .int .i64 (listens.length : Int)), (31, .int .i64 k2)]) _ (m0 kr ⟨_, _, rfl, Lst.start _, r29, rfl, rfl, (sc rfl (sc rfl (sc rfl (sc rfl (sn _)))))⟩) ?_
   rintro fu2 e1 _ _ ⟨tl, k2, hn31, hk30, r32, rfl, rfl, he33⟩
   refine shW_env _ he33 ?_; clear he33
   refine wsr ?_
   refine ov (v_lssK rfl rfl) rfl ?_
   refine shO_nil (shW_seq ?_)
   refine shW_condP rfl (fun c35 => ?_) (fun c35 => ?_)
   · obtain ⟨x, tl2, rfl, hx37, g38, hk36⟩ := Lst.succ hk30 c35
     rw [night_Check_l2] at r32
     refine shW_skip ?_
     refine shW_join (fun e1 F1 L1 => night_Check_j3 k2 (night_Check_l2 hours tl2) = some r ∧ F25 = F1 ∧ L1 = [(b1, .cells #[.slice listens_a listens.length listens_c, .slice hours_a hours.length hours_c] 26 (0, 0))] ∧ e1.sub [(1, .pointer (some ⟨b1, 0, none⟩)), (29, .slice listens_a listens.length listens_c), (30, .int .i64 (listens.length : Int)), (31, .int .i64 k2)]) ?_ ?_
     · refine shW_block ?_
       refine wsr (om rfl rfl ?_)
       obtain ⟨b39, o40, c41, vs42, ha43, hs44, hle45, ⟨a48, c49, rfl, h50⟩, hl46, hc47⟩ := RowR.at (slE_ok (iE_ok _)) h_listens ([(b1, .cells #[.slice listens_a listens.length listens_c, .slice hours_a hours.length hours_c] 26 (0, 0))]) g38.1 hx37
       refine ov (v_indexO Try.underlying23 Try.sizeOf27 rfl ha43 rfl g38) rfl ?_
       refine ov (v_load Try.isAgg27 rfl hs44 (hc47 0 (by decide))) rfl ?_
       refine oa rfl rfl (oa rfl rfl (nsr (om rfl rfl ?_)))
       refine ov (v_lenS Try.underlying27 rfl) rfl ?_
       refine om rfl rfl (shO_nil ?_)
       refine shW_block ?_
       refine shW_lp (fun fu4 e1 F1 L1 => ∃ (tl3 : List Int) (k3 : Int), tl3.length = fu4 ∧ Lst x k3 tl3 ∧ night_Check_l4 k2 x (night_Check_l2 hours tl2) tl3 k3 = some r ∧ F25 = F1 ∧ L1 = [(b1, .cells #[.slice listens_a listens.length listens_c, .slice hours_a hours.length hours_c] 26 (0, 0))] ∧ e1.sub [(1, .pointer (some ⟨b1, 0, none⟩)), (4, .int .i64 k2), (5, .slice a48 x.length c49), (29, .slice listens_a listens.length listens_c), (30, .int .i64 (listens.length : Int)), (31, .int .i64 k2), (36, .slice a48 x.length c49), (37, .int .i64 (x.length : Int)), (38, .int .i64 k3)]) _ (m0 kr ⟨_, _, rfl, Lst.start _, r32, rfl, rfl, (sc rfl (sc rfl (sc rfl (sc rfl (sc rfl (sc rfl (sc rfl (sc rfl (sc rfl (sn _))))))))))⟩) ?_
       rintro fu4 e1 _ _ ⟨tl3, k3, hn52, hk51, r53, rfl, rfl, he54⟩
       refine shW_env _ he54 ?_; clear he54
       refine wsr ?_
       refine ov (v_lssK rfl rfl) rfl ?_
       refine shO_nil (shW_seq ?_)
       refine shW_condP rfl (fun c56 => ?_) (fun c56 => ?_)
       · obtain ⟨x2, tl4, rfl, hx58, g59, hk57⟩ := Lst.succ hk51 c56
         rw [night_Check_l4] at r53
         refine shW_skip (shW_seq ?_)
         refine shW_block ?_
         refine wsr (om rfl rfl ?_)
         obtain ⟨b60, o61, c62, vs63, ha64, hs65, hle66, rfl, hl67, hc68⟩ := RowR.at (iE_ok _) h50 ([(b1, .cells #[.slice listens_a listens.length listens_c, .slice hours_a hours.length hours_c] 26 (0, 0))]) g59.1 hx58
         refine ov (v_indexO Try.underlying27 Try.sizeOf3 rfl ha64 rfl g59) rfl ?_
         refine ov (v_load Try.isAgg3 rfl hs65 (hc68 0 (by decide))) rfl ?_
         refine oa rfl rfl (oa rfl rfl (shO_nil (shW_seq (wsr (om rfl rfl (om rfl rfl ?_))))))
         obtain ⟨g69, r70⟩ := gd_ok r53; clear r53
         refine ov (v_sub rfl rfl g69) rfl ?_
         obtain ⟨ok4, h71, r72⟩ := b1_ok r70; clear r70
         refine o_callV rfl Try.call59 rfl rfl rfl (night_in_w h71) ?_
         refine ov (v_notB rfl) rfl ?_
         refine shO_nil ?_
         refine shW_cond rfl (fun c73 => ?_) (fun c73 => ?_)
         · have r74 := bt r72 c73; clear r72
           refine wsr (oa rfl rfl (shO_nil ?_))
           refine kW kn ?_
           refine shW_ret (andThen_ret (inBlock_ret (andThen_ret (andThen_ret (inBlock_ret (inBlock_ret (andThen_ret (andThen_ret (inBlock_ret ?_)))))))))
           refine andThen_ret ?_
           refine q_res1 Try.results80 (res_tmp rfl) (sr) ?_
           obtain rfl := inj1 r74
           exact rfl
         have r75 := bf r72 c73; clear r72
         refine shW_skip (wsr (om rfl rfl (om rfl rfl ?_)))
         obtain ⟨g76, r77⟩ := gd_ok r75; clear r75
         obtain ⟨x3, h78, r79⟩ := bv_ok r77; clear r77
         obtain ⟨a80, c81, h82, hvh82⟩ := RowR.slice (iE_ok _) h50 g76 h78
         refine ov ((v_slice (l := 0) (h := k3) Try.underlying27 Try.sizeOf3 rfl (.inl ⟨rfl, rfl⟩) (.inr ⟨_, rfl, rfl⟩) hvh82.1).eq hvh82.2) rfl ?_
         refine om rfl rfl ?_
         obtain ⟨ok5, h84, r85⟩ := b1_ok r79; clear r79
         refine o_callV rfl Try.call40 rfl rfl rfl (slices_Contains_int_int_w h82 h84) ?_
         refine shO_nil ?_
         refine shW_cond rfl (fun c86 => ?_) (fun c86 => ?_)
         · have r87 := bt r85 c86; clear r85
           refine wsr (oa rfl rfl (shO_nil ?_))
           refine kW kn ?_
           refine shW_ret (inBlock_ret (andThen_ret (andThen_ret (inBlock_ret (inBlock_ret (andThen_ret (andThen_ret (inBlock_ret (andThen_ret ?_)))))))))
           refine q_res1 Try.results80 (res_tmp rfl) (sr) ?_
           obtain rfl := inj1 r87
           exact rfl
         have r88 := bf r85 c86; clear r85
         refine shW_skip (inBlock_n (id := 3) (shW_region ?_))
         refine ov (v_add rfl rfl (Lst.r64 hk51 c56 (RowR.lt h50))) rfl ?_
         refine om rfl rfl (shO_nil ?_)
         subst hn52; exact le kr ⟨_, _, rfl, hk57, r88, rfl, rfl, (sc rfl (sc rfl (sc rfl (sc rfl (sc rfl (sc rfl (sc rfl (sc rfl (sc rfl (sn _))))))))))⟩
       obtain rfl := Lst.zero hk51 c56
       rw [night_Check_l4] at r53
       refine shW_exit (andThen_exit (andThen_exit ?_))
       refine inBlock_exit ?_
       refine inBlock_n (id := 1) ?_
       exact mi kr ⟨r53, rfl, rfl, (sc rfl (sc rfl (sc rfl (sc rfl (sn _)))))⟩
     rintro e1 _ _ ⟨r89, rfl, rfl, he90⟩
     refine shW_env _ he90 ?_; clear he90
     rw [night_Check_j3] at r89
     refine shW_region ?_
     refine ov (v_add rfl rfl (Lst.r64 hk30 c35 (RowR.lt h_listens))) rfl ?_
     refine om rfl rfl (shO_nil ?_)
     subst hn31; exact le kr ⟨_, _, rfl, hk36, r89, rfl, rfl, (sc rfl (sc rfl (sc rfl (sc rfl (sn _)))))⟩
   obtain rfl := Lst.zero hk30 c35
   rw [night_Check_l2] at r32
   refine shW_exit (andThen_exit (andThen_exit ?_))
   refine inBlock_exit ?_
   exact mi kr ⟨r32, rfl, rfl, (sc rfl (sn _))⟩
 rintro e1 _ _ ⟨r91, rfl, rfl, he92⟩
 refine shW_env _ he92 ?_; clear he92
 rw [night_Check_j1] at r91
 refine shW_seq (wsr ?_)
 refine ov (v_fieldAddr fa_26_1 rfl) rfl ?_
 refine ov (v_load Try.isAgg24 rfl (Has.own 0 rfl) rfl) rfl ?_
 have hn96 : FnR Try.prog F25 108 #[] #[] (slE 1 (iE .i64)) Value.bool (fun xx_ : (List Int) => night_Check_2 xx_) := ⟨Try.call108, fun F2 h2 vs xx_ r ha hr => by obtain ⟨a93, c94, rfl, h95⟩ := ha; exact night_Check_2_w h95 hr⟩
 obtain ⟨ok6, h97, r98⟩ := b1_ok r91; clear r91
 refine o_callV rfl Try.call106 rfl rfl rfl (night_every_night_Mark_w h_hours hn96 h97) ?_
 refine ov (v_notB rfl) rfl ?_
 refine shO_nil ?_
 refine shW_cond rfl (fun c99 => ?_) (fun c99 => ?_)
 · have r100 := bt r98 c99; clear r98
   refine wsr (oa rfl rfl (shO_nil ?_))
   refine kW kn ?_
   refine shW_ret (andThen_ret ?_)
   refine q_res1 Try.results80 (res_tmp rfl) (sr) ?_
   obtain rfl := inj1 r100
   exact rfl
 have r101 := bf r98 c99; clear r98
 refine shW_skip (wsr (oa rfl rfl (shO_nil ?_)))
 refine kW kn ?_
 refine shW_ret ?_
 refine q_res1 Try.results80 (res_tmp rfl) (sr) ?_
 obtain rfl := inj1 r101
 exact rfl
set_option maxHeartbeats 1000000 in
theorem slices_IndexFunc_int_int_w {s__a : Option Addr} {s__c : Nat} {s_ : List Int} {f_f : FuncId} {f_1 : Array Value} {f_2 : Array Value} {f : Int → Option Bool} {F : FS} (h_s_ : RowR 1 (iE .i64) F s__a s__c s_) (h_f : FnR Try.prog F f_f f_1 f_2 (iE .i64) Value.bool f) {r : Int} (hr : slices_IndexFunc_int_int s_ f = some r) :
    SpecV Try.prog 92 #[.slice s__a s_.length s__c, .func (.func f_f) f_1 f_2] F (.int .i64 r) := by
 refine spec_of_shW (args := [.slice s__a s_.length s__c, .func (.func f_f) f_1 f_2]) Try.func92 rfl Try.ntmps92 (Nat.le_of_ble_eq_true rfl) ?_
 intro K _ _; rw [slices_IndexFunc_int_int] at hr
 refine wsr (oa rfl rfl (shO_nil ?_))
 refine shW_join (fun e1 F1 L1 => slices_IndexFunc_int_int_j1 = some r ∧ F = F1 ∧ L1 = [] ∧ e1.sub []) ?_ ?_
 · refine wsr (om rfl rfl ?_)
   refine ov (v_lenS Try.underlying27 rfl) rfl ?_
   refine om rfl rfl (shO_nil ?_)
   refine shW_block ?_
   refine shW_lp (fun fu2 e1 F1 L1 => ∃ (tl : List Int) (k : Int), tl.length = fu2 ∧ Lst s_ k tl ∧ slices_IndexFunc_int_int_l2 f tl k = some r ∧ F = F1 ∧ L1 = [] ∧ e1.sub [(0, .slice s__a s_.length s__c), (1, .func (.func f_f) f_1 f_2), (7, .int .i64 (s_.length : Int)), (8, .int .i64 k)]) _ (m0 kr ⟨_, _, rfl, Lst.start _, hr, rfl, rfl, (sc rfl (sc rfl (sc rfl (sc rfl (sn _)))))⟩) ?_
   rintro fu2 e1 _ _ ⟨tl, k, hn2, hk1, r3, rfl, rfl, he4⟩
   refine shW_env _ he4 ?_; clear he4
   refine wsr ?_
   refine ov (v_lssK rfl rfl) rfl ?_
   refine shO_nil (shW_seq ?_)
   refine shW_condP rfl (fun c6 => ?_) (fun c6 => ?_)
   · obtain ⟨x, tl2, rfl, hx8, g9, hk7⟩ := Lst.succ hk1 c6
     rw [slices_IndexFunc_int_int_l2] at r3
     refine shW_skip (shW_seq ?_)
     refine shW_block ?_
     refine wsr (om rfl rfl (oa rfl rfl (nsr (om rfl rfl (om rfl rfl (om rfl rfl ?_))))))
     obtain ⟨b10, o11, c12, vs13, ha14, hs15, hle16, rfl, hl17, hc18⟩ := RowR.at (iE_ok _) h_s_ ([]) g9.1 hx8
     refine ov (v_indexO Try.underlying27 Try.sizeOf3 rfl ha14 rfl g9) rfl ?_
     refine ov (v_load Try.isAgg3 rfl hs15 (hc18 0 (by decide))) rfl ?_
     obtain ⟨ok, h19, r20⟩ := b1_ok r3; clear r3
     refine o_callV rfl h_f.1 rfl rfl rfl (h_f.2 _ (FExt.refl _) _ _ _ rfl h19) ?_
     refine shO_nil ?_
     refine shW_cond rfl (fun c21 => ?_) (fun c21 => ?_)
     · have r22 := bt r20 c21; clear r20
       refine wsr (om rfl rfl (oa rfl rfl (shO_nil (shW_ret (inBlock_ret (andThen_ret (andThen_ret (inBlock_ret (andThen_ret ?_)))))))))
       refine q_res1 Try.results92 (res_tmp rfl) (sr) ?_
       obtain rfl := inj1 r22
       exact rfl
     have r23 := bf r20 c21; clear r20
     refine shW_skip (inBlock_n (id := 1) (shW_region ?_))
     refine ov (v_add rfl rfl (Lst.r64 hk1 c6 (RowR.lt h_s_))) rfl ?_
     refine om rfl rfl (shO_nil ?_)
     subst hn2; exact le kr ⟨_, _, rfl, hk7, r23, rfl, rfl, (sc rfl (sc rfl (sc rfl (sc rfl (sn _)))))⟩
   obtain rfl := Lst.zero hk1 c6
   rw [slices_IndexFunc_int_int_l2] at r3
   refine shW_exit (andThen_exit (andThen_exit ?_))
   refine inBlock_exit ?_
   exact mi kr ⟨r3, rfl, rfl, (sn _)⟩
 rintro e1 _ _ ⟨r24, rfl, rfl, he25⟩
 refine shW_env _ he25 ?_; clear he25
 rw [slices_IndexFunc_int_int_j1] at r24
 refine wsr (oa rfl rfl (shO_nil (shW_ret ?_)))
 refine q_res1 Try.results92 (res_tmp rfl) (sr) ?_
 obtain rfl := inj1 r24
 exact rfl
set_option maxHeartbeats 1000000 in
theorem slices_ContainsFunc_int_int_w {s__a : Option Addr} {s__c : Nat} {s_ : List Int} {f_f : FuncId} {f_1 : Array Value} {f_2 : Array Value} {f : Int → Option Bool} {F : FS} (h_s_ : RowR 1 (iE .i64) F s__a s__c s_) (h_f : FnR Try.prog F f_f f_1 f_2 (iE .i64) Value.bool f) {r : Bool} (hr : slices_ContainsFunc_int_int s_ f = some r) :
    SpecV Try.prog 38 #[.slice s__a s_.length s__c, .func (.func f_f) f_1 f_2] F (.bool r) := by
 refine spec_of_shW (args := [.slice s__a s_.length s__c, .func (.func f_f) f_1 f_2]) Try.func38 rfl Try.ntmps38 (Nat.le_of_ble_eq_true rfl) ?_
 intro K _ _; rw [slices_ContainsFunc_int_int] at hr
 refine wsr (oa rfl rfl (nsr (om rfl rfl (om rfl rfl ?_))))
 obtain ⟨n, h1, r2⟩ := b1_ok hr; clear hr
 refine o_callV rfl Try.call92 rfl rfl rfl (slices_IndexFunc_int_int_w h_s_ h_f h1) ?_
 refine ov (v_geqK rfl rfl) rfl ?_
 refine oa rfl rfl (shO_nil (shW_ret ?_))
 refine q_res1 Try.results38 (res_tmp rfl) (sr) ?_
 obtain rfl := inj1 r2
 exact rfl
set_option maxHeartbeats 1000000 in
theorem night_desk_cries_1_w {m : Int} {b_out : Nat} {out : Int} {mb_out : Nat × Nat} {F : FS} (hb_out : F b_out = some (.cells #[.int .i64 out] 3 mb_out)) {r : Bool} (hr : night_desk_cries_1 m out = some r) :
    SpecV Try.prog 105 #[.int .i64 m, .pointer (some ⟨b_out, 0, none⟩)] F (.bool r) := by
 refine spec_of_shW (args := [.int .i64 m, .pointer (some ⟨b_out, 0, none⟩)]) Try.func105 rfl Try.ntmps105 (Nat.le_of_ble_eq_true rfl) ?_
 intro K _ _; rw [night_desk_cries_1] at hr
 refine wsr (oa rfl rfl (nsr ?_))
 refine ov (v_load Try.isAgg3 rfl (Has.frozen hb_out) rfl) rfl ?_
 refine om rfl rfl ?_
 obtain ⟨g1, r2⟩ := gd_ok hr; clear hr
 refine ov (v_shr rfl rfl g1) rfl ?_
 refine ov (v_and rfl rfl) rfl ?_
 refine ov (v_eql rfl rfl) rfl ?_
 refine oa rfl rfl (shO_nil (shW_ret ?_))
 refine q_res1 Try.results105 (res_tmp rfl) (sr) ?_
 obtain rfl := inj1 r2
 exact rfl
set_option maxHeartbeats 1000000 in
theorem night_desk_cries_w {b_d : Nat} {listens_a : Option Addr} {listens_c : Nat} {listens : List (List Int)} {hours_a : Option Addr} {hours_c : Nat} {hours : List (List Int)} {cried_b : Nat} {cried_es : Array MapEntry} {cried_cl : Nat} {cried : List (Int × Int)} {v1 : Value} {mb_d : Nat × Nat} {asleep : Int} {F : FS} (hb_d : F b_d = some (.cells #[.slice listens_a listens.length listens_c, .slice hours_a hours.length hours_c, .map (some cried_b), v1] 139 mb_d)) (h_listens : RowR 1 (slE 1 (iE .i64)) F listens_a listens_c listens) (_h_hours : RowR 1 (slE 1 (iE .i64)) F hours_a hours_c hours) (h_cried : MapR (Value.int .i64) (Value.int .i64) cried_es cried) {r : Int} {r2 : List (Int × Int)} (hr : night_desk_cries listens hours cried asleep = some (r, r2)) :
    SH.Spec Try.prog 73 #[.pointer (some ⟨b_d, 0, none⟩), .int .i64 asleep] F [(cried_b, .map cried_es cried_cl)] fun _ L' v => ∃ (cried_es2 : Array MapEntry) (cried_cl2 : Nat), v = .int .i64 r ∧ L' = [(cried_b, .map cried_es2 cried_cl2)] ∧ MapR (Value.int .i64) (Value.int .i64) cried_es2 r2 := by
 refine spec_of_shW (args := [.pointer (some ⟨b_d, 0, none⟩), .int .i64 asleep]) Try.func73 rfl Try.ntmps73 (Nat.le_of_ble_eq_true rfl) ?_
 intro K _ _; rw [night_desk_cries] at hr
 refine wsr (oa rfl rfl (shO_nil (shW_seq (wsr (om rfl rfl ?_)))))
 refine ov (v_nilCheck rfl) rfl ?_
 refine ov (v_fieldAddr fa_139_1 rfl) rfl ?_
 refine ov (v_load Try.isAgg136 rfl (Has.frozen hb_d) rfl) rfl ?_
 refine om rfl rfl ?_
 refine ov (OpV.eq (v' := .tuple #[.int .i64 ((mget cried asleep).getD 0), .bool ((mget cried asleep).isSome)]) (v_lookS2 (k := asleep) (z0 := 0) rfl Try.underlying136 (keyOK_int Try.underlying3) Try.zeroValue3 rfl rfl (HasM.own 0 rfl) (show MapR (Value.int .i64) (Value.int .i64) cried_es (cried : List (Int × Int)) from h_cried)) rfl) rfl ?_
 refine om rfl rfl (ox rfl rfl rfl (ox rfl rfl rfl (oa rfl rfl (oa rfl rfl (nsr (om rfl rfl (shO_nil ?_)))))))
 refine shW_cond rfl (fun c2 => ?_) (fun c2 => ?_)
 · have r3 := bt hr c2; clear hr
   refine wsr (om rfl rfl (oa rfl rfl (shO_nil (shW_ret (andThen_ret ?_)))))
   refine q_res1 Try.results73 (res_tmp rfl) (sr) ?_
   obtain ⟨rfl, rfl⟩ := inj2 r3
   exact ⟨_, _, rfl, rfl, h_cried⟩
 have r4 := bf hr c2; clear hr
 refine shW_skip (wsr ?_)
 refine o_alloc rfl Try.zeroValue3 ?_; intro b5 hb5
 refine o_store (i := 0) Try.sizeOf3 rfl rfl rfl rfl (Nat.le_of_ble_eq_true rfl) ?_
 refine shO_L (L' := [(b5, .cells #[.int .i64 0] 3 (0, 0)), (cried_b, .map cried_es cried_cl)]) rfl ?_
 refine shO_nil ?_
 obtain ⟨out, h6, r7⟩ := b1_ok r4; clear r4
 refine shW_join (fun e1 F1 L1 => F = F1 ∧ L1 = [(b5, .cells #[.int .i64 out] 3 (0, 0)), (cried_b, .map cried_es cried_cl)] ∧ e1.sub [(0, .pointer (some ⟨b_d, 0, none⟩)), (1, .int .i64 asleep), (7, .pointer (some ⟨b5, 0, none⟩))]) ?_ ?_
 · clear r7
   refine wsr (om rfl rfl ?_)
   refine ov (v_nilCheck rfl) rfl ?_
   refine ov (v_fieldAddr fa_139_0 rfl) rfl ?_
   refine ov (v_fieldAddr fa_26_0 rfl) rfl ?_
   refine ov (v_load Try.isAgg23 rfl (Has.frozen hb_d) rfl) rfl ?_
   refine ov (v_lenS Try.underlying23 rfl) rfl ?_
   refine om rfl rfl (shO_nil ?_)
   refine shW_block ?_
   refine shW_lp (fun fu1 e1 F1 L1 => ∃ (tl : List (List Int)) (k : Int), tl.length = fu1 ∧ Lst listens k tl ∧ ∃ (out2 : Int), night_desk_cries_l1 asleep tl k out2 = some out ∧ F = F1 ∧ L1 = [(b5, .cells #[.int .i64 out2] 3 (0, 0)), (cried_b, .map cried_es cried_cl)] ∧ e1.sub [(0, .pointer (some ⟨b_d, 0, none⟩)), (1, .int .i64 asleep), (7, .pointer (some ⟨b5, 0, none⟩)), (25, .slice listens_a listens.length listens_c), (26, .int .i64 (listens.length : Int)), (27, .int .i64 k)]) _ (m0 kr ⟨_, _, rfl, Lst.start _, 0, h6, rfl, rfl, (sc rfl (sc rfl (sc rfl (sc rfl (sc rfl (sc rfl (sn _)))))))⟩) ?_
   rintro fu1 e1 _ _ ⟨tl, k, hn9, hk8, out2, r10, rfl, rfl, he11⟩
   refine shW_env _ he11 ?_; clear he11
   refine wsr ?_
   refine ov (v_lssK rfl rfl) rfl ?_
   refine shO_nil (shW_seq ?_)
   refine shW_condP rfl (fun c13 => ?_) (fun c13 => ?_)
   · obtain ⟨x, tl2, rfl, hx15, g16, hk14⟩ := Lst.succ hk8 c13
     rw [night_desk_cries_l1] at r10
     refine shW_skip (shW_seq ?_)
     refine shW_block ?_
     refine wsr (om rfl rfl ?_)
     obtain ⟨b17, o18, c19, vs20, ha21, hs22, hle23, ⟨a26, c27, rfl, h28⟩, hl24, hc25⟩ := RowR.at (slE_ok (iE_ok _)) h_listens ([(b5, .cells #[.int .i64 out2] 3 (0, 0)), (cried_b, .map cried_es cried_cl)]) g16.1 hx15
     refine ov (v_indexO Try.underlying23 Try.sizeOf27 rfl ha21 rfl g16) rfl ?_
     refine ov (v_load Try.isAgg27 rfl hs22 (hc25 0 (by decide))) rfl ?_
     refine oa rfl rfl (oa rfl rfl (shO_nil ?_))
     obtain ⟨k2, h29, r30⟩ := b1_ok r10; clear r10
     refine shW_join (fun e1 F1 L1 => F = F1 ∧ L1 = [(b5, .cells #[.int .i64 out2] 3 (0, 0)), (cried_b, .map cried_es cried_cl)] ∧ e1.sub [(0, .pointer (some ⟨b_d, 0, none⟩)), (1, .int .i64 asleep), (7, .pointer (some ⟨b5, 0, none⟩)), (8, .int .i64 k), (25, .slice listens_a listens.length listens_c), (26, .int .i64 (listens.length : Int)), (27, .int .i64 k), (46, .bool k2)]) ?_ ?_
     · clear r30
       refine shW_region (om rfl rfl (om rfl rfl ?_))
       obtain ⟨g31, r32⟩ := gd_ok h29; clear h29
       refine ov (v_shr rfl rfl g31) rfl ?_
       refine ov (v_and rfl rfl) rfl ?_
       refine ov (v_eql rfl rfl) rfl ?_
       refine om rfl rfl ?_
       by_cases c33 : (band (shr asleep k) 1) = 0
       · have r34 := ite_t r32 c33; clear r32
         refine shO_on (b := true) 37 rfl (Env.isT rfl c33) (om rfl rfl (shO_on (b := true) 37 rfl (Env.isT rfl c33) ?_))
         refine ov (v_lenS Try.underlying27 rfl) rfl ?_
         refine shO_on (b := true) 37 rfl (Env.isT rfl c33) ?_
         refine ov (v_eql rfl rfl) rfl ?_
         refine shO_on (b := true) 37 rfl (Env.isT rfl c33) (om rfl rfl ?_)
         by_cases c35 : (x.length : Int) = 0
         · have r36 := ite_t r34 c35; clear r34
           refine shO_off (b' := true) 41 rfl (Env.isT rfl c35) rfl rfl (shO_off (b' := true) 41 rfl (Env.isT rfl c35) rfl rfl (shO_off (b' := true) 41 rfl (Env.isT rfl c35) rfl rfl (shO_on (b := true) 37 rfl (Env.isT rfl c33) ?_)))
           refine ov (v_pick_t (evD_true rfl c35) rfl) rfl ?_
           refine ov (v_pick_t (evD_true rfl c33) rfl) rfl ?_
           refine shO_nil ?_
           obtain rfl := inj1 r36
           exact mi kr ⟨rfl, rfl, (sc rfl (sc rfl (sc rfl (sc rfl (sc rfl (sc rfl (sc rfl (sc rfl (sn _)))))))))⟩
         have r37 := ite_f r34 c35; clear r34
         refine shO_on (b := false) 41 rfl (Env.isF rfl c35) (om rfl rfl (shO_on (b := false) 41 rfl (Env.isF rfl c35) ?_))
         refine ov (v_makeFunc rfl rfl) rfl ?_
         refine shO_on (b := false) 41 rfl (Env.isF rfl c35) ?_
         obtain ⟨ok, h38, r39⟩ := b1_ok r37; clear r37
         refine o_callT (Lt := [(b5, .cells #[.int .i64 out2] 3 (0, 0))]) (Lr := [(cried_b, .map cried_es cried_cl)]) rfl Try.call38 rfl rfl rfl (pR) (fun F2 h2 h3 => by exact slices_ContainsFunc_int_int_w (h28.mono (iE_ok _) h2) (show FnR Try.prog F2 105 #[] #[.pointer (some ⟨b5, 0, none⟩)] (iE .i64) Value.bool (fun xx_ : Int => night_desk_cries_1 xx_ out2) from ⟨Try.call105, fun F3 h4 vs xx_ r ha hr => by obtain rfl := ha; exact night_desk_cries_1_w (h4 _ _ (h3 (b5, .cells #[.int .i64 out2] 3 (0, 0)) (List.mem_cons_self ..))) hr⟩) h38) ?_
         refine shO_on (b := true) 37 rfl (Env.isT rfl c33) ?_
         refine ov (v_pick_f (evD_false rfl c35) rfl) rfl ?_
         refine ov (v_pick_t (evD_true rfl c33) rfl) rfl ?_
         refine shO_nil ?_
         obtain rfl := inj1 r39
         exact mi kr ⟨rfl, rfl, (sc rfl (sc rfl (sc rfl (sc rfl (sc rfl (sc rfl (sc rfl (sc rfl (sn _)))))))))⟩
       have r40 := ite_f r32 c33; clear r32
       refine shO_off (b' := false) 37 rfl (Env.isF rfl c33) rfl rfl (shO_off (b' := false) 37 rfl (Env.isF rfl c33) rfl rfl (shO_off (b' := false) 37 rfl (Env.isF rfl c33) rfl rfl (shO_off (b' := false) 37 rfl (Env.isF rfl c33) rfl rfl (shO_offU 41 rfl rfl rfl (shO_offU 41 rfl rfl rfl (shO_offU 41 rfl rfl rfl (shO_off (b' := false) 37 rfl (Env.isF rfl c33) rfl rfl ?_)))))))
       refine ov (v_pick_f (evD_false rfl c33) rfl) rfl ?_
       refine shO_nil ?_
       obtain rfl := inj1 r40
       exact mi kr ⟨rfl, rfl, (sc rfl (sc rfl (sc rfl (sc rfl (sc rfl (sc rfl (sc rfl (sc rfl (sn _)))))))))⟩
     rintro e1 _ _ ⟨rfl, rfl, he41⟩
     refine shW_env _ he41 ?_; clear he41
     refine shW_cond rfl (fun c42 => ?_) (fun c42 => ?_)
     · have r43 := bt r30 c42; clear r30
       refine shW_drawM [(.still, 0), (.still, 1), (.still, 2), (.still, 3), (.seq, 4)] (by kernel_rfl) (by kernel_rfl) (trivial) (by rfl) (by kernel_rfl) ?_
       refine shM_v (v := .int .i64 out2) (ek := [(7, .pointer (some ⟨b5, 0, none⟩))]) (Ls := [(b5, .cells #[.int .i64 out2] 3 (0, 0))]) rfl rfl rfl rfl ((sc rfl (sn _))) (by kernel_rfl) (s0 (s2 (s1 sr))) (fun H F' L' hF' hL' => v_load Try.isAgg3 rfl ((Has.own 0 rfl).ext hF' hL') rfl) ?_
       refine shM_v (v := .int .i64 k) (ek := [(8, .int .i64 k)]) (Ls := []) rfl rfl rfl rfl ((sc rfl (sn _))) (by kernel_rfl) sm (fun H F' L' hF' hL' => v_move rfl) ?_
       obtain ⟨g44, r45⟩ := gd_ok r43; clear r43
       refine shM_v (v := .int .i64 (shl 1 k)) (ek := [(48, .int .i64 k)]) (Ls := []) rfl rfl rfl rfl ((sc rfl (sn _))) (by kernel_rfl) sm (fun H F' L' hF' hL' => v_shl rfl rfl g44) ?_
       refine shM_v (v := .int .i64 (bor out2 (shl 1 k))) (ek := [(47, .int .i64 out2), (49, .int .i64 (shl 1 k))]) (Ls := []) rfl rfl rfl rfl ((sc rfl (sc rfl (sn _)))) (by kernel_rfl) sm (fun H F' L' hF' hL' => v_or rfl rfl) ?_
       refine ⟨_, [(7, .pointer (some ⟨b5, 0, none⟩)), (50, .int .i64 (bor out2 (shl 1 k)))], rfl, rfl, (sc rfl (sc rfl (sn _))), by kernel_rfl, ?_⟩; intro H
       refine o_store (i := 0) Try.sizeOf3 rfl rfl rfl rfl (Nat.le_of_ble_eq_true rfl) ?_
       refine shO_L (L' := [(b5, .cells #[.int .i64 (bor out2 (shl 1 k))] 3 (0, 0)), (cried_b, .map cried_es cried_cl)]) rfl ?_
       refine shO_nil ⟨undef, rfl, FExt.refl _, [], by kernel_rfl, .inl (.inl rfl), (fun _ h => absurd h List.not_mem_nil), ?_⟩
       refine shM_nil ?_
       refine inBlock_n (id := 1) (shW_region ?_)
       refine ov (v_add rfl rfl (Lst.r64 hk8 c13 (RowR.lt h_listens))) rfl ?_
       refine om rfl rfl (shO_nil ?_)
       subst hn9; exact le kr ⟨_, _, rfl, hk14, bor out2 (shl 1 k), r45, rfl, rfl, (sc rfl (sc rfl (sc rfl (sc rfl (sc rfl (sc rfl (sn _)))))))⟩
     have r46 := bf r30 c42; clear r30
     refine shW_skip (inBlock_n (id := 1) (shW_region ?_))
     refine ov (v_add rfl rfl (Lst.r64 hk8 c13 (RowR.lt h_listens))) rfl ?_
     refine om rfl rfl (shO_nil ?_)
     subst hn9; exact le kr ⟨_, _, rfl, hk14, out2, r46, rfl, rfl, (sc rfl (sc rfl (sc rfl (sc rfl (sc rfl (sc rfl (sn _)))))))⟩
   obtain rfl := Lst.zero hk8 c13
   rw [night_desk_cries_l1] at r10
   refine shW_exit (andThen_exit (andThen_exit ?_))
   refine inBlock_exit ?_
   obtain rfl := inj1 r10
   exact mi kr ⟨rfl, rfl, (sc rfl (sc rfl (sc rfl (sn _))))⟩
 rintro e1 _ _ ⟨rfl, rfl, he47⟩
 refine shW_env _ he47 ?_; clear he47
 refine shW_seq ?_
 refine shW_drawM [(.still, 0), (.still, 1), (.still, 2), (.still, 3), (.still, 4), (.still, 5), (.seq, 6)] (by kernel_rfl) (by kernel_rfl) (trivial) (by rfl) (by kernel_rfl) ?_
 refine shM_v (v := .pointer (some ⟨b_d, 0, none⟩)) (ek := [(0, .pointer (some ⟨b_d, 0, none⟩))]) (Ls := []) rfl rfl rfl rfl ((sc rfl (sn _))) (by kernel_rfl) sm (fun H F' L' hF' hL' => v_move rfl) ?_
 refine shM_v (v := .pointer (some ⟨b_d, 0, none⟩)) (ek := [(52, .pointer (some ⟨b_d, 0, none⟩))]) (Ls := []) rfl rfl rfl rfl ((sc rfl (sn _))) (by kernel_rfl) sm (fun H F' L' hF' hL' => v_nilCheck rfl) ?_
 refine shM_v (v := .pointer (some ⟨b_d, 2, none⟩)) (ek := [(53, .pointer (some ⟨b_d, 0, none⟩))]) (Ls := []) rfl rfl rfl rfl ((sc rfl (sn _))) (by kernel_rfl) sm (fun H F' L' hF' hL' => v_fieldAddr fa_139_1 rfl) ?_
 refine shM_v (v := .map (some cried_b)) (ek := [(54, .pointer (some ⟨b_d, 2, none⟩))]) (Ls := []) rfl rfl rfl rfl ((sc rfl (sn _))) (by kernel_rfl) sm (fun H F' L' hF' hL' => v_load Try.isAgg136 rfl ((Has.frozen hb_d).ext hF' hL') rfl) ?_
 refine shM_v (v := .int .i64 asleep) (ek := [(1, .int .i64 asleep)]) (Ls := []) rfl rfl rfl rfl ((sc rfl (sn _))) (by kernel_rfl) sm (fun H F' L' hF' hL' => v_move rfl) ?_
 refine shM_v (v := .int .i64 out) (ek := [(7, .pointer (some ⟨b5, 0, none⟩))]) (Ls := [(b5, .cells #[.int .i64 out] 3 (0, 0))]) rfl rfl rfl rfl ((sc rfl (sn _))) (by kernel_rfl) (s0 (s2 (s1 sr))) (fun H F' L' hF' hL' => v_load Try.isAgg3 rfl ((Has.own 0 rfl).ext hF' hL') rfl) ?_
 refine ⟨_, [(55, .map (some cried_b)), (56, .int .i64 asleep), (57, .int .i64 out)], rfl, rfl, (sc rfl (sc rfl (sc rfl (sn _)))), by kernel_rfl, ?_⟩; intro H
 refine o_mapUpdate (i := 1) (k := asleep) (v := out) Try.underlying136 (keyOK_int Try.underlying3) rfl rfl rfl rfl (show MapR (Value.int .i64) (Value.int .i64) cried_es (cried : List (Int × Int)) from h_cried) ?_; intro es48 cl49 hR50
 obtain ⟨met, h51, r52⟩ := bv_ok r7; clear r7
 rw [← h51] at hR50
 refine shO_L (L' := [(b5, .cells #[.int .i64 out] 3 (0, 0)), (cried_b, .map es48 cl49)]) rfl ?_
 refine shO_nil ⟨undef, rfl, FExt.refl _, [], by kernel_rfl, .inl (.inl rfl), (fun _ h => absurd h List.not_mem_nil), ?_⟩
 refine shM_nil ?_
 refine wsr ?_
 refine ov (v_load Try.isAgg3 rfl (Has.own 0 rfl) rfl) rfl ?_
 refine oa rfl rfl (shO_nil ?_)
 refine kW (kd kr) ?_
 refine shW_ret ?_
 refine q_res1 Try.results73 (res_tmp rfl) (sr) ?_
 obtain ⟨rfl, rfl⟩ := inj2 r52
 exact ⟨_, _, rfl, rfl, hR50⟩
set_option maxHeartbeats 1000000 in
theorem night_desk_wrong_w {b_d : Nat} {listens_a : Option Addr} {listens_c : Nat} {listens : List (List Int)} {hours_a : Option Addr} {hours_c : Nat} {hours : List (List Int)} {cried_b : Nat} {cried_es : Array MapEntry} {cried_cl : Nat} {cried : List (Int × Int)} {v1 : Value} {mb_d : Nat × Nat} {hour : Int} {asleep : Int} {F : FS} (hb_d : F b_d = some (.cells #[.slice listens_a listens.length listens_c, .slice hours_a hours.length hours_c, .map (some cried_b), v1] 139 mb_d)) (h_listens : RowR 1 (slE 1 (iE .i64)) F listens_a listens_c listens) (h_hours : RowR 1 (slE 1 (iE .i64)) F hours_a hours_c hours) (h_cried : MapR (Value.int .i64) (Value.int .i64) cried_es cried) {r : Int} {r2 : List (Int × Int)} (hr : night_desk_wrong listens hours cried hour asleep = some (r, r2)) :
    SH.Spec Try.prog 95 #[.pointer (some ⟨b_d, 0, none⟩), .int .i64 hour, .int .i64 asleep] F [(cried_b, .map cried_es cried_cl)] fun _ L' v => ∃ (cried_es2 : Array MapEntry) (cried_cl2 : Nat), v = .int .i64 r ∧ L' = [(cried_b, .map cried_es2 cried_cl2)] ∧ MapR (Value.int .i64) (Value.int .i64) cried_es2 r2 := by
 refine spec_of_shW (args := [.pointer (some ⟨b_d, 0, none⟩), .int .i64 hour, .int .i64 asleep]) Try.func95 rfl Try.ntmps95 (Nat.le_of_ble_eq_true rfl) ?_
 intro K _ _; rw [night_desk_wrong] at hr
 refine wsr (oa rfl rfl (nsr (om rfl rfl (om rfl rfl ?_))))
 obtain ⟨n, cried2, h2, r3⟩ := b2_ok hr; clear hr
 refine o_callG (Lb := [(cried_b, .map cried_es cried_cl)]) (Lr := []) rfl Try.call73 rfl rfl rfl (pR) (night_desk_cries_w hb_d h_listens h_hours h_cried h2) ?_; rintro _ F4 _ hF5 hd7 hn6 ⟨es8, cl9, rfl, rfl, hR10⟩
 replace h_hours := h_hours.mono (slE_ok (iE_ok _)) hF5
 replace hb_d := hF5 _ _ hb_d
 refine shO_L (lb (ln rfl)) ?_
 refine oa rfl rfl (nsr (oa rfl rfl (shO_nil ?_)))
 obtain ⟨out, h11, r12⟩ := b1_ok r3; clear r3
 refine shW_join (fun e1 F1 L1 => F4 = F1 ∧ L1 = [(cried_b, .map es8 cl9)] ∧ e1.sub [(8, .int .i64 out)]) ?_ ?_
 · clear r12
   refine wsr (om rfl rfl ?_)
   refine ov (v_nilCheck rfl) rfl ?_
   refine ov (v_fieldAddr fa_139_0 rfl) rfl ?_
   refine ov (v_fieldAddr fa_26_1 rfl) rfl ?_
   refine ov (v_load Try.isAgg24 rfl (Has.frozen hb_d) rfl) rfl ?_
   refine om rfl rfl ?_
   obtain ⟨x, g13, hx14, r15⟩ := ix_ok h11; clear h11
   obtain ⟨b16, o17, c18, vs19, ha20, hs21, hle22, ⟨a25, c26, rfl, h27⟩, hl23, hc24⟩ := RowR.at (slE_ok (iE_ok _)) h_hours ([(cried_b, .map es8 cl9)]) g13.1 hx14
   refine ov (v_indexO Try.underlying24 Try.sizeOf40 rfl ha20 rfl g13) rfl ?_
   refine ov (v_load Try.isAgg40 rfl hs21 (hc24 0 (by decide))) rfl ?_
   refine ov (v_lenS Try.underlying40 rfl) rfl ?_
   refine om rfl rfl (shO_nil ?_)
   refine shW_block ?_
   refine shW_lp (fun fu1 e1 F1 L1 => ∃ (tl : List Int) (k : Int), tl.length = fu1 ∧ Lst x k tl ∧ ∃ (out2 : Int), night_desk_wrong_l1 n tl k out2 = some out ∧ F4 = F1 ∧ L1 = [(cried_b, .map es8 cl9)] ∧ e1.sub [(7, .int .i64 n), (8, .int .i64 out2), (21, .slice a25 x.length c26), (22, .int .i64 (x.length : Int)), (23, .int .i64 k)]) _ (m0 kr ⟨_, _, rfl, Lst.start _, 0, r15, rfl, rfl, (sc rfl (sc rfl (sc rfl (sc rfl (sc rfl (sn _))))))⟩) ?_
   rintro fu1 e1 _ _ ⟨tl, k, hn29, hk28, out2, r30, rfl, rfl, he31⟩
   refine shW_env _ he31 ?_; clear he31
   refine wsr ?_
   refine ov (v_lssK rfl rfl) rfl ?_
   refine shO_nil (shW_seq ?_)
   refine shW_condP rfl (fun c33 => ?_) (fun c33 => ?_)
   · obtain ⟨x2, tl2, rfl, hx35, g36, hk34⟩ := Lst.succ hk28 c33
     rw [night_desk_wrong_l1] at r30
     refine shW_skip (shW_seq ?_)
     refine shW_block ?_
     refine wsr (om rfl rfl ?_)
     obtain ⟨b37, o38, c39, vs40, ha41, hs42, hle43, rfl, hl44, hc45⟩ := RowR.at (iE_ok _) h27 ([(cried_b, .map es8 cl9)]) g36.1 hx35
     refine ov (v_indexO Try.underlying40 Try.sizeOf41 rfl ha41 rfl g36) rfl ?_
     refine ov (v_load Try.isAgg41 rfl hs42 (hc45 0 (by decide))) rfl ?_
     refine oa rfl rfl (oa rfl rfl (shO_nil ?_))
     obtain ⟨k2, h46, r47⟩ := b1_ok r30; clear r30
     refine shW_join (fun e1 F1 L1 => F4 = F1 ∧ L1 = [(cried_b, .map es8 cl9)] ∧ e1.sub [(7, .int .i64 n), (8, .int .i64 out2), (9, .int .i64 k), (21, .slice a25 x.length c26), (22, .int .i64 (x.length : Int)), (23, .int .i64 k), (47, .bool k2)]) ?_ ?_
     · clear r47
       refine shW_region (om rfl rfl ?_)
       refine ov (v_eql rfl rfl) rfl ?_
       refine om rfl rfl ?_
       by_cases c48 : x2 = 1
       · have r49 := ite_t h46 c48; clear h46
         refine shO_on (b := true) 30 rfl (Env.isT rfl c48) (om rfl rfl (shO_on (b := true) 30 rfl (Env.isT rfl c48) (om rfl rfl (shO_on (b := true) 30 rfl (Env.isT rfl c48) ?_))))
         obtain ⟨g50, r51⟩ := gd_ok r49; clear r49
         refine ov (v_shr rfl rfl g50) rfl ?_
         refine shO_on (b := true) 30 rfl (Env.isT rfl c48) ?_
         refine ov (v_and rfl rfl) rfl ?_
         refine shO_on (b := true) 30 rfl (Env.isT rfl c48) ?_
         refine ov (v_eql rfl rfl) rfl ?_
         refine ov (v_pick_t (evD_true rfl c48) rfl) rfl ?_
         refine om rfl rfl ?_
         by_cases c52 : (band (shr n k) 1) = 0
         · have r53 := ite_t r51 c52; clear r51
           refine shO_off (b' := true) 37 rfl (Env.isT rfl c52) rfl rfl (shO_off (b' := true) 37 rfl (Env.isT rfl c52) rfl rfl (shO_off (b' := true) 37 rfl (Env.isT rfl c52) rfl rfl (shO_offU 40 rfl rfl rfl (shO_offU 40 rfl rfl rfl (shO_offU 40 rfl rfl rfl (shO_offU 40 rfl rfl rfl (shO_offU 40 rfl rfl rfl (shO_off (b' := true) 37 rfl (Env.isT rfl c52) rfl rfl ?_))))))))
           refine ov (v_pick_t (evD_true rfl c52) rfl) rfl ?_
           refine shO_nil ?_
           obtain rfl := inj1 r53
           exact mi kr ⟨rfl, rfl, (sc rfl (sc rfl (sc rfl (sc rfl (sc rfl (sc rfl (sc rfl (sn _))))))))⟩
         have r54 := ite_f r51 c52; clear r51
         refine shO_on (b := false) 37 rfl (Env.isF rfl c52) (om rfl rfl (shO_on (b := false) 37 rfl (Env.isF rfl c52) ?_))
         refine ov (v_eql rfl rfl) rfl ?_
         refine shO_on (b := false) 37 rfl (Env.isF rfl c52) (om rfl rfl ?_)
         by_cases c55 : x2 = 2
         · have r56 := ite_t r54 c55; clear r54
           refine shO_on (b := true) 40 rfl (Env.isT rfl c55) (om rfl rfl (shO_on (b := true) 40 rfl (Env.isT rfl c55) (om rfl rfl (shO_on (b := true) 40 rfl (Env.isT rfl c55) ?_))))
           obtain ⟨g57, r58⟩ := gd_ok r56; clear r56
           refine ov (v_shr rfl rfl g57) rfl ?_
           refine shO_on (b := true) 40 rfl (Env.isT rfl c55) ?_
           refine ov (v_and rfl rfl) rfl ?_
           refine shO_on (b := true) 40 rfl (Env.isT rfl c55) ?_
           refine ov (v_eql rfl rfl) rfl ?_
           refine shO_on (b := false) 37 rfl (Env.isF rfl c52) ?_
           refine ov (v_pick_t (evD_true rfl c55) rfl) rfl ?_
           refine ov (v_pick_f (evD_false rfl c52) rfl) rfl ?_
           refine shO_nil ?_
           obtain rfl := inj1 r58
           exact mi kr ⟨rfl, rfl, (sc rfl (sc rfl (sc rfl (sc rfl (sc rfl (sc rfl (sc rfl (sn _))))))))⟩
         have r59 := ite_f r54 c55; clear r54
         refine shO_off (b' := false) 40 rfl (Env.isF rfl c55) rfl rfl (shO_off (b' := false) 40 rfl (Env.isF rfl c55) rfl rfl (shO_off (b' := false) 40 rfl (Env.isF rfl c55) rfl rfl (shO_off (b' := false) 40 rfl (Env.isF rfl c55) rfl rfl (shO_off (b' := false) 40 rfl (Env.isF rfl c55) rfl rfl (shO_on (b := false) 37 rfl (Env.isF rfl c52) ?_)))))
         refine ov (v_pick_f (evD_false rfl c55) rfl) rfl ?_
         refine ov (v_pick_f (evD_false rfl c52) rfl) rfl ?_
         refine shO_nil ?_
         obtain rfl := inj1 r59
         exact mi kr ⟨rfl, rfl, (sc rfl (sc rfl (sc rfl (sc rfl (sc rfl (sc rfl (sc rfl (sn _))))))))⟩
       have r60 := ite_f h46 c48; clear h46
       refine shO_off (b' := false) 30 rfl (Env.isF rfl c48) rfl rfl (shO_off (b' := false) 30 rfl (Env.isF rfl c48) rfl rfl (shO_off (b' := false) 30 rfl (Env.isF rfl c48) rfl rfl (shO_off (b' := false) 30 rfl (Env.isF rfl c48) rfl rfl (shO_off (b' := false) 30 rfl (Env.isF rfl c48) rfl rfl ?_))))
       refine ov (v_pick_f (evD_false rfl c48) rfl) rfl ?_
       refine om rfl rfl (shO_on (b := false) 37 rfl rfl (om rfl rfl (shO_on (b := false) 37 rfl rfl ?_)))
       refine ov (v_eql rfl rfl) rfl ?_
       refine shO_on (b := false) 37 rfl rfl (om rfl rfl ?_)
       by_cases c61 : x2 = 2
       · have r62 := ite_t r60 c61; clear r60
         refine shO_on (b := true) 40 rfl (Env.isT rfl c61) (om rfl rfl (shO_on (b := true) 40 rfl (Env.isT rfl c61) (om rfl rfl (shO_on (b := true) 40 rfl (Env.isT rfl c61) ?_))))
         obtain ⟨g63, r64⟩ := gd_ok r62; clear r62
         refine ov (v_shr rfl rfl g63) rfl ?_
         refine shO_on (b := true) 40 rfl (Env.isT rfl c61) ?_
         refine ov (v_and rfl rfl) rfl ?_
         refine shO_on (b := true) 40 rfl (Env.isT rfl c61) ?_
         refine ov (v_eql rfl rfl) rfl ?_
         refine shO_on (b := false) 37 rfl rfl ?_
         refine ov (v_pick_t (evD_true rfl c61) rfl) rfl ?_
         refine ov (v_pick_f rfl rfl) rfl ?_
         refine shO_nil ?_
         obtain rfl := inj1 r64
         exact mi kr ⟨rfl, rfl, (sc rfl (sc rfl (sc rfl (sc rfl (sc rfl (sc rfl (sc rfl (sn _))))))))⟩
       have r65 := ite_f r60 c61; clear r60
       refine shO_off (b' := false) 40 rfl (Env.isF rfl c61) rfl rfl (shO_off (b' := false) 40 rfl (Env.isF rfl c61) rfl rfl (shO_off (b' := false) 40 rfl (Env.isF rfl c61) rfl rfl (shO_off (b' := false) 40 rfl (Env.isF rfl c61) rfl rfl (shO_off (b' := false) 40 rfl (Env.isF rfl c61) rfl rfl (shO_on (b := false) 37 rfl rfl ?_)))))
       refine ov (v_pick_f (evD_false rfl c61) rfl) rfl ?_
       refine ov (v_pick_f rfl rfl) rfl ?_
       refine shO_nil ?_
       obtain rfl := inj1 r65
       exact mi kr ⟨rfl, rfl, (sc rfl (sc rfl (sc rfl (sc rfl (sc rfl (sc rfl (sc rfl (sn _))))))))⟩
     rintro e1 _ _ ⟨rfl, rfl, he66⟩
     refine shW_env _ he66 ?_; clear he66
     refine shW_cond rfl (fun c67 => ?_) (fun c67 => ?_)
     · have r68 := bt r47 c67; clear r47
       refine shW_region (om rfl rfl (om rfl rfl ?_))
       obtain ⟨g69, r70⟩ := gd_ok r68; clear r68
       refine ov (v_shl rfl rfl g69) rfl ?_
       refine ov (v_or rfl rfl) rfl ?_
       refine oa rfl rfl (shO_nil (inBlock_n (id := 1) (shW_region ?_)))
       refine ov (v_add rfl rfl (Lst.r64 hk28 c33 (RowR.lt h27))) rfl ?_
       refine om rfl rfl (shO_nil ?_)
       subst hn29; exact le kr ⟨_, _, rfl, hk34, bor out2 (shl 1 k), r70, rfl, rfl, (sc rfl (sc rfl (sc rfl (sc rfl (sc rfl (sn _))))))⟩
     have r71 := bf r47 c67; clear r47
     refine shW_skip (inBlock_n (id := 1) (shW_region ?_))
     refine ov (v_add rfl rfl (Lst.r64 hk28 c33 (RowR.lt h27))) rfl ?_
     refine om rfl rfl (shO_nil ?_)
     subst hn29; exact le kr ⟨_, _, rfl, hk34, out2, r71, rfl, rfl, (sc rfl (sc rfl (sc rfl (sc rfl (sc rfl (sn _))))))⟩
   obtain rfl := Lst.zero hk28 c33
   rw [night_desk_wrong_l1] at r30
   refine shW_exit (andThen_exit (andThen_exit ?_))
   refine inBlock_exit ?_
   obtain rfl := inj1 r30
   exact mi kr ⟨rfl, rfl, (sc rfl (sn _))⟩
 rintro e1 _ _ ⟨rfl, rfl, he72⟩
 refine shW_env _ he72 ?_; clear he72
 refine wsr (om rfl rfl (oa rfl rfl (shO_nil (shW_ret ?_))))
 refine q_res1 Try.results95 (res_tmp rfl) (sr) ?_
 obtain ⟨rfl, rfl⟩ := inj2 r12
 exact ⟨_, _, rfl, rfl, hR10⟩
set_option maxHeartbeats 1000000 in
theorem night_opened_w {listens_a : Option Addr} {listens_c : Nat} {listens : List (List Int)} {hours_a : Option Addr} {hours_c : Nat} {hours : List (List Int)} {F : FS} (h_listens : RowR 1 (slE 1 (iE .i64)) F listens_a listens_c listens) (h_hours : RowR 1 (slE 1 (iE .i64)) F hours_a hours_c hours) {r : Option ((List (List Int)) × (List (List Int)) × (List (Int × Int)) × (List (List Bool)))} {r2 : Int} (hr : night_opened listens hours = some (r, r2)) :
    SH.Spec Try.prog 58 #[.agg #[.slice listens_a listens.length listens_c, .slice hours_a hours.length hours_c]] F [] fun F' L' v => ∃ (rv : Value) (rL : LH), v = .tuple #[rv, .int .i64 r2] ∧ L' = rL ++ [] ∧ OB_139 F' rv r rL := by
 refine spec_of_shW (args := [.agg #[.slice listens_a listens.length listens_c, .slice hours_a hours.length hours_c]]) Try.func58 rfl Try.ntmps58 (Nat.le_of_ble_eq_true rfl) ?_
 intro K _ _; rw [night_opened] at hr
 refine wsr ?_
 refine o_box rfl rfl ?_; intro b1 hb1
 refine oa rfl rfl (oa rfl rfl (shO_nil (shW_seq (wsr ?_))))
 refine ov (v_loadA (cs := #[.slice listens_a listens.length listens_c, .slice hours_a hours.length hours_c]) Try.isAgg26 Try.sizeOf26 rfl (Has.own 0 rfl) (Nat.le_of_ble_eq_true rfl) rfl) rfl ?_
 obtain ⟨n, h2, r3⟩ := b1_ok hr; clear hr
 refine o_callV rfl Try.call80 rfl rfl rfl (night_Check_w h_listens h_hours h2) ?_
 refine oa rfl rfl (nsr (om rfl rfl ?_))
 refine ov (v_neq rfl rfl) rfl ?_
 refine shO_nil ?_
 refine shW_condP rfl (fun c4 => ?_) (fun c4 => ?_)
 · have r5 := ite_t r3 c4; clear r3
   refine wsr (om rfl rfl (oa rfl rfl (oa rfl rfl (shO_nil ?_))))
   refine kW kn ?_
   refine shW_ret (andThen_ret ?_)
   refine q_res2 Try.results58 (res_tmp rfl) (res_tmp rfl) (sr) ?_
   obtain ⟨rfl, rfl⟩ := inj2 r5
   exact ⟨_, [], rfl, rfl, ob_139_nil _⟩
 have r6 := ite_f r3 c4; clear r3
 refine shW_skip (wsr ?_)
 refine ov (v_loadA (cs := #[.slice listens_a listens.length listens_c, .slice hours_a hours.length hours_c]) Try.isAgg26 Try.sizeOf26 rfl (Has.own 0 rfl) (Nat.le_of_ble_eq_true rfl) rfl) rfl ?_
 refine o_makeMap rfl ?_; intro b7 hb7
 refine ov (v_build (v := .agg #[.slice listens_a listens.length listens_c, .slice hours_a hours.length hours_c, .map (some b7), .slice none 0 0]) rfl (by intro w; kernel_rfl)) rfl ?_
 refine o_box rfl rfl ?_; intro b8 hb8
 refine oa rfl rfl (shO_nil ?_)
 obtain ⟨d_cried, d_rows, h18, r19⟩ := b2_ok r6; clear r6
 refine shW_join (fun e1 F1 L1 => ∃ (es9 : Array MapEntry) (cl10 : Nat) (a12 : Option Addr) (n16 : Nat) (c13 : Nat) (Lb14 : LH), FExt F F1 ∧ L1 = ((b8, .cells #[.slice listens_a listens.length listens_c, .slice hours_a hours.length hours_c, .map (some b7), .slice a12 n16 c13] 139 (0, 0)) :: ((b7, .map es9 cl10) :: (Lb14 ++ []))) ∧ e1.sub [(5, .pointer (some ⟨b8, 0, none⟩))] ∧ MapR (Value.int .i64) (Value.int .i64) es9 d_cried ∧ SlR K.w0.heap.size 135 64 (arE 64 cB) F1 a12 n16 c13 d_rows Lb14) ?_ ?_
 · clear r19
   refine wsr ?_
   refine ov (v_fieldAddr fa_26_1 rfl) rfl ?_
   refine ov (v_load Try.isAgg24 rfl (Has.own 2 rfl) rfl) rfl ?_
   refine ov (v_lenS Try.underlying24 rfl) rfl ?_
   refine om rfl rfl (shO_nil ?_)
   refine shW_block ?_
   refine kW (kc (kc kn)) ?_
   refine shW_lp (fun fu1 e1 F1 L1 => ∃ (tl : List (List Int)) (k : Int), tl.length = fu1 ∧ Lst hours k tl ∧ ∃ (d_cried2 : List (Int × Int)) (d_rows2 : List (List Bool)) (es20 : Array MapEntry) (cl21 : Nat) (a23 : Option Addr) (n27 : Nat) (c24 : Nat) (Lb25 : LH), night_opened_l1 listens hours tl k d_cried2 d_rows2 = some (d_cried, d_rows) ∧ FExt F F1 ∧ L1 = ((b8, .cells #[.slice listens_a listens.length listens_c, .slice hours_a hours.length hours_c, .map (some b7), .slice a23 n27 c24] 139 (0, 0)) :: ((b7, .map es20 cl21) :: (Lb25 ++ []))) ∧ e1.sub [(5, .pointer (some ⟨b8, 0, none⟩)), (20, .int .i64 (hours.length : Int)), (21, .int .i64 k)] ∧ MapR (Value.int .i64) (Value.int .i64) es20 d_cried2 ∧ SlR K.w0.heap.size 135 64 (arE 64 cB) F1 a23 n27 c24 d_rows2 Lb25) _ (m0 (kc (kc (ke kr))) ⟨_, _, rfl, Lst.start _, [], [], #[], 0, none, 0, 0, [], h18, FExt.refl _, rfl, (sc rfl (sc rfl (sc rfl (sn _)))), MapR.nil, SlR.nil _ _ _ _ _⟩) ?_
   rintro fu1 e1 F33 _ ⟨tl, k, hn30, hk29, d_cried2, d_rows2, es20, cl21, a23, n27, c24, Lb25, r31, hF34, rfl, he32, hR22, hz26⟩
   refine shW_env _ he32 ?_; clear he32
   replace h_listens := h_listens.mono (slE_ok (iE_ok _)) hF34
   replace h_hours := h_hours.mono (slE_ok (iE_ok _)) hF34
   refine wsr ?_
   refine ov (v_lssK rfl rfl) rfl ?_
   refine shO_nil (shW_seq ?_)
   refine shW_condP rfl (fun c36 => ?_) (fun c36 => ?_)
   · obtain ⟨x, tl2, rfl, hx38, g39, hk37⟩ := Lst.succ hk29 c36
     rw [night_opened_l1] at r31
     refine shW_skip ?_
     obtain ⟨d_cried3, d_rows3, h49, r50⟩ := b2_ok r31; clear r31
     refine shW_join (fun e1 F1 L1 => ∃ (es40 : Array MapEntry) (cl41 : Nat) (a43 : Option Addr) (n47 : Nat) (c44 : Nat) (Lb45 : LH), FExt F33 F1 ∧ L1 = ((b8, .cells #[.slice listens_a listens.length listens_c, .slice hours_a hours.length hours_c, .map (some b7), .slice a43 n47 c44] 139 (0, 0)) :: ((b7, .map es40 cl41) :: (Lb45 ++ []))) ∧ e1.sub [(5, .pointer (some ⟨b8, 0, none⟩)), (20, .int .i64 (hours.length : Int)), (21, .int .i64 k)] ∧ MapR (Value.int .i64) (Value.int .i64) es40 d_cried3 ∧ SlR K.w0.heap.size 135 64 (arE 64 cB) F1 a43 n47 c44 d_rows3 Lb45) ?_ ?_
     · clear r50
       refine shW_block ?_
       refine wsr (om rfl rfl (oa rfl rfl (nsr ?_)))
       refine o_alloc rfl Try.zeroValue135 ?_; intro b51 hb51
       refine shO_L (L' := (b51, .cells (arr cB (List.replicate 64 false)) 135 (0, 0)) :: ((b8, .cells #[.slice listens_a listens.length listens_c, .slice hours_a hours.length hours_c, .map (some b7), .slice a23 n27 c24] 139 (0, 0)) :: ((b7, .map es20 cl21) :: (Lb25 ++ [])))) rfl ?_
       refine shO_nil ?_
       obtain ⟨d_cried4, r3, h56, r57⟩ := b2_ok h49; clear h49
       refine shW_join (fun e1 F1 L1 => ∃ (es52 : Array MapEntry) (cl53 : Nat), FExt F33 F1 ∧ L1 = ((b51, .cells (arr cB r3) 135 (0, 0)) :: ((b8, .cells #[.slice listens_a listens.length listens_c, .slice hours_a hours.length hours_c, .map (some b7), .slice a23 n27 c24] 139 (0, 0)) :: ((b7, .map es52 cl53) :: (Lb25 ++ [])))) ∧ e1.sub [(5, .pointer (some ⟨b8, 0, none⟩)), (7, .pointer (some ⟨b51, 0, none⟩)), (20, .int .i64 (hours.length : Int)), (21, .int .i64 k)] ∧ MapR (Value.int .i64) (Value.int .i64) es52 d_cried4 ∧ r3.length = 64) ?_ ?_
       · clear r57
         refine wsr (om rfl rfl ?_)
         obtain ⟨n2, h58, r59⟩ := b1_ok h56; clear h56
         refine o_callT (Lt := [(b8, .cells #[.slice listens_a listens.length listens_c, .slice hours_a hours.length hours_c, .map (some b7), .slice a23 n27 c24] 139 (0, 0))]) (Lr := (b51, .cells (arr cB (List.replicate 64 false)) 135 (0, 0)) :: ((b7, .map es20 cl21) :: (Lb25 ++ []))) rfl Try.call72 rfl rfl rfl (((fC fO).trans (pC pR))) (fun F2 h2 h3 => by exact night_desk_sets_w (h3 (b8, .cells #[.slice listens_a listens.length listens_c, .slice hours_a hours.length hours_c, .map (some b7), .slice a23 n27 c24] 139 (0, 0)) (List.mem_cons_self ..)) (h_listens.mono (slE_ok (iE_ok _)) h2) (h_hours.mono (slE_ok (iE_ok _)) h2) h58) ?_
         refine om rfl rfl (shO_nil ?_)
         refine shW_block ?_
         obtain ⟨g64, r65⟩ := gd_ok r59; clear r59
         refine shW_lp (fun fu2 e1 F1 L1 => ∃ (k2 : Int), Ctr 0 n2 k2 fu2 ∧ ∃ (d_cried5 : List (Int × Int)) (r4 : List Bool) (es60 : Array MapEntry) (cl61 : Nat), night_opened_l2 listens hours k fu2 k2 d_cried5 r4 = some (d_cried4, r3) ∧ FExt F33 F1 ∧ L1 = ((b51, .cells (arr cB r4) 135 (0, 0)) :: ((b8, .cells #[.slice listens_a listens.length listens_c, .slice hours_a hours.length hours_c, .map (some b7), .slice a23 n27 c24] 139 (0, 0)) :: ((b7, .map es60 cl61) :: (Lb25 ++ [])))) ∧ e1.sub [(5, .pointer (some ⟨b8, 0, none⟩)), (6, .int .i64 k), (7, .pointer (some ⟨b51, 0, none⟩)), (20, .int .i64 (hours.length : Int)), (21, .int .i64 k), (25, .int .i64 n2), (26, .int .i64 k2)] ∧ MapR (Value.int .i64) (Value.int .i64) es60 d_cried5 ∧ r4.length = 64) _ (m0 kr ⟨_, Ctr.start _ _, d_cried2, List.replicate 64 false, es20, cl21, r65, FExt.refl _, rfl, (sc rfl (sc rfl (sc rfl (sc rfl (sc rfl (sc rfl (sc rfl (sn _)))))))), hR22, List.length_replicate⟩) ?_
         rintro fu2 e1 F70 _ ⟨k2, hk66, d_cried5, r4, es60, cl61, r68, hF71, rfl, he69, hR62, h63⟩
         refine shW_env _ he69 ?_; clear he69
         replace h_listens := h_listens.mono (slE_ok (iE_ok _)) hF71
         replace h_hours := h_hours.mono (slE_ok (iE_ok _)) hF71
         refine wsr ?_
         refine ov (v_lssK rfl rfl) rfl ?_
         refine shO_nil (shW_seq ?_)
         refine shW_condP rfl (fun c73 => ?_) (fun c73 => ?_)
         · obtain ⟨fu2, rfl, hk74⟩ := Ctr.succ hk66 c73
           rw [night_opened_l2] at r68
           refine shW_skip (shW_seq ?_)
           refine shW_block ?_
           refine wsr (om rfl rfl (oa rfl rfl (shO_nil (shW_region (om rfl rfl (om rfl rfl (om rfl rfl (om rfl rfl ?_))))))))
           obtain ⟨n3, cried, h75, r76⟩ := b2_ok r68; clear r68
           refine o_callTO (Lb := [(b7, .map es60 cl61)]) (Lt := [(b8, .cells #[.slice listens_a listens.length listens_c, .slice hours_a hours.length hours_c, .map (some b7), .slice a23 n27 c24] 139 (0, 0))]) (Lr := (b51, .cells (arr cB r4) 135 (0, 0)) :: (Lb25 ++ [])) rfl Try.call95 rfl rfl rfl (pT ((fC (fC fO)).trans (pC ((fC fO).trans (pC pR)))) (lb (ln (lb (ln rfl))))) (fun F2 h2 h3 => by exact night_desk_wrong_w (h3 (b8, .cells #[.slice listens_a listens.length listens_c, .slice hours_a hours.length hours_c, .map (some b7), .slice a23 n27 c24] 139 (0, 0)) (List.mem_cons_self ..)) (h_listens.mono (slE_ok (iE_ok _)) h2) (h_hours.mono (slE_ok (iE_ok _)) h2) hR62 h75) (fun _ _ _ _ hq => by obtain ⟨es81, cl82, rfl, rfl, hR83⟩ := hq; exact ⟨_, _, rfl, rfl, hR83⟩) ?_; rintro _ F77 _ hF78 hd80 hn79 ⟨es81, cl82, rfl, rfl, hR83⟩
           refine shO_L (lb (ln (lb (ln rfl)))) ?_
           refine ov (v_eql rfl rfl) rfl ?_
           obtain ⟨x2, g84, hx85, r86⟩ := ix_ok r76; clear r76
           refine ov (v_indexA Try.underlying135 Try.sizeOf4 rfl rfl (arr_lt h63 g84)) rfl ?_
           obtain ⟨r5, h88, r89⟩ := bv_ok r86; clear r86
           have h90 : r5.length = 64 := by rw [h88, List.length_set]; exact h63
           refine o_storeArr (i := 2) Try.sizeOf4 cB_ok rfl rfl rfl rfl (arr_lt h63 g84) h63 ?_
           refine shO_L (L' := (b7, .map es81 cl82) :: ((b8, .cells #[.slice listens_a listens.length listens_c, .slice hours_a hours.length hours_c, .map (some b7), .slice a23 n27 c24] 139 (0, 0)) :: ((b51, .cells (arr cB r5) 135 (0, 0)) :: (Lb25 ++ [])))) (by rw [h88]; rfl) ?_
           refine shO_nil (inBlock_n (id := 3) (shW_region ?_))
           refine ov (v_add rfl rfl (Ctr.r64 hk66 c73 g64)) rfl ?_
           refine om rfl rfl (shO_nil ?_)
           exact le (kf (fC (fC fO)) (kf (fC fO) kr)) ⟨_, hk74, cried, r5, es81, cl82, r89, (hF71.trans hF78), rfl, (sc rfl (sc rfl (sc rfl (sc rfl (sc rfl (sc rfl (sc rfl (sn _)))))))), hR83, h90⟩
         obtain rfl := Ctr.zero hk66 c73
         rw [night_opened_l2] at r68
         refine shW_exit (andThen_exit (andThen_exit ?_))
         refine inBlock_exit ?_
         obtain ⟨rfl, rfl⟩ := inj2 r68
         exact mi kr ⟨es60, cl61, hF71, rfl, (sc rfl (sc rfl (sc rfl (sc rfl (sn _))))), hR62, h63⟩
       rintro e1 F92 _ ⟨es52, cl53, hF93, rfl, he91, hR54, h55⟩
       refine shW_env _ he91 ?_; clear he91
       replace hz26 := hz26.mono (arE_ok (n := 64) (sz := 1) cB_ok) hF93
       refine shW_drawM [(.still, 0), (.still, 1), (.still, 2), (.still, 3), (.still, 4), (.still, 5), (.seq, 6), (.seq, 7), (.still, 8), (.still, 9), (.seq, 10)] (by kernel_rfl) (by kernel_rfl) (trivial) (by rfl) (by kernel_rfl) ?_
       refine shM_v (v := .pointer (some ⟨b8, 0, none⟩)) (ek := [(5, .pointer (some ⟨b8, 0, none⟩))]) (Ls := []) rfl rfl rfl rfl ((sc rfl (sn _))) (by kernel_rfl) sm (fun H F' L' hF' hL' => v_move rfl) ?_
       refine shM_v (v := .pointer (some ⟨b8, 0, none⟩)) (ek := [(5, .pointer (some ⟨b8, 0, none⟩))]) (Ls := []) rfl rfl rfl rfl ((sc rfl (sn _))) (by kernel_rfl) sm (fun H F' L' hF' hL' => v_move rfl) ?_
       refine shM_v (v := .pointer (some ⟨b8, 0, none⟩)) (ek := [(38, .pointer (some ⟨b8, 0, none⟩))]) (Ls := []) rfl rfl rfl rfl ((sc rfl (sn _))) (by kernel_rfl) sm (fun H F' L' hF' hL' => v_nilCheck rfl) ?_
       refine shM_v (v := .pointer (some ⟨b8, 3, none⟩)) (ek := [(39, .pointer (some ⟨b8, 0, none⟩))]) (Ls := []) rfl rfl rfl rfl ((sc rfl (sn _))) (by kernel_rfl) sm (fun H F' L' hF' hL' => v_fieldAddr fa_139_2 rfl) ?_
       refine shM_v (v := .slice a23 n27 c24) (ek := [(40, .pointer (some ⟨b8, 3, none⟩))]) (Ls := [(b8, .cells #[.slice listens_a listens.length listens_c, .slice hours_a hours.length hours_c, .map (some b7), .slice a23 n27 c24] 139 (0, 0))]) rfl rfl rfl rfl ((sc rfl (sn _))) (by kernel_rfl) (s0 (s1 (s2 (s1 (s3 sr))))) (fun H F' L' hF' hL' => v_load Try.isAgg137 rfl ((Has.own 0 rfl).ext hF' hL') rfl) ?_
       refine shM_v (v := .agg (arr cB r3)) (ek := [(7, .pointer (some ⟨b51, 0, none⟩))]) (Ls := [(b51, .cells (arr cB r3) 135 (0, 0))]) rfl rfl rfl rfl ((sc rfl (sn _))) (by kernel_rfl) (s0 (s2 (s1 (s1 (s3 sr))))) (fun H F' L' hF' hL' => v_loadW Try.isAgg135 Try.sizeOf135 rfl ((Has.own 0 rfl).ext hF' hL') (arr_sz cB_ok h55)) ?_
       refine ⟨_, [(42, .agg (arr cB r3))], rfl, rfl, (sc rfl (sn _)), by kernel_rfl, ?_⟩; intro H
       refine o_buildSlice (cs := arr cB r3) rfl rfl (buildSlice_arr slt_137 cB_ok h55 rfl (by decide)) ?_; intro b94 hb94
       refine shO_nil ⟨_, rfl, FExt.refl _, [4, 3, 2, 1, 0], by kernel_rfl, .inl (.inr (fun d h => by cases h; rfl)), (List.forall_mem_cons.2 ⟨s0 (s1 (s1 (s2 (s1 (s3 sr))))), (List.forall_mem_cons.2 ⟨sm, (List.forall_mem_cons.2 ⟨sm, (List.forall_mem_cons.2 ⟨sm, (List.forall_mem_cons.2 ⟨sm, (fun _ h => absurd h List.not_mem_nil)⟩)⟩)⟩)⟩)⟩), ?_⟩
       refine ⟨_, [(41, .slice a23 n27 c24), (43, .slice (some ⟨b94, 0, none⟩) 1 1)], rfl, rfl, (sc rfl (sc rfl (sn _))), by kernel_rfl, ?_⟩; intro H
       obtain ⟨l, h95, g96, r97⟩ := ap_ok r57; clear r57
       refine o_appZ (xs := d_rows2) (ys := [r3]) (zs := l) rfl slt_137 rfl rfl (Nat.le_refl _) (fun _ => .c (.c (.c (.c .h)))) hz26 (SrcR.box (vss := [(arr cB r3).toList]) (ys := [r3]) 0 rfl (arE_ok (n := 64) (sz := 1) cB_ok) (.cons ⟨rfl, h55⟩ .nil) (by simp) rfl) h95 g96 (by decide) ?_; intro a98 n102 c99 Lb100 hz101
       refine kO (kd kr) ?_
       refine shO_nil ⟨_, rfl, FExt.refl _, [0], by kernel_rfl, .inl (.inr (fun d h => by cases h; rfl)), (List.forall_mem_cons.2 ⟨sm, (fun _ h => absurd h List.not_mem_nil)⟩), ?_⟩
       refine shM_v (v := .pointer (some ⟨b8, 0, none⟩)) (ek := [(37, .pointer (some ⟨b8, 0, none⟩))]) (Ls := []) rfl rfl rfl rfl ((sc rfl (sn _))) (by kernel_rfl) sm (fun H F' L' hF' hL' => v_nilCheck rfl) ?_
       refine shM_v (v := .pointer (some ⟨b8, 3, none⟩)) (ek := [(45, .pointer (some ⟨b8, 0, none⟩))]) (Ls := []) rfl rfl rfl rfl ((sc rfl (sn _))) (by kernel_rfl) sm (fun H F' L' hF' hL' => v_fieldAddr fa_139_2 rfl) ?_
       refine ⟨_, [(44, .slice a98 n102 c99), (46, .pointer (some ⟨b8, 3, none⟩))], rfl, rfl, (sc rfl (sc rfl (sn _))), by kernel_rfl, ?_⟩; intro H
       refine o_store (i := 1) Try.sizeOf137 rfl rfl rfl rfl (Nat.le_of_ble_eq_true rfl) ?_
       refine shO_L (L' := (b51, .cells (arr cB r3) 135 (0, 0)) :: ((b8, .cells #[.slice listens_a listens.length listens_c, .slice hours_a hours.length hours_c, .map (some b7), .slice a98 n102 c99] 139 (0, 0)) :: ((b7, .map es52 cl53) :: (Lb100 ++ [])))) rfl ?_
       refine shO_nil ⟨undef, rfl, FExt.refl _, [], by kernel_rfl, .inl (.inl rfl), (fun _ h => absurd h List.not_mem_nil), ?_⟩
       refine shM_nil ?_
       refine inBlock_n (id := 1) ?_
       obtain ⟨rfl, rfl⟩ := inj2 r97
       exact mi (kd kr) ⟨es52, cl53, a98, n102, c99, Lb100, hF93, rfl, (sc rfl (sc rfl (sc rfl (sn _)))), hR54, hz101⟩
     rintro e1 F105 _ ⟨es40, cl41, a43, n47, c44, Lb45, hF106, rfl, he104, hR42, hz46⟩
     refine shW_env _ he104 ?_; clear he104
     replace h_hours := h_hours.mono (slE_ok (iE_ok _)) hF106
     refine shW_region ?_
     refine ov (v_add rfl rfl (Lst.r64 hk29 c36 (RowR.lt h_hours))) rfl ?_
     refine om rfl rfl (shO_nil ?_)
     subst hn30; exact le kr ⟨_, _, rfl, hk37, d_cried3, d_rows3, es40, cl41, a43, n47, c44, Lb45, r50, (hF34.trans hF106), rfl, (sc rfl (sc rfl (sc rfl (sn _)))), hR42, hz46⟩
   obtain rfl := Lst.zero hk29 c36
   rw [night_opened_l1] at r31
   refine shW_exit (andThen_exit (andThen_exit ?_))
   refine inBlock_exit ?_
   obtain ⟨rfl, rfl⟩ := inj2 r31
   exact mi kr ⟨es20, cl21, a23, n27, c24, Lb25, hF34, rfl, (sc rfl (sn _)), hR22, hz26⟩
 rintro e1 F108 _ ⟨es9, cl10, a12, n16, c13, Lb14, hF109, rfl, he107, hR11, hz15⟩
 refine shW_env _ he107 ?_; clear he107
 replace h_listens := h_listens.mono (slE_ok (iE_ok _)) hF109
 replace h_hours := h_hours.mono (slE_ok (iE_ok _)) hF109
 refine wsr (om rfl rfl (oa rfl rfl (oa rfl rfl (shO_nil ?_))))
 obtain rfl := (SlR.caps hz15).1
 refine shW_freezeR (Nat.le_refl _) (arE_ok (n := 64) (sz := 1) cB_ok) (fC (fC fP)) hz15 ?_; intro F110 hF111 h112
 replace h_listens := h_listens.mono (slE_ok (iE_ok _)) hF111
 replace h_hours := h_hours.mono (slE_ok (iE_ok _)) hF111
 refine shW_freeze 0 rfl hb8 ?_; intro F113 hF114 hz115
 refine shW_L (L' := [(b7, .map es9 cl10)]) rfl ?_
 replace h_listens := h_listens.mono (slE_ok (iE_ok _)) hF114
 replace h_hours := h_hours.mono (slE_ok (iE_ok _)) hF114
 replace h112 := h112.mono (arE_ok (n := 64) (sz := 1) cB_ok) hF114
 refine shW_ret ?_
 refine q_res2 Try.results58 (res_tmp rfl) (res_tmp rfl) (sr) ?_
 obtain ⟨rfl, rfl⟩ := inj2 r19
 exact ⟨_, [(b7, .map es9 cl10)], rfl, rfl, ob_139_mk hz115 h_listens h_hours hR11 h112⟩
set_option maxHeartbeats 1000000 in
theorem slices_Index_night_row_night_row_w {s__a : Option Addr} {s__c : Nat} {s_ : List (List Bool)} {v : List Bool} {F : FS} (h_s_ : RowR 64 (arE 64 cB) F s__a s__c s_) (h_v : v.length = 64) {r : Int} (hr : slices_Index_night_row_night_row s_ v = some r) :
    SpecV Try.prog 117 #[.slice s__a s_.length s__c, .agg (arr cB v)] F (.int .i64 r) := by
 refine spec_of_shW (args := [.slice s__a s_.length s__c, .agg (arr cB v)]) Try.func117 rfl Try.ntmps117 (Nat.le_of_ble_eq_true rfl) ?_
 intro K _ _; rw [slices_Index_night_row_night_row] at hr
 refine wsr ?_
 refine o_box rfl rfl ?_; intro b1 hb1
 refine oa rfl rfl (shO_nil ?_)
 refine shW_join (fun e1 F1 L1 => slices_Index_night_row_night_row_j1 = some r ∧ F = F1 ∧ L1 = [] ∧ e1.sub []) ?_ ?_
 · refine wsr (om rfl rfl ?_)
   refine ov (v_lenS Try.underlying137 rfl) rfl ?_
   refine om rfl rfl (shO_nil ?_)
   refine shW_block ?_
   refine shW_lp (fun fu2 e1 F1 L1 => ∃ (tl : List (List Bool)) (k : Int), tl.length = fu2 ∧ Lst s_ k tl ∧ slices_Index_night_row_night_row_l2 v tl k = some r ∧ F = F1 ∧ L1 = [(b1, .cells (arr cB v) 135 (0, 0))] ∧ e1.sub [(0, .slice s__a s_.length s__c), (3, .pointer (some ⟨b1, 0, none⟩)), (7, .int .i64 (s_.length : Int)), (8, .int .i64 k)]) _ (m0 kr ⟨_, _, rfl, Lst.start _, hr, rfl, rfl, (sc rfl (sc rfl (sc rfl (sc rfl (sn _)))))⟩) ?_
   rintro fu2 e1 _ _ ⟨tl, k, hn3, hk2, r4, rfl, rfl, he5⟩
   refine shW_env _ he5 ?_; clear he5
   refine wsr ?_
   refine ov (v_lssK rfl rfl) rfl ?_
   refine shO_nil (shW_seq ?_)
   refine shW_condP rfl (fun c7 => ?_) (fun c7 => ?_)
   · obtain ⟨x, tl2, rfl, hx9, g10, hk8⟩ := Lst.succ hk2 c7
     rw [slices_Index_night_row_night_row_l2] at r4
     refine shW_skip (shW_seq ?_)
     refine shW_block ?_
     refine wsr (om rfl rfl (oa rfl rfl ?_))
     refine nsd (by kernel_rfl) (by kernel_rfl) (by kernel_rfl) ?_
     refine qv (v_loadW Try.isAgg135 Try.sizeOf135 rfl (Has.own 0 rfl) (arr_sz cB_ok h_v)) rfl ?_
     refine qm rfl rfl (qm rfl rfl ?_)
     obtain ⟨b11, o12, c13, vs14, ha15, hs16, hle17, ⟨rfl, h20⟩, hl18, hc19⟩ := RowR.at (arE_ok (n := 64) (sz := 1) cB_ok) h_s_ ([(b1, .cells (arr cB v) 135 (0, 0))]) g10.1 hx9
     refine qv (v_indexO Try.underlying137 Try.sizeOf135 rfl ha15 rfl g10) rfl ?_
     refine qv (v_loadA (cs := arr cB x) Try.isAgg135 Try.sizeOf135 rfl hs16 hle17 (extract_cells hle17 hl18 hc19)) rfl ?_
     refine qv (v_eqA (eqga_135 _ _ _ _) (eqa_135 h_v h20) rfl rfl) rfl ?_
     refine shQ_nil ?_
     refine shW_condP rfl (fun c21 => ?_) (fun c21 => ?_)
     · have r22 := ite_t r4 c21; clear r4
       refine wsr (om rfl rfl (oa rfl rfl (shO_nil ?_)))
       refine kW kn ?_
       refine shW_ret (inBlock_ret (andThen_ret (andThen_ret (inBlock_ret (andThen_ret ?_)))))
       refine q_res1 Try.results117 (res_tmp rfl) (sr) ?_
       obtain rfl := inj1 r22
       exact rfl
     have r23 := ite_f r4 c21; clear r4
     refine shW_skip (inBlock_n (id := 1) (shW_region ?_))
     refine ov (v_add rfl rfl (Lst.r64 hk2 c7 (RowR.lt h_s_))) rfl ?_
     refine om rfl rfl (shO_nil ?_)
     subst hn3; exact le kr ⟨_, _, rfl, hk8, r23, rfl, rfl, (sc rfl (sc rfl (sc rfl (sc rfl (sn _)))))⟩
   obtain rfl := Lst.zero hk2 c7
   rw [slices_Index_night_row_night_row_l2] at r4
   refine shW_exit (andThen_exit (andThen_exit ?_))
   refine inBlock_exit ?_
   exact mi kn ⟨r4, rfl, rfl, (sn _)⟩
 rintro e1 _ _ ⟨r24, rfl, rfl, he25⟩
 refine shW_env _ he25 ?_; clear he25
 rw [slices_Index_night_row_night_row_j1] at r24
 refine wsr (oa rfl rfl (shO_nil (shW_ret ?_)))
 refine q_res1 Try.results117 (res_tmp rfl) (sr) ?_
 obtain rfl := inj1 r24
 exact rfl
set_option maxHeartbeats 1000000 in
theorem slices_Contains_night_row_night_row_w {s__a : Option Addr} {s__c : Nat} {s_ : List (List Bool)} {v : List Bool} {F : FS} (h_s_ : RowR 64 (arE 64 cB) F s__a s__c s_) (h_v : v.length = 64) {r : Bool} (hr : slices_Contains_night_row_night_row s_ v = some r) :
    SpecV Try.prog 101 #[.slice s__a s_.length s__c, .agg (arr cB v)] F (.bool r) := by
 refine spec_of_shW (args := [.slice s__a s_.length s__c, .agg (arr cB v)]) Try.func101 rfl Try.ntmps101 (Nat.le_of_ble_eq_true rfl) ?_
 intro K _ _; rw [slices_Contains_night_row_night_row] at hr
 refine wsr ?_
 refine o_box rfl rfl ?_; intro b1 hb1
 refine oa rfl rfl (nsr (om rfl rfl ?_))
 refine ov (v_loadW Try.isAgg135 Try.sizeOf135 rfl (Has.own 0 rfl) (arr_sz cB_ok h_v)) rfl ?_
 obtain ⟨n, h2, r3⟩ := b1_ok hr; clear hr
 refine o_callV rfl Try.call117 rfl rfl rfl (slices_Index_night_row_night_row_w h_s_ h_v h2) ?_
 refine ov (v_geqK rfl rfl) rfl ?_
 refine oa rfl rfl (shO_nil ?_)
 refine kW kn ?_
 refine shW_ret ?_
 refine q_res1 Try.results101 (res_tmp rfl) (sr) ?_
 obtain rfl := inj1 r3
 exact rfl
set_option maxHeartbeats 1000000 in
theorem night_desk_clash_w {b_d : Nat} {listens_a : Option Addr} {listens_c : Nat} {listens : List (List Int)} {hours_a : Option Addr} {hours_c : Nat} {hours : List (List Int)} {v1 : Value} {rows_a : Option Addr} {rows_c : Nat} {rows : List (List Bool)} {mb_d : Nat × Nat} {F : FS} (hb_d : F b_d = some (.cells #[.slice listens_a listens.length listens_c, .slice hours_a hours.length hours_c, v1, .slice rows_a rows.length rows_c] 139 mb_d)) (_h_listens : RowR 1 (slE 1 (iE .i64)) F listens_a listens_c listens) (_h_hours : RowR 1 (slE 1 (iE .i64)) F hours_a hours_c hours) (h_rows : RowR 64 (arE 64 cB) F rows_a rows_c rows) {r : Bool} (hr : night_desk_clash listens hours rows = some r) :
    SpecV Try.prog 60 #[.pointer (some ⟨b_d, 0, none⟩)] F (.bool r) := by
 refine spec_of_shW (args := [.pointer (some ⟨b_d, 0, none⟩)]) Try.func60 rfl Try.ntmps60 (Nat.le_of_ble_eq_true rfl) ?_
 intro K _ _; rw [night_desk_clash] at hr
 refine wsr (oa rfl rfl (nsr (om rfl rfl ?_)))
 refine ov (v_nilCheck rfl) rfl ?_
 refine ov (v_fieldAddr fa_139_2 rfl) rfl ?_
 refine ov (v_load Try.isAgg137 rfl (Has.frozen hb_d) rfl) rfl ?_
 refine ov (v_build (v := .agg (arr cB (List.replicate 64 false))) rfl (by intro w; kernel_rfl)) rfl ?_
 obtain ⟨ok, h2, r3⟩ := b1_ok hr; clear hr
 refine o_callV rfl Try.call101 rfl rfl rfl (slices_Contains_night_row_night_row_w h_rows List.length_replicate h2) ?_
 refine oa rfl rfl (shO_nil (shW_ret ?_))
 refine q_res1 Try.results60 (res_tmp rfl) (sr) ?_
 obtain rfl := inj1 r3
 exact rfl
set_option maxHeartbeats 1000000 in
theorem night_told_w {listens_a : Option Addr} {listens_c : Nat} {listens : List (List Int)} {hours_a : Option Addr} {hours_c : Nat} {hours : List (List Int)} {F : FS} (h_listens : RowR 1 (slE 1 (iE .i64)) F listens_a listens_c listens) (h_hours : RowR 1 (slE 1 (iE .i64)) F hours_a hours_c hours) {r : Option ((List (List Int)) × (List (List Int)) × (List (Int × Int)) × (List (List Bool)))} {r2 : Int} (hr : night_told listens hours = some (r, r2)) :
    SH.Spec Try.prog 55 #[.agg #[.slice listens_a listens.length listens_c, .slice hours_a hours.length hours_c]] F [] fun F' L' v => ∃ (rv : Value) (rL : LH), v = .tuple #[rv, .int .i64 r2] ∧ L' = rL ++ [] ∧ OB_139 F' rv r rL := by
 refine spec_of_shW (args := [.agg #[.slice listens_a listens.length listens_c, .slice hours_a hours.length hours_c]]) Try.func55 rfl Try.ntmps55 (Nat.le_of_ble_eq_true rfl) ?_
 intro K _ _; rw [night_told] at hr
 refine wsr ?_
 refine o_box rfl rfl ?_; intro b1 hb1
 refine oa rfl rfl (oa rfl rfl (nsr ?_))
 refine ov (v_loadA (cs := #[.slice listens_a listens.length listens_c, .slice hours_a hours.length hours_c]) Try.isAgg26 Try.sizeOf26 rfl (Has.own 0 rfl) (Nat.le_of_ble_eq_true rfl) rfl) rfl ?_
 obtain ⟨d, n, h2, r3⟩ := b2_ok hr; clear hr
 refine o_call0 rfl Try.call58 rfl rfl rfl (night_opened_w h_listens h_hours h2) ?_; rintro _ F4 _ hF5 hn6 ⟨v8, Lb10, rfl, rfl, hp9⟩
 refine shO_L (lp (ln rfl)) ?_
 refine kO (kf (fS fO) kr) ?_
 refine om rfl rfl (ox rfl rfl rfl (ox rfl rfl rfl (oa rfl rfl (oa rfl rfl (shO_nil (shW_seq (wsr (om rfl rfl ?_))))))))
 refine ov (v_neq rfl rfl) rfl ?_
 refine shO_nil ?_
 refine shW_condP rfl (fun c11 => ?_) (fun c11 => ?_)
 · have r12 := ite_t r3 c11; clear r3
   refine wsr (om rfl rfl (oa rfl rfl (oa rfl rfl (shO_nil ?_))))
   refine kW kn ?_
   refine shW_ret (andThen_ret ?_)
   refine q_res2 Try.results55 (res_tmp rfl) (res_tmp rfl) (sr) ?_
   obtain ⟨rfl, rfl⟩ := inj2 r12
   exact ⟨_, [], rfl, rfl, ob_139_nil _⟩
 have r13 := ite_f r3 c11; clear r3
 refine shW_skip (shW_seq (shW_seq ?_))
 obtain ⟨listens2, hours2, cried, rows, h14, r15⟩ := b4_ok r13; clear r13
 have h21 := hp9; rw [h14] at h21; obtain ⟨b16, m17, a22, c23, a25, c26, b28, es29, cl30, a32, c33, hv18, hz19, h24, h27, hR31, h34, hL20⟩ := ob_139_of h21; subst hv18; subst hL20
 refine shW_L (L' := [(b1, .cells #[.slice listens_a listens.length listens_c, .slice hours_a hours.length hours_c] 26 (0, 0)), (b28, .map es29 cl30)]) rfl ?_
 refine shW_region (om rfl rfl ?_)
 obtain ⟨ok, h35, r36⟩ := b1_ok r15; clear r15
 refine o_callV rfl Try.call60 rfl rfl rfl (night_desk_clash_w hz19 h24 h27 h34 h35) ?_
 refine shO_nil ?_
 refine shW_cond rfl (fun c37 => ?_) (fun c37 => ?_)
 · have r38 := bt r36 c37; clear r36
   refine wsr (oa rfl rfl (oa rfl rfl (shO_nil ?_)))
   refine kW kn ?_
   refine shW_ret (andThen_ret ?_)
   refine q_res2 Try.results55 (res_tmp rfl) (res_tmp rfl) (sr) ?_
   obtain ⟨rfl, rfl⟩ := inj2 r38
   exact ⟨_, [], rfl, rfl, ob_139_nil _⟩
 have r39 := bf r36 c37; clear r36
 refine shW_skip (wsr (om rfl rfl (oa rfl rfl (oa rfl rfl (shO_nil ?_)))))
 refine kW (kd kr) ?_
 refine shW_ret ?_
 refine q_res2 Try.results55 (res_tmp rfl) (res_tmp rfl) (sr) ?_
 obtain ⟨rfl, rfl⟩ := inj2 r39
 exact ⟨_, [(b28, .map es29 cl30)], rfl, rfl, ob_139_mk hz19 h24 h27 hR31 h34⟩
set_option maxHeartbeats 1000000 in
theorem night_desk_fit_1_w {b_d : Nat} {b_d_ : Nat} {listens_a : Option Addr} {listens_c : Nat} {listens : List (List Int)} {hours_a : Option Addr} {hours_c : Nat} {hours : List (List Int)} {v1 : Value} {rows_a : Option Addr} {rows_c : Nat} {rows : List (List Bool)} {mb_d_ : Nat × Nat} {mb_d : Nat × Nat} {b_hour : Nat} {hour : Int} {mb_hour : Nat × Nat} {F : FS} (hb_d : F b_d = some (.cells #[.pointer (some ⟨b_d_, 0, none⟩)] 105 mb_d)) (hb_d_ : F b_d_ = some (.cells #[.slice listens_a listens.length listens_c, .slice hours_a hours.length hours_c, v1, .slice rows_a rows.length rows_c] 139 mb_d_)) (h_listens : RowR 1 (slE 1 (iE .i64)) F listens_a listens_c listens) (h_hours : RowR 1 (slE 1 (iE .i64)) F hours_a hours_c hours) (h_rows : RowR 64 (arE 64 cB) F rows_a rows_c rows) (hb_hour : F b_hour = some (.cells #[.int .i64 hour] 3 mb_hour)) {xs : List Int} (hr : night_desk_fit_1 listens hours rows hour = some xs) :
    IterOK Try.prog 102 #[] #[.pointer (some ⟨b_d, 0, none⟩), .pointer (some ⟨b_hour, 0, none⟩)] F (fun x : Int => #[.int .i64 x]) xs := by
 intro G0 hG0 yv J Jx hJm hJxm hy Fc L0 hG hJ0
 replace hb_d := (hG0.trans hG) _ _ hb_d
 replace hb_d_ := (hG0.trans hG) _ _ hb_d_
 replace h_listens := h_listens.mono (slE_ok (iE_ok _)) (hG0.trans hG)
 replace h_hours := h_hours.mono (slE_ok (iE_ok _)) (hG0.trans hG)
 replace h_rows := h_rows.mono (arE_ok (n := 64) (sz := 1) cB_ok) (hG0.trans hG)
 replace hb_hour := (hG0.trans hG) _ _ hb_hour
 have hfull0 : xs = [] ++ xs := rfl
 show SH.Spec Try.prog 102 #[yv, .pointer (some ⟨b_d, 0, none⟩), .pointer (some ⟨b_hour, 0, none⟩)] Fc L0 _
 refine spec_of_shW (args := [yv, .pointer (some ⟨b_d, 0, none⟩), .pointer (some ⟨b_hour, 0, none⟩)]) Try.func102 rfl Try.ntmps102 (Nat.le_of_ble_eq_true rfl) ?_
 intro K _ _; rw [night_desk_fit_1] at hr; refine shW_L (L' := L0 ++ []) (by simp) ?_
 refine wsr ?_
 refine ov (v_load Try.isAgg105 rfl (Has.frozen hb_d) rfl) rfl ?_
 obtain ⟨n, h2, r3⟩ := b1_ok hr; clear hr
 refine o_callV rfl Try.call72 rfl rfl rfl (night_desk_sets_w hb_d_ h_listens h_hours h2) ?_
 refine om rfl rfl (shO_nil ?_)
 refine shW_block ?_
 obtain ⟨g9, r10⟩ := gd_ok r3; clear r3
 refine shW_lp (fun fu1 e1 F1 L1 => ∃ (k : Int), Ctr 0 n k fu1 ∧ ∃ (pre4 : List Int) (rem5 : List Int) (Lj6 : LH), night_desk_fit_1_l1 rows hour fu1 k = some rem5 ∧ FExt Fc F1 ∧ L1 = (Lj6 ++ []) ∧ e1.sub [(0, yv), (1, .pointer (some ⟨b_d, 0, none⟩)), (2, .pointer (some ⟨b_hour, 0, none⟩)), (6, .int .i64 n), (7, .int .i64 k)] ∧ xs = pre4 ++ rem5 ∧ J pre4 F1 Lj6 ∧ FExt G0 F1) _ (m0 kr ⟨_, Ctr.start _ _, [], xs, L0, r10, FExt.refl _, rfl, (sc rfl (sc rfl (sc rfl (sc rfl (sc rfl (sn _)))))), hfull0, hJ0, hG⟩) ?_
 rintro fu1 e1 F15 _ ⟨k, hk11, pre4, rem5, Lj6, r13, hF16, rfl, he14, hfull8, hJ7, hG⟩
 refine shW_env _ he14 ?_; clear he14
 replace h_rows := h_rows.mono (arE_ok (n := 64) (sz := 1) cB_ok) hF16
 replace hb_d_ := hF16 _ _ hb_d_
 replace hb_d := hF16 _ _ hb_d
 replace hb_hour := hF16 _ _ hb_hour
 refine wsr ?_
 refine ov (v_lssK rfl rfl) rfl ?_
 refine shO_nil (shW_seq ?_)
 refine shW_condP rfl (fun c18 => ?_) (fun c18 => ?_)
 · obtain ⟨fu1, rfl, hk19⟩ := Ctr.succ hk11 c18
   rw [night_desk_fit_1_l1] at r13
   refine shW_skip (shW_seq ?_)
   refine shW_block ?_
   refine wsr (om rfl rfl (oa rfl rfl (shO_nil (shW_seq ?_))))
   refine shW_drawM [(.still, 0), (.still, 1), (.still, 2), (.still, 3), (.still, 4), (.still, 5), (.still, 6), (.still, 7), (.still, 8), (.still, 9), (.still, 10), (.still, 11), (.seq, 12), (.still, 13), (.still, 14)] (by kernel_rfl) (by kernel_rfl) (trivial) (by rfl) (by kernel_rfl) ?_
   refine shM_v (v := .pointer (some ⟨b_d_, 0, none⟩)) (ek := [(1, .pointer (some ⟨b_d, 0, none⟩))]) (Ls := []) rfl rfl rfl rfl ((sc rfl (sn _))) (by kernel_rfl) sm (fun H F' L' hF' hL' => v_load Try.isAgg105 rfl ((Has.frozen hb_d).ext hF' hL') rfl) ?_
   refine shM_v (v := .pointer (some ⟨b_d_, 0, none⟩)) (ek := [(10, .pointer (some ⟨b_d_, 0, none⟩))]) (Ls := []) rfl rfl rfl rfl ((sc rfl (sn _))) (by kernel_rfl) sm (fun H F' L' hF' hL' => v_nilCheck rfl) ?_
   refine shM_v (v := .pointer (some ⟨b_d_, 3, none⟩)) (ek := [(11, .pointer (some ⟨b_d_, 0, none⟩))]) (Ls := []) rfl rfl rfl rfl ((sc rfl (sn _))) (by kernel_rfl) sm (fun H F' L' hF' hL' => v_fieldAddr fa_139_2 rfl) ?_
   refine shM_v (v := .slice rows_a rows.length rows_c) (ek := [(12, .pointer (some ⟨b_d_, 3, none⟩))]) (Ls := []) rfl rfl rfl rfl ((sc rfl (sn _))) (by kernel_rfl) sm (fun H F' L' hF' hL' => v_load Try.isAgg137 rfl ((Has.frozen hb_d_).ext hF' hL') rfl) ?_
   refine shM_v (v := .int .i64 hour) (ek := [(2, .pointer (some ⟨b_hour, 0, none⟩))]) (Ls := []) rfl rfl rfl rfl ((sc rfl (sn _))) (by kernel_rfl) sm (fun H F' L' hF' hL' => v_load Try.isAgg3 rfl ((Has.frozen hb_hour).ext hF' hL') rfl) ?_
   refine shM_v (v := .int .i64 k) (ek := [(4, .int .i64 k)]) (Ls := []) rfl rfl rfl rfl ((sc rfl (sn _))) (by kernel_rfl) sm (fun H F' L' hF' hL' => v_move rfl) ?_
   obtain ⟨x, g20, hx21, r22⟩ := ix_ok r13; clear r13
   obtain ⟨b23, o24, c25, vs26, ha27, hs28, hle29, ⟨rfl, h32⟩, hl30, hc31⟩ := RowR.at (arE_ok (n := 64) (sz := 1) cB_ok) h_rows ([]) g20.1 hx21
   refine shM_v (v := .pointer (some ⟨b23, o24 + (hour : Int).toNat * 64, none⟩)) (ek := [(13, .slice rows_a rows.length rows_c), (14, .int .i64 hour)]) (Ls := []) rfl rfl rfl rfl ((sc rfl (sc rfl (sn _)))) (by kernel_rfl) sm (fun H F' L' hF' hL' => v_indexO Try.underlying137 Try.sizeOf135 rfl ha27 rfl g20) ?_
   obtain ⟨x2, g33, hx34, r35⟩ := ix_ok r22; clear r22
   have hc36 := el_at cB_ok h32 hx34 hc31 hle29 hl30
   refine shM_v (v := .pointer (some ⟨b23, o24 + (hour : Int).toNat * 64 + (k : Int).toNat * 1, none⟩)) (ek := [(15, .int .i64 k), (16, .pointer (some ⟨b23, o24 + (hour : Int).toNat * 64, none⟩))]) (Ls := []) rfl rfl rfl rfl ((sc rfl (sc rfl (sn _)))) (by kernel_rfl) sm (fun H F' L' hF' hL' => v_indexA Try.underlying135 Try.sizeOf4 rfl rfl (arr_lt h32 g33)) ?_
   refine shM_v (v := .bool x2) (ek := [(17, .pointer (some ⟨b23, o24 + (hour : Int).toNat * 64 + (k : Int).toNat * 1, none⟩))]) (Ls := []) rfl rfl rfl rfl ((sc rfl (sn _))) (by kernel_rfl) sm (fun H F' L' hF' hL' => v_load Try.isAgg4 rfl (hs28.ext hF' hL') ((hc36).2.2 0 (by decide))) ?_
   refine shM_v (v := .bool x2) (ek := [(18, .bool x2)]) (Ls := []) rfl rfl rfl rfl ((sc rfl (sn _))) (by kernel_rfl) sm (fun H F' L' hF' hL' => v_move rfl) ?_
   rcases bool_two x2 with c37 | c37
   · have r38 := bt r35 c37; clear r35
     refine shM_vg 19 (v := yv) (ek := [(0, yv), (19, .bool x2)]) (Ls := []) rfl rfl (EnvB rfl c37) rfl rfl rfl ((sc rfl (sc rfl (sn _)))) (by kernel_rfl) sm (fun H F' L' hF' hL' => v_move rfl) ?_
     refine shM_vg 19 (v := .int .i64 k) (ek := [(4, .int .i64 k), (19, .bool x2)]) (Ls := []) rfl rfl (EnvB rfl c37) rfl rfl rfl ((sc rfl (sc rfl (sn _)))) (by kernel_rfl) sm (fun H F' L' hF' hL' => v_move rfl) ?_
     refine ⟨_, [(19, .bool x2), (20, yv), (21, .int .i64 k)], rfl, rfl, (sc rfl (sc rfl (sc rfl (sn _)))), by kernel_rfl, ?_⟩; intro H
     refine shO_on (b := true) 19 rfl (EnvB rfl c37) ?_
     obtain ⟨tl39, r41, hx40⟩ := yl_ok r38; clear r38
     refine o_callC (Lb := Lj6) (Lr := []) (vs := [.int .i64 k]) rfl rfl rfl fP (hy pre4 k tl39 (by rw [hfull8, hx40]) _ _ hG hJ7) ?_
     rintro v49 F42 Lj43 hF44 hz45; obtain ⟨yb46, rfl, hbt47, hbf48⟩ := yield_bool hz45
     replace hG := hG.trans hF44
     refine shO_nil ⟨_, rfl, hF44, [2, 1, 0], by kernel_rfl, .inl (.inr (fun d h => by cases h; rfl)), (List.forall_mem_cons.2 ⟨sm, (List.forall_mem_cons.2 ⟨sm, (List.forall_mem_cons.2 ⟨sm, (fun _ h => absurd h List.not_mem_nil)⟩)⟩)⟩), ?_⟩
     refine shM_vg 19 (v := .bool (!yb46)) (ek := [(19, .bool x2), (22, .bool yb46)]) (Ls := []) rfl rfl (EnvB rfl c37) rfl rfl rfl ((sc rfl (sc rfl (sn _)))) (by kernel_rfl) sm (fun H F' L' hF' hL' => v_notB rfl) ?_
     refine shM_v (v := .bool (!yb46)) (ek := [(19, .bool x2), (23, .bool (!yb46))]) (Ls := []) rfl rfl rfl rfl ((sc rfl (sc rfl (sn _)))) (by kernel_rfl) sm (fun H F' L' hF' hL' => v_pick_t (evB rfl c37) rfl) ?_
     refine shM_nil ?_
     refine shW_cond rfl (fun c50 => ?_) (fun c50 => ?_)
     · have hJ51 := hbf48 (by simpa using c50)
       refine shW_ret (inBlock_ret (andThen_ret (andThen_ret (inBlock_ret ?_))))
       refine q_end0s (.inl rfl) Try.results102 (sr) ?_
       exact .inr (by rw [List.append_nil]; exact hJ51)
     have hJ52 := hbt47 (by simpa using c50)
     have hfull53 : xs = (pre4 ++ [k]) ++ tl39 := by rw [hfull8, hx40]; simp
     refine shW_skip (inBlock_n (id := 1) (shW_region ?_))
     refine ov (v_add rfl rfl (Ctr.r64 hk11 c18 g9)) rfl ?_
     refine om rfl rfl (shO_nil ?_)
     exact le kr ⟨_, hk19, pre4 ++ [k], tl39, Lj43, r41, (hF16.trans hF44), rfl, (sc rfl (sc rfl (sc rfl (sc rfl (sc rfl (sn _)))))), hfull53, hJ52, hG⟩
   have r54 := bf r35 c37; clear r35
   refine shM_off (ek := [(19, .bool x2)]) (b' := false) 19 rfl rfl (EnvB rfl c37) rfl rfl rfl rfl (sc rfl (sn _)) (by kernel_rfl) ?_
   refine shM_off (ek := [(19, .bool x2)]) (b' := false) 19 rfl rfl (EnvB rfl c37) rfl rfl rfl rfl (sc rfl (sn _)) (by kernel_rfl) ?_
   refine ⟨_, [(19, .bool x2), (20, undef), (21, undef)], rfl, rfl, (sc rfl (sc rfl (sc rfl (sn _)))), by kernel_rfl, ?_⟩; intro H
   refine shO_off (b' := false) 19 rfl (EnvB rfl c37) rfl rfl ?_
   refine shO_nil ⟨_, rfl, FExt.refl _, [2, 1, 0], by kernel_rfl, .inl (.inr (fun d h => by cases h; rfl)), (List.forall_mem_cons.2 ⟨sm, (List.forall_mem_cons.2 ⟨sm, (List.forall_mem_cons.2 ⟨sm, (fun _ h => absurd h List.not_mem_nil)⟩)⟩)⟩), ?_⟩
   refine shM_off (ek := [(19, .bool x2)]) (b' := false) 19 rfl rfl (EnvB rfl c37) rfl rfl rfl rfl (sc rfl (sn _)) (by kernel_rfl) ?_
   refine shM_v (v := .bool false) (ek := [(19, .bool x2), (23, undef)]) (Ls := []) rfl rfl rfl rfl ((sc rfl (sc rfl (sn _)))) (by kernel_rfl) sm (fun H F' L' hF' hL' => v_pick_f (evB rfl c37) rfl) ?_
   refine shM_nil ?_
   refine shW_cond rfl (fun c55 => nomatch c55) (fun c55 => ?_)
   refine shW_skip (inBlock_n (id := 1) (shW_region ?_))
   refine ov (v_add rfl rfl (Ctr.r64 hk11 c18 g9)) rfl ?_
   refine om rfl rfl (shO_nil ?_)
   exact le kr ⟨_, hk19, pre4, rem5, Lj6, r54, hF16, rfl, (sc rfl (sc rfl (sc rfl (sc rfl (sc rfl (sn _)))))), hfull8, hJ7, hG⟩
 obtain rfl := Ctr.zero hk11 c18
 rw [night_desk_fit_1_l1] at r13
 refine shW_exit (andThen_exit (andThen_exit ?_))
 refine inBlock_exit ?_
 refine q_end0s (.inr rfl) Try.results102 (sr) ?_
 obtain rfl := inj1 r13
 exact .inl (by have e1 := hfull8; rw [List.append_nil] at e1; rw [List.append_nil, e1]; exact hJ7)
set_option maxHeartbeats 1000000 in
theorem night_desk_fit_w {b_d : Nat} {listens_a : Option Addr} {listens_c : Nat} {listens : List (List Int)} {hours_a : Option Addr} {hours_c : Nat} {hours : List (List Int)} {v1 : Value} {rows_a : Option Addr} {rows_c : Nat} {rows : List (List Bool)} {mb_d : Nat × Nat} {hour : Int} {F : FS} (hb_d : F b_d = some (.cells #[.slice listens_a listens.length listens_c, .slice hours_a hours.length hours_c, v1, .slice rows_a rows.length rows_c] 139 mb_d)) (h_listens : RowR 1 (slE 1 (iE .i64)) F listens_a listens_c listens) (h_hours : RowR 1 (slE 1 (iE .i64)) F hours_a hours_c hours) (h_rows : RowR 64 (arE 64 cB) F rows_a rows_c rows) {r : List Int} (hr : night_desk_fit listens hours rows hour = some r) :
    SH.Spec Try.prog 62 #[.pointer (some ⟨b_d, 0, none⟩), .int .i64 hour] F [] fun F' L' v => ∃ (rcp : Array Value), v = .func (.func 102) #[] rcp ∧ L' = [] ∧ IterOK Try.prog 102 #[] rcp F' (fun x : Int => #[.int .i64 x]) r := by
 refine spec_of_shW (args := [.pointer (some ⟨b_d, 0, none⟩), .int .i64 hour]) Try.func62 rfl Try.ntmps62 (Nat.le_of_ble_eq_true rfl) ?_
 intro K _ _; rw [night_desk_fit] at hr
 refine wsr ?_
 refine o_box rfl rfl ?_; intro b2 hb2
 refine o_box rfl rfl ?_; intro b3 hb3
 refine oa rfl rfl (nsr ?_)
 refine ov (v_makeFunc rfl rfl) rfl ?_
 refine oa rfl rfl (shO_nil ?_)
 refine shW_freeze 1 rfl hb2 ?_; intro F4 hF5 hz6
 refine shW_L (L' := [(b3, .cells #[.int .i64 hour] 3 (0, 0))]) rfl ?_
 replace h_listens := h_listens.mono (slE_ok (iE_ok _)) hF5
 replace h_hours := h_hours.mono (slE_ok (iE_ok _)) hF5
 replace h_rows := h_rows.mono (arE_ok (n := 64) (sz := 1) cB_ok) hF5
 replace hb_d := hF5 _ _ hb_d
 refine shW_freeze 0 rfl hb3 ?_; intro F7 hF8 hz9
 refine shW_L (L' := []) rfl ?_
 replace h_listens := h_listens.mono (slE_ok (iE_ok _)) hF8
 replace h_hours := h_hours.mono (slE_ok (iE_ok _)) hF8
 replace h_rows := h_rows.mono (arE_ok (n := 64) (sz := 1) cB_ok) hF8
 replace hb_d := hF8 _ _ hb_d
 replace hz6 := hF8 _ _ hz6
 obtain ⟨l, h10, r12⟩ := b1_ok hr; clear hr
 have hit11 : IterOK Try.prog 102 #[] #[.pointer (some ⟨b2, 0, none⟩), .pointer (some ⟨b3, 0, none⟩)] F7 (fun x : Int => #[.int .i64 x]) l := night_desk_fit_1_w hz6 hb_d h_listens h_hours h_rows hz9 h10
 refine shW_ret ?_
 refine q_res1 Try.results62 (res_tmp rfl) (sr) ?_
 obtain rfl := inj1 r12
 exact ⟨_, rfl, rfl, hit11⟩
set_option maxHeartbeats 1000000 in
theorem night_ones_w {set_ : Int} {F : FS} {r : Int} (hr : night_ones set_ = some r) :
    SpecV Try.prog 89 #[.int .i64 set_] F (.int .i64 r) := by
 refine spec_of_shW (args := [.int .i64 set_]) Try.func89 rfl Try.ntmps89 (Nat.le_of_ble_eq_true rfl) ?_
 intro K _ _; rw [night_ones] at hr
 refine wsr (oa rfl rfl (nsr (oa rfl rfl (shO_nil ?_))))
 obtain ⟨n, h1, r2⟩ := b1_ok hr; clear hr
 refine shW_join (fun e1 F1 L1 => F = F1 ∧ L1 = [] ∧ e1.sub [(3, .int .i64 n)]) ?_ ?_
 · clear r2
   refine shW_block ?_
   refine shW_lp (fun fu1 e1 F1 L1 => ∃ (set_2 : Int) (n2 : Int), night_ones_l1 fu1 set_2 n2 = some n ∧ F = F1 ∧ L1 = [] ∧ e1.sub [(0, .int .i64 set_2), (3, .int .i64 n2)]) FU (m0 kr ⟨set_, 0, h1, rfl, rfl, (sc rfl (sc rfl (sn _)))⟩) ?_
   rintro fu1 e1 _ _ ⟨set_2, n2, r5, rfl, rfl, he6⟩
   refine shW_env _ he6 ?_; clear he6
   rcases fu1 with _ | fu1
   · rw [night_ones_l1] at r5; cases r5
   rw [night_ones_l1] at r5
   refine shW_seq (wsr (om rfl rfl ?_))
   refine ov (v_gtrK rfl rfl) rfl ?_
   refine shO_nil ?_
   refine shW_condP rfl (fun c7 => ?_) (fun c7 => ?_)
   · have r8 := ite_t r5 c7; clear r5
     refine shW_skip (shW_seq ?_)
     refine shW_block ?_
     refine shW_region (om rfl rfl (om rfl rfl ?_))
     refine ov (v_and rfl rfl) rfl ?_
     obtain ⟨g9, r10⟩ := gd_ok r8; clear r8
     refine ov (v_add rfl rfl g9) rfl ?_
     refine oa rfl rfl (shO_nil (inBlock_n (id := 1) (shW_region (om rfl rfl ?_))))
     refine ov (v_shr rfl rfl (by decide)) rfl ?_
     refine oa rfl rfl (shO_nil ?_)
     exact le kr ⟨shr set_2 1, n2 + (band set_2 1), r10, rfl, rfl, (sc rfl (sc rfl (sn _)))⟩
   have r11 := ite_f r5 c7; clear r5
   refine shW_exit (andThen_exit (andThen_exit ?_))
   refine inBlock_exit ?_
   obtain rfl := inj1 r11
   exact mi kr ⟨rfl, rfl, (sc rfl (sn _))⟩
 rintro e1 _ _ ⟨rfl, rfl, he12⟩
 refine shW_env _ he12 ?_; clear he12
 refine wsr (om rfl rfl (oa rfl rfl (shO_nil (shW_ret ?_))))
 refine q_res1 Try.results89 (res_tmp rfl) (sr) ?_
 obtain rfl := inj1 r2
 exact rfl
set_option maxHeartbeats 1000000 in
theorem night_fallen_w {before : Int} {set_ : Int} {F : FS} {r : Int} (hr : night_fallen before set_ = some r) :
    SpecV Try.prog 63 #[.int .i64 before, .int .i64 set_] F (.int .i64 r) := by
 refine spec_of_shW (args := [.int .i64 before, .int .i64 set_]) Try.func63 rfl Try.ntmps63 (Nat.le_of_ble_eq_true rfl) ?_
 intro K _ _; rw [night_fallen] at hr
 refine wsr (oa rfl rfl (nsr (om rfl rfl (om rfl rfl ?_))))
 refine ov (v_andNot rfl rfl) rfl ?_
 obtain ⟨n, h1, r2⟩ := b1_ok hr; clear hr
 refine o_callV rfl Try.call89 rfl rfl rfl (night_ones_w h1) ?_
 refine oa rfl rfl (shO_nil (shW_ret ?_))
 refine q_res1 Try.results63 (res_tmp rfl) (sr) ?_
 obtain rfl := inj1 r2
 exact rfl
set_option maxHeartbeats 1000000 in
theorem night_least_w {n : Int} {more_a : Option Addr} {more_c : Nat} {more : List Int} {F : FS} (h_more : RowR 1 (iE .i64) F more_a more_c more) {r : Int} (hr : night_least n more = some r) :
    SpecV Try.prog 64 #[.int .i64 n, .slice more_a more.length more_c] F (.int .i64 r) := by
 refine spec_of_shW (args := [.int .i64 n, .slice more_a more.length more_c]) Try.func64 rfl Try.ntmps64 (Nat.le_of_ble_eq_true rfl) ?_
 intro K _ _; rw [night_least] at hr
 refine wsr (oa rfl rfl (shO_nil ?_))
 obtain ⟨n2, h1, r2⟩ := b1_ok hr; clear hr
 refine shW_join (fun e1 F1 L1 => F = F1 ∧ L1 = [] ∧ e1.sub [(0, .int .i64 n2)]) ?_ ?_
 · clear r2
   refine wsr (om rfl rfl ?_)
   refine ov (v_lenS Try.underlying27 rfl) rfl ?_
   refine om rfl rfl (shO_nil ?_)
   refine shW_block ?_
   refine shW_lp (fun fu1 e1 F1 L1 => ∃ (tl : List Int) (k : Int), tl.length = fu1 ∧ Lst more k tl ∧ ∃ (n3 : Int), night_least_l1 tl n3 = some n2 ∧ F = F1 ∧ L1 = [] ∧ e1.sub [(0, .int .i64 n3), (7, .slice more_a more.length more_c), (8, .int .i64 (more.length : Int)), (9, .int .i64 k)]) _ (m0 kr ⟨_, _, rfl, Lst.start _, n, h1, rfl, rfl, (sc rfl (sc rfl (sc rfl (sc rfl (sn _)))))⟩) ?_
   rintro fu1 e1 _ _ ⟨tl, k, hn4, hk3, n3, r5, rfl, rfl, he6⟩
   refine shW_env _ he6 ?_; clear he6
   refine wsr ?_
   refine ov (v_lssK rfl rfl) rfl ?_
   refine shO_nil (shW_seq ?_)
   refine shW_condP rfl (fun c8 => ?_) (fun c8 => ?_)
   · obtain ⟨x, tl2, rfl, hx10, g11, hk9⟩ := Lst.succ hk3 c8
     rw [night_least_l1] at r5
     refine shW_skip (shW_seq ?_)
     refine shW_block ?_
     refine wsr ?_
     obtain ⟨b12, o13, c14, vs15, ha16, hs17, hle18, rfl, hl19, hc20⟩ := RowR.at (iE_ok _) h_more ([]) g11.1 hx10
     refine ov (v_indexO Try.underlying27 Try.sizeOf3 rfl ha16 rfl g11) rfl ?_
     refine ov (v_load Try.isAgg3 rfl hs17 (hc20 0 (by decide))) rfl ?_
     refine oa rfl rfl (shO_nil (shW_region (om rfl rfl (om rfl rfl ?_))))
     refine ov (v_min2 rfl rfl) rfl ?_
     refine oa rfl rfl (shO_nil (inBlock_n (id := 1) (shW_region ?_)))
     refine ov (v_add rfl rfl (Lst.r64 hk3 c8 (RowR.lt h_more))) rfl ?_
     refine om rfl rfl (shO_nil ?_)
     subst hn4; exact le kr ⟨_, _, rfl, hk9, if x < n3 then x else n3, r5, rfl, rfl, (sc rfl (sc rfl (sc rfl (sc rfl (sn _)))))⟩
   obtain rfl := Lst.zero hk3 c8
   rw [night_least_l1] at r5
   refine shW_exit (andThen_exit (andThen_exit ?_))
   refine inBlock_exit ?_
   obtain rfl := inj1 r5
   exact mi kr ⟨rfl, rfl, (sc rfl (sn _))⟩
 rintro e1 _ _ ⟨rfl, rfl, he21⟩
 refine shW_env _ he21 ?_; clear he21
 refine wsr (om rfl rfl (oa rfl rfl (shO_nil (shW_ret ?_))))
 refine q_res1 Try.results64 (res_tmp rfl) (sr) ?_
 obtain rfl := inj1 r2
 exact rfl
set_option maxHeartbeats 1000000 in
theorem night_desk_rest_w {b_d : Nat} {listens_a : Option Addr} {listens_c : Nat} {listens : List (List Int)} {hours_a : Option Addr} {hours_c : Nat} {hours : List (List Int)} {v1 : Value} {rows_a : Option Addr} {rows_c : Nat} {rows : List (List Bool)} {mb_d : Nat × Nat} {ok_f : FuncId} {ok_1 : Array Value} {ok_2 : Array Value} {ok : Int → Option Bool} {F : FS} (hb_d : F b_d = some (.cells #[.slice listens_a listens.length listens_c, .slice hours_a hours.length hours_c, v1, .slice rows_a rows.length rows_c] 139 mb_d)) (h_listens : RowR 1 (slE 1 (iE .i64)) F listens_a listens_c listens) (h_hours : RowR 1 (slE 1 (iE .i64)) F hours_a hours_c hours) (h_rows : RowR 64 (arE 64 cB) F rows_a rows_c rows) (h_ok : FnR Try.prog F ok_f ok_1 ok_2 (iE .i64) Value.bool ok) {r : List (List Int)} (hr : night_desk_rest listens hours rows ok = some r) :
    SH.Spec Try.prog 99 #[.pointer (some ⟨b_d, 0, none⟩), .agg #[.func (.func ok_f) ok_1 ok_2]] F [] fun F' L' v => ∃ (ra : Option Addr) (rn : Nat) (rc : Nat) (rL : LH), v = .slice ra rn rc ∧ L' = rL ++ [] ∧ SlR 0 116 64 (arE 64 (cI .i64)) F' ra rn rc r rL := by
 refine spec_of_shW (args := [.pointer (some ⟨b_d, 0, none⟩), .agg #[.func (.func ok_f) ok_1 ok_2]]) Try.func99 rfl Try.ntmps99 (Nat.le_of_ble_eq_true rfl) ?_
 intro K _ _; rw [night_desk_rest] at hr
 refine wsr ?_
 refine o_box rfl rfl ?_; intro b2 hb2
 refine oa rfl rfl (nsr (om rfl rfl ?_))
 refine ov (v_nilCheck rfl) rfl ?_
 refine ov (v_fieldAddr fa_139_0 rfl) rfl ?_
 refine ov (v_fieldAddr fa_26_1 rfl) rfl ?_
 refine ov (v_load Try.isAgg24 rfl (Has.frozen hb_d) rfl) rfl ?_
 refine ov (v_lenS Try.underlying24 rfl) rfl ?_
 obtain ⟨g3, r4⟩ := gd_ok hr; clear hr
 obtain ⟨l, h5, r6⟩ := bv_ok r4; clear r4
 refine o_makeZ (R := (arE 64 (cI .i64))) (z0 := List.replicate 64 0) (zs := l) rfl slt_145 (by decide) (arE_ok (n := 64) (sz := 1) (cI_ok .i64)) (fun _ => ⟨rfl, rfl⟩) rfl g3 h5 (fun _ => .c .n) ?_; intro a7 n10 Lb8 hz9
 refine o_alloc rfl Try.zeroValue145 ?_; intro b12 hb12
 refine o_store (i := 0) Try.sizeOf145 rfl rfl rfl rfl (Nat.le_of_ble_eq_true rfl) ?_
 refine shO_L (L' := (b12, .cells #[.slice a7 n10 n10] 145 (0, 0)) :: ((b2, .cells #[.func (.func ok_f) ok_1 ok_2] 111 (0, 0)) :: (Lb8 ++ []))) rfl ?_
 refine shO_nil ?_
 obtain ⟨out, h15, r16⟩ := b1_ok r6; clear r6
 refine shW_join (fun e1 F1 L1 => ∃ (Lb13 : LH), FExt F F1 ∧ L1 = ((b12, .cells #[.slice a7 n10 n10] 145 (0, 0)) :: (Lb13 ++ [])) ∧ e1.sub [(5, .pointer (some ⟨b12, 0, none⟩))] ∧ SlR K.w0.heap.size 116 64 (arE 64 (cI .i64)) F1 a7 n10 n10 out Lb13) ?_ ?_
 · clear r16
   refine wsr (om rfl rfl ?_)
   refine ov (v_nilCheck rfl) rfl ?_
   refine ov (v_fieldAddr fa_139_0 rfl) rfl ?_
   refine ov (v_fieldAddr fa_26_1 rfl) rfl ?_
   refine ov (v_load Try.isAgg24 rfl (Has.frozen hb_d) rfl) rfl ?_
   refine ov (v_lenS Try.underlying24 rfl) rfl ?_
   obtain ⟨g17, r18⟩ := gd_ok h15; clear h15
   refine ov (v_sub rfl rfl g17) rfl ?_
   refine o_alloc rfl Try.zeroValue3 ?_; intro b19 hb19
   refine o_store (i := 0) Try.sizeOf3 rfl rfl rfl rfl (Nat.le_of_ble_eq_true rfl) ?_
   refine shO_L (L' := (b19, .cells #[.int .i64 ((hours.length : Int) - 2)] 3 (0, 0)) :: ((b12, .cells #[.slice a7 n10 n10] 145 (0, 0)) :: ((b2, .cells #[.func (.func ok_f) ok_1 ok_2] 111 (0, 0)) :: (Lb8 ++ [])))) rfl ?_
   refine shO_nil ?_
   refine shW_block ?_
   refine shW_lp (fun fu1 e1 F1 L1 => ∃ (out2 : List (List Int)) (h : Int) (Lb20 : LH) (b22 : Nat), night_desk_rest_l1 listens hours rows ok fu1 out2 h = some out ∧ FExt F F1 ∧ L1 = ((b22, .cells #[.int .i64 h] 3 (0, 0)) :: ((b12, .cells #[.slice a7 n10 n10] 145 (0, 0)) :: ((b2, .cells #[.func (.func ok_f) ok_1 ok_2] 111 (0, 0)) :: (Lb20 ++ [])))) ∧ e1.sub [(0, .pointer (some ⟨b_d, 0, none⟩)), (3, .pointer (some ⟨b2, 0, none⟩)), (5, .pointer (some ⟨b12, 0, none⟩)), (6, .pointer (some ⟨b22, 0, none⟩))] ∧ SlR K.w0.heap.size 116 64 (arE 64 (cI .i64)) F1 a7 n10 n10 out2 Lb20 ∧ K.w0.heap.size ≤ b22) FU (m0 kr ⟨l, (hours.length : Int) - 2, Lb8, b19, r18, FExt.refl _, rfl, (sc rfl (sc rfl (sc rfl (sc rfl (sn _))))), hz9, hb19⟩) ?_
   rintro fu1 e1 F28 _ ⟨out2, h, Lb20, b22, r26, hF29, rfl, he27, hz21, hb23⟩
   refine shW_env _ he27 ?_; clear he27
   replace h_listens := h_listens.mono (slE_ok (iE_ok _)) hF29
   replace h_hours := h_hours.mono (slE_ok (iE_ok _)) hF29
   replace h_rows := h_rows.mono (arE_ok (n := 64) (sz := 1) cB_ok) hF29
   replace h_ok := h_ok.mono hF29
   replace hb_d := hF29 _ _ hb_d
   rcases fu1 with _ | fu1
   · rw [night_desk_rest_l1] at r26; cases r26
   rw [night_desk_rest_l1] at r26
   refine shW_seq (wsr ?_)
   refine ov (v_load Try.isAgg3 rfl (Has.own 0 rfl) rfl) rfl ?_
   refine ov (v_geqK rfl rfl) rfl ?_
   refine shO_nil ?_
   refine shW_condP rfl (fun c30 => ?_) (fun c30 => ?_)
   · have r31 := ite_t r26 c30; clear r26
     refine shW_skip ?_
     obtain ⟨out3, h34, r35⟩ := b1_ok r31; clear r31
     refine shW_join (fun e1 F1 L1 => ∃ (Lb32 : LH), FExt F28 F1 ∧ L1 = ((b22, .cells #[.int .i64 h] 3 (0, 0)) :: ((b12, .cells #[.slice a7 n10 n10] 145 (0, 0)) :: ((b2, .cells #[.func (.func ok_f) ok_1 ok_2] 111 (0, 0)) :: (Lb32 ++ [])))) ∧ e1.sub [(0, .pointer (some ⟨b_d, 0, none⟩)), (3, .pointer (some ⟨b2, 0, none⟩)), (5, .pointer (some ⟨b12, 0, none⟩)), (6, .pointer (some ⟨b22, 0, none⟩))] ∧ SlR K.w0.heap.size 116 64 (arE 64 (cI .i64)) F1 a7 n10 n10 out3 Lb32) ?_ ?_
     · clear r35
       refine shW_block ?_
       refine wsr (om rfl rfl ?_)
       obtain ⟨n, h36, r37⟩ := b1_ok h34; clear h34
       refine o_callV rfl Try.call72 rfl rfl rfl (night_desk_sets_w hb_d h_listens h_hours h36) ?_
       refine om rfl rfl (shO_nil ?_)
       refine shW_block ?_
       obtain ⟨g40, r41⟩ := gd_ok r37; clear r37
       refine shW_lp (fun fu2 e1 F1 L1 => ∃ (k : Int), Ctr 0 n k fu2 ∧ ∃ (out4 : List (List Int)) (Lb38 : LH), night_desk_rest_l2 listens hours rows ok h fu2 k out4 = some out3 ∧ FExt F28 F1 ∧ L1 = ((b22, .cells #[.int .i64 h] 3 (0, 0)) :: ((b12, .cells #[.slice a7 n10 n10] 145 (0, 0)) :: ((b2, .cells #[.func (.func ok_f) ok_1 ok_2] 111 (0, 0)) :: (Lb38 ++ [])))) ∧ e1.sub [(0, .pointer (some ⟨b_d, 0, none⟩)), (3, .pointer (some ⟨b2, 0, none⟩)), (5, .pointer (some ⟨b12, 0, none⟩)), (6, .pointer (some ⟨b22, 0, none⟩)), (28, .int .i64 n), (29, .int .i64 k)] ∧ SlR K.w0.heap.size 116 64 (arE 64 (cI .i64)) F1 a7 n10 n10 out4 Lb38) _ (m0 kr ⟨_, Ctr.start _ _, out2, Lb20, r41, FExt.refl _, rfl, (sc rfl (sc rfl (sc rfl (sc rfl (sc rfl (sc rfl (sn _))))))), hz21⟩) ?_
       rintro fu2 e1 F46 _ ⟨k, hk42, out4, Lb38, r44, hF47, rfl, he45, hz39⟩
       refine shW_env _ he45 ?_; clear he45
       replace h_listens := h_listens.mono (slE_ok (iE_ok _)) hF47
       replace h_hours := h_hours.mono (slE_ok (iE_ok _)) hF47
       replace h_rows := h_rows.mono (arE_ok (n := 64) (sz := 1) cB_ok) hF47
       replace h_ok := h_ok.mono hF47
       replace hb_d := hF47 _ _ hb_d
       refine wsr ?_
       refine ov (v_lssK rfl rfl) rfl ?_
       refine shO_nil (shW_seq ?_)
       refine shW_condP rfl (fun c49 => ?_) (fun c49 => ?_)
       · obtain ⟨fu2, rfl, hk50⟩ := Ctr.succ hk42 c49
         rw [night_desk_rest_l2] at r44
         refine shW_skip ?_
         obtain ⟨out5, h53, r54⟩ := b1_ok r44; clear r44
         refine shW_join (fun e1 F1 L1 => ∃ (Lb51 : LH), FExt F46 F1 ∧ L1 = ((b22, .cells #[.int .i64 h] 3 (0, 0)) :: ((b12, .cells #[.slice a7 n10 n10] 145 (0, 0)) :: ((b2, .cells #[.func (.func ok_f) ok_1 ok_2] 111 (0, 0)) :: (Lb51 ++ [])))) ∧ e1.sub [(0, .pointer (some ⟨b_d, 0, none⟩)), (3, .pointer (some ⟨b2, 0, none⟩)), (5, .pointer (some ⟨b12, 0, none⟩)), (6, .pointer (some ⟨b22, 0, none⟩)), (28, .int .i64 n), (29, .int .i64 k)] ∧ SlR K.w0.heap.size 116 64 (arE 64 (cI .i64)) F1 a7 n10 n10 out5 Lb51) ?_ ?_
         · clear r54
           refine shW_block ?_
           refine wsr (om rfl rfl ?_)
           refine o_alloc rfl Try.zeroValue3 ?_; intro b55 hb55
           refine o_store (i := 0) Try.sizeOf3 rfl rfl rfl rfl (Nat.le_of_ble_eq_true rfl) ?_
           refine shO_L (L' := (b55, .cells #[.int .i64 k] 3 (0, 0)) :: ((b22, .cells #[.int .i64 h] 3 (0, 0)) :: ((b12, .cells #[.slice a7 n10 n10] 145 (0, 0)) :: ((b2, .cells #[.func (.func ok_f) ok_1 ok_2] 111 (0, 0)) :: (Lb38 ++ []))))) rfl ?_
           refine shO_nil (shW_seq ?_)
           refine shW_drawM [(.still, 0), (.still, 1), (.still, 2), (.still, 3), (.still, 4), (.seq, 5)] (by kernel_rfl) (by kernel_rfl) (trivial) (by rfl) (by kernel_rfl) ?_
           refine shM_v (v := .slice a7 n10 n10) (ek := [(5, .pointer (some ⟨b12, 0, none⟩))]) (Ls := [(b12, .cells #[.slice a7 n10 n10] 145 (0, 0))]) rfl rfl rfl rfl ((sc rfl (sn _))) (by kernel_rfl) (s0 (s1 (s1 (s2 (s1 (s3 sr)))))) (fun H F' L' hF' hL' => v_load Try.isAgg145 rfl ((Has.own 0 rfl).ext hF' hL') rfl) ?_
           refine shM_v (v := .int .i64 h) (ek := [(6, .pointer (some ⟨b22, 0, none⟩))]) (Ls := [(b22, .cells #[.int .i64 h] 3 (0, 0))]) rfl rfl rfl rfl ((sc rfl (sn _))) (by kernel_rfl) (s0 (s1 (s2 (s1 (s1 (s3 sr)))))) (fun H F' L' hF' hL' => v_load Try.isAgg3 rfl ((Has.own 0 rfl).ext hF' hL') rfl) ?_
           refine shM_v (v := .int .i64 k) (ek := [(7, .pointer (some ⟨b55, 0, none⟩))]) (Ls := [(b55, .cells #[.int .i64 k] 3 (0, 0))]) rfl rfl rfl rfl ((sc rfl (sn _))) (by kernel_rfl) (s0 (s2 (s1 (s1 (s1 (s3 sr)))))) (fun H F' L' hF' hL' => v_load Try.isAgg3 rfl ((Has.own 0 rfl).ext hF' hL') rfl) ?_
           obtain ⟨x, g56, hx57, r58⟩ := ix_ok h53; clear h53
           obtain ⟨b59, o60, c61, vs62, ha63, hs64, hle65, ⟨rfl, h68⟩, hl66, hc67⟩ := SlR.at (arE_ok (n := 64) (sz := 1) (cI_ok .i64)) hz39 (L := Lb38 ++ []) fP g56.1 hx57
           refine shM_v (v := .pointer (some ⟨b59, o60 + (h : Int).toNat * 64, none⟩)) (ek := [(32, .slice a7 n10 n10), (33, .int .i64 h)]) (Ls := []) rfl rfl rfl rfl ((sc rfl (sc rfl (sn _)))) (by kernel_rfl) sm (fun H F' L' hF' hL' => v_indexO Try.underlying145 Try.sizeOf116 rfl ha63 rfl (SlR.idx hz39 g56)) ?_
           obtain ⟨x2, g69, hx70, r71⟩ := ix_ok r58; clear r58
           refine shM_v (v := .pointer (some ⟨b59, o60 + (h : Int).toNat * 64 + (k : Int).toNat * 1, none⟩)) (ek := [(34, .int .i64 k), (35, .pointer (some ⟨b59, o60 + (h : Int).toNat * 64, none⟩))]) (Ls := []) rfl rfl rfl rfl ((sc rfl (sc rfl (sn _)))) (by kernel_rfl) sm (fun H F' L' hF' hL' => v_indexA Try.underlying116 Try.sizeOf3 rfl rfl (arr_lt h68 g69)) ?_
           refine ⟨_, [(36, .pointer (some ⟨b59, o60 + (h : Int).toNat * 64 + (k : Int).toNat * 1, none⟩))], rfl, rfl, (sc rfl (sn _)), by kernel_rfl, ?_⟩; intro H
           obtain ⟨l2, h73, r74⟩ := bv_ok r71; clear r71
           refine o_storeZP (zs := l2) (off := (k : Int).toNat * 1) (x0 := x) (u := x.set (k : Int).toNat 100) Try.sizeOf3 (arE_ok (n := 64) (sz := 1) (cI_ok .i64)) rfl ha63 rfl rfl (arr_off (arr_lt h68 g69)) hx57 (fun vs h => arE_set (cI_ok .i64) h (arr_ltN (arr_lt h68 g69)) rfl) (fun _ => .c (.c (.c (.c .h)))) hz39 h73 g56 ?_; intro Lb75 hz76
           refine shO_nil ⟨undef, rfl, FExt.refl _, [], by kernel_rfl, .inl (.inl rfl), (fun _ h => absurd h List.not_mem_nil), ?_⟩
           refine shM_nil ?_
           refine wsr (om rfl rfl ?_)
           refine ov (v_load Try.isAgg3 rfl (Has.own 1 rfl) rfl) rfl ?_
           obtain ⟨g77, r78⟩ := gd_ok r74; clear r74
           refine ov (v_add rfl rfl g77) rfl ?_
           obtain ⟨y, h79, r80⟩ := b1_ok r78; clear r78
           refine o_call0 rfl Try.call62 rfl rfl rfl (night_desk_fit_w hb_d h_listens h_hours h_rows h79) ?_; rintro _ F81 _ hF82 hn83 ⟨cp85, rfl, rfl, hit86⟩
           replace h_ok := h_ok.mono hF82
           replace hz76 := hz76.mono (arE_ok (n := 64) (sz := 1) (cI_ok .i64)) hF82
           refine shO_L (ln rfl) ?_
           refine shO_nil ?_
           refine shW_block ?_
           refine shW_rangeFunc (encs := (fun x : Int => #[.int .i64 x])) (xs := y) rfl Try.call102 rfl (fun _ => rfl) hit86 (fun pre F1 L1 => ∃ (tl : List Int) (out6 : List (List Int)) (Lb87 : LH), y = pre ++ tl ∧ night_desk_rest_l3 ok h k tl out6 = some out5 ∧ L1 = ((b55, .cells #[.int .i64 k] 3 (0, 0)) :: ((b22, .cells #[.int .i64 h] 3 (0, 0)) :: ((b12, .cells #[.slice a7 n10 n10] 145 (0, 0)) :: ((b2, .cells #[.func (.func ok_f) ok_1 ok_2] 111 (0, 0)) :: (Lb87 ++ []))))) ∧ SlR K.w0.heap.size 116 64 (arE 64 (cI .i64)) F1 a7 n10 n10 out6 Lb87) (fun _ _ _ => False) ?_ ?_ ?_ ?_ ?_ ?_
           · rintro pre F1 F2 L1 ⟨tl, out6, Lb87, hs89, r90, rfl, hz88⟩ hx; exact ⟨tl, out6, Lb87, hs89, r90, rfl, hz88.mono (arE_ok (n := 64) (sz := 1) (cI_ok .i64)) hx⟩
           · intro c F1 F2 L1 h hx; exact h
           · exact ⟨_, l2, Lb75, rfl, r80, rfl, hz76⟩
           · rintro l91 wr92 Fr93 Xr94 Ha95 Hb96 hnb97 hH101 pre x3 tl2 hxs100 F98 _ hF99 ⟨tl, out6, Lb87, hs89, r102, rfl, hz88⟩
             obtain rfl := rest_head hs89 hxs100
             rw [night_desk_rest_l3] at r102
             replace h_ok := h_ok.mono hF99
             refine shW_env [(0, .pointer (some ⟨b_d, 0, none⟩)), (3, .pointer (some ⟨b2, 0, none⟩)), (5, .pointer (some ⟨b12, 0, none⟩)), (6, .pointer (some ⟨b22, 0, none⟩)), (7, .pointer (some ⟨b55, 0, none⟩)), (28, .int .i64 n), (29, .int .i64 k), (40, .func (.func 102) #[] cp85), (41, .int .i64 x3)] (by exact (sc rfl (sc rfl (sc rfl (sc rfl (sc rfl (sc rfl (sc rfl (sc rfl (sc rfl (sn _))))))))))) ?_
             refine shW_region (oa rfl rfl (shO_nil ?_))
             refine ⟨rfl, ?_⟩
             refine shW_block ?_
             refine wsr ?_
             refine ov (v_fieldAddr fa_111_0 rfl) rfl ?_
             refine ov (v_load Try.isAgg77 rfl (Has.own 3 rfl) rfl) rfl ?_
             refine om rfl rfl ?_
             obtain ⟨ok2, h103, r104⟩ := b1_ok r102; clear r102
             refine o_callV rfl h_ok.1 rfl rfl rfl (h_ok.2 _ (FExt.refl _) _ _ _ rfl h103) ?_
             refine shO_nil ?_
             refine shW_cond rfl (fun c105 => ?_) (fun c105 => ?_)
             · have r106 := bt r104 c105; clear r104
               refine shW_drawM [(.still, 0), (.still, 1), (.still, 2), (.still, 3), (.still, 4), (.still, 5), (.still, 6), (.still, 7), (.still, 8), (.still, 9), (.still, 10), (.still, 11), (.still, 12), (.still, 13), (.still, 14), (.still, 15), (.still, 16), (.still, 17), (.still, 22), (.seq, 18), (.still, 19), (.seq, 20), (.seq, 21), (.still, 23), (.seq, 24)] (by kernel_rfl) (by kernel_rfl) (trivial) (by rfl) (by kernel_rfl) ?_
               refine shM_v (v := .slice a7 n10 n10) (ek := [(5, .pointer (some ⟨b12, 0, none⟩))]) (Ls := [(b12, .cells #[.slice a7 n10 n10] 145 (0, 0))]) rfl rfl rfl rfl ((sc rfl (sn _))) (by kernel_rfl) (s0 (s1 (s1 (s2 (s1 (s3 sr)))))) (fun H F' L' hF' hL' => v_load Try.isAgg145 rfl ((Has.own 0 rfl).ext hF' hL') rfl) ?_
               refine shM_v (v := .int .i64 h) (ek := [(6, .pointer (some ⟨b22, 0, none⟩))]) (Ls := [(b22, .cells #[.int .i64 h] 3 (0, 0))]) rfl rfl rfl rfl ((sc rfl (sn _))) (by kernel_rfl) (s0 (s1 (s2 (s1 (s1 (s3 sr)))))) (fun H F' L' hF' hL' => v_load Try.isAgg3 rfl ((Has.own 0 rfl).ext hF' hL') rfl) ?_
               refine shM_v (v := .int .i64 k) (ek := [(7, .pointer (some ⟨b55, 0, none⟩))]) (Ls := [(b55, .cells #[.int .i64 k] 3 (0, 0))]) rfl rfl rfl rfl ((sc rfl (sn _))) (by kernel_rfl) (s0 (s2 (s1 (s1 (s1 (s3 sr)))))) (fun H F' L' hF' hL' => v_load Try.isAgg3 rfl ((Has.own 0 rfl).ext hF' hL') rfl) ?_
               refine shM_v (v := .slice a7 n10 n10) (ek := [(5, .pointer (some ⟨b12, 0, none⟩))]) (Ls := [(b12, .cells #[.slice a7 n10 n10] 145 (0, 0))]) rfl rfl rfl rfl ((sc rfl (sn _))) (by kernel_rfl) (s0 (s1 (s1 (s2 (s1 (s3 sr)))))) (fun H F' L' hF' hL' => v_load Try.isAgg145 rfl ((Has.own 0 rfl).ext hF' hL') rfl) ?_
               refine shM_v (v := .int .i64 h) (ek := [(6, .pointer (some ⟨b22, 0, none⟩))]) (Ls := [(b22, .cells #[.int .i64 h] 3 (0, 0))]) rfl rfl rfl rfl ((sc rfl (sn _))) (by kernel_rfl) (s0 (s1 (s2 (s1 (s1 (s3 sr)))))) (fun H F' L' hF' hL' => v_load Try.isAgg3 rfl ((Has.own 0 rfl).ext hF' hL') rfl) ?_
               refine shM_v (v := .int .i64 k) (ek := [(7, .pointer (some ⟨b55, 0, none⟩))]) (Ls := [(b55, .cells #[.int .i64 k] 3 (0, 0))]) rfl rfl rfl rfl ((sc rfl (sn _))) (by kernel_rfl) (s0 (s2 (s1 (s1 (s1 (s3 sr)))))) (fun H F' L' hF' hL' => v_load Try.isAgg3 rfl ((Has.own 0 rfl).ext hF' hL') rfl) ?_
               obtain ⟨x4, g107, hx108, r109⟩ := ix_ok r106; clear r106
               obtain ⟨b110, o111, c112, vs113, ha114, hs115, hle116, ⟨rfl, h119⟩, hl117, hc118⟩ := SlR.at (arE_ok (n := 64) (sz := 1) (cI_ok .i64)) hz88 (L := Lb87 ++ []) fP g107.1 hx108
               refine shM_v (v := .pointer (some ⟨b110, o111 + (h : Int).toNat * 64, none⟩)) (ek := [(49, .slice a7 n10 n10), (50, .int .i64 h)]) (Ls := []) rfl rfl rfl rfl ((sc rfl (sc rfl (sn _)))) (by kernel_rfl) sm (fun H F' L' hF' hL' => v_indexO Try.underlying145 Try.sizeOf116 rfl ha114 rfl (SlR.idx hz88 g107)) ?_
               obtain ⟨x5, g120, hx121, r122⟩ := ix_ok r109; clear r109
               have hc123 := el_at (cI_ok .i64) h119 hx121 hc118 hle116 hl117
               refine shM_v (v := .pointer (some ⟨b110, o111 + (h : Int).toNat * 64 + (k : Int).toNat * 1, none⟩)) (ek := [(51, .int .i64 k), (52, .pointer (some ⟨b110, o111 + (h : Int).toNat * 64, none⟩))]) (Ls := []) rfl rfl rfl rfl ((sc rfl (sc rfl (sn _)))) (by kernel_rfl) sm (fun H F' L' hF' hL' => v_indexA Try.underlying116 Try.sizeOf3 rfl rfl (arr_lt h119 g120)) ?_
               refine shM_v (v := .int .i64 x5) (ek := [(53, .pointer (some ⟨b110, o111 + (h : Int).toNat * 64 + (k : Int).toNat * 1, none⟩))]) (Ls := Lb87 ++ []) rfl rfl rfl rfl ((sc rfl (sn _))) (by kernel_rfl) (s0 (s1 (s1 (s1 (s1 (s4 sr)))))) (fun H F' L' hF' hL' => v_load Try.isAgg3 rfl (hs115.ext hF' hL') ((hc123).2.2 0 (by decide))) ?_
               refine shM_v (v := .slice a7 n10 n10) (ek := [(5, .pointer (some ⟨b12, 0, none⟩))]) (Ls := [(b12, .cells #[.slice a7 n10 n10] 145 (0, 0))]) rfl rfl rfl rfl ((sc rfl (sn _))) (by kernel_rfl) (s0 (s1 (s1 (s2 (s1 (s3 sr)))))) (fun H F' L' hF' hL' => v_load Try.isAgg145 rfl ((Has.own 0 rfl).ext hF' hL') rfl) ?_
               refine shM_v (v := .int .i64 h) (ek := [(6, .pointer (some ⟨b22, 0, none⟩))]) (Ls := [(b22, .cells #[.int .i64 h] 3 (0, 0))]) rfl rfl rfl rfl ((sc rfl (sn _))) (by kernel_rfl) (s0 (s1 (s2 (s1 (s1 (s3 sr)))))) (fun H F' L' hF' hL' => v_load Try.isAgg3 rfl ((Has.own 0 rfl).ext hF' hL') rfl) ?_
               obtain ⟨g124, r125⟩ := gd_ok r122; clear r122
               refine shM_v (v := .int .i64 (h + 1)) (ek := [(56, .int .i64 h)]) (Ls := []) rfl rfl rfl rfl ((sc rfl (sn _))) (by kernel_rfl) sm (fun H F' L' hF' hL' => v_add rfl rfl g124) ?_
               refine shM_v (v := .int .i64 x3) (ek := [(8, .int .i64 x3)]) (Ls := []) rfl rfl rfl rfl ((sc rfl (sn _))) (by kernel_rfl) sm (fun H F' L' hF' hL' => v_move rfl) ?_
               obtain ⟨x6, g126, hx127, r128⟩ := ix_ok r125; clear r125
               obtain ⟨b129, o130, c131, vs132, ha133, hs134, hle135, ⟨rfl, h138⟩, hl136, hc137⟩ := SlR.at (arE_ok (n := 64) (sz := 1) (cI_ok .i64)) hz88 (L := Lb87 ++ []) fP g126.1 hx127
               refine shM_v (v := .pointer (some ⟨b129, o130 + (h + 1 : Int).toNat * 64, none⟩)) (ek := [(55, .slice a7 n10 n10), (57, .int .i64 (h + 1))]) (Ls := []) rfl rfl rfl rfl ((sc rfl (sc rfl (sn _)))) (by kernel_rfl) sm (fun H F' L' hF' hL' => v_indexO Try.underlying145 Try.sizeOf116 rfl ha133 rfl (SlR.idx hz88 g126)) ?_
               obtain ⟨x7, g139, hx140, r141⟩ := ix_ok r128; clear r128
               have hc142 := el_at (cI_ok .i64) h138 hx140 hc137 hle135 hl136
               refine shM_v (v := .pointer (some ⟨b129, o130 + (h + 1 : Int).toNat * 64 + (x3 : Int).toNat * 1, none⟩)) (ek := [(58, .int .i64 x3), (59, .pointer (some ⟨b129, o130 + (h + 1 : Int).toNat * 64, none⟩))]) (Ls := []) rfl rfl rfl rfl ((sc rfl (sc rfl (sn _)))) (by kernel_rfl) sm (fun H F' L' hF' hL' => v_indexA Try.underlying116 Try.sizeOf3 rfl rfl (arr_lt h138 g139)) ?_
               refine shM_v (v := .int .i64 x7) (ek := [(60, .pointer (some ⟨b129, o130 + (h + 1 : Int).toNat * 64 + (x3 : Int).toNat * 1, none⟩))]) (Ls := Lb87 ++ []) rfl rfl rfl rfl ((sc rfl (sn _))) (by kernel_rfl) (s0 (s1 (s1 (s1 (s1 (s4 sr)))))) (fun H F' L' hF' hL' => v_load Try.isAgg3 rfl (hs134.ext hF' hL') ((hc142).2.2 0 (by decide))) ?_
               refine shM_v (v := .int .i64 k) (ek := [(7, .pointer (some ⟨b55, 0, none⟩))]) (Ls := [(b55, .cells #[.int .i64 k] 3 (0, 0))]) rfl rfl rfl rfl ((sc rfl (sn _))) (by kernel_rfl) (s0 (s2 (s1 (s1 (s1 (s3 sr)))))) (fun H F' L' hF' hL' => v_load Try.isAgg3 rfl ((Has.own 0 rfl).ext hF' hL') rfl) ?_
               refine shM_v (v := .int .i64 x3) (ek := [(8, .int .i64 x3)]) (Ls := []) rfl rfl rfl rfl ((sc rfl (sn _))) (by kernel_rfl) sm (fun H F' L' hF' hL' => v_move rfl) ?_
               obtain ⟨b143, o144, c145, vs146, ha147, hs148, hle149, ⟨rfl, h152⟩, hl150, hc151⟩ := SlR.at (arE_ok (n := 64) (sz := 1) (cI_ok .i64)) hz88 (L := Lb87 ++ []) fP g107.1 hx108
               refine shM_v (v := .pointer (some ⟨b143, o144 + (h : Int).toNat * 64, none⟩)) (ek := [(46, .slice a7 n10 n10), (47, .int .i64 h)]) (Ls := []) rfl rfl rfl rfl ((sc rfl (sc rfl (sn _)))) (by kernel_rfl) sm (fun H F' L' hF' hL' => v_indexO Try.underlying145 Try.sizeOf116 rfl ha147 rfl (SlR.idx hz88 g107)) ?_
               refine ⟨_, [(62, .int .i64 k), (63, .int .i64 x3)], rfl, rfl, (sc rfl (sc rfl (sn _))), by kernel_rfl, ?_⟩; intro H
               obtain ⟨n2, h153, r154⟩ := b1_ok r141; clear r141
               refine o_callV rfl Try.call63 rfl rfl rfl (night_fallen_w h153) ?_
               refine shO_nil ⟨_, rfl, FExt.refl _, [22, 15, 14, 13, 12, 11, 10, 9, 8, 7, 6, 5, 4, 3, 2, 1, 0], by kernel_rfl, .inl (.inr (fun d h => by cases h; rfl)), (List.forall_mem_cons.2 ⟨sm, (List.forall_mem_cons.2 ⟨s0 (s1 (s1 (s1 (s1 (s4 sr))))), (List.forall_mem_cons.2 ⟨sm, (List.forall_mem_cons.2 ⟨sm, (List.forall_mem_cons.2 ⟨sm, (List.forall_mem_cons.2 ⟨sm, (List.forall_mem_cons.2 ⟨s0 (s1 (s2 (s1 (s1 (s3 sr))))), (List.forall_mem_cons.2 ⟨s0 (s1 (s1 (s2 (s1 (s3 sr))))), (List.forall_mem_cons.2 ⟨s0 (s1 (s1 (s1 (s1 (s4 sr))))), (List.forall_mem_cons.2 ⟨sm, (List.forall_mem_cons.2 ⟨sm, (List.forall_mem_cons.2 ⟨s0 (s2 (s1 (s1 (s1 (s3 sr))))), (List.forall_mem_cons.2 ⟨s0 (s1 (s2 (s1 (s1 (s3 sr))))), (List.forall_mem_cons.2 ⟨s0 (s1 (s1 (s2 (s1 (s3 sr))))), (List.forall_mem_cons.2 ⟨s0 (s2 (s1 (s1 (s1 (s3 sr))))), (List.forall_mem_cons.2 ⟨s0 (s1 (s2 (s1 (s1 (s3 sr))))), (List.forall_mem_cons.2 ⟨s0 (s1 (s1 (s2 (s1 (s3 sr))))), (fun _ h => absurd h List.not_mem_nil)⟩)⟩)⟩)⟩)⟩)⟩)⟩)⟩)⟩)⟩)⟩)⟩)⟩)⟩)⟩)⟩)⟩), ?_⟩
               obtain ⟨g155, r156⟩ := gd_ok r154; clear r154
               refine shM_v (v := .int .i64 (x7 + n2)) (ek := [(61, .int .i64 x7), (64, .int .i64 n2)]) (Ls := []) rfl rfl rfl rfl ((sc rfl (sc rfl (sn _)))) (by kernel_rfl) sm (fun H F' L' hF' hL' => v_add rfl rfl g155) ?_
               refine ⟨_, [(65, .int .i64 (x7 + n2))], rfl, rfl, (sc rfl (sn _)), by kernel_rfl, ?_⟩; intro H
               refine o_buildSlice (cs := #[.int .i64 (x7 + n2)]) rfl rfl (buildSlice_all slt_27 [.int .i64 (x7 + n2)] rfl (by decide) (by simp [Value.cells]) (by decide)) ?_; intro b157 hb157
               refine shO_nil ⟨_, rfl, FExt.refl _, [22, 10, 8, 7, 6, 5, 4, 3, 2, 1, 0], by kernel_rfl, .inl (.inr (fun d h => by cases h; rfl)), (List.forall_mem_cons.2 ⟨sm, (List.forall_mem_cons.2 ⟨s0 (s1 (s1 (s2 (s1 (s1 (s3 sr)))))), (List.forall_mem_cons.2 ⟨s0 (s1 (s1 (s1 (s1 (s1 (s4 sr)))))), (List.forall_mem_cons.2 ⟨sm, (List.forall_mem_cons.2 ⟨sm, (List.forall_mem_cons.2 ⟨s0 (s1 (s2 (s1 (s1 (s1 (s3 sr)))))), (List.forall_mem_cons.2 ⟨s0 (s1 (s1 (s2 (s1 (s1 (s3 sr)))))), (List.forall_mem_cons.2 ⟨s0 (s1 (s1 (s1 (s2 (s1 (s3 sr)))))), (List.forall_mem_cons.2 ⟨s0 (s1 (s2 (s1 (s1 (s1 (s3 sr)))))), (List.forall_mem_cons.2 ⟨s0 (s1 (s1 (s2 (s1 (s1 (s3 sr)))))), (List.forall_mem_cons.2 ⟨s0 (s1 (s1 (s1 (s2 (s1 (s3 sr)))))), (fun _ h => absurd h List.not_mem_nil)⟩)⟩)⟩)⟩)⟩)⟩)⟩)⟩)⟩)⟩)⟩), ?_⟩
               refine ⟨_, [(54, .int .i64 x5), (66, .slice (some ⟨b157, 0, none⟩) 1 1)], rfl, rfl, (sc rfl (sc rfl (sn _))), by kernel_rfl, ?_⟩; intro H
               refine shO_freeze 0 rfl hb157 ?_; intro F158 hF159 hz160
               refine shO_L (L' := (b55, .cells #[.int .i64 k] 3 (0, 0)) :: ((b22, .cells #[.int .i64 h] 3 (0, 0)) :: ((b12, .cells #[.slice a7 n10 n10] 145 (0, 0)) :: ((b2, .cells #[.func (.func ok_f) ok_1 ok_2] 111 (0, 0)) :: (Lb87 ++ []))))) rfl ?_
               replace hz88 := hz88.mono (arE_ok (n := 64) (sz := 1) (cI_ok .i64)) hF159
               have h161 : RowR 1 (iE .i64) F158 (some ⟨b157, 0, none⟩) 1 [x7 + n2] := RowR.of_block (iE_ok _) (vss := [[.int .i64 (x7 + n2)]]) (xs := [x7 + n2]) hz160 (.cons rfl .nil) rfl (by simp [maxLen])
               obtain ⟨n3, h162, r163⟩ := b1_ok r156; clear r156
               refine o_callV rfl Try.call64 rfl rfl rfl (night_least_w h161 h162) ?_
               refine shO_nil ⟨_, rfl, hF159, [22, 10, 2, 1, 0], by kernel_rfl, .inl (.inr (fun d h => by cases h; rfl)), (List.forall_mem_cons.2 ⟨sm, (List.forall_mem_cons.2 ⟨s0 (s1 (s2 (s1 (s1 (s3 sr))))), (List.forall_mem_cons.2 ⟨s0 (s2 (s1 (s1 (s1 (s3 sr))))), (List.forall_mem_cons.2 ⟨s0 (s1 (s2 (s1 (s1 (s3 sr))))), (List.forall_mem_cons.2 ⟨s0 (s1 (s1 (s2 (s1 (s3 sr))))), (fun _ h => absurd h List.not_mem_nil)⟩)⟩)⟩)⟩)⟩), ?_⟩
               refine shM_v (v := .pointer (some ⟨b143, o144 + (h : Int).toNat * 64 + (k : Int).toNat * 1, none⟩)) (ek := [(48, .int .i64 k), (68, .pointer (some ⟨b143, o144 + (h : Int).toNat * 64, none⟩))]) (Ls := []) rfl rfl rfl rfl ((sc rfl (sc rfl (sn _)))) (by kernel_rfl) sm (fun H F' L' hF' hL' => v_indexA Try.underlying116 Try.sizeOf3 rfl rfl (arr_lt h152 g120)) ?_
               refine ⟨_, [(67, .int .i64 n3), (69, .pointer (some ⟨b143, o144 + (h : Int).toNat * 64 + (k : Int).toNat * 1, none⟩))], rfl, rfl, (sc rfl (sc rfl (sn _))), by kernel_rfl, ?_⟩; intro H
               obtain ⟨l3, h165, r166⟩ := bv_ok r163; clear r163
               refine o_storeZP (zs := l3) (off := (k : Int).toNat * 1) (x0 := x4) (u := x4.set (k : Int).toNat n3) Try.sizeOf3 (arE_ok (n := 64) (sz := 1) (cI_ok .i64)) rfl ha147 rfl rfl (arr_off (arr_lt h152 g120)) hx108 (fun vs h => arE_set (cI_ok .i64) h (arr_ltN (arr_lt h152 g120)) rfl) (fun _ => .c (.c (.c (.c .h)))) hz88 h165 g107 ?_; intro Lb167 hz168
               refine shO_nil ⟨undef, rfl, FExt.refl _, [], by kernel_rfl, .inl (.inl rfl), (fun _ h => absurd h List.not_mem_nil), ?_⟩
               refine shM_nil ?_
               refine inBlock_n (id := 5) ?_
               refine ⟨(b55, .cells #[.int .i64 k] 3 (0, 0)) :: ((b22, .cells #[.int .i64 h] 3 (0, 0)) :: ((b12, .cells #[.slice a7 n10 n10] 145 (0, 0)) :: ((b2, .cells #[.func (.func ok_f) ok_1 ok_2] 111 (0, 0)) :: (Lb167 ++ [])))), sr, ?_⟩; exact ⟨_, l3, Lb167, (by rw [hxs100]; simp), r166, rfl, hz168⟩
             have r169 := bf r104 c105; clear r104
             refine shW_skip (inBlock_n (id := 5) ?_)
             refine ⟨(b55, .cells #[.int .i64 k] 3 (0, 0)) :: ((b22, .cells #[.int .i64 h] 3 (0, 0)) :: ((b12, .cells #[.slice a7 n10 n10] 145 (0, 0)) :: ((b2, .cells #[.func (.func ok_f) ok_1 ok_2] 111 (0, 0)) :: (Lb87 ++ [])))), sr, ?_⟩; exact ⟨_, out6, Lb87, (by rw [hxs100]; simp), r169, rfl, hz88⟩
           · rintro F170 _ hF171 ⟨tl, out6, Lb87, hs89, r172, rfl, hz88⟩
             obtain rfl := rest_nil hs89; rw [night_desk_rest_l3] at r172
             refine inBlock_n (id := 4) (inBlock_n (id := 3) ?_)
             obtain rfl := inj1 r172
             exact mi (kd kr) ⟨Lb87, (hF82.trans hF171), rfl, (sc rfl (sc rfl (sc rfl (sc rfl (sc rfl (sc rfl (sn _))))))), hz88⟩
           intro c F1 L1 hx h; exact h.elim
         rintro e1 F174 _ ⟨Lb51, hF175, rfl, he173, hz52⟩
         refine shW_env _ he173 ?_; clear he173
         refine shW_region ?_
         refine ov (v_add rfl rfl (Ctr.r64 hk42 c49 g40)) rfl ?_
         refine om rfl rfl (shO_nil ?_)
         exact le kr ⟨_, hk50, out5, Lb51, r54, (hF47.trans hF175), rfl, (sc rfl (sc rfl (sc rfl (sc rfl (sc rfl (sc rfl (sn _))))))), hz52⟩
       obtain rfl := Ctr.zero hk42 c49
       rw [night_desk_rest_l2] at r44
       refine shW_exit (andThen_exit (andThen_exit ?_))
       refine inBlock_exit ?_
       refine inBlock_n (id := 1) ?_
       obtain rfl := inj1 r44
       exact mi kr ⟨Lb38, hF47, rfl, (sc rfl (sc rfl (sc rfl (sc rfl (sn _))))), hz39⟩
     rintro e1 F177 _ ⟨Lb32, hF178, rfl, he176, hz33⟩
     refine shW_env _ he176 ?_; clear he176
     refine shW_seq (wsr ?_)
     refine ov (v_load Try.isAgg3 rfl (Has.own 0 rfl) rfl) rfl ?_
     refine shO_nil (shW_region ?_)
     refine o_alloc rfl Try.zeroValue3 ?_; intro b179 hb179
     refine o_store (i := 0) Try.sizeOf3 rfl rfl rfl rfl (Nat.le_of_ble_eq_true rfl) ?_
     refine shO_L (L' := (b179, .cells #[.int .i64 h] 3 (0, 0)) :: ((b22, .cells #[.int .i64 h] 3 (0, 0)) :: ((b12, .cells #[.slice a7 n10 n10] 145 (0, 0)) :: ((b2, .cells #[.func (.func ok_f) ok_1 ok_2] 111 (0, 0)) :: (Lb32 ++ []))))) rfl ?_
     refine shO_nil (shW_region ?_)
     refine ov (v_load Try.isAgg3 rfl (Has.own 0 rfl) rfl) rfl ?_
     obtain ⟨g180, r181⟩ := gd_ok r35; clear r35
     refine ov (v_sub rfl rfl g180) rfl ?_
     refine o_store (i := 0) Try.sizeOf3 rfl rfl rfl rfl (Nat.le_of_ble_eq_true rfl) ?_
     refine shO_L (L' := (b179, .cells #[.int .i64 (h - 1)] 3 (0, 0)) :: ((b22, .cells #[.int .i64 h] 3 (0, 0)) :: ((b12, .cells #[.slice a7 n10 n10] 145 (0, 0)) :: ((b2, .cells #[.func (.func ok_f) ok_1 ok_2] 111 (0, 0)) :: (Lb32 ++ []))))) rfl ?_
     refine shO_nil ?_
     exact le (kc (kd kr)) ⟨out3, h - 1, Lb32, b179, r181, (hF29.trans hF178), rfl, (sc rfl (sc rfl (sc rfl (sc rfl (sn _))))), hz33, hb179⟩
   have r182 := ite_f r26 c30; clear r26
   refine shW_exit (andThen_exit (andThen_exit ?_))
   refine inBlock_exit ?_
   obtain rfl := inj1 r182
   exact mi (kd (kc (kd kr))) ⟨Lb20, hF29, rfl, (sc rfl (sn _)), hz21⟩
 rintro e1 F184 _ ⟨Lb13, hF185, rfl, he183, hz14⟩
 refine shW_env _ he183 ?_; clear he183
 refine wsr ?_
 refine ov (v_load Try.isAgg145 rfl (Has.own 0 rfl) rfl) rfl ?_
 refine oa rfl rfl (shO_nil ?_)
 refine kW (kd kr) ?_
 refine shW_ret ?_
 refine q_res1 Try.results99 (res_tmp rfl) (sr) ?_
 obtain rfl := inj1 r16
 exact ⟨_, _, _, _, rfl, rfl, hz14.any⟩
set_option maxHeartbeats 1000000 in
theorem night_desk_first_w {b_d : Nat} {listens_a : Option Addr} {listens_c : Nat} {listens : List (List Int)} {hours_a : Option Addr} {hours_c : Nat} {hours : List (List Int)} {v1 : Value} {rows_a : Option Addr} {rows_c : Nat} {rows : List (List Bool)} {mb_d : Nat × Nat} {ok_f : FuncId} {ok_1 : Array Value} {ok_2 : Array Value} {ok : Int → Option Bool} {F : FS} (hb_d : F b_d = some (.cells #[.slice listens_a listens.length listens_c, .slice hours_a hours.length hours_c, v1, .slice rows_a rows.length rows_c] 139 mb_d)) (h_listens : RowR 1 (slE 1 (iE .i64)) F listens_a listens_c listens) (h_hours : RowR 1 (slE 1 (iE .i64)) F hours_a hours_c hours) (h_rows : RowR 64 (arE 64 cB) F rows_a rows_c rows) (h_ok : FnR Try.prog F ok_f ok_1 ok_2 (iE .i64) Value.bool ok) {r : List Int} {r2 : Int} (hr : night_desk_first listens hours rows ok = some (r, r2)) :
    SH.Spec Try.prog 56 #[.pointer (some ⟨b_d, 0, none⟩), .agg #[.func (.func ok_f) ok_1 ok_2]] F [] fun F' L' v => ∃ (ra : Option Addr) (rn : Nat) (rc : Nat) (rL : LH), v = .tuple #[.slice ra rn rc, .int .i64 r2] ∧ L' = rL ++ [] ∧ SlR 0 3 1 (iE .i64) F' ra rn rc r rL ∧ (ra = none ↔ r = []) := by
 refine spec_of_shW (args := [.pointer (some ⟨b_d, 0, none⟩), .agg #[.func (.func ok_f) ok_1 ok_2]]) Try.func56 rfl Try.ntmps56 (Nat.le_of_ble_eq_true rfl) ?_
 intro K _ _; rw [night_desk_first] at hr
 refine wsr ?_
 refine o_box rfl rfl ?_; intro b2 hb2
 refine oa rfl rfl (oa rfl rfl (nsr (om rfl rfl ?_)))
 refine ov (v_loadA (cs := #[.func (.func ok_f) ok_1 ok_2]) Try.isAgg111 Try.sizeOf111 rfl (Has.own 0 rfl) (Nat.le_of_ble_eq_true rfl) rfl) rfl ?_
 obtain ⟨l, h3, r4⟩ := b1_ok hr; clear hr
 refine o_call0 rfl Try.call99 rfl rfl rfl (night_desk_rest_w hb_d h_listens h_hours h_rows h_ok h3) ?_; rintro _ F5 _ hF6 hn7 ⟨a9, n13, c10, Lb11, rfl, rfl, hz12⟩
 replace h_listens := h_listens.mono (slE_ok (iE_ok _)) hF6
 replace h_hours := h_hours.mono (slE_ok (iE_ok _)) hF6
 replace h_rows := h_rows.mono (arE_ok (n := 64) (sz := 1) cB_ok) hF6
 replace h_ok := h_ok.mono hF6
 replace hb_d := hF6 _ _ hb_d
 replace hz12 := hz12.new fun p hp => hn7 p (by simp [hp])
 refine shO_L (lp (ln rfl)) ?_
 refine kO (kf (fS fO) kr) ?_
 refine o_alloc rfl Try.zeroValue145 ?_; intro b15 hb15
 refine o_store (i := 0) Try.sizeOf145 rfl rfl rfl rfl (Nat.le_of_ble_eq_true rfl) ?_
 refine shO_L (L' := (b15, .cells #[.slice a9 n13 c10] 145 (0, 0)) :: ((b2, .cells #[.func (.func ok_f) ok_1 ok_2] 111 (0, 0)) :: (Lb11 ++ []))) rfl ?_
 refine nsr (oa rfl rfl (nsr ?_))
 refine o_alloc rfl Try.zeroValue3 ?_; intro b16 hb16
 refine oa rfl rfl ?_
 refine o_store (i := 0) Try.sizeOf3 rfl rfl rfl rfl (Nat.le_of_ble_eq_true rfl) ?_
 refine shO_L (L' := (b16, .cells #[.int .i64 0] 3 (0, 0)) :: ((b15, .cells #[.slice a9 n13 c10] 145 (0, 0)) :: ((b2, .cells #[.func (.func ok_f) ok_1 ok_2] 111 (0, 0)) :: (Lb11 ++ [])))) rfl ?_
 refine shO_nil ?_
 refine shW_join (fun e1 F1 L1 => ∃ (out : List Int) (sum : Int) (a17 : Option Addr) (n21 : Nat) (c18 : Nat) (Lb19 : LH), night_desk_first_j1 out sum = some (r, r2) ∧ FExt F5 F1 ∧ L1 = (Lb19 ++ []) ∧ e1.sub [(7, .slice a17 n21 c18), (8, .int .i64 sum)] ∧ SlR K.w0.heap.size 3 1 (iE .i64) F1 a17 n21 c18 out Lb19) ?_ ?_
 · refine wsr (om rfl rfl ?_)
   refine ov (v_nilCheck rfl) rfl ?_
   refine ov (v_fieldAddr fa_139_0 rfl) rfl ?_
   refine ov (v_fieldAddr fa_26_1 rfl) rfl ?_
   refine ov (v_load Try.isAgg24 rfl (Has.frozen hb_d) rfl) rfl ?_
   refine ov (v_lenS Try.underlying24 rfl) rfl ?_
   refine om rfl rfl (shO_nil ?_)
   refine shW_block ?_
   refine shW_lp (fun fu2 e1 F1 L1 => ∃ (tl : List (List Int)) (k : Int), tl.length = fu2 ∧ Lst hours k tl ∧ ∃ (out2 : List Int) (sum2 : Int) (before : Int) (a23 : Option Addr) (n27 : Nat) (c24 : Nat) (Lb25 : LH), night_desk_first_l2 listens hours rows ok l tl k out2 sum2 before = some (r, r2) ∧ FExt F5 F1 ∧ L1 = ((b16, .cells #[.int .i64 before] 3 (0, 0)) :: ((b15, .cells #[.slice a9 n13 c10] 145 (0, 0)) :: ((b2, .cells #[.func (.func ok_f) ok_1 ok_2] 111 (0, 0)) :: (Lb11 ++ (Lb25 ++ []))))) ∧ e1.sub [(0, .pointer (some ⟨b_d, 0, none⟩)), (3, .pointer (some ⟨b2, 0, none⟩)), (6, .pointer (some ⟨b15, 0, none⟩)), (7, .slice a23 n27 c24), (8, .int .i64 sum2), (9, .pointer (some ⟨b16, 0, none⟩)), (23, .int .i64 (hours.length : Int)), (24, .int .i64 k)] ∧ SlR K.w0.heap.size 3 1 (iE .i64) F1 a23 n27 c24 out2 Lb25) _ (m0 (kc (kc (kc (ka (ke kr))))) ⟨_, _, rfl, Lst.start _, [], 0, 0, none, 0, 0, [], r4, FExt.refl _, rfl, (sc rfl (sc rfl (sc rfl (sc rfl (sc rfl (sc rfl (sc rfl (sc rfl (sn _))))))))), SlR.nil _ _ _ _ _⟩) ?_
   rintro fu2 e1 F33 _ ⟨tl, k, hn30, hk29, out2, sum2, before, a23, n27, c24, Lb25, r31, hF34, rfl, he32, hz26⟩
   refine shW_env _ he32 ?_; clear he32
   replace h_listens := h_listens.mono (slE_ok (iE_ok _)) hF34
   replace h_hours := h_hours.mono (slE_ok (iE_ok _)) hF34
   replace h_rows := h_rows.mono (arE_ok (n := 64) (sz := 1) cB_ok) hF34
   replace h_ok := h_ok.mono hF34
   replace hz12 := hz12.mono (arE_ok (n := 64) (sz := 1) (cI_ok .i64)) hF34
   replace hb_d := hF34 _ _ hb_d
   refine wsr ?_
   refine ov (v_lssK rfl rfl) rfl ?_
   refine shO_nil (shW_seq ?_)
   refine shW_condP rfl (fun c36 => ?_) (fun c36 => ?_)
   · obtain ⟨x, tl2, rfl, hx38, g39, hk37⟩ := Lst.succ hk29 c36
     rw [night_desk_first_l2] at r31
     refine shW_skip ?_
     refine shW_join (fun e1 F1 L1 => ∃ (out3 : List Int) (sum3 : Int) (before2 : Int) (a40 : Option Addr) (n44 : Nat) (c41 : Nat) (Lb42 : LH), night_desk_first_j3 k (night_desk_first_l2 listens hours rows ok l tl2) out3 sum3 before2 = some (r, r2) ∧ FExt F33 F1 ∧ L1 = ((b16, .cells #[.int .i64 before2] 3 (0, 0)) :: ((b15, .cells #[.slice a9 n13 c10] 145 (0, 0)) :: ((b2, .cells #[.func (.func ok_f) ok_1 ok_2] 111 (0, 0)) :: (Lb11 ++ (Lb42 ++ []))))) ∧ e1.sub [(0, .pointer (some ⟨b_d, 0, none⟩)), (3, .pointer (some ⟨b2, 0, none⟩)), (6, .pointer (some ⟨b15, 0, none⟩)), (7, .slice a40 n44 c41), (8, .int .i64 sum3), (9, .pointer (some ⟨b16, 0, none⟩)), (23, .int .i64 (hours.length : Int)), (24, .int .i64 k)] ∧ SlR K.w0.heap.size 3 1 (iE .i64) F1 a40 n44 c41 out3 Lb42) ?_ ?_
     · refine shW_block ?_
       refine wsr (om rfl rfl ?_)
       refine o_alloc rfl Try.zeroValue3 ?_; intro b46 hb46
       refine o_store (i := 0) Try.sizeOf3 rfl rfl rfl rfl (Nat.le_of_ble_eq_true rfl) ?_
       refine shO_L (L' := (b46, .cells #[.int .i64 k] 3 (0, 0)) :: ((b16, .cells #[.int .i64 before] 3 (0, 0)) :: ((b15, .cells #[.slice a9 n13 c10] 145 (0, 0)) :: ((b2, .cells #[.func (.func ok_f) ok_1 ok_2] 111 (0, 0)) :: (Lb11 ++ (Lb25 ++ [])))))) rfl ?_
       refine nsr ?_
       refine o_alloc rfl Try.zeroValue3 ?_; intro b47 hb47
       refine o_alloc rfl Try.zeroValue3 ?_; intro b48 hb48
       refine o_store (i := 1) Try.sizeOf3 rfl rfl rfl rfl (Nat.le_of_ble_eq_true rfl) ?_
       refine shO_L (L' := (b48, .cells #[.int .i64 0] 3 (0, 0)) :: ((b47, .cells #[.int .i64 0] 3 (0, 0)) :: ((b46, .cells #[.int .i64 k] 3 (0, 0)) :: ((b16, .cells #[.int .i64 before] 3 (0, 0)) :: ((b15, .cells #[.slice a9 n13 c10] 145 (0, 0)) :: ((b2, .cells #[.func (.func ok_f) ok_1 ok_2] 111 (0, 0)) :: (Lb11 ++ (Lb25 ++ [])))))))) rfl ?_
       refine o_store (i := 0) Try.sizeOf3 rfl rfl rfl rfl (Nat.le_of_ble_eq_true rfl) ?_
       refine shO_L (L' := (b48, .cells #[.int .i64 100] 3 (0, 0)) :: ((b47, .cells #[.int .i64 0] 3 (0, 0)) :: ((b46, .cells #[.int .i64 k] 3 (0, 0)) :: ((b16, .cells #[.int .i64 before] 3 (0, 0)) :: ((b15, .cells #[.slice a9 n13 c10] 145 (0, 0)) :: ((b2, .cells #[.func (.func ok_f) ok_1 ok_2] 111 (0, 0)) :: (Lb11 ++ (Lb25 ++ [])))))))) rfl ?_
       refine shO_nil ?_
       obtain ⟨best, n, h49, r50⟩ := b2_ok r31; clear r31
       refine shW_join (fun e1 F1 L1 => FExt F33 F1 ∧ L1 = ((b48, .cells #[.int .i64 n] 3 (0, 0)) :: ((b47, .cells #[.int .i64 best] 3 (0, 0)) :: ((b16, .cells #[.int .i64 before] 3 (0, 0)) :: ((b15, .cells #[.slice a9 n13 c10] 145 (0, 0)) :: ((b2, .cells #[.func (.func ok_f) ok_1 ok_2] 111 (0, 0)) :: (Lb11 ++ (Lb25 ++ []))))))) ∧ e1.sub [(0, .pointer (some ⟨b_d, 0, none⟩)), (3, .pointer (some ⟨b2, 0, none⟩)), (6, .pointer (some ⟨b15, 0, none⟩)), (7, .slice a23 n27 c24), (8, .int .i64 sum2), (9, .pointer (some ⟨b16, 0, none⟩)), (11, .pointer (some ⟨b47, 0, none⟩)), (12, .pointer (some ⟨b48, 0, none⟩)), (23, .int .i64 (hours.length : Int)), (24, .int .i64 k)]) ?_ ?_
       · clear r50
         refine wsr (om rfl rfl ?_)
         refine ov (v_load Try.isAgg3 rfl (Has.own 2 rfl) rfl) rfl ?_
         obtain ⟨y, h51, r52⟩ := b1_ok h49; clear h49
         refine o_call0 rfl Try.call62 rfl rfl rfl (night_desk_fit_w hb_d h_listens h_hours h_rows h51) ?_; rintro _ F53 _ hF54 hn55 ⟨cp57, rfl, rfl, hit58⟩
         replace h_ok := h_ok.mono hF54
         replace hz12 := hz12.mono (arE_ok (n := 64) (sz := 1) (cI_ok .i64)) hF54
         refine shO_L (ln rfl) ?_
         refine shO_nil ?_
         refine shW_block ?_
         refine shW_rangeFunc (encs := (fun x : Int => #[.int .i64 x])) (xs := y) rfl Try.call102 rfl (fun _ => rfl) hit58 (fun pre F1 L1 => ∃ (tl3 : List Int) (best2 : Int) (n2 : Int), y = pre ++ tl3 ∧ night_desk_first_l4 ok l before k tl3 best2 n2 = some (best, n) ∧ L1 = ((b48, .cells #[.int .i64 n2] 3 (0, 0)) :: ((b47, .cells #[.int .i64 best2] 3 (0, 0)) :: ((b46, .cells #[.int .i64 k] 3 (0, 0)) :: ((b16, .cells #[.int .i64 before] 3 (0, 0)) :: ((b15, .cells #[.slice a9 n13 c10] 145 (0, 0)) :: ((b2, .cells #[.func (.func ok_f) ok_1 ok_2] 111 (0, 0)) :: (Lb11 ++ (Lb25 ++ []))))))))) (fun _ _ _ => False) ?_ ?_ ?_ ?_ ?_ ?_
         · rintro pre F1 F2 L1 ⟨tl3, best2, n2, hs59, r60, rfl⟩ hx; exact ⟨tl3, best2, n2, hs59, r60, rfl⟩
         · intro c F1 F2 L1 h hx; exact h
         · exact ⟨_, 0, 100, rfl, r52, rfl⟩
         · rintro l61 wr62 Fr63 Xr64 Ha65 Hb66 hnb67 hH71 pre x2 tl4 hxs70 F68 _ hF69 ⟨tl3, best2, n2, hs59, r72, rfl⟩
           obtain rfl := rest_head hs59 hxs70
           rw [night_desk_first_l4] at r72
           replace h_ok := h_ok.mono hF69
           replace hz12 := hz12.mono (arE_ok (n := 64) (sz := 1) (cI_ok .i64)) hF69
           refine shW_env [(0, .pointer (some ⟨b_d, 0, none⟩)), (3, .pointer (some ⟨b2, 0, none⟩)), (6, .pointer (some ⟨b15, 0, none⟩)), (7, .slice a23 n27 c24), (8, .int .i64 sum2), (9, .pointer (some ⟨b16, 0, none⟩)), (10, .pointer (some ⟨b46, 0, none⟩)), (11, .pointer (some ⟨b47, 0, none⟩)), (12, .pointer (some ⟨b48, 0, none⟩)), (23, .int .i64 (hours.length : Int)), (24, .int .i64 k), (30, .int .i64 x2)] (by exact (sc rfl (sc rfl (sc rfl (sc rfl (sc rfl (sc rfl (sc rfl (sc rfl (sc rfl (sc rfl (sc rfl (sc rfl (sn _)))))))))))))) ?_
           refine shW_region (oa rfl rfl (shO_nil ?_))
           refine ⟨rfl, ?_⟩
           refine shW_block ?_
           refine wsd (by kernel_rfl) (by kernel_rfl) (by kernel_rfl) ?_
           refine qv (v_load Try.isAgg3 rfl (Has.own 3 rfl) rfl) rfl ?_
           refine qm rfl rfl ?_
           obtain ⟨n3, h73, r74⟩ := b1_ok r72; clear r72
           refine shQ_callV rfl Try.call63 rfl rfl rfl (night_fallen_w h73) ?_
           refine qv (v_load Try.isAgg145 rfl (Has.own 4 rfl) rfl) rfl ?_
           refine qv (v_load Try.isAgg3 rfl (Has.own 2 rfl) rfl) rfl ?_
           refine qm rfl rfl ?_
           obtain ⟨x3, g75, hx76, r77⟩ := ix_ok r74; clear r74
           obtain ⟨b78, o79, c80, vs81, ha82, hs83, hle84, ⟨rfl, h87⟩, hl85, hc86⟩ := SlR.at (arE_ok (n := 64) (sz := 1) (cI_ok .i64)) hz12 (L := (b48, .cells #[.int .i64 n2] 3 (0, 0)) :: ((b47, .cells #[.int .i64 best2] 3 (0, 0)) :: ((b46, .cells #[.int .i64 k] 3 (0, 0)) :: ((b16, .cells #[.int .i64 before] 3 (0, 0)) :: ((b15, .cells #[.slice a9 n13 c10] 145 (0, 0)) :: ((b2, .cells #[.func (.func ok_f) ok_1 ok_2] 111 (0, 0)) :: (Lb11 ++ (Lb25 ++ [])))))))) (fC (fC (fC (fC (fC (fC fP)))))) g75.1 hx76
           refine qv (v_indexO Try.underlying145 Try.sizeOf116 rfl ha82 rfl (SlR.idx hz12 g75)) rfl ?_
           obtain ⟨x4, g88, hx89, r90⟩ := ix_ok r77; clear r77
           have hc91 := el_at (cI_ok .i64) h87 hx89 hc86 hle84 hl85
           refine qv (v_indexA Try.underlying116 Try.sizeOf3 rfl rfl (arr_lt h87 g88)) rfl ?_
           refine qv (v_load Try.isAgg3 rfl hs83 ((hc91).2.2 0 (by decide))) rfl ?_
           obtain ⟨g92, r93⟩ := gd_ok r90; clear r90
           refine qv (v_add rfl rfl g92) rfl ?_
           refine qa rfl rfl (shQ_nil ?_)
           obtain ⟨k2, h94, r95⟩ := b1_ok r93; clear r93
           refine shW_join (fun e1 F1 L1 => F68 = F1 ∧ L1 = ((b48, .cells #[.int .i64 n2] 3 (0, 0)) :: ((b47, .cells #[.int .i64 best2] 3 (0, 0)) :: ((b46, .cells #[.int .i64 k] 3 (0, 0)) :: ((b16, .cells #[.int .i64 before] 3 (0, 0)) :: ((b15, .cells #[.slice a9 n13 c10] 145 (0, 0)) :: ((b2, .cells #[.func (.func ok_f) ok_1 ok_2] 111 (0, 0)) :: (Lb11 ++ (Lb25 ++ [])))))))) ∧ e1.sub [(0, .pointer (some ⟨b_d, 0, none⟩)), (3, .pointer (some ⟨b2, 0, none⟩)), (6, .pointer (some ⟨b15, 0, none⟩)), (7, .slice a23 n27 c24), (8, .int .i64 sum2), (9, .pointer (some ⟨b16, 0, none⟩)), (10, .pointer (some ⟨b46, 0, none⟩)), (11, .pointer (some ⟨b47, 0, none⟩)), (12, .pointer (some ⟨b48, 0, none⟩)), (13, .int .i64 x2), (14, .int .i64 (n3 + x4)), (23, .int .i64 (hours.length : Int)), (24, .int .i64 k), (30, .int .i64 x2), (49, .bool k2)]) ?_ ?_
           · clear r95
             refine shW_region ?_
             refine ov (v_fieldAddr fa_111_0 rfl) rfl ?_
             refine ov (v_load Try.isAgg77 rfl (Has.own 5 rfl) rfl) rfl ?_
             refine om rfl rfl ?_
             obtain ⟨ok2, h96, r97⟩ := b1_ok h94; clear h94
             refine o_callV rfl h_ok.1 rfl rfl rfl (h_ok.2 _ (FExt.refl _) _ _ _ rfl h96) ?_
             refine om rfl rfl ?_
             rcases bool_two ok2 with c98 | c98
             · have r99 := bt r97 c98; clear r97
               refine shO_on (b := true) 45 rfl (EnvB rfl c98) (om rfl rfl (shO_on (b := true) 45 rfl (EnvB rfl c98) ?_))
               refine ov (v_load Try.isAgg3 rfl (Has.own 0 rfl) rfl) rfl ?_
               refine shO_on (b := true) 45 rfl (EnvB rfl c98) ?_
               refine ov (v_lssK rfl rfl) rfl ?_
               refine ov (v_pick_t (evB rfl c98) rfl) rfl ?_
               refine shO_nil ?_
               obtain rfl := inj1 r99
               exact mi kr ⟨rfl, rfl, (sc rfl (sc rfl (sc rfl (sc rfl (sc rfl (sc rfl (sc rfl (sc rfl (sc rfl (sc rfl (sc rfl (sc rfl (sc rfl (sc rfl (sc rfl (sn _))))))))))))))))⟩
             have r100 := bf r97 c98; clear r97
             refine shO_off (b' := false) 45 rfl (EnvB rfl c98) rfl rfl (shO_off (b' := false) 45 rfl (EnvB rfl c98) rfl rfl (shO_off (b' := false) 45 rfl (EnvB rfl c98) rfl rfl ?_))
             refine ov (v_pick_f (evB rfl c98) rfl) rfl ?_
             refine shO_nil ?_
             obtain rfl := inj1 r100
             exact mi kr ⟨rfl, rfl, (sc rfl (sc rfl (sc rfl (sc rfl (sc rfl (sc rfl (sc rfl (sc rfl (sc rfl (sc rfl (sc rfl (sc rfl (sc rfl (sc rfl (sc rfl (sn _))))))))))))))))⟩
           rintro e1 _ _ ⟨rfl, rfl, he101⟩
           refine shW_env _ he101 ?_; clear he101
           refine shW_cond rfl (fun c102 => ?_) (fun c102 => ?_)
           · have r103 := bt r95 c102; clear r95
             refine shW_region (om rfl rfl (om rfl rfl ?_))
             refine o_store (i := 1) Try.sizeOf3 rfl rfl rfl rfl (Nat.le_of_ble_eq_true rfl) ?_
             refine shO_L (L' := (b48, .cells #[.int .i64 n2] 3 (0, 0)) :: ((b47, .cells #[.int .i64 x2] 3 (0, 0)) :: ((b46, .cells #[.int .i64 k] 3 (0, 0)) :: ((b16, .cells #[.int .i64 before] 3 (0, 0)) :: ((b15, .cells #[.slice a9 n13 c10] 145 (0, 0)) :: ((b2, .cells #[.func (.func ok_f) ok_1 ok_2] 111 (0, 0)) :: (Lb11 ++ (Lb25 ++ [])))))))) rfl ?_
             refine o_store (i := 0) Try.sizeOf3 rfl rfl rfl rfl (Nat.le_of_ble_eq_true rfl) ?_
             refine shO_L (L' := (b48, .cells #[.int .i64 (n3 + x4)] 3 (0, 0)) :: ((b47, .cells #[.int .i64 x2] 3 (0, 0)) :: ((b46, .cells #[.int .i64 k] 3 (0, 0)) :: ((b16, .cells #[.int .i64 before] 3 (0, 0)) :: ((b15, .cells #[.slice a9 n13 c10] 145 (0, 0)) :: ((b2, .cells #[.func (.func ok_f) ok_1 ok_2] 111 (0, 0)) :: (Lb11 ++ (Lb25 ++ [])))))))) rfl ?_
             refine shO_nil (inBlock_n (id := 3) ?_)
             refine ⟨(b48, .cells #[.int .i64 (n3 + x4)] 3 (0, 0)) :: ((b47, .cells #[.int .i64 x2] 3 (0, 0)) :: ((b46, .cells #[.int .i64 k] 3 (0, 0)) :: ((b16, .cells #[.int .i64 before] 3 (0, 0)) :: ((b15, .cells #[.slice a9 n13 c10] 145 (0, 0)) :: ((b2, .cells #[.func (.func ok_f) ok_1 ok_2] 111 (0, 0)) :: (Lb11 ++ (Lb25 ++ []))))))), sr, ?_⟩; exact ⟨_, x2, n3 + x4, (by rw [hxs70]; simp), r103, rfl⟩
           have r104 := bf r95 c102; clear r95
           refine shW_skip (inBlock_n (id := 3) ?_)
           refine ⟨(b48, .cells #[.int .i64 n2] 3 (0, 0)) :: ((b47, .cells #[.int .i64 best2] 3 (0, 0)) :: ((b46, .cells #[.int .i64 k] 3 (0, 0)) :: ((b16, .cells #[.int .i64 before] 3 (0, 0)) :: ((b15, .cells #[.slice a9 n13 c10] 145 (0, 0)) :: ((b2, .cells #[.func (.func ok_f) ok_1 ok_2] 111 (0, 0)) :: (Lb11 ++ (Lb25 ++ []))))))), sr, ?_⟩; exact ⟨_, best2, n2, (by rw [hxs70]; simp), r104, rfl⟩
         · rintro F105 _ hF106 ⟨tl3, best2, n2, hs59, r107, rfl⟩
           obtain rfl := rest_nil hs59; rw [night_desk_first_l4] at r107
           refine inBlock_n (id := 2) ?_
           obtain ⟨rfl, rfl⟩ := inj2 r107
           exact mi (kc (kc (kd kr))) ⟨(hF54.trans hF106), rfl, (sc rfl (sc rfl (sc rfl (sc rfl (sc rfl (sc rfl (sc rfl (sc rfl (sc rfl (sc rfl (sn _)))))))))))⟩
         intro c F1 L1 hx h; exact h.elim
       rintro e1 F109 _ ⟨hF110, rfl, he108⟩
       refine shW_env _ he108 ?_; clear he108
       replace hz26 := hz26.mono (iE_ok _) hF110
       refine shW_seq (wsr ?_)
       refine ov (v_load Try.isAgg3 rfl (Has.own 0 rfl) rfl) rfl ?_
       refine ov (v_eql rfl rfl) rfl ?_
       refine shO_nil ?_
       refine shW_condP rfl (fun c111 => ?_) (fun c111 => ?_)
       · have r112 := ite_t r50 c111; clear r50
         refine wsr (oa rfl rfl (oa rfl rfl (shO_nil ?_)))
         refine kW kn ?_
         refine shW_ret (andThen_ret (inBlock_ret (andThen_ret (andThen_ret (inBlock_ret (andThen_ret ?_))))))
         refine q_res2 Try.results56 (res_tmp rfl) (res_tmp rfl) (sr) ?_
         obtain ⟨rfl, rfl⟩ := inj2 r112
         exact ⟨_, _, _, [], rfl, rfl, SlR.nil _ _ _ _ _, nilq_nil⟩
       have r113 := ite_f r50 c111; clear r50
       refine shW_skip (wsr (om rfl rfl ?_))
       refine ov (v_load Try.isAgg3 rfl (Has.own 2 rfl) rfl) rfl ?_
       refine ov (v_load Try.isAgg3 rfl (Has.own 1 rfl) rfl) rfl ?_
       obtain ⟨n4, h114, r115⟩ := b1_ok r113; clear r113
       refine o_callV rfl Try.call63 rfl rfl rfl (night_fallen_w h114) ?_
       obtain ⟨g116, r117⟩ := gd_ok r115; clear r115
       refine ov (v_add rfl rfl g116) rfl ?_
       refine oa rfl rfl (shO_nil ?_)
       refine shW_drawM [(.still, 0), (.still, 1), (.still, 4), (.seq, 2), (.seq, 3), (.seq, 5), (.seq, 6)] (by kernel_rfl) (by kernel_rfl) (trivial) (by rfl) (by kernel_rfl) ?_
       refine shM_v (v := .slice a23 n27 c24) (ek := [(7, .slice a23 n27 c24)]) (Ls := []) rfl rfl rfl rfl ((sc rfl (sn _))) (by kernel_rfl) sm (fun H F' L' hF' hL' => v_move rfl) ?_
       refine shM_v (v := .int .i64 best) (ek := [(11, .pointer (some ⟨b47, 0, none⟩))]) (Ls := [(b47, .cells #[.int .i64 best] 3 (0, 0))]) rfl rfl rfl rfl ((sc rfl (sn _))) (by kernel_rfl) (s0 (s1 (s2 (s1 (s1 (s1 (s3 (s3 sr)))))))) (fun H F' L' hF' hL' => v_load Try.isAgg3 rfl ((Has.own 0 rfl).ext hF' hL') rfl) ?_
       refine shM_v (v := .int .i64 best) (ek := [(11, .pointer (some ⟨b47, 0, none⟩))]) (Ls := [(b47, .cells #[.int .i64 best] 3 (0, 0))]) rfl rfl rfl rfl ((sc rfl (sn _))) (by kernel_rfl) (s0 (s1 (s2 (s1 (s1 (s1 (s3 (s3 sr)))))))) (fun H F' L' hF' hL' => v_load Try.isAgg3 rfl ((Has.own 0 rfl).ext hF' hL') rfl) ?_
       refine ⟨_, [(60, .int .i64 best)], rfl, rfl, (sc rfl (sn _)), by kernel_rfl, ?_⟩; intro H
       refine o_buildSlice (cs := #[.int .i64 best]) rfl rfl (buildSlice_all slt_27 [.int .i64 best] rfl (by decide) (by simp [Value.cells]) (by decide)) ?_; intro b118 hb118
       refine shO_nil ⟨_, rfl, FExt.refl _, [4, 0], by kernel_rfl, .inl (.inr (fun d h => by cases h; rfl)), (List.forall_mem_cons.2 ⟨s0 (s1 (s1 (s2 (s1 (s1 (s1 (s3 (s3 sr)))))))), (List.forall_mem_cons.2 ⟨sm, (fun _ h => absurd h List.not_mem_nil)⟩)⟩), ?_⟩
       refine ⟨_, [(59, .slice a23 n27 c24), (61, .slice (some ⟨b118, 0, none⟩) 1 1)], rfl, rfl, (sc rfl (sc rfl (sn _))), by kernel_rfl, ?_⟩; intro H
       obtain ⟨l2, h119, g120, r121⟩ := ap_ok r117; clear r117
       refine o_appZ (xs := out2) (ys := [best]) (zs := l2) rfl slt_27 rfl rfl (Nat.le_refl _) (fun _ => .c (.c (.c (.c (.c (.c (.s .h))))))) hz26 (SrcR.box (vss := [[.int .i64 best]]) (ys := [best]) 0 rfl (iE_ok _) (.cons rfl .nil) rfl rfl) h119 g120 (by decide) ?_; intro a122 n126 c123 Lb124 hz125
       refine kO (kd kr) ?_
       refine shO_nil ⟨_, rfl, FExt.refl _, [4], by kernel_rfl, .inl (.inr (fun d h => by cases h; rfl)), (List.forall_mem_cons.2 ⟨s0 (s1 (s2 (s1 (s1 (s1 (s3 (s3 sr))))))), (fun _ h => absurd h List.not_mem_nil)⟩), ?_⟩
       refine ⟨_, [(62, .slice a122 n126 c123)], rfl, rfl, (sc rfl (sn _)), by kernel_rfl, ?_⟩; intro H
       refine oa rfl rfl ?_
       refine shO_nil ⟨_, rfl, FExt.refl _, [4], by kernel_rfl, .inr (by kernel_rfl), (List.forall_mem_cons.2 ⟨s0 (s1 (s2 (s1 (s1 (s1 (s3 (s3 sr))))))), (fun _ h => absurd h List.not_mem_nil)⟩), ?_⟩
       refine ⟨_, [(9, .pointer (some ⟨b16, 0, none⟩)), (63, .int .i64 best)], rfl, rfl, (sc rfl (sc rfl (sn _))), by kernel_rfl, ?_⟩; intro H
       refine o_store (i := 2) Try.sizeOf3 rfl rfl rfl rfl (Nat.le_of_ble_eq_true rfl) ?_
       refine shO_L (L' := (b48, .cells #[.int .i64 n] 3 (0, 0)) :: ((b47, .cells #[.int .i64 best] 3 (0, 0)) :: ((b16, .cells #[.int .i64 best] 3 (0, 0)) :: ((b15, .cells #[.slice a9 n13 c10] 145 (0, 0)) :: ((b2, .cells #[.func (.func ok_f) ok_1 ok_2] 111 (0, 0)) :: (Lb11 ++ (Lb124 ++ []))))))) rfl ?_
       refine shO_nil ⟨undef, rfl, FExt.refl _, [], by kernel_rfl, .inl (.inl rfl), (fun _ h => absurd h List.not_mem_nil), ?_⟩
       refine shM_nil ?_
       refine inBlock_n (id := 1) ?_
       exact mi (kd (kd kr)) ⟨l2, sum2 + n4, best, a122, n126, c123, Lb124, r121, hF110, rfl, (sc rfl (sc rfl (sc rfl (sc rfl (sc rfl (sc rfl (sc rfl (sc rfl (sn _))))))))), hz125⟩
     rintro e1 F130 _ ⟨out3, sum3, before2, a40, n44, c41, Lb42, r128, hF131, rfl, he129, hz43⟩
     refine shW_env _ he129 ?_; clear he129
     replace h_hours := h_hours.mono (slE_ok (iE_ok _)) hF131
     rw [night_desk_first_j3] at r128
     refine shW_region ?_
     refine ov (v_add rfl rfl (Lst.r64 hk29 c36 (RowR.lt h_hours))) rfl ?_
     refine om rfl rfl (shO_nil ?_)
     subst hn30; exact le kr ⟨_, _, rfl, hk37, out3, sum3, before2, a40, n44, c41, Lb42, r128, (hF34.trans hF131), rfl, (sc rfl (sc rfl (sc rfl (sc rfl (sc rfl (sc rfl (sc rfl (sc rfl (sn _))))))))), hz43⟩
   obtain rfl := Lst.zero hk29 c36
   rw [night_desk_first_l2] at r31
   refine shW_exit (andThen_exit (andThen_exit ?_))
   refine inBlock_exit ?_
   exact mi (kd (kd (kd (kx kr)))) ⟨out2, sum2, a23, n27, c24, Lb25, r31, hF34, rfl, (sc rfl (sc rfl (sn _))), hz26⟩
 rintro e1 F134 _ ⟨out, sum, a17, n21, c18, Lb19, r132, hF135, rfl, he133, hz20⟩
 refine shW_env _ he133 ?_; clear he133
 rw [night_desk_first_j1] at r132
 refine wsr (om rfl rfl (om rfl rfl (oa rfl rfl (oa rfl rfl (shO_nil ?_)))))
 obtain ⟨g136, r137⟩ := gd_ok r132; clear r132
 refine shW_ret ?_
 refine q_res2 Try.results56 (res_tmp rfl) (res_tmp rfl) (sr) ?_
 obtain ⟨rfl, rfl⟩ := inj2 r137
 exact ⟨_, _, _, _, rfl, rfl, hz20.any, SlR.nn hz20 g136⟩
set_option maxHeartbeats 1000000 in
theorem night_all_1_w {x : Int} {F : FS} {r : Bool} (hr : night_all_1 x = some r) :
    SpecV Try.prog 100 #[.int .i64 x] F (.bool r) := by
 refine spec_of_shW (args := [.int .i64 x]) Try.func100 rfl Try.ntmps100 (Nat.le_of_ble_eq_true rfl) ?_
 intro K _ _; rw [night_all_1] at hr
 refine wsr (oa rfl rfl (nsr (oa rfl rfl (shO_nil (shW_ret ?_)))))
 refine q_res1 Try.results100 (res_tmp rfl) (sr) ?_
 obtain rfl := inj1 hr
 exact rfl
set_option maxHeartbeats 1000000 in
theorem night_all_w {F : FS} {r : Bool} (hr : night_all = some r) :
    SH.Spec Try.prog 57 #[] F [] fun _ L' v => ∃ (rv : Value), v = .agg #[rv] ∧ L' = [] ∧ FnOR rv r 100 := by
 refine spec_of_shW (args := []) Try.func57 rfl Try.ntmps57 (Nat.le_of_ble_eq_true rfl) ?_
 intro K _ _; rw [night_all] at hr
 refine wsr ?_
 refine o_alloc rfl Try.zeroValue111 ?_; intro b1 hb1
 refine nsr ?_
 refine ov (v_build (v := .agg (#[.func (.func 100) #[] #[]])) rfl (by intro w; kernel_rfl)) rfl ?_
 refine o_storeA (i := 0) Try.sizeOf111 rfl rfl rfl (by simp [Value.oneCell']) rfl (Nat.le_of_ble_eq_true rfl) ?_
 refine shO_L (L' := [(b1, .cells (#[.func (.func 100) #[] #[]]) 111 (0, 0))]) rfl ?_
 refine shO_nil (shW_ret ?_)
 refine q_res1 Try.results57 (res_cellA (cs := #[.func (.func 100) #[] #[]]) Try.isAgg111 Try.sizeOf111 rfl (Has.own 0 rfl) (Nat.le_of_ble_eq_true rfl) rfl) (s1 sr) ?_
 obtain rfl := inj1 hr
 exact ⟨_, rfl, rfl, FnOR.fn _⟩
set_option maxHeartbeats 1000000 in
theorem night_Fewest_w {listens_a : Option Addr} {listens_c : Nat} {listens : List (List Int)} {hours_a : Option Addr} {hours_c : Nat} {hours : List (List Int)} {F : FS} (h_listens : RowR 1 (slE 1 (iE .i64)) F listens_a listens_c listens) (h_hours : RowR 1 (slE 1 (iE .i64)) F hours_a hours_c hours) {r : List Int} {r2 : Int} {r3 : Int} (hr : night_Fewest listens hours = some (r, r2, r3)) :
    SH.Spec Try.prog 14 #[.agg #[.slice listens_a listens.length listens_c, .slice hours_a hours.length hours_c]] F [] fun F' L' v => ∃ (ra : Option Addr) (rn : Nat) (rc : Nat) (rL : LH), v = .tuple #[.slice ra rn rc, .int .i64 r2, .int .i64 r3] ∧ L' = rL ++ [] ∧ SlR 0 3 1 (iE .i64) F' ra rn rc r rL := by
 refine spec_of_shW (args := [.agg #[.slice listens_a listens.length listens_c, .slice hours_a hours.length hours_c]]) Try.func14 rfl Try.ntmps14 (Nat.le_of_ble_eq_true rfl) ?_
 intro K _ _; rw [night_Fewest] at hr
 refine wsr ?_
 refine o_box rfl rfl ?_; intro b1 hb1
 refine oa rfl rfl (oa rfl rfl (oa rfl rfl (nsr ?_)))
 refine ov (v_loadA (cs := #[.slice listens_a listens.length listens_c, .slice hours_a hours.length hours_c]) Try.isAgg26 Try.sizeOf26 rfl (Has.own 0 rfl) (Nat.le_of_ble_eq_true rfl) rfl) rfl ?_
 obtain ⟨d, n, h2, r4⟩ := b2_ok hr; clear hr
 refine o_call0 rfl Try.call55 rfl rfl rfl (night_told_w h_listens h_hours h2) ?_; rintro _ F5 _ hF6 hn7 ⟨v9, Lb11, rfl, rfl, hp10⟩
 refine shO_L (lp (ln rfl)) ?_
 refine kO (kf (fS fO) kr) ?_
 refine om rfl rfl (ox rfl rfl rfl (ox rfl rfl rfl (oa rfl rfl (oa rfl rfl (shO_nil (shW_seq (wsr (om rfl rfl ?_))))))))
 refine ov (v_neq rfl rfl) rfl ?_
 refine shO_nil ?_
 refine shW_condP rfl (fun c12 => ?_) (fun c12 => ?_)
 · have r13 := ite_t r4 c12; clear r4
   refine wsr (om rfl rfl (oa rfl rfl (oa rfl rfl (oa rfl rfl (shO_nil ?_)))))
   refine kW kn ?_
   refine shW_ret (andThen_ret ?_)
   refine q_res3 Try.results14 (res_tmp rfl) (res_tmp rfl) (res_tmp rfl) (sr) ?_
   obtain ⟨rfl, rfl, rfl⟩ := inj3 r13
   exact ⟨_, _, _, [], rfl, rfl, SlR.nil _ _ _ _ _⟩
 have r14 := ite_f r4 c12; clear r4
 refine shW_skip (shW_seq ?_)
 obtain ⟨listens2, hours2, cried, rows, h15, r16⟩ := b4_ok r14; clear r14
 have h22 := hp10; rw [h15] at h22; obtain ⟨b17, m18, a23, c24, a26, c27, b29, es30, cl31, a33, c34, hv19, hz20, h25, h28, hR32, h35, hL21⟩ := ob_139_of h22; subst hv19; subst hL21
 refine shW_L (L' := [(b1, .cells #[.slice listens_a listens.length listens_c, .slice hours_a hours.length hours_c] 26 (0, 0)), (b29, .map es30 cl31)]) rfl ?_
 refine shW_region (om rfl rfl ?_)
 obtain ⟨y, h36, r37⟩ := b1_ok r16; clear r16
 refine o_call0 rfl Try.call57 rfl rfl rfl (night_all_w h36) ?_; rintro _ F38 _ hF39 hn40 ⟨v42, rfl, rfl, hp43⟩
 replace h25 := h25.mono (slE_ok (iE_ok _)) hF39
 replace h28 := h28.mono (slE_ok (iE_ok _)) hF39
 replace h35 := h35.mono (arE_ok (n := 64) (sz := 1) cB_ok) hF39
 replace hz20 := hF39 _ _ hz20
 refine shO_L (ln rfl) ?_
 obtain ⟨g44, r45⟩ := gd_ok r37; clear r37
 obtain rfl := hp43.2 g44
 have hn46 : FnR Try.prog F38 100 #[] #[] (iE .i64) Value.bool (fun xx_ : Int => night_all_1 xx_) := ⟨Try.call100, fun F2 h2 vs xx_ r ha hr => by obtain rfl := ha; exact night_all_1_w hr⟩
 obtain ⟨l, n2, h47, r48⟩ := b2_ok r45; clear r45
 refine o_call0 rfl Try.call56 rfl rfl rfl (night_desk_first_w hz20 h25 h28 h35 hn46 h47) ?_; rintro _ F49 _ hF50 hn51 ⟨a53, n57, c54, Lb55, rfl, rfl, hz56, hq59⟩
 replace hz56 := hz56.new fun p hp => hn51 p (by simp [hp])
 refine shO_L (lp (ln rfl)) ?_
 refine kO (kf (fS fO) (kf (fS fO) kr)) ?_
 refine om rfl rfl (ox rfl rfl rfl (ox rfl rfl rfl (oa rfl rfl (oa rfl rfl (nsr (om rfl rfl (om rfl rfl (oa rfl rfl (oa rfl rfl ?_)))))))))
 refine oa rfl rfl (shO_nil ?_)
 refine kW (kd (kd kr)) ?_
 refine shW_ret ?_
 refine q_res3 Try.results14 (res_tmp rfl) (res_tmp rfl) (res_tmp rfl) (sr) ?_
 obtain ⟨rfl, rfl, rfl⟩ := inj3 r48
 exact ⟨_, _, _, _, rfl, rfl, hz56.any⟩
set_option maxHeartbeats 1000000 in
theorem night_desk_table_w {b_d : Nat} {listens_a : Option Addr} {listens_c : Nat} {listens : List (List Int)} {hours_a : Option Addr} {hours_c : Nat} {hours : List (List Int)} {v1 : Value} {rows_a : Option Addr} {rows_c : Nat} {rows : List (List Bool)} {mb_d : Nat × Nat} {F : FS} (hb_d : F b_d = some (.cells #[.slice listens_a listens.length listens_c, .slice hours_a hours.length hours_c, v1, .slice rows_a rows.length rows_c] 139 mb_d)) (h_listens : RowR 1 (slE 1 (iE .i64)) F listens_a listens_c listens) (h_hours : RowR 1 (slE 1 (iE .i64)) F hours_a hours_c hours) (h_rows : RowR 64 (arE 64 cB) F rows_a rows_c rows) {r : List (List Int)} (hr : night_desk_table listens hours rows = some r) :
    SH.Spec Try.prog 61 #[.pointer (some ⟨b_d, 0, none⟩)] F [] fun F' L' v => ∃ (ra : Option Addr) (rn : Nat) (rc : Nat) (rL : LH), v = .slice ra rn rc ∧ L' = rL ++ [] ∧ SlR 0 27 1 (slE 1 (iE .i64)) F' ra rn rc r rL := by
 refine spec_of_shW (args := [.pointer (some ⟨b_d, 0, none⟩)]) Try.func61 rfl Try.ntmps61 (Nat.le_of_ble_eq_true rfl) ?_
 intro K _ _; rw [night_desk_table] at hr
 refine wsr ?_
 refine o_box rfl rfl ?_; intro b2 hb2
 refine oa rfl rfl (nsr ?_)
 refine o_alloc rfl Try.zeroValue23 ?_; intro b3 hb3
 refine shO_nil ?_
 obtain ⟨out, h10, r11⟩ := b1_ok hr; clear hr
 refine shW_join (fun e1 F1 L1 => ∃ (a4 : Option Addr) (n8 : Nat) (c5 : Nat) (Lb6 : LH), FExt F F1 ∧ L1 = ((b3, .cells #[.slice a4 n8 c5] 23 (0, 0)) :: (Lb6 ++ [])) ∧ e1.sub [(3, .pointer (some ⟨b3, 0, none⟩))] ∧ SlR K.w0.heap.size 27 1 (slE 1 (iE .i64)) F1 a4 n8 c5 out Lb6) ?_ ?_
 · clear r11
   refine wsr ?_
   refine ov (v_load Try.isAgg105 rfl (Has.own 1 rfl) rfl) rfl ?_
   refine ov (v_nilCheck rfl) rfl ?_
   refine ov (v_fieldAddr fa_139_0 rfl) rfl ?_
   refine ov (v_fieldAddr fa_26_1 rfl) rfl ?_
   refine ov (v_load Try.isAgg24 rfl (Has.frozen hb_d) rfl) rfl ?_
   refine ov (v_lenS Try.underlying24 rfl) rfl ?_
   refine om rfl rfl (shO_nil ?_)
   refine shW_block ?_
   refine shW_lp (fun fu1 e1 F1 L1 => ∃ (tl : List (List Int)) (k : Int), tl.length = fu1 ∧ Lst hours k tl ∧ ∃ (out2 : List (List Int)) (a12 : Option Addr) (n16 : Nat) (c13 : Nat) (Lb14 : LH), night_desk_table_l1 listens hours rows tl k out2 = some out ∧ FExt F F1 ∧ L1 = ((b3, .cells #[.slice a12 n16 c13] 23 (0, 0)) :: ((b2, .cells #[.pointer (some ⟨b_d, 0, none⟩)] 105 (0, 0)) :: (Lb14 ++ []))) ∧ e1.sub [(1, .pointer (some ⟨b2, 0, none⟩)), (3, .pointer (some ⟨b3, 0, none⟩)), (13, .int .i64 (hours.length : Int)), (14, .int .i64 k)] ∧ SlR K.w0.heap.size 27 1 (slE 1 (iE .i64)) F1 a12 n16 c13 out2 Lb14) _ (m0 (kc (kc (ke kr))) ⟨_, _, rfl, Lst.start _, [], none, 0, 0, [], h10, FExt.refl _, rfl, (sc rfl (sc rfl (sc rfl (sc rfl (sn _))))), SlR.nil _ _ _ _ _⟩) ?_
   rintro fu1 e1 F22 _ ⟨tl, k, hn19, hk18, out2, a12, n16, c13, Lb14, r20, hF23, rfl, he21, hz15⟩
   refine shW_env _ he21 ?_; clear he21
   replace h_listens := h_listens.mono (slE_ok (iE_ok _)) hF23
   replace h_hours := h_hours.mono (slE_ok (iE_ok _)) hF23
   replace h_rows := h_rows.mono (arE_ok (n := 64) (sz := 1) cB_ok) hF23
   replace hb_d := hF23 _ _ hb_d
   refine wsr ?_
   refine ov (v_lssK rfl rfl) rfl ?_
   refine shO_nil (shW_seq ?_)
   refine shW_condP rfl (fun c25 => ?_) (fun c25 => ?_)
   · obtain ⟨x, tl2, rfl, hx27, g28, hk26⟩ := Lst.succ hk18 c25
     rw [night_desk_table_l1] at r20
     refine shW_skip ?_
     obtain ⟨out3, h35, r36⟩ := b1_ok r20; clear r20
     refine shW_join (fun e1 F1 L1 => ∃ (a29 : Option Addr) (n33 : Nat) (c30 : Nat) (Lb31 : LH), FExt F22 F1 ∧ L1 = ((b3, .cells #[.slice a29 n33 c30] 23 (0, 0)) :: ((b2, .cells #[.pointer (some ⟨b_d, 0, none⟩)] 105 (0, 0)) :: (Lb31 ++ []))) ∧ e1.sub [(1, .pointer (some ⟨b2, 0, none⟩)), (3, .pointer (some ⟨b3, 0, none⟩)), (13, .int .i64 (hours.length : Int)), (14, .int .i64 k)] ∧ SlR K.w0.heap.size 27 1 (slE 1 (iE .i64)) F1 a29 n33 c30 out3 Lb31) ?_ ?_
     · clear r36
       refine shW_block ?_
       refine wsr (om rfl rfl ?_)
       refine o_alloc rfl Try.zeroValue3 ?_; intro b37 hb37
       refine o_store (i := 0) Try.sizeOf3 rfl rfl rfl rfl (Nat.le_of_ble_eq_true rfl) ?_
       refine shO_L (L' := (b37, .cells #[.int .i64 k] 3 (0, 0)) :: ((b3, .cells #[.slice a12 n16 c13] 23 (0, 0)) :: ((b2, .cells #[.pointer (some ⟨b_d, 0, none⟩)] 105 (0, 0)) :: (Lb14 ++ [])))) rfl ?_
       refine nsr ?_
       refine ov (v_load Try.isAgg105 rfl (Has.own 2 rfl) rfl) rfl ?_
       obtain ⟨n, h38, r39⟩ := b1_ok h35; clear h35
       refine o_callV rfl Try.call72 rfl rfl rfl (night_desk_sets_w hb_d h_listens h_hours h38) ?_
       obtain ⟨g40, r41⟩ := gd_ok r39; clear r39
       obtain ⟨l, h42, r43⟩ := bv_ok r41; clear r41
       refine o_makeZ (R := (iE .i64)) (z0 := 0) (zs := l) rfl slt_27 (by decide) (iE_ok _) (fun _ => rfl) rfl g40 h42 (fun _ => .c (.c (.c .n))) ?_; intro a44 n47 Lb45 hz46
       refine o_alloc rfl Try.zeroValue27 ?_; intro b49 hb49
       refine o_store (i := 0) Try.sizeOf27 rfl rfl rfl rfl (Nat.le_of_ble_eq_true rfl) ?_
       refine shO_L (L' := (b49, .cells #[.slice a44 n47 n47] 27 (0, 0)) :: ((b37, .cells #[.int .i64 k] 3 (0, 0)) :: ((b3, .cells #[.slice a12 n16 c13] 23 (0, 0)) :: ((b2, .cells #[.pointer (some ⟨b_d, 0, none⟩)] 105 (0, 0)) :: (Lb45 ++ (Lb14 ++ [])))))) rfl ?_
       refine shO_nil ?_
       obtain ⟨l2, h52, r53⟩ := b1_ok r43; clear r43
       refine shW_join (fun e1 F1 L1 => ∃ (Lb50 : LH), FExt F22 F1 ∧ L1 = ((b49, .cells #[.slice a44 n47 n47] 27 (0, 0)) :: ((b3, .cells #[.slice a12 n16 c13] 23 (0, 0)) :: ((b2, .cells #[.pointer (some ⟨b_d, 0, none⟩)] 105 (0, 0)) :: (Lb14 ++ (Lb50 ++ []))))) ∧ e1.sub [(1, .pointer (some ⟨b2, 0, none⟩)), (3, .pointer (some ⟨b3, 0, none⟩)), (5, .pointer (some ⟨b49, 0, none⟩)), (13, .int .i64 (hours.length : Int)), (14, .int .i64 k)] ∧ SlR K.w0.heap.size 3 1 (iE .i64) F1 a44 n47 n47 l2 Lb50) ?_ ?_
       · clear r53
         refine wsr ?_
         refine ov (v_load Try.isAgg105 rfl (Has.own 3 rfl) rfl) rfl ?_
         refine ov (v_load Try.isAgg3 rfl (Has.own 1 rfl) rfl) rfl ?_
         obtain ⟨y, h54, r55⟩ := b1_ok h52; clear h52
         refine o_call0 rfl Try.call62 rfl rfl rfl (night_desk_fit_w hb_d h_listens h_hours h_rows h54) ?_; rintro _ F56 _ hF57 hn58 ⟨cp60, rfl, rfl, hit61⟩
         replace h_listens := h_listens.mono (slE_ok (iE_ok _)) hF57
         replace h_hours := h_hours.mono (slE_ok (iE_ok _)) hF57
         replace h_rows := h_rows.mono (arE_ok (n := 64) (sz := 1) cB_ok) hF57
         replace hz15 := hz15.mono (slE_ok (iE_ok _)) hF57
         replace hz46 := hz46.mono (iE_ok _) hF57
         replace hb_d := hF57 _ _ hb_d
         refine shO_L (ln rfl) ?_
         refine shO_nil ?_
         refine shW_block ?_
         refine kW (kc (kc (kc (kc (kg (fS fP) kr))))) ?_
         refine shW_rangeFunc (encs := (fun x : Int => #[.int .i64 x])) (xs := y) rfl Try.call102 rfl (fun _ => rfl) hit61 (fun pre F1 L1 => ∃ (tl3 : List Int) (l3 : List Int) (Lb62 : LH), y = pre ++ tl3 ∧ night_desk_table_l2 listens hours rows out2 k tl3 l3 = some l2 ∧ L1 = ((b49, .cells #[.slice a44 n47 n47] 27 (0, 0)) :: ((b37, .cells #[.int .i64 k] 3 (0, 0)) :: ((b3, .cells #[.slice a12 n16 c13] 23 (0, 0)) :: ((b2, .cells #[.pointer (some ⟨b_d, 0, none⟩)] 105 (0, 0)) :: (Lb14 ++ (Lb62 ++ [])))))) ∧ SlR K.w0.heap.size 3 1 (iE .i64) F1 a44 n47 n47 l3 Lb62) (fun _ _ _ => False) ?_ ?_ ?_ ?_ ?_ ?_
         · rintro pre F1 F2 L1 ⟨tl3, l3, Lb62, hs64, r65, rfl, hz63⟩ hx; exact ⟨tl3, l3, Lb62, hs64, r65, rfl, hz63.mono (iE_ok _) hx⟩
         · intro c F1 F2 L1 h hx; exact h
         · exact ⟨_, l, Lb45, rfl, r55, rfl, hz46⟩
         · rintro l66 wr67 Fr68 Xr69 Ha70 Hb71 hnb72 hH76 pre x2 tl4 hxs75 F73 _ hF74 ⟨tl3, l3, Lb62, hs64, r77, rfl, hz63⟩
           obtain rfl := rest_head hs64 hxs75
           rw [night_desk_table_l2] at r77
           replace h_listens := h_listens.mono (slE_ok (iE_ok _)) hF74
           replace h_hours := h_hours.mono (slE_ok (iE_ok _)) hF74
           replace h_rows := h_rows.mono (arE_ok (n := 64) (sz := 1) cB_ok) hF74
           replace hz15 := hz15.mono (slE_ok (iE_ok _)) hF74
           replace hb_d := hF74 _ _ hb_d
           refine shW_env [(1, .pointer (some ⟨b2, 0, none⟩)), (3, .pointer (some ⟨b3, 0, none⟩)), (4, .pointer (some ⟨b37, 0, none⟩)), (5, .pointer (some ⟨b49, 0, none⟩)), (13, .int .i64 (hours.length : Int)), (14, .int .i64 k), (23, .int .i64 x2)] (by exact (sc rfl (sc rfl (sc rfl (sc rfl (sc rfl (sc rfl (sc rfl (sn _))))))))) ?_
           refine shW_region ?_
           refine o_alloc rfl Try.zeroValue3 ?_; intro b78 hb78
           refine o_store (i := 0) Try.sizeOf3 rfl rfl rfl rfl (Nat.le_of_ble_eq_true rfl) ?_
           refine shO_L (L' := (b78, .cells #[.int .i64 x2] 3 (0, 0)) :: ((b49, .cells #[.slice a44 n47 n47] 27 (0, 0)) :: ((b37, .cells #[.int .i64 k] 3 (0, 0)) :: ((b3, .cells #[.slice a12 n16 c13] 23 (0, 0)) :: ((b2, .cells #[.pointer (some ⟨b_d, 0, none⟩)] 105 (0, 0)) :: (Lb14 ++ (Lb62 ++ []))))))) rfl ?_
           refine shO_nil ?_
           refine ⟨rfl, ?_⟩
           refine shW_block ?_
           refine shW_seq (wsr ?_)
           refine ov (v_load Try.isAgg3 rfl (Has.own 2 rfl) rfl) rfl ?_
           refine ov (v_eql rfl rfl) rfl ?_
           refine shO_nil ?_
           refine shW_condP rfl (fun c79 => ?_) (fun c79 => ?_)
           · have r80 := ite_t r77 c79; clear r77
             refine shW_seq ?_
             refine shW_drawM [(.still, 0), (.still, 1), (.still, 2), (.seq, 3), (.still, 4), (.seq, 5)] (by kernel_rfl) (by kernel_rfl) (trivial) (by rfl) (by kernel_rfl) ?_
             refine shM_v (v := .slice a44 n47 n47) (ek := [(5, .pointer (some ⟨b49, 0, none⟩))]) (Ls := [(b49, .cells #[.slice a44 n47 n47] 27 (0, 0))]) rfl rfl rfl rfl ((sc rfl (sn _))) (by kernel_rfl) (s0 (s1 (s2 (s1 (s1 (s1 (s3 (s3 sr)))))))) (fun H F' L' hF' hL' => v_load Try.isAgg27 rfl ((Has.own 0 rfl).ext hF' hL') rfl) ?_
             refine shM_v (v := .int .i64 x2) (ek := [(6, .pointer (some ⟨b78, 0, none⟩))]) (Ls := [(b78, .cells #[.int .i64 x2] 3 (0, 0))]) rfl rfl rfl rfl ((sc rfl (sn _))) (by kernel_rfl) (s0 (s2 (s1 (s1 (s1 (s1 (s3 (s3 sr)))))))) (fun H F' L' hF' hL' => v_load Try.isAgg3 rfl ((Has.own 0 rfl).ext hF' hL') rfl) ?_
             refine shM_v (v := .int .i64 x2) (ek := [(6, .pointer (some ⟨b78, 0, none⟩))]) (Ls := [(b78, .cells #[.int .i64 x2] 3 (0, 0))]) rfl rfl rfl rfl ((sc rfl (sn _))) (by kernel_rfl) (s0 (s2 (s1 (s1 (s1 (s1 (s3 (s3 sr)))))))) (fun H F' L' hF' hL' => v_load Try.isAgg3 rfl ((Has.own 0 rfl).ext hF' hL') rfl) ?_
             refine ⟨_, [(28, .int .i64 x2)], rfl, rfl, (sc rfl (sn _)), by kernel_rfl, ?_⟩; intro H
             obtain ⟨n2, h81, r82⟩ := b1_ok r80; clear r80
             refine o_callV rfl Try.call89 rfl rfl rfl (night_ones_w h81) ?_
             refine shO_nil ⟨_, rfl, FExt.refl _, [1, 0], by kernel_rfl, .inl (.inr (fun d h => by cases h; rfl)), (List.forall_mem_cons.2 ⟨s0 (s2 (s1 (s1 (s1 (s1 (s3 (s3 sr))))))), (List.forall_mem_cons.2 ⟨s0 (s1 (s2 (s1 (s1 (s1 (s3 (s3 sr))))))), (fun _ h => absurd h List.not_mem_nil)⟩)⟩), ?_⟩
             obtain ⟨x3, g83, hx84, r85⟩ := ix_ok r82; clear r82
             obtain ⟨b86, o87, c88, vs89, ha90, hs91, hle92, rfl, hl93, hc94⟩ := SlR.at (iE_ok _) hz63 (L := Lb62 ++ []) fP g83.1 hx84
             refine shM_v (v := .pointer (some ⟨b86, o87 + (x2 : Int).toNat * 1, none⟩)) (ek := [(26, .slice a44 n47 n47), (27, .int .i64 x2)]) (Ls := []) rfl rfl rfl rfl ((sc rfl (sc rfl (sn _)))) (by kernel_rfl) sm (fun H F' L' hF' hL' => v_indexO Try.underlying27 Try.sizeOf3 rfl ha90 rfl (SlR.idx hz63 g83)) ?_
             refine ⟨_, [(29, .int .i64 n2), (30, .pointer (some ⟨b86, o87 + (x2 : Int).toNat * 1, none⟩))], rfl, rfl, (sc rfl (sc rfl (sn _))), by kernel_rfl, ?_⟩; intro H
             obtain ⟨l4, h95, r96⟩ := bv_ok r85; clear r85
             refine o_storeZ (u := n2) Try.sizeOf3 (iE_ok _) rfl ha90 rfl rfl (fun _ => .c (.c (.c (.c (.c (.s .h)))))) hz63 h95 g83 ?_; intro Lb97 hz98
             refine shO_nil ⟨undef, rfl, FExt.refl _, [], by kernel_rfl, .inl (.inl rfl), (fun _ h => absurd h List.not_mem_nil), ?_⟩
             refine shM_nil ?_
             refine shW_exit (andThen_exit ?_)
             refine inBlock_exit ?_
             refine ⟨(b49, .cells #[.slice a44 n47 n47] 27 (0, 0)) :: ((b37, .cells #[.int .i64 k] 3 (0, 0)) :: ((b3, .cells #[.slice a12 n16 c13] 23 (0, 0)) :: ((b2, .cells #[.pointer (some ⟨b_d, 0, none⟩)] 105 (0, 0)) :: (Lb14 ++ (Lb97 ++ []))))), s1 (s2 (s2 (s2 (s2 (s4 (s4 sr)))))), ?_⟩; exact ⟨_, l4, Lb97, (by rw [hxs75]; simp), r96, rfl, hz98⟩
           have r99 := ite_f r77 c79; clear r77
           refine shW_skip (wsr ?_)
           refine ov (v_load Try.isAgg27 rfl (Has.own 1 rfl) rfl) rfl ?_
           refine ov (v_load Try.isAgg3 rfl (Has.own 0 rfl) rfl) rfl ?_
           obtain ⟨x4, g100, hx101, r102⟩ := ix_ok r99; clear r99
           obtain ⟨b103, o104, c105, vs106, ha107, hs108, hle109, rfl, hl110, hc111⟩ := SlR.at (iE_ok _) hz63 (L := (b78, .cells #[.int .i64 x2] 3 (0, 0)) :: ((b49, .cells #[.slice a44 n47 n47] 27 (0, 0)) :: ((b37, .cells #[.int .i64 k] 3 (0, 0)) :: ((b3, .cells #[.slice a12 n16 c13] 23 (0, 0)) :: ((b2, .cells #[.pointer (some ⟨b_d, 0, none⟩)] 105 (0, 0)) :: (Lb14 ++ (Lb62 ++ []))))))) (fC (fC (fC (fC (fC (fS fP)))))) g100.1 hx101
           refine ov (v_indexO Try.underlying27 Try.sizeOf3 rfl ha107 rfl (SlR.idx hz63 g100)) rfl ?_
           obtain ⟨l5, h112, r113⟩ := bv_ok r102; clear r102
           refine o_storeZ (u := 100) Try.sizeOf3 (iE_ok _) rfl ha107 rfl rfl (fun _ => .c (.c (.c (.c (.c (.s .h)))))) hz63 h112 g100 ?_; intro Lb114 hz115
           refine nsr ?_
           refine ov (v_load Try.isAgg105 rfl (Has.own 4 rfl) rfl) rfl ?_
           refine ov (v_load Try.isAgg3 rfl (Has.own 2 rfl) rfl) rfl ?_
           obtain ⟨g116, r117⟩ := gd_ok r113; clear r113
           refine ov (v_sub rfl rfl g116) rfl ?_
           obtain ⟨y2, h118, r119⟩ := b1_ok r117; clear r117
           refine o_call0 rfl Try.call62 rfl rfl rfl (night_desk_fit_w hb_d h_listens h_hours h_rows h118) ?_; rintro _ F120 _ hF121 hn122 ⟨cp124, rfl, rfl, hit125⟩
           replace hz15 := hz15.mono (slE_ok (iE_ok _)) hF121
           replace hz115 := hz115.mono (iE_ok _) hF121
           refine shO_L (ln rfl) ?_
           refine shO_nil ?_
           refine shW_block ?_
           refine shW_rangeFuncIn hH76 (encs := (fun x : Int => #[.int .i64 x])) (xs := y2) rfl Try.call102 rfl (fun _ => rfl) hit125 (fun pre F1 L1 => ∃ (tl5 : List Int) (l6 : List Int) (Lb126 : LH), y2 = pre ++ tl5 ∧ night_desk_table_l3 out2 k x2 (night_desk_table_l2 listens hours rows out2 k tl4) tl5 l6 = some l2 ∧ L1 = ((b78, .cells #[.int .i64 x2] 3 (0, 0)) :: ((b49, .cells #[.slice a44 n47 n47] 27 (0, 0)) :: ((b37, .cells #[.int .i64 k] 3 (0, 0)) :: ((b3, .cells #[.slice a12 n16 c13] 23 (0, 0)) :: ((b2, .cells #[.pointer (some ⟨b_d, 0, none⟩)] 105 (0, 0)) :: (Lb14 ++ (Lb126 ++ []))))))) ∧ SlR K.w0.heap.size 3 1 (iE .i64) F1 a44 n47 n47 l6 Lb126) (fun _ _ _ => False) ?_ ?_ ?_ ?_ ?_ ?_
           · rintro pre F1 F2 L1 ⟨tl5, l6, Lb126, hs128, r129, rfl, hz127⟩ hx; exact ⟨tl5, l6, Lb126, hs128, r129, rfl, hz127.mono (iE_ok _) hx⟩
           · intro c F1 F2 L1 h hx; exact h
           · exact ⟨_, l5, Lb114, rfl, r119, rfl, hz115⟩
           · rintro l130 wr131 Fr132 Xr133 Ha134 Hb135 hnb136 hH140 pre x5 tl6 hxs139 F137 _ hF138 ⟨tl5, l6, Lb126, hs128, r141, rfl, hz127⟩
             obtain rfl := rest_head hs128 hxs139
             rw [night_desk_table_l3] at r141
             replace hz15 := hz15.mono (slE_ok (iE_ok _)) hF138
             refine shW_env [(1, .pointer (some ⟨b2, 0, none⟩)), (3, .pointer (some ⟨b3, 0, none⟩)), (4, .pointer (some ⟨b37, 0, none⟩)), (5, .pointer (some ⟨b49, 0, none⟩)), (6, .pointer (some ⟨b78, 0, none⟩)), (13, .int .i64 (hours.length : Int)), (14, .int .i64 k), (23, .int .i64 x2), (37, .func (.func 102) #[] cp124), (38, .int .i64 x5)] (by exact (sc rfl (sc rfl (sc rfl (sc rfl (sc rfl (sc rfl (sc rfl (sc rfl (sc rfl (sc rfl (sn _)))))))))))) ?_
             refine shW_region (oa rfl rfl (shO_nil ?_))
             refine ⟨rfl, ?_⟩
             refine shW_block ?_
             refine shW_drawM [(.still, 0), (.still, 1), (.still, 2), (.still, 3), (.still, 4), (.still, 5), (.still, 6), (.still, 7), (.still, 8), (.still, 9), (.still, 10), (.still, 11), (.still, 12), (.still, 13), (.still, 14), (.still, 15), (.seq, 16), (.still, 17), (.seq, 18), (.seq, 19), (.still, 20), (.seq, 21)] (by kernel_rfl) (by kernel_rfl) (trivial) (by rfl) (by kernel_rfl) ?_
             refine shM_v (v := .slice a44 n47 n47) (ek := [(5, .pointer (some ⟨b49, 0, none⟩))]) (Ls := [(b49, .cells #[.slice a44 n47 n47] 27 (0, 0))]) rfl rfl rfl rfl ((sc rfl (sn _))) (by kernel_rfl) (s0 (s1 (s2 (s1 (s1 (s1 (s3 (s3 sr)))))))) (fun H F' L' hF' hL' => v_load Try.isAgg27 rfl ((Has.own 0 rfl).ext hF' hL') rfl) ?_
             refine shM_v (v := .int .i64 x2) (ek := [(6, .pointer (some ⟨b78, 0, none⟩))]) (Ls := [(b78, .cells #[.int .i64 x2] 3 (0, 0))]) rfl rfl rfl rfl ((sc rfl (sn _))) (by kernel_rfl) (s0 (s2 (s1 (s1 (s1 (s1 (s3 (s3 sr)))))))) (fun H F' L' hF' hL' => v_load Try.isAgg3 rfl ((Has.own 0 rfl).ext hF' hL') rfl) ?_
             refine shM_v (v := .slice a44 n47 n47) (ek := [(5, .pointer (some ⟨b49, 0, none⟩))]) (Ls := [(b49, .cells #[.slice a44 n47 n47] 27 (0, 0))]) rfl rfl rfl rfl ((sc rfl (sn _))) (by kernel_rfl) (s0 (s1 (s2 (s1 (s1 (s1 (s3 (s3 sr)))))))) (fun H F' L' hF' hL' => v_load Try.isAgg27 rfl ((Has.own 0 rfl).ext hF' hL') rfl) ?_
             refine shM_v (v := .int .i64 x2) (ek := [(6, .pointer (some ⟨b78, 0, none⟩))]) (Ls := [(b78, .cells #[.int .i64 x2] 3 (0, 0))]) rfl rfl rfl rfl ((sc rfl (sn _))) (by kernel_rfl) (s0 (s2 (s1 (s1 (s1 (s1 (s3 (s3 sr)))))))) (fun H F' L' hF' hL' => v_load Try.isAgg3 rfl ((Has.own 0 rfl).ext hF' hL') rfl) ?_
             obtain ⟨x6, g142, hx143, r144⟩ := ix_ok r141; clear r141
             obtain ⟨b145, o146, c147, vs148, ha149, hs150, hle151, rfl, hl152, hc153⟩ := SlR.at (iE_ok _) hz127 (L := Lb126 ++ []) fP g142.1 hx143
             refine shM_v (v := .pointer (some ⟨b145, o146 + (x2 : Int).toNat * 1, none⟩)) (ek := [(41, .slice a44 n47 n47), (42, .int .i64 x2)]) (Ls := []) rfl rfl rfl rfl ((sc rfl (sc rfl (sn _)))) (by kernel_rfl) sm (fun H F' L' hF' hL' => v_indexO Try.underlying27 Try.sizeOf3 rfl ha149 rfl (SlR.idx hz127 g142)) ?_
             refine shM_v (v := .int .i64 x6) (ek := [(43, .pointer (some ⟨b145, o146 + (x2 : Int).toNat * 1, none⟩))]) (Ls := Lb126 ++ []) rfl rfl rfl rfl ((sc rfl (sn _))) (by kernel_rfl) (s0 (s1 (s1 (s1 (s1 (s1 (s3 (s4 sr)))))))) (fun H F' L' hF' hL' => v_load Try.isAgg3 rfl (hs150.ext hF' hL') (hc153 0 (by decide))) ?_
             refine shM_v (v := .slice a12 n16 c13) (ek := [(3, .pointer (some ⟨b3, 0, none⟩))]) (Ls := [(b3, .cells #[.slice a12 n16 c13] 23 (0, 0))]) rfl rfl rfl rfl ((sc rfl (sn _))) (by kernel_rfl) (s0 (s1 (s1 (s1 (s2 (s1 (s3 (s3 sr)))))))) (fun H F' L' hF' hL' => v_load Try.isAgg23 rfl ((Has.own 0 rfl).ext hF' hL') rfl) ?_
             refine shM_v (v := .int .i64 k) (ek := [(4, .pointer (some ⟨b37, 0, none⟩))]) (Ls := [(b37, .cells #[.int .i64 k] 3 (0, 0))]) rfl rfl rfl rfl ((sc rfl (sn _))) (by kernel_rfl) (s0 (s1 (s1 (s2 (s1 (s1 (s3 (s3 sr)))))))) (fun H F' L' hF' hL' => v_load Try.isAgg3 rfl ((Has.own 0 rfl).ext hF' hL') rfl) ?_
             obtain ⟨g154, r155⟩ := gd_ok r144; clear r144
             refine shM_v (v := .int .i64 (k - 1)) (ek := [(46, .int .i64 k)]) (Ls := []) rfl rfl rfl rfl ((sc rfl (sn _))) (by kernel_rfl) sm (fun H F' L' hF' hL' => v_sub rfl rfl g154) ?_
             obtain ⟨x7, g156, hx157, r158⟩ := ix_ok r155; clear r155
             obtain ⟨b159, o160, c161, vs162, ha163, hs164, hle165, ⟨a168, c169, rfl, h170⟩, hl166, hc167⟩ := SlR.at (slE_ok (iE_ok _)) hz15 (L := Lb14 ++ []) fP g156.1 hx157
             refine shM_v (v := .pointer (some ⟨b159, o160 + (k - 1 : Int).toNat * 1, none⟩)) (ek := [(45, .slice a12 n16 c13), (47, .int .i64 (k - 1))]) (Ls := []) rfl rfl rfl rfl ((sc rfl (sc rfl (sn _)))) (by kernel_rfl) sm (fun H F' L' hF' hL' => v_indexO Try.underlying23 Try.sizeOf27 rfl ha163 rfl (SlR.idx hz15 g156)) ?_
             refine shM_v (v := .slice a168 x7.length c169) (ek := [(48, .pointer (some ⟨b159, o160 + (k - 1 : Int).toNat * 1, none⟩))]) (Ls := Lb14 ++ []) rfl rfl rfl rfl ((sc rfl (sn _))) (by kernel_rfl) (s0 (s1 (s1 (s1 (s1 (s1 (s4 (s3 sr)))))))) (fun H F' L' hF' hL' => v_load Try.isAgg27 rfl (hs164.ext hF' hL') (hc167 0 (by decide))) ?_
             refine shM_v (v := .int .i64 x5) (ek := [(7, .int .i64 x5)]) (Ls := []) rfl rfl rfl rfl ((sc rfl (sn _))) (by kernel_rfl) sm (fun H F' L' hF' hL' => v_move rfl) ?_
             obtain ⟨x8, g171, hx172, r173⟩ := ix_ok r158; clear r158
             obtain ⟨b174, o175, c176, vs177, ha178, hs179, hle180, rfl, hl181, hc182⟩ := RowR.at (iE_ok _) h170 ([]) g171.1 hx172
             refine shM_v (v := .pointer (some ⟨b174, o175 + (x5 : Int).toNat * 1, none⟩)) (ek := [(49, .slice a168 x7.length c169), (50, .int .i64 x5)]) (Ls := []) rfl rfl rfl rfl ((sc rfl (sc rfl (sn _)))) (by kernel_rfl) sm (fun H F' L' hF' hL' => v_indexO Try.underlying27 Try.sizeOf3 rfl ha178 rfl g171) ?_
             refine shM_v (v := .int .i64 x8) (ek := [(51, .pointer (some ⟨b174, o175 + (x5 : Int).toNat * 1, none⟩))]) (Ls := []) rfl rfl rfl rfl ((sc rfl (sn _))) (by kernel_rfl) sm (fun H F' L' hF' hL' => v_load Try.isAgg3 rfl (hs179.ext hF' hL') (hc182 0 (by decide))) ?_
             refine shM_v (v := .int .i64 x5) (ek := [(7, .int .i64 x5)]) (Ls := []) rfl rfl rfl rfl ((sc rfl (sn _))) (by kernel_rfl) sm (fun H F' L' hF' hL' => v_move rfl) ?_
             refine shM_v (v := .int .i64 x2) (ek := [(6, .pointer (some ⟨b78, 0, none⟩))]) (Ls := [(b78, .cells #[.int .i64 x2] 3 (0, 0))]) rfl rfl rfl rfl ((sc rfl (sn _))) (by kernel_rfl) (s0 (s2 (s1 (s1 (s1 (s1 (s3 (s3 sr)))))))) (fun H F' L' hF' hL' => v_load Try.isAgg3 rfl ((Has.own 0 rfl).ext hF' hL') rfl) ?_
             refine ⟨_, [(53, .int .i64 x5), (54, .int .i64 x2)], rfl, rfl, (sc rfl (sc rfl (sn _))), by kernel_rfl, ?_⟩; intro H
             obtain ⟨n3, h183, r184⟩ := b1_ok r173; clear r173
             refine o_callV rfl Try.call63 rfl rfl rfl (night_fallen_w h183) ?_
             refine shO_nil ⟨_, rfl, FExt.refl _, [13, 12, 11, 10, 9, 8, 7, 6, 5, 4, 3, 2, 1, 0], by kernel_rfl, .inl (.inr (fun d h => by cases h; rfl)), (List.forall_mem_cons.2 ⟨sm, (List.forall_mem_cons.2 ⟨sm, (List.forall_mem_cons.2 ⟨sm, (List.forall_mem_cons.2 ⟨s0 (s1 (s1 (s1 (s1 (s1 (s4 (s3 sr))))))), (List.forall_mem_cons.2 ⟨sm, (List.forall_mem_cons.2 ⟨sm, (List.forall_mem_cons.2 ⟨s0 (s1 (s1 (s2 (s1 (s1 (s3 (s3 sr))))))), (List.forall_mem_cons.2 ⟨s0 (s1 (s1 (s1 (s2 (s1 (s3 (s3 sr))))))), (List.forall_mem_cons.2 ⟨s0 (s1 (s1 (s1 (s1 (s1 (s3 (s4 sr))))))), (List.forall_mem_cons.2 ⟨sm, (List.forall_mem_cons.2 ⟨s0 (s2 (s1 (s1 (s1 (s1 (s3 (s3 sr))))))), (List.forall_mem_cons.2 ⟨s0 (s1 (s2 (s1 (s1 (s1 (s3 (s3 sr))))))), (List.forall_mem_cons.2 ⟨s0 (s2 (s1 (s1 (s1 (s1 (s3 (s3 sr))))))), (List.forall_mem_cons.2 ⟨s0 (s1 (s2 (s1 (s1 (s1 (s3 (s3 sr))))))), (fun _ h => absurd h List.not_mem_nil)⟩)⟩)⟩)⟩)⟩)⟩)⟩)⟩)⟩)⟩)⟩)⟩)⟩)⟩), ?_⟩
             obtain ⟨g185, r186⟩ := gd_ok r184; clear r184
             refine shM_v (v := .int .i64 (x8 + n3)) (ek := [(52, .int .i64 x8), (55, .int .i64 n3)]) (Ls := []) rfl rfl rfl rfl ((sc rfl (sc rfl (sn _)))) (by kernel_rfl) sm (fun H F' L' hF' hL' => v_add rfl rfl g185) ?_
             refine ⟨_, [(56, .int .i64 (x8 + n3))], rfl, rfl, (sc rfl (sn _)), by kernel_rfl, ?_⟩; intro H
             refine o_buildSlice (cs := #[.int .i64 (x8 + n3)]) rfl rfl (buildSlice_all slt_27 [.int .i64 (x8 + n3)] rfl (by decide) (by simp [Value.cells]) (by decide)) ?_; intro b187 hb187
             refine shO_nil ⟨_, rfl, FExt.refl _, [8, 7, 6, 5, 4, 3, 2, 1, 0], by kernel_rfl, .inl (.inr (fun d h => by cases h; rfl)), (List.forall_mem_cons.2 ⟨sm, (List.forall_mem_cons.2 ⟨s0 (s1 (s1 (s1 (s2 (s1 (s1 (s3 (s3 sr)))))))), (List.forall_mem_cons.2 ⟨s0 (s1 (s1 (s1 (s1 (s2 (s1 (s3 (s3 sr)))))))), (List.forall_mem_cons.2 ⟨s0 (s1 (s1 (s1 (s1 (s1 (s1 (s3 (s4 sr)))))))), (List.forall_mem_cons.2 ⟨sm, (List.forall_mem_cons.2 ⟨s0 (s1 (s2 (s1 (s1 (s1 (s1 (s3 (s3 sr)))))))), (List.forall_mem_cons.2 ⟨s0 (s1 (s1 (s2 (s1 (s1 (s1 (s3 (s3 sr)))))))), (List.forall_mem_cons.2 ⟨s0 (s1 (s2 (s1 (s1 (s1 (s1 (s3 (s3 sr)))))))), (List.forall_mem_cons.2 ⟨s0 (s1 (s1 (s2 (s1 (s1 (s1 (s3 (s3 sr)))))))), (fun _ h => absurd h List.not_mem_nil)⟩)⟩)⟩)⟩)⟩)⟩)⟩)⟩)⟩), ?_⟩
             refine ⟨_, [(44, .int .i64 x6), (57, .slice (some ⟨b187, 0, none⟩) 1 1)], rfl, rfl, (sc rfl (sc rfl (sn _))), by kernel_rfl, ?_⟩; intro H
             refine shO_freeze 0 rfl hb187 ?_; intro F188 hF189 hz190
             refine shO_L (L' := (b78, .cells #[.int .i64 x2] 3 (0, 0)) :: ((b49, .cells #[.slice a44 n47 n47] 27 (0, 0)) :: ((b37, .cells #[.int .i64 k] 3 (0, 0)) :: ((b3, .cells #[.slice a12 n16 c13] 23 (0, 0)) :: ((b2, .cells #[.pointer (some ⟨b_d, 0, none⟩)] 105 (0, 0)) :: (Lb14 ++ (Lb126 ++ []))))))) rfl ?_
             replace hz127 := hz127.mono (iE_ok _) hF189
             have h191 : RowR 1 (iE .i64) F188 (some ⟨b187, 0, none⟩) 1 [x8 + n3] := RowR.of_block (iE_ok _) (vss := [[.int .i64 (x8 + n3)]]) (xs := [x8 + n3]) hz190 (.cons rfl .nil) rfl (by simp [maxLen])
             obtain ⟨n4, h192, r193⟩ := b1_ok r186; clear r186
             refine o_callV rfl Try.call64 rfl rfl rfl (night_least_w h191 h192) ?_
             refine shO_nil ⟨_, rfl, hF189, [8, 7, 6, 1, 0], by kernel_rfl, .inl (.inr (fun d h => by cases h; rfl)), (List.forall_mem_cons.2 ⟨sm, (List.forall_mem_cons.2 ⟨s0 (s1 (s1 (s2 (s1 (s1 (s3 (s3 sr))))))), (List.forall_mem_cons.2 ⟨s0 (s1 (s1 (s1 (s2 (s1 (s3 (s3 sr))))))), (List.forall_mem_cons.2 ⟨s0 (s2 (s1 (s1 (s1 (s1 (s3 (s3 sr))))))), (List.forall_mem_cons.2 ⟨s0 (s1 (s2 (s1 (s1 (s1 (s3 (s3 sr))))))), (fun _ h => absurd h List.not_mem_nil)⟩)⟩)⟩)⟩)⟩), ?_⟩
             obtain ⟨b194, o195, c196, vs197, ha198, hs199, hle200, rfl, hl201, hc202⟩ := SlR.at (iE_ok _) hz127 (L := Lb126 ++ []) fP g142.1 hx143
             refine shM_v (v := .pointer (some ⟨b194, o195 + (x2 : Int).toNat * 1, none⟩)) (ek := [(39, .slice a44 n47 n47), (40, .int .i64 x2)]) (Ls := []) rfl rfl rfl rfl ((sc rfl (sc rfl (sn _)))) (by kernel_rfl) sm (fun H F' L' hF' hL' => v_indexO Try.underlying27 Try.sizeOf3 rfl ha198 rfl (SlR.idx hz127 g142)) ?_
             refine ⟨_, [(58, .int .i64 n4), (59, .pointer (some ⟨b194, o195 + (x2 : Int).toNat * 1, none⟩))], rfl, rfl, (sc rfl (sc rfl (sn _))), by kernel_rfl, ?_⟩; intro H
             obtain ⟨l7, h203, r204⟩ := bv_ok r193; clear r193
             refine o_storeZ (u := n4) Try.sizeOf3 (iE_ok _) rfl ha198 rfl rfl (fun _ => .c (.c (.c (.c (.c (.s .h)))))) hz127 h203 g142 ?_; intro Lb205 hz206
             refine shO_nil ⟨undef, rfl, FExt.refl _, [], by kernel_rfl, .inl (.inl rfl), (fun _ h => absurd h List.not_mem_nil), ?_⟩
             refine shM_nil ?_
             refine inBlock_n (id := 5) ?_
             refine ⟨(b78, .cells #[.int .i64 x2] 3 (0, 0)) :: ((b49, .cells #[.slice a44 n47 n47] 27 (0, 0)) :: ((b37, .cells #[.int .i64 k] 3 (0, 0)) :: ((b3, .cells #[.slice a12 n16 c13] 23 (0, 0)) :: ((b2, .cells #[.pointer (some ⟨b_d, 0, none⟩)] 105 (0, 0)) :: (Lb14 ++ (Lb205 ++ [])))))), sr, ?_⟩; exact ⟨_, l7, Lb205, (by rw [hxs139]; simp), r204, rfl, hz206⟩
           · rintro F207 _ hF208 ⟨tl5, l6, Lb126, hs128, r209, rfl, hz127⟩
             obtain rfl := rest_nil hs128; rw [night_desk_table_l3] at r209
             refine inBlock_n (id := 4) (inBlock_n (id := 3) ?_)
             refine ⟨(b49, .cells #[.slice a44 n47 n47] 27 (0, 0)) :: ((b37, .cells #[.int .i64 k] 3 (0, 0)) :: ((b3, .cells #[.slice a12 n16 c13] 23 (0, 0)) :: ((b2, .cells #[.pointer (some ⟨b_d, 0, none⟩)] 105 (0, 0)) :: (Lb14 ++ (Lb126 ++ []))))), s1 (s2 (s2 (s2 (s2 (s4 (s4 sr)))))), ?_⟩; exact ⟨_, l6, Lb126, (by rw [hxs75]; simp), r209, rfl, hz127⟩
           intro c F1 L1 hx h; exact h.elim
         · rintro F210 _ hF211 ⟨tl3, l3, Lb62, hs64, r212, rfl, hz63⟩
           obtain rfl := rest_nil hs64; rw [night_desk_table_l2] at r212
           refine inBlock_n (id := 2) ?_
           obtain rfl := inj1 r212
           exact mi (kc (kd kr)) ⟨Lb62, (hF57.trans hF211), rfl, (sc rfl (sc rfl (sc rfl (sc rfl (sc rfl (sn _)))))), hz63⟩
         intro c F1 L1 hx h; exact h.elim
       rintro e1 F214 _ ⟨Lb50, hF215, rfl, he213, hz51⟩
       refine shW_env _ he213 ?_; clear he213
       replace hz15 := hz15.mono (slE_ok (iE_ok _)) hF215
       refine shW_region ?_
       refine ov (v_load Try.isAgg23 rfl (Has.own 1 rfl) rfl) rfl ?_
       refine ov (v_load Try.isAgg27 rfl (Has.own 0 rfl) rfl) rfl ?_
       refine o_buildSlice (cs := #[.slice a44 n47 n47]) rfl rfl (buildSlice_all slt_23 [.slice a44 n47 n47] rfl (by decide) (by simp [Value.cells]) (by decide)) ?_; intro b216 hb216
       obtain rfl := (SlR.caps hz51).1
       refine shO_freezeR (Nat.le_refl _) (iE_ok _) (fC (fC (fC (fC (fS fP))))) hz51 ?_; intro F217 hF218 h219
       replace hz15 := hz15.mono (slE_ok (iE_ok _)) hF218
       obtain ⟨out4, h220, g221, r222⟩ := ap_ok r53; clear r53
       refine o_appZ (xs := out2) (ys := [l2]) (zs := out4) rfl slt_23 rfl rfl (Nat.le_refl _) (fun _ => .c (.c (.c (.c .h)))) hz15 (SrcR.box (vss := [[.slice a44 l2.length l2.length]]) (ys := [l2]) 0 rfl (slE_ok (iE_ok _)) (.cons ⟨_, _, rfl, h219⟩ .nil) rfl rfl) h220 g221 (by decide) ?_; intro a223 n227 c224 Lb225 hz226
       refine kO (kd kr) ?_
       refine o_store (i := 1) Try.sizeOf23 rfl rfl rfl rfl (Nat.le_of_ble_eq_true rfl) ?_
       refine shO_L (L' := (b49, .cells #[.slice a44 l2.length l2.length] 27 (0, 0)) :: ((b3, .cells #[.slice a223 n227 c224] 23 (0, 0)) :: ((b2, .cells #[.pointer (some ⟨b_d, 0, none⟩)] 105 (0, 0)) :: (Lb225 ++ [])))) rfl ?_
       refine shO_nil (inBlock_n (id := 1) ?_)
       obtain rfl := inj1 r222
       exact mi (kd kr) ⟨a223, n227, c224, Lb225, (hF215.trans hF218), rfl, (sc rfl (sc rfl (sc rfl (sc rfl (sn _))))), hz226⟩
     rintro e1 F230 _ ⟨a29, n33, c30, Lb31, hF231, rfl, he229, hz32⟩
     refine shW_env _ he229 ?_; clear he229
     replace h_hours := h_hours.mono (slE_ok (iE_ok _)) hF231
     refine shW_region ?_
     refine ov (v_add rfl rfl (Lst.r64 hk18 c25 (RowR.lt h_hours))) rfl ?_
     refine om rfl rfl (shO_nil ?_)
     subst hn19; exact le kr ⟨_, _, rfl, hk26, out3, a29, n33, c30, Lb31, r36, (hF23.trans hF231), rfl, (sc rfl (sc rfl (sc rfl (sc rfl (sn _))))), hz32⟩
   obtain rfl := Lst.zero hk18 c25
   rw [night_desk_table_l1] at r20
   refine shW_exit (andThen_exit (andThen_exit ?_))
   refine inBlock_exit ?_
   obtain rfl := inj1 r20
   exact mi (kc (kd kr)) ⟨a12, n16, c13, Lb14, hF23, rfl, (sc rfl (sn _)), hz15⟩
 rintro e1 F233 _ ⟨a4, n8, c5, Lb6, hF234, rfl, he232, hz7⟩
 refine shW_env _ he232 ?_; clear he232
 refine wsr ?_
 refine ov (v_load Try.isAgg23 rfl (Has.own 0 rfl) rfl) rfl ?_
 refine oa rfl rfl (shO_nil ?_)
 refine kW (kd kr) ?_
 refine shW_ret ?_
 refine q_res1 Try.results61 (res_tmp rfl) (sr) ?_
 obtain rfl := inj1 r11
 exact ⟨_, _, _, _, rfl, rfl, hz7.any⟩
end Go.Proofs.Ytjgeaaganpkceaa
