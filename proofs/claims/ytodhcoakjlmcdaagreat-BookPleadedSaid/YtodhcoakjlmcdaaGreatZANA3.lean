/- The walks that this claim needs, printed by a program of mine; part 3. -/
import Derived.Test.YtodhcoakjlmcdaaGreatZANA2
namespace Go.Proofs.YtodhcoakjlmcdaaGreat
open Go.SH Go.PL
set_option maxHeartbeats 1000000 in
theorem slices_Equal_book_Verdict_book_Verdict_w {s1_a : Option Addr} {s1_c : Nat} {s1 : List Int} {s2_a : Option Addr} {s2_c : Nat} {s2 : List Int} {F : FS} (h_s1 : RowR 1 (iE .i64) F s1_a s1_c s1) (h_s2 : RowR 1 (iE .i64) F s2_a s2_c s2) {r : Bool} (hr : slices_Equal_book_Verdict_book_Verdict s1 s2 = some r) :
    SpecV Tryz.prog 102 #[.slice s1_a s1.length s1_c, .slice s2_a s2.length s2_c] F (.bool r) := by
 refine spec_of_shW (args := [.slice s1_a s1.length s1_c, .slice s2_a s2.length s2_c]) Tryz.func102 rfl Tryz.ntmps102 (Nat.le_of_ble_eq_true rfl) ?_
 intro K _ _; rw [slices_Equal_book_Verdict_book_Verdict] at hr
 refine wsr (oa rfl rfl (shO_nil (shW_seq (wsr (om rfl rfl ?_)))))
 refine ov (v_lenS Tryz.underlying71 rfl) rfl ?_
 refine om rfl rfl ?_
 refine ov (v_lenS Tryz.underlying71 rfl) rfl ?_
 refine ov (v_neq rfl rfl) rfl ?_
 refine shO_nil ?_
 refine shW_condP rfl (fun c1 => ?_) (fun c1 => ?_)
 · have r2 := ite_t hr c1; clear hr
   refine wsr (oa rfl rfl (shO_nil (shW_ret (andThen_ret ?_))))
   refine q_res1 Tryz.results102 (res_tmp rfl) (sr) ?_
   obtain rfl := inj1 r2
   exact rfl
 have r3 := ite_f hr c1; clear hr
 refine shW_skip ?_
 refine shW_join (fun e1 F1 L1 => slices_Equal_book_Verdict_book_Verdict_j1 = some r ∧ F = F1 ∧ L1 = [] ∧ e1.sub []) ?_ ?_
 · refine wsr (om rfl rfl ?_)
   refine ov (v_lenS Tryz.underlying71 rfl) rfl ?_
   refine om rfl rfl (shO_nil ?_)
   refine shW_block ?_
   refine shW_lp (fun fu2 e1 F1 L1 => ∃ (tl : List Int) (k : Int), tl.length = fu2 ∧ Lst s1 k tl ∧ slices_Equal_book_Verdict_book_Verdict_l2 s2 tl k = some r ∧ F = F1 ∧ L1 = [] ∧ e1.sub [(0, .slice s1_a s1.length s1_c), (1, .slice s2_a s2.length s2_c), (12, .int .i64 (s1.length : Int)), (13, .int .i64 k)]) _ (m0 kr ⟨_, _, rfl, Lst.start _, r3, rfl, rfl, (sc rfl (sc rfl (sc rfl (sc rfl (sn _)))))⟩) ?_
   rintro fu2 e1 _ _ ⟨tl, k, hn5, hk4, r6, rfl, rfl, he7⟩
   refine shW_env _ he7 ?_; clear he7
   refine wsr ?_
   refine ov (v_lssK rfl rfl) rfl ?_
   refine shO_nil (shW_seq ?_)
   refine shW_condP rfl (fun c9 => ?_) (fun c9 => ?_)
   · obtain ⟨x, tl2, rfl, hx11, g12, hk10⟩ := Lst.succ hk4 c9
     rw [slices_Equal_book_Verdict_book_Verdict_l2] at r6
     refine shW_skip (shW_seq ?_)
     refine shW_block ?_
     refine wsr (om rfl rfl (oa rfl rfl ?_))
     refine nsd (by kernel_rfl) (by kernel_rfl) (by kernel_rfl) ?_
     refine qm rfl rfl (qm rfl rfl ?_)
     obtain ⟨b13, o14, c15, vs16, ha17, hs18, hle19, rfl, hl20, hc21⟩ := RowR.at (iE_ok _) h_s1 ([]) g12.1 hx11
     refine qv (v_indexO Tryz.underlying71 Tryz.sizeOf72 rfl ha17 rfl g12) rfl ?_
     refine qv (v_load Tryz.isAgg72 rfl hs18 (hc21 0 (by decide))) rfl ?_
     refine qm rfl rfl (qm rfl rfl ?_)
     obtain ⟨x2, g22, hx23, r24⟩ := ix_ok r6; clear r6
     obtain ⟨b25, o26, c27, vs28, ha29, hs30, hle31, rfl, hl32, hc33⟩ := RowR.at (iE_ok _) h_s2 ([]) g22.1 hx23
     refine qv (v_indexO Tryz.underlying71 Tryz.sizeOf72 rfl ha29 rfl g22) rfl ?_
     refine qv (v_load Tryz.isAgg72 rfl hs30 (hc33 0 (by decide))) rfl ?_
     refine qv (v_neq rfl rfl) rfl ?_
     refine shQ_nil ?_
     refine shW_condP rfl (fun c34 => ?_) (fun c34 => ?_)
     · have r35 := ite_t r24 c34; clear r24
       refine wsr (oa rfl rfl (shO_nil (shW_ret (inBlock_ret (andThen_ret (andThen_ret (inBlock_ret (andThen_ret ?_))))))))
       refine q_res1 Tryz.results102 (res_tmp rfl) (sr) ?_
       obtain rfl := inj1 r35
       exact rfl
     have r36 := ite_f r24 c34; clear r24
     refine shW_skip (inBlock_n (id := 1) (shW_region ?_))
     refine ov (v_add rfl rfl (Lst.r64 hk4 c9 (RowR.lt h_s1))) rfl ?_
     refine om rfl rfl (shO_nil ?_)
     subst hn5; exact le kr ⟨_, _, rfl, hk10, r36, rfl, rfl, (sc rfl (sc rfl (sc rfl (sc rfl (sn _)))))⟩
   obtain rfl := Lst.zero hk4 c9
   rw [slices_Equal_book_Verdict_book_Verdict_l2] at r6
   refine shW_exit (andThen_exit (andThen_exit ?_))
   refine inBlock_exit ?_
   exact mi kr ⟨r6, rfl, rfl, (sn _)⟩
 rintro e1 _ _ ⟨r37, rfl, rfl, he38⟩
 refine shW_env _ he38 ?_; clear he38
 rw [slices_Equal_book_Verdict_book_Verdict_j1] at r37
 refine wsr (oa rfl rfl (shO_nil (shW_ret ?_)))
 refine q_res1 Tryz.results102 (res_tmp rfl) (sr) ?_
 obtain rfl := inj1 r37
 exact rfl
set_option maxHeartbeats 1000000 in
theorem oyezkit_LikeRows_Verdict_w {a_a : Option Addr} {a_c : Nat} {a : List (List Int)} {b_a : Option Addr} {b_c : Nat} {b : List (List Int)} {F : FS} (h_a : RowR 1 (slE 1 (iE .i64)) F a_a a_c a) (h_b : RowR 1 (slE 1 (iE .i64)) F b_a b_c b) {r : Bool} (hr : oyezkit_LikeRows_Verdict a b = some r) :
    SpecV Tryz.prog 69 #[.slice a_a a.length a_c, .slice b_a b.length b_c] F (.bool r) := by
 refine spec_of_shW (args := [.slice a_a a.length a_c, .slice b_a b.length b_c]) Tryz.func69 rfl Tryz.ntmps69 (Nat.le_of_ble_eq_true rfl) ?_
 intro K _ _; rw [oyezkit_LikeRows_Verdict] at hr
 refine wsr (oa rfl rfl (nsr (om rfl rfl (om rfl rfl ?_))))
 have hn7 : FnR Tryz.prog F 102 #[] #[] (prE (slE 1 (iE .i64)) (slE 1 (iE .i64))) Value.bool (fun xx_ : (List Int) × (List Int) => slices_Equal_book_Verdict_book_Verdict xx_.1 xx_.2) := ⟨Tryz.call102, fun F2 h2 vs xx_ r ha hr => by obtain ⟨_, _, rfl, ⟨a1, c2, rfl, h3⟩, ⟨a4, c5, rfl, h6⟩⟩ := ha; exact slices_Equal_book_Verdict_book_Verdict_w h3 h6 hr⟩
 obtain ⟨ok, h8, r9⟩ := b1_ok hr; clear hr
 refine o_callV rfl Tryz.call101 rfl rfl rfl (slices_EqualFunc_book_Verdict_book_Verdict_book_Verdict_book_Verdict_w h_a h_b hn7 h8) ?_
 refine oa rfl rfl (shO_nil (shW_ret ?_))
 refine q_res1 Tryz.results69 (res_tmp rfl) (sr) ?_
 obtain rfl := inj1 r9
 exact rfl
set_option maxHeartbeats 1000000 in
theorem slices_EqualFunc_int_int_int_int_w {s1_a : Option Addr} {s1_c : Nat} {s1 : List (List Int)} {s2_a : Option Addr} {s2_c : Nat} {s2 : List (List Int)} {eq_f : FuncId} {eq_1 : Array Value} {eq_2 : Array Value} {eq : ((List Int) × (List Int)) → Option Bool} {F : FS} (h_s1 : RowR 1 (slE 1 (iE .i64)) F s1_a s1_c s1) (h_s2 : RowR 1 (slE 1 (iE .i64)) F s2_a s2_c s2) (h_eq : FnR Tryz.prog F eq_f eq_1 eq_2 (prE (slE 1 (iE .i64)) (slE 1 (iE .i64))) Value.bool eq) {r : Bool} (hr : slices_EqualFunc_int_int_int_int s1 s2 eq = some r) :
    SpecV Tryz.prog 103 #[.slice s1_a s1.length s1_c, .slice s2_a s2.length s2_c, .func (.func eq_f) eq_1 eq_2] F (.bool r) := by
 refine spec_of_shW (args := [.slice s1_a s1.length s1_c, .slice s2_a s2.length s2_c, .func (.func eq_f) eq_1 eq_2]) Tryz.func103 rfl Tryz.ntmps103 (Nat.le_of_ble_eq_true rfl) ?_
 intro K _ _; rw [slices_EqualFunc_int_int_int_int] at hr
 refine wsr (oa rfl rfl (shO_nil (shW_seq (wsr (om rfl rfl ?_)))))
 refine ov (v_lenS Tryz.underlying49 rfl) rfl ?_
 refine om rfl rfl ?_
 refine ov (v_lenS Tryz.underlying49 rfl) rfl ?_
 refine ov (v_neq rfl rfl) rfl ?_
 refine shO_nil ?_
 refine shW_condP rfl (fun c1 => ?_) (fun c1 => ?_)
 · have r2 := ite_t hr c1; clear hr
   refine wsr (oa rfl rfl (shO_nil (shW_ret (andThen_ret ?_))))
   refine q_res1 Tryz.results103 (res_tmp rfl) (sr) ?_
   obtain rfl := inj1 r2
   exact rfl
 have r3 := ite_f hr c1; clear hr
 refine shW_skip ?_
 refine shW_join (fun e1 F1 L1 => slices_EqualFunc_int_int_int_int_j1 = some r ∧ F = F1 ∧ L1 = [] ∧ e1.sub []) ?_ ?_
 · refine wsr (om rfl rfl ?_)
   refine ov (v_lenS Tryz.underlying49 rfl) rfl ?_
   refine om rfl rfl (shO_nil ?_)
   refine shW_block ?_
   refine shW_lp (fun fu2 e1 F1 L1 => ∃ (tl : List (List Int)) (k : Int), tl.length = fu2 ∧ Lst s1 k tl ∧ slices_EqualFunc_int_int_int_int_l2 s2 eq tl k = some r ∧ F = F1 ∧ L1 = [] ∧ e1.sub [(1, .slice s2_a s2.length s2_c), (2, .func (.func eq_f) eq_1 eq_2), (15, .slice s1_a s1.length s1_c), (16, .int .i64 (s1.length : Int)), (17, .int .i64 k)]) _ (m0 kr ⟨_, _, rfl, Lst.start _, r3, rfl, rfl, (sc rfl (sc rfl (sc rfl (sc rfl (sc rfl (sn _))))))⟩) ?_
   rintro fu2 e1 _ _ ⟨tl, k, hn5, hk4, r6, rfl, rfl, he7⟩
   refine shW_env _ he7 ?_; clear he7
   refine wsr ?_
   refine ov (v_lssK rfl rfl) rfl ?_
   refine shO_nil (shW_seq ?_)
   refine shW_condP rfl (fun c9 => ?_) (fun c9 => ?_)
   · obtain ⟨x, tl2, rfl, hx11, g12, hk10⟩ := Lst.succ hk4 c9
     rw [slices_EqualFunc_int_int_int_int_l2] at r6
     refine shW_skip (shW_seq ?_)
     refine shW_block ?_
     refine wsr (om rfl rfl ?_)
     obtain ⟨b13, o14, c15, vs16, ha17, hs18, hle19, ⟨a22, c23, rfl, h24⟩, hl20, hc21⟩ := RowR.at (slE_ok (iE_ok _)) h_s1 ([]) g12.1 hx11
     refine ov (v_indexO Tryz.underlying49 Tryz.sizeOf24 rfl ha17 rfl g12) rfl ?_
     refine ov (v_load Tryz.isAgg24 rfl hs18 (hc21 0 (by decide))) rfl ?_
     refine oa rfl rfl (oa rfl rfl (nsr (om rfl rfl (om rfl rfl ?_))))
     obtain ⟨x2, g25, hx26, r27⟩ := ix_ok r6; clear r6
     obtain ⟨b28, o29, c30, vs31, ha32, hs33, hle34, ⟨a37, c38, rfl, h39⟩, hl35, hc36⟩ := RowR.at (slE_ok (iE_ok _)) h_s2 ([]) g25.1 hx26
     refine ov (v_indexO Tryz.underlying49 Tryz.sizeOf24 rfl ha32 rfl g25) rfl ?_
     refine ov (v_load Tryz.isAgg24 rfl hs33 (hc36 0 (by decide))) rfl ?_
     refine oa rfl rfl (nsr (om rfl rfl (om rfl rfl (om rfl rfl ?_))))
     obtain ⟨ok, h40, r41⟩ := b1_ok r27; clear r27
     refine o_callV rfl h_eq.1 rfl rfl rfl (h_eq.2 _ (FExt.refl _) _ _ _ ⟨_, _, rfl, ⟨_, _, rfl, h24⟩, ⟨_, _, rfl, h39⟩⟩ h40) ?_
     refine ov (v_notB rfl) rfl ?_
     refine shO_nil ?_
     refine shW_cond rfl (fun c42 => ?_) (fun c42 => ?_)
     · have r43 := bt r41 c42; clear r41
       refine wsr (oa rfl rfl (shO_nil (shW_ret (inBlock_ret (andThen_ret (andThen_ret (inBlock_ret (andThen_ret ?_))))))))
       refine q_res1 Tryz.results103 (res_tmp rfl) (sr) ?_
       obtain rfl := inj1 r43
       exact rfl
     have r44 := bf r41 c42; clear r41
     refine shW_skip (inBlock_n (id := 1) (shW_region ?_))
     refine ov (v_add rfl rfl (Lst.r64 hk4 c9 (RowR.lt h_s1))) rfl ?_
     refine om rfl rfl (shO_nil ?_)
     subst hn5; exact le kr ⟨_, _, rfl, hk10, r44, rfl, rfl, (sc rfl (sc rfl (sc rfl (sc rfl (sc rfl (sn _))))))⟩
   obtain rfl := Lst.zero hk4 c9
   rw [slices_EqualFunc_int_int_int_int_l2] at r6
   refine shW_exit (andThen_exit (andThen_exit ?_))
   refine inBlock_exit ?_
   exact mi kr ⟨r6, rfl, rfl, (sn _)⟩
 rintro e1 _ _ ⟨r45, rfl, rfl, he46⟩
 refine shW_env _ he46 ?_; clear he46
 rw [slices_EqualFunc_int_int_int_int_j1] at r45
 refine wsr (oa rfl rfl (shO_nil (shW_ret ?_)))
 refine q_res1 Tryz.results103 (res_tmp rfl) (sr) ?_
 obtain rfl := inj1 r45
 exact rfl
set_option maxHeartbeats 1000000 in
theorem oyezkit_LikeRows_int_w {a_a : Option Addr} {a_c : Nat} {a : List (List Int)} {b_a : Option Addr} {b_c : Nat} {b : List (List Int)} {F : FS} (h_a : RowR 1 (slE 1 (iE .i64)) F a_a a_c a) (h_b : RowR 1 (slE 1 (iE .i64)) F b_a b_c b) {r : Bool} (hr : oyezkit_LikeRows_int a b = some r) :
    SpecV Tryz.prog 70 #[.slice a_a a.length a_c, .slice b_a b.length b_c] F (.bool r) := by
 refine spec_of_shW (args := [.slice a_a a.length a_c, .slice b_a b.length b_c]) Tryz.func70 rfl Tryz.ntmps70 (Nat.le_of_ble_eq_true rfl) ?_
 intro K _ _; rw [oyezkit_LikeRows_int] at hr
 refine wsr (oa rfl rfl (nsr (om rfl rfl (om rfl rfl ?_))))
 have hn7 : FnR Tryz.prog F 100 #[] #[] (prE (slE 1 (iE .i64)) (slE 1 (iE .i64))) Value.bool (fun xx_ : (List Int) × (List Int) => slices_Equal_int_int xx_.1 xx_.2) := ⟨Tryz.call100, fun F2 h2 vs xx_ r ha hr => by obtain ⟨_, _, rfl, ⟨a1, c2, rfl, h3⟩, ⟨a4, c5, rfl, h6⟩⟩ := ha; exact slices_Equal_int_int_w h3 h6 hr⟩
 obtain ⟨ok, h8, r9⟩ := b1_ok hr; clear hr
 refine o_callV rfl Tryz.call103 rfl rfl rfl (slices_EqualFunc_int_int_int_int_w h_a h_b hn7 h8) ?_
 refine oa rfl rfl (shO_nil (shW_ret ?_))
 refine q_res1 Tryz.results70 (res_tmp rfl) (sr) ?_
 obtain rfl := inj1 r9
 exact rfl
set_option maxHeartbeats 1000000 in
theorem slices_Clone_book_Cry_book_Cry_w {s__a : Option Addr} {s__c : Nat} {s_ : List (Int × Int × Int)} {F : FS} (h_s_ : RowR 3 (prE (iE .i64) (prE (iE .i64) (iE .i64))) F s__a s__c s_) {r : List (Int × Int × Int)} (hr : slices_Clone_book_Cry_book_Cry s_ = some r) :
    SH.Spec Tryz.prog 108 #[.slice s__a s_.length s__c] F [] fun F' L' v => ∃ (ra : Option Addr) (rn : Nat) (rc : Nat) (rL : LH), v = .slice ra rn rc ∧ L' = rL ++ [] ∧ SlR 0 67 3 (prE (iE .i64) (prE (iE .i64) (iE .i64))) F' ra rn rc r rL := by
 refine spec_of_shW (args := [.slice s__a s_.length s__c]) Tryz.func108 rfl Tryz.ntmps108 (Nat.le_of_ble_eq_true rfl) ?_
 intro K _ _; rw [slices_Clone_book_Cry_book_Cry] at hr
 refine wsr (oa rfl rfl (shO_nil (shW_seq (wsr (om rfl rfl ?_)))))
 refine ov (v_eqlNil Tryz.underlying25 rfl) rfl ?_
 refine shO_nil ?_
 refine shW_cond rfl (fun c1 => ?_) (fun c1 => ?_)
 · have r2 := nilIf_t hr (RowR.isNone h_s_ c1); clear hr
   refine wsr (oa rfl rfl (shO_nil (shW_ret (andThen_ret ?_))))
   refine q_res1 Tryz.results108 (res_tmp rfl) (sr) ?_
   obtain rfl := inj1 r2
   exact ⟨_, _, _, [], rfl, rfl, SlR.nil _ _ _ _ _⟩
 have r3 := nilIf_f hr; clear hr
 refine shW_skip (wsr ?_)
 refine o_buildSlice (cs := #[]) rfl rfl (buildSlice_none slt_25) ?_; intro b4 hb4
 refine om rfl rfl ?_
 have hz6 : SlR K.w0.heap.size 67 3 (prE (iE .i64) (prE (iE .i64) (iE .i64))) F (some ⟨b4, 0, none⟩) 0 0 ([] : List (Int × Int × Int)) [(b4, .cells #[] 67 (0, 0))] := SlR.of_block (vss := []) (prE_ok (iE_ok _) (prE_ok (iE_ok _) (iE_ok _))) hb4 .nil rfl rfl (by simp [maxLen])
 generalize hLLb5 : ([(b4, .cells #[] 67 (0, 0))] : LH) = Lb5 at hz6
 refine shO_perm (L' := Lb5 ++ []) (by rw [← hLLb5]; exact fO) ?_
 obtain ⟨l, h8, g9, r10⟩ := ap_ok r3; clear r3
 refine o_appZ (xs := ([] : List (Int × Int × Int))) (ys := s_) (zs := l) rfl slt_25 rfl rfl (Nat.le_refl _) (fun _ => .h) hz6 (RowR.src h_s_) h8 g9 (by decide) ?_; intro a11 n15 c12 Lb13 hz14
 refine oa rfl rfl (shO_nil (shW_ret ?_))
 refine q_res1 Tryz.results108 (res_tmp rfl) (sr) ?_
 obtain rfl := inj1 r10
 exact ⟨_, _, _, _, rfl, rfl, hz14.any⟩
set_option maxHeartbeats 1000000 in
theorem book_Again_1_1_1_w {h : Int} {b_g : Nat} {g : List Bool} {mb_g : Nat × Nat} {b_x : Nat} {x : Int} {mb_x : Nat × Nat} {F : FS} (hb_g : F b_g = some (.cells (arr cB g) 103 mb_g)) (h_g : g.length = 24) (hb_x : F b_x = some (.cells #[.int .i64 x] 3 mb_x)) {r : Bool} (hr : book_Again_1_1_1 h g x = some r) :
    SpecV Tryz.prog 110 #[.int .i64 h, .pointer (some ⟨b_g, 0, none⟩), .pointer (some ⟨b_x, 0, none⟩)] F (.bool r) := by
 refine spec_of_shW (args := [.int .i64 h, .pointer (some ⟨b_g, 0, none⟩), .pointer (some ⟨b_x, 0, none⟩)]) Tryz.func110 rfl Tryz.ntmps110 (Nat.le_of_ble_eq_true rfl) ?_
 intro K _ _; rw [book_Again_1_1_1] at hr
 refine wsr (oa rfl rfl ?_)
 refine nsd (by kernel_rfl) (by kernel_rfl) (by kernel_rfl) ?_
 refine qm rfl rfl ?_
 refine qv (v_load Tryz.isAgg3 rfl (Has.frozen hb_x) rfl) rfl ?_
 obtain ⟨g1, r2⟩ := gd_ok hr; clear hr
 refine qv (v_indexA Tryz.underlying103 Tryz.sizeOf101 rfl rfl g1) rfl ?_
 obtain ⟨g3, r4⟩ := gd_ok r2; clear r2
 obtain ⟨x2, g5, hx6, r7⟩ := ix_ok r4; clear r4
 have hq9 : (h * 4 + x : Int).toNat = (h : Int).toNat * 4 + (x : Int).toNat := by have := g1; have := g3; omega
 have hc8 := el_at2 cB_ok h_g hq9 hx6 (li_arr (li_end (lfl cB_ok h_g))) (li_le (li_end (lfl cB_ok h_g)))
 refine qv (v_indexA Tryz.underlying101 Tryz.sizeOf4 rfl rfl g3) rfl ?_
 refine qv (v_load Tryz.isAgg4 rfl (Has.frozen hb_g) ((hc8).2.2 0 (by decide))) rfl ?_
 refine qa rfl rfl (shQ_nil (shW_ret ?_))
 refine q_res1 Tryz.results110 (res_tmp rfl) (sr) ?_
 obtain rfl := inj1 r7
 exact rfl
set_option maxHeartbeats 1000000 in
theorem book_Again_1_1_w {g : List Bool} {b_x : Nat} {x_a : Option Addr} {x_c : Nat} {x : List Int} {mb_x : Nat × Nat} {b_x_ : Nat} {x2 : Int} {mb_x_ : Nat × Nat} {F : FS} (h_g : g.length = 24) (hb_x : F b_x = some (.cells #[.slice x_a x.length x_c] 24 mb_x)) (h_x : RowR 1 (iE .i64) F x_a x_c x) (hb_x_ : F b_x_ = some (.cells #[.int .i64 x2] 3 mb_x_)) {r : Bool} (hr : book_Again_1_1 g x x2 = some r) :
    SpecV Tryz.prog 109 #[.agg (arr cB g), .pointer (some ⟨b_x, 0, none⟩), .pointer (some ⟨b_x_, 0, none⟩)] F (.bool r) := by
 refine spec_of_shW (args := [.agg (arr cB g), .pointer (some ⟨b_x, 0, none⟩), .pointer (some ⟨b_x_, 0, none⟩)]) Tryz.func109 rfl Tryz.ntmps109 (Nat.le_of_ble_eq_true rfl) ?_
 intro K _ _; rw [book_Again_1_1] at hr
 refine wsr ?_
 refine o_box rfl rfl ?_; intro b1 hb1
 refine oa rfl rfl (nsr ?_)
 refine ov (v_load Tryz.isAgg24 rfl (Has.frozen hb_x) rfl) rfl ?_
 refine ov (v_makeFunc rfl rfl) rfl ?_
 refine shO_freeze 0 rfl hb1 ?_; intro F2 hF3 hz4
 refine shO_L (L' := []) rfl ?_
 replace h_x := h_x.mono (iE_ok _) hF3
 replace hb_x_ := hF3 _ _ hb_x_
 have hn5 : FnR Tryz.prog F2 110 #[] #[.pointer (some ⟨b1, 0, none⟩), .pointer (some ⟨b_x_, 0, none⟩)] (iE .i64) Value.bool (fun xx_ : Int => book_Again_1_1_1 xx_ g x2) := ⟨Tryz.call110, fun F2 h2 vs xx_ r ha hr => by obtain rfl := ha; exact book_Again_1_1_1_w (h2 _ _ hz4) h_g (h2 _ _ hb_x_) hr⟩
 obtain ⟨ok, h6, r7⟩ := b1_ok hr; clear hr
 refine o_callV rfl Tryz.call45 rfl rfl rfl (book_every_int_w h_x hn5 h6) ?_
 refine ov (v_notB rfl) rfl ?_
 refine oa rfl rfl (shO_nil (shW_ret ?_))
 refine q_res1 Tryz.results109 (res_tmp rfl) (sr) ?_
 obtain rfl := inj1 r7
 exact rfl
set_option maxHeartbeats 1000000 in
theorem book_Again_1B_w {rec_ : (List Int) → Int → Int → Int → Int → (List (List (List Int))) → (List Int) → (List (Int × Int × Int)) → Int → Int → (List Int) → (List Int) → Bool → Option (Bool × (List Int) × Bool)} (hrec : ∀ {l_a : Option Addr} {l_c : Nat} {l : List Int} {from_ : Int} {many : Int} {b_b : Nat} {houses : Int} {notices : Int} {hears_a : Option Addr} {hears_c : Nat} {hears : List (List (List Int))} {readings_a : Option Addr} {readings_c : Nat} {readings : List Int} {cries_a : Option Addr} {cries_c : Nat} {cries : List (Int × Int × Int)} {mb_b : Nat × Nat} {b_hour : Nat} {hour : Int} {mb_hour : Nat × Nat} {b_notice : Nat} {notice : Int} {mb_notice : Nat × Nat} {b_houses : Nat} {houses2_a : Option Addr} {houses2_c : Nat} {houses2 : List Int} {mb_houses : Nat × Nat} {b_out : Nat} {out_a : Option Addr} {out_c : Nat} {out : List Int} {b_found : Nat} {found : Bool} {b_pick : Nat} {mb_pick : Nat × Nat} {F : FS} (_ : RowR 1 (iE .i64) F l_a l_c l) (_ : F b_b = some (.cells #[.int .i64 houses, .int .i64 notices, .slice hears_a hears.length hears_c, .slice readings_a readings.length readings_c, .slice cries_a cries.length cries_c] 27 mb_b)) (_ : RowR 1 (slE 1 (slE 1 (iE .i64))) F hears_a hears_c hears) (_ : RowR 1 (iE .i64) F readings_a readings_c readings) (_ : RowR 3 (prE (iE .i64) (prE (iE .i64) (iE .i64))) F cries_a cries_c cries) (_ : F b_hour = some (.cells #[.int .i64 hour] 3 mb_hour)) (_ : F b_notice = some (.cells #[.int .i64 notice] 3 mb_notice)) (_ : F b_houses = some (.cells #[.slice houses2_a houses2.length houses2_c] 24 mb_houses)) (_ : RowR 1 (iE .i64) F houses2_a houses2_c houses2) (_ : RowR 1 (iE .i64) F out_a out_c out) (_ : F b_pick = some (.cells (#[.func (.func 107) #[] #[.pointer (some ⟨b_b, 0, none⟩), .pointer (some ⟨b_hour, 0, none⟩), .pointer (some ⟨b_notice, 0, none⟩), .pointer (some ⟨b_houses, 0, none⟩), .pointer (some ⟨b_out, 0, none⟩), .pointer (some ⟨b_found, 0, none⟩), .pointer (some ⟨b_pick, 0, none⟩)]]) 169 mb_pick)) {r : Bool} {r2 : List Int} {r3 : Bool} , rec_ l from_ many houses notices hears readings cries hour notice houses2 out found = some (r, r2, r3) → SH.Spec Tryz.prog 107 #[.slice l_a l.length l_c, .int .i64 from_, .int .i64 many, .pointer (some ⟨b_b, 0, none⟩), .pointer (some ⟨b_hour, 0, none⟩), .pointer (some ⟨b_notice, 0, none⟩), .pointer (some ⟨b_houses, 0, none⟩), .pointer (some ⟨b_out, 0, none⟩), .pointer (some ⟨b_found, 0, none⟩), .pointer (some ⟨b_pick, 0, none⟩)] F [(b_out, .cells #[.slice out_a out.length out_c] 24 (0, 0)), (b_found, .cells #[.bool found] 4 (0, 0))] fun F' L' v => ∃ (r2a : Option Addr) (r2c : Nat), v = .bool r ∧ L' = [(b_out, .cells #[.slice r2a r2.length r2c] 24 (0, 0)), (b_found, .cells #[.bool r3] 4 (0, 0))] ∧ RowR 1 (iE .i64) F' r2a r2c r2) {l_a : Option Addr} {l_c : Nat} {l : List Int} {from_ : Int} {many : Int} {b_b : Nat} {houses : Int} {notices : Int} {hears_a : Option Addr} {hears_c : Nat} {hears : List (List (List Int))} {readings_a : Option Addr} {readings_c : Nat} {readings : List Int} {cries_a : Option Addr} {cries_c : Nat} {cries : List (Int × Int × Int)} {mb_b : Nat × Nat} {b_hour : Nat} {hour : Int} {mb_hour : Nat × Nat} {b_notice : Nat} {notice : Int} {mb_notice : Nat × Nat} {b_houses : Nat} {houses2_a : Option Addr} {houses2_c : Nat} {houses2 : List Int} {mb_houses : Nat × Nat} {b_out : Nat} {out_a : Option Addr} {out_c : Nat} {out : List Int} {b_found : Nat} {found : Bool} {b_pick : Nat} {mb_pick : Nat × Nat} {F : FS} (h_l : RowR 1 (iE .i64) F l_a l_c l) (hb_b : F b_b = some (.cells #[.int .i64 houses, .int .i64 notices, .slice hears_a hears.length hears_c, .slice readings_a readings.length readings_c, .slice cries_a cries.length cries_c] 27 mb_b)) (h_hears : RowR 1 (slE 1 (slE 1 (iE .i64))) F hears_a hears_c hears) (h_readings : RowR 1 (iE .i64) F readings_a readings_c readings) (h_cries : RowR 3 (prE (iE .i64) (prE (iE .i64) (iE .i64))) F cries_a cries_c cries) (hb_hour : F b_hour = some (.cells #[.int .i64 hour] 3 mb_hour)) (hb_notice : F b_notice = some (.cells #[.int .i64 notice] 3 mb_notice)) (hb_houses : F b_houses = some (.cells #[.slice houses2_a houses2.length houses2_c] 24 mb_houses)) (h_houses2 : RowR 1 (iE .i64) F houses2_a houses2_c houses2) (h_out : RowR 1 (iE .i64) F out_a out_c out) (hb_pick : F b_pick = some (.cells (#[.func (.func 107) #[] #[.pointer (some ⟨b_b, 0, none⟩), .pointer (some ⟨b_hour, 0, none⟩), .pointer (some ⟨b_notice, 0, none⟩), .pointer (some ⟨b_houses, 0, none⟩), .pointer (some ⟨b_out, 0, none⟩), .pointer (some ⟨b_found, 0, none⟩), .pointer (some ⟨b_pick, 0, none⟩)]]) 169 mb_pick)) {r : Bool} {r2 : List Int} {r3 : Bool} (hr : book_Again_1B rec_ l from_ many houses notices hears readings cries hour notice houses2 out found = some (r, r2, r3)) :
    SH.Spec Tryz.prog 107 #[.slice l_a l.length l_c, .int .i64 from_, .int .i64 many, .pointer (some ⟨b_b, 0, none⟩), .pointer (some ⟨b_hour, 0, none⟩), .pointer (some ⟨b_notice, 0, none⟩), .pointer (some ⟨b_houses, 0, none⟩), .pointer (some ⟨b_out, 0, none⟩), .pointer (some ⟨b_found, 0, none⟩), .pointer (some ⟨b_pick, 0, none⟩)] F [(b_out, .cells #[.slice out_a out.length out_c] 24 (0, 0)), (b_found, .cells #[.bool found] 4 (0, 0))] fun F' L' v => ∃ (r2a : Option Addr) (r2c : Nat), v = .bool r ∧ L' = [(b_out, .cells #[.slice r2a r2.length r2c] 24 (0, 0)), (b_found, .cells #[.bool r3] 4 (0, 0))] ∧ RowR 1 (iE .i64) F' r2a r2c r2 := by
 refine spec_of_shW (args := [.slice l_a l.length l_c, .int .i64 from_, .int .i64 many, .pointer (some ⟨b_b, 0, none⟩), .pointer (some ⟨b_hour, 0, none⟩), .pointer (some ⟨b_notice, 0, none⟩), .pointer (some ⟨b_houses, 0, none⟩), .pointer (some ⟨b_out, 0, none⟩), .pointer (some ⟨b_found, 0, none⟩), .pointer (some ⟨b_pick, 0, none⟩)]) Tryz.func107 rfl Tryz.ntmps107 (Nat.le_of_ble_eq_true rfl) ?_
 intro K _ _; rw [book_Again_1B] at hr
 refine wsr (oa rfl rfl (shO_nil ?_))
 refine shW_join (fun e1 F1 L1 => book_Again_1B_j1 l from_ many houses notices hears readings cries hour notice houses2 out found rec_ = some (r, r2, r3) ∧ F = F1 ∧ L1 = [(b_out, .cells #[.slice out_a out.length out_c] 24 (0, 0)), (b_found, .cells #[.bool found] 4 (0, 0))] ∧ e1.sub [(0, .slice l_a l.length l_c), (1, .int .i64 from_), (2, .int .i64 many), (3, .pointer (some ⟨b_b, 0, none⟩)), (9, .pointer (some ⟨b_pick, 0, none⟩))]) ?_ ?_
 · refine wsr (om rfl rfl ?_)
   refine ov (v_eql rfl rfl) rfl ?_
   refine shO_nil ?_
   refine shW_condP rfl (fun c1 => ?_) (fun c1 => ?_)
   · have r4 := ite_t hr c1; clear hr
     refine wsr ?_
     refine ov (v_loadA (cs := #[.int .i64 houses, .int .i64 notices, .slice hears_a hears.length hears_c, .slice readings_a readings.length readings_c, .slice cries_a cries.length cries_c]) Tryz.isAgg27 Tryz.sizeOf27 rfl (Has.frozen hb_b) (Nat.le_of_ble_eq_true rfl) rfl) rfl ?_
     refine ov (v_build (v := .agg #[.int .i64 houses, .int .i64 notices, .slice hears_a hears.length hears_c, .slice readings_a readings.length readings_c, .slice cries_a cries.length cries_c]) rfl (by intro w; kernel_rfl)) rfl ?_
     refine o_box rfl rfl ?_; intro b5 hb5
     refine oa rfl rfl (nsr (om rfl rfl ?_))
     refine ov (v_fieldAddr fa_27_4 rfl) rfl ?_
     refine ov (v_load Tryz.isAgg25 rfl (Has.frozen hb_b) rfl) rfl ?_
     obtain ⟨l2, h6, r7⟩ := b1_ok r4; clear r4
     refine o_call0 rfl Tryz.call108 rfl rfl rfl (slices_Clone_book_Cry_book_Cry_w h_cries h6) ?_; rintro _ F8 _ hF9 hn10 ⟨a12, n16, c13, Lb14, rfl, rfl, hz15⟩
     replace h_l := h_l.mono (iE_ok _) hF9
     replace h_hears := h_hears.mono (slE_ok (slE_ok (iE_ok _))) hF9
     replace h_readings := h_readings.mono (iE_ok _) hF9
     replace h_houses2 := h_houses2.mono (iE_ok _) hF9
     replace h_out := h_out.mono (iE_ok _) hF9
     replace hb_hour := hF9 _ _ hb_hour
     replace hb_notice := hF9 _ _ hb_notice
     replace hb_houses := hF9 _ _ hb_houses
     replace hz15 := hz15.new fun p hp => hn10 p (by simp [hp])
     refine shO_L (lp (ln rfl)) ?_
     refine kO (kf (fS fO) (kf (fS fO) (kf (fS fO) kr))) ?_
     refine ov (v_nilCheck rfl) rfl ?_
     refine ov (v_fieldAddr fa_171_0 rfl) rfl ?_
     refine ov (v_fieldAddr fa_27_4 rfl) rfl ?_
     refine o_store (i := 0) Tryz.sizeOf25 rfl rfl rfl rfl (Nat.le_of_ble_eq_true rfl) ?_
     refine shO_L (L' := (b5, .cells #[.int .i64 houses, .int .i64 notices, .slice hears_a hears.length hears_c, .slice readings_a readings.length readings_c, .slice a12 n16 c13] 171 (0, 0)) :: ((b_out, .cells #[.slice out_a out.length out_c] 24 (0, 0)) :: ((b_found, .cells #[.bool found] 4 (0, 0)) :: (Lb14 ++ [])))) rfl ?_
     refine shO_nil ?_
     obtain ⟨d_cries, h24, r25⟩ := b1_ok r7; clear r7
     refine shW_join (fun e1 F1 L1 => ∃ (a18 : Option Addr) (n22 : Nat) (c19 : Nat) (Lb20 : LH), F8 = F1 ∧ L1 = ((b5, .cells #[.int .i64 houses, .int .i64 notices, .slice hears_a hears.length hears_c, .slice readings_a readings.length readings_c, .slice a18 n22 c19] 171 (0, 0)) :: ((b_out, .cells #[.slice out_a out.length out_c] 24 (0, 0)) :: ((b_found, .cells #[.bool found] 4 (0, 0)) :: (Lb20 ++ [])))) ∧ e1.sub [(0, .slice l_a l.length l_c), (5, .pointer (some ⟨b_notice, 0, none⟩)), (6, .pointer (some ⟨b_houses, 0, none⟩)), (7, .pointer (some ⟨b_out, 0, none⟩)), (8, .pointer (some ⟨b_found, 0, none⟩)), (14, .pointer (some ⟨b5, 0, none⟩))] ∧ SlR K.w0.heap.size 67 3 (prE (iE .i64) (prE (iE .i64) (iE .i64))) F1 a18 n22 c19 d_cries Lb20) ?_ ?_
     · clear r25
       refine wsr (om rfl rfl ?_)
       refine ov (v_lenS Tryz.underlying24 rfl) rfl ?_
       refine om rfl rfl (shO_nil ?_)
       refine shW_block ?_
       refine shW_lp (fun fu2 e1 F1 L1 => ∃ (tl : List Int) (k : Int), tl.length = fu2 ∧ Lst l k tl ∧ ∃ (d_cries2 : List (Int × Int × Int)) (a26 : Option Addr) (n30 : Nat) (c27 : Nat) (Lb28 : LH), book_Again_1B_l2 hour notice tl d_cries2 = some d_cries ∧ F8 = F1 ∧ L1 = ((b5, .cells #[.int .i64 houses, .int .i64 notices, .slice hears_a hears.length hears_c, .slice readings_a readings.length readings_c, .slice a26 n30 c27] 171 (0, 0)) :: ((b_out, .cells #[.slice out_a out.length out_c] 24 (0, 0)) :: ((b_found, .cells #[.bool found] 4 (0, 0)) :: (Lb28 ++ [])))) ∧ e1.sub [(0, .slice l_a l.length l_c), (4, .pointer (some ⟨b_hour, 0, none⟩)), (5, .pointer (some ⟨b_notice, 0, none⟩)), (6, .pointer (some ⟨b_houses, 0, none⟩)), (7, .pointer (some ⟨b_out, 0, none⟩)), (8, .pointer (some ⟨b_found, 0, none⟩)), (14, .pointer (some ⟨b5, 0, none⟩)), (31, .slice l_a l.length l_c), (32, .int .i64 (l.length : Int)), (33, .int .i64 k)] ∧ SlR K.w0.heap.size 67 3 (prE (iE .i64) (prE (iE .i64) (iE .i64))) F1 a26 n30 c27 d_cries2 Lb28) _ (m0 kr ⟨_, _, rfl, Lst.start _, l2, a12, n16, c13, Lb14, h24, rfl, rfl, (sc rfl (sc rfl (sc rfl (sc rfl (sc rfl (sc rfl (sc rfl (sc rfl (sc rfl (sc rfl (sn _))))))))))), hz15⟩) ?_
       rintro fu2 e1 _ _ ⟨tl, k, hn33, hk32, d_cries2, a26, n30, c27, Lb28, r34, rfl, rfl, he35, hz29⟩
       refine shW_env _ he35 ?_; clear he35
       refine wsr ?_
       refine ov (v_lssK rfl rfl) rfl ?_
       refine shO_nil (shW_seq ?_)
       refine shW_condP rfl (fun c37 => ?_) (fun c37 => ?_)
       · obtain ⟨x, tl2, rfl, hx39, g40, hk38⟩ := Lst.succ hk32 c37
         rw [book_Again_1B_l2] at r34
         refine shW_skip (shW_seq ?_)
         refine shW_block ?_
         refine wsr ?_
         obtain ⟨b41, o42, c43, vs44, ha45, hs46, hle47, rfl, hl48, hc49⟩ := RowR.at (iE_ok _) h_l ((b5, .cells #[.int .i64 houses, .int .i64 notices, .slice hears_a hears.length hears_c, .slice readings_a readings.length readings_c, .slice a26 n30 c27] 171 (0, 0)) :: ((b_out, .cells #[.slice out_a out.length out_c] 24 (0, 0)) :: ((b_found, .cells #[.bool found] 4 (0, 0)) :: (Lb28 ++ [])))) g40.1 hx39
         refine ov (v_indexO Tryz.underlying24 Tryz.sizeOf3 rfl ha45 rfl g40) rfl ?_
         refine ov (v_load Tryz.isAgg3 rfl hs46 (hc49 0 (by decide))) rfl ?_
         refine oa rfl rfl (shO_nil ?_)
         refine shW_drawM [(.still, 0), (.still, 1), (.still, 2), (.still, 3), (.still, 4), (.still, 5), (.still, 6), (.still, 7), (.still, 8), (.still, 9), (.seq, 10), (.seq, 11), (.still, 12), (.still, 13), (.still, 14), (.seq, 15)] (by kernel_rfl) (by kernel_rfl) (trivial) (by rfl) (by kernel_rfl) ?_
         refine shM_v (v := .pointer (some ⟨b5, 0, none⟩)) (ek := [(14, .pointer (some ⟨b5, 0, none⟩))]) (Ls := []) rfl rfl rfl rfl ((sc rfl (sn _))) (by kernel_rfl) sm (fun H F' L' hF' hL' => v_move rfl) ?_
         refine shM_v (v := .pointer (some ⟨b5, 0, none⟩)) (ek := [(14, .pointer (some ⟨b5, 0, none⟩))]) (Ls := []) rfl rfl rfl rfl ((sc rfl (sn _))) (by kernel_rfl) sm (fun H F' L' hF' hL' => v_move rfl) ?_
         refine shM_v (v := .pointer (some ⟨b5, 0, none⟩)) (ek := [(38, .pointer (some ⟨b5, 0, none⟩))]) (Ls := []) rfl rfl rfl rfl ((sc rfl (sn _))) (by kernel_rfl) sm (fun H F' L' hF' hL' => v_nilCheck rfl) ?_
         refine shM_v (v := .pointer (some ⟨b5, 0, none⟩)) (ek := [(39, .pointer (some ⟨b5, 0, none⟩))]) (Ls := []) rfl rfl rfl rfl ((sc rfl (sn _))) (by kernel_rfl) sm (fun H F' L' hF' hL' => v_fieldAddr fa_171_0 rfl) ?_
         refine shM_v (v := .pointer (some ⟨b5, 4, none⟩)) (ek := [(40, .pointer (some ⟨b5, 0, none⟩))]) (Ls := []) rfl rfl rfl rfl ((sc rfl (sn _))) (by kernel_rfl) sm (fun H F' L' hF' hL' => v_fieldAddr fa_27_4 rfl) ?_
         refine shM_v (v := .slice a26 n30 c27) (ek := [(41, .pointer (some ⟨b5, 4, none⟩))]) (Ls := [(b5, .cells #[.int .i64 houses, .int .i64 notices, .slice hears_a hears.length hears_c, .slice readings_a readings.length readings_c, .slice a26 n30 c27] 171 (0, 0))]) rfl rfl rfl rfl ((sc rfl (sn _))) (by kernel_rfl) (s0 (s2 (s1 (s1 (s3 sr))))) (fun H F' L' hF' hL' => v_load Tryz.isAgg25 rfl ((Has.own 0 rfl).ext hF' hL') rfl) ?_
         refine shM_v (v := .int .i64 hour) (ek := [(4, .pointer (some ⟨b_hour, 0, none⟩))]) (Ls := []) rfl rfl rfl rfl ((sc rfl (sn _))) (by kernel_rfl) sm (fun H F' L' hF' hL' => v_load Tryz.isAgg3 rfl ((Has.frozen hb_hour).ext hF' hL') rfl) ?_
         refine shM_v (v := .int .i64 x) (ek := [(16, .int .i64 x)]) (Ls := []) rfl rfl rfl rfl ((sc rfl (sn _))) (by kernel_rfl) sm (fun H F' L' hF' hL' => v_move rfl) ?_
         refine shM_v (v := .int .i64 notice) (ek := [(5, .pointer (some ⟨b_notice, 0, none⟩))]) (Ls := []) rfl rfl rfl rfl ((sc rfl (sn _))) (by kernel_rfl) sm (fun H F' L' hF' hL' => v_load Tryz.isAgg3 rfl ((Has.frozen hb_notice).ext hF' hL') rfl) ?_
         refine shM_v (v := .agg #[.int .i64 hour, .int .i64 x, .int .i64 notice]) (ek := [(43, .int .i64 hour), (44, .int .i64 x), (45, .int .i64 notice)]) (Ls := []) rfl rfl rfl rfl ((sc rfl (sc rfl (sc rfl (sn _))))) (by kernel_rfl) sm (fun H F' L' hF' hL' => v_build (v := .agg #[.int .i64 hour, .int .i64 x, .int .i64 notice]) rfl (by intro w; kernel_rfl)) ?_
         refine ⟨_, [(46, .agg #[.int .i64 hour, .int .i64 x, .int .i64 notice])], rfl, rfl, (sc rfl (sn _)), by kernel_rfl, ?_⟩; intro H
         refine o_buildSlice (cs := #[.int .i64 hour, .int .i64 x, .int .i64 notice]) rfl rfl (buildSlice_all slt_25 [.agg #[.int .i64 hour, .int .i64 x, .int .i64 notice]] rfl (by decide) (by simp [Value.cells]) (by decide)) ?_; intro b50 hb50
         refine shO_nil ⟨_, rfl, FExt.refl _, [5, 4, 3, 2, 1, 0], by kernel_rfl, .inl (.inr (fun d h => by cases h; rfl)), (List.forall_mem_cons.2 ⟨s0 (s1 (s2 (s1 (s1 (s3 sr))))), (List.forall_mem_cons.2 ⟨sm, (List.forall_mem_cons.2 ⟨sm, (List.forall_mem_cons.2 ⟨sm, (List.forall_mem_cons.2 ⟨sm, (List.forall_mem_cons.2 ⟨sm, (fun _ h => absurd h List.not_mem_nil)⟩)⟩)⟩)⟩)⟩)⟩), ?_⟩
         refine ⟨_, [(42, .slice a26 n30 c27), (47, .slice (some ⟨b50, 0, none⟩) 1 1)], rfl, rfl, (sc rfl (sc rfl (sn _))), by kernel_rfl, ?_⟩; intro H
         obtain ⟨l3, h51, g52, r53⟩ := ap_ok r34; clear r34
         refine o_appZ (xs := d_cries2) (ys := [(hour, x, notice)]) (zs := l3) rfl slt_25 rfl rfl (Nat.le_refl _) (fun _ => .c (.c (.c (.c .h)))) hz29 (SrcR.box (vss := [[.int .i64 hour, .int .i64 x, .int .i64 notice]]) (ys := [(hour, x, notice)]) 0 rfl (prE_ok (iE_ok _) (prE_ok (iE_ok _) (iE_ok _))) (.cons ⟨_, _, rfl, rfl, ⟨_, _, rfl, rfl, rfl⟩⟩ .nil) rfl rfl) h51 g52 (by decide) ?_; intro a54 n58 c55 Lb56 hz57
         refine kO (kd kr) ?_
         refine shO_nil ⟨_, rfl, FExt.refl _, [0], by kernel_rfl, .inl (.inr (fun d h => by cases h; rfl)), (List.forall_mem_cons.2 ⟨sm, (fun _ h => absurd h List.not_mem_nil)⟩), ?_⟩
         refine shM_v (v := .pointer (some ⟨b5, 0, none⟩)) (ek := [(37, .pointer (some ⟨b5, 0, none⟩))]) (Ls := []) rfl rfl rfl rfl ((sc rfl (sn _))) (by kernel_rfl) sm (fun H F' L' hF' hL' => v_nilCheck rfl) ?_
         refine shM_v (v := .pointer (some ⟨b5, 0, none⟩)) (ek := [(49, .pointer (some ⟨b5, 0, none⟩))]) (Ls := []) rfl rfl rfl rfl ((sc rfl (sn _))) (by kernel_rfl) sm (fun H F' L' hF' hL' => v_fieldAddr fa_171_0 rfl) ?_
         refine shM_v (v := .pointer (some ⟨b5, 4, none⟩)) (ek := [(50, .pointer (some ⟨b5, 0, none⟩))]) (Ls := []) rfl rfl rfl rfl ((sc rfl (sn _))) (by kernel_rfl) sm (fun H F' L' hF' hL' => v_fieldAddr fa_27_4 rfl) ?_
         refine ⟨_, [(48, .slice a54 n58 c55), (51, .pointer (some ⟨b5, 4, none⟩))], rfl, rfl, (sc rfl (sc rfl (sn _))), by kernel_rfl, ?_⟩; intro H
         refine o_store (i := 0) Tryz.sizeOf25 rfl rfl rfl rfl (Nat.le_of_ble_eq_true rfl) ?_
         refine shO_L (L' := (b5, .cells #[.int .i64 houses, .int .i64 notices, .slice hears_a hears.length hears_c, .slice readings_a readings.length readings_c, .slice a54 n58 c55] 171 (0, 0)) :: ((b_out, .cells #[.slice out_a out.length out_c] 24 (0, 0)) :: ((b_found, .cells #[.bool found] 4 (0, 0)) :: (Lb56 ++ [])))) rfl ?_
         refine shO_nil ⟨undef, rfl, FExt.refl _, [], by kernel_rfl, .inl (.inl rfl), (fun _ h => absurd h List.not_mem_nil), ?_⟩
         refine shM_nil ?_
         refine inBlock_n (id := 1) (shW_region ?_)
         refine ov (v_add rfl rfl (Lst.r64 hk32 c37 (RowR.lt h_l))) rfl ?_
         refine om rfl rfl (shO_nil ?_)
         subst hn33; exact le kr ⟨_, _, rfl, hk38, l3, a54, n58, c55, Lb56, r53, rfl, rfl, (sc rfl (sc rfl (sc rfl (sc rfl (sc rfl (sc rfl (sc rfl (sc rfl (sc rfl (sc rfl (sn _))))))))))), hz57⟩
       obtain rfl := Lst.zero hk32 c37
       rw [book_Again_1B_l2] at r34
       refine shW_exit (andThen_exit (andThen_exit ?_))
       refine inBlock_exit ?_
       obtain rfl := inj1 r34
       exact mi kr ⟨a26, n30, c27, Lb28, rfl, rfl, (sc rfl (sc rfl (sc rfl (sc rfl (sc rfl (sc rfl (sn _))))))), hz29⟩
     rintro e1 _ _ ⟨a18, n22, c19, Lb20, rfl, rfl, he60, hz21⟩
     refine shW_env _ he60 ?_; clear he60
     refine wsr ?_
     refine ov (v_makeFunc rfl rfl) rfl ?_
     refine ov (v_build (v := .agg (#[.func (.func 109) #[] #[.pointer (some ⟨b_houses, 0, none⟩), .pointer (some ⟨b_notice, 0, none⟩)]])) rfl (by intro w; kernel_rfl)) rfl ?_
     refine o_alloc rfl Tryz.zeroValue110 ?_; intro b61 hb61
     refine o_storeA (i := 0) Tryz.sizeOf110 rfl rfl rfl (by simp [Value.oneCell']) rfl (Nat.le_of_ble_eq_true rfl) ?_
     refine shO_L (L' := (b61, .cells (#[.func (.func 109) #[] #[.pointer (some ⟨b_houses, 0, none⟩), .pointer (some ⟨b_notice, 0, none⟩)]]) 110 (0, 0)) :: ((b5, .cells #[.int .i64 houses, .int .i64 notices, .slice hears_a hears.length hears_c, .slice readings_a readings.length readings_c, .slice a18 n22 c19] 171 (0, 0)) :: ((b_out, .cells #[.slice out_a out.length out_c] 24 (0, 0)) :: ((b_found, .cells #[.bool found] 4 (0, 0)) :: (Lb20 ++ []))))) rfl ?_
     refine shO_nil (shW_seq (shW_seq ?_))
     refine shW_drawM [(.still, 0), (.still, 1), (.seq, 2), (.seq, 3), (.still, 4)] (by kernel_rfl) (by kernel_rfl) (trivial) (by rfl) (by kernel_rfl) ?_
     refine shM_v (v := .agg (#[.func (.func 109) #[] #[.pointer (some ⟨b_houses, 0, none⟩), .pointer (some ⟨b_notice, 0, none⟩)]])) (ek := [(17, .pointer (some ⟨b61, 0, none⟩))]) (Ls := [(b61, .cells (#[.func (.func 109) #[] #[.pointer (some ⟨b_houses, 0, none⟩), .pointer (some ⟨b_notice, 0, none⟩)]]) 110 (0, 0))]) rfl rfl rfl rfl ((sc rfl (sn _))) (by kernel_rfl) (s0 (s2 (s1 (s1 (s1 (s3 sr)))))) (fun H F' L' hF' hL' => v_loadA (cs := #[.func (.func 109) #[] #[.pointer (some ⟨b_houses, 0, none⟩), .pointer (some ⟨b_notice, 0, none⟩)]]) Tryz.isAgg110 Tryz.sizeOf110 rfl ((Has.own 0 rfl).ext hF' hL') (Nat.le_of_ble_eq_true rfl) rfl) ?_
     refine shM_v (v := .pointer (some ⟨b5, 0, none⟩)) (ek := [(14, .pointer (some ⟨b5, 0, none⟩))]) (Ls := []) rfl rfl rfl rfl ((sc rfl (sn _))) (by kernel_rfl) sm (fun H F' L' hF' hL' => v_move rfl) ?_
     refine ⟨_, [(56, .pointer (some ⟨b5, 0, none⟩))], rfl, rfl, (sc rfl (sn _)), by kernel_rfl, ?_⟩; intro H
     obtain rfl := (SlR.caps hz21).1
     refine shO_freezeR (Nat.le_refl _) (prE_ok (iE_ok _) (prE_ok (iE_ok _) (iE_ok _))) (fC (fC (fC (fC fP)))) hz21 ?_; intro F62 hF63 h64
     replace h_l := h_l.mono (iE_ok _) hF63
     replace h_hears := h_hears.mono (slE_ok (slE_ok (iE_ok _))) hF63
     replace h_readings := h_readings.mono (iE_ok _) hF63
     replace h_houses2 := h_houses2.mono (iE_ok _) hF63
     replace h_out := h_out.mono (iE_ok _) hF63
     replace hb_notice := hF63 _ _ hb_notice
     replace hb_houses := hF63 _ _ hb_houses
     refine shO_freeze 1 rfl hb5 ?_; intro F65 hF66 hz67
     refine shO_L (L' := [(b61, .cells (#[.func (.func 109) #[] #[.pointer (some ⟨b_houses, 0, none⟩), .pointer (some ⟨b_notice, 0, none⟩)]]) 110 (0, 0)), (b_out, .cells #[.slice out_a out.length out_c] 24 (0, 0)), (b_found, .cells #[.bool found] 4 (0, 0))]) rfl ?_
     replace h_l := h_l.mono (iE_ok _) hF66
     replace h_hears := h_hears.mono (slE_ok (slE_ok (iE_ok _))) hF66
     replace h_readings := h_readings.mono (iE_ok _) hF66
     replace h_houses2 := h_houses2.mono (iE_ok _) hF66
     replace h_out := h_out.mono (iE_ok _) hF66
     replace h64 := h64.mono (prE_ok (iE_ok _) (prE_ok (iE_ok _) (iE_ok _))) hF66
     replace hb_notice := hF66 _ _ hb_notice
     replace hb_houses := hF66 _ _ hb_houses
     obtain ⟨l4, h68, r69⟩ := b1_ok r25; clear r25
     refine o_call0 rfl Tryz.call111 rfl rfl rfl (book_desk_endings_w hz67 h_hears h_readings h64 h68) ?_; rintro _ F70 _ hF71 hn72 ⟨a74, n78, c75, Lb76, rfl, rfl, hz77⟩
     replace h_l := h_l.mono (iE_ok _) hF71
     replace h_houses2 := h_houses2.mono (iE_ok _) hF71
     replace h_out := h_out.mono (iE_ok _) hF71
     replace hb_notice := hF71 _ _ hb_notice
     replace hb_houses := hF71 _ _ hb_houses
     replace hz77 := hz77.new fun p hp => hn72 p (by simp [hp])
     refine shO_L (lp (ln rfl)) ?_
     refine kO (kf (fS fO) (kf (fS fO) (kf (fS fO) kr))) ?_
     refine shO_nil ⟨_, rfl, ((hF63.trans hF66).trans hF71), [0], by kernel_rfl, .inl (.inr (fun d h => by cases h; rfl)), (List.forall_mem_cons.2 ⟨s0 (s2 (s1 (s1 (s3 sr)))), (fun _ h => absurd h List.not_mem_nil)⟩), ?_⟩
     refine ⟨_, [(55, .agg (#[.func (.func 109) #[] #[.pointer (some ⟨b_houses, 0, none⟩), .pointer (some ⟨b_notice, 0, none⟩)]])), (57, .slice a74 n78 c75)], rfl, rfl, (sc rfl (sc rfl (sn _))), by kernel_rfl, ?_⟩; intro H
     have hn81 : FnR Tryz.prog F70 109 #[] #[.pointer (some ⟨b_houses, 0, none⟩), .pointer (some ⟨b_notice, 0, none⟩)] (agE (arE 24 cB)) Value.bool (fun xx_ : (List Bool) => book_Again_1_1 xx_ houses2 notice) := ⟨Tryz.call109, fun F2 h2 vs xx_ r ha hr => by obtain ⟨_, rfl, ⟨rfl, h80⟩⟩ := ha; exact book_Again_1_1_w h80 (h2 _ _ hb_houses) (h_houses2.mono (iE_ok _) h2) (h2 _ _ hb_notice) hr⟩
     obtain rfl := (SlR.caps hz77).1
     refine shO_freezeR (Nat.le_refl _) (prE_ok (arE_ok (n := 24) (sz := 1) cB_ok) (slE_ok (iE_ok _))) (fC (fC (fC fP))) hz77 ?_; intro F82 hF83 h84
     replace h_l := h_l.mono (iE_ok _) hF83
     replace h_out := h_out.mono (iE_ok _) hF83
     replace hn81 := hn81.mono hF83
     obtain ⟨l5, h85, r86⟩ := b1_ok r69; clear r69
     refine o_call0 rfl Tryz.call48 rfl rfl rfl (book_goal_find_w hn81 h84 h85) ?_; rintro _ F87 _ hF88 hn89 ⟨a91, c92, rfl, rfl, h93, hq94⟩
     replace h_l := h_l.mono (iE_ok _) hF88
     replace h_out := h_out.mono (iE_ok _) hF88
     refine shO_L (ln rfl) ?_
     refine shO_nil ⟨_, rfl, (hF83.trans hF88), [], by kernel_rfl, .inl (.inl rfl), (fun _ h => absurd h List.not_mem_nil), ?_⟩
     refine shM_v (v := .bool (decide (l5 = []))) (ek := [(58, .slice a91 l5.length c92)]) (Ls := []) rfl rfl rfl rfl ((sc rfl (sn _))) (by kernel_rfl) sm (fun H F' L' hF' hL' => (v_eqlNil Tryz.underlying24 rfl).b (nilq_dec hq94)) ?_
     refine shM_nil ?_
     refine shW_condP rfl (fun c95 => ?_) (fun c95 => ?_)
     · have r96 := ite_t r86 c95; clear r86
       refine shW_region (om rfl rfl ?_)
       refine o_store (i := 1) Tryz.sizeOf24 rfl rfl rfl rfl (Nat.le_of_ble_eq_true rfl) ?_
       refine shO_L (L' := [(b61, .cells (#[.func (.func 109) #[] #[.pointer (some ⟨b_houses, 0, none⟩), .pointer (some ⟨b_notice, 0, none⟩)]]) 110 (0, 0)), (b_out, .cells #[.slice l_a l.length l_c] 24 (0, 0)), (b_found, .cells #[.bool found] 4 (0, 0))]) rfl ?_
       refine o_store (i := 2) Tryz.sizeOf4 rfl rfl rfl rfl (Nat.le_of_ble_eq_true rfl) ?_
       refine shO_L (L' := [(b61, .cells (#[.func (.func 109) #[] #[.pointer (some ⟨b_houses, 0, none⟩), .pointer (some ⟨b_notice, 0, none⟩)]]) 110 (0, 0)), (b_out, .cells #[.slice l_a l.length l_c] 24 (0, 0)), (b_found, .cells #[.bool true] 4 (0, 0))]) rfl ?_
       refine nsr ?_
       refine ov (v_load Tryz.isAgg4 rfl (Has.own 2 rfl) rfl) rfl ?_
       refine oa rfl rfl (shO_nil ?_)
       refine kW (kd kr) ?_
       refine shW_ret (andThen_ret ?_)
       refine q_res1 Tryz.results107 (res_tmp rfl) (sr) ?_
       obtain ⟨rfl, rfl, rfl⟩ := inj3 r96
       exact ⟨_, _, rfl, rfl, h_l⟩
     have r97 := ite_f r86 c95; clear r86
     refine shW_skip (wsr ?_)
     refine ov (v_load Tryz.isAgg4 rfl (Has.own 2 rfl) rfl) rfl ?_
     refine oa rfl rfl (shO_nil ?_)
     refine kW (kd kr) ?_
     refine shW_ret (andThen_ret ?_)
     refine q_res1 Tryz.results107 (res_tmp rfl) (sr) ?_
     obtain ⟨rfl, rfl, rfl⟩ := inj3 r97
     exact ⟨_, _, rfl, rfl, h_out⟩
   have r98 := ite_f hr c1; clear hr
   refine shW_skip ?_
   exact mi kr ⟨r98, rfl, rfl, (sc rfl (sc rfl (sc rfl (sc rfl (sc rfl (sn _))))))⟩
 rintro e1 _ _ ⟨r99, rfl, rfl, he100⟩
 refine shW_env _ he100 ?_; clear he100
 rw [book_Again_1B_j1] at r99
 refine shW_join (fun e1 F1 L1 => ∃ (out2 : List Int) (found2 : Bool) (a101 : Option Addr) (c102 : Nat), book_Again_1B_j3 out2 found2 = some (r, r2, r3) ∧ FExt F F1 ∧ L1 = [(b_out, .cells #[.slice a101 out2.length c102] 24 (0, 0)), (b_found, .cells #[.bool found2] 4 (0, 0))] ∧ e1.sub [] ∧ RowR 1 (iE .i64) F1 a101 c102 out2) ?_ ?_
 · refine wsr (om rfl rfl (oa rfl rfl (shO_nil ?_)))
   refine shW_block ?_
   obtain ⟨g107, r108⟩ := gd_ok r99; clear r99
   refine shW_lp (fun fu4 e1 F1 L1 => ∃ (s_ : Int), Ctr from_ (hears.length : Int) s_ fu4 ∧ ∃ (out3 : List Int) (found3 : Bool) (a104 : Option Addr) (c105 : Nat), book_Again_1B_l4 l many houses notices hears readings cries hour notice houses2 rec_ fu4 s_ out3 found3 = some (r, r2, r3) ∧ FExt F F1 ∧ L1 = [(b_out, .cells #[.slice a104 out3.length c105] 24 (0, 0)), (b_found, .cells #[.bool found3] 4 (0, 0))] ∧ e1.sub [(0, .slice l_a l.length l_c), (2, .int .i64 many), (3, .pointer (some ⟨b_b, 0, none⟩)), (9, .pointer (some ⟨b_pick, 0, none⟩)), (18, .int .i64 s_)] ∧ RowR 1 (iE .i64) F1 a104 c105 out3) _ (m0 kr ⟨_, Ctr.start _ _, out, found, out_a, out_c, r108, FExt.refl _, rfl, (sc rfl (sc rfl (sc rfl (sc rfl (sc rfl (sn _)))))), h_out⟩) ?_
   rintro fu4 e1 F113 _ ⟨s_, hk109, out3, found3, a104, c105, r111, hF114, rfl, he112, h106⟩
   refine shW_env _ he112 ?_; clear he112
   replace h_l := h_l.mono (iE_ok _) hF114
   replace h_hears := h_hears.mono (slE_ok (slE_ok (iE_ok _))) hF114
   replace h_readings := h_readings.mono (iE_ok _) hF114
   replace h_cries := h_cries.mono (prE_ok (iE_ok _) (prE_ok (iE_ok _) (iE_ok _))) hF114
   replace h_houses2 := h_houses2.mono (iE_ok _) hF114
   replace hb_b := hF114 _ _ hb_b
   replace hb_hour := hF114 _ _ hb_hour
   replace hb_notice := hF114 _ _ hb_notice
   replace hb_houses := hF114 _ _ hb_houses
   replace hb_pick := hF114 _ _ hb_pick
   refine shW_seq (wsr (om rfl rfl ?_))
   refine ov (v_fieldAddr fa_27_2 rfl) rfl ?_
   refine ov (v_load Tryz.isAgg23 rfl (Has.frozen hb_b) rfl) rfl ?_
   refine ov (v_lenS Tryz.underlying23 rfl) rfl ?_
   refine ov (v_lssK rfl rfl) rfl ?_
   refine shO_nil ?_
   refine shW_condP rfl (fun c116 => ?_) (fun c116 => ?_)
   · obtain ⟨fu4, rfl, hk117⟩ := Ctr.succ hk109 c116
     rw [book_Again_1B_l4] at r111
     refine shW_skip (shW_seq ?_)
     refine shW_block ?_
     refine shW_seq ?_
     refine shW_drawM [(.still, 0), (.still, 1), (.still, 3), (.pre, 4), (.still, 6), (.still, 7), (.still, 8), (.still, 9), (.seq, 2), (.alloc (.cells #[.int .i64 s_] 3 (0, 0)) (fun b => .slice (some ⟨b, 0, none⟩) 1 1) [(73, .int .i64 s_)], 4), (.seq, 5), (.seq, 10)] (by kernel_rfl) (by kernel_rfl) (⟨⟨_, _, rfl, rfl, rfl, rfl, rfl, mk_build rfl (buildSlice_all slt_24 [.int .i64 s_] rfl (by decide) (by simp [Value.cells]) (by decide))⟩, trivial⟩) (by rfl) (by kernel_rfl) ?_
     refine shM_v (v := .func (.func 107) #[] #[.pointer (some ⟨b_b, 0, none⟩), .pointer (some ⟨b_hour, 0, none⟩), .pointer (some ⟨b_notice, 0, none⟩), .pointer (some ⟨b_houses, 0, none⟩), .pointer (some ⟨b_out, 0, none⟩), .pointer (some ⟨b_found, 0, none⟩), .pointer (some ⟨b_pick, 0, none⟩)]) (ek := [(9, .pointer (some ⟨b_pick, 0, none⟩))]) (Ls := []) rfl rfl rfl rfl ((sc rfl (sn _))) (by kernel_rfl) sm (fun H F' L' hF' hL' => v_load Tryz.isAgg169 rfl ((Has.frozen hb_pick).ext hF' hL') rfl) ?_
     refine shM_v (v := .slice l_a l.length l_c) (ek := [(0, .slice l_a l.length l_c)]) (Ls := []) rfl rfl rfl rfl ((sc rfl (sn _))) (by kernel_rfl) sm (fun H F' L' hF' hL' => v_move rfl) ?_
     refine shM_v (v := .int .i64 s_) (ek := [(18, .int .i64 s_)]) (Ls := []) rfl rfl rfl rfl ((sc rfl (sn _))) (by kernel_rfl) sm (fun H F' L' hF' hL' => v_move rfl) ?_
     refine ⟨⟨_, rfl, (sc rfl (sn _)), by kernel_rfl⟩, ?_⟩
     refine shM_v (v := .int .i64 s_) (ek := [(18, .int .i64 s_)]) (Ls := []) rfl rfl rfl rfl ((sc rfl (sn _))) (by kernel_rfl) sm (fun H F' L' hF' hL' => v_move rfl) ?_
     refine shM_v (v := .int .i64 (s_ + 1)) (ek := [(76, .int .i64 s_)]) (Ls := []) rfl rfl rfl rfl ((sc rfl (sn _))) (by kernel_rfl) sm (fun H F' L' hF' hL' => v_add rfl rfl (Ctr.r64 hk109 c116 g107)) ?_
     refine shM_v (v := .int .i64 many) (ek := [(2, .int .i64 many)]) (Ls := []) rfl rfl rfl rfl ((sc rfl (sn _))) (by kernel_rfl) sm (fun H F' L' hF' hL' => v_move rfl) ?_
     obtain ⟨g118, r119⟩ := gd_ok r111; clear r111
     refine shM_v (v := .int .i64 (many - 1)) (ek := [(78, .int .i64 many)]) (Ls := []) rfl rfl rfl rfl ((sc rfl (sn _))) (by kernel_rfl) sm (fun H F' L' hF' hL' => v_sub rfl rfl g118) ?_
     refine ⟨_, [(71, .slice l_a l.length l_c)], rfl, rfl, (sc rfl (sn _)), by kernel_rfl, ?_⟩; intro H
     obtain ⟨l6, h120, r121⟩ := b1_ok r119; clear r119
     refine o_call0 rfl Tryz.call51 rfl rfl rfl (slices_Clone_int_int_w h_l h120) ?_; rintro _ F122 _ hF123 hn124 ⟨a126, n130, c127, Lb128, rfl, rfl, hz129⟩
     replace h_hears := h_hears.mono (slE_ok (slE_ok (iE_ok _))) hF123
     replace h_readings := h_readings.mono (iE_ok _) hF123
     replace h_cries := h_cries.mono (prE_ok (iE_ok _) (prE_ok (iE_ok _) (iE_ok _))) hF123
     replace h_houses2 := h_houses2.mono (iE_ok _) hF123
     replace h106 := h106.mono (iE_ok _) hF123
     replace hb_b := hF123 _ _ hb_b
     replace hb_hour := hF123 _ _ hb_hour
     replace hb_notice := hF123 _ _ hb_notice
     replace hb_houses := hF123 _ _ hb_houses
     replace hb_pick := hF123 _ _ hb_pick
     replace hz129 := hz129.new fun p hp => hn124 p (by simp [hp])
     refine shO_L (lp (ln rfl)) ?_
     refine kO (kf (fS fO) (kf (fS fO) kr)) ?_
     refine shO_nil ⟨_, rfl, hF123, [9, 8, 7, 6, 3, 0], by kernel_rfl, .inl (.inr (fun d h => by cases h; rfl)), (List.forall_mem_cons.2 ⟨sm, (List.forall_mem_cons.2 ⟨sm, (List.forall_mem_cons.2 ⟨sm, (List.forall_mem_cons.2 ⟨sm, (List.forall_mem_cons.2 ⟨sm, (List.forall_mem_cons.2 ⟨sm, (fun _ h => absurd h List.not_mem_nil)⟩)⟩)⟩)⟩)⟩)⟩), ?_⟩
     refine shM_bs rfl ?_; intro b132 hb132
     refine shM_L (L' := (b132, .cells #[.int .i64 s_] 3 (0, 0)) :: ((b_out, .cells #[.slice a104 out3.length c105] 24 (0, 0)) :: ((b_found, .cells #[.bool found3] 4 (0, 0)) :: (Lb128 ++ [])))) rfl ?_
     refine ⟨_, [(72, .slice a126 n130 c127), (74, .slice (some ⟨b132, 0, none⟩) 1 1)], rfl, rfl, (sc rfl (sc rfl (sn _))), by kernel_rfl, ?_⟩; intro H
     obtain ⟨l7, h133, g134, r135⟩ := ap_ok r121; clear r121
     refine o_appZ (xs := l6) (ys := [s_]) (zs := l7) rfl slt_24 rfl rfl (Nat.le_refl _) (fun _ => .c (.c (.c .h))) hz129 (SrcR.box (vss := [[.int .i64 s_]]) (ys := [s_]) 0 rfl (iE_ok _) (.cons rfl .nil) rfl rfl) h133 g134 (by decide) ?_; intro a136 n140 c137 Lb138 hz139
     refine kO (kd kr) ?_
     refine shO_nil ⟨_, rfl, FExt.refl _, [9, 8, 7, 6, 0], by kernel_rfl, .inl (.inr (fun d h => by cases h; rfl)), (List.forall_mem_cons.2 ⟨sm, (List.forall_mem_cons.2 ⟨sm, (List.forall_mem_cons.2 ⟨sm, (List.forall_mem_cons.2 ⟨sm, (List.forall_mem_cons.2 ⟨sm, (fun _ h => absurd h List.not_mem_nil)⟩)⟩)⟩)⟩)⟩), ?_⟩
     refine ⟨_, [(70, .func (.func 107) #[] #[.pointer (some ⟨b_b, 0, none⟩), .pointer (some ⟨b_hour, 0, none⟩), .pointer (some ⟨b_notice, 0, none⟩), .pointer (some ⟨b_houses, 0, none⟩), .pointer (some ⟨b_out, 0, none⟩), .pointer (some ⟨b_found, 0, none⟩), .pointer (some ⟨b_pick, 0, none⟩)]), (75, .slice a136 n140 c137), (77, .int .i64 (s_ + 1)), (79, .int .i64 (many - 1))], rfl, rfl, (sc rfl (sc rfl (sc rfl (sc rfl (sn _))))), by kernel_rfl, ?_⟩; intro H
     obtain rfl := (SlR.caps hz139).1
     refine shO_freezeR (Nat.le_refl _) (iE_ok _) (fC (fC fP)) hz139 ?_; intro F142 hF143 h144
     replace h_hears := h_hears.mono (slE_ok (slE_ok (iE_ok _))) hF143
     replace h_readings := h_readings.mono (iE_ok _) hF143
     replace h_cries := h_cries.mono (prE_ok (iE_ok _) (prE_ok (iE_ok _) (iE_ok _))) hF143
     replace h_houses2 := h_houses2.mono (iE_ok _) hF143
     replace h106 := h106.mono (iE_ok _) hF143
     replace hb_b := hF143 _ _ hb_b
     replace hb_hour := hF143 _ _ hb_hour
     replace hb_notice := hF143 _ _ hb_notice
     replace hb_houses := hF143 _ _ hb_houses
     replace hb_pick := hF143 _ _ hb_pick
     obtain ⟨ok, out4, found4, h145, r146⟩ := b3_ok r135; clear r135
     refine o_callG (Lb := [(b_out, .cells #[.slice a104 out3.length c105] 24 (0, 0)), (b_found, .cells #[.bool found3] 4 (0, 0))]) (Lr := []) rfl Tryz.call107 rfl rfl rfl (pR) (hrec h144 hb_b h_hears h_readings h_cries hb_hour hb_notice hb_houses h_houses2 h106 hb_pick h145) ?_; rintro _ F147 _ hF148 hd150 hn149 ⟨a151, c152, rfl, rfl, h153⟩
     refine shO_L (lb (lb (ln rfl))) ?_
     refine shO_nil ⟨_, rfl, (hF143.trans hF148), [], by kernel_rfl, .inl (.inl rfl), (fun _ h => absurd h List.not_mem_nil), ?_⟩
     refine shM_nil ?_
     refine shW_cond rfl (fun c154 => ?_) (fun c154 => ?_)
     · have r155 := bt r146 c154; clear r146
       refine wsr (oa rfl rfl (shO_nil (shW_ret (inBlock_ret (andThen_ret (andThen_ret (inBlock_ret (andThen_ret ?_))))))))
       refine q_res1 Tryz.results107 (res_tmp rfl) (sr) ?_
       obtain ⟨rfl, rfl, rfl⟩ := inj3 r155
       exact ⟨_, _, rfl, rfl, h153⟩
     have r156 := bf r146 c154; clear r146
     refine shW_skip (inBlock_n (id := 3) (shW_region (om rfl rfl ?_)))
     refine ov (v_add rfl rfl (Ctr.r64 hk109 c116 g107)) rfl ?_
     refine oa rfl rfl (shO_nil ?_)
     exact le kr ⟨_, hk117, out4, found4, a151, c152, r156, (((hF114.trans hF123).trans hF143).trans hF148), rfl, (sc rfl (sc rfl (sc rfl (sc rfl (sc rfl (sn _)))))), h153⟩
   obtain rfl := Ctr.zero hk109 c116
   rw [book_Again_1B_l4] at r111
   refine shW_exit (andThen_exit (andThen_exit ?_))
   refine inBlock_exit ?_
   exact mi kr ⟨out3, found3, a104, c105, r111, hF114, rfl, (sn _), h106⟩
 rintro e1 F159 _ ⟨out2, found2, a101, c102, r157, hF160, rfl, he158, h103⟩
 refine shW_env _ he158 ?_; clear he158
 rw [book_Again_1B_j3] at r157
 refine wsr (oa rfl rfl (shO_nil (shW_ret ?_)))
 refine q_res1 Tryz.results107 (res_tmp rfl) (sr) ?_
 obtain ⟨rfl, rfl, rfl⟩ := inj3 r157
 exact ⟨_, _, rfl, rfl, h103⟩
set_option maxHeartbeats 1000000 in
theorem book_Again_1_w : ∀ (fu : Nat) {l_a : Option Addr} {l_c : Nat} {l : List Int} {from_ : Int} {many : Int} {b_b : Nat} {houses : Int} {notices : Int} {hears_a : Option Addr} {hears_c : Nat} {hears : List (List (List Int))} {readings_a : Option Addr} {readings_c : Nat} {readings : List Int} {cries_a : Option Addr} {cries_c : Nat} {cries : List (Int × Int × Int)} {mb_b : Nat × Nat} {b_hour : Nat} {hour : Int} {mb_hour : Nat × Nat} {b_notice : Nat} {notice : Int} {mb_notice : Nat × Nat} {b_houses : Nat} {houses2_a : Option Addr} {houses2_c : Nat} {houses2 : List Int} {mb_houses : Nat × Nat} {b_out : Nat} {out_a : Option Addr} {out_c : Nat} {out : List Int} {b_found : Nat} {found : Bool} {b_pick : Nat} {mb_pick : Nat × Nat} {F : FS} (_ : RowR 1 (iE .i64) F l_a l_c l) (_ : F b_b = some (.cells #[.int .i64 houses, .int .i64 notices, .slice hears_a hears.length hears_c, .slice readings_a readings.length readings_c, .slice cries_a cries.length cries_c] 27 mb_b)) (_ : RowR 1 (slE 1 (slE 1 (iE .i64))) F hears_a hears_c hears) (_ : RowR 1 (iE .i64) F readings_a readings_c readings) (_ : RowR 3 (prE (iE .i64) (prE (iE .i64) (iE .i64))) F cries_a cries_c cries) (_ : F b_hour = some (.cells #[.int .i64 hour] 3 mb_hour)) (_ : F b_notice = some (.cells #[.int .i64 notice] 3 mb_notice)) (_ : F b_houses = some (.cells #[.slice houses2_a houses2.length houses2_c] 24 mb_houses)) (_ : RowR 1 (iE .i64) F houses2_a houses2_c houses2) (_ : RowR 1 (iE .i64) F out_a out_c out) (_ : F b_pick = some (.cells (#[.func (.func 107) #[] #[.pointer (some ⟨b_b, 0, none⟩), .pointer (some ⟨b_hour, 0, none⟩), .pointer (some ⟨b_notice, 0, none⟩), .pointer (some ⟨b_houses, 0, none⟩), .pointer (some ⟨b_out, 0, none⟩), .pointer (some ⟨b_found, 0, none⟩), .pointer (some ⟨b_pick, 0, none⟩)]]) 169 mb_pick)) {r : Bool} {r2 : List Int} {r3 : Bool} , book_Again_1 fu l from_ many houses notices hears readings cries hour notice houses2 out found = some (r, r2, r3) → SH.Spec Tryz.prog 107 #[.slice l_a l.length l_c, .int .i64 from_, .int .i64 many, .pointer (some ⟨b_b, 0, none⟩), .pointer (some ⟨b_hour, 0, none⟩), .pointer (some ⟨b_notice, 0, none⟩), .pointer (some ⟨b_houses, 0, none⟩), .pointer (some ⟨b_out, 0, none⟩), .pointer (some ⟨b_found, 0, none⟩), .pointer (some ⟨b_pick, 0, none⟩)] F [(b_out, .cells #[.slice out_a out.length out_c] 24 (0, 0)), (b_found, .cells #[.bool found] 4 (0, 0))] fun F' L' v => ∃ (r2a : Option Addr) (r2c : Nat), v = .bool r ∧ L' = [(b_out, .cells #[.slice r2a r2.length r2c] 24 (0, 0)), (b_found, .cells #[.bool r3] 4 (0, 0))] ∧ RowR 1 (iE .i64) F' r2a r2c r2 := by
  intro fu
  induction fu with
  | zero => intros; rename_i hr; rw [book_Again_1] at hr; cases hr
  | succ fu ih => intros; rename_i hr; rw [book_Again_1] at hr; exact book_Again_1B_w ih (by assumption) (by assumption) (by assumption) (by assumption) (by assumption) (by assumption) (by assumption) (by assumption) (by assumption) (by assumption) (by assumption) hr
set_option maxHeartbeats 1000000 in
theorem book_Again_w {houses : Int} {notices : Int} {hears_a : Option Addr} {hears_c : Nat} {hears : List (List (List Int))} {readings_a : Option Addr} {readings_c : Nat} {readings : List Int} {cries_a : Option Addr} {cries_c : Nat} {cries : List (Int × Int × Int)} {notice : Int} {hour : Int} {houses2_a : Option Addr} {houses2_c : Nat} {houses2 : List Int} {F : FS} (h_hears : RowR 1 (slE 1 (slE 1 (iE .i64))) F hears_a hears_c hears) (h_readings : RowR 1 (iE .i64) F readings_a readings_c readings) (h_cries : RowR 3 (prE (iE .i64) (prE (iE .i64) (iE .i64))) F cries_a cries_c cries) (h_houses2 : RowR 1 (iE .i64) F houses2_a houses2_c houses2) {r : List Int} {r2 : Int} (hr : book_Again houses notices hears readings cries notice hour houses2 = some (r, r2)) :
    SH.Spec Tryz.prog 71 #[.agg #[.int .i64 houses, .int .i64 notices, .slice hears_a hears.length hears_c, .slice readings_a readings.length readings_c, .slice cries_a cries.length cries_c], .int .i64 notice, .int .i64 hour, .slice houses2_a houses2.length houses2_c] F [] fun F' L' v => ∃ (ra : Option Addr) (rc : Nat), v = .tuple #[.slice ra r.length rc, .int .i64 r2] ∧ L' = [] ∧ RowR 1 (iE .i64) F' ra rc r := by
 refine spec_of_shW (args := [.agg #[.int .i64 houses, .int .i64 notices, .slice hears_a hears.length hears_c, .slice readings_a readings.length readings_c, .slice cries_a cries.length cries_c], .int .i64 notice, .int .i64 hour, .slice houses2_a houses2.length houses2_c]) Tryz.func71 rfl Tryz.ntmps71 (Nat.le_of_ble_eq_true rfl) ?_
 intro K _ _; rw [book_Again] at hr
 refine wsr ?_
 refine o_box rfl rfl ?_; intro b1 hb1
 refine o_box rfl rfl ?_; intro b2 hb2
 refine o_box rfl rfl ?_; intro b3 hb3
 refine o_box rfl rfl ?_; intro b4 hb4
 refine oa rfl rfl (oa rfl rfl (shO_nil ?_))
 refine shW_scope ?_
 refine shW_seq (wsr ?_)
 refine ov (v_loadA (cs := #[.int .i64 houses, .int .i64 notices, .slice hears_a hears.length hears_c, .slice readings_a readings.length readings_c, .slice cries_a cries.length cries_c]) Tryz.isAgg27 Tryz.sizeOf27 rfl (Has.own 3 rfl) (Nat.le_of_ble_eq_true rfl) rfl) rfl ?_
 obtain ⟨n, h5, r6⟩ := b1_ok hr; clear hr
 refine o_callV rfl Tryz.call91 rfl rfl rfl (book_Check_w h_hears h_readings h_cries h5) ?_
 refine oa rfl rfl (nsr (om rfl rfl ?_))
 refine ov (v_neq rfl rfl) rfl ?_
 refine shO_nil ?_
 refine shW_condP rfl (fun c7 => ?_) (fun c7 => ?_)
 · have r8 := ite_t r6 c7; clear r6
   refine wsr (om rfl rfl (oa rfl rfl (oa rfl rfl (shO_nil ?_))))
   refine kW kn ?_
   refine shW_ret (andThen_ret (noGoto_ret ?_))
   refine q_res2 Tryz.results71 (res_tmp rfl) (res_tmp rfl) (sr) ?_
   obtain ⟨rfl, rfl⟩ := inj2 r8
   exact ⟨_, _, rfl, rfl, RowR.nil _ _ _⟩
 have r9 := ite_f r6 c7; clear r6
 refine shW_skip (shW_seq ?_)
 obtain ⟨k, h10, r11⟩ := b1_ok r9; clear r9
 refine shW_join (fun e1 F1 L1 => F = F1 ∧ L1 = [(b4, .cells #[.slice houses2_a houses2.length houses2_c] 24 (0, 0)), (b3, .cells #[.int .i64 hour] 3 (0, 0)), (b2, .cells #[.int .i64 notice] 3 (0, 0)), (b1, .cells #[.int .i64 houses, .int .i64 notices, .slice hears_a hears.length hears_c, .slice readings_a readings.length readings_c, .slice cries_a cries.length cries_c] 27 (0, 0))] ∧ e1.sub [(4, .pointer (some ⟨b1, 0, none⟩)), (5, .pointer (some ⟨b2, 0, none⟩)), (6, .pointer (some ⟨b3, 0, none⟩)), (7, .pointer (some ⟨b4, 0, none⟩)), (33, .bool k)]) ?_ ?_
 · clear r11
   refine shW_region ?_
   refine ov (v_loadA (cs := #[.int .i64 houses, .int .i64 notices, .slice hears_a hears.length hears_c, .slice readings_a readings.length readings_c, .slice cries_a cries.length cries_c]) Tryz.isAgg27 Tryz.sizeOf27 rfl (Has.own 3 rfl) (Nat.le_of_ble_eq_true rfl) rfl) rfl ?_
   refine ov (v_load Tryz.isAgg3 rfl (Has.own 2 rfl) rfl) rfl ?_
   obtain ⟨ok, h12, r13⟩ := b1_ok h10; clear h10
   refine o_callV rfl Tryz.call104 rfl rfl rfl (book_Book_notice_w h_hears h_readings h_cries h12) ?_
   refine ov (v_notB rfl) rfl ?_
   refine om rfl rfl ?_
   rcases bool_two (!ok) with c14 | c14
   · have r15 := bt r13 c14; clear r13
     refine shO_off (b' := true) 28 rfl (EnvB rfl c14) rfl rfl (shO_off (b' := true) 28 rfl (EnvB rfl c14) rfl rfl (shO_off (b' := true) 28 rfl (EnvB rfl c14) rfl rfl (shO_off (b' := true) 28 rfl (EnvB rfl c14) rfl rfl ?_)))
     refine ov (v_pick_t (evB rfl c14) rfl) rfl ?_
     refine shO_nil ?_
     obtain rfl := inj1 r15
     exact mi kr ⟨rfl, rfl, (sc rfl (sc rfl (sc rfl (sc rfl (sc rfl (sn _))))))⟩
   have r16 := bf r13 c14; clear r13
   refine shO_on (b := false) 28 rfl (EnvB rfl c14) ?_
   refine ov (v_loadA (cs := #[.int .i64 houses, .int .i64 notices, .slice hears_a hears.length hears_c, .slice readings_a readings.length readings_c, .slice cries_a cries.length cries_c]) Tryz.isAgg27 Tryz.sizeOf27 rfl (Has.own 3 rfl) (Nat.le_of_ble_eq_true rfl) rfl) rfl ?_
   refine shO_on (b := false) 28 rfl (EnvB rfl c14) ?_
   refine ov (v_load Tryz.isAgg3 rfl (Has.own 1 rfl) rfl) rfl ?_
   refine shO_on (b := false) 28 rfl (EnvB rfl c14) ?_
   obtain ⟨ok2, h17, r18⟩ := b1_ok r16; clear r16
   refine o_callV rfl Tryz.call105 rfl rfl rfl (book_Book_hour_w h_hears h_readings h_cries h17) ?_
   refine shO_on (b := false) 28 rfl (EnvB rfl c14) ?_
   refine ov (v_notB rfl) rfl ?_
   refine ov (v_pick_f (evB rfl c14) rfl) rfl ?_
   refine shO_nil ?_
   obtain rfl := inj1 r18
   exact mi kr ⟨rfl, rfl, (sc rfl (sc rfl (sc rfl (sc rfl (sc rfl (sn _))))))⟩
 rintro e1 _ _ ⟨rfl, rfl, he19⟩
 refine shW_env _ he19 ?_; clear he19
 refine shW_cond rfl (fun c20 => ?_) (fun c20 => ?_)
 · have r21 := bt r11 c20; clear r11
   refine wsr (oa rfl rfl (oa rfl rfl (shO_nil ?_)))
   refine kW kn ?_
   refine shW_ret (andThen_ret (noGoto_ret ?_))
   refine q_res2 Tryz.results71 (res_tmp rfl) (res_tmp rfl) (sr) ?_
   obtain ⟨rfl, rfl⟩ := inj2 r21
   exact ⟨_, _, rfl, rfl, RowR.nil _ _ _⟩
 have r22 := bf r11 c20; clear r11
 refine shW_skip (shW_seq (wsr ?_))
 refine ov (v_loadA (cs := #[.int .i64 houses, .int .i64 notices, .slice hears_a hears.length hears_c, .slice readings_a readings.length readings_c, .slice cries_a cries.length cries_c]) Tryz.isAgg27 Tryz.sizeOf27 rfl (Has.own 3 rfl) (Nat.le_of_ble_eq_true rfl) rfl) rfl ?_
 refine ov (v_load Tryz.isAgg24 rfl (Has.own 0 rfl) rfl) rfl ?_
 obtain ⟨n2, h23, r24⟩ := b1_ok r22; clear r22
 refine o_callV rfl Tryz.call106 rfl rfl rfl (book_Book_listed_w h_hears h_readings h_cries h_houses2 h23) ?_
 refine oa rfl rfl (nsr (om rfl rfl ?_))
 refine ov (v_neq rfl rfl) rfl ?_
 refine shO_nil ?_
 refine shW_condP rfl (fun c25 => ?_) (fun c25 => ?_)
 · have r26 := ite_t r24 c25; clear r24
   refine wsr (om rfl rfl (oa rfl rfl (oa rfl rfl (shO_nil ?_))))
   refine kW kn ?_
   refine shW_ret (andThen_ret (noGoto_ret ?_))
   refine q_res2 Tryz.results71 (res_tmp rfl) (res_tmp rfl) (sr) ?_
   obtain ⟨rfl, rfl⟩ := inj2 r26
   exact ⟨_, _, rfl, rfl, RowR.nil _ _ _⟩
 have r27 := ite_f r24 c25; clear r24
 refine shW_skip (shW_seq (wsr ?_))
 refine ov (v_loadA (cs := #[.int .i64 houses, .int .i64 notices, .slice hears_a hears.length hears_c, .slice readings_a readings.length readings_c, .slice cries_a cries.length cries_c]) Tryz.isAgg27 Tryz.sizeOf27 rfl (Has.own 3 rfl) (Nat.le_of_ble_eq_true rfl) rfl) rfl ?_
 obtain ⟨d, l, n3, h28, r29⟩ := b3_ok r27; clear r27
 refine o_call0 rfl Tryz.call76 rfl rfl rfl (book_told_w h_hears h_readings h_cries h28) ?_; rintro _ F30 _ hF31 hn32 ⟨v34, a36, n40, c37, Lb38, rfl, rfl, hp35, hz39⟩
 replace h_hears := h_hears.mono (slE_ok (slE_ok (iE_ok _))) hF31
 replace h_readings := h_readings.mono (iE_ok _) hF31
 replace h_cries := h_cries.mono (prE_ok (iE_ok _) (prE_ok (iE_ok _) (iE_ok _))) hF31
 replace h_houses2 := h_houses2.mono (iE_ok _) hF31
 refine shO_L (lp (ln rfl)) ?_
 refine kO (kf (fS fO) (kf (fS fO) (kf (fS fO) (kf (fS fO) kr)))) ?_
 refine om rfl rfl (ox rfl rfl rfl (ox rfl rfl rfl (ox rfl rfl rfl (oa rfl rfl (oa rfl rfl (oa rfl rfl (nsr (om rfl rfl ?_))))))))
 refine ov (v_neq rfl rfl) rfl ?_
 refine shO_nil ?_
 refine shW_condP rfl (fun c42 => ?_) (fun c42 => ?_)
 · have r43 := ite_t r29 c42; clear r29
   refine wsr (om rfl rfl (oa rfl rfl (oa rfl rfl (shO_nil ?_))))
   refine kW kn ?_
   refine shW_ret (andThen_ret (noGoto_ret ?_))
   refine q_res2 Tryz.results71 (res_tmp rfl) (res_tmp rfl) (sr) ?_
   obtain ⟨rfl, rfl⟩ := inj2 r43
   exact ⟨_, _, rfl, rfl, RowR.nil _ _ _⟩
 have r44 := ite_f r29 c42; clear r29
 refine shW_skip (wsr ?_)
 refine o_alloc rfl Tryz.zeroValue24 ?_; intro b45 hb45
 refine nsr ?_
 refine o_alloc rfl Tryz.zeroValue4 ?_; intro b46 hb46
 refine o_store (i := 0) Tryz.sizeOf4 rfl rfl rfl rfl (Nat.le_of_ble_eq_true rfl) ?_
 refine shO_L (L' := (b46, .cells #[.bool false] 4 (0, 0)) :: ((b45, .cells #[.slice none 0 0] 24 (0, 0)) :: ((b4, .cells #[.slice houses2_a houses2.length houses2_c] 24 (0, 0)) :: ((b3, .cells #[.int .i64 hour] 3 (0, 0)) :: ((b2, .cells #[.int .i64 notice] 3 (0, 0)) :: ((b1, .cells #[.int .i64 houses, .int .i64 notices, .slice hears_a hears.length hears_c, .slice readings_a readings.length readings_c, .slice cries_a cries.length cries_c] 27 (0, 0)) :: (Lb38 ++ []))))))) rfl ?_
 refine shO_nil (shW_seq ?_)
 refine shW_label ?_
 obtain ⟨out, found, h50, r51⟩ := b2_ok r44; clear r44
 refine shW_join (fun e1 F1 L1 => ∃ (a47 : Option Addr) (c48 : Nat), FExt F30 F1 ∧ L1 = [(b45, .cells #[.slice a47 out.length c48] 24 (0, 0)), (b46, .cells #[.bool found] 4 (0, 0))] ∧ e1.sub [(15, .pointer (some ⟨b45, 0, none⟩)), (16, .pointer (some ⟨b46, 0, none⟩))] ∧ RowR 1 (iE .i64) F1 a47 c48 out) ?_ ?_
 · clear r51
   refine wsr ?_
   refine ov (v_fieldAddr fa_27_2 rfl) rfl ?_
   refine ov (v_load Tryz.isAgg23 rfl (Has.own 5 rfl) rfl) rfl ?_
   refine ov (v_lenS Tryz.underlying23 rfl) rfl ?_
   obtain ⟨g52, r53⟩ := gd_ok h50; clear h50
   refine ov (v_add rfl rfl g52) rfl ?_
   refine om rfl rfl (shO_nil ?_)
   refine shW_block ?_
   refine kW (kc (kc (kc (kc (kc (kc kn)))))) ?_
   refine shW_freeze 5 rfl hb1 ?_; intro F54 hF55 hz56
   refine shW_L (L' := [(b46, .cells #[.bool false] 4 (0, 0)), (b45, .cells #[.slice none 0 0] 24 (0, 0)), (b4, .cells #[.slice houses2_a houses2.length houses2_c] 24 (0, 0)), (b3, .cells #[.int .i64 hour] 3 (0, 0)), (b2, .cells #[.int .i64 notice] 3 (0, 0))]) rfl ?_
   replace h_hears := h_hears.mono (slE_ok (slE_ok (iE_ok _))) hF55
   replace h_readings := h_readings.mono (iE_ok _) hF55
   replace h_cries := h_cries.mono (prE_ok (iE_ok _) (prE_ok (iE_ok _) (iE_ok _))) hF55
   replace h_houses2 := h_houses2.mono (iE_ok _) hF55
   refine shW_freeze 4 rfl hb2 ?_; intro F57 hF58 hz59
   refine shW_L (L' := [(b46, .cells #[.bool false] 4 (0, 0)), (b45, .cells #[.slice none 0 0] 24 (0, 0)), (b4, .cells #[.slice houses2_a houses2.length houses2_c] 24 (0, 0)), (b3, .cells #[.int .i64 hour] 3 (0, 0))]) rfl ?_
   replace h_hears := h_hears.mono (slE_ok (slE_ok (iE_ok _))) hF58
   replace h_readings := h_readings.mono (iE_ok _) hF58
   replace h_cries := h_cries.mono (prE_ok (iE_ok _) (prE_ok (iE_ok _) (iE_ok _))) hF58
   replace h_houses2 := h_houses2.mono (iE_ok _) hF58
   replace hz56 := hF58 _ _ hz56
   refine shW_freeze 3 rfl hb3 ?_; intro F60 hF61 hz62
   refine shW_L (L' := [(b46, .cells #[.bool false] 4 (0, 0)), (b45, .cells #[.slice none 0 0] 24 (0, 0)), (b4, .cells #[.slice houses2_a houses2.length houses2_c] 24 (0, 0))]) rfl ?_
   replace h_hears := h_hears.mono (slE_ok (slE_ok (iE_ok _))) hF61
   replace h_readings := h_readings.mono (iE_ok _) hF61
   replace h_cries := h_cries.mono (prE_ok (iE_ok _) (prE_ok (iE_ok _) (iE_ok _))) hF61
   replace h_houses2 := h_houses2.mono (iE_ok _) hF61
   replace hz56 := hF61 _ _ hz56
   replace hz59 := hF61 _ _ hz59
   refine shW_freeze 2 rfl hb4 ?_; intro F63 hF64 hz65
   refine shW_L (L' := [(b46, .cells #[.bool false] 4 (0, 0)), (b45, .cells #[.slice none 0 0] 24 (0, 0))]) rfl ?_
   replace h_hears := h_hears.mono (slE_ok (slE_ok (iE_ok _))) hF64
   replace h_readings := h_readings.mono (iE_ok _) hF64
   replace h_cries := h_cries.mono (prE_ok (iE_ok _) (prE_ok (iE_ok _) (iE_ok _))) hF64
   replace h_houses2 := h_houses2.mono (iE_ok _) hF64
   replace hz56 := hF64 _ _ hz56
   replace hz59 := hF64 _ _ hz59
   replace hz62 := hF64 _ _ hz62
   obtain ⟨g69, r70⟩ := gd_ok r53; clear r53
   refine shW_lpF (fun fu1 e1 F1 L1 => ∃ (k2 : Int), Ctr 0 ((hears.length : Int) + 1) k2 fu1 ∧ ∃ (out2 : List Int) (found2 : Bool) (a66 : Option Addr) (c67 : Nat), book_Again_l1 houses notices hears readings cries notice hour houses2 fu1 k2 out2 found2 = some (out, found) ∧ FExt F63 F1 ∧ L1 = [(b46, .cells #[.bool found2] 4 (0, 0)), (b45, .cells #[.slice a66 out2.length c67] 24 (0, 0))] ∧ e1.sub [(4, .pointer (some ⟨b1, 0, none⟩)), (5, .pointer (some ⟨b2, 0, none⟩)), (6, .pointer (some ⟨b3, 0, none⟩)), (7, .pointer (some ⟨b4, 0, none⟩)), (15, .pointer (some ⟨b45, 0, none⟩)), (16, .pointer (some ⟨b46, 0, none⟩)), (52, .int .i64 ((hears.length : Int) + 1)), (53, .int .i64 k2)] ∧ RowR 1 (iE .i64) F1 a66 c67 out2) _ (m0 kr ⟨_, Ctr.start _ _, [], false, none, 0, r70, FExt.refl _, rfl, (sc rfl (sc rfl (sc rfl (sc rfl (sc rfl (sc rfl (sc rfl (sc rfl (sn _))))))))), RowR.nil _ _ _⟩) ?_
   rintro fu1 e1 F75 _ ⟨k2, hk71, out2, found2, a66, c67, r73, hF76, rfl, he74, h68⟩
   refine shW_env _ he74 ?_; clear he74
   replace h_hears := h_hears.mono (slE_ok (slE_ok (iE_ok _))) hF76
   replace h_readings := h_readings.mono (iE_ok _) hF76
   replace h_cries := h_cries.mono (prE_ok (iE_ok _) (prE_ok (iE_ok _) (iE_ok _))) hF76
   replace h_houses2 := h_houses2.mono (iE_ok _) hF76
   replace hz56 := hF76 _ _ hz56
   replace hz59 := hF76 _ _ hz59
   replace hz62 := hF76 _ _ hz62
   replace hz65 := hF76 _ _ hz65
   refine wsr ?_
   refine ov (v_lssK rfl rfl) rfl ?_
   refine shO_nil (shW_seq ?_)
   refine shW_condP rfl (fun c78 => ?_) (fun c78 => ?_)
   · obtain ⟨fu1, rfl, hk79⟩ := Ctr.succ hk71 c78
     rw [book_Again_l1] at r73
     refine shW_skip (shW_seq ?_)
     refine shW_block ?_
     refine wsr (om rfl rfl (oa rfl rfl (nsr ?_)))
     refine o_alloc rfl Tryz.zeroValue169 ?_; intro b80 hb80
     refine nsr ?_
     refine ov (v_makeFunc rfl rfl) rfl ?_
     refine o_store (i := 0) Tryz.sizeOf169 rfl rfl rfl rfl (Nat.le_of_ble_eq_true rfl) ?_
     refine shO_L (L' := [(b80, .cells (#[.func (.func 107) #[] #[.pointer (some ⟨b1, 0, none⟩), .pointer (some ⟨b3, 0, none⟩), .pointer (some ⟨b2, 0, none⟩), .pointer (some ⟨b4, 0, none⟩), .pointer (some ⟨b45, 0, none⟩), .pointer (some ⟨b46, 0, none⟩), .pointer (some ⟨b80, 0, none⟩)]]) 169 (0, 0)), (b46, .cells #[.bool found2] 4 (0, 0)), (b45, .cells #[.slice a66 out2.length c67] 24 (0, 0))]) rfl ?_
     refine nsr ?_
     refine ov (v_load Tryz.isAgg169 rfl (Has.own 0 rfl) rfl) rfl ?_
     refine om rfl rfl ?_
     refine shO_freeze 0 rfl hb80 ?_; intro F81 hF82 hz83
     refine shO_L (L' := [(b46, .cells #[.bool found2] 4 (0, 0)), (b45, .cells #[.slice a66 out2.length c67] 24 (0, 0))]) rfl ?_
     replace h_hears := h_hears.mono (slE_ok (slE_ok (iE_ok _))) hF82
     replace h_readings := h_readings.mono (iE_ok _) hF82
     replace h_cries := h_cries.mono (prE_ok (iE_ok _) (prE_ok (iE_ok _) (iE_ok _))) hF82
     replace h_houses2 := h_houses2.mono (iE_ok _) hF82
     replace h68 := h68.mono (iE_ok _) hF82
     replace hz56 := hF82 _ _ hz56
     replace hz59 := hF82 _ _ hz59
     replace hz62 := hF82 _ _ hz62
     replace hz65 := hF82 _ _ hz65
     obtain ⟨ok3, out3, found3, h84, r85⟩ := b3_ok r73; clear r73
     refine o_callG (Lb := [(b45, .cells #[.slice a66 out2.length c67] 24 (0, 0)), (b46, .cells #[.bool found2] 4 (0, 0))]) (Lr := []) rfl Tryz.call107 rfl rfl rfl (((fC fO).trans (pC pR))) ((book_Again_1_w FU) (RowR.nil _ _ _) hz56 h_hears h_readings h_cries hz62 hz59 hz65 h_houses2 h68 hz83 h84) ?_; rintro _ F86 _ hF87 hd89 hn88 ⟨a90, c91, rfl, rfl, h92⟩
     refine shO_L (lb (lb (ln rfl))) ?_
     refine shO_nil ?_
     refine shW_cond rfl (fun c93 => ?_) (fun c93 => ?_)
     · have r94 := bt r85 c93; clear r85
       refine shW_exit ?_
       refine inBlock_other rfl ?_
       refine andThen_exit (andThen_exit ?_)
       refine inBlock_exit ?_
       obtain ⟨rfl, rfl⟩ := inj2 r94
       exact mi kr ⟨a90, c91, ((((((hF55.trans hF58).trans hF61).trans hF64).trans hF76).trans hF82).trans hF87), rfl, (sc rfl (sc rfl (sn _))), h92⟩
     have r95 := bf r85 c93; clear r85
     refine shW_skip (inBlock_n (id := 1) (shW_region ?_))
     refine ov (v_add rfl rfl (Ctr.r64 hk71 c78 g69)) rfl ?_
     refine om rfl rfl (shO_nil ?_)
     refine lf ?_
     exact mf (kf (fC fO) kr) ⟨_, hk79, out3, found3, a90, c91, r95, ((hF76.trans hF82).trans hF87), rfl, (sc rfl (sc rfl (sc rfl (sc rfl (sc rfl (sc rfl (sc rfl (sc rfl (sn _))))))))), h92⟩
   obtain rfl := Ctr.zero hk71 c78
   rw [book_Again_l1] at r73
   refine shW_exit (andThen_exit (andThen_exit ?_))
   refine inBlock_exit ?_
   obtain ⟨rfl, rfl⟩ := inj2 r73
   exact mi (kf (fC fO) kr) ⟨a66, c67, ((((hF55.trans hF58).trans hF61).trans hF64).trans hF76), rfl, (sc rfl (sc rfl (sn _))), h68⟩
 rintro e1 F97 _ ⟨a47, c48, hF98, rfl, he96, h49⟩
 refine shW_env _ he96 ?_; clear he96
 refine shW_seq (wsr ?_)
 refine ov (v_load Tryz.isAgg4 rfl (Has.own 1 rfl) rfl) rfl ?_
 refine ov (v_notB rfl) rfl ?_
 refine shO_nil ?_
 refine shW_cond rfl (fun c99 => ?_) (fun c99 => ?_)
 · have r100 := bt r51 c99; clear r51
   refine wsr (oa rfl rfl (oa rfl rfl (shO_nil ?_)))
   refine kW kn ?_
   refine shW_ret (andThen_ret (noGoto_ret ?_))
   refine q_res2 Tryz.results71 (res_tmp rfl) (res_tmp rfl) (sr) ?_
   obtain ⟨rfl, rfl⟩ := inj2 r100
   exact ⟨_, _, rfl, rfl, RowR.nil _ _ _⟩
 have r101 := bf r51 c99; clear r51
 refine shW_skip (wsr ?_)
 refine ov (v_load Tryz.isAgg24 rfl (Has.own 0 rfl) rfl) rfl ?_
 refine oa rfl rfl (oa rfl rfl (shO_nil ?_))
 refine kW kn ?_
 refine shW_ret (noGoto_ret ?_)
 refine q_res2 Tryz.results71 (res_tmp rfl) (res_tmp rfl) (sr) ?_
 obtain ⟨rfl, rfl⟩ := inj2 r101
 exact ⟨_, _, rfl, rfl, h49⟩
set_option maxHeartbeats 1000000 in
theorem oyezlaw07_awake_w {F : FS} {r : Bool} (hr : oyezlaw07_awake = some r) :
    SpecV Tryz.prog 24 #[] F (.bool r) := by
 refine spec_of_shW (args := []) Tryz.func24 rfl Tryz.ntmps24 (Nat.le_of_ble_eq_true rfl) ?_
 intro K _ _; rw [oyezlaw07_awake] at hr
 refine wsr (oa rfl rfl (nsr ?_))
 obtain ⟨n, n2, l, l2, l3, h1, r2⟩ := b5_ok hr; clear hr
 refine o_call0 rfl Tryz.call65 rfl rfl rfl (oyezlaw07_Bell_w h1) ?_; rintro _ F3 _ hF4 hn5 ⟨a7, n11, c8, Lb9, a13, n17, c14, Lb15, a19, n23, c20, Lb21, rfl, rfl, hz10, hz16, hz22⟩
 replace hz10 := hz10.new fun p hp => hn5 p (by simp [hp])
 replace hz16 := hz16.new fun p hp => hn5 p (by simp [hp])
 replace hz22 := hz22.new fun p hp => hn5 p (by simp [hp])
 refine shO_L (lp (lp (lp (ln rfl)))) ?_
 obtain ⟨n3, n4, h25, r26⟩ := b2_ok r2; clear r2
 refine o_callT (Lt := Lb9 ++ (Lb15 ++ (Lb21 ++ []))) (Lr := []) rfl Tryz.call64 rfl rfl rfl (pT pR (lp (lp (lp (ln rfl))))) (fun F2 h2 h3 => by rw [(SlR.caps hz10).1]; rw [(SlR.caps hz16).1]; rw [(SlR.caps hz22).1]; exact book_Count_w (hz10.row (slE_ok (slE_ok (iE_ok _))) h2 (fun p hp => h3 p (List.mem_append_left _ hp))) (hz16.row (iE_ok _) h2 (fun p hp => h3 p (List.mem_append_right _ (List.mem_append_left _ hp)))) (hz22.row (prE_ok (iE_ok _) (prE_ok (iE_ok _) (iE_ok _))) h2 (fun p hp => h3 p (List.mem_append_right _ (List.mem_append_right _ (List.mem_append_left _ hp))))) h25) ?_
 refine om rfl rfl (ox rfl rfl rfl (ox rfl rfl rfl (oa rfl rfl (oa rfl rfl (nsr ?_)))))
 obtain ⟨n5, n6, l4, l5, l6, h27, r28⟩ := b5_ok r26; clear r26
 refine o_call0 rfl Tryz.call65 rfl rfl rfl (oyezlaw07_Bell_w h27) ?_; rintro _ F29 _ hF30 hn31 ⟨a33, n37, c34, Lb35, a39, n43, c40, Lb41, a45, n49, c46, Lb47, rfl, rfl, hz36, hz42, hz48⟩
 replace hz36 := hz36.new fun p hp => hn31 p (by simp [hp])
 replace hz42 := hz42.new fun p hp => hn31 p (by simp [hp])
 replace hz48 := hz48.new fun p hp => hn31 p (by simp [hp])
 refine shO_L (lp (lp (lp (ln rfl)))) ?_
 obtain ⟨l7, n7, h51, r52⟩ := b2_ok r28; clear r28
 refine o_callTO (Lb := []) (Lt := Lb35 ++ (Lb41 ++ (Lb47 ++ []))) (Lr := Lb9 ++ (Lb15 ++ (Lb21 ++ []))) rfl Tryz.call66 rfl rfl rfl (pT pR (ln (lp (lp (lp (ln rfl)))))) (fun F2 h2 h3 => by rw [(SlR.caps hz36).1]; rw [(SlR.caps hz42).1]; rw [(SlR.caps hz48).1]; exact book_First_w (hz36.row (slE_ok (slE_ok (iE_ok _))) h2 (fun p hp => h3 p (List.mem_append_left _ hp))) (hz42.row (iE_ok _) h2 (fun p hp => h3 p (List.mem_append_right _ (List.mem_append_left _ hp)))) (hz48.row (prE_ok (iE_ok _) (prE_ok (iE_ok _) (iE_ok _))) h2 (fun p hp => h3 p (List.mem_append_right _ (List.mem_append_right _ (List.mem_append_left _ hp))))) h51) (fun _ _ _ _ hq => by obtain ⟨a57, n61, c58, Lb59, rfl, rfl, hz60⟩ := hq; exact ⟨_, _, _, _, rfl, rfl, hz60.flat (fun _ _ h => h)⟩) ?_; rintro _ F53 _ hF54 hd56 hn55 ⟨a57, n61, c58, Lb59, rfl, rfl, hz60⟩
 have hn63 := newp (Lb' := []) (by rfl) hd56 hn55
 replace hz60 := hz60.new fun p hp => hn63 p (by simp [hp])
 refine shO_L (lp (ln (lp (lp (lp (ln rfl)))))) ?_
 refine om rfl rfl (ox rfl rfl rfl (ox rfl rfl rfl (oa rfl rfl (oa rfl rfl (nsr ?_)))))
 obtain ⟨n8, n9, l8, l9, l10, h64, r65⟩ := b5_ok r52; clear r52
 refine o_call0 rfl Tryz.call65 rfl rfl rfl (oyezlaw07_Bell_w h64) ?_; rintro _ F66 _ hF67 hn68 ⟨a70, n74, c71, Lb72, a76, n80, c77, Lb78, a82, n86, c83, Lb84, rfl, rfl, hz73, hz79, hz85⟩
 replace hz60 := hz60.mono (iE_ok _) hF67
 replace hz73 := hz73.new fun p hp => hn68 p (by simp [hp])
 replace hz79 := hz79.new fun p hp => hn68 p (by simp [hp])
 replace hz85 := hz85.new fun p hp => hn68 p (by simp [hp])
 refine shO_L (lp (lp (lp (ln rfl)))) ?_
 obtain rfl := (SlR.caps hz73).1
 refine shO_freezeR (Nat.le_refl _) (slE_ok (slE_ok (iE_ok _))) fP hz73 ?_; intro F88 hF89 h90
 replace hz60 := hz60.mono (iE_ok _) hF89
 replace hz79 := hz79.mono (iE_ok _) hF89
 replace hz85 := hz85.mono (prE_ok (iE_ok _) (prE_ok (iE_ok _) (iE_ok _))) hF89
 obtain rfl := (SlR.caps hz79).1
 refine shO_freezeR (Nat.le_refl _) (iE_ok _) fP hz79 ?_; intro F91 hF92 h93
 replace h90 := h90.mono (slE_ok (slE_ok (iE_ok _))) hF92
 replace hz60 := hz60.mono (iE_ok _) hF92
 replace hz85 := hz85.mono (prE_ok (iE_ok _) (prE_ok (iE_ok _) (iE_ok _))) hF92
 obtain rfl := (SlR.caps hz85).1
 refine shO_freezeR (Nat.le_refl _) (prE_ok (iE_ok _) (prE_ok (iE_ok _) (iE_ok _))) fP hz85 ?_; intro F94 hF95 h96
 replace h90 := h90.mono (slE_ok (slE_ok (iE_ok _))) hF95
 replace h93 := h93.mono (iE_ok _) hF95
 replace hz60 := hz60.mono (iE_ok _) hF95
 obtain ⟨l11, n10, h97, r98⟩ := b2_ok r65; clear r65
 refine o_call0 rfl Tryz.call29 rfl rfl rfl (book_Verdicts_w h90 h93 h96 h97) ?_; rintro _ F99 _ hF100 hn101 ⟨a103, c104, rfl, rfl, h105⟩
 replace hz60 := hz60.mono (iE_ok _) hF100
 refine shO_L (ln rfl) ?_
 refine om rfl rfl (ox rfl rfl rfl (ox rfl rfl rfl (oa rfl rfl (oa rfl rfl (nsr ?_)))))
 obtain ⟨n11, n12, l12, l13, l14, h106, r107⟩ := b5_ok r98; clear r98
 refine o_call0 rfl Tryz.call65 rfl rfl rfl (oyezlaw07_Bell_w h106) ?_; rintro _ F108 _ hF109 hn110 ⟨a112, n116, c113, Lb114, a118, n122, c119, Lb120, a124, n128, c125, Lb126, rfl, rfl, hz115, hz121, hz127⟩
 replace h105 := h105.mono (slE_ok (iE_ok _)) hF109
 replace hz60 := hz60.mono (iE_ok _) hF109
 replace hz115 := hz115.new fun p hp => hn110 p (by simp [hp])
 replace hz121 := hz121.new fun p hp => hn110 p (by simp [hp])
 replace hz127 := hz127.new fun p hp => hn110 p (by simp [hp])
 refine shO_L (lp (lp (lp (ln rfl)))) ?_
 obtain rfl := (SlR.caps hz115).1
 refine shO_freezeR (Nat.le_refl _) (slE_ok (slE_ok (iE_ok _))) fP hz115 ?_; intro F130 hF131 h132
 replace h105 := h105.mono (slE_ok (iE_ok _)) hF131
 replace hz60 := hz60.mono (iE_ok _) hF131
 replace hz121 := hz121.mono (iE_ok _) hF131
 replace hz127 := hz127.mono (prE_ok (iE_ok _) (prE_ok (iE_ok _) (iE_ok _))) hF131
 obtain rfl := (SlR.caps hz121).1
 refine shO_freezeR (Nat.le_refl _) (iE_ok _) fP hz121 ?_; intro F133 hF134 h135
 replace h105 := h105.mono (slE_ok (iE_ok _)) hF134
 replace h132 := h132.mono (slE_ok (slE_ok (iE_ok _))) hF134
 replace hz60 := hz60.mono (iE_ok _) hF134
 replace hz127 := hz127.mono (prE_ok (iE_ok _) (prE_ok (iE_ok _) (iE_ok _))) hF134
 obtain rfl := (SlR.caps hz127).1
 refine shO_freezeR (Nat.le_refl _) (prE_ok (iE_ok _) (prE_ok (iE_ok _) (iE_ok _))) fP hz127 ?_; intro F136 hF137 h138
 replace h105 := h105.mono (slE_ok (iE_ok _)) hF137
 replace h132 := h132.mono (slE_ok (slE_ok (iE_ok _))) hF137
 replace h135 := h135.mono (iE_ok _) hF137
 replace hz60 := hz60.mono (iE_ok _) hF137
 obtain ⟨l15, n13, h139, r140⟩ := b2_ok r107; clear r107
 refine o_call0 rfl Tryz.call67 rfl rfl rfl (book_Winds_w h132 h135 h138 h139) ?_; rintro _ F141 _ hF142 hn143 ⟨a145, n149, c146, Lb147, rfl, rfl, hz148⟩
 replace h105 := h105.mono (slE_ok (iE_ok _)) hF142
 replace hz60 := hz60.mono (iE_ok _) hF142
 replace hz148 := hz148.new fun p hp => hn143 p (by simp [hp])
 refine shO_L (lp (ln rfl)) ?_
 refine om rfl rfl (ox rfl rfl rfl (ox rfl rfl rfl (oa rfl rfl (oa rfl rfl (shO_nil (shW_seq ?_))))))
 obtain ⟨k, h151, r152⟩ := b1_ok r140; clear r140
 refine shW_join (fun e1 F1 L1 => FExt F141 F1 ∧ L1 = [] ∧ e1.sub [(73, .bool k)]) ?_ ?_
 · clear r152
   refine shW_region (om rfl rfl ?_)
   refine ov (v_neq rfl rfl) rfl ?_
   refine om rfl rfl ?_
   by_cases c153 : n4 ≠ 0
   · have r154 := ite_t h151 c153; clear h151
     refine shO_off (b' := true) 35 rfl (Env.isT rfl c153) rfl rfl (shO_off (b' := true) 35 rfl (Env.isT rfl c153) rfl rfl ?_)
     refine ov (v_pick_t (evD_true rfl c153) rfl) rfl ?_
     refine om rfl rfl (shO_off (b' := true) 39 rfl rfl rfl rfl (shO_off (b' := true) 39 rfl rfl rfl rfl ?_))
     refine ov (v_pick_t rfl rfl) rfl ?_
     refine om rfl rfl (shO_off (b' := true) 43 rfl rfl rfl rfl (shO_off (b' := true) 43 rfl rfl rfl rfl ?_))
     refine ov (v_pick_t rfl rfl) rfl ?_
     refine om rfl rfl (shO_off (b' := true) 47 rfl rfl rfl rfl (shO_off (b' := true) 47 rfl rfl rfl rfl ?_))
     refine ov (v_pick_t rfl rfl) rfl ?_
     refine om rfl rfl (shO_off (b' := true) 51 rfl rfl rfl rfl (shO_off (b' := true) 51 rfl rfl rfl rfl (shO_off (b' := true) 51 rfl rfl rfl rfl (shO_off (b' := true) 51 rfl rfl rfl rfl ?_))))
     refine ov (v_pick_t rfl rfl) rfl ?_
     refine om rfl rfl (shO_off (b' := true) 57 rfl rfl rfl rfl (shO_off (b' := true) 57 rfl rfl rfl rfl (shO_off (b' := true) 57 rfl rfl rfl rfl (shO_off (b' := true) 57 rfl rfl rfl rfl (shO_off (b' := true) 57 rfl rfl rfl rfl (shO_off (b' := true) 57 rfl rfl rfl rfl ?_))))))
     refine ov (v_pick_t rfl rfl) rfl ?_
     refine om rfl rfl (shO_off (b' := true) 65 rfl rfl rfl rfl (shO_off (b' := true) 65 rfl rfl rfl rfl (shO_off (b' := true) 65 rfl rfl rfl rfl (shO_off (b' := true) 65 rfl rfl rfl rfl (shO_off (b' := true) 65 rfl rfl rfl rfl (shO_off (b' := true) 65 rfl rfl rfl rfl (shO_off (b' := true) 65 rfl rfl rfl rfl ?_)))))))
     refine ov (v_pick_t rfl rfl) rfl ?_
     refine shO_nil ?_
     obtain rfl := inj1 r154
     exact mi kn ⟨FExt.refl _, rfl, (sc rfl (sn _))⟩
   have r155 := ite_f h151 c153; clear h151
   refine shO_on (b := false) 35 rfl (Env.isF rfl c153) (om rfl rfl (shO_on (b := false) 35 rfl (Env.isF rfl c153) ?_))
   refine ov (v_neq rfl rfl) rfl ?_
   refine ov (v_pick_f (evD_false rfl c153) rfl) rfl ?_
   refine om rfl rfl ?_
   by_cases c156 : n7 ≠ 0
   · have r157 := ite_t r155 c156; clear r155
     refine shO_off (b' := true) 39 rfl (Env.isT rfl c156) rfl rfl (shO_off (b' := true) 39 rfl (Env.isT rfl c156) rfl rfl ?_)
     refine ov (v_pick_t (evD_true rfl c156) rfl) rfl ?_
     refine om rfl rfl (shO_off (b' := true) 43 rfl rfl rfl rfl (shO_off (b' := true) 43 rfl rfl rfl rfl ?_))
     refine ov (v_pick_t rfl rfl) rfl ?_
     refine om rfl rfl (shO_off (b' := true) 47 rfl rfl rfl rfl (shO_off (b' := true) 47 rfl rfl rfl rfl ?_))
     refine ov (v_pick_t rfl rfl) rfl ?_
     refine om rfl rfl (shO_off (b' := true) 51 rfl rfl rfl rfl (shO_off (b' := true) 51 rfl rfl rfl rfl (shO_off (b' := true) 51 rfl rfl rfl rfl (shO_off (b' := true) 51 rfl rfl rfl rfl ?_))))
     refine ov (v_pick_t rfl rfl) rfl ?_
     refine om rfl rfl (shO_off (b' := true) 57 rfl rfl rfl rfl (shO_off (b' := true) 57 rfl rfl rfl rfl (shO_off (b' := true) 57 rfl rfl rfl rfl (shO_off (b' := true) 57 rfl rfl rfl rfl (shO_off (b' := true) 57 rfl rfl rfl rfl (shO_off (b' := true) 57 rfl rfl rfl rfl ?_))))))
     refine ov (v_pick_t rfl rfl) rfl ?_
     refine om rfl rfl (shO_off (b' := true) 65 rfl rfl rfl rfl (shO_off (b' := true) 65 rfl rfl rfl rfl (shO_off (b' := true) 65 rfl rfl rfl rfl (shO_off (b' := true) 65 rfl rfl rfl rfl (shO_off (b' := true) 65 rfl rfl rfl rfl (shO_off (b' := true) 65 rfl rfl rfl rfl (shO_off (b' := true) 65 rfl rfl rfl rfl ?_)))))))
     refine ov (v_pick_t rfl rfl) rfl ?_
     refine shO_nil ?_
     obtain rfl := inj1 r157
     exact mi kn ⟨FExt.refl _, rfl, (sc rfl (sn _))⟩
   have r158 := ite_f r155 c156; clear r155
   refine shO_on (b := false) 39 rfl (Env.isF rfl c156) (om rfl rfl (shO_on (b := false) 39 rfl (Env.isF rfl c156) ?_))
   refine ov (v_neq rfl rfl) rfl ?_
   refine ov (v_pick_f (evD_false rfl c156) rfl) rfl ?_
   refine om rfl rfl ?_
   by_cases c159 : n10 ≠ 0
   · have r160 := ite_t r158 c159; clear r158
     refine shO_off (b' := true) 43 rfl (Env.isT rfl c159) rfl rfl (shO_off (b' := true) 43 rfl (Env.isT rfl c159) rfl rfl ?_)
     refine ov (v_pick_t (evD_true rfl c159) rfl) rfl ?_
     refine om rfl rfl (shO_off (b' := true) 47 rfl rfl rfl rfl (shO_off (b' := true) 47 rfl rfl rfl rfl ?_))
     refine ov (v_pick_t rfl rfl) rfl ?_
     refine om rfl rfl (shO_off (b' := true) 51 rfl rfl rfl rfl (shO_off (b' := true) 51 rfl rfl rfl rfl (shO_off (b' := true) 51 rfl rfl rfl rfl (shO_off (b' := true) 51 rfl rfl rfl rfl ?_))))
     refine ov (v_pick_t rfl rfl) rfl ?_
     refine om rfl rfl (shO_off (b' := true) 57 rfl rfl rfl rfl (shO_off (b' := true) 57 rfl rfl rfl rfl (shO_off (b' := true) 57 rfl rfl rfl rfl (shO_off (b' := true) 57 rfl rfl rfl rfl (shO_off (b' := true) 57 rfl rfl rfl rfl (shO_off (b' := true) 57 rfl rfl rfl rfl ?_))))))
     refine ov (v_pick_t rfl rfl) rfl ?_
     refine om rfl rfl (shO_off (b' := true) 65 rfl rfl rfl rfl (shO_off (b' := true) 65 rfl rfl rfl rfl (shO_off (b' := true) 65 rfl rfl rfl rfl (shO_off (b' := true) 65 rfl rfl rfl rfl (shO_off (b' := true) 65 rfl rfl rfl rfl (shO_off (b' := true) 65 rfl rfl rfl rfl (shO_off (b' := true) 65 rfl rfl rfl rfl ?_)))))))
     refine ov (v_pick_t rfl rfl) rfl ?_
     refine shO_nil ?_
     obtain rfl := inj1 r160
     exact mi kn ⟨FExt.refl _, rfl, (sc rfl (sn _))⟩
   have r161 := ite_f r158 c159; clear r158
   refine shO_on (b := false) 43 rfl (Env.isF rfl c159) (om rfl rfl (shO_on (b := false) 43 rfl (Env.isF rfl c159) ?_))
   refine ov (v_neq rfl rfl) rfl ?_
   refine ov (v_pick_f (evD_false rfl c159) rfl) rfl ?_
   refine om rfl rfl ?_
   by_cases c162 : n13 ≠ 0
   · have r163 := ite_t r161 c162; clear r161
     refine shO_off (b' := true) 47 rfl (Env.isT rfl c162) rfl rfl (shO_off (b' := true) 47 rfl (Env.isT rfl c162) rfl rfl ?_)
     refine ov (v_pick_t (evD_true rfl c162) rfl) rfl ?_
     refine om rfl rfl (shO_off (b' := true) 51 rfl rfl rfl rfl (shO_off (b' := true) 51 rfl rfl rfl rfl (shO_off (b' := true) 51 rfl rfl rfl rfl (shO_off (b' := true) 51 rfl rfl rfl rfl ?_))))
     refine ov (v_pick_t rfl rfl) rfl ?_
     refine om rfl rfl (shO_off (b' := true) 57 rfl rfl rfl rfl (shO_off (b' := true) 57 rfl rfl rfl rfl (shO_off (b' := true) 57 rfl rfl rfl rfl (shO_off (b' := true) 57 rfl rfl rfl rfl (shO_off (b' := true) 57 rfl rfl rfl rfl (shO_off (b' := true) 57 rfl rfl rfl rfl ?_))))))
     refine ov (v_pick_t rfl rfl) rfl ?_
     refine om rfl rfl (shO_off (b' := true) 65 rfl rfl rfl rfl (shO_off (b' := true) 65 rfl rfl rfl rfl (shO_off (b' := true) 65 rfl rfl rfl rfl (shO_off (b' := true) 65 rfl rfl rfl rfl (shO_off (b' := true) 65 rfl rfl rfl rfl (shO_off (b' := true) 65 rfl rfl rfl rfl (shO_off (b' := true) 65 rfl rfl rfl rfl ?_)))))))
     refine ov (v_pick_t rfl rfl) rfl ?_
     refine shO_nil ?_
     obtain rfl := inj1 r163
     exact mi kn ⟨FExt.refl _, rfl, (sc rfl (sn _))⟩
   have r164 := ite_f r161 c162; clear r161
   refine shO_on (b := false) 47 rfl (Env.isF rfl c162) (om rfl rfl (shO_on (b := false) 47 rfl (Env.isF rfl c162) ?_))
   refine ov (v_neq rfl rfl) rfl ?_
   refine ov (v_pick_f (evD_false rfl c162) rfl) rfl ?_
   refine om rfl rfl ?_
   by_cases c165 : n3 ≠ 4
   · have r166 := ite_t r164 c165; clear r164
     refine shO_off (b' := true) 51 rfl (Env.isT rfl c165) rfl rfl (shO_off (b' := true) 51 rfl (Env.isT rfl c165) rfl rfl (shO_off (b' := true) 51 rfl (Env.isT rfl c165) rfl rfl (shO_off (b' := true) 51 rfl (Env.isT rfl c165) rfl rfl ?_)))
     refine ov (v_pick_t (evD_true rfl c165) rfl) rfl ?_
     refine om rfl rfl (shO_off (b' := true) 57 rfl rfl rfl rfl (shO_off (b' := true) 57 rfl rfl rfl rfl (shO_off (b' := true) 57 rfl rfl rfl rfl (shO_off (b' := true) 57 rfl rfl rfl rfl (shO_off (b' := true) 57 rfl rfl rfl rfl (shO_off (b' := true) 57 rfl rfl rfl rfl ?_))))))
     refine ov (v_pick_t rfl rfl) rfl ?_
     refine om rfl rfl (shO_off (b' := true) 65 rfl rfl rfl rfl (shO_off (b' := true) 65 rfl rfl rfl rfl (shO_off (b' := true) 65 rfl rfl rfl rfl (shO_off (b' := true) 65 rfl rfl rfl rfl (shO_off (b' := true) 65 rfl rfl rfl rfl (shO_off (b' := true) 65 rfl rfl rfl rfl (shO_off (b' := true) 65 rfl rfl rfl rfl ?_)))))))
     refine ov (v_pick_t rfl rfl) rfl ?_
     refine shO_nil ?_
     obtain rfl := inj1 r166
     exact mi kn ⟨FExt.refl _, rfl, (sc rfl (sn _))⟩
   have r167 := ite_f r164 c165; clear r164
   refine shO_on (b := false) 51 rfl (Env.isF rfl c165) (om rfl rfl (shO_on (b := false) 51 rfl (Env.isF rfl c165) ?_))
   refine o_buildSlice (cs := #[.int .i64 1, .int .i64 2, .int .i64 3]) rfl rfl (buildSlice_all slt_24 [.int .i64 1, .int .i64 2, .int .i64 3] rfl (by decide) (by simp [Value.cells]) (by decide)) ?_; intro b168 hb168
   refine shO_on (b := false) 51 rfl (Env.isF rfl c165) ?_
   refine shO_freeze 0 rfl hb168 ?_; intro F169 hF170 hz171
   refine shO_L (L' := Lb147 ++ (Lb59 ++ (Lb35 ++ (Lb41 ++ (Lb47 ++ (Lb9 ++ (Lb15 ++ (Lb21 ++ [])))))))) rfl ?_
   replace h105 := h105.mono (slE_ok (iE_ok _)) hF170
   replace hz60 := hz60.mono (iE_ok _) hF170
   replace hz148 := hz148.mono (slE_ok (iE_ok _)) hF170
   have h172 : RowR 1 (iE .i64) F169 (some ⟨b168, 0, none⟩) 3 [1, 2, 3] := RowR.of_block (iE_ok _) (vss := [[.int .i64 1], [.int .i64 2], [.int .i64 3]]) (xs := [1, 2, 3]) hz171 (.cons rfl (.cons rfl (.cons rfl .nil))) rfl (by simp [maxLen])
   obtain ⟨ok, h173, r174⟩ := b1_ok r167; clear r167
   refine o_callT (Lt := Lb59 ++ []) (Lr := Lb147 ++ (Lb35 ++ (Lb41 ++ (Lb47 ++ (Lb9 ++ (Lb15 ++ (Lb21 ++ []))))))) rfl Tryz.call68 rfl rfl rfl (pT ((fS fP).trans (pA pR)) (lp (ln rfl))) (fun F2 h2 h3 => by rw [(SlR.caps hz60).1]; exact oyezkit_Like_int_w (hz60.row (iE_ok _) h2 (fun p hp => h3 p (List.mem_append_left _ hp))) (h172.mono (iE_ok _) h2) h173) ?_
   refine shO_on (b := false) 51 rfl (Env.isF rfl c165) ?_
   refine ov (v_notB rfl) rfl ?_
   refine ov (v_pick_f (evD_false rfl c165) rfl) rfl ?_
   refine om rfl rfl ?_
   rcases bool_two (!ok) with c175 | c175
   · have r176 := bt r174 c175; clear r174
     refine shO_off (b' := true) 57 rfl (EnvB rfl c175) rfl rfl (shO_off (b' := true) 57 rfl (EnvB rfl c175) rfl rfl (shO_off (b' := true) 57 rfl (EnvB rfl c175) rfl rfl (shO_off (b' := true) 57 rfl (EnvB rfl c175) rfl rfl (shO_off (b' := true) 57 rfl (EnvB rfl c175) rfl rfl (shO_off (b' := true) 57 rfl (EnvB rfl c175) rfl rfl ?_)))))
     refine ov (v_pick_t (evB rfl c175) rfl) rfl ?_
     refine om rfl rfl (shO_off (b' := true) 65 rfl rfl rfl rfl (shO_off (b' := true) 65 rfl rfl rfl rfl (shO_off (b' := true) 65 rfl rfl rfl rfl (shO_off (b' := true) 65 rfl rfl rfl rfl (shO_off (b' := true) 65 rfl rfl rfl rfl (shO_off (b' := true) 65 rfl rfl rfl rfl (shO_off (b' := true) 65 rfl rfl rfl rfl ?_)))))))
     refine ov (v_pick_t rfl rfl) rfl ?_
     refine shO_nil ?_
     obtain rfl := inj1 r176
     exact mi kn ⟨hF170, rfl, (sc rfl (sn _))⟩
   have r177 := bf r174 c175; clear r174
   refine shO_on (b := false) 57 rfl (EnvB rfl c175) (om rfl rfl (shO_on (b := false) 57 rfl (EnvB rfl c175) ?_))
   refine o_buildSlice (cs := #[.int .i64 0]) rfl rfl (buildSlice_all slt_71 [.int .i64 0] rfl (by decide) (by simp [Value.cells]) (by decide)) ?_; intro b178 hb178
   refine shO_on (b := false) 57 rfl (EnvB rfl c175) ?_
   refine o_buildSlice (cs := #[.int .i64 1]) rfl rfl (buildSlice_all slt_71 [.int .i64 1] rfl (by decide) (by simp [Value.cells]) (by decide)) ?_; intro b179 hb179
   refine shO_on (b := false) 57 rfl (EnvB rfl c175) ?_
   refine o_buildSlice (cs := #[.slice (some ⟨b178, 0, none⟩) 1 1, .slice (some ⟨b179, 0, none⟩) 1 1]) rfl rfl (buildSlice_all slt_68 [.slice (some ⟨b178, 0, none⟩) 1 1, .slice (some ⟨b179, 0, none⟩) 1 1] rfl (by decide) (by simp [Value.cells]) (by decide)) ?_; intro b180 hb180
   refine shO_on (b := false) 57 rfl (EnvB rfl c175) ?_
   refine shO_freeze 2 rfl hb178 ?_; intro F181 hF182 hz183
   refine shO_L (L' := (b180, .cells #[.slice (some ⟨b178, 0, none⟩) 1 1, .slice (some ⟨b179, 0, none⟩) 1 1] 71 (0, 0)) :: ((b179, .cells #[.int .i64 1] 72 (0, 0)) :: (Lb147 ++ (Lb59 ++ (Lb35 ++ (Lb41 ++ (Lb47 ++ (Lb9 ++ (Lb15 ++ (Lb21 ++ [])))))))))) rfl ?_
   replace h105 := h105.mono (slE_ok (iE_ok _)) hF182
   replace hz148 := hz148.mono (slE_ok (iE_ok _)) hF182
   have h184 : RowR 1 (iE .i64) F181 (some ⟨b178, 0, none⟩) 1 [0] := RowR.of_block (iE_ok _) (vss := [[.int .i64 0]]) (xs := [0]) hz183 (.cons rfl .nil) rfl (by simp [maxLen])
   refine shO_freeze 1 rfl hb179 ?_; intro F185 hF186 hz187
   refine shO_L (L' := (b180, .cells (#[.slice (some ⟨b178, 0, none⟩) [0].length 1, .slice (some ⟨b179, 0, none⟩) 1 1]) 71 (0, 0)) :: (Lb147 ++ (Lb59 ++ (Lb35 ++ (Lb41 ++ (Lb47 ++ (Lb9 ++ (Lb15 ++ (Lb21 ++ []))))))))) rfl ?_
   replace h105 := h105.mono (slE_ok (iE_ok _)) hF186
   replace h184 := h184.mono (iE_ok _) hF186
   replace hz148 := hz148.mono (slE_ok (iE_ok _)) hF186
   have h188 : RowR 1 (iE .i64) F185 (some ⟨b179, 0, none⟩) 1 [1] := RowR.of_block (iE_ok _) (vss := [[.int .i64 1]]) (xs := [1]) hz187 (.cons rfl .nil) rfl (by simp [maxLen])
   refine shO_freeze 0 rfl hb180 ?_; intro F189 hF190 hz191
   refine shO_L (L' := Lb147 ++ (Lb59 ++ (Lb35 ++ (Lb41 ++ (Lb47 ++ (Lb9 ++ (Lb15 ++ (Lb21 ++ [])))))))) rfl ?_
   replace h105 := h105.mono (slE_ok (iE_ok _)) hF190
   replace h184 := h184.mono (iE_ok _) hF190
   replace h188 := h188.mono (iE_ok _) hF190
   replace hz148 := hz148.mono (slE_ok (iE_ok _)) hF190
   have h192 : RowR 1 (slE 1 (iE .i64)) F189 (some ⟨b180, 0, none⟩) 2 [[0], [1]] := RowR.of_block (slE_ok (iE_ok _)) (vss := [[.slice (some ⟨b178, 0, none⟩) [0].length 1], [.slice (some ⟨b179, 0, none⟩) [1].length 1]]) (xs := [[0], [1]]) hz191 (.cons ⟨_, _, rfl, h184⟩ (.cons ⟨_, _, rfl, h188⟩ .nil)) rfl (by simp [maxLen])
   obtain ⟨ok2, h193, r194⟩ := b1_ok r177; clear r177
   refine o_callV rfl Tryz.call69 rfl rfl rfl (oyezkit_LikeRows_Verdict_w h105 h192 h193) ?_
   refine shO_on (b := false) 57 rfl (EnvB rfl c175) ?_
   refine ov (v_notB rfl) rfl ?_
   refine ov (v_pick_f (evB rfl c175) rfl) rfl ?_
   refine om rfl rfl ?_
   rcases bool_two (!ok2) with c195 | c195
   · have r196 := bt r194 c195; clear r194
     refine shO_off (b' := true) 65 rfl (EnvB rfl c195) rfl rfl (shO_off (b' := true) 65 rfl (EnvB rfl c195) rfl rfl (shO_off (b' := true) 65 rfl (EnvB rfl c195) rfl rfl (shO_off (b' := true) 65 rfl (EnvB rfl c195) rfl rfl (shO_off (b' := true) 65 rfl (EnvB rfl c195) rfl rfl (shO_off (b' := true) 65 rfl (EnvB rfl c195) rfl rfl (shO_off (b' := true) 65 rfl (EnvB rfl c195) rfl rfl ?_))))))
     refine ov (v_pick_t (evB rfl c195) rfl) rfl ?_
     refine shO_nil ?_
     obtain rfl := inj1 r196
     exact mi kn ⟨(((hF170.trans hF182).trans hF186).trans hF190), rfl, (sc rfl (sn _))⟩
   have r197 := bf r194 c195; clear r194
   refine shO_on (b := false) 65 rfl (EnvB rfl c195) (om rfl rfl (shO_on (b := false) 65 rfl (EnvB rfl c195) ?_))
   refine o_buildSlice (cs := #[.int .i64 1, .int .i64 2]) rfl rfl (buildSlice_all slt_24 [.int .i64 1, .int .i64 2] rfl (by decide) (by simp [Value.cells]) (by decide)) ?_; intro b198 hb198
   refine shO_on (b := false) 65 rfl (EnvB rfl c195) ?_
   refine o_buildSlice (cs := #[.int .i64 2, .int .i64 3]) rfl rfl (buildSlice_all slt_24 [.int .i64 2, .int .i64 3] rfl (by decide) (by simp [Value.cells]) (by decide)) ?_; intro b199 hb199
   refine shO_on (b := false) 65 rfl (EnvB rfl c195) ?_
   refine o_buildSlice (cs := #[.int .i64 3, .int .i64 4]) rfl rfl (buildSlice_all slt_24 [.int .i64 3, .int .i64 4] rfl (by decide) (by simp [Value.cells]) (by decide)) ?_; intro b200 hb200
   refine shO_on (b := false) 65 rfl (EnvB rfl c195) ?_
   refine o_buildSlice (cs := #[.slice (some ⟨b198, 0, none⟩) 2 2, .slice (some ⟨b199, 0, none⟩) 2 2, .slice (some ⟨b200, 0, none⟩) 2 2]) rfl rfl (buildSlice_all slt_49 [.slice (some ⟨b198, 0, none⟩) 2 2, .slice (some ⟨b199, 0, none⟩) 2 2, .slice (some ⟨b200, 0, none⟩) 2 2] rfl (by decide) (by simp [Value.cells]) (by decide)) ?_; intro b201 hb201
   refine shO_on (b := false) 65 rfl (EnvB rfl c195) ?_
   refine shO_freeze 3 rfl hb198 ?_; intro F202 hF203 hz204
   refine shO_L (L' := (b201, .cells #[.slice (some ⟨b198, 0, none⟩) 2 2, .slice (some ⟨b199, 0, none⟩) 2 2, .slice (some ⟨b200, 0, none⟩) 2 2] 24 (0, 0)) :: ((b200, .cells #[.int .i64 3, .int .i64 4] 3 (0, 0)) :: ((b199, .cells #[.int .i64 2, .int .i64 3] 3 (0, 0)) :: (Lb147 ++ (Lb59 ++ (Lb35 ++ (Lb41 ++ (Lb47 ++ (Lb9 ++ (Lb15 ++ (Lb21 ++ []))))))))))) rfl ?_
   replace hz148 := hz148.mono (slE_ok (iE_ok _)) hF203
   have h205 : RowR 1 (iE .i64) F202 (some ⟨b198, 0, none⟩) 2 [1, 2] := RowR.of_block (iE_ok _) (vss := [[.int .i64 1], [.int .i64 2]]) (xs := [1, 2]) hz204 (.cons rfl (.cons rfl .nil)) rfl (by simp [maxLen])
   refine shO_freeze 2 rfl hb199 ?_; intro F206 hF207 hz208
   refine shO_L (L' := (b201, .cells (#[.slice (some ⟨b198, 0, none⟩) [1, 2].length 2, .slice (some ⟨b199, 0, none⟩) 2 2, .slice (some ⟨b200, 0, none⟩) 2 2]) 24 (0, 0)) :: ((b200, .cells #[.int .i64 3, .int .i64 4] 3 (0, 0)) :: (Lb147 ++ (Lb59 ++ (Lb35 ++ (Lb41 ++ (Lb47 ++ (Lb9 ++ (Lb15 ++ (Lb21 ++ [])))))))))) rfl ?_
   replace h205 := h205.mono (iE_ok _) hF207
   replace hz148 := hz148.mono (slE_ok (iE_ok _)) hF207
   have h209 : RowR 1 (iE .i64) F206 (some ⟨b199, 0, none⟩) 2 [2, 3] := RowR.of_block (iE_ok _) (vss := [[.int .i64 2], [.int .i64 3]]) (xs := [2, 3]) hz208 (.cons rfl (.cons rfl .nil)) rfl (by simp [maxLen])
   refine shO_freeze 1 rfl hb200 ?_; intro F210 hF211 hz212
   refine shO_L (L' := (b201, .cells (#[.slice (some ⟨b198, 0, none⟩) [1, 2].length 2, .slice (some ⟨b199, 0, none⟩) [2, 3].length 2, .slice (some ⟨b200, 0, none⟩) 2 2]) 24 (0, 0)) :: (Lb147 ++ (Lb59 ++ (Lb35 ++ (Lb41 ++ (Lb47 ++ (Lb9 ++ (Lb15 ++ (Lb21 ++ []))))))))) rfl ?_
   replace h205 := h205.mono (iE_ok _) hF211
   replace h209 := h209.mono (iE_ok _) hF211
   replace hz148 := hz148.mono (slE_ok (iE_ok _)) hF211
   have h213 : RowR 1 (iE .i64) F210 (some ⟨b200, 0, none⟩) 2 [3, 4] := RowR.of_block (iE_ok _) (vss := [[.int .i64 3], [.int .i64 4]]) (xs := [3, 4]) hz212 (.cons rfl (.cons rfl .nil)) rfl (by simp [maxLen])
   refine shO_freeze 0 rfl hb201 ?_; intro F214 hF215 hz216
   refine shO_L (L' := Lb147 ++ (Lb59 ++ (Lb35 ++ (Lb41 ++ (Lb47 ++ (Lb9 ++ (Lb15 ++ (Lb21 ++ [])))))))) rfl ?_
   replace h205 := h205.mono (iE_ok _) hF215
   replace h209 := h209.mono (iE_ok _) hF215
   replace h213 := h213.mono (iE_ok _) hF215
   replace hz148 := hz148.mono (slE_ok (iE_ok _)) hF215
   have h217 : RowR 1 (slE 1 (iE .i64)) F214 (some ⟨b201, 0, none⟩) 3 [[1, 2], [2, 3], [3, 4]] := RowR.of_block (slE_ok (iE_ok _)) (vss := [[.slice (some ⟨b198, 0, none⟩) [1, 2].length 2], [.slice (some ⟨b199, 0, none⟩) [2, 3].length 2], [.slice (some ⟨b200, 0, none⟩) [3, 4].length 2]]) (xs := [[1, 2], [2, 3], [3, 4]]) hz216 (.cons ⟨_, _, rfl, h205⟩ (.cons ⟨_, _, rfl, h209⟩ (.cons ⟨_, _, rfl, h213⟩ .nil))) rfl (by simp [maxLen])
   obtain ⟨ok3, h218, r219⟩ := b1_ok r197; clear r197
   refine o_callT (Lt := Lb147 ++ []) (Lr := Lb59 ++ (Lb35 ++ (Lb41 ++ (Lb47 ++ (Lb9 ++ (Lb15 ++ (Lb21 ++ []))))))) rfl Tryz.call70 rfl rfl rfl (pT pR (lp (ln rfl))) (fun F2 h2 h3 => by rw [(SlR.caps hz148).1]; exact oyezkit_LikeRows_int_w (hz148.row (slE_ok (iE_ok _)) h2 (fun p hp => h3 p (List.mem_append_left _ hp))) (h217.mono (slE_ok (iE_ok _)) h2) h218) ?_
   refine shO_on (b := false) 65 rfl (EnvB rfl c195) ?_
   refine ov (v_notB rfl) rfl ?_
   refine ov (v_pick_f (evB rfl c195) rfl) rfl ?_
   refine shO_nil ?_
   obtain rfl := inj1 r219
   exact mi kn ⟨(((((((hF170.trans hF182).trans hF186).trans hF190).trans hF203).trans hF207).trans hF211).trans hF215), rfl, (sc rfl (sn _))⟩
 rintro e1 F221 _ ⟨hF222, rfl, he220⟩
 refine shW_env _ he220 ?_; clear he220
 refine shW_cond rfl (fun c223 => ?_) (fun c223 => ?_)
 · have r224 := bt r152 c223; clear r152
   refine wsr (oa rfl rfl (shO_nil (shW_ret (andThen_ret ?_))))
   refine q_res1 Tryz.results24 (res_tmp rfl) (sr) ?_
   obtain rfl := inj1 r224
   exact rfl
 have r225 := bf r152 c223; clear r152
 refine shW_skip (wsr ?_)
 refine ov (v_build (v := .agg #[.int .i64 0, .int .i64 0, .bool true]) rfl (by intro w; kernel_rfl)) rfl ?_
 refine ov (v_build (v := .agg #[.int .i64 0, .int .i64 0, .bool false]) rfl (by intro w; kernel_rfl)) rfl ?_
 refine o_buildSlice (cs := #[.int .i64 0, .int .i64 0, .bool true, .int .i64 0, .int .i64 0, .bool false]) rfl rfl (buildSlice_all slt_32 [.agg #[.int .i64 0, .int .i64 0, .bool true], .agg #[.int .i64 0, .int .i64 0, .bool false]] rfl (by decide) (by simp [Value.cells]) (by decide)) ?_; intro b226 hb226
 have hz228 : SlR K.w0.heap.size 36 3 (prE (iE .i64) (prE (iE .i64) bE)) F221 (some ⟨b226, 0, none⟩) 2 2 [(0, 0, true), (0, 0, false)] [(b226, .cells #[.int .i64 0, .int .i64 0, .bool true, .int .i64 0, .int .i64 0, .bool false] 36 (0, 0))] := SlR.of_block (vss := [[.int .i64 0, .int .i64 0, .bool true], [.int .i64 0, .int .i64 0, .bool false]]) (prE_ok (iE_ok _) (prE_ok (iE_ok _) bE_ok)) hb226 (.cons ⟨_, _, rfl, rfl, ⟨_, _, rfl, rfl, rfl⟩⟩ (.cons ⟨_, _, rfl, rfl, ⟨_, _, rfl, rfl, rfl⟩⟩ .nil)) rfl rfl (by simp [maxLen])
 generalize hLLb227 : ([(b226, .cells #[.int .i64 0, .int .i64 0, .bool true, .int .i64 0, .int .i64 0, .bool false] 36 (0, 0))] : LH) = Lb227 at hz228
 refine shO_perm (L' := Lb227 ++ []) (by rw [← hLLb227]; exact fO) ?_
 refine oa rfl rfl (nsr ?_)
 obtain ⟨n14, n15, l16, l17, l18, h230, r231⟩ := b5_ok r225; clear r225
 refine o_call0 rfl Tryz.call65 rfl rfl rfl (oyezlaw07_Bell_w h230) ?_; rintro _ F232 _ hF233 hn234 ⟨a236, n240, c237, Lb238, a242, n246, c243, Lb244, a248, n252, c249, Lb250, rfl, rfl, hz239, hz245, hz251⟩
 replace hz228 := hz228.mono (prE_ok (iE_ok _) (prE_ok (iE_ok _) bE_ok)) hF233
 replace hz239 := hz239.new fun p hp => hn234 p (by simp [hp])
 replace hz245 := hz245.new fun p hp => hn234 p (by simp [hp])
 replace hz251 := hz251.new fun p hp => hn234 p (by simp [hp])
 refine shO_L (lp (lp (lp (ln rfl)))) ?_
 refine om rfl rfl ?_
 obtain ⟨l19, n16, h254, r255⟩ := b2_ok r231; clear r231
 refine o_callTO (Lb := []) (Lt := Lb238 ++ (Lb244 ++ (Lb250 ++ (Lb227 ++ [])))) (Lr := []) rfl Tryz.call10 rfl rfl rfl (pT pR (ln (lp (lp (lp (lp (ln rfl))))))) (fun F2 h2 h3 => by rw [(SlR.caps hz239).1]; rw [(SlR.caps hz245).1]; rw [(SlR.caps hz251).1]; rw [(SlR.caps hz228).1]; exact book_Fewest_w (hz239.row (slE_ok (slE_ok (iE_ok _))) h2 (fun p hp => h3 p (List.mem_append_left _ hp))) (hz245.row (iE_ok _) h2 (fun p hp => h3 p (List.mem_append_right _ (List.mem_append_left _ hp)))) (hz251.row (prE_ok (iE_ok _) (prE_ok (iE_ok _) (iE_ok _))) h2 (fun p hp => h3 p (List.mem_append_right _ (List.mem_append_right _ (List.mem_append_left _ hp))))) (hz228.row (prE_ok (iE_ok _) (prE_ok (iE_ok _) bE_ok)) h2 (fun p hp => h3 p (List.mem_append_right _ (List.mem_append_right _ (List.mem_append_right _ (List.mem_append_left _ hp)))))) h254) (fun _ _ _ _ hq => by obtain ⟨a260, n264, c261, Lb262, rfl, rfl, hz263⟩ := hq; exact ⟨_, _, _, _, rfl, rfl, hz263.flat (fun _ _ h => h)⟩) ?_; rintro _ F256 _ hF257 hd259 hn258 ⟨a260, n264, c261, Lb262, rfl, rfl, hz263⟩
 replace hz228 := hz228.mono (prE_ok (iE_ok _) (prE_ok (iE_ok _) bE_ok)) hF257
 have hn266 := newp (Lb' := []) (by rfl) hd259 hn258
 replace hz263 := hz263.new fun p hp => hn266 p (by simp [hp])
 refine shO_L (lp (ln (lp (lp (lp (lp (ln rfl))))))) ?_
 refine om rfl rfl (ox rfl rfl rfl (ox rfl rfl rfl (oa rfl rfl (oa rfl rfl (nsr ?_)))))
 obtain ⟨n17, n18, l20, l21, l22, h267, r268⟩ := b5_ok r255; clear r255
 refine o_call0 rfl Tryz.call65 rfl rfl rfl (oyezlaw07_Bell_w h267) ?_; rintro _ F269 _ hF270 hn271 ⟨a273, n277, c274, Lb275, a279, n283, c280, Lb281, a285, n289, c286, Lb287, rfl, rfl, hz276, hz282, hz288⟩
 replace hz228 := hz228.mono (prE_ok (iE_ok _) (prE_ok (iE_ok _) bE_ok)) hF270
 replace hz263 := hz263.mono (iE_ok _) hF270
 replace hz276 := hz276.new fun p hp => hn271 p (by simp [hp])
 replace hz282 := hz282.new fun p hp => hn271 p (by simp [hp])
 replace hz288 := hz288.new fun p hp => hn271 p (by simp [hp])
 refine shO_L (lp (lp (lp (ln rfl)))) ?_
 refine ov (v_build (v := .agg #[.int .i64 1, .int .i64 0, .bool false]) rfl (by intro w; kernel_rfl)) rfl ?_
 obtain ⟨ok4, n19, h291, r292⟩ := b2_ok r268; clear r268
 refine o_callT (Lt := Lb275 ++ (Lb281 ++ (Lb287 ++ []))) (Lr := Lb262 ++ (Lb238 ++ (Lb244 ++ (Lb250 ++ (Lb227 ++ []))))) rfl Tryz.call21 rfl rfl rfl (pT pR (lp (lp (lp (ln rfl))))) (fun F2 h2 h3 => by rw [(SlR.caps hz276).1]; rw [(SlR.caps hz282).1]; rw [(SlR.caps hz288).1]; exact book_Refuted_w (hz276.row (slE_ok (slE_ok (iE_ok _))) h2 (fun p hp => h3 p (List.mem_append_left _ hp))) (hz282.row (iE_ok _) h2 (fun p hp => h3 p (List.mem_append_right _ (List.mem_append_left _ hp)))) (hz288.row (prE_ok (iE_ok _) (prE_ok (iE_ok _) (iE_ok _))) h2 (fun p hp => h3 p (List.mem_append_right _ (List.mem_append_right _ (List.mem_append_left _ hp))))) h291) ?_
 refine om rfl rfl (ox rfl rfl rfl (ox rfl rfl rfl (oa rfl rfl (oa rfl rfl (shO_nil (shW_seq ?_))))))
 refine shW_drawM [(.still, 1), (.still, 2), (.still, 3), (.seq, 0), (.seq, 4), (.still, 5), (.still, 6), (.still, 7), (.still, 8), (.still, 9)] (by kernel_rfl) (by kernel_rfl) (trivial) (by rfl) (by kernel_rfl) ?_
 refine shM_v (v := .slice (some ⟨b226, 0, none⟩) 2 2) (ek := [(9, .slice (some ⟨b226, 0, none⟩) 2 2)]) (Ls := []) rfl rfl rfl rfl ((sc rfl (sn _))) (by kernel_rfl) sm (fun H F' L' hF' hL' => v_move rfl) ?_
 obtain ⟨x, g293, hx294, r295⟩ := ix_ok r292; clear r292
 obtain ⟨b296, o297, c298, vs299, ha300, hs301, hle302, ⟨_, _, rfl, rfl, ⟨_, _, rfl, rfl, rfl⟩⟩, hl303, hc304⟩ := SlR.at (prE_ok (iE_ok _) (prE_ok (iE_ok _) bE_ok)) hz228 (L := Lb227 ++ []) fP g293.1 hx294
 refine shM_v (v := .pointer (some ⟨b296, o297 + (0 : Int).toNat * 3, none⟩)) (ek := [(91, .slice (some ⟨b226, 0, none⟩) 2 2)]) (Ls := []) rfl rfl rfl rfl ((sc rfl (sn _))) (by kernel_rfl) sm (fun H F' L' hF' hL' => v_indexO Tryz.underlying32 Tryz.sizeOf36 rfl ha300 rfl (SlR.idx hz228 g293)) ?_
 refine shM_v (v := .agg #[.int .i64 x.1, .int .i64 x.2.1, .bool x.2.2]) (ek := [(92, .pointer (some ⟨b296, o297 + (0 : Int).toNat * 3, none⟩))]) (Ls := Lb227 ++ []) rfl rfl rfl rfl ((sc rfl (sn _))) (by kernel_rfl) (s0 (s3 (s3 (s3 (s3 (s3 (s3 (s3 (s4 sr))))))))) (fun H F' L' hF' hL' => v_loadA (cs := #[.int .i64 x.1, .int .i64 x.2.1, .bool x.2.2]) Tryz.isAgg36 Tryz.sizeOf36 rfl (hs301.ext hF' hL') hle302 (extract_cells hle302 hl303 hc304)) ?_
 refine ⟨_, [], rfl, rfl, (sn _), by kernel_rfl, ?_⟩; intro H
 obtain ⟨n20, n21, l23, l24, l25, h305, r306⟩ := b5_ok r295; clear r295
 refine o_call0 rfl Tryz.call65 rfl rfl rfl (oyezlaw07_Bell_w h305) ?_; rintro _ F307 _ hF308 hn309 ⟨a311, n315, c312, Lb313, a317, n321, c318, Lb319, a323, n327, c324, Lb325, rfl, rfl, hz314, hz320, hz326⟩
 replace hz263 := hz263.mono (iE_ok _) hF308
 replace hz314 := hz314.new fun p hp => hn309 p (by simp [hp])
 replace hz320 := hz320.new fun p hp => hn309 p (by simp [hp])
 replace hz326 := hz326.new fun p hp => hn309 p (by simp [hp])
 refine shO_L (lp (lp (lp (ln rfl)))) ?_
 refine shO_nil ⟨_, rfl, hF308, [3, 2, 1], by kernel_rfl, .inl (.inr (fun d h => by cases h; rfl)), (List.forall_mem_cons.2 ⟨s0 (s3 (s3 (s3 (s3 (s3 (s3 (s3 (s3 (s3 (s3 (s4 sr))))))))))), (List.forall_mem_cons.2 ⟨sm, (List.forall_mem_cons.2 ⟨sm, (fun _ h => absurd h List.not_mem_nil)⟩)⟩)⟩), ?_⟩
 refine ⟨_, [(90, .agg #[.int .i64 n20, .int .i64 n21, .slice a311 n315 c312, .slice a317 n321 c318, .slice a323 n327 c324]), (93, .agg #[.int .i64 x.1, .int .i64 x.2.1, .bool x.2.2])], rfl, rfl, (sc rfl (sc rfl (sn _))), by kernel_rfl, ?_⟩; intro H
 obtain rfl := (SlR.caps hz314).1
 refine shO_freezeR (Nat.le_refl _) (slE_ok (slE_ok (iE_ok _))) fP hz314 ?_; intro F329 hF330 h331
 replace hz263 := hz263.mono (iE_ok _) hF330
 replace hz320 := hz320.mono (iE_ok _) hF330
 replace hz326 := hz326.mono (prE_ok (iE_ok _) (prE_ok (iE_ok _) (iE_ok _))) hF330
 obtain rfl := (SlR.caps hz320).1
 refine shO_freezeR (Nat.le_refl _) (iE_ok _) fP hz320 ?_; intro F332 hF333 h334
 replace h331 := h331.mono (slE_ok (slE_ok (iE_ok _))) hF333
 replace hz263 := hz263.mono (iE_ok _) hF333
 replace hz326 := hz326.mono (prE_ok (iE_ok _) (prE_ok (iE_ok _) (iE_ok _))) hF333
 obtain rfl := (SlR.caps hz326).1
 refine shO_freezeR (Nat.le_refl _) (prE_ok (iE_ok _) (prE_ok (iE_ok _) (iE_ok _))) fP hz326 ?_; intro F335 hF336 h337
 replace h331 := h331.mono (slE_ok (slE_ok (iE_ok _))) hF336
 replace h334 := h334.mono (iE_ok _) hF336
 replace hz263 := hz263.mono (iE_ok _) hF336
 obtain ⟨l26, n22, h338, r339⟩ := b2_ok r306; clear r306
 refine o_call0 rfl Tryz.call62 rfl rfl rfl (book_Witness_w h331 h334 h337 h338) ?_; rintro _ F340 _ hF341 hn342 ⟨a344, c345, rfl, rfl, h346⟩
 replace hz263 := hz263.mono (iE_ok _) hF341
 refine shO_L (ln rfl) ?_
 refine shO_nil ⟨_, rfl, (((hF330.trans hF333).trans hF336).trans hF341), [], by kernel_rfl, .inl (.inl rfl), (fun _ h => absurd h List.not_mem_nil), ?_⟩
 refine shM_v (v := .tuple #[.slice a344 l26.length c345, .int .i64 n22]) (ek := [(94, .tuple #[.slice a344 l26.length c345, .int .i64 n22])]) (Ls := []) rfl rfl rfl rfl ((sc rfl (sn _))) (by kernel_rfl) sm (fun H F' L' hF' hL' => v_move rfl) ?_
 refine shM_v (v := .slice a344 l26.length c345) (ek := [(89, .tuple #[.slice a344 l26.length c345, .int .i64 n22])]) (Ls := []) rfl rfl rfl rfl ((sc rfl (sn _))) (by kernel_rfl) sm (fun H F' L' hF' hL' => v_extract rfl rfl) ?_
 refine shM_v (v := .int .i64 n22) (ek := [(89, .tuple #[.slice a344 l26.length c345, .int .i64 n22])]) (Ls := []) rfl rfl rfl rfl ((sc rfl (sn _))) (by kernel_rfl) sm (fun H F' L' hF' hL' => v_extract rfl rfl) ?_
 refine shM_v (v := .slice a344 l26.length c345) (ek := [(95, .slice a344 l26.length c345)]) (Ls := []) rfl rfl rfl rfl ((sc rfl (sn _))) (by kernel_rfl) sm (fun H F' L' hF' hL' => v_assign rfl) ?_
 refine shM_v (v := .int .i64 n22) (ek := [(96, .int .i64 n22)]) (Ls := []) rfl rfl rfl rfl ((sc rfl (sn _))) (by kernel_rfl) sm (fun H F' L' hF' hL' => v_assign rfl) ?_
 refine shM_nil ?_
 refine wsr ?_
 obtain ⟨n23, n24, l27, l28, l29, h347, r348⟩ := b5_ok r339; clear r339
 refine o_call0 rfl Tryz.call65 rfl rfl rfl (oyezlaw07_Bell_w h347) ?_; rintro _ F349 _ hF350 hn351 ⟨a353, n357, c354, Lb355, a359, n363, c360, Lb361, a365, n369, c366, Lb367, rfl, rfl, hz356, hz362, hz368⟩
 replace h346 := h346.mono (iE_ok _) hF350
 replace hz263 := hz263.mono (iE_ok _) hF350
 replace hz356 := hz356.new fun p hp => hn351 p (by simp [hp])
 replace hz362 := hz362.new fun p hp => hn351 p (by simp [hp])
 replace hz368 := hz368.new fun p hp => hn351 p (by simp [hp])
 refine shO_L (lp (lp (lp (ln rfl)))) ?_
 refine o_buildSlice (cs := #[.int .i64 0]) rfl rfl (buildSlice_all slt_24 [.int .i64 0] rfl (by decide) (by simp [Value.cells]) (by decide)) ?_; intro b371 hb371
 obtain rfl := (SlR.caps hz356).1
 refine shO_freezeR (Nat.le_refl _) (slE_ok (slE_ok (iE_ok _))) (fC fP) hz356 ?_; intro F372 hF373 h374
 replace h346 := h346.mono (iE_ok _) hF373
 replace hz263 := hz263.mono (iE_ok _) hF373
 replace hz362 := hz362.mono (iE_ok _) hF373
 replace hz368 := hz368.mono (prE_ok (iE_ok _) (prE_ok (iE_ok _) (iE_ok _))) hF373
 obtain rfl := (SlR.caps hz362).1
 refine shO_freezeR (Nat.le_refl _) (iE_ok _) (fC fP) hz362 ?_; intro F375 hF376 h377
 replace h346 := h346.mono (iE_ok _) hF376
 replace h374 := h374.mono (slE_ok (slE_ok (iE_ok _))) hF376
 replace hz263 := hz263.mono (iE_ok _) hF376
 replace hz368 := hz368.mono (prE_ok (iE_ok _) (prE_ok (iE_ok _) (iE_ok _))) hF376
 obtain rfl := (SlR.caps hz368).1
 refine shO_freezeR (Nat.le_refl _) (prE_ok (iE_ok _) (prE_ok (iE_ok _) (iE_ok _))) (fC fP) hz368 ?_; intro F378 hF379 h380
 replace h346 := h346.mono (iE_ok _) hF379
 replace h374 := h374.mono (slE_ok (slE_ok (iE_ok _))) hF379
 replace h377 := h377.mono (iE_ok _) hF379
 replace hz263 := hz263.mono (iE_ok _) hF379
 refine shO_freeze 0 rfl hb371 ?_; intro F381 hF382 hz383
 refine shO_L (L' := Lb275 ++ (Lb281 ++ (Lb287 ++ (Lb262 ++ (Lb238 ++ (Lb244 ++ (Lb250 ++ (Lb227 ++ [])))))))) rfl ?_
 replace h346 := h346.mono (iE_ok _) hF382
 replace h374 := h374.mono (slE_ok (slE_ok (iE_ok _))) hF382
 replace h377 := h377.mono (iE_ok _) hF382
 replace h380 := h380.mono (prE_ok (iE_ok _) (prE_ok (iE_ok _) (iE_ok _))) hF382
 replace hz263 := hz263.mono (iE_ok _) hF382
 have h384 : RowR 1 (iE .i64) F381 (some ⟨b371, 0, none⟩) 1 [0] := RowR.of_block (iE_ok _) (vss := [[.int .i64 0]]) (xs := [0]) hz383 (.cons rfl .nil) rfl (by simp [maxLen])
 obtain ⟨l30, n25, h385, r386⟩ := b2_ok r348; clear r348
 refine o_call0 rfl Tryz.call71 rfl rfl rfl (book_Again_w h374 h377 h380 h384 h385) ?_; rintro _ F387 _ hF388 hn389 ⟨a391, c392, rfl, rfl, h393⟩
 replace h346 := h346.mono (iE_ok _) hF388
 replace hz263 := hz263.mono (iE_ok _) hF388
 refine shO_L (ln rfl) ?_
 refine om rfl rfl (ox rfl rfl rfl (ox rfl rfl rfl (oa rfl rfl (nsr (om rfl rfl ?_)))))
 refine ov (v_eql rfl rfl) rfl ?_
 refine om rfl rfl ?_
 by_cases c394 : n16 = 0
 · have r395 := ite_t r386 c394; clear r386
   refine shO_on (b := true) 105 rfl (Env.isT rfl c394) (om rfl rfl (shO_on (b := true) 105 rfl (Env.isT rfl c394) ?_))
   refine ov (v_eql rfl rfl) rfl ?_
   refine ov (v_pick_t (evD_true rfl c394) rfl) rfl ?_
   refine om rfl rfl ?_
   by_cases c396 : n19 = 0
   · have r397 := ite_t r395 c396; clear r395
     refine shO_on (b := true) 109 rfl (Env.isT rfl c396) (om rfl rfl (shO_on (b := true) 109 rfl (Env.isT rfl c396) ?_))
     refine ov (v_eql rfl rfl) rfl ?_
     refine ov (v_pick_t (evD_true rfl c396) rfl) rfl ?_
     refine om rfl rfl ?_
     by_cases c398 : n22 = 0
     · have r399 := ite_t r397 c398; clear r397
       refine shO_on (b := true) 113 rfl (Env.isT rfl c398) (om rfl rfl (shO_on (b := true) 113 rfl (Env.isT rfl c398) ?_))
       refine ov (v_eql rfl rfl) rfl ?_
       refine ov (v_pick_t (evD_true rfl c398) rfl) rfl ?_
       refine om rfl rfl ?_
       by_cases c400 : n25 = 6
       · have r401 := ite_t r399 c400; clear r399
         refine shO_on (b := true) 117 rfl (Env.isT rfl c400) (om rfl rfl ?_)
         refine ov (v_pick_t (evD_true rfl c400) rfl) rfl ?_
         refine om rfl rfl ?_
         rcases bool_two ok4 with c402 | c402
         · have r403 := bt r401 c402; clear r401
           refine shO_on (b := true) 120 rfl (EnvB rfl c402) (om rfl rfl (shO_on (b := true) 120 rfl (EnvB rfl c402) ?_))
           refine o_buildSlice (cs := #[.int .i64 0]) rfl rfl (buildSlice_all slt_24 [.int .i64 0] rfl (by decide) (by simp [Value.cells]) (by decide)) ?_; intro b404 hb404
           refine shO_on (b := true) 120 rfl (EnvB rfl c402) ?_
           refine shO_freeze 0 rfl hb404 ?_; intro F405 hF406 hz407
           refine shO_L (L' := Lb275 ++ (Lb281 ++ (Lb287 ++ (Lb262 ++ (Lb238 ++ (Lb244 ++ (Lb250 ++ (Lb227 ++ [])))))))) rfl ?_
           replace h346 := h346.mono (iE_ok _) hF406
           replace hz263 := hz263.mono (iE_ok _) hF406
           have h408 : RowR 1 (iE .i64) F405 (some ⟨b404, 0, none⟩) 1 [0] := RowR.of_block (iE_ok _) (vss := [[.int .i64 0]]) (xs := [0]) hz407 (.cons rfl .nil) rfl (by simp [maxLen])
           obtain ⟨ok5, h409, r410⟩ := b1_ok r403; clear r403
           refine o_callT (Lt := Lb262 ++ []) (Lr := Lb275 ++ (Lb281 ++ (Lb287 ++ (Lb238 ++ (Lb244 ++ (Lb250 ++ (Lb227 ++ []))))))) rfl Tryz.call68 rfl rfl rfl (pT ((fS (fS (fS fP))).trans (pA pR)) (lp (ln rfl))) (fun F2 h2 h3 => by rw [(SlR.caps hz263).1]; exact oyezkit_Like_int_w (hz263.row (iE_ok _) h2 (fun p hp => h3 p (List.mem_append_left _ hp))) (h408.mono (iE_ok _) h2) h409) ?_
           refine ov (v_pick_t (evB rfl c402) rfl) rfl ?_
           refine om rfl rfl ?_
           rcases bool_two ok5 with c411 | c411
           · have r412 := bt r410 c411; clear r410
             refine shO_on (b := true) 125 rfl (EnvB rfl c411) (om rfl rfl (shO_on (b := true) 125 rfl (EnvB rfl c411) ?_))
             refine o_buildSlice (cs := #[.int .i64 1, .int .i64 2, .int .i64 3]) rfl rfl (buildSlice_all slt_24 [.int .i64 1, .int .i64 2, .int .i64 3] rfl (by decide) (by simp [Value.cells]) (by decide)) ?_; intro b413 hb413
             refine shO_on (b := true) 125 rfl (EnvB rfl c411) ?_
             refine shO_freeze 0 rfl hb413 ?_; intro F414 hF415 hz416
             refine shO_L (L' := Lb275 ++ (Lb281 ++ (Lb287 ++ (Lb262 ++ (Lb238 ++ (Lb244 ++ (Lb250 ++ (Lb227 ++ [])))))))) rfl ?_
             replace h346 := h346.mono (iE_ok _) hF415
             have h417 : RowR 1 (iE .i64) F414 (some ⟨b413, 0, none⟩) 3 [1, 2, 3] := RowR.of_block (iE_ok _) (vss := [[.int .i64 1], [.int .i64 2], [.int .i64 3]]) (xs := [1, 2, 3]) hz416 (.cons rfl (.cons rfl (.cons rfl .nil))) rfl (by simp [maxLen])
             obtain ⟨ok6, h418, r419⟩ := b1_ok r412; clear r412
             refine o_callV rfl Tryz.call68 rfl rfl rfl (oyezkit_Like_int_w h346 h417 h418) ?_
             refine ov (v_pick_t (evB rfl c411) rfl) rfl ?_
             refine oa rfl rfl (shO_nil ?_)
             refine kW kn ?_
             refine shW_ret ?_
             refine q_res1 Tryz.results24 (res_tmp rfl) (sr) ?_
             obtain rfl := inj1 r419
             exact rfl
           have r420 := bf r410 c411; clear r410
           refine shO_off (b' := false) 125 rfl (EnvB rfl c411) rfl rfl (shO_off (b' := false) 125 rfl (EnvB rfl c411) rfl rfl (shO_off (b' := false) 125 rfl (EnvB rfl c411) rfl rfl ?_))
           refine ov (v_pick_f (evB rfl c411) rfl) rfl ?_
           refine oa rfl rfl (shO_nil ?_)
           refine kW kn ?_
           refine shW_ret ?_
           refine q_res1 Tryz.results24 (res_tmp rfl) (sr) ?_
           obtain rfl := inj1 r420
           exact rfl
         have r421 := bf r401 c402; clear r401
         refine shO_off (b' := false) 120 rfl (EnvB rfl c402) rfl rfl (shO_off (b' := false) 120 rfl (EnvB rfl c402) rfl rfl (shO_off (b' := false) 120 rfl (EnvB rfl c402) rfl rfl ?_))
         refine ov (v_pick_f (evB rfl c402) rfl) rfl ?_
         refine om rfl rfl (shO_off (b' := false) 125 rfl rfl rfl rfl (shO_off (b' := false) 125 rfl rfl rfl rfl (shO_off (b' := false) 125 rfl rfl rfl rfl ?_)))
         refine ov (v_pick_f rfl rfl) rfl ?_
         refine oa rfl rfl (shO_nil ?_)
         refine kW kn ?_
         refine shW_ret ?_
         refine q_res1 Tryz.results24 (res_tmp rfl) (sr) ?_
         obtain rfl := inj1 r421
         exact rfl
       have r422 := ite_f r399 c400; clear r399
       refine shO_off (b' := false) 117 rfl (Env.isF rfl c400) rfl rfl ?_
       refine ov (v_pick_f (evD_false rfl c400) rfl) rfl ?_
       refine om rfl rfl (shO_off (b' := false) 120 rfl rfl rfl rfl (shO_off (b' := false) 120 rfl rfl rfl rfl (shO_off (b' := false) 120 rfl rfl rfl rfl ?_)))
       refine ov (v_pick_f rfl rfl) rfl ?_
       refine om rfl rfl (shO_off (b' := false) 125 rfl rfl rfl rfl (shO_off (b' := false) 125 rfl rfl rfl rfl (shO_off (b' := false) 125 rfl rfl rfl rfl ?_)))
       refine ov (v_pick_f rfl rfl) rfl ?_
       refine oa rfl rfl (shO_nil ?_)
       refine kW kn ?_
       refine shW_ret ?_
       refine q_res1 Tryz.results24 (res_tmp rfl) (sr) ?_
       obtain rfl := inj1 r422
       exact rfl
     have r423 := ite_f r397 c398; clear r397
     refine shO_off (b' := false) 113 rfl (Env.isF rfl c398) rfl rfl (shO_off (b' := false) 113 rfl (Env.isF rfl c398) rfl rfl ?_)
     refine ov (v_pick_f (evD_false rfl c398) rfl) rfl ?_
     refine om rfl rfl (shO_off (b' := false) 117 rfl rfl rfl rfl ?_)
     refine ov (v_pick_f rfl rfl) rfl ?_
     refine om rfl rfl (shO_off (b' := false) 120 rfl rfl rfl rfl (shO_off (b' := false) 120 rfl rfl rfl rfl (shO_off (b' := false) 120 rfl rfl rfl rfl ?_)))
     refine ov (v_pick_f rfl rfl) rfl ?_
     refine om rfl rfl (shO_off (b' := false) 125 rfl rfl rfl rfl (shO_off (b' := false) 125 rfl rfl rfl rfl (shO_off (b' := false) 125 rfl rfl rfl rfl ?_)))
     refine ov (v_pick_f rfl rfl) rfl ?_
     refine oa rfl rfl (shO_nil ?_)
     refine kW kn ?_
     refine shW_ret ?_
     refine q_res1 Tryz.results24 (res_tmp rfl) (sr) ?_
     obtain rfl := inj1 r423
     exact rfl
   have r424 := ite_f r395 c396; clear r395
   refine shO_off (b' := false) 109 rfl (Env.isF rfl c396) rfl rfl (shO_off (b' := false) 109 rfl (Env.isF rfl c396) rfl rfl ?_)
   refine ov (v_pick_f (evD_false rfl c396) rfl) rfl ?_
   refine om rfl rfl (shO_off (b' := false) 113 rfl rfl rfl rfl (shO_off (b' := false) 113 rfl rfl rfl rfl ?_))
   refine ov (v_pick_f rfl rfl) rfl ?_
   refine om rfl rfl (shO_off (b' := false) 117 rfl rfl rfl rfl ?_)
   refine ov (v_pick_f rfl rfl) rfl ?_
   refine om rfl rfl (shO_off (b' := false) 120 rfl rfl rfl rfl (shO_off (b' := false) 120 rfl rfl rfl rfl (shO_off (b' := false) 120 rfl rfl rfl rfl ?_)))
   refine ov (v_pick_f rfl rfl) rfl ?_
   refine om rfl rfl (shO_off (b' := false) 125 rfl rfl rfl rfl (shO_off (b' := false) 125 rfl rfl rfl rfl (shO_off (b' := false) 125 rfl rfl rfl rfl ?_)))
   refine ov (v_pick_f rfl rfl) rfl ?_
   refine oa rfl rfl (shO_nil ?_)
   refine kW kn ?_
   refine shW_ret ?_
   refine q_res1 Tryz.results24 (res_tmp rfl) (sr) ?_
   obtain rfl := inj1 r424
   exact rfl
 have r425 := ite_f r386 c394; clear r386
 refine shO_off (b' := false) 105 rfl (Env.isF rfl c394) rfl rfl (shO_off (b' := false) 105 rfl (Env.isF rfl c394) rfl rfl ?_)
 refine ov (v_pick_f (evD_false rfl c394) rfl) rfl ?_
 refine om rfl rfl (shO_off (b' := false) 109 rfl rfl rfl rfl (shO_off (b' := false) 109 rfl rfl rfl rfl ?_))
 refine ov (v_pick_f rfl rfl) rfl ?_
 refine om rfl rfl (shO_off (b' := false) 113 rfl rfl rfl rfl (shO_off (b' := false) 113 rfl rfl rfl rfl ?_))
 refine ov (v_pick_f rfl rfl) rfl ?_
 refine om rfl rfl (shO_off (b' := false) 117 rfl rfl rfl rfl ?_)
 refine ov (v_pick_f rfl rfl) rfl ?_
 refine om rfl rfl (shO_off (b' := false) 120 rfl rfl rfl rfl (shO_off (b' := false) 120 rfl rfl rfl rfl (shO_off (b' := false) 120 rfl rfl rfl rfl ?_)))
 refine ov (v_pick_f rfl rfl) rfl ?_
 refine om rfl rfl (shO_off (b' := false) 125 rfl rfl rfl rfl (shO_off (b' := false) 125 rfl rfl rfl rfl (shO_off (b' := false) 125 rfl rfl rfl rfl ?_)))
 refine ov (v_pick_f rfl rfl) rfl ?_
 refine oa rfl rfl (shO_nil ?_)
 refine kW kn ?_
 refine shW_ret ?_
 refine q_res1 Tryz.results24 (res_tmp rfl) (sr) ?_
 obtain rfl := inj1 r425
 exact rfl
set_option maxHeartbeats 1000000 in
theorem oyezlaw07_BookPleaded_1_w {which_a : Option Addr} {which_c : Nat} {which : List Int} {in_ : Bool} {b_l : Nat} {l_a : Option Addr} {l_c : Nat} {l : List (Int × Int × Bool)} {mb_l : Nat × Nat} {F : FS} (h_which : RowR 1 (iE .i64) F which_a which_c which) (hb_l : F b_l = some (.cells #[.slice l_a l.length l_c] 32 mb_l)) (h_l : RowR 3 (prE (iE .i64) (prE (iE .i64) bE)) F l_a l_c l) {r : List (Int × Int × Bool)} (hr : oyezlaw07_BookPleaded_1 which in_ l = some r) :
    SH.Spec Tryz.prog 16 #[.slice which_a which.length which_c, .bool in_, .pointer (some ⟨b_l, 0, none⟩)] F [] fun F' L' v => ∃ (ra : Option Addr) (rn : Nat) (rc : Nat) (rL : LH), v = .slice ra rn rc ∧ L' = rL ++ [] ∧ SlR 0 36 3 (prE (iE .i64) (prE (iE .i64) bE)) F' ra rn rc r rL := by
 refine spec_of_shW (args := [.slice which_a which.length which_c, .bool in_, .pointer (some ⟨b_l, 0, none⟩)]) Tryz.func16 rfl Tryz.ntmps16 (Nat.le_of_ble_eq_true rfl) ?_
 intro K _ _; rw [oyezlaw07_BookPleaded_1] at hr
 refine wsr (oa rfl rfl (nsr (oa rfl rfl (shO_nil ?_))))
 obtain ⟨out, h7, r8⟩ := b1_ok hr; clear hr
 refine shW_join (fun e1 F1 L1 => ∃ (a1 : Option Addr) (n5 : Nat) (c2 : Nat) (Lb3 : LH), F = F1 ∧ L1 = (Lb3 ++ []) ∧ e1.sub [(6, .slice a1 n5 c2)] ∧ SlR K.w0.heap.size 36 3 (prE (iE .i64) (prE (iE .i64) bE)) F1 a1 n5 c2 out Lb3) ?_ ?_
 · clear r8
   refine wsr ?_
   refine ov (v_load Tryz.isAgg32 rfl (Has.frozen hb_l) rfl) rfl ?_
   refine ov (v_lenS Tryz.underlying32 rfl) rfl ?_
   refine om rfl rfl (shO_nil ?_)
   refine shW_block ?_
   refine shW_lp (fun fu1 e1 F1 L1 => ∃ (tl : List (Int × Int × Bool)) (k : Int), tl.length = fu1 ∧ Lst l k tl ∧ ∃ (out2 : List (Int × Int × Bool)) (a9 : Option Addr) (n13 : Nat) (c10 : Nat) (Lb11 : LH), oyezlaw07_BookPleaded_1_l1 which in_ tl k out2 = some out ∧ F = F1 ∧ L1 = (Lb11 ++ []) ∧ e1.sub [(0, .slice which_a which.length which_c), (1, .bool in_), (6, .slice a9 n13 c10), (9, .slice l_a l.length l_c), (10, .int .i64 (l.length : Int)), (11, .int .i64 k)] ∧ SlR K.w0.heap.size 36 3 (prE (iE .i64) (prE (iE .i64) bE)) F1 a9 n13 c10 out2 Lb11) _ (m0 (ke kr) ⟨_, _, rfl, Lst.start _, [], none, 0, 0, [], h7, rfl, rfl, (sc rfl (sc rfl (sc rfl (sc rfl (sc rfl (sc rfl (sn _))))))), SlR.nil _ _ _ _ _⟩) ?_
   rintro fu1 e1 _ _ ⟨tl, k, hn16, hk15, out2, a9, n13, c10, Lb11, r17, rfl, rfl, he18, hz12⟩
   refine shW_env _ he18 ?_; clear he18
   refine wsr ?_
   refine ov (v_lssK rfl rfl) rfl ?_
   refine shO_nil (shW_seq ?_)
   refine shW_condP rfl (fun c20 => ?_) (fun c20 => ?_)
   · obtain ⟨x, tl2, rfl, hx22, g23, hk21⟩ := Lst.succ hk15 c20
     rw [oyezlaw07_BookPleaded_1_l1] at r17
     refine shW_skip (shW_seq ?_)
     refine shW_block ?_
     refine wsr (om rfl rfl ?_)
     obtain ⟨b24, o25, c26, vs27, ha28, hs29, hle30, ⟨_, _, rfl, rfl, ⟨_, _, rfl, rfl, rfl⟩⟩, hl31, hc32⟩ := RowR.at (prE_ok (iE_ok _) (prE_ok (iE_ok _) bE_ok)) h_l (Lb11 ++ []) g23.1 hx22
     refine ov (v_indexO Tryz.underlying32 Tryz.sizeOf36 rfl ha28 rfl g23) rfl ?_
     refine ov (v_loadA (cs := #[.int .i64 x.1, .int .i64 x.2.1, .bool x.2.2]) Tryz.isAgg36 Tryz.sizeOf36 rfl hs29 hle30 (extract_cells hle30 hl31 hc32)) rfl ?_
     refine o_alloc rfl Tryz.zeroValue36 ?_; intro b33 hb33
     refine oa rfl rfl ?_
     refine o_storeA (i := 0) Tryz.sizeOf36 rfl rfl rfl (by simp [Value.oneCell']) rfl (Nat.le_of_ble_eq_true rfl) ?_
     refine shO_L (L' := (b33, .cells #[.int .i64 x.1, .int .i64 x.2.1, .bool x.2.2] 36 (0, 0)) :: (Lb11 ++ [])) rfl ?_
     refine nsr (om rfl rfl (om rfl rfl ?_))
     obtain ⟨ok, h34, r35⟩ := b1_ok r17; clear r17
     refine o_callV rfl Tryz.call17 rfl rfl rfl (slices_Contains_int_int_w h_which h34) ?_
     refine om rfl rfl ?_
     refine ov (v_eqlB Tryz.underlying4 rfl rfl) rfl ?_
     refine shO_nil ?_
     refine shW_condP rfl (fun c36 => ?_) (fun c36 => ?_)
     · have r37 := ite_t r35 c36; clear r35
       refine shW_region (om rfl rfl ?_)
       refine ov (v_loadA (cs := #[.int .i64 x.1, .int .i64 x.2.1, .bool x.2.2]) Tryz.isAgg36 Tryz.sizeOf36 rfl (Has.own 0 rfl) (Nat.le_of_ble_eq_true rfl) rfl) rfl ?_
       refine o_buildSlice (cs := #[.int .i64 x.1, .int .i64 x.2.1, .bool x.2.2]) rfl rfl (buildSlice_all slt_32 [.agg #[.int .i64 x.1, .int .i64 x.2.1, .bool x.2.2]] rfl (by decide) (by simp [Value.cells]) (by decide)) ?_; intro b38 hb38
       obtain ⟨out3, h39, g40, r41⟩ := ap_ok r37; clear r37
       refine o_appZ (xs := out2) (ys := [(x.1, x.2.1, x.2.2)]) (zs := out3) rfl slt_32 rfl rfl (Nat.le_refl _) (fun _ => .c (.c .h)) hz12 (SrcR.box (vss := [[.int .i64 x.1, .int .i64 x.2.1, .bool x.2.2]]) (ys := [(x.1, x.2.1, x.2.2)]) 0 rfl (prE_ok (iE_ok _) (prE_ok (iE_ok _) bE_ok)) (.cons ⟨_, _, rfl, rfl, ⟨_, _, rfl, rfl, rfl⟩⟩ .nil) rfl rfl) h39 g40 (by decide) ?_; intro a42 n46 c43 Lb44 hz45
       refine kO (kd kr) ?_
       refine oa rfl rfl (shO_nil (inBlock_n (id := 1) (shW_region ?_)))
       refine ov (v_add rfl rfl (Lst.r64 hk15 c20 (RowR.lt h_l))) rfl ?_
       refine om rfl rfl (shO_nil ?_)
       subst hn16; exact le (kd kr) ⟨_, _, rfl, hk21, out3, a42, n46, c43, Lb44, r41, rfl, rfl, (sc rfl (sc rfl (sc rfl (sc rfl (sc rfl (sc rfl (sn _))))))), hz45⟩
     have r48 := ite_f r35 c36; clear r35
     refine shW_skip (inBlock_n (id := 1) (shW_region ?_))
     refine ov (v_add rfl rfl (Lst.r64 hk15 c20 (RowR.lt h_l))) rfl ?_
     refine om rfl rfl (shO_nil ?_)
     subst hn16; exact le (kd kr) ⟨_, _, rfl, hk21, out2, a9, n13, c10, Lb11, r48, rfl, rfl, (sc rfl (sc rfl (sc rfl (sc rfl (sc rfl (sc rfl (sn _))))))), hz12⟩
   obtain rfl := Lst.zero hk15 c20
   rw [oyezlaw07_BookPleaded_1_l1] at r17
   refine shW_exit (andThen_exit (andThen_exit ?_))
   refine inBlock_exit ?_
   obtain rfl := inj1 r17
   exact mi kr ⟨a9, n13, c10, Lb11, rfl, rfl, (sc rfl (sn _)), hz12⟩
 rintro e1 _ _ ⟨a1, n5, c2, Lb3, rfl, rfl, he49, hz4⟩
 refine shW_env _ he49 ?_; clear he49
 refine wsr (om rfl rfl (oa rfl rfl (shO_nil (shW_ret ?_))))
 refine q_res1 Tryz.results16 (res_tmp rfl) (sr) ?_
 obtain rfl := inj1 r8
 exact ⟨_, _, _, _, rfl, rfl, hz4.any⟩
set_option maxHeartbeats 1000000 in
theorem oyezlaw07_BookPleaded_2_w {k : Int} {b_i : Nat} {i : Int} {mb_i : Nat × Nat} {F : FS} (hb_i : F b_i = some (.cells #[.int .i64 i] 3 mb_i)) {r : Bool} (hr : oyezlaw07_BookPleaded_2 k i = some r) :
    SpecV Tryz.prog 20 #[.int .i64 k, .pointer (some ⟨b_i, 0, none⟩)] F (.bool r) := by
 refine spec_of_shW (args := [.int .i64 k, .pointer (some ⟨b_i, 0, none⟩)]) Tryz.func20 rfl Tryz.ntmps20 (Nat.le_of_ble_eq_true rfl) ?_
 intro K _ _; rw [oyezlaw07_BookPleaded_2] at hr
 refine wsr (oa rfl rfl (nsr (om rfl rfl ?_)))
 refine ov (v_load Tryz.isAgg3 rfl (Has.frozen hb_i) rfl) rfl ?_
 refine ov (v_eql rfl rfl) rfl ?_
 refine oa rfl rfl (shO_nil (shW_ret ?_))
 refine q_res1 Tryz.results20 (res_tmp rfl) (sr) ?_
 obtain rfl := inj1 hr
 exact rfl
set_option maxHeartbeats 1000000 in
theorem oyezlaw07_BookPleaded_w {numbers_a : Option Addr} {numbers_c : Nat} {numbers : List Int} {pleas_a : Option Addr} {pleas_c : Nat} {pleas : List Int} {F : FS} (h_numbers : RowR 1 (iE .u8) F numbers_a numbers_c numbers) (h_pleas : RowR 1 (iE .u8) F pleas_a pleas_c pleas) {r : Bool} (hr : oyezlaw07_BookPleaded numbers pleas = some r) :
    SpecV Tryz.prog 3 #[.slice numbers_a numbers.length numbers_c, .slice pleas_a pleas.length pleas_c] F (.bool r) := by
 refine spec_of_shW (args := [.slice numbers_a numbers.length numbers_c, .slice pleas_a pleas.length pleas_c]) Tryz.func3 rfl Tryz.ntmps3 (Nat.le_of_ble_eq_true rfl) ?_
 intro K _ _; rw [oyezlaw07_BookPleaded] at hr
 refine wsr (oa rfl rfl (nsr (om rfl rfl ?_)))
 obtain ⟨metal, at_, turn, h1, r2⟩ := b3_ok hr; clear hr
 refine o_call0 rfl Tryz.call7 rfl rfl rfl (oyezkit_Hang_w h_numbers h1) ?_; rintro _ F3 _ hF4 hn5 ⟨b7, a8, c9, rfl, rfl, h10⟩
 replace h_pleas := h_pleas.mono (iE_ok _) hF4
 refine shO_L (lb (ln rfl)) ?_
 obtain ⟨n, n2, l, l2, l3, l4, at_2, turn2, h11, r12⟩ := b8_ok r2; clear r2
 refine o_callG (Lb := [(b7, .cells #[.slice a8 metal.length c9, .int .i64 at_, .int .u32 turn] 95 (0, 0))]) (Lr := []) rfl Tryz.call6 rfl rfl rfl (pR) (oyezlaw07_Made_w h10 h11) ?_; rintro _ F13 _ hF14 hd16 hn15 ⟨a17, n21, c18, Lb19, a23, n27, c24, Lb25, a29, n33, c30, Lb31, a35, n39, c36, Lb37, rfl, rfl, hz20, hz26, hz32, hz38⟩
 replace h_pleas := h_pleas.mono (iE_ok _) hF14
 have hn41 := newp (Lb' := [(b7, .cells #[.slice a8 metal.length c9, .int .i64 at_2, .int .u32 turn2] 95 (0, 0))]) (by rfl) hd16 hn15
 replace hz20 := hz20.new fun p hp => hn41 p (by simp [hp])
 replace hz26 := hz26.new fun p hp => hn41 p (by simp [hp])
 replace hz32 := hz32.new fun p hp => hn41 p (by simp [hp])
 replace hz38 := hz38.new fun p hp => hn41 p (by simp [hp])
 refine shO_L (lb (lp (lp (lp (lp (ln rfl)))))) ?_
 refine om rfl rfl (ox rfl rfl rfl (ox rfl rfl rfl ?_))
 refine o_alloc rfl Tryz.zeroValue27 ?_; intro b42 hb42
 refine o_storeA (i := 0) Tryz.sizeOf27 rfl rfl rfl (by simp [Value.oneCell']) rfl (Nat.le_of_ble_eq_true rfl) ?_
 refine shO_L (L' := (b42, .cells #[.int .i64 n, .int .i64 n2, .slice a17 n21 c18, .slice a23 n27 c24, .slice a29 n33 c30] 27 (0, 0)) :: ((b7, .cells #[.slice a8 metal.length c9, .int .i64 at_2, .int .u32 turn2] 95 (0, 0)) :: (Lb19 ++ (Lb25 ++ (Lb31 ++ (Lb37 ++ [])))))) rfl ?_
 refine oa rfl rfl (nsr (om rfl rfl ?_))
 obtain ⟨metal2, at_3, turn3, h43, r44⟩ := b3_ok r12; clear r12
 refine o_call0 rfl Tryz.call7 rfl rfl rfl (oyezkit_Hang_w h_pleas h43) ?_; rintro _ F45 _ hF46 hn47 ⟨b49, a50, c51, rfl, rfl, h52⟩
 replace hz20 := hz20.mono (slE_ok (slE_ok (iE_ok _))) hF46
 replace hz26 := hz26.mono (iE_ok _) hF46
 replace hz32 := hz32.mono (prE_ok (iE_ok _) (prE_ok (iE_ok _) (iE_ok _))) hF46
 replace hz38 := hz38.mono (iE_ok _) hF46
 refine shO_L (lb (ln rfl)) ?_
 refine oa rfl rfl (nsr ?_)
 refine o_alloc rfl Tryz.zeroValue32 ?_; intro b53 hb53
 refine shO_nil ?_
 obtain ⟨q_at, q_turn, l5, h60, r61⟩ := b3_ok r44; clear r44
 refine shW_join (fun e1 F1 L1 => ∃ (a54 : Option Addr) (n58 : Nat) (c55 : Nat) (Lb56 : LH), FExt F45 F1 ∧ L1 = ((b49, .cells #[.slice a50 metal2.length c51, .int .i64 q_at, .int .u32 q_turn] 95 (0, 0)) :: ((b53, .cells #[.slice a54 n58 c55] 32 (0, 0)) :: ((b42, .cells #[.int .i64 n, .int .i64 n2, .slice a17 n21 c18, .slice a23 n27 c24, .slice a29 n33 c30] 27 (0, 0)) :: (Lb19 ++ (Lb25 ++ (Lb31 ++ (Lb37 ++ (Lb56 ++ [])))))))) ∧ e1.sub [(5, .pointer (some ⟨b42, 0, none⟩)), (6, .slice a35 n39 c36), (7, .pointer (some ⟨b49, 0, none⟩)), (8, .pointer (some ⟨b53, 0, none⟩))] ∧ SlR K.w0.heap.size 36 3 (prE (iE .i64) (prE (iE .i64) bE)) F1 a54 n58 c55 l5 Lb56) ?_ ?_
 · clear r61
   refine wsr (om rfl rfl ?_)
   obtain ⟨n3, at_4, turn4, h62, r63⟩ := b3_ok h60; clear h60
   refine o_callG (Lb := [(b49, .cells #[.slice a50 metal2.length c51, .int .i64 at_3, .int .u32 turn3] 95 (0, 0))]) (Lr := (b53, .cells #[.slice none 0 0] 32 (0, 0)) :: ((b42, .cells #[.int .i64 n, .int .i64 n2, .slice a17 n21 c18, .slice a23 n27 c24, .slice a29 n33 c30] 27 (0, 0)) :: ((b7, .cells #[.slice a8 metal.length c9, .int .i64 at_2, .int .u32 turn2] 95 (0, 0)) :: (Lb19 ++ (Lb25 ++ (Lb31 ++ (Lb37 ++ []))))))) rfl Tryz.call8 rfl rfl rfl (((fC fO).trans (pC pR))) (oyezkit_Bell_Stroke_w h52 h62) ?_; rintro _ F64 _ hF65 hd67 hn66 ⟨rfl, rfl⟩
   replace h52 := h52.mono (iE_ok _) hF65
   refine shO_L (lb (ln rfl)) ?_
   refine om rfl rfl (shO_nil ?_)
   refine shW_block ?_
   refine kW (kc (kc (kc (kd kr)))) ?_
   obtain ⟨g74, r75⟩ := gd_ok r63; clear r63
   refine shW_lp (fun fu1 e1 F1 L1 => ∃ (k : Int), Ctr 0 n3 k fu1 ∧ ∃ (q_at2 : Int) (q_turn2 : Int) (l6 : List (Int × Int × Bool)) (a68 : Option Addr) (n72 : Nat) (c69 : Nat) (Lb70 : LH), oyezlaw07_BookPleaded_l1 n n2 metal2 fu1 q_at2 q_turn2 l6 = some (q_at, q_turn, l5) ∧ FExt F64 F1 ∧ L1 = ((b49, .cells #[.slice a50 metal2.length c51, .int .i64 q_at2, .int .u32 q_turn2] 95 (0, 0)) :: ((b53, .cells #[.slice a68 n72 c69] 32 (0, 0)) :: ((b42, .cells #[.int .i64 n, .int .i64 n2, .slice a17 n21 c18, .slice a23 n27 c24, .slice a29 n33 c30] 27 (0, 0)) :: (Lb19 ++ (Lb25 ++ (Lb31 ++ (Lb37 ++ (Lb70 ++ [])))))))) ∧ e1.sub [(5, .pointer (some ⟨b42, 0, none⟩)), (6, .slice a35 n39 c36), (7, .pointer (some ⟨b49, 0, none⟩)), (8, .pointer (some ⟨b53, 0, none⟩)), (45, .int .i64 n3), (46, .int .i64 k)] ∧ SlR K.w0.heap.size 36 3 (prE (iE .i64) (prE (iE .i64) bE)) F1 a68 n72 c69 l6 Lb70) _ (m0 (kc (kc (kc (ka (ka (ka (ka (ke kr)))))))) ⟨_, Ctr.start _ _, at_4, turn4, [], none, 0, 0, [], r75, FExt.refl _, rfl, (sc rfl (sc rfl (sc rfl (sc rfl (sc rfl (sc rfl (sn _))))))), SlR.nil _ _ _ _ _⟩) ?_
   rintro fu1 e1 F80 _ ⟨k, hk76, q_at2, q_turn2, l6, a68, n72, c69, Lb70, r78, hF81, rfl, he79, hz71⟩
   refine shW_env _ he79 ?_; clear he79
   replace h52 := h52.mono (iE_ok _) hF81
   refine wsr ?_
   refine ov (v_lssK rfl rfl) rfl ?_
   refine shO_nil (shW_seq ?_)
   refine shW_condP rfl (fun c83 => ?_) (fun c83 => ?_)
   · obtain ⟨fu1, rfl, hk84⟩ := Ctr.succ hk76 c83
     rw [oyezlaw07_BookPleaded_l1] at r78
     refine shW_skip (shW_seq ?_)
     refine shW_block ?_
     refine shW_drawM [(.still, 0), (.still, 1), (.still, 2), (.still, 3), (.still, 4), (.still, 6), (.still, 7), (.still, 8), (.still, 9), (.still, 11), (.seq, 5), (.seq, 10), (.seq, 12), (.still, 13), (.seq, 14), (.seq, 15), (.seq, 16)] (by kernel_rfl) (by kernel_rfl) (trivial) (by rfl) (by kernel_rfl) ?_
     refine shM_v (v := .slice a68 n72 c69) (ek := [(8, .pointer (some ⟨b53, 0, none⟩))]) (Ls := [(b53, .cells #[.slice a68 n72 c69] 32 (0, 0))]) rfl rfl rfl rfl ((sc rfl (sn _))) (by kernel_rfl) (s0 (s1 (s2 (s1 (s3 (s3 (s3 (s3 (s3 sr))))))))) (fun H F' L' hF' hL' => v_load Tryz.isAgg32 rfl ((Has.own 0 rfl).ext hF' hL') rfl) ?_
     refine shM_v (v := .pointer (some ⟨b49, 0, none⟩)) (ek := [(7, .pointer (some ⟨b49, 0, none⟩))]) (Ls := []) rfl rfl rfl rfl ((sc rfl (sn _))) (by kernel_rfl) sm (fun H F' L' hF' hL' => v_move rfl) ?_
     refine shM_v (v := .pointer (some ⟨b42, 0, none⟩)) (ek := [(5, .pointer (some ⟨b42, 0, none⟩))]) (Ls := []) rfl rfl rfl rfl ((sc rfl (sn _))) (by kernel_rfl) sm (fun H F' L' hF' hL' => v_fieldAddr fa_27_0 rfl) ?_
     refine shM_v (v := .int .i64 n) (ek := [(50, .pointer (some ⟨b42, 0, none⟩))]) (Ls := [(b42, .cells #[.int .i64 n, .int .i64 n2, .slice a17 n21 c18, .slice a23 n27 c24, .slice a29 n33 c30] 27 (0, 0))]) rfl rfl rfl rfl ((sc rfl (sn _))) (by kernel_rfl) (s0 (s1 (s1 (s2 (s3 (s3 (s3 (s3 (s3 sr))))))))) (fun H F' L' hF' hL' => v_load Tryz.isAgg3 rfl ((Has.own 0 rfl).ext hF' hL') rfl) ?_
     obtain ⟨g85, r86⟩ := gd_ok r78; clear r78
     refine shM_v (v := .int .i64 (n - 1)) (ek := [(51, .int .i64 n)]) (Ls := []) rfl rfl rfl rfl ((sc rfl (sn _))) (by kernel_rfl) sm (fun H F' L' hF' hL' => v_sub rfl rfl g85) ?_
     refine shM_v (v := .pointer (some ⟨b49, 0, none⟩)) (ek := [(7, .pointer (some ⟨b49, 0, none⟩))]) (Ls := []) rfl rfl rfl rfl ((sc rfl (sn _))) (by kernel_rfl) sm (fun H F' L' hF' hL' => v_move rfl) ?_
     refine shM_v (v := .pointer (some ⟨b42, 1, none⟩)) (ek := [(5, .pointer (some ⟨b42, 0, none⟩))]) (Ls := []) rfl rfl rfl rfl ((sc rfl (sn _))) (by kernel_rfl) sm (fun H F' L' hF' hL' => v_fieldAddr fa_27_1 rfl) ?_
     refine shM_v (v := .int .i64 n2) (ek := [(55, .pointer (some ⟨b42, 1, none⟩))]) (Ls := [(b42, .cells #[.int .i64 n, .int .i64 n2, .slice a17 n21 c18, .slice a23 n27 c24, .slice a29 n33 c30] 27 (0, 0))]) rfl rfl rfl rfl ((sc rfl (sn _))) (by kernel_rfl) (s0 (s1 (s1 (s2 (s3 (s3 (s3 (s3 (s3 sr))))))))) (fun H F' L' hF' hL' => v_load Tryz.isAgg3 rfl ((Has.own 0 rfl).ext hF' hL') rfl) ?_
     obtain ⟨g87, r88⟩ := gd_ok r86; clear r86
     refine shM_v (v := .int .i64 (n2 - 1)) (ek := [(56, .int .i64 n2)]) (Ls := []) rfl rfl rfl rfl ((sc rfl (sn _))) (by kernel_rfl) sm (fun H F' L' hF' hL' => v_sub rfl rfl g87) ?_
     refine shM_v (v := .pointer (some ⟨b49, 0, none⟩)) (ek := [(7, .pointer (some ⟨b49, 0, none⟩))]) (Ls := []) rfl rfl rfl rfl ((sc rfl (sn _))) (by kernel_rfl) sm (fun H F' L' hF' hL' => v_move rfl) ?_
     refine ⟨_, [(49, .pointer (some ⟨b49, 0, none⟩)), (52, .int .i64 (n - 1))], rfl, rfl, (sc rfl (sc rfl (sn _))), by kernel_rfl, ?_⟩; intro H
     obtain ⟨n4, at_5, turn5, h89, r90⟩ := b3_ok r88; clear r88
     refine o_callG (Lb := [(b49, .cells #[.slice a50 metal2.length c51, .int .i64 q_at2, .int .u32 q_turn2] 95 (0, 0))]) (Lr := (b53, .cells #[.slice a68 n72 c69] 32 (0, 0)) :: ((b42, .cells #[.int .i64 n, .int .i64 n2, .slice a17 n21 c18, .slice a23 n27 c24, .slice a29 n33 c30] 27 (0, 0)) :: (Lb19 ++ (Lb25 ++ (Lb31 ++ (Lb37 ++ (Lb70 ++ []))))))) rfl Tryz.call8 rfl rfl rfl (pR) (oyezkit_Bell_Stroke_w h52 h89) ?_; rintro _ F91 _ hF92 hd94 hn93 ⟨rfl, rfl⟩
     replace h52 := h52.mono (iE_ok _) hF92
     replace hz71 := hz71.mono (prE_ok (iE_ok _) (prE_ok (iE_ok _) bE_ok)) hF92
     refine shO_L (lb (ln rfl)) ?_
     refine shO_nil ⟨_, rfl, hF92, [11, 9, 8, 7, 6, 0], by kernel_rfl, .inl (.inr (fun d h => by cases h; rfl)), (List.forall_mem_cons.2 ⟨sm, (List.forall_mem_cons.2 ⟨sm, (List.forall_mem_cons.2 ⟨s0 (s1 (s1 (s2 (s3 (s3 (s3 (s3 (s3 sr)))))))), (List.forall_mem_cons.2 ⟨sm, (List.forall_mem_cons.2 ⟨sm, (List.forall_mem_cons.2 ⟨s0 (s1 (s2 (s1 (s3 (s3 (s3 (s3 (s3 sr)))))))), (fun _ h => absurd h List.not_mem_nil)⟩)⟩)⟩)⟩)⟩)⟩), ?_⟩
     refine ⟨_, [(54, .pointer (some ⟨b49, 0, none⟩)), (57, .int .i64 (n2 - 1))], rfl, rfl, (sc rfl (sc rfl (sn _))), by kernel_rfl, ?_⟩; intro H
     obtain ⟨n5, at_6, turn6, h95, r96⟩ := b3_ok r90; clear r90
     refine o_callG (Lb := [(b49, .cells #[.slice a50 metal2.length c51, .int .i64 at_5, .int .u32 turn5] 95 (0, 0))]) (Lr := (b53, .cells #[.slice a68 n72 c69] 32 (0, 0)) :: ((b42, .cells #[.int .i64 n, .int .i64 n2, .slice a17 n21 c18, .slice a23 n27 c24, .slice a29 n33 c30] 27 (0, 0)) :: (Lb19 ++ (Lb25 ++ (Lb31 ++ (Lb37 ++ (Lb70 ++ []))))))) rfl Tryz.call8 rfl rfl rfl (pR) (oyezkit_Bell_Stroke_w h52 h95) ?_; rintro _ F97 _ hF98 hd100 hn99 ⟨rfl, rfl⟩
     replace h52 := h52.mono (iE_ok _) hF98
     replace hz71 := hz71.mono (prE_ok (iE_ok _) (prE_ok (iE_ok _) bE_ok)) hF98
     refine shO_L (lb (ln rfl)) ?_
     refine shO_nil ⟨_, rfl, hF98, [11, 0], by kernel_rfl, .inl (.inr (fun d h => by cases h; rfl)), (List.forall_mem_cons.2 ⟨sm, (List.forall_mem_cons.2 ⟨s0 (s1 (s2 (s1 (s3 (s3 (s3 (s3 (s3 sr)))))))), (fun _ h => absurd h List.not_mem_nil)⟩)⟩), ?_⟩
     refine ⟨_, [(59, .pointer (some ⟨b49, 0, none⟩))], rfl, rfl, (sc rfl (sn _)), by kernel_rfl, ?_⟩; intro H
     obtain ⟨ok, at_7, turn7, h101, r102⟩ := b3_ok r96; clear r96
     refine o_callG (Lb := [(b49, .cells #[.slice a50 metal2.length c51, .int .i64 at_6, .int .u32 turn6] 95 (0, 0))]) (Lr := (b53, .cells #[.slice a68 n72 c69] 32 (0, 0)) :: ((b42, .cells #[.int .i64 n, .int .i64 n2, .slice a17 n21 c18, .slice a23 n27 c24, .slice a29 n33 c30] 27 (0, 0)) :: (Lb19 ++ (Lb25 ++ (Lb31 ++ (Lb37 ++ (Lb70 ++ []))))))) rfl Tryz.call9 rfl rfl rfl (pR) (oyezkit_Bell_Seldom_w h52 h101) ?_; rintro _ F103 _ hF104 hd106 hn105 ⟨rfl, rfl⟩
     replace hz71 := hz71.mono (prE_ok (iE_ok _) (prE_ok (iE_ok _) bE_ok)) hF104
     refine shO_L (lb (ln rfl)) ?_
     refine shO_nil ⟨_, rfl, hF104, [0], by kernel_rfl, .inl (.inr (fun d h => by cases h; rfl)), (List.forall_mem_cons.2 ⟨s0 (s1 (s2 (s1 (s3 (s3 (s3 (s3 (s3 sr)))))))), (fun _ h => absurd h List.not_mem_nil)⟩), ?_⟩
     refine shM_v (v := .agg #[.int .i64 n4, .int .i64 n5, .bool ok]) (ek := [(53, .int .i64 n4), (58, .int .i64 n5), (60, .bool ok)]) (Ls := []) rfl rfl rfl rfl ((sc rfl (sc rfl (sc rfl (sn _))))) (by kernel_rfl) sm (fun H F' L' hF' hL' => v_build (v := .agg #[.int .i64 n4, .int .i64 n5, .bool ok]) rfl (by intro w; kernel_rfl)) ?_
     refine ⟨_, [(61, .agg #[.int .i64 n4, .int .i64 n5, .bool ok])], rfl, rfl, (sc rfl (sn _)), by kernel_rfl, ?_⟩; intro H
     refine o_buildSlice (cs := #[.int .i64 n4, .int .i64 n5, .bool ok]) rfl rfl (buildSlice_all slt_32 [.agg #[.int .i64 n4, .int .i64 n5, .bool ok]] rfl (by decide) (by simp [Value.cells]) (by decide)) ?_; intro b107 hb107
     refine shO_nil ⟨_, rfl, FExt.refl _, [0], by kernel_rfl, .inl (.inr (fun d h => by cases h; rfl)), (List.forall_mem_cons.2 ⟨s0 (s1 (s1 (s2 (s1 (s3 (s3 (s3 (s3 (s3 sr))))))))), (fun _ h => absurd h List.not_mem_nil)⟩), ?_⟩
     refine ⟨_, [(48, .slice a68 n72 c69), (62, .slice (some ⟨b107, 0, none⟩) 1 1)], rfl, rfl, (sc rfl (sc rfl (sn _))), by kernel_rfl, ?_⟩; intro H
     obtain ⟨l7, h108, g109, r110⟩ := ap_ok r102; clear r102
     refine o_appZ (xs := l6) (ys := [(n4, n5, ok)]) (zs := l7) rfl slt_32 rfl rfl (Nat.le_refl _) (fun _ => .c (.c (.c (.c (.s (.s (.s (.s .h)))))))) hz71 (SrcR.box (vss := [[.int .i64 n4, .int .i64 n5, .bool ok]]) (ys := [(n4, n5, ok)]) 0 rfl (prE_ok (iE_ok _) (prE_ok (iE_ok _) bE_ok)) (.cons ⟨_, _, rfl, rfl, ⟨_, _, rfl, rfl, rfl⟩⟩ .nil) rfl rfl) h108 g109 (by decide) ?_; intro a111 n115 c112 Lb113 hz114
     refine kO (kd kr) ?_
     refine shO_nil ⟨_, rfl, FExt.refl _, [], by kernel_rfl, .inl (.inl rfl), (fun _ h => absurd h List.not_mem_nil), ?_⟩
     refine ⟨_, [(8, .pointer (some ⟨b53, 0, none⟩)), (63, .slice a111 n115 c112)], rfl, rfl, (sc rfl (sc rfl (sn _))), by kernel_rfl, ?_⟩; intro H
     refine o_store (i := 1) Tryz.sizeOf32 rfl rfl rfl rfl (Nat.le_of_ble_eq_true rfl) ?_
     refine shO_L (L' := (b49, .cells #[.slice a50 metal2.length c51, .int .i64 at_7, .int .u32 turn7] 95 (0, 0)) :: ((b53, .cells #[.slice a111 n115 c112] 32 (0, 0)) :: ((b42, .cells #[.int .i64 n, .int .i64 n2, .slice a17 n21 c18, .slice a23 n27 c24, .slice a29 n33 c30] 27 (0, 0)) :: (Lb19 ++ (Lb25 ++ (Lb31 ++ (Lb37 ++ (Lb113 ++ [])))))))) rfl ?_
     refine shO_nil ⟨undef, rfl, FExt.refl _, [], by kernel_rfl, .inl (.inl rfl), (fun _ h => absurd h List.not_mem_nil), ?_⟩
     refine shM_nil ?_
     refine inBlock_n (id := 1) (shW_region ?_)
     refine ov (v_add rfl rfl (Ctr.r64 hk76 c83 g74)) rfl ?_
     refine om rfl rfl (shO_nil ?_)
     exact le kr ⟨_, hk84, at_7, turn7, l7, a111, n115, c112, Lb113, r110, (((hF81.trans hF92).trans hF98).trans hF104), rfl, (sc rfl (sc rfl (sc rfl (sc rfl (sc rfl (sc rfl (sn _))))))), hz114⟩
   obtain rfl := Ctr.zero hk76 c83
   rw [oyezlaw07_BookPleaded_l1] at r78
   refine shW_exit (andThen_exit (andThen_exit ?_))
   refine inBlock_exit ?_
   obtain ⟨rfl, rfl, rfl⟩ := inj3 r78
   exact mi kr ⟨a68, n72, c69, Lb70, (hF65.trans hF81), rfl, (sc rfl (sc rfl (sc rfl (sc rfl (sn _))))), hz71⟩
 rintro e1 F118 _ ⟨a54, n58, c55, Lb56, hF119, rfl, he117, hz57⟩
 refine shW_env _ he117 ?_; clear he117
 replace h52 := h52.mono (iE_ok _) hF119
 replace hz20 := hz20.mono (slE_ok (slE_ok (iE_ok _))) hF119
 replace hz26 := hz26.mono (iE_ok _) hF119
 replace hz32 := hz32.mono (prE_ok (iE_ok _) (prE_ok (iE_ok _) (iE_ok _))) hF119
 replace hz38 := hz38.mono (iE_ok _) hF119
 refine wsr ?_
 refine ov (v_loadA (cs := #[.int .i64 n, .int .i64 n2, .slice a17 n21 c18, .slice a23 n27 c24, .slice a29 n33 c30]) Tryz.isAgg27 Tryz.sizeOf27 rfl (Has.own 2 rfl) (Nat.le_of_ble_eq_true rfl) rfl) rfl ?_
 refine ov (v_load Tryz.isAgg32 rfl (Has.own 1 rfl) rfl) rfl ?_
 obtain ⟨l8, n6, h120, r121⟩ := b2_ok r61; clear r61
 refine o_callTO (Lb := []) (Lt := Lb19 ++ (Lb25 ++ (Lb31 ++ (Lb56 ++ [])))) (Lr := (b49, .cells #[.slice a50 metal2.length c51, .int .i64 q_at, .int .u32 q_turn] 95 (0, 0)) :: ((b53, .cells #[.slice a54 n58 c55] 32 (0, 0)) :: ((b42, .cells #[.int .i64 n, .int .i64 n2, .slice a17 n21 c18, .slice a23 n27 c24, .slice a29 n33 c30] 27 (0, 0)) :: (Lb37 ++ [])))) rfl Tryz.call10 rfl rfl rfl (pT ((fC (fC (fC fP))).trans (pA ((fC (fC (fC fP))).trans (pA ((fC (fC (fC fP))).trans (pA ((fC (fC (fC (fS fP)))).trans (pA pR)))))))) (ln (lp (lp (lp (lp (ln rfl))))))) (fun F2 h2 h3 => by rw [(SlR.caps hz20).1]; rw [(SlR.caps hz26).1]; rw [(SlR.caps hz32).1]; rw [(SlR.caps hz57).1]; exact book_Fewest_w (hz20.row (slE_ok (slE_ok (iE_ok _))) h2 (fun p hp => h3 p (List.mem_append_left _ hp))) (hz26.row (iE_ok _) h2 (fun p hp => h3 p (List.mem_append_right _ (List.mem_append_left _ hp)))) (hz32.row (prE_ok (iE_ok _) (prE_ok (iE_ok _) (iE_ok _))) h2 (fun p hp => h3 p (List.mem_append_right _ (List.mem_append_right _ (List.mem_append_left _ hp))))) (hz57.row (prE_ok (iE_ok _) (prE_ok (iE_ok _) bE_ok)) h2 (fun p hp => h3 p (List.mem_append_right _ (List.mem_append_right _ (List.mem_append_right _ (List.mem_append_left _ hp)))))) h120) (fun _ _ _ _ hq => by obtain ⟨a126, n130, c127, Lb128, rfl, rfl, hz129⟩ := hq; exact ⟨_, _, _, _, rfl, rfl, hz129.flat (fun _ _ h => h)⟩) ?_; rintro _ F122 _ hF123 hd125 hn124 ⟨a126, n130, c127, Lb128, rfl, rfl, hz129⟩
 replace h52 := h52.mono (iE_ok _) hF123
 replace hz20 := hz20.mono (slE_ok (slE_ok (iE_ok _))) hF123
 replace hz26 := hz26.mono (iE_ok _) hF123
 replace hz32 := hz32.mono (prE_ok (iE_ok _) (prE_ok (iE_ok _) (iE_ok _))) hF123
 replace hz38 := hz38.mono (iE_ok _) hF123
 replace hz57 := hz57.mono (prE_ok (iE_ok _) (prE_ok (iE_ok _) bE_ok)) hF123
 have hn132 := newp (Lb' := []) (by rfl) hd125 hn124
 replace hz129 := hz129.new fun p hp => hn132 p (by simp [hp])
 refine shO_L (lp (ln (lp (lp (lp (lp (ln rfl))))))) ?_
 refine kO (kf (fS (fS (fS (fS (fS fO))))) (kf (fS (fS (fS (fS (fS fO))))) (kf (fS (fS (fS (fS (fS fO))))) kr))) ?_
 refine om rfl rfl (ox rfl rfl rfl (ox rfl rfl rfl (oa rfl rfl (oa rfl rfl (nsr ?_)))))
 refine ov (v_loadA (cs := #[.int .i64 n, .int .i64 n2, .slice a17 n21 c18, .slice a23 n27 c24, .slice a29 n33 c30]) Tryz.isAgg27 Tryz.sizeOf27 rfl (Has.own 2 rfl) (Nat.le_of_ble_eq_true rfl) rfl) rfl ?_
 refine ov (v_load Tryz.isAgg32 rfl (Has.own 1 rfl) rfl) rfl ?_
 obtain rfl := (SlR.caps hz20).1
 refine shO_freezeR (Nat.le_refl _) (slE_ok (slE_ok (iE_ok _))) (fC (fC (fC (fS fP)))) hz20 ?_; intro F133 hF134 h135
 replace h52 := h52.mono (iE_ok _) hF134
 replace hz26 := hz26.mono (iE_ok _) hF134
 replace hz32 := hz32.mono (prE_ok (iE_ok _) (prE_ok (iE_ok _) (iE_ok _))) hF134
 replace hz38 := hz38.mono (iE_ok _) hF134
 replace hz57 := hz57.mono (prE_ok (iE_ok _) (prE_ok (iE_ok _) bE_ok)) hF134
 replace hz129 := hz129.mono (iE_ok _) hF134
 obtain rfl := (SlR.caps hz26).1
 refine shO_freezeR (Nat.le_refl _) (iE_ok _) (fC (fC (fC (fS fP)))) hz26 ?_; intro F136 hF137 h138
 replace h52 := h52.mono (iE_ok _) hF137
 replace h135 := h135.mono (slE_ok (slE_ok (iE_ok _))) hF137
 replace hz32 := hz32.mono (prE_ok (iE_ok _) (prE_ok (iE_ok _) (iE_ok _))) hF137
 replace hz38 := hz38.mono (iE_ok _) hF137
 replace hz57 := hz57.mono (prE_ok (iE_ok _) (prE_ok (iE_ok _) bE_ok)) hF137
 replace hz129 := hz129.mono (iE_ok _) hF137
 obtain rfl := (SlR.caps hz32).1
 refine shO_freezeR (Nat.le_refl _) (prE_ok (iE_ok _) (prE_ok (iE_ok _) (iE_ok _))) (fC (fC (fC (fS fP)))) hz32 ?_; intro F139 hF140 h141
 replace h52 := h52.mono (iE_ok _) hF140
 replace h135 := h135.mono (slE_ok (slE_ok (iE_ok _))) hF140
 replace h138 := h138.mono (iE_ok _) hF140
 replace hz38 := hz38.mono (iE_ok _) hF140
 replace hz57 := hz57.mono (prE_ok (iE_ok _) (prE_ok (iE_ok _) bE_ok)) hF140
 replace hz129 := hz129.mono (iE_ok _) hF140
 obtain rfl := (SlR.caps hz57).1
 refine shO_freezeR (Nat.le_refl _) (prE_ok (iE_ok _) (prE_ok (iE_ok _) bE_ok)) (fC (fC (fC (fS fP)))) hz57 ?_; intro F142 hF143 h144
 replace h52 := h52.mono (iE_ok _) hF143
 replace h135 := h135.mono (slE_ok (slE_ok (iE_ok _))) hF143
 replace h138 := h138.mono (iE_ok _) hF143
 replace h141 := h141.mono (prE_ok (iE_ok _) (prE_ok (iE_ok _) (iE_ok _))) hF143
 replace hz38 := hz38.mono (iE_ok _) hF143
 replace hz129 := hz129.mono (iE_ok _) hF143
 obtain ⟨l9, n7, h145, r146⟩ := b2_ok r121; clear r121
 refine o_call0 rfl Tryz.call11 rfl rfl rfl (book_Excludes_w h135 h138 h141 h144 h145) ?_; rintro _ F147 _ hF148 hn149 ⟨a151, c152, rfl, rfl, h153⟩
 replace h52 := h52.mono (iE_ok _) hF148
 replace h135 := h135.mono (slE_ok (slE_ok (iE_ok _))) hF148
 replace h138 := h138.mono (iE_ok _) hF148
 replace h141 := h141.mono (prE_ok (iE_ok _) (prE_ok (iE_ok _) (iE_ok _))) hF148
 replace h144 := h144.mono (prE_ok (iE_ok _) (prE_ok (iE_ok _) bE_ok)) hF148
 replace hz38 := hz38.mono (iE_ok _) hF148
 replace hz129 := hz129.mono (iE_ok _) hF148
 refine shO_L (ln rfl) ?_
 refine om rfl rfl (ox rfl rfl rfl (ox rfl rfl rfl (oa rfl rfl (oa rfl rfl (nsr ?_)))))
 refine ov (v_loadA (cs := #[.int .i64 n, .int .i64 n2, .slice a17 l.length c18, .slice a23 l2.length c24, .slice a29 l3.length c30]) Tryz.isAgg27 Tryz.sizeOf27 rfl (Has.own 2 rfl) (Nat.le_of_ble_eq_true rfl) rfl) rfl ?_
 refine ov (v_load Tryz.isAgg32 rfl (Has.own 1 rfl) rfl) rfl ?_
 obtain ⟨l10, n8, h154, r155⟩ := b2_ok r146; clear r146
 refine o_call0 rfl Tryz.call12 rfl rfl rfl (book_Together_w h135 h138 h141 h144 h154) ?_; rintro _ F156 _ hF157 hn158 ⟨a160, c161, rfl, rfl, h162⟩
 replace h52 := h52.mono (iE_ok _) hF157
 replace h135 := h135.mono (slE_ok (slE_ok (iE_ok _))) hF157
 replace h138 := h138.mono (iE_ok _) hF157
 replace h141 := h141.mono (prE_ok (iE_ok _) (prE_ok (iE_ok _) (iE_ok _))) hF157
 replace h144 := h144.mono (prE_ok (iE_ok _) (prE_ok (iE_ok _) bE_ok)) hF157
 replace h153 := h153.mono (iE_ok _) hF157
 replace hz38 := hz38.mono (iE_ok _) hF157
 replace hz129 := hz129.mono (iE_ok _) hF157
 refine shO_L (ln rfl) ?_
 refine om rfl rfl (ox rfl rfl rfl (ox rfl rfl rfl (oa rfl rfl (oa rfl rfl (shO_nil (shW_seq ?_))))))
 obtain ⟨k2, h163, r164⟩ := b1_ok r155; clear r155
 refine shW_join (fun e1 F1 L1 => F156 = F1 ∧ L1 = ((b49, .cells #[.slice a50 metal2.length c51, .int .i64 q_at, .int .u32 q_turn] 95 (0, 0)) :: ((b53, .cells #[.slice a54 l5.length c55] 32 (0, 0)) :: ((b42, .cells #[.int .i64 n, .int .i64 n2, .slice a17 l.length c18, .slice a23 l2.length c24, .slice a29 l3.length c30] 27 (0, 0)) :: (Lb37 ++ (Lb128 ++ []))))) ∧ e1.sub [(5, .pointer (some ⟨b42, 0, none⟩)), (6, .slice a35 n39 c36), (7, .pointer (some ⟨b49, 0, none⟩)), (8, .pointer (some ⟨b53, 0, none⟩)), (9, .slice a126 n130 c127), (11, .slice a151 l9.length c152), (12, .int .i64 n7), (13, .slice a160 l10.length c161), (14, .int .i64 n8), (126, .bool k2)]) ?_ ?_
 · clear r164
   refine shW_region (om rfl rfl ?_)
   refine ov (v_neq rfl rfl) rfl ?_
   refine om rfl rfl ?_
   by_cases c165 : n6 ≠ 0
   · have r166 := ite_t h163 c165; clear h163
     refine shO_off (b' := true) 85 rfl (Env.isT rfl c165) rfl rfl (shO_off (b' := true) 85 rfl (Env.isT rfl c165) rfl rfl (shO_off (b' := true) 85 rfl (Env.isT rfl c165) rfl rfl (shO_off (b' := true) 85 rfl (Env.isT rfl c165) rfl rfl (shO_off (b' := true) 85 rfl (Env.isT rfl c165) rfl rfl (shO_off (b' := true) 85 rfl (Env.isT rfl c165) rfl rfl ?_)))))
     refine ov (v_pick_t (evD_true rfl c165) rfl) rfl ?_
     refine om rfl rfl (shO_off (b' := true) 93 rfl rfl rfl rfl (shO_off (b' := true) 93 rfl rfl rfl rfl (shO_off (b' := true) 93 rfl rfl rfl rfl (shO_off (b' := true) 93 rfl rfl rfl rfl (shO_off (b' := true) 93 rfl rfl rfl rfl (shO_off (b' := true) 93 rfl rfl rfl rfl ?_))))))
     refine ov (v_pick_t rfl rfl) rfl ?_
     refine om rfl rfl (shO_off (b' := true) 101 rfl rfl rfl rfl (shO_off (b' := true) 101 rfl rfl rfl rfl (shO_off (b' := true) 101 rfl rfl rfl rfl (shO_offU 104 rfl rfl rfl (shO_offU 104 rfl rfl rfl (shO_off (b' := true) 101 rfl rfl rfl rfl ?_))))))
     refine ov (v_pick_t rfl rfl) rfl ?_
     refine om rfl rfl (shO_off (b' := true) 109 rfl rfl rfl rfl (shO_off (b' := true) 109 rfl rfl rfl rfl (shO_off (b' := true) 109 rfl rfl rfl rfl (shO_offU 112 rfl rfl rfl (shO_offU 112 rfl rfl rfl (shO_off (b' := true) 109 rfl rfl rfl rfl ?_))))))
     refine ov (v_pick_t rfl rfl) rfl ?_
     refine om rfl rfl (shO_off (b' := true) 117 rfl rfl rfl rfl (shO_off (b' := true) 117 rfl rfl rfl rfl (shO_off (b' := true) 117 rfl rfl rfl rfl ?_)))
     refine ov (v_pick_t rfl rfl) rfl ?_
     refine om rfl rfl (shO_off (b' := true) 122 rfl rfl rfl rfl (shO_off (b' := true) 122 rfl rfl rfl rfl (shO_off (b' := true) 122 rfl rfl rfl rfl ?_)))
     refine ov (v_pick_t rfl rfl) rfl ?_
     refine shO_nil ?_
     obtain rfl := inj1 r166
     exact mi (kc (kc (kc (kg (fS fP) kr)))) ⟨rfl, rfl, (sc rfl (sc rfl (sc rfl (sc rfl (sc rfl (sc rfl (sc rfl (sc rfl (sc rfl (sc rfl (sn _)))))))))))⟩
   have r167 := ite_f h163 c165; clear h163
   refine shO_on (b := false) 85 rfl (Env.isF rfl c165) (om rfl rfl (shO_on (b := false) 85 rfl (Env.isF rfl c165) ?_))
   refine ov (v_eql rfl rfl) rfl ?_
   refine shO_on (b := false) 85 rfl (Env.isF rfl c165) (om rfl rfl (shO_on (b := false) 85 rfl (Env.isF rfl c165) ?_))
   refine ov ((v_lenS Tryz.underlying24 rfl).i (SlR.lenI hz129)) rfl ?_
   refine shO_on (b := false) 85 rfl (Env.isF rfl c165) ?_
   refine ov (v_gtrK rfl rfl) rfl ?_
   refine shO_on (b := false) 85 rfl (Env.isF rfl c165) ?_
   refine ov (v_neqB Tryz.underlying4 rfl rfl) rfl ?_
   refine ov (v_pick_f (evD_false rfl c165) rfl) rfl ?_
   refine om rfl rfl ?_
   by_cases c168 : (decide (n7 = 0)) ≠ (decide (0 < (l8.length : Int)))
   · have r169 := ite_t r167 c168; clear r167
     refine shO_off (b' := true) 93 rfl (Env.isT rfl c168) rfl rfl (shO_off (b' := true) 93 rfl (Env.isT rfl c168) rfl rfl (shO_off (b' := true) 93 rfl (Env.isT rfl c168) rfl rfl (shO_off (b' := true) 93 rfl (Env.isT rfl c168) rfl rfl (shO_off (b' := true) 93 rfl (Env.isT rfl c168) rfl rfl (shO_off (b' := true) 93 rfl (Env.isT rfl c168) rfl rfl ?_)))))
     refine ov (v_pick_t (evD_true rfl c168) rfl) rfl ?_
     refine om rfl rfl (shO_off (b' := true) 101 rfl rfl rfl rfl (shO_off (b' := true) 101 rfl rfl rfl rfl (shO_off (b' := true) 101 rfl rfl rfl rfl (shO_offU 104 rfl rfl rfl (shO_offU 104 rfl rfl rfl (shO_off (b' := true) 101 rfl rfl rfl rfl ?_))))))
     refine ov (v_pick_t rfl rfl) rfl ?_
     refine om rfl rfl (shO_off (b' := true) 109 rfl rfl rfl rfl (shO_off (b' := true) 109 rfl rfl rfl rfl (shO_off (b' := true) 109 rfl rfl rfl rfl (shO_offU 112 rfl rfl rfl (shO_offU 112 rfl rfl rfl (shO_off (b' := true) 109 rfl rfl rfl rfl ?_))))))
     refine ov (v_pick_t rfl rfl) rfl ?_
     refine om rfl rfl (shO_off (b' := true) 117 rfl rfl rfl rfl (shO_off (b' := true) 117 rfl rfl rfl rfl (shO_off (b' := true) 117 rfl rfl rfl rfl ?_)))
     refine ov (v_pick_t rfl rfl) rfl ?_
     refine om rfl rfl (shO_off (b' := true) 122 rfl rfl rfl rfl (shO_off (b' := true) 122 rfl rfl rfl rfl (shO_off (b' := true) 122 rfl rfl rfl rfl ?_)))
     refine ov (v_pick_t rfl rfl) rfl ?_
     refine shO_nil ?_
     obtain rfl := inj1 r169
     exact mi (kc (kc (kc (kg (fS fP) kr)))) ⟨rfl, rfl, (sc rfl (sc rfl (sc rfl (sc rfl (sc rfl (sc rfl (sc rfl (sc rfl (sc rfl (sc rfl (sn _)))))))))))⟩
   have r170 := ite_f r167 c168; clear r167
   refine shO_on (b := false) 93 rfl (Env.isF rfl c168) (om rfl rfl (shO_on (b := false) 93 rfl (Env.isF rfl c168) ?_))
   refine ov (v_eql rfl rfl) rfl ?_
   refine shO_on (b := false) 93 rfl (Env.isF rfl c168) (om rfl rfl (shO_on (b := false) 93 rfl (Env.isF rfl c168) ?_))
   refine ov ((v_lenS Tryz.underlying24 rfl).i (SlR.lenI hz129)) rfl ?_
   refine shO_on (b := false) 93 rfl (Env.isF rfl c168) ?_
   refine ov (v_eql rfl rfl) rfl ?_
   refine shO_on (b := false) 93 rfl (Env.isF rfl c168) ?_
   refine ov (v_neqB Tryz.underlying4 rfl rfl) rfl ?_
   refine ov (v_pick_f (evD_false rfl c168) rfl) rfl ?_
   refine om rfl rfl ?_
   by_cases c171 : (decide (n8 = 0)) ≠ (decide ((l8.length : Int) = 0))
   · have r172 := ite_t r170 c171; clear r170
     refine shO_off (b' := true) 101 rfl (Env.isT rfl c171) rfl rfl (shO_off (b' := true) 101 rfl (Env.isT rfl c171) rfl rfl (shO_off (b' := true) 101 rfl (Env.isT rfl c171) rfl rfl (shO_offU 104 rfl rfl rfl (shO_offU 104 rfl rfl rfl (shO_off (b' := true) 101 rfl (Env.isT rfl c171) rfl rfl ?_)))))
     refine ov (v_pick_t (evD_true rfl c171) rfl) rfl ?_
     refine om rfl rfl (shO_off (b' := true) 109 rfl rfl rfl rfl (shO_off (b' := true) 109 rfl rfl rfl rfl (shO_off (b' := true) 109 rfl rfl rfl rfl (shO_offU 112 rfl rfl rfl (shO_offU 112 rfl rfl rfl (shO_off (b' := true) 109 rfl rfl rfl rfl ?_))))))
     refine ov (v_pick_t rfl rfl) rfl ?_
     refine om rfl rfl (shO_off (b' := true) 117 rfl rfl rfl rfl (shO_off (b' := true) 117 rfl rfl rfl rfl (shO_off (b' := true) 117 rfl rfl rfl rfl ?_)))
     refine ov (v_pick_t rfl rfl) rfl ?_
     refine om rfl rfl (shO_off (b' := true) 122 rfl rfl rfl rfl (shO_off (b' := true) 122 rfl rfl rfl rfl (shO_off (b' := true) 122 rfl rfl rfl rfl ?_)))
     refine ov (v_pick_t rfl rfl) rfl ?_
     refine shO_nil ?_
     obtain rfl := inj1 r172
     exact mi (kc (kc (kc (kg (fS fP) kr)))) ⟨rfl, rfl, (sc rfl (sc rfl (sc rfl (sc rfl (sc rfl (sc rfl (sc rfl (sc rfl (sc rfl (sc rfl (sn _)))))))))))⟩
   have r173 := ite_f r170 c171; clear r170
   refine shO_on (b := false) 101 rfl (Env.isF rfl c171) (om rfl rfl (shO_on (b := false) 101 rfl (Env.isF rfl c171) ?_))
   refine ov (v_neq rfl rfl) rfl ?_
   refine shO_on (b := false) 101 rfl (Env.isF rfl c171) (om rfl rfl ?_)
   by_cases c174 : n7 ≠ 0
   · have r175 := ite_t r173 c174; clear r173
     refine shO_on (b := true) 104 rfl (Env.isT rfl c174) (om rfl rfl (shO_on (b := true) 104 rfl (Env.isT rfl c174) ?_))
     refine ov (v_neq rfl rfl) rfl ?_
     refine shO_on (b := false) 101 rfl (Env.isF rfl c171) ?_
     refine ov (v_pick_t (evD_true rfl c174) rfl) rfl ?_
     refine ov (v_pick_f (evD_false rfl c171) rfl) rfl ?_
     refine om rfl rfl ?_
     by_cases c176 : n7 ≠ 6
     · have r177 := ite_t r175 c176; clear r175
       refine shO_off (b' := true) 109 rfl (Env.isT rfl c176) rfl rfl (shO_off (b' := true) 109 rfl (Env.isT rfl c176) rfl rfl (shO_off (b' := true) 109 rfl (Env.isT rfl c176) rfl rfl (shO_offU 112 rfl rfl rfl (shO_offU 112 rfl rfl rfl (shO_off (b' := true) 109 rfl (Env.isT rfl c176) rfl rfl ?_)))))
       refine ov (v_pick_t (evD_true rfl c176) rfl) rfl ?_
       refine om rfl rfl (shO_off (b' := true) 117 rfl rfl rfl rfl (shO_off (b' := true) 117 rfl rfl rfl rfl (shO_off (b' := true) 117 rfl rfl rfl rfl ?_)))
       refine ov (v_pick_t rfl rfl) rfl ?_
       refine om rfl rfl (shO_off (b' := true) 122 rfl rfl rfl rfl (shO_off (b' := true) 122 rfl rfl rfl rfl (shO_off (b' := true) 122 rfl rfl rfl rfl ?_)))
       refine ov (v_pick_t rfl rfl) rfl ?_
       refine shO_nil ?_
       obtain rfl := inj1 r177
       exact mi (kc (kc (kc (kg (fS fP) kr)))) ⟨rfl, rfl, (sc rfl (sc rfl (sc rfl (sc rfl (sc rfl (sc rfl (sc rfl (sc rfl (sc rfl (sc rfl (sn _)))))))))))⟩
     have r178 := ite_f r175 c176; clear r175
     refine shO_on (b := false) 109 rfl (Env.isF rfl c176) (om rfl rfl (shO_on (b := false) 109 rfl (Env.isF rfl c176) ?_))
     refine ov (v_neq rfl rfl) rfl ?_
     refine shO_on (b := false) 109 rfl (Env.isF rfl c176) (om rfl rfl ?_)
     by_cases c179 : n8 ≠ 0
     · have r180 := ite_t r178 c179; clear r178
       refine shO_on (b := true) 112 rfl (Env.isT rfl c179) (om rfl rfl (shO_on (b := true) 112 rfl (Env.isT rfl c179) ?_))
       refine ov (v_neq rfl rfl) rfl ?_
       refine shO_on (b := false) 109 rfl (Env.isF rfl c176) ?_
       refine ov (v_pick_t (evD_true rfl c179) rfl) rfl ?_
       refine ov (v_pick_f (evD_false rfl c176) rfl) rfl ?_
       refine om rfl rfl ?_
       by_cases c181 : n8 ≠ 6
       · have r182 := ite_t r180 c181; clear r180
         refine shO_off (b' := true) 117 rfl (Env.isT rfl c181) rfl rfl (shO_off (b' := true) 117 rfl (Env.isT rfl c181) rfl rfl (shO_off (b' := true) 117 rfl (Env.isT rfl c181) rfl rfl ?_))
         refine ov (v_pick_t (evD_true rfl c181) rfl) rfl ?_
         refine om rfl rfl (shO_off (b' := true) 122 rfl rfl rfl rfl (shO_off (b' := true) 122 rfl rfl rfl rfl (shO_off (b' := true) 122 rfl rfl rfl rfl ?_)))
         refine ov (v_pick_t rfl rfl) rfl ?_
         refine shO_nil ?_
         obtain rfl := inj1 r182
         exact mi (kc (kc (kc (kg (fS fP) kr)))) ⟨rfl, rfl, (sc rfl (sc rfl (sc rfl (sc rfl (sc rfl (sc rfl (sc rfl (sc rfl (sc rfl (sc rfl (sn _)))))))))))⟩
       have r183 := ite_f r180 c181; clear r180
       refine shO_on (b := false) 117 rfl (Env.isF rfl c181) (om rfl rfl (shO_on (b := false) 117 rfl (Env.isF rfl c181) ?_))
       obtain ⟨ok2, h184, r185⟩ := b1_ok r183; clear r183
       refine o_callT (Lt := Lb128 ++ []) (Lr := (b49, .cells #[.slice a50 metal2.length c51, .int .i64 q_at, .int .u32 q_turn] 95 (0, 0)) :: ((b53, .cells #[.slice a54 l5.length c55] 32 (0, 0)) :: ((b42, .cells #[.int .i64 n, .int .i64 n2, .slice a17 l.length c18, .slice a23 l2.length c24, .slice a29 l3.length c30] 27 (0, 0)) :: (Lb37 ++ [])))) rfl Tryz.call13 rfl rfl rfl (pT ((fC (fC (fC fP))).trans (pA pR)) (lp (ln rfl))) (fun F2 h2 h3 => by rw [(SlR.caps hz129).1]; exact slices_IsSorted_int_int_w (hz129.row (iE_ok _) h2 (fun p hp => h3 p (List.mem_append_left _ hp))) h184) ?_
       refine shO_on (b := false) 117 rfl (Env.isF rfl c181) ?_
       refine ov (v_notB rfl) rfl ?_
       refine ov (v_pick_f (evD_false rfl c181) rfl) rfl ?_
       refine om rfl rfl ?_
       rcases bool_two (!ok2) with c186 | c186
       · have r187 := bt r185 c186; clear r185
         refine shO_off (b' := true) 122 rfl (EnvB rfl c186) rfl rfl (shO_off (b' := true) 122 rfl (EnvB rfl c186) rfl rfl (shO_off (b' := true) 122 rfl (EnvB rfl c186) rfl rfl ?_))
         refine ov (v_pick_t (evB rfl c186) rfl) rfl ?_
         refine shO_nil ?_
         obtain rfl := inj1 r187
         exact mi (kc (kc (kc (kg (fS fP) kr)))) ⟨rfl, rfl, (sc rfl (sc rfl (sc rfl (sc rfl (sc rfl (sc rfl (sc rfl (sc rfl (sc rfl (sc rfl (sn _)))))))))))⟩
       have r188 := bf r185 c186; clear r185
       refine shO_on (b := false) 122 rfl (EnvB rfl c186) (om rfl rfl (shO_on (b := false) 122 rfl (EnvB rfl c186) ?_))
       obtain ⟨ok3, h189, r190⟩ := b1_ok r188; clear r188
       refine o_callV rfl Tryz.call13 rfl rfl rfl (slices_IsSorted_int_int_w h153 h189) ?_
       refine shO_on (b := false) 122 rfl (EnvB rfl c186) ?_
       refine ov (v_notB rfl) rfl ?_
       refine ov (v_pick_f (evB rfl c186) rfl) rfl ?_
       refine shO_nil ?_
       obtain rfl := inj1 r190
       exact mi (kc (kc (kc (kg (fS fP) kr)))) ⟨rfl, rfl, (sc rfl (sc rfl (sc rfl (sc rfl (sc rfl (sc rfl (sc rfl (sc rfl (sc rfl (sc rfl (sn _)))))))))))⟩
     have r191 := ite_f r178 c179; clear r178
     refine shO_off (b' := false) 112 rfl (Env.isF rfl c179) rfl rfl (shO_off (b' := false) 112 rfl (Env.isF rfl c179) rfl rfl (shO_on (b := false) 109 rfl (Env.isF rfl c176) ?_))
     refine ov (v_pick_f (evD_false rfl c179) rfl) rfl ?_
     refine ov (v_pick_f (evD_false rfl c176) rfl) rfl ?_
     refine om rfl rfl (shO_on (b := false) 117 rfl rfl (om rfl rfl (shO_on (b := false) 117 rfl rfl ?_)))
     obtain ⟨ok4, h192, r193⟩ := b1_ok r191; clear r191
     refine o_callT (Lt := Lb128 ++ []) (Lr := (b49, .cells #[.slice a50 metal2.length c51, .int .i64 q_at, .int .u32 q_turn] 95 (0, 0)) :: ((b53, .cells #[.slice a54 l5.length c55] 32 (0, 0)) :: ((b42, .cells #[.int .i64 n, .int .i64 n2, .slice a17 l.length c18, .slice a23 l2.length c24, .slice a29 l3.length c30] 27 (0, 0)) :: (Lb37 ++ [])))) rfl Tryz.call13 rfl rfl rfl (pT ((fC (fC (fC fP))).trans (pA pR)) (lp (ln rfl))) (fun F2 h2 h3 => by rw [(SlR.caps hz129).1]; exact slices_IsSorted_int_int_w (hz129.row (iE_ok _) h2 (fun p hp => h3 p (List.mem_append_left _ hp))) h192) ?_
     refine shO_on (b := false) 117 rfl rfl ?_
     refine ov (v_notB rfl) rfl ?_
     refine ov (v_pick_f rfl rfl) rfl ?_
     refine om rfl rfl ?_
     rcases bool_two (!ok4) with c194 | c194
     · have r195 := bt r193 c194; clear r193
       refine shO_off (b' := true) 122 rfl (EnvB rfl c194) rfl rfl (shO_off (b' := true) 122 rfl (EnvB rfl c194) rfl rfl (shO_off (b' := true) 122 rfl (EnvB rfl c194) rfl rfl ?_))
       refine ov (v_pick_t (evB rfl c194) rfl) rfl ?_
       refine shO_nil ?_
       obtain rfl := inj1 r195
       exact mi (kc (kc (kc (kg (fS fP) kr)))) ⟨rfl, rfl, (sc rfl (sc rfl (sc rfl (sc rfl (sc rfl (sc rfl (sc rfl (sc rfl (sc rfl (sc rfl (sn _)))))))))))⟩
     have r196 := bf r193 c194; clear r193
     refine shO_on (b := false) 122 rfl (EnvB rfl c194) (om rfl rfl (shO_on (b := false) 122 rfl (EnvB rfl c194) ?_))
     obtain ⟨ok5, h197, r198⟩ := b1_ok r196; clear r196
     refine o_callV rfl Tryz.call13 rfl rfl rfl (slices_IsSorted_int_int_w h153 h197) ?_
     refine shO_on (b := false) 122 rfl (EnvB rfl c194) ?_
     refine ov (v_notB rfl) rfl ?_
     refine ov (v_pick_f (evB rfl c194) rfl) rfl ?_
     refine shO_nil ?_
     obtain rfl := inj1 r198
     exact mi (kc (kc (kc (kg (fS fP) kr)))) ⟨rfl, rfl, (sc rfl (sc rfl (sc rfl (sc rfl (sc rfl (sc rfl (sc rfl (sc rfl (sc rfl (sc rfl (sn _)))))))))))⟩
   have r199 := ite_f r173 c174; clear r173
   refine shO_off (b' := false) 104 rfl (Env.isF rfl c174) rfl rfl (shO_off (b' := false) 104 rfl (Env.isF rfl c174) rfl rfl (shO_on (b := false) 101 rfl (Env.isF rfl c171) ?_))
   refine ov (v_pick_f (evD_false rfl c174) rfl) rfl ?_
   refine ov (v_pick_f (evD_false rfl c171) rfl) rfl ?_
   refine om rfl rfl (shO_on (b := false) 109 rfl rfl (om rfl rfl (shO_on (b := false) 109 rfl rfl ?_)))
   refine ov (v_neq rfl rfl) rfl ?_
   refine shO_on (b := false) 109 rfl rfl (om rfl rfl ?_)
   by_cases c200 : n8 ≠ 0
   · have r201 := ite_t r199 c200; clear r199
     refine shO_on (b := true) 112 rfl (Env.isT rfl c200) (om rfl rfl (shO_on (b := true) 112 rfl (Env.isT rfl c200) ?_))
     refine ov (v_neq rfl rfl) rfl ?_
     refine shO_on (b := false) 109 rfl rfl ?_
     refine ov (v_pick_t (evD_true rfl c200) rfl) rfl ?_
     refine ov (v_pick_f rfl rfl) rfl ?_
     refine om rfl rfl ?_
     by_cases c202 : n8 ≠ 6
     · have r203 := ite_t r201 c202; clear r201
       refine shO_off (b' := true) 117 rfl (Env.isT rfl c202) rfl rfl (shO_off (b' := true) 117 rfl (Env.isT rfl c202) rfl rfl (shO_off (b' := true) 117 rfl (Env.isT rfl c202) rfl rfl ?_))
       refine ov (v_pick_t (evD_true rfl c202) rfl) rfl ?_
       refine om rfl rfl (shO_off (b' := true) 122 rfl rfl rfl rfl (shO_off (b' := true) 122 rfl rfl rfl rfl (shO_off (b' := true) 122 rfl rfl rfl rfl ?_)))
       refine ov (v_pick_t rfl rfl) rfl ?_
       refine shO_nil ?_
       obtain rfl := inj1 r203
       exact mi (kc (kc (kc (kg (fS fP) kr)))) ⟨rfl, rfl, (sc rfl (sc rfl (sc rfl (sc rfl (sc rfl (sc rfl (sc rfl (sc rfl (sc rfl (sc rfl (sn _)))))))))))⟩
     have r204 := ite_f r201 c202; clear r201
     refine shO_on (b := false) 117 rfl (Env.isF rfl c202) (om rfl rfl (shO_on (b := false) 117 rfl (Env.isF rfl c202) ?_))
     obtain ⟨ok6, h205, r206⟩ := b1_ok r204; clear r204
     refine o_callT (Lt := Lb128 ++ []) (Lr := (b49, .cells #[.slice a50 metal2.length c51, .int .i64 q_at, .int .u32 q_turn] 95 (0, 0)) :: ((b53, .cells #[.slice a54 l5.length c55] 32 (0, 0)) :: ((b42, .cells #[.int .i64 n, .int .i64 n2, .slice a17 l.length c18, .slice a23 l2.length c24, .slice a29 l3.length c30] 27 (0, 0)) :: (Lb37 ++ [])))) rfl Tryz.call13 rfl rfl rfl (pT ((fC (fC (fC fP))).trans (pA pR)) (lp (ln rfl))) (fun F2 h2 h3 => by rw [(SlR.caps hz129).1]; exact slices_IsSorted_int_int_w (hz129.row (iE_ok _) h2 (fun p hp => h3 p (List.mem_append_left _ hp))) h205) ?_
     refine shO_on (b := false) 117 rfl (Env.isF rfl c202) ?_
     refine ov (v_notB rfl) rfl ?_
     refine ov (v_pick_f (evD_false rfl c202) rfl) rfl ?_
     refine om rfl rfl ?_
     rcases bool_two (!ok6) with c207 | c207
     · have r208 := bt r206 c207; clear r206
       refine shO_off (b' := true) 122 rfl (EnvB rfl c207) rfl rfl (shO_off (b' := true) 122 rfl (EnvB rfl c207) rfl rfl (shO_off (b' := true) 122 rfl (EnvB rfl c207) rfl rfl ?_))
       refine ov (v_pick_t (evB rfl c207) rfl) rfl ?_
       refine shO_nil ?_
       obtain rfl := inj1 r208
       exact mi (kc (kc (kc (kg (fS fP) kr)))) ⟨rfl, rfl, (sc rfl (sc rfl (sc rfl (sc rfl (sc rfl (sc rfl (sc rfl (sc rfl (sc rfl (sc rfl (sn _)))))))))))⟩
     have r209 := bf r206 c207; clear r206
     refine shO_on (b := false) 122 rfl (EnvB rfl c207) (om rfl rfl (shO_on (b := false) 122 rfl (EnvB rfl c207) ?_))
     obtain ⟨ok7, h210, r211⟩ := b1_ok r209; clear r209
     refine o_callV rfl Tryz.call13 rfl rfl rfl (slices_IsSorted_int_int_w h153 h210) ?_
     refine shO_on (b := false) 122 rfl (EnvB rfl c207) ?_
     refine ov (v_notB rfl) rfl ?_
     refine ov (v_pick_f (evB rfl c207) rfl) rfl ?_
     refine shO_nil ?_
     obtain rfl := inj1 r211
     exact mi (kc (kc (kc (kg (fS fP) kr)))) ⟨rfl, rfl, (sc rfl (sc rfl (sc rfl (sc rfl (sc rfl (sc rfl (sc rfl (sc rfl (sc rfl (sc rfl (sn _)))))))))))⟩
   have r212 := ite_f r199 c200; clear r199
   refine shO_off (b' := false) 112 rfl (Env.isF rfl c200) rfl rfl (shO_off (b' := false) 112 rfl (Env.isF rfl c200) rfl rfl (shO_on (b := false) 109 rfl rfl ?_))
   refine ov (v_pick_f (evD_false rfl c200) rfl) rfl ?_
   refine ov (v_pick_f rfl rfl) rfl ?_
   refine om rfl rfl (shO_on (b := false) 117 rfl rfl (om rfl rfl (shO_on (b := false) 117 rfl rfl ?_)))
   obtain ⟨ok8, h213, r214⟩ := b1_ok r212; clear r212
   refine o_callT (Lt := Lb128 ++ []) (Lr := (b49, .cells #[.slice a50 metal2.length c51, .int .i64 q_at, .int .u32 q_turn] 95 (0, 0)) :: ((b53, .cells #[.slice a54 l5.length c55] 32 (0, 0)) :: ((b42, .cells #[.int .i64 n, .int .i64 n2, .slice a17 l.length c18, .slice a23 l2.length c24, .slice a29 l3.length c30] 27 (0, 0)) :: (Lb37 ++ [])))) rfl Tryz.call13 rfl rfl rfl (pT ((fC (fC (fC fP))).trans (pA pR)) (lp (ln rfl))) (fun F2 h2 h3 => by rw [(SlR.caps hz129).1]; exact slices_IsSorted_int_int_w (hz129.row (iE_ok _) h2 (fun p hp => h3 p (List.mem_append_left _ hp))) h213) ?_
   refine shO_on (b := false) 117 rfl rfl ?_
   refine ov (v_notB rfl) rfl ?_
   refine ov (v_pick_f rfl rfl) rfl ?_
   refine om rfl rfl ?_
   rcases bool_two (!ok8) with c215 | c215
   · have r216 := bt r214 c215; clear r214
     refine shO_off (b' := true) 122 rfl (EnvB rfl c215) rfl rfl (shO_off (b' := true) 122 rfl (EnvB rfl c215) rfl rfl (shO_off (b' := true) 122 rfl (EnvB rfl c215) rfl rfl ?_))
     refine ov (v_pick_t (evB rfl c215) rfl) rfl ?_
     refine shO_nil ?_
     obtain rfl := inj1 r216
     exact mi (kc (kc (kc (kg (fS fP) kr)))) ⟨rfl, rfl, (sc rfl (sc rfl (sc rfl (sc rfl (sc rfl (sc rfl (sc rfl (sc rfl (sc rfl (sc rfl (sn _)))))))))))⟩
   have r217 := bf r214 c215; clear r214
   refine shO_on (b := false) 122 rfl (EnvB rfl c215) (om rfl rfl (shO_on (b := false) 122 rfl (EnvB rfl c215) ?_))
   obtain ⟨ok9, h218, r219⟩ := b1_ok r217; clear r217
   refine o_callV rfl Tryz.call13 rfl rfl rfl (slices_IsSorted_int_int_w h153 h218) ?_
   refine shO_on (b := false) 122 rfl (EnvB rfl c215) ?_
   refine ov (v_notB rfl) rfl ?_
   refine ov (v_pick_f (evB rfl c215) rfl) rfl ?_
   refine shO_nil ?_
   obtain rfl := inj1 r219
   exact mi (kc (kc (kc (kg (fS fP) kr)))) ⟨rfl, rfl, (sc rfl (sc rfl (sc rfl (sc rfl (sc rfl (sc rfl (sc rfl (sc rfl (sc rfl (sc rfl (sn _)))))))))))⟩
 rintro e1 _ _ ⟨rfl, rfl, he220⟩
 refine shW_env _ he220 ?_; clear he220
 refine shW_cond rfl (fun c221 => ?_) (fun c221 => ?_)
 · have r222 := bt r164 c221; clear r164
   refine wsr (oa rfl rfl (shO_nil ?_))
   refine kW kn ?_
   refine shW_ret (andThen_ret ?_)
   refine q_res1 Tryz.results3 (res_tmp rfl) (sr) ?_
   obtain rfl := inj1 r222
   exact rfl
 have r223 := bf r164 c221; clear r164
 refine shW_skip ?_
 refine shW_join (fun e1 F1 L1 => oyezlaw07_BookPleaded_j2 n n2 l l2 l3 l4 metal2 q_at q_turn l5 l8 l9 n7 = some r ∧ FExt F156 F1 ∧ L1 = ((b49, .cells #[.slice a50 metal2.length c51, .int .i64 q_at, .int .u32 q_turn] 95 (0, 0)) :: ((b53, .cells #[.slice a54 l5.length c55] 32 (0, 0)) :: ((b42, .cells #[.int .i64 n, .int .i64 n2, .slice a17 l.length c18, .slice a23 l2.length c24, .slice a29 l3.length c30] 27 (0, 0)) :: (Lb37 ++ (Lb128 ++ []))))) ∧ e1.sub [(5, .pointer (some ⟨b42, 0, none⟩)), (6, .slice a35 n39 c36), (7, .pointer (some ⟨b49, 0, none⟩)), (8, .pointer (some ⟨b53, 0, none⟩)), (9, .slice a126 n130 c127), (11, .slice a151 l9.length c152), (12, .int .i64 n7)]) ?_ ?_
 · refine wsr (om rfl rfl ?_)
   refine ov (v_eql rfl rfl) rfl ?_
   refine shO_nil ?_
   refine shW_condP rfl (fun c224 => ?_) (fun c224 => ?_)
   · have r225 := ite_t r223 c224; clear r223
     refine wsr ?_
     refine ov (v_loadA (cs := #[.int .i64 n, .int .i64 n2, .slice a17 l.length c18, .slice a23 l2.length c24, .slice a29 l3.length c30]) Tryz.isAgg27 Tryz.sizeOf27 rfl (Has.own 2 rfl) (Nat.le_of_ble_eq_true rfl) rfl) rfl ?_
     refine ov (v_load Tryz.isAgg32 rfl (Has.own 1 rfl) rfl) rfl ?_
     refine om rfl rfl ?_
     obtain ⟨l11, n9, h226, r227⟩ := b2_ok r225; clear r225
     refine o_call0 rfl Tryz.call14 rfl rfl rfl (book_False_w h135 h138 h141 h144 h162 h226) ?_; rintro _ F228 _ hF229 hn230 ⟨a232, n236, c233, Lb234, rfl, rfl, hz235⟩
     replace h135 := h135.mono (slE_ok (slE_ok (iE_ok _))) hF229
     replace h138 := h138.mono (iE_ok _) hF229
     replace h141 := h141.mono (prE_ok (iE_ok _) (prE_ok (iE_ok _) (iE_ok _))) hF229
     replace h162 := h162.mono (iE_ok _) hF229
     replace hz235 := hz235.new fun p hp => hn230 p (by simp [hp])
     refine shO_L (lp (ln rfl)) ?_
     refine kO (kf (fS fO) (kf (fS fO) (kf (fS fO) kr))) ?_
     refine om rfl rfl (ox rfl rfl rfl (ox rfl rfl rfl (oa rfl rfl (oa rfl rfl (shO_nil ?_)))))
     obtain ⟨k3, h238, r239⟩ := b1_ok r227; clear r227
     refine shW_join (fun e1 F1 L1 => F228 = F1 ∧ L1 = ((b49, .cells #[.slice a50 metal2.length c51, .int .i64 q_at, .int .u32 q_turn] 95 (0, 0)) :: ((b53, .cells #[.slice a54 l5.length c55] 32 (0, 0)) :: ((b42, .cells #[.int .i64 n, .int .i64 n2, .slice a17 l.length c18, .slice a23 l2.length c24, .slice a29 l3.length c30] 27 (0, 0)) :: (Lb37 ++ (Lb128 ++ []))))) ∧ e1.sub [(5, .pointer (some ⟨b42, 0, none⟩)), (6, .slice a35 n39 c36), (7, .pointer (some ⟨b49, 0, none⟩)), (8, .pointer (some ⟨b53, 0, none⟩)), (9, .slice a126 n130 c127), (11, .slice a151 l9.length c152), (12, .int .i64 n7), (148, .bool k3)]) ?_ ?_
     · clear r239
       refine shW_region ?_
       refine ov (v_loadA (cs := #[.int .i64 n, .int .i64 n2, .slice a17 l.length c18, .slice a23 l2.length c24, .slice a29 l3.length c30]) Tryz.isAgg27 Tryz.sizeOf27 rfl (Has.own 2 rfl) (Nat.le_of_ble_eq_true rfl) rfl) rfl ?_
       refine om rfl rfl ?_
       obtain ⟨ok10, h240, r241⟩ := b1_ok h238; clear h238
       refine o_callV rfl Tryz.call15 rfl rfl rfl (oyezlaw07_right_w h135 h138 h141 h162 h240) ?_
       refine ov (v_notB rfl) rfl ?_
       refine om rfl rfl ?_
       rcases bool_two (!ok10) with c242 | c242
       · have r243 := bt r241 c242; clear r241
         refine shO_off (b' := true) 140 rfl (EnvB rfl c242) rfl rfl (shO_off (b' := true) 140 rfl (EnvB rfl c242) rfl rfl ?_)
         refine ov (v_pick_t (evB rfl c242) rfl) rfl ?_
         refine om rfl rfl (shO_off (b' := true) 144 rfl rfl rfl rfl (shO_off (b' := true) 144 rfl rfl rfl rfl (shO_off (b' := true) 144 rfl rfl rfl rfl ?_)))
         refine ov (v_pick_t rfl rfl) rfl ?_
         refine shO_nil ?_
         obtain rfl := inj1 r243
         exact mi (kc (kc (kc (kx kr)))) ⟨rfl, rfl, (sc rfl (sc rfl (sc rfl (sc rfl (sc rfl (sc rfl (sc rfl (sc rfl (sn _)))))))))⟩
       have r244 := bf r241 c242; clear r241
       refine shO_on (b := false) 140 rfl (EnvB rfl c242) (om rfl rfl (shO_on (b := false) 140 rfl (EnvB rfl c242) ?_))
       refine ov (v_neq rfl rfl) rfl ?_
       refine ov (v_pick_f (evB rfl c242) rfl) rfl ?_
       refine om rfl rfl ?_
       by_cases c245 : n9 ≠ 0
       · have r246 := ite_t r244 c245; clear r244
         refine shO_off (b' := true) 144 rfl (Env.isT rfl c245) rfl rfl (shO_off (b' := true) 144 rfl (Env.isT rfl c245) rfl rfl (shO_off (b' := true) 144 rfl (Env.isT rfl c245) rfl rfl ?_))
         refine ov (v_pick_t (evD_true rfl c245) rfl) rfl ?_
         refine shO_nil ?_
         obtain rfl := inj1 r246
         exact mi (kc (kc (kc (kx kr)))) ⟨rfl, rfl, (sc rfl (sc rfl (sc rfl (sc rfl (sc rfl (sc rfl (sc rfl (sc rfl (sn _)))))))))⟩
       have r247 := ite_f r244 c245; clear r244
       refine shO_on (b := false) 144 rfl (Env.isF rfl c245) (om rfl rfl (shO_on (b := false) 144 rfl (Env.isF rfl c245) ?_))
       refine ov ((v_lenS Tryz.underlying24 rfl).i (SlR.lenI hz235)) rfl ?_
       refine shO_on (b := false) 144 rfl (Env.isF rfl c245) ?_
       refine ov (v_gtrK rfl rfl) rfl ?_
       refine ov (v_pick_f (evD_false rfl c245) rfl) rfl ?_
       refine shO_nil ?_
       obtain rfl := inj1 r247
       exact mi (kc (kc (kc (kx kr)))) ⟨rfl, rfl, (sc rfl (sc rfl (sc rfl (sc rfl (sc rfl (sc rfl (sc rfl (sc rfl (sn _)))))))))⟩
     rintro e1 _ _ ⟨rfl, rfl, he248⟩
     refine shW_env _ he248 ?_; clear he248
     refine shW_cond rfl (fun c249 => ?_) (fun c249 => ?_)
     · have r250 := bt r239 c249; clear r239
       refine wsr (oa rfl rfl (shO_nil ?_))
       refine kW kn ?_
       refine shW_ret (andThen_ret ?_)
       refine q_res1 Tryz.results3 (res_tmp rfl) (sr) ?_
       obtain rfl := inj1 r250
       exact rfl
     have r251 := bf r239 c249; clear r239
     refine shW_skip ?_
     exact mi kr ⟨r251, hF229, rfl, (sc rfl (sc rfl (sc rfl (sc rfl (sc rfl (sc rfl (sc rfl (sn _))))))))⟩
   have r252 := ite_f r223 c224; clear r223
   refine shW_skip ?_
   exact mi kr ⟨r252, FExt.refl _, rfl, (sc rfl (sc rfl (sc rfl (sc rfl (sc rfl (sc rfl (sc rfl (sn _))))))))⟩
 rintro e1 F255 _ ⟨r253, hF256, rfl, he254⟩
 refine shW_env _ he254 ?_; clear he254
 replace h52 := h52.mono (iE_ok _) hF256
 replace h135 := h135.mono (slE_ok (slE_ok (iE_ok _))) hF256
 replace h138 := h138.mono (iE_ok _) hF256
 replace h141 := h141.mono (prE_ok (iE_ok _) (prE_ok (iE_ok _) (iE_ok _))) hF256
 replace h144 := h144.mono (prE_ok (iE_ok _) (prE_ok (iE_ok _) bE_ok)) hF256
 replace h153 := h153.mono (iE_ok _) hF256
 replace hz38 := hz38.mono (iE_ok _) hF256
 replace hz129 := hz129.mono (iE_ok _) hF256
 rw [oyezlaw07_BookPleaded_j2] at r253
 refine wsr ?_
 refine ov (v_makeFunc rfl rfl) rfl ?_
 refine oa rfl rfl (shO_nil (shW_seq (shW_seq ?_)))
 refine shW_drawM [(.still, 0), (.still, 1), (.still, 2), (.seq, 3), (.seq, 4), (.still, 5), (.still, 6), (.still, 7), (.still, 8), (.still, 9)] (by kernel_rfl) (by kernel_rfl) (trivial) (by rfl) (by kernel_rfl) ?_
 refine shM_v (v := .agg #[.int .i64 n, .int .i64 n2, .slice a17 l.length c18, .slice a23 l2.length c24, .slice a29 l3.length c30]) (ek := [(5, .pointer (some ⟨b42, 0, none⟩))]) (Ls := [(b42, .cells #[.int .i64 n, .int .i64 n2, .slice a17 l.length c18, .slice a23 l2.length c24, .slice a29 l3.length c30] 27 (0, 0))]) rfl rfl rfl rfl ((sc rfl (sn _))) (by kernel_rfl) (s0 (s1 (s1 (s2 (s3 (s3 sr)))))) (fun H F' L' hF' hL' => v_loadA (cs := #[.int .i64 n, .int .i64 n2, .slice a17 l.length c18, .slice a23 l2.length c24, .slice a29 l3.length c30]) Tryz.isAgg27 Tryz.sizeOf27 rfl ((Has.own 0 rfl).ext hF' hL') (Nat.le_of_ble_eq_true rfl) rfl) ?_
 refine shM_v (v := .func (.func 16) #[] #[.pointer (some ⟨b53, 0, none⟩)]) (ek := [(17, .func (.func 16) #[] #[.pointer (some ⟨b53, 0, none⟩)])]) (Ls := []) rfl rfl rfl rfl ((sc rfl (sn _))) (by kernel_rfl) sm (fun H F' L' hF' hL' => v_move rfl) ?_
 refine shM_v (v := .slice a126 n130 c127) (ek := [(9, .slice a126 n130 c127)]) (Ls := []) rfl rfl rfl rfl ((sc rfl (sn _))) (by kernel_rfl) sm (fun H F' L' hF' hL' => v_move rfl) ?_
 refine ⟨_, [(152, .func (.func 16) #[] #[.pointer (some ⟨b53, 0, none⟩)]), (153, .slice a126 n130 c127)], rfl, rfl, (sc rfl (sc rfl (sn _))), by kernel_rfl, ?_⟩; intro H
 refine shO_freeze 1 rfl hb53 ?_; intro F257 hF258 hz259
 refine shO_L (L' := (b49, .cells #[.slice a50 metal2.length c51, .int .i64 q_at, .int .u32 q_turn] 95 (0, 0)) :: ((b42, .cells #[.int .i64 n, .int .i64 n2, .slice a17 l.length c18, .slice a23 l2.length c24, .slice a29 l3.length c30] 27 (0, 0)) :: (Lb37 ++ (Lb128 ++ [])))) rfl ?_
 replace h52 := h52.mono (iE_ok _) hF258
 replace h135 := h135.mono (slE_ok (slE_ok (iE_ok _))) hF258
 replace h138 := h138.mono (iE_ok _) hF258
 replace h141 := h141.mono (prE_ok (iE_ok _) (prE_ok (iE_ok _) (iE_ok _))) hF258
 replace h144 := h144.mono (prE_ok (iE_ok _) (prE_ok (iE_ok _) bE_ok)) hF258
 replace h153 := h153.mono (iE_ok _) hF258
 replace hz38 := hz38.mono (iE_ok _) hF258
 replace hz129 := hz129.mono (iE_ok _) hF258
 obtain ⟨l12, h260, r261⟩ := b1_ok r253; clear r253
 refine o_callTO (Lb := []) (Lt := Lb128 ++ []) (Lr := (b49, .cells #[.slice a50 metal2.length c51, .int .i64 q_at, .int .u32 q_turn] 95 (0, 0)) :: ((b42, .cells #[.int .i64 n, .int .i64 n2, .slice a17 l.length c18, .slice a23 l2.length c24, .slice a29 l3.length c30] 27 (0, 0)) :: (Lb37 ++ []))) rfl Tryz.call16 rfl rfl rfl (pT ((fC (fC (fS fP))).trans (pA pR)) (ln (lp (ln rfl)))) (fun F2 h2 h3 => by rw [(SlR.caps hz129).1]; exact oyezlaw07_BookPleaded_1_w (hz129.row (iE_ok _) h2 (fun p hp => h3 p (List.mem_append_left _ hp))) (h2 _ _ hz259) (h144.mono (prE_ok (iE_ok _) (prE_ok (iE_ok _) bE_ok)) h2) h260) (fun _ _ _ _ hq => by obtain ⟨a266, n270, c267, Lb268, rfl, rfl, hz269⟩ := hq; exact ⟨_, _, _, _, rfl, rfl, hz269.flat (fun _ _ h => h)⟩) ?_; rintro _ F262 _ hF263 hd265 hn264 ⟨a266, n270, c267, Lb268, rfl, rfl, hz269⟩
 replace h52 := h52.mono (iE_ok _) hF263
 replace h135 := h135.mono (slE_ok (slE_ok (iE_ok _))) hF263
 replace h138 := h138.mono (iE_ok _) hF263
 replace h141 := h141.mono (prE_ok (iE_ok _) (prE_ok (iE_ok _) (iE_ok _))) hF263
 replace h144 := h144.mono (prE_ok (iE_ok _) (prE_ok (iE_ok _) bE_ok)) hF263
 replace h153 := h153.mono (iE_ok _) hF263
 replace hz38 := hz38.mono (iE_ok _) hF263
 replace hz129 := hz129.mono (iE_ok _) hF263
 replace hz259 := hF263 _ _ hz259
 have hn272 := newp (Lb' := []) (by rfl) hd265 hn264
 replace hz269 := hz269.new fun p hp => hn272 p (by simp [hp])
 refine shO_L (lp (ln (lp (ln rfl)))) ?_
 refine kO (kf (fS (fS fO)) (kf (fS (fS fO)) kr)) ?_
 refine shO_nil ⟨_, rfl, (hF258.trans hF263), [0], by kernel_rfl, .inl (.inr (fun d h => by cases h; rfl)), (List.forall_mem_cons.2 ⟨s0 (s1 (s2 (s3 (s3 (s3 sr))))), (fun _ h => absurd h List.not_mem_nil)⟩), ?_⟩
 refine ⟨_, [(151, .agg #[.int .i64 n, .int .i64 n2, .slice a17 l.length c18, .slice a23 l2.length c24, .slice a29 l3.length c30]), (154, .slice a266 n270 c267)], rfl, rfl, (sc rfl (sc rfl (sn _))), by kernel_rfl, ?_⟩; intro H
 obtain rfl := (SlR.caps hz269).1
 refine shO_freezeR (Nat.le_refl _) (prE_ok (iE_ok _) (prE_ok (iE_ok _) bE_ok)) (fC (fC fP)) hz269 ?_; intro F273 hF274 h275
 replace h52 := h52.mono (iE_ok _) hF274
 replace h135 := h135.mono (slE_ok (slE_ok (iE_ok _))) hF274
 replace h138 := h138.mono (iE_ok _) hF274
 replace h141 := h141.mono (prE_ok (iE_ok _) (prE_ok (iE_ok _) (iE_ok _))) hF274
 replace h144 := h144.mono (prE_ok (iE_ok _) (prE_ok (iE_ok _) bE_ok)) hF274
 replace h153 := h153.mono (iE_ok _) hF274
 replace hz38 := hz38.mono (iE_ok _) hF274
 replace hz129 := hz129.mono (iE_ok _) hF274
 replace hz259 := hF274 _ _ hz259
 obtain ⟨l13, n10, h276, r277⟩ := b2_ok r261; clear r261
 refine o_call0 rfl Tryz.call12 rfl rfl rfl (book_Together_w h135 h138 h141 h275 h276) ?_; rintro _ F278 _ hF279 hn280 ⟨a282, c283, rfl, rfl, h284⟩
 replace h52 := h52.mono (iE_ok _) hF279
 replace h135 := h135.mono (slE_ok (slE_ok (iE_ok _))) hF279
 replace h138 := h138.mono (iE_ok _) hF279
 replace h141 := h141.mono (prE_ok (iE_ok _) (prE_ok (iE_ok _) (iE_ok _))) hF279
 replace h144 := h144.mono (prE_ok (iE_ok _) (prE_ok (iE_ok _) bE_ok)) hF279
 replace h153 := h153.mono (iE_ok _) hF279
 replace hz38 := hz38.mono (iE_ok _) hF279
 replace hz129 := hz129.mono (iE_ok _) hF279
 replace hz259 := hF279 _ _ hz259
 refine shO_L (ln rfl) ?_
 refine shO_nil ⟨_, rfl, (hF274.trans hF279), [], by kernel_rfl, .inl (.inl rfl), (fun _ h => absurd h List.not_mem_nil), ?_⟩
 refine shM_v (v := .tuple #[.slice a282 l13.length c283, .int .i64 n10]) (ek := [(155, .tuple #[.slice a282 l13.length c283, .int .i64 n10])]) (Ls := []) rfl rfl rfl rfl ((sc rfl (sn _))) (by kernel_rfl) sm (fun H F' L' hF' hL' => v_move rfl) ?_
 refine shM_v (v := .slice a282 l13.length c283) (ek := [(150, .tuple #[.slice a282 l13.length c283, .int .i64 n10])]) (Ls := []) rfl rfl rfl rfl ((sc rfl (sn _))) (by kernel_rfl) sm (fun H F' L' hF' hL' => v_extract rfl rfl) ?_
 refine shM_v (v := .int .i64 n10) (ek := [(150, .tuple #[.slice a282 l13.length c283, .int .i64 n10])]) (Ls := []) rfl rfl rfl rfl ((sc rfl (sn _))) (by kernel_rfl) sm (fun H F' L' hF' hL' => v_extract rfl rfl) ?_
 refine shM_v (v := .slice a282 l13.length c283) (ek := [(156, .slice a282 l13.length c283)]) (Ls := []) rfl rfl rfl rfl ((sc rfl (sn _))) (by kernel_rfl) sm (fun H F' L' hF' hL' => v_assign rfl) ?_
 refine shM_v (v := .int .i64 n10) (ek := [(157, .int .i64 n10)]) (Ls := []) rfl rfl rfl rfl ((sc rfl (sn _))) (by kernel_rfl) sm (fun H F' L' hF' hL' => v_assign rfl) ?_
 refine shM_nil ?_
 refine wsr (om rfl rfl ?_)
 refine ov (v_neq rfl rfl) rfl ?_
 refine shO_nil ?_
 refine shW_condP rfl (fun c285 => ?_) (fun c285 => ?_)
 · have r286 := ite_t r277 c285; clear r277
   refine wsr (oa rfl rfl (shO_nil ?_))
   refine kW kn ?_
   refine shW_ret (andThen_ret ?_)
   refine q_res1 Tryz.results3 (res_tmp rfl) (sr) ?_
   obtain rfl := inj1 r286
   exact rfl
 have r287 := ite_f r277 c285; clear r277
 refine shW_skip ?_
 refine shW_join (fun e1 F1 L1 => oyezlaw07_BookPleaded_j3 n n2 l l2 l3 l4 metal2 q_at q_turn l5 l8 = some r ∧ FExt F278 F1 ∧ L1 = ((b49, .cells #[.slice a50 metal2.length c51, .int .i64 q_at, .int .u32 q_turn] 95 (0, 0)) :: ((b42, .cells #[.int .i64 n, .int .i64 n2, .slice a17 l.length c18, .slice a23 l2.length c24, .slice a29 l3.length c30] 27 (0, 0)) :: (Lb37 ++ (Lb128 ++ [])))) ∧ e1.sub [(5, .pointer (some ⟨b42, 0, none⟩)), (6, .slice a35 n39 c36), (7, .pointer (some ⟨b49, 0, none⟩)), (8, .pointer (some ⟨b53, 0, none⟩)), (9, .slice a126 n130 c127)]) ?_ ?_
 · refine wsr (om rfl rfl ?_)
   refine ov (v_eql rfl rfl) rfl ?_
   refine shO_nil ?_
   refine shW_condP rfl (fun c288 => ?_) (fun c288 => ?_)
   · have r289 := ite_t r287 c288; clear r287
     refine shW_seq (shW_seq ?_)
     refine shW_drawM [(.still, 0), (.still, 1), (.still, 2), (.seq, 3), (.seq, 4), (.still, 5), (.still, 6), (.still, 7), (.still, 8), (.still, 9)] (by kernel_rfl) (by kernel_rfl) (trivial) (by rfl) (by kernel_rfl) ?_
     refine shM_v (v := .agg #[.int .i64 n, .int .i64 n2, .slice a17 l.length c18, .slice a23 l2.length c24, .slice a29 l3.length c30]) (ek := [(5, .pointer (some ⟨b42, 0, none⟩))]) (Ls := [(b42, .cells #[.int .i64 n, .int .i64 n2, .slice a17 l.length c18, .slice a23 l2.length c24, .slice a29 l3.length c30] 27 (0, 0))]) rfl rfl rfl rfl ((sc rfl (sn _))) (by kernel_rfl) (s0 (s1 (s2 (s3 (s3 sr))))) (fun H F' L' hF' hL' => v_loadA (cs := #[.int .i64 n, .int .i64 n2, .slice a17 l.length c18, .slice a23 l2.length c24, .slice a29 l3.length c30]) Tryz.isAgg27 Tryz.sizeOf27 rfl ((Has.own 0 rfl).ext hF' hL') (Nat.le_of_ble_eq_true rfl) rfl) ?_
     refine shM_v (v := .func (.func 16) #[] #[.pointer (some ⟨b53, 0, none⟩)]) (ek := [(17, .func (.func 16) #[] #[.pointer (some ⟨b53, 0, none⟩)])]) (Ls := []) rfl rfl rfl rfl ((sc rfl (sn _))) (by kernel_rfl) sm (fun H F' L' hF' hL' => v_move rfl) ?_
     refine shM_v (v := .slice a151 l9.length c152) (ek := [(11, .slice a151 l9.length c152)]) (Ls := []) rfl rfl rfl rfl ((sc rfl (sn _))) (by kernel_rfl) sm (fun H F' L' hF' hL' => v_move rfl) ?_
     refine ⟨_, [(164, .func (.func 16) #[] #[.pointer (some ⟨b53, 0, none⟩)]), (165, .slice a151 l9.length c152)], rfl, rfl, (sc rfl (sc rfl (sn _))), by kernel_rfl, ?_⟩; intro H
     obtain ⟨l14, h290, r291⟩ := b1_ok r289; clear r289
     refine o_call0 rfl Tryz.call16 rfl rfl rfl (oyezlaw07_BookPleaded_1_w h153 hz259 h144 h290) ?_; rintro _ F292 _ hF293 hn294 ⟨a296, n300, c297, Lb298, rfl, rfl, hz299⟩
     replace h135 := h135.mono (slE_ok (slE_ok (iE_ok _))) hF293
     replace h138 := h138.mono (iE_ok _) hF293
     replace h141 := h141.mono (prE_ok (iE_ok _) (prE_ok (iE_ok _) (iE_ok _))) hF293
     replace h144 := h144.mono (prE_ok (iE_ok _) (prE_ok (iE_ok _) bE_ok)) hF293
     replace h153 := h153.mono (iE_ok _) hF293
     replace hz259 := hF293 _ _ hz259
     replace hz299 := hz299.new fun p hp => hn294 p (by simp [hp])
     refine shO_L (lp (ln rfl)) ?_
     refine kO (kf (fS fO) (kf (fS fO) kr)) ?_
     refine shO_nil ⟨_, rfl, hF293, [0], by kernel_rfl, .inl (.inr (fun d h => by cases h; rfl)), (List.forall_mem_cons.2 ⟨s0 (s1 (s2 (s3 (s3 (s3 sr))))), (fun _ h => absurd h List.not_mem_nil)⟩), ?_⟩
     refine ⟨_, [(163, .agg #[.int .i64 n, .int .i64 n2, .slice a17 l.length c18, .slice a23 l2.length c24, .slice a29 l3.length c30]), (166, .slice a296 n300 c297)], rfl, rfl, (sc rfl (sc rfl (sn _))), by kernel_rfl, ?_⟩; intro H
     obtain rfl := (SlR.caps hz299).1
     refine shO_freezeR (Nat.le_refl _) (prE_ok (iE_ok _) (prE_ok (iE_ok _) bE_ok)) (fC (fC fP)) hz299 ?_; intro F302 hF303 h304
     replace h135 := h135.mono (slE_ok (slE_ok (iE_ok _))) hF303
     replace h138 := h138.mono (iE_ok _) hF303
     replace h141 := h141.mono (prE_ok (iE_ok _) (prE_ok (iE_ok _) (iE_ok _))) hF303
     replace h144 := h144.mono (prE_ok (iE_ok _) (prE_ok (iE_ok _) bE_ok)) hF303
     replace h153 := h153.mono (iE_ok _) hF303
     replace hz259 := hF303 _ _ hz259
     obtain ⟨l15, n11, h305, r306⟩ := b2_ok r291; clear r291
     refine o_call0 rfl Tryz.call12 rfl rfl rfl (book_Together_w h135 h138 h141 h304 h305) ?_; rintro _ F307 _ hF308 hn309 ⟨a311, c312, rfl, rfl, h313⟩
     replace h135 := h135.mono (slE_ok (slE_ok (iE_ok _))) hF308
     replace h138 := h138.mono (iE_ok _) hF308
     replace h141 := h141.mono (prE_ok (iE_ok _) (prE_ok (iE_ok _) (iE_ok _))) hF308
     replace h144 := h144.mono (prE_ok (iE_ok _) (prE_ok (iE_ok _) bE_ok)) hF308
     replace h153 := h153.mono (iE_ok _) hF308
     replace hz259 := hF308 _ _ hz259
     refine shO_L (ln rfl) ?_
     refine shO_nil ⟨_, rfl, (hF303.trans hF308), [], by kernel_rfl, .inl (.inl rfl), (fun _ h => absurd h List.not_mem_nil), ?_⟩
     refine shM_v (v := .tuple #[.slice a311 l15.length c312, .int .i64 n11]) (ek := [(167, .tuple #[.slice a311 l15.length c312, .int .i64 n11])]) (Ls := []) rfl rfl rfl rfl ((sc rfl (sn _))) (by kernel_rfl) sm (fun H F' L' hF' hL' => v_move rfl) ?_
     refine shM_v (v := .slice a311 l15.length c312) (ek := [(162, .tuple #[.slice a311 l15.length c312, .int .i64 n11])]) (Ls := []) rfl rfl rfl rfl ((sc rfl (sn _))) (by kernel_rfl) sm (fun H F' L' hF' hL' => v_extract rfl rfl) ?_
     refine shM_v (v := .int .i64 n11) (ek := [(162, .tuple #[.slice a311 l15.length c312, .int .i64 n11])]) (Ls := []) rfl rfl rfl rfl ((sc rfl (sn _))) (by kernel_rfl) sm (fun H F' L' hF' hL' => v_extract rfl rfl) ?_
     refine shM_v (v := .slice a311 l15.length c312) (ek := [(168, .slice a311 l15.length c312)]) (Ls := []) rfl rfl rfl rfl ((sc rfl (sn _))) (by kernel_rfl) sm (fun H F' L' hF' hL' => v_assign rfl) ?_
     refine shM_v (v := .int .i64 n11) (ek := [(169, .int .i64 n11)]) (Ls := []) rfl rfl rfl rfl ((sc rfl (sn _))) (by kernel_rfl) sm (fun H F' L' hF' hL' => v_assign rfl) ?_
     refine shM_nil ?_
     obtain ⟨k4, h314, r315⟩ := b1_ok r306; clear r306
     refine shW_join (fun e1 F1 L1 => F307 = F1 ∧ L1 = ((b49, .cells #[.slice a50 metal2.length c51, .int .i64 q_at, .int .u32 q_turn] 95 (0, 0)) :: ((b42, .cells #[.int .i64 n, .int .i64 n2, .slice a17 l.length c18, .slice a23 l2.length c24, .slice a29 l3.length c30] 27 (0, 0)) :: (Lb37 ++ (Lb128 ++ [])))) ∧ e1.sub [(5, .pointer (some ⟨b42, 0, none⟩)), (6, .slice a35 n39 c36), (7, .pointer (some ⟨b49, 0, none⟩)), (8, .pointer (some ⟨b53, 0, none⟩)), (9, .slice a126 n130 c127), (11, .slice a151 l9.length c152), (17, .func (.func 16) #[] #[.pointer (some ⟨b53, 0, none⟩)]), (176, .bool k4)]) ?_ ?_
     · clear r315
       refine shW_region (om rfl rfl ?_)
       refine ov (v_neq rfl rfl) rfl ?_
       refine om rfl rfl ?_
       by_cases c316 : n11 ≠ 6
       · have r317 := ite_t h314 c316; clear h314
         refine shO_off (b' := true) 172 rfl (Env.isT rfl c316) rfl rfl (shO_off (b' := true) 172 rfl (Env.isT rfl c316) rfl rfl (shO_off (b' := true) 172 rfl (Env.isT rfl c316) rfl rfl ?_))
         refine ov (v_pick_t (evD_true rfl c316) rfl) rfl ?_
         refine shO_nil ?_
         obtain rfl := inj1 r317
         exact mi (kc (kc (kg (fS fP) kr))) ⟨rfl, rfl, (sc rfl (sc rfl (sc rfl (sc rfl (sc rfl (sc rfl (sc rfl (sc rfl (sn _)))))))))⟩
       have r318 := ite_f h314 c316; clear h314
       refine shO_on (b := false) 172 rfl (Env.isF rfl c316) (om rfl rfl (shO_on (b := false) 172 rfl (Env.isF rfl c316) ?_))
       refine ov (v_lenS Tryz.underlying24 rfl) rfl ?_
       refine shO_on (b := false) 172 rfl (Env.isF rfl c316) ?_
       refine ov (v_eql rfl rfl) rfl ?_
       refine ov (v_pick_f (evD_false rfl c316) rfl) rfl ?_
       refine shO_nil ?_
       obtain rfl := inj1 r318
       exact mi (kc (kc (kg (fS fP) kr))) ⟨rfl, rfl, (sc rfl (sc rfl (sc rfl (sc rfl (sc rfl (sc rfl (sc rfl (sc rfl (sn _)))))))))⟩
     rintro e1 _ _ ⟨rfl, rfl, he319⟩
     refine shW_env _ he319 ?_; clear he319
     refine shW_cond rfl (fun c320 => ?_) (fun c320 => ?_)
     · have r321 := bt r315 c320; clear r315
       refine wsr (oa rfl rfl (shO_nil ?_))
       refine kW kn ?_
       refine shW_ret (andThen_ret (andThen_ret ?_))
       refine q_res1 Tryz.results3 (res_tmp rfl) (sr) ?_
       obtain rfl := inj1 r321
       exact rfl
     have r322 := bf r315 c320; clear r315
     refine shW_skip (wsr (om rfl rfl ?_))
     refine ov (v_lenS Tryz.underlying24 rfl) rfl ?_
     refine om rfl rfl (shO_nil ?_)
     refine shW_block ?_
     refine shW_lp (fun fu4 e1 F1 L1 => ∃ (tl : List Int) (k5 : Int), tl.length = fu4 ∧ Lst l9 k5 tl ∧ oyezlaw07_BookPleaded_l4 n n2 l l2 l3 l4 metal2 q_at q_turn l5 l8 l9 tl = some r ∧ FExt F307 F1 ∧ L1 = ((b49, .cells #[.slice a50 metal2.length c51, .int .i64 q_at, .int .u32 q_turn] 95 (0, 0)) :: ((b42, .cells #[.int .i64 n, .int .i64 n2, .slice a17 l.length c18, .slice a23 l2.length c24, .slice a29 l3.length c30] 27 (0, 0)) :: (Lb37 ++ (Lb128 ++ [])))) ∧ e1.sub [(5, .pointer (some ⟨b42, 0, none⟩)), (6, .slice a35 n39 c36), (7, .pointer (some ⟨b49, 0, none⟩)), (8, .pointer (some ⟨b53, 0, none⟩)), (9, .slice a126 n130 c127), (11, .slice a151 l9.length c152), (17, .func (.func 16) #[] #[.pointer (some ⟨b53, 0, none⟩)]), (177, .slice a151 l9.length c152), (178, .int .i64 (l9.length : Int)), (179, .int .i64 k5)]) _ (m0 kr ⟨_, _, rfl, Lst.start _, r322, FExt.refl _, rfl, (sc rfl (sc rfl (sc rfl (sc rfl (sc rfl (sc rfl (sc rfl (sc rfl (sc rfl (sc rfl (sn _)))))))))))⟩) ?_
     rintro fu4 e1 F327 _ ⟨tl, k5, hn324, hk323, r325, hF328, rfl, he326⟩
     refine shW_env _ he326 ?_; clear he326
     replace h135 := h135.mono (slE_ok (slE_ok (iE_ok _))) hF328
     replace h138 := h138.mono (iE_ok _) hF328
     replace h141 := h141.mono (prE_ok (iE_ok _) (prE_ok (iE_ok _) (iE_ok _))) hF328
     replace h144 := h144.mono (prE_ok (iE_ok _) (prE_ok (iE_ok _) bE_ok)) hF328
     replace h153 := h153.mono (iE_ok _) hF328
     replace hz259 := hF328 _ _ hz259
     refine wsr ?_
     refine ov (v_lssK rfl rfl) rfl ?_
     refine shO_nil (shW_seq ?_)
     refine shW_condP rfl (fun c330 => ?_) (fun c330 => ?_)
     · obtain ⟨x, tl2, rfl, hx332, g333, hk331⟩ := Lst.succ hk323 c330
       rw [oyezlaw07_BookPleaded_l4] at r325
       refine shW_skip (shW_seq ?_)
       refine shW_block ?_
       refine wsr ?_
       obtain ⟨b334, o335, c336, vs337, ha338, hs339, hle340, rfl, hl341, hc342⟩ := RowR.at (iE_ok _) h153 ((b49, .cells #[.slice a50 metal2.length c51, .int .i64 q_at, .int .u32 q_turn] 95 (0, 0)) :: ((b42, .cells #[.int .i64 n, .int .i64 n2, .slice a17 l.length c18, .slice a23 l2.length c24, .slice a29 l3.length c30] 27 (0, 0)) :: (Lb37 ++ (Lb128 ++ [])))) g333.1 hx332
       refine ov (v_indexO Tryz.underlying24 Tryz.sizeOf3 rfl ha338 rfl g333) rfl ?_
       refine ov (v_load Tryz.isAgg3 rfl hs339 (hc342 0 (by decide))) rfl ?_
       refine o_alloc rfl Tryz.zeroValue3 ?_; intro b343 hb343
       refine o_store (i := 0) Tryz.sizeOf3 rfl rfl rfl rfl (Nat.le_of_ble_eq_true rfl) ?_
       refine shO_L (L' := (b343, .cells #[.int .i64 x] 3 (0, 0)) :: ((b49, .cells #[.slice a50 metal2.length c51, .int .i64 q_at, .int .u32 q_turn] 95 (0, 0)) :: ((b42, .cells #[.int .i64 n, .int .i64 n2, .slice a17 l.length c18, .slice a23 l2.length c24, .slice a29 l3.length c30] 27 (0, 0)) :: (Lb37 ++ (Lb128 ++ []))))) rfl ?_
       refine nsr (om rfl rfl ?_)
       obtain ⟨l16, h344, r345⟩ := b1_ok r325; clear r325
       refine o_call0 rfl Tryz.call19 rfl rfl rfl (oyezkit_Copy_int_w h153 h344) ?_; rintro _ F346 _ hF347 hn348 ⟨a350, n354, c351, Lb352, rfl, rfl, hz353⟩
       replace h135 := h135.mono (slE_ok (slE_ok (iE_ok _))) hF347
       replace h138 := h138.mono (iE_ok _) hF347
       replace h141 := h141.mono (prE_ok (iE_ok _) (prE_ok (iE_ok _) (iE_ok _))) hF347
       replace h144 := h144.mono (prE_ok (iE_ok _) (prE_ok (iE_ok _) bE_ok)) hF347
       replace h153 := h153.mono (iE_ok _) hF347
       replace hz259 := hF347 _ _ hz259
       replace hz353 := hz353.new fun p hp => hn348 p (by simp [hp])
       refine shO_L (lp (ln rfl)) ?_
       refine kO (kf (fS fO) (kf (fS fO) (kf (fS fO) kr))) ?_
       refine ov (v_makeFunc rfl rfl) rfl ?_
       refine shO_freeze 0 rfl hb343 ?_; intro F356 hF357 hz358
       refine shO_L (L' := (b49, .cells #[.slice a50 metal2.length c51, .int .i64 q_at, .int .u32 q_turn] 95 (0, 0)) :: ((b42, .cells #[.int .i64 n, .int .i64 n2, .slice a17 l.length c18, .slice a23 l2.length c24, .slice a29 l3.length c30] 27 (0, 0)) :: (Lb352 ++ (Lb37 ++ (Lb128 ++ []))))) rfl ?_
       replace h135 := h135.mono (slE_ok (slE_ok (iE_ok _))) hF357
       replace h138 := h138.mono (iE_ok _) hF357
       replace h141 := h141.mono (prE_ok (iE_ok _) (prE_ok (iE_ok _) (iE_ok _))) hF357
       replace h144 := h144.mono (prE_ok (iE_ok _) (prE_ok (iE_ok _) bE_ok)) hF357
       replace h153 := h153.mono (iE_ok _) hF357
       replace hz353 := hz353.mono (iE_ok _) hF357
       replace hz259 := hF357 _ _ hz259
       have hn359 : FnR Tryz.prog F356 20 #[] #[.pointer (some ⟨b343, 0, none⟩)] (iE .i64) Value.bool (fun xx_ : Int => oyezlaw07_BookPleaded_2 xx_ x) := ⟨Tryz.call20, fun F2 h2 vs xx_ r ha hr => by obtain rfl := ha; exact oyezlaw07_BookPleaded_2_w (h2 _ _ hz358) hr⟩
       obtain ⟨l17, h360, r361⟩ := b1_ok r345; clear r345
       refine o_callG (Lb := Lb352 ++ []) (Lr := (b49, .cells #[.slice a50 metal2.length c51, .int .i64 q_at, .int .u32 q_turn] 95 (0, 0)) :: ((b42, .cells #[.int .i64 n, .int .i64 n2, .slice a17 l.length c18, .slice a23 l2.length c24, .slice a29 l3.length c30] 27 (0, 0)) :: (Lb37 ++ (Lb128 ++ [])))) rfl Tryz.call18 rfl rfl rfl (pT ((fC (fC fP)).trans (pA pR)) (lp (ln rfl))) (slices_DeleteFunc_int_int_w hz353 hn359 h360) ?_; rintro _ F362 _ hF363 hd365 hn364 ⟨a366, n370, c367, Lb368, rfl, rfl, hz369⟩
       replace h135 := h135.mono (slE_ok (slE_ok (iE_ok _))) hF363
       replace h138 := h138.mono (iE_ok _) hF363
       replace h141 := h141.mono (prE_ok (iE_ok _) (prE_ok (iE_ok _) (iE_ok _))) hF363
       replace h144 := h144.mono (prE_ok (iE_ok _) (prE_ok (iE_ok _) bE_ok)) hF363
       replace h153 := h153.mono (iE_ok _) hF363
       replace hz259 := hF363 _ _ hz259
       refine shO_L (lp (ln rfl)) ?_
       refine kO (kf (fS fO) (kf (fS fO) kr)) ?_
       refine oa rfl rfl (shO_nil (shW_seq ?_))
       refine shW_drawM [(.still, 0), (.still, 1), (.still, 2), (.seq, 3), (.seq, 4), (.still, 5), (.still, 6), (.still, 7), (.still, 8), (.still, 9)] (by kernel_rfl) (by kernel_rfl) (trivial) (by rfl) (by kernel_rfl) ?_
       refine shM_v (v := .agg #[.int .i64 n, .int .i64 n2, .slice a17 l.length c18, .slice a23 l2.length c24, .slice a29 l3.length c30]) (ek := [(5, .pointer (some ⟨b42, 0, none⟩))]) (Ls := [(b42, .cells #[.int .i64 n, .int .i64 n2, .slice a17 l.length c18, .slice a23 l2.length c24, .slice a29 l3.length c30] 27 (0, 0))]) rfl rfl rfl rfl ((sc rfl (sn _))) (by kernel_rfl) (s0 (s1 (s2 (s3 (s3 (s3 sr)))))) (fun H F' L' hF' hL' => v_loadA (cs := #[.int .i64 n, .int .i64 n2, .slice a17 l.length c18, .slice a23 l2.length c24, .slice a29 l3.length c30]) Tryz.isAgg27 Tryz.sizeOf27 rfl ((Has.own 0 rfl).ext hF' hL') (Nat.le_of_ble_eq_true rfl) rfl) ?_
       refine shM_v (v := .func (.func 16) #[] #[.pointer (some ⟨b53, 0, none⟩)]) (ek := [(17, .func (.func 16) #[] #[.pointer (some ⟨b53, 0, none⟩)])]) (Ls := []) rfl rfl rfl rfl ((sc rfl (sn _))) (by kernel_rfl) sm (fun H F' L' hF' hL' => v_move rfl) ?_
       refine shM_v (v := .slice a366 n370 c367) (ek := [(24, .slice a366 n370 c367)]) (Ls := []) rfl rfl rfl rfl ((sc rfl (sn _))) (by kernel_rfl) sm (fun H F' L' hF' hL' => v_move rfl) ?_
       refine ⟨_, [(189, .func (.func 16) #[] #[.pointer (some ⟨b53, 0, none⟩)]), (190, .slice a366 n370 c367)], rfl, rfl, (sc rfl (sc rfl (sn _))), by kernel_rfl, ?_⟩; intro H
       obtain ⟨l18, h372, r373⟩ := b1_ok r361; clear r361
       refine o_callTO (Lb := []) (Lt := Lb368 ++ []) (Lr := (b49, .cells #[.slice a50 metal2.length c51, .int .i64 q_at, .int .u32 q_turn] 95 (0, 0)) :: ((b42, .cells #[.int .i64 n, .int .i64 n2, .slice a17 l.length c18, .slice a23 l2.length c24, .slice a29 l3.length c30] 27 (0, 0)) :: (Lb37 ++ (Lb128 ++ [])))) rfl Tryz.call16 rfl rfl rfl (pT ((fC (fC fP)).trans (pA pR)) (ln (lp (ln rfl)))) (fun F2 h2 h3 => by rw [(SlR.caps hz369).1]; exact oyezlaw07_BookPleaded_1_w (hz369.row (iE_ok _) h2 (fun p hp => h3 p (List.mem_append_left _ hp))) (h2 _ _ hz259) (h144.mono (prE_ok (iE_ok _) (prE_ok (iE_ok _) bE_ok)) h2) h372) (fun _ _ _ _ hq => by obtain ⟨a378, n382, c379, Lb380, rfl, rfl, hz381⟩ := hq; exact ⟨_, _, _, _, rfl, rfl, hz381.flat (fun _ _ h => h)⟩) ?_; rintro _ F374 _ hF375 hd377 hn376 ⟨a378, n382, c379, Lb380, rfl, rfl, hz381⟩
       replace h135 := h135.mono (slE_ok (slE_ok (iE_ok _))) hF375
       replace h138 := h138.mono (iE_ok _) hF375
       replace h141 := h141.mono (prE_ok (iE_ok _) (prE_ok (iE_ok _) (iE_ok _))) hF375
       replace h153 := h153.mono (iE_ok _) hF375
       have hn384 := newp (Lb' := []) (by rfl) hd377 hn376
       replace hz381 := hz381.new fun p hp => hn384 p (by simp [hp])
       refine shO_L (lp (ln (lp (ln rfl)))) ?_
       refine kO (kf (fS (fS fO)) (kf (fS (fS fO)) kr)) ?_
       refine shO_nil ⟨_, rfl, hF375, [0], by kernel_rfl, .inl (.inr (fun d h => by cases h; rfl)), (List.forall_mem_cons.2 ⟨s0 (s1 (s2 (s3 (s3 (s3 (s3 sr)))))), (fun _ h => absurd h List.not_mem_nil)⟩), ?_⟩
       refine ⟨_, [(188, .agg #[.int .i64 n, .int .i64 n2, .slice a17 l.length c18, .slice a23 l2.length c24, .slice a29 l3.length c30]), (191, .slice a378 n382 c379)], rfl, rfl, (sc rfl (sc rfl (sn _))), by kernel_rfl, ?_⟩; intro H
       obtain rfl := (SlR.caps hz381).1
       refine shO_freezeR (Nat.le_refl _) (prE_ok (iE_ok _) (prE_ok (iE_ok _) bE_ok)) (fC (fC fP)) hz381 ?_; intro F385 hF386 h387
       replace h135 := h135.mono (slE_ok (slE_ok (iE_ok _))) hF386
       replace h138 := h138.mono (iE_ok _) hF386
       replace h141 := h141.mono (prE_ok (iE_ok _) (prE_ok (iE_ok _) (iE_ok _))) hF386
       replace h153 := h153.mono (iE_ok _) hF386
       obtain ⟨l19, n12, h388, r389⟩ := b2_ok r373; clear r373
       refine o_call0 rfl Tryz.call12 rfl rfl rfl (book_Together_w h135 h138 h141 h387 h388) ?_; rintro _ F390 _ hF391 hn392 ⟨a394, c395, rfl, rfl, h396⟩
       replace h153 := h153.mono (iE_ok _) hF391
       refine shO_L (ln rfl) ?_
       refine shO_nil ⟨_, rfl, (hF386.trans hF391), [], by kernel_rfl, .inl (.inl rfl), (fun _ h => absurd h List.not_mem_nil), ?_⟩
       refine shM_v (v := .tuple #[.slice a394 l19.length c395, .int .i64 n12]) (ek := [(192, .tuple #[.slice a394 l19.length c395, .int .i64 n12])]) (Ls := []) rfl rfl rfl rfl ((sc rfl (sn _))) (by kernel_rfl) sm (fun H F' L' hF' hL' => v_move rfl) ?_
       refine shM_v (v := .slice a394 l19.length c395) (ek := [(187, .tuple #[.slice a394 l19.length c395, .int .i64 n12])]) (Ls := []) rfl rfl rfl rfl ((sc rfl (sn _))) (by kernel_rfl) sm (fun H F' L' hF' hL' => v_extract rfl rfl) ?_
       refine shM_v (v := .int .i64 n12) (ek := [(187, .tuple #[.slice a394 l19.length c395, .int .i64 n12])]) (Ls := []) rfl rfl rfl rfl ((sc rfl (sn _))) (by kernel_rfl) sm (fun H F' L' hF' hL' => v_extract rfl rfl) ?_
       refine shM_v (v := .slice a394 l19.length c395) (ek := [(193, .slice a394 l19.length c395)]) (Ls := []) rfl rfl rfl rfl ((sc rfl (sn _))) (by kernel_rfl) sm (fun H F' L' hF' hL' => v_assign rfl) ?_
       refine shM_v (v := .int .i64 n12) (ek := [(194, .int .i64 n12)]) (Ls := []) rfl rfl rfl rfl ((sc rfl (sn _))) (by kernel_rfl) sm (fun H F' L' hF' hL' => v_assign rfl) ?_
       refine shM_nil ?_
       refine wsr (om rfl rfl ?_)
       refine ov (v_neq rfl rfl) rfl ?_
       refine shO_nil ?_
       refine shW_condP rfl (fun c397 => ?_) (fun c397 => ?_)
       · have r398 := ite_t r389 c397; clear r389
         refine wsr (oa rfl rfl (shO_nil ?_))
         refine kW kn ?_
         refine shW_ret (inBlock_ret (andThen_ret (andThen_ret (inBlock_ret (andThen_ret ?_)))))
         refine q_res1 Tryz.results3 (res_tmp rfl) (sr) ?_
         obtain rfl := inj1 r398
         exact rfl
       have r399 := ite_f r389 c397; clear r389
       refine shW_skip (inBlock_n (id := 3) (shW_region ?_))
       refine ov (v_add rfl rfl (Lst.r64 hk323 c330 (RowR.lt h153))) rfl ?_
       refine om rfl rfl (shO_nil ?_)
       subst hn324; exact le (kc (kc (kx kr))) ⟨_, _, rfl, hk331, r399, ((((((hF328.trans hF347).trans hF357).trans hF363).trans hF375).trans hF386).trans hF391), rfl, (sc rfl (sc rfl (sc rfl (sc rfl (sc rfl (sc rfl (sc rfl (sc rfl (sc rfl (sc rfl (sn _)))))))))))⟩
     obtain rfl := Lst.zero hk323 c330
     rw [oyezlaw07_BookPleaded_l4] at r325
     refine shW_exit (andThen_exit (andThen_exit ?_))
     refine inBlock_exit ?_
     exact mi kr ⟨r325, (((hF293.trans hF303).trans hF308).trans hF328), rfl, (sc rfl (sc rfl (sc rfl (sc rfl (sc rfl (sn _))))))⟩
   have r400 := ite_f r287 c288; clear r287
   refine shW_skip ?_
   exact mi (kc (kc (kg (fS fP) kr))) ⟨r400, FExt.refl _, rfl, (sc rfl (sc rfl (sc rfl (sc rfl (sc rfl (sn _))))))⟩
 rintro e1 F403 _ ⟨r401, hF404, rfl, he402⟩
 refine shW_env _ he402 ?_; clear he402
 replace h52 := h52.mono (iE_ok _) hF404
 replace h135 := h135.mono (slE_ok (slE_ok (iE_ok _))) hF404
 replace h138 := h138.mono (iE_ok _) hF404
 replace h141 := h141.mono (prE_ok (iE_ok _) (prE_ok (iE_ok _) (iE_ok _))) hF404
 replace h144 := h144.mono (prE_ok (iE_ok _) (prE_ok (iE_ok _) bE_ok)) hF404
 replace hz38 := hz38.mono (iE_ok _) hF404
 replace hz129 := hz129.mono (iE_ok _) hF404
 replace hz259 := hF404 _ _ hz259
 rw [oyezlaw07_BookPleaded_j3] at r401
 refine wsr (oa rfl rfl (shO_nil ?_))
 refine shW_join (fun e1 F1 L1 => ∃ (refuted : Int), oyezlaw07_BookPleaded_j5 n n2 l l2 l3 l4 metal2 q_at q_turn l5 l8 refuted = some r ∧ F403 = F1 ∧ L1 = ((b49, .cells #[.slice a50 metal2.length c51, .int .i64 q_at, .int .u32 q_turn] 95 (0, 0)) :: ((b42, .cells #[.int .i64 n, .int .i64 n2, .slice a17 l.length c18, .slice a23 l2.length c24, .slice a29 l3.length c30] 27 (0, 0)) :: (Lb37 ++ (Lb128 ++ [])))) ∧ e1.sub [(5, .pointer (some ⟨b42, 0, none⟩)), (6, .slice a35 n39 c36), (7, .pointer (some ⟨b49, 0, none⟩)), (8, .pointer (some ⟨b53, 0, none⟩)), (9, .slice a126 n130 c127), (27, .int .i64 refuted)]) ?_ ?_
 · refine wsr ?_
   refine ov (v_load Tryz.isAgg32 rfl (Has.frozen hz259) rfl) rfl ?_
   refine ov (v_lenS Tryz.underlying32 rfl) rfl ?_
   refine om rfl rfl (shO_nil ?_)
   refine shW_block ?_
   refine shW_lp (fun fu6 e1 F1 L1 => ∃ (tl3 : List (Int × Int × Bool)) (k6 : Int), tl3.length = fu6 ∧ Lst l5 k6 tl3 ∧ ∃ (refuted2 : Int), oyezlaw07_BookPleaded_l6 n n2 l l2 l3 l4 metal2 q_at q_turn l5 l8 tl3 refuted2 = some r ∧ F403 = F1 ∧ L1 = ((b49, .cells #[.slice a50 metal2.length c51, .int .i64 q_at, .int .u32 q_turn] 95 (0, 0)) :: ((b42, .cells #[.int .i64 n, .int .i64 n2, .slice a17 l.length c18, .slice a23 l2.length c24, .slice a29 l3.length c30] 27 (0, 0)) :: (Lb37 ++ (Lb128 ++ [])))) ∧ e1.sub [(5, .pointer (some ⟨b42, 0, none⟩)), (6, .slice a35 n39 c36), (7, .pointer (some ⟨b49, 0, none⟩)), (8, .pointer (some ⟨b53, 0, none⟩)), (9, .slice a126 n130 c127), (27, .int .i64 refuted2), (198, .slice a54 l5.length c55), (199, .int .i64 (l5.length : Int)), (200, .int .i64 k6)]) _ (m0 kr ⟨_, _, rfl, Lst.start _, 0, r401, rfl, rfl, (sc rfl (sc rfl (sc rfl (sc rfl (sc rfl (sc rfl (sc rfl (sc rfl (sc rfl (sn _))))))))))⟩) ?_
   rintro fu6 e1 _ _ ⟨tl3, k6, hn406, hk405, refuted2, r407, rfl, rfl, he408⟩
   refine shW_env _ he408 ?_; clear he408
   refine wsr ?_
   refine ov (v_lssK rfl rfl) rfl ?_
   refine shO_nil (shW_seq ?_)
   refine shW_condP rfl (fun c410 => ?_) (fun c410 => ?_)
   · obtain ⟨x2, tl4, rfl, hx412, g413, hk411⟩ := Lst.succ hk405 c410
     rw [oyezlaw07_BookPleaded_l6] at r407
     refine shW_skip (shW_seq ?_)
     refine shW_block ?_
     refine wsr ?_
     obtain ⟨b414, o415, c416, vs417, ha418, hs419, hle420, ⟨_, _, rfl, rfl, ⟨_, _, rfl, rfl, rfl⟩⟩, hl421, hc422⟩ := RowR.at (prE_ok (iE_ok _) (prE_ok (iE_ok _) bE_ok)) h144 ((b49, .cells #[.slice a50 metal2.length c51, .int .i64 q_at, .int .u32 q_turn] 95 (0, 0)) :: ((b42, .cells #[.int .i64 n, .int .i64 n2, .slice a17 l.length c18, .slice a23 l2.length c24, .slice a29 l3.length c30] 27 (0, 0)) :: (Lb37 ++ (Lb128 ++ [])))) g413.1 hx412
     refine ov (v_indexO Tryz.underlying32 Tryz.sizeOf36 rfl ha418 rfl g413) rfl ?_
     refine ov (v_loadA (cs := #[.int .i64 x2.1, .int .i64 x2.2.1, .bool x2.2.2]) Tryz.isAgg36 Tryz.sizeOf36 rfl hs419 hle420 (extract_cells hle420 hl421 hc422)) rfl ?_
     refine o_alloc rfl Tryz.zeroValue36 ?_; intro b423 hb423
     refine o_storeA (i := 0) Tryz.sizeOf36 rfl rfl rfl (by simp [Value.oneCell']) rfl (Nat.le_of_ble_eq_true rfl) ?_
     refine shO_L (L' := (b423, .cells #[.int .i64 x2.1, .int .i64 x2.2.1, .bool x2.2.2] 36 (0, 0)) :: ((b49, .cells #[.slice a50 metal2.length c51, .int .i64 q_at, .int .u32 q_turn] 95 (0, 0)) :: ((b42, .cells #[.int .i64 n, .int .i64 n2, .slice a17 l.length c18, .slice a23 l2.length c24, .slice a29 l3.length c30] 27 (0, 0)) :: (Lb37 ++ (Lb128 ++ []))))) rfl ?_
     refine nsr ?_
     refine ov (v_loadA (cs := #[.int .i64 n, .int .i64 n2, .slice a17 l.length c18, .slice a23 l2.length c24, .slice a29 l3.length c30]) Tryz.isAgg27 Tryz.sizeOf27 rfl (Has.own 2 rfl) (Nat.le_of_ble_eq_true rfl) rfl) rfl ?_
     refine ov (v_loadA (cs := #[.int .i64 x2.1, .int .i64 x2.2.1, .bool x2.2.2]) Tryz.isAgg36 Tryz.sizeOf36 rfl (Has.own 0 rfl) (Nat.le_of_ble_eq_true rfl) rfl) rfl ?_
     obtain ⟨ok11, n13, h424, r425⟩ := b2_ok r407; clear r407
     refine o_callV rfl Tryz.call21 rfl rfl rfl (book_Refuted_w h135 h138 h141 h424) ?_
     refine om rfl rfl (ox rfl rfl rfl (ox rfl rfl rfl (oa rfl rfl (oa rfl rfl (shO_nil (shW_seq (wsr (om rfl rfl ?_))))))))
     refine ov (v_neq rfl rfl) rfl ?_
     refine shO_nil ?_
     refine shW_condP rfl (fun c426 => ?_) (fun c426 => ?_)
     · have r427 := ite_t r425 c426; clear r425
       refine wsr (oa rfl rfl (shO_nil ?_))
       refine kW kn ?_
       refine shW_ret (andThen_ret (inBlock_ret (andThen_ret (andThen_ret (inBlock_ret (andThen_ret ?_))))))
       refine q_res1 Tryz.results3 (res_tmp rfl) (sr) ?_
       obtain rfl := inj1 r427
       exact rfl
     have r428 := ite_f r425 c426; clear r425
     refine shW_skip (wsr (om rfl rfl (shO_nil ?_)))
     refine shW_cond rfl (fun c429 => ?_) (fun c429 => ?_)
     · have r430 := bt r428 c429; clear r428
       refine shW_region (om rfl rfl ?_)
       obtain ⟨g431, r432⟩ := gd_ok r430; clear r430
       refine ov (v_add rfl rfl g431) rfl ?_
       refine oa rfl rfl (shO_nil (inBlock_n (id := 5) (shW_region ?_)))
       refine ov (v_add rfl rfl (Lst.r64 hk405 c410 (RowR.lt h144))) rfl ?_
       refine om rfl rfl (shO_nil ?_)
       subst hn406; exact le (kd kr) ⟨_, _, rfl, hk411, refuted2 + 1, r432, rfl, rfl, (sc rfl (sc rfl (sc rfl (sc rfl (sc rfl (sc rfl (sc rfl (sc rfl (sc rfl (sn _))))))))))⟩
     have r433 := bf r428 c429; clear r428
     refine shW_skip (inBlock_n (id := 5) (shW_region ?_))
     refine ov (v_add rfl rfl (Lst.r64 hk405 c410 (RowR.lt h144))) rfl ?_
     refine om rfl rfl (shO_nil ?_)
     subst hn406; exact le (kd kr) ⟨_, _, rfl, hk411, refuted2, r433, rfl, rfl, (sc rfl (sc rfl (sc rfl (sc rfl (sc rfl (sc rfl (sc rfl (sc rfl (sc rfl (sn _))))))))))⟩
   obtain rfl := Lst.zero hk405 c410
   rw [oyezlaw07_BookPleaded_l6] at r407
   refine shW_exit (andThen_exit (andThen_exit ?_))
   refine inBlock_exit ?_
   exact mi kr ⟨refuted2, r407, rfl, rfl, (sc rfl (sc rfl (sc rfl (sc rfl (sc rfl (sc rfl (sn _)))))))⟩
 rintro e1 _ _ ⟨refuted, r434, rfl, rfl, he435⟩
 refine shW_env _ he435 ?_; clear he435
 rw [oyezlaw07_BookPleaded_j5] at r434
 refine shW_join (fun e1 F1 L1 => oyezlaw07_BookPleaded_j7 l8 refuted = some r ∧ FExt F403 F1 ∧ L1 = (Lb128 ++ []) ∧ e1.sub [(9, .slice a126 n130 c127), (27, .int .i64 refuted)]) ?_ ?_
 · refine wsr (om rfl rfl ?_)
   refine ov (v_loadA (cs := #[.int .i64 n, .int .i64 n2, .slice a17 l.length c18, .slice a23 l2.length c24, .slice a29 l3.length c30]) Tryz.isAgg27 Tryz.sizeOf27 rfl (Has.own 1 rfl) (Nat.le_of_ble_eq_true rfl) rfl) rfl ?_
   refine om rfl rfl ?_
   obtain rfl := (SlR.caps hz38).1
   refine shO_freezeR (Nat.le_refl _) (iE_ok _) (fC (fC fP)) hz38 ?_; intro F436 hF437 h438
   replace h52 := h52.mono (iE_ok _) hF437
   replace h135 := h135.mono (slE_ok (slE_ok (iE_ok _))) hF437
   replace h138 := h138.mono (iE_ok _) hF437
   replace h141 := h141.mono (prE_ok (iE_ok _) (prE_ok (iE_ok _) (iE_ok _))) hF437
   replace h144 := h144.mono (prE_ok (iE_ok _) (prE_ok (iE_ok _) bE_ok)) hF437
   replace hz129 := hz129.mono (iE_ok _) hF437
   replace hz259 := hF437 _ _ hz259
   obtain ⟨l20, at_8, turn8, h439, r440⟩ := b3_ok r434; clear r434
   refine o_callG (Lb := [(b49, .cells #[.slice a50 metal2.length c51, .int .i64 q_at, .int .u32 q_turn] 95 (0, 0))]) (Lr := (b42, .cells #[.int .i64 n, .int .i64 n2, .slice a17 l.length c18, .slice a23 l2.length c24, .slice a29 l3.length c30] 27 (0, 0)) :: (Lb128 ++ [])) rfl Tryz.call22 rfl rfl rfl (pR) (oyezlaw07_tried_w h52 h135 h138 h141 h438 h439) ?_; rintro _ F441 _ hF442 hd444 hn443 ⟨a445, n449, c446, Lb447, rfl, rfl, hz448⟩
   replace h135 := h135.mono (slE_ok (slE_ok (iE_ok _))) hF442
   replace h138 := h138.mono (iE_ok _) hF442
   replace h141 := h141.mono (prE_ok (iE_ok _) (prE_ok (iE_ok _) (iE_ok _))) hF442
   replace h144 := h144.mono (prE_ok (iE_ok _) (prE_ok (iE_ok _) bE_ok)) hF442
   replace hz129 := hz129.mono (iE_ok _) hF442
   replace hz259 := hF442 _ _ hz259
   have hn451 := newp (Lb' := [(b49, .cells #[.slice a50 metal2.length c51, .int .i64 at_8, .int .u32 turn8] 95 (0, 0))]) (by rfl) hd444 hn443
   replace hz448 := hz448.new fun p hp => hn451 p (by simp [hp])
   refine shO_L (lb (lp (ln rfl))) ?_
   refine kO (kc (kf (fS fO) kr)) ?_
   refine ov ((v_lenS Tryz.underlying49 rfl).i (SlR.lenI hz448)) rfl ?_
   refine om rfl rfl (shO_nil ?_)
   refine shW_block ?_
   refine kW (kd kr) ?_
   refine shW_lp (fun fu8 e1 F1 L1 => ∃ (tl5 : List (List Int)) (k7 : Int), tl5.length = fu8 ∧ Lst l20 k7 tl5 ∧ oyezlaw07_BookPleaded_l8 n n2 l l2 l3 l5 l8 refuted tl5 = some r ∧ FExt F441 F1 ∧ L1 = ((b42, .cells #[.int .i64 n, .int .i64 n2, .slice a17 l.length c18, .slice a23 l2.length c24, .slice a29 l3.length c30] 27 (0, 0)) :: (Lb128 ++ (Lb447 ++ []))) ∧ e1.sub [(5, .pointer (some ⟨b42, 0, none⟩)), (8, .pointer (some ⟨b53, 0, none⟩)), (9, .slice a126 n130 c127), (27, .int .i64 refuted), (219, .slice a445 n449 c446), (220, .int .i64 (l20.length : Int)), (221, .int .i64 k7)]) _ (m0 (kc (kg (fS fP) kr)) ⟨_, _, rfl, Lst.start _, r440, FExt.refl _, rfl, (sc rfl (sc rfl (sc rfl (sc rfl (sc rfl (sc rfl (sc rfl (sn _))))))))⟩) ?_
   rintro fu8 e1 F456 _ ⟨tl5, k7, hn453, hk452, r454, hF457, rfl, he455⟩
   refine shW_env _ he455 ?_; clear he455
   replace h135 := h135.mono (slE_ok (slE_ok (iE_ok _))) hF457
   replace h138 := h138.mono (iE_ok _) hF457
   replace h141 := h141.mono (prE_ok (iE_ok _) (prE_ok (iE_ok _) (iE_ok _))) hF457
   replace h144 := h144.mono (prE_ok (iE_ok _) (prE_ok (iE_ok _) bE_ok)) hF457
   replace hz129 := hz129.mono (iE_ok _) hF457
   replace hz448 := hz448.mono (slE_ok (iE_ok _)) hF457
   replace hz259 := hF457 _ _ hz259
   refine wsr ?_
   refine ov (v_lssK rfl rfl) rfl ?_
   refine shO_nil (shW_seq ?_)
   refine shW_condP rfl (fun c459 => ?_) (fun c459 => ?_)
   · obtain ⟨x3, tl6, rfl, hx461, g462, hk460⟩ := Lst.succ hk452 c459
     rw [oyezlaw07_BookPleaded_l8] at r454
     refine shW_skip (shW_seq ?_)
     refine shW_block ?_
     refine wsr ?_
     obtain ⟨b463, o464, c465, vs466, ha467, hs468, hle469, ⟨a472, c473, rfl, h474⟩, hl470, hc471⟩ := SlR.at (slE_ok (iE_ok _)) hz448 (L := (b42, .cells #[.int .i64 n, .int .i64 n2, .slice a17 l.length c18, .slice a23 l2.length c24, .slice a29 l3.length c30] 27 (0, 0)) :: (Lb128 ++ (Lb447 ++ []))) (fC (fS fP)) g462.1 hx461
     refine ov (v_indexO Tryz.underlying49 Tryz.sizeOf24 rfl ha467 rfl (SlR.idx hz448 g462)) rfl ?_
     refine ov (v_load Tryz.isAgg24 rfl hs468 (hc471 0 (by decide))) rfl ?_
     refine oa rfl rfl (nsr ?_)
     refine ov (v_loadA (cs := #[.int .i64 n, .int .i64 n2, .slice a17 l.length c18, .slice a23 l2.length c24, .slice a29 l3.length c30]) Tryz.isAgg27 Tryz.sizeOf27 rfl (Has.own 0 rfl) (Nat.le_of_ble_eq_true rfl) rfl) rfl ?_
     refine ov (v_load Tryz.isAgg32 rfl (Has.frozen hz259) rfl) rfl ?_
     refine om rfl rfl ?_
     obtain ⟨l21, n14, h475, r476⟩ := b2_ok r454; clear r454
     refine o_call0 rfl Tryz.call14 rfl rfl rfl (book_False_w h135 h138 h141 h144 h474 h475) ?_; rintro _ F477 _ hF478 hn479 ⟨a481, n485, c482, Lb483, rfl, rfl, hz484⟩
     replace hz129 := hz129.mono (iE_ok _) hF478
     replace hz448 := hz448.mono (slE_ok (iE_ok _)) hF478
     replace hz484 := hz484.new fun p hp => hn479 p (by simp [hp])
     refine shO_L (lp (ln rfl)) ?_
     refine kO (kf (fS fO) kr) ?_
     refine om rfl rfl (ox rfl rfl rfl (ox rfl rfl rfl (oa rfl rfl (oa rfl rfl (shO_nil ?_)))))
     obtain ⟨k8, h487, r488⟩ := b1_ok r476; clear r476
     refine shW_join (fun e1 F1 L1 => F477 = F1 ∧ L1 = ((b42, .cells #[.int .i64 n, .int .i64 n2, .slice a17 l.length c18, .slice a23 l2.length c24, .slice a29 l3.length c30] 27 (0, 0)) :: (Lb128 ++ (Lb447 ++ []))) ∧ e1.sub [(5, .pointer (some ⟨b42, 0, none⟩)), (8, .pointer (some ⟨b53, 0, none⟩)), (9, .slice a126 n130 c127), (27, .int .i64 refuted), (219, .slice a445 n449 c446), (220, .int .i64 (l20.length : Int)), (221, .int .i64 k7), (259, .bool k8)]) ?_ ?_
     · clear r488
       refine shW_region (om rfl rfl ?_)
       refine ov (v_neq rfl rfl) rfl ?_
       refine om rfl rfl ?_
       by_cases c489 : n14 ≠ 0
       · have r490 := ite_t h487 c489; clear h487
         refine shO_off (b' := true) 234 rfl (Env.isT rfl c489) rfl rfl (shO_off (b' := true) 234 rfl (Env.isT rfl c489) rfl rfl (shO_off (b' := true) 234 rfl (Env.isT rfl c489) rfl rfl (shO_off (b' := true) 234 rfl (Env.isT rfl c489) rfl rfl (shO_off (b' := true) 234 rfl (Env.isT rfl c489) rfl rfl ?_))))
         refine ov (v_pick_t (evD_true rfl c489) rfl) rfl ?_
         refine om rfl rfl (shO_off (b' := true) 241 rfl rfl rfl rfl (shO_off (b' := true) 241 rfl rfl rfl rfl (shO_off (b' := true) 241 rfl rfl rfl rfl (shO_off (b' := true) 241 rfl rfl rfl rfl (shO_off (b' := true) 241 rfl rfl rfl rfl (shO_off (b' := true) 241 rfl rfl rfl rfl (shO_offU 247 rfl rfl rfl (shO_offU 247 rfl rfl rfl (shO_offU 247 rfl rfl rfl ?_)))))))))
         refine shO_offU 247 rfl rfl rfl (shO_off (b' := true) 241 rfl rfl rfl rfl ?_)
         refine ov (v_pick_t rfl rfl) rfl ?_
         refine om rfl rfl (shO_off (b' := true) 254 rfl rfl rfl rfl (shO_off (b' := true) 254 rfl rfl rfl rfl (shO_off (b' := true) 254 rfl rfl rfl rfl (shO_off (b' := true) 254 rfl rfl rfl rfl ?_))))
         refine ov (v_pick_t rfl rfl) rfl ?_
         refine shO_nil ?_
         obtain rfl := inj1 r490
         exact mi (kc (kx kr)) ⟨rfl, rfl, (sc rfl (sc rfl (sc rfl (sc rfl (sc rfl (sc rfl (sc rfl (sc rfl (sn _)))))))))⟩
       have r491 := ite_f h487 c489; clear h487
       refine shO_on (b := false) 234 rfl (Env.isF rfl c489) (om rfl rfl (shO_on (b := false) 234 rfl (Env.isF rfl c489) ?_))
       refine ov ((v_lenS Tryz.underlying24 rfl).i (SlR.lenI hz484)) rfl ?_
       refine shO_on (b := false) 234 rfl (Env.isF rfl c489) (om rfl rfl (shO_on (b := false) 234 rfl (Env.isF rfl c489) ?_))
       refine ov ((v_lenS Tryz.underlying24 rfl).i (SlR.lenI hz129)) rfl ?_
       refine shO_on (b := false) 234 rfl (Env.isF rfl c489) ?_
       refine ov (v_lssK rfl rfl) rfl ?_
       refine ov (v_pick_f (evD_false rfl c489) rfl) rfl ?_
       refine om rfl rfl ?_
       by_cases c492 : (l21.length : Int) < (l8.length : Int)
       · have r493 := ite_t r491 c492; clear r491
         refine shO_off (b' := true) 241 rfl (Env.isT rfl c492) rfl rfl (shO_off (b' := true) 241 rfl (Env.isT rfl c492) rfl rfl (shO_off (b' := true) 241 rfl (Env.isT rfl c492) rfl rfl (shO_off (b' := true) 241 rfl (Env.isT rfl c492) rfl rfl (shO_off (b' := true) 241 rfl (Env.isT rfl c492) rfl rfl (shO_off (b' := true) 241 rfl (Env.isT rfl c492) rfl rfl (shO_offU 247 rfl rfl rfl (shO_offU 247 rfl rfl rfl (shO_offU 247 rfl rfl rfl (shO_offU 247 rfl rfl rfl ?_)))))))))
         refine shO_off (b' := true) 241 rfl (Env.isT rfl c492) rfl rfl ?_
         refine ov (v_pick_t (evD_true rfl c492) rfl) rfl ?_
         refine om rfl rfl (shO_off (b' := true) 254 rfl rfl rfl rfl (shO_off (b' := true) 254 rfl rfl rfl rfl (shO_off (b' := true) 254 rfl rfl rfl rfl (shO_off (b' := true) 254 rfl rfl rfl rfl ?_))))
         refine ov (v_pick_t rfl rfl) rfl ?_
         refine shO_nil ?_
         obtain rfl := inj1 r493
         exact mi (kc (kx kr)) ⟨rfl, rfl, (sc rfl (sc rfl (sc rfl (sc rfl (sc rfl (sc rfl (sc rfl (sc rfl (sn _)))))))))⟩
       have r494 := ite_f r491 c492; clear r491
       refine shO_on (b := false) 241 rfl (Env.isF rfl c492) (om rfl rfl (shO_on (b := false) 241 rfl (Env.isF rfl c492) ?_))
       refine ov ((v_lenS Tryz.underlying24 rfl).i (SlR.lenI hz484)) rfl ?_
       refine shO_on (b := false) 241 rfl (Env.isF rfl c492) (om rfl rfl (shO_on (b := false) 241 rfl (Env.isF rfl c492) ?_))
       refine ov ((v_lenS Tryz.underlying24 rfl).i (SlR.lenI hz129)) rfl ?_
       refine shO_on (b := false) 241 rfl (Env.isF rfl c492) ?_
       refine ov (v_eql rfl rfl) rfl ?_
       refine shO_on (b := false) 241 rfl (Env.isF rfl c492) (om rfl rfl ?_)
       by_cases c495 : (l21.length : Int) = (l8.length : Int)
       · have r496 := ite_t r494 c495; clear r494
         refine shO_on (b := true) 247 rfl (Env.isT rfl c495) (om rfl rfl (shO_on (b := true) 247 rfl (Env.isT rfl c495) (om rfl rfl (shO_on (b := true) 247 rfl (Env.isT rfl c495) ?_))))
         obtain ⟨n15, h497, r498⟩ := b1_ok r496; clear r496
         refine o_callT (Lt := Lb483 ++ (Lb128 ++ [])) (Lr := (b42, .cells #[.int .i64 n, .int .i64 n2, .slice a17 l.length c18, .slice a23 l2.length c24, .slice a29 l3.length c30] 27 (0, 0)) :: (Lb447 ++ [])) rfl Tryz.call23 rfl rfl rfl (pT ((fC fP).trans (pA ((fC fP).trans (pA pR)))) (lp (lp (ln rfl)))) (fun F2 h2 h3 => by rw [(SlR.caps hz484).1]; rw [(SlR.caps hz129).1]; exact slices_Compare_int_int_w (hz484.row (iE_ok _) h2 (fun p hp => h3 p (List.mem_append_left _ hp))) (hz129.row (iE_ok _) h2 (fun p hp => h3 p (List.mem_append_right _ (List.mem_append_left _ hp)))) h497) ?_
         refine shO_on (b := true) 247 rfl (Env.isT rfl c495) ?_
         refine ov (v_lssK rfl rfl) rfl ?_
         refine shO_on (b := false) 241 rfl (Env.isF rfl c492) ?_
         refine ov (v_pick_t (evD_true rfl c495) rfl) rfl ?_
         refine ov (v_pick_f (evD_false rfl c492) rfl) rfl ?_
         refine om rfl rfl ?_
         by_cases c499 : n15 < 0
         · have r500 := ite_t r498 c499; clear r498
           refine shO_off (b' := true) 254 rfl (Env.isT rfl c499) rfl rfl (shO_off (b' := true) 254 rfl (Env.isT rfl c499) rfl rfl (shO_off (b' := true) 254 rfl (Env.isT rfl c499) rfl rfl (shO_off (b' := true) 254 rfl (Env.isT rfl c499) rfl rfl ?_)))
           refine ov (v_pick_t (evD_true rfl c499) rfl) rfl ?_
           refine shO_nil ?_
           obtain rfl := inj1 r500
           exact mi (kc (kx kr)) ⟨rfl, rfl, (sc rfl (sc rfl (sc rfl (sc rfl (sc rfl (sc rfl (sc rfl (sc rfl (sn _)))))))))⟩
         have r501 := ite_f r498 c499; clear r498
         refine shO_on (b := false) 254 rfl (Env.isF rfl c499) (om rfl rfl (shO_on (b := false) 254 rfl (Env.isF rfl c499) ?_))
         refine ov ((v_lenS Tryz.underlying24 rfl).i (SlR.lenI hz484)) rfl ?_
         refine shO_on (b := false) 254 rfl (Env.isF rfl c499) (om rfl rfl (shO_on (b := false) 254 rfl (Env.isF rfl c499) ?_))
         refine ov (v_lssK rfl rfl) rfl ?_
         refine ov (v_pick_f (evD_false rfl c499) rfl) rfl ?_
         refine shO_nil ?_
         obtain rfl := inj1 r501
         exact mi (kc (kx kr)) ⟨rfl, rfl, (sc rfl (sc rfl (sc rfl (sc rfl (sc rfl (sc rfl (sc rfl (sc rfl (sn _)))))))))⟩
       have r502 := ite_f r494 c495; clear r494
       refine shO_off (b' := false) 247 rfl (Env.isF rfl c495) rfl rfl (shO_off (b' := false) 247 rfl (Env.isF rfl c495) rfl rfl (shO_off (b' := false) 247 rfl (Env.isF rfl c495) rfl rfl (shO_off (b' := false) 247 rfl (Env.isF rfl c495) rfl rfl (shO_on (b := false) 241 rfl (Env.isF rfl c492) ?_))))
       refine ov (v_pick_f (evD_false rfl c495) rfl) rfl ?_
       refine ov (v_pick_f (evD_false rfl c492) rfl) rfl ?_
       refine om rfl rfl (shO_on (b := false) 254 rfl rfl (om rfl rfl (shO_on (b := false) 254 rfl rfl ?_)))
       refine ov ((v_lenS Tryz.underlying24 rfl).i (SlR.lenI hz484)) rfl ?_
       refine shO_on (b := false) 254 rfl rfl (om rfl rfl (shO_on (b := false) 254 rfl rfl ?_))
       refine ov (v_lssK rfl rfl) rfl ?_
       refine ov (v_pick_f rfl rfl) rfl ?_
       refine shO_nil ?_
       obtain rfl := inj1 r502
       exact mi (kc (kx kr)) ⟨rfl, rfl, (sc rfl (sc rfl (sc rfl (sc rfl (sc rfl (sc rfl (sc rfl (sc rfl (sn _)))))))))⟩
     rintro e1 _ _ ⟨rfl, rfl, he503⟩
     refine shW_env _ he503 ?_; clear he503
     refine shW_cond rfl (fun c504 => ?_) (fun c504 => ?_)
     · have r505 := bt r488 c504; clear r488
       refine wsr (oa rfl rfl (shO_nil ?_))
       refine kW kn ?_
       refine shW_ret (inBlock_ret (andThen_ret (andThen_ret (inBlock_ret (andThen_ret ?_)))))
       refine q_res1 Tryz.results3 (res_tmp rfl) (sr) ?_
       obtain rfl := inj1 r505
       exact rfl
     have r506 := bf r488 c504; clear r488
     refine shW_skip (inBlock_n (id := 7) (shW_region ?_))
     refine ov (v_add rfl rfl (Lst.r64 hk452 c459 (SlR.llt hz448))) rfl ?_
     refine om rfl rfl (shO_nil ?_)
     subst hn453; exact le kr ⟨_, _, rfl, hk460, r506, (hF457.trans hF478), rfl, (sc rfl (sc rfl (sc rfl (sc rfl (sc rfl (sc rfl (sc rfl (sn _))))))))⟩
   obtain rfl := Lst.zero hk452 c459
   rw [oyezlaw07_BookPleaded_l8] at r454
   refine shW_exit (andThen_exit (andThen_exit ?_))
   refine inBlock_exit ?_
   exact mi (kd (ka kn)) ⟨r454, ((hF437.trans hF442).trans hF457), rfl, (sc rfl (sc rfl (sn _)))⟩
 rintro e1 F509 _ ⟨r507, hF510, rfl, he508⟩
 refine shW_env _ he508 ?_; clear he508
 replace hz129 := hz129.mono (iE_ok _) hF510
 rw [oyezlaw07_BookPleaded_j7] at r507
 refine wsr (om rfl rfl ?_)
 refine ov ((v_lenS Tryz.underlying24 rfl).i (SlR.lenI hz129)) rfl ?_
 refine om rfl rfl ?_
 refine ov (v_geqK rfl rfl) rfl ?_
 refine om rfl rfl ?_
 by_cases c511 : refuted ≤ (l8.length : Int)
 · have r512 := ite_t r507 c511; clear r507
   refine shO_on (b := true) 265 rfl (Env.isT rfl c511) ?_
   obtain ⟨ok12, h513, r514⟩ := b1_ok r512; clear r512
   refine o_callV rfl Tryz.call24 rfl rfl rfl (oyezlaw07_awake_w h513) ?_
   refine ov (v_pick_t (evD_true rfl c511) rfl) rfl ?_
   refine oa rfl rfl (shO_nil ?_)
   refine kW kn ?_
   refine shW_ret ?_
   refine q_res1 Tryz.results3 (res_tmp rfl) (sr) ?_
   obtain rfl := inj1 r514
   exact rfl
 have r515 := ite_f r507 c511; clear r507
 refine shO_off (b' := false) 265 rfl (Env.isF rfl c511) rfl rfl ?_
 refine ov (v_pick_f (evD_false rfl c511) rfl) rfl ?_
 refine oa rfl rfl (shO_nil ?_)
 refine kW kn ?_
 refine shW_ret ?_
 refine q_res1 Tryz.results3 (res_tmp rfl) (sr) ?_
 obtain rfl := inj1 r515
 exact rfl
end Go.Proofs.YtodhcoakjlmcdaaGreat
