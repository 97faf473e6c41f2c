/- The walks that this claim needs, printed by a program of mine; part 3. -/
import Derived.Test.YtejkgppikpkkpaaGreatZFNF2
namespace Go.Proofs.YtejkgppikpkkpaaGreat
open Go.SH Go.PL
set_option maxHeartbeats 1000000 in
theorem slices_AppendSeq_int_int_w {s__a : Option Addr} {s__n : Nat} {s__c : Nat} {s__L : LH} {s_ : List Int} {seq_f : FuncId} {seq_1 : Array Value} {seq_2 : Array Value} {seq : List Int} {F : FS} (h_s_ : SlR 0 3 1 (iE .i64) F s__a s__n s__c s_ s__L) (hc_seq : ∀ args w, (callFunc seq_f args).run Tryz.prog w = .ok (.enter seq_f args) w) (h_seq : IterOK Tryz.prog seq_f seq_1 seq_2 F (fun x : Int => #[.int .i64 x]) seq) {r : List Int} (hr : slices_AppendSeq_int_int s_ seq = some r) :
    SH.Spec Tryz.prog 127 #[.slice s__a s__n s__c, .func (.func seq_f) seq_1 seq_2] F (s__L ++ []) fun F' L' v => ∃ (ra : Option Addr) (rn : Nat) (rc : Nat) (rL : LH), v = .slice ra rn rc ∧ L' = rL ++ [] ∧ SlR 0 3 1 (iE .i64) F' ra rn rc r rL := by
 refine spec_of_shW (args := [.slice s__a s__n s__c, .func (.func seq_f) seq_1 seq_2]) Tryz.func127 rfl Tryz.ntmps127 (Nat.le_of_ble_eq_true rfl) ?_
 intro K _ _; rw [slices_AppendSeq_int_int] at hr
 refine shW_L (L' := s__L ++ []) (by simp) ?_
 refine wsr ?_
 refine o_box rfl rfl ?_; intro b1 hb1
 refine oa rfl rfl (shO_nil ?_)
 obtain ⟨s_2, h8, r9⟩ := b1_ok hr; clear hr
 refine shW_join (fun e1 F1 L1 => ∃ (a2 : Option Addr) (n6 : Nat) (c3 : Nat) (Lb4 : LH), FExt F F1 ∧ L1 = ((b1, .cells #[.slice a2 n6 c3] 28 (0, 0)) :: (Lb4 ++ [])) ∧ e1.sub [(2, .pointer (some ⟨b1, 0, none⟩))] ∧ SlR 0 3 1 (iE .i64) F1 a2 n6 c3 s_2 Lb4) ?_ ?_
 · clear r9
   refine wsr (om rfl rfl (shO_nil ?_))
   refine shW_block ?_
   refine shW_rangeFunc (encs := (fun x : Int => #[.int .i64 x])) (xs := seq) rfl hc_seq rfl (fun _ => rfl) h_seq (fun pre F1 L1 => ∃ (tl : List Int) (s_3 : List Int) (a10 : Option Addr) (n14 : Nat) (c11 : Nat) (Lb12 : LH), seq = pre ++ tl ∧ slices_AppendSeq_int_int_l1 tl s_3 = some s_2 ∧ L1 = ((b1, .cells #[.slice a10 n14 c11] 28 (0, 0)) :: (Lb12 ++ [])) ∧ SlR 0 3 1 (iE .i64) F1 a10 n14 c11 s_3 Lb12) (fun _ _ _ => False) ?_ ?_ ?_ ?_ ?_ ?_
   · rintro pre F1 F2 L1 ⟨tl, s_3, a10, n14, c11, Lb12, hs16, r17, rfl, hz13⟩ hx; exact ⟨tl, s_3, a10, n14, c11, Lb12, hs16, r17, rfl, hz13.mono (iE_ok _) hx⟩
   · intro c F1 F2 L1 h hx; exact h
   · exact ⟨_, s_, s__a, s__n, s__c, s__L, rfl, h8, rfl, h_s_⟩
   · rintro l18 wr19 Fr20 Xr21 Ha22 Hb23 hnb24 hH28 pre x tl2 hxs27 F25 _ hF26 ⟨tl, s_3, a10, n14, c11, Lb12, hs16, r29, rfl, hz13⟩
     obtain rfl := rest_head hs16 hxs27
     rw [slices_AppendSeq_int_int_l1] at r29
     refine shW_env [(2, .pointer (some ⟨b1, 0, none⟩)), (6, .func (.func seq_f) seq_1 seq_2), (7, .int .i64 x)] (by exact (sc rfl (sc rfl (sc rfl (sn _))))) ?_
     refine shW_region (oa rfl rfl (shO_nil ?_))
     refine ⟨rfl, ?_⟩
     refine shW_block ?_
     refine shW_region ?_
     refine ov (v_load Tryz.isAgg28 rfl (Has.own 0 rfl) rfl) rfl ?_
     refine om rfl rfl ?_
     refine o_buildSlice (cs := #[.int .i64 x]) rfl rfl (buildSlice_all slt_28 [.int .i64 x] rfl (by decide) (by simp [Value.cells]) (by decide)) ?_; intro b30 hb30
     obtain ⟨s_4, h31, g32, r33⟩ := ap_ok r29; clear r29
     refine o_appZ (xs := s_3) (ys := [x]) (zs := s_4) rfl slt_28 rfl rfl (Nat.zero_le _) (fun _ => .c (.c .h)) hz13 (SrcR.box (vss := [[.int .i64 x]]) (ys := [x]) 0 rfl (iE_ok _) (.cons rfl .nil) rfl rfl) h31 g32 (by decide) ?_; intro a34 n38 c35 Lb36 hz37
     refine kO (kd kr) ?_
     refine o_store (i := 0) Tryz.sizeOf28 rfl rfl rfl rfl (Nat.le_of_ble_eq_true rfl) ?_
     refine shO_L (L' := (b1, .cells #[.slice a34 n38 c35] 28 (0, 0)) :: (Lb36 ++ [])) rfl ?_
     refine shO_nil (inBlock_n (id := 1) ?_)
     refine ⟨(b1, .cells #[.slice a34 n38 c35] 28 (0, 0)) :: (Lb36 ++ []), sr, ?_⟩; exact ⟨_, s_4, a34, n38, c35, Lb36, (by rw [hxs27]; simp), r33, rfl, hz37⟩
   · rintro F40 _ hF41 ⟨tl, s_3, a10, n14, c11, Lb12, hs16, r42, rfl, hz13⟩
     obtain rfl := rest_nil hs16; rw [slices_AppendSeq_int_int_l1] at r42
     refine inBlock_n (id := 0) ?_
     obtain rfl := inj1 r42
     exact mi kr ⟨a10, n14, c11, Lb12, hF41, rfl, (sc rfl (sn _)), hz13⟩
   intro c F1 L1 hx h; exact h.elim
 rintro e1 F44 _ ⟨a2, n6, c3, Lb4, hF45, rfl, he43, hz5⟩
 refine shW_env _ he43 ?_; clear he43
 refine wsr ?_
 refine ov (v_load Tryz.isAgg28 rfl (Has.own 0 rfl) rfl) rfl ?_
 refine oa rfl rfl (shO_nil ?_)
 refine kW (kd kr) ?_
 refine shW_ret ?_
 refine q_res1 Tryz.results127 (res_tmp rfl) (sr) ?_
 obtain rfl := inj1 r9
 exact ⟨_, _, _, _, rfl, rfl, hz5⟩
set_option maxHeartbeats 1000000 in
theorem slices_Collect_int_w {seq_f : FuncId} {seq_1 : Array Value} {seq_2 : Array Value} {seq : List Int} {F : FS} (hc_seq : ∀ args w, (callFunc seq_f args).run Tryz.prog w = .ok (.enter seq_f args) w) (h_seq : IterOK Tryz.prog seq_f seq_1 seq_2 F (fun x : Int => #[.int .i64 x]) seq) {r : List Int} (hr : slices_Collect_int seq = some r) :
    SH.Spec Tryz.prog 99 #[.func (.func seq_f) seq_1 seq_2] F [] fun F' L' v => ∃ (ra : Option Addr) (rn : Nat) (rc : Nat) (rL : LH), v = .slice ra rn rc ∧ L' = rL ++ [] ∧ SlR 0 3 1 (iE .i64) F' ra rn rc r rL := by
 refine spec_of_shW (args := [.func (.func seq_f) seq_1 seq_2]) Tryz.func99 rfl Tryz.ntmps99 (Nat.le_of_ble_eq_true rfl) ?_
 intro K _ _; rw [slices_Collect_int] at hr
 refine wsr (oa rfl rfl (nsr (om rfl rfl ?_)))
 obtain ⟨l, h1, r2⟩ := b1_ok hr; clear hr
 refine o_call0 rfl Tryz.call127 rfl rfl rfl (slices_AppendSeq_int_int_w (SlR.nil 0 _ _ _ _) hc_seq h_seq h1) ?_; rintro _ F3 _ hF4 hn5 ⟨a7, n11, c8, Lb9, rfl, rfl, hz10⟩
 refine shO_L (lp (ln rfl)) ?_
 refine oa rfl rfl (shO_nil (shW_ret ?_))
 refine q_res1 Tryz.results99 (res_tmp rfl) (sr) ?_
 obtain rfl := inj1 r2
 exact ⟨_, _, _, _, rfl, rfl, hz10.any⟩
set_option maxHeartbeats 1000000 in
theorem slices_Sorted_int_w {seq_f : FuncId} {seq_1 : Array Value} {seq_2 : Array Value} {seq : List Int} {F : FS} (hc_seq : ∀ args w, (callFunc seq_f args).run Tryz.prog w = .ok (.enter seq_f args) w) (h_seq : IterOK Tryz.prog seq_f seq_1 seq_2 F (fun x : Int => #[.int .i64 x]) seq) {r : List Int} (hr : slices_Sorted_int seq = some r) :
    SH.Spec Tryz.prog 55 #[.func (.func seq_f) seq_1 seq_2] F [] fun F' L' v => ∃ (ra : Option Addr) (rn : Nat) (rc : Nat) (rL : LH), v = .slice ra rn rc ∧ L' = rL ++ [] ∧ SlR 0 3 1 (iE .i64) F' ra rn rc r rL := by
 refine spec_of_shW (args := [.func (.func seq_f) seq_1 seq_2]) Tryz.func55 rfl Tryz.ntmps55 (Nat.le_of_ble_eq_true rfl) ?_
 intro K _ _; rw [slices_Sorted_int] at hr
 refine wsr (oa rfl rfl (nsr (om rfl rfl ?_)))
 obtain ⟨l, h1, r2⟩ := b1_ok hr; clear hr
 refine o_call0 rfl Tryz.call99 rfl rfl rfl (slices_Collect_int_w hc_seq h_seq h1) ?_; rintro _ F3 _ hF4 hn5 ⟨a7, n11, c8, Lb9, rfl, rfl, hz10⟩
 replace hz10 := hz10.new fun p hp => hn5 p (by simp [hp])
 refine shO_L (lp (ln rfl)) ?_
 refine oa rfl rfl (nsr (om rfl rfl ?_))
 obtain ⟨s_, h13, r14⟩ := b1_ok r2; clear r2
 refine o_callG (Lb := Lb9 ++ []) (Lr := []) rfl Tryz.call53 rfl rfl rfl (pT pR (lp (ln rfl))) (slices_Sort_int_int_w hz10 h13) ?_; rintro _ F15 _ hF16 hd18 hn17 ⟨Lb19, rfl, rfl, hz20⟩
 refine shO_L (lp (ln rfl)) ?_
 refine nsr (om rfl rfl (oa rfl rfl (shO_nil (shW_ret ?_))))
 refine q_res1 Tryz.results55 (res_tmp rfl) (sr) ?_
 obtain rfl := inj1 r14
 exact ⟨_, _, _, _, rfl, rfl, hz20.any⟩
set_option maxHeartbeats 1000000 in
theorem slices_Values_int_int_1_w {b_s_ : Nat} {s__a : Option Addr} {s__c : Nat} {s_ : List Int} {mb_s_ : Nat × Nat} {F : FS} (hb_s_ : F b_s_ = some (.cells #[.slice s__a s_.length s__c] 28 mb_s_)) (h_s_ : RowR 1 (iE .i64) F s__a s__c s_) {xs : List Int} (hr : slices_Values_int_int_1 s_ = some xs) :
    IterOK Tryz.prog 100 #[] #[.pointer (some ⟨b_s_, 0, none⟩)] F (fun x : Int => #[.int .i64 x]) xs := by
 intro G0 hG0 yv J Jx hJm hJxm hy Fc L0 hG hJ0
 replace hb_s_ := (hG0.trans hG) _ _ hb_s_
 replace h_s_ := h_s_.mono (iE_ok _) (hG0.trans hG)
 have hfull0 : xs = [] ++ xs := rfl
 show SH.Spec Tryz.prog 100 #[yv, .pointer (some ⟨b_s_, 0, none⟩)] Fc L0 _
 refine spec_of_shW (args := [yv, .pointer (some ⟨b_s_, 0, none⟩)]) Tryz.func100 rfl Tryz.ntmps100 (Nat.le_of_ble_eq_true rfl) ?_
 intro K _ _; rw [slices_Values_int_int_1] at hr; refine shW_L (L' := L0 ++ []) (by simp) ?_
 refine wsr ?_
 refine ov (v_load Tryz.isAgg28 rfl (Has.frozen hb_s_) rfl) rfl ?_
 refine ov (v_lenS Tryz.underlying28 rfl) rfl ?_
 refine om rfl rfl (shO_nil ?_)
 refine shW_block ?_
 refine shW_lp (fun fu1 e1 F1 L1 => ∃ (tl : List Int) (k : Int), tl.length = fu1 ∧ Lst s_ k tl ∧ ∃ (pre1 : List Int) (rem2 : List Int) (Lj3 : LH), slices_Values_int_int_1_l1 tl = some rem2 ∧ FExt Fc F1 ∧ L1 = (Lj3 ++ []) ∧ e1.sub [(0, yv), (5, .slice s__a s_.length s__c), (6, .int .i64 (s_.length : Int)), (7, .int .i64 k)] ∧ xs = pre1 ++ rem2 ∧ J pre1 F1 Lj3 ∧ FExt G0 F1) _ (m0 kr ⟨_, _, rfl, Lst.start _, [], xs, L0, hr, FExt.refl _, rfl, (sc rfl (sc rfl (sc rfl (sc rfl (sn _))))), hfull0, hJ0, hG⟩) ?_
 rintro fu1 e1 F10 _ ⟨tl, k, hn7, hk6, pre1, rem2, Lj3, r8, hF11, rfl, he9, hfull5, hJ4, hG⟩
 refine shW_env _ he9 ?_; clear he9
 replace h_s_ := h_s_.mono (iE_ok _) hF11
 refine wsr ?_
 refine ov (v_lssK rfl rfl) rfl ?_
 refine shO_nil (shW_seq ?_)
 refine shW_condP rfl (fun c13 => ?_) (fun c13 => ?_)
 · obtain ⟨x, tl2, rfl, hx15, g16, hk14⟩ := Lst.succ hk6 c13
   rw [slices_Values_int_int_1_l1] at r8
   refine shW_skip (shW_seq ?_)
   refine shW_block ?_
   refine wsr ?_
   obtain ⟨b17, o18, c19, vs20, ha21, hs22, hle23, rfl, hl24, hc25⟩ := RowR.at (iE_ok _) h_s_ (Lj3 ++ []) g16.1 hx15
   refine ov (v_indexO Tryz.underlying28 Tryz.sizeOf3 rfl ha21 rfl g16) rfl ?_
   refine ov (v_load Tryz.isAgg3 rfl hs22 (hc25 0 (by decide))) rfl ?_
   refine oa rfl rfl (nsr (om rfl rfl (om rfl rfl ?_)))
   obtain ⟨tl26, r28, hx27⟩ := yl_ok r8; clear r8
   refine o_callC (Lb := Lj3) (Lr := []) (vs := [.int .i64 x]) rfl rfl rfl fP (hy pre1 x tl26 (by rw [hfull5, hx27]) _ _ hG hJ4) ?_
   rintro v36 F29 Lj30 hF31 hz32; obtain ⟨yb33, rfl, hbt34, hbf35⟩ := yield_bool hz32
   replace h_s_ := h_s_.mono (iE_ok _) hF31
   replace hG := hG.trans hF31
   refine ov (v_notB rfl) rfl ?_
   refine shO_nil ?_
   refine shW_cond rfl (fun c37 => ?_) (fun c37 => ?_)
   · have hJ38 := hbf35 (by simpa using c37)
     refine shW_ret (inBlock_ret (andThen_ret (andThen_ret (inBlock_ret ?_))))
     refine q_end0s (.inl rfl) Tryz.results100 (sr) ?_
     exact .inr (by rw [List.append_nil]; exact hJ38)
   have hJ39 := hbt34 (by simpa using c37)
   have hfull40 : xs = (pre1 ++ [x]) ++ tl26 := by rw [hfull5, hx27]; simp
   refine shW_skip (inBlock_n (id := 1) (shW_region ?_))
   refine ov (v_add rfl rfl (Lst.r64 hk6 c13 (RowR.lt h_s_))) rfl ?_
   refine om rfl rfl (shO_nil ?_)
   subst hn7; exact le kr ⟨_, _, rfl, hk14, pre1 ++ [x], tl26, Lj30, r28, (hF11.trans hF31), rfl, (sc rfl (sc rfl (sc rfl (sc rfl (sn _))))), hfull40, hJ39, hG⟩
 obtain rfl := Lst.zero hk6 c13
 rw [slices_Values_int_int_1_l1] at r8
 refine shW_exit (andThen_exit (andThen_exit ?_))
 refine inBlock_exit ?_
 refine q_end0s (.inr rfl) Tryz.results100 (sr) ?_
 obtain rfl := inj1 r8
 exact .inl (by have e1 := hfull5; rw [List.append_nil] at e1; rw [List.append_nil, e1]; exact hJ4)
set_option maxHeartbeats 1000000 in
theorem slices_Values_int_int_w {s__a : Option Addr} {s__c : Nat} {s_ : List Int} {F : FS} (h_s_ : RowR 1 (iE .i64) F s__a s__c s_) {r : List Int} (hr : slices_Values_int_int s_ = some r) :
    SH.Spec Tryz.prog 56 #[.slice s__a s_.length s__c] F [] fun F' L' v => ∃ (rcp : Array Value), v = .func (.func 100) #[] rcp ∧ L' = [] ∧ IterOK Tryz.prog 100 #[] rcp F' (fun x : Int => #[.int .i64 x]) r := by
 refine spec_of_shW (args := [.slice s__a s_.length s__c]) Tryz.func56 rfl Tryz.ntmps56 (Nat.le_of_ble_eq_true rfl) ?_
 intro K _ _; rw [slices_Values_int_int] at hr
 refine wsr ?_
 refine o_box rfl rfl ?_; intro b1 hb1
 refine oa rfl rfl (nsr ?_)
 refine ov (v_makeFunc rfl rfl) rfl ?_
 refine oa rfl rfl (shO_nil ?_)
 refine shW_freeze 0 rfl hb1 ?_; intro F2 hF3 hz4
 refine shW_L (L' := []) rfl ?_
 replace h_s_ := h_s_.mono (iE_ok _) hF3
 obtain ⟨l, h5, r7⟩ := b1_ok hr; clear hr
 have hit6 : IterOK Tryz.prog 100 #[] #[.pointer (some ⟨b1, 0, none⟩)] F2 (fun x : Int => #[.int .i64 x]) l := slices_Values_int_int_1_w hz4 h_s_ h5
 refine shW_ret ?_
 refine q_res1 Tryz.results56 (res_tmp rfl) (sr) ?_
 obtain rfl := inj1 r7
 exact ⟨_, rfl, rfl, hit6⟩
set_option maxHeartbeats 1000000 in
theorem slices_Clone_int_int_w {s__a : Option Addr} {s__c : Nat} {s_ : List Int} {F : FS} (h_s_ : RowR 1 (iE .i64) F s__a s__c s_) {r : List Int} (hr : slices_Clone_int_int s_ = some r) :
    SH.Spec Tryz.prog 58 #[.slice s__a s_.length s__c] F [] fun F' L' v => ∃ (ra : Option Addr) (rn : Nat) (rc : Nat) (rL : LH), v = .slice ra rn rc ∧ L' = rL ++ [] ∧ SlR 0 3 1 (iE .i64) F' ra rn rc r rL := by
 refine spec_of_shW (args := [.slice s__a s_.length s__c]) Tryz.func58 rfl Tryz.ntmps58 (Nat.le_of_ble_eq_true rfl) ?_
 intro K _ _; rw [slices_Clone_int_int] at hr
 refine wsr (oa rfl rfl (shO_nil (shW_seq (wsr (om rfl rfl ?_)))))
 refine ov (v_eqlNil Tryz.underlying28 rfl) rfl ?_
 refine shO_nil ?_
 refine shW_cond rfl (fun c1 => ?_) (fun c1 => ?_)
 · have r2 := nilIf_t hr (RowR.isNone h_s_ c1); clear hr
   refine wsr (oa rfl rfl (shO_nil (shW_ret (andThen_ret ?_))))
   refine q_res1 Tryz.results58 (res_tmp rfl) (sr) ?_
   obtain rfl := inj1 r2
   exact ⟨_, _, _, [], rfl, rfl, SlR.nil _ _ _ _ _⟩
 have r3 := nilIf_f hr; clear hr
 refine shW_skip (wsr ?_)
 refine o_buildSlice (cs := #[]) rfl rfl (buildSlice_none slt_28) ?_; intro b4 hb4
 refine om rfl rfl ?_
 have hz6 : SlR K.w0.heap.size 3 1 (iE .i64) F (some ⟨b4, 0, none⟩) 0 0 ([] : List Int) [(b4, .cells #[] 3 (0, 0))] := SlR.of_block (vss := []) (iE_ok _) hb4 .nil rfl rfl (by simp [maxLen])
 generalize hLLb5 : ([(b4, .cells #[] 3 (0, 0))] : LH) = Lb5 at hz6
 refine shO_perm (L' := Lb5 ++ []) (by rw [← hLLb5]; exact fO) ?_
 obtain ⟨l, h8, g9, r10⟩ := ap_ok r3; clear r3
 refine o_appZ (xs := ([] : List Int)) (ys := s_) (zs := l) rfl slt_28 rfl rfl (Nat.le_refl _) (fun _ => .h) hz6 (RowR.src h_s_) h8 g9 (by decide) ?_; intro a11 n15 c12 Lb13 hz14
 refine oa rfl rfl (shO_nil (shW_ret ?_))
 refine q_res1 Tryz.results58 (res_tmp rfl) (sr) ?_
 obtain rfl := inj1 r10
 exact ⟨_, _, _, _, rfl, rfl, hz14.any⟩
set_option maxHeartbeats 1000000 in
theorem slices_IndexFunc_int_int_w {s__a : Option Addr} {s__c : Nat} {s_ : List Int} {f_f : FuncId} {f_1 : Array Value} {f_2 : Array Value} {f : Int → Option Bool} {F : FS} (h_s_ : RowR 1 (iE .i64) F s__a s__c s_) (h_f : FnR Tryz.prog F f_f f_1 f_2 (iE .i64) Value.bool f) {r : Int} (hr : slices_IndexFunc_int_int s_ f = some r) :
    SpecV Tryz.prog 78 #[.slice s__a s_.length s__c, .func (.func f_f) f_1 f_2] F (.int .i64 r) := by
 refine spec_of_shW (args := [.slice s__a s_.length s__c, .func (.func f_f) f_1 f_2]) Tryz.func78 rfl Tryz.ntmps78 (Nat.le_of_ble_eq_true rfl) ?_
 intro K _ _; rw [slices_IndexFunc_int_int] at hr
 refine wsr (oa rfl rfl (shO_nil ?_))
 refine shW_join (fun e1 F1 L1 => slices_IndexFunc_int_int_j1 = some r ∧ F = F1 ∧ L1 = [] ∧ e1.sub []) ?_ ?_
 · refine wsr (om rfl rfl ?_)
   refine ov (v_lenS Tryz.underlying28 rfl) rfl ?_
   refine om rfl rfl (shO_nil ?_)
   refine shW_block ?_
   refine shW_lp (fun fu2 e1 F1 L1 => ∃ (tl : List Int) (k : Int), tl.length = fu2 ∧ Lst s_ k tl ∧ slices_IndexFunc_int_int_l2 f tl k = some r ∧ F = F1 ∧ L1 = [] ∧ e1.sub [(0, .slice s__a s_.length s__c), (1, .func (.func f_f) f_1 f_2), (7, .int .i64 (s_.length : Int)), (8, .int .i64 k)]) _ (m0 kr ⟨_, _, rfl, Lst.start _, hr, rfl, rfl, (sc rfl (sc rfl (sc rfl (sc rfl (sn _)))))⟩) ?_
   rintro fu2 e1 _ _ ⟨tl, k, hn2, hk1, r3, rfl, rfl, he4⟩
   refine shW_env _ he4 ?_; clear he4
   refine wsr ?_
   refine ov (v_lssK rfl rfl) rfl ?_
   refine shO_nil (shW_seq ?_)
   refine shW_condP rfl (fun c6 => ?_) (fun c6 => ?_)
   · obtain ⟨x, tl2, rfl, hx8, g9, hk7⟩ := Lst.succ hk1 c6
     rw [slices_IndexFunc_int_int_l2] at r3
     refine shW_skip (shW_seq ?_)
     refine shW_block ?_
     refine wsr (om rfl rfl (oa rfl rfl (nsr (om rfl rfl (om rfl rfl (om rfl rfl ?_))))))
     obtain ⟨b10, o11, c12, vs13, ha14, hs15, hle16, rfl, hl17, hc18⟩ := RowR.at (iE_ok _) h_s_ ([]) g9.1 hx8
     refine ov (v_indexO Tryz.underlying28 Tryz.sizeOf3 rfl ha14 rfl g9) rfl ?_
     refine ov (v_load Tryz.isAgg3 rfl hs15 (hc18 0 (by decide))) rfl ?_
     obtain ⟨ok, h19, r20⟩ := b1_ok r3; clear r3
     refine o_callV rfl h_f.1 rfl rfl rfl (h_f.2 _ (FExt.refl _) _ _ _ rfl h19) ?_
     refine shO_nil ?_
     refine shW_cond rfl (fun c21 => ?_) (fun c21 => ?_)
     · have r22 := bt r20 c21; clear r20
       refine wsr (om rfl rfl (oa rfl rfl (shO_nil (shW_ret (inBlock_ret (andThen_ret (andThen_ret (inBlock_ret (andThen_ret ?_)))))))))
       refine q_res1 Tryz.results78 (res_tmp rfl) (sr) ?_
       obtain rfl := inj1 r22
       exact rfl
     have r23 := bf r20 c21; clear r20
     refine shW_skip (inBlock_n (id := 1) (shW_region ?_))
     refine ov (v_add rfl rfl (Lst.r64 hk1 c6 (RowR.lt h_s_))) rfl ?_
     refine om rfl rfl (shO_nil ?_)
     subst hn2; exact le kr ⟨_, _, rfl, hk7, r23, rfl, rfl, (sc rfl (sc rfl (sc rfl (sc rfl (sn _)))))⟩
   obtain rfl := Lst.zero hk1 c6
   rw [slices_IndexFunc_int_int_l2] at r3
   refine shW_exit (andThen_exit (andThen_exit ?_))
   refine inBlock_exit ?_
   exact mi kr ⟨r3, rfl, rfl, (sn _)⟩
 rintro e1 _ _ ⟨r24, rfl, rfl, he25⟩
 refine shW_env _ he25 ?_; clear he25
 rw [slices_IndexFunc_int_int_j1] at r24
 refine wsr (oa rfl rfl (shO_nil (shW_ret ?_)))
 refine q_res1 Tryz.results78 (res_tmp rfl) (sr) ?_
 obtain rfl := inj1 r24
 exact rfl
set_option maxHeartbeats 1000000 in
theorem slices_ContainsFunc_int_int_w {s__a : Option Addr} {s__c : Nat} {s_ : List Int} {f_f : FuncId} {f_1 : Array Value} {f_2 : Array Value} {f : Int → Option Bool} {F : FS} (h_s_ : RowR 1 (iE .i64) F s__a s__c s_) (h_f : FnR Tryz.prog F f_f f_1 f_2 (iE .i64) Value.bool f) {r : Bool} (hr : slices_ContainsFunc_int_int s_ f = some r) :
    SpecV Tryz.prog 29 #[.slice s__a s_.length s__c, .func (.func f_f) f_1 f_2] F (.bool r) := by
 refine spec_of_shW (args := [.slice s__a s_.length s__c, .func (.func f_f) f_1 f_2]) Tryz.func29 rfl Tryz.ntmps29 (Nat.le_of_ble_eq_true rfl) ?_
 intro K _ _; rw [slices_ContainsFunc_int_int] at hr
 refine wsr (oa rfl rfl (nsr (om rfl rfl (om rfl rfl ?_))))
 obtain ⟨n, h1, r2⟩ := b1_ok hr; clear hr
 refine o_callV rfl Tryz.call78 rfl rfl rfl (slices_IndexFunc_int_int_w h_s_ h_f h1) ?_
 refine ov (v_geqK rfl rfl) rfl ?_
 refine oa rfl rfl (shO_nil (shW_ret ?_))
 refine q_res1 Tryz.results29 (res_tmp rfl) (sr) ?_
 obtain rfl := inj1 r2
 exact rfl
set_option maxHeartbeats 1000000 in
theorem hear_every_int_1_w {x : Int} {b_so : Nat} {so_f : FuncId} {so_1 : Array Value} {so_2 : Array Value} {so : Int → Option Bool} {mb_so : Nat × Nat} {F : FS} (hb_so : F b_so = some (.cells #[.func (.func so_f) so_1 so_2] 59 mb_so)) (h_so : FnR Tryz.prog F so_f so_1 so_2 (iE .i64) Value.bool so) {r : Bool} (hr : hear_every_int_1 x so = some r) :
    SpecV Tryz.prog 101 #[.int .i64 x, .pointer (some ⟨b_so, 0, none⟩)] F (.bool r) := by
 refine spec_of_shW (args := [.int .i64 x, .pointer (some ⟨b_so, 0, none⟩)]) Tryz.func101 rfl Tryz.ntmps101 (Nat.le_of_ble_eq_true rfl) ?_
 intro K _ _; rw [hear_every_int_1] at hr
 refine wsr (oa rfl rfl (nsr ?_))
 refine ov (v_load Tryz.isAgg59 rfl (Has.frozen hb_so) rfl) rfl ?_
 refine om rfl rfl ?_
 obtain ⟨ok, h1, r2⟩ := b1_ok hr; clear hr
 refine o_callV rfl h_so.1 rfl rfl rfl (h_so.2 _ (FExt.refl _) _ _ _ rfl h1) ?_
 refine ov (v_notB rfl) rfl ?_
 refine oa rfl rfl (shO_nil (shW_ret ?_))
 refine q_res1 Tryz.results101 (res_tmp rfl) (sr) ?_
 obtain rfl := inj1 r2
 exact rfl
set_option maxHeartbeats 1000000 in
theorem hear_every_int_w {l_a : Option Addr} {l_c : Nat} {l : List Int} {so_f : FuncId} {so_1 : Array Value} {so_2 : Array Value} {so : Int → Option Bool} {F : FS} (h_l : RowR 1 (iE .i64) F l_a l_c l) (h_so : FnR Tryz.prog F so_f so_1 so_2 (iE .i64) Value.bool so) {r : Bool} (hr : hear_every_int l so = some r) :
    SpecV Tryz.prog 59 #[.slice l_a l.length l_c, .func (.func so_f) so_1 so_2] F (.bool r) := by
 refine spec_of_shW (args := [.slice l_a l.length l_c, .func (.func so_f) so_1 so_2]) Tryz.func59 rfl Tryz.ntmps59 (Nat.le_of_ble_eq_true rfl) ?_
 intro K _ _; rw [hear_every_int] at hr
 refine wsr ?_
 refine o_box rfl rfl ?_; intro b1 hb1
 refine oa rfl rfl (nsr (om rfl rfl ?_))
 refine ov (v_makeFunc rfl rfl) rfl ?_
 refine shO_freeze 0 rfl hb1 ?_; intro F2 hF3 hz4
 refine shO_L (L' := []) rfl ?_
 replace h_l := h_l.mono (iE_ok _) hF3
 replace h_so := h_so.mono hF3
 have hn5 : FnR Tryz.prog F2 101 #[] #[.pointer (some ⟨b1, 0, none⟩)] (iE .i64) Value.bool (fun xx_ : Int => hear_every_int_1 xx_ so) := ⟨Tryz.call101, fun F2 h2 vs xx_ r ha hr => by obtain rfl := ha; exact hear_every_int_1_w (h2 _ _ hz4) (h_so.mono h2) hr⟩
 obtain ⟨ok, h6, r7⟩ := b1_ok hr; clear hr
 refine o_callV rfl Tryz.call29 rfl rfl rfl (slices_ContainsFunc_int_int_w h_l hn5 h6) ?_
 refine ov (v_notB rfl) rfl ?_
 refine oa rfl rfl (shO_nil (shW_ret ?_))
 refine q_res1 Tryz.results59 (res_tmp rfl) (sr) ?_
 obtain rfl := inj1 r7
 exact rfl
set_option maxHeartbeats 1000000 in
theorem hear_ears_common_w {x : List Bool} {y : List Bool} {F : FS} (h_x : x.length = 30) (h_y : y.length = 30) {r : Bool} (hr : hear_ears_common x y = some r) :
    SpecV Tryz.prog 61 #[.agg (arr cB x), .agg (arr cB y)] F (.bool r) := by
 refine spec_of_shW (args := [.agg (arr cB x), .agg (arr cB y)]) Tryz.func61 rfl Tryz.ntmps61 (Nat.le_of_ble_eq_true rfl) ?_
 intro K _ _; rw [hear_ears_common] at hr
 refine wsr ?_
 refine o_box rfl rfl ?_; intro b1 hb1
 refine o_box rfl rfl ?_; intro b2 hb2
 refine oa rfl rfl (shO_nil ?_)
 refine shW_join (fun e1 F1 L1 => hear_ears_common_j1 = some r ∧ F = F1 ∧ L1 = [] ∧ e1.sub []) ?_ ?_
 · refine wsr (om rfl rfl (shO_nil ?_))
   refine shW_block ?_
   obtain ⟨g3, r4⟩ := gd_ok hr; clear hr
   refine shW_lp (fun fu2 e1 F1 L1 => ∃ (k : Int), Ctr 0 30 k fu2 ∧ hear_ears_common_l2 x y fu2 k = some r ∧ F = F1 ∧ L1 = [(b2, .cells (arr cB y) 80 (0, 0)), (b1, .cells (arr cB x) 80 (0, 0))] ∧ e1.sub [(2, .pointer (some ⟨b1, 0, none⟩)), (3, .pointer (some ⟨b2, 0, none⟩)), (6, .int .i64 k)]) _ (m0 kr ⟨_, Ctr.start _ _, r4, rfl, rfl, (sc rfl (sc rfl (sc rfl (sn _))))⟩) ?_
   rintro fu2 e1 _ _ ⟨k, hk5, r7, rfl, rfl, he8⟩
   refine shW_env _ he8 ?_; clear he8
   refine wsr ?_
   refine ov (v_lssK rfl rfl) rfl ?_
   refine shO_nil (shW_seq ?_)
   refine shW_condP rfl (fun c10 => ?_) (fun c10 => ?_)
   · obtain ⟨fu2, rfl, hk11⟩ := Ctr.succ hk5 c10
     rw [hear_ears_common_l2] at r7
     refine shW_skip (shW_seq ?_)
     refine shW_block ?_
     refine wsr (om rfl rfl (oa rfl rfl (shO_nil ?_)))
     obtain ⟨k2, h12, r13⟩ := b1_ok r7; clear r7
     refine shW_join (fun e1 F1 L1 => F = F1 ∧ L1 = [(b2, .cells (arr cB y) 80 (0, 0)), (b1, .cells (arr cB x) 80 (0, 0))] ∧ e1.sub [(2, .pointer (some ⟨b1, 0, none⟩)), (3, .pointer (some ⟨b2, 0, none⟩)), (6, .int .i64 k), (16, .bool k2)]) ?_ ?_
     · clear r13
       refine shW_region (om rfl rfl ?_)
       obtain ⟨x2, g14, hx15, r16⟩ := ix_ok h12; clear h12
       have hc17 := arr_at cB_ok h_x hx15
       refine ov (v_indexA Tryz.underlying80 Tryz.sizeOf4 rfl rfl (arr_lt h_x g14)) rfl ?_
       refine ov (v_load Tryz.isAgg4 rfl (Has.own 1 rfl) ((hc17).2.2 0 (by decide))) rfl ?_
       refine om rfl rfl ?_
       rcases bool_two x2 with c18 | c18
       · have r19 := bt r16 c18; clear r16
         refine shO_on (b := true) 12 rfl (EnvB rfl c18) (om rfl rfl (shO_on (b := true) 12 rfl (EnvB rfl c18) ?_))
         obtain ⟨x3, g20, hx21, r22⟩ := ix_ok r19; clear r19
         have hc23 := arr_at cB_ok h_y hx21
         refine ov (v_indexA Tryz.underlying80 Tryz.sizeOf4 rfl rfl (arr_lt h_y g20)) rfl ?_
         refine shO_on (b := true) 12 rfl (EnvB rfl c18) ?_
         refine ov (v_load Tryz.isAgg4 rfl (Has.own 0 rfl) ((hc23).2.2 0 (by decide))) rfl ?_
         refine ov (v_pick_t (evB rfl c18) rfl) rfl ?_
         refine shO_nil ?_
         obtain rfl := inj1 r22
         exact mi kr ⟨rfl, rfl, (sc rfl (sc rfl (sc rfl (sc rfl (sn _)))))⟩
       have r24 := bf r16 c18; clear r16
       refine shO_off (b' := false) 12 rfl (EnvB rfl c18) rfl rfl (shO_off (b' := false) 12 rfl (EnvB rfl c18) rfl rfl (shO_off (b' := false) 12 rfl (EnvB rfl c18) rfl rfl ?_))
       refine ov (v_pick_f (evB rfl c18) rfl) rfl ?_
       refine shO_nil ?_
       obtain rfl := inj1 r24
       exact mi kr ⟨rfl, rfl, (sc rfl (sc rfl (sc rfl (sc rfl (sn _)))))⟩
     rintro e1 _ _ ⟨rfl, rfl, he25⟩
     refine shW_env _ he25 ?_; clear he25
     refine shW_cond rfl (fun c26 => ?_) (fun c26 => ?_)
     · have r27 := bt r13 c26; clear r13
       refine wsr (oa rfl rfl (shO_nil ?_))
       refine kW kn ?_
       refine shW_ret (inBlock_ret (andThen_ret (andThen_ret (inBlock_ret (andThen_ret ?_)))))
       refine q_res1 Tryz.results61 (res_tmp rfl) (sr) ?_
       obtain rfl := inj1 r27
       exact rfl
     have r28 := bf r13 c26; clear r13
     refine shW_skip (inBlock_n (id := 1) (shW_region ?_))
     refine ov (v_add rfl rfl (Ctr.r64 hk5 c10 g3)) rfl ?_
     refine om rfl rfl (shO_nil ?_)
     exact le kr ⟨_, hk11, r28, rfl, rfl, (sc rfl (sc rfl (sc rfl (sn _))))⟩
   obtain rfl := Ctr.zero hk5 c10
   rw [hear_ears_common_l2] at r7
   refine shW_exit (andThen_exit (andThen_exit ?_))
   refine inBlock_exit ?_
   exact mi kn ⟨r7, rfl, rfl, (sn _)⟩
 rintro e1 _ _ ⟨r29, rfl, rfl, he30⟩
 refine shW_env _ he30 ?_; clear he30
 rw [hear_ears_common_j1] at r29
 refine wsr (oa rfl rfl (shO_nil (shW_ret ?_)))
 refine q_res1 Tryz.results61 (res_tmp rfl) (sr) ?_
 obtain rfl := inj1 r29
 exact rfl
set_option maxHeartbeats 1000000 in
theorem hear_Apart_1_1_w {k : Int} {b_x : Nat} {ears_a : Option Addr} {ears_c : Nat} {ears : List (List Bool)} {count_f : FuncId} {count_1 : Array Value} {count_2 : Array Value} {count : Int → Option Int} {mb_x : Nat × Nat} {b_i : Nat} {i : Int} {mb_i : Nat × Nat} {F : FS} (hb_x : F b_x = some (.cells #[.slice ears_a ears.length ears_c, .func (.func count_f) count_1 count_2] 75 mb_x)) (h_ears : RowR 30 (arE 30 cB) F ears_a ears_c ears) (_h_count : FnR Tryz.prog F count_f count_1 count_2 (iE .i64) (Value.int .i64) count) (hb_i : F b_i = some (.cells #[.int .i64 i] 3 mb_i)) {r : Bool} (hr : hear_Apart_1_1 k ears count i = some r) :
    SpecV Tryz.prog 60 #[.int .i64 k, .pointer (some ⟨b_x, 0, none⟩), .pointer (some ⟨b_i, 0, none⟩)] F (.bool r) := by
 refine spec_of_shW (args := [.int .i64 k, .pointer (some ⟨b_x, 0, none⟩), .pointer (some ⟨b_i, 0, none⟩)]) Tryz.func60 rfl Tryz.ntmps60 (Nat.le_of_ble_eq_true rfl) ?_
 intro K _ _; rw [hear_Apart_1_1] at hr
 refine wsr (oa rfl rfl ?_)
 refine nsd (by kernel_rfl) (by kernel_rfl) (by kernel_rfl) ?_
 refine qv (v_fieldAddr fa_75_0 rfl) rfl ?_
 refine qv (v_load Tryz.isAgg72 rfl (Has.frozen hb_x) rfl) rfl ?_
 refine qm rfl rfl ?_
 obtain ⟨x, g1, hx2, r3⟩ := ix_ok hr; clear hr
 obtain ⟨b4, o5, c6, vs7, ha8, hs9, hle10, ⟨rfl, h13⟩, hl11, hc12⟩ := RowR.at (arE_ok (n := 30) (sz := 1) cB_ok) h_ears ([]) g1.1 hx2
 refine qv (v_indexO Tryz.underlying72 Tryz.sizeOf80 rfl ha8 rfl g1) rfl ?_
 refine qv (v_loadA (cs := arr cB x) Tryz.isAgg80 Tryz.sizeOf80 rfl hs9 hle10 (extract_cells hle10 hl11 hc12)) rfl ?_
 refine qv (v_fieldAddr fa_75_0 rfl) rfl ?_
 refine qv (v_load Tryz.isAgg72 rfl (Has.frozen hb_x) rfl) rfl ?_
 refine qv (v_load Tryz.isAgg3 rfl (Has.frozen hb_i) rfl) rfl ?_
 obtain ⟨x2, g14, hx15, r16⟩ := ix_ok r3; clear r3
 obtain ⟨b17, o18, c19, vs20, ha21, hs22, hle23, ⟨rfl, h26⟩, hl24, hc25⟩ := RowR.at (arE_ok (n := 30) (sz := 1) cB_ok) h_ears ([]) g14.1 hx15
 refine qv (v_indexO Tryz.underlying72 Tryz.sizeOf80 rfl ha21 rfl g14) rfl ?_
 refine qv (v_loadA (cs := arr cB x2) Tryz.isAgg80 Tryz.sizeOf80 rfl hs22 hle23 (extract_cells hle23 hl24 hc25)) rfl ?_
 obtain ⟨ok, h27, r28⟩ := b1_ok r16; clear r16
 refine shQ_callV rfl Tryz.call61 rfl rfl rfl (hear_ears_common_w h13 h26 h27) ?_
 refine qv (v_notB rfl) rfl ?_
 refine qa rfl rfl (shQ_nil (shW_ret ?_))
 refine q_res1 Tryz.results60 (res_tmp rfl) (sr) ?_
 obtain rfl := inj1 r28
 exact rfl
set_option maxHeartbeats 1000000 in
theorem hear_Apart_1B_w {rec_ : (List Int) → Int → (List Int) → (List Int) → (List (List Bool)) → (Int → Option Int) → Option ((List Int))} (hrec : ∀ {l_a : Option Addr} {l_c : Nat} {l : List Int} {from_ : Int} {b_out : Nat} {out_a : Option Addr} {out_n : Nat} {out_c : Nat} {out_L : LH} {out : List Int} {b_own : Nat} {own_a : Option Addr} {own_c : Nat} {own : List Int} {mb_own : Nat × Nat} {b_q : Nat} {ears_a : Option Addr} {ears_c : Nat} {ears : List (List Bool)} {count_f : FuncId} {count_1 : Array Value} {count_2 : Array Value} {count : Int → Option Int} {mb_q : Nat × Nat} {b_more : Nat} {mb_more : Nat × Nat} {F : FS} (_ : RowR 1 (iE .i64) F l_a l_c l) (_ : SlR 0 3 1 (iE .i64) F out_a out_n out_c out out_L) (_ : F b_own = some (.cells #[.slice own_a own.length own_c] 28 mb_own)) (_ : RowR 1 (iE .i64) F own_a own_c own) (_ : F b_q = some (.cells #[.slice ears_a ears.length ears_c, .func (.func count_f) count_1 count_2] 75 mb_q)) (_ : RowR 30 (arE 30 cB) F ears_a ears_c ears) (_ : FnR Tryz.prog F count_f count_1 count_2 (iE .i64) (Value.int .i64) count) (_ : F b_more = some (.cells (#[.func (.func 57) #[] #[.pointer (some ⟨b_out, 0, none⟩), .pointer (some ⟨b_own, 0, none⟩), .pointer (some ⟨b_q, 0, none⟩), .pointer (some ⟨b_more, 0, none⟩)]]) 96 mb_more)) {r : List Int} , rec_ l from_ out own ears count = some r → SH.Spec Tryz.prog 57 #[.slice l_a l.length l_c, .int .i64 from_, .pointer (some ⟨b_out, 0, none⟩), .pointer (some ⟨b_own, 0, none⟩), .pointer (some ⟨b_q, 0, none⟩), .pointer (some ⟨b_more, 0, none⟩)] F ((b_out, .cells #[.slice out_a out_n out_c] 28 (0, 0)) :: (out_L ++ [])) fun F' L' v => ∃ (ra : Option Addr) (rn : Nat) (rc : Nat) (rL : LH), v = .tuple #[] ∧ L' = (b_out, .cells #[.slice ra rn rc] 28 (0, 0)) :: (rL ++ []) ∧ SlR 0 3 1 (iE .i64) F' ra rn rc r rL) {l_a : Option Addr} {l_c : Nat} {l : List Int} {from_ : Int} {b_out : Nat} {out_a : Option Addr} {out_n : Nat} {out_c : Nat} {out_L : LH} {out : List Int} {b_own : Nat} {own_a : Option Addr} {own_c : Nat} {own : List Int} {mb_own : Nat × Nat} {b_q : Nat} {ears_a : Option Addr} {ears_c : Nat} {ears : List (List Bool)} {count_f : FuncId} {count_1 : Array Value} {count_2 : Array Value} {count : Int → Option Int} {mb_q : Nat × Nat} {b_more : Nat} {mb_more : Nat × Nat} {F : FS} (h_l : RowR 1 (iE .i64) F l_a l_c l) (h_out : SlR 0 3 1 (iE .i64) F out_a out_n out_c out out_L) (hb_own : F b_own = some (.cells #[.slice own_a own.length own_c] 28 mb_own)) (h_own : RowR 1 (iE .i64) F own_a own_c own) (hb_q : F b_q = some (.cells #[.slice ears_a ears.length ears_c, .func (.func count_f) count_1 count_2] 75 mb_q)) (h_ears : RowR 30 (arE 30 cB) F ears_a ears_c ears) (h_count : FnR Tryz.prog F count_f count_1 count_2 (iE .i64) (Value.int .i64) count) (hb_more : F b_more = some (.cells (#[.func (.func 57) #[] #[.pointer (some ⟨b_out, 0, none⟩), .pointer (some ⟨b_own, 0, none⟩), .pointer (some ⟨b_q, 0, none⟩), .pointer (some ⟨b_more, 0, none⟩)]]) 96 mb_more)) {r : List Int} (hr : hear_Apart_1B rec_ l from_ out own ears count = some r) :
    SH.Spec Tryz.prog 57 #[.slice l_a l.length l_c, .int .i64 from_, .pointer (some ⟨b_out, 0, none⟩), .pointer (some ⟨b_own, 0, none⟩), .pointer (some ⟨b_q, 0, none⟩), .pointer (some ⟨b_more, 0, none⟩)] F ((b_out, .cells #[.slice out_a out_n out_c] 28 (0, 0)) :: (out_L ++ [])) fun F' L' v => ∃ (ra : Option Addr) (rn : Nat) (rc : Nat) (rL : LH), v = .tuple #[] ∧ L' = (b_out, .cells #[.slice ra rn rc] 28 (0, 0)) :: (rL ++ []) ∧ SlR 0 3 1 (iE .i64) F' ra rn rc r rL := by
 refine spec_of_shW (args := [.slice l_a l.length l_c, .int .i64 from_, .pointer (some ⟨b_out, 0, none⟩), .pointer (some ⟨b_own, 0, none⟩), .pointer (some ⟨b_q, 0, none⟩), .pointer (some ⟨b_more, 0, none⟩)]) Tryz.func57 rfl Tryz.ntmps57 (Nat.le_of_ble_eq_true rfl) ?_
 intro K _ _; rw [hear_Apart_1B] at hr
 refine shW_L (L' := (b_out, .cells #[.slice out_a out_n out_c] 28 (0, 0)) :: (out_L ++ [])) (by simp) ?_
 obtain ⟨out2, h7, r8⟩ := b1_ok hr; clear hr
 refine shW_join (fun e1 F1 L1 => ∃ (a1 : Option Addr) (n5 : Nat) (c2 : Nat) (Lb3 : LH), FExt F F1 ∧ L1 = ((b_out, .cells #[.slice a1 n5 c2] 28 (0, 0)) :: (Lb3 ++ [])) ∧ e1.sub [(0, .slice l_a l.length l_c), (1, .int .i64 from_), (3, .pointer (some ⟨b_own, 0, none⟩)), (4, .pointer (some ⟨b_q, 0, none⟩)), (5, .pointer (some ⟨b_more, 0, none⟩))] ∧ SlR 0 3 1 (iE .i64) F1 a1 n5 c2 out2 Lb3) ?_ ?_
 · clear r8
   refine wsr (om rfl rfl ?_)
   refine ov (v_lenS Tryz.underlying28 rfl) rfl ?_
   refine ov (v_load Tryz.isAgg28 rfl (Has.own 0 rfl) rfl) rfl ?_
   refine ov ((v_lenS Tryz.underlying28 rfl).i (SlR.lenI h_out)) rfl ?_
   refine ov (v_gtrK rfl rfl) rfl ?_
   refine shO_nil ?_
   refine shW_condP rfl (fun c9 => ?_) (fun c9 => ?_)
   · have r10 := ite_t h7 c9; clear h7
     refine shW_region (om rfl rfl ?_)
     obtain ⟨l2, h11, r12⟩ := b1_ok r10; clear r10
     refine o_call0 rfl Tryz.call58 rfl rfl rfl (slices_Clone_int_int_w h_l h11) ?_; rintro _ F13 _ hF14 hn15 ⟨a17, n21, c18, Lb19, rfl, rfl, hz20⟩
     replace hz20 := hz20.new fun p hp => hn15 p (by simp [hp])
     refine shO_L (lp (ln rfl)) ?_
     refine kO (kf (fS fO) kr) ?_
     refine o_store (i := 0) Tryz.sizeOf28 rfl rfl rfl rfl (Nat.le_of_ble_eq_true rfl) ?_
     refine shO_L (L' := (b_out, .cells #[.slice a17 n21 c18] 28 (0, 0)) :: (Lb19 ++ (out_L ++ []))) rfl ?_
     refine shO_nil ?_
     obtain rfl := inj1 r12
     exact mi (kc (ka kn)) ⟨a17, n21, c18, Lb19, hF14, rfl, (sc rfl (sc rfl (sc rfl (sc rfl (sc rfl (sn _)))))), hz20.any⟩
   have r23 := ite_f h7 c9; clear h7
   refine shW_skip ?_
   obtain rfl := inj1 r23
   exact mi kr ⟨out_a, out_n, out_c, out_L, FExt.refl _, rfl, (sc rfl (sc rfl (sc rfl (sc rfl (sc rfl (sn _)))))), h_out⟩
 rintro e1 F25 _ ⟨a1, n5, c2, Lb3, hF26, rfl, he24, hz4⟩
 refine shW_env _ he24 ?_; clear he24
 replace h_l := h_l.mono (iE_ok _) hF26
 replace h_own := h_own.mono (iE_ok _) hF26
 replace h_ears := h_ears.mono (arE_ok (n := 30) (sz := 1) cB_ok) hF26
 replace h_count := h_count.mono hF26
 replace hb_own := hF26 _ _ hb_own
 replace hb_q := hF26 _ _ hb_q
 replace hb_more := hF26 _ _ hb_more
 refine wsr (om rfl rfl ?_)
 refine o_alloc rfl Tryz.zeroValue3 ?_; intro b27 hb27
 refine o_store (i := 0) Tryz.sizeOf3 rfl rfl rfl rfl (Nat.le_of_ble_eq_true rfl) ?_
 refine shO_L (L' := (b27, .cells #[.int .i64 from_] 3 (0, 0)) :: ((b_out, .cells #[.slice a1 n5 c2] 28 (0, 0)) :: (Lb3 ++ []))) rfl ?_
 refine shO_nil ?_
 refine shW_block ?_
 refine shW_lp (fun fu1 e1 F1 L1 => ∃ (out3 : List Int) (i : Int) (a28 : Option Addr) (n32 : Nat) (c29 : Nat) (Lb30 : LH) (b34 : Nat), hear_Apart_1B_l1 l own ears count rec_ fu1 out3 i = some r ∧ FExt F25 F1 ∧ L1 = ((b34, .cells #[.int .i64 i] 3 (0, 0)) :: ((b_out, .cells #[.slice a28 n32 c29] 28 (0, 0)) :: (Lb30 ++ []))) ∧ e1.sub [(0, .slice l_a l.length l_c), (3, .pointer (some ⟨b_own, 0, none⟩)), (4, .pointer (some ⟨b_q, 0, none⟩)), (5, .pointer (some ⟨b_more, 0, none⟩)), (8, .pointer (some ⟨b34, 0, none⟩))] ∧ SlR 0 3 1 (iE .i64) F1 a28 n32 c29 out3 Lb30 ∧ K.w0.heap.size ≤ b34) FU (m0 kr ⟨out2, from_, a1, n5, c2, Lb3, b27, r8, FExt.refl _, rfl, (sc rfl (sc rfl (sc rfl (sc rfl (sc rfl (sn _)))))), hz4, hb27⟩) ?_
 rintro fu1 e1 F40 _ ⟨out3, i, a28, n32, c29, Lb30, b34, r38, hF41, rfl, he39, hz31, hb35⟩
 refine shW_env _ he39 ?_; clear he39
 replace h_l := h_l.mono (iE_ok _) hF41
 replace h_own := h_own.mono (iE_ok _) hF41
 replace h_ears := h_ears.mono (arE_ok (n := 30) (sz := 1) cB_ok) hF41
 replace h_count := h_count.mono hF41
 replace hb_own := hF41 _ _ hb_own
 replace hb_q := hF41 _ _ hb_q
 replace hb_more := hF41 _ _ hb_more
 rcases fu1 with _ | fu1
 · rw [hear_Apart_1B_l1] at r38; cases r38
 rw [hear_Apart_1B_l1] at r38
 refine shW_seq (wsr ?_)
 refine ov (v_load Tryz.isAgg3 rfl (Has.own 0 rfl) rfl) rfl ?_
 refine ov (v_load Tryz.isAgg28 rfl (Has.frozen hb_own) rfl) rfl ?_
 refine ov (v_lenS Tryz.underlying28 rfl) rfl ?_
 refine ov (v_lssK rfl rfl) rfl ?_
 refine shO_nil ?_
 refine shW_condP rfl (fun c42 => ?_) (fun c42 => ?_)
 · have r43 := ite_t r38 c42; clear r38
   refine shW_skip ?_
   obtain ⟨out4, h50, r51⟩ := b1_ok r43; clear r43
   refine shW_join (fun e1 F1 L1 => ∃ (a44 : Option Addr) (n48 : Nat) (c45 : Nat) (Lb46 : LH), FExt F40 F1 ∧ L1 = ((b_out, .cells #[.slice a44 n48 c45] 28 (0, 0)) :: ((b34, .cells #[.int .i64 i] 3 (0, 0)) :: (Lb46 ++ []))) ∧ e1.sub [(0, .slice l_a l.length l_c), (3, .pointer (some ⟨b_own, 0, none⟩)), (4, .pointer (some ⟨b_q, 0, none⟩)), (5, .pointer (some ⟨b_more, 0, none⟩)), (8, .pointer (some ⟨b34, 0, none⟩))] ∧ SlR 0 3 1 (iE .i64) F1 a44 n48 c45 out4 Lb46) ?_ ?_
   · clear r51
     refine shW_block ?_
     refine wsr (om rfl rfl ?_)
     refine ov (v_makeFunc rfl rfl) rfl ?_
     obtain ⟨ok, h52, r53⟩ := b1_ok h50; clear h50
     refine o_callT (Lt := [(b34, .cells #[.int .i64 i] 3 (0, 0))]) (Lr := (b_out, .cells #[.slice a28 n32 c29] 28 (0, 0)) :: (Lb30 ++ [])) rfl Tryz.call59 rfl rfl rfl (pR) (fun F2 h2 h3 => by exact hear_every_int_w (h_l.mono (iE_ok _) h2) (show FnR Tryz.prog F2 60 #[] #[.pointer (some ⟨b_q, 0, none⟩), .pointer (some ⟨b34, 0, none⟩)] (iE .i64) Value.bool (fun xx_ : Int => hear_Apart_1_1 xx_ ears count i) from ⟨Tryz.call60, fun F3 h4 vs xx_ r ha hr => by obtain rfl := ha; exact hear_Apart_1_1_w ((h2.trans h4) _ _ hb_q) (h_ears.mono (arE_ok (n := 30) (sz := 1) cB_ok) (h2.trans h4)) (h_count.mono (h2.trans h4)) (h4 _ _ (h3 (b34, .cells #[.int .i64 i] 3 (0, 0)) (List.mem_cons_self ..))) hr⟩) h52) ?_
     refine shO_nil ?_
     refine shW_cond rfl (fun c54 => ?_) (fun c54 => ?_)
     · have r55 := bt r53 c54; clear r53
       refine shW_drawM [(.still, 0), (.still, 1), (.still, 3), (.pre, 4), (.still, 6), (.still, 7), (.seq, 2), (.alloc (.cells #[.int .i64 i] 3 (0, 0)) (fun b => .slice (some ⟨b, 0, none⟩) 1 1) [(29, .int .i64 i)], 4), (.seq, 5), (.seq, 8)] (by kernel_rfl) (by kernel_rfl) (⟨⟨_, _, rfl, rfl, rfl, rfl, rfl, mk_build rfl (buildSlice_all slt_28 [.int .i64 i] rfl (by decide) (by simp [Value.cells]) (by decide))⟩, trivial⟩) (by rfl) (by kernel_rfl) ?_
       refine shM_v (v := .func (.func 57) #[] #[.pointer (some ⟨b_out, 0, none⟩), .pointer (some ⟨b_own, 0, none⟩), .pointer (some ⟨b_q, 0, none⟩), .pointer (some ⟨b_more, 0, none⟩)]) (ek := [(5, .pointer (some ⟨b_more, 0, none⟩))]) (Ls := []) rfl rfl rfl rfl ((sc rfl (sn _))) (by kernel_rfl) sm (fun H F' L' hF' hL' => v_load Tryz.isAgg96 rfl ((Has.frozen hb_more).ext hF' hL') rfl) ?_
       refine shM_v (v := .slice l_a l.length l_c) (ek := [(0, .slice l_a l.length l_c)]) (Ls := []) rfl rfl rfl rfl ((sc rfl (sn _))) (by kernel_rfl) sm (fun H F' L' hF' hL' => v_move rfl) ?_
       refine shM_v (v := .int .i64 i) (ek := [(8, .pointer (some ⟨b34, 0, none⟩))]) (Ls := [(b34, .cells #[.int .i64 i] 3 (0, 0))]) rfl rfl rfl rfl ((sc rfl (sn _))) (by kernel_rfl) (s0 (s2 (s1 (s3 sr)))) (fun H F' L' hF' hL' => v_load Tryz.isAgg3 rfl ((Has.own 0 rfl).ext hF' hL') rfl) ?_
       refine ⟨⟨_, rfl, (sc rfl (sn _)), by kernel_rfl⟩, ?_⟩
       refine shM_v (v := .int .i64 i) (ek := [(8, .pointer (some ⟨b34, 0, none⟩))]) (Ls := [(b34, .cells #[.int .i64 i] 3 (0, 0))]) rfl rfl rfl rfl ((sc rfl (sn _))) (by kernel_rfl) (s0 (s2 (s1 (s3 sr)))) (fun H F' L' hF' hL' => v_load Tryz.isAgg3 rfl ((Has.own 0 rfl).ext hF' hL') rfl) ?_
       obtain ⟨g56, r57⟩ := gd_ok r55; clear r55
       refine shM_v (v := .int .i64 (i + 1)) (ek := [(32, .int .i64 i)]) (Ls := []) rfl rfl rfl rfl ((sc rfl (sn _))) (by kernel_rfl) sm (fun H F' L' hF' hL' => v_add rfl rfl g56) ?_
       refine ⟨_, [(27, .slice l_a l.length l_c)], rfl, rfl, (sc rfl (sn _)), by kernel_rfl, ?_⟩; intro H
       obtain ⟨l3, h58, r59⟩ := b1_ok r57; clear r57
       refine o_call0 rfl Tryz.call58 rfl rfl rfl (slices_Clone_int_int_w h_l h58) ?_; rintro _ F60 _ hF61 hn62 ⟨a64, n68, c65, Lb66, rfl, rfl, hz67⟩
       replace h_own := h_own.mono (iE_ok _) hF61
       replace h_ears := h_ears.mono (arE_ok (n := 30) (sz := 1) cB_ok) hF61
       replace h_count := h_count.mono hF61
       replace hz31 := hz31.mono (iE_ok _) hF61
       replace hb_own := hF61 _ _ hb_own
       replace hb_q := hF61 _ _ hb_q
       replace hb_more := hF61 _ _ hb_more
       replace hz67 := hz67.new fun p hp => hn62 p (by simp [hp])
       refine shO_L (lp (ln rfl)) ?_
       refine kO (kf (fS fO) (kf (fS fO) kr)) ?_
       refine shO_nil ⟨_, rfl, hF61, [7, 6, 3, 0], by kernel_rfl, .inl (.inr (fun d h => by cases h; rfl)), (List.forall_mem_cons.2 ⟨sm, (List.forall_mem_cons.2 ⟨s0 (s2 (s1 (s3 (s3 sr)))), (List.forall_mem_cons.2 ⟨s0 (s2 (s1 (s3 (s3 sr)))), (List.forall_mem_cons.2 ⟨sm, (fun _ h => absurd h List.not_mem_nil)⟩)⟩)⟩)⟩), ?_⟩
       refine shM_bs rfl ?_; intro b70 hb70
       refine shM_L (L' := (b70, .cells #[.int .i64 i] 3 (0, 0)) :: ((b34, .cells #[.int .i64 i] 3 (0, 0)) :: ((b_out, .cells #[.slice a28 n32 c29] 28 (0, 0)) :: (Lb66 ++ (Lb30 ++ []))))) rfl ?_
       refine ⟨_, [(28, .slice a64 n68 c65), (30, .slice (some ⟨b70, 0, none⟩) 1 1)], rfl, rfl, (sc rfl (sc rfl (sn _))), by kernel_rfl, ?_⟩; intro H
       obtain ⟨l4, h71, g72, r73⟩ := ap_ok r59; clear r59
       refine o_appZ (xs := l3) (ys := [i]) (zs := l4) rfl slt_28 rfl rfl (Nat.le_refl _) (fun _ => .c (.c (.c .h))) hz67 (SrcR.box (vss := [[.int .i64 i]]) (ys := [i]) 0 rfl (iE_ok _) (.cons rfl .nil) rfl rfl) h71 g72 (by decide) ?_; intro a74 n78 c75 Lb76 hz77
       refine kO (kd kr) ?_
       refine shO_nil ⟨_, rfl, FExt.refl _, [7, 6, 0], by kernel_rfl, .inl (.inr (fun d h => by cases h; rfl)), (List.forall_mem_cons.2 ⟨sm, (List.forall_mem_cons.2 ⟨s0 (s2 (s1 (s3 (s3 sr)))), (List.forall_mem_cons.2 ⟨sm, (fun _ h => absurd h List.not_mem_nil)⟩)⟩)⟩), ?_⟩
       refine ⟨_, [(26, .func (.func 57) #[] #[.pointer (some ⟨b_out, 0, none⟩), .pointer (some ⟨b_own, 0, none⟩), .pointer (some ⟨b_q, 0, none⟩), .pointer (some ⟨b_more, 0, none⟩)]), (31, .slice a74 n78 c75), (33, .int .i64 (i + 1))], rfl, rfl, (sc rfl (sc rfl (sc rfl (sn _)))), by kernel_rfl, ?_⟩; intro H
       obtain rfl := (SlR.caps hz77).1
       refine shO_freezeR (Nat.le_refl _) (iE_ok _) (fC (fC fP)) hz77 ?_; intro F80 hF81 h82
       replace h_own := h_own.mono (iE_ok _) hF81
       replace h_ears := h_ears.mono (arE_ok (n := 30) (sz := 1) cB_ok) hF81
       replace h_count := h_count.mono hF81
       replace hz31 := hz31.mono (iE_ok _) hF81
       replace hb_own := hF81 _ _ hb_own
       replace hb_q := hF81 _ _ hb_q
       replace hb_more := hF81 _ _ hb_more
       obtain ⟨out5, h83, r84⟩ := b1_ok r73; clear r73
       refine o_callG (Lb := (b_out, .cells #[.slice a28 n32 c29] 28 (0, 0)) :: (Lb30 ++ [])) (Lr := [(b34, .cells #[.int .i64 i] 3 (0, 0))]) rfl Tryz.call57 rfl rfl rfl (pT ((fC fO).trans (pC ((fC fP).trans (pA pR)))) (lb (lp (ln rfl)))) (hrec h82 hz31 hb_own h_own hb_q h_ears h_count hb_more h83) ?_; rintro _ F85 _ hF86 hd88 hn87 ⟨a90, n94, c91, Lb92, rfl, rfl, hz93⟩
       refine shO_L (lb (lp (ln rfl))) ?_
       refine kO (kc (kf (fS fO) kr)) ?_
       refine shO_nil ⟨_, rfl, (hF81.trans hF86), [], by kernel_rfl, .inl (.inl rfl), (fun _ h => absurd h List.not_mem_nil), ?_⟩
       refine shM_nil ?_
       refine inBlock_n (id := 1) ?_
       obtain rfl := inj1 r84
       exact mi kr ⟨a90, n94, c91, Lb92, ((hF61.trans hF81).trans hF86), rfl, (sc rfl (sc rfl (sc rfl (sc rfl (sc rfl (sn _)))))), hz93⟩
     have r95 := bf r53 c54; clear r53
     refine shW_skip (inBlock_n (id := 1) ?_)
     obtain rfl := inj1 r95
     exact mi (kf (fC fO) kr) ⟨a28, n32, c29, Lb30, FExt.refl _, rfl, (sc rfl (sc rfl (sc rfl (sc rfl (sc rfl (sn _)))))), hz31⟩
   rintro e1 F97 _ ⟨a44, n48, c45, Lb46, hF98, rfl, he96, hz47⟩
   refine shW_env _ he96 ?_; clear he96
   refine shW_seq (wsr ?_)
   refine ov (v_load Tryz.isAgg3 rfl (Has.own 1 rfl) rfl) rfl ?_
   refine shO_nil (shW_region ?_)
   refine o_alloc rfl Tryz.zeroValue3 ?_; intro b99 hb99
   refine o_store (i := 0) Tryz.sizeOf3 rfl rfl rfl rfl (Nat.le_of_ble_eq_true rfl) ?_
   refine shO_L (L' := (b99, .cells #[.int .i64 i] 3 (0, 0)) :: ((b_out, .cells #[.slice a44 n48 c45] 28 (0, 0)) :: ((b34, .cells #[.int .i64 i] 3 (0, 0)) :: (Lb46 ++ [])))) rfl ?_
   refine shO_nil (shW_region ?_)
   refine ov (v_load Tryz.isAgg3 rfl (Has.own 0 rfl) rfl) rfl ?_
   obtain ⟨g100, r101⟩ := gd_ok r51; clear r51
   refine ov (v_add rfl rfl g100) rfl ?_
   refine o_store (i := 0) Tryz.sizeOf3 rfl rfl rfl rfl (Nat.le_of_ble_eq_true rfl) ?_
   refine shO_L (L' := (b99, .cells #[.int .i64 (i + 1)] 3 (0, 0)) :: ((b_out, .cells #[.slice a44 n48 c45] 28 (0, 0)) :: ((b34, .cells #[.int .i64 i] 3 (0, 0)) :: (Lb46 ++ [])))) rfl ?_
   refine shO_nil ?_
   exact le (kc (kc (kd kr))) ⟨out4, i + 1, a44, n48, c45, Lb46, b99, r101, (hF41.trans hF98), rfl, (sc rfl (sc rfl (sc rfl (sc rfl (sc rfl (sn _)))))), hz47, hb99⟩
 have r102 := ite_f r38 c42; clear r38
 refine shW_exit (andThen_exit (andThen_exit ?_))
 refine inBlock_exit ?_
 refine q_end0s (.inr rfl) Tryz.results57 (s1 (s2 (s4 sr))) ?_
 obtain rfl := inj1 r102
 exact ⟨_, _, _, _, rfl, rfl, hz31.any⟩
set_option maxHeartbeats 1000000 in
theorem hear_Apart_1_w : ∀ (fu : Nat) {l_a : Option Addr} {l_c : Nat} {l : List Int} {from_ : Int} {b_out : Nat} {out_a : Option Addr} {out_n : Nat} {out_c : Nat} {out_L : LH} {out : List Int} {b_own : Nat} {own_a : Option Addr} {own_c : Nat} {own : List Int} {mb_own : Nat × Nat} {b_q : Nat} {ears_a : Option Addr} {ears_c : Nat} {ears : List (List Bool)} {count_f : FuncId} {count_1 : Array Value} {count_2 : Array Value} {count : Int → Option Int} {mb_q : Nat × Nat} {b_more : Nat} {mb_more : Nat × Nat} {F : FS} (_ : RowR 1 (iE .i64) F l_a l_c l) (_ : SlR 0 3 1 (iE .i64) F out_a out_n out_c out out_L) (_ : F b_own = some (.cells #[.slice own_a own.length own_c] 28 mb_own)) (_ : RowR 1 (iE .i64) F own_a own_c own) (_ : F b_q = some (.cells #[.slice ears_a ears.length ears_c, .func (.func count_f) count_1 count_2] 75 mb_q)) (_ : RowR 30 (arE 30 cB) F ears_a ears_c ears) (_ : FnR Tryz.prog F count_f count_1 count_2 (iE .i64) (Value.int .i64) count) (_ : F b_more = some (.cells (#[.func (.func 57) #[] #[.pointer (some ⟨b_out, 0, none⟩), .pointer (some ⟨b_own, 0, none⟩), .pointer (some ⟨b_q, 0, none⟩), .pointer (some ⟨b_more, 0, none⟩)]]) 96 mb_more)) {r : List Int} , hear_Apart_1 fu l from_ out own ears count = some r → SH.Spec Tryz.prog 57 #[.slice l_a l.length l_c, .int .i64 from_, .pointer (some ⟨b_out, 0, none⟩), .pointer (some ⟨b_own, 0, none⟩), .pointer (some ⟨b_q, 0, none⟩), .pointer (some ⟨b_more, 0, none⟩)] F ((b_out, .cells #[.slice out_a out_n out_c] 28 (0, 0)) :: (out_L ++ [])) fun F' L' v => ∃ (ra : Option Addr) (rn : Nat) (rc : Nat) (rL : LH), v = .tuple #[] ∧ L' = (b_out, .cells #[.slice ra rn rc] 28 (0, 0)) :: (rL ++ []) ∧ SlR 0 3 1 (iE .i64) F' ra rn rc r rL := by
  intro fu
  induction fu with
  | zero => intros; rename_i hr; rw [hear_Apart_1] at hr; cases hr
  | succ fu ih => intros; rename_i hr; rw [hear_Apart_1] at hr; exact hear_Apart_1B_w ih (by assumption) (by assumption) (by assumption) (by assumption) (by assumption) (by assumption) (by assumption) (by assumption) hr
set_option maxHeartbeats 1000000 in
theorem hear_Apart_w {wide : Int} {plots_a : Option Addr} {plots_c : Nat} {plots : List Int} {wind : Int} {voice : Int} {houses_a : Option Addr} {houses_c : Nat} {houses : List Int} {F : FS} (h_plots : RowR 1 (iE .i64) F plots_a plots_c plots) (h_houses : RowR 1 (iE .i64) F houses_a houses_c houses) {r : List Int} {r2 : Int} (hr : hear_Apart wide plots wind voice houses = some (r, r2)) :
    SH.Spec Tryz.prog 15 #[.agg #[.int .i64 wide, .slice plots_a plots.length plots_c], .agg #[.int .i64 wind, .int .i64 voice], .slice houses_a houses.length houses_c] F [] fun F' L' v => ∃ (ra : Option Addr) (rn : Nat) (rc : Nat) (rL : LH), v = .tuple #[.slice ra rn rc, .int .i64 r2] ∧ L' = rL ++ [] ∧ SlR 0 3 1 (iE .i64) F' ra rn rc r rL := by
 refine spec_of_shW (args := [.agg #[.int .i64 wide, .slice plots_a plots.length plots_c], .agg #[.int .i64 wind, .int .i64 voice], .slice houses_a houses.length houses_c]) Tryz.func15 rfl Tryz.ntmps15 (Nat.le_of_ble_eq_true rfl) ?_
 intro K _ _; rw [hear_Apart] at hr
 refine wsr ?_
 refine o_box rfl rfl ?_; intro b1 hb1
 refine o_box rfl rfl ?_; intro b2 hb2
 refine oa rfl rfl (oa rfl rfl (nsr (om rfl rfl ?_)))
 obtain ⟨y, h3, r4⟩ := b1_ok hr; clear hr
 refine o_call0 rfl Tryz.call56 rfl rfl rfl (slices_Values_int_int_w h_houses h3) ?_; rintro _ F5 _ hF6 hn7 ⟨cp9, rfl, rfl, hit10⟩
 replace h_plots := h_plots.mono (iE_ok _) hF6
 replace h_houses := h_houses.mono (iE_ok _) hF6
 refine shO_L (ln rfl) ?_
 obtain ⟨l, h11, r12⟩ := b1_ok r4; clear r4
 refine o_call0 rfl Tryz.call55 rfl rfl rfl (slices_Sorted_int_w Tryz.call100 hit10 h11) ?_; rintro _ F13 _ hF14 hn15 ⟨a17, n21, c18, Lb19, rfl, rfl, hz20⟩
 replace h_plots := h_plots.mono (iE_ok _) hF14
 replace h_houses := h_houses.mono (iE_ok _) hF14
 replace hz20 := hz20.new fun p hp => hn15 p (by simp [hp])
 refine shO_L (lp (ln rfl)) ?_
 refine kO (kf (fS fO) (kf (fS fO) kr)) ?_
 refine o_alloc rfl Tryz.zeroValue28 ?_; intro b23 hb23
 refine o_store (i := 0) Tryz.sizeOf28 rfl rfl rfl rfl (Nat.le_of_ble_eq_true rfl) ?_
 refine shO_L (L' := (b23, .cells #[.slice a17 n21 c18] 28 (0, 0)) :: ((b2, .cells #[.int .i64 wind, .int .i64 voice] 27 (0, 0)) :: ((b1, .cells #[.int .i64 wide, .slice plots_a plots.length plots_c] 24 (0, 0)) :: (Lb19 ++ [])))) rfl ?_
 refine nsr ?_
 refine ov (v_loadA (cs := #[.int .i64 wide, .slice plots_a plots.length plots_c]) Tryz.isAgg24 Tryz.sizeOf24 rfl (Has.own 2 rfl) (Nat.le_of_ble_eq_true rfl) rfl) rfl ?_
 refine ov (v_loadA (cs := #[.int .i64 wind, .int .i64 voice]) Tryz.isAgg27 Tryz.sizeOf27 rfl (Has.own 1 rfl) (Nat.le_of_ble_eq_true rfl) rfl) rfl ?_
 refine om rfl rfl ?_
 obtain ⟨l2, y2, n, h24, r25⟩ := b3_ok r12; clear r12
 refine o_call0 rfl Tryz.call40 rfl rfl rfl (hear_asked_w h_plots h_houses h24) ?_; rintro _ F26 _ hF27 hn28 ⟨a30, n34, c31, Lb32, v36, rfl, rfl, hz33, hp37⟩
 replace h_plots := h_plots.mono (iE_ok _) hF27
 replace hz20 := hz20.mono (iE_ok _) hF27
 refine shO_L (lp (ln rfl)) ?_
 refine kO (kf (fS fO) (kf (fS fO) (kf (fS fO) kr))) ?_
 refine om rfl rfl (ox rfl rfl rfl (ox rfl rfl rfl ?_))
 refine o_alloc rfl Tryz.zeroValue75 ?_; intro b38 hb38
 refine o_storeA (i := 0) Tryz.sizeOf75 rfl rfl rfl (List.forall_mem_cons.2 ⟨rfl, (List.forall_mem_cons.2 ⟨hp37.1, (fun _ h => absurd h List.not_mem_nil)⟩)⟩) rfl (Nat.le_of_ble_eq_true rfl) ?_
 refine shO_L (L' := (b38, .cells #[.slice a30 n34 c31, v36] 75 (0, 0)) :: ((b23, .cells #[.slice a17 n21 c18] 28 (0, 0)) :: ((b2, .cells #[.int .i64 wind, .int .i64 voice] 27 (0, 0)) :: ((b1, .cells #[.int .i64 wide, .slice plots_a plots.length plots_c] 24 (0, 0)) :: (Lb32 ++ (Lb19 ++ [])))))) rfl ?_
 refine oa rfl rfl (shO_nil (shW_seq (wsr (om rfl rfl ?_))))
 refine ov (v_neq rfl rfl) rfl ?_
 refine shO_nil ?_
 refine shW_condP rfl (fun c39 => ?_) (fun c39 => ?_)
 · have r40 := ite_t r25 c39; clear r25
   refine wsr (om rfl rfl (oa rfl rfl (oa rfl rfl (shO_nil ?_))))
   refine kW kn ?_
   refine shW_ret (andThen_ret ?_)
   refine q_res2 Tryz.results15 (res_tmp rfl) (res_tmp rfl) (sr) ?_
   obtain ⟨rfl, rfl⟩ := inj2 r40
   exact ⟨_, _, _, [], rfl, rfl, SlR.nil _ _ _ _ _⟩
 have r41 := ite_f r25 c39; clear r25
 refine shW_skip (wsr ?_)
 refine ov (v_loadA (cs := #[.int .i64 wide, .slice plots_a plots.length plots_c]) Tryz.isAgg24 Tryz.sizeOf24 rfl (Has.own 3 rfl) (Nat.le_of_ble_eq_true rfl) rfl) rfl ?_
 refine ov (v_loadA (cs := #[.int .i64 wind, .int .i64 voice]) Tryz.isAgg27 Tryz.sizeOf27 rfl (Has.own 2 rfl) (Nat.le_of_ble_eq_true rfl) rfl) rfl ?_
 refine ov (v_load Tryz.isAgg28 rfl (Has.own 1 rfl) rfl) rfl ?_
 obtain ⟨l3, y3, n2, h42, r43⟩ := b3_ok r41; clear r41
 refine o_callTO (Lb := []) (Lt := Lb19 ++ []) (Lr := (b38, .cells #[.slice a30 n34 c31, v36] 75 (0, 0)) :: ((b23, .cells #[.slice a17 n21 c18] 28 (0, 0)) :: ((b2, .cells #[.int .i64 wind, .int .i64 voice] 27 (0, 0)) :: ((b1, .cells #[.int .i64 wide, .slice plots_a plots.length plots_c] 24 (0, 0)) :: (Lb32 ++ []))))) rfl Tryz.call40 rfl rfl rfl (pT ((fC (fC (fC (fC (fS fP))))).trans (pA pR)) (ln (lp (ln rfl)))) (fun F2 h2 h3 => by rw [(SlR.caps hz20).1]; exact hear_asked_w (h_plots.mono (iE_ok _) h2) (hz20.row (iE_ok _) h2 (fun p hp => h3 p (List.mem_append_left _ hp))) h42) (fun _ _ _ _ hq => by obtain ⟨a48, n52, c49, Lb50, v54, rfl, rfl, hz51, hp55⟩ := hq; exact ⟨_, _, _, _, _, rfl, rfl, hz51.flat (fun _ _ h => h), hp55⟩) ?_; rintro _ F44 _ hF45 hd47 hn46 ⟨a48, n52, c49, Lb50, v54, rfl, rfl, hz51, hp55⟩
 replace hz20 := hz20.mono (iE_ok _) hF45
 have hn56 := newp (Lb' := []) (by rfl) hd47 hn46
 replace hz51 := hz51.new fun p hp => hn56 p (by simp [hp])
 refine shO_L (lp (ln (lp (ln rfl)))) ?_
 refine kO (kf (fS (fS fO)) (kf (fS (fS fO)) (kf (fS (fS fO)) (kf (fS (fS fO)) kr)))) ?_
 refine om rfl rfl (ox rfl rfl rfl (ox rfl rfl rfl ?_))
 refine o_storeA (i := 0) Tryz.sizeOf75 rfl rfl rfl (List.forall_mem_cons.2 ⟨rfl, (List.forall_mem_cons.2 ⟨hp55.1, (fun _ h => absurd h List.not_mem_nil)⟩)⟩) rfl (Nat.le_of_ble_eq_true rfl) ?_
 refine shO_L (L' := (b38, .cells #[.slice a48 n52 c49, v54] 75 (0, 0)) :: ((b23, .cells #[.slice a17 n21 c18] 28 (0, 0)) :: ((b2, .cells #[.int .i64 wind, .int .i64 voice] 27 (0, 0)) :: ((b1, .cells #[.int .i64 wide, .slice plots_a plots.length plots_c] 24 (0, 0)) :: (Lb50 ++ (Lb19 ++ (Lb32 ++ []))))))) rfl ?_
 refine nsr ?_
 refine o_alloc rfl Tryz.zeroValue28 ?_; intro b57 hb57
 refine nsr ?_
 refine o_alloc rfl Tryz.zeroValue96 ?_; intro b58 hb58
 refine nsr ?_
 refine ov (v_makeFunc rfl rfl) rfl ?_
 refine o_store (i := 0) Tryz.sizeOf96 rfl rfl rfl rfl (Nat.le_of_ble_eq_true rfl) ?_
 refine shO_L (L' := (b58, .cells (#[.func (.func 57) #[] #[.pointer (some ⟨b57, 0, none⟩), .pointer (some ⟨b23, 0, none⟩), .pointer (some ⟨b38, 0, none⟩), .pointer (some ⟨b58, 0, none⟩)]]) 96 (0, 0)) :: ((b57, .cells #[.slice none 0 0] 28 (0, 0)) :: ((b38, .cells #[.slice a48 n52 c49, v54] 75 (0, 0)) :: ((b23, .cells #[.slice a17 n21 c18] 28 (0, 0)) :: ((b2, .cells #[.int .i64 wind, .int .i64 voice] 27 (0, 0)) :: ((b1, .cells #[.int .i64 wide, .slice plots_a plots.length plots_c] 24 (0, 0)) :: (Lb50 ++ (Lb19 ++ (Lb32 ++ []))))))))) rfl ?_
 refine nsr ?_
 refine ov (v_load Tryz.isAgg96 rfl (Has.own 0 rfl) rfl) rfl ?_
 obtain rfl := (SlR.caps hz20).1
 refine shO_freezeR (Nat.le_refl _) (iE_ok _) (fC (fC (fC (fC (fC (fC (fS fP))))))) hz20 ?_; intro F59 hF60 h61
 replace hz51 := hz51.mono (arE_ok (n := 30) (sz := 1) cB_ok) hF60
 refine shO_freeze 3 rfl hb23 ?_; intro F62 hF63 hz64
 refine shO_L (L' := (b58, .cells (#[.func (.func 57) #[] #[.pointer (some ⟨b57, 0, none⟩), .pointer (some ⟨b23, 0, none⟩), .pointer (some ⟨b38, 0, none⟩), .pointer (some ⟨b58, 0, none⟩)]]) 96 (0, 0)) :: ((b57, .cells #[.slice none 0 0] 28 (0, 0)) :: ((b38, .cells #[.slice a48 n52 c49, v54] 75 (0, 0)) :: ((b2, .cells #[.int .i64 wind, .int .i64 voice] 27 (0, 0)) :: ((b1, .cells #[.int .i64 wide, .slice plots_a plots.length plots_c] 24 (0, 0)) :: (Lb50 ++ (Lb32 ++ []))))))) rfl ?_
 replace h61 := h61.mono (iE_ok _) hF63
 replace hz51 := hz51.mono (arE_ok (n := 30) (sz := 1) cB_ok) hF63
 obtain rfl := (SlR.caps hz51).1
 refine shO_freezeR (Nat.le_refl _) (arE_ok (n := 30) (sz := 1) cB_ok) (fC (fC (fC (fC (fC fP))))) hz51 ?_; intro F65 hF66 h67
 replace h61 := h61.mono (iE_ok _) hF66
 replace hz64 := hF66 _ _ hz64
 refine shO_freeze 2 rfl hb38 ?_; intro F68 hF69 hz70
 refine shO_L (L' := (b58, .cells (#[.func (.func 57) #[] #[.pointer (some ⟨b57, 0, none⟩), .pointer (some ⟨b23, 0, none⟩), .pointer (some ⟨b38, 0, none⟩), .pointer (some ⟨b58, 0, none⟩)]]) 96 (0, 0)) :: ((b57, .cells #[.slice none 0 0] 28 (0, 0)) :: ((b2, .cells #[.int .i64 wind, .int .i64 voice] 27 (0, 0)) :: ((b1, .cells #[.int .i64 wide, .slice plots_a plots.length plots_c] 24 (0, 0)) :: (Lb32 ++ []))))) rfl ?_
 replace h61 := h61.mono (iE_ok _) hF69
 replace h67 := h67.mono (arE_ok (n := 30) (sz := 1) cB_ok) hF69
 replace hz64 := hF69 _ _ hz64
 obtain ⟨g71, r72⟩ := gd_ok r43; clear r43
 obtain rfl := hp55.2 g71
 have hn73 : FnR Tryz.prog F68 88 #[] #[] (iE .i64) (Value.int .i64) (fun xx_ : Int => hear_ones xx_) := ⟨Tryz.call88, fun F2 h2 vs xx_ r ha hr => by obtain rfl := ha; exact hear_ones_w hr⟩
 refine shO_freeze 0 rfl hb58 ?_; intro F74 hF75 hz76
 refine shO_L (L' := (b57, .cells #[.slice none 0 0] 28 (0, 0)) :: ((b2, .cells #[.int .i64 wind, .int .i64 voice] 27 (0, 0)) :: ((b1, .cells #[.int .i64 wide, .slice plots_a plots.length plots_c] 24 (0, 0)) :: (Lb32 ++ [])))) rfl ?_
 replace h61 := h61.mono (iE_ok _) hF75
 replace h67 := h67.mono (arE_ok (n := 30) (sz := 1) cB_ok) hF75
 replace hn73 := hn73.mono hF75
 replace hz64 := hF75 _ _ hz64
 replace hz70 := hF75 _ _ hz70
 obtain ⟨out, h77, r78⟩ := b1_ok r72; clear r72
 refine o_callG (Lb := [(b57, .cells #[.slice none 0 0] 28 (0, 0))]) (Lr := (b2, .cells #[.int .i64 wind, .int .i64 voice] 27 (0, 0)) :: ((b1, .cells #[.int .i64 wide, .slice plots_a plots.length plots_c] 24 (0, 0)) :: (Lb32 ++ []))) rfl Tryz.call57 rfl rfl rfl (pR) ((hear_Apart_1_w FU) (RowR.nil _ _ _) (SlR.nil 0 _ _ _ _) hz64 h61 hz70 h67 hn73 hz76 h77) ?_; rintro _ F79 _ hF80 hd82 hn81 ⟨a84, n88, c85, Lb86, rfl, rfl, hz87⟩
 replace h61 := h61.mono (iE_ok _) hF80
 replace hz64 := hF80 _ _ hz64
 refine shO_L (lb (lp (ln rfl))) ?_
 refine kO (kc (kf (fS fO) (kf (fS fO) kr))) ?_
 refine shO_nil ?_
 obtain ⟨out2, h91, r92⟩ := b1_ok r78; clear r78
 refine shW_join (fun e1 F1 L1 => ∃ (Lb89 : LH), F79 = F1 ∧ L1 = ((b57, .cells #[.slice a84 n88 c85] 28 (0, 0)) :: (Lb89 ++ [])) ∧ e1.sub [(11, .pointer (some ⟨b57, 0, none⟩))] ∧ SlR 0 3 1 (iE .i64) F1 a84 n88 c85 out2 Lb89) ?_ ?_
 · clear r92
   refine wsr ?_
   refine ov (v_load Tryz.isAgg28 rfl (Has.own 0 rfl) rfl) rfl ?_
   refine ov ((v_lenS Tryz.underlying28 rfl).i (SlR.lenI hz87)) rfl ?_
   refine om rfl rfl (shO_nil ?_)
   refine shW_block ?_
   refine kW (kc (kd (kd (ka kn)))) ?_
   obtain ⟨g95, r96⟩ := gd_ok h91; clear h91
   refine shW_lp (fun fu1 e1 F1 L1 => ∃ (k : Int), Ctr 0 (out.length : Int) k fu1 ∧ ∃ (out3 : List Int) (Lb93 : LH), hear_Apart_l1 l fu1 k out3 = some out2 ∧ F79 = F1 ∧ L1 = ((b57, .cells #[.slice a84 n88 c85] 28 (0, 0)) :: (Lb93 ++ [])) ∧ e1.sub [(8, .pointer (some ⟨b23, 0, none⟩)), (11, .pointer (some ⟨b57, 0, none⟩)), (38, .slice a84 n88 c85), (39, .int .i64 (out.length : Int)), (40, .int .i64 k)] ∧ SlR 0 3 1 (iE .i64) F1 a84 n88 c85 out3 Lb93) _ (m0 kr ⟨_, Ctr.start _ _, out, Lb86, r96, rfl, rfl, (sc rfl (sc rfl (sc rfl (sc rfl (sc rfl (sn _)))))), hz87⟩) ?_
   rintro fu1 e1 _ _ ⟨k, hk97, out3, Lb93, r99, rfl, rfl, he100, hz94⟩
   refine shW_env _ he100 ?_; clear he100
   refine wsr ?_
   refine ov (v_lssK rfl rfl) rfl ?_
   refine shO_nil (shW_seq ?_)
   refine shW_condP rfl (fun c102 => ?_) (fun c102 => ?_)
   · obtain ⟨fu1, rfl, hk103⟩ := Ctr.succ hk97 c102
     rw [hear_Apart_l1] at r99
     refine shW_skip (shW_seq ?_)
     refine shW_block ?_
     refine wsr (om rfl rfl ?_)
     obtain ⟨x, g104, hx105, r106⟩ := ix_ok r99; clear r99
     obtain ⟨b107, o108, c109, vs110, ha111, hs112, hle113, rfl, hl114, hc115⟩ := SlR.at (iE_ok _) hz94 (L := (b57, .cells #[.slice a84 n88 c85] 28 (0, 0)) :: (Lb93 ++ [])) (fC fP) g104.1 hx105
     refine ov (v_indexO Tryz.underlying28 Tryz.sizeOf3 rfl ha111 rfl (SlR.idx hz94 g104)) rfl ?_
     refine ov (v_load Tryz.isAgg3 rfl hs112 (hc115 0 (by decide))) rfl ?_
     refine oa rfl rfl (oa rfl rfl (shO_nil ?_))
     refine shW_drawM [(.still, 0), (.still, 1), (.still, 2), (.still, 3), (.still, 4), (.still, 5), (.still, 6), (.seq, 7)] (by kernel_rfl) (by kernel_rfl) (trivial) (by rfl) (by kernel_rfl) ?_
     refine shM_v (v := .slice a84 n88 c85) (ek := [(11, .pointer (some ⟨b57, 0, none⟩))]) (Ls := [(b57, .cells #[.slice a84 n88 c85] 28 (0, 0))]) rfl rfl rfl rfl ((sc rfl (sn _))) (by kernel_rfl) (s0 (s2 (s3 sr))) (fun H F' L' hF' hL' => v_load Tryz.isAgg28 rfl ((Has.own 0 rfl).ext hF' hL') rfl) ?_
     refine shM_v (v := .int .i64 k) (ek := [(13, .int .i64 k)]) (Ls := []) rfl rfl rfl rfl ((sc rfl (sn _))) (by kernel_rfl) sm (fun H F' L' hF' hL' => v_move rfl) ?_
     refine shM_v (v := .slice a17 l.length c18) (ek := [(8, .pointer (some ⟨b23, 0, none⟩))]) (Ls := []) rfl rfl rfl rfl ((sc rfl (sn _))) (by kernel_rfl) sm (fun H F' L' hF' hL' => v_load Tryz.isAgg28 rfl ((Has.frozen hz64).ext hF' hL') rfl) ?_
     refine shM_v (v := .int .i64 x) (ek := [(14, .int .i64 x)]) (Ls := []) rfl rfl rfl rfl ((sc rfl (sn _))) (by kernel_rfl) sm (fun H F' L' hF' hL' => v_move rfl) ?_
     obtain ⟨x2, g116, hx117, r118⟩ := ix_ok r106; clear r106
     obtain ⟨b119, o120, c121, vs122, ha123, hs124, hle125, rfl, hl126, hc127⟩ := RowR.at (iE_ok _) h61 ([]) g116.1 hx117
     refine shM_v (v := .pointer (some ⟨b119, o120 + (x : Int).toNat * 1, none⟩)) (ek := [(47, .slice a17 l.length c18), (48, .int .i64 x)]) (Ls := []) rfl rfl rfl rfl ((sc rfl (sc rfl (sn _)))) (by kernel_rfl) sm (fun H F' L' hF' hL' => v_indexO Tryz.underlying28 Tryz.sizeOf3 rfl ha123 rfl g116) ?_
     refine shM_v (v := .int .i64 x2) (ek := [(49, .pointer (some ⟨b119, o120 + (x : Int).toNat * 1, none⟩))]) (Ls := []) rfl rfl rfl rfl ((sc rfl (sn _))) (by kernel_rfl) sm (fun H F' L' hF' hL' => v_load Tryz.isAgg3 rfl (hs124.ext hF' hL') (hc127 0 (by decide))) ?_
     obtain ⟨b128, o129, c130, vs131, ha132, hs133, hle134, rfl, hl135, hc136⟩ := SlR.at (iE_ok _) hz94 (L := Lb93 ++ []) fP g104.1 hx105
     refine shM_v (v := .pointer (some ⟨b128, o129 + (k : Int).toNat * 1, none⟩)) (ek := [(45, .slice a84 n88 c85), (46, .int .i64 k)]) (Ls := []) rfl rfl rfl rfl ((sc rfl (sc rfl (sn _)))) (by kernel_rfl) sm (fun H F' L' hF' hL' => v_indexO Tryz.underlying28 Tryz.sizeOf3 rfl ha132 rfl (SlR.idx hz94 g104)) ?_
     refine ⟨_, [(50, .int .i64 x2), (51, .pointer (some ⟨b128, o129 + (k : Int).toNat * 1, none⟩))], rfl, rfl, (sc rfl (sc rfl (sn _))), by kernel_rfl, ?_⟩; intro H
     obtain ⟨l4, h137, r138⟩ := bv_ok r118; clear r118
     refine o_storeZ (u := x2) Tryz.sizeOf3 (iE_ok _) rfl ha132 rfl rfl (fun _ => .c .h) hz94 h137 g104 ?_; intro Lb139 hz140
     refine shO_nil ⟨undef, rfl, FExt.refl _, [], by kernel_rfl, .inl (.inl rfl), (fun _ h => absurd h List.not_mem_nil), ?_⟩
     refine shM_nil ?_
     refine inBlock_n (id := 1) (shW_region ?_)
     refine ov (v_add rfl rfl (Ctr.r64 hk97 c102 g95)) rfl ?_
     refine om rfl rfl (shO_nil ?_)
     exact le kr ⟨_, hk103, l4, Lb139, r138, rfl, rfl, (sc rfl (sc rfl (sc rfl (sc rfl (sc rfl (sn _)))))), hz140⟩
   obtain rfl := Ctr.zero hk97 c102
   rw [hear_Apart_l1] at r99
   refine shW_exit (andThen_exit (andThen_exit ?_))
   refine inBlock_exit ?_
   obtain rfl := inj1 r99
   exact mi kr ⟨Lb93, rfl, rfl, (sc rfl (sn _)), hz94⟩
 rintro e1 _ _ ⟨Lb89, rfl, rfl, he141, hz90⟩
 refine shW_env _ he141 ?_; clear he141
 refine wsr ?_
 refine ov (v_load Tryz.isAgg28 rfl (Has.own 0 rfl) rfl) rfl ?_
 refine oa rfl rfl (oa rfl rfl (shO_nil ?_))
 refine kW (kd kr) ?_
 refine shW_ret ?_
 refine q_res2 Tryz.results15 (res_tmp rfl) (res_tmp rfl) (sr) ?_
 obtain ⟨rfl, rfl⟩ := inj2 r92
 exact ⟨_, _, _, _, rfl, rfl, hz90.any⟩
set_option maxHeartbeats 1000000 in
theorem oyezref01_apart_w {ears_a : Option Addr} {ears_c : Nat} {ears : List (List Int)} {l_a : Option Addr} {l_c : Nat} {l : List Int} {F : FS} (h_ears : RowR 1 (slE 1 (iE .i64)) F ears_a ears_c ears) (h_l : RowR 1 (iE .i64) F l_a l_c l) {r : Bool} (hr : oyezref01_apart ears l = some r) :
    SpecV Tryz.prog 63 #[.slice ears_a ears.length ears_c, .slice l_a l.length l_c] F (.bool r) := by
 refine spec_of_shW (args := [.slice ears_a ears.length ears_c, .slice l_a l.length l_c]) Tryz.func63 rfl Tryz.ntmps63 (Nat.le_of_ble_eq_true rfl) ?_
 intro K _ _; rw [oyezref01_apart] at hr
 refine wsr (oa rfl rfl (shO_nil ?_))
 refine shW_join (fun e1 F1 L1 => oyezref01_apart_j1 = some r ∧ F = F1 ∧ L1 = [] ∧ e1.sub []) ?_ ?_
 · refine wsr (oa rfl rfl (shO_nil ?_))
   refine shW_block ?_
   refine shW_lp (fun fu2 e1 F1 L1 => ∃ (tl : List Int) (i : Int), tl.length = fu2 ∧ Lst l i tl ∧ oyezref01_apart_l2 ears l tl i = some r ∧ F = F1 ∧ L1 = [] ∧ e1.sub [(0, .slice ears_a ears.length ears_c), (1, .slice l_a l.length l_c), (5, .int .i64 i)]) _ (m0 kr ⟨_, _, rfl, Lst.start _, hr, rfl, rfl, (sc rfl (sc rfl (sc rfl (sn _))))⟩) ?_
   rintro fu2 e1 _ _ ⟨tl, i, hn2, hk1, r3, rfl, rfl, he4⟩
   refine shW_env _ he4 ?_; clear he4
   refine shW_seq (wsr (om rfl rfl (om rfl rfl ?_)))
   refine ov (v_lenS Tryz.underlying28 rfl) rfl ?_
   refine ov (v_lssK rfl rfl) rfl ?_
   refine shO_nil ?_
   refine shW_condP rfl (fun c6 => ?_) (fun c6 => ?_)
   · obtain ⟨x, tl2, rfl, hx8, g9, hk7⟩ := Lst.succ hk1 c6
     rw [oyezref01_apart_l2] at r3
     refine shW_skip ?_
     refine shW_join (fun e1 F1 L1 => oyezref01_apart_j3 i (oyezref01_apart_l2 ears l tl2) = some r ∧ F = F1 ∧ L1 = [] ∧ e1.sub [(0, .slice ears_a ears.length ears_c), (1, .slice l_a l.length l_c), (5, .int .i64 i)]) ?_ ?_
     · refine shW_block ?_
       refine wsr (oa rfl rfl (shO_nil ?_))
       refine shW_block ?_
       obtain ⟨g10, r11⟩ := gd_ok r3; clear r3
       refine shW_lp (fun fu4 e1 F1 L1 => ∃ (k : Int), Ctr 0 i k fu4 ∧ oyezref01_apart_l4 ears l i x (oyezref01_apart_l2 ears l tl2) fu4 k = some r ∧ F = F1 ∧ L1 = [] ∧ e1.sub [(0, .slice ears_a ears.length ears_c), (1, .slice l_a l.length l_c), (5, .int .i64 i), (6, .int .i64 k)]) _ (m0 kr ⟨_, Ctr.start _ _, r11, rfl, rfl, (sc rfl (sc rfl (sc rfl (sc rfl (sn _)))))⟩) ?_
       rintro fu4 e1 _ _ ⟨k, hk12, r14, rfl, rfl, he15⟩
       refine shW_env _ he15 ?_; clear he15
       refine shW_seq (wsr (om rfl rfl (om rfl rfl ?_)))
       refine ov (v_lssK rfl rfl) rfl ?_
       refine shO_nil ?_
       refine shW_condP rfl (fun c17 => ?_) (fun c17 => ?_)
       · obtain ⟨fu4, rfl, hk18⟩ := Ctr.succ hk12 c17
         rw [oyezref01_apart_l4] at r14
         refine shW_skip ?_
         refine shW_join (fun e1 F1 L1 => oyezref01_apart_j5 k (oyezref01_apart_l4 ears l i x (oyezref01_apart_l2 ears l tl2) fu4) = some r ∧ F = F1 ∧ L1 = [] ∧ e1.sub [(0, .slice ears_a ears.length ears_c), (1, .slice l_a l.length l_c), (5, .int .i64 i), (6, .int .i64 k)]) ?_ ?_
         · refine shW_block ?_
           refine wsr (oa rfl rfl (shO_nil ?_))
           refine shW_block ?_
           refine shW_lp (fun fu6 e1 F1 L1 => ∃ (s_ : Int), oyezref01_apart_l6 ears l x k (oyezref01_apart_l4 ears l i x (oyezref01_apart_l2 ears l tl2) fu4) fu6 s_ = some r ∧ F = F1 ∧ L1 = [] ∧ e1.sub [(0, .slice ears_a ears.length ears_c), (1, .slice l_a l.length l_c), (5, .int .i64 i), (6, .int .i64 k), (7, .int .i64 s_)]) FU (m0 kr ⟨0, r14, rfl, rfl, (sc rfl (sc rfl (sc rfl (sc rfl (sc rfl (sn _))))))⟩) ?_
           rintro fu6 e1 _ _ ⟨s_, r21, rfl, rfl, he22⟩
           refine shW_env _ he22 ?_; clear he22
           rcases fu6 with _ | fu6
           · rw [oyezref01_apart_l6] at r21; cases r21
           rw [oyezref01_apart_l6] at r21
           refine shW_seq (wsr (om rfl rfl (om rfl rfl (om rfl rfl (om rfl rfl ?_)))))
           obtain ⟨b23, o24, c25, vs26, ha27, hs28, hle29, rfl, hl30, hc31⟩ := RowR.at (iE_ok _) h_l ([]) g9.1 hx8
           refine ov (v_indexO Tryz.underlying28 Tryz.sizeOf3 rfl ha27 rfl g9) rfl ?_
           refine ov (v_load Tryz.isAgg3 rfl hs28 (hc31 0 (by decide))) rfl ?_
           obtain ⟨x2, g32, hx33, r34⟩ := ix_ok r21; clear r21
           obtain ⟨b35, o36, c37, vs38, ha39, hs40, hle41, ⟨a44, c45, rfl, h46⟩, hl42, hc43⟩ := RowR.at (slE_ok (iE_ok _)) h_ears ([]) g32.1 hx33
           refine ov (v_indexO Tryz.underlying84 Tryz.sizeOf28 rfl ha39 rfl g32) rfl ?_
           refine ov (v_load Tryz.isAgg28 rfl hs40 (hc43 0 (by decide))) rfl ?_
           refine ov (v_lenS Tryz.underlying28 rfl) rfl ?_
           refine ov (v_lssK rfl rfl) rfl ?_
           refine shO_nil ?_
           refine shW_condP rfl (fun c47 => ?_) (fun c47 => ?_)
           · have r48 := ite_t r34 c47; clear r34
             refine shW_skip (shW_seq ?_)
             refine shW_block ?_
             refine wsd (by kernel_rfl) (by kernel_rfl) (by kernel_rfl) ?_
             refine qm rfl rfl (qm rfl rfl (qm rfl rfl ?_))
             obtain ⟨x3, g49, hx50, r51⟩ := ix_ok r48; clear r48
             obtain ⟨b52, o53, c54, vs55, ha56, hs57, hle58, rfl, hl59, hc60⟩ := RowR.at (iE_ok _) h_l ([]) g49.1 hx50
             refine qv (v_indexO Tryz.underlying28 Tryz.sizeOf3 rfl ha56 rfl g49) rfl ?_
             refine qv (v_load Tryz.isAgg3 rfl hs57 (hc60 0 (by decide))) rfl ?_
             obtain ⟨x4, g61, hx62, r63⟩ := ix_ok r51; clear r51
             obtain ⟨b64, o65, c66, vs67, ha68, hs69, hle70, ⟨a73, c74, rfl, h75⟩, hl71, hc72⟩ := RowR.at (slE_ok (iE_ok _)) h_ears ([]) g61.1 hx62
             refine qv (v_indexO Tryz.underlying84 Tryz.sizeOf28 rfl ha68 rfl g61) rfl ?_
             refine qv (v_load Tryz.isAgg28 rfl hs69 (hc72 0 (by decide))) rfl ?_
             refine qm rfl rfl (qm rfl rfl (qm rfl rfl ?_))
             obtain ⟨b76, o77, c78, vs79, ha80, hs81, hle82, rfl, hl83, hc84⟩ := RowR.at (iE_ok _) h_l ([]) g9.1 hx8
             refine qv (v_indexO Tryz.underlying28 Tryz.sizeOf3 rfl ha80 rfl g9) rfl ?_
             refine qv (v_load Tryz.isAgg3 rfl hs81 (hc84 0 (by decide))) rfl ?_
             obtain ⟨b85, o86, c87, vs88, ha89, hs90, hle91, ⟨a94, c95, rfl, h96⟩, hl92, hc93⟩ := RowR.at (slE_ok (iE_ok _)) h_ears ([]) g32.1 hx33
             refine qv (v_indexO Tryz.underlying84 Tryz.sizeOf28 rfl ha89 rfl g32) rfl ?_
             refine qv (v_load Tryz.isAgg28 rfl hs90 (hc93 0 (by decide))) rfl ?_
             refine qm rfl rfl ?_
             obtain ⟨x5, g97, hx98, r99⟩ := ix_ok r63; clear r63
             obtain ⟨b100, o101, c102, vs103, ha104, hs105, hle106, rfl, hl107, hc108⟩ := RowR.at (iE_ok _) h96 ([]) g97.1 hx98
             refine qv (v_indexO Tryz.underlying28 Tryz.sizeOf3 rfl ha104 rfl g97) rfl ?_
             refine qv (v_load Tryz.isAgg3 rfl hs105 (hc108 0 (by decide))) rfl ?_
             obtain ⟨ok, h109, r110⟩ := b1_ok r99; clear r99
             refine shQ_callV rfl Tryz.call62 rfl rfl rfl (oyezref01_has_w h75 h109) ?_
             refine shQ_nil ?_
             refine shW_cond rfl (fun c111 => ?_) (fun c111 => ?_)
             · have r112 := bt r110 c111; clear r110
               refine wsr (oa rfl rfl (shO_nil (shW_ret (inBlock_ret (andThen_ret (andThen_ret (inBlock_ret (inBlock_ret (andThen_ret ?_)))))))))
               refine andThen_ret (inBlock_ret (inBlock_ret (andThen_ret (andThen_ret (inBlock_ret (andThen_ret ?_))))))
               refine q_res1 Tryz.results63 (res_tmp rfl) (sr) ?_
               obtain rfl := inj1 r112
               exact rfl
             have r113 := bf r110 c111; clear r110
             refine shW_skip (inBlock_n (id := 5) (shW_region (om rfl rfl ?_)))
             obtain ⟨g114, r115⟩ := gd_ok r113; clear r113
             refine ov (v_add rfl rfl g114) rfl ?_
             refine oa rfl rfl (shO_nil ?_)
             exact le kr ⟨s_ + 1, r115, rfl, rfl, (sc rfl (sc rfl (sc rfl (sc rfl (sc rfl (sn _))))))⟩
           have r116 := ite_f r34 c47; clear r34
           refine shW_exit (andThen_exit (andThen_exit ?_))
           refine inBlock_exit ?_
           refine inBlock_n (id := 3) ?_
           exact mi kr ⟨r116, rfl, rfl, (sc rfl (sc rfl (sc rfl (sc rfl (sn _)))))⟩
         rintro e1 _ _ ⟨r117, rfl, rfl, he118⟩
         refine shW_env _ he118 ?_; clear he118
         rw [oyezref01_apart_j5] at r117
         refine shW_region (om rfl rfl ?_)
         refine ov (v_add rfl rfl (Ctr.r64 hk12 c17 g10)) rfl ?_
         refine oa rfl rfl (shO_nil ?_)
         exact le kr ⟨_, hk18, r117, rfl, rfl, (sc rfl (sc rfl (sc rfl (sc rfl (sn _)))))⟩
       obtain rfl := Ctr.zero hk12 c17
       rw [oyezref01_apart_l4] at r14
       refine shW_exit (andThen_exit (andThen_exit ?_))
       refine inBlock_exit ?_
       refine inBlock_n (id := 1) ?_
       exact mi kr ⟨r14, rfl, rfl, (sc rfl (sc rfl (sc rfl (sn _))))⟩
     rintro e1 _ _ ⟨r119, rfl, rfl, he120⟩
     refine shW_env _ he120 ?_; clear he120
     rw [oyezref01_apart_j3] at r119
     refine shW_region (om rfl rfl ?_)
     refine ov (v_add rfl rfl (Lst.r64 hk1 c6 (RowR.lt h_l))) rfl ?_
     refine oa rfl rfl (shO_nil ?_)
     subst hn2; exact le kr ⟨_, _, rfl, hk7, r119, rfl, rfl, (sc rfl (sc rfl (sc rfl (sn _))))⟩
   obtain rfl := Lst.zero hk1 c6
   rw [oyezref01_apart_l2] at r3
   refine shW_exit (andThen_exit (andThen_exit ?_))
   refine inBlock_exit ?_
   exact mi kr ⟨r3, rfl, rfl, (sn _)⟩
 rintro e1 _ _ ⟨r121, rfl, rfl, he122⟩
 refine shW_env _ he122 ?_; clear he122
 rw [oyezref01_apart_j1] at r121
 refine wsr (oa rfl rfl (shO_nil (shW_ret ?_)))
 refine q_res1 Tryz.results63 (res_tmp rfl) (sr) ?_
 obtain rfl := inj1 r121
 exact rfl
set_option maxHeartbeats 1000000 in
theorem oyezref01_Apart_w {wide : Int} {plots_a : Option Addr} {plots_c : Nat} {plots : List Int} {wind : Int} {voice : Int} {houses_a : Option Addr} {houses_c : Nat} {houses : List Int} {F : FS} (h_plots : RowR 1 (iE .i64) F plots_a plots_c plots) (h_houses : RowR 1 (iE .i64) F houses_a houses_c houses) {r : List Int} {r2 : Int} (hr : oyezref01_Apart wide plots wind voice houses = some (r, r2)) :
    SH.Spec Tryz.prog 16 #[.agg #[.int .i64 wide, .slice plots_a plots.length plots_c], .int .i64 wind, .int .i64 voice, .slice houses_a houses.length houses_c] F [] fun F' L' v => ∃ (ra : Option Addr) (rc : Nat), v = .tuple #[.slice ra r.length rc, .int .i64 r2] ∧ L' = [] ∧ RowR 1 (iE .i64) F' ra rc r := by
 refine spec_of_shW (args := [.agg #[.int .i64 wide, .slice plots_a plots.length plots_c], .int .i64 wind, .int .i64 voice, .slice houses_a houses.length houses_c]) Tryz.func16 rfl Tryz.ntmps16 (Nat.le_of_ble_eq_true rfl) ?_
 intro K _ _; rw [oyezref01_Apart] at hr
 refine wsr ?_
 refine o_box rfl rfl ?_; intro b1 hb1
 refine oa rfl rfl (oa rfl rfl (shO_nil (shW_seq (wsr ?_))))
 refine ov (v_loadA (cs := #[.int .i64 wide, .slice plots_a plots.length plots_c]) Tryz.isAgg34 Tryz.sizeOf34 rfl (Has.own 0 rfl) (Nat.le_of_ble_eq_true rfl) rfl) rfl ?_
 refine om rfl rfl (om rfl rfl (om rfl rfl ?_))
 obtain ⟨n, h2, r3⟩ := b1_ok hr; clear hr
 refine o_callV rfl Tryz.call45 rfl rfl rfl (oyezref01_Asked_w h_plots h_houses h2) ?_
 refine oa rfl rfl (nsr (om rfl rfl ?_))
 refine ov (v_neq rfl rfl) rfl ?_
 refine shO_nil ?_
 refine shW_condP rfl (fun c4 => ?_) (fun c4 => ?_)
 · have r5 := ite_t r3 c4; clear r3
   refine wsr (om rfl rfl (oa rfl rfl (oa rfl rfl (shO_nil ?_))))
   refine kW kn ?_
   refine shW_ret (andThen_ret ?_)
   refine q_res2 Tryz.results16 (res_tmp rfl) (res_tmp rfl) (sr) ?_
   obtain ⟨rfl, rfl⟩ := inj2 r5
   exact ⟨_, _, rfl, rfl, RowR.nil _ _ _⟩
 have r6 := ite_f r3 c4; clear r3
 refine shW_skip (wsr ?_)
 refine ov (v_loadA (cs := #[.int .i64 wide, .slice plots_a plots.length plots_c]) Tryz.isAgg34 Tryz.sizeOf34 rfl (Has.own 0 rfl) (Nat.le_of_ble_eq_true rfl) rfl) rfl ?_
 refine om rfl rfl (om rfl rfl ?_)
 obtain ⟨l, h7, r8⟩ := b1_ok r6; clear r6
 refine o_call0 rfl Tryz.call46 rfl rfl rfl (oyezref01_Ears_w h_plots h7) ?_; rintro _ F9 _ hF10 hn11 ⟨a13, c14, rfl, rfl, h15⟩
 replace h_plots := h_plots.mono (iE_ok _) hF10
 replace h_houses := h_houses.mono (iE_ok _) hF10
 refine shO_L (ln rfl) ?_
 refine oa rfl rfl (nsr (oa rfl rfl (shO_nil ?_)))
 obtain ⟨sorted, h22, r23⟩ := b1_ok r8; clear r8
 refine shW_join (fun e1 F1 L1 => ∃ (a16 : Option Addr) (n20 : Nat) (c17 : Nat) (Lb18 : LH), F9 = F1 ∧ L1 = (Lb18 ++ []) ∧ e1.sub [(11, .slice a13 l.length c14), (12, .slice a16 n20 c17)] ∧ SlR K.w0.heap.size 3 1 (iE .i64) F1 a16 n20 c17 sorted Lb18) ?_ ?_
 · clear r23
   refine wsr (oa rfl rfl (shO_nil ?_))
   refine shW_block ?_
   refine shW_lp (fun fu1 e1 F1 L1 => ∃ (tl : List Int) (p : Int), tl.length = fu1 ∧ Lst plots p tl ∧ ∃ (sorted2 : List Int) (a24 : Option Addr) (n28 : Nat) (c25 : Nat) (Lb26 : LH), oyezref01_Apart_l1 houses tl p sorted2 = some sorted ∧ F9 = F1 ∧ L1 = ((b1, .cells #[.int .i64 wide, .slice plots_a plots.length plots_c] 34 (0, 0)) :: (Lb26 ++ [])) ∧ e1.sub [(3, .slice houses_a houses.length houses_c), (4, .pointer (some ⟨b1, 0, none⟩)), (11, .slice a13 l.length c14), (12, .slice a24 n28 c25), (13, .int .i64 p)] ∧ SlR K.w0.heap.size 3 1 (iE .i64) F1 a24 n28 c25 sorted2 Lb26) _ (m0 (kc (ke kr)) ⟨_, _, rfl, Lst.start _, [], none, 0, 0, [], h22, rfl, rfl, (sc rfl (sc rfl (sc rfl (sc rfl (sc rfl (sn _)))))), SlR.nil _ _ _ _ _⟩) ?_
   rintro fu1 e1 _ _ ⟨tl, p, hn31, hk30, sorted2, a24, n28, c25, Lb26, r32, rfl, rfl, he33, hz27⟩
   refine shW_env _ he33 ?_; clear he33
   refine shW_seq (wsr (om rfl rfl ?_))
   refine ov (v_fieldAddr fa_34_1 rfl) rfl ?_
   refine ov (v_load Tryz.isAgg28 rfl (Has.own 0 rfl) rfl) rfl ?_
   refine ov (v_lenS Tryz.underlying28 rfl) rfl ?_
   refine ov (v_lssK rfl rfl) rfl ?_
   refine shO_nil ?_
   refine shW_condP rfl (fun c35 => ?_) (fun c35 => ?_)
   · obtain ⟨x, tl2, rfl, hx37, g38, hk36⟩ := Lst.succ hk30 c35
     rw [oyezref01_Apart_l1] at r32
     refine shW_skip (shW_seq ?_)
     refine shW_block ?_
     refine wsr (om rfl rfl (om rfl rfl ?_))
     obtain ⟨ok, h39, r40⟩ := b1_ok r32; clear r32
     refine o_callV rfl Tryz.call62 rfl rfl rfl (oyezref01_has_w h_houses h39) ?_
     refine shO_nil ?_
     refine shW_cond rfl (fun c41 => ?_) (fun c41 => ?_)
     · have r42 := bt r40 c41; clear r40
       refine shW_region (om rfl rfl (om rfl rfl ?_))
       refine o_buildSlice (cs := #[.int .i64 p]) rfl rfl (buildSlice_all slt_28 [.int .i64 p] rfl (by decide) (by simp [Value.cells]) (by decide)) ?_; intro b43 hb43
       obtain ⟨sorted3, h44, g45, r46⟩ := ap_ok r42; clear r42
       refine o_appZ (xs := sorted2) (ys := [p]) (zs := sorted3) rfl slt_28 rfl rfl (Nat.le_refl _) (fun _ => .c (.c .h)) hz27 (SrcR.box (vss := [[.int .i64 p]]) (ys := [p]) 0 rfl (iE_ok _) (.cons rfl .nil) rfl rfl) h44 g45 (by decide) ?_; intro a47 n51 c48 Lb49 hz50
       refine kO (kd kr) ?_
       refine oa rfl rfl (shO_nil (inBlock_n (id := 1) (shW_region (om rfl rfl ?_))))
       refine ov (v_add rfl rfl (Lst.r64 hk30 c35 (RowR.lt h_plots))) rfl ?_
       refine oa rfl rfl (shO_nil ?_)
       subst hn31; exact le kr ⟨_, _, rfl, hk36, sorted3, a47, n51, c48, Lb49, r46, rfl, rfl, (sc rfl (sc rfl (sc rfl (sc rfl (sc rfl (sn _)))))), hz50⟩
     have r53 := bf r40 c41; clear r40
     refine shW_skip (inBlock_n (id := 1) (shW_region (om rfl rfl ?_)))
     refine ov (v_add rfl rfl (Lst.r64 hk30 c35 (RowR.lt h_plots))) rfl ?_
     refine oa rfl rfl (shO_nil ?_)
     subst hn31; exact le kr ⟨_, _, rfl, hk36, sorted2, a24, n28, c25, Lb26, r53, rfl, rfl, (sc rfl (sc rfl (sc rfl (sc rfl (sc rfl (sn _)))))), hz27⟩
   obtain rfl := Lst.zero hk30 c35
   rw [oyezref01_Apart_l1] at r32
   refine shW_exit (andThen_exit (andThen_exit ?_))
   refine inBlock_exit ?_
   obtain rfl := inj1 r32
   exact mi (kd kr) ⟨a24, n28, c25, Lb26, rfl, rfl, (sc rfl (sc rfl (sn _))), hz27⟩
 rintro e1 _ _ ⟨a16, n20, c17, Lb18, rfl, rfl, he54, hz19⟩
 refine shW_env _ he54 ?_; clear he54
 refine shW_join (fun e1 F1 L1 => oyezref01_Apart_j2 = some (r, r2) ∧ FExt F9 F1 ∧ L1 = [] ∧ e1.sub []) ?_ ?_
 · refine wsr (om rfl rfl ?_)
   refine ov ((v_lenS Tryz.underlying28 rfl).i (SlR.lenI hz19)) rfl ?_
   refine oa rfl rfl (shO_nil ?_)
   refine shW_block ?_
   obtain rfl := (SlR.caps hz19).1
   refine shW_freezeR (Nat.le_refl _) (iE_ok _) fP hz19 ?_; intro F55 hF56 h57
   replace h15 := h15.mono (slE_ok (iE_ok _)) hF56
   refine shW_lpF (fun fu3 e1 F1 L1 => ∃ (many : Int), oyezref01_Apart_l3 l sorted fu3 many = some (r, r2) ∧ FExt F55 F1 ∧ L1 = [] ∧ e1.sub [(11, .slice a13 l.length c14), (12, .slice a16 sorted.length c17), (14, .int .i64 many)]) FU (m0 kr ⟨(sorted.length : Int), r23, FExt.refl _, rfl, (sc rfl (sc rfl (sc rfl (sn _))))⟩) ?_
   rintro fu3 e1 F62 _ ⟨many, r60, hF63, rfl, he61⟩
   refine shW_env _ he61 ?_; clear he61
   replace h15 := h15.mono (slE_ok (iE_ok _)) hF63
   replace h57 := h57.mono (iE_ok _) hF63
   rcases fu3 with _ | fu3
   · rw [oyezref01_Apart_l3] at r60; cases r60
   rw [oyezref01_Apart_l3] at r60
   refine shW_seq (wsr (om rfl rfl ?_))
   refine ov (v_gtrK rfl rfl) rfl ?_
   refine shO_nil ?_
   refine shW_condP rfl (fun c64 => ?_) (fun c64 => ?_)
   · have r65 := ite_t r60 c64; clear r60
     refine shW_skip ?_
     refine shW_join (fun e1 F1 L1 => oyezref01_Apart_j4 many (oyezref01_Apart_l3 l sorted fu3) = some (r, r2) ∧ FExt F62 F1 ∧ L1 = [] ∧ e1.sub [(11, .slice a13 l.length c14), (12, .slice a16 sorted.length c17), (14, .int .i64 many)]) ?_ ?_
     · refine shW_block ?_
       refine wsr (om rfl rfl (om rfl rfl ?_))
       obtain ⟨l2, h66, r67⟩ := b1_ok r65; clear r65
       refine o_call0 rfl Tryz.call48 rfl rfl rfl ((oyezref01_Lists_w FU) h57 h66) ?_; rintro _ F68 _ hF69 hn70 ⟨a72, n76, c73, Lb74, rfl, rfl, hz75⟩
       replace h15 := h15.mono (slE_ok (iE_ok _)) hF69
       replace hz75 := hz75.new fun p hp => hn70 p (by simp [hp])
       refine shO_L (lp (ln rfl)) ?_
       refine oa rfl rfl (nsr (oa rfl rfl (shO_nil ?_)))
       refine shW_block ?_
       refine shW_lp (fun fu5 e1 F1 L1 => ∃ (tl3 : List (List Int)) (i : Int), tl3.length = fu5 ∧ Lst l2 i tl3 ∧ oyezref01_Apart_l5 l many (oyezref01_Apart_l3 l sorted fu3) tl3 = some (r, r2) ∧ F68 = F1 ∧ L1 = (Lb74 ++ []) ∧ e1.sub [(11, .slice a13 l.length c14), (12, .slice a16 sorted.length c17), (14, .int .i64 many), (15, .slice a72 n76 c73), (16, .int .i64 i)]) _ (m0 kr ⟨_, _, rfl, Lst.start _, r67, rfl, rfl, (sc rfl (sc rfl (sc rfl (sc rfl (sc rfl (sn _))))))⟩) ?_
       rintro fu5 e1 _ _ ⟨tl3, i, hn79, hk78, r80, rfl, rfl, he81⟩
       refine shW_env _ he81 ?_; clear he81
       refine shW_seq (wsr (om rfl rfl (om rfl rfl ?_)))
       refine ov ((v_lenS Tryz.underlying84 rfl).i (SlR.lenI hz75)) rfl ?_
       refine ov (v_lssK rfl rfl) rfl ?_
       refine shO_nil ?_
       refine shW_condP rfl (fun c83 => ?_) (fun c83 => ?_)
       · obtain ⟨x2, tl4, rfl, hx85, g86, hk84⟩ := Lst.succ hk78 c83
         rw [oyezref01_Apart_l5] at r80
         refine shW_skip (shW_seq ?_)
         refine shW_block ?_
         refine wsr (om rfl rfl (om rfl rfl (om rfl rfl ?_)))
         obtain ⟨b87, o88, c89, vs90, ha91, hs92, hle93, ⟨a96, c97, rfl, h98⟩, hl94, hc95⟩ := SlR.at (slE_ok (iE_ok _)) hz75 (L := Lb74 ++ []) fP g86.1 hx85
         refine ov (v_indexO Tryz.underlying84 Tryz.sizeOf28 rfl ha91 rfl (SlR.idx hz75 g86)) rfl ?_
         refine ov (v_load Tryz.isAgg28 rfl hs92 (hc95 0 (by decide))) rfl ?_
         obtain ⟨ok2, h99, r100⟩ := b1_ok r80; clear r80
         refine o_callV rfl Tryz.call63 rfl rfl rfl (oyezref01_apart_w h15 h98 h99) ?_
         refine shO_nil ?_
         refine shW_cond rfl (fun c101 => ?_) (fun c101 => ?_)
         · have r102 := bt r100 c101; clear r100
           refine wsr (om rfl rfl (om rfl rfl ?_))
           obtain ⟨b103, o104, c105, vs106, ha107, hs108, hle109, ⟨a112, c113, rfl, h114⟩, hl110, hc111⟩ := SlR.at (slE_ok (iE_ok _)) hz75 (L := Lb74 ++ []) fP g86.1 hx85
           refine ov (v_indexO Tryz.underlying84 Tryz.sizeOf28 rfl ha107 rfl (SlR.idx hz75 g86)) rfl ?_
           refine ov (v_load Tryz.isAgg28 rfl hs108 (hc111 0 (by decide))) rfl ?_
           refine oa rfl rfl (oa rfl rfl (shO_nil ?_))
           refine kW kn ?_
           refine shW_ret (inBlock_ret (andThen_ret (andThen_ret (inBlock_ret (inBlock_ret (andThen_ret (andThen_ret (inBlock_ret (andThen_ret ?_)))))))))
           refine q_res2 Tryz.results16 (res_tmp rfl) (res_tmp rfl) (sr) ?_
           obtain ⟨rfl, rfl⟩ := inj2 r102
           exact ⟨_, _, rfl, rfl, h114⟩
         have r115 := bf r100 c101; clear r100
         refine shW_skip (inBlock_n (id := 5) (shW_region (om rfl rfl ?_)))
         refine ov (v_add rfl rfl (Lst.r64 hk78 c83 (SlR.llt hz75))) rfl ?_
         refine oa rfl rfl (shO_nil ?_)
         subst hn79; exact le kr ⟨_, _, rfl, hk84, r115, rfl, rfl, (sc rfl (sc rfl (sc rfl (sc rfl (sc rfl (sn _))))))⟩
       obtain rfl := Lst.zero hk78 c83
       rw [oyezref01_Apart_l5] at r80
       refine shW_exit (andThen_exit (andThen_exit ?_))
       refine inBlock_exit ?_
       refine inBlock_n (id := 3) ?_
       exact mi kn ⟨r80, hF69, rfl, (sc rfl (sc rfl (sc rfl (sn _))))⟩
     rintro e1 F118 _ ⟨r116, hF119, rfl, he117⟩
     refine shW_env _ he117 ?_; clear he117
     rw [oyezref01_Apart_j4] at r116
     refine shW_region (om rfl rfl ?_)
     obtain ⟨g120, r121⟩ := gd_ok r116; clear r116
     refine ov (v_sub rfl rfl g120) rfl ?_
     refine oa rfl rfl (shO_nil ?_)
     refine lf ?_
     exact mf kr ⟨many - 1, r121, (hF63.trans hF119), rfl, (sc rfl (sc rfl (sc rfl (sn _))))⟩
   have r122 := ite_f r60 c64; clear r60
   refine shW_exit (andThen_exit (andThen_exit ?_))
   refine inBlock_exit ?_
   exact mi kr ⟨r122, (hF56.trans hF63), rfl, (sn _)⟩
 rintro e1 F125 _ ⟨r123, hF126, rfl, he124⟩
 refine shW_env _ he124 ?_; clear he124
 rw [oyezref01_Apart_j2] at r123
 refine wsr (oa rfl rfl (oa rfl rfl (shO_nil (shW_ret ?_))))
 refine q_res2 Tryz.results16 (res_tmp rfl) (res_tmp rfl) (sr) ?_
 obtain ⟨rfl, rfl⟩ := inj2 r123
 exact ⟨_, _, rfl, rfl, RowR.nil _ _ _⟩
set_option maxHeartbeats 1000000 in
theorem slices_Equal_hear_Plot_hear_Plot_w {s1_a : Option Addr} {s1_c : Nat} {s1 : List Int} {s2_a : Option Addr} {s2_c : Nat} {s2 : List Int} {F : FS} (h_s1 : RowR 1 (iE .i64) F s1_a s1_c s1) (h_s2 : RowR 1 (iE .i64) F s2_a s2_c s2) {r : Bool} (hr : slices_Equal_hear_Plot_hear_Plot s1 s2 = some r) :
    SpecV Tryz.prog 102 #[.slice s1_a s1.length s1_c, .slice s2_a s2.length s2_c] F (.bool r) := by
 refine spec_of_shW (args := [.slice s1_a s1.length s1_c, .slice s2_a s2.length s2_c]) Tryz.func102 rfl Tryz.ntmps102 (Nat.le_of_ble_eq_true rfl) ?_
 intro K _ _; rw [slices_Equal_hear_Plot_hear_Plot] at hr
 refine wsr (oa rfl rfl (shO_nil (shW_seq (wsr (om rfl rfl ?_)))))
 refine ov (v_lenS Tryz.underlying22 rfl) rfl ?_
 refine om rfl rfl ?_
 refine ov (v_lenS Tryz.underlying22 rfl) rfl ?_
 refine ov (v_neq rfl rfl) rfl ?_
 refine shO_nil ?_
 refine shW_condP rfl (fun c1 => ?_) (fun c1 => ?_)
 · have r2 := ite_t hr c1; clear hr
   refine wsr (oa rfl rfl (shO_nil (shW_ret (andThen_ret ?_))))
   refine q_res1 Tryz.results102 (res_tmp rfl) (sr) ?_
   obtain rfl := inj1 r2
   exact rfl
 have r3 := ite_f hr c1; clear hr
 refine shW_skip ?_
 refine shW_join (fun e1 F1 L1 => slices_Equal_hear_Plot_hear_Plot_j1 = some r ∧ F = F1 ∧ L1 = [] ∧ e1.sub []) ?_ ?_
 · refine wsr (om rfl rfl ?_)
   refine ov (v_lenS Tryz.underlying22 rfl) rfl ?_
   refine om rfl rfl (shO_nil ?_)
   refine shW_block ?_
   refine shW_lp (fun fu2 e1 F1 L1 => ∃ (tl : List Int) (k : Int), tl.length = fu2 ∧ Lst s1 k tl ∧ slices_Equal_hear_Plot_hear_Plot_l2 s2 tl k = some r ∧ F = F1 ∧ L1 = [] ∧ e1.sub [(0, .slice s1_a s1.length s1_c), (1, .slice s2_a s2.length s2_c), (12, .int .i64 (s1.length : Int)), (13, .int .i64 k)]) _ (m0 kr ⟨_, _, rfl, Lst.start _, r3, rfl, rfl, (sc rfl (sc rfl (sc rfl (sc rfl (sn _)))))⟩) ?_
   rintro fu2 e1 _ _ ⟨tl, k, hn5, hk4, r6, rfl, rfl, he7⟩
   refine shW_env _ he7 ?_; clear he7
   refine wsr ?_
   refine ov (v_lssK rfl rfl) rfl ?_
   refine shO_nil (shW_seq ?_)
   refine shW_condP rfl (fun c9 => ?_) (fun c9 => ?_)
   · obtain ⟨x, tl2, rfl, hx11, g12, hk10⟩ := Lst.succ hk4 c9
     rw [slices_Equal_hear_Plot_hear_Plot_l2] at r6
     refine shW_skip (shW_seq ?_)
     refine shW_block ?_
     refine wsr (om rfl rfl (oa rfl rfl ?_))
     refine nsd (by kernel_rfl) (by kernel_rfl) (by kernel_rfl) ?_
     refine qm rfl rfl (qm rfl rfl ?_)
     obtain ⟨b13, o14, c15, vs16, ha17, hs18, hle19, rfl, hl20, hc21⟩ := RowR.at (iE_ok _) h_s1 ([]) g12.1 hx11
     refine qv (v_indexO Tryz.underlying22 Tryz.sizeOf61 rfl ha17 rfl g12) rfl ?_
     refine qv (v_load Tryz.isAgg61 rfl hs18 (hc21 0 (by decide))) rfl ?_
     refine qm rfl rfl (qm rfl rfl ?_)
     obtain ⟨x2, g22, hx23, r24⟩ := ix_ok r6; clear r6
     obtain ⟨b25, o26, c27, vs28, ha29, hs30, hle31, rfl, hl32, hc33⟩ := RowR.at (iE_ok _) h_s2 ([]) g22.1 hx23
     refine qv (v_indexO Tryz.underlying22 Tryz.sizeOf61 rfl ha29 rfl g22) rfl ?_
     refine qv (v_load Tryz.isAgg61 rfl hs30 (hc33 0 (by decide))) rfl ?_
     refine qv (v_neq rfl rfl) rfl ?_
     refine shQ_nil ?_
     refine shW_condP rfl (fun c34 => ?_) (fun c34 => ?_)
     · have r35 := ite_t r24 c34; clear r24
       refine wsr (oa rfl rfl (shO_nil (shW_ret (inBlock_ret (andThen_ret (andThen_ret (inBlock_ret (andThen_ret ?_))))))))
       refine q_res1 Tryz.results102 (res_tmp rfl) (sr) ?_
       obtain rfl := inj1 r35
       exact rfl
     have r36 := ite_f r24 c34; clear r24
     refine shW_skip (inBlock_n (id := 1) (shW_region ?_))
     refine ov (v_add rfl rfl (Lst.r64 hk4 c9 (RowR.lt h_s1))) rfl ?_
     refine om rfl rfl (shO_nil ?_)
     subst hn5; exact le kr ⟨_, _, rfl, hk10, r36, rfl, rfl, (sc rfl (sc rfl (sc rfl (sc rfl (sn _)))))⟩
   obtain rfl := Lst.zero hk4 c9
   rw [slices_Equal_hear_Plot_hear_Plot_l2] at r6
   refine shW_exit (andThen_exit (andThen_exit ?_))
   refine inBlock_exit ?_
   exact mi kr ⟨r6, rfl, rfl, (sn _)⟩
 rintro e1 _ _ ⟨r37, rfl, rfl, he38⟩
 refine shW_env _ he38 ?_; clear he38
 rw [slices_Equal_hear_Plot_hear_Plot_j1] at r37
 refine wsr (oa rfl rfl (shO_nil (shW_ret ?_)))
 refine q_res1 Tryz.results102 (res_tmp rfl) (sr) ?_
 obtain rfl := inj1 r37
 exact rfl
set_option maxHeartbeats 1000000 in
theorem oyezkit_Like_Plot_w {a_a : Option Addr} {a_c : Nat} {a : List Int} {b_a : Option Addr} {b_c : Nat} {b : List Int} {F : FS} (h_a : RowR 1 (iE .i64) F a_a a_c a) (h_b : RowR 1 (iE .i64) F b_a b_c b) {r : Bool} (hr : oyezkit_Like_Plot a b = some r) :
    SpecV Tryz.prog 64 #[.slice a_a a.length a_c, .slice b_a b.length b_c] F (.bool r) := by
 refine spec_of_shW (args := [.slice a_a a.length a_c, .slice b_a b.length b_c]) Tryz.func64 rfl Tryz.ntmps64 (Nat.le_of_ble_eq_true rfl) ?_
 intro K _ _; rw [oyezkit_Like_Plot] at hr
 refine wsr (oa rfl rfl (nsr (om rfl rfl (om rfl rfl ?_))))
 obtain ⟨ok, h1, r2⟩ := b1_ok hr; clear hr
 refine o_callV rfl Tryz.call102 rfl rfl rfl (slices_Equal_hear_Plot_hear_Plot_w h_a h_b h1) ?_
 refine oa rfl rfl (shO_nil (shW_ret ?_))
 refine q_res1 Tryz.results64 (res_tmp rfl) (sr) ?_
 obtain rfl := inj1 r2
 exact rfl
set_option maxHeartbeats 1000000 in
theorem oyezlaw01_same_w {wide : Int} {plots_a : Option Addr} {plots_c : Nat} {plots : List Int} {wide2 : Int} {plots2_a : Option Addr} {plots2_c : Nat} {plots2 : List Int} {F : FS} (h_plots : RowR 1 (iE .i64) F plots_a plots_c plots) (h_plots2 : RowR 1 (iE .i64) F plots2_a plots2_c plots2) {r : Bool} (hr : oyezlaw01_same wide plots wide2 plots2 = some r) :
    SpecV Tryz.prog 17 #[.agg #[.int .i64 wide, .slice plots_a plots.length plots_c], .agg #[.int .i64 wide2, .slice plots2_a plots2.length plots2_c]] F (.bool r) := by
 refine spec_of_shW (args := [.agg #[.int .i64 wide, .slice plots_a plots.length plots_c], .agg #[.int .i64 wide2, .slice plots2_a plots2.length plots2_c]]) Tryz.func17 rfl Tryz.ntmps17 (Nat.le_of_ble_eq_true rfl) ?_
 intro K _ _; rw [oyezlaw01_same] at hr
 refine wsr ?_
 refine o_box rfl rfl ?_; intro b1 hb1
 refine o_box rfl rfl ?_; intro b2 hb2
 refine oa rfl rfl (nsr ?_)
 refine ov (v_fieldAddr fa_24_0 rfl) rfl ?_
 refine ov (v_load Tryz.isAgg3 rfl (Has.own 1 rfl) rfl) rfl ?_
 refine ov (v_fieldAddr fa_24_0 rfl) rfl ?_
 refine ov (v_load Tryz.isAgg3 rfl (Has.own 0 rfl) rfl) rfl ?_
 refine ov (v_eql rfl rfl) rfl ?_
 refine om rfl rfl ?_
 by_cases c3 : wide = wide2
 · have r4 := ite_t hr c3; clear hr
   refine shO_on (b := true) 10 rfl (Env.isT rfl c3) ?_
   refine ov (v_fieldAddr fa_24_1 rfl) rfl ?_
   refine shO_on (b := true) 10 rfl (Env.isT rfl c3) ?_
   refine ov (v_load Tryz.isAgg22 rfl (Has.own 1 rfl) rfl) rfl ?_
   refine shO_on (b := true) 10 rfl (Env.isT rfl c3) ?_
   refine ov (v_fieldAddr fa_24_1 rfl) rfl ?_
   refine shO_on (b := true) 10 rfl (Env.isT rfl c3) ?_
   refine ov (v_load Tryz.isAgg22 rfl (Has.own 0 rfl) rfl) rfl ?_
   refine shO_on (b := true) 10 rfl (Env.isT rfl c3) ?_
   obtain ⟨ok, h5, r6⟩ := b1_ok r4; clear r4
   refine o_callV rfl Tryz.call64 rfl rfl rfl (oyezkit_Like_Plot_w h_plots h_plots2 h5) ?_
   refine ov (v_pick_t (evD_true rfl c3) rfl) rfl ?_
   refine oa rfl rfl (shO_nil ?_)
   refine kW kn ?_
   refine shW_ret ?_
   refine q_res1 Tryz.results17 (res_tmp rfl) (sr) ?_
   obtain rfl := inj1 r6
   exact rfl
 have r7 := ite_f hr c3; clear hr
 refine shO_off (b' := false) 10 rfl (Env.isF rfl c3) rfl rfl (shO_off (b' := false) 10 rfl (Env.isF rfl c3) rfl rfl (shO_off (b' := false) 10 rfl (Env.isF rfl c3) rfl rfl (shO_off (b' := false) 10 rfl (Env.isF rfl c3) rfl rfl (shO_off (b' := false) 10 rfl (Env.isF rfl c3) rfl rfl ?_))))
 refine ov (v_pick_f (evD_false rfl c3) rfl) rfl ?_
 refine oa rfl rfl (shO_nil ?_)
 refine kW kn ?_
 refine shW_ret ?_
 refine q_res1 Tryz.results17 (res_tmp rfl) (sr) ?_
 obtain rfl := inj1 r7
 exact rfl
set_option maxHeartbeats 1000000 in
theorem oyezlaw01_HearFewest_w {wide : Int} {plots_a : Option Addr} {plots_c : Nat} {plots : List Int} {wind : Int} {voice : Int} {houses_a : Option Addr} {houses_c : Nat} {houses : List Int} {F : FS} (h_plots : RowR 1 (iE .i64) F plots_a plots_c plots) (h_houses : RowR 1 (iE .i64) F houses_a houses_c houses) {r : Bool} (hr : oyezlaw01_HearFewest wide plots wind voice houses = some r) :
    SpecV Tryz.prog 3 #[.agg #[.int .i64 wide, .slice plots_a plots.length plots_c], .agg #[.int .i64 wind, .int .i64 voice], .slice houses_a houses.length houses_c] F (.bool r) := by
 refine spec_of_shW (args := [.agg #[.int .i64 wide, .slice plots_a plots.length plots_c], .agg #[.int .i64 wind, .int .i64 voice], .slice houses_a houses.length houses_c]) Tryz.func3 rfl Tryz.ntmps3 (Nat.le_of_ble_eq_true rfl) ?_
 intro K _ _; rw [oyezlaw01_HearFewest] at hr
 refine wsr ?_
 refine o_box rfl rfl ?_; intro b1 hb1
 refine o_box rfl rfl ?_; intro b2 hb2
 refine oa rfl rfl (shO_nil (shW_seq ?_))
 obtain ⟨k, h3, r4⟩ := b1_ok hr; clear hr
 refine shW_join (fun e1 F1 L1 => F = F1 ∧ L1 = [(b2, .cells #[.int .i64 wind, .int .i64 voice] 27 (0, 0)), (b1, .cells #[.int .i64 wide, .slice plots_a plots.length plots_c] 24 (0, 0))] ∧ e1.sub [(2, .slice houses_a houses.length houses_c), (3, .pointer (some ⟨b1, 0, none⟩)), (4, .pointer (some ⟨b2, 0, none⟩)), (21, .bool k)]) ?_ ?_
 · clear r4
   refine shW_region ?_
   refine ov (v_loadA (cs := #[.int .i64 wide, .slice plots_a plots.length plots_c]) Tryz.isAgg24 Tryz.sizeOf24 rfl (Has.own 1 rfl) (Nat.le_of_ble_eq_true rfl) rfl) rfl ?_
   obtain ⟨ok, h5, r6⟩ := b1_ok h3; clear h3
   refine o_callV rfl Tryz.call5 rfl rfl rfl (oyezlaw01_many_w h_plots h5) ?_
   refine om rfl rfl ?_
   rcases bool_two ok with c7 | c7
   · have r8 := bt r6 c7; clear r6
     refine shO_off (b' := true) 17 rfl (EnvB rfl c7) rfl rfl (shO_off (b' := true) 17 rfl (EnvB rfl c7) rfl rfl (shO_off (b' := true) 17 rfl (EnvB rfl c7) rfl rfl ?_))
     refine ov (v_pick_t (evB rfl c7) rfl) rfl ?_
     refine shO_nil ?_
     obtain rfl := inj1 r8
     exact mi kr ⟨rfl, rfl, (sc rfl (sc rfl (sc rfl (sc rfl (sn _)))))⟩
   have r9 := bf r6 c7; clear r6
   refine shO_on (b := false) 17 rfl (EnvB rfl c7) (om rfl rfl (shO_on (b := false) 17 rfl (EnvB rfl c7) ?_))
   refine ov (v_lenS Tryz.underlying28 rfl) rfl ?_
   refine shO_on (b := false) 17 rfl (EnvB rfl c7) ?_
   refine ov (v_gtrK rfl rfl) rfl ?_
   refine ov (v_pick_f (evB rfl c7) rfl) rfl ?_
   refine shO_nil ?_
   obtain rfl := inj1 r9
   exact mi kr ⟨rfl, rfl, (sc rfl (sc rfl (sc rfl (sc rfl (sn _)))))⟩
 rintro e1 _ _ ⟨rfl, rfl, he10⟩
 refine shW_env _ he10 ?_; clear he10
 refine shW_cond rfl (fun c11 => ?_) (fun c11 => ?_)
 · have r12 := bt r4 c11; clear r4
   refine wsr ?_
   obtain ⟨ok2, h13, r14⟩ := b1_ok r12; clear r12
   refine o_callV rfl Tryz.call6 rfl rfl rfl (oyezlaw01_awake_w h13) ?_
   refine oa rfl rfl (shO_nil ?_)
   refine kW kn ?_
   refine shW_ret (andThen_ret ?_)
   refine q_res1 Tryz.results3 (res_tmp rfl) (sr) ?_
   obtain rfl := inj1 r14
   exact rfl
 have r15 := bf r4 c11; clear r4
 refine shW_skip (shW_seq ?_)
 refine shW_drawM [(.pre, 8), (.pre, 9), (.still, 0), (.still, 2), (.still, 4), (.still, 6), (.still, 7), (.seq, 1), (.seq, 3), (.seq, 5), (.alloc (.cells (.agg #[.int .i64 0, .slice none 0 0] : Value).cells 24 (0, 0)) (fun b => .pointer (some ⟨b, 0, none⟩)) [], 8), (.alloc (.cells (.agg #[.int .i64 0, .slice none 0 0] : Value).cells 34 (0, 0)) (fun b => .pointer (some ⟨b, 0, none⟩)) [], 9), (.seq, 10), (.still, 11), (.seq, 12), (.still, 13)] (by kernel_rfl) (by kernel_rfl) (⟨⟨_, _, rfl, rfl, rfl, rfl, rfl, mk_alloc Tryz.zeroValue24⟩, ⟨⟨_, _, rfl, rfl, rfl, rfl, rfl, mk_alloc Tryz.zeroValue34⟩, trivial⟩⟩) (by rfl) (by kernel_rfl) ?_
 refine ⟨⟨[], rfl, sn _, by kernel_rfl⟩, ?_⟩
 refine ⟨⟨[], rfl, sn _, by kernel_rfl⟩, ?_⟩
 refine shM_v (v := .agg #[.int .i64 wide, .slice plots_a plots.length plots_c]) (ek := [(3, .pointer (some ⟨b1, 0, none⟩))]) (Ls := [(b1, .cells #[.int .i64 wide, .slice plots_a plots.length plots_c] 24 (0, 0))]) rfl rfl rfl rfl ((sc rfl (sn _))) (by kernel_rfl) (s0 (s1 (s2 sr))) (fun H F' L' hF' hL' => v_loadA (cs := #[.int .i64 wide, .slice plots_a plots.length plots_c]) Tryz.isAgg24 Tryz.sizeOf24 rfl ((Has.own 0 rfl).ext hF' hL') (Nat.le_of_ble_eq_true rfl) rfl) ?_
 refine shM_v (v := .slice houses_a houses.length houses_c) (ek := [(2, .slice houses_a houses.length houses_c)]) (Ls := []) rfl rfl rfl rfl ((sc rfl (sn _))) (by kernel_rfl) sm (fun H F' L' hF' hL' => v_move rfl) ?_
 refine shM_v (v := .agg #[.int .i64 wide, .slice plots_a plots.length plots_c]) (ek := [(3, .pointer (some ⟨b1, 0, none⟩))]) (Ls := [(b1, .cells #[.int .i64 wide, .slice plots_a plots.length plots_c] 24 (0, 0))]) rfl rfl rfl rfl ((sc rfl (sn _))) (by kernel_rfl) (s0 (s1 (s2 sr))) (fun H F' L' hF' hL' => v_loadA (cs := #[.int .i64 wide, .slice plots_a plots.length plots_c]) Tryz.isAgg24 Tryz.sizeOf24 rfl ((Has.own 0 rfl).ext hF' hL') (Nat.le_of_ble_eq_true rfl) rfl) ?_
 refine shM_v (v := .pointer (some ⟨b2, 0, none⟩)) (ek := [(4, .pointer (some ⟨b2, 0, none⟩))]) (Ls := []) rfl rfl rfl rfl ((sc rfl (sn _))) (by kernel_rfl) sm (fun H F' L' hF' hL' => v_fieldAddr fa_27_0 rfl) ?_
 refine shM_v (v := .int .i64 wind) (ek := [(29, .pointer (some ⟨b2, 0, none⟩))]) (Ls := [(b2, .cells #[.int .i64 wind, .int .i64 voice] 27 (0, 0))]) rfl rfl rfl rfl ((sc rfl (sn _))) (by kernel_rfl) (s0 (s2 (s1 sr))) (fun H F' L' hF' hL' => v_load Tryz.isAgg25 rfl ((Has.own 0 rfl).ext hF' hL') rfl) ?_
 refine ⟨_, [(23, .agg #[.int .i64 wide, .slice plots_a plots.length plots_c])], rfl, rfl, (sc rfl (sn _)), by kernel_rfl, ?_⟩; intro H
 obtain ⟨n, l, h16, r17⟩ := b2_ok r15; clear r15
 refine o_call0 rfl Tryz.call7 rfl rfl rfl (oyezlaw01_Own_w h_plots h16) ?_; rintro _ F18 _ hF19 hn20 ⟨a22, n26, c23, Lb24, rfl, rfl, hz25⟩
 replace h_plots := h_plots.mono (iE_ok _) hF19
 replace h_houses := h_houses.mono (iE_ok _) hF19
 replace hz25 := hz25.new fun p hp => hn20 p (by simp [hp])
 refine shO_L (lp (ln rfl)) ?_
 refine kO (kf (fS fO) (kf (fS fO) kr)) ?_
 refine shO_nil ⟨_, rfl, hF19, [7, 6, 4, 2], by kernel_rfl, .inl (.inr (fun d h => by cases h; rfl)), (List.forall_mem_cons.2 ⟨s0 (s2 (s1 (s3 sr))), (List.forall_mem_cons.2 ⟨sm, (List.forall_mem_cons.2 ⟨s0 (s1 (s2 (s3 sr))), (List.forall_mem_cons.2 ⟨sm, (fun _ h => absurd h List.not_mem_nil)⟩)⟩)⟩)⟩), ?_⟩
 refine ⟨_, [(25, .slice houses_a houses.length houses_c)], rfl, rfl, (sc rfl (sn _)), by kernel_rfl, ?_⟩; intro H
 obtain ⟨l2, h28, r29⟩ := b1_ok r17; clear r17
 refine o_call0 rfl Tryz.call8 rfl rfl rfl (oyezkit_Copy_int_w h_houses h28) ?_; rintro _ F30 _ hF31 hn32 ⟨a34, n38, c35, Lb36, rfl, rfl, hz37⟩
 replace h_plots := h_plots.mono (iE_ok _) hF31
 replace h_houses := h_houses.mono (iE_ok _) hF31
 replace hz25 := hz25.mono (iE_ok _) hF31
 replace hz37 := hz37.new fun p hp => hn32 p (by simp [hp])
 refine shO_L (lp (ln rfl)) ?_
 refine kO (kf (fS fO) (kf (fS fO) kr)) ?_
 refine shO_nil ⟨_, rfl, hF31, [7, 6, 4], by kernel_rfl, .inl (.inr (fun d h => by cases h; rfl)), (List.forall_mem_cons.2 ⟨s0 (s2 (s1 (s3 (s3 sr)))), (List.forall_mem_cons.2 ⟨sm, (List.forall_mem_cons.2 ⟨s0 (s1 (s2 (s3 (s3 sr)))), (fun _ h => absurd h List.not_mem_nil)⟩)⟩)⟩), ?_⟩
 refine ⟨_, [(27, .agg #[.int .i64 wide, .slice plots_a plots.length plots_c])], rfl, rfl, (sc rfl (sn _)), by kernel_rfl, ?_⟩; intro H
 obtain ⟨n2, l3, h40, r41⟩ := b2_ok r29; clear r29
 refine o_call0 rfl Tryz.call9 rfl rfl rfl (oyezlaw01_theirs_w h_plots h40) ?_; rintro _ F42 _ hF43 hn44 ⟨a46, n50, c47, Lb48, rfl, rfl, hz49⟩
 replace h_plots := h_plots.mono (iE_ok _) hF43
 replace h_houses := h_houses.mono (iE_ok _) hF43
 replace hz25 := hz25.mono (iE_ok _) hF43
 replace hz37 := hz37.mono (iE_ok _) hF43
 replace hz49 := hz49.new fun p hp => hn44 p (by simp [hp])
 refine shO_L (lp (ln rfl)) ?_
 refine kO (kf (fS fO) (kf (fS fO) kr)) ?_
 refine shO_nil ⟨_, rfl, hF43, [7, 6], by kernel_rfl, .inl (.inr (fun d h => by cases h; rfl)), (List.forall_mem_cons.2 ⟨s0 (s2 (s1 (s3 (s3 (s3 sr))))), (List.forall_mem_cons.2 ⟨sm, (fun _ h => absurd h List.not_mem_nil)⟩)⟩), ?_⟩
 refine shM_ptr rfl ?_; intro b52 hb52
 refine shM_L (L' := (b52, .cells #[.int .i64 0, .slice none 0 0] 24 (0, 0)) :: ((b2, .cells #[.int .i64 wind, .int .i64 voice] 27 (0, 0)) :: ((b1, .cells #[.int .i64 wide, .slice plots_a plots.length plots_c] 24 (0, 0)) :: (Lb48 ++ (Lb36 ++ (Lb24 ++ [])))))) rfl ?_
 refine shM_ptr rfl ?_; intro b53 hb53
 refine shM_L (L' := (b53, .cells #[.int .i64 0, .slice none 0 0] 34 (0, 0)) :: ((b52, .cells #[.int .i64 0, .slice none 0 0] 24 (0, 0)) :: ((b2, .cells #[.int .i64 wind, .int .i64 voice] 27 (0, 0)) :: ((b1, .cells #[.int .i64 wide, .slice plots_a plots.length plots_c] 24 (0, 0)) :: (Lb48 ++ (Lb36 ++ (Lb24 ++ []))))))) rfl ?_
 refine ⟨_, [(7, .pointer (some ⟨b52, 0, none⟩)), (24, .agg #[.int .i64 n, .slice a22 n26 c23])], rfl, rfl, (sc rfl (sc rfl (sn _))), by kernel_rfl, ?_⟩; intro H
 refine o_storeA (i := 1) Tryz.sizeOf24 rfl rfl rfl (by simp [Value.oneCell']) rfl (Nat.le_of_ble_eq_true rfl) ?_
 refine shO_L (L' := (b53, .cells #[.int .i64 0, .slice none 0 0] 34 (0, 0)) :: ((b52, .cells #[.int .i64 n, .slice a22 n26 c23] 24 (0, 0)) :: ((b2, .cells #[.int .i64 wind, .int .i64 voice] 27 (0, 0)) :: ((b1, .cells #[.int .i64 wide, .slice plots_a plots.length plots_c] 24 (0, 0)) :: (Lb48 ++ (Lb36 ++ (Lb24 ++ []))))))) rfl ?_
 refine shO_nil ⟨undef, rfl, FExt.refl _, [7, 6], by kernel_rfl, .inl (.inr (fun d h => by cases h)), (List.forall_mem_cons.2 ⟨s0 (s1 (s1 (s2 (s1 (s3 (s3 (s3 sr))))))), (List.forall_mem_cons.2 ⟨sm, (fun _ h => absurd h List.not_mem_nil)⟩)⟩), ?_⟩
 refine shM_v (v := .slice a34 n38 c35) (ek := [(26, .slice a34 n38 c35)]) (Ls := []) rfl rfl rfl rfl ((sc rfl (sn _))) (by kernel_rfl) sm (fun H F' L' hF' hL' => v_assign rfl) ?_
 refine ⟨_, [(9, .pointer (some ⟨b53, 0, none⟩)), (28, .agg #[.int .i64 n2, .slice a46 n50 c47])], rfl, rfl, (sc rfl (sc rfl (sn _))), by kernel_rfl, ?_⟩; intro H
 refine o_storeA (i := 0) Tryz.sizeOf34 rfl rfl rfl (by simp [Value.oneCell']) rfl (Nat.le_of_ble_eq_true rfl) ?_
 refine shO_L (L' := (b53, .cells #[.int .i64 n2, .slice a46 n50 c47] 34 (0, 0)) :: ((b52, .cells #[.int .i64 n, .slice a22 n26 c23] 24 (0, 0)) :: ((b2, .cells #[.int .i64 wind, .int .i64 voice] 27 (0, 0)) :: ((b1, .cells #[.int .i64 wide, .slice plots_a plots.length plots_c] 24 (0, 0)) :: (Lb48 ++ (Lb36 ++ (Lb24 ++ []))))))) rfl ?_
 refine shO_nil ⟨undef, rfl, FExt.refl _, [7, 6], by kernel_rfl, .inl (.inr (fun d h => by cases h)), (List.forall_mem_cons.2 ⟨s0 (s1 (s1 (s2 (s1 (s3 (s3 (s3 sr))))))), (List.forall_mem_cons.2 ⟨sm, (fun _ h => absurd h List.not_mem_nil)⟩)⟩), ?_⟩
 refine shM_v (v := .int .i64 wind) (ek := [(30, .int .i64 wind)]) (Ls := []) rfl rfl rfl rfl ((sc rfl (sn _))) (by kernel_rfl) sm (fun H F' L' hF' hL' => v_assign rfl) ?_
 refine shM_nil ?_
 refine wsr ?_
 refine ov (v_loadA (cs := #[.int .i64 n, .slice a22 n26 c23]) Tryz.isAgg24 Tryz.sizeOf24 rfl (Has.own 1 rfl) (Nat.le_of_ble_eq_true rfl) rfl) rfl ?_
 refine ov (v_loadA (cs := #[.int .i64 wind, .int .i64 voice]) Tryz.isAgg27 Tryz.sizeOf27 rfl (Has.own 2 rfl) (Nat.le_of_ble_eq_true rfl) rfl) rfl ?_
 refine om rfl rfl ?_
 obtain ⟨l4, n3, h54, r55⟩ := b2_ok r41; clear r41
 refine o_callTO (Lb := []) (Lt := Lb24 ++ (Lb36 ++ [])) (Lr := (b53, .cells #[.int .i64 n2, .slice a46 n50 c47] 34 (0, 0)) :: ((b52, .cells #[.int .i64 n, .slice a22 n26 c23] 24 (0, 0)) :: ((b2, .cells #[.int .i64 wind, .int .i64 voice] 27 (0, 0)) :: ((b1, .cells #[.int .i64 wide, .slice plots_a plots.length plots_c] 24 (0, 0)) :: (Lb48 ++ []))))) rfl Tryz.call10 rfl rfl rfl (pT ((fC (fC (fC (fC (fS (fS fP)))))).trans (pA ((fC (fC (fC (fC (fS fP))))).trans (pA pR)))) (ln (lp (lp (ln rfl))))) (fun F2 h2 h3 => by rw [(SlR.caps hz25).1]; rw [(SlR.caps hz37).1]; exact hear_Fewest_w (hz25.row (iE_ok _) h2 (fun p hp => h3 p (List.mem_append_left _ hp))) (hz37.row (iE_ok _) h2 (fun p hp => h3 p (List.mem_append_right _ (List.mem_append_left _ hp)))) h54) (fun _ _ _ _ hq => by obtain ⟨a60, n64, c61, Lb62, rfl, rfl, hz63⟩ := hq; exact ⟨_, _, _, _, rfl, rfl, hz63.flat (fun _ _ h => h)⟩) ?_; rintro _ F56 _ hF57 hd59 hn58 ⟨a60, n64, c61, Lb62, rfl, rfl, hz63⟩
 replace h_plots := h_plots.mono (iE_ok _) hF57
 replace h_houses := h_houses.mono (iE_ok _) hF57
 replace hz25 := hz25.mono (iE_ok _) hF57
 replace hz37 := hz37.mono (iE_ok _) hF57
 replace hz49 := hz49.mono (iE_ok _) hF57
 have hn66 := newp (Lb' := []) (by rfl) hd59 hn58
 replace hz63 := hz63.new fun p hp => hn66 p (by simp [hp])
 refine shO_L (lp (ln (lp (lp (ln rfl))))) ?_
 refine kO (kf (fS (fS (fS fO))) (kf (fS (fS (fS fO))) (kf (fS (fS (fS fO))) (kf (fS (fS (fS fO))) kr)))) ?_
 refine om rfl rfl (ox rfl rfl rfl (ox rfl rfl rfl (oa rfl rfl (oa rfl rfl (nsr ?_)))))
 refine ov (v_loadA (cs := #[.int .i64 n2, .slice a46 n50 c47]) Tryz.isAgg34 Tryz.sizeOf34 rfl (Has.own 0 rfl) (Nat.le_of_ble_eq_true rfl) rfl) rfl ?_
 refine om rfl rfl ?_
 refine ov (v_fieldAddr fa_27_1 rfl) rfl ?_
 refine ov (v_load Tryz.isAgg3 rfl (Has.own 2 rfl) rfl) rfl ?_
 refine om rfl rfl ?_
 obtain rfl := (SlR.caps hz49).1
 refine shO_freezeR (Nat.le_refl _) (iE_ok _) (fC (fC (fC (fC (fS (fS (fS fP))))))) hz49 ?_; intro F67 hF68 h69
 replace h_plots := h_plots.mono (iE_ok _) hF68
 replace h_houses := h_houses.mono (iE_ok _) hF68
 replace hz25 := hz25.mono (iE_ok _) hF68
 replace hz37 := hz37.mono (iE_ok _) hF68
 replace hz63 := hz63.mono (iE_ok _) hF68
 obtain ⟨l5, n4, h70, r71⟩ := b2_ok r55; clear r55
 refine o_call0 rfl Tryz.call11 rfl rfl rfl (oyezref01_Fewest_w h69 h_houses h70) ?_; rintro _ F72 _ hF73 hn74 ⟨a76, c77, rfl, rfl, h78⟩
 replace h_plots := h_plots.mono (iE_ok _) hF73
 replace h_houses := h_houses.mono (iE_ok _) hF73
 replace h69 := h69.mono (iE_ok _) hF73
 replace hz25 := hz25.mono (iE_ok _) hF73
 replace hz37 := hz37.mono (iE_ok _) hF73
 replace hz63 := hz63.mono (iE_ok _) hF73
 refine shO_L (ln rfl) ?_
 refine om rfl rfl (ox rfl rfl rfl (ox rfl rfl rfl (oa rfl rfl (oa rfl rfl (shO_nil (shW_seq ?_))))))
 obtain ⟨k2, h79, r80⟩ := b1_ok r71; clear r71
 refine shW_join (fun e1 F1 L1 => F72 = F1 ∧ L1 = ((b53, .cells #[.int .i64 n2, .slice a46 l3.length c47] 34 (0, 0)) :: ((b52, .cells #[.int .i64 n, .slice a22 n26 c23] 24 (0, 0)) :: ((b2, .cells #[.int .i64 wind, .int .i64 voice] 27 (0, 0)) :: ((b1, .cells #[.int .i64 wide, .slice plots_a plots.length plots_c] 24 (0, 0)) :: (Lb24 ++ (Lb36 ++ [])))))) ∧ e1.sub [(2, .slice houses_a houses.length houses_c), (3, .pointer (some ⟨b1, 0, none⟩)), (4, .pointer (some ⟨b2, 0, none⟩)), (7, .pointer (some ⟨b52, 0, none⟩)), (8, .slice a34 n38 c35), (9, .pointer (some ⟨b53, 0, none⟩)), (10, .int .i64 wind), (55, .bool k2)]) ?_ ?_
 · clear r80
   refine shW_region (om rfl rfl (om rfl rfl ?_))
   refine ov (v_neq rfl rfl) rfl ?_
   refine om rfl rfl ?_
   by_cases c81 : n3 ≠ n4
   · have r82 := ite_t h79 c81; clear h79
     refine shO_off (b' := true) 50 rfl (Env.isT rfl c81) rfl rfl (shO_off (b' := true) 50 rfl (Env.isT rfl c81) rfl rfl (shO_off (b' := true) 50 rfl (Env.isT rfl c81) rfl rfl (shO_off (b' := true) 50 rfl (Env.isT rfl c81) rfl rfl ?_)))
     refine ov (v_pick_t (evD_true rfl c81) rfl) rfl ?_
     refine shO_nil ?_
     obtain rfl := inj1 r82
     exact mi (kc (kc (kc (kc (kx kr))))) ⟨rfl, rfl, (sc rfl (sc rfl (sc rfl (sc rfl (sc rfl (sc rfl (sc rfl (sc rfl (sn _)))))))))⟩
   have r83 := ite_f h79 c81; clear h79
   refine shO_on (b := false) 50 rfl (Env.isF rfl c81) (om rfl rfl (shO_on (b := false) 50 rfl (Env.isF rfl c81) (om rfl rfl (shO_on (b := false) 50 rfl (Env.isF rfl c81) ?_))))
   obtain ⟨ok3, h84, r85⟩ := b1_ok r83; clear r83
   refine o_callT (Lt := Lb62 ++ []) (Lr := (b53, .cells #[.int .i64 n2, .slice a46 l3.length c47] 34 (0, 0)) :: ((b52, .cells #[.int .i64 n, .slice a22 n26 c23] 24 (0, 0)) :: ((b2, .cells #[.int .i64 wind, .int .i64 voice] 27 (0, 0)) :: ((b1, .cells #[.int .i64 wide, .slice plots_a plots.length plots_c] 24 (0, 0)) :: (Lb24 ++ (Lb36 ++ [])))))) rfl Tryz.call12 rfl rfl rfl (pT ((fC (fC (fC (fC fP)))).trans (pA pR)) (lp (ln rfl))) (fun F2 h2 h3 => by rw [(SlR.caps hz63).1]; exact oyezkit_Like_int_w (hz63.row (iE_ok _) h2 (fun p hp => h3 p (List.mem_append_left _ hp))) (h78.mono (iE_ok _) h2) h84) ?_
   refine shO_on (b := false) 50 rfl (Env.isF rfl c81) ?_
   refine ov (v_notB rfl) rfl ?_
   refine ov (v_pick_f (evD_false rfl c81) rfl) rfl ?_
   refine shO_nil ?_
   obtain rfl := inj1 r85
   exact mi (kc (kc (kc (kc (kx kr))))) ⟨rfl, rfl, (sc rfl (sc rfl (sc rfl (sc rfl (sc rfl (sc rfl (sc rfl (sc rfl (sn _)))))))))⟩
 rintro e1 _ _ ⟨rfl, rfl, he86⟩
 refine shW_env _ he86 ?_; clear he86
 refine shW_cond rfl (fun c87 => ?_) (fun c87 => ?_)
 · have r88 := bt r80 c87; clear r80
   refine wsr (oa rfl rfl (shO_nil ?_))
   refine kW kn ?_
   refine shW_ret (andThen_ret ?_)
   refine q_res1 Tryz.results3 (res_tmp rfl) (sr) ?_
   obtain rfl := inj1 r88
   exact rfl
 have r89 := bf r80 c87; clear r80
 refine shW_skip (wsr ?_)
 refine ov (v_loadA (cs := #[.int .i64 n, .slice a22 n26 c23]) Tryz.isAgg24 Tryz.sizeOf24 rfl (Has.own 1 rfl) (Nat.le_of_ble_eq_true rfl) rfl) rfl ?_
 refine ov (v_loadA (cs := #[.int .i64 wind, .int .i64 voice]) Tryz.isAgg27 Tryz.sizeOf27 rfl (Has.own 2 rfl) (Nat.le_of_ble_eq_true rfl) rfl) rfl ?_
 refine om rfl rfl ?_
 obtain ⟨l6, n5, h90, r91⟩ := b2_ok r89; clear r89
 refine o_callTO (Lb := []) (Lt := Lb24 ++ (Lb36 ++ [])) (Lr := [(b53, .cells #[.int .i64 n2, .slice a46 l3.length c47] 34 (0, 0)), (b52, .cells #[.int .i64 n, .slice a22 n26 c23] 24 (0, 0)), (b2, .cells #[.int .i64 wind, .int .i64 voice] 27 (0, 0)), (b1, .cells #[.int .i64 wide, .slice plots_a plots.length plots_c] 24 (0, 0))]) rfl Tryz.call13 rfl rfl rfl (pT ((fC (fC (fC (fC fP)))).trans (pA ((fC (fC (fC (fC fP)))).trans (pA pR)))) (ln (lp (lp (ln rfl))))) (fun F2 h2 h3 => by rw [(SlR.caps hz25).1]; rw [(SlR.caps hz37).1]; exact hear_Must_w (hz25.row (iE_ok _) h2 (fun p hp => h3 p (List.mem_append_left _ hp))) (hz37.row (iE_ok _) h2 (fun p hp => h3 p (List.mem_append_right _ (List.mem_append_left _ hp)))) h90) (fun _ _ _ _ hq => by obtain ⟨a96, n100, c97, Lb98, rfl, rfl, hz99⟩ := hq; exact ⟨_, _, _, _, rfl, rfl, hz99.flat (fun _ _ h => h)⟩) ?_; rintro _ F92 _ hF93 hd95 hn94 ⟨a96, n100, c97, Lb98, rfl, rfl, hz99⟩
 replace h_plots := h_plots.mono (iE_ok _) hF93
 replace h_houses := h_houses.mono (iE_ok _) hF93
 replace h69 := h69.mono (iE_ok _) hF93
 replace hz25 := hz25.mono (iE_ok _) hF93
 replace hz37 := hz37.mono (iE_ok _) hF93
 have hn102 := newp (Lb' := []) (by rfl) hd95 hn94
 replace hz99 := hz99.new fun p hp => hn102 p (by simp [hp])
 refine shO_L (lp (ln (lp (lp (ln rfl))))) ?_
 refine kO (kf (fS (fS (fS fO))) (kf (fS (fS (fS fO))) (kf (fS (fS (fS fO))) (kf (fS (fS (fS fO))) kr)))) ?_
 refine om rfl rfl (ox rfl rfl rfl (ox rfl rfl rfl (oa rfl rfl (oa rfl rfl (nsr ?_)))))
 refine ov (v_loadA (cs := #[.int .i64 n2, .slice a46 l3.length c47]) Tryz.isAgg34 Tryz.sizeOf34 rfl (Has.own 0 rfl) (Nat.le_of_ble_eq_true rfl) rfl) rfl ?_
 refine om rfl rfl ?_
 refine ov (v_fieldAddr fa_27_1 rfl) rfl ?_
 refine ov (v_load Tryz.isAgg3 rfl (Has.own 2 rfl) rfl) rfl ?_
 refine om rfl rfl ?_
 obtain ⟨l7, n6, h103, r104⟩ := b2_ok r91; clear r91
 refine o_call0 rfl Tryz.call14 rfl rfl rfl (oyezref01_Must_w h69 h_houses h103) ?_; rintro _ F105 _ hF106 hn107 ⟨a109, n113, c110, Lb111, rfl, rfl, hz112⟩
 replace h_plots := h_plots.mono (iE_ok _) hF106
 replace h_houses := h_houses.mono (iE_ok _) hF106
 replace h69 := h69.mono (iE_ok _) hF106
 replace hz25 := hz25.mono (iE_ok _) hF106
 replace hz37 := hz37.mono (iE_ok _) hF106
 replace hz99 := hz99.mono (iE_ok _) hF106
 replace hz112 := hz112.new fun p hp => hn107 p (by simp [hp])
 refine shO_L (lp (ln rfl)) ?_
 refine kO (kf (fS fO) (kf (fS fO) (kf (fS fO) (kf (fS fO) kr)))) ?_
 refine om rfl rfl (ox rfl rfl rfl (ox rfl rfl rfl (oa rfl rfl (oa rfl rfl (shO_nil (shW_seq ?_))))))
 obtain ⟨k3, h115, r116⟩ := b1_ok r104; clear r104
 refine shW_join (fun e1 F1 L1 => F105 = F1 ∧ L1 = ((b53, .cells #[.int .i64 n2, .slice a46 l3.length c47] 34 (0, 0)) :: ((b52, .cells #[.int .i64 n, .slice a22 n26 c23] 24 (0, 0)) :: ((b2, .cells #[.int .i64 wind, .int .i64 voice] 27 (0, 0)) :: ((b1, .cells #[.int .i64 wide, .slice plots_a plots.length plots_c] 24 (0, 0)) :: (Lb24 ++ (Lb36 ++ [])))))) ∧ e1.sub [(2, .slice houses_a houses.length houses_c), (3, .pointer (some ⟨b1, 0, none⟩)), (4, .pointer (some ⟨b2, 0, none⟩)), (7, .pointer (some ⟨b52, 0, none⟩)), (8, .slice a34 n38 c35), (9, .pointer (some ⟨b53, 0, none⟩)), (10, .int .i64 wind), (80, .bool k3)]) ?_ ?_
 · clear r116
   refine shW_region (om rfl rfl (om rfl rfl ?_))
   refine ov (v_neq rfl rfl) rfl ?_
   refine om rfl rfl ?_
   by_cases c117 : n5 ≠ n6
   · have r118 := ite_t h115 c117; clear h115
     refine shO_off (b' := true) 75 rfl (Env.isT rfl c117) rfl rfl (shO_off (b' := true) 75 rfl (Env.isT rfl c117) rfl rfl (shO_off (b' := true) 75 rfl (Env.isT rfl c117) rfl rfl (shO_off (b' := true) 75 rfl (Env.isT rfl c117) rfl rfl ?_)))
     refine ov (v_pick_t (evD_true rfl c117) rfl) rfl ?_
     refine shO_nil ?_
     obtain rfl := inj1 r118
     exact mi (kc (kc (kc (kc (kx (kx kr)))))) ⟨rfl, rfl, (sc rfl (sc rfl (sc rfl (sc rfl (sc rfl (sc rfl (sc rfl (sc rfl (sn _)))))))))⟩
   have r119 := ite_f h115 c117; clear h115
   refine shO_on (b := false) 75 rfl (Env.isF rfl c117) (om rfl rfl (shO_on (b := false) 75 rfl (Env.isF rfl c117) (om rfl rfl (shO_on (b := false) 75 rfl (Env.isF rfl c117) ?_))))
   obtain ⟨ok4, h120, r121⟩ := b1_ok r119; clear r119
   refine o_callT (Lt := Lb98 ++ (Lb111 ++ [])) (Lr := (b53, .cells #[.int .i64 n2, .slice a46 l3.length c47] 34 (0, 0)) :: ((b52, .cells #[.int .i64 n, .slice a22 n26 c23] 24 (0, 0)) :: ((b2, .cells #[.int .i64 wind, .int .i64 voice] 27 (0, 0)) :: ((b1, .cells #[.int .i64 wide, .slice plots_a plots.length plots_c] 24 (0, 0)) :: (Lb24 ++ (Lb36 ++ [])))))) rfl Tryz.call12 rfl rfl rfl (pT ((fC (fC (fC (fC (fS fP))))).trans (pA ((fC (fC (fC (fC fP)))).trans (pA pR)))) (lp (lp (ln rfl)))) (fun F2 h2 h3 => by rw [(SlR.caps hz99).1]; rw [(SlR.caps hz112).1]; exact oyezkit_Like_int_w (hz99.row (iE_ok _) h2 (fun p hp => h3 p (List.mem_append_left _ hp))) (hz112.row (iE_ok _) h2 (fun p hp => h3 p (List.mem_append_right _ (List.mem_append_left _ hp)))) h120) ?_
   refine shO_on (b := false) 75 rfl (Env.isF rfl c117) ?_
   refine ov (v_notB rfl) rfl ?_
   refine ov (v_pick_f (evD_false rfl c117) rfl) rfl ?_
   refine shO_nil ?_
   obtain rfl := inj1 r121
   exact mi (kc (kc (kc (kc (kx (kx kr)))))) ⟨rfl, rfl, (sc rfl (sc rfl (sc rfl (sc rfl (sc rfl (sc rfl (sc rfl (sc rfl (sn _)))))))))⟩
 rintro e1 _ _ ⟨rfl, rfl, he122⟩
 refine shW_env _ he122 ?_; clear he122
 refine shW_cond rfl (fun c123 => ?_) (fun c123 => ?_)
 · have r124 := bt r116 c123; clear r116
   refine wsr (oa rfl rfl (shO_nil ?_))
   refine kW kn ?_
   refine shW_ret (andThen_ret ?_)
   refine q_res1 Tryz.results3 (res_tmp rfl) (sr) ?_
   obtain rfl := inj1 r124
   exact rfl
 have r125 := bf r116 c123; clear r116
 refine shW_skip (wsr ?_)
 refine ov (v_loadA (cs := #[.int .i64 n, .slice a22 n26 c23]) Tryz.isAgg24 Tryz.sizeOf24 rfl (Has.own 1 rfl) (Nat.le_of_ble_eq_true rfl) rfl) rfl ?_
 refine ov (v_loadA (cs := #[.int .i64 wind, .int .i64 voice]) Tryz.isAgg27 Tryz.sizeOf27 rfl (Has.own 2 rfl) (Nat.le_of_ble_eq_true rfl) rfl) rfl ?_
 refine om rfl rfl ?_
 obtain ⟨l8, n7, h126, r127⟩ := b2_ok r125; clear r125
 refine o_callTO (Lb := []) (Lt := Lb24 ++ (Lb36 ++ [])) (Lr := [(b53, .cells #[.int .i64 n2, .slice a46 l3.length c47] 34 (0, 0)), (b52, .cells #[.int .i64 n, .slice a22 n26 c23] 24 (0, 0)), (b2, .cells #[.int .i64 wind, .int .i64 voice] 27 (0, 0)), (b1, .cells #[.int .i64 wide, .slice plots_a plots.length plots_c] 24 (0, 0))]) rfl Tryz.call15 rfl rfl rfl (pT ((fC (fC (fC (fC fP)))).trans (pA ((fC (fC (fC (fC fP)))).trans (pA pR)))) (ln (lp (lp (ln rfl))))) (fun F2 h2 h3 => by rw [(SlR.caps hz25).1]; rw [(SlR.caps hz37).1]; exact hear_Apart_w (hz25.row (iE_ok _) h2 (fun p hp => h3 p (List.mem_append_left _ hp))) (hz37.row (iE_ok _) h2 (fun p hp => h3 p (List.mem_append_right _ (List.mem_append_left _ hp)))) h126) (fun _ _ _ _ hq => by obtain ⟨a132, n136, c133, Lb134, rfl, rfl, hz135⟩ := hq; exact ⟨_, _, _, _, rfl, rfl, hz135.flat (fun _ _ h => h)⟩) ?_; rintro _ F128 _ hF129 hd131 hn130 ⟨a132, n136, c133, Lb134, rfl, rfl, hz135⟩
 replace h_plots := h_plots.mono (iE_ok _) hF129
 replace h_houses := h_houses.mono (iE_ok _) hF129
 replace h69 := h69.mono (iE_ok _) hF129
 replace hz25 := hz25.mono (iE_ok _) hF129
 replace hz37 := hz37.mono (iE_ok _) hF129
 have hn138 := newp (Lb' := []) (by rfl) hd131 hn130
 replace hz135 := hz135.new fun p hp => hn138 p (by simp [hp])
 refine shO_L (lp (ln (lp (lp (ln rfl))))) ?_
 refine kO (kf (fS (fS (fS fO))) (kf (fS (fS (fS fO))) (kf (fS (fS (fS fO))) (kf (fS (fS (fS fO))) kr)))) ?_
 refine om rfl rfl (ox rfl rfl rfl (ox rfl rfl rfl (oa rfl rfl (oa rfl rfl (nsr ?_)))))
 refine ov (v_loadA (cs := #[.int .i64 n2, .slice a46 l3.length c47]) Tryz.isAgg34 Tryz.sizeOf34 rfl (Has.own 0 rfl) (Nat.le_of_ble_eq_true rfl) rfl) rfl ?_
 refine om rfl rfl ?_
 refine ov (v_fieldAddr fa_27_1 rfl) rfl ?_
 refine ov (v_load Tryz.isAgg3 rfl (Has.own 2 rfl) rfl) rfl ?_
 refine om rfl rfl ?_
 obtain ⟨l9, n8, h139, r140⟩ := b2_ok r127; clear r127
 refine o_call0 rfl Tryz.call16 rfl rfl rfl (oyezref01_Apart_w h69 h_houses h139) ?_; rintro _ F141 _ hF142 hn143 ⟨a145, c146, rfl, rfl, h147⟩
 replace h_plots := h_plots.mono (iE_ok _) hF142
 replace h_houses := h_houses.mono (iE_ok _) hF142
 replace hz25 := hz25.mono (iE_ok _) hF142
 replace hz37 := hz37.mono (iE_ok _) hF142
 replace hz135 := hz135.mono (iE_ok _) hF142
 refine shO_L (ln rfl) ?_
 refine om rfl rfl (ox rfl rfl rfl (ox rfl rfl rfl (oa rfl rfl (oa rfl rfl (nsr (om rfl rfl (om rfl rfl ?_)))))))
 refine ov (v_eql rfl rfl) rfl ?_
 refine om rfl rfl ?_
 by_cases c148 : n7 = n8
 · have r149 := ite_t r140 c148; clear r140
   refine shO_on (b := true) 100 rfl (Env.isT rfl c148) (om rfl rfl (shO_on (b := true) 100 rfl (Env.isT rfl c148) (om rfl rfl (shO_on (b := true) 100 rfl (Env.isT rfl c148) ?_))))
   obtain ⟨ok5, h150, r151⟩ := b1_ok r149; clear r149
   refine o_callT (Lt := Lb134 ++ []) (Lr := (b53, .cells #[.int .i64 n2, .slice a46 l3.length c47] 34 (0, 0)) :: ((b52, .cells #[.int .i64 n, .slice a22 n26 c23] 24 (0, 0)) :: ((b2, .cells #[.int .i64 wind, .int .i64 voice] 27 (0, 0)) :: ((b1, .cells #[.int .i64 wide, .slice plots_a plots.length plots_c] 24 (0, 0)) :: (Lb24 ++ (Lb36 ++ [])))))) rfl Tryz.call12 rfl rfl rfl (pT ((fC (fC (fC (fC fP)))).trans (pA pR)) (lp (ln rfl))) (fun F2 h2 h3 => by rw [(SlR.caps hz135).1]; exact oyezkit_Like_int_w (hz135.row (iE_ok _) h2 (fun p hp => h3 p (List.mem_append_left _ hp))) (h147.mono (iE_ok _) h2) h150) ?_
   refine ov (v_pick_t (evD_true rfl c148) rfl) rfl ?_
   refine om rfl rfl ?_
   rcases bool_two ok5 with c152 | c152
   · have r153 := bt r151 c152; clear r151
     refine shO_on (b := true) 105 rfl (EnvB rfl c152) ?_
     refine ov (v_loadA (cs := #[.int .i64 n, .slice a22 n26 c23]) Tryz.isAgg24 Tryz.sizeOf24 rfl (Has.own 1 rfl) (Nat.le_of_ble_eq_true rfl) rfl) rfl ?_
     refine shO_on (b := true) 105 rfl (EnvB rfl c152) ?_
     refine ov (v_loadA (cs := #[.int .i64 wide, .slice plots_a plots.length plots_c]) Tryz.isAgg24 Tryz.sizeOf24 rfl (Has.own 3 rfl) (Nat.le_of_ble_eq_true rfl) rfl) rfl ?_
     refine shO_on (b := true) 105 rfl (EnvB rfl c152) ?_
     obtain ⟨ok6, h154, r155⟩ := b1_ok r153; clear r153
     refine o_callT (Lt := Lb24 ++ []) (Lr := (b53, .cells #[.int .i64 n2, .slice a46 l3.length c47] 34 (0, 0)) :: ((b52, .cells #[.int .i64 n, .slice a22 n26 c23] 24 (0, 0)) :: ((b2, .cells #[.int .i64 wind, .int .i64 voice] 27 (0, 0)) :: ((b1, .cells #[.int .i64 wide, .slice plots_a plots.length plots_c] 24 (0, 0)) :: (Lb134 ++ (Lb36 ++ [])))))) rfl Tryz.call17 rfl rfl rfl (pT ((fC (fC (fC (fC (fS fP))))).trans (pA pR)) (lp (ln rfl))) (fun F2 h2 h3 => by rw [(SlR.caps hz25).1]; exact oyezlaw01_same_w (hz25.row (iE_ok _) h2 (fun p hp => h3 p (List.mem_append_left _ hp))) (h_plots.mono (iE_ok _) h2) h154) ?_
     refine ov (v_pick_t (evB rfl c152) rfl) rfl ?_
     refine om rfl rfl ?_
     rcases bool_two ok6 with c156 | c156
     · have r157 := bt r155 c156; clear r155
       refine shO_on (b := true) 110 rfl (EnvB rfl c156) (om rfl rfl (shO_on (b := true) 110 rfl (EnvB rfl c156) (om rfl rfl (shO_on (b := true) 110 rfl (EnvB rfl c156) ?_))))
       obtain ⟨ok7, h158, r159⟩ := b1_ok r157; clear r157
       refine o_callT (Lt := Lb36 ++ []) (Lr := (b53, .cells #[.int .i64 n2, .slice a46 l3.length c47] 34 (0, 0)) :: ((b52, .cells #[.int .i64 n, .slice a22 n26 c23] 24 (0, 0)) :: ((b2, .cells #[.int .i64 wind, .int .i64 voice] 27 (0, 0)) :: ((b1, .cells #[.int .i64 wide, .slice plots_a plots.length plots_c] 24 (0, 0)) :: (Lb134 ++ (Lb24 ++ [])))))) rfl Tryz.call12 rfl rfl rfl (pT ((fC (fC (fC (fC (fS (fS fP)))))).trans (pA pR)) (lp (ln rfl))) (fun F2 h2 h3 => by rw [(SlR.caps hz37).1]; exact oyezkit_Like_int_w (hz37.row (iE_ok _) h2 (fun p hp => h3 p (List.mem_append_left _ hp))) (h_houses.mono (iE_ok _) h2) h158) ?_
       refine ov (v_pick_t (evB rfl c156) rfl) rfl ?_
       refine om rfl rfl ?_
       rcases bool_two ok7 with c160 | c160
       · have r161 := bt r159 c160; clear r159
         refine shO_on (b := true) 115 rfl (EnvB rfl c160) ?_
         obtain ⟨ok8, h162, r163⟩ := b1_ok r161; clear r161
         refine o_callV rfl Tryz.call6 rfl rfl rfl (oyezlaw01_awake_w h162) ?_
         refine ov (v_pick_t (evB rfl c160) rfl) rfl ?_
         refine oa rfl rfl (shO_nil ?_)
         refine kW kn ?_
         refine shW_ret ?_
         refine q_res1 Tryz.results3 (res_tmp rfl) (sr) ?_
         obtain rfl := inj1 r163
         exact rfl
       have r164 := bf r159 c160; clear r159
       refine shO_off (b' := false) 115 rfl (EnvB rfl c160) rfl rfl ?_
       refine ov (v_pick_f (evB rfl c160) rfl) rfl ?_
       refine oa rfl rfl (shO_nil ?_)
       refine kW kn ?_
       refine shW_ret ?_
       refine q_res1 Tryz.results3 (res_tmp rfl) (sr) ?_
       obtain rfl := inj1 r164
       exact rfl
     have r165 := bf r155 c156; clear r155
     refine shO_off (b' := false) 110 rfl (EnvB rfl c156) rfl rfl (shO_off (b' := false) 110 rfl (EnvB rfl c156) rfl rfl (shO_off (b' := false) 110 rfl (EnvB rfl c156) rfl rfl ?_))
     refine ov (v_pick_f (evB rfl c156) rfl) rfl ?_
     refine om rfl rfl (shO_off (b' := false) 115 rfl rfl rfl rfl ?_)
     refine ov (v_pick_f rfl rfl) rfl ?_
     refine oa rfl rfl (shO_nil ?_)
     refine kW kn ?_
     refine shW_ret ?_
     refine q_res1 Tryz.results3 (res_tmp rfl) (sr) ?_
     obtain rfl := inj1 r165
     exact rfl
   have r166 := bf r151 c152; clear r151
   refine shO_off (b' := false) 105 rfl (EnvB rfl c152) rfl rfl (shO_off (b' := false) 105 rfl (EnvB rfl c152) rfl rfl (shO_off (b' := false) 105 rfl (EnvB rfl c152) rfl rfl ?_))
   refine ov (v_pick_f (evB rfl c152) rfl) rfl ?_
   refine om rfl rfl (shO_off (b' := false) 110 rfl rfl rfl rfl (shO_off (b' := false) 110 rfl rfl rfl rfl (shO_off (b' := false) 110 rfl rfl rfl rfl ?_)))
   refine ov (v_pick_f rfl rfl) rfl ?_
   refine om rfl rfl (shO_off (b' := false) 115 rfl rfl rfl rfl ?_)
   refine ov (v_pick_f rfl rfl) rfl ?_
   refine oa rfl rfl (shO_nil ?_)
   refine kW kn ?_
   refine shW_ret ?_
   refine q_res1 Tryz.results3 (res_tmp rfl) (sr) ?_
   obtain rfl := inj1 r166
   exact rfl
 have r167 := ite_f r140 c148; clear r140
 refine shO_off (b' := false) 100 rfl (Env.isF rfl c148) rfl rfl (shO_off (b' := false) 100 rfl (Env.isF rfl c148) rfl rfl (shO_off (b' := false) 100 rfl (Env.isF rfl c148) rfl rfl ?_))
 refine ov (v_pick_f (evD_false rfl c148) rfl) rfl ?_
 refine om rfl rfl (shO_off (b' := false) 105 rfl rfl rfl rfl (shO_off (b' := false) 105 rfl rfl rfl rfl (shO_off (b' := false) 105 rfl rfl rfl rfl ?_)))
 refine ov (v_pick_f rfl rfl) rfl ?_
 refine om rfl rfl (shO_off (b' := false) 110 rfl rfl rfl rfl (shO_off (b' := false) 110 rfl rfl rfl rfl (shO_off (b' := false) 110 rfl rfl rfl rfl ?_)))
 refine ov (v_pick_f rfl rfl) rfl ?_
 refine om rfl rfl (shO_off (b' := false) 115 rfl rfl rfl rfl ?_)
 refine ov (v_pick_f rfl rfl) rfl ?_
 refine oa rfl rfl (shO_nil ?_)
 refine kW kn ?_
 refine shW_ret ?_
 refine q_res1 Tryz.results3 (res_tmp rfl) (sr) ?_
 obtain rfl := inj1 r167
 exact rfl
end Go.Proofs.YtejkgppikpkkpaaGreat
