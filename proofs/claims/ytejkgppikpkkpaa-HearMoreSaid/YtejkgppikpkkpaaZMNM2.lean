/- The walks that this claim needs, printed by a program of mine; part 2. -/
import Derived.Test.YtejkgppikpkkpaaZMNM1
namespace Go.Proofs.Ytejkgppikpkkpaa
open Go.SH Go.PL
set_option maxHeartbeats 1000000 in
theorem slices_Collect_int_w {seq_f : FuncId} {seq_1 : Array Value} {seq_2 : Array Value} {seq : List Int} {F : FS} (hc_seq : ∀ args w, (callFunc seq_f args).run Try.prog w = .ok (.enter seq_f args) w) (h_seq : IterOK Try.prog seq_f seq_1 seq_2 F (fun x : Int => #[.int .i64 x]) seq) {r : List Int} (hr : slices_Collect_int seq = some r) :
    SH.Spec Try.prog 82 #[.func (.func seq_f) seq_1 seq_2] F [] fun F' L' v => ∃ (ra : Option Addr) (rn : Nat) (rc : Nat) (rL : LH), v = .slice ra rn rc ∧ L' = rL ++ [] ∧ SlR 0 3 1 (iE .i64) F' ra rn rc r rL := by
 refine spec_of_shW (args := [.func (.func seq_f) seq_1 seq_2]) Try.func82 rfl Try.ntmps82 (Nat.le_of_ble_eq_true rfl) ?_
 intro K _ _; rw [slices_Collect_int] at hr
 refine wsr (oa rfl rfl (nsr (om rfl rfl ?_)))
 obtain ⟨l, h1, r2⟩ := b1_ok hr; clear hr
 refine o_call0 rfl Try.call100 rfl rfl rfl (slices_AppendSeq_int_int_w (SlR.nil 0 _ _ _ _) hc_seq h_seq h1) ?_; rintro _ F3 _ hF4 hn5 ⟨a7, n11, c8, Lb9, rfl, rfl, hz10⟩
 refine shO_L (lp (ln rfl)) ?_
 refine oa rfl rfl (shO_nil (shW_ret ?_))
 refine q_res1 Try.results82 (res_tmp rfl) (sr) ?_
 obtain rfl := inj1 r2
 exact ⟨_, _, _, _, rfl, rfl, hz10.any⟩
set_option maxHeartbeats 1000000 in
theorem slices_Sorted_int_w {seq_f : FuncId} {seq_1 : Array Value} {seq_2 : Array Value} {seq : List Int} {F : FS} (hc_seq : ∀ args w, (callFunc seq_f args).run Try.prog w = .ok (.enter seq_f args) w) (h_seq : IterOK Try.prog seq_f seq_1 seq_2 F (fun x : Int => #[.int .i64 x]) seq) {r : List Int} (hr : slices_Sorted_int seq = some r) :
    SH.Spec Try.prog 49 #[.func (.func seq_f) seq_1 seq_2] F [] fun F' L' v => ∃ (ra : Option Addr) (rn : Nat) (rc : Nat) (rL : LH), v = .slice ra rn rc ∧ L' = rL ++ [] ∧ SlR 0 3 1 (iE .i64) F' ra rn rc r rL := by
 refine spec_of_shW (args := [.func (.func seq_f) seq_1 seq_2]) Try.func49 rfl Try.ntmps49 (Nat.le_of_ble_eq_true rfl) ?_
 intro K _ _; rw [slices_Sorted_int] at hr
 refine wsr (oa rfl rfl (nsr (om rfl rfl ?_)))
 obtain ⟨l, h1, r2⟩ := b1_ok hr; clear hr
 refine o_call0 rfl Try.call82 rfl rfl rfl (slices_Collect_int_w hc_seq h_seq h1) ?_; rintro _ F3 _ hF4 hn5 ⟨a7, n11, c8, Lb9, rfl, rfl, hz10⟩
 replace hz10 := hz10.new fun p hp => hn5 p (by simp [hp])
 refine shO_L (lp (ln rfl)) ?_
 refine oa rfl rfl (nsr (om rfl rfl ?_))
 obtain ⟨s_, h13, r14⟩ := b1_ok r2; clear r2
 refine o_callG (Lb := Lb9 ++ []) (Lr := []) rfl Try.call67 rfl rfl rfl (pT pR (lp (ln rfl))) (slices_Sort_int_int_w hz10 h13) ?_; rintro _ F15 _ hF16 hd18 hn17 ⟨Lb19, rfl, rfl, hz20⟩
 refine shO_L (lp (ln rfl)) ?_
 refine nsr (om rfl rfl (oa rfl rfl (shO_nil (shW_ret ?_))))
 refine q_res1 Try.results49 (res_tmp rfl) (sr) ?_
 obtain rfl := inj1 r14
 exact ⟨_, _, _, _, rfl, rfl, hz20.any⟩
set_option maxHeartbeats 1000000 in
theorem slices_Values_int_int_1_w {b_s_ : Nat} {s__a : Option Addr} {s__c : Nat} {s_ : List Int} {mb_s_ : Nat × Nat} {F : FS} (hb_s_ : F b_s_ = some (.cells #[.slice s__a s_.length s__c] 36 mb_s_)) (h_s_ : RowR 1 (iE .i64) F s__a s__c s_) {xs : List Int} (hr : slices_Values_int_int_1 s_ = some xs) :
    IterOK Try.prog 83 #[] #[.pointer (some ⟨b_s_, 0, none⟩)] F (fun x : Int => #[.int .i64 x]) xs := by
 intro G0 hG0 yv J Jx hJm hJxm hy Fc L0 hG hJ0
 replace hb_s_ := (hG0.trans hG) _ _ hb_s_
 replace h_s_ := h_s_.mono (iE_ok _) (hG0.trans hG)
 have hfull0 : xs = [] ++ xs := rfl
 show SH.Spec Try.prog 83 #[yv, .pointer (some ⟨b_s_, 0, none⟩)] Fc L0 _
 refine spec_of_shW (args := [yv, .pointer (some ⟨b_s_, 0, none⟩)]) Try.func83 rfl Try.ntmps83 (Nat.le_of_ble_eq_true rfl) ?_
 intro K _ _; rw [slices_Values_int_int_1] at hr; refine shW_L (L' := L0 ++ []) (by simp) ?_
 refine wsr ?_
 refine ov (v_load Try.isAgg36 rfl (Has.frozen hb_s_) rfl) rfl ?_
 refine ov (v_lenS Try.underlying36 rfl) rfl ?_
 refine om rfl rfl (shO_nil ?_)
 refine shW_block ?_
 refine shW_lp (fun fu1 e1 F1 L1 => ∃ (tl : List Int) (k : Int), tl.length = fu1 ∧ Lst s_ k tl ∧ ∃ (pre1 : List Int) (rem2 : List Int) (Lj3 : LH), slices_Values_int_int_1_l1 tl = some rem2 ∧ FExt Fc F1 ∧ L1 = (Lj3 ++ []) ∧ e1.sub [(0, yv), (5, .slice s__a s_.length s__c), (6, .int .i64 (s_.length : Int)), (7, .int .i64 k)] ∧ xs = pre1 ++ rem2 ∧ J pre1 F1 Lj3 ∧ FExt G0 F1) _ (m0 kr ⟨_, _, rfl, Lst.start _, [], xs, L0, hr, FExt.refl _, rfl, (sc rfl (sc rfl (sc rfl (sc rfl (sn _))))), hfull0, hJ0, hG⟩) ?_
 rintro fu1 e1 F10 _ ⟨tl, k, hn7, hk6, pre1, rem2, Lj3, r8, hF11, rfl, he9, hfull5, hJ4, hG⟩
 refine shW_env _ he9 ?_; clear he9
 replace h_s_ := h_s_.mono (iE_ok _) hF11
 refine wsr ?_
 refine ov (v_lssK rfl rfl) rfl ?_
 refine shO_nil (shW_seq ?_)
 refine shW_condP rfl (fun c13 => ?_) (fun c13 => ?_)
 · obtain ⟨x, tl2, rfl, hx15, g16, hk14⟩ := Lst.succ hk6 c13
   rw [slices_Values_int_int_1_l1] at r8
   refine shW_skip (shW_seq ?_)
   refine shW_block ?_
   refine wsr ?_
   obtain ⟨b17, o18, c19, vs20, ha21, hs22, hle23, rfl, hl24, hc25⟩ := RowR.at (iE_ok _) h_s_ (Lj3 ++ []) g16.1 hx15
   refine ov (v_indexO Try.underlying36 Try.sizeOf3 rfl ha21 rfl g16) rfl ?_
   refine ov (v_load Try.isAgg3 rfl hs22 (hc25 0 (by decide))) rfl ?_
   refine oa rfl rfl (nsr (om rfl rfl (om rfl rfl ?_)))
   obtain ⟨tl26, r28, hx27⟩ := yl_ok r8; clear r8
   refine o_callC (Lb := Lj3) (Lr := []) (vs := [.int .i64 x]) rfl rfl rfl fP (hy pre1 x tl26 (by rw [hfull5, hx27]) _ _ hG hJ4) ?_
   rintro v36 F29 Lj30 hF31 hz32; obtain ⟨yb33, rfl, hbt34, hbf35⟩ := yield_bool hz32
   replace h_s_ := h_s_.mono (iE_ok _) hF31
   replace hG := hG.trans hF31
   refine ov (v_notB rfl) rfl ?_
   refine shO_nil ?_
   refine shW_cond rfl (fun c37 => ?_) (fun c37 => ?_)
   · have hJ38 := hbf35 (by simpa using c37)
     refine shW_ret (inBlock_ret (andThen_ret (andThen_ret (inBlock_ret ?_))))
     refine q_end0s (.inl rfl) Try.results83 (sr) ?_
     exact .inr (by rw [List.append_nil]; exact hJ38)
   have hJ39 := hbt34 (by simpa using c37)
   have hfull40 : xs = (pre1 ++ [x]) ++ tl26 := by rw [hfull5, hx27]; simp
   refine shW_skip (inBlock_n (id := 1) (shW_region ?_))
   refine ov (v_add rfl rfl (Lst.r64 hk6 c13 (RowR.lt h_s_))) rfl ?_
   refine om rfl rfl (shO_nil ?_)
   subst hn7; exact le kr ⟨_, _, rfl, hk14, pre1 ++ [x], tl26, Lj30, r28, (hF11.trans hF31), rfl, (sc rfl (sc rfl (sc rfl (sc rfl (sn _))))), hfull40, hJ39, hG⟩
 obtain rfl := Lst.zero hk6 c13
 rw [slices_Values_int_int_1_l1] at r8
 refine shW_exit (andThen_exit (andThen_exit ?_))
 refine inBlock_exit ?_
 refine q_end0s (.inr rfl) Try.results83 (sr) ?_
 obtain rfl := inj1 r8
 exact .inl (by have e1 := hfull5; rw [List.append_nil] at e1; rw [List.append_nil, e1]; exact hJ4)
set_option maxHeartbeats 1000000 in
theorem slices_Values_int_int_w {s__a : Option Addr} {s__c : Nat} {s_ : List Int} {F : FS} (h_s_ : RowR 1 (iE .i64) F s__a s__c s_) {r : List Int} (hr : slices_Values_int_int s_ = some r) :
    SH.Spec Try.prog 50 #[.slice s__a s_.length s__c] F [] fun F' L' v => ∃ (rcp : Array Value), v = .func (.func 83) #[] rcp ∧ L' = [] ∧ IterOK Try.prog 83 #[] rcp F' (fun x : Int => #[.int .i64 x]) r := by
 refine spec_of_shW (args := [.slice s__a s_.length s__c]) Try.func50 rfl Try.ntmps50 (Nat.le_of_ble_eq_true rfl) ?_
 intro K _ _; rw [slices_Values_int_int] at hr
 refine wsr ?_
 refine o_box rfl rfl ?_; intro b1 hb1
 refine oa rfl rfl (nsr ?_)
 refine ov (v_makeFunc rfl rfl) rfl ?_
 refine oa rfl rfl (shO_nil ?_)
 refine shW_freeze 0 rfl hb1 ?_; intro F2 hF3 hz4
 refine shW_L (L' := []) rfl ?_
 replace h_s_ := h_s_.mono (iE_ok _) hF3
 obtain ⟨l, h5, r7⟩ := b1_ok hr; clear hr
 have hit6 : IterOK Try.prog 83 #[] #[.pointer (some ⟨b1, 0, none⟩)] F2 (fun x : Int => #[.int .i64 x]) l := slices_Values_int_int_1_w hz4 h_s_ h5
 refine shW_ret ?_
 refine q_res1 Try.results50 (res_tmp rfl) (sr) ?_
 obtain rfl := inj1 r7
 exact ⟨_, rfl, rfl, hit6⟩
set_option maxHeartbeats 1000000 in
theorem slices_Clone_int_int_w {s__a : Option Addr} {s__c : Nat} {s_ : List Int} {F : FS} (h_s_ : RowR 1 (iE .i64) F s__a s__c s_) {r : List Int} (hr : slices_Clone_int_int s_ = some r) :
    SH.Spec Try.prog 52 #[.slice s__a s_.length s__c] F [] fun F' L' v => ∃ (ra : Option Addr) (rn : Nat) (rc : Nat) (rL : LH), v = .slice ra rn rc ∧ L' = rL ++ [] ∧ SlR 0 3 1 (iE .i64) F' ra rn rc r rL := by
 refine spec_of_shW (args := [.slice s__a s_.length s__c]) Try.func52 rfl Try.ntmps52 (Nat.le_of_ble_eq_true rfl) ?_
 intro K _ _; rw [slices_Clone_int_int] at hr
 refine wsr (oa rfl rfl (shO_nil (shW_seq (wsr (om rfl rfl ?_)))))
 refine ov (v_eqlNil Try.underlying36 rfl) rfl ?_
 refine shO_nil ?_
 refine shW_cond rfl (fun c1 => ?_) (fun c1 => ?_)
 · have r2 := nilIf_t hr (RowR.isNone h_s_ c1); clear hr
   refine wsr (oa rfl rfl (shO_nil (shW_ret (andThen_ret ?_))))
   refine q_res1 Try.results52 (res_tmp rfl) (sr) ?_
   obtain rfl := inj1 r2
   exact ⟨_, _, _, [], rfl, rfl, SlR.nil _ _ _ _ _⟩
 have r3 := nilIf_f hr; clear hr
 refine shW_skip (wsr ?_)
 refine o_buildSlice (cs := #[]) rfl rfl (buildSlice_none slt_36) ?_; intro b4 hb4
 refine om rfl rfl ?_
 have hz6 : SlR K.w0.heap.size 3 1 (iE .i64) F (some ⟨b4, 0, none⟩) 0 0 ([] : List Int) [(b4, .cells #[] 3 (0, 0))] := SlR.of_block (vss := []) (iE_ok _) hb4 .nil rfl rfl (by simp [maxLen])
 generalize hLLb5 : ([(b4, .cells #[] 3 (0, 0))] : LH) = Lb5 at hz6
 refine shO_perm (L' := Lb5 ++ []) (by rw [← hLLb5]; exact fO) ?_
 obtain ⟨l, h8, g9, r10⟩ := ap_ok r3; clear r3
 refine o_appZ (xs := ([] : List Int)) (ys := s_) (zs := l) rfl slt_36 rfl rfl (Nat.le_refl _) (fun _ => .h) hz6 (RowR.src h_s_) h8 g9 (by decide) ?_; intro a11 n15 c12 Lb13 hz14
 refine oa rfl rfl (shO_nil (shW_ret ?_))
 refine q_res1 Try.results52 (res_tmp rfl) (sr) ?_
 obtain rfl := inj1 r10
 exact ⟨_, _, _, _, rfl, rfl, hz14.any⟩
set_option maxHeartbeats 1000000 in
theorem slices_IndexFunc_int_int_w {s__a : Option Addr} {s__c : Nat} {s_ : List Int} {f_f : FuncId} {f_1 : Array Value} {f_2 : Array Value} {f : Int → Option Bool} {F : FS} (h_s_ : RowR 1 (iE .i64) F s__a s__c s_) (h_f : FnR Try.prog F f_f f_1 f_2 (iE .i64) Value.bool f) {r : Int} (hr : slices_IndexFunc_int_int s_ f = some r) :
    SpecV Try.prog 63 #[.slice s__a s_.length s__c, .func (.func f_f) f_1 f_2] F (.int .i64 r) := by
 refine spec_of_shW (args := [.slice s__a s_.length s__c, .func (.func f_f) f_1 f_2]) Try.func63 rfl Try.ntmps63 (Nat.le_of_ble_eq_true rfl) ?_
 intro K _ _; rw [slices_IndexFunc_int_int] at hr
 refine wsr (oa rfl rfl (shO_nil ?_))
 refine shW_join (fun e1 F1 L1 => slices_IndexFunc_int_int_j1 = some r ∧ F = F1 ∧ L1 = [] ∧ e1.sub []) ?_ ?_
 · refine wsr (om rfl rfl ?_)
   refine ov (v_lenS Try.underlying36 rfl) rfl ?_
   refine om rfl rfl (shO_nil ?_)
   refine shW_block ?_
   refine shW_lp (fun fu2 e1 F1 L1 => ∃ (tl : List Int) (k : Int), tl.length = fu2 ∧ Lst s_ k tl ∧ slices_IndexFunc_int_int_l2 f tl k = some r ∧ F = F1 ∧ L1 = [] ∧ e1.sub [(0, .slice s__a s_.length s__c), (1, .func (.func f_f) f_1 f_2), (7, .int .i64 (s_.length : Int)), (8, .int .i64 k)]) _ (m0 kr ⟨_, _, rfl, Lst.start _, hr, rfl, rfl, (sc rfl (sc rfl (sc rfl (sc rfl (sn _)))))⟩) ?_
   rintro fu2 e1 _ _ ⟨tl, k, hn2, hk1, r3, rfl, rfl, he4⟩
   refine shW_env _ he4 ?_; clear he4
   refine wsr ?_
   refine ov (v_lssK rfl rfl) rfl ?_
   refine shO_nil (shW_seq ?_)
   refine shW_condP rfl (fun c6 => ?_) (fun c6 => ?_)
   · obtain ⟨x, tl2, rfl, hx8, g9, hk7⟩ := Lst.succ hk1 c6
     rw [slices_IndexFunc_int_int_l2] at r3
     refine shW_skip (shW_seq ?_)
     refine shW_block ?_
     refine wsr (om rfl rfl (oa rfl rfl (nsr (om rfl rfl (om rfl rfl (om rfl rfl ?_))))))
     obtain ⟨b10, o11, c12, vs13, ha14, hs15, hle16, rfl, hl17, hc18⟩ := RowR.at (iE_ok _) h_s_ ([]) g9.1 hx8
     refine ov (v_indexO Try.underlying36 Try.sizeOf3 rfl ha14 rfl g9) rfl ?_
     refine ov (v_load Try.isAgg3 rfl hs15 (hc18 0 (by decide))) rfl ?_
     obtain ⟨ok, h19, r20⟩ := b1_ok r3; clear r3
     refine o_callV rfl h_f.1 rfl rfl rfl (h_f.2 _ (FExt.refl _) _ _ _ rfl h19) ?_
     refine shO_nil ?_
     refine shW_cond rfl (fun c21 => ?_) (fun c21 => ?_)
     · have r22 := bt r20 c21; clear r20
       refine wsr (om rfl rfl (oa rfl rfl (shO_nil (shW_ret (inBlock_ret (andThen_ret (andThen_ret (inBlock_ret (andThen_ret ?_)))))))))
       refine q_res1 Try.results63 (res_tmp rfl) (sr) ?_
       obtain rfl := inj1 r22
       exact rfl
     have r23 := bf r20 c21; clear r20
     refine shW_skip (inBlock_n (id := 1) (shW_region ?_))
     refine ov (v_add rfl rfl (Lst.r64 hk1 c6 (RowR.lt h_s_))) rfl ?_
     refine om rfl rfl (shO_nil ?_)
     subst hn2; exact le kr ⟨_, _, rfl, hk7, r23, rfl, rfl, (sc rfl (sc rfl (sc rfl (sc rfl (sn _)))))⟩
   obtain rfl := Lst.zero hk1 c6
   rw [slices_IndexFunc_int_int_l2] at r3
   refine shW_exit (andThen_exit (andThen_exit ?_))
   refine inBlock_exit ?_
   exact mi kr ⟨r3, rfl, rfl, (sn _)⟩
 rintro e1 _ _ ⟨r24, rfl, rfl, he25⟩
 refine shW_env _ he25 ?_; clear he25
 rw [slices_IndexFunc_int_int_j1] at r24
 refine wsr (oa rfl rfl (shO_nil (shW_ret ?_)))
 refine q_res1 Try.results63 (res_tmp rfl) (sr) ?_
 obtain rfl := inj1 r24
 exact rfl
set_option maxHeartbeats 1000000 in
theorem slices_ContainsFunc_int_int_w {s__a : Option Addr} {s__c : Nat} {s_ : List Int} {f_f : FuncId} {f_1 : Array Value} {f_2 : Array Value} {f : Int → Option Bool} {F : FS} (h_s_ : RowR 1 (iE .i64) F s__a s__c s_) (h_f : FnR Try.prog F f_f f_1 f_2 (iE .i64) Value.bool f) {r : Bool} (hr : slices_ContainsFunc_int_int s_ f = some r) :
    SpecV Try.prog 20 #[.slice s__a s_.length s__c, .func (.func f_f) f_1 f_2] F (.bool r) := by
 refine spec_of_shW (args := [.slice s__a s_.length s__c, .func (.func f_f) f_1 f_2]) Try.func20 rfl Try.ntmps20 (Nat.le_of_ble_eq_true rfl) ?_
 intro K _ _; rw [slices_ContainsFunc_int_int] at hr
 refine wsr (oa rfl rfl (nsr (om rfl rfl (om rfl rfl ?_))))
 obtain ⟨n, h1, r2⟩ := b1_ok hr; clear hr
 refine o_callV rfl Try.call63 rfl rfl rfl (slices_IndexFunc_int_int_w h_s_ h_f h1) ?_
 refine ov (v_geqK rfl rfl) rfl ?_
 refine oa rfl rfl (shO_nil (shW_ret ?_))
 refine q_res1 Try.results20 (res_tmp rfl) (sr) ?_
 obtain rfl := inj1 r2
 exact rfl
set_option maxHeartbeats 1000000 in
theorem hear_every_int_1_w {x : Int} {b_so : Nat} {so_f : FuncId} {so_1 : Array Value} {so_2 : Array Value} {so : Int → Option Bool} {mb_so : Nat × Nat} {F : FS} (hb_so : F b_so = some (.cells #[.func (.func so_f) so_1 so_2] 49 mb_so)) (h_so : FnR Try.prog F so_f so_1 so_2 (iE .i64) Value.bool so) {r : Bool} (hr : hear_every_int_1 x so = some r) :
    SpecV Try.prog 84 #[.int .i64 x, .pointer (some ⟨b_so, 0, none⟩)] F (.bool r) := by
 refine spec_of_shW (args := [.int .i64 x, .pointer (some ⟨b_so, 0, none⟩)]) Try.func84 rfl Try.ntmps84 (Nat.le_of_ble_eq_true rfl) ?_
 intro K _ _; rw [hear_every_int_1] at hr
 refine wsr (oa rfl rfl (nsr ?_))
 refine ov (v_load Try.isAgg49 rfl (Has.frozen hb_so) rfl) rfl ?_
 refine om rfl rfl ?_
 obtain ⟨ok, h1, r2⟩ := b1_ok hr; clear hr
 refine o_callV rfl h_so.1 rfl rfl rfl (h_so.2 _ (FExt.refl _) _ _ _ rfl h1) ?_
 refine ov (v_notB rfl) rfl ?_
 refine oa rfl rfl (shO_nil (shW_ret ?_))
 refine q_res1 Try.results84 (res_tmp rfl) (sr) ?_
 obtain rfl := inj1 r2
 exact rfl
set_option maxHeartbeats 1000000 in
theorem hear_every_int_w {l_a : Option Addr} {l_c : Nat} {l : List Int} {so_f : FuncId} {so_1 : Array Value} {so_2 : Array Value} {so : Int → Option Bool} {F : FS} (h_l : RowR 1 (iE .i64) F l_a l_c l) (h_so : FnR Try.prog F so_f so_1 so_2 (iE .i64) Value.bool so) {r : Bool} (hr : hear_every_int l so = some r) :
    SpecV Try.prog 53 #[.slice l_a l.length l_c, .func (.func so_f) so_1 so_2] F (.bool r) := by
 refine spec_of_shW (args := [.slice l_a l.length l_c, .func (.func so_f) so_1 so_2]) Try.func53 rfl Try.ntmps53 (Nat.le_of_ble_eq_true rfl) ?_
 intro K _ _; rw [hear_every_int] at hr
 refine wsr ?_
 refine o_box rfl rfl ?_; intro b1 hb1
 refine oa rfl rfl (nsr (om rfl rfl ?_))
 refine ov (v_makeFunc rfl rfl) rfl ?_
 refine shO_freeze 0 rfl hb1 ?_; intro F2 hF3 hz4
 refine shO_L (L' := []) rfl ?_
 replace h_l := h_l.mono (iE_ok _) hF3
 replace h_so := h_so.mono hF3
 have hn5 : FnR Try.prog F2 84 #[] #[.pointer (some ⟨b1, 0, none⟩)] (iE .i64) Value.bool (fun xx_ : Int => hear_every_int_1 xx_ so) := ⟨Try.call84, fun F2 h2 vs xx_ r ha hr => by obtain rfl := ha; exact hear_every_int_1_w (h2 _ _ hz4) (h_so.mono h2) hr⟩
 obtain ⟨ok, h6, r7⟩ := b1_ok hr; clear hr
 refine o_callV rfl Try.call20 rfl rfl rfl (slices_ContainsFunc_int_int_w h_l hn5 h6) ?_
 refine ov (v_notB rfl) rfl ?_
 refine oa rfl rfl (shO_nil (shW_ret ?_))
 refine q_res1 Try.results53 (res_tmp rfl) (sr) ?_
 obtain rfl := inj1 r7
 exact rfl
set_option maxHeartbeats 1000000 in
theorem hear_ears_common_w {x : List Bool} {y : List Bool} {F : FS} (h_x : x.length = 30) (h_y : y.length = 30) {r : Bool} (hr : hear_ears_common x y = some r) :
    SpecV Try.prog 55 #[.agg (arr cB x), .agg (arr cB y)] F (.bool r) := by
 refine spec_of_shW (args := [.agg (arr cB x), .agg (arr cB y)]) Try.func55 rfl Try.ntmps55 (Nat.le_of_ble_eq_true rfl) ?_
 intro K _ _; rw [hear_ears_common] at hr
 refine wsr ?_
 refine o_box rfl rfl ?_; intro b1 hb1
 refine o_box rfl rfl ?_; intro b2 hb2
 refine oa rfl rfl (shO_nil ?_)
 refine shW_join (fun e1 F1 L1 => hear_ears_common_j1 = some r ∧ F = F1 ∧ L1 = [] ∧ e1.sub []) ?_ ?_
 · refine wsr (om rfl rfl (shO_nil ?_))
   refine shW_block ?_
   obtain ⟨g3, r4⟩ := gd_ok hr; clear hr
   refine shW_lp (fun fu2 e1 F1 L1 => ∃ (k : Int), Ctr 0 30 k fu2 ∧ hear_ears_common_l2 x y fu2 k = some r ∧ F = F1 ∧ L1 = [(b2, .cells (arr cB y) 82 (0, 0)), (b1, .cells (arr cB x) 82 (0, 0))] ∧ e1.sub [(2, .pointer (some ⟨b1, 0, none⟩)), (3, .pointer (some ⟨b2, 0, none⟩)), (6, .int .i64 k)]) _ (m0 kr ⟨_, Ctr.start _ _, r4, rfl, rfl, (sc rfl (sc rfl (sc rfl (sn _))))⟩) ?_
   rintro fu2 e1 _ _ ⟨k, hk5, r7, rfl, rfl, he8⟩
   refine shW_env _ he8 ?_; clear he8
   refine wsr ?_
   refine ov (v_lssK rfl rfl) rfl ?_
   refine shO_nil (shW_seq ?_)
   refine shW_condP rfl (fun c10 => ?_) (fun c10 => ?_)
   · obtain ⟨fu2, rfl, hk11⟩ := Ctr.succ hk5 c10
     rw [hear_ears_common_l2] at r7
     refine shW_skip (shW_seq ?_)
     refine shW_block ?_
     refine wsr (om rfl rfl (oa rfl rfl (shO_nil ?_)))
     obtain ⟨k2, h12, r13⟩ := b1_ok r7; clear r7
     refine shW_join (fun e1 F1 L1 => F = F1 ∧ L1 = [(b2, .cells (arr cB y) 82 (0, 0)), (b1, .cells (arr cB x) 82 (0, 0))] ∧ e1.sub [(2, .pointer (some ⟨b1, 0, none⟩)), (3, .pointer (some ⟨b2, 0, none⟩)), (6, .int .i64 k), (16, .bool k2)]) ?_ ?_
     · clear r13
       refine shW_region (om rfl rfl ?_)
       obtain ⟨x2, g14, hx15, r16⟩ := ix_ok h12; clear h12
       have hc17 := arr_at cB_ok h_x hx15
       refine ov (v_indexA Try.underlying82 Try.sizeOf4 rfl rfl (arr_lt h_x g14)) rfl ?_
       refine ov (v_load Try.isAgg4 rfl (Has.own 1 rfl) ((hc17).2.2 0 (by decide))) rfl ?_
       refine om rfl rfl ?_
       rcases bool_two x2 with c18 | c18
       · have r19 := bt r16 c18; clear r16
         refine shO_on (b := true) 12 rfl (EnvB rfl c18) (om rfl rfl (shO_on (b := true) 12 rfl (EnvB rfl c18) ?_))
         obtain ⟨x3, g20, hx21, r22⟩ := ix_ok r19; clear r19
         have hc23 := arr_at cB_ok h_y hx21
         refine ov (v_indexA Try.underlying82 Try.sizeOf4 rfl rfl (arr_lt h_y g20)) rfl ?_
         refine shO_on (b := true) 12 rfl (EnvB rfl c18) ?_
         refine ov (v_load Try.isAgg4 rfl (Has.own 0 rfl) ((hc23).2.2 0 (by decide))) rfl ?_
         refine ov (v_pick_t (evB rfl c18) rfl) rfl ?_
         refine shO_nil ?_
         obtain rfl := inj1 r22
         exact mi kr ⟨rfl, rfl, (sc rfl (sc rfl (sc rfl (sc rfl (sn _)))))⟩
       have r24 := bf r16 c18; clear r16
       refine shO_off (b' := false) 12 rfl (EnvB rfl c18) rfl rfl (shO_off (b' := false) 12 rfl (EnvB rfl c18) rfl rfl (shO_off (b' := false) 12 rfl (EnvB rfl c18) rfl rfl ?_))
       refine ov (v_pick_f (evB rfl c18) rfl) rfl ?_
       refine shO_nil ?_
       obtain rfl := inj1 r24
       exact mi kr ⟨rfl, rfl, (sc rfl (sc rfl (sc rfl (sc rfl (sn _)))))⟩
     rintro e1 _ _ ⟨rfl, rfl, he25⟩
     refine shW_env _ he25 ?_; clear he25
     refine shW_cond rfl (fun c26 => ?_) (fun c26 => ?_)
     · have r27 := bt r13 c26; clear r13
       refine wsr (oa rfl rfl (shO_nil ?_))
       refine kW kn ?_
       refine shW_ret (inBlock_ret (andThen_ret (andThen_ret (inBlock_ret (andThen_ret ?_)))))
       refine q_res1 Try.results55 (res_tmp rfl) (sr) ?_
       obtain rfl := inj1 r27
       exact rfl
     have r28 := bf r13 c26; clear r13
     refine shW_skip (inBlock_n (id := 1) (shW_region ?_))
     refine ov (v_add rfl rfl (Ctr.r64 hk5 c10 g3)) rfl ?_
     refine om rfl rfl (shO_nil ?_)
     exact le kr ⟨_, hk11, r28, rfl, rfl, (sc rfl (sc rfl (sc rfl (sn _))))⟩
   obtain rfl := Ctr.zero hk5 c10
   rw [hear_ears_common_l2] at r7
   refine shW_exit (andThen_exit (andThen_exit ?_))
   refine inBlock_exit ?_
   exact mi kn ⟨r7, rfl, rfl, (sn _)⟩
 rintro e1 _ _ ⟨r29, rfl, rfl, he30⟩
 refine shW_env _ he30 ?_; clear he30
 rw [hear_ears_common_j1] at r29
 refine wsr (oa rfl rfl (shO_nil (shW_ret ?_)))
 refine q_res1 Try.results55 (res_tmp rfl) (sr) ?_
 obtain rfl := inj1 r29
 exact rfl
set_option maxHeartbeats 1000000 in
theorem hear_Apart_1_1_w {k : Int} {b_x : Nat} {ears_a : Option Addr} {ears_c : Nat} {ears : List (List Bool)} {count_f : FuncId} {count_1 : Array Value} {count_2 : Array Value} {count : Int → Option Int} {mb_x : Nat × Nat} {b_i : Nat} {i : Int} {mb_i : Nat × Nat} {F : FS} (hb_x : F b_x = some (.cells #[.slice ears_a ears.length ears_c, .func (.func count_f) count_1 count_2] 77 mb_x)) (h_ears : RowR 30 (arE 30 cB) F ears_a ears_c ears) (_h_count : FnR Try.prog F count_f count_1 count_2 (iE .i64) (Value.int .i64) count) (hb_i : F b_i = some (.cells #[.int .i64 i] 3 mb_i)) {r : Bool} (hr : hear_Apart_1_1 k ears count i = some r) :
    SpecV Try.prog 54 #[.int .i64 k, .pointer (some ⟨b_x, 0, none⟩), .pointer (some ⟨b_i, 0, none⟩)] F (.bool r) := by
 refine spec_of_shW (args := [.int .i64 k, .pointer (some ⟨b_x, 0, none⟩), .pointer (some ⟨b_i, 0, none⟩)]) Try.func54 rfl Try.ntmps54 (Nat.le_of_ble_eq_true rfl) ?_
 intro K _ _; rw [hear_Apart_1_1] at hr
 refine wsr (oa rfl rfl ?_)
 refine nsd (by kernel_rfl) (by kernel_rfl) (by kernel_rfl) ?_
 refine qv (v_fieldAddr fa_77_0 rfl) rfl ?_
 refine qv (v_load Try.isAgg75 rfl (Has.frozen hb_x) rfl) rfl ?_
 refine qm rfl rfl ?_
 obtain ⟨x, g1, hx2, r3⟩ := ix_ok hr; clear hr
 obtain ⟨b4, o5, c6, vs7, ha8, hs9, hle10, ⟨rfl, h13⟩, hl11, hc12⟩ := RowR.at (arE_ok (n := 30) (sz := 1) cB_ok) h_ears ([]) g1.1 hx2
 refine qv (v_indexO Try.underlying75 Try.sizeOf82 rfl ha8 rfl g1) rfl ?_
 refine qv (v_loadA (cs := arr cB x) Try.isAgg82 Try.sizeOf82 rfl hs9 hle10 (extract_cells hle10 hl11 hc12)) rfl ?_
 refine qv (v_fieldAddr fa_77_0 rfl) rfl ?_
 refine qv (v_load Try.isAgg75 rfl (Has.frozen hb_x) rfl) rfl ?_
 refine qv (v_load Try.isAgg3 rfl (Has.frozen hb_i) rfl) rfl ?_
 obtain ⟨x2, g14, hx15, r16⟩ := ix_ok r3; clear r3
 obtain ⟨b17, o18, c19, vs20, ha21, hs22, hle23, ⟨rfl, h26⟩, hl24, hc25⟩ := RowR.at (arE_ok (n := 30) (sz := 1) cB_ok) h_ears ([]) g14.1 hx15
 refine qv (v_indexO Try.underlying75 Try.sizeOf82 rfl ha21 rfl g14) rfl ?_
 refine qv (v_loadA (cs := arr cB x2) Try.isAgg82 Try.sizeOf82 rfl hs22 hle23 (extract_cells hle23 hl24 hc25)) rfl ?_
 obtain ⟨ok, h27, r28⟩ := b1_ok r16; clear r16
 refine shQ_callV rfl Try.call55 rfl rfl rfl (hear_ears_common_w h13 h26 h27) ?_
 refine qv (v_notB rfl) rfl ?_
 refine qa rfl rfl (shQ_nil (shW_ret ?_))
 refine q_res1 Try.results54 (res_tmp rfl) (sr) ?_
 obtain rfl := inj1 r28
 exact rfl
set_option maxHeartbeats 1000000 in
theorem hear_Apart_1B_w {rec_ : (List Int) → Int → (List Int) → (List Int) → (List (List Bool)) → (Int → Option Int) → Option ((List Int))} (hrec : ∀ {l_a : Option Addr} {l_c : Nat} {l : List Int} {from_ : Int} {b_out : Nat} {out_a : Option Addr} {out_n : Nat} {out_c : Nat} {out_L : LH} {out : List Int} {b_own : Nat} {own_a : Option Addr} {own_c : Nat} {own : List Int} {mb_own : Nat × Nat} {b_q : Nat} {ears_a : Option Addr} {ears_c : Nat} {ears : List (List Bool)} {count_f : FuncId} {count_1 : Array Value} {count_2 : Array Value} {count : Int → Option Int} {mb_q : Nat × Nat} {b_more : Nat} {mb_more : Nat × Nat} {F : FS} (_ : RowR 1 (iE .i64) F l_a l_c l) (_ : SlR 0 3 1 (iE .i64) F out_a out_n out_c out out_L) (_ : F b_own = some (.cells #[.slice own_a own.length own_c] 36 mb_own)) (_ : RowR 1 (iE .i64) F own_a own_c own) (_ : F b_q = some (.cells #[.slice ears_a ears.length ears_c, .func (.func count_f) count_1 count_2] 77 mb_q)) (_ : RowR 30 (arE 30 cB) F ears_a ears_c ears) (_ : FnR Try.prog F count_f count_1 count_2 (iE .i64) (Value.int .i64) count) (_ : F b_more = some (.cells (#[.func (.func 51) #[] #[.pointer (some ⟨b_out, 0, none⟩), .pointer (some ⟨b_own, 0, none⟩), .pointer (some ⟨b_q, 0, none⟩), .pointer (some ⟨b_more, 0, none⟩)]]) 89 mb_more)) {r : List Int} , rec_ l from_ out own ears count = some r → SH.Spec Try.prog 51 #[.slice l_a l.length l_c, .int .i64 from_, .pointer (some ⟨b_out, 0, none⟩), .pointer (some ⟨b_own, 0, none⟩), .pointer (some ⟨b_q, 0, none⟩), .pointer (some ⟨b_more, 0, none⟩)] F ((b_out, .cells #[.slice out_a out_n out_c] 36 (0, 0)) :: (out_L ++ [])) fun F' L' v => ∃ (ra : Option Addr) (rn : Nat) (rc : Nat) (rL : LH), v = .tuple #[] ∧ L' = (b_out, .cells #[.slice ra rn rc] 36 (0, 0)) :: (rL ++ []) ∧ SlR 0 3 1 (iE .i64) F' ra rn rc r rL) {l_a : Option Addr} {l_c : Nat} {l : List Int} {from_ : Int} {b_out : Nat} {out_a : Option Addr} {out_n : Nat} {out_c : Nat} {out_L : LH} {out : List Int} {b_own : Nat} {own_a : Option Addr} {own_c : Nat} {own : List Int} {mb_own : Nat × Nat} {b_q : Nat} {ears_a : Option Addr} {ears_c : Nat} {ears : List (List Bool)} {count_f : FuncId} {count_1 : Array Value} {count_2 : Array Value} {count : Int → Option Int} {mb_q : Nat × Nat} {b_more : Nat} {mb_more : Nat × Nat} {F : FS} (h_l : RowR 1 (iE .i64) F l_a l_c l) (h_out : SlR 0 3 1 (iE .i64) F out_a out_n out_c out out_L) (hb_own : F b_own = some (.cells #[.slice own_a own.length own_c] 36 mb_own)) (h_own : RowR 1 (iE .i64) F own_a own_c own) (hb_q : F b_q = some (.cells #[.slice ears_a ears.length ears_c, .func (.func count_f) count_1 count_2] 77 mb_q)) (h_ears : RowR 30 (arE 30 cB) F ears_a ears_c ears) (h_count : FnR Try.prog F count_f count_1 count_2 (iE .i64) (Value.int .i64) count) (hb_more : F b_more = some (.cells (#[.func (.func 51) #[] #[.pointer (some ⟨b_out, 0, none⟩), .pointer (some ⟨b_own, 0, none⟩), .pointer (some ⟨b_q, 0, none⟩), .pointer (some ⟨b_more, 0, none⟩)]]) 89 mb_more)) {r : List Int} (hr : hear_Apart_1B rec_ l from_ out own ears count = some r) :
    SH.Spec Try.prog 51 #[.slice l_a l.length l_c, .int .i64 from_, .pointer (some ⟨b_out, 0, none⟩), .pointer (some ⟨b_own, 0, none⟩), .pointer (some ⟨b_q, 0, none⟩), .pointer (some ⟨b_more, 0, none⟩)] F ((b_out, .cells #[.slice out_a out_n out_c] 36 (0, 0)) :: (out_L ++ [])) fun F' L' v => ∃ (ra : Option Addr) (rn : Nat) (rc : Nat) (rL : LH), v = .tuple #[] ∧ L' = (b_out, .cells #[.slice ra rn rc] 36 (0, 0)) :: (rL ++ []) ∧ SlR 0 3 1 (iE .i64) F' ra rn rc r rL := by
 refine spec_of_shW (args := [.slice l_a l.length l_c, .int .i64 from_, .pointer (some ⟨b_out, 0, none⟩), .pointer (some ⟨b_own, 0, none⟩), .pointer (some ⟨b_q, 0, none⟩), .pointer (some ⟨b_more, 0, none⟩)]) Try.func51 rfl Try.ntmps51 (Nat.le_of_ble_eq_true rfl) ?_
 intro K _ _; rw [hear_Apart_1B] at hr
 refine shW_L (L' := (b_out, .cells #[.slice out_a out_n out_c] 36 (0, 0)) :: (out_L ++ [])) (by simp) ?_
 obtain ⟨out2, h7, r8⟩ := b1_ok hr; clear hr
 refine shW_join (fun e1 F1 L1 => ∃ (a1 : Option Addr) (n5 : Nat) (c2 : Nat) (Lb3 : LH), FExt F F1 ∧ L1 = ((b_out, .cells #[.slice a1 n5 c2] 36 (0, 0)) :: (Lb3 ++ [])) ∧ e1.sub [(0, .slice l_a l.length l_c), (1, .int .i64 from_), (3, .pointer (some ⟨b_own, 0, none⟩)), (4, .pointer (some ⟨b_q, 0, none⟩)), (5, .pointer (some ⟨b_more, 0, none⟩))] ∧ SlR 0 3 1 (iE .i64) F1 a1 n5 c2 out2 Lb3) ?_ ?_
 · clear r8
   refine wsr (om rfl rfl ?_)
   refine ov (v_lenS Try.underlying36 rfl) rfl ?_
   refine ov (v_load Try.isAgg36 rfl (Has.own 0 rfl) rfl) rfl ?_
   refine ov ((v_lenS Try.underlying36 rfl).i (SlR.lenI h_out)) rfl ?_
   refine ov (v_gtrK rfl rfl) rfl ?_
   refine shO_nil ?_
   refine shW_condP rfl (fun c9 => ?_) (fun c9 => ?_)
   · have r10 := ite_t h7 c9; clear h7
     refine shW_region (om rfl rfl ?_)
     obtain ⟨l2, h11, r12⟩ := b1_ok r10; clear r10
     refine o_call0 rfl Try.call52 rfl rfl rfl (slices_Clone_int_int_w h_l h11) ?_; rintro _ F13 _ hF14 hn15 ⟨a17, n21, c18, Lb19, rfl, rfl, hz20⟩
     replace hz20 := hz20.new fun p hp => hn15 p (by simp [hp])
     refine shO_L (lp (ln rfl)) ?_
     refine kO (kf (fS fO) kr) ?_
     refine o_store (i := 0) Try.sizeOf36 rfl rfl rfl rfl (Nat.le_of_ble_eq_true rfl) ?_
     refine shO_L (L' := (b_out, .cells #[.slice a17 n21 c18] 36 (0, 0)) :: (Lb19 ++ (out_L ++ []))) rfl ?_
     refine shO_nil ?_
     obtain rfl := inj1 r12
     exact mi (kc (ka kn)) ⟨a17, n21, c18, Lb19, hF14, rfl, (sc rfl (sc rfl (sc rfl (sc rfl (sc rfl (sn _)))))), hz20.any⟩
   have r23 := ite_f h7 c9; clear h7
   refine shW_skip ?_
   obtain rfl := inj1 r23
   exact mi kr ⟨out_a, out_n, out_c, out_L, FExt.refl _, rfl, (sc rfl (sc rfl (sc rfl (sc rfl (sc rfl (sn _)))))), h_out⟩
 rintro e1 F25 _ ⟨a1, n5, c2, Lb3, hF26, rfl, he24, hz4⟩
 refine shW_env _ he24 ?_; clear he24
 replace h_l := h_l.mono (iE_ok _) hF26
 replace h_own := h_own.mono (iE_ok _) hF26
 replace h_ears := h_ears.mono (arE_ok (n := 30) (sz := 1) cB_ok) hF26
 replace h_count := h_count.mono hF26
 replace hb_own := hF26 _ _ hb_own
 replace hb_q := hF26 _ _ hb_q
 replace hb_more := hF26 _ _ hb_more
 refine wsr (om rfl rfl ?_)
 refine o_alloc rfl Try.zeroValue3 ?_; intro b27 hb27
 refine o_store (i := 0) Try.sizeOf3 rfl rfl rfl rfl (Nat.le_of_ble_eq_true rfl) ?_
 refine shO_L (L' := (b27, .cells #[.int .i64 from_] 3 (0, 0)) :: ((b_out, .cells #[.slice a1 n5 c2] 36 (0, 0)) :: (Lb3 ++ []))) rfl ?_
 refine shO_nil ?_
 refine shW_block ?_
 refine shW_lp (fun fu1 e1 F1 L1 => ∃ (out3 : List Int) (i : Int) (a28 : Option Addr) (n32 : Nat) (c29 : Nat) (Lb30 : LH) (b34 : Nat), hear_Apart_1B_l1 l own ears count rec_ fu1 out3 i = some r ∧ FExt F25 F1 ∧ L1 = ((b34, .cells #[.int .i64 i] 3 (0, 0)) :: ((b_out, .cells #[.slice a28 n32 c29] 36 (0, 0)) :: (Lb30 ++ []))) ∧ e1.sub [(0, .slice l_a l.length l_c), (3, .pointer (some ⟨b_own, 0, none⟩)), (4, .pointer (some ⟨b_q, 0, none⟩)), (5, .pointer (some ⟨b_more, 0, none⟩)), (8, .pointer (some ⟨b34, 0, none⟩))] ∧ SlR 0 3 1 (iE .i64) F1 a28 n32 c29 out3 Lb30 ∧ K.w0.heap.size ≤ b34) FU (m0 kr ⟨out2, from_, a1, n5, c2, Lb3, b27, r8, FExt.refl _, rfl, (sc rfl (sc rfl (sc rfl (sc rfl (sc rfl (sn _)))))), hz4, hb27⟩) ?_
 rintro fu1 e1 F40 _ ⟨out3, i, a28, n32, c29, Lb30, b34, r38, hF41, rfl, he39, hz31, hb35⟩
 refine shW_env _ he39 ?_; clear he39
 replace h_l := h_l.mono (iE_ok _) hF41
 replace h_own := h_own.mono (iE_ok _) hF41
 replace h_ears := h_ears.mono (arE_ok (n := 30) (sz := 1) cB_ok) hF41
 replace h_count := h_count.mono hF41
 replace hb_own := hF41 _ _ hb_own
 replace hb_q := hF41 _ _ hb_q
 replace hb_more := hF41 _ _ hb_more
 rcases fu1 with _ | fu1
 · rw [hear_Apart_1B_l1] at r38; cases r38
 rw [hear_Apart_1B_l1] at r38
 refine shW_seq (wsr ?_)
 refine ov (v_load Try.isAgg3 rfl (Has.own 0 rfl) rfl) rfl ?_
 refine ov (v_load Try.isAgg36 rfl (Has.frozen hb_own) rfl) rfl ?_
 refine ov (v_lenS Try.underlying36 rfl) rfl ?_
 refine ov (v_lssK rfl rfl) rfl ?_
 refine shO_nil ?_
 refine shW_condP rfl (fun c42 => ?_) (fun c42 => ?_)
 · have r43 := ite_t r38 c42; clear r38
   refine shW_skip ?_
   obtain ⟨out4, h50, r51⟩ := b1_ok r43; clear r43
   refine shW_join (fun e1 F1 L1 => ∃ (a44 : Option Addr) (n48 : Nat) (c45 : Nat) (Lb46 : LH), FExt F40 F1 ∧ L1 = ((b_out, .cells #[.slice a44 n48 c45] 36 (0, 0)) :: ((b34, .cells #[.int .i64 i] 3 (0, 0)) :: (Lb46 ++ []))) ∧ e1.sub [(0, .slice l_a l.length l_c), (3, .pointer (some ⟨b_own, 0, none⟩)), (4, .pointer (some ⟨b_q, 0, none⟩)), (5, .pointer (some ⟨b_more, 0, none⟩)), (8, .pointer (some ⟨b34, 0, none⟩))] ∧ SlR 0 3 1 (iE .i64) F1 a44 n48 c45 out4 Lb46) ?_ ?_
   · clear r51
     refine shW_block ?_
     refine wsr (om rfl rfl ?_)
     refine ov (v_makeFunc rfl rfl) rfl ?_
     obtain ⟨ok, h52, r53⟩ := b1_ok h50; clear h50
     refine o_callT (Lt := [(b34, .cells #[.int .i64 i] 3 (0, 0))]) (Lr := (b_out, .cells #[.slice a28 n32 c29] 36 (0, 0)) :: (Lb30 ++ [])) rfl Try.call53 rfl rfl rfl (pR) (fun F2 h2 h3 => by exact hear_every_int_w (h_l.mono (iE_ok _) h2) (show FnR Try.prog F2 54 #[] #[.pointer (some ⟨b_q, 0, none⟩), .pointer (some ⟨b34, 0, none⟩)] (iE .i64) Value.bool (fun xx_ : Int => hear_Apart_1_1 xx_ ears count i) from ⟨Try.call54, fun F3 h4 vs xx_ r ha hr => by obtain rfl := ha; exact hear_Apart_1_1_w ((h2.trans h4) _ _ hb_q) (h_ears.mono (arE_ok (n := 30) (sz := 1) cB_ok) (h2.trans h4)) (h_count.mono (h2.trans h4)) (h4 _ _ (h3 (b34, .cells #[.int .i64 i] 3 (0, 0)) (List.mem_cons_self ..))) hr⟩) h52) ?_
     refine shO_nil ?_
     refine shW_cond rfl (fun c54 => ?_) (fun c54 => ?_)
     · have r55 := bt r53 c54; clear r53
       refine shW_drawM [(.still, 0), (.still, 1), (.still, 3), (.pre, 4), (.still, 6), (.still, 7), (.seq, 2), (.alloc (.cells #[.int .i64 i] 3 (0, 0)) (fun b => .slice (some ⟨b, 0, none⟩) 1 1) [(29, .int .i64 i)], 4), (.seq, 5), (.seq, 8)] (by kernel_rfl) (by kernel_rfl) (⟨⟨_, _, rfl, rfl, rfl, rfl, rfl, mk_build rfl (buildSlice_all slt_36 [.int .i64 i] rfl (by decide) (by simp [Value.cells]) (by decide))⟩, trivial⟩) (by rfl) (by kernel_rfl) ?_
       refine shM_v (v := .func (.func 51) #[] #[.pointer (some ⟨b_out, 0, none⟩), .pointer (some ⟨b_own, 0, none⟩), .pointer (some ⟨b_q, 0, none⟩), .pointer (some ⟨b_more, 0, none⟩)]) (ek := [(5, .pointer (some ⟨b_more, 0, none⟩))]) (Ls := []) rfl rfl rfl rfl ((sc rfl (sn _))) (by kernel_rfl) sm (fun H F' L' hF' hL' => v_load Try.isAgg89 rfl ((Has.frozen hb_more).ext hF' hL') rfl) ?_
       refine shM_v (v := .slice l_a l.length l_c) (ek := [(0, .slice l_a l.length l_c)]) (Ls := []) rfl rfl rfl rfl ((sc rfl (sn _))) (by kernel_rfl) sm (fun H F' L' hF' hL' => v_move rfl) ?_
       refine shM_v (v := .int .i64 i) (ek := [(8, .pointer (some ⟨b34, 0, none⟩))]) (Ls := [(b34, .cells #[.int .i64 i] 3 (0, 0))]) rfl rfl rfl rfl ((sc rfl (sn _))) (by kernel_rfl) (s0 (s2 (s1 (s3 sr)))) (fun H F' L' hF' hL' => v_load Try.isAgg3 rfl ((Has.own 0 rfl).ext hF' hL') rfl) ?_
       refine ⟨⟨_, rfl, (sc rfl (sn _)), by kernel_rfl⟩, ?_⟩
       refine shM_v (v := .int .i64 i) (ek := [(8, .pointer (some ⟨b34, 0, none⟩))]) (Ls := [(b34, .cells #[.int .i64 i] 3 (0, 0))]) rfl rfl rfl rfl ((sc rfl (sn _))) (by kernel_rfl) (s0 (s2 (s1 (s3 sr)))) (fun H F' L' hF' hL' => v_load Try.isAgg3 rfl ((Has.own 0 rfl).ext hF' hL') rfl) ?_
       obtain ⟨g56, r57⟩ := gd_ok r55; clear r55
       refine shM_v (v := .int .i64 (i + 1)) (ek := [(32, .int .i64 i)]) (Ls := []) rfl rfl rfl rfl ((sc rfl (sn _))) (by kernel_rfl) sm (fun H F' L' hF' hL' => v_add rfl rfl g56) ?_
       refine ⟨_, [(27, .slice l_a l.length l_c)], rfl, rfl, (sc rfl (sn _)), by kernel_rfl, ?_⟩; intro H
       obtain ⟨l3, h58, r59⟩ := b1_ok r57; clear r57
       refine o_call0 rfl Try.call52 rfl rfl rfl (slices_Clone_int_int_w h_l h58) ?_; rintro _ F60 _ hF61 hn62 ⟨a64, n68, c65, Lb66, rfl, rfl, hz67⟩
       replace h_own := h_own.mono (iE_ok _) hF61
       replace h_ears := h_ears.mono (arE_ok (n := 30) (sz := 1) cB_ok) hF61
       replace h_count := h_count.mono hF61
       replace hz31 := hz31.mono (iE_ok _) hF61
       replace hb_own := hF61 _ _ hb_own
       replace hb_q := hF61 _ _ hb_q
       replace hb_more := hF61 _ _ hb_more
       replace hz67 := hz67.new fun p hp => hn62 p (by simp [hp])
       refine shO_L (lp (ln rfl)) ?_
       refine kO (kf (fS fO) (kf (fS fO) kr)) ?_
       refine shO_nil ⟨_, rfl, hF61, [7, 6, 3, 0], by kernel_rfl, .inl (.inr (fun d h => by cases h; rfl)), (List.forall_mem_cons.2 ⟨sm, (List.forall_mem_cons.2 ⟨s0 (s2 (s1 (s3 (s3 sr)))), (List.forall_mem_cons.2 ⟨s0 (s2 (s1 (s3 (s3 sr)))), (List.forall_mem_cons.2 ⟨sm, (fun _ h => absurd h List.not_mem_nil)⟩)⟩)⟩)⟩), ?_⟩
       refine shM_bs rfl ?_; intro b70 hb70
       refine shM_L (L' := (b70, .cells #[.int .i64 i] 3 (0, 0)) :: ((b34, .cells #[.int .i64 i] 3 (0, 0)) :: ((b_out, .cells #[.slice a28 n32 c29] 36 (0, 0)) :: (Lb66 ++ (Lb30 ++ []))))) rfl ?_
       refine ⟨_, [(28, .slice a64 n68 c65), (30, .slice (some ⟨b70, 0, none⟩) 1 1)], rfl, rfl, (sc rfl (sc rfl (sn _))), by kernel_rfl, ?_⟩; intro H
       obtain ⟨l4, h71, g72, r73⟩ := ap_ok r59; clear r59
       refine o_appZ (xs := l3) (ys := [i]) (zs := l4) rfl slt_36 rfl rfl (Nat.le_refl _) (fun _ => .c (.c (.c .h))) hz67 (SrcR.box (vss := [[.int .i64 i]]) (ys := [i]) 0 rfl (iE_ok _) (.cons rfl .nil) rfl rfl) h71 g72 (by decide) ?_; intro a74 n78 c75 Lb76 hz77
       refine kO (kd kr) ?_
       refine shO_nil ⟨_, rfl, FExt.refl _, [7, 6, 0], by kernel_rfl, .inl (.inr (fun d h => by cases h; rfl)), (List.forall_mem_cons.2 ⟨sm, (List.forall_mem_cons.2 ⟨s0 (s2 (s1 (s3 (s3 sr)))), (List.forall_mem_cons.2 ⟨sm, (fun _ h => absurd h List.not_mem_nil)⟩)⟩)⟩), ?_⟩
       refine ⟨_, [(26, .func (.func 51) #[] #[.pointer (some ⟨b_out, 0, none⟩), .pointer (some ⟨b_own, 0, none⟩), .pointer (some ⟨b_q, 0, none⟩), .pointer (some ⟨b_more, 0, none⟩)]), (31, .slice a74 n78 c75), (33, .int .i64 (i + 1))], rfl, rfl, (sc rfl (sc rfl (sc rfl (sn _)))), by kernel_rfl, ?_⟩; intro H
       obtain rfl := (SlR.caps hz77).1
       refine shO_freezeR (Nat.le_refl _) (iE_ok _) (fC (fC fP)) hz77 ?_; intro F80 hF81 h82
       replace h_own := h_own.mono (iE_ok _) hF81
       replace h_ears := h_ears.mono (arE_ok (n := 30) (sz := 1) cB_ok) hF81
       replace h_count := h_count.mono hF81
       replace hz31 := hz31.mono (iE_ok _) hF81
       replace hb_own := hF81 _ _ hb_own
       replace hb_q := hF81 _ _ hb_q
       replace hb_more := hF81 _ _ hb_more
       obtain ⟨out5, h83, r84⟩ := b1_ok r73; clear r73
       refine o_callG (Lb := (b_out, .cells #[.slice a28 n32 c29] 36 (0, 0)) :: (Lb30 ++ [])) (Lr := [(b34, .cells #[.int .i64 i] 3 (0, 0))]) rfl Try.call51 rfl rfl rfl (pT ((fC fO).trans (pC ((fC fP).trans (pA pR)))) (lb (lp (ln rfl)))) (hrec h82 hz31 hb_own h_own hb_q h_ears h_count hb_more h83) ?_; rintro _ F85 _ hF86 hd88 hn87 ⟨a90, n94, c91, Lb92, rfl, rfl, hz93⟩
       refine shO_L (lb (lp (ln rfl))) ?_
       refine kO (kc (kf (fS fO) kr)) ?_
       refine shO_nil ⟨_, rfl, (hF81.trans hF86), [], by kernel_rfl, .inl (.inl rfl), (fun _ h => absurd h List.not_mem_nil), ?_⟩
       refine shM_nil ?_
       refine inBlock_n (id := 1) ?_
       obtain rfl := inj1 r84
       exact mi kr ⟨a90, n94, c91, Lb92, ((hF61.trans hF81).trans hF86), rfl, (sc rfl (sc rfl (sc rfl (sc rfl (sc rfl (sn _)))))), hz93⟩
     have r95 := bf r53 c54; clear r53
     refine shW_skip (inBlock_n (id := 1) ?_)
     obtain rfl := inj1 r95
     exact mi (kf (fC fO) kr) ⟨a28, n32, c29, Lb30, FExt.refl _, rfl, (sc rfl (sc rfl (sc rfl (sc rfl (sc rfl (sn _)))))), hz31⟩
   rintro e1 F97 _ ⟨a44, n48, c45, Lb46, hF98, rfl, he96, hz47⟩
   refine shW_env _ he96 ?_; clear he96
   refine shW_seq (wsr ?_)
   refine ov (v_load Try.isAgg3 rfl (Has.own 1 rfl) rfl) rfl ?_
   refine shO_nil (shW_region ?_)
   refine o_alloc rfl Try.zeroValue3 ?_; intro b99 hb99
   refine o_store (i := 0) Try.sizeOf3 rfl rfl rfl rfl (Nat.le_of_ble_eq_true rfl) ?_
   refine shO_L (L' := (b99, .cells #[.int .i64 i] 3 (0, 0)) :: ((b_out, .cells #[.slice a44 n48 c45] 36 (0, 0)) :: ((b34, .cells #[.int .i64 i] 3 (0, 0)) :: (Lb46 ++ [])))) rfl ?_
   refine shO_nil (shW_region ?_)
   refine ov (v_load Try.isAgg3 rfl (Has.own 0 rfl) rfl) rfl ?_
   obtain ⟨g100, r101⟩ := gd_ok r51; clear r51
   refine ov (v_add rfl rfl g100) rfl ?_
   refine o_store (i := 0) Try.sizeOf3 rfl rfl rfl rfl (Nat.le_of_ble_eq_true rfl) ?_
   refine shO_L (L' := (b99, .cells #[.int .i64 (i + 1)] 3 (0, 0)) :: ((b_out, .cells #[.slice a44 n48 c45] 36 (0, 0)) :: ((b34, .cells #[.int .i64 i] 3 (0, 0)) :: (Lb46 ++ [])))) rfl ?_
   refine shO_nil ?_
   exact le (kc (kc (kd kr))) ⟨out4, i + 1, a44, n48, c45, Lb46, b99, r101, (hF41.trans hF98), rfl, (sc rfl (sc rfl (sc rfl (sc rfl (sc rfl (sn _)))))), hz47, hb99⟩
 have r102 := ite_f r38 c42; clear r38
 refine shW_exit (andThen_exit (andThen_exit ?_))
 refine inBlock_exit ?_
 refine q_end0s (.inr rfl) Try.results51 (s1 (s2 (s4 sr))) ?_
 obtain rfl := inj1 r102
 exact ⟨_, _, _, _, rfl, rfl, hz31.any⟩
set_option maxHeartbeats 1000000 in
theorem hear_Apart_1_w : ∀ (fu : Nat) {l_a : Option Addr} {l_c : Nat} {l : List Int} {from_ : Int} {b_out : Nat} {out_a : Option Addr} {out_n : Nat} {out_c : Nat} {out_L : LH} {out : List Int} {b_own : Nat} {own_a : Option Addr} {own_c : Nat} {own : List Int} {mb_own : Nat × Nat} {b_q : Nat} {ears_a : Option Addr} {ears_c : Nat} {ears : List (List Bool)} {count_f : FuncId} {count_1 : Array Value} {count_2 : Array Value} {count : Int → Option Int} {mb_q : Nat × Nat} {b_more : Nat} {mb_more : Nat × Nat} {F : FS} (_ : RowR 1 (iE .i64) F l_a l_c l) (_ : SlR 0 3 1 (iE .i64) F out_a out_n out_c out out_L) (_ : F b_own = some (.cells #[.slice own_a own.length own_c] 36 mb_own)) (_ : RowR 1 (iE .i64) F own_a own_c own) (_ : F b_q = some (.cells #[.slice ears_a ears.length ears_c, .func (.func count_f) count_1 count_2] 77 mb_q)) (_ : RowR 30 (arE 30 cB) F ears_a ears_c ears) (_ : FnR Try.prog F count_f count_1 count_2 (iE .i64) (Value.int .i64) count) (_ : F b_more = some (.cells (#[.func (.func 51) #[] #[.pointer (some ⟨b_out, 0, none⟩), .pointer (some ⟨b_own, 0, none⟩), .pointer (some ⟨b_q, 0, none⟩), .pointer (some ⟨b_more, 0, none⟩)]]) 89 mb_more)) {r : List Int} , hear_Apart_1 fu l from_ out own ears count = some r → SH.Spec Try.prog 51 #[.slice l_a l.length l_c, .int .i64 from_, .pointer (some ⟨b_out, 0, none⟩), .pointer (some ⟨b_own, 0, none⟩), .pointer (some ⟨b_q, 0, none⟩), .pointer (some ⟨b_more, 0, none⟩)] F ((b_out, .cells #[.slice out_a out_n out_c] 36 (0, 0)) :: (out_L ++ [])) fun F' L' v => ∃ (ra : Option Addr) (rn : Nat) (rc : Nat) (rL : LH), v = .tuple #[] ∧ L' = (b_out, .cells #[.slice ra rn rc] 36 (0, 0)) :: (rL ++ []) ∧ SlR 0 3 1 (iE .i64) F' ra rn rc r rL := by
  intro fu
  induction fu with
  | zero => intros; rename_i hr; rw [hear_Apart_1] at hr; cases hr
  | succ fu ih => intros; rename_i hr; rw [hear_Apart_1] at hr; exact hear_Apart_1B_w ih (by assumption) (by assumption) (by assumption) (by assumption) (by assumption) (by assumption) (by assumption) (by assumption) hr
set_option maxHeartbeats 1000000 in
theorem hear_Apart_w {wide : Int} {plots_a : Option Addr} {plots_c : Nat} {plots : List Int} {wind : Int} {voice : Int} {houses_a : Option Addr} {houses_c : Nat} {houses : List Int} {F : FS} (h_plots : RowR 1 (iE .i64) F plots_a plots_c plots) (h_houses : RowR 1 (iE .i64) F houses_a houses_c houses) {r : List Int} {r2 : Int} (hr : hear_Apart wide plots wind voice houses = some (r, r2)) :
    SH.Spec Try.prog 16 #[.agg #[.int .i64 wide, .slice plots_a plots.length plots_c], .agg #[.int .i64 wind, .int .i64 voice], .slice houses_a houses.length houses_c] F [] fun F' L' v => ∃ (ra : Option Addr) (rn : Nat) (rc : Nat) (rL : LH), v = .tuple #[.slice ra rn rc, .int .i64 r2] ∧ L' = rL ++ [] ∧ SlR 0 3 1 (iE .i64) F' ra rn rc r rL := by
 refine spec_of_shW (args := [.agg #[.int .i64 wide, .slice plots_a plots.length plots_c], .agg #[.int .i64 wind, .int .i64 voice], .slice houses_a houses.length houses_c]) Try.func16 rfl Try.ntmps16 (Nat.le_of_ble_eq_true rfl) ?_
 intro K _ _; rw [hear_Apart] at hr
 refine wsr ?_
 refine o_box rfl rfl ?_; intro b1 hb1
 refine o_box rfl rfl ?_; intro b2 hb2
 refine oa rfl rfl (oa rfl rfl (nsr (om rfl rfl ?_)))
 obtain ⟨y, h3, r4⟩ := b1_ok hr; clear hr
 refine o_call0 rfl Try.call50 rfl rfl rfl (slices_Values_int_int_w h_houses h3) ?_; rintro _ F5 _ hF6 hn7 ⟨cp9, rfl, rfl, hit10⟩
 replace h_plots := h_plots.mono (iE_ok _) hF6
 replace h_houses := h_houses.mono (iE_ok _) hF6
 refine shO_L (ln rfl) ?_
 obtain ⟨l, h11, r12⟩ := b1_ok r4; clear r4
 refine o_call0 rfl Try.call49 rfl rfl rfl (slices_Sorted_int_w Try.call83 hit10 h11) ?_; rintro _ F13 _ hF14 hn15 ⟨a17, n21, c18, Lb19, rfl, rfl, hz20⟩
 replace h_plots := h_plots.mono (iE_ok _) hF14
 replace h_houses := h_houses.mono (iE_ok _) hF14
 replace hz20 := hz20.new fun p hp => hn15 p (by simp [hp])
 refine shO_L (lp (ln rfl)) ?_
 refine kO (kf (fS fO) (kf (fS fO) kr)) ?_
 refine o_alloc rfl Try.zeroValue36 ?_; intro b23 hb23
 refine o_store (i := 0) Try.sizeOf36 rfl rfl rfl rfl (Nat.le_of_ble_eq_true rfl) ?_
 refine shO_L (L' := (b23, .cells #[.slice a17 n21 c18] 36 (0, 0)) :: ((b2, .cells #[.int .i64 wind, .int .i64 voice] 31 (0, 0)) :: ((b1, .cells #[.int .i64 wide, .slice plots_a plots.length plots_c] 27 (0, 0)) :: (Lb19 ++ [])))) rfl ?_
 refine nsr ?_
 refine ov (v_loadA (cs := #[.int .i64 wide, .slice plots_a plots.length plots_c]) Try.isAgg27 Try.sizeOf27 rfl (Has.own 2 rfl) (Nat.le_of_ble_eq_true rfl) rfl) rfl ?_
 refine ov (v_loadA (cs := #[.int .i64 wind, .int .i64 voice]) Try.isAgg31 Try.sizeOf31 rfl (Has.own 1 rfl) (Nat.le_of_ble_eq_true rfl) rfl) rfl ?_
 refine om rfl rfl ?_
 obtain ⟨l2, y2, n, h24, r25⟩ := b3_ok r12; clear r12
 refine o_call0 rfl Try.call44 rfl rfl rfl (hear_asked_w h_plots h_houses h24) ?_; rintro _ F26 _ hF27 hn28 ⟨a30, n34, c31, Lb32, v36, rfl, rfl, hz33, hp37⟩
 replace h_plots := h_plots.mono (iE_ok _) hF27
 replace hz20 := hz20.mono (iE_ok _) hF27
 refine shO_L (lp (ln rfl)) ?_
 refine kO (kf (fS fO) (kf (fS fO) (kf (fS fO) kr))) ?_
 refine om rfl rfl (ox rfl rfl rfl (ox rfl rfl rfl ?_))
 refine o_alloc rfl Try.zeroValue77 ?_; intro b38 hb38
 refine o_storeA (i := 0) Try.sizeOf77 rfl rfl rfl (List.forall_mem_cons.2 ⟨rfl, (List.forall_mem_cons.2 ⟨hp37.1, (fun _ h => absurd h List.not_mem_nil)⟩)⟩) rfl (Nat.le_of_ble_eq_true rfl) ?_
 refine shO_L (L' := (b38, .cells #[.slice a30 n34 c31, v36] 77 (0, 0)) :: ((b23, .cells #[.slice a17 n21 c18] 36 (0, 0)) :: ((b2, .cells #[.int .i64 wind, .int .i64 voice] 31 (0, 0)) :: ((b1, .cells #[.int .i64 wide, .slice plots_a plots.length plots_c] 27 (0, 0)) :: (Lb32 ++ (Lb19 ++ [])))))) rfl ?_
 refine oa rfl rfl (shO_nil (shW_seq (wsr (om rfl rfl ?_))))
 refine ov (v_neq rfl rfl) rfl ?_
 refine shO_nil ?_
 refine shW_condP rfl (fun c39 => ?_) (fun c39 => ?_)
 · have r40 := ite_t r25 c39; clear r25
   refine wsr (om rfl rfl (oa rfl rfl (oa rfl rfl (shO_nil ?_))))
   refine kW kn ?_
   refine shW_ret (andThen_ret ?_)
   refine q_res2 Try.results16 (res_tmp rfl) (res_tmp rfl) (sr) ?_
   obtain ⟨rfl, rfl⟩ := inj2 r40
   exact ⟨_, _, _, [], rfl, rfl, SlR.nil _ _ _ _ _⟩
 have r41 := ite_f r25 c39; clear r25
 refine shW_skip (wsr ?_)
 refine ov (v_loadA (cs := #[.int .i64 wide, .slice plots_a plots.length plots_c]) Try.isAgg27 Try.sizeOf27 rfl (Has.own 3 rfl) (Nat.le_of_ble_eq_true rfl) rfl) rfl ?_
 refine ov (v_loadA (cs := #[.int .i64 wind, .int .i64 voice]) Try.isAgg31 Try.sizeOf31 rfl (Has.own 2 rfl) (Nat.le_of_ble_eq_true rfl) rfl) rfl ?_
 refine ov (v_load Try.isAgg36 rfl (Has.own 1 rfl) rfl) rfl ?_
 obtain ⟨l3, y3, n2, h42, r43⟩ := b3_ok r41; clear r41
 refine o_callTO (Lb := []) (Lt := Lb19 ++ []) (Lr := (b38, .cells #[.slice a30 n34 c31, v36] 77 (0, 0)) :: ((b23, .cells #[.slice a17 n21 c18] 36 (0, 0)) :: ((b2, .cells #[.int .i64 wind, .int .i64 voice] 31 (0, 0)) :: ((b1, .cells #[.int .i64 wide, .slice plots_a plots.length plots_c] 27 (0, 0)) :: (Lb32 ++ []))))) rfl Try.call44 rfl rfl rfl (pT ((fC (fC (fC (fC (fS fP))))).trans (pA pR)) (ln (lp (ln rfl)))) (fun F2 h2 h3 => by rw [(SlR.caps hz20).1]; exact hear_asked_w (h_plots.mono (iE_ok _) h2) (hz20.row (iE_ok _) h2 (fun p hp => h3 p (List.mem_append_left _ hp))) h42) (fun _ _ _ _ hq => by obtain ⟨a48, n52, c49, Lb50, v54, rfl, rfl, hz51, hp55⟩ := hq; exact ⟨_, _, _, _, _, rfl, rfl, hz51.flat (fun _ _ h => h), hp55⟩) ?_; rintro _ F44 _ hF45 hd47 hn46 ⟨a48, n52, c49, Lb50, v54, rfl, rfl, hz51, hp55⟩
 replace hz20 := hz20.mono (iE_ok _) hF45
 have hn56 := newp (Lb' := []) (by rfl) hd47 hn46
 replace hz51 := hz51.new fun p hp => hn56 p (by simp [hp])
 refine shO_L (lp (ln (lp (ln rfl)))) ?_
 refine kO (kf (fS (fS fO)) (kf (fS (fS fO)) (kf (fS (fS fO)) (kf (fS (fS fO)) kr)))) ?_
 refine om rfl rfl (ox rfl rfl rfl (ox rfl rfl rfl ?_))
 refine o_storeA (i := 0) Try.sizeOf77 rfl rfl rfl (List.forall_mem_cons.2 ⟨rfl, (List.forall_mem_cons.2 ⟨hp55.1, (fun _ h => absurd h List.not_mem_nil)⟩)⟩) rfl (Nat.le_of_ble_eq_true rfl) ?_
 refine shO_L (L' := (b38, .cells #[.slice a48 n52 c49, v54] 77 (0, 0)) :: ((b23, .cells #[.slice a17 n21 c18] 36 (0, 0)) :: ((b2, .cells #[.int .i64 wind, .int .i64 voice] 31 (0, 0)) :: ((b1, .cells #[.int .i64 wide, .slice plots_a plots.length plots_c] 27 (0, 0)) :: (Lb50 ++ (Lb19 ++ (Lb32 ++ []))))))) rfl ?_
 refine nsr ?_
 refine o_alloc rfl Try.zeroValue36 ?_; intro b57 hb57
 refine nsr ?_
 refine o_alloc rfl Try.zeroValue89 ?_; intro b58 hb58
 refine nsr ?_
 refine ov (v_makeFunc rfl rfl) rfl ?_
 refine o_store (i := 0) Try.sizeOf89 rfl rfl rfl rfl (Nat.le_of_ble_eq_true rfl) ?_
 refine shO_L (L' := (b58, .cells (#[.func (.func 51) #[] #[.pointer (some ⟨b57, 0, none⟩), .pointer (some ⟨b23, 0, none⟩), .pointer (some ⟨b38, 0, none⟩), .pointer (some ⟨b58, 0, none⟩)]]) 89 (0, 0)) :: ((b57, .cells #[.slice none 0 0] 36 (0, 0)) :: ((b38, .cells #[.slice a48 n52 c49, v54] 77 (0, 0)) :: ((b23, .cells #[.slice a17 n21 c18] 36 (0, 0)) :: ((b2, .cells #[.int .i64 wind, .int .i64 voice] 31 (0, 0)) :: ((b1, .cells #[.int .i64 wide, .slice plots_a plots.length plots_c] 27 (0, 0)) :: (Lb50 ++ (Lb19 ++ (Lb32 ++ []))))))))) rfl ?_
 refine nsr ?_
 refine ov (v_load Try.isAgg89 rfl (Has.own 0 rfl) rfl) rfl ?_
 obtain rfl := (SlR.caps hz20).1
 refine shO_freezeR (Nat.le_refl _) (iE_ok _) (fC (fC (fC (fC (fC (fC (fS fP))))))) hz20 ?_; intro F59 hF60 h61
 replace hz51 := hz51.mono (arE_ok (n := 30) (sz := 1) cB_ok) hF60
 refine shO_freeze 3 rfl hb23 ?_; intro F62 hF63 hz64
 refine shO_L (L' := (b58, .cells (#[.func (.func 51) #[] #[.pointer (some ⟨b57, 0, none⟩), .pointer (some ⟨b23, 0, none⟩), .pointer (some ⟨b38, 0, none⟩), .pointer (some ⟨b58, 0, none⟩)]]) 89 (0, 0)) :: ((b57, .cells #[.slice none 0 0] 36 (0, 0)) :: ((b38, .cells #[.slice a48 n52 c49, v54] 77 (0, 0)) :: ((b2, .cells #[.int .i64 wind, .int .i64 voice] 31 (0, 0)) :: ((b1, .cells #[.int .i64 wide, .slice plots_a plots.length plots_c] 27 (0, 0)) :: (Lb50 ++ (Lb32 ++ []))))))) rfl ?_
 replace h61 := h61.mono (iE_ok _) hF63
 replace hz51 := hz51.mono (arE_ok (n := 30) (sz := 1) cB_ok) hF63
 obtain rfl := (SlR.caps hz51).1
 refine shO_freezeR (Nat.le_refl _) (arE_ok (n := 30) (sz := 1) cB_ok) (fC (fC (fC (fC (fC fP))))) hz51 ?_; intro F65 hF66 h67
 replace h61 := h61.mono (iE_ok _) hF66
 replace hz64 := hF66 _ _ hz64
 refine shO_freeze 2 rfl hb38 ?_; intro F68 hF69 hz70
 refine shO_L (L' := (b58, .cells (#[.func (.func 51) #[] #[.pointer (some ⟨b57, 0, none⟩), .pointer (some ⟨b23, 0, none⟩), .pointer (some ⟨b38, 0, none⟩), .pointer (some ⟨b58, 0, none⟩)]]) 89 (0, 0)) :: ((b57, .cells #[.slice none 0 0] 36 (0, 0)) :: ((b2, .cells #[.int .i64 wind, .int .i64 voice] 31 (0, 0)) :: ((b1, .cells #[.int .i64 wide, .slice plots_a plots.length plots_c] 27 (0, 0)) :: (Lb32 ++ []))))) rfl ?_
 replace h61 := h61.mono (iE_ok _) hF69
 replace h67 := h67.mono (arE_ok (n := 30) (sz := 1) cB_ok) hF69
 replace hz64 := hF69 _ _ hz64
 obtain ⟨g71, r72⟩ := gd_ok r43; clear r43
 obtain rfl := hp55.2 g71
 have hn73 : FnR Try.prog F68 77 #[] #[] (iE .i64) (Value.int .i64) (fun xx_ : Int => hear_ones xx_) := ⟨Try.call77, fun F2 h2 vs xx_ r ha hr => by obtain rfl := ha; exact hear_ones_w hr⟩
 refine shO_freeze 0 rfl hb58 ?_; intro F74 hF75 hz76
 refine shO_L (L' := (b57, .cells #[.slice none 0 0] 36 (0, 0)) :: ((b2, .cells #[.int .i64 wind, .int .i64 voice] 31 (0, 0)) :: ((b1, .cells #[.int .i64 wide, .slice plots_a plots.length plots_c] 27 (0, 0)) :: (Lb32 ++ [])))) rfl ?_
 replace h61 := h61.mono (iE_ok _) hF75
 replace h67 := h67.mono (arE_ok (n := 30) (sz := 1) cB_ok) hF75
 replace hn73 := hn73.mono hF75
 replace hz64 := hF75 _ _ hz64
 replace hz70 := hF75 _ _ hz70
 obtain ⟨out, h77, r78⟩ := b1_ok r72; clear r72
 refine o_callG (Lb := [(b57, .cells #[.slice none 0 0] 36 (0, 0))]) (Lr := (b2, .cells #[.int .i64 wind, .int .i64 voice] 31 (0, 0)) :: ((b1, .cells #[.int .i64 wide, .slice plots_a plots.length plots_c] 27 (0, 0)) :: (Lb32 ++ []))) rfl Try.call51 rfl rfl rfl (pR) ((hear_Apart_1_w FU) (RowR.nil _ _ _) (SlR.nil 0 _ _ _ _) hz64 h61 hz70 h67 hn73 hz76 h77) ?_; rintro _ F79 _ hF80 hd82 hn81 ⟨a84, n88, c85, Lb86, rfl, rfl, hz87⟩
 replace h61 := h61.mono (iE_ok _) hF80
 replace hz64 := hF80 _ _ hz64
 refine shO_L (lb (lp (ln rfl))) ?_
 refine kO (kc (kf (fS fO) (kf (fS fO) kr))) ?_
 refine shO_nil ?_
 obtain ⟨out2, h91, r92⟩ := b1_ok r78; clear r78
 refine shW_join (fun e1 F1 L1 => ∃ (Lb89 : LH), F79 = F1 ∧ L1 = ((b57, .cells #[.slice a84 n88 c85] 36 (0, 0)) :: (Lb89 ++ [])) ∧ e1.sub [(11, .pointer (some ⟨b57, 0, none⟩))] ∧ SlR 0 3 1 (iE .i64) F1 a84 n88 c85 out2 Lb89) ?_ ?_
 · clear r92
   refine wsr ?_
   refine ov (v_load Try.isAgg36 rfl (Has.own 0 rfl) rfl) rfl ?_
   refine ov ((v_lenS Try.underlying36 rfl).i (SlR.lenI hz87)) rfl ?_
   refine om rfl rfl (shO_nil ?_)
   refine shW_block ?_
   refine kW (kc (kd (kd (ka kn)))) ?_
   obtain ⟨g95, r96⟩ := gd_ok h91; clear h91
   refine shW_lp (fun fu1 e1 F1 L1 => ∃ (k : Int), Ctr 0 (out.length : Int) k fu1 ∧ ∃ (out3 : List Int) (Lb93 : LH), hear_Apart_l1 l fu1 k out3 = some out2 ∧ F79 = F1 ∧ L1 = ((b57, .cells #[.slice a84 n88 c85] 36 (0, 0)) :: (Lb93 ++ [])) ∧ e1.sub [(8, .pointer (some ⟨b23, 0, none⟩)), (11, .pointer (some ⟨b57, 0, none⟩)), (38, .slice a84 n88 c85), (39, .int .i64 (out.length : Int)), (40, .int .i64 k)] ∧ SlR 0 3 1 (iE .i64) F1 a84 n88 c85 out3 Lb93) _ (m0 kr ⟨_, Ctr.start _ _, out, Lb86, r96, rfl, rfl, (sc rfl (sc rfl (sc rfl (sc rfl (sc rfl (sn _)))))), hz87⟩) ?_
   rintro fu1 e1 _ _ ⟨k, hk97, out3, Lb93, r99, rfl, rfl, he100, hz94⟩
   refine shW_env _ he100 ?_; clear he100
   refine wsr ?_
   refine ov (v_lssK rfl rfl) rfl ?_
   refine shO_nil (shW_seq ?_)
   refine shW_condP rfl (fun c102 => ?_) (fun c102 => ?_)
   · obtain ⟨fu1, rfl, hk103⟩ := Ctr.succ hk97 c102
     rw [hear_Apart_l1] at r99
     refine shW_skip (shW_seq ?_)
     refine shW_block ?_
     refine wsr (om rfl rfl ?_)
     obtain ⟨x, g104, hx105, r106⟩ := ix_ok r99; clear r99
     obtain ⟨b107, o108, c109, vs110, ha111, hs112, hle113, rfl, hl114, hc115⟩ := SlR.at (iE_ok _) hz94 (L := (b57, .cells #[.slice a84 n88 c85] 36 (0, 0)) :: (Lb93 ++ [])) (fC fP) g104.1 hx105
     refine ov (v_indexO Try.underlying36 Try.sizeOf3 rfl ha111 rfl (SlR.idx hz94 g104)) rfl ?_
     refine ov (v_load Try.isAgg3 rfl hs112 (hc115 0 (by decide))) rfl ?_
     refine oa rfl rfl (oa rfl rfl (shO_nil ?_))
     refine shW_drawM [(.still, 0), (.still, 1), (.still, 2), (.still, 3), (.still, 4), (.still, 5), (.still, 6), (.seq, 7)] (by kernel_rfl) (by kernel_rfl) (trivial) (by rfl) (by kernel_rfl) ?_
     refine shM_v (v := .slice a84 n88 c85) (ek := [(11, .pointer (some ⟨b57, 0, none⟩))]) (Ls := [(b57, .cells #[.slice a84 n88 c85] 36 (0, 0))]) rfl rfl rfl rfl ((sc rfl (sn _))) (by kernel_rfl) (s0 (s2 (s3 sr))) (fun H F' L' hF' hL' => v_load Try.isAgg36 rfl ((Has.own 0 rfl).ext hF' hL') rfl) ?_
     refine shM_v (v := .int .i64 k) (ek := [(13, .int .i64 k)]) (Ls := []) rfl rfl rfl rfl ((sc rfl (sn _))) (by kernel_rfl) sm (fun H F' L' hF' hL' => v_move rfl) ?_
     refine shM_v (v := .slice a17 l.length c18) (ek := [(8, .pointer (some ⟨b23, 0, none⟩))]) (Ls := []) rfl rfl rfl rfl ((sc rfl (sn _))) (by kernel_rfl) sm (fun H F' L' hF' hL' => v_load Try.isAgg36 rfl ((Has.frozen hz64).ext hF' hL') rfl) ?_
     refine shM_v (v := .int .i64 x) (ek := [(14, .int .i64 x)]) (Ls := []) rfl rfl rfl rfl ((sc rfl (sn _))) (by kernel_rfl) sm (fun H F' L' hF' hL' => v_move rfl) ?_
     obtain ⟨x2, g116, hx117, r118⟩ := ix_ok r106; clear r106
     obtain ⟨b119, o120, c121, vs122, ha123, hs124, hle125, rfl, hl126, hc127⟩ := RowR.at (iE_ok _) h61 ([]) g116.1 hx117
     refine shM_v (v := .pointer (some ⟨b119, o120 + (x : Int).toNat * 1, none⟩)) (ek := [(47, .slice a17 l.length c18), (48, .int .i64 x)]) (Ls := []) rfl rfl rfl rfl ((sc rfl (sc rfl (sn _)))) (by kernel_rfl) sm (fun H F' L' hF' hL' => v_indexO Try.underlying36 Try.sizeOf3 rfl ha123 rfl g116) ?_
     refine shM_v (v := .int .i64 x2) (ek := [(49, .pointer (some ⟨b119, o120 + (x : Int).toNat * 1, none⟩))]) (Ls := []) rfl rfl rfl rfl ((sc rfl (sn _))) (by kernel_rfl) sm (fun H F' L' hF' hL' => v_load Try.isAgg3 rfl (hs124.ext hF' hL') (hc127 0 (by decide))) ?_
     obtain ⟨b128, o129, c130, vs131, ha132, hs133, hle134, rfl, hl135, hc136⟩ := SlR.at (iE_ok _) hz94 (L := Lb93 ++ []) fP g104.1 hx105
     refine shM_v (v := .pointer (some ⟨b128, o129 + (k : Int).toNat * 1, none⟩)) (ek := [(45, .slice a84 n88 c85), (46, .int .i64 k)]) (Ls := []) rfl rfl rfl rfl ((sc rfl (sc rfl (sn _)))) (by kernel_rfl) sm (fun H F' L' hF' hL' => v_indexO Try.underlying36 Try.sizeOf3 rfl ha132 rfl (SlR.idx hz94 g104)) ?_
     refine ⟨_, [(50, .int .i64 x2), (51, .pointer (some ⟨b128, o129 + (k : Int).toNat * 1, none⟩))], rfl, rfl, (sc rfl (sc rfl (sn _))), by kernel_rfl, ?_⟩; intro H
     obtain ⟨l4, h137, r138⟩ := bv_ok r118; clear r118
     refine o_storeZ (u := x2) Try.sizeOf3 (iE_ok _) rfl ha132 rfl rfl (fun _ => .c .h) hz94 h137 g104 ?_; intro Lb139 hz140
     refine shO_nil ⟨undef, rfl, FExt.refl _, [], by kernel_rfl, .inl (.inl rfl), (fun _ h => absurd h List.not_mem_nil), ?_⟩
     refine shM_nil ?_
     refine inBlock_n (id := 1) (shW_region ?_)
     refine ov (v_add rfl rfl (Ctr.r64 hk97 c102 g95)) rfl ?_
     refine om rfl rfl (shO_nil ?_)
     exact le kr ⟨_, hk103, l4, Lb139, r138, rfl, rfl, (sc rfl (sc rfl (sc rfl (sc rfl (sc rfl (sn _)))))), hz140⟩
   obtain rfl := Ctr.zero hk97 c102
   rw [hear_Apart_l1] at r99
   refine shW_exit (andThen_exit (andThen_exit ?_))
   refine inBlock_exit ?_
   obtain rfl := inj1 r99
   exact mi kr ⟨Lb93, rfl, rfl, (sc rfl (sn _)), hz94⟩
 rintro e1 _ _ ⟨Lb89, rfl, rfl, he141, hz90⟩
 refine shW_env _ he141 ?_; clear he141
 refine wsr ?_
 refine ov (v_load Try.isAgg36 rfl (Has.own 0 rfl) rfl) rfl ?_
 refine oa rfl rfl (oa rfl rfl (shO_nil ?_))
 refine kW (kd kr) ?_
 refine shW_ret ?_
 refine q_res2 Try.results16 (res_tmp rfl) (res_tmp rfl) (sr) ?_
 obtain ⟨rfl, rfl⟩ := inj2 r92
 exact ⟨_, _, _, _, rfl, rfl, hz90.any⟩
set_option maxHeartbeats 1000000 in
theorem hear_Louder_w {wide : Int} {plots_a : Option Addr} {plots_c : Nat} {plots : List Int} {wind : Int} {houses_a : Option Addr} {houses_c : Nat} {houses : List Int} {stands : Int} {F : FS} (h_plots : RowR 1 (iE .i64) F plots_a plots_c plots) (h_houses : RowR 1 (iE .i64) F houses_a houses_c houses) {r : Int} {r2 : Int} (hr : hear_Louder wide plots wind houses stands = some (r, r2)) :
    SpecV Try.prog 17 #[.agg #[.int .i64 wide, .slice plots_a plots.length plots_c], .int .i64 wind, .slice houses_a houses.length houses_c, .int .i64 stands] F (.tuple #[.int .i64 r, .int .i64 r2]) := by
 refine spec_of_shW (args := [.agg #[.int .i64 wide, .slice plots_a plots.length plots_c], .int .i64 wind, .slice houses_a houses.length houses_c, .int .i64 stands]) Try.func17 rfl Try.ntmps17 (Nat.le_of_ble_eq_true rfl) ?_
 intro K _ _; rw [hear_Louder] at hr
 refine wsr ?_
 refine o_box rfl rfl ?_; intro b1 hb1
 refine oa rfl rfl (oa rfl rfl (shO_nil ?_))
 refine shW_scope ?_
 refine shW_seq (wsr ?_)
 refine ov (v_loadA (cs := #[.int .i64 wide, .slice plots_a plots.length plots_c]) Try.isAgg27 Try.sizeOf27 rfl (Has.own 0 rfl) (Nat.le_of_ble_eq_true rfl) rfl) rfl ?_
 refine om rfl rfl ?_
 refine ov (v_build (v := .agg #[.int .i64 wind, .int .i64 40]) rfl (by intro w; kernel_rfl)) rfl ?_
 refine om rfl rfl ?_
 obtain ⟨l, y, n, h2, r3⟩ := b3_ok hr; clear hr
 refine o_call0 rfl Try.call44 rfl rfl rfl (hear_asked_w h_plots h_houses h2) ?_; rintro _ F4 _ hF5 hn6 ⟨a8, n12, c9, Lb10, v14, rfl, rfl, hz11, hp15⟩
 replace h_plots := h_plots.mono (iE_ok _) hF5
 replace h_houses := h_houses.mono (iE_ok _) hF5
 refine shO_L (lp (ln rfl)) ?_
 refine kO (kf (fS fO) kr) ?_
 refine om rfl rfl (ox rfl rfl rfl (ox rfl rfl rfl ?_))
 refine o_alloc rfl Try.zeroValue77 ?_; intro b16 hb16
 refine o_storeA (i := 0) Try.sizeOf77 rfl rfl rfl (List.forall_mem_cons.2 ⟨rfl, (List.forall_mem_cons.2 ⟨hp15.1, (fun _ h => absurd h List.not_mem_nil)⟩)⟩) rfl (Nat.le_of_ble_eq_true rfl) ?_
 refine shO_L (L' := (b16, .cells #[.slice a8 n12 c9, v14] 77 (0, 0)) :: ((b1, .cells #[.int .i64 wide, .slice plots_a plots.length plots_c] 27 (0, 0)) :: (Lb10 ++ []))) rfl ?_
 refine oa rfl rfl (nsr (om rfl rfl ?_))
 refine ov (v_neq rfl rfl) rfl ?_
 refine shO_nil ?_
 refine shW_condP rfl (fun c17 => ?_) (fun c17 => ?_)
 · have r18 := ite_t r3 c17; clear r3
   refine wsr (om rfl rfl (oa rfl rfl (oa rfl rfl (shO_nil ?_))))
   refine kW kn ?_
   refine shW_ret (andThen_ret (noGoto_ret ?_))
   refine q_res2 Try.results17 (res_tmp rfl) (res_tmp rfl) (sr) ?_
   obtain ⟨rfl, rfl⟩ := inj2 r18
   exact rfl
 have r19 := ite_f r3 c17; clear r3
 refine shW_skip (shW_seq (wsr (om rfl rfl ?_)))
 obtain ⟨ok, h20, r21⟩ := b1_ok r19; clear r19
 refine o_callV rfl Try.call56 rfl rfl rfl (hear_in_w h20) ?_
 refine ov (v_notB rfl) rfl ?_
 refine shO_nil ?_
 refine shW_cond rfl (fun c22 => ?_) (fun c22 => ?_)
 · have r23 := bt r21 c22; clear r21
   refine wsr (oa rfl rfl (oa rfl rfl (shO_nil ?_)))
   refine kW kn ?_
   refine shW_ret (andThen_ret (noGoto_ret ?_))
   refine q_res2 Try.results17 (res_tmp rfl) (res_tmp rfl) (sr) ?_
   obtain ⟨rfl, rfl⟩ := inj2 r23
   exact rfl
 have r24 := bf r21 c22; clear r21
 refine shW_skip (wsr (oa rfl rfl (shO_nil (shW_seq ?_))))
 refine shW_label ?_
 obtain ⟨out, h25, r26⟩ := b1_ok r24; clear r24
 refine shW_join (fun e1 F1 L1 => FExt F4 F1 ∧ L1 = [] ∧ e1.sub [(12, .int .i64 out)]) ?_ ?_
 · clear r26
   refine wsr (om rfl rfl (shO_nil ?_))
   refine shW_block ?_
   refine kW (kd (kc kn)) ?_
   obtain ⟨g27, r28⟩ := gd_ok h25; clear h25
   refine shW_lp (fun fu1 e1 F1 L1 => ∃ (k : Int), Ctr 0 40 k fu1 ∧ hear_Louder_l1 wide plots wind houses stands fu1 k = some out ∧ FExt F4 F1 ∧ L1 = [(b1, .cells #[.int .i64 wide, .slice plots_a plots.length plots_c] 27 (0, 0))] ∧ e1.sub [(1, .int .i64 wind), (2, .slice houses_a houses.length houses_c), (3, .int .i64 stands), (4, .pointer (some ⟨b1, 0, none⟩)), (12, .int .i64 0), (32, .int .i64 k)]) _ (m0 kr ⟨_, Ctr.start _ _, r28, FExt.refl _, rfl, (sc rfl (sc rfl (sc rfl (sc rfl (sc rfl (sc rfl (sn _)))))))⟩) ?_
   rintro fu1 e1 F33 _ ⟨k, hk29, r31, hF34, rfl, he32⟩
   refine shW_env _ he32 ?_; clear he32
   replace h_plots := h_plots.mono (iE_ok _) hF34
   replace h_houses := h_houses.mono (iE_ok _) hF34
   refine wsr ?_
   refine ov (v_lssK rfl rfl) rfl ?_
   refine shO_nil (shW_seq ?_)
   refine shW_condP rfl (fun c36 => ?_) (fun c36 => ?_)
   · obtain ⟨fu1, rfl, hk37⟩ := Ctr.succ hk29 c36
     rw [hear_Louder_l1] at r31
     refine shW_skip (shW_seq ?_)
     refine shW_block ?_
     refine wsr (om rfl rfl (oa rfl rfl (nsr ?_)))
     refine ov (v_loadA (cs := #[.int .i64 wide, .slice plots_a plots.length plots_c]) Try.isAgg27 Try.sizeOf27 rfl (Has.own 0 rfl) (Nat.le_of_ble_eq_true rfl) rfl) rfl ?_
     refine om rfl rfl (om rfl rfl ?_)
     refine ov (v_add rfl rfl (Ctr.r64 hk29 c36 g27)) rfl ?_
     refine ov (v_build (v := .agg #[.int .i64 wind, .int .i64 (k + 1)]) rfl (by intro w; kernel_rfl)) rfl ?_
     refine om rfl rfl ?_
     obtain ⟨l2, y2, n2, h38, r39⟩ := b3_ok r31; clear r31
     refine o_call0 rfl Try.call44 rfl rfl rfl (hear_asked_w h_plots h_houses h38) ?_; rintro _ F40 _ hF41 hn42 ⟨a44, n48, c45, Lb46, v50, rfl, rfl, hz47, hp51⟩
     replace hz47 := hz47.new fun p hp => hn42 p (by simp [hp])
     refine shO_L (lp (ln rfl)) ?_
     refine kO (kf (fS fO) kr) ?_
     refine om rfl rfl (ox rfl rfl rfl (ox rfl rfl rfl ?_))
     refine o_alloc rfl Try.zeroValue77 ?_; intro b52 hb52
     refine o_storeA (i := 0) Try.sizeOf77 rfl rfl rfl (List.forall_mem_cons.2 ⟨rfl, (List.forall_mem_cons.2 ⟨hp51.1, (fun _ h => absurd h List.not_mem_nil)⟩)⟩) rfl (Nat.le_of_ble_eq_true rfl) ?_
     refine shO_L (L' := (b52, .cells #[.slice a44 n48 c45, v50] 77 (0, 0)) :: ((b1, .cells #[.int .i64 wide, .slice plots_a plots.length plots_c] 27 (0, 0)) :: (Lb46 ++ []))) rfl ?_
     refine oa rfl rfl (nsr ?_)
     refine ov (v_loadA (cs := #[.slice a44 n48 c45, v50]) Try.isAgg77 Try.sizeOf77 rfl (Has.own 0 rfl) (Nat.le_of_ble_eq_true rfl) rfl) rfl ?_
     refine om rfl rfl ?_
     obtain ⟨g53, r54⟩ := gd_ok r39; clear r39
     obtain rfl := hp51.2 g53
     have hn55 : FnR Try.prog F40 77 #[] #[] (iE .i64) (Value.int .i64) (fun xx_ : Int => hear_ones xx_) := ⟨Try.call77, fun F2 h2 vs xx_ r ha hr => by obtain rfl := ha; exact hear_ones_w hr⟩
     obtain ⟨l3, n3, h56, r57⟩ := b2_ok r54; clear r54
     refine o_callTO (Lb := []) (Lt := Lb46 ++ []) (Lr := [(b52, .cells (#[.slice a44 n48 c45, .func (.func 77) #[] #[]]) 77 (0, 0)), (b1, .cells #[.int .i64 wide, .slice plots_a plots.length plots_c] 27 (0, 0))]) rfl Try.call48 rfl rfl rfl (pT ((fC (fC fP)).trans (pA pR)) (ln (lp (ln rfl)))) (fun F2 h2 h3 => by rw [(SlR.caps hz47).1]; exact hear_quarter_chosen_w (hz47.row (arE_ok (n := 30) (sz := 1) cB_ok) h2 (fun p hp => h3 p (List.mem_append_left _ hp))) (hn55.mono h2) h56) (fun _ _ _ _ hq => by obtain ⟨a62, n66, c63, Lb64, rfl, rfl, hz65⟩ := hq; exact ⟨_, _, _, _, rfl, rfl, hz65.flat (fun _ _ h => h)⟩) ?_; rintro _ F58 _ hF59 hd61 hn60 ⟨a62, n66, c63, Lb64, rfl, rfl, hz65⟩
     refine shO_L (lp (ln (lp (ln rfl)))) ?_
     refine kO (kf (fS (fS fO)) (kf (fS (fS fO)) kr)) ?_
     refine om rfl rfl (ox rfl rfl rfl (ox rfl rfl rfl (oa rfl rfl (oa rfl rfl (nsr (om rfl rfl (om rfl rfl ?_)))))))
     refine ov (v_lenS Try.underlying36 rfl) rfl ?_
     refine ov (v_eql rfl rfl) rfl ?_
     refine shO_nil ?_
     refine shW_condP rfl (fun c69 => ?_) (fun c69 => ?_)
     · have r70 := ite_t r57 c69; clear r57
       refine wsr (om rfl rfl ?_)
       refine ov (v_add rfl rfl (Ctr.r64 hk29 c36 g27)) rfl ?_
       refine oa rfl rfl (shO_nil (shW_exit ?_))
       refine inBlock_other rfl ?_
       refine andThen_exit (andThen_exit ?_)
       refine inBlock_exit ?_
       obtain rfl := inj1 r70
       exact mi kn ⟨((hF34.trans hF41).trans hF59), rfl, (sc rfl (sn _))⟩
     have r71 := ite_f r57 c69; clear r57
     refine shW_skip (inBlock_n (id := 1) (shW_region ?_))
     refine ov (v_add rfl rfl (Ctr.r64 hk29 c36 g27)) rfl ?_
     refine om rfl rfl (shO_nil ?_)
     exact le (kd (kc kn)) ⟨_, hk37, r71, ((hF34.trans hF41).trans hF59), rfl, (sc rfl (sc rfl (sc rfl (sc rfl (sc rfl (sc rfl (sn _)))))))⟩
   obtain rfl := Ctr.zero hk29 c36
   rw [hear_Louder_l1] at r31
   refine shW_exit (andThen_exit (andThen_exit ?_))
   refine inBlock_exit ?_
   obtain rfl := inj1 r31
   exact mi kn ⟨hF34, rfl, (sc rfl (sn _))⟩
 rintro e1 F73 _ ⟨hF74, rfl, he72⟩
 refine shW_env _ he72 ?_; clear he72
 refine shW_seq (wsr (om rfl rfl ?_))
 refine ov (v_eql rfl rfl) rfl ?_
 refine shO_nil ?_
 refine shW_condP rfl (fun c75 => ?_) (fun c75 => ?_)
 · have r76 := ite_t r26 c75; clear r26
   refine wsr (oa rfl rfl (oa rfl rfl (shO_nil (shW_ret (andThen_ret (noGoto_ret ?_))))))
   refine q_res2 Try.results17 (res_tmp rfl) (res_tmp rfl) (sr) ?_
   obtain ⟨rfl, rfl⟩ := inj2 r76
   exact rfl
 have r77 := ite_f r26 c75; clear r26
 refine shW_skip (wsr (om rfl rfl (oa rfl rfl (oa rfl rfl (shO_nil (shW_ret (noGoto_ret ?_)))))))
 refine q_res2 Try.results17 (res_tmp rfl) (res_tmp rfl) (sr) ?_
 obtain ⟨rfl, rfl⟩ := inj2 r77
 exact rfl
set_option maxHeartbeats 1000000 in
theorem slices_Equal_int_int_w {s1_a : Option Addr} {s1_c : Nat} {s1 : List Int} {s2_a : Option Addr} {s2_c : Nat} {s2 : List Int} {F : FS} (h_s1 : RowR 1 (iE .i64) F s1_a s1_c s1) (h_s2 : RowR 1 (iE .i64) F s2_a s2_c s2) {r : Bool} (hr : slices_Equal_int_int s1 s2 = some r) :
    SpecV Try.prog 73 #[.slice s1_a s1.length s1_c, .slice s2_a s2.length s2_c] F (.bool r) := by
 refine spec_of_shW (args := [.slice s1_a s1.length s1_c, .slice s2_a s2.length s2_c]) Try.func73 rfl Try.ntmps73 (Nat.le_of_ble_eq_true rfl) ?_
 intro K _ _; rw [slices_Equal_int_int] at hr
 refine wsr (oa rfl rfl (shO_nil (shW_seq (wsr (om rfl rfl ?_)))))
 refine ov (v_lenS Try.underlying36 rfl) rfl ?_
 refine om rfl rfl ?_
 refine ov (v_lenS Try.underlying36 rfl) rfl ?_
 refine ov (v_neq rfl rfl) rfl ?_
 refine shO_nil ?_
 refine shW_condP rfl (fun c1 => ?_) (fun c1 => ?_)
 · have r2 := ite_t hr c1; clear hr
   refine wsr (oa rfl rfl (shO_nil (shW_ret (andThen_ret ?_))))
   refine q_res1 Try.results73 (res_tmp rfl) (sr) ?_
   obtain rfl := inj1 r2
   exact rfl
 have r3 := ite_f hr c1; clear hr
 refine shW_skip ?_
 refine shW_join (fun e1 F1 L1 => slices_Equal_int_int_j1 = some r ∧ F = F1 ∧ L1 = [] ∧ e1.sub []) ?_ ?_
 · refine wsr (om rfl rfl ?_)
   refine ov (v_lenS Try.underlying36 rfl) rfl ?_
   refine om rfl rfl (shO_nil ?_)
   refine shW_block ?_
   refine shW_lp (fun fu2 e1 F1 L1 => ∃ (tl : List Int) (k : Int), tl.length = fu2 ∧ Lst s1 k tl ∧ slices_Equal_int_int_l2 s2 tl k = some r ∧ F = F1 ∧ L1 = [] ∧ e1.sub [(0, .slice s1_a s1.length s1_c), (1, .slice s2_a s2.length s2_c), (12, .int .i64 (s1.length : Int)), (13, .int .i64 k)]) _ (m0 kr ⟨_, _, rfl, Lst.start _, r3, rfl, rfl, (sc rfl (sc rfl (sc rfl (sc rfl (sn _)))))⟩) ?_
   rintro fu2 e1 _ _ ⟨tl, k, hn5, hk4, r6, rfl, rfl, he7⟩
   refine shW_env _ he7 ?_; clear he7
   refine wsr ?_
   refine ov (v_lssK rfl rfl) rfl ?_
   refine shO_nil (shW_seq ?_)
   refine shW_condP rfl (fun c9 => ?_) (fun c9 => ?_)
   · obtain ⟨x, tl2, rfl, hx11, g12, hk10⟩ := Lst.succ hk4 c9
     rw [slices_Equal_int_int_l2] at r6
     refine shW_skip (shW_seq ?_)
     refine shW_block ?_
     refine wsr (om rfl rfl (oa rfl rfl ?_))
     refine nsd (by kernel_rfl) (by kernel_rfl) (by kernel_rfl) ?_
     refine qm rfl rfl (qm rfl rfl ?_)
     obtain ⟨b13, o14, c15, vs16, ha17, hs18, hle19, rfl, hl20, hc21⟩ := RowR.at (iE_ok _) h_s1 ([]) g12.1 hx11
     refine qv (v_indexO Try.underlying36 Try.sizeOf3 rfl ha17 rfl g12) rfl ?_
     refine qv (v_load Try.isAgg3 rfl hs18 (hc21 0 (by decide))) rfl ?_
     refine qm rfl rfl (qm rfl rfl ?_)
     obtain ⟨x2, g22, hx23, r24⟩ := ix_ok r6; clear r6
     obtain ⟨b25, o26, c27, vs28, ha29, hs30, hle31, rfl, hl32, hc33⟩ := RowR.at (iE_ok _) h_s2 ([]) g22.1 hx23
     refine qv (v_indexO Try.underlying36 Try.sizeOf3 rfl ha29 rfl g22) rfl ?_
     refine qv (v_load Try.isAgg3 rfl hs30 (hc33 0 (by decide))) rfl ?_
     refine qv (v_neq rfl rfl) rfl ?_
     refine shQ_nil ?_
     refine shW_condP rfl (fun c34 => ?_) (fun c34 => ?_)
     · have r35 := ite_t r24 c34; clear r24
       refine wsr (oa rfl rfl (shO_nil (shW_ret (inBlock_ret (andThen_ret (andThen_ret (inBlock_ret (andThen_ret ?_))))))))
       refine q_res1 Try.results73 (res_tmp rfl) (sr) ?_
       obtain rfl := inj1 r35
       exact rfl
     have r36 := ite_f r24 c34; clear r24
     refine shW_skip (inBlock_n (id := 1) (shW_region ?_))
     refine ov (v_add rfl rfl (Lst.r64 hk4 c9 (RowR.lt h_s1))) rfl ?_
     refine om rfl rfl (shO_nil ?_)
     subst hn5; exact le kr ⟨_, _, rfl, hk10, r36, rfl, rfl, (sc rfl (sc rfl (sc rfl (sc rfl (sn _)))))⟩
   obtain rfl := Lst.zero hk4 c9
   rw [slices_Equal_int_int_l2] at r6
   refine shW_exit (andThen_exit (andThen_exit ?_))
   refine inBlock_exit ?_
   exact mi kr ⟨r6, rfl, rfl, (sn _)⟩
 rintro e1 _ _ ⟨r37, rfl, rfl, he38⟩
 refine shW_env _ he38 ?_; clear he38
 rw [slices_Equal_int_int_j1] at r37
 refine wsr (oa rfl rfl (shO_nil (shW_ret ?_)))
 refine q_res1 Try.results73 (res_tmp rfl) (sr) ?_
 obtain rfl := inj1 r37
 exact rfl
set_option maxHeartbeats 1000000 in
theorem oyezkit_Like_int_w {a_a : Option Addr} {a_c : Nat} {a : List Int} {b_a : Option Addr} {b_c : Nat} {b : List Int} {F : FS} (h_a : RowR 1 (iE .i64) F a_a a_c a) (h_b : RowR 1 (iE .i64) F b_a b_c b) {r : Bool} (hr : oyezkit_Like_int a b = some r) :
    SpecV Try.prog 37 #[.slice a_a a.length a_c, .slice b_a b.length b_c] F (.bool r) := by
 refine spec_of_shW (args := [.slice a_a a.length a_c, .slice b_a b.length b_c]) Try.func37 rfl Try.ntmps37 (Nat.le_of_ble_eq_true rfl) ?_
 intro K _ _; rw [oyezkit_Like_int] at hr
 refine wsr (oa rfl rfl (nsr (om rfl rfl (om rfl rfl ?_))))
 obtain ⟨ok, h1, r2⟩ := b1_ok hr; clear hr
 refine o_callV rfl Try.call73 rfl rfl rfl (slices_Equal_int_int_w h_a h_b h1) ?_
 refine oa rfl rfl (shO_nil (shW_ret ?_))
 refine q_res1 Try.results37 (res_tmp rfl) (sr) ?_
 obtain rfl := inj1 r2
 exact rfl
set_option maxHeartbeats 1000000 in
theorem oyezlaw01_Drawn_w {rows_a : Option Addr} {rows_c : Nat} {rows : List (List Int)} {F : FS} (h_rows : RowR 1 sE F rows_a rows_c rows) {r : Int} {r2 : List Int} (hr : oyezlaw01_Drawn rows = some (r, r2)) :
    SH.Spec Try.prog 57 #[.slice rows_a rows.length rows_c] F [] fun F' L' v => ∃ (r2a : Option Addr) (r2n : Nat) (r2c : Nat) (r2L : LH), v = .agg #[.int .i64 r, .slice r2a r2n r2c] ∧ L' = r2L ++ [] ∧ SlR 0 35 1 (iE .i64) F' r2a r2n r2c r2 r2L := by
 refine spec_of_shW (args := [.slice rows_a rows.length rows_c]) Try.func57 rfl Try.ntmps57 (Nat.le_of_ble_eq_true rfl) ?_
 intro K _ _; rw [oyezlaw01_Drawn] at hr
 refine wsr ?_
 refine o_alloc rfl Try.zeroValue27 ?_; intro b1 hb1
 refine nsr ?_
 refine o_alloc rfl Try.zeroValue27 ?_; intro b2 hb2
 refine shO_nil ?_
 obtain ⟨t_wide, t_plots, h9, r10⟩ := b2_ok hr; clear hr
 refine shW_join (fun e1 F1 L1 => ∃ (a3 : Option Addr) (n7 : Nat) (c4 : Nat) (Lb5 : LH), F = F1 ∧ L1 = ((b2, .cells #[.int .i64 t_wide, .slice a3 n7 c4] 27 (0, 0)) :: ((b1, .cells #[.int .i64 0, .slice none 0 0] 27 (0, 0)) :: (Lb5 ++ []))) ∧ e1.sub [(2, .pointer (some ⟨b1, 0, none⟩)), (3, .pointer (some ⟨b2, 0, none⟩))] ∧ SlR K.w0.heap.size 35 1 (iE .i64) F1 a3 n7 c4 t_plots Lb5) ?_ ?_
 · clear r10
   refine wsr (om rfl rfl ?_)
   refine ov (v_lenS Try.underlying124 rfl) rfl ?_
   refine om rfl rfl (shO_nil ?_)
   refine shW_block ?_
   refine shW_lp (fun fu1 e1 F1 L1 => ∃ (tl : List (List Int)) (k : Int), tl.length = fu1 ∧ Lst rows k tl ∧ ∃ (t_wide2 : Int) (t_plots2 : List Int) (a11 : Option Addr) (n15 : Nat) (c12 : Nat) (Lb13 : LH), oyezlaw01_Drawn_l1 tl t_wide2 t_plots2 = some (t_wide, t_plots) ∧ F = F1 ∧ L1 = ((b2, .cells #[.int .i64 t_wide2, .slice a11 n15 c12] 27 (0, 0)) :: ((b1, .cells #[.int .i64 0, .slice none 0 0] 27 (0, 0)) :: (Lb13 ++ []))) ∧ e1.sub [(2, .pointer (some ⟨b1, 0, none⟩)), (3, .pointer (some ⟨b2, 0, none⟩)), (9, .slice rows_a rows.length rows_c), (10, .int .i64 (rows.length : Int)), (11, .int .i64 k)] ∧ SlR K.w0.heap.size 35 1 (iE .i64) F1 a11 n15 c12 t_plots2 Lb13) _ (m0 (kc (kc (ke kr))) ⟨_, _, rfl, Lst.start _, 0, [], none, 0, 0, [], h9, rfl, rfl, (sc rfl (sc rfl (sc rfl (sc rfl (sc rfl (sn _)))))), SlR.nil _ _ _ _ _⟩) ?_
   rintro fu1 e1 _ _ ⟨tl, k, hn18, hk17, t_wide2, t_plots2, a11, n15, c12, Lb13, r19, rfl, rfl, he20, hz14⟩
   refine shW_env _ he20 ?_; clear he20
   refine wsr ?_
   refine ov (v_lssK rfl rfl) rfl ?_
   refine shO_nil (shW_seq ?_)
   refine shW_condP rfl (fun c22 => ?_) (fun c22 => ?_)
   · obtain ⟨x, tl2, rfl, hx24, g25, hk23⟩ := Lst.succ hk17 c22
     rw [oyezlaw01_Drawn_l1] at r19
     refine shW_skip ?_
     obtain ⟨t_plots3, h32, r33⟩ := b1_ok r19; clear r19
     refine shW_join (fun e1 F1 L1 => ∃ (a26 : Option Addr) (n30 : Nat) (c27 : Nat) (Lb28 : LH), F = F1 ∧ L1 = ((b2, .cells #[.int .i64 (x.length : Int), .slice a26 n30 c27] 27 (0, 0)) :: ((b1, .cells #[.int .i64 0, .slice none 0 0] 27 (0, 0)) :: (Lb28 ++ []))) ∧ e1.sub [(2, .pointer (some ⟨b1, 0, none⟩)), (3, .pointer (some ⟨b2, 0, none⟩)), (9, .slice rows_a rows.length rows_c), (10, .int .i64 (rows.length : Int)), (11, .int .i64 k)] ∧ SlR K.w0.heap.size 35 1 (iE .i64) F1 a26 n30 c27 t_plots3 Lb28) ?_ ?_
     · clear r33
       refine shW_block ?_
       refine wsr ?_
       obtain ⟨b34, o35, c36, vs37, ha38, hs39, hle40, rfl, hl41, hc42⟩ := RowR.at sE_ok h_rows ((b2, .cells #[.int .i64 t_wide2, .slice a11 n15 c12] 27 (0, 0)) :: ((b1, .cells #[.int .i64 0, .slice none 0 0] 27 (0, 0)) :: (Lb13 ++ []))) g25.1 hx24
       refine ov (v_indexO Try.underlying124 Try.sizeOf9 rfl ha38 rfl g25) rfl ?_
       refine ov (v_load Try.isAgg9 rfl hs39 (hc42 0 (by decide))) rfl ?_
       refine oa rfl rfl (nsr (om rfl rfl ?_))
       refine ov (v_lenStr Try.underlying9 rfl) rfl ?_
       refine ov (v_fieldAddr fa_27_0 rfl) rfl ?_
       refine o_store (i := 0) Try.sizeOf3 rfl rfl rfl rfl (Nat.le_of_ble_eq_true rfl) ?_
       refine shO_L (L' := (b2, .cells #[.int .i64 (x.length : Int), .slice a11 n15 c12] 27 (0, 0)) :: ((b1, .cells #[.int .i64 0, .slice none 0 0] 27 (0, 0)) :: (Lb13 ++ []))) rfl ?_
       refine nsr (om rfl rfl ?_)
       refine o_rangeStr (s := x) rfl Try.underlying9 rfl ?_; intro b43 hb43
       refine shO_nil ?_
       refine shW_block ?_
       refine shW_lp (fun fu2 e1 F1 L1 => ∃ (t_plots4 : List Int) (pos : Nat) (a44 : Option Addr) (n48 : Nat) (c45 : Nat) (Lb46 : LH), oyezlaw01_Drawn_l2 x fu2 t_plots4 pos = some t_plots3 ∧ F = F1 ∧ L1 = ((b43, .stringIter (sB x) pos) :: ((b2, .cells #[.int .i64 (x.length : Int), .slice a44 n48 c45] 27 (0, 0)) :: ((b1, .cells #[.int .i64 0, .slice none 0 0] 27 (0, 0)) :: (Lb46 ++ [])))) ∧ e1.sub [(2, .pointer (some ⟨b1, 0, none⟩)), (3, .pointer (some ⟨b2, 0, none⟩)), (9, .slice rows_a rows.length rows_c), (10, .int .i64 (rows.length : Int)), (11, .int .i64 k), (19, .pointer (some ⟨b43, 0, none⟩))] ∧ SlR K.w0.heap.size 35 1 (iE .i64) F1 a44 n48 c45 t_plots4 Lb46) FU (m0 kr ⟨t_plots2, 0, a11, n15, c12, Lb13, h32, rfl, rfl, (sc rfl (sc rfl (sc rfl (sc rfl (sc rfl (sc rfl (sn _))))))), hz14⟩) ?_
       rintro fu2 e1 _ _ ⟨t_plots4, pos, a44, n48, c45, Lb46, r52, rfl, rfl, he53, hz47⟩
       refine shW_env _ he53 ?_; clear he53
       rcases fu2 with _ | fu2
       · rw [oyezlaw01_Drawn_l2] at r52; cases r52
       rw [oyezlaw01_Drawn_l2] at r52
       refine wsr ?_
       by_cases c54 : pos < x.length
       · have r55 := ite_t r52 c54; clear r52
         obtain ⟨c, g56, hx57, r58⟩ := ix_ok r55; clear r55
         obtain ⟨g59, r60⟩ := gd_ok r58; clear r58
         refine o_nextStr (i := 0) (c := c) rfl rfl rfl (by simpa using hx57) g59 ?_
         refine shO_L (L' := (b43, .stringIter (sB x) (pos + 1)) :: ((b2, .cells #[.int .i64 (x.length : Int), .slice a44 n48 c45] 27 (0, 0)) :: ((b1, .cells #[.int .i64 0, .slice none 0 0] 27 (0, 0)) :: (Lb46 ++ [])))) rfl ?_
         refine ox rfl rfl rfl (shO_nil (shW_seq ?_))
         refine shW_cond rfl (fun c61 => ?_) (fun c61 => nomatch c61)
         refine shW_skip ?_
         refine shW_block ?_
         refine wsr (ox rfl rfl rfl (oa rfl rfl (nsr (oa rfl rfl (shO_nil ?_)))))
         obtain ⟨p, h62, r63⟩ := b1_ok r60; clear r60
         refine shW_join (fun e1 F1 L1 => F = F1 ∧ L1 = ((b43, .stringIter (sB x) (pos + 1)) :: ((b2, .cells #[.int .i64 (x.length : Int), .slice a44 n48 c45] 27 (0, 0)) :: ((b1, .cells #[.int .i64 0, .slice none 0 0] 27 (0, 0)) :: (Lb46 ++ [])))) ∧ e1.sub [(2, .pointer (some ⟨b1, 0, none⟩)), (3, .pointer (some ⟨b2, 0, none⟩)), (7, .int .i32 c), (8, .int .i64 p), (9, .slice rows_a rows.length rows_c), (10, .int .i64 (rows.length : Int)), (11, .int .i64 k), (19, .pointer (some ⟨b43, 0, none⟩))]) ?_ ?_
         · clear r63
           refine wsr (om rfl rfl ?_)
           refine ov (v_eql rfl rfl) rfl ?_
           refine shO_nil ?_
           refine shW_condP rfl (fun c64 => ?_) (fun c64 => ?_)
           · have r65 := ite_t h62 c64; clear h62
             refine shW_region (oa rfl rfl (shO_nil ?_))
             obtain rfl := inj1 r65
             exact mi kr ⟨rfl, rfl, (sc rfl (sc rfl (sc rfl (sc rfl (sc rfl (sc rfl (sc rfl (sc rfl (sn _)))))))))⟩
           have r66 := ite_f h62 c64; clear h62
           refine shW_skip ?_
           obtain rfl := inj1 r66
           exact mi kr ⟨rfl, rfl, (sc rfl (sc rfl (sc rfl (sc rfl (sc rfl (sc rfl (sc rfl (sc rfl (sn _)))))))))⟩
         rintro e1 _ _ ⟨rfl, rfl, he67⟩
         refine shW_env _ he67 ?_; clear he67
         obtain ⟨p2, h68, r69⟩ := b1_ok r63; clear r63
         refine shW_join (fun e1 F1 L1 => F = F1 ∧ L1 = ((b43, .stringIter (sB x) (pos + 1)) :: ((b2, .cells #[.int .i64 (x.length : Int), .slice a44 n48 c45] 27 (0, 0)) :: ((b1, .cells #[.int .i64 0, .slice none 0 0] 27 (0, 0)) :: (Lb46 ++ [])))) ∧ e1.sub [(2, .pointer (some ⟨b1, 0, none⟩)), (3, .pointer (some ⟨b2, 0, none⟩)), (8, .int .i64 p2), (9, .slice rows_a rows.length rows_c), (10, .int .i64 (rows.length : Int)), (11, .int .i64 k), (19, .pointer (some ⟨b43, 0, none⟩))]) ?_ ?_
         · clear r69
           refine wsr (om rfl rfl ?_)
           refine ov (v_eql rfl rfl) rfl ?_
           refine shO_nil ?_
           refine shW_condP rfl (fun c70 => ?_) (fun c70 => ?_)
           · have r71 := ite_t h68 c70; clear h68
             refine shW_region (oa rfl rfl (shO_nil ?_))
             obtain rfl := inj1 r71
             exact mi kr ⟨rfl, rfl, (sc rfl (sc rfl (sc rfl (sc rfl (sc rfl (sc rfl (sc rfl (sn _))))))))⟩
           have r72 := ite_f h68 c70; clear h68
           refine shW_skip ?_
           obtain rfl := inj1 r72
           exact mi kr ⟨rfl, rfl, (sc rfl (sc rfl (sc rfl (sc rfl (sc rfl (sc rfl (sc rfl (sn _))))))))⟩
         rintro e1 _ _ ⟨rfl, rfl, he73⟩
         refine shW_env _ he73 ?_; clear he73
         refine shW_region ?_
         refine ov (v_fieldAddr fa_27_1 rfl) rfl ?_
         refine ov (v_load Try.isAgg25 rfl (Has.own 1 rfl) rfl) rfl ?_
         refine om rfl rfl ?_
         refine o_buildSlice (cs := #[.int .i64 p2]) rfl rfl (buildSlice_all slt_25 [.int .i64 p2] rfl (by decide) (by simp [Value.cells]) (by decide)) ?_; intro b74 hb74
         obtain ⟨t, h75, g76, r77⟩ := ap_ok r69; clear r69
         refine o_appZ (xs := t_plots4) (ys := [p2]) (zs := t) rfl slt_25 rfl rfl (Nat.le_refl _) (fun _ => .c (.c (.c (.c .h)))) hz47 (SrcR.box (vss := [[.int .i64 p2]]) (ys := [p2]) 0 rfl (iE_ok _) (.cons rfl .nil) rfl rfl) h75 g76 (by decide) ?_; intro a78 n82 c79 Lb80 hz81
         refine kO (kd kr) ?_
         refine ov (v_fieldAddr fa_27_1 rfl) rfl ?_
         refine o_store (i := 1) Try.sizeOf25 rfl rfl rfl rfl (Nat.le_of_ble_eq_true rfl) ?_
         refine shO_L (L' := (b43, .stringIter (sB x) (pos + 1)) :: ((b2, .cells #[.int .i64 (x.length : Int), .slice a78 n82 c79] 27 (0, 0)) :: ((b1, .cells #[.int .i64 0, .slice none 0 0] 27 (0, 0)) :: (Lb80 ++ [])))) rfl ?_
         refine shO_nil (inBlock_n (id := 3) ?_)
         exact le kr ⟨t, pos + 1, a78, n82, c79, Lb80, r77, rfl, rfl, (sc rfl (sc rfl (sc rfl (sc rfl (sc rfl (sc rfl (sn _))))))), hz81⟩
       have r84 := ite_f r52 c54; clear r52
       refine o_nextStr0 (i := 0) (s := x) rfl rfl rfl c54 ?_
       refine ox rfl rfl rfl (shO_nil (shW_seq ?_))
       refine shW_cond rfl (fun c85 => nomatch c85) (fun c85 => ?_)
       refine shW_exit (andThen_exit (andThen_exit ?_))
       refine inBlock_exit ?_
       refine inBlock_n (id := 1) ?_
       obtain rfl := inj1 r84
       exact mi (kd kr) ⟨a44, n48, c45, Lb46, rfl, rfl, (sc rfl (sc rfl (sc rfl (sc rfl (sc rfl (sn _)))))), hz47⟩
     rintro e1 _ _ ⟨a26, n30, c27, Lb28, rfl, rfl, he86, hz29⟩
     refine shW_env _ he86 ?_; clear he86
     refine shW_region ?_
     refine ov (v_add rfl rfl (Lst.r64 hk17 c22 (RowR.lt h_rows))) rfl ?_
     refine om rfl rfl (shO_nil ?_)
     subst hn18; exact le kr ⟨_, _, rfl, hk23, (x.length : Int), t_plots3, a26, n30, c27, Lb28, r33, rfl, rfl, (sc rfl (sc rfl (sc rfl (sc rfl (sc rfl (sn _)))))), hz29⟩
   obtain rfl := Lst.zero hk17 c22
   rw [oyezlaw01_Drawn_l1] at r19
   refine shW_exit (andThen_exit (andThen_exit ?_))
   refine inBlock_exit ?_
   obtain ⟨rfl, rfl⟩ := inj2 r19
   exact mi kr ⟨a11, n15, c12, Lb13, rfl, rfl, (sc rfl (sc rfl (sn _))), hz14⟩
 rintro e1 _ _ ⟨a3, n7, c4, Lb5, rfl, rfl, he87, hz6⟩
 refine shW_env _ he87 ?_; clear he87
 refine wsr ?_
 refine ov (v_loadA (cs := #[.int .i64 t_wide, .slice a3 n7 c4]) Try.isAgg27 Try.sizeOf27 rfl (Has.own 0 rfl) (Nat.le_of_ble_eq_true rfl) rfl) rfl ?_
 refine o_storeA (i := 1) Try.sizeOf27 rfl rfl rfl (by simp [Value.oneCell']) rfl (Nat.le_of_ble_eq_true rfl) ?_
 refine shO_L (L' := (b2, .cells #[.int .i64 t_wide, .slice a3 n7 c4] 27 (0, 0)) :: ((b1, .cells #[.int .i64 t_wide, .slice a3 n7 c4] 27 (0, 0)) :: (Lb5 ++ []))) rfl ?_
 refine shO_nil ?_
 refine kW (kd kr) ?_
 refine shW_ret ?_
 refine q_res1 Try.results57 (res_cellA (cs := #[.int .i64 t_wide, .slice a3 n7 c4]) Try.isAgg27 Try.sizeOf27 rfl (Has.own 0 rfl) (Nat.le_of_ble_eq_true rfl) rfl) (s1 (s4 sr)) ?_
 obtain ⟨rfl, rfl⟩ := inj2 r10
 exact ⟨_, _, _, _, rfl, rfl, hz6.any⟩
set_option maxHeartbeats 1000000 in
theorem hear_Holds_w {wide : Int} {plots_a : Option Addr} {plots_c : Nat} {plots : List Int} {wind : Int} {stand : Int} {table_a : Option Addr} {table_c : Nat} {table : List Int} {F : FS} (h_plots : RowR 1 (iE .i64) F plots_a plots_c plots) (h_table : RowR 1 (iE .i64) F table_a table_c table) {r : Bool} {r2 : Int} (hr : hear_Holds wide plots wind stand table = some (r, r2)) :
    SpecV Try.prog 58 #[.agg #[.int .i64 wide, .slice plots_a plots.length plots_c], .int .i64 wind, .int .i64 stand, .slice table_a table.length table_c] F (.tuple #[.bool r, .int .i64 r2]) := by
 refine spec_of_shW (args := [.agg #[.int .i64 wide, .slice plots_a plots.length plots_c], .int .i64 wind, .int .i64 stand, .slice table_a table.length table_c]) Try.func58 rfl Try.ntmps58 (Nat.le_of_ble_eq_true rfl) ?_
 intro K _ _; rw [hear_Holds] at hr
 refine wsr ?_
 refine o_box rfl rfl ?_; intro b1 hb1
 refine o_box rfl rfl ?_; intro b2 hb2
 refine o_alloc rfl Try.zeroValue4 ?_; intro b3 hb3
 refine o_alloc rfl Try.zeroValue38 ?_; intro b4 hb4
 refine nsr ?_
 refine ov (v_loadA (cs := #[.int .i64 wide, .slice plots_a plots.length plots_c]) Try.isAgg27 Try.sizeOf27 rfl (Has.own 3 rfl) (Nat.le_of_ble_eq_true rfl) rfl) rfl ?_
 refine om rfl rfl (om rfl rfl ?_)
 obtain ⟨d, n, h5, r6⟩ := b2_ok hr; clear hr
 refine o_call0 rfl Try.call42 rfl rfl rfl (hear_standing_w h_plots h5) ?_; rintro _ F7 _ hF8 hn9 ⟨v11, rfl, rfl, hp12⟩
 replace h_plots := h_plots.mono (iE_ok _) hF8
 replace h_table := h_table.mono (iE_ok _) hF8
 refine shO_L (ln rfl) ?_
 refine om rfl rfl (ox rfl rfl rfl (ox rfl rfl rfl (oa rfl rfl (oa rfl rfl (shO_nil (shW_seq ?_))))))
 refine shW_block ?_
 refine wsr (om rfl rfl ?_)
 refine ov (v_neq rfl rfl) rfl ?_
 refine oa rfl rfl (shO_nil ?_)
 refine shW_condP rfl (fun c13 => ?_) (fun c13 => ?_)
 · have r14 := ite_t r6 c13; clear r6
   refine wsr (om rfl rfl ?_)
   refine o_store (i := 1) Try.sizeOf4 rfl rfl rfl rfl (Nat.le_of_ble_eq_true rfl) ?_
   refine shO_L (L' := [(b4, .cells #[.int .i64 0] 38 (0, 0)), (b3, .cells #[.bool false] 4 (0, 0)), (b2, .cells #[.slice table_a table.length table_c] 36 (0, 0)), (b1, .cells #[.int .i64 wide, .slice plots_a plots.length plots_c] 27 (0, 0))]) rfl ?_
   refine o_store (i := 0) Try.sizeOf38 rfl rfl rfl rfl (Nat.le_of_ble_eq_true rfl) ?_
   refine shO_L (L' := [(b4, .cells #[.int .i64 n] 38 (0, 0)), (b3, .cells #[.bool false] 4 (0, 0)), (b2, .cells #[.slice table_a table.length table_c] 36 (0, 0)), (b1, .cells #[.int .i64 wide, .slice plots_a plots.length plots_c] 27 (0, 0))]) rfl ?_
   refine shO_nil ?_
   refine kW (kc (kc kn)) ?_
   refine shW_ret (inBlock_ret (andThen_ret ?_))
   refine q_res2 Try.results58 (res_cell Try.isAgg4 rfl (Has.own 1 rfl) rfl) (res_cell Try.isAgg38 rfl (Has.own 0 rfl) rfl) (s1 (s1 sr)) ?_
   obtain ⟨rfl, rfl⟩ := inj2 r14
   exact rfl
 have r15 := ite_f r6 c13; clear r6
 refine wsr ?_
 refine ov (v_load Try.isAgg36 rfl (Has.own 2 rfl) rfl) rfl ?_
 refine ov (v_lenS Try.underlying36 rfl) rfl ?_
 refine ov (v_fieldAddr fa_27_1 rfl) rfl ?_
 refine ov (v_load Try.isAgg25 rfl (Has.own 3 rfl) rfl) rfl ?_
 refine ov (v_lenS Try.underlying25 rfl) rfl ?_
 refine ov (v_neq rfl rfl) rfl ?_
 refine oa rfl rfl (shO_nil ?_)
 refine shW_condP rfl (fun c16 => ?_) (fun c16 => ?_)
 · have r17 := ite_t r15 c16; clear r15
   refine wsr ?_
   refine o_store (i := 1) Try.sizeOf4 rfl rfl rfl rfl (Nat.le_of_ble_eq_true rfl) ?_
   refine shO_L (L' := [(b4, .cells #[.int .i64 0] 38 (0, 0)), (b3, .cells #[.bool false] 4 (0, 0)), (b2, .cells #[.slice table_a table.length table_c] 36 (0, 0)), (b1, .cells #[.int .i64 wide, .slice plots_a plots.length plots_c] 27 (0, 0))]) rfl ?_
   refine o_store (i := 0) Try.sizeOf38 rfl rfl rfl rfl (Nat.le_of_ble_eq_true rfl) ?_
   refine shO_L (L' := [(b4, .cells #[.int .i64 2] 38 (0, 0)), (b3, .cells #[.bool false] 4 (0, 0)), (b2, .cells #[.slice table_a table.length table_c] 36 (0, 0)), (b1, .cells #[.int .i64 wide, .slice plots_a plots.length plots_c] 27 (0, 0))]) rfl ?_
   refine shO_nil ?_
   refine kW (kc (kc kn)) ?_
   refine shW_ret (inBlock_ret (andThen_ret ?_))
   refine q_res2 Try.results58 (res_cell Try.isAgg4 rfl (Has.own 1 rfl) rfl) (res_cell Try.isAgg38 rfl (Has.own 0 rfl) rfl) (s1 (s1 sr)) ?_
   obtain ⟨rfl, rfl⟩ := inj2 r17
   exact rfl
 have r18 := ite_f r15 c16; clear r15
 refine wsr ?_
 refine ov (v_load Try.isAgg36 rfl (Has.own 2 rfl) rfl) rfl ?_
 refine om rfl rfl ?_
 obtain ⟨x, g19, hx20, r21⟩ := ix_ok r18; clear r18
 obtain ⟨b22, o23, c24, vs25, ha26, hs27, hle28, rfl, hl29, hc30⟩ := RowR.at (iE_ok _) h_table ([(b4, .cells #[.int .i64 0] 38 (0, 0)), (b3, .cells #[.bool false] 4 (0, 0)), (b2, .cells #[.slice table_a table.length table_c] 36 (0, 0)), (b1, .cells #[.int .i64 wide, .slice plots_a plots.length plots_c] 27 (0, 0))]) g19.1 hx20
 refine ov (v_indexO Try.underlying36 Try.sizeOf3 rfl ha26 rfl g19) rfl ?_
 refine ov (v_load Try.isAgg3 rfl hs27 (hc30 0 (by decide))) rfl ?_
 refine ov (v_neq rfl rfl) rfl ?_
 refine oa rfl rfl (shO_nil ?_)
 refine shW_condP rfl (fun c31 => ?_) (fun c31 => ?_)
 · have r32 := ite_t r21 c31; clear r21
   refine wsr ?_
   refine o_store (i := 1) Try.sizeOf4 rfl rfl rfl rfl (Nat.le_of_ble_eq_true rfl) ?_
   refine shO_L (L' := [(b4, .cells #[.int .i64 0] 38 (0, 0)), (b3, .cells #[.bool false] 4 (0, 0)), (b2, .cells #[.slice table_a table.length table_c] 36 (0, 0)), (b1, .cells #[.int .i64 wide, .slice plots_a plots.length plots_c] 27 (0, 0))]) rfl ?_
   refine o_store (i := 0) Try.sizeOf38 rfl rfl rfl rfl (Nat.le_of_ble_eq_true rfl) ?_
   refine shO_L (L' := [(b4, .cells #[.int .i64 0] 38 (0, 0)), (b3, .cells #[.bool false] 4 (0, 0)), (b2, .cells #[.slice table_a table.length table_c] 36 (0, 0)), (b1, .cells #[.int .i64 wide, .slice plots_a plots.length plots_c] 27 (0, 0))]) rfl ?_
   refine shO_nil ?_
   refine kW (kc (kc kn)) ?_
   refine shW_ret (inBlock_ret (andThen_ret ?_))
   refine q_res2 Try.results58 (res_cell Try.isAgg4 rfl (Has.own 1 rfl) rfl) (res_cell Try.isAgg38 rfl (Has.own 0 rfl) rfl) (s1 (s1 sr)) ?_
   obtain ⟨rfl, rfl⟩ := inj2 r32
   exact rfl
 have r33 := ite_f r21 c31; clear r21
 refine shW_skip (inBlock_n (id := 0) ?_)
 refine shW_join (fun e1 F1 L1 => hear_Holds_j1 = some (r, r2) ∧ FExt F7 F1 ∧ L1 = [(b4, .cells #[.int .i64 0] 38 (0, 0)), (b3, .cells #[.bool false] 4 (0, 0))] ∧ e1.sub [(8, .pointer (some ⟨b3, 0, none⟩)), (9, .pointer (some ⟨b4, 0, none⟩))]) ?_ ?_
 · refine wsr ?_
   refine ov (v_fieldAddr fa_27_1 rfl) rfl ?_
   refine ov (v_load Try.isAgg25 rfl (Has.own 3 rfl) rfl) rfl ?_
   refine ov (v_lenS Try.underlying25 rfl) rfl ?_
   refine om rfl rfl (shO_nil ?_)
   refine shW_block ?_
   refine shW_lp (fun fu2 e1 F1 L1 => ∃ (tl : List Int) (k : Int), tl.length = fu2 ∧ Lst plots k tl ∧ ∃ (v34 : Value), hear_Holds_l2 wide plots table d tl k = some (r, r2) ∧ FExt F7 F1 ∧ L1 = [(b4, .cells #[.int .i64 0] 38 (0, 0)), (b3, .cells #[.bool false] 4 (0, 0)), (b2, .cells #[.slice table_a table.length table_c] 36 (0, 0)), (b1, .cells #[.int .i64 wide, .slice plots_a plots.length plots_c] 27 (0, 0))] ∧ e1.sub [(4, .pointer (some ⟨b1, 0, none⟩)), (7, .pointer (some ⟨b2, 0, none⟩)), (8, .pointer (some ⟨b3, 0, none⟩)), (9, .pointer (some ⟨b4, 0, none⟩)), (10, v34), (41, .int .i64 (plots.length : Int)), (42, .int .i64 k)] ∧ PtrR 113 (prE (iE .i64) (prE (slE 1 (iE .i64)) (prE (iE .i64) (prE (iE .i64) bE)))) F1 v34 d) _ (m0 kr ⟨_, _, rfl, Lst.start _, v11, r33, FExt.refl _, rfl, (sc rfl (sc rfl (sc rfl (sc rfl (sc rfl (sc rfl (sc rfl (sn _)))))))), hp12⟩) ?_
   rintro fu2 e1 F40 _ ⟨tl, k, hn37, hk36, v34, r38, hF41, rfl, he39, hp35⟩
   refine shW_env _ he39 ?_; clear he39
   replace h_plots := h_plots.mono (iE_ok _) hF41
   replace h_table := h_table.mono (iE_ok _) hF41
   refine wsr ?_
   refine ov (v_lssK rfl rfl) rfl ?_
   refine shO_nil (shW_seq ?_)
   refine shW_condP rfl (fun c43 => ?_) (fun c43 => ?_)
   · obtain ⟨x2, tl2, rfl, hx45, g46, hk44⟩ := Lst.succ hk36 c43
     rw [hear_Holds_l2] at r38
     refine shW_skip ?_
     refine shW_join (fun e1 F1 L1 => ∃ (v47 : Value), hear_Holds_j3 k (hear_Holds_l2 wide plots table d tl2) = some (r, r2) ∧ FExt F40 F1 ∧ L1 = [(b4, .cells #[.int .i64 0] 38 (0, 0)), (b3, .cells #[.bool false] 4 (0, 0)), (b2, .cells #[.slice table_a table.length table_c] 36 (0, 0)), (b1, .cells #[.int .i64 wide, .slice plots_a plots.length plots_c] 27 (0, 0))] ∧ e1.sub [(4, .pointer (some ⟨b1, 0, none⟩)), (7, .pointer (some ⟨b2, 0, none⟩)), (8, .pointer (some ⟨b3, 0, none⟩)), (9, .pointer (some ⟨b4, 0, none⟩)), (10, v47), (41, .int .i64 (plots.length : Int)), (42, .int .i64 k)] ∧ PtrR 113 (prE (iE .i64) (prE (slE 1 (iE .i64)) (prE (iE .i64) (prE (iE .i64) bE)))) F1 v47 d) ?_ ?_
     · refine shW_block ?_
       refine wsr (om rfl rfl ?_)
       refine o_alloc rfl Try.zeroValue3 ?_; intro b49 hb49
       refine o_store (i := 0) Try.sizeOf3 rfl rfl rfl rfl (Nat.le_of_ble_eq_true rfl) ?_
       refine shO_L (L' := [(b49, .cells #[.int .i64 k] 3 (0, 0)), (b4, .cells #[.int .i64 0] 38 (0, 0)), (b3, .cells #[.bool false] 4 (0, 0)), (b2, .cells #[.slice table_a table.length table_c] 36 (0, 0)), (b1, .cells #[.int .i64 wide, .slice plots_a plots.length plots_c] 27 (0, 0))]) rfl ?_
       refine nsr (om rfl rfl ?_)
       refine ov (v_load Try.isAgg3 rfl (Has.own 0 rfl) rfl) rfl ?_
       obtain ⟨wide2, plots2, down, right_, blows, h50, r51⟩ := b5_ok r38; clear r38
       have h60 := hp35; rw [h50] at h60; obtain ⟨b52, c53, m54, hv55, hz56, ⟨_, _, rfl, rfl, ⟨_, _, rfl, ⟨a57, c58, rfl, h59⟩, ⟨_, _, rfl, rfl, ⟨_, _, rfl, rfl, rfl⟩⟩⟩⟩⟩ := h60; subst hv55
       have hz56 : F40 b52 = some (.cells #[.int .i64 wide2, .slice a57 plots2.length c58, .int .i64 down, .int .i64 right_, .bool blows] 113 m54) := hz56
       obtain ⟨y, h61, r62⟩ := b1_ok r51; clear r51
       refine o_call0 rfl Try.call75 rfl rfl rfl (hear_desk_next_w hz56 h59 h61) ?_; rintro _ F63 _ hF64 hn65 ⟨cp67, rfl, rfl, hit68⟩
       replace h_plots := h_plots.mono (iE_ok _) hF64
       replace h_table := h_table.mono (iE_ok _) hF64
       replace hp35 := hp35.mono (prE_ok (iE_ok _) (prE_ok (slE_ok (iE_ok _)) (prE_ok (iE_ok _) (prE_ok (iE_ok _) bE_ok)))) hF64
       refine shO_L (ln rfl) ?_
       refine shO_nil ?_
       refine shW_block ?_
       refine shW_rangeFunc (encs := (fun x : Int × Int => #[.int .i64 x.1, .int .i64 x.2])) (xs := y) rfl Try.call97 rfl (fun _ => rfl) hit68 (fun pre F1 L1 => ∃ (tl3 : List (Int × Int)), y = pre ++ tl3 ∧ hear_Holds_l4 wide plots table k (hear_Holds_l2 wide plots table d tl2) tl3 = some (r, r2) ∧ L1 = [(b49, .cells #[.int .i64 k] 3 (0, 0)), (b4, .cells #[.int .i64 0] 38 (0, 0)), (b3, .cells #[.bool false] 4 (0, 0)), (b2, .cells #[.slice table_a table.length table_c] 36 (0, 0)), (b1, .cells #[.int .i64 wide, .slice plots_a plots.length plots_c] 27 (0, 0))]) (fun c F1 L1 => c = .ret ∧ hear_Holds_j5 = some (r, r2) ∧ L1 = [(b4, .cells #[.int .i64 0] 38 (0, 0)), (b3, .cells #[.bool false] 4 (0, 0))]) ?_ ?_ ?_ ?_ ?_ ?_
       · rintro pre F1 F2 L1 ⟨tl3, hs69, r70, rfl⟩ hx; exact ⟨tl3, hs69, r70, rfl⟩
       · rintro c F1 F2 L1 ⟨rfl, hq, rfl⟩ hx; exact ⟨rfl, hq, rfl⟩
       · exact ⟨_, rfl, r62, rfl⟩
       · rintro l71 wr72 Fr73 Xr74 Ha75 Hb76 hnb77 hH81 pre x3 tl4 hxs80 F78 _ hF79 ⟨tl3, hs69, r82, rfl⟩
         obtain rfl := rest_head hs69 hxs80
         rw [hear_Holds_l4] at r82
         replace h_plots := h_plots.mono (iE_ok _) hF79
         replace h_table := h_table.mono (iE_ok _) hF79
         refine shW_env [(4, .pointer (some ⟨b1, 0, none⟩)), (7, .pointer (some ⟨b2, 0, none⟩)), (8, .pointer (some ⟨b3, 0, none⟩)), (9, .pointer (some ⟨b4, 0, none⟩)), (10, .pointer (some ⟨b52, 0, none⟩)), (12, .pointer (some ⟨b49, 0, none⟩)), (41, .int .i64 (plots.length : Int)), (42, .int .i64 k), (48, .int .i64 x3.1), (49, .int .i64 x3.2)] (by exact (sc rfl (sc rfl (sc rfl (sc rfl (sc rfl (sc rfl (sc rfl (sc rfl (sc rfl (sc rfl (sn _)))))))))))) ?_
         refine wsr (oa rfl rfl (shO_nil (shW_region (oa rfl rfl (shO_nil ?_)))))
         refine ⟨rfl, ?_⟩
         refine shW_block ?_
         obtain ⟨k2, h83, r84⟩ := b1_ok r82; clear r82
         refine shW_join (fun e1 F1 L1 => F78 = F1 ∧ L1 = [(b49, .cells #[.int .i64 k] 3 (0, 0)), (b4, .cells #[.int .i64 0] 38 (0, 0)), (b3, .cells #[.bool false] 4 (0, 0)), (b2, .cells #[.slice table_a table.length table_c] 36 (0, 0)), (b1, .cells #[.int .i64 wide, .slice plots_a plots.length plots_c] 27 (0, 0))] ∧ e1.sub [(4, .pointer (some ⟨b1, 0, none⟩)), (7, .pointer (some ⟨b2, 0, none⟩)), (8, .pointer (some ⟨b3, 0, none⟩)), (9, .pointer (some ⟨b4, 0, none⟩)), (10, .pointer (some ⟨b52, 0, none⟩)), (12, .pointer (some ⟨b49, 0, none⟩)), (41, .int .i64 (plots.length : Int)), (42, .int .i64 k), (48, .int .i64 x3.1), (49, .int .i64 x3.2), (80, .bool k2)]) ?_ ?_
         · clear r84
           refine shW_draw (by kernel_rfl) (by kernel_rfl) (by kernel_rfl) ?_
           refine qv (v_loadA (cs := #[.int .i64 wide, .slice plots_a plots.length plots_c]) Try.isAgg27 Try.sizeOf27 rfl (Has.own 4 rfl) (Nat.le_of_ble_eq_true rfl) rfl) rfl ?_
           refine qv (v_load Try.isAgg3 rfl (Has.own 0 rfl) rfl) rfl ?_
           obtain ⟨ok, h85, r86⟩ := b1_ok h83; clear h83
           refine shQ_callV rfl Try.call85 rfl rfl rfl (hear_Town_wall_w h_plots h85) ?_
           refine qv (v_notB rfl) rfl ?_
           refine qm rfl rfl ?_
           rcases bool_two (!ok) with c87 | c87
           · have r88 := bt r86 c87; clear r86
             refine shQ_on (b := true) 54 rfl (EnvB rfl c87) ?_
             refine qv (v_load Try.isAgg36 rfl (Has.own 3 rfl) rfl) rfl ?_
             refine shQ_on (b := true) 54 rfl (EnvB rfl c87) (qm rfl rfl (shQ_on (b := true) 54 rfl (EnvB rfl c87) ?_))
             obtain ⟨x4, g89, hx90, r91⟩ := ix_ok r88; clear r88
             obtain ⟨b92, o93, c94, vs95, ha96, hs97, hle98, rfl, hl99, hc100⟩ := RowR.at (iE_ok _) h_table ([(b49, .cells #[.int .i64 k] 3 (0, 0)), (b4, .cells #[.int .i64 0] 38 (0, 0)), (b3, .cells #[.bool false] 4 (0, 0)), (b2, .cells #[.slice table_a table.length table_c] 36 (0, 0)), (b1, .cells #[.int .i64 wide, .slice plots_a plots.length plots_c] 27 (0, 0))]) g89.1 hx90
             refine qv (v_indexO Try.underlying36 Try.sizeOf3 rfl ha96 rfl g89) rfl ?_
             refine shQ_on (b := true) 54 rfl (EnvB rfl c87) ?_
             refine qv (v_load Try.isAgg3 rfl hs97 (hc100 0 (by decide))) rfl ?_
             refine shQ_on (b := true) 54 rfl (EnvB rfl c87) ?_
             refine qv (v_load Try.isAgg36 rfl (Has.own 3 rfl) rfl) rfl ?_
             refine shQ_on (b := true) 54 rfl (EnvB rfl c87) ?_
             refine qv (v_load Try.isAgg3 rfl (Has.own 0 rfl) rfl) rfl ?_
             refine shQ_on (b := true) 54 rfl (EnvB rfl c87) ?_
             obtain ⟨x5, g101, hx102, r103⟩ := ix_ok r91; clear r91
             obtain ⟨b104, o105, c106, vs107, ha108, hs109, hle110, rfl, hl111, hc112⟩ := RowR.at (iE_ok _) h_table ([(b49, .cells #[.int .i64 k] 3 (0, 0)), (b4, .cells #[.int .i64 0] 38 (0, 0)), (b3, .cells #[.bool false] 4 (0, 0)), (b2, .cells #[.slice table_a table.length table_c] 36 (0, 0)), (b1, .cells #[.int .i64 wide, .slice plots_a plots.length plots_c] 27 (0, 0))]) g101.1 hx102
             refine qv (v_indexO Try.underlying36 Try.sizeOf3 rfl ha108 rfl g101) rfl ?_
             refine shQ_on (b := true) 54 rfl (EnvB rfl c87) ?_
             refine qv (v_load Try.isAgg3 rfl hs109 (hc112 0 (by decide))) rfl ?_
             refine shQ_on (b := true) 54 rfl (EnvB rfl c87) ?_
             refine qv (v_gtrK rfl rfl) rfl ?_
             refine qv (v_pick_t (evB rfl c87) rfl) rfl ?_
             refine qm rfl rfl ?_
             by_cases c113 : x5 < x4
             · have r114 := ite_t r103 c113; clear r103
               refine shQ_on (b := true) 65 rfl (Env.isT rfl c113) ?_
               refine qv (v_load Try.isAgg36 rfl (Has.own 3 rfl) rfl) rfl ?_
               refine shQ_on (b := true) 65 rfl (Env.isT rfl c113) (qm rfl rfl (shQ_on (b := true) 65 rfl (Env.isT rfl c113) ?_))
               obtain ⟨b115, o116, c117, vs118, ha119, hs120, hle121, rfl, hl122, hc123⟩ := RowR.at (iE_ok _) h_table ([(b49, .cells #[.int .i64 k] 3 (0, 0)), (b4, .cells #[.int .i64 0] 38 (0, 0)), (b3, .cells #[.bool false] 4 (0, 0)), (b2, .cells #[.slice table_a table.length table_c] 36 (0, 0)), (b1, .cells #[.int .i64 wide, .slice plots_a plots.length plots_c] 27 (0, 0))]) g89.1 hx90
               refine qv (v_indexO Try.underlying36 Try.sizeOf3 rfl ha119 rfl g89) rfl ?_
               refine shQ_on (b := true) 65 rfl (Env.isT rfl c113) ?_
               refine qv (v_load Try.isAgg3 rfl hs120 (hc123 0 (by decide))) rfl ?_
               refine shQ_on (b := true) 65 rfl (Env.isT rfl c113) ?_
               refine qv (u_conv rfl Try.underlying3 Try.underlying125 rfl) rfl ?_
               refine shQ_on (b := true) 65 rfl (Env.isT rfl c113) ?_
               refine qv (v_load Try.isAgg36 rfl (Has.own 3 rfl) rfl) rfl ?_
               refine shQ_on (b := true) 65 rfl (Env.isT rfl c113) ?_
               refine qv (v_load Try.isAgg3 rfl (Has.own 0 rfl) rfl) rfl ?_
               refine shQ_on (b := true) 65 rfl (Env.isT rfl c113) ?_
               obtain ⟨b124, o125, c126, vs127, ha128, hs129, hle130, rfl, hl131, hc132⟩ := RowR.at (iE_ok _) h_table ([(b49, .cells #[.int .i64 k] 3 (0, 0)), (b4, .cells #[.int .i64 0] 38 (0, 0)), (b3, .cells #[.bool false] 4 (0, 0)), (b2, .cells #[.slice table_a table.length table_c] 36 (0, 0)), (b1, .cells #[.int .i64 wide, .slice plots_a plots.length plots_c] 27 (0, 0))]) g101.1 hx102
               refine qv (v_indexO Try.underlying36 Try.sizeOf3 rfl ha128 rfl g101) rfl ?_
               refine shQ_on (b := true) 65 rfl (Env.isT rfl c113) ?_
               refine qv (v_load Try.isAgg3 rfl hs129 (hc132 0 (by decide))) rfl ?_
               refine shQ_on (b := true) 65 rfl (Env.isT rfl c113) ?_
               refine qv (u_conv rfl Try.underlying3 Try.underlying125 rfl) rfl ?_
               refine shQ_on (b := true) 65 rfl (Env.isT rfl c113) ?_
               refine qv (u_sub rfl rfl rfl) rfl ?_
               refine shQ_on (b := true) 65 rfl (Env.isT rfl c113) (qm rfl rfl (shQ_on (b := true) 65 rfl (Env.isT rfl c113) ?_))
               refine qv (u_conv rfl Try.underlying3 Try.underlying125 rfl) rfl ?_
               refine shQ_on (b := true) 65 rfl (Env.isT rfl c113) ?_
               refine qv (v_gtrK rfl rfl) rfl ?_
               refine qv (v_pick_t (evD_true rfl c113) rfl) rfl ?_
               refine shQ_nil ?_
               obtain rfl := inj1 r114
               exact mi kr ⟨rfl, rfl, (sc rfl (sc rfl (sc rfl (sc rfl (sc rfl (sc rfl (sc rfl (sc rfl (sc rfl (sc rfl (sc rfl (sn _))))))))))))⟩
             have r133 := ite_f r103 c113; clear r103
             refine shQ_off (b' := false) 65 rfl (Env.isF rfl c113) rfl rfl (shQ_off (b' := false) 65 rfl (Env.isF rfl c113) rfl rfl (shQ_off (b' := false) 65 rfl (Env.isF rfl c113) rfl rfl (shQ_off (b' := false) 65 rfl (Env.isF rfl c113) rfl rfl (shQ_off (b' := false) 65 rfl (Env.isF rfl c113) rfl rfl (shQ_off (b' := false) 65 rfl (Env.isF rfl c113) rfl rfl (shQ_off (b' := false) 65 rfl (Env.isF rfl c113) rfl rfl (shQ_off (b' := false) 65 rfl (Env.isF rfl c113) rfl rfl (shQ_off (b' := false) 65 rfl (Env.isF rfl c113) rfl rfl (shQ_off (b' := false) 65 rfl (Env.isF rfl c113) rfl rfl ?_)))))))))
             refine shQ_off (b' := false) 65 rfl (Env.isF rfl c113) rfl rfl (shQ_off (b' := false) 65 rfl (Env.isF rfl c113) rfl rfl (shQ_off (b' := false) 65 rfl (Env.isF rfl c113) rfl rfl (shQ_off (b' := false) 65 rfl (Env.isF rfl c113) rfl rfl ?_)))
             refine qv (v_pick_f (evD_false rfl c113) rfl) rfl ?_
             refine shQ_nil ?_
             obtain rfl := inj1 r133
             exact mi kr ⟨rfl, rfl, (sc rfl (sc rfl (sc rfl (sc rfl (sc rfl (sc rfl (sc rfl (sc rfl (sc rfl (sc rfl (sc rfl (sn _))))))))))))⟩
           have r134 := bf r86 c87; clear r86
           refine shQ_off (b' := false) 54 rfl (EnvB rfl c87) rfl rfl (shQ_off (b' := false) 54 rfl (EnvB rfl c87) rfl rfl (shQ_off (b' := false) 54 rfl (EnvB rfl c87) rfl rfl (shQ_off (b' := false) 54 rfl (EnvB rfl c87) rfl rfl (shQ_off (b' := false) 54 rfl (EnvB rfl c87) rfl rfl (shQ_off (b' := false) 54 rfl (EnvB rfl c87) rfl rfl (shQ_off (b' := false) 54 rfl (EnvB rfl c87) rfl rfl (shQ_off (b' := false) 54 rfl (EnvB rfl c87) rfl rfl (shQ_off (b' := false) 54 rfl (EnvB rfl c87) rfl rfl ?_))))))))
           refine qv (v_pick_f (evB rfl c87) rfl) rfl ?_
           refine qm rfl rfl (shQ_off (b' := false) 65 rfl rfl rfl rfl (shQ_off (b' := false) 65 rfl rfl rfl rfl (shQ_off (b' := false) 65 rfl rfl rfl rfl (shQ_off (b' := false) 65 rfl rfl rfl rfl (shQ_off (b' := false) 65 rfl rfl rfl rfl (shQ_off (b' := false) 65 rfl rfl rfl rfl (shQ_off (b' := false) 65 rfl rfl rfl rfl (shQ_off (b' := false) 65 rfl rfl rfl rfl (shQ_off (b' := false) 65 rfl rfl rfl rfl ?_)))))))))
           refine shQ_off (b' := false) 65 rfl rfl rfl rfl (shQ_off (b' := false) 65 rfl rfl rfl rfl (shQ_off (b' := false) 65 rfl rfl rfl rfl (shQ_off (b' := false) 65 rfl rfl rfl rfl (shQ_off (b' := false) 65 rfl rfl rfl rfl ?_))))
           refine qv (v_pick_f rfl rfl) rfl ?_
           refine shQ_nil ?_
           obtain rfl := inj1 r134
           exact mi kr ⟨rfl, rfl, (sc rfl (sc rfl (sc rfl (sc rfl (sc rfl (sc rfl (sc rfl (sc rfl (sc rfl (sc rfl (sc rfl (sn _))))))))))))⟩
         rintro e1 _ _ ⟨rfl, rfl, he135⟩
         refine shW_env _ he135 ?_; clear he135
         refine shW_cond rfl (fun c136 => ?_) (fun c136 => ?_)
         · have r137 := bt r84 c136; clear r84
           refine wsr ?_
           refine o_store (i := 2) Try.sizeOf4 rfl rfl rfl rfl (Nat.le_of_ble_eq_true rfl) ?_
           refine shO_L (L' := [(b49, .cells #[.int .i64 k] 3 (0, 0)), (b4, .cells #[.int .i64 0] 38 (0, 0)), (b3, .cells #[.bool false] 4 (0, 0)), (b2, .cells #[.slice table_a table.length table_c] 36 (0, 0)), (b1, .cells #[.int .i64 wide, .slice plots_a plots.length plots_c] 27 (0, 0))]) rfl ?_
           refine o_store (i := 1) Try.sizeOf38 rfl rfl rfl rfl (Nat.le_of_ble_eq_true rfl) ?_
           refine shO_L (L' := [(b49, .cells #[.int .i64 k] 3 (0, 0)), (b4, .cells #[.int .i64 0] 38 (0, 0)), (b3, .cells #[.bool false] 4 (0, 0)), (b2, .cells #[.slice table_a table.length table_c] 36 (0, 0)), (b1, .cells #[.int .i64 wide, .slice plots_a plots.length plots_c] 27 (0, 0))]) rfl ?_
           refine shO_nil (shW_ret (inBlock_ret ?_))
           refine ⟨[(b4, .cells #[.int .i64 0] 38 (0, 0)), (b3, .cells #[.bool false] 4 (0, 0))], s1 (s2 (s2 (s1 (s1 sr)))), ?_⟩; exact ⟨rfl, r137, rfl⟩
         have r138 := bf r84 c136; clear r84
         refine shW_skip (inBlock_n (id := 4) ?_)
         refine ⟨[(b49, .cells #[.int .i64 k] 3 (0, 0)), (b4, .cells #[.int .i64 0] 38 (0, 0)), (b3, .cells #[.bool false] 4 (0, 0)), (b2, .cells #[.slice table_a table.length table_c] 36 (0, 0)), (b1, .cells #[.int .i64 wide, .slice plots_a plots.length plots_c] 27 (0, 0))], sr, ?_⟩; exact ⟨_, (by rw [hxs80]; simp), r138, rfl⟩
       · rintro F139 _ hF140 ⟨tl3, hs69, r141, rfl⟩
         obtain rfl := rest_nil hs69; rw [hear_Holds_l4] at r141
         replace hp35 := hp35.mono (prE_ok (iE_ok _) (prE_ok (slE_ok (iE_ok _)) (prE_ok (iE_ok _) (prE_ok (iE_ok _) bE_ok)))) hF140
         refine inBlock_n (id := 3) (inBlock_n (id := 2) ?_)
         exact mi (kd kr) ⟨.pointer (some ⟨b52, 0, none⟩), r141, (hF64.trans hF140), rfl, (sc rfl (sc rfl (sc rfl (sc rfl (sc rfl (sc rfl (sc rfl (sn _)))))))), hp35⟩
       rintro _ F142 _ hF143 ⟨rfl, r144, rfl⟩
       rw [hear_Holds_j5] at r144
       refine shW_ret (inBlock_ret (inBlock_ret (andThen_ret (andThen_ret (inBlock_ret (andThen_ret ?_))))))
       refine q_res2 Try.results58 (res_cell Try.isAgg4 rfl (Has.own 1 rfl) rfl) (res_cell Try.isAgg38 rfl (Has.own 0 rfl) rfl) (s1 (s1 sr)) ?_
       obtain ⟨rfl, rfl⟩ := inj2 r144
       exact rfl
     rintro e1 F147 _ ⟨v47, r145, hF148, rfl, he146, hp48⟩
     refine shW_env _ he146 ?_; clear he146
     replace h_plots := h_plots.mono (iE_ok _) hF148
     rw [hear_Holds_j3] at r145
     refine shW_region ?_
     refine ov (v_add rfl rfl (Lst.r64 hk36 c43 (RowR.lt h_plots))) rfl ?_
     refine om rfl rfl (shO_nil ?_)
     subst hn37; exact le kr ⟨_, _, rfl, hk44, v47, r145, (hF41.trans hF148), rfl, (sc rfl (sc rfl (sc rfl (sc rfl (sc rfl (sc rfl (sc rfl (sn _)))))))), hp48⟩
   obtain rfl := Lst.zero hk36 c43
   rw [hear_Holds_l2] at r38
   refine shW_exit (andThen_exit (andThen_exit ?_))
   refine inBlock_exit ?_
   exact mi (kc (kc kn)) ⟨r38, hF41, rfl, (sc rfl (sc rfl (sn _)))⟩
 rintro e1 F151 _ ⟨r149, hF152, rfl, he150⟩
 refine shW_env _ he150 ?_; clear he150
 rw [hear_Holds_j1] at r149
 refine wsr ?_
 refine o_store (i := 1) Try.sizeOf4 rfl rfl rfl rfl (Nat.le_of_ble_eq_true rfl) ?_
 refine shO_L (L' := [(b4, .cells #[.int .i64 0] 38 (0, 0)), (b3, .cells #[.bool true] 4 (0, 0))]) rfl ?_
 refine o_store (i := 0) Try.sizeOf38 rfl rfl rfl rfl (Nat.le_of_ble_eq_true rfl) ?_
 refine shO_L (L' := [(b4, .cells #[.int .i64 0] 38 (0, 0)), (b3, .cells #[.bool true] 4 (0, 0))]) rfl ?_
 refine shO_nil (shW_ret ?_)
 refine q_res2 Try.results58 (res_cell Try.isAgg4 rfl (Has.own 1 rfl) rfl) (res_cell Try.isAgg38 rfl (Has.own 0 rfl) rfl) (s1 (s1 sr)) ?_
 obtain ⟨rfl, rfl⟩ := inj2 r149
 exact rfl
set_option maxHeartbeats 1000000 in
theorem hear_Need_w {wide : Int} {plots_a : Option Addr} {plots_c : Nat} {plots : List Int} {wind : Int} {stand : Int} {plot : Int} {F : FS} (h_plots : RowR 1 (iE .i64) F plots_a plots_c plots) {r : Int} {r2 : Int} (hr : hear_Need wide plots wind stand plot = some (r, r2)) :
    SpecV Try.prog 60 #[.agg #[.int .i64 wide, .slice plots_a plots.length plots_c], .int .i64 wind, .int .i64 stand, .int .i64 plot] F (.tuple #[.int .i64 r, .int .i64 r2]) := by
 refine spec_of_shW (args := [.agg #[.int .i64 wide, .slice plots_a plots.length plots_c], .int .i64 wind, .int .i64 stand, .int .i64 plot]) Try.func60 rfl Try.ntmps60 (Nat.le_of_ble_eq_true rfl) ?_
 intro K _ _; rw [hear_Need] at hr
 refine wsr ?_
 refine o_box rfl rfl ?_; intro b1 hb1
 refine oa rfl rfl (oa rfl rfl (nsr ?_))
 refine ov (v_loadA (cs := #[.int .i64 wide, .slice plots_a plots.length plots_c]) Try.isAgg27 Try.sizeOf27 rfl (Has.own 0 rfl) (Nat.le_of_ble_eq_true rfl) rfl) rfl ?_
 refine om rfl rfl (om rfl rfl ?_)
 obtain ⟨l, n, h2, r3⟩ := b2_ok hr; clear hr
 refine o_call0 rfl Try.call13 rfl rfl rfl (hear_Needs_w h_plots h2) ?_; rintro _ F4 _ hF5 hn6 ⟨a8, n12, c9, Lb10, rfl, rfl, hz11⟩
 replace h_plots := h_plots.mono (iE_ok _) hF5
 replace hz11 := hz11.new fun p hp => hn6 p (by simp [hp])
 refine shO_L (lp (ln rfl)) ?_
 refine kO (kf (fS fO) kr) ?_
 refine om rfl rfl (ox rfl rfl rfl (ox rfl rfl rfl (oa rfl rfl (oa rfl rfl (shO_nil (shW_seq ?_))))))
 refine shW_block ?_
 refine wsr (om rfl rfl ?_)
 refine ov (v_neq rfl rfl) rfl ?_
 refine oa rfl rfl (shO_nil ?_)
 refine shW_condP rfl (fun c14 => ?_) (fun c14 => ?_)
 · have r15 := ite_t r3 c14; clear r3
   refine wsr (om rfl rfl (oa rfl rfl (oa rfl rfl (shO_nil ?_))))
   refine kW kn ?_
   refine shW_ret (inBlock_ret (andThen_ret ?_))
   refine q_res2 Try.results60 (res_tmp rfl) (res_tmp rfl) (sr) ?_
   obtain ⟨rfl, rfl⟩ := inj2 r15
   exact rfl
 have r16 := ite_f r3 c14; clear r3
 refine wsr ?_
 refine ov (v_loadA (cs := #[.int .i64 wide, .slice plots_a plots.length plots_c]) Try.isAgg27 Try.sizeOf27 rfl (Has.own 0 rfl) (Nat.le_of_ble_eq_true rfl) rfl) rfl ?_
 refine om rfl rfl ?_
 obtain ⟨ok, h17, r18⟩ := b1_ok r16; clear r16
 refine o_callV rfl Try.call87 rfl rfl rfl (hear_Town_plot_w h_plots h17) ?_
 refine ov (v_notB rfl) rfl ?_
 refine oa rfl rfl (shO_nil ?_)
 refine shW_cond rfl (fun c19 => ?_) (fun c19 => ?_)
 · have r20 := bt r18 c19; clear r18
   refine wsr (oa rfl rfl (oa rfl rfl (shO_nil ?_)))
   refine kW kn ?_
   refine shW_ret (inBlock_ret (andThen_ret ?_))
   refine q_res2 Try.results60 (res_tmp rfl) (res_tmp rfl) (sr) ?_
   obtain ⟨rfl, rfl⟩ := inj2 r20
   exact rfl
 have r21 := bf r18 c19; clear r18
 refine wsr (om rfl rfl (om rfl rfl ?_))
 obtain ⟨x, g22, hx23, r24⟩ := ix_ok r21; clear r21
 obtain ⟨b25, o26, c27, vs28, ha29, hs30, hle31, rfl, hl32, hc33⟩ := SlR.at (iE_ok _) hz11 (L := (b1, .cells #[.int .i64 wide, .slice plots_a plots.length plots_c] 27 (0, 0)) :: (Lb10 ++ [])) (fC fP) g22.1 hx23
 refine ov (v_indexO Try.underlying36 Try.sizeOf3 rfl ha29 rfl (SlR.idx hz11 g22)) rfl ?_
 refine ov (v_load Try.isAgg3 rfl hs30 (hc33 0 (by decide))) rfl ?_
 refine ov (v_eql rfl rfl) rfl ?_
 refine oa rfl rfl (shO_nil ?_)
 refine shW_condP rfl (fun c34 => ?_) (fun c34 => ?_)
 · have r35 := ite_t r24 c34; clear r24
   refine wsr (oa rfl rfl (oa rfl rfl (shO_nil ?_)))
   refine kW kn ?_
   refine shW_ret (inBlock_ret (andThen_ret ?_))
   refine q_res2 Try.results60 (res_tmp rfl) (res_tmp rfl) (sr) ?_
   obtain ⟨rfl, rfl⟩ := inj2 r35
   exact rfl
 have r36 := ite_f r24 c34; clear r24
 refine shW_skip (inBlock_n (id := 0) (wsr (om rfl rfl (om rfl rfl ?_))))
 obtain ⟨b37, o38, c39, vs40, ha41, hs42, hle43, rfl, hl44, hc45⟩ := SlR.at (iE_ok _) hz11 (L := (b1, .cells #[.int .i64 wide, .slice plots_a plots.length plots_c] 27 (0, 0)) :: (Lb10 ++ [])) (fC fP) g22.1 hx23
 refine ov (v_indexO Try.underlying36 Try.sizeOf3 rfl ha41 rfl (SlR.idx hz11 g22)) rfl ?_
 refine ov (v_load Try.isAgg3 rfl hs42 (hc45 0 (by decide))) rfl ?_
 refine oa rfl rfl (oa rfl rfl (shO_nil ?_))
 refine kW kn ?_
 refine shW_ret ?_
 refine q_res2 Try.results60 (res_tmp rfl) (res_tmp rfl) (sr) ?_
 obtain ⟨rfl, rfl⟩ := inj2 r36
 exact rfl
set_option maxHeartbeats 1000000 in
theorem slices_Reverse_int_int_w {s__a : Option Addr} {s__n : Nat} {s__c : Nat} {s__L : LH} {s_ : List Int} {s__nb : Nat} {F : FS} (h_s_ : SlR s__nb 3 1 (iE .i64) F s__a s__n s__c s_ s__L) {r : List Int} (hr : slices_Reverse_int_int s_ = some r) :
    SH.Spec Try.prog 86 #[.slice s__a s__n s__c] F (s__L ++ []) fun F' L' v => ∃ (rL : LH), v = .tuple #[] ∧ L' = rL ++ [] ∧ SlR s__nb 3 1 (iE .i64) F' s__a s__n s__c r rL := by
 refine spec_of_shW (args := [.slice s__a s__n s__c]) Try.func86 rfl Try.ntmps86 (Nat.le_of_ble_eq_true rfl) ?_
 intro K _ _; rw [slices_Reverse_int_int] at hr
 refine shW_L (L' := s__L ++ []) (by simp) ?_
 refine wsr (om rfl rfl ?_)
 refine ov ((v_lenS Try.underlying36 rfl).i (SlR.lenI h_s_)) rfl ?_
 obtain ⟨g1, r2⟩ := gd_ok hr; clear hr
 refine ov (v_sub rfl rfl g1) rfl ?_
 refine oa rfl rfl (oa rfl rfl (shO_nil ?_))
 refine shW_block ?_
 refine shW_lp (fun fu1 e1 F1 L1 => ∃ (s_2 : List Int) (i : Int) (j : Int) (Lb3 : LH), slices_Reverse_int_int_l1 fu1 s_2 i j = some r ∧ F = F1 ∧ L1 = (Lb3 ++ []) ∧ e1.sub [(0, .slice s__a s__n s__c), (2, .int .i64 i), (3, .int .i64 j)] ∧ SlR s__nb 3 1 (iE .i64) F1 s__a s__n s__c s_2 Lb3) FU (m0 kr ⟨s_, 0, (s_.length : Int) - 1, s__L, r2, rfl, rfl, (sc rfl (sc rfl (sc rfl (sn _)))), h_s_⟩) ?_
 rintro fu1 e1 _ _ ⟨s_2, i, j, Lb3, r7, rfl, rfl, he8, hz4⟩
 refine shW_env _ he8 ?_; clear he8
 rcases fu1 with _ | fu1
 · rw [slices_Reverse_int_int_l1] at r7; cases r7
 rw [slices_Reverse_int_int_l1] at r7
 refine shW_seq (wsr (om rfl rfl (om rfl rfl ?_)))
 refine ov (v_lssK rfl rfl) rfl ?_
 refine shO_nil ?_
 refine shW_condP rfl (fun c9 => ?_) (fun c9 => ?_)
 · have r10 := ite_t r7 c9; clear r7
   refine shW_skip (shW_seq ?_)
   refine shW_block ?_
   refine shW_drawM [(.still, 0), (.still, 1), (.still, 2), (.still, 3), (.still, 4), (.still, 5), (.still, 6), (.still, 7), (.still, 8), (.still, 9), (.still, 10), (.still, 11), (.still, 12), (.seq, 13), (.still, 14), (.seq, 15)] (by kernel_rfl) (by kernel_rfl) (trivial) (by rfl) (by kernel_rfl) ?_
   refine shM_v (v := .slice s__a s__n s__c) (ek := [(0, .slice s__a s__n s__c)]) (Ls := []) rfl rfl rfl rfl ((sc rfl (sn _))) (by kernel_rfl) sm (fun H F' L' hF' hL' => v_move rfl) ?_
   refine shM_v (v := .int .i64 i) (ek := [(2, .int .i64 i)]) (Ls := []) rfl rfl rfl rfl ((sc rfl (sn _))) (by kernel_rfl) sm (fun H F' L' hF' hL' => v_move rfl) ?_
   refine shM_v (v := .slice s__a s__n s__c) (ek := [(0, .slice s__a s__n s__c)]) (Ls := []) rfl rfl rfl rfl ((sc rfl (sn _))) (by kernel_rfl) sm (fun H F' L' hF' hL' => v_move rfl) ?_
   refine shM_v (v := .int .i64 j) (ek := [(3, .int .i64 j)]) (Ls := []) rfl rfl rfl rfl ((sc rfl (sn _))) (by kernel_rfl) sm (fun H F' L' hF' hL' => v_move rfl) ?_
   refine shM_v (v := .slice s__a s__n s__c) (ek := [(0, .slice s__a s__n s__c)]) (Ls := []) rfl rfl rfl rfl ((sc rfl (sn _))) (by kernel_rfl) sm (fun H F' L' hF' hL' => v_move rfl) ?_
   refine shM_v (v := .int .i64 j) (ek := [(3, .int .i64 j)]) (Ls := []) rfl rfl rfl rfl ((sc rfl (sn _))) (by kernel_rfl) sm (fun H F' L' hF' hL' => v_move rfl) ?_
   obtain ⟨x, g11, hx12, r13⟩ := ix_ok r10; clear r10
   obtain ⟨b14, o15, c16, vs17, ha18, hs19, hle20, rfl, hl21, hc22⟩ := SlR.at (iE_ok _) hz4 (L := Lb3 ++ []) fP g11.1 hx12
   refine shM_v (v := .pointer (some ⟨b14, o15 + (j : Int).toNat * 1, none⟩)) (ek := [(18, .slice s__a s__n s__c), (19, .int .i64 j)]) (Ls := []) rfl rfl rfl rfl ((sc rfl (sc rfl (sn _)))) (by kernel_rfl) sm (fun H F' L' hF' hL' => v_indexO Try.underlying36 Try.sizeOf3 rfl ha18 rfl (SlR.idx hz4 g11)) ?_
   refine shM_v (v := .int .i64 x) (ek := [(20, .pointer (some ⟨b14, o15 + (j : Int).toNat * 1, none⟩))]) (Ls := Lb3 ++ []) rfl rfl rfl rfl ((sc rfl (sn _))) (by kernel_rfl) (s0 sr) (fun H F' L' hF' hL' => v_load Try.isAgg3 rfl (hs19.ext hF' hL') (hc22 0 (by decide))) ?_
   refine shM_v (v := .slice s__a s__n s__c) (ek := [(0, .slice s__a s__n s__c)]) (Ls := []) rfl rfl rfl rfl ((sc rfl (sn _))) (by kernel_rfl) sm (fun H F' L' hF' hL' => v_move rfl) ?_
   refine shM_v (v := .int .i64 i) (ek := [(2, .int .i64 i)]) (Ls := []) rfl rfl rfl rfl ((sc rfl (sn _))) (by kernel_rfl) sm (fun H F' L' hF' hL' => v_move rfl) ?_
   obtain ⟨x2, g23, hx24, r25⟩ := ix_ok r13; clear r13
   obtain ⟨b26, o27, c28, vs29, ha30, hs31, hle32, rfl, hl33, hc34⟩ := SlR.at (iE_ok _) hz4 (L := Lb3 ++ []) fP g23.1 hx24
   refine shM_v (v := .pointer (some ⟨b26, o27 + (i : Int).toNat * 1, none⟩)) (ek := [(22, .slice s__a s__n s__c), (23, .int .i64 i)]) (Ls := []) rfl rfl rfl rfl ((sc rfl (sc rfl (sn _)))) (by kernel_rfl) sm (fun H F' L' hF' hL' => v_indexO Try.underlying36 Try.sizeOf3 rfl ha30 rfl (SlR.idx hz4 g23)) ?_
   refine shM_v (v := .int .i64 x2) (ek := [(24, .pointer (some ⟨b26, o27 + (i : Int).toNat * 1, none⟩))]) (Ls := Lb3 ++ []) rfl rfl rfl rfl ((sc rfl (sn _))) (by kernel_rfl) (s0 sr) (fun H F' L' hF' hL' => v_load Try.isAgg3 rfl (hs31.ext hF' hL') (hc34 0 (by decide))) ?_
   obtain ⟨b35, o36, c37, vs38, ha39, hs40, hle41, rfl, hl42, hc43⟩ := SlR.at (iE_ok _) hz4 (L := Lb3 ++ []) fP g23.1 hx24
   refine shM_v (v := .pointer (some ⟨b35, o36 + (i : Int).toNat * 1, none⟩)) (ek := [(14, .slice s__a s__n s__c), (15, .int .i64 i)]) (Ls := []) rfl rfl rfl rfl ((sc rfl (sc rfl (sn _)))) (by kernel_rfl) sm (fun H F' L' hF' hL' => v_indexO Try.underlying36 Try.sizeOf3 rfl ha39 rfl (SlR.idx hz4 g23)) ?_
   refine ⟨_, [(21, .int .i64 x), (26, .pointer (some ⟨b35, o36 + (i : Int).toNat * 1, none⟩))], rfl, rfl, (sc rfl (sc rfl (sn _))), by kernel_rfl, ?_⟩; intro H
   obtain ⟨l, h44, r45⟩ := bv_ok r25; clear r25
   refine o_storeZ (u := x) Try.sizeOf3 (iE_ok _) rfl ha39 rfl rfl (fun _ => .h) hz4 h44 g23 ?_; intro Lb46 hz47
   refine shO_nil ⟨undef, rfl, FExt.refl _, [3, 2], by kernel_rfl, .inl (.inr (fun d h => by cases h)), (List.forall_mem_cons.2 ⟨sm, (List.forall_mem_cons.2 ⟨sm, (fun _ h => absurd h List.not_mem_nil)⟩)⟩), ?_⟩
   obtain ⟨x3, g48, hx49, r50⟩ := ix_ok r45; clear r45
   obtain ⟨b51, o52, c53, vs54, ha55, hs56, hle57, rfl, hl58, hc59⟩ := SlR.at (iE_ok _) hz47 (L := Lb46 ++ []) fP g48.1 hx49
   refine shM_v (v := .pointer (some ⟨b51, o52 + (j : Int).toNat * 1, none⟩)) (ek := [(16, .slice s__a s__n s__c), (17, .int .i64 j)]) (Ls := []) rfl rfl rfl rfl ((sc rfl (sc rfl (sn _)))) (by kernel_rfl) sm (fun H F' L' hF' hL' => v_indexO Try.underlying36 Try.sizeOf3 rfl ha55 rfl (SlR.idx hz47 g48)) ?_
   refine ⟨_, [(25, .int .i64 x2), (27, .pointer (some ⟨b51, o52 + (j : Int).toNat * 1, none⟩))], rfl, rfl, (sc rfl (sc rfl (sn _))), by kernel_rfl, ?_⟩; intro H
   obtain ⟨l2, h60, r61⟩ := bv_ok r50; clear r50
   refine o_storeZ (u := x2) Try.sizeOf3 (iE_ok _) rfl ha55 rfl rfl (fun _ => .h) hz47 h60 g48 ?_; intro Lb62 hz63
   refine shO_nil ⟨undef, rfl, FExt.refl _, [], by kernel_rfl, .inl (.inl rfl), (fun _ h => absurd h List.not_mem_nil), ?_⟩
   refine shM_nil ?_
   refine inBlock_n (id := 1) (shW_region (om rfl rfl ?_))
   obtain ⟨g64, r65⟩ := gd_ok r61; clear r61
   refine ov (v_add rfl rfl g64) rfl ?_
   refine om rfl rfl ?_
   obtain ⟨g66, r67⟩ := gd_ok r65; clear r65
   refine ov (v_sub rfl rfl g66) rfl ?_
   refine oa rfl rfl (oa rfl rfl (shO_nil ?_))
   exact le kr ⟨l2, i + 1, j - 1, Lb62, r67, rfl, rfl, (sc rfl (sc rfl (sc rfl (sn _)))), hz63⟩
 have r68 := ite_f r7 c9; clear r7
 refine shW_exit (andThen_exit (andThen_exit ?_))
 refine inBlock_exit ?_
 refine q_end0 (.inr rfl) Try.results86 ?_
 obtain rfl := inj1 r68
 exact ⟨_, rfl, rfl, hz4⟩
set_option maxHeartbeats 1000000 in
theorem hear_Way_w {wide : Int} {plots_a : Option Addr} {plots_c : Nat} {plots : List Int} {wind : Int} {stand : Int} {plot : Int} {F : FS} (h_plots : RowR 1 (iE .i64) F plots_a plots_c plots) {r : List Int} {r2 : Int} (hr : hear_Way wide plots wind stand plot = some (r, r2)) :
    SH.Spec Try.prog 59 #[.agg #[.int .i64 wide, .slice plots_a plots.length plots_c], .int .i64 wind, .int .i64 stand, .int .i64 plot] F [] fun F' L' v => ∃ (ra : Option Addr) (rn : Nat) (rc : Nat) (rL : LH), v = .tuple #[.slice ra rn rc, .int .i64 r2] ∧ L' = rL ++ [] ∧ SlR 0 3 1 (iE .i64) F' ra rn rc r rL := by
 refine spec_of_shW (args := [.agg #[.int .i64 wide, .slice plots_a plots.length plots_c], .int .i64 wind, .int .i64 stand, .int .i64 plot]) Try.func59 rfl Try.ntmps59 (Nat.le_of_ble_eq_true rfl) ?_
 intro K _ _; rw [hear_Way] at hr
 refine wsr ?_
 refine o_box rfl rfl ?_; intro b1 hb1
 refine oa rfl rfl (oa rfl rfl (shO_nil (shW_seq (wsr ?_))))
 refine ov (v_loadA (cs := #[.int .i64 wide, .slice plots_a plots.length plots_c]) Try.isAgg27 Try.sizeOf27 rfl (Has.own 0 rfl) (Nat.le_of_ble_eq_true rfl) rfl) rfl ?_
 refine om rfl rfl (om rfl rfl (om rfl rfl ?_))
 obtain ⟨n, n2, h2, r3⟩ := b2_ok hr; clear hr
 refine o_callV rfl Try.call60 rfl rfl rfl (hear_Need_w h_plots h2) ?_
 refine om rfl rfl (ox rfl rfl rfl (ox rfl rfl rfl (oa rfl rfl (oa rfl rfl (nsr (om rfl rfl ?_))))))
 refine ov (v_neq rfl rfl) rfl ?_
 refine shO_nil ?_
 refine shW_condP rfl (fun c4 => ?_) (fun c4 => ?_)
 · have r5 := ite_t r3 c4; clear r3
   refine wsr (om rfl rfl (oa rfl rfl (oa rfl rfl (shO_nil ?_))))
   refine kW kn ?_
   refine shW_ret (andThen_ret ?_)
   refine q_res2 Try.results59 (res_tmp rfl) (res_tmp rfl) (sr) ?_
   obtain ⟨rfl, rfl⟩ := inj2 r5
   exact ⟨_, _, _, [], rfl, rfl, SlR.nil _ _ _ _ _⟩
 have r6 := ite_f r3 c4; clear r3
 refine shW_skip (wsr ?_)
 refine ov (v_loadA (cs := #[.int .i64 wide, .slice plots_a plots.length plots_c]) Try.isAgg27 Try.sizeOf27 rfl (Has.own 0 rfl) (Nat.le_of_ble_eq_true rfl) rfl) rfl ?_
 refine om rfl rfl ?_
 obtain ⟨d, n3, h7, r8⟩ := b2_ok r6; clear r6
 refine o_call0 rfl Try.call74 rfl rfl rfl (hear_opened_w h_plots h7) ?_; rintro _ F9 _ hF10 hn11 ⟨v13, rfl, rfl, hp14⟩
 replace h_plots := h_plots.mono (iE_ok _) hF10
 refine shO_L (ln rfl) ?_
 refine om rfl rfl (ox rfl rfl rfl (ox rfl rfl rfl (oa rfl rfl (oa rfl rfl (nsr (om rfl rfl (om rfl rfl ?_)))))))
 obtain ⟨wide2, plots2, down, right_, blows, h15, r16⟩ := b5_ok r8; clear r8
 have h25 := hp14; rw [h15] at h25; obtain ⟨b17, c18, m19, hv20, hz21, ⟨_, _, rfl, rfl, ⟨_, _, rfl, ⟨a22, c23, rfl, h24⟩, ⟨_, _, rfl, rfl, ⟨_, _, rfl, rfl, rfl⟩⟩⟩⟩⟩ := h25; subst hv20
 have hz21 : F9 b17 = some (.cells #[.int .i64 wide2, .slice a22 plots2.length c23, .int .i64 down, .int .i64 right_, .bool blows] 113 m19) := hz21
 obtain ⟨l, h26, r27⟩ := b1_ok r16; clear r16
 refine o_call0 rfl Try.call43 rfl rfl rfl (hear_desk_from_w hz21 h24 h26) ?_; rintro _ F28 _ hF29 hn30 ⟨a32, n36, c33, Lb34, rfl, rfl, hz35⟩
 replace h_plots := h_plots.mono (iE_ok _) hF29
 replace h24 := h24.mono (iE_ok _) hF29
 replace hz21 := hF29 _ _ hz21
 replace hz35 := hz35.new fun p hp => hn30 p (by simp [hp])
 refine shO_L (lp (ln rfl)) ?_
 refine kO (kf (fS fO) kr) ?_
 refine o_alloc rfl Try.zeroValue36 ?_; intro b38 hb38
 refine o_store (i := 0) Try.sizeOf36 rfl rfl rfl rfl (Nat.le_of_ble_eq_true rfl) ?_
 refine shO_L (L' := (b38, .cells #[.slice a32 n36 c33] 36 (0, 0)) :: ((b1, .cells #[.int .i64 wide, .slice plots_a plots.length plots_c] 27 (0, 0)) :: (Lb34 ++ []))) rfl ?_
 refine nsr (om rfl rfl ?_)
 refine o_buildSlice (cs := #[.int .i64 plot]) rfl rfl (buildSlice_all slt_36 [.int .i64 plot] rfl (by decide) (by simp [Value.cells]) (by decide)) ?_; intro b39 hb39
 have hz41 : SlR K.w0.heap.size 3 1 (iE .i64) F28 (some ⟨b39, 0, none⟩) 1 1 [plot] [(b39, .cells #[.int .i64 plot] 3 (0, 0))] := SlR.of_block (vss := [[.int .i64 plot]]) (iE_ok _) hb39 (.cons rfl .nil) rfl rfl (by simp [maxLen])
 generalize hLLb40 : ([(b39, .cells #[.int .i64 plot] 3 (0, 0))] : LH) = Lb40 at hz41
 refine shO_perm (L' := Lb40 ++ ((b38, .cells #[.slice a32 n36 c33] 36 (0, 0)) :: ((b1, .cells #[.int .i64 wide, .slice plots_a plots.length plots_c] 27 (0, 0)) :: (Lb34 ++ [])))) (by rw [← hLLb40]; exact fO) ?_
 refine shO_perm (L' := (b38, .cells #[.slice a32 n36 c33] 36 (0, 0)) :: ((b1, .cells #[.int .i64 wide, .slice plots_a plots.length plots_c] 27 (0, 0)) :: (Lb40 ++ (Lb34 ++ [])))) (List.Perm.symm (fC (fC fP))) ?_
 refine oa rfl rfl (shO_nil ?_)
 obtain ⟨out, h49, r50⟩ := b1_ok r27; clear r27
 refine shW_join (fun e1 F1 L1 => ∃ (a43 : Option Addr) (n47 : Nat) (c44 : Nat) (Lb45 : LH), FExt F28 F1 ∧ L1 = (Lb45 ++ []) ∧ e1.sub [(15, .slice a43 n47 c44)] ∧ SlR K.w0.heap.size 3 1 (iE .i64) F1 a43 n47 c44 out Lb45) ?_ ?_
 · clear r50
   refine wsr (om rfl rfl ?_)
   refine o_alloc rfl Try.zeroValue3 ?_; intro b51 hb51
   refine o_store (i := 0) Try.sizeOf3 rfl rfl rfl rfl (Nat.le_of_ble_eq_true rfl) ?_
   refine shO_L (L' := (b51, .cells #[.int .i64 plot] 3 (0, 0)) :: ((b38, .cells #[.slice a32 n36 c33] 36 (0, 0)) :: ((b1, .cells #[.int .i64 wide, .slice plots_a plots.length plots_c] 27 (0, 0)) :: (Lb40 ++ (Lb34 ++ []))))) rfl ?_
   refine shO_nil ?_
   refine shW_block ?_
   refine shW_lp (fun fu1 e1 F1 L1 => ∃ (out2 : List Int) (p : Int) (a52 : Option Addr) (n56 : Nat) (c53 : Nat) (Lb54 : LH) (b58 : Nat), hear_Way_l1 plots stand wide2 plots2 down right_ blows l fu1 out2 p = some out ∧ FExt F28 F1 ∧ L1 = ((b58, .cells #[.int .i64 p] 3 (0, 0)) :: ((b38, .cells #[.slice a32 n36 c33] 36 (0, 0)) :: ((b1, .cells #[.int .i64 wide, .slice plots_a plots.length plots_c] 27 (0, 0)) :: (Lb34 ++ (Lb54 ++ []))))) ∧ e1.sub [(2, .int .i64 stand), (4, .pointer (some ⟨b1, 0, none⟩)), (12, .pointer (some ⟨b17, 0, none⟩)), (14, .pointer (some ⟨b38, 0, none⟩)), (15, .slice a52 n56 c53), (16, .pointer (some ⟨b58, 0, none⟩))] ∧ SlR K.w0.heap.size 3 1 (iE .i64) F1 a52 n56 c53 out2 Lb54 ∧ K.w0.heap.size ≤ b58) FU (m0 (kc (kc (kc (kg (fS fP) kr)))) ⟨[plot], plot, (some ⟨b39, 0, none⟩), 1, 1, Lb40, b51, h49, FExt.refl _, rfl, (sc rfl (sc rfl (sc rfl (sc rfl (sc rfl (sc rfl (sn _))))))), hz41, hb51⟩) ?_
   rintro fu1 e1 F64 _ ⟨out2, p, a52, n56, c53, Lb54, b58, r62, hF65, rfl, he63, hz55, hb59⟩
   refine shW_env _ he63 ?_; clear he63
   replace h_plots := h_plots.mono (iE_ok _) hF65
   replace h24 := h24.mono (iE_ok _) hF65
   replace hz35 := hz35.mono (iE_ok _) hF65
   replace hz21 := hF65 _ _ hz21
   rcases fu1 with _ | fu1
   · rw [hear_Way_l1] at r62; cases r62
   rw [hear_Way_l1] at r62
   refine shW_seq (wsr ?_)
   refine ov (v_load Try.isAgg3 rfl (Has.own 0 rfl) rfl) rfl ?_
   refine om rfl rfl ?_
   refine ov (v_neq rfl rfl) rfl ?_
   refine shO_nil ?_
   refine shW_condP rfl (fun c66 => ?_) (fun c66 => ?_)
   · have r67 := ite_t r62 c66; clear r62
     refine shW_skip ?_
     obtain ⟨out3, p2, h74, r75⟩ := b2_ok r67; clear r67
     refine shW_join (fun e1 F1 L1 => ∃ (a68 : Option Addr) (n72 : Nat) (c69 : Nat) (Lb70 : LH), FExt F64 F1 ∧ L1 = ((b58, .cells #[.int .i64 p2] 3 (0, 0)) :: ((b38, .cells #[.slice a32 n36 c33] 36 (0, 0)) :: ((b1, .cells #[.int .i64 wide, .slice plots_a plots.length plots_c] 27 (0, 0)) :: (Lb34 ++ (Lb70 ++ []))))) ∧ e1.sub [(2, .int .i64 stand), (4, .pointer (some ⟨b1, 0, none⟩)), (12, .pointer (some ⟨b17, 0, none⟩)), (14, .pointer (some ⟨b38, 0, none⟩)), (15, .slice a68 n72 c69), (16, .pointer (some ⟨b58, 0, none⟩))] ∧ SlR K.w0.heap.size 3 1 (iE .i64) F1 a68 n72 c69 out3 Lb70) ?_ ?_
     · clear r75
       refine shW_block ?_
       refine wsr ?_
       refine o_alloc rfl Try.zeroValue3 ?_; intro b76 hb76
       refine o_store (i := 0) Try.sizeOf3 rfl rfl rfl rfl (Nat.le_of_ble_eq_true rfl) ?_
       refine shO_L (L' := (b76, .cells #[.int .i64 (-1)] 3 (0, 0)) :: ((b58, .cells #[.int .i64 p] 3 (0, 0)) :: ((b38, .cells #[.slice a32 n36 c33] 36 (0, 0)) :: ((b1, .cells #[.int .i64 wide, .slice plots_a plots.length plots_c] 27 (0, 0)) :: (Lb34 ++ (Lb54 ++ [])))))) rfl ?_
       refine shO_nil ?_
       obtain ⟨before, h77, r78⟩ := b1_ok h74; clear h74
       refine shW_join (fun e1 F1 L1 => FExt F64 F1 ∧ L1 = ((b76, .cells #[.int .i64 before] 3 (0, 0)) :: ((b58, .cells #[.int .i64 p] 3 (0, 0)) :: ((b38, .cells #[.slice a32 n36 c33] 36 (0, 0)) :: ((b1, .cells #[.int .i64 wide, .slice plots_a plots.length plots_c] 27 (0, 0)) :: (Lb34 ++ (Lb54 ++ [])))))) ∧ e1.sub [(2, .int .i64 stand), (4, .pointer (some ⟨b1, 0, none⟩)), (12, .pointer (some ⟨b17, 0, none⟩)), (14, .pointer (some ⟨b38, 0, none⟩)), (15, .slice a52 n56 c53), (16, .pointer (some ⟨b58, 0, none⟩)), (17, .pointer (some ⟨b76, 0, none⟩))]) ?_ ?_
       · clear r78
         refine wsr ?_
         refine ov (v_fieldAddr fa_27_1 rfl) rfl ?_
         refine ov (v_load Try.isAgg25 rfl (Has.own 3 rfl) rfl) rfl ?_
         refine ov (v_lenS Try.underlying25 rfl) rfl ?_
         refine om rfl rfl (shO_nil ?_)
         refine shW_block ?_
         refine shW_lp (fun fu2 e1 F1 L1 => ∃ (tl : List Int) (k : Int), tl.length = fu2 ∧ Lst plots k tl ∧ ∃ (before2 : Int), hear_Way_l2 wide2 plots2 down right_ blows l p tl k before2 = some before ∧ FExt F64 F1 ∧ L1 = ((b76, .cells #[.int .i64 before2] 3 (0, 0)) :: ((b58, .cells #[.int .i64 p] 3 (0, 0)) :: ((b38, .cells #[.slice a32 n36 c33] 36 (0, 0)) :: ((b1, .cells #[.int .i64 wide, .slice plots_a plots.length plots_c] 27 (0, 0)) :: (Lb34 ++ (Lb54 ++ [])))))) ∧ e1.sub [(2, .int .i64 stand), (4, .pointer (some ⟨b1, 0, none⟩)), (12, .pointer (some ⟨b17, 0, none⟩)), (14, .pointer (some ⟨b38, 0, none⟩)), (15, .slice a52 n56 c53), (16, .pointer (some ⟨b58, 0, none⟩)), (17, .pointer (some ⟨b76, 0, none⟩)), (49, .int .i64 (plots.length : Int)), (50, .int .i64 k)]) _ (m0 kr ⟨_, _, rfl, Lst.start _, -1, h77, FExt.refl _, rfl, (sc rfl (sc rfl (sc rfl (sc rfl (sc rfl (sc rfl (sc rfl (sc rfl (sc rfl (sn _))))))))))⟩) ?_
         rintro fu2 e1 F83 _ ⟨tl, k, hn80, hk79, before2, r81, hF84, rfl, he82⟩
         refine shW_env _ he82 ?_; clear he82
         replace h_plots := h_plots.mono (iE_ok _) hF84
         replace h24 := h24.mono (iE_ok _) hF84
         replace hz35 := hz35.mono (iE_ok _) hF84
         replace hz21 := hF84 _ _ hz21
         refine wsr ?_
         refine ov (v_lssK rfl rfl) rfl ?_
         refine shO_nil (shW_seq ?_)
         refine shW_condP rfl (fun c86 => ?_) (fun c86 => ?_)
         · obtain ⟨x, tl2, rfl, hx88, g89, hk87⟩ := Lst.succ hk79 c86
           rw [hear_Way_l2] at r81
           refine shW_skip ?_
           obtain ⟨before3, h90, r91⟩ := b1_ok r81; clear r81
           refine shW_join (fun e1 F1 L1 => FExt F83 F1 ∧ L1 = ((b76, .cells #[.int .i64 before3] 3 (0, 0)) :: ((b58, .cells #[.int .i64 p] 3 (0, 0)) :: ((b38, .cells #[.slice a32 n36 c33] 36 (0, 0)) :: ((b1, .cells #[.int .i64 wide, .slice plots_a plots.length plots_c] 27 (0, 0)) :: (Lb34 ++ (Lb54 ++ [])))))) ∧ e1.sub [(2, .int .i64 stand), (4, .pointer (some ⟨b1, 0, none⟩)), (12, .pointer (some ⟨b17, 0, none⟩)), (14, .pointer (some ⟨b38, 0, none⟩)), (15, .slice a52 n56 c53), (16, .pointer (some ⟨b58, 0, none⟩)), (17, .pointer (some ⟨b76, 0, none⟩)), (49, .int .i64 (plots.length : Int)), (50, .int .i64 k)]) ?_ ?_
           · clear r91
             refine shW_block ?_
             refine wsr (om rfl rfl ?_)
             refine o_alloc rfl Try.zeroValue3 ?_; intro b92 hb92
             refine o_store (i := 0) Try.sizeOf3 rfl rfl rfl rfl (Nat.le_of_ble_eq_true rfl) ?_
             refine shO_L (L' := (b92, .cells #[.int .i64 k] 3 (0, 0)) :: ((b76, .cells #[.int .i64 before2] 3 (0, 0)) :: ((b58, .cells #[.int .i64 p] 3 (0, 0)) :: ((b38, .cells #[.slice a32 n36 c33] 36 (0, 0)) :: ((b1, .cells #[.int .i64 wide, .slice plots_a plots.length plots_c] 27 (0, 0)) :: (Lb34 ++ (Lb54 ++ []))))))) rfl ?_
             refine nsr (om rfl rfl ?_)
             refine ov (v_load Try.isAgg3 rfl (Has.own 0 rfl) rfl) rfl ?_
             obtain ⟨y, h93, r94⟩ := b1_ok h90; clear h90
             refine o_call0 rfl Try.call75 rfl rfl rfl (hear_desk_next_w hz21 h24 h93) ?_; rintro _ F95 _ hF96 hn97 ⟨cp99, rfl, rfl, hit100⟩
             replace hz35 := hz35.mono (iE_ok _) hF96
             refine shO_L (ln rfl) ?_
             refine shO_nil ?_
             refine shW_block ?_
             refine shW_rangeFunc (encs := (fun x : Int × Int => #[.int .i64 x.1, .int .i64 x.2])) (xs := y) rfl Try.call97 rfl (fun _ => rfl) hit100 (fun pre F1 L1 => ∃ (tl3 : List (Int × Int)) (before4 : Int), y = pre ++ tl3 ∧ hear_Way_l3 l p k tl3 before4 = some before3 ∧ L1 = ((b92, .cells #[.int .i64 k] 3 (0, 0)) :: ((b76, .cells #[.int .i64 before4] 3 (0, 0)) :: ((b58, .cells #[.int .i64 p] 3 (0, 0)) :: ((b38, .cells #[.slice a32 n36 c33] 36 (0, 0)) :: ((b1, .cells #[.int .i64 wide, .slice plots_a plots.length plots_c] 27 (0, 0)) :: (Lb34 ++ (Lb54 ++ [])))))))) (fun _ _ _ => False) ?_ ?_ ?_ ?_ ?_ ?_
             · rintro pre F1 F2 L1 ⟨tl3, before4, hs101, r102, rfl⟩ hx; exact ⟨tl3, before4, hs101, r102, rfl⟩
             · intro c F1 F2 L1 h hx; exact h
             · exact ⟨_, before2, rfl, r94, rfl⟩
             · rintro l103 wr104 Fr105 Xr106 Ha107 Hb108 hnb109 hH113 pre x2 tl4 hxs112 F110 _ hF111 ⟨tl3, before4, hs101, r114, rfl⟩
               obtain rfl := rest_head hs101 hxs112
               rw [hear_Way_l3] at r114
               replace hz35 := hz35.mono (iE_ok _) hF111
               refine shW_env [(2, .int .i64 stand), (4, .pointer (some ⟨b1, 0, none⟩)), (12, .pointer (some ⟨b17, 0, none⟩)), (14, .pointer (some ⟨b38, 0, none⟩)), (15, .slice a52 n56 c53), (16, .pointer (some ⟨b58, 0, none⟩)), (17, .pointer (some ⟨b76, 0, none⟩)), (18, .pointer (some ⟨b92, 0, none⟩)), (49, .int .i64 (plots.length : Int)), (50, .int .i64 k), (56, .int .i64 x2.1), (57, .int .i64 x2.2)] (by exact (sc rfl (sc rfl (sc rfl (sc rfl (sc rfl (sc rfl (sc rfl (sc rfl (sc rfl (sc rfl (sc rfl (sc rfl (sn _)))))))))))))) ?_
               refine wsr (oa rfl rfl (shO_nil (shW_region (oa rfl rfl (shO_nil ?_)))))
               refine ⟨rfl, ?_⟩
               refine shW_block ?_
               obtain ⟨k2, h115, r116⟩ := b1_ok r114; clear r114
               refine shW_join (fun e1 F1 L1 => F110 = F1 ∧ L1 = ((b92, .cells #[.int .i64 k] 3 (0, 0)) :: ((b76, .cells #[.int .i64 before4] 3 (0, 0)) :: ((b58, .cells #[.int .i64 p] 3 (0, 0)) :: ((b38, .cells #[.slice a32 n36 c33] 36 (0, 0)) :: ((b1, .cells #[.int .i64 wide, .slice plots_a plots.length plots_c] 27 (0, 0)) :: (Lb34 ++ (Lb54 ++ []))))))) ∧ e1.sub [(2, .int .i64 stand), (4, .pointer (some ⟨b1, 0, none⟩)), (12, .pointer (some ⟨b17, 0, none⟩)), (14, .pointer (some ⟨b38, 0, none⟩)), (15, .slice a52 n56 c53), (16, .pointer (some ⟨b58, 0, none⟩)), (17, .pointer (some ⟨b76, 0, none⟩)), (18, .pointer (some ⟨b92, 0, none⟩)), (49, .int .i64 (plots.length : Int)), (50, .int .i64 k), (56, .int .i64 x2.1), (57, .int .i64 x2.2), (80, .bool k2)]) ?_ ?_
               · clear r116
                 refine shW_draw (by kernel_rfl) (by kernel_rfl) (by kernel_rfl) ?_
                 refine qm rfl rfl ?_
                 refine qv (v_load Try.isAgg3 rfl (Has.own 2 rfl) rfl) rfl ?_
                 refine qv (v_eql rfl rfl) rfl ?_
                 refine qm rfl rfl ?_
                 by_cases c117 : x2.1 = p
                 · have r118 := ite_t h115 c117; clear h115
                   refine shQ_on (b := true) 61 rfl (Env.isT rfl c117) ?_
                   refine qv (v_load Try.isAgg36 rfl (Has.own 3 rfl) rfl) rfl ?_
                   refine shQ_on (b := true) 61 rfl (Env.isT rfl c117) ?_
                   refine qv (v_load Try.isAgg3 rfl (Has.own 0 rfl) rfl) rfl ?_
                   refine shQ_on (b := true) 61 rfl (Env.isT rfl c117) ?_
                   obtain ⟨x3, g119, hx120, r121⟩ := ix_ok r118; clear r118
                   obtain ⟨b122, o123, c124, vs125, ha126, hs127, hle128, rfl, hl129, hc130⟩ := SlR.at (iE_ok _) hz35 (L := (b92, .cells #[.int .i64 k] 3 (0, 0)) :: ((b76, .cells #[.int .i64 before4] 3 (0, 0)) :: ((b58, .cells #[.int .i64 p] 3 (0, 0)) :: ((b38, .cells #[.slice a32 n36 c33] 36 (0, 0)) :: ((b1, .cells #[.int .i64 wide, .slice plots_a plots.length plots_c] 27 (0, 0)) :: (Lb34 ++ (Lb54 ++ []))))))) (fC (fC (fC (fC (fC fP))))) g119.1 hx120
                   refine qv (v_indexO Try.underlying36 Try.sizeOf3 rfl ha126 rfl (SlR.idx hz35 g119)) rfl ?_
                   refine shQ_on (b := true) 61 rfl (Env.isT rfl c117) ?_
                   refine qv (v_load Try.isAgg3 rfl hs127 (hc130 0 (by decide))) rfl ?_
                   refine shQ_on (b := true) 61 rfl (Env.isT rfl c117) ?_
                   refine qv (v_neq rfl rfl) rfl ?_
                   refine qv (v_pick_t (evD_true rfl c117) rfl) rfl ?_
                   refine qm rfl rfl ?_
                   by_cases c131 : x3 ≠ (-1)
                   · have r132 := ite_t r121 c131; clear r121
                     refine shQ_on (b := true) 68 rfl (Env.isT rfl c131) ?_
                     refine qv (v_load Try.isAgg36 rfl (Has.own 3 rfl) rfl) rfl ?_
                     refine shQ_on (b := true) 68 rfl (Env.isT rfl c131) ?_
                     refine qv (v_load Try.isAgg3 rfl (Has.own 0 rfl) rfl) rfl ?_
                     refine shQ_on (b := true) 68 rfl (Env.isT rfl c131) ?_
                     obtain ⟨b133, o134, c135, vs136, ha137, hs138, hle139, rfl, hl140, hc141⟩ := SlR.at (iE_ok _) hz35 (L := (b92, .cells #[.int .i64 k] 3 (0, 0)) :: ((b76, .cells #[.int .i64 before4] 3 (0, 0)) :: ((b58, .cells #[.int .i64 p] 3 (0, 0)) :: ((b38, .cells #[.slice a32 n36 c33] 36 (0, 0)) :: ((b1, .cells #[.int .i64 wide, .slice plots_a plots.length plots_c] 27 (0, 0)) :: (Lb34 ++ (Lb54 ++ []))))))) (fC (fC (fC (fC (fC fP))))) g119.1 hx120
                     refine qv (v_indexO Try.underlying36 Try.sizeOf3 rfl ha137 rfl (SlR.idx hz35 g119)) rfl ?_
                     refine shQ_on (b := true) 68 rfl (Env.isT rfl c131) ?_
                     refine qv (v_load Try.isAgg3 rfl hs138 (hc141 0 (by decide))) rfl ?_
                     refine shQ_on (b := true) 68 rfl (Env.isT rfl c131) (qm rfl rfl (shQ_on (b := true) 68 rfl (Env.isT rfl c131) ?_))
                     obtain ⟨g142, r143⟩ := gd_ok r132; clear r132
                     refine qv (v_add rfl rfl g142) rfl ?_
                     refine shQ_on (b := true) 68 rfl (Env.isT rfl c131) ?_
                     refine qv (v_load Try.isAgg36 rfl (Has.own 3 rfl) rfl) rfl ?_
                     refine shQ_on (b := true) 68 rfl (Env.isT rfl c131) ?_
                     refine qv (v_load Try.isAgg3 rfl (Has.own 2 rfl) rfl) rfl ?_
                     refine shQ_on (b := true) 68 rfl (Env.isT rfl c131) ?_
                     obtain ⟨x4, g144, hx145, r146⟩ := ix_ok r143; clear r143
                     obtain ⟨b147, o148, c149, vs150, ha151, hs152, hle153, rfl, hl154, hc155⟩ := SlR.at (iE_ok _) hz35 (L := (b92, .cells #[.int .i64 k] 3 (0, 0)) :: ((b76, .cells #[.int .i64 before4] 3 (0, 0)) :: ((b58, .cells #[.int .i64 p] 3 (0, 0)) :: ((b38, .cells #[.slice a32 n36 c33] 36 (0, 0)) :: ((b1, .cells #[.int .i64 wide, .slice plots_a plots.length plots_c] 27 (0, 0)) :: (Lb34 ++ (Lb54 ++ []))))))) (fC (fC (fC (fC (fC fP))))) g144.1 hx145
                     refine qv (v_indexO Try.underlying36 Try.sizeOf3 rfl ha151 rfl (SlR.idx hz35 g144)) rfl ?_
                     refine shQ_on (b := true) 68 rfl (Env.isT rfl c131) ?_
                     refine qv (v_load Try.isAgg3 rfl hs152 (hc155 0 (by decide))) rfl ?_
                     refine shQ_on (b := true) 68 rfl (Env.isT rfl c131) ?_
                     refine qv (v_eql rfl rfl) rfl ?_
                     refine qv (v_pick_t (evD_true rfl c131) rfl) rfl ?_
                     refine shQ_nil ?_
                     obtain rfl := inj1 r146
                     exact mi kr ⟨rfl, rfl, (sc rfl (sc rfl (sc rfl (sc rfl (sc rfl (sc rfl (sc rfl (sc rfl (sc rfl (sc rfl (sc rfl (sc rfl (sc rfl (sn _))))))))))))))⟩
                   have r156 := ite_f r121 c131; clear r121
                   refine shQ_off (b' := false) 68 rfl (Env.isF rfl c131) rfl rfl (shQ_off (b' := false) 68 rfl (Env.isF rfl c131) rfl rfl (shQ_off (b' := false) 68 rfl (Env.isF rfl c131) rfl rfl (shQ_off (b' := false) 68 rfl (Env.isF rfl c131) rfl rfl (shQ_off (b' := false) 68 rfl (Env.isF rfl c131) rfl rfl (shQ_off (b' := false) 68 rfl (Env.isF rfl c131) rfl rfl (shQ_off (b' := false) 68 rfl (Env.isF rfl c131) rfl rfl (shQ_off (b' := false) 68 rfl (Env.isF rfl c131) rfl rfl (shQ_off (b' := false) 68 rfl (Env.isF rfl c131) rfl rfl (shQ_off (b' := false) 68 rfl (Env.isF rfl c131) rfl rfl ?_)))))))))
                   refine shQ_off (b' := false) 68 rfl (Env.isF rfl c131) rfl rfl ?_
                   refine qv (v_pick_f (evD_false rfl c131) rfl) rfl ?_
                   refine shQ_nil ?_
                   obtain rfl := inj1 r156
                   exact mi kr ⟨rfl, rfl, (sc rfl (sc rfl (sc rfl (sc rfl (sc rfl (sc rfl (sc rfl (sc rfl (sc rfl (sc rfl (sc rfl (sc rfl (sc rfl (sn _))))))))))))))⟩
                 have r157 := ite_f h115 c117; clear h115
                 refine shQ_off (b' := false) 61 rfl (Env.isF rfl c117) rfl rfl (shQ_off (b' := false) 61 rfl (Env.isF rfl c117) rfl rfl (shQ_off (b' := false) 61 rfl (Env.isF rfl c117) rfl rfl (shQ_off (b' := false) 61 rfl (Env.isF rfl c117) rfl rfl (shQ_off (b' := false) 61 rfl (Env.isF rfl c117) rfl rfl ?_))))
                 refine qv (v_pick_f (evD_false rfl c117) rfl) rfl ?_
                 refine qm rfl rfl (shQ_off (b' := false) 68 rfl rfl rfl rfl (shQ_off (b' := false) 68 rfl rfl rfl rfl (shQ_off (b' := false) 68 rfl rfl rfl rfl (shQ_off (b' := false) 68 rfl rfl rfl rfl (shQ_off (b' := false) 68 rfl rfl rfl rfl (shQ_off (b' := false) 68 rfl rfl rfl rfl (shQ_off (b' := false) 68 rfl rfl rfl rfl (shQ_off (b' := false) 68 rfl rfl rfl rfl (shQ_off (b' := false) 68 rfl rfl rfl rfl ?_)))))))))
                 refine shQ_off (b' := false) 68 rfl rfl rfl rfl (shQ_off (b' := false) 68 rfl rfl rfl rfl ?_)
                 refine qv (v_pick_f rfl rfl) rfl ?_
                 refine shQ_nil ?_
                 obtain rfl := inj1 r157
                 exact mi kr ⟨rfl, rfl, (sc rfl (sc rfl (sc rfl (sc rfl (sc rfl (sc rfl (sc rfl (sc rfl (sc rfl (sc rfl (sc rfl (sc rfl (sc rfl (sn _))))))))))))))⟩
               rintro e1 _ _ ⟨rfl, rfl, he158⟩
               refine shW_env _ he158 ?_; clear he158
               refine shW_cond rfl (fun c159 => ?_) (fun c159 => ?_)
               · have r160 := bt r116 c159; clear r116
                 refine shW_region ?_
                 refine ov (v_load Try.isAgg3 rfl (Has.own 0 rfl) rfl) rfl ?_
                 refine o_store (i := 1) Try.sizeOf3 rfl rfl rfl rfl (Nat.le_of_ble_eq_true rfl) ?_
                 refine shO_L (L' := (b92, .cells #[.int .i64 k] 3 (0, 0)) :: ((b76, .cells #[.int .i64 k] 3 (0, 0)) :: ((b58, .cells #[.int .i64 p] 3 (0, 0)) :: ((b38, .cells #[.slice a32 n36 c33] 36 (0, 0)) :: ((b1, .cells #[.int .i64 wide, .slice plots_a plots.length plots_c] 27 (0, 0)) :: (Lb34 ++ (Lb54 ++ []))))))) rfl ?_
                 refine shO_nil (inBlock_n (id := 5) ?_)
                 refine ⟨(b92, .cells #[.int .i64 k] 3 (0, 0)) :: ((b76, .cells #[.int .i64 k] 3 (0, 0)) :: ((b58, .cells #[.int .i64 p] 3 (0, 0)) :: ((b38, .cells #[.slice a32 n36 c33] 36 (0, 0)) :: ((b1, .cells #[.int .i64 wide, .slice plots_a plots.length plots_c] 27 (0, 0)) :: (Lb34 ++ (Lb54 ++ [])))))), sr, ?_⟩; exact ⟨_, k, (by rw [hxs112]; simp), r160, rfl⟩
               have r161 := bf r116 c159; clear r116
               refine shW_skip (inBlock_n (id := 5) ?_)
               refine ⟨(b92, .cells #[.int .i64 k] 3 (0, 0)) :: ((b76, .cells #[.int .i64 before4] 3 (0, 0)) :: ((b58, .cells #[.int .i64 p] 3 (0, 0)) :: ((b38, .cells #[.slice a32 n36 c33] 36 (0, 0)) :: ((b1, .cells #[.int .i64 wide, .slice plots_a plots.length plots_c] 27 (0, 0)) :: (Lb34 ++ (Lb54 ++ [])))))), sr, ?_⟩; exact ⟨_, before4, (by rw [hxs112]; simp), r161, rfl⟩
             · rintro F162 _ hF163 ⟨tl3, before4, hs101, r164, rfl⟩
               obtain rfl := rest_nil hs101; rw [hear_Way_l3] at r164
               refine inBlock_n (id := 4) (inBlock_n (id := 3) ?_)
               obtain rfl := inj1 r164
               exact mi (kd kr) ⟨(hF96.trans hF163), rfl, (sc rfl (sc rfl (sc rfl (sc rfl (sc rfl (sc rfl (sc rfl (sc rfl (sc rfl (sn _))))))))))⟩
             intro c F1 L1 hx h; exact h.elim
           rintro e1 F166 _ ⟨hF167, rfl, he165⟩
           refine shW_env _ he165 ?_; clear he165
           replace h_plots := h_plots.mono (iE_ok _) hF167
           refine shW_region ?_
           refine ov (v_add rfl rfl (Lst.r64 hk79 c86 (RowR.lt h_plots))) rfl ?_
           refine om rfl rfl (shO_nil ?_)
           subst hn80; exact le kr ⟨_, _, rfl, hk87, before3, r91, (hF84.trans hF167), rfl, (sc rfl (sc rfl (sc rfl (sc rfl (sc rfl (sc rfl (sc rfl (sc rfl (sc rfl (sn _))))))))))⟩
         obtain rfl := Lst.zero hk79 c86
         rw [hear_Way_l2] at r81
         refine shW_exit (andThen_exit (andThen_exit ?_))
         refine inBlock_exit ?_
         obtain rfl := inj1 r81
         exact mi kr ⟨hF84, rfl, (sc rfl (sc rfl (sc rfl (sc rfl (sc rfl (sc rfl (sc rfl (sn _))))))))⟩
       rintro e1 F169 _ ⟨hF170, rfl, he168⟩
       refine shW_env _ he168 ?_; clear he168
       replace hz55 := hz55.mono (iE_ok _) hF170
       refine wsr ?_
       refine ov (v_load Try.isAgg3 rfl (Has.own 0 rfl) rfl) rfl ?_
       refine o_store (i := 1) Try.sizeOf3 rfl rfl rfl rfl (Nat.le_of_ble_eq_true rfl) ?_
       refine shO_L (L' := (b76, .cells #[.int .i64 before] 3 (0, 0)) :: ((b58, .cells #[.int .i64 before] 3 (0, 0)) :: ((b38, .cells #[.slice a32 n36 c33] 36 (0, 0)) :: ((b1, .cells #[.int .i64 wide, .slice plots_a plots.length plots_c] 27 (0, 0)) :: (Lb34 ++ (Lb54 ++ [])))))) rfl ?_
       refine shO_nil (shW_region (om rfl rfl ?_))
       refine ov (v_load Try.isAgg3 rfl (Has.own 1 rfl) rfl) rfl ?_
       refine o_buildSlice (cs := #[.int .i64 before]) rfl rfl (buildSlice_all slt_36 [.int .i64 before] rfl (by decide) (by simp [Value.cells]) (by decide)) ?_; intro b171 hb171
       obtain ⟨out4, h172, g173, r174⟩ := ap_ok r78; clear r78
       refine o_appZ (xs := out2) (ys := [before]) (zs := out4) rfl slt_36 rfl rfl (Nat.le_refl _) (fun _ => .c (.c (.c (.c (.c (.s .h)))))) hz55 (SrcR.box (vss := [[.int .i64 before]]) (ys := [before]) 0 rfl (iE_ok _) (.cons rfl .nil) rfl rfl) h172 g173 (by decide) ?_; intro a175 n179 c176 Lb177 hz178
       refine kO (kd kr) ?_
       refine oa rfl rfl (shO_nil (inBlock_n (id := 1) ?_))
       obtain ⟨rfl, rfl⟩ := inj2 r174
       exact mi (kd kr) ⟨a175, n179, c176, Lb177, hF170, rfl, (sc rfl (sc rfl (sc rfl (sc rfl (sc rfl (sc rfl (sn _))))))), hz178⟩
     rintro e1 F182 _ ⟨a68, n72, c69, Lb70, hF183, rfl, he181, hz71⟩
     refine shW_env _ he181 ?_; clear he181
     refine wsr ?_
     refine ov (v_load Try.isAgg3 rfl (Has.own 0 rfl) rfl) rfl ?_
     refine shO_nil (shW_region ?_)
     refine o_alloc rfl Try.zeroValue3 ?_; intro b184 hb184
     refine o_store (i := 0) Try.sizeOf3 rfl rfl rfl rfl (Nat.le_of_ble_eq_true rfl) ?_
     refine shO_L (L' := (b184, .cells #[.int .i64 p2] 3 (0, 0)) :: ((b58, .cells #[.int .i64 p2] 3 (0, 0)) :: ((b38, .cells #[.slice a32 n36 c33] 36 (0, 0)) :: ((b1, .cells #[.int .i64 wide, .slice plots_a plots.length plots_c] 27 (0, 0)) :: (Lb34 ++ (Lb70 ++ [])))))) rfl ?_
     refine shO_nil ?_
     exact le (kc (kd kr)) ⟨out3, p2, a68, n72, c69, Lb70, b184, r75, (hF65.trans hF183), rfl, (sc rfl (sc rfl (sc rfl (sc rfl (sc rfl (sc rfl (sn _))))))), hz71, hb184⟩
   have r185 := ite_f r62 c66; clear r62
   refine shW_exit (andThen_exit (andThen_exit ?_))
   refine inBlock_exit ?_
   obtain rfl := inj1 r185
   exact mi (kd (kd (kd (kx kr)))) ⟨a52, n56, c53, Lb54, hF65, rfl, (sc rfl (sn _)), hz55⟩
 rintro e1 F187 _ ⟨a43, n47, c44, Lb45, hF188, rfl, he186, hz46⟩
 refine shW_env _ he186 ?_; clear he186
 refine wsr (om rfl rfl ?_)
 obtain ⟨s_, h189, r190⟩ := b1_ok r50; clear r50
 refine o_callG (Lb := Lb45 ++ []) (Lr := []) rfl Try.call86 rfl rfl rfl (pT pR (lp (ln rfl))) (slices_Reverse_int_int_w hz46 h189) ?_; rintro _ F191 _ hF192 hd194 hn193 ⟨Lb195, rfl, rfl, hz196⟩
 refine shO_L (lp (ln rfl)) ?_
 refine nsr (om rfl rfl (oa rfl rfl (oa rfl rfl (shO_nil (shW_ret ?_)))))
 refine q_res2 Try.results59 (res_tmp rfl) (res_tmp rfl) (sr) ?_
 obtain ⟨rfl, rfl⟩ := inj2 r190
 exact ⟨_, _, _, _, rfl, rfl, hz196.any⟩
set_option maxHeartbeats 1000000 in
theorem oyezlaw01_awake_w {F : FS} {r : Bool} (hr : oyezlaw01_awake = some r) :
    SpecV Try.prog 18 #[] F (.bool r) := by
 refine spec_of_shW (args := []) Try.func18 rfl Try.ntmps18 (Nat.le_of_ble_eq_true rfl) ?_
 intro K _ _; rw [oyezlaw01_awake] at hr
 refine wsr (oa rfl rfl (nsr ?_))
 refine o_buildSlice (cs := #[.string (sB [115, 104, 115, 104])]) rfl rfl (buildSlice_all slt_124 [.string (sB [115, 104, 115, 104])] rfl (by decide) (by simp [Value.cells]) (by decide)) ?_; intro b1 hb1
 refine shO_freeze 0 rfl hb1 ?_; intro F2 hF3 hz4
 refine shO_L (L' := []) rfl ?_
 have h5 : RowR 1 sE F2 (some ⟨b1, 0, none⟩) 1 [[115, 104, 115, 104]] := RowR.of_block sE_ok (vss := [[.string (sB [115, 104, 115, 104])]]) (xs := [[115, 104, 115, 104]]) hz4 (.cons rfl .nil) rfl (by simp [maxLen])
 obtain ⟨n, l, h6, r7⟩ := b2_ok hr; clear hr
 refine o_call0 rfl Try.call57 rfl rfl rfl (oyezlaw01_Drawn_w h5 h6) ?_; rintro _ F8 _ hF9 hn10 ⟨a12, n16, c13, Lb14, rfl, rfl, hz15⟩
 replace hz15 := hz15.new fun p hp => hn10 p (by simp [hp])
 refine shO_L (lp (ln rfl)) ?_
 refine o_buildSlice (cs := #[.string (sB [104, 115, 104]), .string (sB [115, 119, 115])]) rfl rfl (buildSlice_all slt_124 [.string (sB [104, 115, 104]), .string (sB [115, 119, 115])] rfl (by decide) (by simp [Value.cells]) (by decide)) ?_; intro b18 hb18
 refine shO_freeze 0 rfl hb18 ?_; intro F19 hF20 hz21
 refine shO_L (L' := Lb14 ++ []) rfl ?_
 replace hz15 := hz15.mono (iE_ok _) hF20
 have h22 : RowR 1 sE F19 (some ⟨b18, 0, none⟩) 2 [[104, 115, 104], [115, 119, 115]] := RowR.of_block sE_ok (vss := [[.string (sB [104, 115, 104])], [.string (sB [115, 119, 115])]]) (xs := [[104, 115, 104], [115, 119, 115]]) hz21 (.cons rfl (.cons rfl .nil)) rfl (by simp [maxLen])
 obtain ⟨n2, l2, h23, r24⟩ := b2_ok r7; clear r7
 refine o_call0 rfl Try.call57 rfl rfl rfl (oyezlaw01_Drawn_w h22 h23) ?_; rintro _ F25 _ hF26 hn27 ⟨a29, n33, c30, Lb31, rfl, rfl, hz32⟩
 replace hz15 := hz15.mono (iE_ok _) hF26
 replace hz32 := hz32.new fun p hp => hn27 p (by simp [hp])
 refine shO_L (lp (ln rfl)) ?_
 refine o_alloc rfl Try.zeroValue27 ?_; intro b35 hb35
 refine o_alloc rfl Try.zeroValue27 ?_; intro b36 hb36
 refine o_storeA (i := 1) Try.sizeOf27 rfl rfl rfl (by simp [Value.oneCell']) rfl (Nat.le_of_ble_eq_true rfl) ?_
 refine shO_L (L' := (b36, .cells #[.int .i64 0, .slice none 0 0] 27 (0, 0)) :: ((b35, .cells #[.int .i64 n, .slice a12 n16 c13] 27 (0, 0)) :: (Lb31 ++ (Lb14 ++ [])))) rfl ?_
 refine o_storeA (i := 0) Try.sizeOf27 rfl rfl rfl (by simp [Value.oneCell']) rfl (Nat.le_of_ble_eq_true rfl) ?_
 refine shO_L (L' := (b36, .cells #[.int .i64 n2, .slice a29 n33 c30] 27 (0, 0)) :: ((b35, .cells #[.int .i64 n, .slice a12 n16 c13] 27 (0, 0)) :: (Lb31 ++ (Lb14 ++ [])))) rfl ?_
 refine nsr ?_
 refine ov (v_loadA (cs := #[.int .i64 n, .slice a12 n16 c13]) Try.isAgg27 Try.sizeOf27 rfl (Has.own 1 rfl) (Nat.le_of_ble_eq_true rfl) rfl) rfl ?_
 obtain ⟨l3, n3, h37, r38⟩ := b2_ok r24; clear r24
 refine o_callTO (Lb := []) (Lt := Lb14 ++ []) (Lr := (b36, .cells #[.int .i64 n2, .slice a29 n33 c30] 27 (0, 0)) :: ((b35, .cells #[.int .i64 n, .slice a12 n16 c13] 27 (0, 0)) :: (Lb31 ++ []))) rfl Try.call13 rfl rfl rfl (pT ((fC (fC (fS fP))).trans (pA pR)) (ln (lp (ln rfl)))) (fun F2 h2 h3 => by rw [(SlR.caps hz15).1]; exact hear_Needs_w (hz15.row (iE_ok _) h2 (fun p hp => h3 p (List.mem_append_left _ hp))) h37) (fun _ _ _ _ hq => by obtain ⟨a43, n47, c44, Lb45, rfl, rfl, hz46⟩ := hq; exact ⟨_, _, _, _, rfl, rfl, hz46.flat (fun _ _ h => h)⟩) ?_; rintro _ F39 _ hF40 hd42 hn41 ⟨a43, n47, c44, Lb45, rfl, rfl, hz46⟩
 replace hz15 := hz15.mono (iE_ok _) hF40
 replace hz32 := hz32.mono (iE_ok _) hF40
 have hn49 := newp (Lb' := []) (by rfl) hd42 hn41
 replace hz46 := hz46.new fun p hp => hn49 p (by simp [hp])
 refine shO_L (lp (ln (lp (ln rfl)))) ?_
 refine kO (kf (fS (fS fO)) (kf (fS (fS fO)) kr)) ?_
 refine om rfl rfl (ox rfl rfl rfl (ox rfl rfl rfl (oa rfl rfl (oa rfl rfl (nsr ?_)))))
 refine ov (v_loadA (cs := #[.int .i64 n, .slice a12 n16 c13]) Try.isAgg27 Try.sizeOf27 rfl (Has.own 1 rfl) (Nat.le_of_ble_eq_true rfl) rfl) rfl ?_
 refine ov (v_build (v := .agg #[.int .i64 0, .int .i64 5]) rfl (by intro w; kernel_rfl)) rfl ?_
 refine o_buildSlice (cs := #[.int .i64 1, .int .i64 3]) rfl rfl (buildSlice_all slt_36 [.int .i64 1, .int .i64 3] rfl (by decide) (by simp [Value.cells]) (by decide)) ?_; intro b50 hb50
 refine shO_freeze 0 rfl hb50 ?_; intro F51 hF52 hz53
 refine shO_L (L' := (b36, .cells #[.int .i64 n2, .slice a29 n33 c30] 27 (0, 0)) :: ((b35, .cells #[.int .i64 n, .slice a12 n16 c13] 27 (0, 0)) :: (Lb45 ++ (Lb14 ++ (Lb31 ++ []))))) rfl ?_
 replace hz15 := hz15.mono (iE_ok _) hF52
 replace hz32 := hz32.mono (iE_ok _) hF52
 replace hz46 := hz46.mono (iE_ok _) hF52
 have h54 : RowR 1 (iE .i64) F51 (some ⟨b50, 0, none⟩) 2 [1, 3] := RowR.of_block (iE_ok _) (vss := [[.int .i64 1], [.int .i64 3]]) (xs := [1, 3]) hz53 (.cons rfl (.cons rfl .nil)) rfl (by simp [maxLen])
 obtain ⟨l4, n4, h55, r56⟩ := b2_ok r38; clear r38
 refine o_callTO (Lb := []) (Lt := Lb14 ++ []) (Lr := (b36, .cells #[.int .i64 n2, .slice a29 n33 c30] 27 (0, 0)) :: ((b35, .cells #[.int .i64 n, .slice a12 n16 c13] 27 (0, 0)) :: (Lb45 ++ (Lb31 ++ [])))) rfl Try.call15 rfl rfl rfl (pT ((fC (fC (fS fP))).trans (pA pR)) (ln (lp (ln rfl)))) (fun F2 h2 h3 => by rw [(SlR.caps hz15).1]; exact hear_Fewest_w (hz15.row (iE_ok _) h2 (fun p hp => h3 p (List.mem_append_left _ hp))) (h54.mono (iE_ok _) h2) h55) (fun _ _ _ _ hq => by obtain ⟨a61, n65, c62, Lb63, rfl, rfl, hz64⟩ := hq; exact ⟨_, _, _, _, rfl, rfl, hz64.flat (fun _ _ h => h)⟩) ?_; rintro _ F57 _ hF58 hd60 hn59 ⟨a61, n65, c62, Lb63, rfl, rfl, hz64⟩
 replace hz15 := hz15.mono (iE_ok _) hF58
 replace hz32 := hz32.mono (iE_ok _) hF58
 replace hz46 := hz46.mono (iE_ok _) hF58
 have hn67 := newp (Lb' := []) (by rfl) hd60 hn59
 replace hz64 := hz64.new fun p hp => hn67 p (by simp [hp])
 refine shO_L (lp (ln (lp (ln rfl)))) ?_
 refine kO (kf (fS (fS fO)) (kf (fS (fS fO)) kr)) ?_
 refine om rfl rfl (ox rfl rfl rfl (ox rfl rfl rfl (oa rfl rfl (oa rfl rfl (nsr ?_)))))
 refine ov (v_loadA (cs := #[.int .i64 n2, .slice a29 n33 c30]) Try.isAgg27 Try.sizeOf27 rfl (Has.own 0 rfl) (Nat.le_of_ble_eq_true rfl) rfl) rfl ?_
 refine ov (v_build (v := .agg #[.int .i64 0, .int .i64 3]) rfl (by intro w; kernel_rfl)) rfl ?_
 refine o_buildSlice (cs := #[.int .i64 0, .int .i64 2]) rfl rfl (buildSlice_all slt_36 [.int .i64 0, .int .i64 2] rfl (by decide) (by simp [Value.cells]) (by decide)) ?_; intro b68 hb68
 refine shO_freeze 0 rfl hb68 ?_; intro F69 hF70 hz71
 refine shO_L (L' := (b36, .cells #[.int .i64 n2, .slice a29 n33 c30] 27 (0, 0)) :: ((b35, .cells #[.int .i64 n, .slice a12 n16 c13] 27 (0, 0)) :: (Lb63 ++ (Lb14 ++ (Lb45 ++ (Lb31 ++ [])))))) rfl ?_
 replace hz15 := hz15.mono (iE_ok _) hF70
 replace hz32 := hz32.mono (iE_ok _) hF70
 replace hz46 := hz46.mono (iE_ok _) hF70
 replace hz64 := hz64.mono (iE_ok _) hF70
 have h72 : RowR 1 (iE .i64) F69 (some ⟨b68, 0, none⟩) 2 [0, 2] := RowR.of_block (iE_ok _) (vss := [[.int .i64 0], [.int .i64 2]]) (xs := [0, 2]) hz71 (.cons rfl (.cons rfl .nil)) rfl (by simp [maxLen])
 obtain ⟨l5, n5, h73, r74⟩ := b2_ok r56; clear r56
 refine o_callTO (Lb := []) (Lt := Lb31 ++ []) (Lr := (b36, .cells #[.int .i64 n2, .slice a29 n33 c30] 27 (0, 0)) :: ((b35, .cells #[.int .i64 n, .slice a12 n16 c13] 27 (0, 0)) :: (Lb63 ++ (Lb14 ++ (Lb45 ++ []))))) rfl Try.call15 rfl rfl rfl (pT ((fC (fC (fS (fS (fS fP))))).trans (pA pR)) (ln (lp (ln rfl)))) (fun F2 h2 h3 => by rw [(SlR.caps hz32).1]; exact hear_Fewest_w (hz32.row (iE_ok _) h2 (fun p hp => h3 p (List.mem_append_left _ hp))) (h72.mono (iE_ok _) h2) h73) (fun _ _ _ _ hq => by obtain ⟨a79, n83, c80, Lb81, rfl, rfl, hz82⟩ := hq; exact ⟨_, _, _, _, rfl, rfl, hz82.flat (fun _ _ h => h)⟩) ?_; rintro _ F75 _ hF76 hd78 hn77 ⟨a79, n83, c80, Lb81, rfl, rfl, hz82⟩
 replace hz15 := hz15.mono (iE_ok _) hF76
 replace hz32 := hz32.mono (iE_ok _) hF76
 replace hz46 := hz46.mono (iE_ok _) hF76
 replace hz64 := hz64.mono (iE_ok _) hF76
 have hn85 := newp (Lb' := []) (by rfl) hd78 hn77
 replace hz82 := hz82.new fun p hp => hn85 p (by simp [hp])
 refine shO_L (lp (ln (lp (ln rfl)))) ?_
 refine kO (kf (fS (fS fO)) (kf (fS (fS fO)) kr)) ?_
 refine om rfl rfl (ox rfl rfl rfl (ox rfl rfl rfl (oa rfl rfl (oa rfl rfl (nsr ?_)))))
 refine ov (v_loadA (cs := #[.int .i64 n2, .slice a29 n33 c30]) Try.isAgg27 Try.sizeOf27 rfl (Has.own 0 rfl) (Nat.le_of_ble_eq_true rfl) rfl) rfl ?_
 refine o_buildSlice (cs := #[.int .i64 3, .int .i64 0, .int .i64 3, .int .i64 5, .int .i64 0, .int .i64 5]) rfl rfl (buildSlice_all slt_36 [.int .i64 3, .int .i64 0, .int .i64 3, .int .i64 5, .int .i64 0, .int .i64 5] rfl (by decide) (by simp [Value.cells]) (by decide)) ?_; intro b86 hb86
 refine shO_freeze 0 rfl hb86 ?_; intro F87 hF88 hz89
 refine shO_L (L' := (b36, .cells #[.int .i64 n2, .slice a29 n33 c30] 27 (0, 0)) :: ((b35, .cells #[.int .i64 n, .slice a12 n16 c13] 27 (0, 0)) :: (Lb81 ++ (Lb31 ++ (Lb63 ++ (Lb14 ++ (Lb45 ++ []))))))) rfl ?_
 replace hz15 := hz15.mono (iE_ok _) hF88
 replace hz32 := hz32.mono (iE_ok _) hF88
 replace hz46 := hz46.mono (iE_ok _) hF88
 replace hz64 := hz64.mono (iE_ok _) hF88
 replace hz82 := hz82.mono (iE_ok _) hF88
 have h90 : RowR 1 (iE .i64) F87 (some ⟨b86, 0, none⟩) 6 [3, 0, 3, 5, 0, 5] := RowR.of_block (iE_ok _) (vss := [[.int .i64 3], [.int .i64 0], [.int .i64 3], [.int .i64 5], [.int .i64 0], [.int .i64 5]]) (xs := [3, 0, 3, 5, 0, 5]) hz89 (.cons rfl (.cons rfl (.cons rfl (.cons rfl (.cons rfl (.cons rfl .nil)))))) rfl (by simp [maxLen])
 obtain ⟨ok, n6, h91, r92⟩ := b2_ok r74; clear r74
 refine o_callT (Lt := Lb31 ++ []) (Lr := (b36, .cells #[.int .i64 n2, .slice a29 n33 c30] 27 (0, 0)) :: ((b35, .cells #[.int .i64 n, .slice a12 n16 c13] 27 (0, 0)) :: (Lb81 ++ (Lb63 ++ (Lb14 ++ (Lb45 ++ [])))))) rfl Try.call58 rfl rfl rfl (pT ((fC (fC (fS fP))).trans (pA pR)) (lp (ln rfl))) (fun F2 h2 h3 => by rw [(SlR.caps hz32).1]; exact hear_Holds_w (hz32.row (iE_ok _) h2 (fun p hp => h3 p (List.mem_append_left _ hp))) (h90.mono (iE_ok _) h2) h91) ?_
 refine om rfl rfl (ox rfl rfl rfl (ox rfl rfl rfl (oa rfl rfl (oa rfl rfl (shO_nil (shW_seq ?_))))))
 obtain ⟨k, h93, r94⟩ := b1_ok r92; clear r92
 refine shW_join (fun e1 F1 L1 => FExt F87 F1 ∧ L1 = ((b36, .cells #[.int .i64 n2, .slice a29 n33 c30] 27 (0, 0)) :: ((b35, .cells #[.int .i64 n, .slice a12 n16 c13] 27 (0, 0)) :: (Lb14 ++ (Lb31 ++ [])))) ∧ e1.sub [(1, .pointer (some ⟨b35, 0, none⟩)), (2, .pointer (some ⟨b36, 0, none⟩)), (77, .bool k)]) ?_ ?_
 · clear r94
   refine shW_region (om rfl rfl ?_)
   refine ov (v_neq rfl rfl) rfl ?_
   refine om rfl rfl ?_
   by_cases c95 : n3 ≠ 0
   · have r96 := ite_t h93 c95; clear h93
     refine shO_off (b' := true) 44 rfl (Env.isT rfl c95) rfl rfl (shO_off (b' := true) 44 rfl (Env.isT rfl c95) rfl rfl ?_)
     refine ov (v_pick_t (evD_true rfl c95) rfl) rfl ?_
     refine om rfl rfl (shO_off (b' := true) 48 rfl rfl rfl rfl (shO_off (b' := true) 48 rfl rfl rfl rfl ?_))
     refine ov (v_pick_t rfl rfl) rfl ?_
     refine om rfl rfl (shO_off (b' := true) 52 rfl rfl rfl rfl (shO_off (b' := true) 52 rfl rfl rfl rfl ?_))
     refine ov (v_pick_t rfl rfl) rfl ?_
     refine om rfl rfl (shO_off (b' := true) 56 rfl rfl rfl rfl (shO_off (b' := true) 56 rfl rfl rfl rfl ?_))
     refine ov (v_pick_t rfl rfl) rfl ?_
     refine om rfl rfl (shO_off (b' := true) 60 rfl rfl rfl rfl (shO_off (b' := true) 60 rfl rfl rfl rfl (shO_off (b' := true) 60 rfl rfl rfl rfl (shO_off (b' := true) 60 rfl rfl rfl rfl ?_))))
     refine ov (v_pick_t rfl rfl) rfl ?_
     refine om rfl rfl (shO_off (b' := true) 66 rfl rfl rfl rfl (shO_off (b' := true) 66 rfl rfl rfl rfl (shO_off (b' := true) 66 rfl rfl rfl rfl (shO_off (b' := true) 66 rfl rfl rfl rfl ?_))))
     refine ov (v_pick_t rfl rfl) rfl ?_
     refine om rfl rfl (shO_off (b' := true) 72 rfl rfl rfl rfl (shO_off (b' := true) 72 rfl rfl rfl rfl (shO_off (b' := true) 72 rfl rfl rfl rfl (shO_off (b' := true) 72 rfl rfl rfl rfl ?_))))
     refine ov (v_pick_t rfl rfl) rfl ?_
     refine shO_nil ?_
     obtain rfl := inj1 r96
     exact mi (kc (kc (kx (kg (fS (fS fP)) (ka kn))))) ⟨FExt.refl _, rfl, (sc rfl (sc rfl (sc rfl (sn _))))⟩
   have r97 := ite_f h93 c95; clear h93
   refine shO_on (b := false) 44 rfl (Env.isF rfl c95) (om rfl rfl (shO_on (b := false) 44 rfl (Env.isF rfl c95) ?_))
   refine ov (v_neq rfl rfl) rfl ?_
   refine ov (v_pick_f (evD_false rfl c95) rfl) rfl ?_
   refine om rfl rfl ?_
   by_cases c98 : n4 ≠ 0
   · have r99 := ite_t r97 c98; clear r97
     refine shO_off (b' := true) 48 rfl (Env.isT rfl c98) rfl rfl (shO_off (b' := true) 48 rfl (Env.isT rfl c98) rfl rfl ?_)
     refine ov (v_pick_t (evD_true rfl c98) rfl) rfl ?_
     refine om rfl rfl (shO_off (b' := true) 52 rfl rfl rfl rfl (shO_off (b' := true) 52 rfl rfl rfl rfl ?_))
     refine ov (v_pick_t rfl rfl) rfl ?_
     refine om rfl rfl (shO_off (b' := true) 56 rfl rfl rfl rfl (shO_off (b' := true) 56 rfl rfl rfl rfl ?_))
     refine ov (v_pick_t rfl rfl) rfl ?_
     refine om rfl rfl (shO_off (b' := true) 60 rfl rfl rfl rfl (shO_off (b' := true) 60 rfl rfl rfl rfl (shO_off (b' := true) 60 rfl rfl rfl rfl (shO_off (b' := true) 60 rfl rfl rfl rfl ?_))))
     refine ov (v_pick_t rfl rfl) rfl ?_
     refine om rfl rfl (shO_off (b' := true) 66 rfl rfl rfl rfl (shO_off (b' := true) 66 rfl rfl rfl rfl (shO_off (b' := true) 66 rfl rfl rfl rfl (shO_off (b' := true) 66 rfl rfl rfl rfl ?_))))
     refine ov (v_pick_t rfl rfl) rfl ?_
     refine om rfl rfl (shO_off (b' := true) 72 rfl rfl rfl rfl (shO_off (b' := true) 72 rfl rfl rfl rfl (shO_off (b' := true) 72 rfl rfl rfl rfl (shO_off (b' := true) 72 rfl rfl rfl rfl ?_))))
     refine ov (v_pick_t rfl rfl) rfl ?_
     refine shO_nil ?_
     obtain rfl := inj1 r99
     exact mi (kc (kc (kx (kg (fS (fS fP)) (ka kn))))) ⟨FExt.refl _, rfl, (sc rfl (sc rfl (sc rfl (sn _))))⟩
   have r100 := ite_f r97 c98; clear r97
   refine shO_on (b := false) 48 rfl (Env.isF rfl c98) (om rfl rfl (shO_on (b := false) 48 rfl (Env.isF rfl c98) ?_))
   refine ov (v_neq rfl rfl) rfl ?_
   refine ov (v_pick_f (evD_false rfl c98) rfl) rfl ?_
   refine om rfl rfl ?_
   by_cases c101 : n5 ≠ 0
   · have r102 := ite_t r100 c101; clear r100
     refine shO_off (b' := true) 52 rfl (Env.isT rfl c101) rfl rfl (shO_off (b' := true) 52 rfl (Env.isT rfl c101) rfl rfl ?_)
     refine ov (v_pick_t (evD_true rfl c101) rfl) rfl ?_
     refine om rfl rfl (shO_off (b' := true) 56 rfl rfl rfl rfl (shO_off (b' := true) 56 rfl rfl rfl rfl ?_))
     refine ov (v_pick_t rfl rfl) rfl ?_
     refine om rfl rfl (shO_off (b' := true) 60 rfl rfl rfl rfl (shO_off (b' := true) 60 rfl rfl rfl rfl (shO_off (b' := true) 60 rfl rfl rfl rfl (shO_off (b' := true) 60 rfl rfl rfl rfl ?_))))
     refine ov (v_pick_t rfl rfl) rfl ?_
     refine om rfl rfl (shO_off (b' := true) 66 rfl rfl rfl rfl (shO_off (b' := true) 66 rfl rfl rfl rfl (shO_off (b' := true) 66 rfl rfl rfl rfl (shO_off (b' := true) 66 rfl rfl rfl rfl ?_))))
     refine ov (v_pick_t rfl rfl) rfl ?_
     refine om rfl rfl (shO_off (b' := true) 72 rfl rfl rfl rfl (shO_off (b' := true) 72 rfl rfl rfl rfl (shO_off (b' := true) 72 rfl rfl rfl rfl (shO_off (b' := true) 72 rfl rfl rfl rfl ?_))))
     refine ov (v_pick_t rfl rfl) rfl ?_
     refine shO_nil ?_
     obtain rfl := inj1 r102
     exact mi (kc (kc (kx (kg (fS (fS fP)) (ka kn))))) ⟨FExt.refl _, rfl, (sc rfl (sc rfl (sc rfl (sn _))))⟩
   have r103 := ite_f r100 c101; clear r100
   refine shO_on (b := false) 52 rfl (Env.isF rfl c101) (om rfl rfl (shO_on (b := false) 52 rfl (Env.isF rfl c101) ?_))
   refine ov (v_neq rfl rfl) rfl ?_
   refine ov (v_pick_f (evD_false rfl c101) rfl) rfl ?_
   refine om rfl rfl ?_
   by_cases c104 : n6 ≠ 0
   · have r105 := ite_t r103 c104; clear r103
     refine shO_off (b' := true) 56 rfl (Env.isT rfl c104) rfl rfl (shO_off (b' := true) 56 rfl (Env.isT rfl c104) rfl rfl ?_)
     refine ov (v_pick_t (evD_true rfl c104) rfl) rfl ?_
     refine om rfl rfl (shO_off (b' := true) 60 rfl rfl rfl rfl (shO_off (b' := true) 60 rfl rfl rfl rfl (shO_off (b' := true) 60 rfl rfl rfl rfl (shO_off (b' := true) 60 rfl rfl rfl rfl ?_))))
     refine ov (v_pick_t rfl rfl) rfl ?_
     refine om rfl rfl (shO_off (b' := true) 66 rfl rfl rfl rfl (shO_off (b' := true) 66 rfl rfl rfl rfl (shO_off (b' := true) 66 rfl rfl rfl rfl (shO_off (b' := true) 66 rfl rfl rfl rfl ?_))))
     refine ov (v_pick_t rfl rfl) rfl ?_
     refine om rfl rfl (shO_off (b' := true) 72 rfl rfl rfl rfl (shO_off (b' := true) 72 rfl rfl rfl rfl (shO_off (b' := true) 72 rfl rfl rfl rfl (shO_off (b' := true) 72 rfl rfl rfl rfl ?_))))
     refine ov (v_pick_t rfl rfl) rfl ?_
     refine shO_nil ?_
     obtain rfl := inj1 r105
     exact mi (kc (kc (kx (kg (fS (fS fP)) (ka kn))))) ⟨FExt.refl _, rfl, (sc rfl (sc rfl (sc rfl (sn _))))⟩
   have r106 := ite_f r103 c104; clear r103
   refine shO_on (b := false) 56 rfl (Env.isF rfl c104) (om rfl rfl (shO_on (b := false) 56 rfl (Env.isF rfl c104) ?_))
   refine ov (v_notB rfl) rfl ?_
   refine ov (v_pick_f (evD_false rfl c104) rfl) rfl ?_
   refine om rfl rfl ?_
   rcases bool_two (!ok) with c107 | c107
   · have r108 := bt r106 c107; clear r106
     refine shO_off (b' := true) 60 rfl (EnvB rfl c107) rfl rfl (shO_off (b' := true) 60 rfl (EnvB rfl c107) rfl rfl (shO_off (b' := true) 60 rfl (EnvB rfl c107) rfl rfl (shO_off (b' := true) 60 rfl (EnvB rfl c107) rfl rfl ?_)))
     refine ov (v_pick_t (evB rfl c107) rfl) rfl ?_
     refine om rfl rfl (shO_off (b' := true) 66 rfl rfl rfl rfl (shO_off (b' := true) 66 rfl rfl rfl rfl (shO_off (b' := true) 66 rfl rfl rfl rfl (shO_off (b' := true) 66 rfl rfl rfl rfl ?_))))
     refine ov (v_pick_t rfl rfl) rfl ?_
     refine om rfl rfl (shO_off (b' := true) 72 rfl rfl rfl rfl (shO_off (b' := true) 72 rfl rfl rfl rfl (shO_off (b' := true) 72 rfl rfl rfl rfl (shO_off (b' := true) 72 rfl rfl rfl rfl ?_))))
     refine ov (v_pick_t rfl rfl) rfl ?_
     refine shO_nil ?_
     obtain rfl := inj1 r108
     exact mi (kc (kc (kx (kg (fS (fS fP)) (ka kn))))) ⟨FExt.refl _, rfl, (sc rfl (sc rfl (sc rfl (sn _))))⟩
   have r109 := bf r106 c107; clear r106
   refine shO_on (b := false) 60 rfl (EnvB rfl c107) (om rfl rfl (shO_on (b := false) 60 rfl (EnvB rfl c107) ?_))
   refine o_buildSlice (cs := #[.int .i64 0, .int .i64 5, .int .i64 9, .int .i64 14]) rfl rfl (buildSlice_all slt_36 [.int .i64 0, .int .i64 5, .int .i64 9, .int .i64 14] rfl (by decide) (by simp [Value.cells]) (by decide)) ?_; intro b110 hb110
   refine shO_on (b := false) 60 rfl (EnvB rfl c107) ?_
   refine shO_freeze 0 rfl hb110 ?_; intro F111 hF112 hz113
   refine shO_L (L' := (b36, .cells #[.int .i64 n2, .slice a29 n33 c30] 27 (0, 0)) :: ((b35, .cells #[.int .i64 n, .slice a12 n16 c13] 27 (0, 0)) :: (Lb81 ++ (Lb31 ++ (Lb63 ++ (Lb14 ++ (Lb45 ++ []))))))) rfl ?_
   replace hz46 := hz46.mono (iE_ok _) hF112
   replace hz64 := hz64.mono (iE_ok _) hF112
   replace hz82 := hz82.mono (iE_ok _) hF112
   have h114 : RowR 1 (iE .i64) F111 (some ⟨b110, 0, none⟩) 4 [0, 5, 9, 14] := RowR.of_block (iE_ok _) (vss := [[.int .i64 0], [.int .i64 5], [.int .i64 9], [.int .i64 14]]) (xs := [0, 5, 9, 14]) hz113 (.cons rfl (.cons rfl (.cons rfl (.cons rfl .nil)))) rfl (by simp [maxLen])
   obtain ⟨ok2, h115, r116⟩ := b1_ok r109; clear r109
   refine o_callT (Lt := Lb45 ++ []) (Lr := (b36, .cells #[.int .i64 n2, .slice a29 n33 c30] 27 (0, 0)) :: ((b35, .cells #[.int .i64 n, .slice a12 n16 c13] 27 (0, 0)) :: (Lb81 ++ (Lb31 ++ (Lb63 ++ (Lb14 ++ [])))))) rfl Try.call37 rfl rfl rfl (pT ((fC (fC (fS (fS (fS (fS fP)))))).trans (pA pR)) (lp (ln rfl))) (fun F2 h2 h3 => by rw [(SlR.caps hz46).1]; exact oyezkit_Like_int_w (hz46.row (iE_ok _) h2 (fun p hp => h3 p (List.mem_append_left _ hp))) (h114.mono (iE_ok _) h2) h115) ?_
   refine shO_on (b := false) 60 rfl (EnvB rfl c107) ?_
   refine ov (v_notB rfl) rfl ?_
   refine ov (v_pick_f (evB rfl c107) rfl) rfl ?_
   refine om rfl rfl ?_
   rcases bool_two (!ok2) with c117 | c117
   · have r118 := bt r116 c117; clear r116
     refine shO_off (b' := true) 66 rfl (EnvB rfl c117) rfl rfl (shO_off (b' := true) 66 rfl (EnvB rfl c117) rfl rfl (shO_off (b' := true) 66 rfl (EnvB rfl c117) rfl rfl (shO_off (b' := true) 66 rfl (EnvB rfl c117) rfl rfl ?_)))
     refine ov (v_pick_t (evB rfl c117) rfl) rfl ?_
     refine om rfl rfl (shO_off (b' := true) 72 rfl rfl rfl rfl (shO_off (b' := true) 72 rfl rfl rfl rfl (shO_off (b' := true) 72 rfl rfl rfl rfl (shO_off (b' := true) 72 rfl rfl rfl rfl ?_))))
     refine ov (v_pick_t rfl rfl) rfl ?_
     refine shO_nil ?_
     obtain rfl := inj1 r118
     exact mi (kc (kc (kx (kg (fS (fS fP)) (ka kn))))) ⟨hF112, rfl, (sc rfl (sc rfl (sc rfl (sn _))))⟩
   have r119 := bf r116 c117; clear r116
   refine shO_on (b := false) 66 rfl (EnvB rfl c117) (om rfl rfl (shO_on (b := false) 66 rfl (EnvB rfl c117) ?_))
   refine o_buildSlice (cs := #[.int .i64 2]) rfl rfl (buildSlice_all slt_36 [.int .i64 2] rfl (by decide) (by simp [Value.cells]) (by decide)) ?_; intro b120 hb120
   refine shO_on (b := false) 66 rfl (EnvB rfl c117) ?_
   refine shO_freeze 0 rfl hb120 ?_; intro F121 hF122 hz123
   refine shO_L (L' := (b36, .cells #[.int .i64 n2, .slice a29 n33 c30] 27 (0, 0)) :: ((b35, .cells #[.int .i64 n, .slice a12 n16 c13] 27 (0, 0)) :: (Lb81 ++ (Lb31 ++ (Lb63 ++ (Lb14 ++ (Lb45 ++ []))))))) rfl ?_
   replace hz64 := hz64.mono (iE_ok _) hF122
   replace hz82 := hz82.mono (iE_ok _) hF122
   have h124 : RowR 1 (iE .i64) F121 (some ⟨b120, 0, none⟩) 1 [2] := RowR.of_block (iE_ok _) (vss := [[.int .i64 2]]) (xs := [2]) hz123 (.cons rfl .nil) rfl (by simp [maxLen])
   obtain ⟨ok3, h125, r126⟩ := b1_ok r119; clear r119
   refine o_callT (Lt := Lb63 ++ []) (Lr := (b36, .cells #[.int .i64 n2, .slice a29 n33 c30] 27 (0, 0)) :: ((b35, .cells #[.int .i64 n, .slice a12 n16 c13] 27 (0, 0)) :: (Lb81 ++ (Lb31 ++ (Lb14 ++ (Lb45 ++ [])))))) rfl Try.call37 rfl rfl rfl (pT ((fC (fC (fS (fS fP)))).trans (pA pR)) (lp (ln rfl))) (fun F2 h2 h3 => by rw [(SlR.caps hz64).1]; exact oyezkit_Like_int_w (hz64.row (iE_ok _) h2 (fun p hp => h3 p (List.mem_append_left _ hp))) (h124.mono (iE_ok _) h2) h125) ?_
   refine shO_on (b := false) 66 rfl (EnvB rfl c117) ?_
   refine ov (v_notB rfl) rfl ?_
   refine ov (v_pick_f (evB rfl c117) rfl) rfl ?_
   refine om rfl rfl ?_
   rcases bool_two (!ok3) with c127 | c127
   · have r128 := bt r126 c127; clear r126
     refine shO_off (b' := true) 72 rfl (EnvB rfl c127) rfl rfl (shO_off (b' := true) 72 rfl (EnvB rfl c127) rfl rfl (shO_off (b' := true) 72 rfl (EnvB rfl c127) rfl rfl (shO_off (b' := true) 72 rfl (EnvB rfl c127) rfl rfl ?_)))
     refine ov (v_pick_t (evB rfl c127) rfl) rfl ?_
     refine shO_nil ?_
     obtain rfl := inj1 r128
     exact mi (kc (kc (kx (kg (fS (fS fP)) (ka kn))))) ⟨(hF112.trans hF122), rfl, (sc rfl (sc rfl (sc rfl (sn _))))⟩
   have r129 := bf r126 c127; clear r126
   refine shO_on (b := false) 72 rfl (EnvB rfl c127) (om rfl rfl (shO_on (b := false) 72 rfl (EnvB rfl c127) ?_))
   refine o_buildSlice (cs := #[.int .i64 1]) rfl rfl (buildSlice_all slt_36 [.int .i64 1] rfl (by decide) (by simp [Value.cells]) (by decide)) ?_; intro b130 hb130
   refine shO_on (b := false) 72 rfl (EnvB rfl c127) ?_
   refine shO_freeze 0 rfl hb130 ?_; intro F131 hF132 hz133
   refine shO_L (L' := (b36, .cells #[.int .i64 n2, .slice a29 n33 c30] 27 (0, 0)) :: ((b35, .cells #[.int .i64 n, .slice a12 n16 c13] 27 (0, 0)) :: (Lb81 ++ (Lb31 ++ (Lb63 ++ (Lb14 ++ (Lb45 ++ []))))))) rfl ?_
   replace hz82 := hz82.mono (iE_ok _) hF132
   have h134 : RowR 1 (iE .i64) F131 (some ⟨b130, 0, none⟩) 1 [1] := RowR.of_block (iE_ok _) (vss := [[.int .i64 1]]) (xs := [1]) hz133 (.cons rfl .nil) rfl (by simp [maxLen])
   obtain ⟨ok4, h135, r136⟩ := b1_ok r129; clear r129
   refine o_callT (Lt := Lb81 ++ []) (Lr := (b36, .cells #[.int .i64 n2, .slice a29 n33 c30] 27 (0, 0)) :: ((b35, .cells #[.int .i64 n, .slice a12 n16 c13] 27 (0, 0)) :: (Lb31 ++ (Lb63 ++ (Lb14 ++ (Lb45 ++ [])))))) rfl Try.call37 rfl rfl rfl (pT ((fC (fC fP)).trans (pA pR)) (lp (ln rfl))) (fun F2 h2 h3 => by rw [(SlR.caps hz82).1]; exact oyezkit_Like_int_w (hz82.row (iE_ok _) h2 (fun p hp => h3 p (List.mem_append_left _ hp))) (h134.mono (iE_ok _) h2) h135) ?_
   refine shO_on (b := false) 72 rfl (EnvB rfl c127) ?_
   refine ov (v_notB rfl) rfl ?_
   refine ov (v_pick_f (evB rfl c127) rfl) rfl ?_
   refine shO_nil ?_
   obtain rfl := inj1 r136
   exact mi (kc (kc (kx (kg (fS (fS fP)) (ka kn))))) ⟨((hF112.trans hF122).trans hF132), rfl, (sc rfl (sc rfl (sc rfl (sn _))))⟩
 rintro e1 F138 _ ⟨hF139, rfl, he137⟩
 refine shW_env _ he137 ?_; clear he137
 replace hz15 := hz15.mono (iE_ok _) hF139
 replace hz32 := hz32.mono (iE_ok _) hF139
 refine shW_cond rfl (fun c140 => ?_) (fun c140 => ?_)
 · have r141 := bt r94 c140; clear r94
   refine wsr (oa rfl rfl (shO_nil ?_))
   refine kW kn ?_
   refine shW_ret (andThen_ret ?_)
   refine q_res1 Try.results18 (res_tmp rfl) (sr) ?_
   obtain rfl := inj1 r141
   exact rfl
 have r142 := bf r94 c140; clear r94
 refine shW_skip (wsr ?_)
 refine ov (v_loadA (cs := #[.int .i64 n, .slice a12 n16 c13]) Try.isAgg27 Try.sizeOf27 rfl (Has.own 1 rfl) (Nat.le_of_ble_eq_true rfl) rfl) rfl ?_
 refine o_buildSlice (cs := #[.int .i64 1, .int .i64 3]) rfl rfl (buildSlice_all slt_36 [.int .i64 1, .int .i64 3] rfl (by decide) (by simp [Value.cells]) (by decide)) ?_; intro b143 hb143
 refine shO_freeze 0 rfl hb143 ?_; intro F144 hF145 hz146
 refine shO_L (L' := (b36, .cells #[.int .i64 n2, .slice a29 n33 c30] 27 (0, 0)) :: ((b35, .cells #[.int .i64 n, .slice a12 n16 c13] 27 (0, 0)) :: (Lb14 ++ (Lb31 ++ [])))) rfl ?_
 replace hz15 := hz15.mono (iE_ok _) hF145
 replace hz32 := hz32.mono (iE_ok _) hF145
 have h147 : RowR 1 (iE .i64) F144 (some ⟨b143, 0, none⟩) 2 [1, 3] := RowR.of_block (iE_ok _) (vss := [[.int .i64 1], [.int .i64 3]]) (xs := [1, 3]) hz146 (.cons rfl (.cons rfl .nil)) rfl (by simp [maxLen])
 obtain ⟨n7, n8, h148, r149⟩ := b2_ok r142; clear r142
 refine o_callT (Lt := Lb14 ++ []) (Lr := (b36, .cells #[.int .i64 n2, .slice a29 n33 c30] 27 (0, 0)) :: ((b35, .cells #[.int .i64 n, .slice a12 n16 c13] 27 (0, 0)) :: (Lb31 ++ []))) rfl Try.call17 rfl rfl rfl (pT ((fC (fC fP)).trans (pA pR)) (lp (ln rfl))) (fun F2 h2 h3 => by rw [(SlR.caps hz15).1]; exact hear_Louder_w (hz15.row (iE_ok _) h2 (fun p hp => h3 p (List.mem_append_left _ hp))) (h147.mono (iE_ok _) h2) h148) ?_
 refine om rfl rfl (ox rfl rfl rfl (ox rfl rfl rfl (oa rfl rfl (oa rfl rfl (nsr ?_)))))
 refine ov (v_loadA (cs := #[.int .i64 n2, .slice a29 n33 c30]) Try.isAgg27 Try.sizeOf27 rfl (Has.own 0 rfl) (Nat.le_of_ble_eq_true rfl) rfl) rfl ?_
 obtain ⟨l6, n9, h150, r151⟩ := b2_ok r149; clear r149
 refine o_callTO (Lb := []) (Lt := Lb31 ++ []) (Lr := (b36, .cells #[.int .i64 n2, .slice a29 n33 c30] 27 (0, 0)) :: ((b35, .cells #[.int .i64 n, .slice a12 n16 c13] 27 (0, 0)) :: (Lb14 ++ []))) rfl Try.call59 rfl rfl rfl (pT ((fC (fC (fS fP))).trans (pA pR)) (ln (lp (ln rfl)))) (fun F2 h2 h3 => by rw [(SlR.caps hz32).1]; exact hear_Way_w (hz32.row (iE_ok _) h2 (fun p hp => h3 p (List.mem_append_left _ hp))) h150) (fun _ _ _ _ hq => by obtain ⟨a156, n160, c157, Lb158, rfl, rfl, hz159⟩ := hq; exact ⟨_, _, _, _, rfl, rfl, hz159.flat (fun _ _ h => h)⟩) ?_; rintro _ F152 _ hF153 hd155 hn154 ⟨a156, n160, c157, Lb158, rfl, rfl, hz159⟩
 have hn162 := newp (Lb' := []) (by rfl) hd155 hn154
 replace hz159 := hz159.new fun p hp => hn162 p (by simp [hp])
 refine shO_L (lp (ln (lp (ln rfl)))) ?_
 refine kO (kf (fS (fS fO)) (kf (fS (fS fO)) kr)) ?_
 refine om rfl rfl (ox rfl rfl rfl (ox rfl rfl rfl (oa rfl rfl (oa rfl rfl (nsr ?_)))))
 refine o_buildSlice (cs := #[.string (sB [115, 104, 119, 104])]) rfl rfl (buildSlice_all slt_124 [.string (sB [115, 104, 119, 104])] rfl (by decide) (by simp [Value.cells]) (by decide)) ?_; intro b163 hb163
 refine shO_freeze 0 rfl hb163 ?_; intro F164 hF165 hz166
 refine shO_L (L' := (b36, .cells #[.int .i64 n2, .slice a29 n33 c30] 27 (0, 0)) :: ((b35, .cells #[.int .i64 n, .slice a12 n16 c13] 27 (0, 0)) :: (Lb158 ++ (Lb31 ++ (Lb14 ++ []))))) rfl ?_
 replace hz159 := hz159.mono (iE_ok _) hF165
 have h167 : RowR 1 sE F164 (some ⟨b163, 0, none⟩) 1 [[115, 104, 119, 104]] := RowR.of_block sE_ok (vss := [[.string (sB [115, 104, 119, 104])]]) (xs := [[115, 104, 119, 104]]) hz166 (.cons rfl .nil) rfl (by simp [maxLen])
 obtain ⟨n10, l7, h168, r169⟩ := b2_ok r151; clear r151
 refine o_call0 rfl Try.call57 rfl rfl rfl (oyezlaw01_Drawn_w h167 h168) ?_; rintro _ F170 _ hF171 hn172 ⟨a174, n178, c175, Lb176, rfl, rfl, hz177⟩
 replace hz159 := hz159.mono (iE_ok _) hF171
 replace hz177 := hz177.new fun p hp => hn172 p (by simp [hp])
 refine shO_L (lp (ln rfl)) ?_
 refine kO (kf (fS fO) (kf (fS fO) kr)) ?_
 obtain ⟨n11, n12, h180, r181⟩ := b2_ok r169; clear r169
 refine o_callT (Lt := Lb176 ++ []) (Lr := (b36, .cells #[.int .i64 n2, .slice a29 n33 c30] 27 (0, 0)) :: ((b35, .cells #[.int .i64 n, .slice a12 n16 c13] 27 (0, 0)) :: (Lb158 ++ (Lb31 ++ (Lb14 ++ []))))) rfl Try.call60 rfl rfl rfl (pT ((fC (fC fP)).trans (pA pR)) (lp (ln rfl))) (fun F2 h2 h3 => by rw [(SlR.caps hz177).1]; exact hear_Need_w (hz177.row (iE_ok _) h2 (fun p hp => h3 p (List.mem_append_left _ hp))) h180) ?_
 refine om rfl rfl (ox rfl rfl rfl (ox rfl rfl rfl (oa rfl rfl (nsr (om rfl rfl ?_)))))
 refine ov (v_eql rfl rfl) rfl ?_
 refine om rfl rfl ?_
 by_cases c182 : n8 = 0
 · have r183 := ite_t r181 c182; clear r181
   refine shO_on (b := true) 97 rfl (Env.isT rfl c182) (om rfl rfl (shO_on (b := true) 97 rfl (Env.isT rfl c182) ?_))
   refine ov (v_eql rfl rfl) rfl ?_
   refine ov (v_pick_t (evD_true rfl c182) rfl) rfl ?_
   refine om rfl rfl ?_
   by_cases c184 : n9 = 0
   · have r185 := ite_t r183 c184; clear r183
     refine shO_on (b := true) 101 rfl (Env.isT rfl c184) (om rfl rfl (shO_on (b := true) 101 rfl (Env.isT rfl c184) ?_))
     refine ov (v_eql rfl rfl) rfl ?_
     refine ov (v_pick_t (evD_true rfl c184) rfl) rfl ?_
     refine om rfl rfl ?_
     by_cases c186 : n7 = 5
     · have r187 := ite_t r185 c186; clear r185
       refine shO_on (b := true) 105 rfl (Env.isT rfl c186) (om rfl rfl (shO_on (b := true) 105 rfl (Env.isT rfl c186) ?_))
       refine o_buildSlice (cs := #[.int .i64 3, .int .i64 0, .int .i64 1, .int .i64 2]) rfl rfl (buildSlice_all slt_36 [.int .i64 3, .int .i64 0, .int .i64 1, .int .i64 2] rfl (by decide) (by simp [Value.cells]) (by decide)) ?_; intro b188 hb188
       refine shO_on (b := true) 105 rfl (Env.isT rfl c186) ?_
       refine shO_freeze 0 rfl hb188 ?_; intro F189 hF190 hz191
       refine shO_L (L' := (b36, .cells #[.int .i64 n2, .slice a29 n33 c30] 27 (0, 0)) :: ((b35, .cells #[.int .i64 n, .slice a12 n16 c13] 27 (0, 0)) :: (Lb176 ++ (Lb158 ++ (Lb31 ++ (Lb14 ++ [])))))) rfl ?_
       replace hz159 := hz159.mono (iE_ok _) hF190
       have h192 : RowR 1 (iE .i64) F189 (some ⟨b188, 0, none⟩) 4 [3, 0, 1, 2] := RowR.of_block (iE_ok _) (vss := [[.int .i64 3], [.int .i64 0], [.int .i64 1], [.int .i64 2]]) (xs := [3, 0, 1, 2]) hz191 (.cons rfl (.cons rfl (.cons rfl (.cons rfl .nil)))) rfl (by simp [maxLen])
       obtain ⟨ok5, h193, r194⟩ := b1_ok r187; clear r187
       refine o_callT (Lt := Lb158 ++ []) (Lr := (b36, .cells #[.int .i64 n2, .slice a29 n33 c30] 27 (0, 0)) :: ((b35, .cells #[.int .i64 n, .slice a12 n16 c13] 27 (0, 0)) :: (Lb176 ++ (Lb31 ++ (Lb14 ++ []))))) rfl Try.call37 rfl rfl rfl (pT ((fC (fC (fS fP))).trans (pA pR)) (lp (ln rfl))) (fun F2 h2 h3 => by rw [(SlR.caps hz159).1]; exact oyezkit_Like_int_w (hz159.row (iE_ok _) h2 (fun p hp => h3 p (List.mem_append_left _ hp))) (h192.mono (iE_ok _) h2) h193) ?_
       refine ov (v_pick_t (evD_true rfl c186) rfl) rfl ?_
       refine om rfl rfl ?_
       rcases bool_two ok5 with c195 | c195
       · have r196 := bt r194 c195; clear r194
         refine shO_on (b := true) 110 rfl (EnvB rfl c195) (om rfl rfl (shO_on (b := true) 110 rfl (EnvB rfl c195) ?_))
         refine ov (v_eql rfl rfl) rfl ?_
         refine ov (v_pick_t (evB rfl c195) rfl) rfl ?_
         refine oa rfl rfl (shO_nil ?_)
         refine kW kn ?_
         refine shW_ret ?_
         refine q_res1 Try.results18 (res_tmp rfl) (sr) ?_
         obtain rfl := inj1 r196
         exact rfl
       have r197 := bf r194 c195; clear r194
       refine shO_off (b' := false) 110 rfl (EnvB rfl c195) rfl rfl (shO_off (b' := false) 110 rfl (EnvB rfl c195) rfl rfl ?_)
       refine ov (v_pick_f (evB rfl c195) rfl) rfl ?_
       refine oa rfl rfl (shO_nil ?_)
       refine kW kn ?_
       refine shW_ret ?_
       refine q_res1 Try.results18 (res_tmp rfl) (sr) ?_
       obtain rfl := inj1 r197
       exact rfl
     have r198 := ite_f r185 c186; clear r185
     refine shO_off (b' := false) 105 rfl (Env.isF rfl c186) rfl rfl (shO_off (b' := false) 105 rfl (Env.isF rfl c186) rfl rfl (shO_off (b' := false) 105 rfl (Env.isF rfl c186) rfl rfl ?_))
     refine ov (v_pick_f (evD_false rfl c186) rfl) rfl ?_
     refine om rfl rfl (shO_off (b' := false) 110 rfl rfl rfl rfl (shO_off (b' := false) 110 rfl rfl rfl rfl ?_))
     refine ov (v_pick_f rfl rfl) rfl ?_
     refine oa rfl rfl (shO_nil ?_)
     refine kW kn ?_
     refine shW_ret ?_
     refine q_res1 Try.results18 (res_tmp rfl) (sr) ?_
     obtain rfl := inj1 r198
     exact rfl
   have r199 := ite_f r183 c184; clear r183
   refine shO_off (b' := false) 101 rfl (Env.isF rfl c184) rfl rfl (shO_off (b' := false) 101 rfl (Env.isF rfl c184) rfl rfl ?_)
   refine ov (v_pick_f (evD_false rfl c184) rfl) rfl ?_
   refine om rfl rfl (shO_off (b' := false) 105 rfl rfl rfl rfl (shO_off (b' := false) 105 rfl rfl rfl rfl (shO_off (b' := false) 105 rfl rfl rfl rfl ?_)))
   refine ov (v_pick_f rfl rfl) rfl ?_
   refine om rfl rfl (shO_off (b' := false) 110 rfl rfl rfl rfl (shO_off (b' := false) 110 rfl rfl rfl rfl ?_))
   refine ov (v_pick_f rfl rfl) rfl ?_
   refine oa rfl rfl (shO_nil ?_)
   refine kW kn ?_
   refine shW_ret ?_
   refine q_res1 Try.results18 (res_tmp rfl) (sr) ?_
   obtain rfl := inj1 r199
   exact rfl
 have r200 := ite_f r181 c182; clear r181
 refine shO_off (b' := false) 97 rfl (Env.isF rfl c182) rfl rfl (shO_off (b' := false) 97 rfl (Env.isF rfl c182) rfl rfl ?_)
 refine ov (v_pick_f (evD_false rfl c182) rfl) rfl ?_
 refine om rfl rfl (shO_off (b' := false) 101 rfl rfl rfl rfl (shO_off (b' := false) 101 rfl rfl rfl rfl ?_))
 refine ov (v_pick_f rfl rfl) rfl ?_
 refine om rfl rfl (shO_off (b' := false) 105 rfl rfl rfl rfl (shO_off (b' := false) 105 rfl rfl rfl rfl (shO_off (b' := false) 105 rfl rfl rfl rfl ?_)))
 refine ov (v_pick_f rfl rfl) rfl ?_
 refine om rfl rfl (shO_off (b' := false) 110 rfl rfl rfl rfl (shO_off (b' := false) 110 rfl rfl rfl rfl ?_))
 refine ov (v_pick_f rfl rfl) rfl ?_
 refine oa rfl rfl (shO_nil ?_)
 refine kW kn ?_
 refine shW_ret ?_
 refine q_res1 Try.results18 (res_tmp rfl) (sr) ?_
 obtain rfl := inj1 r200
 exact rfl
set_option maxHeartbeats 1000000 in
theorem hear_Best_w {wide : Int} {plots_a : Option Addr} {plots_c : Nat} {plots : List Int} {wind : Int} {voice : Int} {houses_a : Option Addr} {houses_c : Nat} {houses : List Int} {stands : Int} {F : FS} (h_plots : RowR 1 (iE .i64) F plots_a plots_c plots) (h_houses : RowR 1 (iE .i64) F houses_a houses_c houses) {r : List Int} {r2 : Int} {r3 : Int} (hr : hear_Best wide plots wind voice houses stands = some (r, r2, r3)) :
    SH.Spec Try.prog 24 #[.agg #[.int .i64 wide, .slice plots_a plots.length plots_c], .agg #[.int .i64 wind, .int .i64 voice], .slice houses_a houses.length houses_c, .int .i64 stands] F [] fun F' L' v => ∃ (ra : Option Addr) (rn : Nat) (rc : Nat) (rL : LH), v = .tuple #[.slice ra rn rc, .int .i64 r2, .int .i64 r3] ∧ L' = rL ++ [] ∧ SlR 0 3 1 (iE .i64) F' ra rn rc r rL := by
 refine spec_of_shW (args := [.agg #[.int .i64 wide, .slice plots_a plots.length plots_c], .agg #[.int .i64 wind, .int .i64 voice], .slice houses_a houses.length houses_c, .int .i64 stands]) Try.func24 rfl Try.ntmps24 (Nat.le_of_ble_eq_true rfl) ?_
 intro K _ _; rw [hear_Best] at hr
 refine wsr ?_
 refine o_box rfl rfl ?_; intro b1 hb1
 refine o_box rfl rfl ?_; intro b2 hb2
 refine oa rfl rfl (oa rfl rfl (oa rfl rfl (nsr ?_)))
 refine ov (v_loadA (cs := #[.int .i64 wide, .slice plots_a plots.length plots_c]) Try.isAgg27 Try.sizeOf27 rfl (Has.own 1 rfl) (Nat.le_of_ble_eq_true rfl) rfl) rfl ?_
 refine ov (v_loadA (cs := #[.int .i64 wind, .int .i64 voice]) Try.isAgg31 Try.sizeOf31 rfl (Has.own 0 rfl) (Nat.le_of_ble_eq_true rfl) rfl) rfl ?_
 refine om rfl rfl ?_
 obtain ⟨l, y, n, h3, r4⟩ := b3_ok hr; clear hr
 refine o_call0 rfl Try.call44 rfl rfl rfl (hear_asked_w h_plots h_houses h3) ?_; rintro _ F5 _ hF6 hn7 ⟨a9, n13, c10, Lb11, v15, rfl, rfl, hz12, hp16⟩
 replace hz12 := hz12.new fun p hp => hn7 p (by simp [hp])
 refine shO_L (lp (ln rfl)) ?_
 refine kO (kf (fS fO) (kf (fS fO) kr)) ?_
 refine om rfl rfl (ox rfl rfl rfl (ox rfl rfl rfl ?_))
 refine o_alloc rfl Try.zeroValue77 ?_; intro b17 hb17
 refine o_storeA (i := 0) Try.sizeOf77 rfl rfl rfl (List.forall_mem_cons.2 ⟨rfl, (List.forall_mem_cons.2 ⟨hp16.1, (fun _ h => absurd h List.not_mem_nil)⟩)⟩) rfl (Nat.le_of_ble_eq_true rfl) ?_
 refine shO_L (L' := (b17, .cells #[.slice a9 n13 c10, v15] 77 (0, 0)) :: ((b2, .cells #[.int .i64 wind, .int .i64 voice] 31 (0, 0)) :: ((b1, .cells #[.int .i64 wide, .slice plots_a plots.length plots_c] 27 (0, 0)) :: (Lb11 ++ [])))) rfl ?_
 refine oa rfl rfl (shO_nil (shW_seq ?_))
 refine shW_block ?_
 refine wsr (om rfl rfl ?_)
 refine ov (v_neq rfl rfl) rfl ?_
 refine oa rfl rfl (shO_nil ?_)
 refine shW_condP rfl (fun c18 => ?_) (fun c18 => ?_)
 · have r19 := ite_t r4 c18; clear r4
   refine wsr (om rfl rfl (oa rfl rfl (oa rfl rfl (oa rfl rfl (shO_nil ?_)))))
   refine kW kn ?_
   refine shW_ret (inBlock_ret (andThen_ret ?_))
   refine q_res3 Try.results24 (res_tmp rfl) (res_tmp rfl) (res_tmp rfl) (sr) ?_
   obtain ⟨rfl, rfl, rfl⟩ := inj3 r19
   exact ⟨_, _, _, [], rfl, rfl, SlR.nil _ _ _ _ _⟩
 have r20 := ite_f r4 c18; clear r4
 refine wsr (om rfl rfl ?_)
 obtain ⟨ok, h21, r22⟩ := b1_ok r20; clear r20
 refine o_callV rfl Try.call56 rfl rfl rfl (hear_in_w h21) ?_
 refine ov (v_notB rfl) rfl ?_
 refine oa rfl rfl (shO_nil ?_)
 refine shW_cond rfl (fun c23 => ?_) (fun c23 => ?_)
 · have r24 := bt r22 c23; clear r22
   refine wsr (oa rfl rfl (oa rfl rfl (oa rfl rfl (shO_nil ?_))))
   refine kW kn ?_
   refine shW_ret (inBlock_ret (andThen_ret ?_))
   refine q_res3 Try.results24 (res_tmp rfl) (res_tmp rfl) (res_tmp rfl) (sr) ?_
   obtain ⟨rfl, rfl, rfl⟩ := inj3 r24
   exact ⟨_, _, _, [], rfl, rfl, SlR.nil _ _ _ _ _⟩
 have r25 := bf r22 c23; clear r22
 refine shW_skip (inBlock_n (id := 0) (wsr ?_))
 refine ov (v_loadA (cs := #[.slice a9 n13 c10, v15]) Try.isAgg77 Try.sizeOf77 rfl (Has.own 0 rfl) (Nat.le_of_ble_eq_true rfl) rfl) rfl ?_
 refine om rfl rfl ?_
 obtain ⟨g26, r27⟩ := gd_ok r25; clear r25
 obtain rfl := hp16.2 g26
 have hn28 : FnR Try.prog F5 77 #[] #[] (iE .i64) (Value.int .i64) (fun xx_ : Int => hear_ones xx_) := ⟨Try.call77, fun F2 h2 vs xx_ r ha hr => by obtain rfl := ha; exact hear_ones_w hr⟩
 obtain ⟨l2, n2, h29, r30⟩ := b2_ok r27; clear r27
 refine o_callTO (Lb := []) (Lt := Lb11 ++ []) (Lr := [(b17, .cells (#[.slice a9 n13 c10, .func (.func 77) #[] #[]]) 77 (0, 0)), (b2, .cells #[.int .i64 wind, .int .i64 voice] 31 (0, 0)), (b1, .cells #[.int .i64 wide, .slice plots_a plots.length plots_c] 27 (0, 0))]) rfl Try.call48 rfl rfl rfl (pT ((fC (fC (fC fP))).trans (pA pR)) (ln (lp (ln rfl)))) (fun F2 h2 h3 => by rw [(SlR.caps hz12).1]; exact hear_quarter_chosen_w (hz12.row (arE_ok (n := 30) (sz := 1) cB_ok) h2 (fun p hp => h3 p (List.mem_append_left _ hp))) (hn28.mono h2) h29) (fun _ _ _ _ hq => by obtain ⟨a35, n39, c36, Lb37, rfl, rfl, hz38⟩ := hq; exact ⟨_, _, _, _, rfl, rfl, hz38.flat (fun _ _ h => h)⟩) ?_; rintro _ F31 _ hF32 hd34 hn33 ⟨a35, n39, c36, Lb37, rfl, rfl, hz38⟩
 have hn41 := newp (Lb' := []) (by rfl) hd34 hn33
 replace hz38 := hz38.new fun p hp => hn41 p (by simp [hp])
 refine shO_L (lp (ln (lp (ln rfl)))) ?_
 refine kO (kf (fS (fS fO)) (kf (fS (fS fO)) (kf (fS (fS fO)) kr))) ?_
 refine om rfl rfl (ox rfl rfl rfl (ox rfl rfl rfl (oa rfl rfl (oa rfl rfl (nsr (om rfl rfl (om rfl rfl (oa rfl rfl (oa rfl rfl ?_)))))))))
 refine oa rfl rfl (shO_nil ?_)
 refine kW (kd (kd (kd (ka kn)))) ?_
 refine shW_ret ?_
 refine q_res3 Try.results24 (res_tmp rfl) (res_tmp rfl) (res_tmp rfl) (sr) ?_
 obtain ⟨rfl, rfl, rfl⟩ := inj3 r30
 exact ⟨_, _, _, _, rfl, rfl, hz38.any⟩
set_option maxHeartbeats 1000000 in
theorem oyezkit_Bell_Rung_w {b_b : Nat} {metal_a : Option Addr} {metal_c : Nat} {metal : List Int} {at_ : Int} {turn : Int} {n : Int} {F : FS} (h_metal : RowR 1 (iE .u8) F metal_a metal_c metal) {r : List Int} {r2 : Int} {r3 : Int} (hr : oyezkit_Bell_Rung metal at_ turn n = some (r, r2, r3)) :
    SH.Spec Try.prog 36 #[.pointer (some ⟨b_b, 0, none⟩), .int .i64 n] F [(b_b, .cells #[.slice metal_a metal.length metal_c, .int .i64 at_, .int .u32 turn] 69 (0, 0))] fun F' L' v => ∃ (ra : Option Addr) (rn : Nat) (rc : Nat) (rL : LH), v = .slice ra rn rc ∧ L' = (b_b, .cells #[.slice metal_a metal.length metal_c, .int .i64 r2, .int .u32 r3] 69 (0, 0)) :: (rL ++ []) ∧ SlR 0 3 1 (iE .i64) F' ra rn rc r rL := by
 refine spec_of_shW (args := [.pointer (some ⟨b_b, 0, none⟩), .int .i64 n]) Try.func36 rfl Try.ntmps36 (Nat.le_of_ble_eq_true rfl) ?_
 intro K _ _; rw [oyezkit_Bell_Rung] at hr
 refine wsr (oa rfl rfl (nsr (oa rfl rfl (shO_nil ?_))))
 obtain ⟨out, b_at, b_turn, h7, r8⟩ := b3_ok hr; clear hr
 refine shW_join (fun e1 F1 L1 => ∃ (a1 : Option Addr) (n5 : Nat) (c2 : Nat) (Lb3 : LH), FExt F F1 ∧ L1 = ((b_b, .cells #[.slice metal_a metal.length metal_c, .int .i64 b_at, .int .u32 b_turn] 69 (0, 0)) :: (Lb3 ++ [])) ∧ e1.sub [(5, .slice a1 n5 c2)] ∧ SlR K.w0.heap.size 3 1 (iE .i64) F1 a1 n5 c2 out Lb3) ?_ ?_
 · clear r8
   refine wsr (om rfl rfl ?_)
   refine ov (v_max2 rfl rfl) rfl ?_
   refine om rfl rfl (shO_nil ?_)
   refine shW_block ?_
   obtain ⟨g15, r16⟩ := gd_ok h7; clear h7
   refine shW_lp (fun fu1 e1 F1 L1 => ∃ (k : Int), Ctr 0 (if n > 0 then n else 0) k fu1 ∧ ∃ (b_at2 : Int) (b_turn2 : Int) (out2 : List Int) (a9 : Option Addr) (n13 : Nat) (c10 : Nat) (Lb11 : LH), oyezkit_Bell_Rung_l1 metal fu1 k b_at2 b_turn2 out2 = some (out, b_at, b_turn) ∧ FExt F F1 ∧ L1 = ((b_b, .cells #[.slice metal_a metal.length metal_c, .int .i64 b_at2, .int .u32 b_turn2] 69 (0, 0)) :: (Lb11 ++ [])) ∧ e1.sub [(0, .pointer (some ⟨b_b, 0, none⟩)), (5, .slice a9 n13 c10), (9, .int .i64 (if n > 0 then n else 0)), (10, .int .i64 k)] ∧ SlR K.w0.heap.size 3 1 (iE .i64) F1 a9 n13 c10 out2 Lb11) _ (m0 (kc (ke kr)) ⟨_, Ctr.start _ _, at_, turn, [], none, 0, 0, [], r16, FExt.refl _, rfl, (sc rfl (sc rfl (sc rfl (sc rfl (sn _))))), SlR.nil _ _ _ _ _⟩) ?_
   rintro fu1 e1 F21 _ ⟨k, hk17, b_at2, b_turn2, out2, a9, n13, c10, Lb11, r19, hF22, rfl, he20, hz12⟩
   refine shW_env _ he20 ?_; clear he20
   replace h_metal := h_metal.mono (iE_ok _) hF22
   refine wsr ?_
   refine ov (v_lssK rfl rfl) rfl ?_
   refine shO_nil (shW_seq ?_)
   refine shW_condP rfl (fun c24 => ?_) (fun c24 => ?_)
   · obtain ⟨fu1, rfl, hk25⟩ := Ctr.succ hk17 c24
     rw [oyezkit_Bell_Rung_l1] at r19
     refine shW_skip (shW_seq ?_)
     refine shW_block ?_
     refine wsr (om rfl rfl (oa rfl rfl (nsr (om rfl rfl (om rfl rfl ?_)))))
     obtain ⟨n2, at_2, turn2, h26, r27⟩ := b3_ok r19; clear r19
     refine o_callG (Lb := [(b_b, .cells #[.slice metal_a metal.length metal_c, .int .i64 b_at2, .int .u32 b_turn2] 69 (0, 0))]) (Lr := Lb11 ++ []) rfl Try.call23 rfl rfl rfl (pR) (oyezkit_Bell_Stroke_w h_metal h26) ?_; rintro _ F28 _ hF29 hd31 hn30 ⟨rfl, rfl⟩
     replace hz12 := hz12.mono (iE_ok _) hF29
     refine shO_L (lb (ln rfl)) ?_
     refine oa rfl rfl (nsr (om rfl rfl (om rfl rfl ?_)))
     refine o_buildSlice (cs := #[.int .i64 k]) rfl rfl (buildSlice_all slt_36 [.int .i64 k] rfl (by decide) (by simp [Value.cells]) (by decide)) ?_; intro b32 hb32
     obtain ⟨out3, h33, g34, r35⟩ := ap_ok r27; clear r27
     refine o_appZ (xs := out2) (ys := [k]) (zs := out3) rfl slt_36 rfl rfl (Nat.le_refl _) (fun _ => .c (.c .h)) hz12 (SrcR.box (vss := [[.int .i64 k]]) (ys := [k]) 0 rfl (iE_ok _) (.cons rfl .nil) rfl rfl) h33 g34 (by decide) ?_; intro a36 n40 c37 Lb38 hz39
     refine kO (kd kr) ?_
     refine oa rfl rfl (shO_nil ?_)
     refine shW_drawM [(.still, 0), (.still, 1), (.still, 2), (.still, 3), (.still, 4), (.still, 5), (.still, 6), (.still, 7), (.still, 8), (.still, 9), (.still, 10), (.still, 11), (.still, 12), (.seq, 13), (.still, 14), (.seq, 15)] (by kernel_rfl) (by kernel_rfl) (trivial) (by rfl) (by kernel_rfl) ?_
     refine shM_v (v := .slice a36 n40 c37) (ek := [(5, .slice a36 n40 c37)]) (Ls := []) rfl rfl rfl rfl ((sc rfl (sn _))) (by kernel_rfl) sm (fun H F' L' hF' hL' => v_move rfl) ?_
     refine shM_v (v := .int .i64 n2) (ek := [(7, .int .i64 n2)]) (Ls := []) rfl rfl rfl rfl ((sc rfl (sn _))) (by kernel_rfl) sm (fun H F' L' hF' hL' => v_move rfl) ?_
     refine shM_v (v := .slice a36 n40 c37) (ek := [(5, .slice a36 n40 c37)]) (Ls := []) rfl rfl rfl rfl ((sc rfl (sn _))) (by kernel_rfl) sm (fun H F' L' hF' hL' => v_move rfl) ?_
     refine shM_v (v := .int .i64 k) (ek := [(6, .int .i64 k)]) (Ls := []) rfl rfl rfl rfl ((sc rfl (sn _))) (by kernel_rfl) sm (fun H F' L' hF' hL' => v_move rfl) ?_
     refine shM_v (v := .slice a36 n40 c37) (ek := [(5, .slice a36 n40 c37)]) (Ls := []) rfl rfl rfl rfl ((sc rfl (sn _))) (by kernel_rfl) sm (fun H F' L' hF' hL' => v_move rfl) ?_
     refine shM_v (v := .int .i64 k) (ek := [(6, .int .i64 k)]) (Ls := []) rfl rfl rfl rfl ((sc rfl (sn _))) (by kernel_rfl) sm (fun H F' L' hF' hL' => v_move rfl) ?_
     obtain ⟨x, g42, hx43, r44⟩ := ix_ok r35; clear r35
     obtain ⟨b45, o46, c47, vs48, ha49, hs50, hle51, rfl, hl52, hc53⟩ := SlR.at (iE_ok _) hz39 (L := Lb38 ++ []) fP g42.1 hx43
     refine shM_v (v := .pointer (some ⟨b45, o46 + (k : Int).toNat * 1, none⟩)) (ek := [(24, .slice a36 n40 c37), (25, .int .i64 k)]) (Ls := []) rfl rfl rfl rfl ((sc rfl (sc rfl (sn _)))) (by kernel_rfl) sm (fun H F' L' hF' hL' => v_indexO Try.underlying36 Try.sizeOf3 rfl ha49 rfl (SlR.idx hz39 g42)) ?_
     refine shM_v (v := .int .i64 x) (ek := [(26, .pointer (some ⟨b45, o46 + (k : Int).toNat * 1, none⟩))]) (Ls := Lb38 ++ []) rfl rfl rfl rfl ((sc rfl (sn _))) (by kernel_rfl) (s0 (s1 (s4 sr))) (fun H F' L' hF' hL' => v_load Try.isAgg3 rfl (hs50.ext hF' hL') (hc53 0 (by decide))) ?_
     refine shM_v (v := .slice a36 n40 c37) (ek := [(5, .slice a36 n40 c37)]) (Ls := []) rfl rfl rfl rfl ((sc rfl (sn _))) (by kernel_rfl) sm (fun H F' L' hF' hL' => v_move rfl) ?_
     refine shM_v (v := .int .i64 n2) (ek := [(7, .int .i64 n2)]) (Ls := []) rfl rfl rfl rfl ((sc rfl (sn _))) (by kernel_rfl) sm (fun H F' L' hF' hL' => v_move rfl) ?_
     obtain ⟨x2, g54, hx55, r56⟩ := ix_ok r44; clear r44
     obtain ⟨b57, o58, c59, vs60, ha61, hs62, hle63, rfl, hl64, hc65⟩ := SlR.at (iE_ok _) hz39 (L := Lb38 ++ []) fP g54.1 hx55
     refine shM_v (v := .pointer (some ⟨b57, o58 + (n2 : Int).toNat * 1, none⟩)) (ek := [(28, .slice a36 n40 c37), (29, .int .i64 n2)]) (Ls := []) rfl rfl rfl rfl ((sc rfl (sc rfl (sn _)))) (by kernel_rfl) sm (fun H F' L' hF' hL' => v_indexO Try.underlying36 Try.sizeOf3 rfl ha61 rfl (SlR.idx hz39 g54)) ?_
     refine shM_v (v := .int .i64 x2) (ek := [(30, .pointer (some ⟨b57, o58 + (n2 : Int).toNat * 1, none⟩))]) (Ls := Lb38 ++ []) rfl rfl rfl rfl ((sc rfl (sn _))) (by kernel_rfl) (s0 (s1 (s4 sr))) (fun H F' L' hF' hL' => v_load Try.isAgg3 rfl (hs62.ext hF' hL') (hc65 0 (by decide))) ?_
     obtain ⟨b66, o67, c68, vs69, ha70, hs71, hle72, rfl, hl73, hc74⟩ := SlR.at (iE_ok _) hz39 (L := Lb38 ++ []) fP g54.1 hx55
     refine shM_v (v := .pointer (some ⟨b66, o67 + (n2 : Int).toNat * 1, none⟩)) (ek := [(20, .slice a36 n40 c37), (21, .int .i64 n2)]) (Ls := []) rfl rfl rfl rfl ((sc rfl (sc rfl (sn _)))) (by kernel_rfl) sm (fun H F' L' hF' hL' => v_indexO Try.underlying36 Try.sizeOf3 rfl ha70 rfl (SlR.idx hz39 g54)) ?_
     refine ⟨_, [(27, .int .i64 x), (32, .pointer (some ⟨b66, o67 + (n2 : Int).toNat * 1, none⟩))], rfl, rfl, (sc rfl (sc rfl (sn _))), by kernel_rfl, ?_⟩; intro H
     obtain ⟨l, h75, r76⟩ := bv_ok r56; clear r56
     refine o_storeZ (u := x) Try.sizeOf3 (iE_ok _) rfl ha70 rfl rfl (fun _ => .c .h) hz39 h75 g54 ?_; intro Lb77 hz78
     refine shO_nil ⟨undef, rfl, FExt.refl _, [3, 2], by kernel_rfl, .inl (.inr (fun d h => by cases h)), (List.forall_mem_cons.2 ⟨sm, (List.forall_mem_cons.2 ⟨sm, (fun _ h => absurd h List.not_mem_nil)⟩)⟩), ?_⟩
     obtain ⟨x3, g79, hx80, r81⟩ := ix_ok r76; clear r76
     obtain ⟨b82, o83, c84, vs85, ha86, hs87, hle88, rfl, hl89, hc90⟩ := SlR.at (iE_ok _) hz78 (L := Lb77 ++ []) fP g79.1 hx80
     refine shM_v (v := .pointer (some ⟨b82, o83 + (k : Int).toNat * 1, none⟩)) (ek := [(22, .slice a36 n40 c37), (23, .int .i64 k)]) (Ls := []) rfl rfl rfl rfl ((sc rfl (sc rfl (sn _)))) (by kernel_rfl) sm (fun H F' L' hF' hL' => v_indexO Try.underlying36 Try.sizeOf3 rfl ha86 rfl (SlR.idx hz78 g79)) ?_
     refine ⟨_, [(31, .int .i64 x2), (33, .pointer (some ⟨b82, o83 + (k : Int).toNat * 1, none⟩))], rfl, rfl, (sc rfl (sc rfl (sn _))), by kernel_rfl, ?_⟩; intro H
     obtain ⟨l2, h91, r92⟩ := bv_ok r81; clear r81
     refine o_storeZ (u := x2) Try.sizeOf3 (iE_ok _) rfl ha86 rfl rfl (fun _ => .c .h) hz78 h91 g79 ?_; intro Lb93 hz94
     refine shO_nil ⟨undef, rfl, FExt.refl _, [], by kernel_rfl, .inl (.inl rfl), (fun _ h => absurd h List.not_mem_nil), ?_⟩
     refine shM_nil ?_
     refine inBlock_n (id := 1) (shW_region ?_)
     refine ov (v_add rfl rfl (Ctr.r64 hk17 c24 g15)) rfl ?_
     refine om rfl rfl (shO_nil ?_)
     exact le kr ⟨_, hk25, at_2, turn2, l2, a36, n40, c37, Lb93, r92, (hF22.trans hF29), rfl, (sc rfl (sc rfl (sc rfl (sc rfl (sn _))))), hz94⟩
   obtain rfl := Ctr.zero hk17 c24
   rw [oyezkit_Bell_Rung_l1] at r19
   refine shW_exit (andThen_exit (andThen_exit ?_))
   refine inBlock_exit ?_
   obtain ⟨rfl, rfl, rfl⟩ := inj3 r19
   exact mi kr ⟨a9, n13, c10, Lb11, hF22, rfl, (sc rfl (sn _)), hz12⟩
 rintro e1 F96 _ ⟨a1, n5, c2, Lb3, hF97, rfl, he95, hz4⟩
 refine shW_env _ he95 ?_; clear he95
 refine wsr (om rfl rfl (oa rfl rfl (shO_nil (shW_ret ?_))))
 refine q_res1 Try.results36 (res_tmp rfl) (sr) ?_
 obtain ⟨rfl, rfl, rfl⟩ := inj3 r8
 exact ⟨_, _, _, _, rfl, rfl, hz4.any⟩
set_option maxHeartbeats 1000000 in
theorem hear_ears_list_w {x : List Bool} {F : FS} (h_x : x.length = 30) {r : List Int} (hr : hear_ears_list x = some r) :
    SH.Spec Try.prog 70 #[.agg (arr cB x)] F [] fun F' L' v => ∃ (ra : Option Addr) (rn : Nat) (rc : Nat) (rL : LH), v = .slice ra rn rc ∧ L' = rL ++ [] ∧ SlR 0 3 1 (iE .i64) F' ra rn rc r rL := by
 refine spec_of_shW (args := [.agg (arr cB x)]) Try.func70 rfl Try.ntmps70 (Nat.le_of_ble_eq_true rfl) ?_
 intro K _ _; rw [hear_ears_list] at hr
 refine wsr ?_
 refine o_box rfl rfl ?_; intro b1 hb1
 refine oa rfl rfl (nsr (oa rfl rfl (shO_nil ?_)))
 obtain ⟨out, h8, r9⟩ := b1_ok hr; clear hr
 refine shW_join (fun e1 F1 L1 => ∃ (a2 : Option Addr) (n6 : Nat) (c3 : Nat) (Lb4 : LH), F = F1 ∧ L1 = (Lb4 ++ []) ∧ e1.sub [(3, .slice a2 n6 c3)] ∧ SlR K.w0.heap.size 3 1 (iE .i64) F1 a2 n6 c3 out Lb4) ?_ ?_
 · clear r9
   refine wsr ?_
   refine ov (v_loadW Try.isAgg82 Try.sizeOf82 rfl (Has.own 0 rfl) (arr_sz cB_ok h_x)) rfl ?_
   refine om rfl rfl (shO_nil ?_)
   refine shW_block ?_
   refine kW kn ?_
   obtain ⟨g16, r17⟩ := gd_ok h8; clear h8
   refine shW_lp (fun fu1 e1 F1 L1 => ∃ (k : Int), Ctr 0 30 k fu1 ∧ ∃ (out2 : List Int) (a10 : Option Addr) (n14 : Nat) (c11 : Nat) (Lb12 : LH), hear_ears_list_l1 x fu1 k out2 = some out ∧ F = F1 ∧ L1 = (Lb12 ++ []) ∧ e1.sub [(3, .slice a10 n14 c11), (6, .agg (arr cB x)), (7, .int .i64 k)] ∧ SlR K.w0.heap.size 3 1 (iE .i64) F1 a10 n14 c11 out2 Lb12) _ (m0 (ke kr) ⟨_, Ctr.start _ _, [], none, 0, 0, [], r17, rfl, rfl, (sc rfl (sc rfl (sc rfl (sn _)))), SlR.nil _ _ _ _ _⟩) ?_
   rintro fu1 e1 _ _ ⟨k, hk18, out2, a10, n14, c11, Lb12, r20, rfl, rfl, he21, hz13⟩
   refine shW_env _ he21 ?_; clear he21
   refine wsr ?_
   refine ov (v_lssK rfl rfl) rfl ?_
   refine shO_nil (shW_seq ?_)
   refine shW_condP rfl (fun c23 => ?_) (fun c23 => ?_)
   · obtain ⟨fu1, rfl, hk24⟩ := Ctr.succ hk18 c23
     rw [hear_ears_list_l1] at r20
     refine shW_skip (shW_seq ?_)
     refine shW_block ?_
     refine wsr (om rfl rfl ?_)
     obtain ⟨x2, g25, hx26, r27⟩ := ix_ok r20; clear r20
     refine ov (v_index (ixa_82 h_x g25 hx26) rfl rfl) rfl ?_
     refine oa rfl rfl (oa rfl rfl (nsr (om rfl rfl (shO_nil ?_))))
     refine shW_cond rfl (fun c28 => ?_) (fun c28 => ?_)
     · have r29 := bt r27 c28; clear r27
       refine shW_region (om rfl rfl (om rfl rfl ?_))
       refine o_buildSlice (cs := #[.int .i64 k]) rfl rfl (buildSlice_all slt_36 [.int .i64 k] rfl (by decide) (by simp [Value.cells]) (by decide)) ?_; intro b30 hb30
       obtain ⟨out3, h31, g32, r33⟩ := ap_ok r29; clear r29
       refine o_appZ (xs := out2) (ys := [k]) (zs := out3) rfl slt_36 rfl rfl (Nat.le_refl _) (fun _ => .c .h) hz13 (SrcR.box (vss := [[.int .i64 k]]) (ys := [k]) 0 rfl (iE_ok _) (.cons rfl .nil) rfl rfl) h31 g32 (by decide) ?_; intro a34 n38 c35 Lb36 hz37
       refine kO (kd kr) ?_
       refine oa rfl rfl (shO_nil (inBlock_n (id := 1) (shW_region ?_)))
       refine ov (v_add rfl rfl (Ctr.r64 hk18 c23 g16)) rfl ?_
       refine om rfl rfl (shO_nil ?_)
       exact le kr ⟨_, hk24, out3, a34, n38, c35, Lb36, r33, rfl, rfl, (sc rfl (sc rfl (sc rfl (sn _)))), hz37⟩
     have r40 := bf r27 c28; clear r27
     refine shW_skip (inBlock_n (id := 1) (shW_region ?_))
     refine ov (v_add rfl rfl (Ctr.r64 hk18 c23 g16)) rfl ?_
     refine om rfl rfl (shO_nil ?_)
     exact le kr ⟨_, hk24, out2, a10, n14, c11, Lb12, r40, rfl, rfl, (sc rfl (sc rfl (sc rfl (sn _)))), hz13⟩
   obtain rfl := Ctr.zero hk18 c23
   rw [hear_ears_list_l1] at r20
   refine shW_exit (andThen_exit (andThen_exit ?_))
   refine inBlock_exit ?_
   obtain rfl := inj1 r20
   exact mi kr ⟨a10, n14, c11, Lb12, rfl, rfl, (sc rfl (sn _)), hz13⟩
 rintro e1 _ _ ⟨a2, n6, c3, Lb4, rfl, rfl, he41, hz5⟩
 refine shW_env _ he41 ?_; clear he41
 refine wsr (om rfl rfl (oa rfl rfl (shO_nil (shW_ret ?_))))
 refine q_res1 Try.results70 (res_tmp rfl) (sr) ?_
 obtain rfl := inj1 r9
 exact ⟨_, _, _, _, rfl, rfl, hz5.any⟩
set_option maxHeartbeats 1000000 in
theorem slices_Compact_int_int_w {s__a : Option Addr} {s__n : Nat} {s__c : Nat} {s__L : LH} {s_ : List Int} {s__nb : Nat} {F : FS} (h_s_ : SlR s__nb 3 1 (iE .i64) F s__a s__n s__c s_ s__L) {r : List Int} (hr : slices_Compact_int_int s_ = some r) :
    SH.Spec Try.prog 71 #[.slice s__a s__n s__c] F (s__L ++ []) fun F' L' v => ∃ (ra : Option Addr) (rn : Nat) (rc : Nat) (rL : LH), v = .slice ra rn rc ∧ L' = rL ++ [] ∧ SlR s__nb 3 1 (iE .i64) F' ra rn rc r rL := by
 refine spec_of_shW (args := [.slice s__a s__n s__c]) Try.func71 rfl Try.ntmps71 (Nat.le_of_ble_eq_true rfl) ?_
 intro K _ _; rw [slices_Compact_int_int] at hr
 refine shW_L (L' := s__L ++ []) (by simp) ?_
 refine wsr (oa rfl rfl (shO_nil (shW_seq (wsr (om rfl rfl ?_)))))
 refine ov ((v_lenS Try.underlying36 rfl).i (SlR.lenI h_s_)) rfl ?_
 refine ov (v_lssK rfl rfl) rfl ?_
 refine shO_nil ?_
 refine shW_condP rfl (fun c1 => ?_) (fun c1 => ?_)
 · have r2 := ite_t hr c1; clear hr
   refine wsr (om rfl rfl (oa rfl rfl (shO_nil (shW_ret (andThen_ret ?_)))))
   refine q_res1 Try.results71 (res_tmp rfl) (sr) ?_
   obtain rfl := inj1 r2
   exact ⟨_, _, _, _, rfl, rfl, h_s_⟩
 have r3 := ite_f hr c1; clear hr
 refine shW_skip ?_
 refine shW_join (fun e1 F1 L1 => slices_Compact_int_int_j1 s_ = some r ∧ F = F1 ∧ L1 = (s__L ++ []) ∧ e1.sub [(0, .slice s__a s__n s__c)]) ?_ ?_
 · refine wsr (oa rfl rfl (shO_nil ?_))
   refine shW_block ?_
   obtain ⟨g4, r5⟩ := gd_ok r3; clear r3
   refine shW_lp (fun fu2 e1 F1 L1 => ∃ (k : Int), Ctr 1 (s_.length : Int) k fu2 ∧ slices_Compact_int_int_l2 s_ fu2 k = some r ∧ F = F1 ∧ L1 = (s__L ++ []) ∧ e1.sub [(0, .slice s__a s__n s__c), (3, .int .i64 k)]) _ (m0 kr ⟨_, Ctr.start _ _, r5, rfl, rfl, (sc rfl (sc rfl (sn _)))⟩) ?_
   rintro fu2 e1 _ _ ⟨k, hk6, r8, rfl, rfl, he9⟩
   refine shW_env _ he9 ?_; clear he9
   refine shW_seq (wsr (om rfl rfl (om rfl rfl ?_)))
   refine ov ((v_lenS Try.underlying36 rfl).i (SlR.lenI h_s_)) rfl ?_
   refine ov (v_lssK rfl rfl) rfl ?_
   refine shO_nil ?_
   refine shW_condP rfl (fun c11 => ?_) (fun c11 => ?_)
   · obtain ⟨fu2, rfl, hk12⟩ := Ctr.succ hk6 c11
     rw [slices_Compact_int_int_l2] at r8
     refine shW_skip ?_
     refine shW_join (fun e1 F1 L1 => slices_Compact_int_int_j3 k (slices_Compact_int_int_l2 s_ fu2) = some r ∧ F = F1 ∧ L1 = (s__L ++ []) ∧ e1.sub [(0, .slice s__a s__n s__c), (3, .int .i64 k)]) ?_ ?_
     · refine shW_block ?_
       refine wsd (by kernel_rfl) (by kernel_rfl) (by kernel_rfl) ?_
       refine qm rfl rfl (qm rfl rfl ?_)
       obtain ⟨x, g13, hx14, r15⟩ := ix_ok r8; clear r8
       obtain ⟨b16, o17, c18, vs19, ha20, hs21, hle22, rfl, hl23, hc24⟩ := SlR.at (iE_ok _) h_s_ (L := s__L ++ []) fP g13.1 hx14
       refine qv (v_indexO Try.underlying36 Try.sizeOf3 rfl ha20 rfl (SlR.idx h_s_ g13)) rfl ?_
       refine qv (v_load Try.isAgg3 rfl hs21 (hc24 0 (by decide))) rfl ?_
       refine qm rfl rfl (qm rfl rfl ?_)
       obtain ⟨g25, r26⟩ := gd_ok r15; clear r15
       refine qv (v_sub rfl rfl g25) rfl ?_
       obtain ⟨x2, g27, hx28, r29⟩ := ix_ok r26; clear r26
       obtain ⟨b30, o31, c32, vs33, ha34, hs35, hle36, rfl, hl37, hc38⟩ := SlR.at (iE_ok _) h_s_ (L := s__L ++ []) fP g27.1 hx28
       refine qv (v_indexO Try.underlying36 Try.sizeOf3 rfl ha34 rfl (SlR.idx h_s_ g27)) rfl ?_
       refine qv (v_load Try.isAgg3 rfl hs35 (hc38 0 (by decide))) rfl ?_
       refine qv (v_eql rfl rfl) rfl ?_
       refine shQ_nil ?_
       refine shW_condP rfl (fun c39 => ?_) (fun c39 => ?_)
       · have r40 := ite_t r29 c39; clear r29
         refine wsr (om rfl rfl (om rfl rfl ?_))
         obtain ⟨g41, r42⟩ := gd_ok r40; clear r40
         have gv43 := SlR.gV h_s_ g41
         refine ov (OpV.eq (v' := .slice (vwA s__a s__c (Int.toNat k) 1) (s__n - Int.toNat k) (s__c - Int.toNat k)) (v_slice (l := k) (h := (s__n : Nat)) Try.underlying36 Try.sizeOf3 rfl (.inr ⟨_, rfl, rfl⟩) (.inl ⟨rfl, rfl⟩) (SlR.capV h_s_ gv43)) rfl) rfl ?_
         refine oa rfl rfl (shO_nil ?_)
         obtain ⟨s_2, k2, h46, r47⟩ := b2_ok r42; clear r42
         refine shW_join (fun e1 F1 L1 => ∃ (Lb44 : LH), F = F1 ∧ L1 = (Lb44 ++ []) ∧ e1.sub [(0, .slice s__a s__n s__c), (3, .int .i64 k2)] ∧ SlR s__nb 3 1 (iE .i64) F1 s__a s__n s__c s_2 Lb44) ?_ ?_
         · clear r47
           refine wsr (oa rfl rfl (shO_nil ?_))
           refine shW_block ?_
           refine shW_lp (fun fu4 e1 F1 L1 => ∃ (s_3 : List Int) (k3 : Int) (k2_2 : Int) (Lb48 : LH), slices_Compact_int_int_l4 k fu4 s_3 k3 k2_2 = some (s_2, k2) ∧ F = F1 ∧ L1 = (Lb48 ++ []) ∧ e1.sub [(0, .slice s__a s__n s__c), (3, .int .i64 k3), (4, .slice (vwA s__a s__c (Int.toNat k) 1) (s__n - Int.toNat k) (s__c - Int.toNat k)), (5, .int .i64 k2_2)] ∧ SlR s__nb 3 1 (iE .i64) F1 s__a s__n s__c s_3 Lb48) FU (m0 kr ⟨s_, k, 1, s__L, h46, rfl, rfl, (sc rfl (sc rfl (sc rfl (sc rfl (sn _))))), h_s_⟩) ?_
           rintro fu4 e1 _ _ ⟨s_3, k3, k2_2, Lb48, r52, rfl, rfl, he53, hz49⟩
           refine shW_env _ he53 ?_; clear he53
           rcases fu4 with _ | fu4
           · rw [slices_Compact_int_int_l4] at r52; cases r52
           rw [slices_Compact_int_int_l4] at r52
           refine shW_seq (wsr (om rfl rfl (om rfl rfl ?_)))
           refine ov ((v_lenS Try.underlying36 rfl).i (SlR.lenV hz49).symm) rfl ?_
           refine ov (v_lssK rfl rfl) rfl ?_
           refine shO_nil ?_
           refine shW_condP rfl (fun c54 => ?_) (fun c54 => ?_)
           · have r55 := ite_t r52 c54; clear r52
             refine shW_skip (shW_seq ?_)
             refine shW_block ?_
             refine wsd (by kernel_rfl) (by kernel_rfl) (by kernel_rfl) ?_
             refine qm rfl rfl (qm rfl rfl ?_)
             obtain ⟨x3, g56, hx57, r58⟩ := ix_ok r55; clear r55
             obtain ⟨b59, o60, c61, vs62, ha63, hs64, hle65, rfl, hl66, hc67⟩ := SlR.atV (iE_ok _) hz49 (L := Lb48 ++ []) fP gv43 g56.1 hx57
             refine qv (v_indexO Try.underlying36 Try.sizeOf3 rfl ha63 rfl (SlR.idxV hz49 g56)) rfl ?_
             refine qv (v_load Try.isAgg3 rfl hs64 (hc67 0 (by decide))) rfl ?_
             refine qm rfl rfl (qm rfl rfl ?_)
             obtain ⟨g68, r69⟩ := gd_ok r58; clear r58
             refine qv (v_sub rfl rfl g68) rfl ?_
             obtain ⟨x4, g70, hx71, r72⟩ := ix_ok r69; clear r69
             obtain ⟨b73, o74, c75, vs76, ha77, hs78, hle79, rfl, hl80, hc81⟩ := SlR.atV (iE_ok _) hz49 (L := Lb48 ++ []) fP gv43 g70.1 hx71
             refine qv (v_indexO Try.underlying36 Try.sizeOf3 rfl ha77 rfl (SlR.idxV hz49 g70)) rfl ?_
             refine qv (v_load Try.isAgg3 rfl hs78 (hc81 0 (by decide))) rfl ?_
             refine qv (v_neq rfl rfl) rfl ?_
             refine shQ_nil ?_
             refine shW_condP rfl (fun c82 => ?_) (fun c82 => ?_)
             · have r83 := ite_t r72 c82; clear r72
               refine wsr (om rfl rfl (om rfl rfl (om rfl rfl (om rfl rfl ?_))))
               obtain ⟨b84, o85, c86, vs87, ha88, hs89, hle90, rfl, hl91, hc92⟩ := SlR.atV (iE_ok _) hz49 (L := Lb48 ++ []) fP gv43 g56.1 hx57
               refine ov (v_indexO Try.underlying36 Try.sizeOf3 rfl ha88 rfl (SlR.idxV hz49 g56)) rfl ?_
               refine ov (v_load Try.isAgg3 rfl hs89 (hc92 0 (by decide))) rfl ?_
               obtain ⟨x5, g93, hx94, r95⟩ := ix_ok r83; clear r83
               obtain ⟨b96, o97, c98, vs99, ha100, hs101, hle102, rfl, hl103, hc104⟩ := SlR.at (iE_ok _) hz49 (L := Lb48 ++ []) fP g93.1 hx94
               refine ov (v_indexO Try.underlying36 Try.sizeOf3 rfl ha100 rfl (SlR.idx hz49 g93)) rfl ?_
               obtain ⟨s_4, h105, r106⟩ := bv_ok r95; clear r95
               refine o_storeZ (u := x3) Try.sizeOf3 (iE_ok _) rfl ha100 rfl rfl (fun _ => .h) hz49 h105 g93 ?_; intro Lb107 hz108
               refine shO_nil (shW_region (om rfl rfl ?_))
               obtain ⟨g109, r110⟩ := gd_ok r106; clear r106
               refine ov (v_add rfl rfl g109) rfl ?_
               refine oa rfl rfl (shO_nil (inBlock_n (id := 3) (shW_region (om rfl rfl ?_))))
               obtain ⟨g111, r112⟩ := gd_ok r110; clear r110
               refine ov (v_add rfl rfl g111) rfl ?_
               refine oa rfl rfl (shO_nil ?_)
               exact le kr ⟨s_4, k3 + 1, k2_2 + 1, Lb107, r112, rfl, rfl, (sc rfl (sc rfl (sc rfl (sc rfl (sn _))))), hz108⟩
             have r113 := ite_f r72 c82; clear r72
             refine shW_skip (inBlock_n (id := 3) (shW_region (om rfl rfl ?_)))
             obtain ⟨g114, r115⟩ := gd_ok r113; clear r113
             refine ov (v_add rfl rfl g114) rfl ?_
             refine oa rfl rfl (shO_nil ?_)
             exact le kr ⟨s_3, k3, k2_2 + 1, Lb48, r115, rfl, rfl, (sc rfl (sc rfl (sc rfl (sc rfl (sn _))))), hz49⟩
           have r116 := ite_f r52 c54; clear r52
           refine shW_exit (andThen_exit (andThen_exit ?_))
           refine inBlock_exit ?_
           obtain ⟨rfl, rfl⟩ := inj2 r116
           exact mi kr ⟨Lb48, rfl, rfl, (sc rfl (sc rfl (sn _))), hz49⟩
         rintro e1 _ _ ⟨Lb44, rfl, rfl, he117, hz45⟩
         refine shW_env _ he117 ?_; clear he117
         refine wsr (om rfl rfl (om rfl rfl ?_))
         obtain ⟨g118, r119⟩ := gd_ok r47; clear r47
         have gv120 := SlR.gV hz45 g118
         refine ov (OpV.eq (v' := .slice (vwA s__a s__c (Int.toNat k2) 1) (s__n - Int.toNat k2) (s__c - Int.toNat k2)) (v_slice (l := k2) (h := (s__n : Nat)) Try.underlying36 Try.sizeOf3 rfl (.inr ⟨_, rfl, rfl⟩) (.inl ⟨rfl, rfl⟩) (SlR.capV hz45 gv120)) rfl) rfl ?_
         obtain ⟨s_5, h121, r122⟩ := bv_ok r119; clear r119
         refine o_clearV (z0 := 0) (zs := s_5) (l := k2) rfl slt_36 (by decide) (iE_ok _) (fun _ => rfl) rfl (fun _ => .h) hz45 gv120 h121 ?_; intro Lb123 hz124
         refine nsr (om rfl rfl (om rfl rfl ?_))
         obtain ⟨g125, r126⟩ := gd_ok r122; clear r122
         obtain ⟨s_6, h127, r128⟩ := bv_ok r126; clear r126
         refine o_sliceZ (l := 0) (h := k2) (zs := s_6) rfl slt_36 (iE_ok _) rfl (.inl ⟨rfl, rfl⟩) (.inr ⟨_, rfl, rfl⟩) (fun _ => .h) hz124 g125 h127 ?_; intro a129 n132 c130 Lb133 h131
         refine oa rfl rfl (shO_nil (shW_ret (inBlock_ret (andThen_ret (andThen_ret (inBlock_ret (andThen_ret ?_)))))))
         refine q_res1 Try.results71 (res_tmp rfl) (sr) ?_
         obtain rfl := inj1 r128
         exact ⟨_, _, _, _, rfl, rfl, h131⟩
       have r135 := ite_f r29 c39; clear r29
       refine shW_skip (inBlock_n (id := 1) ?_)
       exact mi kr ⟨r135, rfl, rfl, (sc rfl (sc rfl (sn _)))⟩
     rintro e1 _ _ ⟨r136, rfl, rfl, he137⟩
     refine shW_env _ he137 ?_; clear he137
     rw [slices_Compact_int_int_j3] at r136
     refine shW_region (om rfl rfl ?_)
     refine ov (v_add rfl rfl (Ctr.r64 hk6 c11 g4)) rfl ?_
     refine oa rfl rfl (shO_nil ?_)
     exact le kr ⟨_, hk12, r136, rfl, rfl, (sc rfl (sc rfl (sn _)))⟩
   obtain rfl := Ctr.zero hk6 c11
   rw [slices_Compact_int_int_l2] at r8
   refine shW_exit (andThen_exit (andThen_exit ?_))
   refine inBlock_exit ?_
   exact mi kr ⟨r8, rfl, rfl, (sc rfl (sn _))⟩
 rintro e1 _ _ ⟨r138, rfl, rfl, he139⟩
 refine shW_env _ he139 ?_; clear he139
 rw [slices_Compact_int_int_j1] at r138
 refine wsr (om rfl rfl (oa rfl rfl (shO_nil (shW_ret ?_))))
 refine q_res1 Try.results71 (res_tmp rfl) (sr) ?_
 obtain rfl := inj1 r138
 exact ⟨_, _, _, _, rfl, rfl, h_s_⟩
set_option maxHeartbeats 1000000 in
theorem hear_Must_w {wide : Int} {plots_a : Option Addr} {plots_c : Nat} {plots : List Int} {wind : Int} {voice : Int} {houses_a : Option Addr} {houses_c : Nat} {houses : List Int} {F : FS} (h_plots : RowR 1 (iE .i64) F plots_a plots_c plots) (h_houses : RowR 1 (iE .i64) F houses_a houses_c houses) {r : List Int} {r2 : Int} (hr : hear_Must wide plots wind voice houses = some (r, r2)) :
    SH.Spec Try.prog 30 #[.agg #[.int .i64 wide, .slice plots_a plots.length plots_c], .agg #[.int .i64 wind, .int .i64 voice], .slice houses_a houses.length houses_c] F [] fun F' L' v => ∃ (ra : Option Addr) (rn : Nat) (rc : Nat) (rL : LH), v = .tuple #[.slice ra rn rc, .int .i64 r2] ∧ L' = rL ++ [] ∧ SlR 0 3 1 (iE .i64) F' ra rn rc r rL := by
 refine spec_of_shW (args := [.agg #[.int .i64 wide, .slice plots_a plots.length plots_c], .agg #[.int .i64 wind, .int .i64 voice], .slice houses_a houses.length houses_c]) Try.func30 rfl Try.ntmps30 (Nat.le_of_ble_eq_true rfl) ?_
 intro K _ _; rw [hear_Must] at hr
 refine wsr ?_
 refine o_box rfl rfl ?_; intro b1 hb1
 refine o_box rfl rfl ?_; intro b2 hb2
 refine oa rfl rfl (oa rfl rfl (nsr ?_))
 refine ov (v_loadA (cs := #[.int .i64 wide, .slice plots_a plots.length plots_c]) Try.isAgg27 Try.sizeOf27 rfl (Has.own 1 rfl) (Nat.le_of_ble_eq_true rfl) rfl) rfl ?_
 refine ov (v_loadA (cs := #[.int .i64 wind, .int .i64 voice]) Try.isAgg31 Try.sizeOf31 rfl (Has.own 0 rfl) (Nat.le_of_ble_eq_true rfl) rfl) rfl ?_
 refine om rfl rfl ?_
 obtain ⟨l, y, n, h3, r4⟩ := b3_ok hr; clear hr
 refine o_call0 rfl Try.call44 rfl rfl rfl (hear_asked_w h_plots h_houses h3) ?_; rintro _ F5 _ hF6 hn7 ⟨a9, n13, c10, Lb11, v15, rfl, rfl, hz12, hp16⟩
 replace hz12 := hz12.new fun p hp => hn7 p (by simp [hp])
 refine shO_L (lp (ln rfl)) ?_
 refine kO (kf (fS fO) (kf (fS fO) kr)) ?_
 refine om rfl rfl (ox rfl rfl rfl (ox rfl rfl rfl ?_))
 refine o_alloc rfl Try.zeroValue77 ?_; intro b17 hb17
 refine o_storeA (i := 0) Try.sizeOf77 rfl rfl rfl (List.forall_mem_cons.2 ⟨rfl, (List.forall_mem_cons.2 ⟨hp16.1, (fun _ h => absurd h List.not_mem_nil)⟩)⟩) rfl (Nat.le_of_ble_eq_true rfl) ?_
 refine shO_L (L' := (b17, .cells #[.slice a9 n13 c10, v15] 77 (0, 0)) :: ((b2, .cells #[.int .i64 wind, .int .i64 voice] 31 (0, 0)) :: ((b1, .cells #[.int .i64 wide, .slice plots_a plots.length plots_c] 27 (0, 0)) :: (Lb11 ++ [])))) rfl ?_
 refine oa rfl rfl (shO_nil (shW_seq ?_))
 refine shW_block ?_
 refine wsr (om rfl rfl ?_)
 refine ov (v_neq rfl rfl) rfl ?_
 refine oa rfl rfl (shO_nil ?_)
 refine shW_condP rfl (fun c18 => ?_) (fun c18 => ?_)
 · have r19 := ite_t r4 c18; clear r4
   refine wsr (om rfl rfl (oa rfl rfl (oa rfl rfl (shO_nil ?_))))
   refine kW kn ?_
   refine shW_ret (inBlock_ret (andThen_ret ?_))
   refine q_res2 Try.results30 (res_tmp rfl) (res_tmp rfl) (sr) ?_
   obtain ⟨rfl, rfl⟩ := inj2 r19
   exact ⟨_, _, _, [], rfl, rfl, SlR.nil _ _ _ _ _⟩
 have r20 := ite_f r4 c18; clear r4
 refine wsr ?_
 refine ov (v_loadA (cs := #[.slice a9 n13 c10, v15]) Try.isAgg77 Try.sizeOf77 rfl (Has.own 0 rfl) (Nat.le_of_ble_eq_true rfl) rfl) rfl ?_
 obtain ⟨g21, r22⟩ := gd_ok r20; clear r20
 obtain rfl := hp16.2 g21
 have hn23 : FnR Try.prog F5 77 #[] #[] (iE .i64) (Value.int .i64) (fun xx_ : Int => hear_ones xx_) := ⟨Try.call77, fun F2 h2 vs xx_ r ha hr => by obtain rfl := ha; exact hear_ones_w hr⟩
 obtain ⟨ok, h24, r25⟩ := b1_ok r22; clear r22
 refine o_callT (Lt := Lb11 ++ []) (Lr := [(b17, .cells (#[.slice a9 n13 c10, .func (.func 77) #[] #[]]) 77 (0, 0)), (b2, .cells #[.int .i64 wind, .int .i64 voice] 31 (0, 0)), (b1, .cells #[.int .i64 wide, .slice plots_a plots.length plots_c] 27 (0, 0))]) rfl Try.call45 rfl rfl rfl (pT ((fC (fC (fC fP))).trans (pA pR)) (lp (ln rfl))) (fun F2 h2 h3 => by rw [(SlR.caps hz12).1]; exact hear_quarter_deaf_w (hz12.row (arE_ok (n := 30) (sz := 1) cB_ok) h2 (fun p hp => h3 p (List.mem_append_left _ hp))) (hn23.mono h2) h24) ?_
 refine oa rfl rfl (shO_nil ?_)
 refine shW_cond rfl (fun c26 => ?_) (fun c26 => ?_)
 · have r27 := bt r25 c26; clear r25
   refine wsr (oa rfl rfl (oa rfl rfl (shO_nil ?_)))
   refine kW kn ?_
   refine shW_ret (inBlock_ret (andThen_ret ?_))
   refine q_res2 Try.results30 (res_tmp rfl) (res_tmp rfl) (sr) ?_
   obtain ⟨rfl, rfl⟩ := inj2 r27
   exact ⟨_, _, _, [], rfl, rfl, SlR.nil _ _ _ _ _⟩
 have r28 := bf r25 c26; clear r25
 refine shW_skip (inBlock_n (id := 0) (wsr (oa rfl rfl (shO_nil ?_))))
 obtain ⟨out, h35, r36⟩ := b1_ok r28; clear r28
 refine shW_join (fun e1 F1 L1 => ∃ (a29 : Option Addr) (n33 : Nat) (c30 : Nat) (Lb31 : LH), FExt F5 F1 ∧ L1 = (Lb31 ++ []) ∧ e1.sub [(10, .slice a29 n33 c30)] ∧ SlR K.w0.heap.size 3 1 (iE .i64) F1 a29 n33 c30 out Lb31) ?_ ?_
 · clear r36
   refine wsr ?_
   refine ov (v_fieldAddr fa_77_0 rfl) rfl ?_
   refine ov (v_load Try.isAgg75 rfl (Has.own 0 rfl) rfl) rfl ?_
   refine ov ((v_lenS Try.underlying75 rfl).i (SlR.lenI hz12)) rfl ?_
   refine om rfl rfl (shO_nil ?_)
   refine shW_block ?_
   refine kW (kd (kd (kd kr))) ?_
   refine shW_lp (fun fu1 e1 F1 L1 => ∃ (tl : List (List Bool)) (k : Int), tl.length = fu1 ∧ Lst l k tl ∧ ∃ (out2 : List Int) (a37 : Option Addr) (n41 : Nat) (c38 : Nat) (Lb39 : LH), hear_Must_l1 tl out2 = some out ∧ FExt F5 F1 ∧ L1 = (Lb39 ++ (Lb11 ++ [])) ∧ e1.sub [(10, .slice a37 n41 c38), (29, .slice a9 n13 c10), (30, .int .i64 (l.length : Int)), (31, .int .i64 k)] ∧ SlR K.w0.heap.size 3 1 (iE .i64) F1 a37 n41 c38 out2 Lb39) _ (m0 (ke kr) ⟨_, _, rfl, Lst.start _, [], none, 0, 0, [], h35, FExt.refl _, rfl, (sc rfl (sc rfl (sc rfl (sc rfl (sn _))))), SlR.nil _ _ _ _ _⟩) ?_
   rintro fu1 e1 F47 _ ⟨tl, k, hn44, hk43, out2, a37, n41, c38, Lb39, r45, hF48, rfl, he46, hz40⟩
   refine shW_env _ he46 ?_; clear he46
   replace hz12 := hz12.mono (arE_ok (n := 30) (sz := 1) cB_ok) hF48
   refine wsr ?_
   refine ov (v_lssK rfl rfl) rfl ?_
   refine shO_nil (shW_seq ?_)
   refine shW_condP rfl (fun c50 => ?_) (fun c50 => ?_)
   · obtain ⟨x, tl2, rfl, hx52, g53, hk51⟩ := Lst.succ hk43 c50
     rw [hear_Must_l1] at r45
     refine shW_skip (shW_seq ?_)
     refine shW_block ?_
     refine wsr ?_
     obtain ⟨b54, o55, c56, vs57, ha58, hs59, hle60, ⟨rfl, h63⟩, hl61, hc62⟩ := SlR.at (arE_ok (n := 30) (sz := 1) cB_ok) hz12 (L := Lb39 ++ (Lb11 ++ [])) (fS fP) g53.1 hx52
     refine ov (v_indexO Try.underlying75 Try.sizeOf82 rfl ha58 rfl (SlR.idx hz12 g53)) rfl ?_
     refine ov (v_loadA (cs := arr cB x) Try.isAgg82 Try.sizeOf82 rfl hs59 hle60 (extract_cells hle60 hl61 hc62)) rfl ?_
     refine o_alloc rfl Try.zeroValue82 ?_; intro b64 hb64
     refine shO_L (L' := (b64, .cells (arr cB (List.replicate 30 false)) 82 (0, 0)) :: (Lb39 ++ (Lb11 ++ []))) rfl ?_
     refine o_storeW (i := 0) Try.sizeOf82 rfl rfl rfl (arr_sz cB_ok List.length_replicate) (arr_sz cB_ok h63) (arr_one cB_ok) ?_
     refine shO_L (L' := (b64, .cells (arr cB x) 82 (0, 0)) :: (Lb39 ++ (Lb11 ++ []))) rfl ?_
     refine nsr ?_
     refine ov (v_loadW Try.isAgg82 Try.sizeOf82 rfl (Has.own 0 rfl) (arr_sz cB_ok h63)) rfl ?_
     obtain ⟨l2, h65, r66⟩ := b1_ok r45; clear r45
     refine o_call0 rfl Try.call70 rfl rfl rfl (hear_ears_list_w h63 h65) ?_; rintro _ F67 _ hF68 hn69 ⟨a71, n75, c72, Lb73, rfl, rfl, hz74⟩
     replace hz12 := hz12.mono (arE_ok (n := 30) (sz := 1) cB_ok) hF68
     replace hz40 := hz40.mono (iE_ok _) hF68
     replace hz74 := hz74.new fun p hp => hn69 p (by simp [hp])
     refine shO_L (lp (ln rfl)) ?_
     refine kO (kf (fS fO) kr) ?_
     refine oa rfl rfl (nsr (om rfl rfl ?_))
     refine ov ((v_lenS Try.underlying36 rfl).i (SlR.lenI hz74)) rfl ?_
     refine ov (v_eql rfl rfl) rfl ?_
     refine shO_nil ?_
     refine shW_condP rfl (fun c77 => ?_) (fun c77 => ?_)
     · have r78 := ite_t r66 c77; clear r66
       refine shW_region (om rfl rfl (om rfl rfl ?_))
       obtain ⟨x2, g79, hx80, r81⟩ := ix_ok r78; clear r78
       obtain ⟨b82, o83, c84, vs85, ha86, hs87, hle88, rfl, hl89, hc90⟩ := SlR.at (iE_ok _) hz74 (L := (b64, .cells (arr cB x) 82 (0, 0)) :: (Lb73 ++ (Lb39 ++ (Lb11 ++ [])))) (fC fP) g79.1 hx80
       refine ov (v_indexO Try.underlying36 Try.sizeOf3 rfl ha86 rfl (SlR.idx hz74 g79)) rfl ?_
       refine ov (v_load Try.isAgg3 rfl hs87 (hc90 0 (by decide))) rfl ?_
       refine o_buildSlice (cs := #[.int .i64 x2]) rfl rfl (buildSlice_all slt_36 [.int .i64 x2] rfl (by decide) (by simp [Value.cells]) (by decide)) ?_; intro b91 hb91
       obtain ⟨out3, h92, g93, r94⟩ := ap_ok r81; clear r81
       refine o_appZ (xs := out2) (ys := [x2]) (zs := out3) rfl slt_36 rfl rfl (Nat.le_refl _) (fun _ => .c (.c (.s .h))) hz40 (SrcR.box (vss := [[.int .i64 x2]]) (ys := [x2]) 0 rfl (iE_ok _) (.cons rfl .nil) rfl rfl) h92 g93 (by decide) ?_; intro a95 n99 c96 Lb97 hz98
       refine kO (kd kr) ?_
       refine oa rfl rfl (shO_nil (inBlock_n (id := 2) (shW_region ?_)))
       refine ov (v_add rfl rfl (Lst.r64 hk43 c50 (SlR.llt hz12))) rfl ?_
       refine om rfl rfl (shO_nil ?_)
       subst hn44; exact le (kd (kx kr)) ⟨_, _, rfl, hk51, out3, a95, n99, c96, Lb97, r94, (hF48.trans hF68), rfl, (sc rfl (sc rfl (sc rfl (sc rfl (sn _))))), hz98⟩
     have r101 := ite_f r66 c77; clear r66
     refine shW_skip (inBlock_n (id := 2) (shW_region ?_))
     refine ov (v_add rfl rfl (Lst.r64 hk43 c50 (SlR.llt hz12))) rfl ?_
     refine om rfl rfl (shO_nil ?_)
     subst hn44; exact le (kd (kx kr)) ⟨_, _, rfl, hk51, out2, a37, n41, c38, Lb39, r101, (hF48.trans hF68), rfl, (sc rfl (sc rfl (sc rfl (sc rfl (sn _))))), hz40⟩
   obtain rfl := Lst.zero hk43 c50
   rw [hear_Must_l1] at r45
   refine shW_exit (andThen_exit (andThen_exit ?_))
   refine inBlock_exit ?_
   obtain rfl := inj1 r45
   exact mi (ka kn) ⟨a37, n41, c38, Lb39, hF48, rfl, (sc rfl (sn _)), hz40⟩
 rintro e1 F103 _ ⟨a29, n33, c30, Lb31, hF104, rfl, he102, hz32⟩
 refine shW_env _ he102 ?_; clear he102
 refine wsr (om rfl rfl ?_)
 obtain ⟨s_, h105, r106⟩ := b1_ok r36; clear r36
 refine o_callG (Lb := Lb31 ++ []) (Lr := []) rfl Try.call67 rfl rfl rfl (pT pR (lp (ln rfl))) (slices_Sort_int_int_w hz32 h105) ?_; rintro _ F107 _ hF108 hd110 hn109 ⟨Lb111, rfl, rfl, hz112⟩
 refine shO_L (lp (ln rfl)) ?_
 refine nsr (om rfl rfl ?_)
 obtain ⟨l3, h113, r114⟩ := b1_ok r106; clear r106
 refine o_callG (Lb := Lb111 ++ []) (Lr := []) rfl Try.call71 rfl rfl rfl (pT pR (lp (ln rfl))) (slices_Compact_int_int_w hz112 h113) ?_; rintro _ F115 _ hF116 hd118 hn117 ⟨a119, n123, c120, Lb121, rfl, rfl, hz122⟩
 refine shO_L (lp (ln rfl)) ?_
 refine oa rfl rfl (oa rfl rfl (shO_nil (shW_ret ?_)))
 refine q_res2 Try.results30 (res_tmp rfl) (res_tmp rfl) (sr) ?_
 obtain ⟨rfl, rfl⟩ := inj2 r114
 exact ⟨_, _, _, _, rfl, rfl, hz122.any⟩
set_option maxHeartbeats 1000000 in
theorem hear_Deaf_w {wide : Int} {plots_a : Option Addr} {plots_c : Nat} {plots : List Int} {wind : Int} {voice : Int} {F : FS} (h_plots : RowR 1 (iE .i64) F plots_a plots_c plots) {r : List Int} {r2 : Int} (hr : hear_Deaf wide plots wind voice = some (r, r2)) :
    SH.Spec Try.prog 31 #[.agg #[.int .i64 wide, .slice plots_a plots.length plots_c], .agg #[.int .i64 wind, .int .i64 voice]] F [] fun F' L' v => ∃ (ra : Option Addr) (rn : Nat) (rc : Nat) (rL : LH), v = .tuple #[.slice ra rn rc, .int .i64 r2] ∧ L' = rL ++ [] ∧ SlR 0 3 1 (iE .i64) F' ra rn rc r rL := by
 refine spec_of_shW (args := [.agg #[.int .i64 wide, .slice plots_a plots.length plots_c], .agg #[.int .i64 wind, .int .i64 voice]]) Try.func31 rfl Try.ntmps31 (Nat.le_of_ble_eq_true rfl) ?_
 intro K _ _; rw [hear_Deaf] at hr
 refine wsr ?_
 refine o_box rfl rfl ?_; intro b1 hb1
 refine o_box rfl rfl ?_; intro b2 hb2
 refine oa rfl rfl (oa rfl rfl (nsr ?_))
 refine ov (v_loadA (cs := #[.int .i64 wide, .slice plots_a plots.length plots_c]) Try.isAgg27 Try.sizeOf27 rfl (Has.own 1 rfl) (Nat.le_of_ble_eq_true rfl) rfl) rfl ?_
 refine ov (v_loadA (cs := #[.int .i64 wind, .int .i64 voice]) Try.isAgg31 Try.sizeOf31 rfl (Has.own 0 rfl) (Nat.le_of_ble_eq_true rfl) rfl) rfl ?_
 obtain ⟨l, n, h3, r4⟩ := b2_ok hr; clear hr
 refine o_call0 rfl Try.call72 rfl rfl rfl (hear_aired_w h_plots h3) ?_; rintro _ F5 _ hF6 hn7 ⟨a9, n13, c10, Lb11, rfl, rfl, hz12⟩
 replace h_plots := h_plots.mono (iE_ok _) hF6
 replace hz12 := hz12.new fun p hp => hn7 p (by simp [hp])
 refine shO_L (lp (ln rfl)) ?_
 refine kO (kf (fS fO) (kf (fS fO) kr)) ?_
 refine om rfl rfl (ox rfl rfl rfl (ox rfl rfl rfl (oa rfl rfl (oa rfl rfl (shO_nil (shW_seq (wsr (om rfl rfl ?_))))))))
 refine ov (v_neq rfl rfl) rfl ?_
 refine shO_nil ?_
 refine shW_condP rfl (fun c15 => ?_) (fun c15 => ?_)
 · have r16 := ite_t r4 c15; clear r4
   refine wsr (om rfl rfl (oa rfl rfl (oa rfl rfl (shO_nil ?_))))
   refine kW kn ?_
   refine shW_ret (andThen_ret ?_)
   refine q_res2 Try.results31 (res_tmp rfl) (res_tmp rfl) (sr) ?_
   obtain ⟨rfl, rfl⟩ := inj2 r16
   exact ⟨_, _, _, [], rfl, rfl, SlR.nil _ _ _ _ _⟩
 have r17 := ite_f r4 c15; clear r4
 refine shW_skip (wsr (oa rfl rfl (shO_nil ?_)))
 obtain ⟨out, h24, r25⟩ := b1_ok r17; clear r17
 refine shW_join (fun e1 F1 L1 => ∃ (a18 : Option Addr) (n22 : Nat) (c19 : Nat) (Lb20 : LH), F5 = F1 ∧ L1 = (Lb20 ++ []) ∧ e1.sub [(8, .slice a18 n22 c19)] ∧ SlR K.w0.heap.size 3 1 (iE .i64) F1 a18 n22 c19 out Lb20) ?_ ?_
 · clear r25
   refine wsr ?_
   refine ov (v_fieldAddr fa_27_1 rfl) rfl ?_
   refine ov (v_load Try.isAgg25 rfl (Has.own 1 rfl) rfl) rfl ?_
   refine ov (v_lenS Try.underlying25 rfl) rfl ?_
   refine om rfl rfl (shO_nil ?_)
   refine shW_block ?_
   refine kW (kd (kd kr)) ?_
   refine shW_lp (fun fu1 e1 F1 L1 => ∃ (tl : List Int) (k : Int), tl.length = fu1 ∧ Lst plots k tl ∧ ∃ (out2 : List Int) (a26 : Option Addr) (n30 : Nat) (c27 : Nat) (Lb28 : LH), hear_Deaf_l1 l tl k out2 = some out ∧ F5 = F1 ∧ L1 = (Lb11 ++ (Lb28 ++ [])) ∧ e1.sub [(6, .slice a9 n13 c10), (8, .slice a26 n30 c27), (21, .slice plots_a plots.length plots_c), (22, .int .i64 (plots.length : Int)), (23, .int .i64 k)] ∧ SlR K.w0.heap.size 3 1 (iE .i64) F1 a26 n30 c27 out2 Lb28) _ (m0 (ka (ke kr)) ⟨_, _, rfl, Lst.start _, [], none, 0, 0, [], h24, rfl, rfl, (sc rfl (sc rfl (sc rfl (sc rfl (sc rfl (sn _)))))), SlR.nil _ _ _ _ _⟩) ?_
   rintro fu1 e1 _ _ ⟨tl, k, hn33, hk32, out2, a26, n30, c27, Lb28, r34, rfl, rfl, he35, hz29⟩
   refine shW_env _ he35 ?_; clear he35
   refine wsr ?_
   refine ov (v_lssK rfl rfl) rfl ?_
   refine shO_nil (shW_seq ?_)
   refine shW_condP rfl (fun c37 => ?_) (fun c37 => ?_)
   · obtain ⟨x, tl2, rfl, hx39, g40, hk38⟩ := Lst.succ hk32 c37
     rw [hear_Deaf_l1] at r34
     refine shW_skip (shW_seq ?_)
     refine shW_block ?_
     refine wsr (om rfl rfl ?_)
     obtain ⟨b41, o42, c43, vs44, ha45, hs46, hle47, rfl, hl48, hc49⟩ := RowR.at (iE_ok _) h_plots (Lb11 ++ (Lb28 ++ [])) g40.1 hx39
     refine ov (v_indexO Try.underlying25 Try.sizeOf35 rfl ha45 rfl g40) rfl ?_
     refine ov (v_load Try.isAgg35 rfl hs46 (hc49 0 (by decide))) rfl ?_
     refine oa rfl rfl (oa rfl rfl (shO_nil ?_))
     obtain ⟨k2, h50, r51⟩ := b1_ok r34; clear r34
     refine shW_join (fun e1 F1 L1 => F5 = F1 ∧ L1 = (Lb11 ++ (Lb28 ++ [])) ∧ e1.sub [(6, .slice a9 n13 c10), (8, .slice a26 n30 c27), (9, .int .i64 k), (21, .slice plots_a plots.length plots_c), (22, .int .i64 (plots.length : Int)), (23, .int .i64 k), (37, .bool k2)]) ?_ ?_
     · clear r51
       refine shW_region (om rfl rfl ?_)
       refine ov (v_eql rfl rfl) rfl ?_
       refine om rfl rfl ?_
       by_cases c52 : x = 1
       · have r53 := ite_t h50 c52; clear h50
         refine shO_on (b := true) 30 rfl (Env.isT rfl c52) (om rfl rfl (shO_on (b := true) 30 rfl (Env.isT rfl c52) (om rfl rfl (shO_on (b := true) 30 rfl (Env.isT rfl c52) ?_))))
         obtain ⟨x2, g54, hx55, r56⟩ := ix_ok r53; clear r53
         obtain ⟨b57, o58, c59, vs60, ha61, hs62, hle63, ⟨rfl, h66⟩, hl64, hc65⟩ := SlR.at (arE_ok (n := 30) (sz := 1) cB_ok) hz12 (L := Lb11 ++ (Lb28 ++ [])) fP g54.1 hx55
         refine ov (v_indexO Try.underlying75 Try.sizeOf82 rfl ha61 rfl (SlR.idx hz12 g54)) rfl ?_
         refine shO_on (b := true) 30 rfl (Env.isT rfl c52) ?_
         refine ov (v_loadA (cs := arr cB x2) Try.isAgg82 Try.sizeOf82 rfl hs62 hle63 (extract_cells hle63 hl64 hc65)) rfl ?_
         refine shO_on (b := true) 30 rfl (Env.isT rfl c52) ?_
         refine ov (v_build (v := .agg (arr cB (List.replicate 30 false))) rfl (by intro w; kernel_rfl)) rfl ?_
         refine shO_on (b := true) 30 rfl (Env.isT rfl c52) ?_
         refine ov (v_eqA (eqga_82 _ _ _ _) (eqa_82 h66 List.length_replicate) rfl rfl) rfl ?_
         refine ov (v_pick_t (evD_true rfl c52) rfl) rfl ?_
         refine shO_nil ?_
         obtain rfl := inj1 r56
         exact mi kr ⟨rfl, rfl, (sc rfl (sc rfl (sc rfl (sc rfl (sc rfl (sc rfl (sc rfl (sn _))))))))⟩
       have r67 := ite_f h50 c52; clear h50
       refine shO_off (b' := false) 30 rfl (Env.isF rfl c52) rfl rfl (shO_off (b' := false) 30 rfl (Env.isF rfl c52) rfl rfl (shO_off (b' := false) 30 rfl (Env.isF rfl c52) rfl rfl (shO_off (b' := false) 30 rfl (Env.isF rfl c52) rfl rfl (shO_off (b' := false) 30 rfl (Env.isF rfl c52) rfl rfl (shO_off (b' := false) 30 rfl (Env.isF rfl c52) rfl rfl ?_)))))
       refine ov (v_pick_f (evD_false rfl c52) rfl) rfl ?_
       refine shO_nil ?_
       obtain rfl := inj1 r67
       exact mi kr ⟨rfl, rfl, (sc rfl (sc rfl (sc rfl (sc rfl (sc rfl (sc rfl (sc rfl (sn _))))))))⟩
     rintro e1 _ _ ⟨rfl, rfl, he68⟩
     refine shW_env _ he68 ?_; clear he68
     refine shW_cond rfl (fun c69 => ?_) (fun c69 => ?_)
     · have r70 := bt r51 c69; clear r51
       refine shW_region (om rfl rfl (om rfl rfl ?_))
       refine o_buildSlice (cs := #[.int .i64 k]) rfl rfl (buildSlice_all slt_36 [.int .i64 k] rfl (by decide) (by simp [Value.cells]) (by decide)) ?_; intro b71 hb71
       obtain ⟨out3, h72, g73, r74⟩ := ap_ok r70; clear r70
       refine o_appZ (xs := out2) (ys := [k]) (zs := out3) rfl slt_36 rfl rfl (Nat.le_refl _) (fun _ => .c (.s .h)) hz29 (SrcR.box (vss := [[.int .i64 k]]) (ys := [k]) 0 rfl (iE_ok _) (.cons rfl .nil) rfl rfl) h72 g73 (by decide) ?_; intro a75 n79 c76 Lb77 hz78
       refine kO (kd kr) ?_
       refine oa rfl rfl (shO_nil (inBlock_n (id := 1) (shW_region ?_)))
       refine ov (v_add rfl rfl (Lst.r64 hk32 c37 (RowR.lt h_plots))) rfl ?_
       refine om rfl rfl (shO_nil ?_)
       subst hn33; exact le kr ⟨_, _, rfl, hk38, out3, a75, n79, c76, Lb77, r74, rfl, rfl, (sc rfl (sc rfl (sc rfl (sc rfl (sc rfl (sn _)))))), hz78⟩
     have r81 := bf r51 c69; clear r51
     refine shW_skip (inBlock_n (id := 1) (shW_region ?_))
     refine ov (v_add rfl rfl (Lst.r64 hk32 c37 (RowR.lt h_plots))) rfl ?_
     refine om rfl rfl (shO_nil ?_)
     subst hn33; exact le kr ⟨_, _, rfl, hk38, out2, a26, n30, c27, Lb28, r81, rfl, rfl, (sc rfl (sc rfl (sc rfl (sc rfl (sc rfl (sn _)))))), hz29⟩
   obtain rfl := Lst.zero hk32 c37
   rw [hear_Deaf_l1] at r34
   refine shW_exit (andThen_exit (andThen_exit ?_))
   refine inBlock_exit ?_
   obtain rfl := inj1 r34
   exact mi (kx kr) ⟨a26, n30, c27, Lb28, rfl, rfl, (sc rfl (sn _)), hz29⟩
 rintro e1 _ _ ⟨a18, n22, c19, Lb20, rfl, rfl, he82, hz21⟩
 refine shW_env _ he82 ?_; clear he82
 refine wsr (om rfl rfl (oa rfl rfl (oa rfl rfl (shO_nil (shW_ret ?_)))))
 refine q_res2 Try.results31 (res_tmp rfl) (res_tmp rfl) (sr) ?_
 obtain ⟨rfl, rfl⟩ := inj2 r25
 exact ⟨_, _, _, _, rfl, rfl, hz21.any⟩
set_option maxHeartbeats 1000000 in
theorem slices_DeleteFunc_int_int_w {s__a : Option Addr} {s__n : Nat} {s__c : Nat} {s__L : LH} {s_ : List Int} {s__nb : Nat} {del_f : FuncId} {del_1 : Array Value} {del_2 : Array Value} {del : Int → Option Bool} {F : FS} (h_s_ : SlR s__nb 3 1 (iE .i64) F s__a s__n s__c s_ s__L) (h_del : FnR Try.prog F del_f del_1 del_2 (iE .i64) Value.bool del) {r : List Int} (hr : slices_DeleteFunc_int_int s_ del = some r) :
    SH.Spec Try.prog 32 #[.slice s__a s__n s__c, .func (.func del_f) del_1 del_2] F (s__L ++ []) fun F' L' v => ∃ (ra : Option Addr) (rn : Nat) (rc : Nat) (rL : LH), v = .slice ra rn rc ∧ L' = rL ++ [] ∧ SlR s__nb 3 1 (iE .i64) F' ra rn rc r rL := by
 refine spec_of_shW (args := [.slice s__a s__n s__c, .func (.func del_f) del_1 del_2]) Try.func32 rfl Try.ntmps32 (Nat.le_of_ble_eq_true rfl) ?_
 intro K _ _; rw [slices_DeleteFunc_int_int] at hr
 refine shW_L (L' := s__L ++ []) (by simp) ?_
 refine wsr (oa rfl rfl (nsr (om rfl rfl (om rfl rfl ?_))))
 obtain ⟨n, h1, r2⟩ := b1_ok hr; clear hr
 refine o_callT (Lt := s__L ++ []) (Lr := []) rfl Try.call63 rfl rfl rfl (pT pR (lp (ln rfl))) (fun F2 h2 h3 => by rw [(SlR.caps h_s_).1]; exact slices_IndexFunc_int_int_w (h_s_.row (iE_ok _) h2 (fun p hp => h3 p (List.mem_append_left _ hp))) (h_del.mono h2) h1) ?_
 refine oa rfl rfl (shO_nil (shW_seq (wsr (om rfl rfl ?_))))
 refine ov (v_eql rfl rfl) rfl ?_
 refine shO_nil ?_
 refine shW_condP rfl (fun c3 => ?_) (fun c3 => ?_)
 · have r4 := ite_t r2 c3; clear r2
   refine wsr (om rfl rfl (oa rfl rfl (shO_nil (shW_ret (andThen_ret ?_)))))
   refine q_res1 Try.results32 (res_tmp rfl) (sr) ?_
   obtain rfl := inj1 r4
   exact ⟨_, _, _, _, rfl, rfl, h_s_⟩
 have r5 := ite_f r2 c3; clear r2
 refine shW_skip ?_
 obtain ⟨s_2, i, h8, r9⟩ := b2_ok r5; clear r5
 refine shW_join (fun e1 F1 L1 => ∃ (Lb6 : LH), F = F1 ∧ L1 = (Lb6 ++ []) ∧ e1.sub [(0, .slice s__a s__n s__c), (5, .int .i64 i)] ∧ SlR s__nb 3 1 (iE .i64) F1 s__a s__n s__c s_2 Lb6) ?_ ?_
 · clear r9
   refine wsr (om rfl rfl ?_)
   obtain ⟨g10, r11⟩ := gd_ok h8; clear h8
   refine ov (v_add rfl rfl g10) rfl ?_
   refine oa rfl rfl (shO_nil ?_)
   refine shW_block ?_
   refine shW_lp (fun fu1 e1 F1 L1 => ∃ (s_3 : List Int) (i2 : Int) (j : Int) (Lb12 : LH), slices_DeleteFunc_int_int_l1 del fu1 s_3 i2 j = some (s_2, i) ∧ F = F1 ∧ L1 = (Lb12 ++ []) ∧ e1.sub [(0, .slice s__a s__n s__c), (1, .func (.func del_f) del_1 del_2), (5, .int .i64 i2), (6, .int .i64 j)] ∧ SlR s__nb 3 1 (iE .i64) F1 s__a s__n s__c s_3 Lb12) FU (m0 kr ⟨s_, n, n + 1, s__L, r11, rfl, rfl, (sc rfl (sc rfl (sc rfl (sc rfl (sn _))))), h_s_⟩) ?_
   rintro fu1 e1 _ _ ⟨s_3, i2, j, Lb12, r16, rfl, rfl, he17, hz13⟩
   refine shW_env _ he17 ?_; clear he17
   rcases fu1 with _ | fu1
   · rw [slices_DeleteFunc_int_int_l1] at r16; cases r16
   rw [slices_DeleteFunc_int_int_l1] at r16
   refine shW_seq (wsr (om rfl rfl (om rfl rfl ?_)))
   refine ov ((v_lenS Try.underlying36 rfl).i (SlR.lenI hz13)) rfl ?_
   refine ov (v_lssK rfl rfl) rfl ?_
   refine shO_nil ?_
   refine shW_condP rfl (fun c18 => ?_) (fun c18 => ?_)
   · have r19 := ite_t r16 c18; clear r16
     refine shW_skip (shW_seq ?_)
     refine shW_block ?_
     refine wsr (om rfl rfl (om rfl rfl ?_))
     obtain ⟨x, g20, hx21, r22⟩ := ix_ok r19; clear r19
     obtain ⟨b23, o24, c25, vs26, ha27, hs28, hle29, rfl, hl30, hc31⟩ := SlR.at (iE_ok _) hz13 (L := Lb12 ++ []) fP g20.1 hx21
     refine ov (v_indexO Try.underlying36 Try.sizeOf3 rfl ha27 rfl (SlR.idx hz13 g20)) rfl ?_
     refine ov (v_load Try.isAgg3 rfl hs28 (hc31 0 (by decide))) rfl ?_
     refine oa rfl rfl (nsr (om rfl rfl (om rfl rfl ?_)))
     obtain ⟨ok, h32, r33⟩ := b1_ok r22; clear r22
     refine o_callV rfl h_del.1 rfl rfl rfl (h_del.2 _ (FExt.refl _) _ _ _ rfl h32) ?_
     refine ov (v_notB rfl) rfl ?_
     refine shO_nil ?_
     refine shW_cond rfl (fun c34 => ?_) (fun c34 => ?_)
     · have r35 := bt r33 c34; clear r33
       refine wsr (om rfl rfl (om rfl rfl (om rfl rfl ?_)))
       obtain ⟨x2, g36, hx37, r38⟩ := ix_ok r35; clear r35
       obtain ⟨b39, o40, c41, vs42, ha43, hs44, hle45, rfl, hl46, hc47⟩ := SlR.at (iE_ok _) hz13 (L := Lb12 ++ []) fP g36.1 hx37
       refine ov (v_indexO Try.underlying36 Try.sizeOf3 rfl ha43 rfl (SlR.idx hz13 g36)) rfl ?_
       obtain ⟨s_4, h48, r49⟩ := bv_ok r38; clear r38
       refine o_storeZ (u := x) Try.sizeOf3 (iE_ok _) rfl ha43 rfl rfl (fun _ => .h) hz13 h48 g36 ?_; intro Lb50 hz51
       refine shO_nil (shW_region (om rfl rfl ?_))
       obtain ⟨g52, r53⟩ := gd_ok r49; clear r49
       refine ov (v_add rfl rfl g52) rfl ?_
       refine oa rfl rfl (shO_nil (inBlock_n (id := 1) (shW_region (om rfl rfl ?_))))
       obtain ⟨g54, r55⟩ := gd_ok r53; clear r53
       refine ov (v_add rfl rfl g54) rfl ?_
       refine oa rfl rfl (shO_nil ?_)
       exact le kr ⟨s_4, i2 + 1, j + 1, Lb50, r55, rfl, rfl, (sc rfl (sc rfl (sc rfl (sc rfl (sn _))))), hz51⟩
     have r56 := bf r33 c34; clear r33
     refine shW_skip (inBlock_n (id := 1) (shW_region (om rfl rfl ?_)))
     obtain ⟨g57, r58⟩ := gd_ok r56; clear r56
     refine ov (v_add rfl rfl g57) rfl ?_
     refine oa rfl rfl (shO_nil ?_)
     exact le kr ⟨s_3, i2, j + 1, Lb12, r58, rfl, rfl, (sc rfl (sc rfl (sc rfl (sc rfl (sn _))))), hz13⟩
   have r59 := ite_f r16 c18; clear r16
   refine shW_exit (andThen_exit (andThen_exit ?_))
   refine inBlock_exit ?_
   obtain ⟨rfl, rfl⟩ := inj2 r59
   exact mi kr ⟨Lb12, rfl, rfl, (sc rfl (sc rfl (sn _))), hz13⟩
 rintro e1 _ _ ⟨Lb6, rfl, rfl, he60, hz7⟩
 refine shW_env _ he60 ?_; clear he60
 refine wsr (om rfl rfl (om rfl rfl ?_))
 obtain ⟨g61, r62⟩ := gd_ok r9; clear r9
 have gv63 := SlR.gV hz7 g61
 refine ov (OpV.eq (v' := .slice (vwA s__a s__c (Int.toNat i) 1) (s__n - Int.toNat i) (s__c - Int.toNat i)) (v_slice (l := i) (h := (s__n : Nat)) Try.underlying36 Try.sizeOf3 rfl (.inr ⟨_, rfl, rfl⟩) (.inl ⟨rfl, rfl⟩) (SlR.capV hz7 gv63)) rfl) rfl ?_
 obtain ⟨s_5, h64, r65⟩ := bv_ok r62; clear r62
 refine o_clearV (z0 := 0) (zs := s_5) (l := i) rfl slt_36 (by decide) (iE_ok _) (fun _ => rfl) rfl (fun _ => .h) hz7 gv63 h64 ?_; intro Lb66 hz67
 refine nsr (om rfl rfl (om rfl rfl ?_))
 obtain ⟨g68, r69⟩ := gd_ok r65; clear r65
 obtain ⟨s_6, h70, r71⟩ := bv_ok r69; clear r69
 refine o_sliceZ (l := 0) (h := i) (zs := s_6) rfl slt_36 (iE_ok _) rfl (.inl ⟨rfl, rfl⟩) (.inr ⟨_, rfl, rfl⟩) (fun _ => .h) hz67 g68 h70 ?_; intro a72 n75 c73 Lb76 h74
 refine oa rfl rfl (shO_nil (shW_ret ?_))
 refine q_res1 Try.results32 (res_tmp rfl) (sr) ?_
 obtain rfl := inj1 r71
 exact ⟨_, _, _, _, rfl, rfl, h74⟩
set_option maxHeartbeats 1000000 in
theorem oyezlaw01_HearMore_1_w {h : Int} {b_deaf : Nat} {deaf_a : Option Addr} {deaf_c : Nat} {deaf : List Int} {mb_deaf : Nat × Nat} {F : FS} (hb_deaf : F b_deaf = some (.cells #[.slice deaf_a deaf.length deaf_c] 36 mb_deaf)) (h_deaf : RowR 1 (iE .i64) F deaf_a deaf_c deaf) {r : Bool} (hr : oyezlaw01_HearMore_1 h deaf = some r) :
    SpecV Try.prog 35 #[.int .i64 h, .pointer (some ⟨b_deaf, 0, none⟩)] F (.bool r) := by
 refine spec_of_shW (args := [.int .i64 h, .pointer (some ⟨b_deaf, 0, none⟩)]) Try.func35 rfl Try.ntmps35 (Nat.le_of_ble_eq_true rfl) ?_
 intro K _ _; rw [oyezlaw01_HearMore_1] at hr
 refine wsr (oa rfl rfl (nsr ?_))
 refine ov (v_load Try.isAgg36 rfl (Has.frozen hb_deaf) rfl) rfl ?_
 refine om rfl rfl ?_
 obtain ⟨ok, h1, r2⟩ := b1_ok hr; clear hr
 refine o_callV rfl Try.call22 rfl rfl rfl (slices_Contains_int_int_w h_deaf h1) ?_
 refine oa rfl rfl (shO_nil (shW_ret ?_))
 refine q_res1 Try.results35 (res_tmp rfl) (sr) ?_
 obtain rfl := inj1 r2
 exact rfl
set_option maxHeartbeats 1000000 in
theorem oyezlaw01_HearMore_2_w {s_ : Int} {b_x : Nat} {x_a : Option Addr} {x_c : Nat} {x : List Int} {mb_x : Nat × Nat} {F : FS} (hb_x : F b_x = some (.cells #[.slice x_a x.length x_c] 36 mb_x)) (h_x : RowR 1 (iE .i64) F x_a x_c x) {r : Bool} (hr : oyezlaw01_HearMore_2 s_ x = some r) :
    SpecV Try.prog 38 #[.int .i64 s_, .pointer (some ⟨b_x, 0, none⟩)] F (.bool r) := by
 refine spec_of_shW (args := [.int .i64 s_, .pointer (some ⟨b_x, 0, none⟩)]) Try.func38 rfl Try.ntmps38 (Nat.le_of_ble_eq_true rfl) ?_
 intro K _ _; rw [oyezlaw01_HearMore_2] at hr
 refine wsr (oa rfl rfl (nsr ?_))
 refine ov (v_load Try.isAgg36 rfl (Has.frozen hb_x) rfl) rfl ?_
 refine om rfl rfl ?_
 obtain ⟨ok, h1, r2⟩ := b1_ok hr; clear hr
 refine o_callV rfl Try.call22 rfl rfl rfl (slices_Contains_int_int_w h_x h1) ?_
 refine ov (v_notB rfl) rfl ?_
 refine oa rfl rfl (shO_nil (shW_ret ?_))
 refine q_res1 Try.results38 (res_tmp rfl) (sr) ?_
 obtain rfl := inj1 r2
 exact rfl
set_option maxHeartbeats 1000000 in
theorem oyezlaw01_HearMore_3_w {s_ : Int} {b_must : Nat} {must_a : Option Addr} {must_c : Nat} {must : List Int} {mb_must : Nat × Nat} {F : FS} (hb_must : F b_must = some (.cells #[.slice must_a must.length must_c] 36 mb_must)) (h_must : RowR 1 (iE .i64) F must_a must_c must) {r : Bool} (hr : oyezlaw01_HearMore_3 s_ must = some r) :
    SpecV Try.prog 39 #[.int .i64 s_, .pointer (some ⟨b_must, 0, none⟩)] F (.bool r) := by
 refine spec_of_shW (args := [.int .i64 s_, .pointer (some ⟨b_must, 0, none⟩)]) Try.func39 rfl Try.ntmps39 (Nat.le_of_ble_eq_true rfl) ?_
 intro K _ _; rw [oyezlaw01_HearMore_3] at hr
 refine wsr (oa rfl rfl (nsr ?_))
 refine ov (v_load Try.isAgg36 rfl (Has.frozen hb_must) rfl) rfl ?_
 refine om rfl rfl ?_
 obtain ⟨ok, h1, r2⟩ := b1_ok hr; clear hr
 refine o_callV rfl Try.call22 rfl rfl rfl (slices_Contains_int_int_w h_must h1) ?_
 refine ov (v_notB rfl) rfl ?_
 refine oa rfl rfl (shO_nil (shW_ret ?_))
 refine q_res1 Try.results39 (res_tmp rfl) (sr) ?_
 obtain rfl := inj1 r2
 exact rfl
end Go.Proofs.Ytejkgppikpkkpaa
