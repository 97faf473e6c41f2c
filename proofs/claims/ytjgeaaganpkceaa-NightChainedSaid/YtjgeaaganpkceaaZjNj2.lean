/- The walks that this claim needs, printed by a program of mine; part 2. -/
import Derived.Test.YtjgeaaganpkceaaZjNj1
namespace Go.Proofs.Ytjgeaaganpkceaa
open Go.SH Go.PL
set_option maxHeartbeats 1000000 in
theorem night_Most_w {listens_a : Option Addr} {listens_c : Nat} {listens : List (List Int)} {hours_a : Option Addr} {hours_c : Nat} {hours : List (List Int)} {man : Int} {F : FS} (h_listens : RowR 1 (slE 1 (iE .i64)) F listens_a listens_c listens) (h_hours : RowR 1 (slE 1 (iE .i64)) F hours_a hours_c hours) {r : Int} {r2 : Int} {r3 : Int} (hr : night_Most listens hours man = some (r, r2, r3)) :
    SpecV Try.prog 15 #[.agg #[.slice listens_a listens.length listens_c, .slice hours_a hours.length hours_c], .int .i64 man] F (.tuple #[.agg #[.int .i64 r, .int .i64 r2], .int .i64 r3]) := by
 refine spec_of_shW (args := [.agg #[.slice listens_a listens.length listens_c, .slice hours_a hours.length hours_c], .int .i64 man]) Try.func15 rfl Try.ntmps15 (Nat.le_of_ble_eq_true rfl) ?_
 intro K _ _; rw [night_Most] at hr
 refine wsr ?_
 refine o_box rfl rfl ?_; intro b1 hb1
 refine o_box rfl rfl ?_; intro b2 hb2
 refine o_alloc rfl Try.zeroValue36 ?_; intro b3 hb3
 refine oa rfl rfl (nsr ?_)
 refine ov (v_loadA (cs := #[.slice listens_a listens.length listens_c, .slice hours_a hours.length hours_c]) Try.isAgg26 Try.sizeOf26 rfl (Has.own 2 rfl) (Nat.le_of_ble_eq_true rfl) rfl) rfl ?_
 obtain ⟨d, n, h4, r5⟩ := b2_ok hr; clear hr
 refine o_call0 rfl Try.call58 rfl rfl rfl (night_opened_w h_listens h_hours h4) ?_; rintro _ F6 _ hF7 hn8 ⟨v10, Lb12, rfl, rfl, hp11⟩
 refine shO_L (lp (ln rfl)) ?_
 refine kO (kf (fS fO) (kf (fS fO) (kf (fS fO) kr))) ?_
 refine om rfl rfl (ox rfl rfl rfl (ox rfl rfl rfl ?_))
 refine o_alloc rfl Try.zeroValue105 ?_; intro b13 hb13
 refine o_store (i := 0) Try.sizeOf105 rfl rfl hp11.one rfl (Nat.le_of_ble_eq_true rfl) ?_
 refine shO_L (L' := (b13, .cells #[v10] 105 (0, 0)) :: ((b3, .cells #[.int .i64 0, .int .i64 0] 36 (0, 0)) :: ((b2, .cells #[.int .i64 man] 3 (0, 0)) :: ((b1, .cells #[.slice listens_a listens.length listens_c, .slice hours_a hours.length hours_c] 26 (0, 0)) :: (Lb12 ++ []))))) rfl ?_
 refine oa rfl rfl (shO_nil (shW_seq ?_))
 refine shW_block ?_
 refine wsr (om rfl rfl ?_)
 refine ov (v_neq rfl rfl) rfl ?_
 refine oa rfl rfl (shO_nil ?_)
 refine shW_condP rfl (fun c14 => ?_) (fun c14 => ?_)
 · have r15 := ite_t r5 c14; clear r5
   refine wsr ?_
   refine ov (v_build (v := .agg #[.int .i64 0, .int .i64 0]) rfl (by intro w; kernel_rfl)) rfl ?_
   refine om rfl rfl ?_
   refine o_storeA (i := 1) Try.sizeOf36 rfl rfl rfl (by simp [Value.oneCell']) rfl (Nat.le_of_ble_eq_true rfl) ?_
   refine shO_L (L' := (b13, .cells #[v10] 105 (0, 0)) :: ((b3, .cells #[.int .i64 0, .int .i64 0] 36 (0, 0)) :: ((b2, .cells #[.int .i64 man] 3 (0, 0)) :: ((b1, .cells #[.slice listens_a listens.length listens_c, .slice hours_a hours.length hours_c] 26 (0, 0)) :: (Lb12 ++ []))))) rfl ?_
   refine oa rfl rfl (shO_nil ?_)
   refine kW (kd (kc kn)) ?_
   refine shW_ret (inBlock_ret (andThen_ret ?_))
   refine q_res2 Try.results15 (res_cellA (cs := #[.int .i64 0, .int .i64 0]) Try.isAgg36 Try.sizeOf36 rfl (Has.own 0 rfl) (Nat.le_of_ble_eq_true rfl) rfl) (res_tmp rfl) (s1 sr) ?_
   obtain ⟨rfl, rfl, rfl⟩ := inj3 r15
   exact rfl
 have r16 := ite_f r5 c14; clear r5
 refine wsr ?_
 refine ov (v_load Try.isAgg3 rfl (Has.own 2 rfl) rfl) rfl ?_
 refine ov (v_fieldAddr fa_26_0 rfl) rfl ?_
 refine ov (v_load Try.isAgg23 rfl (Has.own 3 rfl) rfl) rfl ?_
 refine ov (v_lenS Try.underlying23 rfl) rfl ?_
 obtain ⟨g17, r18⟩ := gd_ok r16; clear r16
 refine ov (v_sub rfl rfl g17) rfl ?_
 obtain ⟨ok, h19, r20⟩ := b1_ok r18; clear r18
 refine o_callV rfl Try.call59 rfl rfl rfl (night_in_w h19) ?_
 refine ov (v_notB rfl) rfl ?_
 refine oa rfl rfl (shO_nil ?_)
 refine shW_cond rfl (fun c21 => ?_) (fun c21 => ?_)
 · have r22 := bt r20 c21; clear r20
   refine wsr ?_
   refine ov (v_build (v := .agg #[.int .i64 0, .int .i64 0]) rfl (by intro w; kernel_rfl)) rfl ?_
   refine o_storeA (i := 1) Try.sizeOf36 rfl rfl rfl (by simp [Value.oneCell']) rfl (Nat.le_of_ble_eq_true rfl) ?_
   refine shO_L (L' := (b13, .cells #[v10] 105 (0, 0)) :: ((b3, .cells #[.int .i64 0, .int .i64 0] 36 (0, 0)) :: ((b2, .cells #[.int .i64 man] 3 (0, 0)) :: ((b1, .cells #[.slice listens_a listens.length listens_c, .slice hours_a hours.length hours_c] 26 (0, 0)) :: (Lb12 ++ []))))) rfl ?_
   refine oa rfl rfl (shO_nil ?_)
   refine kW (kd (kc kn)) ?_
   refine shW_ret (inBlock_ret (andThen_ret ?_))
   refine q_res2 Try.results15 (res_cellA (cs := #[.int .i64 0, .int .i64 0]) Try.isAgg36 Try.sizeOf36 rfl (Has.own 0 rfl) (Nat.le_of_ble_eq_true rfl) rfl) (res_tmp rfl) (s1 sr) ?_
   obtain ⟨rfl, rfl, rfl⟩ := inj3 r22
   exact rfl
 have r23 := bf r20 c21; clear r20
 refine shW_seq ?_
 obtain ⟨listens2, hours2, cried, rows, h24, r25⟩ := b4_ok r23; clear r23
 have h31 := hp11; rw [h24] at h31; obtain ⟨b26, m27, a32, c33, a35, c36, b38, es39, cl40, a42, c43, hv28, hz29, h34, h37, hR41, h44, hL30⟩ := ob_139_of h31; subst hv28; subst hL30
 refine shW_L (L' := [(b13, .cells #[.pointer (some ⟨b26, 0, none⟩)] 105 (0, 0)), (b3, .cells #[.int .i64 0, .int .i64 0] 36 (0, 0)), (b2, .cells #[.int .i64 man] 3 (0, 0)), (b1, .cells #[.slice listens_a listens.length listens_c, .slice hours_a hours.length hours_c] 26 (0, 0)), (b38, .map es39 cl40)]) rfl ?_
 refine shW_region ?_
 refine ov (v_load Try.isAgg105 rfl (Has.own 0 rfl) rfl) rfl ?_
 obtain ⟨ok2, h45, r46⟩ := b1_ok r25; clear r25
 refine o_callV rfl Try.call60 rfl rfl rfl (night_desk_clash_w hz29 h34 h37 h44 h45) ?_
 refine oa rfl rfl (shO_nil ?_)
 refine shW_cond rfl (fun c47 => ?_) (fun c47 => ?_)
 · have r48 := bt r46 c47; clear r46
   refine wsr ?_
   refine ov (v_build (v := .agg #[.int .i64 0, .int .i64 0]) rfl (by intro w; kernel_rfl)) rfl ?_
   refine o_storeA (i := 1) Try.sizeOf36 rfl rfl rfl (by simp [Value.oneCell']) rfl (Nat.le_of_ble_eq_true rfl) ?_
   refine shO_L (L' := [(b13, .cells #[.pointer (some ⟨b26, 0, none⟩)] 105 (0, 0)), (b3, .cells #[.int .i64 0, .int .i64 0] 36 (0, 0)), (b2, .cells #[.int .i64 man] 3 (0, 0)), (b1, .cells #[.slice listens_a listens.length listens_c, .slice hours_a hours.length hours_c] 26 (0, 0)), (b38, .map es39 cl40)]) rfl ?_
   refine oa rfl rfl (shO_nil ?_)
   refine kW (kd (kc kn)) ?_
   refine shW_ret (inBlock_ret (andThen_ret ?_))
   refine q_res2 Try.results15 (res_cellA (cs := #[.int .i64 0, .int .i64 0]) Try.isAgg36 Try.sizeOf36 rfl (Has.own 0 rfl) (Nat.le_of_ble_eq_true rfl) rfl) (res_tmp rfl) (s1 sr) ?_
   obtain ⟨rfl, rfl, rfl⟩ := inj3 r48
   exact rfl
 have r49 := bf r46 c47; clear r46
 refine shW_skip (inBlock_n (id := 0) (wsr ?_))
 refine ov (v_load Try.isAgg105 rfl (Has.own 0 rfl) rfl) rfl ?_
 obtain ⟨l, h50, r51⟩ := b1_ok r49; clear r49
 refine o_call0 rfl Try.call61 rfl rfl rfl (night_desk_table_w hz29 h34 h37 h44 h50) ?_; rintro _ F52 _ hF53 hn54 ⟨a56, n60, c57, Lb58, rfl, rfl, hz59⟩
 replace h34 := h34.mono (slE_ok (iE_ok _)) hF53
 replace h37 := h37.mono (slE_ok (iE_ok _)) hF53
 replace h44 := h44.mono (arE_ok (n := 64) (sz := 1) cB_ok) hF53
 replace hz29 := hF53 _ _ hz29
 replace hz59 := hz59.new fun p hp => hn54 p (by simp [hp])
 refine shO_L (lp (ln rfl)) ?_
 refine kO (kf (fS fO) (kf (fS fO) (kf (fS fO) (kf (fS fO) (kf (fS fO) kr))))) ?_
 refine o_alloc rfl Try.zeroValue23 ?_; intro b62 hb62
 refine o_store (i := 0) Try.sizeOf23 rfl rfl rfl rfl (Nat.le_of_ble_eq_true rfl) ?_
 refine shO_L (L' := (b62, .cells #[.slice a56 n60 c57] 23 (0, 0)) :: ((b13, .cells #[.pointer (some ⟨b26, 0, none⟩)] 105 (0, 0)) :: ((b3, .cells #[.int .i64 0, .int .i64 0] 36 (0, 0)) :: ((b2, .cells #[.int .i64 man] 3 (0, 0)) :: ((b1, .cells #[.slice listens_a listens.length listens_c, .slice hours_a hours.length hours_c] 26 (0, 0)) :: ((b38, .map es39 cl40) :: (Lb58 ++ []))))))) rfl ?_
 refine nsr ?_
 refine o_alloc rfl Try.zeroValue116 ?_; intro b63 hb63
 refine shO_L (L' := (b63, .cells (arr (cI .i64) (List.replicate 64 0)) 116 (0, 0)) :: ((b62, .cells #[.slice a56 n60 c57] 23 (0, 0)) :: ((b13, .cells #[.pointer (some ⟨b26, 0, none⟩)] 105 (0, 0)) :: ((b3, .cells #[.int .i64 0, .int .i64 0] 36 (0, 0)) :: ((b2, .cells #[.int .i64 man] 3 (0, 0)) :: ((b1, .cells #[.slice listens_a listens.length listens_c, .slice hours_a hours.length hours_c] 26 (0, 0)) :: ((b38, .map es39 cl40) :: (Lb58 ++ [])))))))) rfl ?_
 refine o_alloc rfl Try.zeroValue116 ?_; intro b64 hb64
 refine shO_L (L' := (b64, .cells (arr (cI .i64) (List.replicate 64 0)) 116 (0, 0)) :: ((b63, .cells (arr (cI .i64) (List.replicate 64 0)) 116 (0, 0)) :: ((b62, .cells #[.slice a56 n60 c57] 23 (0, 0)) :: ((b13, .cells #[.pointer (some ⟨b26, 0, none⟩)] 105 (0, 0)) :: ((b3, .cells #[.int .i64 0, .int .i64 0] 36 (0, 0)) :: ((b2, .cells #[.int .i64 man] 3 (0, 0)) :: ((b1, .cells #[.slice listens_a listens.length listens_c, .slice hours_a hours.length hours_c] 26 (0, 0)) :: ((b38, .map es39 cl40) :: (Lb58 ++ []))))))))) rfl ?_
 refine shO_nil ?_
 obtain ⟨lo, hi, h67, r68⟩ := b2_ok r51; clear r51
 refine shW_join (fun e1 F1 L1 => FExt F52 F1 ∧ L1 = ((b64, .cells (arr (cI .i64) hi) 116 (0, 0)) :: ((b63, .cells (arr (cI .i64) lo) 116 (0, 0)) :: ((b62, .cells #[.slice a56 n60 c57] 23 (0, 0)) :: ((b13, .cells #[.pointer (some ⟨b26, 0, none⟩)] 105 (0, 0)) :: ((b3, .cells #[.int .i64 0, .int .i64 0] 36 (0, 0)) :: ((b38, .map es39 cl40) :: (Lb58 ++ []))))))) ∧ e1.sub [(4, .pointer (some ⟨b3, 0, none⟩)), (6, .pointer (some ⟨b13, 0, none⟩)), (8, .pointer (some ⟨b62, 0, none⟩)), (9, .pointer (some ⟨b63, 0, none⟩)), (10, .pointer (some ⟨b64, 0, none⟩))] ∧ lo.length = 64 ∧ hi.length = 64) ?_ ?_
 · clear r68
   refine wsr ?_
   refine ov (v_fieldAddr fa_26_1 rfl) rfl ?_
   refine ov (v_load Try.isAgg24 rfl (Has.own 6 rfl) rfl) rfl ?_
   refine ov (v_lenS Try.underlying24 rfl) rfl ?_
   refine om rfl rfl (shO_nil ?_)
   refine shW_block ?_
   refine kW (kc (kc (kc (kc (kc (kc (kd kr))))))) ?_
   obtain ⟨g71, r72⟩ := gd_ok h67; clear h67
   refine shW_lp (fun fu1 e1 F1 L1 => ∃ (k : Int), Ctr 0 (hours.length : Int) k fu1 ∧ ∃ (lo2 : List Int) (hi2 : List Int), night_Most_l1 man listens2 hours2 rows l fu1 k lo2 hi2 = some (lo, hi) ∧ FExt F52 F1 ∧ L1 = ((b64, .cells (arr (cI .i64) hi2) 116 (0, 0)) :: ((b63, .cells (arr (cI .i64) lo2) 116 (0, 0)) :: ((b62, .cells #[.slice a56 n60 c57] 23 (0, 0)) :: ((b13, .cells #[.pointer (some ⟨b26, 0, none⟩)] 105 (0, 0)) :: ((b3, .cells #[.int .i64 0, .int .i64 0] 36 (0, 0)) :: ((b2, .cells #[.int .i64 man] 3 (0, 0)) :: ((b38, .map es39 cl40) :: (Lb58 ++ [])))))))) ∧ e1.sub [(3, .pointer (some ⟨b2, 0, none⟩)), (4, .pointer (some ⟨b3, 0, none⟩)), (6, .pointer (some ⟨b13, 0, none⟩)), (8, .pointer (some ⟨b62, 0, none⟩)), (9, .pointer (some ⟨b63, 0, none⟩)), (10, .pointer (some ⟨b64, 0, none⟩)), (48, .int .i64 (hours.length : Int)), (49, .int .i64 k)] ∧ lo2.length = 64 ∧ hi2.length = 64) _ (m0 kr ⟨_, Ctr.start _ _, List.replicate 64 0, List.replicate 64 0, r72, FExt.refl _, rfl, (sc rfl (sc rfl (sc rfl (sc rfl (sc rfl (sc rfl (sc rfl (sc rfl (sn _))))))))), List.length_replicate, List.length_replicate⟩) ?_
   rintro fu1 e1 F77 _ ⟨k, hk73, lo2, hi2, r75, hF78, rfl, he76, h69, h70⟩
   refine shW_env _ he76 ?_; clear he76
   replace h34 := h34.mono (slE_ok (iE_ok _)) hF78
   replace h37 := h37.mono (slE_ok (iE_ok _)) hF78
   replace h44 := h44.mono (arE_ok (n := 64) (sz := 1) cB_ok) hF78
   replace hz59 := hz59.mono (slE_ok (iE_ok _)) hF78
   replace hz29 := hF78 _ _ hz29
   refine wsr ?_
   refine ov (v_lssK rfl rfl) rfl ?_
   refine shO_nil (shW_seq ?_)
   refine shW_condP rfl (fun c80 => ?_) (fun c80 => ?_)
   · obtain ⟨fu1, rfl, hk81⟩ := Ctr.succ hk73 c80
     rw [night_Most_l1] at r75
     refine shW_skip ?_
     obtain ⟨lo3, hi3, h84, r85⟩ := b2_ok r75; clear r75
     refine shW_join (fun e1 F1 L1 => FExt F77 F1 ∧ L1 = ((b64, .cells (arr (cI .i64) hi3) 116 (0, 0)) :: ((b63, .cells (arr (cI .i64) lo3) 116 (0, 0)) :: ((b62, .cells #[.slice a56 n60 c57] 23 (0, 0)) :: ((b13, .cells #[.pointer (some ⟨b26, 0, none⟩)] 105 (0, 0)) :: ((b3, .cells #[.int .i64 0, .int .i64 0] 36 (0, 0)) :: ((b2, .cells #[.int .i64 man] 3 (0, 0)) :: ((b38, .map es39 cl40) :: (Lb58 ++ [])))))))) ∧ e1.sub [(3, .pointer (some ⟨b2, 0, none⟩)), (4, .pointer (some ⟨b3, 0, none⟩)), (6, .pointer (some ⟨b13, 0, none⟩)), (8, .pointer (some ⟨b62, 0, none⟩)), (9, .pointer (some ⟨b63, 0, none⟩)), (10, .pointer (some ⟨b64, 0, none⟩)), (48, .int .i64 (hours.length : Int)), (49, .int .i64 k)] ∧ lo3.length = 64 ∧ hi3.length = 64) ?_ ?_
     · clear r85
       refine shW_block ?_
       refine wsr (om rfl rfl ?_)
       refine o_alloc rfl Try.zeroValue3 ?_; intro b86 hb86
       refine o_store (i := 0) Try.sizeOf3 rfl rfl rfl rfl (Nat.le_of_ble_eq_true rfl) ?_
       refine shO_L (L' := (b86, .cells #[.int .i64 k] 3 (0, 0)) :: ((b64, .cells (arr (cI .i64) hi2) 116 (0, 0)) :: ((b63, .cells (arr (cI .i64) lo2) 116 (0, 0)) :: ((b62, .cells #[.slice a56 n60 c57] 23 (0, 0)) :: ((b13, .cells #[.pointer (some ⟨b26, 0, none⟩)] 105 (0, 0)) :: ((b3, .cells #[.int .i64 0, .int .i64 0] 36 (0, 0)) :: ((b2, .cells #[.int .i64 man] 3 (0, 0)) :: ((b38, .map es39 cl40) :: (Lb58 ++ []))))))))) rfl ?_
       refine nsr ?_
       refine o_alloc rfl Try.zeroValue116 ?_; intro b87 hb87
       refine shO_L (L' := (b87, .cells (arr (cI .i64) (List.replicate 64 0)) 116 (0, 0)) :: ((b86, .cells #[.int .i64 k] 3 (0, 0)) :: ((b64, .cells (arr (cI .i64) hi2) 116 (0, 0)) :: ((b63, .cells (arr (cI .i64) lo2) 116 (0, 0)) :: ((b62, .cells #[.slice a56 n60 c57] 23 (0, 0)) :: ((b13, .cells #[.pointer (some ⟨b26, 0, none⟩)] 105 (0, 0)) :: ((b3, .cells #[.int .i64 0, .int .i64 0] 36 (0, 0)) :: ((b2, .cells #[.int .i64 man] 3 (0, 0)) :: ((b38, .map es39 cl40) :: (Lb58 ++ [])))))))))) rfl ?_
       refine o_alloc rfl Try.zeroValue116 ?_; intro b88 hb88
       refine shO_L (L' := (b88, .cells (arr (cI .i64) (List.replicate 64 0)) 116 (0, 0)) :: ((b87, .cells (arr (cI .i64) (List.replicate 64 0)) 116 (0, 0)) :: ((b86, .cells #[.int .i64 k] 3 (0, 0)) :: ((b64, .cells (arr (cI .i64) hi2) 116 (0, 0)) :: ((b63, .cells (arr (cI .i64) lo2) 116 (0, 0)) :: ((b62, .cells #[.slice a56 n60 c57] 23 (0, 0)) :: ((b13, .cells #[.pointer (some ⟨b26, 0, none⟩)] 105 (0, 0)) :: ((b3, .cells #[.int .i64 0, .int .i64 0] 36 (0, 0)) :: ((b2, .cells #[.int .i64 man] 3 (0, 0)) :: ((b38, .map es39 cl40) :: (Lb58 ++ []))))))))))) rfl ?_
       refine shO_nil ?_
       obtain ⟨low, high, h91, r92⟩ := b2_ok h84; clear h84
       refine shW_join (fun e1 F1 L1 => FExt F77 F1 ∧ L1 = ((b88, .cells (arr (cI .i64) high) 116 (0, 0)) :: ((b87, .cells (arr (cI .i64) low) 116 (0, 0)) :: ((b64, .cells (arr (cI .i64) hi2) 116 (0, 0)) :: ((b63, .cells (arr (cI .i64) lo2) 116 (0, 0)) :: ((b62, .cells #[.slice a56 n60 c57] 23 (0, 0)) :: ((b13, .cells #[.pointer (some ⟨b26, 0, none⟩)] 105 (0, 0)) :: ((b3, .cells #[.int .i64 0, .int .i64 0] 36 (0, 0)) :: ((b2, .cells #[.int .i64 man] 3 (0, 0)) :: ((b38, .map es39 cl40) :: (Lb58 ++ [])))))))))) ∧ e1.sub [(3, .pointer (some ⟨b2, 0, none⟩)), (4, .pointer (some ⟨b3, 0, none⟩)), (6, .pointer (some ⟨b13, 0, none⟩)), (8, .pointer (some ⟨b62, 0, none⟩)), (9, .pointer (some ⟨b63, 0, none⟩)), (10, .pointer (some ⟨b64, 0, none⟩)), (12, .pointer (some ⟨b87, 0, none⟩)), (13, .pointer (some ⟨b88, 0, none⟩)), (48, .int .i64 (hours.length : Int)), (49, .int .i64 k)] ∧ low.length = 64 ∧ high.length = 64) ?_ ?_
       · clear r92
         refine wsr ?_
         refine ov (v_load Try.isAgg105 rfl (Has.own 6 rfl) rfl) rfl ?_
         refine ov (v_load Try.isAgg3 rfl (Has.own 2 rfl) rfl) rfl ?_
         obtain ⟨y, h93, r94⟩ := b1_ok h91; clear h91
         refine o_call0 rfl Try.call62 rfl rfl rfl (night_desk_fit_w hz29 h34 h37 h44 h93) ?_; rintro _ F95 _ hF96 hn97 ⟨cp99, rfl, rfl, hit100⟩
         replace h34 := h34.mono (slE_ok (iE_ok _)) hF96
         replace h37 := h37.mono (slE_ok (iE_ok _)) hF96
         replace h44 := h44.mono (arE_ok (n := 64) (sz := 1) cB_ok) hF96
         replace hz59 := hz59.mono (slE_ok (iE_ok _)) hF96
         replace hz29 := hF96 _ _ hz29
         refine shO_L (ln rfl) ?_
         refine shO_nil ?_
         refine shW_block ?_
         refine shW_rangeFunc (encs := (fun x : Int => #[.int .i64 x])) (xs := y) rfl Try.call102 rfl (fun _ => rfl) hit100 (fun pre F1 L1 => ∃ (tl : List Int) (low2 : List Int) (high2 : List Int), y = pre ++ tl ∧ night_Most_l2 man listens2 hours2 rows l lo2 hi2 k tl low2 high2 = some (low, high) ∧ L1 = ((b88, .cells (arr (cI .i64) high2) 116 (0, 0)) :: ((b87, .cells (arr (cI .i64) low2) 116 (0, 0)) :: ((b86, .cells #[.int .i64 k] 3 (0, 0)) :: ((b64, .cells (arr (cI .i64) hi2) 116 (0, 0)) :: ((b63, .cells (arr (cI .i64) lo2) 116 (0, 0)) :: ((b62, .cells #[.slice a56 n60 c57] 23 (0, 0)) :: ((b13, .cells #[.pointer (some ⟨b26, 0, none⟩)] 105 (0, 0)) :: ((b3, .cells #[.int .i64 0, .int .i64 0] 36 (0, 0)) :: ((b2, .cells #[.int .i64 man] 3 (0, 0)) :: ((b38, .map es39 cl40) :: (Lb58 ++ []))))))))))) ∧ low2.length = 64 ∧ high2.length = 64) (fun _ _ _ => False) ?_ ?_ ?_ ?_ ?_ ?_
         · rintro pre F1 F2 L1 ⟨tl, low2, high2, hs103, r104, rfl, h101, h102⟩ hx; exact ⟨tl, low2, high2, hs103, r104, rfl, h101, h102⟩
         · intro c F1 F2 L1 h hx; exact h
         · exact ⟨_, List.replicate 64 0, List.replicate 64 0, rfl, r94, rfl, List.length_replicate, List.length_replicate⟩
         · rintro l105 wr106 Fr107 Xr108 Ha109 Hb110 hnb111 hH115 pre x tl2 hxs114 F112 _ hF113 ⟨tl, low2, high2, hs103, r116, rfl, h101, h102⟩
           obtain rfl := rest_head hs103 hxs114
           rw [night_Most_l2] at r116
           replace h34 := h34.mono (slE_ok (iE_ok _)) hF113
           replace h37 := h37.mono (slE_ok (iE_ok _)) hF113
           replace h44 := h44.mono (arE_ok (n := 64) (sz := 1) cB_ok) hF113
           replace hz59 := hz59.mono (slE_ok (iE_ok _)) hF113
           replace hz29 := hF113 _ _ hz29
           refine shW_env [(3, .pointer (some ⟨b2, 0, none⟩)), (4, .pointer (some ⟨b3, 0, none⟩)), (6, .pointer (some ⟨b13, 0, none⟩)), (8, .pointer (some ⟨b62, 0, none⟩)), (9, .pointer (some ⟨b63, 0, none⟩)), (10, .pointer (some ⟨b64, 0, none⟩)), (11, .pointer (some ⟨b86, 0, none⟩)), (12, .pointer (some ⟨b87, 0, none⟩)), (13, .pointer (some ⟨b88, 0, none⟩)), (48, .int .i64 (hours.length : Int)), (49, .int .i64 k), (55, .int .i64 x)] (by exact (sc rfl (sc rfl (sc rfl (sc rfl (sc rfl (sc rfl (sc rfl (sc rfl (sc rfl (sc rfl (sc rfl (sc rfl (sn _)))))))))))))) ?_
           refine shW_region ?_
           refine o_alloc rfl Try.zeroValue3 ?_; intro b117 hb117
           refine o_store (i := 0) Try.sizeOf3 rfl rfl rfl rfl (Nat.le_of_ble_eq_true rfl) ?_
           refine shO_L (L' := (b117, .cells #[.int .i64 x] 3 (0, 0)) :: ((b88, .cells (arr (cI .i64) high2) 116 (0, 0)) :: ((b87, .cells (arr (cI .i64) low2) 116 (0, 0)) :: ((b86, .cells #[.int .i64 k] 3 (0, 0)) :: ((b64, .cells (arr (cI .i64) hi2) 116 (0, 0)) :: ((b63, .cells (arr (cI .i64) lo2) 116 (0, 0)) :: ((b62, .cells #[.slice a56 n60 c57] 23 (0, 0)) :: ((b13, .cells #[.pointer (some ⟨b26, 0, none⟩)] 105 (0, 0)) :: ((b3, .cells #[.int .i64 0, .int .i64 0] 36 (0, 0)) :: ((b2, .cells #[.int .i64 man] 3 (0, 0)) :: ((b38, .map es39 cl40) :: (Lb58 ++ [])))))))))))) rfl ?_
           refine shO_nil ?_
           refine ⟨rfl, ?_⟩
           refine shW_block ?_
           refine shW_seq (wsr ?_)
           refine ov (v_load Try.isAgg3 rfl (Has.own 3 rfl) rfl) rfl ?_
           refine ov (v_eql rfl rfl) rfl ?_
           refine shO_nil ?_
           refine shW_condP rfl (fun c118 => ?_) (fun c118 => ?_)
           · have r119 := ite_t r116 c118; clear r116
             refine shW_seq ?_
             refine shW_drawM [(.still, 0), (.still, 1), (.still, 2), (.still, 3), (.still, 4), (.still, 5), (.seq, 6)] (by kernel_rfl) (by kernel_rfl) (trivial) (by rfl) (by kernel_rfl) ?_
             refine shM_v (v := .int .i64 x) (ek := [(14, .pointer (some ⟨b117, 0, none⟩))]) (Ls := [(b117, .cells #[.int .i64 x] 3 (0, 0))]) rfl rfl rfl rfl ((sc rfl (sn _))) (by kernel_rfl) (s0 (s2 (s1 (s1 (s1 (s1 (s1 (s1 (s1 (s1 (s1 (s1 (s3 sr))))))))))))) (fun H F' L' hF' hL' => v_load Try.isAgg3 rfl ((Has.own 0 rfl).ext hF' hL') rfl) ?_
             refine shM_v (v := .int .i64 x) (ek := [(14, .pointer (some ⟨b117, 0, none⟩))]) (Ls := [(b117, .cells #[.int .i64 x] 3 (0, 0))]) rfl rfl rfl rfl ((sc rfl (sn _))) (by kernel_rfl) (s0 (s2 (s1 (s1 (s1 (s1 (s1 (s1 (s1 (s1 (s1 (s1 (s3 sr))))))))))))) (fun H F' L' hF' hL' => v_load Try.isAgg3 rfl ((Has.own 0 rfl).ext hF' hL') rfl) ?_
             refine shM_v (v := .int .i64 man) (ek := [(3, .pointer (some ⟨b2, 0, none⟩))]) (Ls := [(b2, .cells #[.int .i64 man] 3 (0, 0))]) rfl rfl rfl rfl ((sc rfl (sn _))) (by kernel_rfl) (s0 (s1 (s1 (s1 (s1 (s1 (s1 (s1 (s1 (s1 (s2 (s1 (s3 sr))))))))))))) (fun H F' L' hF' hL' => v_load Try.isAgg3 rfl ((Has.own 0 rfl).ext hF' hL') rfl) ?_
             obtain ⟨g120, r121⟩ := gd_ok r119; clear r119
             refine shM_v (v := .int .i64 (shr x man)) (ek := [(59, .int .i64 x), (60, .int .i64 man)]) (Ls := []) rfl rfl rfl rfl ((sc rfl (sc rfl (sn _)))) (by kernel_rfl) sm (fun H F' L' hF' hL' => v_shr rfl rfl g120) ?_
             refine shM_v (v := .int .i64 (band (shr x man) 1)) (ek := [(61, .int .i64 (shr x man))]) (Ls := []) rfl rfl rfl rfl ((sc rfl (sn _))) (by kernel_rfl) sm (fun H F' L' hF' hL' => v_and rfl rfl) ?_
             obtain ⟨x2, g122, hx123, r124⟩ := ix_ok r121; clear r121
             refine shM_v (v := .pointer (some ⟨b87, 0 + (x : Int).toNat * 1, none⟩)) (ek := [(12, .pointer (some ⟨b87, 0, none⟩)), (58, .int .i64 x)]) (Ls := []) rfl rfl rfl rfl ((sc rfl (sc rfl (sn _)))) (by kernel_rfl) sm (fun H F' L' hF' hL' => v_indexA Try.underlying116 Try.sizeOf3 rfl rfl (arr_lt h101 g122)) ?_
             refine ⟨_, [(62, .int .i64 (band (shr x man) 1)), (63, .pointer (some ⟨b87, 0 + (x : Int).toNat * 1, none⟩))], rfl, rfl, (sc rfl (sc rfl (sn _))), by kernel_rfl, ?_⟩; intro H
             obtain ⟨l2, h126, r127⟩ := bv_ok r124; clear r124
             have h128 : l2.length = 64 := by rw [h126, List.length_set]; exact h101
             refine o_storeArr (i := 2) Try.sizeOf3 (cI_ok .i64) rfl rfl rfl rfl (arr_lt h101 g122) h101 ?_
             refine shO_L (L' := (b117, .cells #[.int .i64 x] 3 (0, 0)) :: ((b88, .cells (arr (cI .i64) high2) 116 (0, 0)) :: ((b87, .cells (arr (cI .i64) l2) 116 (0, 0)) :: ((b86, .cells #[.int .i64 k] 3 (0, 0)) :: ((b64, .cells (arr (cI .i64) hi2) 116 (0, 0)) :: ((b63, .cells (arr (cI .i64) lo2) 116 (0, 0)) :: ((b62, .cells #[.slice a56 n60 c57] 23 (0, 0)) :: ((b13, .cells #[.pointer (some ⟨b26, 0, none⟩)] 105 (0, 0)) :: ((b3, .cells #[.int .i64 0, .int .i64 0] 36 (0, 0)) :: ((b2, .cells #[.int .i64 man] 3 (0, 0)) :: ((b38, .map es39 cl40) :: (Lb58 ++ [])))))))))))) (by rw [h126]; rfl) ?_
             refine shO_nil ⟨undef, rfl, FExt.refl _, [], by kernel_rfl, .inl (.inl rfl), (fun _ h => absurd h List.not_mem_nil), ?_⟩
             refine shM_nil ?_
             refine shW_seq ?_
             refine shW_drawM [(.still, 0), (.still, 1), (.still, 2), (.still, 3), (.still, 4), (.seq, 5)] (by kernel_rfl) (by kernel_rfl) (trivial) (by rfl) (by kernel_rfl) ?_
             refine shM_v (v := .int .i64 x) (ek := [(14, .pointer (some ⟨b117, 0, none⟩))]) (Ls := [(b117, .cells #[.int .i64 x] 3 (0, 0))]) rfl rfl rfl rfl ((sc rfl (sn _))) (by kernel_rfl) (s0 (s2 (s1 (s1 (s1 (s1 (s1 (s1 (s1 (s1 (s1 (s1 (s3 sr))))))))))))) (fun H F' L' hF' hL' => v_load Try.isAgg3 rfl ((Has.own 0 rfl).ext hF' hL') rfl) ?_
             refine shM_v (v := .int .i64 x) (ek := [(14, .pointer (some ⟨b117, 0, none⟩))]) (Ls := [(b117, .cells #[.int .i64 x] 3 (0, 0))]) rfl rfl rfl rfl ((sc rfl (sn _))) (by kernel_rfl) (s0 (s2 (s1 (s1 (s1 (s1 (s1 (s1 (s1 (s1 (s1 (s1 (s3 sr))))))))))))) (fun H F' L' hF' hL' => v_load Try.isAgg3 rfl ((Has.own 0 rfl).ext hF' hL') rfl) ?_
             obtain ⟨x3, g129, hx130, r131⟩ := ix_ok r127; clear r127
             have hc132 := arr_at (cI_ok .i64) h128 hx130
             refine shM_v (v := .pointer (some ⟨b87, 0 + (x : Int).toNat * 1, none⟩)) (ek := [(12, .pointer (some ⟨b87, 0, none⟩)), (65, .int .i64 x)]) (Ls := []) rfl rfl rfl rfl ((sc rfl (sc rfl (sn _)))) (by kernel_rfl) sm (fun H F' L' hF' hL' => v_indexA Try.underlying116 Try.sizeOf3 rfl rfl (arr_lt h128 g129)) ?_
             refine shM_v (v := .int .i64 x3) (ek := [(66, .pointer (some ⟨b87, 0 + (x : Int).toNat * 1, none⟩))]) (Ls := [(b87, .cells (arr (cI .i64) l2) 116 (0, 0))]) rfl rfl rfl rfl ((sc rfl (sn _))) (by kernel_rfl) (s0 (s1 (s1 (s2 (s1 (s1 (s1 (s1 (s1 (s1 (s1 (s1 (s3 sr))))))))))))) (fun H F' L' hF' hL' => v_load Try.isAgg3 rfl ((Has.own 0 rfl).ext hF' hL') ((hc132).2.2 0 (by decide))) ?_
             obtain ⟨x4, g133, hx134, r135⟩ := ix_ok r131; clear r131
             refine shM_v (v := .pointer (some ⟨b88, 0 + (x : Int).toNat * 1, none⟩)) (ek := [(13, .pointer (some ⟨b88, 0, none⟩)), (64, .int .i64 x)]) (Ls := []) rfl rfl rfl rfl ((sc rfl (sc rfl (sn _)))) (by kernel_rfl) sm (fun H F' L' hF' hL' => v_indexA Try.underlying116 Try.sizeOf3 rfl rfl (arr_lt h102 g133)) ?_
             refine ⟨_, [(67, .int .i64 x3), (68, .pointer (some ⟨b88, 0 + (x : Int).toNat * 1, none⟩))], rfl, rfl, (sc rfl (sc rfl (sn _))), by kernel_rfl, ?_⟩; intro H
             obtain ⟨l3, h137, r138⟩ := bv_ok r135; clear r135
             have h139 : l3.length = 64 := by rw [h137, List.length_set]; exact h102
             refine o_storeArr (i := 1) Try.sizeOf3 (cI_ok .i64) rfl rfl rfl rfl (arr_lt h102 g133) h102 ?_
             refine shO_L (L' := (b117, .cells #[.int .i64 x] 3 (0, 0)) :: ((b88, .cells (arr (cI .i64) l3) 116 (0, 0)) :: ((b87, .cells (arr (cI .i64) l2) 116 (0, 0)) :: ((b86, .cells #[.int .i64 k] 3 (0, 0)) :: ((b64, .cells (arr (cI .i64) hi2) 116 (0, 0)) :: ((b63, .cells (arr (cI .i64) lo2) 116 (0, 0)) :: ((b62, .cells #[.slice a56 n60 c57] 23 (0, 0)) :: ((b13, .cells #[.pointer (some ⟨b26, 0, none⟩)] 105 (0, 0)) :: ((b3, .cells #[.int .i64 0, .int .i64 0] 36 (0, 0)) :: ((b2, .cells #[.int .i64 man] 3 (0, 0)) :: ((b38, .map es39 cl40) :: (Lb58 ++ [])))))))))))) (by rw [h137]; rfl) ?_
             refine shO_nil ⟨undef, rfl, FExt.refl _, [], by kernel_rfl, .inl (.inl rfl), (fun _ h => absurd h List.not_mem_nil), ?_⟩
             refine shM_nil ?_
             refine shW_exit (andThen_exit ?_)
             refine inBlock_exit ?_
             refine ⟨(b88, .cells (arr (cI .i64) l3) 116 (0, 0)) :: ((b87, .cells (arr (cI .i64) l2) 116 (0, 0)) :: ((b86, .cells #[.int .i64 k] 3 (0, 0)) :: ((b64, .cells (arr (cI .i64) hi2) 116 (0, 0)) :: ((b63, .cells (arr (cI .i64) lo2) 116 (0, 0)) :: ((b62, .cells #[.slice a56 n60 c57] 23 (0, 0)) :: ((b13, .cells #[.pointer (some ⟨b26, 0, none⟩)] 105 (0, 0)) :: ((b3, .cells #[.int .i64 0, .int .i64 0] 36 (0, 0)) :: ((b2, .cells #[.int .i64 man] 3 (0, 0)) :: ((b38, .map es39 cl40) :: (Lb58 ++ [])))))))))), s1 (s2 (s2 (s2 (s2 (s2 (s2 (s2 (s2 (s2 (s2 (s4 sr))))))))))), ?_⟩; exact ⟨_, l2, l3, (by rw [hxs114]; simp), r138, rfl, h128, h139⟩
           have r140 := ite_f r116 c118; clear r116
           refine shW_skip (wsr ?_)
           refine ov (v_load Try.isAgg3 rfl (Has.own 0 rfl) rfl) rfl ?_
           obtain ⟨x5, g141, hx142, r143⟩ := ix_ok r140; clear r140
           refine ov (v_indexA Try.underlying116 Try.sizeOf3 rfl rfl (arr_lt h101 g141)) rfl ?_
           obtain ⟨low3, h145, r146⟩ := bv_ok r143; clear r143
           have h147 : low3.length = 64 := by rw [h145, List.length_set]; exact h101
           refine o_storeArr (i := 2) Try.sizeOf3 (cI_ok .i64) rfl rfl rfl rfl (arr_lt h101 g141) h101 ?_
           refine shO_L (L' := (b117, .cells #[.int .i64 x] 3 (0, 0)) :: ((b88, .cells (arr (cI .i64) high2) 116 (0, 0)) :: ((b87, .cells (arr (cI .i64) low3) 116 (0, 0)) :: ((b86, .cells #[.int .i64 k] 3 (0, 0)) :: ((b64, .cells (arr (cI .i64) hi2) 116 (0, 0)) :: ((b63, .cells (arr (cI .i64) lo2) 116 (0, 0)) :: ((b62, .cells #[.slice a56 n60 c57] 23 (0, 0)) :: ((b13, .cells #[.pointer (some ⟨b26, 0, none⟩)] 105 (0, 0)) :: ((b3, .cells #[.int .i64 0, .int .i64 0] 36 (0, 0)) :: ((b2, .cells #[.int .i64 man] 3 (0, 0)) :: ((b38, .map es39 cl40) :: (Lb58 ++ [])))))))))))) (by rw [h145]; rfl) ?_
           refine nsr ?_
           refine ov (v_load Try.isAgg105 rfl (Has.own 7 rfl) rfl) rfl ?_
           refine ov (v_load Try.isAgg3 rfl (Has.own 3 rfl) rfl) rfl ?_
           obtain ⟨g148, r149⟩ := gd_ok r146; clear r146
           refine ov (v_sub rfl rfl g148) rfl ?_
           obtain ⟨y2, h150, r151⟩ := b1_ok r149; clear r149
           refine o_call0 rfl Try.call62 rfl rfl rfl (night_desk_fit_w hz29 h34 h37 h44 h150) ?_; rintro _ F152 _ hF153 hn154 ⟨cp156, rfl, rfl, hit157⟩
           replace hz59 := hz59.mono (slE_ok (iE_ok _)) hF153
           refine shO_L (ln rfl) ?_
           refine shO_nil ?_
           refine shW_block ?_
           refine shW_rangeFuncIn hH115 (encs := (fun x : Int => #[.int .i64 x])) (xs := y2) rfl Try.call102 rfl (fun _ => rfl) hit157 (fun pre F1 L1 => ∃ (tl3 : List Int) (low4 : List Int) (high3 : List Int), y2 = pre ++ tl3 ∧ night_Most_l3 man l lo2 hi2 k x (night_Most_l2 man listens2 hours2 rows l lo2 hi2 k tl2) tl3 low4 high3 = some (low, high) ∧ L1 = ((b117, .cells #[.int .i64 x] 3 (0, 0)) :: ((b88, .cells (arr (cI .i64) high3) 116 (0, 0)) :: ((b87, .cells (arr (cI .i64) low4) 116 (0, 0)) :: ((b86, .cells #[.int .i64 k] 3 (0, 0)) :: ((b64, .cells (arr (cI .i64) hi2) 116 (0, 0)) :: ((b63, .cells (arr (cI .i64) lo2) 116 (0, 0)) :: ((b62, .cells #[.slice a56 n60 c57] 23 (0, 0)) :: ((b13, .cells #[.pointer (some ⟨b26, 0, none⟩)] 105 (0, 0)) :: ((b3, .cells #[.int .i64 0, .int .i64 0] 36 (0, 0)) :: ((b2, .cells #[.int .i64 man] 3 (0, 0)) :: ((b38, .map es39 cl40) :: (Lb58 ++ [])))))))))))) ∧ low4.length = 64 ∧ high3.length = 64) (fun _ _ _ => False) ?_ ?_ ?_ ?_ ?_ ?_
           · rintro pre F1 F2 L1 ⟨tl3, low4, high3, hs160, r161, rfl, h158, h159⟩ hx; exact ⟨tl3, low4, high3, hs160, r161, rfl, h158, h159⟩
           · intro c F1 F2 L1 h hx; exact h
           · exact ⟨_, low3, high2, rfl, r151, rfl, h147, h102⟩
           · rintro l162 wr163 Fr164 Xr165 Ha166 Hb167 hnb168 hH172 pre x6 tl4 hxs171 F169 _ hF170 ⟨tl3, low4, high3, hs160, r173, rfl, h158, h159⟩
             obtain rfl := rest_head hs160 hxs171
             rw [night_Most_l3] at r173
             replace hz59 := hz59.mono (slE_ok (iE_ok _)) hF170
             refine shW_env [(3, .pointer (some ⟨b2, 0, none⟩)), (4, .pointer (some ⟨b3, 0, none⟩)), (6, .pointer (some ⟨b13, 0, none⟩)), (8, .pointer (some ⟨b62, 0, none⟩)), (9, .pointer (some ⟨b63, 0, none⟩)), (10, .pointer (some ⟨b64, 0, none⟩)), (11, .pointer (some ⟨b86, 0, none⟩)), (12, .pointer (some ⟨b87, 0, none⟩)), (13, .pointer (some ⟨b88, 0, none⟩)), (14, .pointer (some ⟨b117, 0, none⟩)), (48, .int .i64 (hours.length : Int)), (49, .int .i64 k), (55, .int .i64 x), (74, .func (.func 102) #[] cp156), (75, .int .i64 x6)] (by exact (sc rfl (sc rfl (sc rfl (sc rfl (sc rfl (sc rfl (sc rfl (sc rfl (sc rfl (sc rfl (sc rfl (sc rfl (sc rfl (sc rfl (sc rfl (sn _))))))))))))))))) ?_
             refine shW_region (oa rfl rfl (shO_nil ?_))
             refine ⟨rfl, ?_⟩
             refine shW_block ?_
             refine wsd (by kernel_rfl) (by kernel_rfl) (by kernel_rfl) ?_
             refine qv (v_load Try.isAgg23 rfl (Has.own 6 rfl) rfl) rfl ?_
             refine qv (v_load Try.isAgg3 rfl (Has.own 3 rfl) rfl) rfl ?_
             obtain ⟨g174, r175⟩ := gd_ok r173; clear r173
             refine qv (v_sub rfl rfl g174) rfl ?_
             obtain ⟨x7, g176, hx177, r178⟩ := ix_ok r175; clear r175
             obtain ⟨b179, o180, c181, vs182, ha183, hs184, hle185, ⟨a188, c189, rfl, h190⟩, hl186, hc187⟩ := SlR.at (slE_ok (iE_ok _)) hz59 (L := (b117, .cells #[.int .i64 x] 3 (0, 0)) :: ((b88, .cells (arr (cI .i64) high3) 116 (0, 0)) :: ((b87, .cells (arr (cI .i64) low4) 116 (0, 0)) :: ((b86, .cells #[.int .i64 k] 3 (0, 0)) :: ((b64, .cells (arr (cI .i64) hi2) 116 (0, 0)) :: ((b63, .cells (arr (cI .i64) lo2) 116 (0, 0)) :: ((b62, .cells #[.slice a56 n60 c57] 23 (0, 0)) :: ((b13, .cells #[.pointer (some ⟨b26, 0, none⟩)] 105 (0, 0)) :: ((b3, .cells #[.int .i64 0, .int .i64 0] 36 (0, 0)) :: ((b2, .cells #[.int .i64 man] 3 (0, 0)) :: ((b38, .map es39 cl40) :: (Lb58 ++ [])))))))))))) (fC (fC (fC (fC (fC (fC (fC (fC (fC (fC (fC fP))))))))))) g176.1 hx177
             refine qv (v_indexO Try.underlying23 Try.sizeOf27 rfl ha183 rfl (SlR.idx hz59 g176)) rfl ?_
             refine qv (v_load Try.isAgg27 rfl hs184 (hc187 0 (by decide))) rfl ?_
             refine qm rfl rfl ?_
             obtain ⟨x8, g191, hx192, r193⟩ := ix_ok r178; clear r178
             obtain ⟨b194, o195, c196, vs197, ha198, hs199, hle200, rfl, hl201, hc202⟩ := RowR.at (iE_ok _) h190 ((b117, .cells #[.int .i64 x] 3 (0, 0)) :: ((b88, .cells (arr (cI .i64) high3) 116 (0, 0)) :: ((b87, .cells (arr (cI .i64) low4) 116 (0, 0)) :: ((b86, .cells #[.int .i64 k] 3 (0, 0)) :: ((b64, .cells (arr (cI .i64) hi2) 116 (0, 0)) :: ((b63, .cells (arr (cI .i64) lo2) 116 (0, 0)) :: ((b62, .cells #[.slice a56 n60 c57] 23 (0, 0)) :: ((b13, .cells #[.pointer (some ⟨b26, 0, none⟩)] 105 (0, 0)) :: ((b3, .cells #[.int .i64 0, .int .i64 0] 36 (0, 0)) :: ((b2, .cells #[.int .i64 man] 3 (0, 0)) :: ((b38, .map es39 cl40) :: (Lb58 ++ [])))))))))))) g191.1 hx192
             refine qv (v_indexO Try.underlying27 Try.sizeOf3 rfl ha198 rfl g191) rfl ?_
             refine qv (v_load Try.isAgg3 rfl hs199 (hc202 0 (by decide))) rfl ?_
             refine qm rfl rfl ?_
             refine qv (v_load Try.isAgg3 rfl (Has.own 0 rfl) rfl) rfl ?_
             obtain ⟨n2, h203, r204⟩ := b1_ok r193; clear r193
             refine shQ_callV rfl Try.call63 rfl rfl rfl (night_fallen_w h203) ?_
             obtain ⟨g205, r206⟩ := gd_ok r204; clear r204
             refine qv (v_add rfl rfl g205) rfl ?_
             refine qv (v_load Try.isAgg23 rfl (Has.own 6 rfl) rfl) rfl ?_
             refine qv (v_load Try.isAgg3 rfl (Has.own 3 rfl) rfl) rfl ?_
             obtain ⟨x9, g207, hx208, r209⟩ := ix_ok r206; clear r206
             obtain ⟨b210, o211, c212, vs213, ha214, hs215, hle216, ⟨a219, c220, rfl, h221⟩, hl217, hc218⟩ := SlR.at (slE_ok (iE_ok _)) hz59 (L := (b117, .cells #[.int .i64 x] 3 (0, 0)) :: ((b88, .cells (arr (cI .i64) high3) 116 (0, 0)) :: ((b87, .cells (arr (cI .i64) low4) 116 (0, 0)) :: ((b86, .cells #[.int .i64 k] 3 (0, 0)) :: ((b64, .cells (arr (cI .i64) hi2) 116 (0, 0)) :: ((b63, .cells (arr (cI .i64) lo2) 116 (0, 0)) :: ((b62, .cells #[.slice a56 n60 c57] 23 (0, 0)) :: ((b13, .cells #[.pointer (some ⟨b26, 0, none⟩)] 105 (0, 0)) :: ((b3, .cells #[.int .i64 0, .int .i64 0] 36 (0, 0)) :: ((b2, .cells #[.int .i64 man] 3 (0, 0)) :: ((b38, .map es39 cl40) :: (Lb58 ++ [])))))))))))) (fC (fC (fC (fC (fC (fC (fC (fC (fC (fC (fC fP))))))))))) g207.1 hx208
             refine qv (v_indexO Try.underlying23 Try.sizeOf27 rfl ha214 rfl (SlR.idx hz59 g207)) rfl ?_
             refine qv (v_load Try.isAgg27 rfl hs215 (hc218 0 (by decide))) rfl ?_
             refine qv (v_load Try.isAgg3 rfl (Has.own 0 rfl) rfl) rfl ?_
             obtain ⟨x10, g222, hx223, r224⟩ := ix_ok r209; clear r209
             obtain ⟨b225, o226, c227, vs228, ha229, hs230, hle231, rfl, hl232, hc233⟩ := RowR.at (iE_ok _) h221 ((b117, .cells #[.int .i64 x] 3 (0, 0)) :: ((b88, .cells (arr (cI .i64) high3) 116 (0, 0)) :: ((b87, .cells (arr (cI .i64) low4) 116 (0, 0)) :: ((b86, .cells #[.int .i64 k] 3 (0, 0)) :: ((b64, .cells (arr (cI .i64) hi2) 116 (0, 0)) :: ((b63, .cells (arr (cI .i64) lo2) 116 (0, 0)) :: ((b62, .cells #[.slice a56 n60 c57] 23 (0, 0)) :: ((b13, .cells #[.pointer (some ⟨b26, 0, none⟩)] 105 (0, 0)) :: ((b3, .cells #[.int .i64 0, .int .i64 0] 36 (0, 0)) :: ((b2, .cells #[.int .i64 man] 3 (0, 0)) :: ((b38, .map es39 cl40) :: (Lb58 ++ [])))))))))))) g222.1 hx223
             refine qv (v_indexO Try.underlying27 Try.sizeOf3 rfl ha229 rfl g222) rfl ?_
             refine qv (v_load Try.isAgg3 rfl hs230 (hc233 0 (by decide))) rfl ?_
             refine qv (v_eql rfl rfl) rfl ?_
             refine shQ_nil ?_
             refine shW_condP rfl (fun c234 => ?_) (fun c234 => ?_)
             · have r235 := ite_t r224 c234; clear r224
               refine wsr ?_
               refine ov (v_load Try.isAgg3 rfl (Has.own 0 rfl) rfl) rfl ?_
               refine om rfl rfl ?_
               refine ov (v_andNot rfl rfl) rfl ?_
               refine ov (v_load Try.isAgg3 rfl (Has.own 9 rfl) rfl) rfl ?_
               obtain ⟨g236, r237⟩ := gd_ok r235; clear r235
               refine ov (v_shr rfl rfl g236) rfl ?_
               refine ov (v_and rfl rfl) rfl ?_
               obtain ⟨n3, h238, r239⟩ := bv_ok r237; clear r237
               refine ov ((v_assign rfl).i h238) rfl ?_
               refine shO_nil ?_
               refine shW_drawM [(.still, 0), (.still, 1), (.still, 2), (.still, 3), (.still, 4), (.still, 5), (.still, 6), (.still, 7), (.still, 8), (.still, 9), (.still, 12), (.still, 13), (.still, 14), (.still, 15), (.still, 16), (.still, 17), (.still, 18), (.still, 19), (.still, 20), (.seq, 10), (.seq, 11), (.still, 21), (.seq, 22), (.still, 23), (.seq, 24)] (by kernel_rfl) (by kernel_rfl) (trivial) (by rfl) (by kernel_rfl) ?_
               refine shM_v (v := .int .i64 x) (ek := [(14, .pointer (some ⟨b117, 0, none⟩))]) (Ls := [(b117, .cells #[.int .i64 x] 3 (0, 0))]) rfl rfl rfl rfl ((sc rfl (sn _))) (by kernel_rfl) (s0 (s2 (s1 (s1 (s1 (s1 (s1 (s1 (s1 (s1 (s1 (s1 (s3 sr))))))))))))) (fun H F' L' hF' hL' => v_load Try.isAgg3 rfl ((Has.own 0 rfl).ext hF' hL') rfl) ?_
               refine shM_v (v := .int .i64 x) (ek := [(14, .pointer (some ⟨b117, 0, none⟩))]) (Ls := [(b117, .cells #[.int .i64 x] 3 (0, 0))]) rfl rfl rfl rfl ((sc rfl (sn _))) (by kernel_rfl) (s0 (s2 (s1 (s1 (s1 (s1 (s1 (s1 (s1 (s1 (s1 (s1 (s3 sr))))))))))))) (fun H F' L' hF' hL' => v_load Try.isAgg3 rfl ((Has.own 0 rfl).ext hF' hL') rfl) ?_
               refine shM_v (v := .int .i64 x) (ek := [(14, .pointer (some ⟨b117, 0, none⟩))]) (Ls := [(b117, .cells #[.int .i64 x] 3 (0, 0))]) rfl rfl rfl rfl ((sc rfl (sn _))) (by kernel_rfl) (s0 (s2 (s1 (s1 (s1 (s1 (s1 (s1 (s1 (s1 (s1 (s1 (s3 sr))))))))))))) (fun H F' L' hF' hL' => v_load Try.isAgg3 rfl ((Has.own 0 rfl).ext hF' hL') rfl) ?_
               obtain ⟨x11, g240, hx241, r242⟩ := ix_ok r239; clear r239
               have hc243 := arr_at (cI_ok .i64) h158 hx241
               refine shM_v (v := .pointer (some ⟨b87, 0 + (x : Int).toNat * 1, none⟩)) (ek := [(12, .pointer (some ⟨b87, 0, none⟩)), (104, .int .i64 x)]) (Ls := []) rfl rfl rfl rfl ((sc rfl (sc rfl (sn _)))) (by kernel_rfl) sm (fun H F' L' hF' hL' => v_indexA Try.underlying116 Try.sizeOf3 rfl rfl (arr_lt h158 g240)) ?_
               refine shM_v (v := .int .i64 x11) (ek := [(105, .pointer (some ⟨b87, 0 + (x : Int).toNat * 1, none⟩))]) (Ls := [(b87, .cells (arr (cI .i64) low4) 116 (0, 0))]) rfl rfl rfl rfl ((sc rfl (sn _))) (by kernel_rfl) (s0 (s1 (s1 (s2 (s1 (s1 (s1 (s1 (s1 (s1 (s1 (s1 (s3 sr))))))))))))) (fun H F' L' hF' hL' => v_load Try.isAgg3 rfl ((Has.own 0 rfl).ext hF' hL') ((hc243).2.2 0 (by decide))) ?_
               refine shM_v (v := .int .i64 x6) (ek := [(15, .int .i64 x6)]) (Ls := []) rfl rfl rfl rfl ((sc rfl (sn _))) (by kernel_rfl) sm (fun H F' L' hF' hL' => v_move rfl) ?_
               obtain ⟨x12, g244, hx245, r246⟩ := ix_ok r242; clear r242
               have hc247 := arr_at (cI_ok .i64) h69 hx245
               refine shM_v (v := .pointer (some ⟨b63, 0 + (x6 : Int).toNat * 1, none⟩)) (ek := [(9, .pointer (some ⟨b63, 0, none⟩)), (107, .int .i64 x6)]) (Ls := []) rfl rfl rfl rfl ((sc rfl (sc rfl (sn _)))) (by kernel_rfl) sm (fun H F' L' hF' hL' => v_indexA Try.underlying116 Try.sizeOf3 rfl rfl (arr_lt h69 g244)) ?_
               refine shM_v (v := .int .i64 x12) (ek := [(108, .pointer (some ⟨b63, 0 + (x6 : Int).toNat * 1, none⟩))]) (Ls := [(b63, .cells (arr (cI .i64) lo2) 116 (0, 0))]) rfl rfl rfl rfl ((sc rfl (sn _))) (by kernel_rfl) (s0 (s1 (s1 (s1 (s1 (s1 (s2 (s1 (s1 (s1 (s1 (s1 (s3 sr))))))))))))) (fun H F' L' hF' hL' => v_load Try.isAgg3 rfl ((Has.own 0 rfl).ext hF' hL') ((hc247).2.2 0 (by decide))) ?_
               refine shM_v (v := .int .i64 n3) (ek := [(16, .int .i64 n3)]) (Ls := []) rfl rfl rfl rfl ((sc rfl (sn _))) (by kernel_rfl) sm (fun H F' L' hF' hL' => v_move rfl) ?_
               obtain ⟨g248, r249⟩ := gd_ok r246; clear r246
               refine shM_v (v := .int .i64 (x12 + n3)) (ek := [(109, .int .i64 x12), (110, .int .i64 n3)]) (Ls := []) rfl rfl rfl rfl ((sc rfl (sc rfl (sn _)))) (by kernel_rfl) sm (fun H F' L' hF' hL' => v_add rfl rfl g248) ?_
               refine shM_v (v := .int .i64 x) (ek := [(14, .pointer (some ⟨b117, 0, none⟩))]) (Ls := [(b117, .cells #[.int .i64 x] 3 (0, 0))]) rfl rfl rfl rfl ((sc rfl (sn _))) (by kernel_rfl) (s0 (s2 (s1 (s1 (s1 (s1 (s1 (s1 (s1 (s1 (s1 (s1 (s3 sr))))))))))))) (fun H F' L' hF' hL' => v_load Try.isAgg3 rfl ((Has.own 0 rfl).ext hF' hL') rfl) ?_
               obtain ⟨x13, g250, hx251, r252⟩ := ix_ok r249; clear r249
               have hc253 := arr_at (cI_ok .i64) h159 hx251
               refine shM_v (v := .pointer (some ⟨b88, 0 + (x : Int).toNat * 1, none⟩)) (ek := [(13, .pointer (some ⟨b88, 0, none⟩)), (114, .int .i64 x)]) (Ls := []) rfl rfl rfl rfl ((sc rfl (sc rfl (sn _)))) (by kernel_rfl) sm (fun H F' L' hF' hL' => v_indexA Try.underlying116 Try.sizeOf3 rfl rfl (arr_lt h159 g250)) ?_
               refine shM_v (v := .int .i64 x13) (ek := [(115, .pointer (some ⟨b88, 0 + (x : Int).toNat * 1, none⟩))]) (Ls := [(b88, .cells (arr (cI .i64) high3) 116 (0, 0))]) rfl rfl rfl rfl ((sc rfl (sn _))) (by kernel_rfl) (s0 (s1 (s2 (s1 (s1 (s1 (s1 (s1 (s1 (s1 (s1 (s1 (s3 sr))))))))))))) (fun H F' L' hF' hL' => v_load Try.isAgg3 rfl ((Has.own 0 rfl).ext hF' hL') ((hc253).2.2 0 (by decide))) ?_
               refine shM_v (v := .int .i64 x6) (ek := [(15, .int .i64 x6)]) (Ls := []) rfl rfl rfl rfl ((sc rfl (sn _))) (by kernel_rfl) sm (fun H F' L' hF' hL' => v_move rfl) ?_
               obtain ⟨x14, g254, hx255, r256⟩ := ix_ok r252; clear r252
               have hc257 := arr_at (cI_ok .i64) h70 hx255
               refine shM_v (v := .pointer (some ⟨b64, 0 + (x6 : Int).toNat * 1, none⟩)) (ek := [(10, .pointer (some ⟨b64, 0, none⟩)), (117, .int .i64 x6)]) (Ls := []) rfl rfl rfl rfl ((sc rfl (sc rfl (sn _)))) (by kernel_rfl) sm (fun H F' L' hF' hL' => v_indexA Try.underlying116 Try.sizeOf3 rfl rfl (arr_lt h70 g254)) ?_
               refine shM_v (v := .int .i64 x14) (ek := [(118, .pointer (some ⟨b64, 0 + (x6 : Int).toNat * 1, none⟩))]) (Ls := [(b64, .cells (arr (cI .i64) hi2) 116 (0, 0))]) rfl rfl rfl rfl ((sc rfl (sn _))) (by kernel_rfl) (s0 (s1 (s1 (s1 (s1 (s2 (s1 (s1 (s1 (s1 (s1 (s1 (s3 sr))))))))))))) (fun H F' L' hF' hL' => v_load Try.isAgg3 rfl ((Has.own 0 rfl).ext hF' hL') ((hc257).2.2 0 (by decide))) ?_
               refine shM_v (v := .int .i64 n3) (ek := [(16, .int .i64 n3)]) (Ls := []) rfl rfl rfl rfl ((sc rfl (sn _))) (by kernel_rfl) sm (fun H F' L' hF' hL' => v_move rfl) ?_
               obtain ⟨g258, r259⟩ := gd_ok r256; clear r256
               refine shM_v (v := .int .i64 (x14 + n3)) (ek := [(119, .int .i64 x14), (120, .int .i64 n3)]) (Ls := []) rfl rfl rfl rfl ((sc rfl (sc rfl (sn _)))) (by kernel_rfl) sm (fun H F' L' hF' hL' => v_add rfl rfl g258) ?_
               refine shM_v (v := .int .i64 (if x14 + n3 > x13 then x14 + n3 else x13)) (ek := [(116, .int .i64 x13), (121, .int .i64 (x14 + n3))]) (Ls := []) rfl rfl rfl rfl ((sc rfl (sc rfl (sn _)))) (by kernel_rfl) sm (fun H F' L' hF' hL' => v_max2 rfl rfl) ?_
               refine ⟨_, [(111, .int .i64 (x12 + n3))], rfl, rfl, (sc rfl (sn _)), by kernel_rfl, ?_⟩; intro H
               refine o_buildSlice (cs := #[.int .i64 (x12 + n3)]) rfl rfl (buildSlice_all slt_27 [.int .i64 (x12 + n3)] rfl (by decide) (by simp [Value.cells]) (by decide)) ?_; intro b260 hb260
               refine shO_nil ⟨_, rfl, FExt.refl _, [20, 19, 18, 17, 16, 15, 14, 13, 12, 4, 3, 2, 1, 0], by kernel_rfl, .inl (.inr (fun d h => by cases h; rfl)), (List.forall_mem_cons.2 ⟨sm, (List.forall_mem_cons.2 ⟨sm, (List.forall_mem_cons.2 ⟨sm, (List.forall_mem_cons.2 ⟨s0 (s1 (s1 (s1 (s1 (s1 (s2 (s1 (s1 (s1 (s1 (s1 (s1 (s3 sr))))))))))))), (List.forall_mem_cons.2 ⟨sm, (List.forall_mem_cons.2 ⟨sm, (List.forall_mem_cons.2 ⟨s0 (s1 (s1 (s2 (s1 (s1 (s1 (s1 (s1 (s1 (s1 (s1 (s1 (s3 sr))))))))))))), (List.forall_mem_cons.2 ⟨sm, (List.forall_mem_cons.2 ⟨s0 (s1 (s2 (s1 (s1 (s1 (s1 (s1 (s1 (s1 (s1 (s1 (s1 (s3 sr))))))))))))), (List.forall_mem_cons.2 ⟨s0 (s1 (s1 (s1 (s2 (s1 (s1 (s1 (s1 (s1 (s1 (s1 (s1 (s3 sr))))))))))))), (List.forall_mem_cons.2 ⟨sm, (List.forall_mem_cons.2 ⟨s0 (s1 (s2 (s1 (s1 (s1 (s1 (s1 (s1 (s1 (s1 (s1 (s1 (s3 sr))))))))))))), (List.forall_mem_cons.2 ⟨s0 (s1 (s2 (s1 (s1 (s1 (s1 (s1 (s1 (s1 (s1 (s1 (s1 (s3 sr))))))))))))), (List.forall_mem_cons.2 ⟨s0 (s1 (s2 (s1 (s1 (s1 (s1 (s1 (s1 (s1 (s1 (s1 (s1 (s3 sr))))))))))))), (fun _ h => absurd h List.not_mem_nil)⟩)⟩)⟩)⟩)⟩)⟩)⟩)⟩)⟩)⟩)⟩)⟩)⟩)⟩), ?_⟩
               refine ⟨_, [(106, .int .i64 x11), (112, .slice (some ⟨b260, 0, none⟩) 1 1)], rfl, rfl, (sc rfl (sc rfl (sn _))), by kernel_rfl, ?_⟩; intro H
               refine shO_freeze 0 rfl hb260 ?_; intro F261 hF262 hz263
               refine shO_L (L' := (b117, .cells #[.int .i64 x] 3 (0, 0)) :: ((b88, .cells (arr (cI .i64) high3) 116 (0, 0)) :: ((b87, .cells (arr (cI .i64) low4) 116 (0, 0)) :: ((b86, .cells #[.int .i64 k] 3 (0, 0)) :: ((b64, .cells (arr (cI .i64) hi2) 116 (0, 0)) :: ((b63, .cells (arr (cI .i64) lo2) 116 (0, 0)) :: ((b62, .cells #[.slice a56 n60 c57] 23 (0, 0)) :: ((b13, .cells #[.pointer (some ⟨b26, 0, none⟩)] 105 (0, 0)) :: ((b3, .cells #[.int .i64 0, .int .i64 0] 36 (0, 0)) :: ((b2, .cells #[.int .i64 man] 3 (0, 0)) :: ((b38, .map es39 cl40) :: (Lb58 ++ [])))))))))))) rfl ?_
               have h264 : RowR 1 (iE .i64) F261 (some ⟨b260, 0, none⟩) 1 [x12 + n3] := RowR.of_block (iE_ok _) (vss := [[.int .i64 (x12 + n3)]]) (xs := [x12 + n3]) hz263 (.cons rfl .nil) rfl (by simp [maxLen])
               obtain ⟨n4, h265, r266⟩ := b1_ok r259; clear r259
               refine o_callV rfl Try.call64 rfl rfl rfl (night_least_w h264 h265) ?_
               refine shO_nil ⟨_, rfl, hF262, [20, 19, 18, 17, 16, 15, 14, 13, 12, 1, 0], by kernel_rfl, .inl (.inr (fun d h => by cases h; rfl)), (List.forall_mem_cons.2 ⟨sm, (List.forall_mem_cons.2 ⟨sm, (List.forall_mem_cons.2 ⟨sm, (List.forall_mem_cons.2 ⟨s0 (s1 (s1 (s1 (s1 (s2 (s1 (s1 (s1 (s1 (s1 (s1 (s3 sr)))))))))))), (List.forall_mem_cons.2 ⟨sm, (List.forall_mem_cons.2 ⟨sm, (List.forall_mem_cons.2 ⟨s0 (s1 (s2 (s1 (s1 (s1 (s1 (s1 (s1 (s1 (s1 (s1 (s3 sr)))))))))))), (List.forall_mem_cons.2 ⟨sm, (List.forall_mem_cons.2 ⟨s0 (s2 (s1 (s1 (s1 (s1 (s1 (s1 (s1 (s1 (s1 (s1 (s3 sr)))))))))))), (List.forall_mem_cons.2 ⟨s0 (s2 (s1 (s1 (s1 (s1 (s1 (s1 (s1 (s1 (s1 (s1 (s3 sr)))))))))))), (List.forall_mem_cons.2 ⟨s0 (s2 (s1 (s1 (s1 (s1 (s1 (s1 (s1 (s1 (s1 (s1 (s3 sr)))))))))))), (fun _ h => absurd h List.not_mem_nil)⟩)⟩)⟩)⟩)⟩)⟩)⟩)⟩)⟩)⟩)⟩), ?_⟩
               refine shM_v (v := .pointer (some ⟨b87, 0 + (x : Int).toNat * 1, none⟩)) (ek := [(12, .pointer (some ⟨b87, 0, none⟩)), (102, .int .i64 x)]) (Ls := []) rfl rfl rfl rfl ((sc rfl (sc rfl (sn _)))) (by kernel_rfl) sm (fun H F' L' hF' hL' => v_indexA Try.underlying116 Try.sizeOf3 rfl rfl (arr_lt h158 g240)) ?_
               refine ⟨_, [(113, .int .i64 n4), (123, .pointer (some ⟨b87, 0 + (x : Int).toNat * 1, none⟩))], rfl, rfl, (sc rfl (sc rfl (sn _))), by kernel_rfl, ?_⟩; intro H
               obtain ⟨l4, h268, r269⟩ := bv_ok r266; clear r266
               have h270 : l4.length = 64 := by rw [h268, List.length_set]; exact h158
               refine o_storeArr (i := 2) Try.sizeOf3 (cI_ok .i64) rfl rfl rfl rfl (arr_lt h158 g240) h158 ?_
               refine shO_L (L' := (b117, .cells #[.int .i64 x] 3 (0, 0)) :: ((b88, .cells (arr (cI .i64) high3) 116 (0, 0)) :: ((b87, .cells (arr (cI .i64) l4) 116 (0, 0)) :: ((b86, .cells #[.int .i64 k] 3 (0, 0)) :: ((b64, .cells (arr (cI .i64) hi2) 116 (0, 0)) :: ((b63, .cells (arr (cI .i64) lo2) 116 (0, 0)) :: ((b62, .cells #[.slice a56 n60 c57] 23 (0, 0)) :: ((b13, .cells #[.pointer (some ⟨b26, 0, none⟩)] 105 (0, 0)) :: ((b3, .cells #[.int .i64 0, .int .i64 0] 36 (0, 0)) :: ((b2, .cells #[.int .i64 man] 3 (0, 0)) :: ((b38, .map es39 cl40) :: (Lb58 ++ [])))))))))))) (by rw [h268]; rfl) ?_
               refine shO_nil ⟨undef, rfl, FExt.refl _, [20, 19, 18, 17, 16, 15, 14, 13, 12, 1], by kernel_rfl, .inl (.inr (fun d h => by cases h)), (List.forall_mem_cons.2 ⟨sm, (List.forall_mem_cons.2 ⟨sm, (List.forall_mem_cons.2 ⟨sm, (List.forall_mem_cons.2 ⟨s0 (s1 (s1 (s1 (s1 (s2 (s1 (s1 (s1 (s1 (s1 (s1 (s3 sr)))))))))))), (List.forall_mem_cons.2 ⟨sm, (List.forall_mem_cons.2 ⟨sm, (List.forall_mem_cons.2 ⟨s0 (s1 (s2 (s1 (s1 (s1 (s1 (s1 (s1 (s1 (s1 (s1 (s3 sr)))))))))))), (List.forall_mem_cons.2 ⟨sm, (List.forall_mem_cons.2 ⟨s0 (s2 (s1 (s1 (s1 (s1 (s1 (s1 (s1 (s1 (s1 (s1 (s3 sr)))))))))))), (List.forall_mem_cons.2 ⟨s0 (s2 (s1 (s1 (s1 (s1 (s1 (s1 (s1 (s1 (s1 (s1 (s3 sr)))))))))))), (fun _ h => absurd h List.not_mem_nil)⟩)⟩)⟩)⟩)⟩)⟩)⟩)⟩)⟩)⟩), ?_⟩
               refine shM_v (v := .pointer (some ⟨b88, 0 + (x : Int).toNat * 1, none⟩)) (ek := [(13, .pointer (some ⟨b88, 0, none⟩)), (103, .int .i64 x)]) (Ls := []) rfl rfl rfl rfl ((sc rfl (sc rfl (sn _)))) (by kernel_rfl) sm (fun H F' L' hF' hL' => v_indexA Try.underlying116 Try.sizeOf3 rfl rfl (arr_lt h159 g250)) ?_
               refine ⟨_, [(122, .int .i64 (if x14 + n3 > x13 then x14 + n3 else x13)), (124, .pointer (some ⟨b88, 0 + (x : Int).toNat * 1, none⟩))], rfl, rfl, (sc rfl (sc rfl (sn _))), by kernel_rfl, ?_⟩; intro H
               obtain ⟨l5, h272, r273⟩ := bv_ok r269; clear r269
               have h274 : l5.length = 64 := by rw [h272, List.length_set]; exact h159
               refine o_storeArr (i := 1) Try.sizeOf3 (cI_ok .i64) rfl rfl rfl rfl (arr_lt h159 g250) h159 ?_
               refine shO_L (L' := (b117, .cells #[.int .i64 x] 3 (0, 0)) :: ((b88, .cells (arr (cI .i64) l5) 116 (0, 0)) :: ((b87, .cells (arr (cI .i64) l4) 116 (0, 0)) :: ((b86, .cells #[.int .i64 k] 3 (0, 0)) :: ((b64, .cells (arr (cI .i64) hi2) 116 (0, 0)) :: ((b63, .cells (arr (cI .i64) lo2) 116 (0, 0)) :: ((b62, .cells #[.slice a56 n60 c57] 23 (0, 0)) :: ((b13, .cells #[.pointer (some ⟨b26, 0, none⟩)] 105 (0, 0)) :: ((b3, .cells #[.int .i64 0, .int .i64 0] 36 (0, 0)) :: ((b2, .cells #[.int .i64 man] 3 (0, 0)) :: ((b38, .map es39 cl40) :: (Lb58 ++ [])))))))))))) (by rw [h272]; rfl) ?_
               refine shO_nil ⟨undef, rfl, FExt.refl _, [], by kernel_rfl, .inl (.inl rfl), (fun _ h => absurd h List.not_mem_nil), ?_⟩
               refine shM_nil ?_
               refine inBlock_n (id := 6) ?_
               refine ⟨(b117, .cells #[.int .i64 x] 3 (0, 0)) :: ((b88, .cells (arr (cI .i64) l5) 116 (0, 0)) :: ((b87, .cells (arr (cI .i64) l4) 116 (0, 0)) :: ((b86, .cells #[.int .i64 k] 3 (0, 0)) :: ((b64, .cells (arr (cI .i64) hi2) 116 (0, 0)) :: ((b63, .cells (arr (cI .i64) lo2) 116 (0, 0)) :: ((b62, .cells #[.slice a56 n60 c57] 23 (0, 0)) :: ((b13, .cells #[.pointer (some ⟨b26, 0, none⟩)] 105 (0, 0)) :: ((b3, .cells #[.int .i64 0, .int .i64 0] 36 (0, 0)) :: ((b2, .cells #[.int .i64 man] 3 (0, 0)) :: ((b38, .map es39 cl40) :: (Lb58 ++ []))))))))))), sr, ?_⟩; exact ⟨_, l4, l5, (by rw [hxs171]; simp), r273, rfl, h270, h274⟩
             have r275 := ite_f r224 c234; clear r224
             refine shW_skip (inBlock_n (id := 6) ?_)
             refine ⟨(b117, .cells #[.int .i64 x] 3 (0, 0)) :: ((b88, .cells (arr (cI .i64) high3) 116 (0, 0)) :: ((b87, .cells (arr (cI .i64) low4) 116 (0, 0)) :: ((b86, .cells #[.int .i64 k] 3 (0, 0)) :: ((b64, .cells (arr (cI .i64) hi2) 116 (0, 0)) :: ((b63, .cells (arr (cI .i64) lo2) 116 (0, 0)) :: ((b62, .cells #[.slice a56 n60 c57] 23 (0, 0)) :: ((b13, .cells #[.pointer (some ⟨b26, 0, none⟩)] 105 (0, 0)) :: ((b3, .cells #[.int .i64 0, .int .i64 0] 36 (0, 0)) :: ((b2, .cells #[.int .i64 man] 3 (0, 0)) :: ((b38, .map es39 cl40) :: (Lb58 ++ []))))))))))), sr, ?_⟩; exact ⟨_, low4, high3, (by rw [hxs171]; simp), r275, rfl, h158, h159⟩
           · rintro F276 _ hF277 ⟨tl3, low4, high3, hs160, r278, rfl, h158, h159⟩
             obtain rfl := rest_nil hs160; rw [night_Most_l3] at r278
             refine inBlock_n (id := 5) (inBlock_n (id := 4) ?_)
             refine ⟨(b88, .cells (arr (cI .i64) high3) 116 (0, 0)) :: ((b87, .cells (arr (cI .i64) low4) 116 (0, 0)) :: ((b86, .cells #[.int .i64 k] 3 (0, 0)) :: ((b64, .cells (arr (cI .i64) hi2) 116 (0, 0)) :: ((b63, .cells (arr (cI .i64) lo2) 116 (0, 0)) :: ((b62, .cells #[.slice a56 n60 c57] 23 (0, 0)) :: ((b13, .cells #[.pointer (some ⟨b26, 0, none⟩)] 105 (0, 0)) :: ((b3, .cells #[.int .i64 0, .int .i64 0] 36 (0, 0)) :: ((b2, .cells #[.int .i64 man] 3 (0, 0)) :: ((b38, .map es39 cl40) :: (Lb58 ++ [])))))))))), s1 (s2 (s2 (s2 (s2 (s2 (s2 (s2 (s2 (s2 (s2 (s4 sr))))))))))), ?_⟩; exact ⟨_, low4, high3, (by rw [hxs114]; simp), r278, rfl, h158, h159⟩
           intro c F1 L1 hx h; exact h.elim
         · rintro F279 _ hF280 ⟨tl, low2, high2, hs103, r281, rfl, h101, h102⟩
           obtain rfl := rest_nil hs103; rw [night_Most_l2] at r281
           refine inBlock_n (id := 3) ?_
           obtain ⟨rfl, rfl⟩ := inj2 r281
           exact mi (kc (kc (kd kr))) ⟨(hF96.trans hF280), rfl, (sc rfl (sc rfl (sc rfl (sc rfl (sc rfl (sc rfl (sc rfl (sc rfl (sc rfl (sc rfl (sn _))))))))))), h101, h102⟩
         intro c F1 L1 hx h; exact h.elim
       rintro e1 F283 _ ⟨hF284, rfl, he282, h89, h90⟩
       refine shW_env _ he282 ?_; clear he282
       refine shW_drawM [(.still, 0), (.still, 1), (.seq, 2), (.seq, 3)] (by kernel_rfl) (by kernel_rfl) (trivial) (by rfl) (by kernel_rfl) ?_
       refine shM_v (v := .agg (arr (cI .i64) low)) (ek := [(12, .pointer (some ⟨b87, 0, none⟩))]) (Ls := [(b87, .cells (arr (cI .i64) low) 116 (0, 0))]) rfl rfl rfl rfl ((sc rfl (sn _))) (by kernel_rfl) (s0 (s1 (s2 (s1 (s1 (s1 (s1 (s1 (s1 (s1 (s3 sr))))))))))) (fun H F' L' hF' hL' => v_loadW Try.isAgg116 Try.sizeOf116 rfl ((Has.own 0 rfl).ext hF' hL') (arr_sz (cI_ok .i64) h89)) ?_
       refine shM_v (v := .agg (arr (cI .i64) high)) (ek := [(13, .pointer (some ⟨b88, 0, none⟩))]) (Ls := [(b88, .cells (arr (cI .i64) high) 116 (0, 0))]) rfl rfl rfl rfl ((sc rfl (sn _))) (by kernel_rfl) (s0 (s2 (s1 (s1 (s1 (s1 (s1 (s1 (s1 (s1 (s3 sr))))))))))) (fun H F' L' hF' hL' => v_loadW Try.isAgg116 Try.sizeOf116 rfl ((Has.own 0 rfl).ext hF' hL') (arr_sz (cI_ok .i64) h90)) ?_
       refine ⟨_, [(9, .pointer (some ⟨b63, 0, none⟩)), (125, .agg (arr (cI .i64) low))], rfl, rfl, (sc rfl (sc rfl (sn _))), by kernel_rfl, ?_⟩; intro H
       refine o_storeW (i := 3) Try.sizeOf116 rfl rfl rfl (arr_sz (cI_ok .i64) h69) (arr_sz (cI_ok .i64) h89) (arr_one (cI_ok .i64)) ?_
       refine shO_L (L' := (b88, .cells (arr (cI .i64) high) 116 (0, 0)) :: ((b87, .cells (arr (cI .i64) low) 116 (0, 0)) :: ((b64, .cells (arr (cI .i64) hi2) 116 (0, 0)) :: ((b63, .cells (arr (cI .i64) low) 116 (0, 0)) :: ((b62, .cells #[.slice a56 n60 c57] 23 (0, 0)) :: ((b13, .cells #[.pointer (some ⟨b26, 0, none⟩)] 105 (0, 0)) :: ((b3, .cells #[.int .i64 0, .int .i64 0] 36 (0, 0)) :: ((b2, .cells #[.int .i64 man] 3 (0, 0)) :: ((b38, .map es39 cl40) :: (Lb58 ++ [])))))))))) rfl ?_
       refine shO_nil ⟨undef, rfl, FExt.refl _, [1], by kernel_rfl, .inl (.inr (fun d h => by cases h)), (List.forall_mem_cons.2 ⟨s0 (s2 (s1 (s1 (s1 (s1 (s1 (s1 (s1 (s1 (s3 sr)))))))))), (fun _ h => absurd h List.not_mem_nil)⟩), ?_⟩
       refine ⟨_, [(10, .pointer (some ⟨b64, 0, none⟩)), (126, .agg (arr (cI .i64) high))], rfl, rfl, (sc rfl (sc rfl (sn _))), by kernel_rfl, ?_⟩; intro H
       refine o_storeW (i := 2) Try.sizeOf116 rfl rfl rfl (arr_sz (cI_ok .i64) h70) (arr_sz (cI_ok .i64) h90) (arr_one (cI_ok .i64)) ?_
       refine shO_L (L' := (b88, .cells (arr (cI .i64) high) 116 (0, 0)) :: ((b87, .cells (arr (cI .i64) low) 116 (0, 0)) :: ((b64, .cells (arr (cI .i64) high) 116 (0, 0)) :: ((b63, .cells (arr (cI .i64) low) 116 (0, 0)) :: ((b62, .cells #[.slice a56 n60 c57] 23 (0, 0)) :: ((b13, .cells #[.pointer (some ⟨b26, 0, none⟩)] 105 (0, 0)) :: ((b3, .cells #[.int .i64 0, .int .i64 0] 36 (0, 0)) :: ((b2, .cells #[.int .i64 man] 3 (0, 0)) :: ((b38, .map es39 cl40) :: (Lb58 ++ [])))))))))) rfl ?_
       refine shO_nil ⟨undef, rfl, FExt.refl _, [], by kernel_rfl, .inl (.inl rfl), (fun _ h => absurd h List.not_mem_nil), ?_⟩
       refine shM_nil ?_
       refine inBlock_n (id := 2) ?_
       obtain ⟨rfl, rfl⟩ := inj2 r92
       exact mi (kd (kd kr)) ⟨hF284, rfl, (sc rfl (sc rfl (sc rfl (sc rfl (sc rfl (sc rfl (sc rfl (sc rfl (sn _))))))))), h89, h90⟩
     rintro e1 F286 _ ⟨hF287, rfl, he285, h82, h83⟩
     refine shW_env _ he285 ?_; clear he285
     refine shW_region ?_
     refine ov (v_add rfl rfl (Ctr.r64 hk73 c80 g71)) rfl ?_
     refine om rfl rfl (shO_nil ?_)
     exact le kr ⟨_, hk81, lo3, hi3, r85, (hF78.trans hF287), rfl, (sc rfl (sc rfl (sc rfl (sc rfl (sc rfl (sc rfl (sc rfl (sc rfl (sn _))))))))), h82, h83⟩
   obtain rfl := Ctr.zero hk73 c80
   rw [night_Most_l1] at r75
   refine shW_exit (andThen_exit (andThen_exit ?_))
   refine inBlock_exit ?_
   obtain ⟨rfl, rfl⟩ := inj2 r75
   exact mi (kc (kc (kc (kc (kc (kd kr)))))) ⟨hF78, rfl, (sc rfl (sc rfl (sc rfl (sc rfl (sc rfl (sn _)))))), h69, h70⟩
 rintro e1 F289 _ ⟨hF290, rfl, he288, h65, h66⟩
 refine shW_env _ he288 ?_; clear he288
 replace h34 := h34.mono (slE_ok (iE_ok _)) hF290
 replace h37 := h37.mono (slE_ok (iE_ok _)) hF290
 replace h44 := h44.mono (arE_ok (n := 64) (sz := 1) cB_ok) hF290
 replace hz59 := hz59.mono (slE_ok (iE_ok _)) hF290
 replace hz29 := hF290 _ _ hz29
 refine shW_seq ?_
 refine shW_drawM [(.pre, 6), (.still, 0), (.seq, 1), (.seq, 2), (.still, 3), (.still, 4), (.still, 5), (.alloc (.cells (.int .i64 0 : Value).cells 3 (0, 0)) (fun b => .pointer (some ⟨b, 0, none⟩)) [], 6), (.still, 7), (.seq, 8)] (by kernel_rfl) (by kernel_rfl) (⟨⟨_, _, rfl, rfl, rfl, rfl, rfl, mk_alloc Try.zeroValue3⟩, trivial⟩) (by rfl) (by kernel_rfl) ?_
 refine ⟨⟨[], rfl, sn _, by kernel_rfl⟩, ?_⟩
 refine shM_v (v := .pointer (some ⟨b26, 0, none⟩)) (ek := [(6, .pointer (some ⟨b13, 0, none⟩))]) (Ls := [(b13, .cells #[.pointer (some ⟨b26, 0, none⟩)] 105 (0, 0))]) rfl rfl rfl rfl ((sc rfl (sn _))) (by kernel_rfl) (s0 (s1 (s1 (s1 (s2 (s1 (s1 (s3 sr)))))))) (fun H F' L' hF' hL' => v_load Try.isAgg105 rfl ((Has.own 0 rfl).ext hF' hL') rfl) ?_
 refine ⟨_, [], rfl, rfl, (sn _), by kernel_rfl, ?_⟩; intro H
 obtain ⟨y3, h291, r292⟩ := b1_ok r68; clear r68
 refine o_call0 rfl Try.call57 rfl rfl rfl (night_all_w h291) ?_; rintro _ F293 _ hF294 hn295 ⟨v297, rfl, rfl, hp298⟩
 replace h34 := h34.mono (slE_ok (iE_ok _)) hF294
 replace h37 := h37.mono (slE_ok (iE_ok _)) hF294
 replace h44 := h44.mono (arE_ok (n := 64) (sz := 1) cB_ok) hF294
 replace hz59 := hz59.mono (slE_ok (iE_ok _)) hF294
 replace hz29 := hF294 _ _ hz29
 refine shO_L (ln rfl) ?_
 refine shO_nil ⟨_, rfl, hF294, [0], by kernel_rfl, .inl (.inr (fun d h => by cases h; rfl)), (List.forall_mem_cons.2 ⟨s0 (s1 (s1 (s1 (s2 (s1 (s1 (s3 sr))))))), (fun _ h => absurd h List.not_mem_nil)⟩), ?_⟩
 refine ⟨_, [(129, .pointer (some ⟨b26, 0, none⟩)), (130, .agg #[v297])], rfl, rfl, (sc rfl (sc rfl (sn _))), by kernel_rfl, ?_⟩; intro H
 obtain ⟨g299, r300⟩ := gd_ok r292; clear r292
 obtain rfl := hp298.2 g299
 have hn301 : FnR Try.prog F293 100 #[] #[] (iE .i64) Value.bool (fun xx_ : Int => night_all_1 xx_) := ⟨Try.call100, fun F2 h2 vs xx_ r ha hr => by obtain rfl := ha; exact night_all_1_w hr⟩
 obtain ⟨l6, n5, h302, r303⟩ := b2_ok r300; clear r300
 refine o_call0 rfl Try.call56 rfl rfl rfl (night_desk_first_w hz29 h34 h37 h44 hn301 h302) ?_; rintro _ F304 _ hF305 hn306 ⟨a308, n312, c309, Lb310, rfl, rfl, hz311, hq314⟩
 replace h34 := h34.mono (slE_ok (iE_ok _)) hF305
 replace h37 := h37.mono (slE_ok (iE_ok _)) hF305
 replace h44 := h44.mono (arE_ok (n := 64) (sz := 1) cB_ok) hF305
 replace hz59 := hz59.mono (slE_ok (iE_ok _)) hF305
 replace hz29 := hF305 _ _ hz29
 refine shO_L (lp (ln rfl)) ?_
 refine kO (kf (fS fO) (kf (fS fO) (kf (fS fO) (kf (fS fO) (kf (fS fO) (kf (fS fO) kr)))))) ?_
 refine shO_nil ⟨_, rfl, hF305, [], by kernel_rfl, .inl (.inl rfl), (fun _ h => absurd h List.not_mem_nil), ?_⟩
 refine shM_v (v := .tuple #[.slice a308 n312 c309, .int .i64 n5]) (ek := [(131, .tuple #[.slice a308 n312 c309, .int .i64 n5])]) (Ls := []) rfl rfl rfl rfl ((sc rfl (sn _))) (by kernel_rfl) sm (fun H F' L' hF' hL' => v_move rfl) ?_
 refine shM_v (v := .slice a308 n312 c309) (ek := [(128, .tuple #[.slice a308 n312 c309, .int .i64 n5])]) (Ls := []) rfl rfl rfl rfl ((sc rfl (sn _))) (by kernel_rfl) sm (fun H F' L' hF' hL' => v_extract rfl rfl) ?_
 refine shM_v (v := .int .i64 n5) (ek := [(128, .tuple #[.slice a308 n312 c309, .int .i64 n5])]) (Ls := []) rfl rfl rfl rfl ((sc rfl (sn _))) (by kernel_rfl) sm (fun H F' L' hF' hL' => v_extract rfl rfl) ?_
 refine shM_ptr rfl ?_; intro b315 hb315
 refine shM_L (L' := (b315, .cells #[.int .i64 0] 3 (0, 0)) :: ((b64, .cells (arr (cI .i64) hi) 116 (0, 0)) :: ((b63, .cells (arr (cI .i64) lo) 116 (0, 0)) :: ((b62, .cells #[.slice a56 n60 c57] 23 (0, 0)) :: ((b13, .cells #[.pointer (some ⟨b26, 0, none⟩)] 105 (0, 0)) :: ((b3, .cells #[.int .i64 0, .int .i64 0] 36 (0, 0)) :: ((b38, .map es39 cl40) :: (Lb310 ++ (Lb58 ++ []))))))))) rfl ?_
 refine shM_v (v := .slice a308 n312 c309) (ek := [(132, .slice a308 n312 c309)]) (Ls := []) rfl rfl rfl rfl ((sc rfl (sn _))) (by kernel_rfl) sm (fun H F' L' hF' hL' => v_assign rfl) ?_
 refine ⟨_, [(18, .pointer (some ⟨b315, 0, none⟩)), (133, .int .i64 n5)], rfl, rfl, (sc rfl (sc rfl (sn _))), by kernel_rfl, ?_⟩; intro H
 refine o_store (i := 0) Try.sizeOf3 rfl rfl rfl rfl (Nat.le_of_ble_eq_true rfl) ?_
 refine shO_L (L' := (b315, .cells #[.int .i64 n5] 3 (0, 0)) :: ((b64, .cells (arr (cI .i64) hi) 116 (0, 0)) :: ((b63, .cells (arr (cI .i64) lo) 116 (0, 0)) :: ((b62, .cells #[.slice a56 n60 c57] 23 (0, 0)) :: ((b13, .cells #[.pointer (some ⟨b26, 0, none⟩)] 105 (0, 0)) :: ((b3, .cells #[.int .i64 0, .int .i64 0] 36 (0, 0)) :: ((b38, .map es39 cl40) :: (Lb310 ++ (Lb58 ++ []))))))))) rfl ?_
 refine shO_nil ⟨undef, rfl, FExt.refl _, [], by kernel_rfl, .inl (.inl rfl), (fun _ h => absurd h List.not_mem_nil), ?_⟩
 refine shM_nil ?_
 refine wsr ?_
 refine ov (v_build (v := .agg #[.int .i64 100, .int .i64 0]) rfl (by intro w; kernel_rfl)) rfl ?_
 refine o_alloc rfl Try.zeroValue36 ?_; intro b316 hb316
 refine o_storeA (i := 0) Try.sizeOf36 rfl rfl rfl (by simp [Value.oneCell']) rfl (Nat.le_of_ble_eq_true rfl) ?_
 refine shO_L (L' := (b316, .cells #[.int .i64 100, .int .i64 0] 36 (0, 0)) :: ((b315, .cells #[.int .i64 n5] 3 (0, 0)) :: ((b64, .cells (arr (cI .i64) hi) 116 (0, 0)) :: ((b63, .cells (arr (cI .i64) lo) 116 (0, 0)) :: ((b62, .cells #[.slice a56 n60 c57] 23 (0, 0)) :: ((b13, .cells #[.pointer (some ⟨b26, 0, none⟩)] 105 (0, 0)) :: ((b3, .cells #[.int .i64 0, .int .i64 0] 36 (0, 0)) :: ((b38, .map es39 cl40) :: (Lb310 ++ (Lb58 ++ [])))))))))) rfl ?_
 refine shO_nil ?_
 obtain ⟨out_lo, out_hi, h317, r318⟩ := b2_ok r303; clear r303
 refine shW_join (fun e1 F1 L1 => FExt F304 F1 ∧ L1 = [(b316, .cells #[.int .i64 out_lo, .int .i64 out_hi] 36 (0, 0)), (b3, .cells #[.int .i64 0, .int .i64 0] 36 (0, 0))] ∧ e1.sub [(4, .pointer (some ⟨b3, 0, none⟩)), (19, .pointer (some ⟨b316, 0, none⟩))]) ?_ ?_
 · clear r318
   refine wsr ?_
   refine ov (v_load Try.isAgg105 rfl (Has.own 5 rfl) rfl) rfl ?_
   refine ov (v_load Try.isAgg23 rfl (Has.own 4 rfl) rfl) rfl ?_
   refine ov ((v_lenS Try.underlying23 rfl).i (SlR.lenI hz59)) rfl ?_
   obtain ⟨g319, r320⟩ := gd_ok h317; clear h317
   refine ov (v_sub rfl rfl g319) rfl ?_
   obtain ⟨y4, h321, r322⟩ := b1_ok r320; clear r320
   refine o_call0 rfl Try.call62 rfl rfl rfl (night_desk_fit_w hz29 h34 h37 h44 h321) ?_; rintro _ F323 _ hF324 hn325 ⟨cp327, rfl, rfl, hit328⟩
   replace hz59 := hz59.mono (slE_ok (iE_ok _)) hF324
   refine shO_L (ln rfl) ?_
   refine shO_nil ?_
   refine shW_block ?_
   refine kW (kc (kc (kc (kc (kc (kd (kc (kd (kx kr))))))))) ?_
   refine shW_rangeFunc (encs := (fun x : Int => #[.int .i64 x])) (xs := y4) rfl Try.call102 rfl (fun _ => rfl) hit328 (fun pre F1 L1 => ∃ (tl5 : List Int) (out_lo2 : Int) (out_hi2 : Int), y4 = pre ++ tl5 ∧ night_Most_l4 l lo hi n5 tl5 out_lo2 out_hi2 = some (out_lo, out_hi) ∧ L1 = ((b316, .cells #[.int .i64 out_lo2, .int .i64 out_hi2] 36 (0, 0)) :: ((b315, .cells #[.int .i64 n5] 3 (0, 0)) :: ((b64, .cells (arr (cI .i64) hi) 116 (0, 0)) :: ((b63, .cells (arr (cI .i64) lo) 116 (0, 0)) :: ((b62, .cells #[.slice a56 n60 c57] 23 (0, 0)) :: ((b3, .cells #[.int .i64 0, .int .i64 0] 36 (0, 0)) :: (Lb58 ++ [])))))))) (fun _ _ _ => False) ?_ ?_ ?_ ?_ ?_ ?_
   · rintro pre F1 F2 L1 ⟨tl5, out_lo2, out_hi2, hs329, r330, rfl⟩ hx; exact ⟨tl5, out_lo2, out_hi2, hs329, r330, rfl⟩
   · intro c F1 F2 L1 h hx; exact h
   · exact ⟨_, 100, 0, rfl, r322, rfl⟩
   · rintro l331 wr332 Fr333 Xr334 Ha335 Hb336 hnb337 hH341 pre x15 tl6 hxs340 F338 _ hF339 ⟨tl5, out_lo2, out_hi2, hs329, r342, rfl⟩
     obtain rfl := rest_head hs329 hxs340
     rw [night_Most_l4] at r342
     replace hz59 := hz59.mono (slE_ok (iE_ok _)) hF339
     refine shW_env [(4, .pointer (some ⟨b3, 0, none⟩)), (8, .pointer (some ⟨b62, 0, none⟩)), (9, .pointer (some ⟨b63, 0, none⟩)), (10, .pointer (some ⟨b64, 0, none⟩)), (18, .pointer (some ⟨b315, 0, none⟩)), (19, .pointer (some ⟨b316, 0, none⟩)), (139, .func (.func 102) #[] cp327), (140, .int .i64 x15)] (by exact (sc rfl (sc rfl (sc rfl (sc rfl (sc rfl (sc rfl (sc rfl (sc rfl (sn _)))))))))) ?_
     refine shW_region (oa rfl rfl (shO_nil ?_))
     refine ⟨rfl, ?_⟩
     refine shW_block ?_
     refine wsd (by kernel_rfl) (by kernel_rfl) (by kernel_rfl) ?_
     refine qv (v_load Try.isAgg23 rfl (Has.own 4 rfl) rfl) rfl ?_
     refine qv (v_load Try.isAgg23 rfl (Has.own 4 rfl) rfl) rfl ?_
     refine qv ((v_lenS Try.underlying23 rfl).i (SlR.lenI hz59)) rfl ?_
     obtain ⟨g343, r344⟩ := gd_ok r342; clear r342
     refine qv (v_sub rfl rfl g343) rfl ?_
     obtain ⟨x16, g345, hx346, r347⟩ := ix_ok r344; clear r344
     obtain ⟨b348, o349, c350, vs351, ha352, hs353, hle354, ⟨a357, c358, rfl, h359⟩, hl355, hc356⟩ := SlR.at (slE_ok (iE_ok _)) hz59 (L := (b316, .cells #[.int .i64 out_lo2, .int .i64 out_hi2] 36 (0, 0)) :: ((b315, .cells #[.int .i64 n5] 3 (0, 0)) :: ((b64, .cells (arr (cI .i64) hi) 116 (0, 0)) :: ((b63, .cells (arr (cI .i64) lo) 116 (0, 0)) :: ((b62, .cells #[.slice a56 n60 c57] 23 (0, 0)) :: ((b3, .cells #[.int .i64 0, .int .i64 0] 36 (0, 0)) :: (Lb58 ++ []))))))) (fC (fC (fC (fC (fC (fC fP)))))) g345.1 hx346
     refine qv (v_indexO Try.underlying23 Try.sizeOf27 rfl ha352 rfl (SlR.idx hz59 g345)) rfl ?_
     refine qv (v_load Try.isAgg27 rfl hs353 (hc356 0 (by decide))) rfl ?_
     refine qm rfl rfl ?_
     obtain ⟨x17, g360, hx361, r362⟩ := ix_ok r347; clear r347
     obtain ⟨b363, o364, c365, vs366, ha367, hs368, hle369, rfl, hl370, hc371⟩ := RowR.at (iE_ok _) h359 ((b316, .cells #[.int .i64 out_lo2, .int .i64 out_hi2] 36 (0, 0)) :: ((b315, .cells #[.int .i64 n5] 3 (0, 0)) :: ((b64, .cells (arr (cI .i64) hi) 116 (0, 0)) :: ((b63, .cells (arr (cI .i64) lo) 116 (0, 0)) :: ((b62, .cells #[.slice a56 n60 c57] 23 (0, 0)) :: ((b3, .cells #[.int .i64 0, .int .i64 0] 36 (0, 0)) :: (Lb58 ++ []))))))) g360.1 hx361
     refine qv (v_indexO Try.underlying27 Try.sizeOf3 rfl ha367 rfl g360) rfl ?_
     refine qv (v_load Try.isAgg3 rfl hs368 (hc371 0 (by decide))) rfl ?_
     refine qv (v_load Try.isAgg3 rfl (Has.own 1 rfl) rfl) rfl ?_
     refine qv (v_eql rfl rfl) rfl ?_
     refine shQ_nil ?_
     refine shW_condP rfl (fun c372 => ?_) (fun c372 => ?_)
     · have r373 := ite_t r362 c372; clear r362
       refine shW_drawM [(.still, 0), (.still, 1), (.still, 2), (.still, 3), (.still, 4), (.still, 7), (.still, 8), (.still, 9), (.still, 10), (.still, 11), (.still, 12), (.seq, 5), (.seq, 6), (.still, 13), (.seq, 14)] (by kernel_rfl) (by kernel_rfl) (trivial) (by rfl) (by kernel_rfl) ?_
       refine shM_v (v := .pointer (some ⟨b316, 0, none⟩)) (ek := [(19, .pointer (some ⟨b316, 0, none⟩))]) (Ls := []) rfl rfl rfl rfl ((sc rfl (sn _))) (by kernel_rfl) sm (fun H F' L' hF' hL' => v_fieldAddr fa_36_0 rfl) ?_
       refine shM_v (v := .int .i64 out_lo2) (ek := [(152, .pointer (some ⟨b316, 0, none⟩))]) (Ls := [(b316, .cells #[.int .i64 out_lo2, .int .i64 out_hi2] 36 (0, 0))]) rfl rfl rfl rfl ((sc rfl (sn _))) (by kernel_rfl) (s0 (s2 (s1 (s1 (s1 (s1 (s1 (s3 sr)))))))) (fun H F' L' hF' hL' => v_load Try.isAgg3 rfl ((Has.own 0 rfl).ext hF' hL') rfl) ?_
       refine shM_v (v := .int .i64 x15) (ek := [(20, .int .i64 x15)]) (Ls := []) rfl rfl rfl rfl ((sc rfl (sn _))) (by kernel_rfl) sm (fun H F' L' hF' hL' => v_move rfl) ?_
       obtain ⟨x18, g374, hx375, r376⟩ := ix_ok r373; clear r373
       have hc377 := arr_at (cI_ok .i64) h65 hx375
       refine shM_v (v := .pointer (some ⟨b63, 0 + (x15 : Int).toNat * 1, none⟩)) (ek := [(9, .pointer (some ⟨b63, 0, none⟩)), (154, .int .i64 x15)]) (Ls := []) rfl rfl rfl rfl ((sc rfl (sc rfl (sn _)))) (by kernel_rfl) sm (fun H F' L' hF' hL' => v_indexA Try.underlying116 Try.sizeOf3 rfl rfl (arr_lt h65 g374)) ?_
       refine shM_v (v := .int .i64 x18) (ek := [(155, .pointer (some ⟨b63, 0 + (x15 : Int).toNat * 1, none⟩))]) (Ls := [(b63, .cells (arr (cI .i64) lo) 116 (0, 0))]) rfl rfl rfl rfl ((sc rfl (sn _))) (by kernel_rfl) (s0 (s1 (s1 (s1 (s2 (s1 (s1 (s3 sr)))))))) (fun H F' L' hF' hL' => v_load Try.isAgg3 rfl ((Has.own 0 rfl).ext hF' hL') ((hc377).2.2 0 (by decide))) ?_
       refine shM_v (v := .pointer (some ⟨b316, 1, none⟩)) (ek := [(19, .pointer (some ⟨b316, 0, none⟩))]) (Ls := []) rfl rfl rfl rfl ((sc rfl (sn _))) (by kernel_rfl) sm (fun H F' L' hF' hL' => v_fieldAddr fa_36_1 rfl) ?_
       refine shM_v (v := .int .i64 out_hi2) (ek := [(159, .pointer (some ⟨b316, 1, none⟩))]) (Ls := [(b316, .cells #[.int .i64 out_lo2, .int .i64 out_hi2] 36 (0, 0))]) rfl rfl rfl rfl ((sc rfl (sn _))) (by kernel_rfl) (s0 (s2 (s1 (s1 (s1 (s1 (s1 (s3 sr)))))))) (fun H F' L' hF' hL' => v_load Try.isAgg3 rfl ((Has.own 0 rfl).ext hF' hL') rfl) ?_
       refine shM_v (v := .int .i64 x15) (ek := [(20, .int .i64 x15)]) (Ls := []) rfl rfl rfl rfl ((sc rfl (sn _))) (by kernel_rfl) sm (fun H F' L' hF' hL' => v_move rfl) ?_
       obtain ⟨x19, g378, hx379, r380⟩ := ix_ok r376; clear r376
       have hc381 := arr_at (cI_ok .i64) h66 hx379
       refine shM_v (v := .pointer (some ⟨b64, 0 + (x15 : Int).toNat * 1, none⟩)) (ek := [(10, .pointer (some ⟨b64, 0, none⟩)), (161, .int .i64 x15)]) (Ls := []) rfl rfl rfl rfl ((sc rfl (sc rfl (sn _)))) (by kernel_rfl) sm (fun H F' L' hF' hL' => v_indexA Try.underlying116 Try.sizeOf3 rfl rfl (arr_lt h66 g378)) ?_
       refine shM_v (v := .int .i64 x19) (ek := [(162, .pointer (some ⟨b64, 0 + (x15 : Int).toNat * 1, none⟩))]) (Ls := [(b64, .cells (arr (cI .i64) hi) 116 (0, 0))]) rfl rfl rfl rfl ((sc rfl (sn _))) (by kernel_rfl) (s0 (s1 (s1 (s2 (s1 (s1 (s1 (s3 sr)))))))) (fun H F' L' hF' hL' => v_load Try.isAgg3 rfl ((Has.own 0 rfl).ext hF' hL') ((hc381).2.2 0 (by decide))) ?_
       refine shM_v (v := .int .i64 (if x19 > out_hi2 then x19 else out_hi2)) (ek := [(160, .int .i64 out_hi2), (163, .int .i64 x19)]) (Ls := []) rfl rfl rfl rfl ((sc rfl (sc rfl (sn _)))) (by kernel_rfl) sm (fun H F' L' hF' hL' => v_max2 rfl rfl) ?_
       refine ⟨_, [(156, .int .i64 x18)], rfl, rfl, (sc rfl (sn _)), by kernel_rfl, ?_⟩; intro H
       refine o_buildSlice (cs := #[.int .i64 x18]) rfl rfl (buildSlice_all slt_27 [.int .i64 x18] rfl (by decide) (by simp [Value.cells]) (by decide)) ?_; intro b382 hb382
       refine shO_nil ⟨_, rfl, FExt.refl _, [12, 11, 10, 9, 8, 7, 1, 0], by kernel_rfl, .inl (.inr (fun d h => by cases h; rfl)), (List.forall_mem_cons.2 ⟨sm, (List.forall_mem_cons.2 ⟨s0 (s1 (s1 (s1 (s2 (s1 (s1 (s1 (s3 sr)))))))), (List.forall_mem_cons.2 ⟨sm, (List.forall_mem_cons.2 ⟨sm, (List.forall_mem_cons.2 ⟨s0 (s1 (s2 (s1 (s1 (s1 (s1 (s1 (s3 sr)))))))), (List.forall_mem_cons.2 ⟨sm, (List.forall_mem_cons.2 ⟨s0 (s1 (s2 (s1 (s1 (s1 (s1 (s1 (s3 sr)))))))), (List.forall_mem_cons.2 ⟨sm, (fun _ h => absurd h List.not_mem_nil)⟩)⟩)⟩)⟩)⟩)⟩)⟩)⟩), ?_⟩
       refine ⟨_, [(153, .int .i64 out_lo2), (157, .slice (some ⟨b382, 0, none⟩) 1 1)], rfl, rfl, (sc rfl (sc rfl (sn _))), by kernel_rfl, ?_⟩; intro H
       refine shO_freeze 0 rfl hb382 ?_; intro F383 hF384 hz385
       refine shO_L (L' := (b316, .cells #[.int .i64 out_lo2, .int .i64 out_hi2] 36 (0, 0)) :: ((b315, .cells #[.int .i64 n5] 3 (0, 0)) :: ((b64, .cells (arr (cI .i64) hi) 116 (0, 0)) :: ((b63, .cells (arr (cI .i64) lo) 116 (0, 0)) :: ((b62, .cells #[.slice a56 n60 c57] 23 (0, 0)) :: ((b3, .cells #[.int .i64 0, .int .i64 0] 36 (0, 0)) :: (Lb58 ++ []))))))) rfl ?_
       have h386 : RowR 1 (iE .i64) F383 (some ⟨b382, 0, none⟩) 1 [x18] := RowR.of_block (iE_ok _) (vss := [[.int .i64 x18]]) (xs := [x18]) hz385 (.cons rfl .nil) rfl (by simp [maxLen])
       obtain ⟨n6, h387, r388⟩ := b1_ok r380; clear r380
       refine o_callV rfl Try.call64 rfl rfl rfl (night_least_w h386 h387) ?_
       refine shO_nil ⟨_, rfl, hF384, [12, 11, 10, 9, 8, 7], by kernel_rfl, .inl (.inr (fun d h => by cases h; rfl)), (List.forall_mem_cons.2 ⟨sm, (List.forall_mem_cons.2 ⟨s0 (s1 (s1 (s2 (s1 (s1 (s1 (s3 sr))))))), (List.forall_mem_cons.2 ⟨sm, (List.forall_mem_cons.2 ⟨sm, (List.forall_mem_cons.2 ⟨s0 (s2 (s1 (s1 (s1 (s1 (s1 (s3 sr))))))), (List.forall_mem_cons.2 ⟨sm, (fun _ h => absurd h List.not_mem_nil)⟩)⟩)⟩)⟩)⟩)⟩), ?_⟩
       refine shM_v (v := .agg #[.int .i64 n6, .int .i64 (if x19 > out_hi2 then x19 else out_hi2)]) (ek := [(158, .int .i64 n6), (164, .int .i64 (if x19 > out_hi2 then x19 else out_hi2))]) (Ls := []) rfl rfl rfl rfl ((sc rfl (sc rfl (sn _)))) (by kernel_rfl) sm (fun H F' L' hF' hL' => v_build (v := .agg #[.int .i64 n6, .int .i64 (if x19 > out_hi2 then x19 else out_hi2)]) rfl (by intro w; kernel_rfl)) ?_
       refine ⟨_, [(19, .pointer (some ⟨b316, 0, none⟩)), (165, .agg #[.int .i64 n6, .int .i64 (if x19 > out_hi2 then x19 else out_hi2)])], rfl, rfl, (sc rfl (sc rfl (sn _))), by kernel_rfl, ?_⟩; intro H
       refine o_storeA (i := 0) Try.sizeOf36 rfl rfl rfl (by simp [Value.oneCell']) rfl (Nat.le_of_ble_eq_true rfl) ?_
       refine shO_L (L' := (b316, .cells #[.int .i64 n6, .int .i64 (if x19 > out_hi2 then x19 else out_hi2)] 36 (0, 0)) :: ((b315, .cells #[.int .i64 n5] 3 (0, 0)) :: ((b64, .cells (arr (cI .i64) hi) 116 (0, 0)) :: ((b63, .cells (arr (cI .i64) lo) 116 (0, 0)) :: ((b62, .cells #[.slice a56 n60 c57] 23 (0, 0)) :: ((b3, .cells #[.int .i64 0, .int .i64 0] 36 (0, 0)) :: (Lb58 ++ []))))))) rfl ?_
       refine shO_nil ⟨undef, rfl, FExt.refl _, [], by kernel_rfl, .inl (.inl rfl), (fun _ h => absurd h List.not_mem_nil), ?_⟩
       refine shM_nil ?_
       refine inBlock_n (id := 8) ?_
       refine ⟨(b316, .cells #[.int .i64 n6, .int .i64 (if x19 > out_hi2 then x19 else out_hi2)] 36 (0, 0)) :: ((b315, .cells #[.int .i64 n5] 3 (0, 0)) :: ((b64, .cells (arr (cI .i64) hi) 116 (0, 0)) :: ((b63, .cells (arr (cI .i64) lo) 116 (0, 0)) :: ((b62, .cells #[.slice a56 n60 c57] 23 (0, 0)) :: ((b3, .cells #[.int .i64 0, .int .i64 0] 36 (0, 0)) :: (Lb58 ++ [])))))), sr, ?_⟩; exact ⟨_, n6, if x19 > out_hi2 then x19 else out_hi2, (by rw [hxs340]; simp), r388, rfl⟩
     have r389 := ite_f r362 c372; clear r362
     refine shW_skip (inBlock_n (id := 8) ?_)
     refine ⟨(b316, .cells #[.int .i64 out_lo2, .int .i64 out_hi2] 36 (0, 0)) :: ((b315, .cells #[.int .i64 n5] 3 (0, 0)) :: ((b64, .cells (arr (cI .i64) hi) 116 (0, 0)) :: ((b63, .cells (arr (cI .i64) lo) 116 (0, 0)) :: ((b62, .cells #[.slice a56 n60 c57] 23 (0, 0)) :: ((b3, .cells #[.int .i64 0, .int .i64 0] 36 (0, 0)) :: (Lb58 ++ [])))))), sr, ?_⟩; exact ⟨_, out_lo2, out_hi2, (by rw [hxs340]; simp), r389, rfl⟩
   · rintro F390 _ hF391 ⟨tl5, out_lo2, out_hi2, hs329, r392, rfl⟩
     obtain rfl := rest_nil hs329; rw [night_Most_l4] at r392
     refine inBlock_n (id := 7) ?_
     obtain ⟨rfl, rfl⟩ := inj2 r392
     exact mi (kc (kd (kd (kd (kd (kc kn)))))) ⟨(hF324.trans hF391), rfl, (sc rfl (sc rfl (sn _)))⟩
   intro c F1 L1 hx h; exact h.elim
 rintro e1 F394 _ ⟨hF395, rfl, he393⟩
 refine shW_env _ he393 ?_; clear he393
 refine wsr ?_
 refine ov (v_loadA (cs := #[.int .i64 out_lo, .int .i64 out_hi]) Try.isAgg36 Try.sizeOf36 rfl (Has.own 0 rfl) (Nat.le_of_ble_eq_true rfl) rfl) rfl ?_
 refine o_storeA (i := 1) Try.sizeOf36 rfl rfl rfl (by simp [Value.oneCell']) rfl (Nat.le_of_ble_eq_true rfl) ?_
 refine shO_L (L' := [(b316, .cells #[.int .i64 out_lo, .int .i64 out_hi] 36 (0, 0)), (b3, .cells #[.int .i64 out_lo, .int .i64 out_hi] 36 (0, 0))]) rfl ?_
 refine oa rfl rfl (shO_nil ?_)
 refine kW (kd kr) ?_
 refine shW_ret ?_
 refine q_res2 Try.results15 (res_cellA (cs := #[.int .i64 out_lo, .int .i64 out_hi]) Try.isAgg36 Try.sizeOf36 rfl (Has.own 0 rfl) (Nat.le_of_ble_eq_true rfl) rfl) (res_tmp rfl) (s1 sr) ?_
 obtain ⟨rfl, rfl, rfl⟩ := inj3 r318
 exact rfl
set_option maxHeartbeats 1000000 in
theorem slices_Clone_int_int_w {s__a : Option Addr} {s__c : Nat} {s_ : List Int} {F : FS} (h_s_ : RowR 1 (iE .i64) F s__a s__c s_) {r : List Int} (hr : slices_Clone_int_int s_ = some r) :
    SH.Spec Try.prog 68 #[.slice s__a s_.length s__c] F [] fun F' L' v => ∃ (ra : Option Addr) (rn : Nat) (rc : Nat) (rL : LH), v = .slice ra rn rc ∧ L' = rL ++ [] ∧ SlR 0 3 1 (iE .i64) F' ra rn rc r rL := by
 refine spec_of_shW (args := [.slice s__a s_.length s__c]) Try.func68 rfl Try.ntmps68 (Nat.le_of_ble_eq_true rfl) ?_
 intro K _ _; rw [slices_Clone_int_int] at hr
 refine wsr (oa rfl rfl (shO_nil (shW_seq (wsr (om rfl rfl ?_)))))
 refine ov (v_eqlNil Try.underlying27 rfl) rfl ?_
 refine shO_nil ?_
 refine shW_cond rfl (fun c1 => ?_) (fun c1 => ?_)
 · have r2 := nilIf_t hr (RowR.isNone h_s_ c1); clear hr
   refine wsr (oa rfl rfl (shO_nil (shW_ret (andThen_ret ?_))))
   refine q_res1 Try.results68 (res_tmp rfl) (sr) ?_
   obtain rfl := inj1 r2
   exact ⟨_, _, _, [], rfl, rfl, SlR.nil _ _ _ _ _⟩
 have r3 := nilIf_f hr; clear hr
 refine shW_skip (wsr ?_)
 refine o_buildSlice (cs := #[]) rfl rfl (buildSlice_none slt_27) ?_; intro b4 hb4
 refine om rfl rfl ?_
 have hz6 : SlR K.w0.heap.size 3 1 (iE .i64) F (some ⟨b4, 0, none⟩) 0 0 ([] : List Int) [(b4, .cells #[] 3 (0, 0))] := SlR.of_block (vss := []) (iE_ok _) hb4 .nil rfl rfl (by simp [maxLen])
 generalize hLLb5 : ([(b4, .cells #[] 3 (0, 0))] : LH) = Lb5 at hz6
 refine shO_perm (L' := Lb5 ++ []) (by rw [← hLLb5]; exact fO) ?_
 obtain ⟨l, h8, g9, r10⟩ := ap_ok r3; clear r3
 refine o_appZ (xs := ([] : List Int)) (ys := s_) (zs := l) rfl slt_27 rfl rfl (Nat.le_refl _) (fun _ => .h) hz6 (RowR.src h_s_) h8 g9 (by decide) ?_; intro a11 n15 c12 Lb13 hz14
 refine oa rfl rfl (shO_nil (shW_ret ?_))
 refine q_res1 Try.results68 (res_tmp rfl) (sr) ?_
 obtain rfl := inj1 r10
 exact ⟨_, _, _, _, rfl, rfl, hz14.any⟩
set_option maxHeartbeats 1000000 in
theorem night_Men_1_1_w {s_ : Int} {b_set_ : Nat} {set_ : Int} {mb_set_ : Nat × Nat} {F : FS} (hb_set_ : F b_set_ = some (.cells #[.int .i64 set_] 3 mb_set_)) {r : Bool} (hr : night_Men_1_1 s_ set_ = some r) :
    SpecV Try.prog 67 #[.int .i64 s_, .pointer (some ⟨b_set_, 0, none⟩)] F (.bool r) := by
 refine spec_of_shW (args := [.int .i64 s_, .pointer (some ⟨b_set_, 0, none⟩)]) Try.func67 rfl Try.ntmps67 (Nat.le_of_ble_eq_true rfl) ?_
 intro K _ _; rw [night_Men_1_1] at hr
 refine wsr (oa rfl rfl (nsr (om rfl rfl ?_)))
 refine ov (v_load Try.isAgg3 rfl (Has.frozen hb_set_) rfl) rfl ?_
 refine ov (v_andNot rfl rfl) rfl ?_
 refine ov (v_eql rfl rfl) rfl ?_
 refine oa rfl rfl (shO_nil (shW_ret ?_))
 refine q_res1 Try.results67 (res_tmp rfl) (sr) ?_
 obtain rfl := inj1 hr
 exact rfl
set_option maxHeartbeats 1000000 in
theorem night_Men_1B_w {rec_ : (List Int) → Int → Int → Int → (List (List Int)) → (List (List Int)) → (List (List Bool)) → (List Int) → (List (List Int)) → (List (List Int)) → Option (Bool × (List Int))} (hrec : ∀ {l_a : Option Addr} {l_c : Nat} {l : List Int} {set_ : Int} {from_ : Int} {many : Int} {b_d : Nat} {b_d_ : Nat} {listens_a : Option Addr} {listens_c : Nat} {listens : List (List Int)} {hours_a : Option Addr} {hours_c : Nat} {hours : List (List Int)} {v1 : Value} {rows_a : Option Addr} {rows_c : Nat} {rows : List (List Bool)} {mb_d_ : Nat × Nat} {mb_d : Nat × Nat} {b_out : Nat} {out_a : Option Addr} {out_c : Nat} {out : List Int} {b_w : Nat} {listens2_a : Option Addr} {listens2_c : Nat} {listens2 : List (List Int)} {hours2_a : Option Addr} {hours2_c : Nat} {hours2 : List (List Int)} {mb_w : Nat × Nat} {b_pick : Nat} {mb_pick : Nat × Nat} {F : FS} (_ : RowR 1 (iE .i64) F l_a l_c l) (_ : F b_d = some (.cells #[.pointer (some ⟨b_d_, 0, none⟩)] 105 mb_d)) (_ : F b_d_ = some (.cells #[.slice listens_a listens.length listens_c, .slice hours_a hours.length hours_c, v1, .slice rows_a rows.length rows_c] 139 mb_d_)) (_ : RowR 1 (slE 1 (iE .i64)) F listens_a listens_c listens) (_ : RowR 1 (slE 1 (iE .i64)) F hours_a hours_c hours) (_ : RowR 64 (arE 64 cB) F rows_a rows_c rows) (_ : RowR 1 (iE .i64) F out_a out_c out) (_ : F b_w = some (.cells #[.slice listens2_a listens2.length listens2_c, .slice hours2_a hours2.length hours2_c] 26 mb_w)) (_ : RowR 1 (slE 1 (iE .i64)) F listens2_a listens2_c listens2) (_ : RowR 1 (slE 1 (iE .i64)) F hours2_a hours2_c hours2) (_ : F b_pick = some (.cells (#[.func (.func 66) #[] #[.pointer (some ⟨b_d, 0, none⟩), .pointer (some ⟨b_out, 0, none⟩), .pointer (some ⟨b_w, 0, none⟩), .pointer (some ⟨b_pick, 0, none⟩)]]) 122 mb_pick)) {r : Bool} {r2 : List Int} , rec_ l set_ from_ many listens hours rows out listens2 hours2 = some (r, r2) → SH.Spec Try.prog 66 #[.slice l_a l.length l_c, .int .i64 set_, .int .i64 from_, .int .i64 many, .pointer (some ⟨b_d, 0, none⟩), .pointer (some ⟨b_out, 0, none⟩), .pointer (some ⟨b_w, 0, none⟩), .pointer (some ⟨b_pick, 0, none⟩)] F [(b_out, .cells #[.slice out_a out.length out_c] 27 (0, 0))] fun F' L' v => ∃ (r2a : Option Addr) (r2c : Nat), v = .bool r ∧ L' = [(b_out, .cells #[.slice r2a r2.length r2c] 27 (0, 0))] ∧ RowR 1 (iE .i64) F' r2a r2c r2) {l_a : Option Addr} {l_c : Nat} {l : List Int} {set_ : Int} {from_ : Int} {many : Int} {b_d : Nat} {b_d_ : Nat} {listens_a : Option Addr} {listens_c : Nat} {listens : List (List Int)} {hours_a : Option Addr} {hours_c : Nat} {hours : List (List Int)} {v1 : Value} {rows_a : Option Addr} {rows_c : Nat} {rows : List (List Bool)} {mb_d_ : Nat × Nat} {mb_d : Nat × Nat} {b_out : Nat} {out_a : Option Addr} {out_c : Nat} {out : List Int} {b_w : Nat} {listens2_a : Option Addr} {listens2_c : Nat} {listens2 : List (List Int)} {hours2_a : Option Addr} {hours2_c : Nat} {hours2 : List (List Int)} {mb_w : Nat × Nat} {b_pick : Nat} {mb_pick : Nat × Nat} {F : FS} (h_l : RowR 1 (iE .i64) F l_a l_c l) (hb_d : F b_d = some (.cells #[.pointer (some ⟨b_d_, 0, none⟩)] 105 mb_d)) (hb_d_ : F b_d_ = some (.cells #[.slice listens_a listens.length listens_c, .slice hours_a hours.length hours_c, v1, .slice rows_a rows.length rows_c] 139 mb_d_)) (h_listens : RowR 1 (slE 1 (iE .i64)) F listens_a listens_c listens) (h_hours : RowR 1 (slE 1 (iE .i64)) F hours_a hours_c hours) (h_rows : RowR 64 (arE 64 cB) F rows_a rows_c rows) (h_out : RowR 1 (iE .i64) F out_a out_c out) (hb_w : F b_w = some (.cells #[.slice listens2_a listens2.length listens2_c, .slice hours2_a hours2.length hours2_c] 26 mb_w)) (h_listens2 : RowR 1 (slE 1 (iE .i64)) F listens2_a listens2_c listens2) (h_hours2 : RowR 1 (slE 1 (iE .i64)) F hours2_a hours2_c hours2) (hb_pick : F b_pick = some (.cells (#[.func (.func 66) #[] #[.pointer (some ⟨b_d, 0, none⟩), .pointer (some ⟨b_out, 0, none⟩), .pointer (some ⟨b_w, 0, none⟩), .pointer (some ⟨b_pick, 0, none⟩)]]) 122 mb_pick)) {r : Bool} {r2 : List Int} (hr : night_Men_1B rec_ l set_ from_ many listens hours rows out listens2 hours2 = some (r, r2)) :
    SH.Spec Try.prog 66 #[.slice l_a l.length l_c, .int .i64 set_, .int .i64 from_, .int .i64 many, .pointer (some ⟨b_d, 0, none⟩), .pointer (some ⟨b_out, 0, none⟩), .pointer (some ⟨b_w, 0, none⟩), .pointer (some ⟨b_pick, 0, none⟩)] F [(b_out, .cells #[.slice out_a out.length out_c] 27 (0, 0))] fun F' L' v => ∃ (r2a : Option Addr) (r2c : Nat), v = .bool r ∧ L' = [(b_out, .cells #[.slice r2a r2.length r2c] 27 (0, 0))] ∧ RowR 1 (iE .i64) F' r2a r2c r2 := by
 refine spec_of_shW (args := [.slice l_a l.length l_c, .int .i64 set_, .int .i64 from_, .int .i64 many, .pointer (some ⟨b_d, 0, none⟩), .pointer (some ⟨b_out, 0, none⟩), .pointer (some ⟨b_w, 0, none⟩), .pointer (some ⟨b_pick, 0, none⟩)]) Try.func66 rfl Try.ntmps66 (Nat.le_of_ble_eq_true rfl) ?_
 intro K _ _; rw [night_Men_1B] at hr
 refine wsr ?_
 refine o_box rfl rfl ?_; intro b2 hb2
 refine oa rfl rfl (shO_nil (shW_seq (wsr (om rfl rfl ?_))))
 refine ov (v_eql rfl rfl) rfl ?_
 refine shO_nil ?_
 refine shW_condP rfl (fun c3 => ?_) (fun c3 => ?_)
 · have r4 := ite_t hr c3; clear hr
   refine shW_seq (wsr ?_)
   refine ov (v_load Try.isAgg105 rfl (Has.frozen hb_d) rfl) rfl ?_
   refine ov (v_makeFunc rfl rfl) rfl ?_
   refine ov (v_build (v := .agg (#[.func (.func 67) #[] #[.pointer (some ⟨b2, 0, none⟩)]])) rfl (by intro w; kernel_rfl)) rfl ?_
   refine shO_freeze 0 rfl hb2 ?_; intro F5 hF6 hz7
   refine shO_L (L' := [(b_out, .cells #[.slice out_a out.length out_c] 27 (0, 0))]) rfl ?_
   replace h_l := h_l.mono (iE_ok _) hF6
   replace h_listens := h_listens.mono (slE_ok (iE_ok _)) hF6
   replace h_hours := h_hours.mono (slE_ok (iE_ok _)) hF6
   replace h_rows := h_rows.mono (arE_ok (n := 64) (sz := 1) cB_ok) hF6
   replace h_out := h_out.mono (iE_ok _) hF6
   replace hb_d_ := hF6 _ _ hb_d_
   have hn8 : FnR Try.prog F5 67 #[] #[.pointer (some ⟨b2, 0, none⟩)] (iE .i64) Value.bool (fun xx_ : Int => night_Men_1_1 xx_ set_) := ⟨Try.call67, fun F2 h2 vs xx_ r ha hr => by obtain rfl := ha; exact night_Men_1_1_w (h2 _ _ hz7) hr⟩
   obtain ⟨l2, n, h9, r10⟩ := b2_ok r4; clear r4
   refine o_call0 rfl Try.call56 rfl rfl rfl (night_desk_first_w hb_d_ h_listens h_hours h_rows hn8 h9) ?_; rintro _ F11 _ hF12 hn13 ⟨a15, n19, c16, Lb17, rfl, rfl, hz18, hq21⟩
   replace h_l := h_l.mono (iE_ok _) hF12
   replace h_out := h_out.mono (iE_ok _) hF12
   refine shO_L (lp (ln rfl)) ?_
   refine kO (kf (fS fO) kr) ?_
   refine om rfl rfl (ox rfl rfl rfl (ox rfl rfl rfl (oa rfl rfl (oa rfl rfl (nsr (om rfl rfl ?_))))))
   refine ov ((v_eqlNil Try.underlying27 rfl).b (nilq_dec hq21)) rfl ?_
   refine shO_nil ?_
   refine shW_condP rfl (fun c22 => ?_) (fun c22 => ?_)
   · have r23 := ite_t r10 c22; clear r10
     refine wsr (oa rfl rfl (shO_nil ?_))
     refine kW (kc kn) ?_
     refine shW_ret (andThen_ret (andThen_ret ?_))
     refine q_res1 Try.results66 (res_tmp rfl) (sr) ?_
     obtain ⟨rfl, rfl⟩ := inj2 r23
     exact ⟨_, _, rfl, rfl, h_out⟩
   have r24 := ite_f r10 c22; clear r10
   refine shW_skip (wsr (om rfl rfl ?_))
   refine o_store (i := 0) Try.sizeOf27 rfl rfl rfl rfl (Nat.le_of_ble_eq_true rfl) ?_
   refine shO_L (L' := (b_out, .cells #[.slice l_a l.length l_c] 27 (0, 0)) :: (Lb17 ++ [])) rfl ?_
   refine nsr (oa rfl rfl (shO_nil ?_))
   refine kW (kc kn) ?_
   refine shW_ret (andThen_ret ?_)
   refine q_res1 Try.results66 (res_tmp rfl) (sr) ?_
   obtain ⟨rfl, rfl⟩ := inj2 r24
   exact ⟨_, _, rfl, rfl, h_l⟩
 have r25 := ite_f hr c3; clear hr
 refine shW_skip ?_
 refine shW_join (fun e1 F1 L1 => ∃ (out2 : List Int) (a26 : Option Addr) (c27 : Nat), night_Men_1B_j1 out2 = some (r, r2) ∧ FExt F F1 ∧ L1 = [(b_out, .cells #[.slice a26 out2.length c27] 27 (0, 0))] ∧ e1.sub [] ∧ RowR 1 (iE .i64) F1 a26 c27 out2) ?_ ?_
 · refine wsr (om rfl rfl (oa rfl rfl (shO_nil ?_)))
   refine shW_block ?_
   obtain ⟨g32, r33⟩ := gd_ok r25; clear r25
   refine shW_lp (fun fu2 e1 F1 L1 => ∃ (i : Int), Ctr from_ (listens2.length : Int) i fu2 ∧ ∃ (out3 : List Int) (a29 : Option Addr) (c30 : Nat), night_Men_1B_l2 l set_ many listens hours rows listens2 hours2 rec_ fu2 i out3 = some (r, r2) ∧ FExt F F1 ∧ L1 = [(b2, .cells #[.int .i64 set_] 3 (0, 0)), (b_out, .cells #[.slice a29 out3.length c30] 27 (0, 0))] ∧ e1.sub [(0, .slice l_a l.length l_c), (3, .int .i64 many), (6, .pointer (some ⟨b_w, 0, none⟩)), (7, .pointer (some ⟨b_pick, 0, none⟩)), (9, .pointer (some ⟨b2, 0, none⟩)), (15, .int .i64 i)] ∧ RowR 1 (iE .i64) F1 a29 c30 out3) _ (m0 kr ⟨_, Ctr.start _ _, out, out_a, out_c, r33, FExt.refl _, rfl, (sc rfl (sc rfl (sc rfl (sc rfl (sc rfl (sc rfl (sn _))))))), h_out⟩) ?_
   rintro fu2 e1 F38 _ ⟨i, hk34, out3, a29, c30, r36, hF39, rfl, he37, h31⟩
   refine shW_env _ he37 ?_; clear he37
   replace h_l := h_l.mono (iE_ok _) hF39
   replace h_listens := h_listens.mono (slE_ok (iE_ok _)) hF39
   replace h_hours := h_hours.mono (slE_ok (iE_ok _)) hF39
   replace h_rows := h_rows.mono (arE_ok (n := 64) (sz := 1) cB_ok) hF39
   replace h_listens2 := h_listens2.mono (slE_ok (iE_ok _)) hF39
   replace h_hours2 := h_hours2.mono (slE_ok (iE_ok _)) hF39
   replace hb_d_ := hF39 _ _ hb_d_
   replace hb_d := hF39 _ _ hb_d
   replace hb_w := hF39 _ _ hb_w
   replace hb_pick := hF39 _ _ hb_pick
   refine shW_seq (wsr (om rfl rfl ?_))
   refine ov (v_fieldAddr fa_26_0 rfl) rfl ?_
   refine ov (v_load Try.isAgg23 rfl (Has.frozen hb_w) rfl) rfl ?_
   refine ov (v_lenS Try.underlying23 rfl) rfl ?_
   refine ov (v_lssK rfl rfl) rfl ?_
   refine shO_nil ?_
   refine shW_condP rfl (fun c41 => ?_) (fun c41 => ?_)
   · obtain ⟨fu2, rfl, hk42⟩ := Ctr.succ hk34 c41
     rw [night_Men_1B_l2] at r36
     refine shW_skip (shW_seq ?_)
     refine shW_block ?_
     refine shW_seq ?_
     refine shW_drawM [(.still, 0), (.still, 1), (.still, 3), (.pre, 4), (.still, 6), (.still, 7), (.still, 8), (.still, 9), (.still, 10), (.still, 11), (.still, 12), (.still, 13), (.seq, 2), (.alloc (.cells #[.int .i64 i] 3 (0, 0)) (fun b => .slice (some ⟨b, 0, none⟩) 1 1) [(39, .int .i64 i)], 4), (.seq, 5), (.seq, 14)] (by kernel_rfl) (by kernel_rfl) (⟨⟨_, _, rfl, rfl, rfl, rfl, rfl, mk_build rfl (buildSlice_all slt_27 [.int .i64 i] rfl (by decide) (by simp [Value.cells]) (by decide))⟩, trivial⟩) (by rfl) (by kernel_rfl) ?_
     refine shM_v (v := .func (.func 66) #[] #[.pointer (some ⟨b_d, 0, none⟩), .pointer (some ⟨b_out, 0, none⟩), .pointer (some ⟨b_w, 0, none⟩), .pointer (some ⟨b_pick, 0, none⟩)]) (ek := [(7, .pointer (some ⟨b_pick, 0, none⟩))]) (Ls := []) rfl rfl rfl rfl ((sc rfl (sn _))) (by kernel_rfl) sm (fun H F' L' hF' hL' => v_load Try.isAgg122 rfl ((Has.frozen hb_pick).ext hF' hL') rfl) ?_
     refine shM_v (v := .slice l_a l.length l_c) (ek := [(0, .slice l_a l.length l_c)]) (Ls := []) rfl rfl rfl rfl ((sc rfl (sn _))) (by kernel_rfl) sm (fun H F' L' hF' hL' => v_move rfl) ?_
     refine shM_v (v := .int .i64 i) (ek := [(15, .int .i64 i)]) (Ls := []) rfl rfl rfl rfl ((sc rfl (sn _))) (by kernel_rfl) sm (fun H F' L' hF' hL' => v_move rfl) ?_
     refine ⟨⟨_, rfl, (sc rfl (sn _)), by kernel_rfl⟩, ?_⟩
     refine shM_v (v := .int .i64 set_) (ek := [(9, .pointer (some ⟨b2, 0, none⟩))]) (Ls := [(b2, .cells #[.int .i64 set_] 3 (0, 0))]) rfl rfl rfl rfl ((sc rfl (sn _))) (by kernel_rfl) (s0 (s2 (s1 sr))) (fun H F' L' hF' hL' => v_load Try.isAgg3 rfl ((Has.own 0 rfl).ext hF' hL') rfl) ?_
     refine shM_v (v := .int .i64 i) (ek := [(15, .int .i64 i)]) (Ls := []) rfl rfl rfl rfl ((sc rfl (sn _))) (by kernel_rfl) sm (fun H F' L' hF' hL' => v_move rfl) ?_
     obtain ⟨g43, r44⟩ := gd_ok r36; clear r36
     refine shM_v (v := .int .i64 (shl 1 i)) (ek := [(43, .int .i64 i)]) (Ls := []) rfl rfl rfl rfl ((sc rfl (sn _))) (by kernel_rfl) sm (fun H F' L' hF' hL' => v_shl rfl rfl g43) ?_
     refine shM_v (v := .int .i64 (bor set_ (shl 1 i))) (ek := [(42, .int .i64 set_), (44, .int .i64 (shl 1 i))]) (Ls := []) rfl rfl rfl rfl ((sc rfl (sc rfl (sn _)))) (by kernel_rfl) sm (fun H F' L' hF' hL' => v_or rfl rfl) ?_
     refine shM_v (v := .int .i64 i) (ek := [(15, .int .i64 i)]) (Ls := []) rfl rfl rfl rfl ((sc rfl (sn _))) (by kernel_rfl) sm (fun H F' L' hF' hL' => v_move rfl) ?_
     refine shM_v (v := .int .i64 (i + 1)) (ek := [(46, .int .i64 i)]) (Ls := []) rfl rfl rfl rfl ((sc rfl (sn _))) (by kernel_rfl) sm (fun H F' L' hF' hL' => v_add rfl rfl (Ctr.r64 hk34 c41 g32)) ?_
     refine shM_v (v := .int .i64 many) (ek := [(3, .int .i64 many)]) (Ls := []) rfl rfl rfl rfl ((sc rfl (sn _))) (by kernel_rfl) sm (fun H F' L' hF' hL' => v_move rfl) ?_
     obtain ⟨g45, r46⟩ := gd_ok r44; clear r44
     refine shM_v (v := .int .i64 (many - 1)) (ek := [(48, .int .i64 many)]) (Ls := []) rfl rfl rfl rfl ((sc rfl (sn _))) (by kernel_rfl) sm (fun H F' L' hF' hL' => v_sub rfl rfl g45) ?_
     refine ⟨_, [(37, .slice l_a l.length l_c)], rfl, rfl, (sc rfl (sn _)), by kernel_rfl, ?_⟩; intro H
     obtain ⟨l3, h47, r48⟩ := b1_ok r46; clear r46
     refine o_call0 rfl Try.call68 rfl rfl rfl (slices_Clone_int_int_w h_l h47) ?_; rintro _ F49 _ hF50 hn51 ⟨a53, n57, c54, Lb55, rfl, rfl, hz56⟩
     replace h_listens := h_listens.mono (slE_ok (iE_ok _)) hF50
     replace h_hours := h_hours.mono (slE_ok (iE_ok _)) hF50
     replace h_rows := h_rows.mono (arE_ok (n := 64) (sz := 1) cB_ok) hF50
     replace h_listens2 := h_listens2.mono (slE_ok (iE_ok _)) hF50
     replace h_hours2 := h_hours2.mono (slE_ok (iE_ok _)) hF50
     replace h31 := h31.mono (iE_ok _) hF50
     replace hb_d_ := hF50 _ _ hb_d_
     replace hb_d := hF50 _ _ hb_d
     replace hb_w := hF50 _ _ hb_w
     replace hb_pick := hF50 _ _ hb_pick
     replace hz56 := hz56.new fun p hp => hn51 p (by simp [hp])
     refine shO_L (lp (ln rfl)) ?_
     refine kO (kf (fS fO) (kf (fS fO) kr)) ?_
     refine shO_nil ⟨_, rfl, hF50, [13, 12, 11, 10, 9, 8, 7, 6, 3, 0], by kernel_rfl, .inl (.inr (fun d h => by cases h; rfl)), (List.forall_mem_cons.2 ⟨sm, (List.forall_mem_cons.2 ⟨sm, (List.forall_mem_cons.2 ⟨sm, (List.forall_mem_cons.2 ⟨sm, (List.forall_mem_cons.2 ⟨sm, (List.forall_mem_cons.2 ⟨sm, (List.forall_mem_cons.2 ⟨sm, (List.forall_mem_cons.2 ⟨s0 (s2 (s1 (s3 sr))), (List.forall_mem_cons.2 ⟨sm, (List.forall_mem_cons.2 ⟨sm, (fun _ h => absurd h List.not_mem_nil)⟩)⟩)⟩)⟩)⟩)⟩)⟩)⟩)⟩)⟩), ?_⟩
     refine shM_bs rfl ?_; intro b59 hb59
     refine shM_L (L' := (b59, .cells #[.int .i64 i] 3 (0, 0)) :: ((b2, .cells #[.int .i64 set_] 3 (0, 0)) :: ((b_out, .cells #[.slice a29 out3.length c30] 27 (0, 0)) :: (Lb55 ++ [])))) rfl ?_
     refine ⟨_, [(38, .slice a53 n57 c54), (40, .slice (some ⟨b59, 0, none⟩) 1 1)], rfl, rfl, (sc rfl (sc rfl (sn _))), by kernel_rfl, ?_⟩; intro H
     obtain ⟨l4, h60, g61, r62⟩ := ap_ok r48; clear r48
     refine o_appZ (xs := l3) (ys := [i]) (zs := l4) rfl slt_27 rfl rfl (Nat.le_refl _) (fun _ => .c (.c (.c .h))) hz56 (SrcR.box (vss := [[.int .i64 i]]) (ys := [i]) 0 rfl (iE_ok _) (.cons rfl .nil) rfl rfl) h60 g61 (by decide) ?_; intro a63 n67 c64 Lb65 hz66
     refine kO (kd kr) ?_
     refine shO_nil ⟨_, rfl, FExt.refl _, [13, 12, 11, 10, 9, 8, 7, 6, 0], by kernel_rfl, .inl (.inr (fun d h => by cases h; rfl)), (List.forall_mem_cons.2 ⟨sm, (List.forall_mem_cons.2 ⟨sm, (List.forall_mem_cons.2 ⟨sm, (List.forall_mem_cons.2 ⟨sm, (List.forall_mem_cons.2 ⟨sm, (List.forall_mem_cons.2 ⟨sm, (List.forall_mem_cons.2 ⟨sm, (List.forall_mem_cons.2 ⟨s0 (s2 (s1 (s3 sr))), (List.forall_mem_cons.2 ⟨sm, (fun _ h => absurd h List.not_mem_nil)⟩)⟩)⟩)⟩)⟩)⟩)⟩)⟩)⟩), ?_⟩
     refine ⟨_, [(36, .func (.func 66) #[] #[.pointer (some ⟨b_d, 0, none⟩), .pointer (some ⟨b_out, 0, none⟩), .pointer (some ⟨b_w, 0, none⟩), .pointer (some ⟨b_pick, 0, none⟩)]), (41, .slice a63 n67 c64), (45, .int .i64 (bor set_ (shl 1 i))), (47, .int .i64 (i + 1)), (49, .int .i64 (many - 1))], rfl, rfl, (sc rfl (sc rfl (sc rfl (sc rfl (sc rfl (sn _)))))), by kernel_rfl, ?_⟩; intro H
     obtain rfl := (SlR.caps hz66).1
     refine shO_freezeR (Nat.le_refl _) (iE_ok _) (fC (fC fP)) hz66 ?_; intro F69 hF70 h71
     replace h_listens := h_listens.mono (slE_ok (iE_ok _)) hF70
     replace h_hours := h_hours.mono (slE_ok (iE_ok _)) hF70
     replace h_rows := h_rows.mono (arE_ok (n := 64) (sz := 1) cB_ok) hF70
     replace h_listens2 := h_listens2.mono (slE_ok (iE_ok _)) hF70
     replace h_hours2 := h_hours2.mono (slE_ok (iE_ok _)) hF70
     replace h31 := h31.mono (iE_ok _) hF70
     replace hb_d_ := hF70 _ _ hb_d_
     replace hb_d := hF70 _ _ hb_d
     replace hb_w := hF70 _ _ hb_w
     replace hb_pick := hF70 _ _ hb_pick
     obtain ⟨ok, out4, h72, r73⟩ := b2_ok r62; clear r62
     refine o_callG (Lb := [(b_out, .cells #[.slice a29 out3.length c30] 27 (0, 0))]) (Lr := [(b2, .cells #[.int .i64 set_] 3 (0, 0))]) rfl Try.call66 rfl rfl rfl (((fC fO).trans (pC pR))) (hrec h71 hb_d hb_d_ h_listens h_hours h_rows h31 hb_w h_listens2 h_hours2 hb_pick h72) ?_; rintro _ F74 _ hF75 hd77 hn76 ⟨a78, c79, rfl, rfl, h80⟩
     refine shO_L (lb (ln rfl)) ?_
     refine shO_nil ⟨_, rfl, (hF70.trans hF75), [], by kernel_rfl, .inl (.inl rfl), (fun _ h => absurd h List.not_mem_nil), ?_⟩
     refine shM_nil ?_
     refine shW_cond rfl (fun c81 => ?_) (fun c81 => ?_)
     · have r82 := bt r73 c81; clear r73
       refine wsr (oa rfl rfl (shO_nil ?_))
       refine kW (kc kn) ?_
       refine shW_ret (inBlock_ret (andThen_ret (andThen_ret (inBlock_ret (andThen_ret ?_)))))
       refine q_res1 Try.results66 (res_tmp rfl) (sr) ?_
       obtain ⟨rfl, rfl⟩ := inj2 r82
       exact ⟨_, _, rfl, rfl, h80⟩
     have r83 := bf r73 c81; clear r73
     refine shW_skip (inBlock_n (id := 1) (shW_region (om rfl rfl ?_)))
     refine ov (v_add rfl rfl (Ctr.r64 hk34 c41 g32)) rfl ?_
     refine oa rfl rfl (shO_nil ?_)
     exact le (kf (fC fO) kr) ⟨_, hk42, out4, a78, c79, r83, (((hF39.trans hF50).trans hF70).trans hF75), rfl, (sc rfl (sc rfl (sc rfl (sc rfl (sc rfl (sc rfl (sn _))))))), h80⟩
   obtain rfl := Ctr.zero hk34 c41
   rw [night_Men_1B_l2] at r36
   refine shW_exit (andThen_exit (andThen_exit ?_))
   refine inBlock_exit ?_
   exact mi (kd kr) ⟨out3, a29, c30, r36, hF39, rfl, (sn _), h31⟩
 rintro e1 F86 _ ⟨out2, a26, c27, r84, hF87, rfl, he85, h28⟩
 refine shW_env _ he85 ?_; clear he85
 rw [night_Men_1B_j1] at r84
 refine wsr (oa rfl rfl (shO_nil (shW_ret ?_)))
 refine q_res1 Try.results66 (res_tmp rfl) (sr) ?_
 obtain ⟨rfl, rfl⟩ := inj2 r84
 exact ⟨_, _, rfl, rfl, h28⟩
set_option maxHeartbeats 1000000 in
theorem night_Men_1_w : ∀ (fu : Nat) {l_a : Option Addr} {l_c : Nat} {l : List Int} {set_ : Int} {from_ : Int} {many : Int} {b_d : Nat} {b_d_ : Nat} {listens_a : Option Addr} {listens_c : Nat} {listens : List (List Int)} {hours_a : Option Addr} {hours_c : Nat} {hours : List (List Int)} {v1 : Value} {rows_a : Option Addr} {rows_c : Nat} {rows : List (List Bool)} {mb_d_ : Nat × Nat} {mb_d : Nat × Nat} {b_out : Nat} {out_a : Option Addr} {out_c : Nat} {out : List Int} {b_w : Nat} {listens2_a : Option Addr} {listens2_c : Nat} {listens2 : List (List Int)} {hours2_a : Option Addr} {hours2_c : Nat} {hours2 : List (List Int)} {mb_w : Nat × Nat} {b_pick : Nat} {mb_pick : Nat × Nat} {F : FS} (_ : RowR 1 (iE .i64) F l_a l_c l) (_ : F b_d = some (.cells #[.pointer (some ⟨b_d_, 0, none⟩)] 105 mb_d)) (_ : F b_d_ = some (.cells #[.slice listens_a listens.length listens_c, .slice hours_a hours.length hours_c, v1, .slice rows_a rows.length rows_c] 139 mb_d_)) (_ : RowR 1 (slE 1 (iE .i64)) F listens_a listens_c listens) (_ : RowR 1 (slE 1 (iE .i64)) F hours_a hours_c hours) (_ : RowR 64 (arE 64 cB) F rows_a rows_c rows) (_ : RowR 1 (iE .i64) F out_a out_c out) (_ : F b_w = some (.cells #[.slice listens2_a listens2.length listens2_c, .slice hours2_a hours2.length hours2_c] 26 mb_w)) (_ : RowR 1 (slE 1 (iE .i64)) F listens2_a listens2_c listens2) (_ : RowR 1 (slE 1 (iE .i64)) F hours2_a hours2_c hours2) (_ : F b_pick = some (.cells (#[.func (.func 66) #[] #[.pointer (some ⟨b_d, 0, none⟩), .pointer (some ⟨b_out, 0, none⟩), .pointer (some ⟨b_w, 0, none⟩), .pointer (some ⟨b_pick, 0, none⟩)]]) 122 mb_pick)) {r : Bool} {r2 : List Int} , night_Men_1 fu l set_ from_ many listens hours rows out listens2 hours2 = some (r, r2) → SH.Spec Try.prog 66 #[.slice l_a l.length l_c, .int .i64 set_, .int .i64 from_, .int .i64 many, .pointer (some ⟨b_d, 0, none⟩), .pointer (some ⟨b_out, 0, none⟩), .pointer (some ⟨b_w, 0, none⟩), .pointer (some ⟨b_pick, 0, none⟩)] F [(b_out, .cells #[.slice out_a out.length out_c] 27 (0, 0))] fun F' L' v => ∃ (r2a : Option Addr) (r2c : Nat), v = .bool r ∧ L' = [(b_out, .cells #[.slice r2a r2.length r2c] 27 (0, 0))] ∧ RowR 1 (iE .i64) F' r2a r2c r2 := by
  intro fu
  induction fu with
  | zero => intros; rename_i hr; rw [night_Men_1] at hr; cases hr
  | succ fu ih => intros; rename_i hr; rw [night_Men_1] at hr; exact night_Men_1B_w ih (by assumption) (by assumption) (by assumption) (by assumption) (by assumption) (by assumption) (by assumption) (by assumption) (by assumption) (by assumption) (by assumption) hr
set_option maxHeartbeats 1000000 in
theorem night_Men_w {listens_a : Option Addr} {listens_c : Nat} {listens : List (List Int)} {hours_a : Option Addr} {hours_c : Nat} {hours : List (List Int)} {F : FS} (h_listens : RowR 1 (slE 1 (iE .i64)) F listens_a listens_c listens) (h_hours : RowR 1 (slE 1 (iE .i64)) F hours_a hours_c hours) {r : List Int} {r2 : Int} (hr : night_Men listens hours = some (r, r2)) :
    SH.Spec Try.prog 17 #[.agg #[.slice listens_a listens.length listens_c, .slice hours_a hours.length hours_c]] F [] fun F' L' v => ∃ (ra : Option Addr) (rc : Nat), v = .tuple #[.slice ra r.length rc, .int .i64 r2] ∧ L' = [] ∧ RowR 1 (iE .i64) F' ra rc r := by
 refine spec_of_shW (args := [.agg #[.slice listens_a listens.length listens_c, .slice hours_a hours.length hours_c]]) Try.func17 rfl Try.ntmps17 (Nat.le_of_ble_eq_true rfl) ?_
 intro K _ _; rw [night_Men] at hr
 refine wsr ?_
 refine o_box rfl rfl ?_; intro b1 hb1
 refine oa rfl rfl (oa rfl rfl (shO_nil ?_))
 refine shW_scope ?_
 refine wsr ?_
 refine ov (v_loadA (cs := #[.slice listens_a listens.length listens_c, .slice hours_a hours.length hours_c]) Try.isAgg26 Try.sizeOf26 rfl (Has.own 0 rfl) (Nat.le_of_ble_eq_true rfl) rfl) rfl ?_
 obtain ⟨d, n, h2, r3⟩ := b2_ok hr; clear hr
 refine o_call0 rfl Try.call55 rfl rfl rfl (night_told_w h_listens h_hours h2) ?_; rintro _ F4 _ hF5 hn6 ⟨v8, Lb10, rfl, rfl, hp9⟩
 replace h_listens := h_listens.mono (slE_ok (iE_ok _)) hF5
 replace h_hours := h_hours.mono (slE_ok (iE_ok _)) hF5
 refine shO_L (lp (ln rfl)) ?_
 refine kO (kf (fS fO) kr) ?_
 refine om rfl rfl (ox rfl rfl rfl (ox rfl rfl rfl ?_))
 refine o_alloc rfl Try.zeroValue105 ?_; intro b11 hb11
 refine o_store (i := 0) Try.sizeOf105 rfl rfl hp9.one rfl (Nat.le_of_ble_eq_true rfl) ?_
 refine shO_L (L' := (b11, .cells #[v8] 105 (0, 0)) :: ((b1, .cells #[.slice listens_a listens.length listens_c, .slice hours_a hours.length hours_c] 26 (0, 0)) :: (Lb10 ++ []))) rfl ?_
 refine oa rfl rfl (shO_nil (shW_seq (wsr (om rfl rfl ?_))))
 refine ov (v_neq rfl rfl) rfl ?_
 refine shO_nil ?_
 refine shW_condP rfl (fun c12 => ?_) (fun c12 => ?_)
 · have r13 := ite_t r3 c12; clear r3
   refine wsr (om rfl rfl (oa rfl rfl (oa rfl rfl (shO_nil ?_))))
   refine kW kn ?_
   refine shW_ret (andThen_ret (noGoto_ret ?_))
   refine q_res2 Try.results17 (res_tmp rfl) (res_tmp rfl) (sr) ?_
   obtain ⟨rfl, rfl⟩ := inj2 r13
   exact ⟨_, _, rfl, rfl, RowR.nil _ _ _⟩
 have r14 := ite_f r3 c12; clear r3
 refine shW_skip (wsr ?_)
 refine o_alloc rfl Try.zeroValue27 ?_; intro b15 hb15
 refine shO_nil (shW_seq ?_)
 refine shW_label ?_
 obtain ⟨out, h19, r20⟩ := b1_ok r14; clear r14
 refine shW_join (fun e1 F1 L1 => ∃ (a16 : Option Addr) (c17 : Nat), FExt F4 F1 ∧ L1 = [(b15, .cells #[.slice a16 out.length c17] 27 (0, 0))] ∧ e1.sub [(6, .pointer (some ⟨b15, 0, none⟩))] ∧ RowR 1 (iE .i64) F1 a16 c17 out) ?_ ?_
 · clear r20
   refine wsr ?_
   refine ov (v_fieldAddr fa_26_0 rfl) rfl ?_
   refine ov (v_load Try.isAgg23 rfl (Has.own 2 rfl) rfl) rfl ?_
   refine ov (v_lenS Try.underlying23 rfl) rfl ?_
   obtain ⟨g21, r22⟩ := gd_ok h19; clear h19
   refine ov (v_add rfl rfl g21) rfl ?_
   refine om rfl rfl (shO_nil ?_)
   refine shW_block ?_
   obtain ⟨listens2, hours2, cried, rows, h23, r24⟩ := b4_ok r22; clear r22
   have h30 := hp9; rw [h23] at h30; obtain ⟨b25, m26, a31, c32, a34, c35, b37, es38, cl39, a41, c42, hv27, hz28, h33, h36, hR40, h43, hL29⟩ := ob_139_of h30; subst hv27; subst hL29
   refine shW_L (L' := [(b15, .cells #[.slice none 0 0] 27 (0, 0)), (b11, .cells #[.pointer (some ⟨b25, 0, none⟩)] 105 (0, 0)), (b1, .cells #[.slice listens_a listens.length listens_c, .slice hours_a hours.length hours_c] 26 (0, 0)), (b37, .map es38 cl39)]) rfl ?_
   refine shW_freeze 2 rfl hb1 ?_; intro F44 hF45 hz46
   refine shW_L (L' := [(b15, .cells #[.slice none 0 0] 27 (0, 0)), (b11, .cells #[.pointer (some ⟨b25, 0, none⟩)] 105 (0, 0)), (b37, .map es38 cl39)]) rfl ?_
   replace h_listens := h_listens.mono (slE_ok (iE_ok _)) hF45
   replace h_hours := h_hours.mono (slE_ok (iE_ok _)) hF45
   replace h33 := h33.mono (slE_ok (iE_ok _)) hF45
   replace h36 := h36.mono (slE_ok (iE_ok _)) hF45
   replace h43 := h43.mono (arE_ok (n := 64) (sz := 1) cB_ok) hF45
   replace hz28 := hF45 _ _ hz28
   refine shW_freeze 1 rfl hb11 ?_; intro F47 hF48 hz49
   refine shW_L (L' := [(b15, .cells #[.slice none 0 0] 27 (0, 0)), (b37, .map es38 cl39)]) rfl ?_
   replace h_listens := h_listens.mono (slE_ok (iE_ok _)) hF48
   replace h_hours := h_hours.mono (slE_ok (iE_ok _)) hF48
   replace h33 := h33.mono (slE_ok (iE_ok _)) hF48
   replace h36 := h36.mono (slE_ok (iE_ok _)) hF48
   replace h43 := h43.mono (arE_ok (n := 64) (sz := 1) cB_ok) hF48
   replace hz28 := hF48 _ _ hz28
   replace hz46 := hF48 _ _ hz46
   obtain ⟨g53, r54⟩ := gd_ok r24; clear r24
   refine shW_lpF (fun fu1 e1 F1 L1 => ∃ (k : Int), Ctr 0 ((listens.length : Int) + 1) k fu1 ∧ ∃ (out2 : List Int) (a50 : Option Addr) (c51 : Nat), night_Men_l1 listens hours listens2 hours2 rows fu1 k out2 = some out ∧ FExt F47 F1 ∧ L1 = [(b15, .cells #[.slice a50 out2.length c51] 27 (0, 0)), (b37, .map es38 cl39)] ∧ e1.sub [(1, .pointer (some ⟨b1, 0, none⟩)), (4, .pointer (some ⟨b11, 0, none⟩)), (6, .pointer (some ⟨b15, 0, none⟩)), (20, .int .i64 ((listens.length : Int) + 1)), (21, .int .i64 k)] ∧ RowR 1 (iE .i64) F1 a50 c51 out2) _ (m0 kr ⟨_, Ctr.start _ _, [], none, 0, r54, FExt.refl _, rfl, (sc rfl (sc rfl (sc rfl (sc rfl (sc rfl (sn _)))))), RowR.nil _ _ _⟩) ?_
   rintro fu1 e1 F59 _ ⟨k, hk55, out2, a50, c51, r57, hF60, rfl, he58, h52⟩
   refine shW_env _ he58 ?_; clear he58
   replace h_listens := h_listens.mono (slE_ok (iE_ok _)) hF60
   replace h_hours := h_hours.mono (slE_ok (iE_ok _)) hF60
   replace h33 := h33.mono (slE_ok (iE_ok _)) hF60
   replace h36 := h36.mono (slE_ok (iE_ok _)) hF60
   replace h43 := h43.mono (arE_ok (n := 64) (sz := 1) cB_ok) hF60
   replace hz28 := hF60 _ _ hz28
   replace hz46 := hF60 _ _ hz46
   replace hz49 := hF60 _ _ hz49
   refine wsr ?_
   refine ov (v_lssK rfl rfl) rfl ?_
   refine shO_nil (shW_seq ?_)
   refine shW_condP rfl (fun c62 => ?_) (fun c62 => ?_)
   · obtain ⟨fu1, rfl, hk63⟩ := Ctr.succ hk55 c62
     rw [night_Men_l1] at r57
     refine shW_skip (shW_seq ?_)
     refine shW_block ?_
     refine wsr (om rfl rfl (oa rfl rfl (nsr ?_)))
     refine o_alloc rfl Try.zeroValue122 ?_; intro b64 hb64
     refine nsr ?_
     refine ov (v_makeFunc rfl rfl) rfl ?_
     refine o_store (i := 0) Try.sizeOf122 rfl rfl rfl rfl (Nat.le_of_ble_eq_true rfl) ?_
     refine shO_L (L' := [(b64, .cells (#[.func (.func 66) #[] #[.pointer (some ⟨b11, 0, none⟩), .pointer (some ⟨b15, 0, none⟩), .pointer (some ⟨b1, 0, none⟩), .pointer (some ⟨b64, 0, none⟩)]]) 122 (0, 0)), (b15, .cells #[.slice a50 out2.length c51] 27 (0, 0)), (b37, .map es38 cl39)]) rfl ?_
     refine nsr ?_
     refine ov (v_load Try.isAgg122 rfl (Has.own 0 rfl) rfl) rfl ?_
     refine om rfl rfl ?_
     refine shO_freeze 0 rfl hb64 ?_; intro F65 hF66 hz67
     refine shO_L (L' := [(b15, .cells #[.slice a50 out2.length c51] 27 (0, 0)), (b37, .map es38 cl39)]) rfl ?_
     replace h_listens := h_listens.mono (slE_ok (iE_ok _)) hF66
     replace h_hours := h_hours.mono (slE_ok (iE_ok _)) hF66
     replace h33 := h33.mono (slE_ok (iE_ok _)) hF66
     replace h36 := h36.mono (slE_ok (iE_ok _)) hF66
     replace h43 := h43.mono (arE_ok (n := 64) (sz := 1) cB_ok) hF66
     replace h52 := h52.mono (iE_ok _) hF66
     replace hz28 := hF66 _ _ hz28
     replace hz46 := hF66 _ _ hz46
     replace hz49 := hF66 _ _ hz49
     obtain ⟨ok, out3, h68, r69⟩ := b2_ok r57; clear r57
     refine o_callG (Lb := [(b15, .cells #[.slice a50 out2.length c51] 27 (0, 0))]) (Lr := [(b37, .map es38 cl39)]) rfl Try.call66 rfl rfl rfl (pR) ((night_Men_1_w FU) (RowR.nil _ _ _) hz49 hz28 h33 h36 h43 h52 hz46 h_listens h_hours hz67 h68) ?_; rintro _ F70 _ hF71 hd73 hn72 ⟨a74, c75, rfl, rfl, h76⟩
     refine shO_L (lb (ln rfl)) ?_
     refine shO_nil ?_
     refine shW_cond rfl (fun c77 => ?_) (fun c77 => ?_)
     · have r78 := bt r69 c77; clear r69
       refine shW_exit ?_
       refine inBlock_other rfl ?_
       refine andThen_exit (andThen_exit ?_)
       refine inBlock_exit ?_
       obtain rfl := inj1 r78
       exact mi (kc kn) ⟨a74, c75, ((((hF45.trans hF48).trans hF60).trans hF66).trans hF71), rfl, (sc rfl (sn _)), h76⟩
     have r79 := bf r69 c77; clear r69
     refine shW_skip (inBlock_n (id := 1) (shW_region ?_))
     refine ov (v_add rfl rfl (Ctr.r64 hk55 c62 g53)) rfl ?_
     refine om rfl rfl (shO_nil ?_)
     refine lf ?_
     exact mf kr ⟨_, hk63, out3, a74, c75, r79, ((hF60.trans hF66).trans hF71), rfl, (sc rfl (sc rfl (sc rfl (sc rfl (sc rfl (sn _)))))), h76⟩
   obtain rfl := Ctr.zero hk55 c62
   rw [night_Men_l1] at r57
   refine shW_exit (andThen_exit (andThen_exit ?_))
   refine inBlock_exit ?_
   obtain rfl := inj1 r57
   exact mi (kc kn) ⟨a50, c51, ((hF45.trans hF48).trans hF60), rfl, (sc rfl (sn _)), h52⟩
 rintro e1 F81 _ ⟨a16, c17, hF82, rfl, he80, h18⟩
 refine shW_env _ he80 ?_; clear he80
 refine wsr ?_
 refine ov (v_load Try.isAgg27 rfl (Has.own 0 rfl) rfl) rfl ?_
 refine oa rfl rfl (oa rfl rfl (shO_nil ?_))
 refine kW kn ?_
 refine shW_ret (noGoto_ret ?_)
 refine q_res2 Try.results17 (res_tmp rfl) (res_tmp rfl) (sr) ?_
 obtain ⟨rfl, rfl⟩ := inj2 r20
 exact ⟨_, _, rfl, rfl, h18⟩
set_option maxHeartbeats 1000000 in
theorem night_Cries_w {listens_a : Option Addr} {listens_c : Nat} {listens : List (List Int)} {hours_a : Option Addr} {hours_c : Nat} {hours : List (List Int)} {asleep : Int} {F : FS} (h_listens : RowR 1 (slE 1 (iE .i64)) F listens_a listens_c listens) (h_hours : RowR 1 (slE 1 (iE .i64)) F hours_a hours_c hours) {r : Int} {r2 : Int} (hr : night_Cries listens hours asleep = some (r, r2)) :
    SpecV Try.prog 20 #[.agg #[.slice listens_a listens.length listens_c, .slice hours_a hours.length hours_c], .int .i64 asleep] F (.tuple #[.int .i64 r, .int .i64 r2]) := by
 refine spec_of_shW (args := [.agg #[.slice listens_a listens.length listens_c, .slice hours_a hours.length hours_c], .int .i64 asleep]) Try.func20 rfl Try.ntmps20 (Nat.le_of_ble_eq_true rfl) ?_
 intro K _ _; rw [night_Cries] at hr
 refine wsr ?_
 refine o_box rfl rfl ?_; intro b1 hb1
 refine oa rfl rfl (oa rfl rfl (nsr ?_))
 refine ov (v_loadA (cs := #[.slice listens_a listens.length listens_c, .slice hours_a hours.length hours_c]) Try.isAgg26 Try.sizeOf26 rfl (Has.own 0 rfl) (Nat.le_of_ble_eq_true rfl) rfl) rfl ?_
 obtain ⟨d, n, h2, r3⟩ := b2_ok hr; clear hr
 refine o_call0 rfl Try.call58 rfl rfl rfl (night_opened_w h_listens h_hours h2) ?_; rintro _ F4 _ hF5 hn6 ⟨v8, Lb10, rfl, rfl, hp9⟩
 refine shO_L (lp (ln rfl)) ?_
 refine kO (kf (fS fO) kr) ?_
 refine om rfl rfl (ox rfl rfl rfl (ox rfl rfl rfl (oa rfl rfl (oa rfl rfl (shO_nil (shW_seq (wsr (om rfl rfl ?_))))))))
 refine ov (v_neq rfl rfl) rfl ?_
 refine shO_nil ?_
 refine shW_condP rfl (fun c11 => ?_) (fun c11 => ?_)
 · have r12 := ite_t r3 c11; clear r3
   refine wsr (om rfl rfl (oa rfl rfl (oa rfl rfl (shO_nil ?_))))
   refine kW kn ?_
   refine shW_ret (andThen_ret ?_)
   refine q_res2 Try.results20 (res_tmp rfl) (res_tmp rfl) (sr) ?_
   obtain ⟨rfl, rfl⟩ := inj2 r12
   exact rfl
 have r13 := ite_f r3 c11; clear r3
 refine shW_skip (shW_seq (shW_seq ?_))
 obtain ⟨listens2, hours2, cried, rows, h14, r15⟩ := b4_ok r13; clear r13
 have h21 := hp9; rw [h14] at h21; obtain ⟨b16, m17, a22, c23, a25, c26, b28, es29, cl30, a32, c33, hv18, hz19, h24, h27, hR31, h34, hL20⟩ := ob_139_of h21; subst hv18; subst hL20
 refine shW_L (L' := [(b1, .cells #[.slice listens_a listens.length listens_c, .slice hours_a hours.length hours_c] 26 (0, 0)), (b28, .map es29 cl30)]) rfl ?_
 refine shW_region (om rfl rfl (om rfl rfl ?_))
 obtain ⟨n2, h35, r36⟩ := b1_ok r15; clear r15
 refine o_callV rfl Try.call72 rfl rfl rfl (night_desk_sets_w hz19 h24 h27 h35) ?_
 obtain ⟨g37, r38⟩ := gd_ok r36; clear r36
 refine ov (v_sub rfl rfl g37) rfl ?_
 obtain ⟨ok, h39, r40⟩ := b1_ok r38; clear r38
 refine o_callV rfl Try.call59 rfl rfl rfl (night_in_w h39) ?_
 refine ov (v_notB rfl) rfl ?_
 refine shO_nil ?_
 refine shW_cond rfl (fun c41 => ?_) (fun c41 => ?_)
 · have r42 := bt r40 c41; clear r40
   refine wsr (oa rfl rfl (oa rfl rfl (shO_nil ?_)))
   refine kW kn ?_
   refine shW_ret (andThen_ret ?_)
   refine q_res2 Try.results20 (res_tmp rfl) (res_tmp rfl) (sr) ?_
   obtain ⟨rfl, rfl⟩ := inj2 r42
   exact rfl
 have r43 := bf r40 c41; clear r40
 refine shW_skip (wsr (om rfl rfl (om rfl rfl ?_)))
 obtain ⟨n3, cried2, h44, r45⟩ := b2_ok r43; clear r43
 refine o_callG (Lb := [(b28, .map es29 cl30)]) (Lr := [(b1, .cells #[.slice listens_a listens.length listens_c, .slice hours_a hours.length hours_c] 26 (0, 0))]) rfl Try.call73 rfl rfl rfl (((fC fO).trans (pC pR))) (night_desk_cries_w hz19 h24 h27 hR31 h44) ?_; rintro _ F46 _ hF47 hd49 hn48 ⟨es50, cl51, rfl, rfl, hR52⟩
 refine shO_L (lb (ln rfl)) ?_
 refine oa rfl rfl (oa rfl rfl (shO_nil ?_))
 refine kW kn ?_
 refine shW_ret ?_
 refine q_res2 Try.results20 (res_tmp rfl) (res_tmp rfl) (sr) ?_
 obtain ⟨rfl, rfl⟩ := inj2 r45
 exact rfl
set_option maxHeartbeats 1000000 in
theorem night_desk_count_w {b_d : Nat} {listens_a : Option Addr} {listens_c : Nat} {listens : List (List Int)} {hours_a : Option Addr} {hours_c : Nat} {hours : List (List Int)} {v1 : Value} {rows_a : Option Addr} {rows_c : Nat} {rows : List (List Bool)} {mb_d : Nat × Nat} {F : FS} (hb_d : F b_d = some (.cells #[.slice listens_a listens.length listens_c, .slice hours_a hours.length hours_c, v1, .slice rows_a rows.length rows_c] 139 mb_d)) (h_listens : RowR 1 (slE 1 (iE .i64)) F listens_a listens_c listens) (h_hours : RowR 1 (slE 1 (iE .i64)) F hours_a hours_c hours) (h_rows : RowR 64 (arE 64 cB) F rows_a rows_c rows) {r : Int} (hr : night_desk_count listens hours rows = some r) :
    SpecV Try.prog 75 #[.pointer (some ⟨b_d, 0, none⟩)] F (.int .i64 r) := by
 refine spec_of_shW (args := [.pointer (some ⟨b_d, 0, none⟩)]) Try.func75 rfl Try.ntmps75 (Nat.le_of_ble_eq_true rfl) ?_
 intro K _ _; rw [night_desk_count] at hr
 refine wsr (oa rfl rfl (nsr (oa rfl rfl (shO_nil ?_))))
 obtain ⟨n, h2, r3⟩ := b1_ok hr; clear hr
 refine shW_join (fun e1 F1 L1 => FExt F F1 ∧ L1 = [] ∧ e1.sub [(3, .int .i64 n)]) ?_ ?_
 · clear r3
   refine wsr (om rfl rfl ?_)
   refine ov (v_nilCheck rfl) rfl ?_
   refine ov (v_fieldAddr fa_139_0 rfl) rfl ?_
   refine ov (v_fieldAddr fa_26_1 rfl) rfl ?_
   refine ov (v_load Try.isAgg24 rfl (Has.frozen hb_d) rfl) rfl ?_
   refine ov (v_lenS Try.underlying24 rfl) rfl ?_
   refine om rfl rfl (shO_nil ?_)
   refine shW_block ?_
   refine shW_lp (fun fu1 e1 F1 L1 => ∃ (tl : List (List Int)) (k : Int), tl.length = fu1 ∧ Lst hours k tl ∧ ∃ (n2 : Int), night_desk_count_l1 listens hours rows tl k n2 = some n ∧ FExt F F1 ∧ L1 = [] ∧ e1.sub [(0, .pointer (some ⟨b_d, 0, none⟩)), (3, .int .i64 n2), (11, .int .i64 (hours.length : Int)), (12, .int .i64 k)]) _ (m0 kr ⟨_, _, rfl, Lst.start _, 1, h2, FExt.refl _, rfl, (sc rfl (sc rfl (sc rfl (sc rfl (sn _)))))⟩) ?_
   rintro fu1 e1 F8 _ ⟨tl, k, hn5, hk4, n2, r6, hF9, rfl, he7⟩
   refine shW_env _ he7 ?_; clear he7
   replace h_listens := h_listens.mono (slE_ok (iE_ok _)) hF9
   replace h_hours := h_hours.mono (slE_ok (iE_ok _)) hF9
   replace h_rows := h_rows.mono (arE_ok (n := 64) (sz := 1) cB_ok) hF9
   replace hb_d := hF9 _ _ hb_d
   refine wsr ?_
   refine ov (v_lssK rfl rfl) rfl ?_
   refine shO_nil (shW_seq ?_)
   refine shW_condP rfl (fun c11 => ?_) (fun c11 => ?_)
   · obtain ⟨x, tl2, rfl, hx13, g14, hk12⟩ := Lst.succ hk4 c11
     rw [night_desk_count_l1] at r6
     refine shW_skip ?_
     obtain ⟨n3, h15, r16⟩ := b1_ok r6; clear r6
     refine shW_join (fun e1 F1 L1 => FExt F8 F1 ∧ L1 = [] ∧ e1.sub [(0, .pointer (some ⟨b_d, 0, none⟩)), (3, .int .i64 n3), (11, .int .i64 (hours.length : Int)), (12, .int .i64 k)]) ?_ ?_
     · clear r16
       refine shW_block ?_
       refine wsr (om rfl rfl (oa rfl rfl (nsr ?_)))
       refine o_alloc rfl Try.zeroValue3 ?_; intro b17 hb17
       refine o_store (i := 0) Try.sizeOf3 rfl rfl rfl rfl (Nat.le_of_ble_eq_true rfl) ?_
       refine shO_L (L' := [(b17, .cells #[.int .i64 0] 3 (0, 0))]) rfl ?_
       refine shO_nil ?_
       obtain ⟨k2, h18, r19⟩ := b1_ok h15; clear h15
       refine shW_join (fun e1 F1 L1 => FExt F8 F1 ∧ L1 = [(b17, .cells #[.int .i64 k2] 3 (0, 0))] ∧ e1.sub [(0, .pointer (some ⟨b_d, 0, none⟩)), (3, .int .i64 n2), (5, .pointer (some ⟨b17, 0, none⟩)), (11, .int .i64 (hours.length : Int)), (12, .int .i64 k)]) ?_ ?_
       · clear r19
         refine wsr (om rfl rfl (om rfl rfl ?_))
         obtain ⟨y, h20, r21⟩ := b1_ok h18; clear h18
         refine o_call0 rfl Try.call62 rfl rfl rfl (night_desk_fit_w hb_d h_listens h_hours h_rows h20) ?_; rintro _ F22 _ hF23 hn24 ⟨cp26, rfl, rfl, hit27⟩
         refine shO_L (ln rfl) ?_
         refine shO_nil ?_
         refine shW_block ?_
         refine shW_rangeFunc (encs := (fun x : Int => #[.int .i64 x])) (xs := y) rfl Try.call102 rfl (fun _ => rfl) hit27 (fun pre F1 L1 => ∃ (tl3 : List Int) (k3 : Int), y = pre ++ tl3 ∧ night_desk_count_l2 tl3 k3 = some k2 ∧ L1 = [(b17, .cells #[.int .i64 k3] 3 (0, 0))]) (fun _ _ _ => False) ?_ ?_ ?_ ?_ ?_ ?_
         · rintro pre F1 F2 L1 ⟨tl3, k3, hs28, r29, rfl⟩ hx; exact ⟨tl3, k3, hs28, r29, rfl⟩
         · intro c F1 F2 L1 h hx; exact h
         · exact ⟨_, 0, rfl, r21, rfl⟩
         · rintro l30 wr31 Fr32 Xr33 Ha34 Hb35 hnb36 hH40 pre x2 tl4 hxs39 F37 _ hF38 ⟨tl3, k3, hs28, r41, rfl⟩
           obtain rfl := rest_head hs28 hxs39
           rw [night_desk_count_l2] at r41
           refine shW_env [(0, .pointer (some ⟨b_d, 0, none⟩)), (3, .int .i64 n2), (5, .pointer (some ⟨b17, 0, none⟩)), (11, .int .i64 (hours.length : Int)), (12, .int .i64 k), (17, .func (.func 102) #[] cp26), (18, .int .i64 x2)] (by exact (sc rfl (sc rfl (sc rfl (sc rfl (sc rfl (sc rfl (sc rfl (sn _))))))))) ?_
           refine shW_skip ?_
           refine ⟨rfl, ?_⟩
           refine shW_block ?_
           refine shW_region ?_
           refine ov (v_load Try.isAgg3 rfl (Has.own 0 rfl) rfl) rfl ?_
           obtain ⟨g42, r43⟩ := gd_ok r41; clear r41
           refine ov (v_add rfl rfl g42) rfl ?_
           refine o_store (i := 0) Try.sizeOf3 rfl rfl rfl rfl (Nat.le_of_ble_eq_true rfl) ?_
           refine shO_L (L' := [(b17, .cells #[.int .i64 (k3 + 1)] 3 (0, 0))]) rfl ?_
           refine shO_nil (inBlock_n (id := 3) ?_)
           refine ⟨[(b17, .cells #[.int .i64 (k3 + 1)] 3 (0, 0))], sr, ?_⟩; exact ⟨_, k3 + 1, (by rw [hxs39]; simp), r43, rfl⟩
         · rintro F44 _ hF45 ⟨tl3, k3, hs28, r46, rfl⟩
           obtain rfl := rest_nil hs28; rw [night_desk_count_l2] at r46
           refine inBlock_n (id := 2) ?_
           obtain rfl := inj1 r46
           exact mi kr ⟨(hF23.trans hF45), rfl, (sc rfl (sc rfl (sc rfl (sc rfl (sc rfl (sn _))))))⟩
         intro c F1 L1 hx h; exact h.elim
       rintro e1 F48 _ ⟨hF49, rfl, he47⟩
       refine shW_env _ he47 ?_; clear he47
       refine shW_region (om rfl rfl ?_)
       refine ov (v_load Try.isAgg3 rfl (Has.own 0 rfl) rfl) rfl ?_
       obtain ⟨g50, r51⟩ := gd_ok r19; clear r19
       refine ov (v_mul rfl rfl g50) rfl ?_
       refine oa rfl rfl (shO_nil (inBlock_n (id := 1) ?_))
       obtain rfl := inj1 r51
       exact mi kn ⟨hF49, rfl, (sc rfl (sc rfl (sc rfl (sc rfl (sn _)))))⟩
     rintro e1 F53 _ ⟨hF54, rfl, he52⟩
     refine shW_env _ he52 ?_; clear he52
     replace h_hours := h_hours.mono (slE_ok (iE_ok _)) hF54
     refine shW_region ?_
     refine ov (v_add rfl rfl (Lst.r64 hk4 c11 (RowR.lt h_hours))) rfl ?_
     refine om rfl rfl (shO_nil ?_)
     subst hn5; exact le kr ⟨_, _, rfl, hk12, n3, r16, (hF9.trans hF54), rfl, (sc rfl (sc rfl (sc rfl (sc rfl (sn _)))))⟩
   obtain rfl := Lst.zero hk4 c11
   rw [night_desk_count_l1] at r6
   refine shW_exit (andThen_exit (andThen_exit ?_))
   refine inBlock_exit ?_
   obtain rfl := inj1 r6
   exact mi kr ⟨hF9, rfl, (sc rfl (sn _))⟩
 rintro e1 F56 _ ⟨hF57, rfl, he55⟩
 refine shW_env _ he55 ?_; clear he55
 refine wsr (om rfl rfl (oa rfl rfl (shO_nil (shW_ret ?_))))
 refine q_res1 Try.results75 (res_tmp rfl) (sr) ?_
 obtain rfl := inj1 r3
 exact rfl
set_option maxHeartbeats 1000000 in
theorem night_Count_w {listens_a : Option Addr} {listens_c : Nat} {listens : List (List Int)} {hours_a : Option Addr} {hours_c : Nat} {hours : List (List Int)} {F : FS} (h_listens : RowR 1 (slE 1 (iE .i64)) F listens_a listens_c listens) (h_hours : RowR 1 (slE 1 (iE .i64)) F hours_a hours_c hours) {r : Int} {r2 : Int} (hr : night_Count listens hours = some (r, r2)) :
    SpecV Try.prog 25 #[.agg #[.slice listens_a listens.length listens_c, .slice hours_a hours.length hours_c]] F (.tuple #[.int .i64 r, .int .i64 r2]) := by
 refine spec_of_shW (args := [.agg #[.slice listens_a listens.length listens_c, .slice hours_a hours.length hours_c]]) Try.func25 rfl Try.ntmps25 (Nat.le_of_ble_eq_true rfl) ?_
 intro K _ _; rw [night_Count] at hr
 refine wsr ?_
 refine o_box rfl rfl ?_; intro b1 hb1
 refine oa rfl rfl (oa rfl rfl (nsr ?_))
 refine ov (v_loadA (cs := #[.slice listens_a listens.length listens_c, .slice hours_a hours.length hours_c]) Try.isAgg26 Try.sizeOf26 rfl (Has.own 0 rfl) (Nat.le_of_ble_eq_true rfl) rfl) rfl ?_
 obtain ⟨d, n, h2, r3⟩ := b2_ok hr; clear hr
 refine o_call0 rfl Try.call58 rfl rfl rfl (night_opened_w h_listens h_hours h2) ?_; rintro _ F4 _ hF5 hn6 ⟨v8, Lb10, rfl, rfl, hp9⟩
 refine shO_L (lp (ln rfl)) ?_
 refine kO (kf (fS fO) kr) ?_
 refine om rfl rfl (ox rfl rfl rfl (ox rfl rfl rfl (oa rfl rfl (oa rfl rfl (shO_nil (shW_seq (wsr (om rfl rfl ?_))))))))
 refine ov (v_neq rfl rfl) rfl ?_
 refine shO_nil ?_
 refine shW_condP rfl (fun c11 => ?_) (fun c11 => ?_)
 · have r12 := ite_t r3 c11; clear r3
   refine wsr (om rfl rfl (oa rfl rfl (oa rfl rfl (shO_nil ?_))))
   refine kW kn ?_
   refine shW_ret (andThen_ret ?_)
   refine q_res2 Try.results25 (res_tmp rfl) (res_tmp rfl) (sr) ?_
   obtain ⟨rfl, rfl⟩ := inj2 r12
   exact rfl
 have r13 := ite_f r3 c11; clear r3
 refine shW_skip (shW_seq ?_)
 obtain ⟨listens2, hours2, cried, rows, h14, r15⟩ := b4_ok r13; clear r13
 have h21 := hp9; rw [h14] at h21; obtain ⟨b16, m17, a22, c23, a25, c26, b28, es29, cl30, a32, c33, hv18, hz19, h24, h27, hR31, h34, hL20⟩ := ob_139_of h21; subst hv18; subst hL20
 refine shW_L (L' := [(b1, .cells #[.slice listens_a listens.length listens_c, .slice hours_a hours.length hours_c] 26 (0, 0)), (b28, .map es29 cl30)]) rfl ?_
 refine shW_region (om rfl rfl ?_)
 obtain ⟨n2, h35, r36⟩ := b1_ok r15; clear r15
 refine o_callV rfl Try.call75 rfl rfl rfl (night_desk_count_w hz19 h24 h27 h34 h35) ?_
 refine oa rfl rfl (oa rfl rfl (shO_nil ?_))
 refine kW kn ?_
 refine shW_ret ?_
 refine q_res2 Try.results25 (res_tmp rfl) (res_tmp rfl) (sr) ?_
 obtain ⟨rfl, rfl⟩ := inj2 r36
 exact rfl
set_option maxHeartbeats 1000000 in
theorem night_Ways_w {listens_a : Option Addr} {listens_c : Nat} {listens : List (List Int)} {hours_a : Option Addr} {hours_c : Nat} {hours : List (List Int)} {F : FS} (h_listens : RowR 1 (slE 1 (iE .i64)) F listens_a listens_c listens) (h_hours : RowR 1 (slE 1 (iE .i64)) F hours_a hours_c hours) {r : Int} {r2 : Int} (hr : night_Ways listens hours = some (r, r2)) :
    SpecV Try.prog 26 #[.agg #[.slice listens_a listens.length listens_c, .slice hours_a hours.length hours_c]] F (.tuple #[.int .i64 r, .int .i64 r2]) := by
 refine spec_of_shW (args := [.agg #[.slice listens_a listens.length listens_c, .slice hours_a hours.length hours_c]]) Try.func26 rfl Try.ntmps26 (Nat.le_of_ble_eq_true rfl) ?_
 intro K _ _; rw [night_Ways] at hr
 refine wsr ?_
 refine o_box rfl rfl ?_; intro b1 hb1
 refine oa rfl rfl (oa rfl rfl (nsr ?_))
 refine ov (v_loadA (cs := #[.slice listens_a listens.length listens_c, .slice hours_a hours.length hours_c]) Try.isAgg26 Try.sizeOf26 rfl (Has.own 0 rfl) (Nat.le_of_ble_eq_true rfl) rfl) rfl ?_
 obtain ⟨d, n, h2, r3⟩ := b2_ok hr; clear hr
 refine o_call0 rfl Try.call58 rfl rfl rfl (night_opened_w h_listens h_hours h2) ?_; rintro _ F4 _ hF5 hn6 ⟨v8, Lb10, rfl, rfl, hp9⟩
 refine shO_L (lp (ln rfl)) ?_
 refine kO (kf (fS fO) kr) ?_
 refine om rfl rfl (ox rfl rfl rfl (ox rfl rfl rfl ?_))
 refine o_alloc rfl Try.zeroValue105 ?_; intro b11 hb11
 refine o_store (i := 0) Try.sizeOf105 rfl rfl hp9.one rfl (Nat.le_of_ble_eq_true rfl) ?_
 refine shO_L (L' := (b11, .cells #[v8] 105 (0, 0)) :: ((b1, .cells #[.slice listens_a listens.length listens_c, .slice hours_a hours.length hours_c] 26 (0, 0)) :: (Lb10 ++ []))) rfl ?_
 refine oa rfl rfl (shO_nil (shW_seq (wsr (om rfl rfl ?_))))
 refine ov (v_neq rfl rfl) rfl ?_
 refine shO_nil ?_
 refine shW_condP rfl (fun c12 => ?_) (fun c12 => ?_)
 · have r13 := ite_t r3 c12; clear r3
   refine wsr (om rfl rfl (oa rfl rfl (oa rfl rfl (shO_nil ?_))))
   refine kW kn ?_
   refine shW_ret (andThen_ret ?_)
   refine q_res2 Try.results26 (res_tmp rfl) (res_tmp rfl) (sr) ?_
   obtain ⟨rfl, rfl⟩ := inj2 r13
   exact rfl
 have r14 := ite_f r3 c12; clear r3
 refine shW_skip (shW_seq (shW_seq ?_))
 obtain ⟨listens2, hours2, cried, rows, h15, r16⟩ := b4_ok r14; clear r14
 have h22 := hp9; rw [h15] at h22; obtain ⟨b17, m18, a23, c24, a26, c27, b29, es30, cl31, a33, c34, hv19, hz20, h25, h28, hR32, h35, hL21⟩ := ob_139_of h22; subst hv19; subst hL21
 refine shW_L (L' := [(b11, .cells #[.pointer (some ⟨b17, 0, none⟩)] 105 (0, 0)), (b1, .cells #[.slice listens_a listens.length listens_c, .slice hours_a hours.length hours_c] 26 (0, 0)), (b29, .map es30 cl31)]) rfl ?_
 refine shW_region ?_
 refine ov (v_load Try.isAgg105 rfl (Has.own 0 rfl) rfl) rfl ?_
 obtain ⟨ok, h36, r37⟩ := b1_ok r16; clear r16
 refine o_callV rfl Try.call60 rfl rfl rfl (night_desk_clash_w hz20 h25 h28 h35 h36) ?_
 refine shO_nil ?_
 refine shW_cond rfl (fun c38 => ?_) (fun c38 => ?_)
 · have r39 := bt r37 c38; clear r37
   refine wsr (oa rfl rfl (oa rfl rfl (shO_nil ?_)))
   refine kW kn ?_
   refine shW_ret (andThen_ret ?_)
   refine q_res2 Try.results26 (res_tmp rfl) (res_tmp rfl) (sr) ?_
   obtain ⟨rfl, rfl⟩ := inj2 r39
   exact rfl
 have r40 := bf r37 c38; clear r37
 refine shW_skip (wsr ?_)
 refine ov (v_load Try.isAgg105 rfl (Has.own 0 rfl) rfl) rfl ?_
 obtain ⟨l, h41, r42⟩ := b1_ok r40; clear r40
 refine o_call0 rfl Try.call61 rfl rfl rfl (night_desk_table_w hz20 h25 h28 h35 h41) ?_; rintro _ F43 _ hF44 hn45 ⟨a47, n51, c48, Lb49, rfl, rfl, hz50⟩
 replace h25 := h25.mono (slE_ok (iE_ok _)) hF44
 replace h28 := h28.mono (slE_ok (iE_ok _)) hF44
 replace h35 := h35.mono (arE_ok (n := 64) (sz := 1) cB_ok) hF44
 replace hz20 := hF44 _ _ hz20
 replace hz50 := hz50.new fun p hp => hn45 p (by simp [hp])
 refine shO_L (lp (ln rfl)) ?_
 refine kO (kf (fS fO) (kf (fS fO) (kf (fS fO) kr))) ?_
 refine o_alloc rfl Try.zeroValue23 ?_; intro b53 hb53
 refine o_store (i := 0) Try.sizeOf23 rfl rfl rfl rfl (Nat.le_of_ble_eq_true rfl) ?_
 refine shO_L (L' := (b53, .cells #[.slice a47 n51 c48] 23 (0, 0)) :: ((b11, .cells #[.pointer (some ⟨b17, 0, none⟩)] 105 (0, 0)) :: ((b1, .cells #[.slice listens_a listens.length listens_c, .slice hours_a hours.length hours_c] 26 (0, 0)) :: ((b29, .map es30 cl31) :: (Lb49 ++ []))))) rfl ?_
 refine nsr ?_
 refine o_alloc rfl Try.zeroValue116 ?_; intro b54 hb54
 refine shO_L (L' := (b54, .cells (arr (cI .i64) (List.replicate 64 0)) 116 (0, 0)) :: ((b53, .cells #[.slice a47 n51 c48] 23 (0, 0)) :: ((b11, .cells #[.pointer (some ⟨b17, 0, none⟩)] 105 (0, 0)) :: ((b1, .cells #[.slice listens_a listens.length listens_c, .slice hours_a hours.length hours_c] 26 (0, 0)) :: ((b29, .map es30 cl31) :: (Lb49 ++ [])))))) rfl ?_
 refine shO_nil ?_
 obtain ⟨ways, h56, r57⟩ := b1_ok r42; clear r42
 refine shW_join (fun e1 F1 L1 => FExt F43 F1 ∧ L1 = ((b54, .cells (arr (cI .i64) ways) 116 (0, 0)) :: ((b53, .cells #[.slice a47 n51 c48] 23 (0, 0)) :: ((b11, .cells #[.pointer (some ⟨b17, 0, none⟩)] 105 (0, 0)) :: ((b29, .map es30 cl31) :: (Lb49 ++ []))))) ∧ e1.sub [(4, .pointer (some ⟨b11, 0, none⟩)), (6, .pointer (some ⟨b53, 0, none⟩)), (7, .pointer (some ⟨b54, 0, none⟩))] ∧ ways.length = 64) ?_ ?_
 · clear r57
   refine wsr ?_
   refine ov (v_fieldAddr fa_26_1 rfl) rfl ?_
   refine ov (v_load Try.isAgg24 rfl (Has.own 3 rfl) rfl) rfl ?_
   refine ov (v_lenS Try.underlying24 rfl) rfl ?_
   refine om rfl rfl (shO_nil ?_)
   refine shW_block ?_
   refine kW (kc (kc (kc (kd kr)))) ?_
   obtain ⟨g59, r60⟩ := gd_ok h56; clear h56
   refine shW_lp (fun fu1 e1 F1 L1 => ∃ (k : Int), Ctr 0 (hours.length : Int) k fu1 ∧ ∃ (ways2 : List Int), night_Ways_l1 listens2 hours2 rows l fu1 k ways2 = some ways ∧ FExt F43 F1 ∧ L1 = ((b54, .cells (arr (cI .i64) ways2) 116 (0, 0)) :: ((b53, .cells #[.slice a47 n51 c48] 23 (0, 0)) :: ((b11, .cells #[.pointer (some ⟨b17, 0, none⟩)] 105 (0, 0)) :: ((b29, .map es30 cl31) :: (Lb49 ++ []))))) ∧ e1.sub [(4, .pointer (some ⟨b11, 0, none⟩)), (6, .pointer (some ⟨b53, 0, none⟩)), (7, .pointer (some ⟨b54, 0, none⟩)), (31, .int .i64 (hours.length : Int)), (32, .int .i64 k)] ∧ ways2.length = 64) _ (m0 kr ⟨_, Ctr.start _ _, List.replicate 64 0, r60, FExt.refl _, rfl, (sc rfl (sc rfl (sc rfl (sc rfl (sc rfl (sn _)))))), List.length_replicate⟩) ?_
   rintro fu1 e1 F65 _ ⟨k, hk61, ways2, r63, hF66, rfl, he64, h58⟩
   refine shW_env _ he64 ?_; clear he64
   replace h25 := h25.mono (slE_ok (iE_ok _)) hF66
   replace h28 := h28.mono (slE_ok (iE_ok _)) hF66
   replace h35 := h35.mono (arE_ok (n := 64) (sz := 1) cB_ok) hF66
   replace hz50 := hz50.mono (slE_ok (iE_ok _)) hF66
   replace hz20 := hF66 _ _ hz20
   refine wsr ?_
   refine ov (v_lssK rfl rfl) rfl ?_
   refine shO_nil (shW_seq ?_)
   refine shW_condP rfl (fun c68 => ?_) (fun c68 => ?_)
   · obtain ⟨fu1, rfl, hk69⟩ := Ctr.succ hk61 c68
     rw [night_Ways_l1] at r63
     refine shW_skip ?_
     obtain ⟨ways3, h71, r72⟩ := b1_ok r63; clear r63
     refine shW_join (fun e1 F1 L1 => FExt F65 F1 ∧ L1 = ((b54, .cells (arr (cI .i64) ways3) 116 (0, 0)) :: ((b53, .cells #[.slice a47 n51 c48] 23 (0, 0)) :: ((b11, .cells #[.pointer (some ⟨b17, 0, none⟩)] 105 (0, 0)) :: ((b29, .map es30 cl31) :: (Lb49 ++ []))))) ∧ e1.sub [(4, .pointer (some ⟨b11, 0, none⟩)), (6, .pointer (some ⟨b53, 0, none⟩)), (7, .pointer (some ⟨b54, 0, none⟩)), (31, .int .i64 (hours.length : Int)), (32, .int .i64 k)] ∧ ways3.length = 64) ?_ ?_
     · clear r72
       refine shW_block ?_
       refine wsr (om rfl rfl ?_)
       refine o_alloc rfl Try.zeroValue3 ?_; intro b73 hb73
       refine o_store (i := 0) Try.sizeOf3 rfl rfl rfl rfl (Nat.le_of_ble_eq_true rfl) ?_
       refine shO_L (L' := (b73, .cells #[.int .i64 k] 3 (0, 0)) :: ((b54, .cells (arr (cI .i64) ways2) 116 (0, 0)) :: ((b53, .cells #[.slice a47 n51 c48] 23 (0, 0)) :: ((b11, .cells #[.pointer (some ⟨b17, 0, none⟩)] 105 (0, 0)) :: ((b29, .map es30 cl31) :: (Lb49 ++ [])))))) rfl ?_
       refine nsr ?_
       refine o_alloc rfl Try.zeroValue116 ?_; intro b74 hb74
       refine shO_L (L' := (b74, .cells (arr (cI .i64) (List.replicate 64 0)) 116 (0, 0)) :: ((b73, .cells #[.int .i64 k] 3 (0, 0)) :: ((b54, .cells (arr (cI .i64) ways2) 116 (0, 0)) :: ((b53, .cells #[.slice a47 n51 c48] 23 (0, 0)) :: ((b11, .cells #[.pointer (some ⟨b17, 0, none⟩)] 105 (0, 0)) :: ((b29, .map es30 cl31) :: (Lb49 ++ []))))))) rfl ?_
       refine shO_nil ?_
       obtain ⟨next_, h76, r77⟩ := b1_ok h71; clear h71
       refine shW_join (fun e1 F1 L1 => FExt F65 F1 ∧ L1 = ((b74, .cells (arr (cI .i64) next_) 116 (0, 0)) :: ((b54, .cells (arr (cI .i64) ways2) 116 (0, 0)) :: ((b53, .cells #[.slice a47 n51 c48] 23 (0, 0)) :: ((b11, .cells #[.pointer (some ⟨b17, 0, none⟩)] 105 (0, 0)) :: ((b29, .map es30 cl31) :: (Lb49 ++ [])))))) ∧ e1.sub [(4, .pointer (some ⟨b11, 0, none⟩)), (6, .pointer (some ⟨b53, 0, none⟩)), (7, .pointer (some ⟨b54, 0, none⟩)), (9, .pointer (some ⟨b74, 0, none⟩)), (31, .int .i64 (hours.length : Int)), (32, .int .i64 k)] ∧ next_.length = 64) ?_ ?_
       · clear r77
         refine wsr ?_
         refine ov (v_load Try.isAgg105 rfl (Has.own 4 rfl) rfl) rfl ?_
         refine ov (v_load Try.isAgg3 rfl (Has.own 1 rfl) rfl) rfl ?_
         obtain ⟨y, h78, r79⟩ := b1_ok h76; clear h76
         refine o_call0 rfl Try.call62 rfl rfl rfl (night_desk_fit_w hz20 h25 h28 h35 h78) ?_; rintro _ F80 _ hF81 hn82 ⟨cp84, rfl, rfl, hit85⟩
         replace h25 := h25.mono (slE_ok (iE_ok _)) hF81
         replace h28 := h28.mono (slE_ok (iE_ok _)) hF81
         replace h35 := h35.mono (arE_ok (n := 64) (sz := 1) cB_ok) hF81
         replace hz50 := hz50.mono (slE_ok (iE_ok _)) hF81
         replace hz20 := hF81 _ _ hz20
         refine shO_L (ln rfl) ?_
         refine shO_nil ?_
         refine shW_block ?_
         refine shW_rangeFunc (encs := (fun x : Int => #[.int .i64 x])) (xs := y) rfl Try.call102 rfl (fun _ => rfl) hit85 (fun pre F1 L1 => ∃ (tl : List Int) (next_2 : List Int), y = pre ++ tl ∧ night_Ways_l2 listens2 hours2 rows l ways2 k tl next_2 = some next_ ∧ L1 = ((b74, .cells (arr (cI .i64) next_2) 116 (0, 0)) :: ((b73, .cells #[.int .i64 k] 3 (0, 0)) :: ((b54, .cells (arr (cI .i64) ways2) 116 (0, 0)) :: ((b53, .cells #[.slice a47 n51 c48] 23 (0, 0)) :: ((b11, .cells #[.pointer (some ⟨b17, 0, none⟩)] 105 (0, 0)) :: ((b29, .map es30 cl31) :: (Lb49 ++ []))))))) ∧ next_2.length = 64) (fun _ _ _ => False) ?_ ?_ ?_ ?_ ?_ ?_
         · rintro pre F1 F2 L1 ⟨tl, next_2, hs87, r88, rfl, h86⟩ hx; exact ⟨tl, next_2, hs87, r88, rfl, h86⟩
         · intro c F1 F2 L1 h hx; exact h
         · exact ⟨_, List.replicate 64 0, rfl, r79, rfl, List.length_replicate⟩
         · rintro l89 wr90 Fr91 Xr92 Ha93 Hb94 hnb95 hH99 pre x tl2 hxs98 F96 _ hF97 ⟨tl, next_2, hs87, r100, rfl, h86⟩
           obtain rfl := rest_head hs87 hxs98
           rw [night_Ways_l2] at r100
           replace h25 := h25.mono (slE_ok (iE_ok _)) hF97
           replace h28 := h28.mono (slE_ok (iE_ok _)) hF97
           replace h35 := h35.mono (arE_ok (n := 64) (sz := 1) cB_ok) hF97
           replace hz50 := hz50.mono (slE_ok (iE_ok _)) hF97
           replace hz20 := hF97 _ _ hz20
           refine shW_env [(4, .pointer (some ⟨b11, 0, none⟩)), (6, .pointer (some ⟨b53, 0, none⟩)), (7, .pointer (some ⟨b54, 0, none⟩)), (8, .pointer (some ⟨b73, 0, none⟩)), (9, .pointer (some ⟨b74, 0, none⟩)), (31, .int .i64 (hours.length : Int)), (32, .int .i64 k), (38, .int .i64 x)] (by exact (sc rfl (sc rfl (sc rfl (sc rfl (sc rfl (sc rfl (sc rfl (sc rfl (sn _)))))))))) ?_
           refine shW_region ?_
           refine o_alloc rfl Try.zeroValue3 ?_; intro b101 hb101
           refine o_store (i := 0) Try.sizeOf3 rfl rfl rfl rfl (Nat.le_of_ble_eq_true rfl) ?_
           refine shO_L (L' := (b101, .cells #[.int .i64 x] 3 (0, 0)) :: ((b74, .cells (arr (cI .i64) next_2) 116 (0, 0)) :: ((b73, .cells #[.int .i64 k] 3 (0, 0)) :: ((b54, .cells (arr (cI .i64) ways2) 116 (0, 0)) :: ((b53, .cells #[.slice a47 n51 c48] 23 (0, 0)) :: ((b11, .cells #[.pointer (some ⟨b17, 0, none⟩)] 105 (0, 0)) :: ((b29, .map es30 cl31) :: (Lb49 ++ [])))))))) rfl ?_
           refine shO_nil ?_
           refine ⟨rfl, ?_⟩
           refine shW_block ?_
           refine shW_seq (wsr ?_)
           refine ov (v_load Try.isAgg3 rfl (Has.own 2 rfl) rfl) rfl ?_
           refine ov (v_eql rfl rfl) rfl ?_
           refine shO_nil ?_
           refine shW_condP rfl (fun c102 => ?_) (fun c102 => ?_)
           · have r103 := ite_t r100 c102; clear r100
             refine wsr ?_
             refine ov (v_load Try.isAgg3 rfl (Has.own 0 rfl) rfl) rfl ?_
             obtain ⟨x2, g104, hx105, r106⟩ := ix_ok r103; clear r103
             refine ov (v_indexA Try.underlying116 Try.sizeOf3 rfl rfl (arr_lt h86 g104)) rfl ?_
             obtain ⟨next_3, h108, r109⟩ := bv_ok r106; clear r106
             have h110 : next_3.length = 64 := by rw [h108, List.length_set]; exact h86
             refine o_storeArr (i := 1) Try.sizeOf3 (cI_ok .i64) rfl rfl rfl rfl (arr_lt h86 g104) h86 ?_
             refine shO_L (L' := (b101, .cells #[.int .i64 x] 3 (0, 0)) :: ((b74, .cells (arr (cI .i64) next_3) 116 (0, 0)) :: ((b73, .cells #[.int .i64 k] 3 (0, 0)) :: ((b54, .cells (arr (cI .i64) ways2) 116 (0, 0)) :: ((b53, .cells #[.slice a47 n51 c48] 23 (0, 0)) :: ((b11, .cells #[.pointer (some ⟨b17, 0, none⟩)] 105 (0, 0)) :: ((b29, .map es30 cl31) :: (Lb49 ++ [])))))))) (by rw [h108]; rfl) ?_
             refine shO_nil (shW_exit (andThen_exit ?_))
             refine inBlock_exit ?_
             refine ⟨(b74, .cells (arr (cI .i64) next_3) 116 (0, 0)) :: ((b73, .cells #[.int .i64 k] 3 (0, 0)) :: ((b54, .cells (arr (cI .i64) ways2) 116 (0, 0)) :: ((b53, .cells #[.slice a47 n51 c48] 23 (0, 0)) :: ((b11, .cells #[.pointer (some ⟨b17, 0, none⟩)] 105 (0, 0)) :: ((b29, .map es30 cl31) :: (Lb49 ++ [])))))), s1 (s2 (s2 (s2 (s2 (s2 (s2 (s4 sr))))))), ?_⟩; exact ⟨_, next_3, (by rw [hxs98]; simp), r109, rfl, h110⟩
           have r111 := ite_f r100 c102; clear r100
           refine shW_skip (wsr ?_)
           refine ov (v_load Try.isAgg105 rfl (Has.own 5 rfl) rfl) rfl ?_
           refine ov (v_load Try.isAgg3 rfl (Has.own 2 rfl) rfl) rfl ?_
           obtain ⟨g112, r113⟩ := gd_ok r111; clear r111
           refine ov (v_sub rfl rfl g112) rfl ?_
           obtain ⟨y2, h114, r115⟩ := b1_ok r113; clear r113
           refine o_call0 rfl Try.call62 rfl rfl rfl (night_desk_fit_w hz20 h25 h28 h35 h114) ?_; rintro _ F116 _ hF117 hn118 ⟨cp120, rfl, rfl, hit121⟩
           replace hz50 := hz50.mono (slE_ok (iE_ok _)) hF117
           refine shO_L (ln rfl) ?_
           refine shO_nil ?_
           refine shW_block ?_
           refine shW_rangeFuncIn hH99 (encs := (fun x : Int => #[.int .i64 x])) (xs := y2) rfl Try.call102 rfl (fun _ => rfl) hit121 (fun pre F1 L1 => ∃ (tl3 : List Int) (next_4 : List Int), y2 = pre ++ tl3 ∧ night_Ways_l3 l ways2 k x (night_Ways_l2 listens2 hours2 rows l ways2 k tl2) tl3 next_4 = some next_ ∧ L1 = ((b101, .cells #[.int .i64 x] 3 (0, 0)) :: ((b74, .cells (arr (cI .i64) next_4) 116 (0, 0)) :: ((b73, .cells #[.int .i64 k] 3 (0, 0)) :: ((b54, .cells (arr (cI .i64) ways2) 116 (0, 0)) :: ((b53, .cells #[.slice a47 n51 c48] 23 (0, 0)) :: ((b11, .cells #[.pointer (some ⟨b17, 0, none⟩)] 105 (0, 0)) :: ((b29, .map es30 cl31) :: (Lb49 ++ [])))))))) ∧ next_4.length = 64) (fun _ _ _ => False) ?_ ?_ ?_ ?_ ?_ ?_
           · rintro pre F1 F2 L1 ⟨tl3, next_4, hs123, r124, rfl, h122⟩ hx; exact ⟨tl3, next_4, hs123, r124, rfl, h122⟩
           · intro c F1 F2 L1 h hx; exact h
           · exact ⟨_, next_2, rfl, r115, rfl, h86⟩
           · rintro l125 wr126 Fr127 Xr128 Ha129 Hb130 hnb131 hH135 pre x3 tl4 hxs134 F132 _ hF133 ⟨tl3, next_4, hs123, r136, rfl, h122⟩
             obtain rfl := rest_head hs123 hxs134
             rw [night_Ways_l3] at r136
             replace hz50 := hz50.mono (slE_ok (iE_ok _)) hF133
             refine shW_env [(4, .pointer (some ⟨b11, 0, none⟩)), (6, .pointer (some ⟨b53, 0, none⟩)), (7, .pointer (some ⟨b54, 0, none⟩)), (8, .pointer (some ⟨b73, 0, none⟩)), (9, .pointer (some ⟨b74, 0, none⟩)), (10, .pointer (some ⟨b101, 0, none⟩)), (31, .int .i64 (hours.length : Int)), (32, .int .i64 k), (38, .int .i64 x), (46, .func (.func 102) #[] cp120), (47, .int .i64 x3)] (by exact (sc rfl (sc rfl (sc rfl (sc rfl (sc rfl (sc rfl (sc rfl (sc rfl (sc rfl (sc rfl (sc rfl (sn _))))))))))))) ?_
             refine shW_region (oa rfl rfl (shO_nil ?_))
             refine ⟨rfl, ?_⟩
             refine shW_block ?_
             refine wsd (by kernel_rfl) (by kernel_rfl) (by kernel_rfl) ?_
             refine qv (v_load Try.isAgg23 rfl (Has.own 4 rfl) rfl) rfl ?_
             refine qv (v_load Try.isAgg3 rfl (Has.own 2 rfl) rfl) rfl ?_
             obtain ⟨g137, r138⟩ := gd_ok r136; clear r136
             refine qv (v_sub rfl rfl g137) rfl ?_
             obtain ⟨x4, g139, hx140, r141⟩ := ix_ok r138; clear r138
             obtain ⟨b142, o143, c144, vs145, ha146, hs147, hle148, ⟨a151, c152, rfl, h153⟩, hl149, hc150⟩ := SlR.at (slE_ok (iE_ok _)) hz50 (L := (b101, .cells #[.int .i64 x] 3 (0, 0)) :: ((b74, .cells (arr (cI .i64) next_4) 116 (0, 0)) :: ((b73, .cells #[.int .i64 k] 3 (0, 0)) :: ((b54, .cells (arr (cI .i64) ways2) 116 (0, 0)) :: ((b53, .cells #[.slice a47 n51 c48] 23 (0, 0)) :: ((b11, .cells #[.pointer (some ⟨b17, 0, none⟩)] 105 (0, 0)) :: ((b29, .map es30 cl31) :: (Lb49 ++ [])))))))) (fC (fC (fC (fC (fC (fC (fC fP))))))) g139.1 hx140
             refine qv (v_indexO Try.underlying23 Try.sizeOf27 rfl ha146 rfl (SlR.idx hz50 g139)) rfl ?_
             refine qv (v_load Try.isAgg27 rfl hs147 (hc150 0 (by decide))) rfl ?_
             refine qm rfl rfl ?_
             obtain ⟨x5, g154, hx155, r156⟩ := ix_ok r141; clear r141
             obtain ⟨b157, o158, c159, vs160, ha161, hs162, hle163, rfl, hl164, hc165⟩ := RowR.at (iE_ok _) h153 ((b101, .cells #[.int .i64 x] 3 (0, 0)) :: ((b74, .cells (arr (cI .i64) next_4) 116 (0, 0)) :: ((b73, .cells #[.int .i64 k] 3 (0, 0)) :: ((b54, .cells (arr (cI .i64) ways2) 116 (0, 0)) :: ((b53, .cells #[.slice a47 n51 c48] 23 (0, 0)) :: ((b11, .cells #[.pointer (some ⟨b17, 0, none⟩)] 105 (0, 0)) :: ((b29, .map es30 cl31) :: (Lb49 ++ [])))))))) g154.1 hx155
             refine qv (v_indexO Try.underlying27 Try.sizeOf3 rfl ha161 rfl g154) rfl ?_
             refine qv (v_load Try.isAgg3 rfl hs162 (hc165 0 (by decide))) rfl ?_
             refine qm rfl rfl ?_
             refine qv (v_load Try.isAgg3 rfl (Has.own 0 rfl) rfl) rfl ?_
             obtain ⟨n2, h166, r167⟩ := b1_ok r156; clear r156
             refine shQ_callV rfl Try.call63 rfl rfl rfl (night_fallen_w h166) ?_
             obtain ⟨g168, r169⟩ := gd_ok r167; clear r167
             refine qv (v_add rfl rfl g168) rfl ?_
             refine qv (v_load Try.isAgg23 rfl (Has.own 4 rfl) rfl) rfl ?_
             refine qv (v_load Try.isAgg3 rfl (Has.own 2 rfl) rfl) rfl ?_
             obtain ⟨x6, g170, hx171, r172⟩ := ix_ok r169; clear r169
             obtain ⟨b173, o174, c175, vs176, ha177, hs178, hle179, ⟨a182, c183, rfl, h184⟩, hl180, hc181⟩ := SlR.at (slE_ok (iE_ok _)) hz50 (L := (b101, .cells #[.int .i64 x] 3 (0, 0)) :: ((b74, .cells (arr (cI .i64) next_4) 116 (0, 0)) :: ((b73, .cells #[.int .i64 k] 3 (0, 0)) :: ((b54, .cells (arr (cI .i64) ways2) 116 (0, 0)) :: ((b53, .cells #[.slice a47 n51 c48] 23 (0, 0)) :: ((b11, .cells #[.pointer (some ⟨b17, 0, none⟩)] 105 (0, 0)) :: ((b29, .map es30 cl31) :: (Lb49 ++ [])))))))) (fC (fC (fC (fC (fC (fC (fC fP))))))) g170.1 hx171
             refine qv (v_indexO Try.underlying23 Try.sizeOf27 rfl ha177 rfl (SlR.idx hz50 g170)) rfl ?_
             refine qv (v_load Try.isAgg27 rfl hs178 (hc181 0 (by decide))) rfl ?_
             refine qv (v_load Try.isAgg3 rfl (Has.own 0 rfl) rfl) rfl ?_
             obtain ⟨x7, g185, hx186, r187⟩ := ix_ok r172; clear r172
             obtain ⟨b188, o189, c190, vs191, ha192, hs193, hle194, rfl, hl195, hc196⟩ := RowR.at (iE_ok _) h184 ((b101, .cells #[.int .i64 x] 3 (0, 0)) :: ((b74, .cells (arr (cI .i64) next_4) 116 (0, 0)) :: ((b73, .cells #[.int .i64 k] 3 (0, 0)) :: ((b54, .cells (arr (cI .i64) ways2) 116 (0, 0)) :: ((b53, .cells #[.slice a47 n51 c48] 23 (0, 0)) :: ((b11, .cells #[.pointer (some ⟨b17, 0, none⟩)] 105 (0, 0)) :: ((b29, .map es30 cl31) :: (Lb49 ++ [])))))))) g185.1 hx186
             refine qv (v_indexO Try.underlying27 Try.sizeOf3 rfl ha192 rfl g185) rfl ?_
             refine qv (v_load Try.isAgg3 rfl hs193 (hc196 0 (by decide))) rfl ?_
             refine qv (v_eql rfl rfl) rfl ?_
             refine shQ_nil ?_
             refine shW_condP rfl (fun c197 => ?_) (fun c197 => ?_)
             · have r198 := ite_t r187 c197; clear r187
               refine shW_drawM [(.still, 0), (.still, 1), (.still, 2), (.still, 3), (.still, 4), (.still, 5), (.still, 6), (.still, 7), (.seq, 8)] (by kernel_rfl) (by kernel_rfl) (trivial) (by rfl) (by kernel_rfl) ?_
               refine shM_v (v := .int .i64 x) (ek := [(10, .pointer (some ⟨b101, 0, none⟩))]) (Ls := [(b101, .cells #[.int .i64 x] 3 (0, 0))]) rfl rfl rfl rfl ((sc rfl (sn _))) (by kernel_rfl) (s0 (s2 (s1 (s1 (s1 (s1 (s1 (s1 (s3 sr))))))))) (fun H F' L' hF' hL' => v_load Try.isAgg3 rfl ((Has.own 0 rfl).ext hF' hL') rfl) ?_
               obtain ⟨x8, g199, hx200, r201⟩ := ix_ok r198; clear r198
               have hc202 := arr_at (cI_ok .i64) h122 hx200
               refine shM_v (v := .pointer (some ⟨b74, 0 + (x : Int).toNat * 1, none⟩)) (ek := [(9, .pointer (some ⟨b74, 0, none⟩)), (68, .int .i64 x)]) (Ls := []) rfl rfl rfl rfl ((sc rfl (sc rfl (sn _)))) (by kernel_rfl) sm (fun H F' L' hF' hL' => v_indexA Try.underlying116 Try.sizeOf3 rfl rfl (arr_lt h122 g199)) ?_
               refine shM_v (v := .int .i64 x8) (ek := [(69, .pointer (some ⟨b74, 0 + (x : Int).toNat * 1, none⟩))]) (Ls := [(b74, .cells (arr (cI .i64) next_4) 116 (0, 0))]) rfl rfl rfl rfl ((sc rfl (sn _))) (by kernel_rfl) (s0 (s1 (s2 (s1 (s1 (s1 (s1 (s1 (s3 sr))))))))) (fun H F' L' hF' hL' => v_load Try.isAgg3 rfl ((Has.own 0 rfl).ext hF' hL') ((hc202).2.2 0 (by decide))) ?_
               refine shM_v (v := .int .i64 x3) (ek := [(11, .int .i64 x3)]) (Ls := []) rfl rfl rfl rfl ((sc rfl (sn _))) (by kernel_rfl) sm (fun H F' L' hF' hL' => v_move rfl) ?_
               obtain ⟨x9, g203, hx204, r205⟩ := ix_ok r201; clear r201
               have hc206 := arr_at (cI_ok .i64) h58 hx204
               refine shM_v (v := .pointer (some ⟨b54, 0 + (x3 : Int).toNat * 1, none⟩)) (ek := [(7, .pointer (some ⟨b54, 0, none⟩)), (71, .int .i64 x3)]) (Ls := []) rfl rfl rfl rfl ((sc rfl (sc rfl (sn _)))) (by kernel_rfl) sm (fun H F' L' hF' hL' => v_indexA Try.underlying116 Try.sizeOf3 rfl rfl (arr_lt h58 g203)) ?_
               refine shM_v (v := .int .i64 x9) (ek := [(72, .pointer (some ⟨b54, 0 + (x3 : Int).toNat * 1, none⟩))]) (Ls := [(b54, .cells (arr (cI .i64) ways2) 116 (0, 0))]) rfl rfl rfl rfl ((sc rfl (sn _))) (by kernel_rfl) (s0 (s1 (s1 (s1 (s2 (s1 (s1 (s1 (s3 sr))))))))) (fun H F' L' hF' hL' => v_load Try.isAgg3 rfl ((Has.own 0 rfl).ext hF' hL') ((hc206).2.2 0 (by decide))) ?_
               obtain ⟨g207, r208⟩ := gd_ok r205; clear r205
               refine shM_v (v := .int .i64 (x8 + x9)) (ek := [(70, .int .i64 x8), (73, .int .i64 x9)]) (Ls := []) rfl rfl rfl rfl ((sc rfl (sc rfl (sn _)))) (by kernel_rfl) sm (fun H F' L' hF' hL' => v_add rfl rfl g207) ?_
               refine shM_v (v := .pointer (some ⟨b74, 0 + (x : Int).toNat * 1, none⟩)) (ek := [(9, .pointer (some ⟨b74, 0, none⟩)), (68, .int .i64 x)]) (Ls := []) rfl rfl rfl rfl ((sc rfl (sc rfl (sn _)))) (by kernel_rfl) sm (fun H F' L' hF' hL' => v_indexA Try.underlying116 Try.sizeOf3 rfl rfl (arr_lt h122 g199)) ?_
               refine ⟨_, [(74, .int .i64 (x8 + x9)), (75, .pointer (some ⟨b74, 0 + (x : Int).toNat * 1, none⟩))], rfl, rfl, (sc rfl (sc rfl (sn _))), by kernel_rfl, ?_⟩; intro H
               obtain ⟨l2, h210, r211⟩ := bv_ok r208; clear r208
               have h212 : l2.length = 64 := by rw [h210, List.length_set]; exact h122
               refine o_storeArr (i := 1) Try.sizeOf3 (cI_ok .i64) rfl rfl rfl rfl (arr_lt h122 g199) h122 ?_
               refine shO_L (L' := (b101, .cells #[.int .i64 x] 3 (0, 0)) :: ((b74, .cells (arr (cI .i64) l2) 116 (0, 0)) :: ((b73, .cells #[.int .i64 k] 3 (0, 0)) :: ((b54, .cells (arr (cI .i64) ways2) 116 (0, 0)) :: ((b53, .cells #[.slice a47 n51 c48] 23 (0, 0)) :: ((b11, .cells #[.pointer (some ⟨b17, 0, none⟩)] 105 (0, 0)) :: ((b29, .map es30 cl31) :: (Lb49 ++ [])))))))) (by rw [h210]; rfl) ?_
               refine shO_nil ⟨undef, rfl, FExt.refl _, [], by kernel_rfl, .inl (.inl rfl), (fun _ h => absurd h List.not_mem_nil), ?_⟩
               refine shM_nil ?_
               refine inBlock_n (id := 5) ?_
               refine ⟨(b101, .cells #[.int .i64 x] 3 (0, 0)) :: ((b74, .cells (arr (cI .i64) l2) 116 (0, 0)) :: ((b73, .cells #[.int .i64 k] 3 (0, 0)) :: ((b54, .cells (arr (cI .i64) ways2) 116 (0, 0)) :: ((b53, .cells #[.slice a47 n51 c48] 23 (0, 0)) :: ((b11, .cells #[.pointer (some ⟨b17, 0, none⟩)] 105 (0, 0)) :: ((b29, .map es30 cl31) :: (Lb49 ++ []))))))), sr, ?_⟩; exact ⟨_, l2, (by rw [hxs134]; simp), r211, rfl, h212⟩
             have r213 := ite_f r187 c197; clear r187
             refine shW_skip (inBlock_n (id := 5) ?_)
             refine ⟨(b101, .cells #[.int .i64 x] 3 (0, 0)) :: ((b74, .cells (arr (cI .i64) next_4) 116 (0, 0)) :: ((b73, .cells #[.int .i64 k] 3 (0, 0)) :: ((b54, .cells (arr (cI .i64) ways2) 116 (0, 0)) :: ((b53, .cells #[.slice a47 n51 c48] 23 (0, 0)) :: ((b11, .cells #[.pointer (some ⟨b17, 0, none⟩)] 105 (0, 0)) :: ((b29, .map es30 cl31) :: (Lb49 ++ []))))))), sr, ?_⟩; exact ⟨_, next_4, (by rw [hxs134]; simp), r213, rfl, h122⟩
           · rintro F214 _ hF215 ⟨tl3, next_4, hs123, r216, rfl, h122⟩
             obtain rfl := rest_nil hs123; rw [night_Ways_l3] at r216
             refine inBlock_n (id := 4) (inBlock_n (id := 3) ?_)
             refine ⟨(b74, .cells (arr (cI .i64) next_4) 116 (0, 0)) :: ((b73, .cells #[.int .i64 k] 3 (0, 0)) :: ((b54, .cells (arr (cI .i64) ways2) 116 (0, 0)) :: ((b53, .cells #[.slice a47 n51 c48] 23 (0, 0)) :: ((b11, .cells #[.pointer (some ⟨b17, 0, none⟩)] 105 (0, 0)) :: ((b29, .map es30 cl31) :: (Lb49 ++ [])))))), s1 (s2 (s2 (s2 (s2 (s2 (s2 (s4 sr))))))), ?_⟩; exact ⟨_, next_4, (by rw [hxs98]; simp), r216, rfl, h122⟩
           intro c F1 L1 hx h; exact h.elim
         · rintro F217 _ hF218 ⟨tl, next_2, hs87, r219, rfl, h86⟩
           obtain rfl := rest_nil hs87; rw [night_Ways_l2] at r219
           refine inBlock_n (id := 2) ?_
           obtain rfl := inj1 r219
           exact mi (kc (kd kr)) ⟨(hF81.trans hF218), rfl, (sc rfl (sc rfl (sc rfl (sc rfl (sc rfl (sc rfl (sn _))))))), h86⟩
         intro c F1 L1 hx h; exact h.elim
       rintro e1 F221 _ ⟨hF222, rfl, he220, h75⟩
       refine shW_env _ he220 ?_; clear he220
       refine shW_region ?_
       refine ov (v_loadW Try.isAgg116 Try.sizeOf116 rfl (Has.own 0 rfl) (arr_sz (cI_ok .i64) h75)) rfl ?_
       refine o_storeW (i := 1) Try.sizeOf116 rfl rfl rfl (arr_sz (cI_ok .i64) h58) (arr_sz (cI_ok .i64) h75) (arr_one (cI_ok .i64)) ?_
       refine shO_L (L' := (b74, .cells (arr (cI .i64) next_) 116 (0, 0)) :: ((b54, .cells (arr (cI .i64) next_) 116 (0, 0)) :: ((b53, .cells #[.slice a47 n51 c48] 23 (0, 0)) :: ((b11, .cells #[.pointer (some ⟨b17, 0, none⟩)] 105 (0, 0)) :: ((b29, .map es30 cl31) :: (Lb49 ++ [])))))) rfl ?_
       refine shO_nil (inBlock_n (id := 1) ?_)
       obtain rfl := inj1 r77
       exact mi (kd kr) ⟨hF222, rfl, (sc rfl (sc rfl (sc rfl (sc rfl (sc rfl (sn _)))))), h75⟩
     rintro e1 F224 _ ⟨hF225, rfl, he223, h70⟩
     refine shW_env _ he223 ?_; clear he223
     refine shW_region ?_
     refine ov (v_add rfl rfl (Ctr.r64 hk61 c68 g59)) rfl ?_
     refine om rfl rfl (shO_nil ?_)
     exact le kr ⟨_, hk69, ways3, r72, (hF66.trans hF225), rfl, (sc rfl (sc rfl (sc rfl (sc rfl (sc rfl (sn _)))))), h70⟩
   obtain rfl := Ctr.zero hk61 c68
   rw [night_Ways_l1] at r63
   refine shW_exit (andThen_exit (andThen_exit ?_))
   refine inBlock_exit ?_
   obtain rfl := inj1 r63
   exact mi kr ⟨hF66, rfl, (sc rfl (sc rfl (sc rfl (sn _)))), h58⟩
 rintro e1 F227 _ ⟨hF228, rfl, he226, h55⟩
 refine shW_env _ he226 ?_; clear he226
 replace h25 := h25.mono (slE_ok (iE_ok _)) hF228
 replace h28 := h28.mono (slE_ok (iE_ok _)) hF228
 replace h35 := h35.mono (arE_ok (n := 64) (sz := 1) cB_ok) hF228
 replace hz50 := hz50.mono (slE_ok (iE_ok _)) hF228
 replace hz20 := hF228 _ _ hz20
 refine wsr ?_
 refine ov (v_load Try.isAgg23 rfl (Has.own 1 rfl) rfl) rfl ?_
 refine ov (v_load Try.isAgg23 rfl (Has.own 1 rfl) rfl) rfl ?_
 refine ov ((v_lenS Try.underlying23 rfl).i (SlR.lenI hz50)) rfl ?_
 obtain ⟨g229, r230⟩ := gd_ok r57; clear r57
 refine ov (v_sub rfl rfl g229) rfl ?_
 obtain ⟨x10, g231, hx232, r233⟩ := ix_ok r230; clear r230
 obtain ⟨b234, o235, c236, vs237, ha238, hs239, hle240, ⟨a243, c244, rfl, h245⟩, hl241, hc242⟩ := SlR.at (slE_ok (iE_ok _)) hz50 (L := (b54, .cells (arr (cI .i64) ways) 116 (0, 0)) :: ((b53, .cells #[.slice a47 n51 c48] 23 (0, 0)) :: ((b11, .cells #[.pointer (some ⟨b17, 0, none⟩)] 105 (0, 0)) :: ((b29, .map es30 cl31) :: (Lb49 ++ []))))) (fC (fC (fC (fC fP)))) g231.1 hx232
 refine ov (v_indexO Try.underlying23 Try.sizeOf27 rfl ha238 rfl (SlR.idx hz50 g231)) rfl ?_
 refine ov (v_load Try.isAgg27 rfl hs239 (hc242 0 (by decide))) rfl ?_
 refine o_alloc rfl Try.zeroValue27 ?_; intro b246 hb246
 refine o_store (i := 0) Try.sizeOf27 rfl rfl rfl rfl (Nat.le_of_ble_eq_true rfl) ?_
 refine shO_L (L' := (b246, .cells #[.slice a243 x10.length c244] 27 (0, 0)) :: ((b54, .cells (arr (cI .i64) ways) 116 (0, 0)) :: ((b53, .cells #[.slice a47 n51 c48] 23 (0, 0)) :: ((b11, .cells #[.pointer (some ⟨b17, 0, none⟩)] 105 (0, 0)) :: ((b29, .map es30 cl31) :: (Lb49 ++ [])))))) rfl ?_
 refine nsr ?_
 refine o_alloc rfl Try.zeroValue3 ?_; intro b247 hb247
 refine o_alloc rfl Try.zeroValue3 ?_; intro b248 hb248
 refine o_store (i := 1) Try.sizeOf3 rfl rfl rfl rfl (Nat.le_of_ble_eq_true rfl) ?_
 refine shO_L (L' := (b248, .cells #[.int .i64 0] 3 (0, 0)) :: ((b247, .cells #[.int .i64 100] 3 (0, 0)) :: ((b246, .cells #[.slice a243 x10.length c244] 27 (0, 0)) :: ((b54, .cells (arr (cI .i64) ways) 116 (0, 0)) :: ((b53, .cells #[.slice a47 n51 c48] 23 (0, 0)) :: ((b11, .cells #[.pointer (some ⟨b17, 0, none⟩)] 105 (0, 0)) :: ((b29, .map es30 cl31) :: (Lb49 ++ [])))))))) rfl ?_
 refine o_store (i := 0) Try.sizeOf3 rfl rfl rfl rfl (Nat.le_of_ble_eq_true rfl) ?_
 refine shO_L (L' := (b248, .cells #[.int .i64 0] 3 (0, 0)) :: ((b247, .cells #[.int .i64 100] 3 (0, 0)) :: ((b246, .cells #[.slice a243 x10.length c244] 27 (0, 0)) :: ((b54, .cells (arr (cI .i64) ways) 116 (0, 0)) :: ((b53, .cells #[.slice a47 n51 c48] 23 (0, 0)) :: ((b11, .cells #[.pointer (some ⟨b17, 0, none⟩)] 105 (0, 0)) :: ((b29, .map es30 cl31) :: (Lb49 ++ [])))))))) rfl ?_
 refine shO_nil ?_
 obtain ⟨fewest, h249, r250⟩ := b1_ok r233; clear r233
 refine shW_join (fun e1 F1 L1 => FExt F227 F1 ∧ L1 = ((b248, .cells #[.int .i64 0] 3 (0, 0)) :: ((b247, .cells #[.int .i64 fewest] 3 (0, 0)) :: ((b246, .cells #[.slice a243 x10.length c244] 27 (0, 0)) :: ((b54, .cells (arr (cI .i64) ways) 116 (0, 0)) :: ((b53, .cells #[.slice a47 n51 c48] 23 (0, 0)) :: ((b11, .cells #[.pointer (some ⟨b17, 0, none⟩)] 105 (0, 0)) :: ((b29, .map es30 cl31) :: (Lb49 ++ [])))))))) ∧ e1.sub [(4, .pointer (some ⟨b11, 0, none⟩)), (6, .pointer (some ⟨b53, 0, none⟩)), (7, .pointer (some ⟨b54, 0, none⟩)), (12, .pointer (some ⟨b246, 0, none⟩)), (13, .pointer (some ⟨b247, 0, none⟩)), (14, .pointer (some ⟨b248, 0, none⟩))]) ?_ ?_
 · clear r250
   refine wsr ?_
   refine ov (v_load Try.isAgg105 rfl (Has.own 5 rfl) rfl) rfl ?_
   refine ov (v_load Try.isAgg23 rfl (Has.own 4 rfl) rfl) rfl ?_
   refine ov ((v_lenS Try.underlying23 rfl).i (SlR.lenI hz50)) rfl ?_
   obtain ⟨g251, r252⟩ := gd_ok h249; clear h249
   refine ov (v_sub rfl rfl g251) rfl ?_
   obtain ⟨y3, h253, r254⟩ := b1_ok r252; clear r252
   refine o_call0 rfl Try.call62 rfl rfl rfl (night_desk_fit_w hz20 h25 h28 h35 h253) ?_; rintro _ F255 _ hF256 hn257 ⟨cp259, rfl, rfl, hit260⟩
   replace h245 := h245.mono (iE_ok _) hF256
   refine shO_L (ln rfl) ?_
   refine shO_nil ?_
   refine shW_block ?_
   refine shW_rangeFunc (encs := (fun x : Int => #[.int .i64 x])) (xs := y3) rfl Try.call102 rfl (fun _ => rfl) hit260 (fun pre F1 L1 => ∃ (tl5 : List Int) (fewest2 : Int), y3 = pre ++ tl5 ∧ night_Ways_l4 x10 tl5 fewest2 = some fewest ∧ L1 = ((b248, .cells #[.int .i64 0] 3 (0, 0)) :: ((b247, .cells #[.int .i64 fewest2] 3 (0, 0)) :: ((b246, .cells #[.slice a243 x10.length c244] 27 (0, 0)) :: ((b54, .cells (arr (cI .i64) ways) 116 (0, 0)) :: ((b53, .cells #[.slice a47 n51 c48] 23 (0, 0)) :: ((b11, .cells #[.pointer (some ⟨b17, 0, none⟩)] 105 (0, 0)) :: ((b29, .map es30 cl31) :: (Lb49 ++ []))))))))) (fun _ _ _ => False) ?_ ?_ ?_ ?_ ?_ ?_
   · rintro pre F1 F2 L1 ⟨tl5, fewest2, hs261, r262, rfl⟩ hx; exact ⟨tl5, fewest2, hs261, r262, rfl⟩
   · intro c F1 F2 L1 h hx; exact h
   · exact ⟨_, 100, rfl, r254, rfl⟩
   · rintro l263 wr264 Fr265 Xr266 Ha267 Hb268 hnb269 hH273 pre x11 tl6 hxs272 F270 _ hF271 ⟨tl5, fewest2, hs261, r274, rfl⟩
     obtain rfl := rest_head hs261 hxs272
     rw [night_Ways_l4] at r274
     replace h245 := h245.mono (iE_ok _) hF271
     refine shW_env [(4, .pointer (some ⟨b11, 0, none⟩)), (6, .pointer (some ⟨b53, 0, none⟩)), (7, .pointer (some ⟨b54, 0, none⟩)), (12, .pointer (some ⟨b246, 0, none⟩)), (13, .pointer (some ⟨b247, 0, none⟩)), (14, .pointer (some ⟨b248, 0, none⟩)), (88, .func (.func 102) #[] cp259), (89, .int .i64 x11)] (by exact (sc rfl (sc rfl (sc rfl (sc rfl (sc rfl (sc rfl (sc rfl (sc rfl (sn _)))))))))) ?_
     refine shW_region (oa rfl rfl (shO_nil ?_))
     refine ⟨rfl, ?_⟩
     refine shW_block ?_
     refine shW_drawM [(.still, 0), (.still, 1), (.still, 2), (.still, 3), (.still, 4), (.seq, 5), (.seq, 6), (.seq, 7)] (by kernel_rfl) (by kernel_rfl) (trivial) (by rfl) (by kernel_rfl) ?_
     refine shM_v (v := .int .i64 fewest2) (ek := [(13, .pointer (some ⟨b247, 0, none⟩))]) (Ls := [(b247, .cells #[.int .i64 fewest2] 3 (0, 0))]) rfl rfl rfl rfl ((sc rfl (sn _))) (by kernel_rfl) (s0 (s1 (s2 (s1 (s1 (s1 (s1 (s1 (s3 sr))))))))) (fun H F' L' hF' hL' => v_load Try.isAgg3 rfl ((Has.own 0 rfl).ext hF' hL') rfl) ?_
     refine shM_v (v := .slice a243 x10.length c244) (ek := [(12, .pointer (some ⟨b246, 0, none⟩))]) (Ls := [(b246, .cells #[.slice a243 x10.length c244] 27 (0, 0))]) rfl rfl rfl rfl ((sc rfl (sn _))) (by kernel_rfl) (s0 (s1 (s1 (s2 (s1 (s1 (s1 (s1 (s3 sr))))))))) (fun H F' L' hF' hL' => v_load Try.isAgg27 rfl ((Has.own 0 rfl).ext hF' hL') rfl) ?_
     refine shM_v (v := .int .i64 x11) (ek := [(15, .int .i64 x11)]) (Ls := []) rfl rfl rfl rfl ((sc rfl (sn _))) (by kernel_rfl) sm (fun H F' L' hF' hL' => v_move rfl) ?_
     obtain ⟨x12, g275, hx276, r277⟩ := ix_ok r274; clear r274
     obtain ⟨b278, o279, c280, vs281, ha282, hs283, hle284, rfl, hl285, hc286⟩ := RowR.at (iE_ok _) h245 ([]) g275.1 hx276
     refine shM_v (v := .pointer (some ⟨b278, o279 + (x11 : Int).toNat * 1, none⟩)) (ek := [(91, .slice a243 x10.length c244), (92, .int .i64 x11)]) (Ls := []) rfl rfl rfl rfl ((sc rfl (sc rfl (sn _)))) (by kernel_rfl) sm (fun H F' L' hF' hL' => v_indexO Try.underlying27 Try.sizeOf3 rfl ha282 rfl g275) ?_
     refine shM_v (v := .int .i64 x12) (ek := [(93, .pointer (some ⟨b278, o279 + (x11 : Int).toNat * 1, none⟩))]) (Ls := []) rfl rfl rfl rfl ((sc rfl (sn _))) (by kernel_rfl) sm (fun H F' L' hF' hL' => v_load Try.isAgg3 rfl (hs283.ext hF' hL') (hc286 0 (by decide))) ?_
     refine ⟨_, [(94, .int .i64 x12)], rfl, rfl, (sc rfl (sn _)), by kernel_rfl, ?_⟩; intro H
     refine o_buildSlice (cs := #[.int .i64 x12]) rfl rfl (buildSlice_all slt_27 [.int .i64 x12] rfl (by decide) (by simp [Value.cells]) (by decide)) ?_; intro b287 hb287
     refine shO_nil ⟨_, rfl, FExt.refl _, [0], by kernel_rfl, .inl (.inr (fun d h => by cases h; rfl)), (List.forall_mem_cons.2 ⟨s0 (s1 (s1 (s2 (s1 (s1 (s1 (s1 (s1 (s3 sr))))))))), (fun _ h => absurd h List.not_mem_nil)⟩), ?_⟩
     refine ⟨_, [(90, .int .i64 fewest2), (95, .slice (some ⟨b287, 0, none⟩) 1 1)], rfl, rfl, (sc rfl (sc rfl (sn _))), by kernel_rfl, ?_⟩; intro H
     refine shO_freeze 0 rfl hb287 ?_; intro F288 hF289 hz290
     refine shO_L (L' := (b248, .cells #[.int .i64 0] 3 (0, 0)) :: ((b247, .cells #[.int .i64 fewest2] 3 (0, 0)) :: ((b246, .cells #[.slice a243 x10.length c244] 27 (0, 0)) :: ((b54, .cells (arr (cI .i64) ways) 116 (0, 0)) :: ((b53, .cells #[.slice a47 n51 c48] 23 (0, 0)) :: ((b11, .cells #[.pointer (some ⟨b17, 0, none⟩)] 105 (0, 0)) :: ((b29, .map es30 cl31) :: (Lb49 ++ [])))))))) rfl ?_
     have h291 : RowR 1 (iE .i64) F288 (some ⟨b287, 0, none⟩) 1 [x12] := RowR.of_block (iE_ok _) (vss := [[.int .i64 x12]]) (xs := [x12]) hz290 (.cons rfl .nil) rfl (by simp [maxLen])
     obtain ⟨n3, h292, r293⟩ := b1_ok r277; clear r277
     refine o_callV rfl Try.call64 rfl rfl rfl (night_least_w h291 h292) ?_
     refine shO_nil ⟨_, rfl, hF289, [], by kernel_rfl, .inl (.inl rfl), (fun _ h => absurd h List.not_mem_nil), ?_⟩
     refine ⟨_, [(13, .pointer (some ⟨b247, 0, none⟩)), (96, .int .i64 n3)], rfl, rfl, (sc rfl (sc rfl (sn _))), by kernel_rfl, ?_⟩; intro H
     refine o_store (i := 1) Try.sizeOf3 rfl rfl rfl rfl (Nat.le_of_ble_eq_true rfl) ?_
     refine shO_L (L' := (b248, .cells #[.int .i64 0] 3 (0, 0)) :: ((b247, .cells #[.int .i64 n3] 3 (0, 0)) :: ((b246, .cells #[.slice a243 x10.length c244] 27 (0, 0)) :: ((b54, .cells (arr (cI .i64) ways) 116 (0, 0)) :: ((b53, .cells #[.slice a47 n51 c48] 23 (0, 0)) :: ((b11, .cells #[.pointer (some ⟨b17, 0, none⟩)] 105 (0, 0)) :: ((b29, .map es30 cl31) :: (Lb49 ++ [])))))))) rfl ?_
     refine shO_nil ⟨undef, rfl, FExt.refl _, [], by kernel_rfl, .inl (.inl rfl), (fun _ h => absurd h List.not_mem_nil), ?_⟩
     refine shM_nil ?_
     refine inBlock_n (id := 7) ?_
     refine ⟨(b248, .cells #[.int .i64 0] 3 (0, 0)) :: ((b247, .cells #[.int .i64 n3] 3 (0, 0)) :: ((b246, .cells #[.slice a243 x10.length c244] 27 (0, 0)) :: ((b54, .cells (arr (cI .i64) ways) 116 (0, 0)) :: ((b53, .cells #[.slice a47 n51 c48] 23 (0, 0)) :: ((b11, .cells #[.pointer (some ⟨b17, 0, none⟩)] 105 (0, 0)) :: ((b29, .map es30 cl31) :: (Lb49 ++ []))))))), sr, ?_⟩; exact ⟨_, n3, (by rw [hxs272]; simp), r293, rfl⟩
   · rintro F294 _ hF295 ⟨tl5, fewest2, hs261, r296, rfl⟩
     obtain rfl := rest_nil hs261; rw [night_Ways_l4] at r296
     refine inBlock_n (id := 6) ?_
     obtain rfl := inj1 r296
     exact mi kr ⟨(hF256.trans hF295), rfl, (sc rfl (sc rfl (sc rfl (sc rfl (sc rfl (sc rfl (sn _)))))))⟩
   intro c F1 L1 hx h; exact h.elim
 rintro e1 F298 _ ⟨hF299, rfl, he297⟩
 refine shW_env _ he297 ?_; clear he297
 replace h25 := h25.mono (slE_ok (iE_ok _)) hF299
 replace h28 := h28.mono (slE_ok (iE_ok _)) hF299
 replace h35 := h35.mono (arE_ok (n := 64) (sz := 1) cB_ok) hF299
 replace h245 := h245.mono (iE_ok _) hF299
 replace hz50 := hz50.mono (slE_ok (iE_ok _)) hF299
 replace hz20 := hF299 _ _ hz20
 obtain ⟨out, h300, r301⟩ := b1_ok r250; clear r250
 refine shW_join (fun e1 F1 L1 => FExt F298 F1 ∧ L1 = [(b248, .cells #[.int .i64 out] 3 (0, 0))] ∧ e1.sub [(14, .pointer (some ⟨b248, 0, none⟩))]) ?_ ?_
 · clear r301
   refine wsr ?_
   refine ov (v_load Try.isAgg105 rfl (Has.own 5 rfl) rfl) rfl ?_
   refine ov (v_load Try.isAgg23 rfl (Has.own 4 rfl) rfl) rfl ?_
   refine ov ((v_lenS Try.underlying23 rfl).i (SlR.lenI hz50)) rfl ?_
   obtain ⟨g302, r303⟩ := gd_ok h300; clear h300
   refine ov (v_sub rfl rfl g302) rfl ?_
   obtain ⟨y4, h304, r305⟩ := b1_ok r303; clear r303
   refine o_call0 rfl Try.call62 rfl rfl rfl (night_desk_fit_w hz20 h25 h28 h35 h304) ?_; rintro _ F306 _ hF307 hn308 ⟨cp310, rfl, rfl, hit311⟩
   replace h245 := h245.mono (iE_ok _) hF307
   refine shO_L (ln rfl) ?_
   refine shO_nil ?_
   refine shW_block ?_
   refine kW (kc (kc (kc (kc kn)))) ?_
   refine shW_rangeFunc (encs := (fun x : Int => #[.int .i64 x])) (xs := y4) rfl Try.call102 rfl (fun _ => rfl) hit311 (fun pre F1 L1 => ∃ (tl7 : List Int) (out2 : Int), y4 = pre ++ tl7 ∧ night_Ways_l5 ways x10 fewest tl7 out2 = some out ∧ L1 = [(b248, .cells #[.int .i64 out2] 3 (0, 0)), (b247, .cells #[.int .i64 fewest] 3 (0, 0)), (b246, .cells #[.slice a243 x10.length c244] 27 (0, 0)), (b54, .cells (arr (cI .i64) ways) 116 (0, 0))]) (fun _ _ _ => False) ?_ ?_ ?_ ?_ ?_ ?_
   · rintro pre F1 F2 L1 ⟨tl7, out2, hs312, r313, rfl⟩ hx; exact ⟨tl7, out2, hs312, r313, rfl⟩
   · intro c F1 F2 L1 h hx; exact h
   · exact ⟨_, 0, rfl, r305, rfl⟩
   · rintro l314 wr315 Fr316 Xr317 Ha318 Hb319 hnb320 hH324 pre x13 tl8 hxs323 F321 _ hF322 ⟨tl7, out2, hs312, r325, rfl⟩
     obtain rfl := rest_head hs312 hxs323
     rw [night_Ways_l5] at r325
     replace h245 := h245.mono (iE_ok _) hF322
     refine shW_env [(7, .pointer (some ⟨b54, 0, none⟩)), (12, .pointer (some ⟨b246, 0, none⟩)), (13, .pointer (some ⟨b247, 0, none⟩)), (14, .pointer (some ⟨b248, 0, none⟩)), (101, .func (.func 102) #[] cp310), (102, .int .i64 x13)] (by exact (sc rfl (sc rfl (sc rfl (sc rfl (sc rfl (sc rfl (sn _)))))))) ?_
     refine shW_region (oa rfl rfl (shO_nil ?_))
     refine ⟨rfl, ?_⟩
     refine shW_block ?_
     refine wsd (by kernel_rfl) (by kernel_rfl) (by kernel_rfl) ?_
     refine qv (v_load Try.isAgg27 rfl (Has.own 2 rfl) rfl) rfl ?_
     refine qm rfl rfl ?_
     obtain ⟨x14, g326, hx327, r328⟩ := ix_ok r325; clear r325
     obtain ⟨b329, o330, c331, vs332, ha333, hs334, hle335, rfl, hl336, hc337⟩ := RowR.at (iE_ok _) h245 ([(b248, .cells #[.int .i64 out2] 3 (0, 0)), (b247, .cells #[.int .i64 fewest] 3 (0, 0)), (b246, .cells #[.slice a243 x10.length c244] 27 (0, 0)), (b54, .cells (arr (cI .i64) ways) 116 (0, 0))]) g326.1 hx327
     refine qv (v_indexO Try.underlying27 Try.sizeOf3 rfl ha333 rfl g326) rfl ?_
     refine qv (v_load Try.isAgg3 rfl hs334 (hc337 0 (by decide))) rfl ?_
     refine qv (v_load Try.isAgg3 rfl (Has.own 1 rfl) rfl) rfl ?_
     refine qv (v_eql rfl rfl) rfl ?_
     refine shQ_nil ?_
     refine shW_condP rfl (fun c338 => ?_) (fun c338 => ?_)
     · have r339 := ite_t r328 c338; clear r328
       refine shW_drawM [(.still, 0), (.still, 1), (.still, 2), (.still, 3), (.still, 4), (.seq, 5)] (by kernel_rfl) (by kernel_rfl) (trivial) (by rfl) (by kernel_rfl) ?_
       refine shM_v (v := .int .i64 out2) (ek := [(14, .pointer (some ⟨b248, 0, none⟩))]) (Ls := [(b248, .cells #[.int .i64 out2] 3 (0, 0))]) rfl rfl rfl rfl ((sc rfl (sn _))) (by kernel_rfl) (s0 (s2 (s1 (s1 (s1 sr))))) (fun H F' L' hF' hL' => v_load Try.isAgg3 rfl ((Has.own 0 rfl).ext hF' hL') rfl) ?_
       refine shM_v (v := .int .i64 x13) (ek := [(16, .int .i64 x13)]) (Ls := []) rfl rfl rfl rfl ((sc rfl (sn _))) (by kernel_rfl) sm (fun H F' L' hF' hL' => v_move rfl) ?_
       obtain ⟨x15, g340, hx341, r342⟩ := ix_ok r339; clear r339
       have hc343 := arr_at (cI_ok .i64) h55 hx341
       refine shM_v (v := .pointer (some ⟨b54, 0 + (x13 : Int).toNat * 1, none⟩)) (ek := [(7, .pointer (some ⟨b54, 0, none⟩)), (110, .int .i64 x13)]) (Ls := []) rfl rfl rfl rfl ((sc rfl (sc rfl (sn _)))) (by kernel_rfl) sm (fun H F' L' hF' hL' => v_indexA Try.underlying116 Try.sizeOf3 rfl rfl (arr_lt h55 g340)) ?_
       refine shM_v (v := .int .i64 x15) (ek := [(111, .pointer (some ⟨b54, 0 + (x13 : Int).toNat * 1, none⟩))]) (Ls := [(b54, .cells (arr (cI .i64) ways) 116 (0, 0))]) rfl rfl rfl rfl ((sc rfl (sn _))) (by kernel_rfl) (s0 (s1 (s1 (s1 (s2 sr))))) (fun H F' L' hF' hL' => v_load Try.isAgg3 rfl ((Has.own 0 rfl).ext hF' hL') ((hc343).2.2 0 (by decide))) ?_
       obtain ⟨g344, r345⟩ := gd_ok r342; clear r342
       refine shM_v (v := .int .i64 (out2 + x15)) (ek := [(109, .int .i64 out2), (112, .int .i64 x15)]) (Ls := []) rfl rfl rfl rfl ((sc rfl (sc rfl (sn _)))) (by kernel_rfl) sm (fun H F' L' hF' hL' => v_add rfl rfl g344) ?_
       refine ⟨_, [(14, .pointer (some ⟨b248, 0, none⟩)), (113, .int .i64 (out2 + x15))], rfl, rfl, (sc rfl (sc rfl (sn _))), by kernel_rfl, ?_⟩; intro H
       refine o_store (i := 0) Try.sizeOf3 rfl rfl rfl rfl (Nat.le_of_ble_eq_true rfl) ?_
       refine shO_L (L' := [(b248, .cells #[.int .i64 (out2 + x15)] 3 (0, 0)), (b247, .cells #[.int .i64 fewest] 3 (0, 0)), (b246, .cells #[.slice a243 x10.length c244] 27 (0, 0)), (b54, .cells (arr (cI .i64) ways) 116 (0, 0))]) rfl ?_
       refine shO_nil ⟨undef, rfl, FExt.refl _, [], by kernel_rfl, .inl (.inl rfl), (fun _ h => absurd h List.not_mem_nil), ?_⟩
       refine shM_nil ?_
       refine inBlock_n (id := 9) ?_
       refine ⟨[(b248, .cells #[.int .i64 (out2 + x15)] 3 (0, 0)), (b247, .cells #[.int .i64 fewest] 3 (0, 0)), (b246, .cells #[.slice a243 x10.length c244] 27 (0, 0)), (b54, .cells (arr (cI .i64) ways) 116 (0, 0))], sr, ?_⟩; exact ⟨_, out2 + x15, (by rw [hxs323]; simp), r345, rfl⟩
     have r346 := ite_f r328 c338; clear r328
     refine shW_skip (inBlock_n (id := 9) ?_)
     refine ⟨[(b248, .cells #[.int .i64 out2] 3 (0, 0)), (b247, .cells #[.int .i64 fewest] 3 (0, 0)), (b246, .cells #[.slice a243 x10.length c244] 27 (0, 0)), (b54, .cells (arr (cI .i64) ways) 116 (0, 0))], sr, ?_⟩; exact ⟨_, out2, (by rw [hxs323]; simp), r346, rfl⟩
   · rintro F347 _ hF348 ⟨tl7, out2, hs312, r349, rfl⟩
     obtain rfl := rest_nil hs312; rw [night_Ways_l5] at r349
     refine inBlock_n (id := 8) ?_
     obtain rfl := inj1 r349
     exact mi (kc kn) ⟨(hF307.trans hF348), rfl, (sc rfl (sn _))⟩
   intro c F1 L1 hx h; exact h.elim
 rintro e1 F351 _ ⟨hF352, rfl, he350⟩
 refine shW_env _ he350 ?_; clear he350
 refine wsr ?_
 refine ov (v_load Try.isAgg3 rfl (Has.own 0 rfl) rfl) rfl ?_
 refine oa rfl rfl (oa rfl rfl (shO_nil ?_))
 refine kW kn ?_
 refine shW_ret ?_
 refine q_res2 Try.results26 (res_tmp rfl) (res_tmp rfl) (sr) ?_
 obtain ⟨rfl, rfl⟩ := inj2 r301
 exact rfl
set_option maxHeartbeats 1000000 in
theorem slices_Equal_int_int_w {s1_a : Option Addr} {s1_c : Nat} {s1 : List Int} {s2_a : Option Addr} {s2_c : Nat} {s2 : List Int} {F : FS} (h_s1 : RowR 1 (iE .i64) F s1_a s1_c s1) (h_s2 : RowR 1 (iE .i64) F s2_a s2_c s2) {r : Bool} (hr : slices_Equal_int_int s1 s2 = some r) :
    SpecV Try.prog 77 #[.slice s1_a s1.length s1_c, .slice s2_a s2.length s2_c] F (.bool r) := by
 refine spec_of_shW (args := [.slice s1_a s1.length s1_c, .slice s2_a s2.length s2_c]) Try.func77 rfl Try.ntmps77 (Nat.le_of_ble_eq_true rfl) ?_
 intro K _ _; rw [slices_Equal_int_int] at hr
 refine wsr (oa rfl rfl (shO_nil (shW_seq (wsr (om rfl rfl ?_)))))
 refine ov (v_lenS Try.underlying27 rfl) rfl ?_
 refine om rfl rfl ?_
 refine ov (v_lenS Try.underlying27 rfl) rfl ?_
 refine ov (v_neq rfl rfl) rfl ?_
 refine shO_nil ?_
 refine shW_condP rfl (fun c1 => ?_) (fun c1 => ?_)
 · have r2 := ite_t hr c1; clear hr
   refine wsr (oa rfl rfl (shO_nil (shW_ret (andThen_ret ?_))))
   refine q_res1 Try.results77 (res_tmp rfl) (sr) ?_
   obtain rfl := inj1 r2
   exact rfl
 have r3 := ite_f hr c1; clear hr
 refine shW_skip ?_
 refine shW_join (fun e1 F1 L1 => slices_Equal_int_int_j1 = some r ∧ F = F1 ∧ L1 = [] ∧ e1.sub []) ?_ ?_
 · refine wsr (om rfl rfl ?_)
   refine ov (v_lenS Try.underlying27 rfl) rfl ?_
   refine om rfl rfl (shO_nil ?_)
   refine shW_block ?_
   refine shW_lp (fun fu2 e1 F1 L1 => ∃ (tl : List Int) (k : Int), tl.length = fu2 ∧ Lst s1 k tl ∧ slices_Equal_int_int_l2 s2 tl k = some r ∧ F = F1 ∧ L1 = [] ∧ e1.sub [(0, .slice s1_a s1.length s1_c), (1, .slice s2_a s2.length s2_c), (12, .int .i64 (s1.length : Int)), (13, .int .i64 k)]) _ (m0 kr ⟨_, _, rfl, Lst.start _, r3, rfl, rfl, (sc rfl (sc rfl (sc rfl (sc rfl (sn _)))))⟩) ?_
   rintro fu2 e1 _ _ ⟨tl, k, hn5, hk4, r6, rfl, rfl, he7⟩
   refine shW_env _ he7 ?_; clear he7
   refine wsr ?_
   refine ov (v_lssK rfl rfl) rfl ?_
   refine shO_nil (shW_seq ?_)
   refine shW_condP rfl (fun c9 => ?_) (fun c9 => ?_)
   · obtain ⟨x, tl2, rfl, hx11, g12, hk10⟩ := Lst.succ hk4 c9
     rw [slices_Equal_int_int_l2] at r6
     refine shW_skip (shW_seq ?_)
     refine shW_block ?_
     refine wsr (om rfl rfl (oa rfl rfl ?_))
     refine nsd (by kernel_rfl) (by kernel_rfl) (by kernel_rfl) ?_
     refine qm rfl rfl (qm rfl rfl ?_)
     obtain ⟨b13, o14, c15, vs16, ha17, hs18, hle19, rfl, hl20, hc21⟩ := RowR.at (iE_ok _) h_s1 ([]) g12.1 hx11
     refine qv (v_indexO Try.underlying27 Try.sizeOf3 rfl ha17 rfl g12) rfl ?_
     refine qv (v_load Try.isAgg3 rfl hs18 (hc21 0 (by decide))) rfl ?_
     refine qm rfl rfl (qm rfl rfl ?_)
     obtain ⟨x2, g22, hx23, r24⟩ := ix_ok r6; clear r6
     obtain ⟨b25, o26, c27, vs28, ha29, hs30, hle31, rfl, hl32, hc33⟩ := RowR.at (iE_ok _) h_s2 ([]) g22.1 hx23
     refine qv (v_indexO Try.underlying27 Try.sizeOf3 rfl ha29 rfl g22) rfl ?_
     refine qv (v_load Try.isAgg3 rfl hs30 (hc33 0 (by decide))) rfl ?_
     refine qv (v_neq rfl rfl) rfl ?_
     refine shQ_nil ?_
     refine shW_condP rfl (fun c34 => ?_) (fun c34 => ?_)
     · have r35 := ite_t r24 c34; clear r24
       refine wsr (oa rfl rfl (shO_nil (shW_ret (inBlock_ret (andThen_ret (andThen_ret (inBlock_ret (andThen_ret ?_))))))))
       refine q_res1 Try.results77 (res_tmp rfl) (sr) ?_
       obtain rfl := inj1 r35
       exact rfl
     have r36 := ite_f r24 c34; clear r24
     refine shW_skip (inBlock_n (id := 1) (shW_region ?_))
     refine ov (v_add rfl rfl (Lst.r64 hk4 c9 (RowR.lt h_s1))) rfl ?_
     refine om rfl rfl (shO_nil ?_)
     subst hn5; exact le kr ⟨_, _, rfl, hk10, r36, rfl, rfl, (sc rfl (sc rfl (sc rfl (sc rfl (sn _)))))⟩
   obtain rfl := Lst.zero hk4 c9
   rw [slices_Equal_int_int_l2] at r6
   refine shW_exit (andThen_exit (andThen_exit ?_))
   refine inBlock_exit ?_
   exact mi kr ⟨r6, rfl, rfl, (sn _)⟩
 rintro e1 _ _ ⟨r37, rfl, rfl, he38⟩
 refine shW_env _ he38 ?_; clear he38
 rw [slices_Equal_int_int_j1] at r37
 refine wsr (oa rfl rfl (shO_nil (shW_ret ?_)))
 refine q_res1 Try.results77 (res_tmp rfl) (sr) ?_
 obtain rfl := inj1 r37
 exact rfl
set_option maxHeartbeats 1000000 in
theorem oyezkit_Like_int_w {a_a : Option Addr} {a_c : Nat} {a : List Int} {b_a : Option Addr} {b_c : Nat} {b : List Int} {F : FS} (h_a : RowR 1 (iE .i64) F a_a a_c a) (h_b : RowR 1 (iE .i64) F b_a b_c b) {r : Bool} (hr : oyezkit_Like_int a b = some r) :
    SpecV Try.prog 28 #[.slice a_a a.length a_c, .slice b_a b.length b_c] F (.bool r) := by
 refine spec_of_shW (args := [.slice a_a a.length a_c, .slice b_a b.length b_c]) Try.func28 rfl Try.ntmps28 (Nat.le_of_ble_eq_true rfl) ?_
 intro K _ _; rw [oyezkit_Like_int] at hr
 refine wsr (oa rfl rfl (nsr (om rfl rfl (om rfl rfl ?_))))
 obtain ⟨ok, h1, r2⟩ := b1_ok hr; clear hr
 refine o_callV rfl Try.call77 rfl rfl rfl (slices_Equal_int_int_w h_a h_b h1) ?_
 refine oa rfl rfl (shO_nil (shW_ret ?_))
 refine q_res1 Try.results28 (res_tmp rfl) (sr) ?_
 obtain rfl := inj1 r2
 exact rfl
set_option maxHeartbeats 1000000 in
theorem night_Watch_with_w {listens_a : Option Addr} {listens_c : Nat} {listens : List (List Int)} {hours_a : Option Addr} {hours_c : Nat} {hours : List (List Int)} {hour : Int} {man : Int} {m : Int} {F : FS} (h_listens : RowR 1 (slE 1 (iE .i64)) F listens_a listens_c listens) (h_hours : RowR 1 (slE 1 (iE .i64)) F hours_a hours_c hours) {r : List (List Int)} {r2 : List (List Int)} (hr : night_Watch_with listens hours hour man m = some (r, r2)) :
    SH.Spec Try.prog 82 #[.agg #[.slice listens_a listens.length listens_c, .slice hours_a hours.length hours_c], .agg #[.int .i64 hour, .int .i64 man], .int .i64 m] F [] fun F' L' v => ∃ (ra : Option Addr) (rn : Nat) (rc : Nat) (rL : LH) (r2a : Option Addr) (r2c : Nat), v = .agg #[.slice ra rn rc, .slice r2a r2.length r2c] ∧ L' = rL ++ [] ∧ SlR 0 27 1 (slE 1 (iE .i64)) F' ra rn rc r rL ∧ RowR 1 (slE 1 (iE .i64)) F' r2a r2c r2 := by
 refine spec_of_shW (args := [.agg #[.slice listens_a listens.length listens_c, .slice hours_a hours.length hours_c], .agg #[.int .i64 hour, .int .i64 man], .int .i64 m]) Try.func82 rfl Try.ntmps82 (Nat.le_of_ble_eq_true rfl) ?_
 intro K _ _; rw [night_Watch_with] at hr
 refine wsr ?_
 refine o_box rfl rfl ?_; intro b1 hb1
 refine o_box rfl rfl ?_; intro b2 hb2
 refine o_alloc rfl Try.zeroValue26 ?_; intro b3 hb3
 refine shO_nil (shW_seq ?_)
 obtain ⟨g4, r5⟩ := gd_ok hr; clear hr
 refine shW_drawM [(.pre, 9), (.still, 0), (.still, 1), (.still, 2), (.pre, 3), (.still, 4), (.still, 5), (.still, 6), (.seq, 7), (.alloc (.cells (madeCells (.slice none 0 0 : Value).cells (Int.toNat (listens.length : Int) * 1)) 27 (0, 0)) (fun b => .slice (some ⟨b, 0, none⟩) (Int.toNat (listens.length : Int)) (Int.toNat (listens.length : Int))) [(14, .int .i64 (listens.length : Int))], 3), (.still, 8), (.alloc (.cells (.agg #[.slice none 0 0, .slice none 0 0] : Value).cells 26 (0, 0)) (fun b => .pointer (some ⟨b, 0, none⟩)) [], 9), (.seq, 10)] (by kernel_rfl) (by kernel_rfl) (⟨⟨_, _, rfl, rfl, rfl, rfl, rfl, mk_made slt_23 (by decide) rfl g4⟩, ⟨⟨_, _, rfl, rfl, rfl, rfl, rfl, mk_alloc Try.zeroValue26⟩, trivial⟩⟩) (by rfl) (by kernel_rfl) ?_
 refine ⟨⟨[], rfl, sn _, by kernel_rfl⟩, ?_⟩
 refine shM_v (v := .pointer (some ⟨b1, 0, none⟩)) (ek := [(3, .pointer (some ⟨b1, 0, none⟩))]) (Ls := []) rfl rfl rfl rfl ((sc rfl (sn _))) (by kernel_rfl) sm (fun H F' L' hF' hL' => v_fieldAddr fa_26_0 rfl) ?_
 refine shM_v (v := .slice listens_a listens.length listens_c) (ek := [(12, .pointer (some ⟨b1, 0, none⟩))]) (Ls := [(b1, .cells #[.slice listens_a listens.length listens_c, .slice hours_a hours.length hours_c] 26 (0, 0))]) rfl rfl rfl rfl ((sc rfl (sn _))) (by kernel_rfl) (s0 (s1 (s1 (s2 sr)))) (fun H F' L' hF' hL' => v_load Try.isAgg23 rfl ((Has.own 0 rfl).ext hF' hL') rfl) ?_
 refine shM_v (v := .int .i64 (listens.length : Int)) (ek := [(13, .slice listens_a listens.length listens_c)]) (Ls := []) rfl rfl rfl rfl ((sc rfl (sn _))) (by kernel_rfl) sm (fun H F' L' hF' hL' => v_lenS Try.underlying23 rfl) ?_
 refine ⟨⟨_, rfl, (sc rfl (sn _)), by kernel_rfl⟩, ?_⟩
 refine shM_v (v := .pointer (some ⟨b1, 1, none⟩)) (ek := [(3, .pointer (some ⟨b1, 0, none⟩))]) (Ls := []) rfl rfl rfl rfl ((sc rfl (sn _))) (by kernel_rfl) sm (fun H F' L' hF' hL' => v_fieldAddr fa_26_1 rfl) ?_
 refine shM_v (v := .slice hours_a hours.length hours_c) (ek := [(16, .pointer (some ⟨b1, 1, none⟩))]) (Ls := [(b1, .cells #[.slice listens_a listens.length listens_c, .slice hours_a hours.length hours_c] 26 (0, 0))]) rfl rfl rfl rfl ((sc rfl (sn _))) (by kernel_rfl) (s0 (s1 (s1 (s2 sr)))) (fun H F' L' hF' hL' => v_load Try.isAgg24 rfl ((Has.own 0 rfl).ext hF' hL') rfl) ?_
 refine shM_v (v := .int .i64 (hours.length : Int)) (ek := [(17, .slice hours_a hours.length hours_c)]) (Ls := []) rfl rfl rfl rfl ((sc rfl (sn _))) (by kernel_rfl) sm (fun H F' L' hF' hL' => v_lenS Try.underlying24 rfl) ?_
 refine ⟨_, [(18, .int .i64 (hours.length : Int))], rfl, rfl, (sc rfl (sn _)), by kernel_rfl, ?_⟩; intro H
 obtain ⟨g6, r7⟩ := gd_ok r5; clear r5
 obtain ⟨l, h8, r9⟩ := bv_ok r7; clear r7
 refine o_makeZ (R := hdE) (z0 := (none, 0, 0)) (zs := List.replicate ((hours.length : Int) : Int).toNat (none, 0, 0)) rfl slt_24 (by decide) hdE_ok (fun _ => rfl) rfl g6 rfl (fun _ => .c (.c (.c .n))) ?_; intro a10 n13 Lb11 hO14
 have hz12 : NlR K.w0.heap.size 40 41 1 (iE .i64) F a10 n13 n13 l Lb11 := NlR.made hO14 h8
 refine shO_nil ⟨_, rfl, FExt.refl _, [2, 1, 0], by kernel_rfl, .inl (.inr (fun d h => by cases h; rfl)), (List.forall_mem_cons.2 ⟨sm, (List.forall_mem_cons.2 ⟨s0 (s1 (s1 (s2 (s3 sr)))), (List.forall_mem_cons.2 ⟨sm, (fun _ h => absurd h List.not_mem_nil)⟩)⟩)⟩), ?_⟩
 refine shM_bs rfl ?_; intro b16 hb16
 refine shM_L (L' := (b16, .cells (madeCells (.slice none 0 0 : Value).cells ((Int.toNat (listens.length : Int)) * 1)) 27 (0, 0)) :: ((b3, .cells #[.slice none 0 0, .slice none 0 0] 26 (0, 0)) :: ((b2, .cells #[.int .i64 hour, .int .i64 man] 59 (0, 0)) :: ((b1, .cells #[.slice listens_a listens.length listens_c, .slice hours_a hours.length hours_c] 26 (0, 0)) :: (Lb11 ++ []))))) rfl ?_
 refine shM_v (v := .agg #[.slice (some ⟨b16, 0, none⟩) (Int.toNat (listens.length : Int)) (Int.toNat (listens.length : Int)), .slice a10 n13 n13]) (ek := [(15, .slice (some ⟨b16, 0, none⟩) (Int.toNat (listens.length : Int)) (Int.toNat (listens.length : Int))), (19, .slice a10 n13 n13)]) (Ls := []) rfl rfl rfl rfl ((sc rfl (sc rfl (sn _)))) (by kernel_rfl) sm (fun H F' L' hF' hL' => v_build (v := .agg #[.slice (some ⟨b16, 0, none⟩) (Int.toNat (listens.length : Int)) (Int.toNat (listens.length : Int)), .slice a10 n13 n13]) rfl (by intro w; kernel_rfl)) ?_
 refine shM_ptr rfl ?_; intro b17 hb17
 refine shM_L (L' := (b17, .cells #[.slice none 0 0, .slice none 0 0] 26 (0, 0)) :: ((b16, .cells (madeCells (.slice none 0 0 : Value).cells ((Int.toNat (listens.length : Int)) * 1)) 27 (0, 0)) :: ((b3, .cells #[.slice none 0 0, .slice none 0 0] 26 (0, 0)) :: ((b2, .cells #[.int .i64 hour, .int .i64 man] 59 (0, 0)) :: ((b1, .cells #[.slice listens_a listens.length listens_c, .slice hours_a hours.length hours_c] 26 (0, 0)) :: (Lb11 ++ [])))))) rfl ?_
 refine ⟨_, [(7, .pointer (some ⟨b17, 0, none⟩)), (20, .agg #[.slice (some ⟨b16, 0, none⟩) (Int.toNat (listens.length : Int)) (Int.toNat (listens.length : Int)), .slice a10 n13 n13])], rfl, rfl, (sc rfl (sc rfl (sn _))), by kernel_rfl, ?_⟩; intro H
 obtain ⟨l2, h18, r19⟩ := bv_ok r9; clear r9
 have hz21 : SlR K.w0.heap.size 27 1 (slE 1 (iE .i64)) F (some ⟨b16, 0, none⟩) (Int.toNat (listens.length : Int)) (Int.toNat (listens.length : Int)) l2 [(b16, .cells (madeCells (.slice none 0 0 : Value).cells ((Int.toNat (listens.length : Int)) * 1)) 27 (0, 0))] := by rw [h18]; exact SlR.made (slE_ok (iE_ok _)) (by decide) (fun _ => ⟨_, _, rfl, RowR.nil _ _ _⟩) hb16 (mz_cap g4)
 generalize hLLb20 : ([(b16, .cells (madeCells (.slice none 0 0 : Value).cells ((Int.toNat (listens.length : Int)) * 1)) 27 (0, 0))] : LH) = Lb20 at hz21
 refine shO_perm (L' := Lb20 ++ ((b17, .cells #[.slice none 0 0, .slice none 0 0] 26 (0, 0)) :: ((b3, .cells #[.slice none 0 0, .slice none 0 0] 26 (0, 0)) :: ((b2, .cells #[.int .i64 hour, .int .i64 man] 59 (0, 0)) :: ((b1, .cells #[.slice listens_a listens.length listens_c, .slice hours_a hours.length hours_c] 26 (0, 0)) :: (Lb11 ++ [])))))) (by rw [← hLLb20]; exact (fC fO)) ?_
 refine shO_perm (L' := (b17, .cells #[.slice none 0 0, .slice none 0 0] 26 (0, 0)) :: ((b3, .cells #[.slice none 0 0, .slice none 0 0] 26 (0, 0)) :: ((b2, .cells #[.int .i64 hour, .int .i64 man] 59 (0, 0)) :: ((b1, .cells #[.slice listens_a listens.length listens_c, .slice hours_a hours.length hours_c] 26 (0, 0)) :: (Lb20 ++ (Lb11 ++ [])))))) (List.Perm.symm (fC (fC (fC (fC fP))))) ?_
 refine o_storeA (i := 0) Try.sizeOf26 rfl rfl rfl (by simp [Value.oneCell']) rfl (Nat.le_of_ble_eq_true rfl) ?_
 refine shO_L (L' := (b17, .cells #[.slice (some ⟨b16, 0, none⟩) (Int.toNat (listens.length : Int)) (Int.toNat (listens.length : Int)), .slice a10 n13 n13] 26 (0, 0)) :: ((b3, .cells #[.slice none 0 0, .slice none 0 0] 26 (0, 0)) :: ((b2, .cells #[.int .i64 hour, .int .i64 man] 59 (0, 0)) :: ((b1, .cells #[.slice listens_a listens.length listens_c, .slice hours_a hours.length hours_c] 26 (0, 0)) :: (Lb20 ++ (Lb11 ++ [])))))) rfl ?_
 refine shO_nil ⟨undef, rfl, FExt.refl _, [], by kernel_rfl, .inl (.inl rfl), (fun _ h => absurd h List.not_mem_nil), ?_⟩
 refine shM_nil ?_
 obtain ⟨out_listens, h25, r26⟩ := b1_ok r19; clear r19
 refine shW_join (fun e1 F1 L1 => ∃ (Lb23 : LH), FExt F F1 ∧ L1 = ((b17, .cells #[.slice (some ⟨b16, 0, none⟩) (Int.toNat (listens.length : Int)) (Int.toNat (listens.length : Int)), .slice a10 n13 n13] 26 (0, 0)) :: ((b3, .cells #[.slice none 0 0, .slice none 0 0] 26 (0, 0)) :: ((b2, .cells #[.int .i64 hour, .int .i64 man] 59 (0, 0)) :: ((b1, .cells #[.slice listens_a listens.length listens_c, .slice hours_a hours.length hours_c] 26 (0, 0)) :: (Lb23 ++ (Lb11 ++ [])))))) ∧ e1.sub [(2, .int .i64 m), (3, .pointer (some ⟨b1, 0, none⟩)), (4, .pointer (some ⟨b2, 0, none⟩)), (6, .pointer (some ⟨b3, 0, none⟩)), (7, .pointer (some ⟨b17, 0, none⟩))] ∧ SlR K.w0.heap.size 27 1 (slE 1 (iE .i64)) F1 (some ⟨b16, 0, none⟩) (Int.toNat (listens.length : Int)) (Int.toNat (listens.length : Int)) out_listens Lb23) ?_ ?_
 · clear r26
   refine wsr ?_
   refine ov (v_fieldAddr fa_26_0 rfl) rfl ?_
   refine ov (v_load Try.isAgg23 rfl (Has.own 3 rfl) rfl) rfl ?_
   refine ov (v_lenS Try.underlying23 rfl) rfl ?_
   refine om rfl rfl (shO_nil ?_)
   refine shW_block ?_
   refine shW_lp (fun fu1 e1 F1 L1 => ∃ (tl : List (List Int)) (k : Int), tl.length = fu1 ∧ Lst listens k tl ∧ ∃ (out_listens2 : List (List Int)) (Lb27 : LH), night_Watch_with_l1 tl k out_listens2 = some out_listens ∧ FExt F F1 ∧ L1 = ((b17, .cells #[.slice (some ⟨b16, 0, none⟩) (Int.toNat (listens.length : Int)) (Int.toNat (listens.length : Int)), .slice a10 n13 n13] 26 (0, 0)) :: ((b3, .cells #[.slice none 0 0, .slice none 0 0] 26 (0, 0)) :: ((b2, .cells #[.int .i64 hour, .int .i64 man] 59 (0, 0)) :: ((b1, .cells #[.slice listens_a listens.length listens_c, .slice hours_a hours.length hours_c] 26 (0, 0)) :: (Lb27 ++ (Lb11 ++ [])))))) ∧ e1.sub [(2, .int .i64 m), (3, .pointer (some ⟨b1, 0, none⟩)), (4, .pointer (some ⟨b2, 0, none⟩)), (6, .pointer (some ⟨b3, 0, none⟩)), (7, .pointer (some ⟨b17, 0, none⟩)), (22, .slice listens_a listens.length listens_c), (23, .int .i64 (listens.length : Int)), (24, .int .i64 k)] ∧ SlR K.w0.heap.size 27 1 (slE 1 (iE .i64)) F1 (some ⟨b16, 0, none⟩) (Int.toNat (listens.length : Int)) (Int.toNat (listens.length : Int)) out_listens2 Lb27) _ (m0 kr ⟨_, _, rfl, Lst.start _, l2, Lb20, h25, FExt.refl _, rfl, (sc rfl (sc rfl (sc rfl (sc rfl (sc rfl (sc rfl (sc rfl (sc rfl (sn _))))))))), hz21⟩) ?_
   rintro fu1 e1 F33 _ ⟨tl, k, hn30, hk29, out_listens2, Lb27, r31, hF34, rfl, he32, hz28⟩
   refine shW_env _ he32 ?_; clear he32
   replace h_listens := h_listens.mono (slE_ok (iE_ok _)) hF34
   refine wsr ?_
   refine ov (v_lssK rfl rfl) rfl ?_
   refine shO_nil (shW_seq ?_)
   refine shW_condP rfl (fun c36 => ?_) (fun c36 => ?_)
   · obtain ⟨x, tl2, rfl, hx38, g39, hk37⟩ := Lst.succ hk29 c36
     rw [night_Watch_with_l1] at r31
     refine shW_skip (shW_seq ?_)
     refine shW_block ?_
     refine wsr (om rfl rfl ?_)
     obtain ⟨b40, o41, c42, vs43, ha44, hs45, hle46, ⟨a49, c50, rfl, h51⟩, hl47, hc48⟩ := RowR.at (slE_ok (iE_ok _)) h_listens ((b17, .cells #[.slice (some ⟨b16, 0, none⟩) (Int.toNat (listens.length : Int)) (Int.toNat (listens.length : Int)), .slice a10 n13 n13] 26 (0, 0)) :: ((b3, .cells #[.slice none 0 0, .slice none 0 0] 26 (0, 0)) :: ((b2, .cells #[.int .i64 hour, .int .i64 man] 59 (0, 0)) :: ((b1, .cells #[.slice listens_a listens.length listens_c, .slice hours_a hours.length hours_c] 26 (0, 0)) :: (Lb27 ++ (Lb11 ++ [])))))) g39.1 hx38
     refine ov (v_indexO Try.underlying23 Try.sizeOf27 rfl ha44 rfl g39) rfl ?_
     refine ov (v_load Try.isAgg27 rfl hs45 (hc48 0 (by decide))) rfl ?_
     refine oa rfl rfl (oa rfl rfl (shO_nil ?_))
     refine shW_drawM [(.still, 0), (.still, 1), (.still, 2), (.still, 3), (.seq, 4), (.still, 5), (.seq, 6)] (by kernel_rfl) (by kernel_rfl) (trivial) (by rfl) (by kernel_rfl) ?_
     refine shM_v (v := .pointer (some ⟨b17, 0, none⟩)) (ek := [(7, .pointer (some ⟨b17, 0, none⟩))]) (Ls := []) rfl rfl rfl rfl ((sc rfl (sn _))) (by kernel_rfl) sm (fun H F' L' hF' hL' => v_fieldAddr fa_26_0 rfl) ?_
     refine shM_v (v := .slice (some ⟨b16, 0, none⟩) (Int.toNat (listens.length : Int)) (Int.toNat (listens.length : Int))) (ek := [(29, .pointer (some ⟨b17, 0, none⟩))]) (Ls := [(b17, .cells #[.slice (some ⟨b16, 0, none⟩) (Int.toNat (listens.length : Int)) (Int.toNat (listens.length : Int)), .slice a10 n13 n13] 26 (0, 0))]) rfl rfl rfl rfl ((sc rfl (sn _))) (by kernel_rfl) (s0 (s2 (s1 (s1 (s1 (s3 (s3 sr))))))) (fun H F' L' hF' hL' => v_load Try.isAgg23 rfl ((Has.own 0 rfl).ext hF' hL') rfl) ?_
     refine shM_v (v := .int .i64 k) (ek := [(8, .int .i64 k)]) (Ls := []) rfl rfl rfl rfl ((sc rfl (sn _))) (by kernel_rfl) sm (fun H F' L' hF' hL' => v_move rfl) ?_
     refine shM_v (v := .slice a49 x.length c50) (ek := [(9, .slice a49 x.length c50)]) (Ls := []) rfl rfl rfl rfl ((sc rfl (sn _))) (by kernel_rfl) sm (fun H F' L' hF' hL' => v_move rfl) ?_
     refine ⟨_, [(32, .slice a49 x.length c50)], rfl, rfl, (sc rfl (sn _)), by kernel_rfl, ?_⟩; intro H
     obtain ⟨l3, h52, r53⟩ := b1_ok r31; clear r31
     refine o_call0 rfl Try.call68 rfl rfl rfl (slices_Clone_int_int_w h51 h52) ?_; rintro _ F54 _ hF55 hn56 ⟨a58, n62, c59, Lb60, rfl, rfl, hz61⟩
     replace h_listens := h_listens.mono (slE_ok (iE_ok _)) hF55
     replace hz28 := hz28.mono (slE_ok (iE_ok _)) hF55
     replace hz61 := hz61.new fun p hp => hn56 p (by simp [hp])
     refine shO_L (lp (ln rfl)) ?_
     refine kO (kf (fS fO) (kf (fS fO) (kf (fS fO) (kf (fS fO) kr)))) ?_
     refine shO_nil ⟨_, rfl, hF55, [2, 1, 0], by kernel_rfl, .inl (.inr (fun d h => by cases h; rfl)), (List.forall_mem_cons.2 ⟨sm, (List.forall_mem_cons.2 ⟨s0 (s2 (s1 (s1 (s1 (s3 (s3 (s3 sr))))))), (List.forall_mem_cons.2 ⟨sm, (fun _ h => absurd h List.not_mem_nil)⟩)⟩)⟩), ?_⟩
     obtain ⟨x2, g64, hx65, r66⟩ := ix_ok r53; clear r53
     obtain ⟨b67, o68, c69, vs70, ha71, hs72, hle73, ⟨a76, c77, rfl, h78⟩, hl74, hc75⟩ := SlR.at (slE_ok (iE_ok _)) hz28 (L := Lb27 ++ []) fP g64.1 hx65
     refine shM_v (v := .pointer (some ⟨b67, o68 + (k : Int).toNat * 1, none⟩)) (ek := [(30, .slice (some ⟨b16, 0, none⟩) (Int.toNat (listens.length : Int)) (Int.toNat (listens.length : Int))), (31, .int .i64 k)]) (Ls := []) rfl rfl rfl rfl ((sc rfl (sc rfl (sn _)))) (by kernel_rfl) sm (fun H F' L' hF' hL' => v_indexO Try.underlying23 Try.sizeOf27 rfl ha71 rfl (SlR.idx hz28 g64)) ?_
     refine ⟨_, [(33, .slice a58 n62 c59), (34, .pointer (some ⟨b67, o68 + (k : Int).toNat * 1, none⟩))], rfl, rfl, (sc rfl (sc rfl (sn _))), by kernel_rfl, ?_⟩; intro H
     obtain rfl := (SlR.caps hz61).1
     refine shO_freezeR (Nat.le_refl _) (iE_ok _) (fC (fC (fC (fC fP)))) hz61 ?_; intro F79 hF80 h81
     replace h_listens := h_listens.mono (slE_ok (iE_ok _)) hF80
     replace hz28 := hz28.mono (slE_ok (iE_ok _)) hF80
     obtain ⟨l4, h82, r83⟩ := bv_ok r66; clear r66
     refine o_storeZ (u := l3) Try.sizeOf27 (slE_ok (iE_ok _)) rfl ha71 rfl ⟨_, _, rfl, h81⟩ (fun _ => .c (.c (.c (.c .h)))) hz28 h82 g64 ?_; intro Lb84 hz85
     refine shO_nil ⟨undef, rfl, hF80, [], by kernel_rfl, .inl (.inl rfl), (fun _ h => absurd h List.not_mem_nil), ?_⟩
     refine shM_nil ?_
     refine inBlock_n (id := 1) (shW_region ?_)
     refine ov (v_add rfl rfl (Lst.r64 hk29 c36 (RowR.lt h_listens))) rfl ?_
     refine om rfl rfl (shO_nil ?_)
     subst hn30; exact le kr ⟨_, _, rfl, hk37, l4, Lb84, r83, ((hF34.trans hF55).trans hF80), rfl, (sc rfl (sc rfl (sc rfl (sc rfl (sc rfl (sc rfl (sc rfl (sc rfl (sn _))))))))), hz85⟩
   obtain rfl := Lst.zero hk29 c36
   rw [night_Watch_with_l1] at r31
   refine shW_exit (andThen_exit (andThen_exit ?_))
   refine inBlock_exit ?_
   obtain rfl := inj1 r31
   exact mi kr ⟨Lb27, hF34, rfl, (sc rfl (sc rfl (sc rfl (sc rfl (sc rfl (sn _)))))), hz28⟩
 rintro e1 F87 _ ⟨Lb23, hF88, rfl, he86, hz24⟩
 refine shW_env _ he86 ?_; clear he86
 replace h_hours := h_hours.mono (slE_ok (iE_ok _)) hF88
 replace hz12 := hz12.mono (iE_ok _) hF88
 obtain ⟨out_hours, h91, r92⟩ := b1_ok r26; clear r26
 refine shW_join (fun e1 F1 L1 => ∃ (Lb89 : LH), F87 = F1 ∧ L1 = ((b17, .cells #[.slice (some ⟨b16, 0, none⟩) (Int.toNat (listens.length : Int)) (Int.toNat (listens.length : Int)), .slice a10 n13 n13] 26 (0, 0)) :: ((b3, .cells #[.slice none 0 0, .slice none 0 0] 26 (0, 0)) :: ((b2, .cells #[.int .i64 hour, .int .i64 man] 59 (0, 0)) :: (Lb23 ++ (Lb89 ++ []))))) ∧ e1.sub [(2, .int .i64 m), (4, .pointer (some ⟨b2, 0, none⟩)), (6, .pointer (some ⟨b3, 0, none⟩)), (7, .pointer (some ⟨b17, 0, none⟩))] ∧ NlR K.w0.heap.size 40 41 1 (iE .i64) F1 a10 n13 n13 out_hours Lb89) ?_ ?_
 · clear r92
   refine wsr ?_
   refine ov (v_fieldAddr fa_26_1 rfl) rfl ?_
   refine ov (v_load Try.isAgg24 rfl (Has.own 3 rfl) rfl) rfl ?_
   refine ov (v_lenS Try.underlying24 rfl) rfl ?_
   refine om rfl rfl (shO_nil ?_)
   refine shW_block ?_
   refine kW (kc (kc (kc (kd kr)))) ?_
   refine shW_lp (fun fu2 e1 F1 L1 => ∃ (tl3 : List (List Int)) (k2 : Int), tl3.length = fu2 ∧ Lst hours k2 tl3 ∧ ∃ (out_hours2 : List (List Int)) (Lb93 : LH), night_Watch_with_l2 tl3 k2 out_hours2 = some out_hours ∧ F87 = F1 ∧ L1 = ((b17, .cells #[.slice (some ⟨b16, 0, none⟩) (Int.toNat (listens.length : Int)) (Int.toNat (listens.length : Int)), .slice a10 n13 n13] 26 (0, 0)) :: ((b3, .cells #[.slice none 0 0, .slice none 0 0] 26 (0, 0)) :: ((b2, .cells #[.int .i64 hour, .int .i64 man] 59 (0, 0)) :: (Lb23 ++ (Lb93 ++ []))))) ∧ e1.sub [(2, .int .i64 m), (4, .pointer (some ⟨b2, 0, none⟩)), (6, .pointer (some ⟨b3, 0, none⟩)), (7, .pointer (some ⟨b17, 0, none⟩)), (37, .slice hours_a hours.length hours_c), (38, .int .i64 (hours.length : Int)), (39, .int .i64 k2)] ∧ NlR K.w0.heap.size 40 41 1 (iE .i64) F1 a10 n13 n13 out_hours2 Lb93) _ (m0 kr ⟨_, _, rfl, Lst.start _, l, Lb11, h91, rfl, rfl, (sc rfl (sc rfl (sc rfl (sc rfl (sc rfl (sc rfl (sc rfl (sn _)))))))), hz12⟩) ?_
   rintro fu2 e1 _ _ ⟨tl3, k2, hn96, hk95, out_hours2, Lb93, r97, rfl, rfl, he98, hz94⟩
   refine shW_env _ he98 ?_; clear he98
   refine wsr ?_
   refine ov (v_lssK rfl rfl) rfl ?_
   refine shO_nil (shW_seq ?_)
   refine shW_condP rfl (fun c100 => ?_) (fun c100 => ?_)
   · obtain ⟨x3, tl4, rfl, hx102, g103, hk101⟩ := Lst.succ hk95 c100
     rw [night_Watch_with_l2] at r97
     refine shW_skip (shW_seq ?_)
     refine shW_block ?_
     refine wsr (om rfl rfl ?_)
     obtain ⟨b104, o105, c106, vs107, ha108, hs109, hle110, ⟨a113, c114, rfl, h115⟩, hl111, hc112⟩ := RowR.at (slE_ok (iE_ok _)) h_hours ((b17, .cells #[.slice (some ⟨b16, 0, none⟩) (Int.toNat (listens.length : Int)) (Int.toNat (listens.length : Int)), .slice a10 n13 n13] 26 (0, 0)) :: ((b3, .cells #[.slice none 0 0, .slice none 0 0] 26 (0, 0)) :: ((b2, .cells #[.int .i64 hour, .int .i64 man] 59 (0, 0)) :: (Lb23 ++ (Lb93 ++ []))))) g103.1 hx102
     refine ov (v_indexO Try.underlying24 Try.sizeOf40 rfl ha108 rfl g103) rfl ?_
     refine ov (v_load Try.isAgg40 rfl hs109 (hc112 0 (by decide))) rfl ?_
     refine oa rfl rfl (oa rfl rfl (shO_nil (shW_seq ?_)))
     obtain ⟨x4, g116, hx117, r118⟩ := ix_ok r97; clear r97
     have hn130 := (NlR.caps hz94).1
     refine shW_open (fC (fC (fC (fS fP)))) hz94 hx117 ?_; intro hs119 Lo120 Lc121 a122 n123 c124 Lb125 hh126 hO127 hz128 hI129
     refine kW (kf (fS (fS (fS fO))) (kf (fS (fS (fS fO))) (kf (fS (fS (fS fO))) kr))) ?_
     refine shW_drawM [(.still, 0), (.still, 1), (.still, 2), (.still, 3), (.still, 4), (.seq, 5), (.still, 6), (.seq, 7)] (by kernel_rfl) (by kernel_rfl) (trivial) (by rfl) (by kernel_rfl) ?_
     refine shM_v (v := .pointer (some ⟨b17, 1, none⟩)) (ek := [(7, .pointer (some ⟨b17, 0, none⟩))]) (Ls := []) rfl rfl rfl rfl ((sc rfl (sn _))) (by kernel_rfl) sm (fun H F' L' hF' hL' => v_fieldAddr fa_26_1 rfl) ?_
     refine shM_v (v := .slice a10 n13 n13) (ek := [(44, .pointer (some ⟨b17, 1, none⟩))]) (Ls := [(b17, .cells #[.slice (some ⟨b16, 0, none⟩) (Int.toNat (listens.length : Int)) (Int.toNat (listens.length : Int)), .slice a10 n13 n13] 26 (0, 0))]) rfl rfl rfl rfl ((sc rfl (sn _))) (by kernel_rfl) (s0 (s2 (s1 (s1 (s3 (s3 (s3 (s3 sr)))))))) (fun H F' L' hF' hL' => v_load Try.isAgg24 rfl ((Has.own 0 rfl).ext hF' hL') rfl) ?_
     refine shM_v (v := .int .i64 k2) (ek := [(10, .int .i64 k2)]) (Ls := []) rfl rfl rfl rfl ((sc rfl (sn _))) (by kernel_rfl) sm (fun H F' L' hF' hL' => v_move rfl) ?_
     refine shM_v (v := .slice a113 x3.length c114) (ek := [(11, .slice a113 x3.length c114)]) (Ls := []) rfl rfl rfl rfl ((sc rfl (sn _))) (by kernel_rfl) sm (fun H F' L' hF' hL' => v_move rfl) ?_
     refine shM_v (v := .int .i64 (x3.length : Int)) (ek := [(47, .slice a113 x3.length c114)]) (Ls := []) rfl rfl rfl rfl ((sc rfl (sn _))) (by kernel_rfl) sm (fun H F' L' hF' hL' => v_lenS Try.underlying40 rfl) ?_
     refine ⟨_, [(48, .int .i64 (x3.length : Int))], rfl, rfl, (sc rfl (sn _)), by kernel_rfl, ?_⟩; intro H
     obtain ⟨g132, r133⟩ := gd_ok r118; clear r118
     obtain ⟨l5, h134, r135⟩ := bv_ok r133; clear r133
     refine o_makeZ (R := (iE .i64)) (z0 := 0) (zs := l5) rfl slt_40 (by decide) (iE_ok _) (fun _ => rfl) rfl g132 h134 (fun _ => .c (.c (.c .n))) ?_; intro a136 n139 Lb137 hz138
     refine shO_nil ⟨_, rfl, FExt.refl _, [2, 1, 0], by kernel_rfl, .inl (.inr (fun d h => by cases h; rfl)), (List.forall_mem_cons.2 ⟨sm, (List.forall_mem_cons.2 ⟨s0 (s2 (s1 (s1 (s3 (s3 (s3 (s3 (s3 sr)))))))), (List.forall_mem_cons.2 ⟨sm, (fun _ h => absurd h List.not_mem_nil)⟩)⟩)⟩), ?_⟩
     obtain ⟨b141, o142, c143, vs144, ha145, hs146, hle147, rfl, hl148, hc149⟩ := SlR.at hdE_ok hO127 (L := Lo120 ++ []) fP g116.1 hh126
     refine shM_v (v := .pointer (some ⟨b141, o142 + (k2 : Int).toNat * 1, none⟩)) (ek := [(45, .slice a10 n13 n13), (46, .int .i64 k2)]) (Ls := []) rfl rfl rfl rfl ((sc rfl (sc rfl (sn _)))) (by kernel_rfl) sm (fun H F' L' hF' hL' => v_indexO Try.underlying24 Try.sizeOf40 rfl ha145 rfl (idxN hn130 g116)) ?_
     refine ⟨_, [(49, .slice a136 n139 n139), (50, .pointer (some ⟨b141, o142 + (k2 : Int).toNat * 1, none⟩))], rfl, rfl, (sc rfl (sc rfl (sn _))), by kernel_rfl, ?_⟩; intro H
     refine o_storeZ (zs := hs119.set (k2 : Int).toNat (a136, n139, n139)) (u := (a136, n139, n139)) Try.sizeOf40 hdE_ok rfl ha145 rfl rfl (fun _ => .c (.c (.c (.s .h)))) hO127 rfl (idxH hn130 hO127 g116) ?_; intro Lo150 hO151
     refine kO (kc (kc (kc (ka (ka (kx kr)))))) ?_
     obtain ⟨l6, h152, r153⟩ := bv_ok r135; clear r135
     refine shO_fold (p := fun X => NlR K.w0.heap.size 40 41 1 (iE .i64) F87 a10 n13 n13 l6 X) (InH.back hI129 hO151 hz138 h152) (pT ((fC (fC (fC (fS fP)))).trans (pA ((fC (fC (fC fP))).trans (pA ((fC (fC (fC fP))).trans (pA pR)))))) (lp (lp (lp (ln rfl))))) ?_; intro Lb154 hz155
     refine kO (kf (fS fO) (kf (fS fO) (kf (fS fO) kr))) ?_
     refine shO_nil ⟨undef, rfl, FExt.refl _, [], by kernel_rfl, .inl (.inl rfl), (fun _ h => absurd h List.not_mem_nil), ?_⟩
     refine shM_nil ?_
     refine shW_region ?_
     refine ov (v_fieldAddr fa_26_1 rfl) rfl ?_
     refine ov (v_load Try.isAgg24 rfl (Has.own 0 rfl) rfl) rfl ?_
     refine om rfl rfl ?_
     obtain ⟨x5, g156, hx157, r158⟩ := ix_ok r153; clear r153
     have hn170 := (NlR.caps hz155).1
     refine shO_open (fC (fC (fC fP))) hz155 hx157 ?_; intro hs159 Lo160 Lc161 a162 n163 c164 Lb165 hh166 hO167 hz168 hI169
     refine kO (kf (fS (fS (fS fO))) (kf (fS (fS (fS fO))) (kf (fS (fS (fS fO))) kr))) ?_
     obtain ⟨b172, o173, c174, vs175, ha176, hs177, hle178, rfl, hl179, hc180⟩ := SlR.at hdE_ok hO167 (L := (b17, .cells #[.slice (some ⟨b16, 0, none⟩) (Int.toNat (listens.length : Int)) (Int.toNat (listens.length : Int)), .slice a10 n13 n13] 26 (0, 0)) :: ((b3, .cells #[.slice none 0 0, .slice none 0 0] 26 (0, 0)) :: ((b2, .cells #[.int .i64 hour, .int .i64 man] 59 (0, 0)) :: (Lo160 ++ (Lb165 ++ (Lc161 ++ (Lb23 ++ []))))))) (fC (fC (fC fP))) g156.1 hh166
     refine ov (v_indexO Try.underlying24 Try.sizeOf40 rfl ha176 rfl (idxN hn170 g156)) rfl ?_
     refine ov (v_load Try.isAgg40 rfl hs177 (hc180 0 (by decide))) rfl ?_
     refine om rfl rfl ?_
     obtain ⟨l7, h181, r182⟩ := bv_ok r158; clear r158
     refine o_copyZ (ys := x3) (zs := l7) rfl slt_40 (iE_ok _) rfl rfl (fun _ => .c (.c (.c (.s .h)))) hz168 (RowR.src h115) h181 ?_; intro Lb183 hz184
     obtain ⟨out, h185, r186⟩ := bv_ok r182; clear r182
     refine shO_fold (p := fun X => NlR K.w0.heap.size 40 41 1 (iE .i64) F87 a10 n13 n13 out X) (InH.back0 hI169 hO167 hh166 hz184 h185) (pT ((fC (fC (fC fP))).trans (pA ((fC (fC (fC fP))).trans (pA ((fC (fC (fC fP))).trans (pA pR)))))) (lp (lp (lp (ln rfl))))) ?_; intro Lb187 hz188
     refine kO (kf (fS fO) (kf (fS fO) (kf (fS fO) kr))) ?_
     refine shO_nil (inBlock_n (id := 3) (shW_region ?_))
     refine ov (v_add rfl rfl (Lst.r64 hk95 c100 (RowR.lt h_hours))) rfl ?_
     refine om rfl rfl (shO_nil ?_)
     subst hn96; exact le (kc (kc (kc (kg (fS fP) kr)))) ⟨_, _, rfl, hk101, out, Lb187, r186, rfl, rfl, (sc rfl (sc rfl (sc rfl (sc rfl (sc rfl (sc rfl (sc rfl (sn _)))))))), hz188⟩
   obtain rfl := Lst.zero hk95 c100
   rw [night_Watch_with_l2] at r97
   refine shW_exit (andThen_exit (andThen_exit ?_))
   refine inBlock_exit ?_
   obtain rfl := inj1 r97
   exact mi kr ⟨Lb93, rfl, rfl, (sc rfl (sc rfl (sc rfl (sc rfl (sn _))))), hz94⟩
 rintro e1 _ _ ⟨Lb89, rfl, rfl, he189, hz90⟩
 refine shW_env _ he189 ?_; clear he189
 refine shW_seq ?_
 obtain ⟨x6, g190, hx191, r192⟩ := ix_ok r92; clear r92
 have hn204 := (NlR.caps hz90).1
 refine shW_open (fC (fC (fC (fS fP)))) hz90 hx191 ?_; intro hs193 Lo194 Lc195 a196 n197 c198 Lb199 hh200 hO201 hz202 hI203
 refine kW (kf (fS (fS (fS fO))) (kf (fS (fS (fS fO))) (kf (fS (fS (fS fO))) kr))) ?_
 refine shW_drawM [(.still, 0), (.still, 1), (.still, 2), (.still, 3), (.still, 4), (.still, 5), (.still, 6), (.still, 7), (.still, 8), (.still, 9), (.seq, 10)] (by kernel_rfl) (by kernel_rfl) (trivial) (by rfl) (by kernel_rfl) ?_
 refine shM_v (v := .pointer (some ⟨b17, 1, none⟩)) (ek := [(7, .pointer (some ⟨b17, 0, none⟩))]) (Ls := []) rfl rfl rfl rfl ((sc rfl (sn _))) (by kernel_rfl) sm (fun H F' L' hF' hL' => v_fieldAddr fa_26_1 rfl) ?_
 refine shM_v (v := .slice a10 n13 n13) (ek := [(59, .pointer (some ⟨b17, 1, none⟩))]) (Ls := [(b17, .cells #[.slice (some ⟨b16, 0, none⟩) (Int.toNat (listens.length : Int)) (Int.toNat (listens.length : Int)), .slice a10 n13 n13] 26 (0, 0))]) rfl rfl rfl rfl ((sc rfl (sn _))) (by kernel_rfl) (s0 (s2 (s1 (s1 (s3 (s3 (s3 (s3 sr)))))))) (fun H F' L' hF' hL' => v_load Try.isAgg24 rfl ((Has.own 0 rfl).ext hF' hL') rfl) ?_
 refine shM_v (v := .pointer (some ⟨b2, 0, none⟩)) (ek := [(4, .pointer (some ⟨b2, 0, none⟩))]) (Ls := []) rfl rfl rfl rfl ((sc rfl (sn _))) (by kernel_rfl) sm (fun H F' L' hF' hL' => v_fieldAddr fa_59_0 rfl) ?_
 refine shM_v (v := .int .i64 hour) (ek := [(61, .pointer (some ⟨b2, 0, none⟩))]) (Ls := [(b2, .cells #[.int .i64 hour, .int .i64 man] 59 (0, 0))]) rfl rfl rfl rfl ((sc rfl (sn _))) (by kernel_rfl) (s0 (s1 (s1 (s2 (s3 (s3 (s3 (s3 sr)))))))) (fun H F' L' hF' hL' => v_load Try.isAgg3 rfl ((Has.own 0 rfl).ext hF' hL') rfl) ?_
 obtain ⟨b206, o207, c208, vs209, ha210, hs211, hle212, rfl, hl213, hc214⟩ := SlR.at hdE_ok hO201 (L := Lo194 ++ []) fP g190.1 hh200
 refine shM_v (v := .pointer (some ⟨b206, o207 + (hour : Int).toNat * 1, none⟩)) (ek := [(60, .slice a10 n13 n13), (62, .int .i64 hour)]) (Ls := []) rfl rfl rfl rfl ((sc rfl (sc rfl (sn _)))) (by kernel_rfl) sm (fun H F' L' hF' hL' => v_indexO Try.underlying24 Try.sizeOf40 rfl ha210 rfl (idxN hn204 g190)) ?_
 refine shM_v (v := .slice a196 n197 c198) (ek := [(63, .pointer (some ⟨b206, o207 + (hour : Int).toNat * 1, none⟩))]) (Ls := Lo194 ++ []) rfl rfl rfl rfl ((sc rfl (sn _))) (by kernel_rfl) (s0 (s1 (s1 (s1 (s4 (s3 (s3 (s3 sr)))))))) (fun H F' L' hF' hL' => v_load Try.isAgg40 rfl (hs211.ext hF' hL') (hc214 0 (by decide))) ?_
 refine shM_v (v := .pointer (some ⟨b2, 1, none⟩)) (ek := [(4, .pointer (some ⟨b2, 0, none⟩))]) (Ls := []) rfl rfl rfl rfl ((sc rfl (sn _))) (by kernel_rfl) sm (fun H F' L' hF' hL' => v_fieldAddr fa_59_1 rfl) ?_
 refine shM_v (v := .int .i64 man) (ek := [(65, .pointer (some ⟨b2, 1, none⟩))]) (Ls := [(b2, .cells #[.int .i64 hour, .int .i64 man] 59 (0, 0))]) rfl rfl rfl rfl ((sc rfl (sn _))) (by kernel_rfl) (s0 (s1 (s1 (s2 (s3 (s3 (s3 (s3 sr)))))))) (fun H F' L' hF' hL' => v_load Try.isAgg3 rfl ((Has.own 0 rfl).ext hF' hL') rfl) ?_
 refine shM_v (v := .int .i64 m) (ek := [(2, .int .i64 m)]) (Ls := []) rfl rfl rfl rfl ((sc rfl (sn _))) (by kernel_rfl) sm (fun H F' L' hF' hL' => v_move rfl) ?_
 obtain ⟨x7, g215, hx216, r217⟩ := ix_ok r192; clear r192
 obtain ⟨b218, o219, c220, vs221, ha222, hs223, hle224, rfl, hl225, hc226⟩ := SlR.at (iE_ok _) hz202 (L := Lb199 ++ []) fP g215.1 hx216
 refine shM_v (v := .pointer (some ⟨b218, o219 + (man : Int).toNat * 1, none⟩)) (ek := [(64, .slice a196 n197 c198), (66, .int .i64 man)]) (Ls := []) rfl rfl rfl rfl ((sc rfl (sc rfl (sn _)))) (by kernel_rfl) sm (fun H F' L' hF' hL' => v_indexO Try.underlying40 Try.sizeOf41 rfl ha222 rfl (SlR.idx hz202 g215)) ?_
 refine ⟨_, [(67, .int .i64 m), (68, .pointer (some ⟨b218, o219 + (man : Int).toNat * 1, none⟩))], rfl, rfl, (sc rfl (sc rfl (sn _))), by kernel_rfl, ?_⟩; intro H
 obtain ⟨l8, h227, r228⟩ := bv_ok r217; clear r217
 refine o_storeZ (u := m) Try.sizeOf41 (iE_ok _) rfl ha222 rfl rfl (fun _ => .c (.c (.c (.s .h)))) hz202 h227 g215 ?_; intro Lb229 hz230
 refine shO_nil ⟨undef, rfl, FExt.refl _, [], by kernel_rfl, .inl (.inl rfl), (fun _ h => absurd h List.not_mem_nil), ?_⟩
 refine shM_nil ?_
 refine wsr ?_
 refine ov (v_loadA (cs := #[.slice (some ⟨b16, 0, none⟩) (Int.toNat (listens.length : Int)) (Int.toNat (listens.length : Int)), .slice a10 n13 n13]) Try.isAgg26 Try.sizeOf26 rfl (Has.own 0 rfl) (Nat.le_of_ble_eq_true rfl) rfl) rfl ?_
 refine o_storeA (i := 1) Try.sizeOf26 rfl rfl rfl (by simp [Value.oneCell']) rfl (Nat.le_of_ble_eq_true rfl) ?_
 refine shO_L (L' := (b17, .cells #[.slice (some ⟨b16, 0, none⟩) (Int.toNat (listens.length : Int)) (Int.toNat (listens.length : Int)), .slice a10 n13 n13] 26 (0, 0)) :: ((b3, .cells #[.slice (some ⟨b16, 0, none⟩) (Int.toNat (listens.length : Int)) (Int.toNat (listens.length : Int)), .slice a10 n13 n13] 26 (0, 0)) :: ((b2, .cells #[.int .i64 hour, .int .i64 man] 59 (0, 0)) :: (Lo194 ++ (Lb229 ++ (Lc195 ++ (Lb23 ++ []))))))) rfl ?_
 obtain ⟨out2, h231, r232⟩ := bv_ok r228; clear r228
 refine shO_fold (p := fun X => NlR K.w0.heap.size 40 41 1 (iE .i64) F87 a10 n13 n13 out2 X) (InH.back0 hI203 hO201 hh200 hz230 h231) (pT ((fC (fC (fC fP))).trans (pA ((fC (fC (fC fP))).trans (pA ((fC (fC (fC fP))).trans (pA pR)))))) (lp (lp (lp (ln rfl))))) ?_; intro Lb233 hz234
 refine kO (kf (fS fO) (kf (fS fO) (kf (fS fO) kr))) ?_
 refine shO_nil ?_
 obtain rfl := (NlR.caps hz234).1
 refine shW_freezeN (Nat.le_refl _) (iE_ok _) (fC (fC (fC fP))) hz234 ?_; intro F235 hF236 h237
 replace hz24 := hz24.mono (slE_ok (iE_ok _)) hF236
 refine kW (kd (kc (kd kr))) ?_
 refine shW_ret ?_
 refine q_res1 Try.results82 (res_cellA (cs := #[.slice (some ⟨b16, 0, none⟩) (Int.toNat (listens.length : Int)) (Int.toNat (listens.length : Int)), .slice a10 out2.length out2.length]) Try.isAgg26 Try.sizeOf26 rfl (Has.own 0 rfl) (Nat.le_of_ble_eq_true rfl) rfl) (s1 (s4 sr)) ?_
 obtain ⟨rfl, rfl⟩ := inj2 r232
 exact ⟨_, _, _, _, _, _, rfl, rfl, hz24.any, h237⟩
set_option maxHeartbeats 1000000 in
theorem night_desk_split_w {b_d : Nat} {listens_a : Option Addr} {listens_c : Nat} {listens : List (List Int)} {hours_a : Option Addr} {hours_c : Nat} {hours : List (List Int)} {v1 : Value} {rows_a : Option Addr} {rows_c : Nat} {rows : List (List Bool)} {mb_d : Nat × Nat} {hour : Int} {man : Int} {F : FS} (hb_d : F b_d = some (.cells #[.slice listens_a listens.length listens_c, .slice hours_a hours.length hours_c, v1, .slice rows_a rows.length rows_c] 139 mb_d)) (h_listens : RowR 1 (slE 1 (iE .i64)) F listens_a listens_c listens) (h_hours : RowR 1 (slE 1 (iE .i64)) F hours_a hours_c hours) (_h_rows : RowR 64 (arE 64 cB) F rows_a rows_c rows) {r : Int} {r2 : Int} (hr : night_desk_split listens hours rows hour man = some (r, r2)) :
    SpecV Try.prog 78 #[.pointer (some ⟨b_d, 0, none⟩), .agg #[.int .i64 hour, .int .i64 man]] F (.tuple #[.int .i64 r, .int .i64 r2]) := by
 refine spec_of_shW (args := [.pointer (some ⟨b_d, 0, none⟩), .agg #[.int .i64 hour, .int .i64 man]]) Try.func78 rfl Try.ntmps78 (Nat.le_of_ble_eq_true rfl) ?_
 intro K _ _; rw [night_desk_split] at hr
 refine wsr ?_
 refine o_box rfl rfl ?_; intro b2 hb2
 refine oa rfl rfl (oa rfl rfl (shO_nil (shW_seq ?_)))
 refine shW_drawM [(.still, 0), (.still, 1), (.still, 2), (.still, 3), (.still, 4), (.seq, 5), (.seq, 6), (.still, 7), (.still, 8), (.still, 9), (.still, 10), (.still, 11)] (by kernel_rfl) (by kernel_rfl) (trivial) (by rfl) (by kernel_rfl) ?_
 refine shM_v (v := .pointer (some ⟨b_d, 0, none⟩)) (ek := [(0, .pointer (some ⟨b_d, 0, none⟩))]) (Ls := []) rfl rfl rfl rfl ((sc rfl (sn _))) (by kernel_rfl) sm (fun H F' L' hF' hL' => v_move rfl) ?_
 refine shM_v (v := .pointer (some ⟨b_d, 0, none⟩)) (ek := [(11, .pointer (some ⟨b_d, 0, none⟩))]) (Ls := []) rfl rfl rfl rfl ((sc rfl (sn _))) (by kernel_rfl) sm (fun H F' L' hF' hL' => v_nilCheck rfl) ?_
 refine shM_v (v := .pointer (some ⟨b_d, 0, none⟩)) (ek := [(12, .pointer (some ⟨b_d, 0, none⟩))]) (Ls := []) rfl rfl rfl rfl ((sc rfl (sn _))) (by kernel_rfl) sm (fun H F' L' hF' hL' => v_fieldAddr fa_139_0 rfl) ?_
 refine shM_v (v := .agg #[.slice listens_a listens.length listens_c, .slice hours_a hours.length hours_c]) (ek := [(13, .pointer (some ⟨b_d, 0, none⟩))]) (Ls := []) rfl rfl rfl rfl ((sc rfl (sn _))) (by kernel_rfl) sm (fun H F' L' hF' hL' => v_loadA (cs := #[.slice listens_a listens.length listens_c, .slice hours_a hours.length hours_c]) Try.isAgg26 Try.sizeOf26 rfl ((Has.frozen hb_d).ext hF' hL') (Nat.le_of_ble_eq_true rfl) rfl) ?_
 refine shM_v (v := .agg #[.int .i64 hour, .int .i64 man]) (ek := [(3, .pointer (some ⟨b2, 0, none⟩))]) (Ls := [(b2, .cells #[.int .i64 hour, .int .i64 man] 59 (0, 0))]) rfl rfl rfl rfl ((sc rfl (sn _))) (by kernel_rfl) (s0 sr) (fun H F' L' hF' hL' => v_loadA (cs := #[.int .i64 hour, .int .i64 man]) Try.isAgg59 Try.sizeOf59 rfl ((Has.own 0 rfl).ext hF' hL') (Nat.le_of_ble_eq_true rfl) rfl) ?_
 refine ⟨_, [(14, .agg #[.slice listens_a listens.length listens_c, .slice hours_a hours.length hours_c]), (15, .agg #[.int .i64 hour, .int .i64 man])], rfl, rfl, (sc rfl (sc rfl (sn _))), by kernel_rfl, ?_⟩; intro H
 obtain ⟨l, l2, h3, r4⟩ := b2_ok hr; clear hr
 refine o_call0 rfl Try.call82 rfl rfl rfl (night_Watch_with_w h_listens h_hours h3) ?_; rintro _ F5 _ hF6 hn7 ⟨a9, n13, c10, Lb11, a15, c16, rfl, rfl, hz12, h17⟩
 replace h_listens := h_listens.mono (slE_ok (iE_ok _)) hF6
 replace h_hours := h_hours.mono (slE_ok (iE_ok _)) hF6
 replace hb_d := hF6 _ _ hb_d
 replace hz12 := hz12.new fun p hp => hn7 p (by simp [hp])
 refine shO_L (lp (ln rfl)) ?_
 refine kO (kf (fS fO) kr) ?_
 refine shO_nil ⟨_, rfl, hF6, [], by kernel_rfl, .inl (.inl rfl), (fun _ h => absurd h List.not_mem_nil), ?_⟩
 refine ⟨_, [(16, .agg #[.slice a9 n13 c10, .slice a15 l2.length c16])], rfl, rfl, (sc rfl (sn _)), by kernel_rfl, ?_⟩; intro H
 obtain rfl := (SlR.caps hz12).1
 refine shO_freezeR (Nat.le_refl _) (slE_ok (iE_ok _)) (fC fP) hz12 ?_; intro F18 hF19 h20
 replace h_listens := h_listens.mono (slE_ok (iE_ok _)) hF19
 replace h_hours := h_hours.mono (slE_ok (iE_ok _)) hF19
 replace h17 := h17.mono (slE_ok (iE_ok _)) hF19
 replace hb_d := hF19 _ _ hb_d
 obtain ⟨d, n, h21, r22⟩ := b2_ok r4; clear r4
 refine o_call0 rfl Try.call58 rfl rfl rfl (night_opened_w h20 h17 h21) ?_; rintro _ F23 _ hF24 hn25 ⟨v27, Lb29, rfl, rfl, hp28⟩
 replace h_listens := h_listens.mono (slE_ok (iE_ok _)) hF24
 replace h_hours := h_hours.mono (slE_ok (iE_ok _)) hF24
 replace hb_d := hF24 _ _ hb_d
 refine shO_L (lp (ln rfl)) ?_
 refine kO (kf (fS fO) kr) ?_
 refine shO_nil ⟨_, rfl, (hF19.trans hF24), [], by kernel_rfl, .inl (.inl rfl), (fun _ h => absurd h List.not_mem_nil), ?_⟩
 refine shM_v (v := .tuple #[v27, .int .i64 n]) (ek := [(17, .tuple #[v27, .int .i64 n])]) (Ls := []) rfl rfl rfl rfl ((sc rfl (sn _))) (by kernel_rfl) sm (fun H F' L' hF' hL' => v_move rfl) ?_
 refine shM_v (v := v27) (ek := [(10, .tuple #[v27, .int .i64 n])]) (Ls := []) rfl rfl rfl rfl ((sc rfl (sn _))) (by kernel_rfl) sm (fun H F' L' hF' hL' => v_extract rfl rfl) ?_
 refine shM_v (v := .int .i64 n) (ek := [(10, .tuple #[v27, .int .i64 n])]) (Ls := []) rfl rfl rfl rfl ((sc rfl (sn _))) (by kernel_rfl) sm (fun H F' L' hF' hL' => v_extract rfl rfl) ?_
 refine shM_v (v := v27) (ek := [(18, v27)]) (Ls := []) rfl rfl rfl rfl ((sc rfl (sn _))) (by kernel_rfl) sm (fun H F' L' hF' hL' => v_assign rfl) ?_
 refine shM_v (v := .int .i64 n) (ek := [(19, .int .i64 n)]) (Ls := []) rfl rfl rfl rfl ((sc rfl (sn _))) (by kernel_rfl) sm (fun H F' L' hF' hL' => v_assign rfl) ?_
 refine shM_nil ?_
 refine shW_seq ?_
 refine shW_drawM [(.still, 0), (.still, 1), (.still, 2), (.still, 3), (.still, 4), (.seq, 5), (.seq, 6), (.still, 7), (.still, 8), (.still, 9), (.still, 10), (.still, 11)] (by kernel_rfl) (by kernel_rfl) (trivial) (by rfl) (by kernel_rfl) ?_
 refine shM_v (v := .pointer (some ⟨b_d, 0, none⟩)) (ek := [(0, .pointer (some ⟨b_d, 0, none⟩))]) (Ls := []) rfl rfl rfl rfl ((sc rfl (sn _))) (by kernel_rfl) sm (fun H F' L' hF' hL' => v_move rfl) ?_
 refine shM_v (v := .pointer (some ⟨b_d, 0, none⟩)) (ek := [(21, .pointer (some ⟨b_d, 0, none⟩))]) (Ls := []) rfl rfl rfl rfl ((sc rfl (sn _))) (by kernel_rfl) sm (fun H F' L' hF' hL' => v_nilCheck rfl) ?_
 refine shM_v (v := .pointer (some ⟨b_d, 0, none⟩)) (ek := [(22, .pointer (some ⟨b_d, 0, none⟩))]) (Ls := []) rfl rfl rfl rfl ((sc rfl (sn _))) (by kernel_rfl) sm (fun H F' L' hF' hL' => v_fieldAddr fa_139_0 rfl) ?_
 refine shM_v (v := .agg #[.slice listens_a listens.length listens_c, .slice hours_a hours.length hours_c]) (ek := [(23, .pointer (some ⟨b_d, 0, none⟩))]) (Ls := []) rfl rfl rfl rfl ((sc rfl (sn _))) (by kernel_rfl) sm (fun H F' L' hF' hL' => v_loadA (cs := #[.slice listens_a listens.length listens_c, .slice hours_a hours.length hours_c]) Try.isAgg26 Try.sizeOf26 rfl ((Has.frozen hb_d).ext hF' hL') (Nat.le_of_ble_eq_true rfl) rfl) ?_
 refine shM_v (v := .agg #[.int .i64 hour, .int .i64 man]) (ek := [(3, .pointer (some ⟨b2, 0, none⟩))]) (Ls := [(b2, .cells #[.int .i64 hour, .int .i64 man] 59 (0, 0))]) rfl rfl rfl rfl ((sc rfl (sn _))) (by kernel_rfl) (s0 (s2 (s3 sr))) (fun H F' L' hF' hL' => v_loadA (cs := #[.int .i64 hour, .int .i64 man]) Try.isAgg59 Try.sizeOf59 rfl ((Has.own 0 rfl).ext hF' hL') (Nat.le_of_ble_eq_true rfl) rfl) ?_
 refine ⟨_, [(24, .agg #[.slice listens_a listens.length listens_c, .slice hours_a hours.length hours_c]), (25, .agg #[.int .i64 hour, .int .i64 man])], rfl, rfl, (sc rfl (sc rfl (sn _))), by kernel_rfl, ?_⟩; intro H
 obtain ⟨l3, l4, h30, r31⟩ := b2_ok r22; clear r22
 refine o_call0 rfl Try.call82 rfl rfl rfl (night_Watch_with_w h_listens h_hours h30) ?_; rintro _ F32 _ hF33 hn34 ⟨a36, n40, c37, Lb38, a42, c43, rfl, rfl, hz39, h44⟩
 replace hp28 := hp28.mono hF33
 replace hz39 := hz39.new fun p hp => hn34 p (by simp [hp])
 refine shO_L (lp (ln rfl)) ?_
 refine kO (kf (fS fO) kr) ?_
 refine shO_nil ⟨_, rfl, hF33, [], by kernel_rfl, .inl (.inl rfl), (fun _ h => absurd h List.not_mem_nil), ?_⟩
 refine ⟨_, [(26, .agg #[.slice a36 n40 c37, .slice a42 l4.length c43])], rfl, rfl, (sc rfl (sn _)), by kernel_rfl, ?_⟩; intro H
 obtain rfl := (SlR.caps hz39).1
 refine shO_freezeR (Nat.le_refl _) (slE_ok (iE_ok _)) (fC fP) hz39 ?_; intro F45 hF46 h47
 replace h44 := h44.mono (slE_ok (iE_ok _)) hF46
 replace hp28 := hp28.mono hF46
 obtain ⟨d2, n2, h48, r49⟩ := b2_ok r31; clear r31
 refine o_call0 rfl Try.call58 rfl rfl rfl (night_opened_w h47 h44 h48) ?_; rintro _ F50 _ hF51 hn52 ⟨v54, Lb56, rfl, rfl, hp55⟩
 replace hp28 := hp28.mono hF51
 refine shO_L (lp (ln rfl)) ?_
 refine kO (kf (fS fO) kr) ?_
 refine shO_nil ⟨_, rfl, (hF46.trans hF51), [], by kernel_rfl, .inl (.inl rfl), (fun _ h => absurd h List.not_mem_nil), ?_⟩
 refine shM_v (v := .tuple #[v54, .int .i64 n2]) (ek := [(27, .tuple #[v54, .int .i64 n2])]) (Ls := []) rfl rfl rfl rfl ((sc rfl (sn _))) (by kernel_rfl) sm (fun H F' L' hF' hL' => v_move rfl) ?_
 refine shM_v (v := v54) (ek := [(20, .tuple #[v54, .int .i64 n2])]) (Ls := []) rfl rfl rfl rfl ((sc rfl (sn _))) (by kernel_rfl) sm (fun H F' L' hF' hL' => v_extract rfl rfl) ?_
 refine shM_v (v := .int .i64 n2) (ek := [(20, .tuple #[v54, .int .i64 n2])]) (Ls := []) rfl rfl rfl rfl ((sc rfl (sn _))) (by kernel_rfl) sm (fun H F' L' hF' hL' => v_extract rfl rfl) ?_
 refine shM_v (v := v54) (ek := [(28, v54)]) (Ls := []) rfl rfl rfl rfl ((sc rfl (sn _))) (by kernel_rfl) sm (fun H F' L' hF' hL' => v_assign rfl) ?_
 refine shM_v (v := .int .i64 n2) (ek := [(29, .int .i64 n2)]) (Ls := []) rfl rfl rfl rfl ((sc rfl (sn _))) (by kernel_rfl) sm (fun H F' L' hF' hL' => v_assign rfl) ?_
 refine shM_nil ?_
 refine shW_seq ?_
 obtain ⟨listens2, hours2, cried, rows2, h57, r58⟩ := b4_ok r49; clear r49
 have h64 := hp28; rw [h57] at h64; obtain ⟨b59, m60, a65, c66, a68, c69, b71, es72, cl73, a75, c76, hv61, hz62, h67, h70, hR74, h77, hL63⟩ := ob_139_of h64; subst hv61; subst hL63
 refine shW_L (L' := (b2, .cells #[.int .i64 hour, .int .i64 man] 59 (0, 0)) :: (Lb56 ++ ((b71, .map es72 cl73) :: []))) rfl ?_
 refine kW (kc (kf (fS fO) kr)) ?_
 obtain ⟨listens3, hours3, cried2, rows3, h78, r79⟩ := b4_ok r58; clear r58
 have h85 := hp55; rw [h78] at h85; obtain ⟨b80, m81, a86, c87, a89, c90, b92, es93, cl94, a96, c97, hv82, hz83, h88, h91, hR95, h98, hL84⟩ := ob_139_of h85; subst hv82; subst hL84
 refine shW_L (L' := [(b2, .cells #[.int .i64 hour, .int .i64 man] 59 (0, 0)), (b71, .map es72 cl73), (b92, .map es93 cl94)]) rfl ?_
 refine shW_region (om rfl rfl ?_)
 obtain ⟨n3, h99, r100⟩ := b1_ok r79; clear r79
 refine o_callV rfl Try.call75 rfl rfl rfl (night_desk_count_w hz62 h67 h70 h77 h99) ?_
 refine om rfl rfl ?_
 obtain ⟨n4, h101, r102⟩ := b1_ok r100; clear r100
 refine o_callV rfl Try.call75 rfl rfl rfl (night_desk_count_w hz83 h88 h91 h98 h101) ?_
 refine oa rfl rfl (oa rfl rfl (shO_nil ?_))
 refine kW kn ?_
 refine shW_ret ?_
 refine q_res2 Try.results78 (res_tmp rfl) (res_tmp rfl) (sr) ?_
 obtain ⟨rfl, rfl⟩ := inj2 r102
 exact rfl
set_option maxHeartbeats 1000000 in
theorem night_Watch_place_w {listens_a : Option Addr} {listens_c : Nat} {listens : List (List Int)} {hours_a : Option Addr} {hours_c : Nat} {hours : List (List Int)} {hour : Int} {man : Int} {F : FS} (_h_listens : RowR 1 (slE 1 (iE .i64)) F listens_a listens_c listens) (_h_hours : RowR 1 (slE 1 (iE .i64)) F hours_a hours_c hours) {r : Bool} (hr : night_Watch_place listens hours hour man = some r) :
    SpecV Try.prog 79 #[.agg #[.slice listens_a listens.length listens_c, .slice hours_a hours.length hours_c], .agg #[.int .i64 hour, .int .i64 man]] F (.bool r) := by
 refine spec_of_shW (args := [.agg #[.slice listens_a listens.length listens_c, .slice hours_a hours.length hours_c], .agg #[.int .i64 hour, .int .i64 man]]) Try.func79 rfl Try.ntmps79 (Nat.le_of_ble_eq_true rfl) ?_
 intro K _ _; rw [night_Watch_place] at hr
 refine wsr ?_
 refine o_box rfl rfl ?_; intro b1 hb1
 refine o_box rfl rfl ?_; intro b2 hb2
 refine oa rfl rfl (nsr ?_)
 refine ov (v_fieldAddr fa_59_0 rfl) rfl ?_
 refine ov (v_load Try.isAgg3 rfl (Has.own 0 rfl) rfl) rfl ?_
 refine ov (v_fieldAddr fa_26_1 rfl) rfl ?_
 refine ov (v_load Try.isAgg24 rfl (Has.own 1 rfl) rfl) rfl ?_
 refine ov (v_lenS Try.underlying24 rfl) rfl ?_
 obtain ⟨g3, r4⟩ := gd_ok hr; clear hr
 refine ov (v_sub rfl rfl g3) rfl ?_
 obtain ⟨ok, h5, r6⟩ := b1_ok r4; clear r4
 refine o_callV rfl Try.call59 rfl rfl rfl (night_in_w h5) ?_
 refine om rfl rfl ?_
 rcases bool_two ok with c7 | c7
 · have r8 := bt r6 c7; clear r6
   refine shO_on (b := true) 12 rfl (EnvB rfl c7) ?_
   refine ov (v_fieldAddr fa_59_1 rfl) rfl ?_
   refine shO_on (b := true) 12 rfl (EnvB rfl c7) ?_
   refine ov (v_load Try.isAgg3 rfl (Has.own 0 rfl) rfl) rfl ?_
   refine shO_on (b := true) 12 rfl (EnvB rfl c7) ?_
   refine ov (v_fieldAddr fa_26_0 rfl) rfl ?_
   refine shO_on (b := true) 12 rfl (EnvB rfl c7) ?_
   refine ov (v_load Try.isAgg23 rfl (Has.own 1 rfl) rfl) rfl ?_
   refine shO_on (b := true) 12 rfl (EnvB rfl c7) ?_
   refine ov (v_lenS Try.underlying23 rfl) rfl ?_
   refine shO_on (b := true) 12 rfl (EnvB rfl c7) ?_
   obtain ⟨g9, r10⟩ := gd_ok r8; clear r8
   refine ov (v_sub rfl rfl g9) rfl ?_
   refine shO_on (b := true) 12 rfl (EnvB rfl c7) ?_
   obtain ⟨ok2, h11, r12⟩ := b1_ok r10; clear r10
   refine o_callV rfl Try.call59 rfl rfl rfl (night_in_w h11) ?_
   refine ov (v_pick_t (evB rfl c7) rfl) rfl ?_
   refine oa rfl rfl (shO_nil ?_)
   refine kW kn ?_
   refine shW_ret ?_
   refine q_res1 Try.results79 (res_tmp rfl) (sr) ?_
   obtain rfl := inj1 r12
   exact rfl
 have r13 := bf r6 c7; clear r6
 refine shO_off (b' := false) 12 rfl (EnvB rfl c7) rfl rfl (shO_off (b' := false) 12 rfl (EnvB rfl c7) rfl rfl (shO_off (b' := false) 12 rfl (EnvB rfl c7) rfl rfl (shO_off (b' := false) 12 rfl (EnvB rfl c7) rfl rfl (shO_off (b' := false) 12 rfl (EnvB rfl c7) rfl rfl (shO_off (b' := false) 12 rfl (EnvB rfl c7) rfl rfl (shO_off (b' := false) 12 rfl (EnvB rfl c7) rfl rfl ?_))))))
 refine ov (v_pick_f (evB rfl c7) rfl) rfl ?_
 refine oa rfl rfl (shO_nil ?_)
 refine kW kn ?_
 refine shW_ret ?_
 refine q_res1 Try.results79 (res_tmp rfl) (sr) ?_
 obtain rfl := inj1 r13
 exact rfl
set_option maxHeartbeats 1000000 in
theorem night_Split_w {listens_a : Option Addr} {listens_c : Nat} {listens : List (List Int)} {hours_a : Option Addr} {hours_c : Nat} {hours : List (List Int)} {hour : Int} {man : Int} {F : FS} (h_listens : RowR 1 (slE 1 (iE .i64)) F listens_a listens_c listens) (h_hours : RowR 1 (slE 1 (iE .i64)) F hours_a hours_c hours) {r : Int} {r2 : Int} {r3 : Int} (hr : night_Split listens hours hour man = some (r, r2, r3)) :
    SpecV Try.prog 30 #[.agg #[.slice listens_a listens.length listens_c, .slice hours_a hours.length hours_c], .agg #[.int .i64 hour, .int .i64 man]] F (.tuple #[.int .i64 r, .int .i64 r2, .int .i64 r3]) := by
 refine spec_of_shW (args := [.agg #[.slice listens_a listens.length listens_c, .slice hours_a hours.length hours_c], .agg #[.int .i64 hour, .int .i64 man]]) Try.func30 rfl Try.ntmps30 (Nat.le_of_ble_eq_true rfl) ?_
 intro K _ _; rw [night_Split] at hr
 refine wsr ?_
 refine o_box rfl rfl ?_; intro b1 hb1
 refine o_box rfl rfl ?_; intro b2 hb2
 refine oa rfl rfl (oa rfl rfl (oa rfl rfl (nsr ?_)))
 refine ov (v_loadA (cs := #[.slice listens_a listens.length listens_c, .slice hours_a hours.length hours_c]) Try.isAgg26 Try.sizeOf26 rfl (Has.own 1 rfl) (Nat.le_of_ble_eq_true rfl) rfl) rfl ?_
 obtain ⟨d, n, h3, r4⟩ := b2_ok hr; clear hr
 refine o_call0 rfl Try.call58 rfl rfl rfl (night_opened_w h_listens h_hours h3) ?_; rintro _ F5 _ hF6 hn7 ⟨v9, Lb11, rfl, rfl, hp10⟩
 replace h_listens := h_listens.mono (slE_ok (iE_ok _)) hF6
 replace h_hours := h_hours.mono (slE_ok (iE_ok _)) hF6
 refine shO_L (lp (ln rfl)) ?_
 refine kO (kf (fS fO) (kf (fS fO) kr)) ?_
 refine om rfl rfl (ox rfl rfl rfl (ox rfl rfl rfl (oa rfl rfl (oa rfl rfl (shO_nil (shW_seq ?_))))))
 refine shW_block ?_
 refine wsr (om rfl rfl ?_)
 refine ov (v_neq rfl rfl) rfl ?_
 refine oa rfl rfl (shO_nil ?_)
 refine shW_condP rfl (fun c12 => ?_) (fun c12 => ?_)
 · have r13 := ite_t r4 c12; clear r4
   refine wsr (om rfl rfl (oa rfl rfl (oa rfl rfl (oa rfl rfl (shO_nil ?_)))))
   refine kW kn ?_
   refine shW_ret (inBlock_ret (andThen_ret ?_))
   refine q_res3 Try.results30 (res_tmp rfl) (res_tmp rfl) (res_tmp rfl) (sr) ?_
   obtain ⟨rfl, rfl, rfl⟩ := inj3 r13
   exact rfl
 have r14 := ite_f r4 c12; clear r4
 refine wsr ?_
 refine ov (v_loadA (cs := #[.slice listens_a listens.length listens_c, .slice hours_a hours.length hours_c]) Try.isAgg26 Try.sizeOf26 rfl (Has.own 1 rfl) (Nat.le_of_ble_eq_true rfl) rfl) rfl ?_
 refine ov (v_loadA (cs := #[.int .i64 hour, .int .i64 man]) Try.isAgg59 Try.sizeOf59 rfl (Has.own 0 rfl) (Nat.le_of_ble_eq_true rfl) rfl) rfl ?_
 obtain ⟨ok, h15, r16⟩ := b1_ok r14; clear r14
 refine o_callV rfl Try.call79 rfl rfl rfl (night_Watch_place_w h_listens h_hours h15) ?_
 refine ov (v_notB rfl) rfl ?_
 refine oa rfl rfl (shO_nil ?_)
 refine shW_cond rfl (fun c17 => ?_) (fun c17 => ?_)
 · have r18 := bt r16 c17; clear r16
   refine wsr (oa rfl rfl (oa rfl rfl (oa rfl rfl (shO_nil ?_))))
   refine kW kn ?_
   refine shW_ret (inBlock_ret (andThen_ret ?_))
   refine q_res3 Try.results30 (res_tmp rfl) (res_tmp rfl) (res_tmp rfl) (sr) ?_
   obtain ⟨rfl, rfl, rfl⟩ := inj3 r18
   exact rfl
 have r19 := bf r16 c17; clear r16
 refine wsd (by kernel_rfl) (by kernel_rfl) (by kernel_rfl) ?_
 refine qv (v_fieldAddr fa_26_1 rfl) rfl ?_
 refine qv (v_load Try.isAgg24 rfl (Has.own 1 rfl) rfl) rfl ?_
 refine qv (v_fieldAddr fa_59_0 rfl) rfl ?_
 refine qv (v_load Try.isAgg3 rfl (Has.own 0 rfl) rfl) rfl ?_
 obtain ⟨x, g20, hx21, r22⟩ := ix_ok r19; clear r19
 obtain ⟨b23, o24, c25, vs26, ha27, hs28, hle29, ⟨a32, c33, rfl, h34⟩, hl30, hc31⟩ := RowR.at (slE_ok (iE_ok _)) h_hours ((b2, .cells #[.int .i64 hour, .int .i64 man] 59 (0, 0)) :: ((b1, .cells #[.slice listens_a listens.length listens_c, .slice hours_a hours.length hours_c] 26 (0, 0)) :: (Lb11 ++ []))) g20.1 hx21
 refine qv (v_indexO Try.underlying24 Try.sizeOf40 rfl ha27 rfl g20) rfl ?_
 refine qv (v_load Try.isAgg40 rfl hs28 (hc31 0 (by decide))) rfl ?_
 refine qv (v_fieldAddr fa_59_1 rfl) rfl ?_
 refine qv (v_load Try.isAgg3 rfl (Has.own 0 rfl) rfl) rfl ?_
 obtain ⟨x2, g35, hx36, r37⟩ := ix_ok r22; clear r22
 obtain ⟨b38, o39, c40, vs41, ha42, hs43, hle44, rfl, hl45, hc46⟩ := RowR.at (iE_ok _) h34 ((b2, .cells #[.int .i64 hour, .int .i64 man] 59 (0, 0)) :: ((b1, .cells #[.slice listens_a listens.length listens_c, .slice hours_a hours.length hours_c] 26 (0, 0)) :: (Lb11 ++ []))) g35.1 hx36
 refine qv (v_indexO Try.underlying40 Try.sizeOf41 rfl ha42 rfl g35) rfl ?_
 refine qv (v_load Try.isAgg41 rfl hs43 (hc46 0 (by decide))) rfl ?_
 refine qv (v_neq rfl rfl) rfl ?_
 refine qa rfl rfl (shQ_nil ?_)
 refine shW_condP rfl (fun c47 => ?_) (fun c47 => ?_)
 · have r48 := ite_t r37 c47; clear r37
   refine wsr (oa rfl rfl (oa rfl rfl (oa rfl rfl (shO_nil ?_))))
   refine kW kn ?_
   refine shW_ret (inBlock_ret (andThen_ret ?_))
   refine q_res3 Try.results30 (res_tmp rfl) (res_tmp rfl) (res_tmp rfl) (sr) ?_
   obtain ⟨rfl, rfl, rfl⟩ := inj3 r48
   exact rfl
 have r49 := ite_f r37 c47; clear r37
 refine shW_skip (inBlock_n (id := 0) (shW_seq ?_))
 obtain ⟨listens2, hours2, cried, rows, h50, r51⟩ := b4_ok r49; clear r49
 have h57 := hp10; rw [h50] at h57; obtain ⟨b52, m53, a58, c59, a61, c62, b64, es65, cl66, a68, c69, hv54, hz55, h60, h63, hR67, h70, hL56⟩ := ob_139_of h57; subst hv54; subst hL56
 refine shW_L (L' := [(b2, .cells #[.int .i64 hour, .int .i64 man] 59 (0, 0)), (b1, .cells #[.slice listens_a listens.length listens_c, .slice hours_a hours.length hours_c] 26 (0, 0)), (b64, .map es65 cl66)]) rfl ?_
 refine shW_region (om rfl rfl ?_)
 refine ov (v_loadA (cs := #[.int .i64 hour, .int .i64 man]) Try.isAgg59 Try.sizeOf59 rfl (Has.own 0 rfl) (Nat.le_of_ble_eq_true rfl) rfl) rfl ?_
 obtain ⟨n2, n3, h71, r72⟩ := b2_ok r51; clear r51
 refine o_callV rfl Try.call78 rfl rfl rfl (night_desk_split_w hz55 h60 h63 h70 h71) ?_
 refine om rfl rfl (ox rfl rfl rfl (ox rfl rfl rfl (oa rfl rfl (oa rfl rfl (nsr (om rfl rfl (om rfl rfl (oa rfl rfl (oa rfl rfl ?_)))))))))
 refine oa rfl rfl (shO_nil ?_)
 refine kW kn ?_
 refine shW_ret ?_
 refine q_res3 Try.results30 (res_tmp rfl) (res_tmp rfl) (res_tmp rfl) (sr) ?_
 obtain ⟨rfl, rfl, rfl⟩ := inj3 r72
 exact rfl
set_option maxHeartbeats 1000000 in
theorem slices_Clone_night_Verdict_night_Verdict_w {s__a : Option Addr} {s__c : Nat} {s_ : List Int} {F : FS} (h_s_ : RowR 1 (iE .i64) F s__a s__c s_) {r : List Int} (hr : slices_Clone_night_Verdict_night_Verdict s_ = some r) :
    SH.Spec Try.prog 90 #[.slice s__a s_.length s__c] F [] fun F' L' v => ∃ (ra : Option Addr) (rn : Nat) (rc : Nat) (rL : LH), v = .slice ra rn rc ∧ L' = rL ++ [] ∧ SlR 0 81 1 (iE .i64) F' ra rn rc r rL := by
 refine spec_of_shW (args := [.slice s__a s_.length s__c]) Try.func90 rfl Try.ntmps90 (Nat.le_of_ble_eq_true rfl) ?_
 intro K _ _; rw [slices_Clone_night_Verdict_night_Verdict] at hr
 refine wsr (oa rfl rfl (shO_nil (shW_seq (wsr (om rfl rfl ?_)))))
 refine ov (v_eqlNil Try.underlying80 rfl) rfl ?_
 refine shO_nil ?_
 refine shW_cond rfl (fun c1 => ?_) (fun c1 => ?_)
 · have r2 := nilIf_t hr (RowR.isNone h_s_ c1); clear hr
   refine wsr (oa rfl rfl (shO_nil (shW_ret (andThen_ret ?_))))
   refine q_res1 Try.results90 (res_tmp rfl) (sr) ?_
   obtain rfl := inj1 r2
   exact ⟨_, _, _, [], rfl, rfl, SlR.nil _ _ _ _ _⟩
 have r3 := nilIf_f hr; clear hr
 refine shW_skip (wsr ?_)
 refine o_buildSlice (cs := #[]) rfl rfl (buildSlice_none slt_80) ?_; intro b4 hb4
 refine om rfl rfl ?_
 have hz6 : SlR K.w0.heap.size 81 1 (iE .i64) F (some ⟨b4, 0, none⟩) 0 0 ([] : List Int) [(b4, .cells #[] 81 (0, 0))] := SlR.of_block (vss := []) (iE_ok _) hb4 .nil rfl rfl (by simp [maxLen])
 generalize hLLb5 : ([(b4, .cells #[] 81 (0, 0))] : LH) = Lb5 at hz6
 refine shO_perm (L' := Lb5 ++ []) (by rw [← hLLb5]; exact fO) ?_
 obtain ⟨l, h8, g9, r10⟩ := ap_ok r3; clear r3
 refine o_appZ (xs := ([] : List Int)) (ys := s_) (zs := l) rfl slt_80 rfl rfl (Nat.le_refl _) (fun _ => .h) hz6 (RowR.src h_s_) h8 g9 (by decide) ?_; intro a11 n15 c12 Lb13 hz14
 refine oa rfl rfl (shO_nil (shW_ret ?_))
 refine q_res1 Try.results90 (res_tmp rfl) (sr) ?_
 obtain rfl := inj1 r10
 exact ⟨_, _, _, _, rfl, rfl, hz14.any⟩
set_option maxHeartbeats 1000000 in
theorem night_Verdicts_w {listens_a : Option Addr} {listens_c : Nat} {listens : List (List Int)} {hours_a : Option Addr} {hours_c : Nat} {hours : List (List Int)} {F : FS} (h_listens : RowR 1 (slE 1 (iE .i64)) F listens_a listens_c listens) (h_hours : RowR 1 (slE 1 (iE .i64)) F hours_a hours_c hours) {r : List (List Int)} {r2 : Int} (hr : night_Verdicts listens hours = some (r, r2)) :
    SH.Spec Try.prog 36 #[.agg #[.slice listens_a listens.length listens_c, .slice hours_a hours.length hours_c]] F [] fun F' L' v => ∃ (ra : Option Addr) (rn : Nat) (rc : Nat) (rL : LH), v = .tuple #[.slice ra rn rc, .int .i64 r2] ∧ L' = rL ++ [] ∧ SlR 0 80 1 (slE 1 (iE .i64)) F' ra rn rc r rL := by
 refine spec_of_shW (args := [.agg #[.slice listens_a listens.length listens_c, .slice hours_a hours.length hours_c]]) Try.func36 rfl Try.ntmps36 (Nat.le_of_ble_eq_true rfl) ?_
 intro K _ _; rw [night_Verdicts] at hr
 refine wsr ?_
 refine o_box rfl rfl ?_; intro b1 hb1
 refine oa rfl rfl (oa rfl rfl (nsr ?_))
 refine ov (v_loadA (cs := #[.slice listens_a listens.length listens_c, .slice hours_a hours.length hours_c]) Try.isAgg26 Try.sizeOf26 rfl (Has.own 0 rfl) (Nat.le_of_ble_eq_true rfl) rfl) rfl ?_
 obtain ⟨d, n, h2, r3⟩ := b2_ok hr; clear hr
 refine o_call0 rfl Try.call55 rfl rfl rfl (night_told_w h_listens h_hours h2) ?_; rintro _ F4 _ hF5 hn6 ⟨v8, Lb10, rfl, rfl, hp9⟩
 replace h_listens := h_listens.mono (slE_ok (iE_ok _)) hF5
 replace h_hours := h_hours.mono (slE_ok (iE_ok _)) hF5
 refine shO_L (lp (ln rfl)) ?_
 refine kO (kf (fS fO) kr) ?_
 refine om rfl rfl (ox rfl rfl rfl (ox rfl rfl rfl (oa rfl rfl (oa rfl rfl (shO_nil (shW_seq (wsr (om rfl rfl ?_))))))))
 refine ov (v_neq rfl rfl) rfl ?_
 refine shO_nil ?_
 refine shW_condP rfl (fun c11 => ?_) (fun c11 => ?_)
 · have r12 := ite_t r3 c11; clear r3
   refine wsr (om rfl rfl (oa rfl rfl (oa rfl rfl (shO_nil ?_))))
   refine kW kn ?_
   refine shW_ret (andThen_ret ?_)
   refine q_res2 Try.results36 (res_tmp rfl) (res_tmp rfl) (sr) ?_
   obtain ⟨rfl, rfl⟩ := inj2 r12
   exact ⟨_, _, _, [], rfl, rfl, SlR.nil _ _ _ _ _⟩
 have r13 := ite_f r3 c11; clear r3
 refine shW_skip (wsr (oa rfl rfl (shO_nil ?_)))
 obtain ⟨out, h20, r21⟩ := b1_ok r13; clear r13
 refine shW_join (fun e1 F1 L1 => ∃ (a14 : Option Addr) (n18 : Nat) (c15 : Nat) (Lb16 : LH), FExt F4 F1 ∧ L1 = (Lb16 ++ []) ∧ e1.sub [(6, .slice a14 n18 c15)] ∧ SlR K.w0.heap.size 80 1 (slE 1 (iE .i64)) F1 a14 n18 c15 out Lb16) ?_ ?_
 · clear r21
   refine wsr ?_
   refine ov (v_fieldAddr fa_26_1 rfl) rfl ?_
   refine ov (v_load Try.isAgg24 rfl (Has.own 0 rfl) rfl) rfl ?_
   refine ov (v_lenS Try.underlying24 rfl) rfl ?_
   refine om rfl rfl (shO_nil ?_)
   refine shW_block ?_
   obtain ⟨listens2, hours2, cried, rows, h22, r23⟩ := b4_ok h20; clear h20
   have h29 := hp9; rw [h22] at h29; obtain ⟨b24, m25, a30, c31, a33, c34, b36, es37, cl38, a40, c41, hv26, hz27, h32, h35, hR39, h42, hL28⟩ := ob_139_of h29; subst hv26; subst hL28
   refine shW_L (L' := [(b1, .cells #[.slice listens_a listens.length listens_c, .slice hours_a hours.length hours_c] 26 (0, 0)), (b36, .map es37 cl38)]) rfl ?_
   refine shW_lp (fun fu1 e1 F1 L1 => ∃ (tl : List (List Int)) (k : Int), tl.length = fu1 ∧ Lst hours k tl ∧ ∃ (out2 : List (List Int)) (a43 : Option Addr) (n47 : Nat) (c44 : Nat) (Lb45 : LH), night_Verdicts_l1 listens listens2 hours2 rows tl k out2 = some out ∧ FExt F4 F1 ∧ L1 = ((b1, .cells #[.slice listens_a listens.length listens_c, .slice hours_a hours.length hours_c] 26 (0, 0)) :: ((b36, .map es37 cl38) :: (Lb45 ++ []))) ∧ e1.sub [(1, .pointer (some ⟨b1, 0, none⟩)), (4, .pointer (some ⟨b24, 0, none⟩)), (6, .slice a43 n47 c44), (24, .int .i64 (hours.length : Int)), (25, .int .i64 k)] ∧ SlR K.w0.heap.size 80 1 (slE 1 (iE .i64)) F1 a43 n47 c44 out2 Lb45) _ (m0 (kc (kc (ke kr))) ⟨_, _, rfl, Lst.start _, [], none, 0, 0, [], r23, FExt.refl _, rfl, (sc rfl (sc rfl (sc rfl (sc rfl (sc rfl (sn _)))))), SlR.nil _ _ _ _ _⟩) ?_
   rintro fu1 e1 F53 _ ⟨tl, k, hn50, hk49, out2, a43, n47, c44, Lb45, r51, hF54, rfl, he52, hz46⟩
   refine shW_env _ he52 ?_; clear he52
   replace h_listens := h_listens.mono (slE_ok (iE_ok _)) hF54
   replace h_hours := h_hours.mono (slE_ok (iE_ok _)) hF54
   replace h32 := h32.mono (slE_ok (iE_ok _)) hF54
   replace h35 := h35.mono (slE_ok (iE_ok _)) hF54
   replace h42 := h42.mono (arE_ok (n := 64) (sz := 1) cB_ok) hF54
   replace hz27 := hF54 _ _ hz27
   refine wsr ?_
   refine ov (v_lssK rfl rfl) rfl ?_
   refine shO_nil (shW_seq ?_)
   refine shW_condP rfl (fun c56 => ?_) (fun c56 => ?_)
   · obtain ⟨x, tl2, rfl, hx58, g59, hk57⟩ := Lst.succ hk49 c56
     rw [night_Verdicts_l1] at r51
     refine shW_skip ?_
     obtain ⟨out3, h66, r67⟩ := b1_ok r51; clear r51
     refine shW_join (fun e1 F1 L1 => ∃ (a60 : Option Addr) (n64 : Nat) (c61 : Nat) (Lb62 : LH), FExt F53 F1 ∧ L1 = ((b1, .cells #[.slice listens_a listens.length listens_c, .slice hours_a hours.length hours_c] 26 (0, 0)) :: ((b36, .map es37 cl38) :: (Lb62 ++ []))) ∧ e1.sub [(1, .pointer (some ⟨b1, 0, none⟩)), (4, .pointer (some ⟨b24, 0, none⟩)), (6, .slice a60 n64 c61), (24, .int .i64 (hours.length : Int)), (25, .int .i64 k)] ∧ SlR K.w0.heap.size 80 1 (slE 1 (iE .i64)) F1 a60 n64 c61 out3 Lb62) ?_ ?_
     · clear r67
       refine shW_block ?_
       refine wsr (om rfl rfl (oa rfl rfl (shO_nil (shW_seq ?_))))
       obtain ⟨k2, h68, r69⟩ := b1_ok h66; clear h66
       refine shW_join (fun e1 F1 L1 => F53 = F1 ∧ L1 = ((b1, .cells #[.slice listens_a listens.length listens_c, .slice hours_a hours.length hours_c] 26 (0, 0)) :: ((b36, .map es37 cl38) :: (Lb45 ++ []))) ∧ e1.sub [(1, .pointer (some ⟨b1, 0, none⟩)), (4, .pointer (some ⟨b24, 0, none⟩)), (6, .slice a43 n47 c44), (7, .int .i64 k), (24, .int .i64 (hours.length : Int)), (25, .int .i64 k), (47, .bool k2)]) ?_ ?_
       · clear r69
         refine shW_draw (by kernel_rfl) (by kernel_rfl) (by kernel_rfl) ?_
         refine qm rfl rfl ?_
         refine qv (v_gtrK rfl rfl) rfl ?_
         refine qm rfl rfl ?_
         by_cases c70 : 0 < k
         · have r71 := ite_t h68 c70; clear h68
           refine shQ_on (b := true) 30 rfl (Env.isT rfl c70) (qm rfl rfl (shQ_on (b := true) 30 rfl (Env.isT rfl c70) ?_))
           refine qv (v_nilCheck rfl) rfl ?_
           refine shQ_on (b := true) 30 rfl (Env.isT rfl c70) ?_
           refine qv (v_fieldAddr fa_139_2 rfl) rfl ?_
           refine shQ_on (b := true) 30 rfl (Env.isT rfl c70) ?_
           refine qv (v_load Try.isAgg137 rfl (Has.frozen hz27) rfl) rfl ?_
           refine shQ_on (b := true) 30 rfl (Env.isT rfl c70) (qm rfl rfl (shQ_on (b := true) 30 rfl (Env.isT rfl c70) ?_))
           obtain ⟨x2, g72, hx73, r74⟩ := ix_ok r71; clear r71
           obtain ⟨b75, o76, c77, vs78, ha79, hs80, hle81, ⟨rfl, h84⟩, hl82, hc83⟩ := RowR.at (arE_ok (n := 64) (sz := 1) cB_ok) h42 ((b1, .cells #[.slice listens_a listens.length listens_c, .slice hours_a hours.length hours_c] 26 (0, 0)) :: ((b36, .map es37 cl38) :: (Lb45 ++ []))) g72.1 hx73
           refine qv (v_indexO Try.underlying137 Try.sizeOf135 rfl ha79 rfl g72) rfl ?_
           refine shQ_on (b := true) 30 rfl (Env.isT rfl c70) ?_
           refine qv (v_loadA (cs := arr cB x2) Try.isAgg135 Try.sizeOf135 rfl hs80 hle81 (extract_cells hle81 hl82 hc83)) rfl ?_
           refine shQ_on (b := true) 30 rfl (Env.isT rfl c70) (qm rfl rfl (shQ_on (b := true) 30 rfl (Env.isT rfl c70) ?_))
           refine qv (v_nilCheck rfl) rfl ?_
           refine shQ_on (b := true) 30 rfl (Env.isT rfl c70) ?_
           refine qv (v_fieldAddr fa_139_2 rfl) rfl ?_
           refine shQ_on (b := true) 30 rfl (Env.isT rfl c70) ?_
           refine qv (v_load Try.isAgg137 rfl (Has.frozen hz27) rfl) rfl ?_
           refine shQ_on (b := true) 30 rfl (Env.isT rfl c70) (qm rfl rfl (shQ_on (b := true) 30 rfl (Env.isT rfl c70) ?_))
           obtain ⟨g85, r86⟩ := gd_ok r74; clear r74
           refine qv (v_sub rfl rfl g85) rfl ?_
           refine shQ_on (b := true) 30 rfl (Env.isT rfl c70) ?_
           obtain ⟨x3, g87, hx88, r89⟩ := ix_ok r86; clear r86
           obtain ⟨b90, o91, c92, vs93, ha94, hs95, hle96, ⟨rfl, h99⟩, hl97, hc98⟩ := RowR.at (arE_ok (n := 64) (sz := 1) cB_ok) h42 ((b1, .cells #[.slice listens_a listens.length listens_c, .slice hours_a hours.length hours_c] 26 (0, 0)) :: ((b36, .map es37 cl38) :: (Lb45 ++ []))) g87.1 hx88
           refine qv (v_indexO Try.underlying137 Try.sizeOf135 rfl ha94 rfl g87) rfl ?_
           refine shQ_on (b := true) 30 rfl (Env.isT rfl c70) ?_
           refine qv (v_loadA (cs := arr cB x3) Try.isAgg135 Try.sizeOf135 rfl hs95 hle96 (extract_cells hle96 hl97 hc98)) rfl ?_
           refine shQ_on (b := true) 30 rfl (Env.isT rfl c70) ?_
           refine qv (v_eqA (eqga_135 _ _ _ _) (eqa_135 h84 h99) rfl rfl) rfl ?_
           refine qv (v_pick_t (evD_true rfl c70) rfl) rfl ?_
           refine shQ_nil ?_
           obtain rfl := inj1 r89
           exact mi kr ⟨rfl, rfl, (sc rfl (sc rfl (sc rfl (sc rfl (sc rfl (sc rfl (sc rfl (sn _))))))))⟩
         have r100 := ite_f h68 c70; clear h68
         refine shQ_off (b' := false) 30 rfl (Env.isF rfl c70) rfl rfl (shQ_off (b' := false) 30 rfl (Env.isF rfl c70) rfl rfl (shQ_off (b' := false) 30 rfl (Env.isF rfl c70) rfl rfl (shQ_off (b' := false) 30 rfl (Env.isF rfl c70) rfl rfl (shQ_off (b' := false) 30 rfl (Env.isF rfl c70) rfl rfl (shQ_off (b' := false) 30 rfl (Env.isF rfl c70) rfl rfl (shQ_off (b' := false) 30 rfl (Env.isF rfl c70) rfl rfl (shQ_off (b' := false) 30 rfl (Env.isF rfl c70) rfl rfl (shQ_off (b' := false) 30 rfl (Env.isF rfl c70) rfl rfl (shQ_off (b' := false) 30 rfl (Env.isF rfl c70) rfl rfl ?_)))))))))
         refine shQ_off (b' := false) 30 rfl (Env.isF rfl c70) rfl rfl (shQ_off (b' := false) 30 rfl (Env.isF rfl c70) rfl rfl (shQ_off (b' := false) 30 rfl (Env.isF rfl c70) rfl rfl (shQ_off (b' := false) 30 rfl (Env.isF rfl c70) rfl rfl (shQ_off (b' := false) 30 rfl (Env.isF rfl c70) rfl rfl (shQ_off (b' := false) 30 rfl (Env.isF rfl c70) rfl rfl ?_)))))
         refine qv (v_pick_f (evD_false rfl c70) rfl) rfl ?_
         refine shQ_nil ?_
         obtain rfl := inj1 r100
         exact mi kr ⟨rfl, rfl, (sc rfl (sc rfl (sc rfl (sc rfl (sc rfl (sc rfl (sc rfl (sn _))))))))⟩
       rintro e1 _ _ ⟨rfl, rfl, he101⟩
       refine shW_env _ he101 ?_; clear he101
       refine shW_cond rfl (fun c102 => ?_) (fun c102 => ?_)
       · have r103 := bt r69 c102; clear r69
         refine wsr (om rfl rfl (om rfl rfl (om rfl rfl ?_)))
         obtain ⟨g104, r105⟩ := gd_ok r103; clear r103
         refine ov (v_sub rfl rfl g104) rfl ?_
         obtain ⟨x4, g106, hx107, r108⟩ := ix_ok r105; clear r105
         obtain ⟨b109, o110, c111, vs112, ha113, hs114, hle115, ⟨a118, c119, rfl, h120⟩, hl116, hc117⟩ := SlR.at (slE_ok (iE_ok _)) hz46 (L := (b1, .cells #[.slice listens_a listens.length listens_c, .slice hours_a hours.length hours_c] 26 (0, 0)) :: ((b36, .map es37 cl38) :: (Lb45 ++ []))) (fC (fC fP)) g106.1 hx107
         refine ov (v_indexO Try.underlying71 Try.sizeOf80 rfl ha113 rfl (SlR.idx hz46 g106)) rfl ?_
         refine ov (v_load Try.isAgg80 rfl hs114 (hc117 0 (by decide))) rfl ?_
         obtain ⟨l, h121, r122⟩ := b1_ok r108; clear r108
         refine o_call0 rfl Try.call90 rfl rfl rfl (slices_Clone_night_Verdict_night_Verdict_w h120 h121) ?_; rintro _ F123 _ hF124 hn125 ⟨a127, n131, c128, Lb129, rfl, rfl, hz130⟩
         replace hz46 := hz46.mono (slE_ok (iE_ok _)) hF124
         replace hz130 := hz130.new fun p hp => hn125 p (by simp [hp])
         refine shO_L (lp (ln rfl)) ?_
         refine kO (kf (fS fO) (kf (fS fO) kr)) ?_
         refine o_buildSlice (cs := #[.slice a127 n131 c128]) rfl rfl (buildSlice_all slt_71 [.slice a127 n131 c128] rfl (by decide) (by simp [Value.cells]) (by decide)) ?_; intro b133 hb133
         obtain rfl := (SlR.caps hz130).1
         refine shO_freezeR (Nat.le_refl _) (iE_ok _) (fC (fC (fC fP))) hz130 ?_; intro F134 hF135 h136
         replace hz46 := hz46.mono (slE_ok (iE_ok _)) hF135
         obtain ⟨out4, h137, g138, r139⟩ := ap_ok r122; clear r122
         refine o_appZ (xs := out2) (ys := [l]) (zs := out4) rfl slt_71 rfl rfl (Nat.le_refl _) (fun _ => .c (.c (.c .h))) hz46 (SrcR.box (vss := [[.slice a127 l.length c128]]) (ys := [l]) 0 rfl (slE_ok (iE_ok _)) (.cons ⟨_, _, rfl, h136⟩ .nil) rfl rfl) h137 g138 (by decide) ?_; intro a140 n144 c141 Lb142 hz143
         refine kO (kd kr) ?_
         refine oa rfl rfl (shO_nil (shW_exit (andThen_exit ?_)))
         refine inBlock_exit ?_
         obtain rfl := inj1 r139
         exact mi kr ⟨a140, n144, c141, Lb142, (hF124.trans hF135), rfl, (sc rfl (sc rfl (sc rfl (sc rfl (sc rfl (sn _)))))), hz143⟩
       have r146 := bf r69 c102; clear r69
       refine shW_skip (wsr (om rfl rfl ?_))
       obtain ⟨n2, h147, r148⟩ := b1_ok r146; clear r146
       refine o_callV rfl Try.call72 rfl rfl rfl (night_desk_sets_w hz27 h32 h35 h147) ?_
       obtain ⟨g149, r150⟩ := gd_ok r148; clear r148
       refine ov (v_sub rfl rfl g149) rfl ?_
       refine o_alloc rfl Try.zeroValue3 ?_; intro b151 hb151
       refine o_alloc rfl Try.zeroValue3 ?_; intro b152 hb152
       refine o_store (i := 1) Try.sizeOf3 rfl rfl rfl rfl (Nat.le_of_ble_eq_true rfl) ?_
       refine shO_L (L' := (b152, .cells #[.int .i64 0] 3 (0, 0)) :: ((b151, .cells #[.int .i64 0] 3 (0, 0)) :: ((b1, .cells #[.slice listens_a listens.length listens_c, .slice hours_a hours.length hours_c] 26 (0, 0)) :: ((b36, .map es37 cl38) :: (Lb45 ++ []))))) rfl ?_
       refine o_store (i := 0) Try.sizeOf3 rfl rfl rfl rfl (Nat.le_of_ble_eq_true rfl) ?_
       refine shO_L (L' := (b152, .cells #[.int .i64 (n2 - 1)] 3 (0, 0)) :: ((b151, .cells #[.int .i64 0] 3 (0, 0)) :: ((b1, .cells #[.slice listens_a listens.length listens_c, .slice hours_a hours.length hours_c] 26 (0, 0)) :: ((b36, .map es37 cl38) :: (Lb45 ++ []))))) rfl ?_
       refine shO_nil ?_
       obtain ⟨some_, all_, h153, r154⟩ := b2_ok r150; clear r150
       refine shW_join (fun e1 F1 L1 => FExt F53 F1 ∧ L1 = ((b152, .cells #[.int .i64 all_] 3 (0, 0)) :: ((b151, .cells #[.int .i64 some_] 3 (0, 0)) :: ((b1, .cells #[.slice listens_a listens.length listens_c, .slice hours_a hours.length hours_c] 26 (0, 0)) :: ((b36, .map es37 cl38) :: (Lb45 ++ []))))) ∧ e1.sub [(1, .pointer (some ⟨b1, 0, none⟩)), (4, .pointer (some ⟨b24, 0, none⟩)), (6, .slice a43 n47 c44), (8, .pointer (some ⟨b151, 0, none⟩)), (9, .pointer (some ⟨b152, 0, none⟩)), (24, .int .i64 (hours.length : Int)), (25, .int .i64 k)]) ?_ ?_
       · clear r154
         refine wsr (om rfl rfl (om rfl rfl ?_))
         obtain ⟨y, h155, r156⟩ := b1_ok h153; clear h153
         refine o_call0 rfl Try.call62 rfl rfl rfl (night_desk_fit_w hz27 h32 h35 h42 h155) ?_; rintro _ F157 _ hF158 hn159 ⟨cp161, rfl, rfl, hit162⟩
         refine shO_L (ln rfl) ?_
         refine shO_nil ?_
         refine shW_block ?_
         refine shW_rangeFunc (encs := (fun x : Int => #[.int .i64 x])) (xs := y) rfl Try.call102 rfl (fun _ => rfl) hit162 (fun pre F1 L1 => ∃ (tl3 : List Int) (some_2 : Int) (all_2 : Int), y = pre ++ tl3 ∧ night_Verdicts_l2 tl3 some_2 all_2 = some (some_, all_) ∧ L1 = ((b152, .cells #[.int .i64 all_2] 3 (0, 0)) :: ((b151, .cells #[.int .i64 some_2] 3 (0, 0)) :: ((b1, .cells #[.slice listens_a listens.length listens_c, .slice hours_a hours.length hours_c] 26 (0, 0)) :: ((b36, .map es37 cl38) :: (Lb45 ++ [])))))) (fun _ _ _ => False) ?_ ?_ ?_ ?_ ?_ ?_
         · rintro pre F1 F2 L1 ⟨tl3, some_2, all_2, hs163, r164, rfl⟩ hx; exact ⟨tl3, some_2, all_2, hs163, r164, rfl⟩
         · intro c F1 F2 L1 h hx; exact h
         · exact ⟨_, 0, n2 - 1, rfl, r156, rfl⟩
         · rintro l165 wr166 Fr167 Xr168 Ha169 Hb170 hnb171 hH175 pre x5 tl4 hxs174 F172 _ hF173 ⟨tl3, some_2, all_2, hs163, r176, rfl⟩
           obtain rfl := rest_head hs163 hxs174
           rw [night_Verdicts_l2] at r176
           refine shW_env [(1, .pointer (some ⟨b1, 0, none⟩)), (4, .pointer (some ⟨b24, 0, none⟩)), (6, .slice a43 n47 c44), (8, .pointer (some ⟨b151, 0, none⟩)), (9, .pointer (some ⟨b152, 0, none⟩)), (24, .int .i64 (hours.length : Int)), (25, .int .i64 k), (62, .func (.func 102) #[] cp161), (63, .int .i64 x5)] (by exact (sc rfl (sc rfl (sc rfl (sc rfl (sc rfl (sc rfl (sc rfl (sc rfl (sc rfl (sn _))))))))))) ?_
           refine shW_region (oa rfl rfl (shO_nil ?_))
           refine ⟨rfl, ?_⟩
           refine shW_block ?_
           refine shW_drawM [(.still, 0), (.still, 1), (.still, 2), (.still, 3), (.still, 4), (.still, 5), (.seq, 6), (.seq, 7)] (by kernel_rfl) (by kernel_rfl) (trivial) (by rfl) (by kernel_rfl) ?_
           refine shM_v (v := .int .i64 some_2) (ek := [(8, .pointer (some ⟨b151, 0, none⟩))]) (Ls := [(b151, .cells #[.int .i64 some_2] 3 (0, 0))]) rfl rfl rfl rfl ((sc rfl (sn _))) (by kernel_rfl) (s0 (s1 (s2 (s1 (s1 (s3 sr)))))) (fun H F' L' hF' hL' => v_load Try.isAgg3 rfl ((Has.own 0 rfl).ext hF' hL') rfl) ?_
           refine shM_v (v := .int .i64 x5) (ek := [(10, .int .i64 x5)]) (Ls := []) rfl rfl rfl rfl ((sc rfl (sn _))) (by kernel_rfl) sm (fun H F' L' hF' hL' => v_move rfl) ?_
           refine shM_v (v := .int .i64 (bor some_2 x5)) (ek := [(64, .int .i64 some_2), (65, .int .i64 x5)]) (Ls := []) rfl rfl rfl rfl ((sc rfl (sc rfl (sn _)))) (by kernel_rfl) sm (fun H F' L' hF' hL' => v_or rfl rfl) ?_
           refine shM_v (v := .int .i64 all_2) (ek := [(9, .pointer (some ⟨b152, 0, none⟩))]) (Ls := [(b152, .cells #[.int .i64 all_2] 3 (0, 0))]) rfl rfl rfl rfl ((sc rfl (sn _))) (by kernel_rfl) (s0 (s2 (s1 (s1 (s1 (s3 sr)))))) (fun H F' L' hF' hL' => v_load Try.isAgg3 rfl ((Has.own 0 rfl).ext hF' hL') rfl) ?_
           refine shM_v (v := .int .i64 x5) (ek := [(10, .int .i64 x5)]) (Ls := []) rfl rfl rfl rfl ((sc rfl (sn _))) (by kernel_rfl) sm (fun H F' L' hF' hL' => v_move rfl) ?_
           refine shM_v (v := .int .i64 (band all_2 x5)) (ek := [(67, .int .i64 all_2), (68, .int .i64 x5)]) (Ls := []) rfl rfl rfl rfl ((sc rfl (sc rfl (sn _)))) (by kernel_rfl) sm (fun H F' L' hF' hL' => v_and rfl rfl) ?_
           refine ⟨_, [(8, .pointer (some ⟨b151, 0, none⟩)), (66, .int .i64 (bor some_2 x5))], rfl, rfl, (sc rfl (sc rfl (sn _))), by kernel_rfl, ?_⟩; intro H
           refine o_store (i := 1) Try.sizeOf3 rfl rfl rfl rfl (Nat.le_of_ble_eq_true rfl) ?_
           refine shO_L (L' := (b152, .cells #[.int .i64 all_2] 3 (0, 0)) :: ((b151, .cells #[.int .i64 (bor some_2 x5)] 3 (0, 0)) :: ((b1, .cells #[.slice listens_a listens.length listens_c, .slice hours_a hours.length hours_c] 26 (0, 0)) :: ((b36, .map es37 cl38) :: (Lb45 ++ []))))) rfl ?_
           refine shO_nil ⟨undef, rfl, FExt.refl _, [5, 4, 3], by kernel_rfl, .inl (.inr (fun d h => by cases h)), (List.forall_mem_cons.2 ⟨sm, (List.forall_mem_cons.2 ⟨sm, (List.forall_mem_cons.2 ⟨s0 (s2 (s1 (s1 (s1 (s3 sr))))), (fun _ h => absurd h List.not_mem_nil)⟩)⟩)⟩), ?_⟩
           refine ⟨_, [(9, .pointer (some ⟨b152, 0, none⟩)), (69, .int .i64 (band all_2 x5))], rfl, rfl, (sc rfl (sc rfl (sn _))), by kernel_rfl, ?_⟩; intro H
           refine o_store (i := 0) Try.sizeOf3 rfl rfl rfl rfl (Nat.le_of_ble_eq_true rfl) ?_
           refine shO_L (L' := (b152, .cells #[.int .i64 (band all_2 x5)] 3 (0, 0)) :: ((b151, .cells #[.int .i64 (bor some_2 x5)] 3 (0, 0)) :: ((b1, .cells #[.slice listens_a listens.length listens_c, .slice hours_a hours.length hours_c] 26 (0, 0)) :: ((b36, .map es37 cl38) :: (Lb45 ++ []))))) rfl ?_
           refine shO_nil ⟨undef, rfl, FExt.refl _, [], by kernel_rfl, .inl (.inl rfl), (fun _ h => absurd h List.not_mem_nil), ?_⟩
           refine shM_nil ?_
           refine inBlock_n (id := 3) ?_
           refine ⟨(b152, .cells #[.int .i64 (band all_2 x5)] 3 (0, 0)) :: ((b151, .cells #[.int .i64 (bor some_2 x5)] 3 (0, 0)) :: ((b1, .cells #[.slice listens_a listens.length listens_c, .slice hours_a hours.length hours_c] 26 (0, 0)) :: ((b36, .map es37 cl38) :: (Lb45 ++ [])))), sr, ?_⟩; exact ⟨_, bor some_2 x5, band all_2 x5, (by rw [hxs174]; simp), r176, rfl⟩
         · rintro F177 _ hF178 ⟨tl3, some_2, all_2, hs163, r179, rfl⟩
           obtain rfl := rest_nil hs163; rw [night_Verdicts_l2] at r179
           refine inBlock_n (id := 2) ?_
           obtain ⟨rfl, rfl⟩ := inj2 r179
           exact mi kr ⟨(hF158.trans hF178), rfl, (sc rfl (sc rfl (sc rfl (sc rfl (sc rfl (sc rfl (sc rfl (sn _))))))))⟩
         intro c F1 L1 hx h; exact h.elim
       rintro e1 F181 _ ⟨hF182, rfl, he180⟩
       refine shW_env _ he180 ?_; clear he180
       replace h_listens := h_listens.mono (slE_ok (iE_ok _)) hF182
       replace hz46 := hz46.mono (slE_ok (iE_ok _)) hF182
       refine wsr (oa rfl rfl (shO_nil ?_))
       obtain ⟨l2, h189, r190⟩ := b1_ok r154; clear r154
       refine shW_join (fun e1 F1 L1 => ∃ (a183 : Option Addr) (n187 : Nat) (c184 : Nat) (Lb185 : LH), F181 = F1 ∧ L1 = ((b1, .cells #[.slice listens_a listens.length listens_c, .slice hours_a hours.length hours_c] 26 (0, 0)) :: ((b36, .map es37 cl38) :: (Lb45 ++ (Lb185 ++ [])))) ∧ e1.sub [(1, .pointer (some ⟨b1, 0, none⟩)), (4, .pointer (some ⟨b24, 0, none⟩)), (6, .slice a43 n47 c44), (11, .slice a183 n187 c184), (24, .int .i64 (hours.length : Int)), (25, .int .i64 k)] ∧ SlR K.w0.heap.size 81 1 (iE .i64) F1 a183 n187 c184 l2 Lb185) ?_ ?_
       · clear r190
         refine wsr ?_
         refine ov (v_fieldAddr fa_26_0 rfl) rfl ?_
         refine ov (v_load Try.isAgg23 rfl (Has.own 2 rfl) rfl) rfl ?_
         refine ov (v_lenS Try.underlying23 rfl) rfl ?_
         refine om rfl rfl (shO_nil ?_)
         refine shW_block ?_
         refine shW_lp (fun fu3 e1 F1 L1 => ∃ (tl5 : List (List Int)) (k3 : Int), tl5.length = fu3 ∧ Lst listens k3 tl5 ∧ ∃ (l3 : List Int) (a191 : Option Addr) (n195 : Nat) (c192 : Nat) (Lb193 : LH), night_Verdicts_l3 some_ all_ tl5 k3 l3 = some l2 ∧ F181 = F1 ∧ L1 = ((b152, .cells #[.int .i64 all_] 3 (0, 0)) :: ((b151, .cells #[.int .i64 some_] 3 (0, 0)) :: ((b1, .cells #[.slice listens_a listens.length listens_c, .slice hours_a hours.length hours_c] 26 (0, 0)) :: ((b36, .map es37 cl38) :: (Lb45 ++ (Lb193 ++ [])))))) ∧ e1.sub [(1, .pointer (some ⟨b1, 0, none⟩)), (4, .pointer (some ⟨b24, 0, none⟩)), (6, .slice a43 n47 c44), (8, .pointer (some ⟨b151, 0, none⟩)), (9, .pointer (some ⟨b152, 0, none⟩)), (11, .slice a191 n195 c192), (24, .int .i64 (hours.length : Int)), (25, .int .i64 k), (72, .int .i64 (listens.length : Int)), (73, .int .i64 k3)] ∧ SlR K.w0.heap.size 81 1 (iE .i64) F1 a191 n195 c192 l3 Lb193) _ (m0 (kc (kc (kc (kc (ka (ke kr)))))) ⟨_, _, rfl, Lst.start _, [], none, 0, 0, [], h189, rfl, rfl, (sc rfl (sc rfl (sc rfl (sc rfl (sc rfl (sc rfl (sc rfl (sc rfl (sc rfl (sc rfl (sn _))))))))))), SlR.nil _ _ _ _ _⟩) ?_
         rintro fu3 e1 _ _ ⟨tl5, k3, hn198, hk197, l3, a191, n195, c192, Lb193, r199, rfl, rfl, he200, hz194⟩
         refine shW_env _ he200 ?_; clear he200
         refine wsr ?_
         refine ov (v_lssK rfl rfl) rfl ?_
         refine shO_nil (shW_seq ?_)
         refine shW_condP rfl (fun c202 => ?_) (fun c202 => ?_)
         · obtain ⟨x6, tl6, rfl, hx204, g205, hk203⟩ := Lst.succ hk197 c202
           rw [night_Verdicts_l3] at r199
           refine shW_skip (shW_seq ?_)
           refine shW_block ?_
           refine wsr (om rfl rfl (oa rfl rfl (nsr (oa rfl rfl (shO_nil ?_)))))
           obtain ⟨v, h206, r207⟩ := b1_ok r199; clear r199
           refine shW_join (fun e1 F1 L1 => F181 = F1 ∧ L1 = ((b152, .cells #[.int .i64 all_] 3 (0, 0)) :: ((b151, .cells #[.int .i64 some_] 3 (0, 0)) :: ((b1, .cells #[.slice listens_a listens.length listens_c, .slice hours_a hours.length hours_c] 26 (0, 0)) :: ((b36, .map es37 cl38) :: (Lb45 ++ (Lb193 ++ [])))))) ∧ e1.sub [(1, .pointer (some ⟨b1, 0, none⟩)), (4, .pointer (some ⟨b24, 0, none⟩)), (6, .slice a43 n47 c44), (8, .pointer (some ⟨b151, 0, none⟩)), (9, .pointer (some ⟨b152, 0, none⟩)), (11, .slice a191 n195 c192), (12, .int .i64 k3), (13, .int .i64 v), (24, .int .i64 (hours.length : Int)), (25, .int .i64 k), (72, .int .i64 (listens.length : Int)), (73, .int .i64 k3)]) ?_ ?_
           · clear r207
             refine wsr ?_
             refine ov (v_load Try.isAgg3 rfl (Has.own 0 rfl) rfl) rfl ?_
             refine om rfl rfl ?_
             obtain ⟨g208, r209⟩ := gd_ok h206; clear h206
             refine ov (v_shr rfl rfl g208) rfl ?_
             refine ov (v_and rfl rfl) rfl ?_
             refine ov (v_eql rfl rfl) rfl ?_
             refine shO_nil ?_
             refine shW_condP rfl (fun c210 => ?_) (fun c210 => ?_)
             · have r211 := ite_t r209 c210; clear r209
               refine shW_region (oa rfl rfl (shO_nil ?_))
               obtain rfl := inj1 r211
               exact mi kr ⟨rfl, rfl, (sc rfl (sc rfl (sc rfl (sc rfl (sc rfl (sc rfl (sc rfl (sc rfl (sc rfl (sc rfl (sc rfl (sc rfl (sn _)))))))))))))⟩
             have r212 := ite_f r209 c210; clear r209
             refine shW_skip ?_
             obtain rfl := inj1 r212
             exact mi kr ⟨rfl, rfl, (sc rfl (sc rfl (sc rfl (sc rfl (sc rfl (sc rfl (sc rfl (sc rfl (sc rfl (sc rfl (sc rfl (sc rfl (sn _)))))))))))))⟩
           rintro e1 _ _ ⟨rfl, rfl, he213⟩
           refine shW_env _ he213 ?_; clear he213
           obtain ⟨v2, h214, r215⟩ := b1_ok r207; clear r207
           refine shW_join (fun e1 F1 L1 => F181 = F1 ∧ L1 = ((b152, .cells #[.int .i64 all_] 3 (0, 0)) :: ((b151, .cells #[.int .i64 some_] 3 (0, 0)) :: ((b1, .cells #[.slice listens_a listens.length listens_c, .slice hours_a hours.length hours_c] 26 (0, 0)) :: ((b36, .map es37 cl38) :: (Lb45 ++ (Lb193 ++ [])))))) ∧ e1.sub [(1, .pointer (some ⟨b1, 0, none⟩)), (4, .pointer (some ⟨b24, 0, none⟩)), (6, .slice a43 n47 c44), (8, .pointer (some ⟨b151, 0, none⟩)), (9, .pointer (some ⟨b152, 0, none⟩)), (11, .slice a191 n195 c192), (13, .int .i64 v2), (24, .int .i64 (hours.length : Int)), (25, .int .i64 k), (72, .int .i64 (listens.length : Int)), (73, .int .i64 k3)]) ?_ ?_
           · clear r215
             refine wsr ?_
             refine ov (v_load Try.isAgg3 rfl (Has.own 1 rfl) rfl) rfl ?_
             refine om rfl rfl ?_
             obtain ⟨g216, r217⟩ := gd_ok h214; clear h214
             refine ov (v_shr rfl rfl g216) rfl ?_
             refine ov (v_and rfl rfl) rfl ?_
             refine ov (v_eql rfl rfl) rfl ?_
             refine shO_nil ?_
             refine shW_condP rfl (fun c218 => ?_) (fun c218 => ?_)
             · have r219 := ite_t r217 c218; clear r217
               refine shW_region (oa rfl rfl (shO_nil ?_))
               obtain rfl := inj1 r219
               exact mi kr ⟨rfl, rfl, (sc rfl (sc rfl (sc rfl (sc rfl (sc rfl (sc rfl (sc rfl (sc rfl (sc rfl (sc rfl (sc rfl (sn _))))))))))))⟩
             have r220 := ite_f r217 c218; clear r217
             refine shW_skip ?_
             obtain rfl := inj1 r220
             exact mi kr ⟨rfl, rfl, (sc rfl (sc rfl (sc rfl (sc rfl (sc rfl (sc rfl (sc rfl (sc rfl (sc rfl (sc rfl (sc rfl (sn _))))))))))))⟩
           rintro e1 _ _ ⟨rfl, rfl, he221⟩
           refine shW_env _ he221 ?_; clear he221
           refine shW_region (om rfl rfl (om rfl rfl ?_))
           refine o_buildSlice (cs := #[.int .i64 v2]) rfl rfl (buildSlice_all slt_80 [.int .i64 v2] rfl (by decide) (by simp [Value.cells]) (by decide)) ?_; intro b222 hb222
           obtain ⟨l4, h223, g224, r225⟩ := ap_ok r215; clear r215
           refine o_appZ (xs := l3) (ys := [v2]) (zs := l4) rfl slt_80 rfl rfl (Nat.le_refl _) (fun _ => .c (.c (.c (.c (.c (.s .h)))))) hz194 (SrcR.box (vss := [[.int .i64 v2]]) (ys := [v2]) 0 rfl (iE_ok _) (.cons rfl .nil) rfl rfl) h223 g224 (by decide) ?_; intro a226 n230 c227 Lb228 hz229
           refine kO (kd kr) ?_
           refine oa rfl rfl (shO_nil (inBlock_n (id := 5) (shW_region ?_)))
           refine ov (v_add rfl rfl (Lst.r64 hk197 c202 (RowR.lt h_listens))) rfl ?_
           refine om rfl rfl (shO_nil ?_)
           subst hn198; exact le kr ⟨_, _, rfl, hk203, l4, a226, n230, c227, Lb228, r225, rfl, rfl, (sc rfl (sc rfl (sc rfl (sc rfl (sc rfl (sc rfl (sc rfl (sc rfl (sc rfl (sc rfl (sn _))))))))))), hz229⟩
         obtain rfl := Lst.zero hk197 c202
         rw [night_Verdicts_l3] at r199
         refine shW_exit (andThen_exit (andThen_exit ?_))
         refine inBlock_exit ?_
         obtain rfl := inj1 r199
         exact mi (kd (kd kr)) ⟨a191, n195, c192, Lb193, rfl, rfl, (sc rfl (sc rfl (sc rfl (sc rfl (sc rfl (sc rfl (sn _))))))), hz194⟩
       rintro e1 _ _ ⟨a183, n187, c184, Lb185, rfl, rfl, he232, hz186⟩
       refine shW_env _ he232 ?_; clear he232
       refine shW_region (om rfl rfl (om rfl rfl ?_))
       refine o_buildSlice (cs := #[.slice a183 n187 c184]) rfl rfl (buildSlice_all slt_71 [.slice a183 n187 c184] rfl (by decide) (by simp [Value.cells]) (by decide)) ?_; intro b233 hb233
       obtain rfl := (SlR.caps hz186).1
       refine shO_freezeR (Nat.le_refl _) (iE_ok _) (fC (fC (fC (fS fP)))) hz186 ?_; intro F234 hF235 h236
       replace hz46 := hz46.mono (slE_ok (iE_ok _)) hF235
       obtain ⟨out5, h237, g238, r239⟩ := ap_ok r190; clear r190
       refine o_appZ (xs := out2) (ys := [l2]) (zs := out5) rfl slt_71 rfl rfl (Nat.le_refl _) (fun _ => .c (.c (.c .h))) hz46 (SrcR.box (vss := [[.slice a183 l2.length c184]]) (ys := [l2]) 0 rfl (slE_ok (iE_ok _)) (.cons ⟨_, _, rfl, h236⟩ .nil) rfl rfl) h237 g238 (by decide) ?_; intro a240 n244 c241 Lb242 hz243
       refine kO (kd kr) ?_
       refine oa rfl rfl (shO_nil (inBlock_n (id := 1) ?_))
       obtain rfl := inj1 r239
       exact mi kr ⟨a240, n244, c241, Lb242, (hF182.trans hF235), rfl, (sc rfl (sc rfl (sc rfl (sc rfl (sc rfl (sn _)))))), hz243⟩
     rintro e1 F247 _ ⟨a60, n64, c61, Lb62, hF248, rfl, he246, hz63⟩
     refine shW_env _ he246 ?_; clear he246
     replace h_hours := h_hours.mono (slE_ok (iE_ok _)) hF248
     refine shW_region ?_
     refine ov (v_add rfl rfl (Lst.r64 hk49 c56 (RowR.lt h_hours))) rfl ?_
     refine om rfl rfl (shO_nil ?_)
     subst hn50; exact le kr ⟨_, _, rfl, hk57, out3, a60, n64, c61, Lb62, r67, (hF54.trans hF248), rfl, (sc rfl (sc rfl (sc rfl (sc rfl (sc rfl (sn _)))))), hz63⟩
   obtain rfl := Lst.zero hk49 c56
   rw [night_Verdicts_l1] at r51
   refine shW_exit (andThen_exit (andThen_exit ?_))
   refine inBlock_exit ?_
   obtain rfl := inj1 r51
   exact mi (kd (kd kr)) ⟨a43, n47, c44, Lb45, hF54, rfl, (sc rfl (sn _)), hz46⟩
 rintro e1 F250 _ ⟨a14, n18, c15, Lb16, hF251, rfl, he249, hz17⟩
 refine shW_env _ he249 ?_; clear he249
 refine wsr (om rfl rfl (oa rfl rfl (oa rfl rfl (shO_nil (shW_ret ?_)))))
 refine q_res2 Try.results36 (res_tmp rfl) (res_tmp rfl) (sr) ?_
 obtain ⟨rfl, rfl⟩ := inj2 r21
 exact ⟨_, _, _, _, rfl, rfl, hz17.any⟩
set_option maxHeartbeats 1000000 in
theorem oyezlaw05_Four_w {F : FS} {r : List (List Int)} {r2 : List (List Int)} (hr : oyezlaw05_Four = some (r, r2)) :
    SH.Spec Try.prog 69 #[] F [] fun F' L' v => ∃ (ra : Option Addr) (rn : Nat) (rc : Nat) (rL : LH) (r2a : Option Addr) (r2n : Nat) (r2c : Nat) (r2L : LH), v = .agg #[.slice ra rn rc, .slice r2a r2n r2c] ∧ L' = rL ++ (r2L ++ []) ∧ SlR 0 27 1 (slE 1 (iE .i64)) F' ra rn rc r rL ∧ SlR 0 40 1 (slE 1 (iE .i64)) F' r2a r2n r2c r2 r2L := by
 refine spec_of_shW (args := []) Try.func69 rfl Try.ntmps69 (Nat.le_of_ble_eq_true rfl) ?_
 intro K _ _; rw [oyezlaw05_Four] at hr
 refine wsr ?_
 refine o_alloc rfl Try.zeroValue26 ?_; intro b1 hb1
 refine nsr ?_
 refine o_buildSlice (cs := #[.int .i64 0]) rfl rfl (buildSlice_all slt_27 [.int .i64 0] rfl (by decide) (by simp [Value.cells]) (by decide)) ?_; intro b2 hb2
 refine o_buildSlice (cs := #[.int .i64 1]) rfl rfl (buildSlice_all slt_27 [.int .i64 1] rfl (by decide) (by simp [Value.cells]) (by decide)) ?_; intro b3 hb3
 refine o_buildSlice (cs := #[.int .i64 0, .int .i64 2]) rfl rfl (buildSlice_all slt_27 [.int .i64 0, .int .i64 2] rfl (by decide) (by simp [Value.cells]) (by decide)) ?_; intro b4 hb4
 refine o_buildSlice (cs := #[.slice none 0 0, .slice (some ⟨b2, 0, none⟩) 1 1, .slice (some ⟨b3, 0, none⟩) 1 1, .slice (some ⟨b4, 0, none⟩) 2 2]) rfl rfl (buildSlice_all slt_23 [.slice none 0 0, .slice (some ⟨b2, 0, none⟩) 1 1, .slice (some ⟨b3, 0, none⟩) 1 1, .slice (some ⟨b4, 0, none⟩) 2 2] rfl (by decide) (by simp [Value.cells]) (by decide)) ?_; intro b5 hb5
 refine o_buildSlice (cs := #[.int .i64 0, .int .i64 0, .int .i64 2, .int .i64 1]) rfl rfl (buildSlice_all slt_40 [.int .i64 0, .int .i64 0, .int .i64 2, .int .i64 1] rfl (by decide) (by simp [Value.cells]) (by decide)) ?_; intro b6 hb6
 refine o_buildSlice (cs := #[.int .i64 0, .int .i64 0, .int .i64 2, .int .i64 0]) rfl rfl (buildSlice_all slt_40 [.int .i64 0, .int .i64 0, .int .i64 2, .int .i64 0] rfl (by decide) (by simp [Value.cells]) (by decide)) ?_; intro b7 hb7
 refine o_buildSlice (cs := #[.slice (some ⟨b6, 0, none⟩) 4 4, .slice (some ⟨b7, 0, none⟩) 4 4]) rfl rfl (buildSlice_all slt_24 [.slice (some ⟨b6, 0, none⟩) 4 4, .slice (some ⟨b7, 0, none⟩) 4 4] rfl (by decide) (by simp [Value.cells]) (by decide)) ?_; intro b8 hb8
 refine ov (v_build (v := .agg #[.slice (some ⟨b5, 0, none⟩) 4 4, .slice (some ⟨b8, 0, none⟩) 2 2]) rfl (by intro w; kernel_rfl)) rfl ?_
 refine shO_freeze 6 rfl hb2 ?_; intro F9 hF10 hz11
 refine shO_L (L' := [(b8, .cells #[.slice (some ⟨b6, 0, none⟩) 4 4, .slice (some ⟨b7, 0, none⟩) 4 4] 40 (0, 0)), (b7, .cells #[.int .i64 0, .int .i64 0, .int .i64 2, .int .i64 0] 41 (0, 0)), (b6, .cells #[.int .i64 0, .int .i64 0, .int .i64 2, .int .i64 1] 41 (0, 0)), (b5, .cells #[.slice none 0 0, .slice (some ⟨b2, 0, none⟩) 1 1, .slice (some ⟨b3, 0, none⟩) 1 1, .slice (some ⟨b4, 0, none⟩) 2 2] 27 (0, 0)), (b4, .cells #[.int .i64 0, .int .i64 2] 3 (0, 0)), (b3, .cells #[.int .i64 1] 3 (0, 0)), (b1, .cells #[.slice none 0 0, .slice none 0 0] 26 (0, 0))]) rfl ?_
 have h12 : RowR 1 (iE .i64) F9 (some ⟨b2, 0, none⟩) 1 [0] := RowR.of_block (iE_ok _) (vss := [[.int .i64 0]]) (xs := [0]) hz11 (.cons rfl .nil) rfl (by simp [maxLen])
 refine shO_freeze 5 rfl hb3 ?_; intro F13 hF14 hz15
 refine shO_L (L' := [(b8, .cells #[.slice (some ⟨b6, 0, none⟩) 4 4, .slice (some ⟨b7, 0, none⟩) 4 4] 40 (0, 0)), (b7, .cells #[.int .i64 0, .int .i64 0, .int .i64 2, .int .i64 0] 41 (0, 0)), (b6, .cells #[.int .i64 0, .int .i64 0, .int .i64 2, .int .i64 1] 41 (0, 0)), (b5, .cells (#[.slice none 0 0, .slice (some ⟨b2, 0, none⟩) [0].length 1, .slice (some ⟨b3, 0, none⟩) 1 1, .slice (some ⟨b4, 0, none⟩) 2 2]) 27 (0, 0)), (b4, .cells #[.int .i64 0, .int .i64 2] 3 (0, 0)), (b1, .cells #[.slice none 0 0, .slice none 0 0] 26 (0, 0))]) rfl ?_
 replace h12 := h12.mono (iE_ok _) hF14
 have h16 : RowR 1 (iE .i64) F13 (some ⟨b3, 0, none⟩) 1 [1] := RowR.of_block (iE_ok _) (vss := [[.int .i64 1]]) (xs := [1]) hz15 (.cons rfl .nil) rfl (by simp [maxLen])
 refine shO_freeze 4 rfl hb4 ?_; intro F17 hF18 hz19
 refine shO_L (L' := [(b8, .cells #[.slice (some ⟨b6, 0, none⟩) 4 4, .slice (some ⟨b7, 0, none⟩) 4 4] 40 (0, 0)), (b7, .cells #[.int .i64 0, .int .i64 0, .int .i64 2, .int .i64 0] 41 (0, 0)), (b6, .cells #[.int .i64 0, .int .i64 0, .int .i64 2, .int .i64 1] 41 (0, 0)), (b5, .cells (#[.slice none 0 0, .slice (some ⟨b2, 0, none⟩) [0].length 1, .slice (some ⟨b3, 0, none⟩) [1].length 1, .slice (some ⟨b4, 0, none⟩) 2 2]) 27 (0, 0)), (b1, .cells #[.slice none 0 0, .slice none 0 0] 26 (0, 0))]) rfl ?_
 replace h12 := h12.mono (iE_ok _) hF18
 replace h16 := h16.mono (iE_ok _) hF18
 have h20 : RowR 1 (iE .i64) F17 (some ⟨b4, 0, none⟩) 2 [0, 2] := RowR.of_block (iE_ok _) (vss := [[.int .i64 0], [.int .i64 2]]) (xs := [0, 2]) hz19 (.cons rfl (.cons rfl .nil)) rfl (by simp [maxLen])
 have hz22 : SlR K.w0.heap.size 27 1 (slE 1 (iE .i64)) F17 (some ⟨b5, 0, none⟩) 4 4 [[], [0], [1], [0, 2]] [(b5, .cells (#[.slice none 0 0, .slice (some ⟨b2, 0, none⟩) [0].length 1, .slice (some ⟨b3, 0, none⟩) [1].length 1, .slice (some ⟨b4, 0, none⟩) [0, 2].length 2]) 27 (0, 0))] := SlR.of_block (vss := [[.slice none 0 0], [.slice (some ⟨b2, 0, none⟩) [0].length 1], [.slice (some ⟨b3, 0, none⟩) [1].length 1], [.slice (some ⟨b4, 0, none⟩) [0, 2].length 2]]) (slE_ok (iE_ok _)) hb5 (.cons ⟨_, _, rfl, RowR.nil _ _ _⟩ (.cons ⟨_, _, rfl, h12⟩ (.cons ⟨_, _, rfl, h16⟩ (.cons ⟨_, _, rfl, h20⟩ .nil)))) rfl rfl (by simp [maxLen])
 generalize hLLb21 : ([(b5, .cells (#[.slice none 0 0, .slice (some ⟨b2, 0, none⟩) [0].length 1, .slice (some ⟨b3, 0, none⟩) [1].length 1, .slice (some ⟨b4, 0, none⟩) [0, 2].length 2]) 27 (0, 0))] : LH) = Lb21 at hz22
 refine shO_perm (L' := Lb21 ++ [(b8, .cells #[.slice (some ⟨b6, 0, none⟩) 4 4, .slice (some ⟨b7, 0, none⟩) 4 4] 40 (0, 0)), (b7, .cells #[.int .i64 0, .int .i64 0, .int .i64 2, .int .i64 0] 41 (0, 0)), (b6, .cells #[.int .i64 0, .int .i64 0, .int .i64 2, .int .i64 1] 41 (0, 0)), (b1, .cells #[.slice none 0 0, .slice none 0 0] 26 (0, 0))]) (by rw [← hLLb21]; exact (fC (fC (fC fO)))) ?_
 refine shO_perm (L' := (b8, .cells #[.slice (some ⟨b6, 0, none⟩) 4 4, .slice (some ⟨b7, 0, none⟩) 4 4] 40 (0, 0)) :: ((b7, .cells #[.int .i64 0, .int .i64 0, .int .i64 2, .int .i64 0] 41 (0, 0)) :: ((b6, .cells #[.int .i64 0, .int .i64 0, .int .i64 2, .int .i64 1] 41 (0, 0)) :: ((b1, .cells #[.slice none 0 0, .slice none 0 0] 26 (0, 0)) :: (Lb21 ++ []))))) (List.Perm.symm (fC (fC (fC (fC fP))))) ?_
 refine shO_freeze 2 rfl hb6 ?_; intro F24 hF25 hz26
 refine shO_L (L' := (b8, .cells #[.slice (some ⟨b6, 0, none⟩) 4 4, .slice (some ⟨b7, 0, none⟩) 4 4] 40 (0, 0)) :: ((b7, .cells #[.int .i64 0, .int .i64 0, .int .i64 2, .int .i64 0] 41 (0, 0)) :: ((b1, .cells #[.slice none 0 0, .slice none 0 0] 26 (0, 0)) :: (Lb21 ++ [])))) rfl ?_
 replace hz22 := hz22.mono (slE_ok (iE_ok _)) hF25
 have h27 : RowR 1 (iE .i64) F24 (some ⟨b6, 0, none⟩) 4 [0, 0, 2, 1] := RowR.of_block (iE_ok _) (vss := [[.int .i64 0], [.int .i64 0], [.int .i64 2], [.int .i64 1]]) (xs := [0, 0, 2, 1]) hz26 (.cons rfl (.cons rfl (.cons rfl (.cons rfl .nil)))) rfl (by simp [maxLen])
 refine shO_freeze 1 rfl hb7 ?_; intro F28 hF29 hz30
 refine shO_L (L' := (b8, .cells (#[.slice (some ⟨b6, 0, none⟩) [0, 0, 2, 1].length 4, .slice (some ⟨b7, 0, none⟩) 4 4]) 40 (0, 0)) :: ((b1, .cells #[.slice none 0 0, .slice none 0 0] 26 (0, 0)) :: (Lb21 ++ []))) rfl ?_
 replace h27 := h27.mono (iE_ok _) hF29
 replace hz22 := hz22.mono (slE_ok (iE_ok _)) hF29
 have h31 : RowR 1 (iE .i64) F28 (some ⟨b7, 0, none⟩) 4 [0, 0, 2, 0] := RowR.of_block (iE_ok _) (vss := [[.int .i64 0], [.int .i64 0], [.int .i64 2], [.int .i64 0]]) (xs := [0, 0, 2, 0]) hz30 (.cons rfl (.cons rfl (.cons rfl (.cons rfl .nil)))) rfl (by simp [maxLen])
 have hz33 : SlR K.w0.heap.size 40 1 (slE 1 (iE .i64)) F28 (some ⟨b8, 0, none⟩) 2 2 [[0, 0, 2, 1], [0, 0, 2, 0]] [(b8, .cells (#[.slice (some ⟨b6, 0, none⟩) [0, 0, 2, 1].length 4, .slice (some ⟨b7, 0, none⟩) [0, 0, 2, 0].length 4]) 40 (0, 0))] := SlR.of_block (vss := [[.slice (some ⟨b6, 0, none⟩) [0, 0, 2, 1].length 4], [.slice (some ⟨b7, 0, none⟩) [0, 0, 2, 0].length 4]]) (slE_ok (iE_ok _)) hb8 (.cons ⟨_, _, rfl, h27⟩ (.cons ⟨_, _, rfl, h31⟩ .nil)) rfl rfl (by simp [maxLen])
 generalize hLLb32 : ([(b8, .cells (#[.slice (some ⟨b6, 0, none⟩) [0, 0, 2, 1].length 4, .slice (some ⟨b7, 0, none⟩) [0, 0, 2, 0].length 4]) 40 (0, 0))] : LH) = Lb32 at hz33
 refine shO_perm (L' := Lb32 ++ ((b1, .cells #[.slice none 0 0, .slice none 0 0] 26 (0, 0)) :: (Lb21 ++ []))) (by rw [← hLLb32]; exact fO) ?_
 refine shO_perm (L' := (b1, .cells #[.slice none 0 0, .slice none 0 0] 26 (0, 0)) :: (Lb32 ++ (Lb21 ++ []))) (List.Perm.symm (fC fP)) ?_
 refine o_storeA (i := 0) Try.sizeOf26 rfl rfl rfl (by simp [Value.oneCell']) rfl (Nat.le_of_ble_eq_true rfl) ?_
 refine shO_L (L' := (b1, .cells #[.slice (some ⟨b5, 0, none⟩) 4 4, .slice (some ⟨b8, 0, none⟩) 2 2] 26 (0, 0)) :: (Lb32 ++ (Lb21 ++ []))) rfl ?_
 refine shO_nil ?_
 refine kW (kc (kg (fS fP) kr)) ?_
 refine shW_ret ?_
 refine q_res1 Try.results69 (res_cellA (cs := #[.slice (some ⟨b5, 0, none⟩) 4 4, .slice (some ⟨b8, 0, none⟩) 2 2]) Try.isAgg26 Try.sizeOf26 rfl (Has.own 0 rfl) (Nat.le_of_ble_eq_true rfl) rfl) (s1 (s4 (s4 sr))) ?_
 obtain ⟨rfl, rfl⟩ := inj2 hr
 exact ⟨_, _, _, _, _, _, _, _, rfl, rfl, hz22.any, hz33.any⟩
set_option maxHeartbeats 1000000 in
theorem slices_Equal_night_Verdict_night_Verdict_w {s1_a : Option Addr} {s1_c : Nat} {s1 : List Int} {s2_a : Option Addr} {s2_c : Nat} {s2 : List Int} {F : FS} (h_s1 : RowR 1 (iE .i64) F s1_a s1_c s1) (h_s2 : RowR 1 (iE .i64) F s2_a s2_c s2) {r : Bool} (hr : slices_Equal_night_Verdict_night_Verdict s1 s2 = some r) :
    SpecV Try.prog 104 #[.slice s1_a s1.length s1_c, .slice s2_a s2.length s2_c] F (.bool r) := by
 refine spec_of_shW (args := [.slice s1_a s1.length s1_c, .slice s2_a s2.length s2_c]) Try.func104 rfl Try.ntmps104 (Nat.le_of_ble_eq_true rfl) ?_
 intro K _ _; rw [slices_Equal_night_Verdict_night_Verdict] at hr
 refine wsr (oa rfl rfl (shO_nil (shW_seq (wsr (om rfl rfl ?_)))))
 refine ov (v_lenS Try.underlying80 rfl) rfl ?_
 refine om rfl rfl ?_
 refine ov (v_lenS Try.underlying80 rfl) rfl ?_
 refine ov (v_neq rfl rfl) rfl ?_
 refine shO_nil ?_
 refine shW_condP rfl (fun c1 => ?_) (fun c1 => ?_)
 · have r2 := ite_t hr c1; clear hr
   refine wsr (oa rfl rfl (shO_nil (shW_ret (andThen_ret ?_))))
   refine q_res1 Try.results104 (res_tmp rfl) (sr) ?_
   obtain rfl := inj1 r2
   exact rfl
 have r3 := ite_f hr c1; clear hr
 refine shW_skip ?_
 refine shW_join (fun e1 F1 L1 => slices_Equal_night_Verdict_night_Verdict_j1 = some r ∧ F = F1 ∧ L1 = [] ∧ e1.sub []) ?_ ?_
 · refine wsr (om rfl rfl ?_)
   refine ov (v_lenS Try.underlying80 rfl) rfl ?_
   refine om rfl rfl (shO_nil ?_)
   refine shW_block ?_
   refine shW_lp (fun fu2 e1 F1 L1 => ∃ (tl : List Int) (k : Int), tl.length = fu2 ∧ Lst s1 k tl ∧ slices_Equal_night_Verdict_night_Verdict_l2 s2 tl k = some r ∧ F = F1 ∧ L1 = [] ∧ e1.sub [(0, .slice s1_a s1.length s1_c), (1, .slice s2_a s2.length s2_c), (12, .int .i64 (s1.length : Int)), (13, .int .i64 k)]) _ (m0 kr ⟨_, _, rfl, Lst.start _, r3, rfl, rfl, (sc rfl (sc rfl (sc rfl (sc rfl (sn _)))))⟩) ?_
   rintro fu2 e1 _ _ ⟨tl, k, hn5, hk4, r6, rfl, rfl, he7⟩
   refine shW_env _ he7 ?_; clear he7
   refine wsr ?_
   refine ov (v_lssK rfl rfl) rfl ?_
   refine shO_nil (shW_seq ?_)
   refine shW_condP rfl (fun c9 => ?_) (fun c9 => ?_)
   · obtain ⟨x, tl2, rfl, hx11, g12, hk10⟩ := Lst.succ hk4 c9
     rw [slices_Equal_night_Verdict_night_Verdict_l2] at r6
     refine shW_skip (shW_seq ?_)
     refine shW_block ?_
     refine wsr (om rfl rfl (oa rfl rfl ?_))
     refine nsd (by kernel_rfl) (by kernel_rfl) (by kernel_rfl) ?_
     refine qm rfl rfl (qm rfl rfl ?_)
     obtain ⟨b13, o14, c15, vs16, ha17, hs18, hle19, rfl, hl20, hc21⟩ := RowR.at (iE_ok _) h_s1 ([]) g12.1 hx11
     refine qv (v_indexO Try.underlying80 Try.sizeOf81 rfl ha17 rfl g12) rfl ?_
     refine qv (v_load Try.isAgg81 rfl hs18 (hc21 0 (by decide))) rfl ?_
     refine qm rfl rfl (qm rfl rfl ?_)
     obtain ⟨x2, g22, hx23, r24⟩ := ix_ok r6; clear r6
     obtain ⟨b25, o26, c27, vs28, ha29, hs30, hle31, rfl, hl32, hc33⟩ := RowR.at (iE_ok _) h_s2 ([]) g22.1 hx23
     refine qv (v_indexO Try.underlying80 Try.sizeOf81 rfl ha29 rfl g22) rfl ?_
     refine qv (v_load Try.isAgg81 rfl hs30 (hc33 0 (by decide))) rfl ?_
     refine qv (v_neq rfl rfl) rfl ?_
     refine shQ_nil ?_
     refine shW_condP rfl (fun c34 => ?_) (fun c34 => ?_)
     · have r35 := ite_t r24 c34; clear r24
       refine wsr (oa rfl rfl (shO_nil (shW_ret (inBlock_ret (andThen_ret (andThen_ret (inBlock_ret (andThen_ret ?_))))))))
       refine q_res1 Try.results104 (res_tmp rfl) (sr) ?_
       obtain rfl := inj1 r35
       exact rfl
     have r36 := ite_f r24 c34; clear r24
     refine shW_skip (inBlock_n (id := 1) (shW_region ?_))
     refine ov (v_add rfl rfl (Lst.r64 hk4 c9 (RowR.lt h_s1))) rfl ?_
     refine om rfl rfl (shO_nil ?_)
     subst hn5; exact le kr ⟨_, _, rfl, hk10, r36, rfl, rfl, (sc rfl (sc rfl (sc rfl (sc rfl (sn _)))))⟩
   obtain rfl := Lst.zero hk4 c9
   rw [slices_Equal_night_Verdict_night_Verdict_l2] at r6
   refine shW_exit (andThen_exit (andThen_exit ?_))
   refine inBlock_exit ?_
   exact mi kr ⟨r6, rfl, rfl, (sn _)⟩
 rintro e1 _ _ ⟨r37, rfl, rfl, he38⟩
 refine shW_env _ he38 ?_; clear he38
 rw [slices_Equal_night_Verdict_night_Verdict_j1] at r37
 refine wsr (oa rfl rfl (shO_nil (shW_ret ?_)))
 refine q_res1 Try.results104 (res_tmp rfl) (sr) ?_
 obtain rfl := inj1 r37
 exact rfl
set_option maxHeartbeats 1000000 in
theorem oyezkit_Like_Verdict_w {a_a : Option Addr} {a_c : Nat} {a : List Int} {b_a : Option Addr} {b_c : Nat} {b : List Int} {F : FS} (h_a : RowR 1 (iE .i64) F a_a a_c a) (h_b : RowR 1 (iE .i64) F b_a b_c b) {r : Bool} (hr : oyezkit_Like_Verdict a b = some r) :
    SpecV Try.prog 70 #[.slice a_a a.length a_c, .slice b_a b.length b_c] F (.bool r) := by
 refine spec_of_shW (args := [.slice a_a a.length a_c, .slice b_a b.length b_c]) Try.func70 rfl Try.ntmps70 (Nat.le_of_ble_eq_true rfl) ?_
 intro K _ _; rw [oyezkit_Like_Verdict] at hr
 refine wsr (oa rfl rfl (nsr (om rfl rfl (om rfl rfl ?_))))
 obtain ⟨ok, h1, r2⟩ := b1_ok hr; clear hr
 refine o_callV rfl Try.call104 rfl rfl rfl (slices_Equal_night_Verdict_night_Verdict_w h_a h_b h1) ?_
 refine oa rfl rfl (shO_nil (shW_ret ?_))
 refine q_res1 Try.results70 (res_tmp rfl) (sr) ?_
 obtain rfl := inj1 r2
 exact rfl
end Go.Proofs.Ytjgeaaganpkceaa
