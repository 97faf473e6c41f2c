/- The walks that this claim needs, printed by a program of mine; part 2. -/
import Derived.Test.YtodhcoakjlmcdaaGreatZANA1
namespace Go.Proofs.YtodhcoakjlmcdaaGreat
open Go.SH Go.PL
set_option maxHeartbeats 1000000 in
theorem book_wrong_w {complaints_a : Option Addr} {complaints_c : Nat} {complaints : List (Int × Int × Bool)} {g : List Bool} {F : FS} (h_complaints : RowR 3 (prE (iE .i64) (prE (iE .i64) bE)) F complaints_a complaints_c complaints) (h_g : g.length = 24) {r : List Int} (hr : book_wrong complaints g = some r) :
    SH.Spec Tryz.prog 42 #[.slice complaints_a complaints.length complaints_c, .agg (arr cB g)] F [] fun F' L' v => ∃ (ra : Option Addr) (rn : Nat) (rc : Nat) (rL : LH), v = .slice ra rn rc ∧ L' = rL ++ [] ∧ SlR 0 3 1 (iE .i64) F' ra rn rc r rL := by
 refine spec_of_shW (args := [.slice complaints_a complaints.length complaints_c, .agg (arr cB g)]) Tryz.func42 rfl Tryz.ntmps42 (Nat.le_of_ble_eq_true rfl) ?_
 intro K _ _; rw [book_wrong] at hr
 refine wsr ?_
 refine o_box rfl rfl ?_; intro b1 hb1
 refine oa rfl rfl (nsr (oa rfl rfl (shO_nil ?_)))
 obtain ⟨out, h8, r9⟩ := b1_ok hr; clear hr
 refine shW_join (fun e1 F1 L1 => ∃ (a2 : Option Addr) (n6 : Nat) (c3 : Nat) (Lb4 : LH), F = F1 ∧ L1 = (Lb4 ++ []) ∧ e1.sub [(5, .slice a2 n6 c3)] ∧ SlR K.w0.heap.size 3 1 (iE .i64) F1 a2 n6 c3 out Lb4) ?_ ?_
 · clear r9
   refine wsr (om rfl rfl ?_)
   refine ov (v_lenS Tryz.underlying32 rfl) rfl ?_
   refine om rfl rfl (shO_nil ?_)
   refine shW_block ?_
   refine shW_lp (fun fu1 e1 F1 L1 => ∃ (tl : List (Int × Int × Bool)) (k : Int), tl.length = fu1 ∧ Lst complaints k tl ∧ ∃ (out2 : List Int) (a10 : Option Addr) (n14 : Nat) (c11 : Nat) (Lb12 : LH), book_wrong_l1 g tl k out2 = some out ∧ F = F1 ∧ L1 = ((b1, .cells (arr cB g) 103 (0, 0)) :: (Lb12 ++ [])) ∧ e1.sub [(3, .pointer (some ⟨b1, 0, none⟩)), (5, .slice a10 n14 c11), (8, .slice complaints_a complaints.length complaints_c), (9, .int .i64 (complaints.length : Int)), (10, .int .i64 k)] ∧ SlR K.w0.heap.size 3 1 (iE .i64) F1 a10 n14 c11 out2 Lb12) _ (m0 (kc (ke kr)) ⟨_, _, rfl, Lst.start _, [], none, 0, 0, [], h8, rfl, rfl, (sc rfl (sc rfl (sc rfl (sc rfl (sc rfl (sn _)))))), SlR.nil _ _ _ _ _⟩) ?_
   rintro fu1 e1 _ _ ⟨tl, k, hn17, hk16, out2, a10, n14, c11, Lb12, r18, rfl, rfl, he19, hz13⟩
   refine shW_env _ he19 ?_; clear he19
   refine wsr ?_
   refine ov (v_lssK rfl rfl) rfl ?_
   refine shO_nil (shW_seq ?_)
   refine shW_condP rfl (fun c21 => ?_) (fun c21 => ?_)
   · obtain ⟨x, tl2, rfl, hx23, g24, hk22⟩ := Lst.succ hk16 c21
     rw [book_wrong_l1] at r18
     refine shW_skip (shW_seq ?_)
     refine shW_block ?_
     refine wsr (om rfl rfl ?_)
     obtain ⟨b25, o26, c27, vs28, ha29, hs30, hle31, ⟨_, _, rfl, rfl, ⟨_, _, rfl, rfl, rfl⟩⟩, hl32, hc33⟩ := RowR.at (prE_ok (iE_ok _) (prE_ok (iE_ok _) bE_ok)) h_complaints ((b1, .cells (arr cB g) 103 (0, 0)) :: (Lb12 ++ [])) g24.1 hx23
     refine ov (v_indexO Tryz.underlying32 Tryz.sizeOf36 rfl ha29 rfl g24) rfl ?_
     refine ov (v_loadA (cs := #[.int .i64 x.1, .int .i64 x.2.1, .bool x.2.2]) Tryz.isAgg36 Tryz.sizeOf36 rfl hs30 hle31 (extract_cells hle31 hl32 hc33)) rfl ?_
     refine o_alloc rfl Tryz.zeroValue36 ?_; intro b34 hb34
     refine oa rfl rfl ?_
     refine o_storeA (i := 0) Tryz.sizeOf36 rfl rfl rfl (by simp [Value.oneCell']) rfl (Nat.le_of_ble_eq_true rfl) ?_
     refine shO_L (L' := (b34, .cells #[.int .i64 x.1, .int .i64 x.2.1, .bool x.2.2] 36 (0, 0)) :: ((b1, .cells (arr cB g) 103 (0, 0)) :: (Lb12 ++ []))) rfl ?_
     refine nsr ?_
     refine ov (v_loadA (cs := #[.int .i64 x.1, .int .i64 x.2.1, .bool x.2.2]) Tryz.isAgg36 Tryz.sizeOf36 rfl (Has.own 0 rfl) (Nat.le_of_ble_eq_true rfl) rfl) rfl ?_
     refine ov (v_loadW Tryz.isAgg103 Tryz.sizeOf103 rfl (Has.own 1 rfl) (arr_sz cB_ok h_g)) rfl ?_
     obtain ⟨ok, h35, r36⟩ := b1_ok r18; clear r18
     refine o_callV rfl Tryz.call47 rfl rfl rfl (book_Complaint_is_w h_g h35) ?_
     refine ov (v_notB rfl) rfl ?_
     refine shO_nil ?_
     refine shW_cond rfl (fun c37 => ?_) (fun c37 => ?_)
     · have r38 := bt r36 c37; clear r36
       refine shW_region (om rfl rfl (om rfl rfl ?_))
       refine o_buildSlice (cs := #[.int .i64 k]) rfl rfl (buildSlice_all slt_24 [.int .i64 k] rfl (by decide) (by simp [Value.cells]) (by decide)) ?_; intro b39 hb39
       obtain ⟨out3, h40, g41, r42⟩ := ap_ok r38; clear r38
       refine o_appZ (xs := out2) (ys := [k]) (zs := out3) rfl slt_24 rfl rfl (Nat.le_refl _) (fun _ => .c (.c (.c .h))) hz13 (SrcR.box (vss := [[.int .i64 k]]) (ys := [k]) 0 rfl (iE_ok _) (.cons rfl .nil) rfl rfl) h40 g41 (by decide) ?_; intro a43 n47 c44 Lb45 hz46
       refine kO (kd kr) ?_
       refine oa rfl rfl (shO_nil (inBlock_n (id := 1) (shW_region ?_)))
       refine ov (v_add rfl rfl (Lst.r64 hk16 c21 (RowR.lt h_complaints))) rfl ?_
       refine om rfl rfl (shO_nil ?_)
       subst hn17; exact le (kd kr) ⟨_, _, rfl, hk22, out3, a43, n47, c44, Lb45, r42, rfl, rfl, (sc rfl (sc rfl (sc rfl (sc rfl (sc rfl (sn _)))))), hz46⟩
     have r49 := bf r36 c37; clear r36
     refine shW_skip (inBlock_n (id := 1) (shW_region ?_))
     refine ov (v_add rfl rfl (Lst.r64 hk16 c21 (RowR.lt h_complaints))) rfl ?_
     refine om rfl rfl (shO_nil ?_)
     subst hn17; exact le (kd kr) ⟨_, _, rfl, hk22, out2, a10, n14, c11, Lb12, r49, rfl, rfl, (sc rfl (sc rfl (sc rfl (sc rfl (sc rfl (sn _)))))), hz13⟩
   obtain rfl := Lst.zero hk16 c21
   rw [book_wrong_l1] at r18
   refine shW_exit (andThen_exit (andThen_exit ?_))
   refine inBlock_exit ?_
   obtain rfl := inj1 r18
   exact mi (kd kr) ⟨a10, n14, c11, Lb12, rfl, rfl, (sc rfl (sn _)), hz13⟩
 rintro e1 _ _ ⟨a2, n6, c3, Lb4, rfl, rfl, he50, hz5⟩
 refine shW_env _ he50 ?_; clear he50
 refine wsr (om rfl rfl (oa rfl rfl (shO_nil (shW_ret ?_))))
 refine q_res1 Tryz.results42 (res_tmp rfl) (sr) ?_
 obtain rfl := inj1 r9
 exact ⟨_, _, _, _, rfl, rfl, hz5.any⟩
set_option maxHeartbeats 1000000 in
theorem book_Fewest_w {houses : Int} {notices : Int} {hears_a : Option Addr} {hears_c : Nat} {hears : List (List (List Int))} {readings_a : Option Addr} {readings_c : Nat} {readings : List Int} {cries_a : Option Addr} {cries_c : Nat} {cries : List (Int × Int × Int)} {complaints_a : Option Addr} {complaints_c : Nat} {complaints : List (Int × Int × Bool)} {F : FS} (h_hears : RowR 1 (slE 1 (slE 1 (iE .i64))) F hears_a hears_c hears) (h_readings : RowR 1 (iE .i64) F readings_a readings_c readings) (h_cries : RowR 3 (prE (iE .i64) (prE (iE .i64) (iE .i64))) F cries_a cries_c cries) (h_complaints : RowR 3 (prE (iE .i64) (prE (iE .i64) bE)) F complaints_a complaints_c complaints) {r : List Int} {r2 : Int} (hr : book_Fewest houses notices hears readings cries complaints = some (r, r2)) :
    SH.Spec Tryz.prog 10 #[.agg #[.int .i64 houses, .int .i64 notices, .slice hears_a hears.length hears_c, .slice readings_a readings.length readings_c, .slice cries_a cries.length cries_c], .slice complaints_a complaints.length complaints_c] F [] fun F' L' v => ∃ (ra : Option Addr) (rn : Nat) (rc : Nat) (rL : LH), v = .tuple #[.slice ra rn rc, .int .i64 r2] ∧ L' = rL ++ [] ∧ SlR 0 3 1 (iE .i64) F' ra rn rc r rL := by
 refine spec_of_shW (args := [.agg #[.int .i64 houses, .int .i64 notices, .slice hears_a hears.length hears_c, .slice readings_a readings.length readings_c, .slice cries_a cries.length cries_c], .slice complaints_a complaints.length complaints_c]) Tryz.func10 rfl Tryz.ntmps10 (Nat.le_of_ble_eq_true rfl) ?_
 intro K _ _; rw [book_Fewest] at hr
 refine wsr ?_
 refine o_box rfl rfl ?_; intro b1 hb1
 refine oa rfl rfl (oa rfl rfl (nsr ?_))
 refine ov (v_loadA (cs := #[.int .i64 houses, .int .i64 notices, .slice hears_a hears.length hears_c, .slice readings_a readings.length readings_c, .slice cries_a cries.length cries_c]) Tryz.isAgg27 Tryz.sizeOf27 rfl (Has.own 0 rfl) (Nat.le_of_ble_eq_true rfl) rfl) rfl ?_
 refine om rfl rfl ?_
 obtain ⟨l, n, h2, r3⟩ := b2_ok hr; clear hr
 refine o_call0 rfl Tryz.call41 rfl rfl rfl (book_heard_w h_hears h_readings h_cries h_complaints h2) ?_; rintro _ F4 _ hF5 hn6 ⟨a8, n12, c9, Lb10, rfl, rfl, hz11⟩
 replace h_complaints := h_complaints.mono (prE_ok (iE_ok _) (prE_ok (iE_ok _) bE_ok)) hF5
 replace hz11 := hz11.new fun p hp => hn6 p (by simp [hp])
 refine shO_L (lp (ln rfl)) ?_
 refine kO (kf (fS fO) kr) ?_
 refine om rfl rfl (ox rfl rfl rfl (ox rfl rfl rfl (oa rfl rfl (oa rfl rfl (shO_nil (shW_seq (wsr (om rfl rfl ?_))))))))
 refine ov (v_neq rfl rfl) rfl ?_
 refine shO_nil ?_
 refine shW_condP rfl (fun c14 => ?_) (fun c14 => ?_)
 · have r15 := ite_t r3 c14; clear r3
   refine wsr (om rfl rfl (oa rfl rfl (oa rfl rfl (shO_nil ?_))))
   refine kW kn ?_
   refine shW_ret (andThen_ret ?_)
   refine q_res2 Tryz.results10 (res_tmp rfl) (res_tmp rfl) (sr) ?_
   obtain ⟨rfl, rfl⟩ := inj2 r15
   exact ⟨_, _, _, [], rfl, rfl, SlR.nil _ _ _ _ _⟩
 have r16 := ite_f r3 c14; clear r3
 refine shW_skip (wsr (om rfl rfl (om rfl rfl ?_)))
 obtain ⟨x, g17, hx18, r19⟩ := ix_ok r16; clear r16
 obtain ⟨b20, o21, c22, vs23, ha24, hs25, hle26, ⟨_, _, rfl, ⟨rfl, h29⟩, ⟨a30, c31, rfl, h32⟩⟩, hl27, hc28⟩ := SlR.at (prE_ok (arE_ok (n := 24) (sz := 1) cB_ok) (slE_ok (iE_ok _))) hz11 (L := (b1, .cells #[.int .i64 houses, .int .i64 notices, .slice hears_a hears.length hears_c, .slice readings_a readings.length readings_c, .slice cries_a cries.length cries_c] 27 (0, 0)) :: (Lb10 ++ [])) (fC fP) g17.1 hx18
 refine ov (v_indexO Tryz.underlying97 Tryz.sizeOf105 rfl ha24 rfl (SlR.idx hz11 g17)) rfl ?_
 refine ov (v_fieldAddr fa_105_0 rfl) rfl ?_
 refine ov (v_loadA (cs := arr cB x.1) Tryz.isAgg103 Tryz.sizeOf103 rfl hs25 (li_off hc28 hle26 hl27 (li_here (B := ([.slice a30 x.2.length c31] : List Value)) (lfl cB_ok h29))).2 (extract_cells (li_off hc28 hle26 hl27 (li_here (B := ([.slice a30 x.2.length c31] : List Value)) (lfl cB_ok h29))).2 (lfl cB_ok h29) (li_off hc28 hle26 hl27 (li_here (B := ([.slice a30 x.2.length c31] : List Value)) (lfl cB_ok h29))).1)) rfl ?_
 obtain ⟨l2, h33, r34⟩ := b1_ok r19; clear r19
 refine o_call0 rfl Tryz.call42 rfl rfl rfl (book_wrong_w h_complaints h29 h33) ?_; rintro _ F35 _ hF36 hn37 ⟨a39, n43, c40, Lb41, rfl, rfl, hz42⟩
 replace h_complaints := h_complaints.mono (prE_ok (iE_ok _) (prE_ok (iE_ok _) bE_ok)) hF36
 replace hz11 := hz11.mono (prE_ok (arE_ok (n := 24) (sz := 1) cB_ok) (slE_ok (iE_ok _))) hF36
 replace hz42 := hz42.new fun p hp => hn37 p (by simp [hp])
 refine shO_L (lp (ln rfl)) ?_
 refine kO (kf (fS fO) kr) ?_
 refine oa rfl rfl (shO_nil ?_)
 obtain ⟨best, h51, r52⟩ := b1_ok r34; clear r34
 refine shW_join (fun e1 F1 L1 => ∃ (a45 : Option Addr) (n49 : Nat) (c46 : Nat) (Lb47 : LH), FExt F35 F1 ∧ L1 = (Lb47 ++ []) ∧ e1.sub [(8, .slice a45 n49 c46)] ∧ SlR K.w0.heap.size 3 1 (iE .i64) F1 a45 n49 c46 best Lb47) ?_ ?_
 · clear r52
   refine wsr (om rfl rfl ?_)
   obtain ⟨g53, r54⟩ := gd_ok h51; clear h51
   obtain ⟨l3, h55, r56⟩ := bv_ok r54; clear r54
   refine o_sliceZ (l := 1) (h := (l.length : Int)) (zs := l3) rfl slt_97 (prE_ok (arE_ok (n := 24) (sz := 1) cB_ok) (slE_ok (iE_ok _))) rfl (.inr ⟨_, rfl, rfl⟩) (.inl ⟨rfl, rfl⟩) (fun _ => .c (.s .h)) hz11 g53 h55 ?_; intro a57 n60 c58 Lb61 h59
   refine ov ((v_lenS Tryz.underlying97 rfl).i (SlR.lenI h59)) rfl ?_
   refine om rfl rfl (shO_nil ?_)
   refine shW_block ?_
   refine kW (kd kr) ?_
   refine shW_lp (fun fu1 e1 F1 L1 => ∃ (tl : List ((List Bool) × (List Int))) (k : Int), tl.length = fu1 ∧ Lst l3 k tl ∧ ∃ (best2 : List Int) (a63 : Option Addr) (n67 : Nat) (c64 : Nat) (Lb65 : LH), book_Fewest_l1 complaints tl best2 = some best ∧ FExt F35 F1 ∧ L1 = (Lb65 ++ (Lb61 ++ [])) ∧ e1.sub [(1, .slice complaints_a complaints.length complaints_c), (8, .slice a63 n67 c64), (28, .slice a57 n60 c58), (29, .int .i64 (l3.length : Int)), (30, .int .i64 k)] ∧ SlR K.w0.heap.size 3 1 (iE .i64) F1 a63 n67 c64 best2 Lb65) _ (m0 kr ⟨_, _, rfl, Lst.start _, l2, a39, n43, c40, Lb41, r56, FExt.refl _, rfl, (sc rfl (sc rfl (sc rfl (sc rfl (sc rfl (sn _)))))), hz42⟩) ?_
   rintro fu1 e1 F73 _ ⟨tl, k, hn70, hk69, best2, a63, n67, c64, Lb65, r71, hF74, rfl, he72, hz66⟩
   refine shW_env _ he72 ?_; clear he72
   replace h_complaints := h_complaints.mono (prE_ok (iE_ok _) (prE_ok (iE_ok _) bE_ok)) hF74
   replace h59 := h59.mono (prE_ok (arE_ok (n := 24) (sz := 1) cB_ok) (slE_ok (iE_ok _))) hF74
   refine wsr ?_
   refine ov (v_lssK rfl rfl) rfl ?_
   refine shO_nil (shW_seq ?_)
   refine shW_condP rfl (fun c76 => ?_) (fun c76 => ?_)
   · obtain ⟨x2, tl2, rfl, hx78, g79, hk77⟩ := Lst.succ hk69 c76
     rw [book_Fewest_l1] at r71
     refine shW_skip (shW_seq ?_)
     refine shW_block ?_
     refine wsr ?_
     obtain ⟨b80, o81, c82, vs83, ha84, hs85, hle86, ⟨_, _, rfl, ⟨rfl, h89⟩, ⟨a90, c91, rfl, h92⟩⟩, hl87, hc88⟩ := SlR.at (prE_ok (arE_ok (n := 24) (sz := 1) cB_ok) (slE_ok (iE_ok _))) h59 (L := Lb65 ++ (Lb61 ++ [])) (fS fP) g79.1 hx78
     refine ov (v_indexO Tryz.underlying97 Tryz.sizeOf105 rfl ha84 rfl (SlR.idx h59 g79)) rfl ?_
     refine ov (v_loadA (cs := (x2.1.flatMap cB ++ (([.slice a90 x2.2.length c91] : List Value))).toArray) Tryz.isAgg105 Tryz.sizeOf105 rfl hs85 hle86 (extract_cells hle86 hl87 hc88)) rfl ?_
     refine o_alloc rfl Tryz.zeroValue105 ?_; intro b93 hb93
     refine shO_L (L' := (b93, .cells (((List.replicate 24 false).flatMap cB ++ (([.slice none 0 0] : List Value))).toArray) 105 (0, 0)) :: (Lb65 ++ (Lb61 ++ []))) rfl ?_
     refine o_storeW (i := 0) Tryz.sizeOf105 rfl rfl rfl (lz (la (lfl cB_ok List.length_replicate) rfl)) (lz (la (lfl cB_ok h89) rfl)) (oc_app (flat_one cB_ok _) (by simp [Value.oneCell'])) ?_
     refine shO_L (L' := (b93, .cells ((x2.1.flatMap cB ++ (([.slice a90 x2.2.length c91] : List Value))).toArray) 105 (0, 0)) :: (Lb65 ++ (Lb61 ++ []))) rfl ?_
     refine nsr (om rfl rfl ?_)
     refine ov (v_fieldAddr fa_105_0 rfl) rfl ?_
     refine ov (v_loadA (cs := arr cB x2.1) Tryz.isAgg103 Tryz.sizeOf103 rfl (Has.own 0 rfl) (li_le (li_here (B := ([.slice a90 x2.2.length c91] : List Value)) (lfl cB_ok h89))) (li_ext (lfl cB_ok h89) (li_here (B := ([.slice a90 x2.2.length c91] : List Value)) (lfl cB_ok h89)))) rfl ?_
     obtain ⟨l4, h94, r95⟩ := b1_ok r71; clear r71
     refine o_call0 rfl Tryz.call42 rfl rfl rfl (book_wrong_w h_complaints h89 h94) ?_; rintro _ F96 _ hF97 hn98 ⟨a100, n104, c101, Lb102, rfl, rfl, hz103⟩
     replace h59 := h59.mono (prE_ok (arE_ok (n := 24) (sz := 1) cB_ok) (slE_ok (iE_ok _))) hF97
     replace hz66 := hz66.mono (iE_ok _) hF97
     replace hz103 := hz103.new fun p hp => hn98 p (by simp [hp])
     refine shO_L (lp (ln rfl)) ?_
     refine kO (kf (fS fO) kr) ?_
     refine oa rfl rfl (shO_nil ?_)
     obtain ⟨k2, h106, r107⟩ := b1_ok r95; clear r95
     refine shW_join (fun e1 F1 L1 => F96 = F1 ∧ L1 = (Lb65 ++ (Lb102 ++ (Lb61 ++ []))) ∧ e1.sub [(1, .slice complaints_a complaints.length complaints_c), (8, .slice a63 n67 c64), (11, .slice a100 n104 c101), (28, .slice a57 n60 c58), (29, .int .i64 (l3.length : Int)), (30, .int .i64 k), (55, .bool k2)]) ?_ ?_
     · clear r107
       refine shW_region (om rfl rfl ?_)
       refine ov ((v_lenS Tryz.underlying24 rfl).i (SlR.lenI hz103)) rfl ?_
       refine om rfl rfl ?_
       refine ov ((v_lenS Tryz.underlying24 rfl).i (SlR.lenI hz66)) rfl ?_
       refine ov (v_lssK rfl rfl) rfl ?_
       refine om rfl rfl ?_
       by_cases c108 : (l4.length : Int) < (best2.length : Int)
       · have r109 := ite_t h106 c108; clear h106
         refine shO_off (b' := true) 43 rfl (Env.isT rfl c108) rfl rfl (shO_off (b' := true) 43 rfl (Env.isT rfl c108) rfl rfl (shO_off (b' := true) 43 rfl (Env.isT rfl c108) rfl rfl (shO_off (b' := true) 43 rfl (Env.isT rfl c108) rfl rfl (shO_off (b' := true) 43 rfl (Env.isT rfl c108) rfl rfl (shO_off (b' := true) 43 rfl (Env.isT rfl c108) rfl rfl (shO_offU 49 rfl rfl rfl (shO_offU 49 rfl rfl rfl (shO_offU 49 rfl rfl rfl (shO_offU 49 rfl rfl rfl ?_)))))))))
         refine shO_off (b' := true) 43 rfl (Env.isT rfl c108) rfl rfl ?_
         refine ov (v_pick_t (evD_true rfl c108) rfl) rfl ?_
         refine shO_nil ?_
         obtain rfl := inj1 r109
         exact mi (kd (kg (fS fP) kr)) ⟨rfl, rfl, (sc rfl (sc rfl (sc rfl (sc rfl (sc rfl (sc rfl (sc rfl (sn _))))))))⟩
       have r110 := ite_f h106 c108; clear h106
       refine shO_on (b := false) 43 rfl (Env.isF rfl c108) (om rfl rfl (shO_on (b := false) 43 rfl (Env.isF rfl c108) ?_))
       refine ov ((v_lenS Tryz.underlying24 rfl).i (SlR.lenI hz103)) rfl ?_
       refine shO_on (b := false) 43 rfl (Env.isF rfl c108) (om rfl rfl (shO_on (b := false) 43 rfl (Env.isF rfl c108) ?_))
       refine ov ((v_lenS Tryz.underlying24 rfl).i (SlR.lenI hz66)) rfl ?_
       refine shO_on (b := false) 43 rfl (Env.isF rfl c108) ?_
       refine ov (v_eql rfl rfl) rfl ?_
       refine shO_on (b := false) 43 rfl (Env.isF rfl c108) (om rfl rfl ?_)
       by_cases c111 : (l4.length : Int) = (best2.length : Int)
       · have r112 := ite_t r110 c111; clear r110
         refine shO_on (b := true) 49 rfl (Env.isT rfl c111) (om rfl rfl (shO_on (b := true) 49 rfl (Env.isT rfl c111) (om rfl rfl (shO_on (b := true) 49 rfl (Env.isT rfl c111) ?_))))
         obtain ⟨n2, h113, r114⟩ := b1_ok r112; clear r112
         refine o_callT (Lt := Lb102 ++ (Lb65 ++ [])) (Lr := (b93, .cells ((x2.1.flatMap cB ++ (([.slice a90 x2.2.length c91] : List Value))).toArray) 105 (0, 0)) :: (Lb61 ++ [])) rfl Tryz.call23 rfl rfl rfl (pT ((fC fP).trans (pA ((fC fP).trans (pA pR)))) (lp (lp (ln rfl)))) (fun F2 h2 h3 => by rw [(SlR.caps hz103).1]; rw [(SlR.caps hz66).1]; exact slices_Compare_int_int_w (hz103.row (iE_ok _) h2 (fun p hp => h3 p (List.mem_append_left _ hp))) (hz66.row (iE_ok _) h2 (fun p hp => h3 p (List.mem_append_right _ (List.mem_append_left _ hp)))) h113) ?_
         refine shO_on (b := true) 49 rfl (Env.isT rfl c111) ?_
         refine ov (v_lssK rfl rfl) rfl ?_
         refine shO_on (b := false) 43 rfl (Env.isF rfl c108) ?_
         refine ov (v_pick_t (evD_true rfl c111) rfl) rfl ?_
         refine ov (v_pick_f (evD_false rfl c108) rfl) rfl ?_
         refine shO_nil ?_
         obtain rfl := inj1 r114
         exact mi (kd (kg (fS fP) kr)) ⟨rfl, rfl, (sc rfl (sc rfl (sc rfl (sc rfl (sc rfl (sc rfl (sc rfl (sn _))))))))⟩
       have r115 := ite_f r110 c111; clear r110
       refine shO_off (b' := false) 49 rfl (Env.isF rfl c111) rfl rfl (shO_off (b' := false) 49 rfl (Env.isF rfl c111) rfl rfl (shO_off (b' := false) 49 rfl (Env.isF rfl c111) rfl rfl (shO_off (b' := false) 49 rfl (Env.isF rfl c111) rfl rfl (shO_on (b := false) 43 rfl (Env.isF rfl c108) ?_))))
       refine ov (v_pick_f (evD_false rfl c111) rfl) rfl ?_
       refine ov (v_pick_f (evD_false rfl c108) rfl) rfl ?_
       refine shO_nil ?_
       obtain rfl := inj1 r115
       exact mi (kd (kg (fS fP) kr)) ⟨rfl, rfl, (sc rfl (sc rfl (sc rfl (sc rfl (sc rfl (sc rfl (sc rfl (sn _))))))))⟩
     rintro e1 _ _ ⟨rfl, rfl, he116⟩
     refine shW_env _ he116 ?_; clear he116
     refine shW_cond rfl (fun c117 => ?_) (fun c117 => ?_)
     · have r118 := bt r107 c117; clear r107
       refine shW_region (om rfl rfl (oa rfl rfl (shO_nil (inBlock_n (id := 1) (shW_region ?_)))))
       refine ov (v_add rfl rfl (Lst.r64 hk69 c76 (SlR.llt h59))) rfl ?_
       refine om rfl rfl (shO_nil ?_)
       subst hn70; exact le (kx kr) ⟨_, _, rfl, hk77, l4, a100, n104, c101, Lb102, r118, (hF74.trans hF97), rfl, (sc rfl (sc rfl (sc rfl (sc rfl (sc rfl (sn _)))))), hz103⟩
     have r119 := bf r107 c117; clear r107
     refine shW_skip (inBlock_n (id := 1) (shW_region ?_))
     refine ov (v_add rfl rfl (Lst.r64 hk69 c76 (SlR.llt h59))) rfl ?_
     refine om rfl rfl (shO_nil ?_)
     subst hn70; exact le (ka (kx kr)) ⟨_, _, rfl, hk77, best2, a63, n67, c64, Lb65, r119, (hF74.trans hF97), rfl, (sc rfl (sc rfl (sc rfl (sc rfl (sc rfl (sn _)))))), hz66⟩
   obtain rfl := Lst.zero hk69 c76
   rw [book_Fewest_l1] at r71
   refine shW_exit (andThen_exit (andThen_exit ?_))
   refine inBlock_exit ?_
   obtain rfl := inj1 r71
   exact mi (ka kn) ⟨a63, n67, c64, Lb65, hF74, rfl, (sc rfl (sn _)), hz66⟩
 rintro e1 F121 _ ⟨a45, n49, c46, Lb47, hF122, rfl, he120, hz48⟩
 refine shW_env _ he120 ?_; clear he120
 refine wsr (om rfl rfl (oa rfl rfl (oa rfl rfl (shO_nil (shW_ret ?_)))))
 refine q_res2 Tryz.results10 (res_tmp rfl) (res_tmp rfl) (sr) ?_
 obtain ⟨rfl, rfl⟩ := inj2 r52
 exact ⟨_, _, _, _, rfl, rfl, hz48.any⟩
set_option maxHeartbeats 1000000 in
theorem book_goal_find_w {met_f : FuncId} {met_1 : Array Value} {met_2 : Array Value} {met : (List Bool) → Option Bool} {l_a : Option Addr} {l_c : Nat} {l : List ((List Bool) × (List Int))} {F : FS} (h_met : FnR Tryz.prog F met_f met_1 met_2 (agE (arE 24 cB)) Value.bool met) (h_l : RowR 25 (prE (arE 24 cB) (slE 1 (iE .i64))) F l_a l_c l) {r : List Int} (hr : book_goal_find met l = some r) :
    SH.Spec Tryz.prog 48 #[.agg #[.func (.func met_f) met_1 met_2], .slice l_a l.length l_c] F [] fun F' L' v => ∃ (ra : Option Addr) (rc : Nat), v = .slice ra r.length rc ∧ L' = [] ∧ RowR 1 (iE .i64) F' ra rc r ∧ (ra = none ↔ r = []) := by
 refine spec_of_shW (args := [.agg #[.func (.func met_f) met_1 met_2], .slice l_a l.length l_c]) Tryz.func48 rfl Tryz.ntmps48 (Nat.le_of_ble_eq_true rfl) ?_
 intro K _ _; rw [book_goal_find] at hr
 refine wsr ?_
 refine o_box rfl rfl ?_; intro b1 hb1
 refine oa rfl rfl (shO_nil ?_)
 refine shW_join (fun e1 F1 L1 => book_goal_find_j1 = some r ∧ F = F1 ∧ L1 = [] ∧ e1.sub []) ?_ ?_
 · refine wsr (om rfl rfl ?_)
   refine ov (v_lenS Tryz.underlying97 rfl) rfl ?_
   refine om rfl rfl (shO_nil ?_)
   refine shW_block ?_
   refine shW_lp (fun fu2 e1 F1 L1 => ∃ (tl : List ((List Bool) × (List Int))) (k : Int), tl.length = fu2 ∧ Lst l k tl ∧ book_goal_find_l2 met tl = some r ∧ F = F1 ∧ L1 = [(b1, .cells #[.func (.func met_f) met_1 met_2] 110 (0, 0))] ∧ e1.sub [(2, .pointer (some ⟨b1, 0, none⟩)), (7, .slice l_a l.length l_c), (8, .int .i64 (l.length : Int)), (9, .int .i64 k)]) _ (m0 kr ⟨_, _, rfl, Lst.start _, hr, rfl, rfl, (sc rfl (sc rfl (sc rfl (sc rfl (sn _)))))⟩) ?_
   rintro fu2 e1 _ _ ⟨tl, k, hn3, hk2, r4, rfl, rfl, he5⟩
   refine shW_env _ he5 ?_; clear he5
   refine wsr ?_
   refine ov (v_lssK rfl rfl) rfl ?_
   refine shO_nil (shW_seq ?_)
   refine shW_condP rfl (fun c7 => ?_) (fun c7 => ?_)
   · obtain ⟨x, tl2, rfl, hx9, g10, hk8⟩ := Lst.succ hk2 c7
     rw [book_goal_find_l2] at r4
     refine shW_skip (shW_seq ?_)
     refine shW_block ?_
     refine wsr ?_
     obtain ⟨b11, o12, c13, vs14, ha15, hs16, hle17, ⟨_, _, rfl, ⟨rfl, h20⟩, ⟨a21, c22, rfl, h23⟩⟩, hl18, hc19⟩ := RowR.at (prE_ok (arE_ok (n := 24) (sz := 1) cB_ok) (slE_ok (iE_ok _))) h_l ([(b1, .cells #[.func (.func met_f) met_1 met_2] 110 (0, 0))]) g10.1 hx9
     refine ov (v_indexO Tryz.underlying97 Tryz.sizeOf105 rfl ha15 rfl g10) rfl ?_
     refine ov (v_loadA (cs := (x.1.flatMap cB ++ (([.slice a21 x.2.length c22] : List Value))).toArray) Tryz.isAgg105 Tryz.sizeOf105 rfl hs16 hle17 (extract_cells hle17 hl18 hc19)) rfl ?_
     refine o_alloc rfl Tryz.zeroValue105 ?_; intro b24 hb24
     refine shO_L (L' := [(b24, .cells (((List.replicate 24 false).flatMap cB ++ (([.slice none 0 0] : List Value))).toArray) 105 (0, 0)), (b1, .cells #[.func (.func met_f) met_1 met_2] 110 (0, 0))]) rfl ?_
     refine o_storeW (i := 0) Tryz.sizeOf105 rfl rfl rfl (lz (la (lfl cB_ok List.length_replicate) rfl)) (lz (la (lfl cB_ok h20) rfl)) (oc_app (flat_one cB_ok _) (by simp [Value.oneCell'])) ?_
     refine shO_L (L' := [(b24, .cells ((x.1.flatMap cB ++ (([.slice a21 x.2.length c22] : List Value))).toArray) 105 (0, 0)), (b1, .cells #[.func (.func met_f) met_1 met_2] 110 (0, 0))]) rfl ?_
     refine nsr ?_
     refine ov (v_fieldAddr fa_110_0 rfl) rfl ?_
     refine ov (v_load Tryz.isAgg108 rfl (Has.own 1 rfl) rfl) rfl ?_
     refine ov (v_fieldAddr fa_105_0 rfl) rfl ?_
     refine ov (v_loadA (cs := arr cB x.1) Tryz.isAgg103 Tryz.sizeOf103 rfl (Has.own 0 rfl) (li_le (li_here (B := ([.slice a21 x.2.length c22] : List Value)) (lfl cB_ok h20))) (li_ext (lfl cB_ok h20) (li_here (B := ([.slice a21 x.2.length c22] : List Value)) (lfl cB_ok h20)))) rfl ?_
     obtain ⟨ok, h25, r26⟩ := b1_ok r4; clear r4
     refine o_callV rfl h_met.1 rfl rfl rfl (h_met.2 _ (FExt.refl _) _ _ _ ⟨_, rfl, ⟨rfl, h20⟩⟩ h25) ?_
     refine shO_nil ?_
     refine shW_cond rfl (fun c27 => ?_) (fun c27 => ?_)
     · have r28 := bt r26 c27; clear r26
       refine wsr ?_
       refine ov (v_fieldAddr fa_105_1 rfl) rfl ?_
       refine ov (v_load Tryz.isAgg24 rfl (Has.own 0 rfl) (li_cell (li_skip (A := x.1.flatMap cB) (k := 24) (o := 0) (lfl cB_ok h20) (li_end rfl)))) rfl ?_
       refine oa rfl rfl (shO_nil ?_)
       obtain ⟨g29, r30⟩ := gd_ok r28; clear r28
       refine kW kn ?_
       refine shW_ret (inBlock_ret (andThen_ret (andThen_ret (inBlock_ret (andThen_ret ?_)))))
       refine q_res1 Tryz.results48 (res_tmp rfl) (sr) ?_
       obtain rfl := inj1 r30
       exact ⟨_, _, rfl, rfl, h23, RowR.nn h23 g29⟩
     have r31 := bf r26 c27; clear r26
     refine shW_skip (inBlock_n (id := 1) (shW_region ?_))
     refine ov (v_add rfl rfl (Lst.r64 hk2 c7 (RowR.lt h_l))) rfl ?_
     refine om rfl rfl (shO_nil ?_)
     subst hn3; exact le (kd kr) ⟨_, _, rfl, hk8, r31, rfl, rfl, (sc rfl (sc rfl (sc rfl (sc rfl (sn _)))))⟩
   obtain rfl := Lst.zero hk2 c7
   rw [book_goal_find_l2] at r4
   refine shW_exit (andThen_exit (andThen_exit ?_))
   refine inBlock_exit ?_
   exact mi kn ⟨r4, rfl, rfl, (sn _)⟩
 rintro e1 _ _ ⟨r32, rfl, rfl, he33⟩
 refine shW_env _ he33 ?_; clear he33
 rw [book_goal_find_j1] at r32
 refine wsr (oa rfl rfl (shO_nil (shW_ret ?_)))
 refine q_res1 Tryz.results48 (res_tmp rfl) (sr) ?_
 obtain rfl := inj1 r32
 exact ⟨_, _, rfl, rfl, RowR.nil _ _ _, nilq_nil⟩
set_option maxHeartbeats 1000000 in
theorem slices_IndexFunc_book_Complaint_book_Complaint_w {s__a : Option Addr} {s__c : Nat} {s_ : List (Int × Int × Bool)} {f_f : FuncId} {f_1 : Array Value} {f_2 : Array Value} {f : (Int × Int × Bool) → Option Bool} {F : FS} (h_s_ : RowR 3 (prE (iE .i64) (prE (iE .i64) bE)) F s__a s__c s_) (h_f : FnR Tryz.prog F f_f f_1 f_2 (agE (prE (iE .i64) (prE (iE .i64) bE))) Value.bool f) {r : Int} (hr : slices_IndexFunc_book_Complaint_book_Complaint s_ f = some r) :
    SpecV Tryz.prog 89 #[.slice s__a s_.length s__c, .func (.func f_f) f_1 f_2] F (.int .i64 r) := by
 refine spec_of_shW (args := [.slice s__a s_.length s__c, .func (.func f_f) f_1 f_2]) Tryz.func89 rfl Tryz.ntmps89 (Nat.le_of_ble_eq_true rfl) ?_
 intro K _ _; rw [slices_IndexFunc_book_Complaint_book_Complaint] at hr
 refine wsr (oa rfl rfl (shO_nil ?_))
 refine shW_join (fun e1 F1 L1 => slices_IndexFunc_book_Complaint_book_Complaint_j1 = some r ∧ F = F1 ∧ L1 = [] ∧ e1.sub []) ?_ ?_
 · refine wsr (om rfl rfl ?_)
   refine ov (v_lenS Tryz.underlying32 rfl) rfl ?_
   refine om rfl rfl (shO_nil ?_)
   refine shW_block ?_
   refine shW_lp (fun fu2 e1 F1 L1 => ∃ (tl : List (Int × Int × Bool)) (k : Int), tl.length = fu2 ∧ Lst s_ k tl ∧ slices_IndexFunc_book_Complaint_book_Complaint_l2 f tl k = some r ∧ F = F1 ∧ L1 = [] ∧ e1.sub [(0, .slice s__a s_.length s__c), (1, .func (.func f_f) f_1 f_2), (7, .int .i64 (s_.length : Int)), (8, .int .i64 k)]) _ (m0 kr ⟨_, _, rfl, Lst.start _, hr, rfl, rfl, (sc rfl (sc rfl (sc rfl (sc rfl (sn _)))))⟩) ?_
   rintro fu2 e1 _ _ ⟨tl, k, hn2, hk1, r3, rfl, rfl, he4⟩
   refine shW_env _ he4 ?_; clear he4
   refine wsr ?_
   refine ov (v_lssK rfl rfl) rfl ?_
   refine shO_nil (shW_seq ?_)
   refine shW_condP rfl (fun c6 => ?_) (fun c6 => ?_)
   · obtain ⟨x, tl2, rfl, hx8, g9, hk7⟩ := Lst.succ hk1 c6
     rw [slices_IndexFunc_book_Complaint_book_Complaint_l2] at r3
     refine shW_skip (shW_seq ?_)
     refine shW_block ?_
     refine wsr (om rfl rfl (oa rfl rfl (nsr (om rfl rfl (om rfl rfl (om rfl rfl ?_))))))
     obtain ⟨b10, o11, c12, vs13, ha14, hs15, hle16, ⟨_, _, rfl, rfl, ⟨_, _, rfl, rfl, rfl⟩⟩, hl17, hc18⟩ := RowR.at (prE_ok (iE_ok _) (prE_ok (iE_ok _) bE_ok)) h_s_ ([]) g9.1 hx8
     refine ov (v_indexO Tryz.underlying32 Tryz.sizeOf36 rfl ha14 rfl g9) rfl ?_
     refine ov (v_loadA (cs := #[.int .i64 x.1, .int .i64 x.2.1, .bool x.2.2]) Tryz.isAgg36 Tryz.sizeOf36 rfl hs15 hle16 (extract_cells hle16 hl17 hc18)) rfl ?_
     obtain ⟨ok, h19, r20⟩ := b1_ok r3; clear r3
     refine o_callV rfl h_f.1 rfl rfl rfl (h_f.2 _ (FExt.refl _) _ _ _ ⟨_, rfl, ⟨_, _, rfl, rfl, ⟨_, _, rfl, rfl, rfl⟩⟩⟩ h19) ?_
     refine shO_nil ?_
     refine shW_cond rfl (fun c21 => ?_) (fun c21 => ?_)
     · have r22 := bt r20 c21; clear r20
       refine wsr (om rfl rfl (oa rfl rfl (shO_nil (shW_ret (inBlock_ret (andThen_ret (andThen_ret (inBlock_ret (andThen_ret ?_)))))))))
       refine q_res1 Tryz.results89 (res_tmp rfl) (sr) ?_
       obtain rfl := inj1 r22
       exact rfl
     have r23 := bf r20 c21; clear r20
     refine shW_skip (inBlock_n (id := 1) (shW_region ?_))
     refine ov (v_add rfl rfl (Lst.r64 hk1 c6 (RowR.lt h_s_))) rfl ?_
     refine om rfl rfl (shO_nil ?_)
     subst hn2; exact le kr ⟨_, _, rfl, hk7, r23, rfl, rfl, (sc rfl (sc rfl (sc rfl (sc rfl (sn _)))))⟩
   obtain rfl := Lst.zero hk1 c6
   rw [slices_IndexFunc_book_Complaint_book_Complaint_l2] at r3
   refine shW_exit (andThen_exit (andThen_exit ?_))
   refine inBlock_exit ?_
   exact mi kr ⟨r3, rfl, rfl, (sn _)⟩
 rintro e1 _ _ ⟨r24, rfl, rfl, he25⟩
 refine shW_env _ he25 ?_; clear he25
 rw [slices_IndexFunc_book_Complaint_book_Complaint_j1] at r24
 refine wsr (oa rfl rfl (shO_nil (shW_ret ?_)))
 refine q_res1 Tryz.results89 (res_tmp rfl) (sr) ?_
 obtain rfl := inj1 r24
 exact rfl
set_option maxHeartbeats 1000000 in
theorem slices_ContainsFunc_book_Complaint_book_Complaint_w {s__a : Option Addr} {s__c : Nat} {s_ : List (Int × Int × Bool)} {f_f : FuncId} {f_1 : Array Value} {f_2 : Array Value} {f : (Int × Int × Bool) → Option Bool} {F : FS} (h_s_ : RowR 3 (prE (iE .i64) (prE (iE .i64) bE)) F s__a s__c s_) (h_f : FnR Tryz.prog F f_f f_1 f_2 (agE (prE (iE .i64) (prE (iE .i64) bE))) Value.bool f) {r : Bool} (hr : slices_ContainsFunc_book_Complaint_book_Complaint s_ f = some r) :
    SpecV Tryz.prog 49 #[.slice s__a s_.length s__c, .func (.func f_f) f_1 f_2] F (.bool r) := by
 refine spec_of_shW (args := [.slice s__a s_.length s__c, .func (.func f_f) f_1 f_2]) Tryz.func49 rfl Tryz.ntmps49 (Nat.le_of_ble_eq_true rfl) ?_
 intro K _ _; rw [slices_ContainsFunc_book_Complaint_book_Complaint] at hr
 refine wsr (oa rfl rfl (nsr (om rfl rfl (om rfl rfl ?_))))
 obtain ⟨n, h1, r2⟩ := b1_ok hr; clear hr
 refine o_callV rfl Tryz.call89 rfl rfl rfl (slices_IndexFunc_book_Complaint_book_Complaint_w h_s_ h_f h1) ?_
 refine ov (v_geqK rfl rfl) rfl ?_
 refine oa rfl rfl (shO_nil (shW_ret ?_))
 refine q_res1 Tryz.results49 (res_tmp rfl) (sr) ?_
 obtain rfl := inj1 r2
 exact rfl
set_option maxHeartbeats 1000000 in
theorem book_Excludes_1_1_1_w {i : Int} {b_x : Nat} {x_a : Option Addr} {x_c : Nat} {x : List (Int × Int × Bool)} {mb_x : Nat × Nat} {b_g : Nat} {g : List Bool} {mb_g : Nat × Nat} {F : FS} (hb_x : F b_x = some (.cells #[.slice x_a x.length x_c] 32 mb_x)) (h_x : RowR 3 (prE (iE .i64) (prE (iE .i64) bE)) F x_a x_c x) (hb_g : F b_g = some (.cells (arr cB g) 103 mb_g)) (h_g : g.length = 24) {r : Bool} (hr : book_Excludes_1_1_1 i x g = some r) :
    SpecV Tryz.prog 46 #[.int .i64 i, .pointer (some ⟨b_x, 0, none⟩), .pointer (some ⟨b_g, 0, none⟩)] F (.bool r) := by
 refine spec_of_shW (args := [.int .i64 i, .pointer (some ⟨b_x, 0, none⟩), .pointer (some ⟨b_g, 0, none⟩)]) Tryz.func46 rfl Tryz.ntmps46 (Nat.le_of_ble_eq_true rfl) ?_
 intro K _ _; rw [book_Excludes_1_1_1] at hr
 refine wsr (oa rfl rfl ?_)
 refine nsd (by kernel_rfl) (by kernel_rfl) (by kernel_rfl) ?_
 refine qv (v_load Tryz.isAgg32 rfl (Has.frozen hb_x) rfl) rfl ?_
 refine qm rfl rfl ?_
 obtain ⟨x2, g1, hx2, r3⟩ := ix_ok hr; clear hr
 obtain ⟨b4, o5, c6, vs7, ha8, hs9, hle10, ⟨_, _, rfl, rfl, ⟨_, _, rfl, rfl, rfl⟩⟩, hl11, hc12⟩ := RowR.at (prE_ok (iE_ok _) (prE_ok (iE_ok _) bE_ok)) h_x ([]) g1.1 hx2
 refine qv (v_indexO Tryz.underlying32 Tryz.sizeOf36 rfl ha8 rfl g1) rfl ?_
 refine qv (v_loadA (cs := #[.int .i64 x2.1, .int .i64 x2.2.1, .bool x2.2.2]) Tryz.isAgg36 Tryz.sizeOf36 rfl hs9 hle10 (extract_cells hle10 hl11 hc12)) rfl ?_
 refine qv (v_loadW Tryz.isAgg103 Tryz.sizeOf103 rfl (Has.frozen hb_g) (arr_sz cB_ok h_g)) rfl ?_
 obtain ⟨ok, h13, r14⟩ := b1_ok r3; clear r3
 refine shQ_callV rfl Tryz.call47 rfl rfl rfl (book_Complaint_is_w h_g h13) ?_
 refine qa rfl rfl (shQ_nil (shW_ret ?_))
 refine q_res1 Tryz.results46 (res_tmp rfl) (sr) ?_
 obtain rfl := inj1 r14
 exact rfl
set_option maxHeartbeats 1000000 in
theorem book_Excludes_1_1_w {g : List Bool} {b_own : Nat} {own_a : Option Addr} {own_c : Nat} {own : List Int} {mb_own : Nat × Nat} {b_x : Nat} {x_a : Option Addr} {x_c : Nat} {x : List (Int × Int × Bool)} {mb_x : Nat × Nat} {F : FS} (h_g : g.length = 24) (hb_own : F b_own = some (.cells #[.slice own_a own.length own_c] 24 mb_own)) (h_own : RowR 1 (iE .i64) F own_a own_c own) (hb_x : F b_x = some (.cells #[.slice x_a x.length x_c] 32 mb_x)) (h_x : RowR 3 (prE (iE .i64) (prE (iE .i64) bE)) F x_a x_c x) {r : Bool} (hr : book_Excludes_1_1 g own x = some r) :
    SpecV Tryz.prog 44 #[.agg (arr cB g), .pointer (some ⟨b_own, 0, none⟩), .pointer (some ⟨b_x, 0, none⟩)] F (.bool r) := by
 refine spec_of_shW (args := [.agg (arr cB g), .pointer (some ⟨b_own, 0, none⟩), .pointer (some ⟨b_x, 0, none⟩)]) Tryz.func44 rfl Tryz.ntmps44 (Nat.le_of_ble_eq_true rfl) ?_
 intro K _ _; rw [book_Excludes_1_1] at hr
 refine wsr ?_
 refine o_box rfl rfl ?_; intro b1 hb1
 refine oa rfl rfl (nsr ?_)
 refine ov (v_load Tryz.isAgg24 rfl (Has.frozen hb_own) rfl) rfl ?_
 refine ov (v_makeFunc rfl rfl) rfl ?_
 refine shO_freeze 0 rfl hb1 ?_; intro F2 hF3 hz4
 refine shO_L (L' := []) rfl ?_
 replace h_own := h_own.mono (iE_ok _) hF3
 replace h_x := h_x.mono (prE_ok (iE_ok _) (prE_ok (iE_ok _) bE_ok)) hF3
 replace hb_x := hF3 _ _ hb_x
 have hn5 : FnR Tryz.prog F2 46 #[] #[.pointer (some ⟨b_x, 0, none⟩), .pointer (some ⟨b1, 0, none⟩)] (iE .i64) Value.bool (fun xx_ : Int => book_Excludes_1_1_1 xx_ x g) := ⟨Tryz.call46, fun F2 h2 vs xx_ r ha hr => by obtain rfl := ha; exact book_Excludes_1_1_1_w (h2 _ _ hb_x) (h_x.mono (prE_ok (iE_ok _) (prE_ok (iE_ok _) bE_ok)) h2) (h2 _ _ hz4) h_g hr⟩
 obtain ⟨ok, h6, r7⟩ := b1_ok hr; clear hr
 refine o_callV rfl Tryz.call45 rfl rfl rfl (book_every_int_w h_own hn5 h6) ?_
 refine oa rfl rfl (shO_nil (shW_ret ?_))
 refine q_res1 Tryz.results44 (res_tmp rfl) (sr) ?_
 obtain rfl := inj1 r7
 exact rfl
set_option maxHeartbeats 1000000 in
theorem book_Excludes_1_2_w {house : Int} {notice : Int} {heard : Bool} {b_x : Nat} {x_a : Option Addr} {x_c : Nat} {x : List (Int × Int × Bool)} {mb_x : Nat × Nat} {b_i : Nat} {i : Int} {mb_i : Nat × Nat} {F : FS} (hb_x : F b_x = some (.cells #[.slice x_a x.length x_c] 32 mb_x)) (h_x : RowR 3 (prE (iE .i64) (prE (iE .i64) bE)) F x_a x_c x) (hb_i : F b_i = some (.cells #[.int .i64 i] 3 mb_i)) {r : Bool} (hr : book_Excludes_1_2 house notice heard x i = some r) :
    SpecV Tryz.prog 50 #[.agg #[.int .i64 house, .int .i64 notice, .bool heard], .pointer (some ⟨b_x, 0, none⟩), .pointer (some ⟨b_i, 0, none⟩)] F (.bool r) := by
 refine spec_of_shW (args := [.agg #[.int .i64 house, .int .i64 notice, .bool heard], .pointer (some ⟨b_x, 0, none⟩), .pointer (some ⟨b_i, 0, none⟩)]) Tryz.func50 rfl Tryz.ntmps50 (Nat.le_of_ble_eq_true rfl) ?_
 intro K _ _; rw [book_Excludes_1_2] at hr
 refine wsr ?_
 refine o_box rfl rfl ?_; intro b1 hb1
 refine oa rfl rfl ?_
 refine nsd (by kernel_rfl) (by kernel_rfl) (by kernel_rfl) ?_
 refine qv (v_loadA (cs := #[.int .i64 house, .int .i64 notice, .bool heard]) Tryz.isAgg36 Tryz.sizeOf36 rfl (Has.own 0 rfl) (Nat.le_of_ble_eq_true rfl) rfl) rfl ?_
 refine qv (v_load Tryz.isAgg32 rfl (Has.frozen hb_x) rfl) rfl ?_
 refine qv (v_load Tryz.isAgg3 rfl (Has.frozen hb_i) rfl) rfl ?_
 obtain ⟨x2, g2, hx3, r4⟩ := ix_ok hr; clear hr
 obtain ⟨b5, o6, c7, vs8, ha9, hs10, hle11, ⟨_, _, rfl, rfl, ⟨_, _, rfl, rfl, rfl⟩⟩, hl12, hc13⟩ := RowR.at (prE_ok (iE_ok _) (prE_ok (iE_ok _) bE_ok)) h_x ([(b1, .cells #[.int .i64 house, .int .i64 notice, .bool heard] 36 (0, 0))]) g2.1 hx3
 refine qv (v_indexO Tryz.underlying32 Tryz.sizeOf36 rfl ha9 rfl g2) rfl ?_
 refine qv (v_loadA (cs := #[.int .i64 x2.1, .int .i64 x2.2.1, .bool x2.2.2]) Tryz.isAgg36 Tryz.sizeOf36 rfl hs10 hle11 (extract_cells hle11 hl12 hc13)) rfl ?_
 obtain ⟨g14, r15⟩ := gd_ok r4; clear r4
 obtain ⟨g16, r17⟩ := gd_ok r15; clear r15
 obtain ⟨g18, r19⟩ := gd_ok r17; clear r17
 obtain ⟨g20, r21⟩ := gd_ok r19; clear r19
 refine qv (v_eqA (eqg_36 _ _ _ _) (fun w => eqb_deep (eqd_36 (house, notice, heard) (x2.1, x2.2.1, x2.2.2) ⟨g14, g16⟩ ⟨g18, g20⟩ w)) rfl rfl) rfl ?_
 refine qa rfl rfl (shQ_nil ?_)
 refine kW kn ?_
 refine shW_ret ?_
 refine q_res1 Tryz.results50 (res_tmp rfl) (sr) ?_
 obtain rfl := inj1 r21
 exact rfl
set_option maxHeartbeats 1000000 in
theorem book_Excludes_1B_w {rec_ : (List Int) → Int → Int → (List (Int × Int × Bool)) → (List ((List Bool) × (List Int))) → Option ((List Int))} (hrec : ∀ {own_a : Option Addr} {own_c : Nat} {own : List Int} {from_ : Int} {many : Int} {b_complaints : Nat} {complaints_a : Option Addr} {complaints_c : Nat} {complaints : List (Int × Int × Bool)} {mb_complaints : Nat × Nat} {b_l : Nat} {l_a : Option Addr} {l_c : Nat} {l : List ((List Bool) × (List Int))} {mb_l : Nat × Nat} {b_more : Nat} {mb_more : Nat × Nat} {F : FS} (_ : RowR 1 (iE .i64) F own_a own_c own) (_ : F b_complaints = some (.cells #[.slice complaints_a complaints.length complaints_c] 32 mb_complaints)) (_ : RowR 3 (prE (iE .i64) (prE (iE .i64) bE)) F complaints_a complaints_c complaints) (_ : F b_l = some (.cells #[.slice l_a l.length l_c] 97 mb_l)) (_ : RowR 25 (prE (arE 24 cB) (slE 1 (iE .i64))) F l_a l_c l) (_ : F b_more = some (.cells (#[.func (.func 43) #[] #[.pointer (some ⟨b_complaints, 0, none⟩), .pointer (some ⟨b_l, 0, none⟩), .pointer (some ⟨b_more, 0, none⟩)]]) 106 mb_more)) {r : List Int} , rec_ own from_ many complaints l = some r → SH.Spec Tryz.prog 43 #[.slice own_a own.length own_c, .int .i64 from_, .int .i64 many, .pointer (some ⟨b_complaints, 0, none⟩), .pointer (some ⟨b_l, 0, none⟩), .pointer (some ⟨b_more, 0, none⟩)] F [] fun F' L' v => ∃ (ra : Option Addr) (rc : Nat), v = .slice ra r.length rc ∧ L' = [] ∧ RowR 1 (iE .i64) F' ra rc r ∧ (ra = none ↔ r = [])) {own_a : Option Addr} {own_c : Nat} {own : List Int} {from_ : Int} {many : Int} {b_complaints : Nat} {complaints_a : Option Addr} {complaints_c : Nat} {complaints : List (Int × Int × Bool)} {mb_complaints : Nat × Nat} {b_l : Nat} {l_a : Option Addr} {l_c : Nat} {l : List ((List Bool) × (List Int))} {mb_l : Nat × Nat} {b_more : Nat} {mb_more : Nat × Nat} {F : FS} (h_own : RowR 1 (iE .i64) F own_a own_c own) (hb_complaints : F b_complaints = some (.cells #[.slice complaints_a complaints.length complaints_c] 32 mb_complaints)) (h_complaints : RowR 3 (prE (iE .i64) (prE (iE .i64) bE)) F complaints_a complaints_c complaints) (hb_l : F b_l = some (.cells #[.slice l_a l.length l_c] 97 mb_l)) (h_l : RowR 25 (prE (arE 24 cB) (slE 1 (iE .i64))) F l_a l_c l) (hb_more : F b_more = some (.cells (#[.func (.func 43) #[] #[.pointer (some ⟨b_complaints, 0, none⟩), .pointer (some ⟨b_l, 0, none⟩), .pointer (some ⟨b_more, 0, none⟩)]]) 106 mb_more)) {r : List Int} (hr : book_Excludes_1B rec_ own from_ many complaints l = some r) :
    SH.Spec Tryz.prog 43 #[.slice own_a own.length own_c, .int .i64 from_, .int .i64 many, .pointer (some ⟨b_complaints, 0, none⟩), .pointer (some ⟨b_l, 0, none⟩), .pointer (some ⟨b_more, 0, none⟩)] F [] fun F' L' v => ∃ (ra : Option Addr) (rc : Nat), v = .slice ra r.length rc ∧ L' = [] ∧ RowR 1 (iE .i64) F' ra rc r ∧ (ra = none ↔ r = []) := by
 refine spec_of_shW (args := [.slice own_a own.length own_c, .int .i64 from_, .int .i64 many, .pointer (some ⟨b_complaints, 0, none⟩), .pointer (some ⟨b_l, 0, none⟩), .pointer (some ⟨b_more, 0, none⟩)]) Tryz.func43 rfl Tryz.ntmps43 (Nat.le_of_ble_eq_true rfl) ?_
 intro K _ _; rw [book_Excludes_1B] at hr
 refine wsr ?_
 refine o_box rfl rfl ?_; intro b1 hb1
 refine oa rfl rfl (shO_nil (shW_seq (wsr (om rfl rfl ?_))))
 refine ov (v_eql rfl rfl) rfl ?_
 refine shO_nil ?_
 refine shW_condP rfl (fun c2 => ?_) (fun c2 => ?_)
 · have r3 := ite_t hr c2; clear hr
   refine wsr ?_
   refine ov (v_makeFunc rfl rfl) rfl ?_
   refine ov (v_build (v := .agg (#[.func (.func 44) #[] #[.pointer (some ⟨b1, 0, none⟩), .pointer (some ⟨b_complaints, 0, none⟩)]])) rfl (by intro w; kernel_rfl)) rfl ?_
   refine o_alloc rfl Tryz.zeroValue110 ?_; intro b4 hb4
   refine o_storeA (i := 0) Tryz.sizeOf110 rfl rfl rfl (by simp [Value.oneCell']) rfl (Nat.le_of_ble_eq_true rfl) ?_
   refine shO_L (L' := [(b4, .cells (#[.func (.func 44) #[] #[.pointer (some ⟨b1, 0, none⟩), .pointer (some ⟨b_complaints, 0, none⟩)]]) 110 (0, 0)), (b1, .cells #[.slice own_a own.length own_c] 24 (0, 0))]) rfl ?_
   refine shO_nil (shW_seq (wsr ?_))
   refine ov (v_loadA (cs := #[.func (.func 44) #[] #[.pointer (some ⟨b1, 0, none⟩), .pointer (some ⟨b_complaints, 0, none⟩)]]) Tryz.isAgg110 Tryz.sizeOf110 rfl (Has.own 0 rfl) (Nat.le_of_ble_eq_true rfl) rfl) rfl ?_
   refine ov (v_load Tryz.isAgg97 rfl (Has.frozen hb_l) rfl) rfl ?_
   refine shO_freeze 1 rfl hb1 ?_; intro F5 hF6 hz7
   refine shO_L (L' := [(b4, .cells (#[.func (.func 44) #[] #[.pointer (some ⟨b1, 0, none⟩), .pointer (some ⟨b_complaints, 0, none⟩)]]) 110 (0, 0))]) rfl ?_
   replace h_own := h_own.mono (iE_ok _) hF6
   replace h_complaints := h_complaints.mono (prE_ok (iE_ok _) (prE_ok (iE_ok _) bE_ok)) hF6
   replace h_l := h_l.mono (prE_ok (arE_ok (n := 24) (sz := 1) cB_ok) (slE_ok (iE_ok _))) hF6
   replace hb_complaints := hF6 _ _ hb_complaints
   have hn9 : FnR Tryz.prog F5 44 #[] #[.pointer (some ⟨b1, 0, none⟩), .pointer (some ⟨b_complaints, 0, none⟩)] (agE (arE 24 cB)) Value.bool (fun xx_ : (List Bool) => book_Excludes_1_1 xx_ own complaints) := ⟨Tryz.call44, fun F2 h2 vs xx_ r ha hr => by obtain ⟨_, rfl, ⟨rfl, h8⟩⟩ := ha; exact book_Excludes_1_1_w h8 (h2 _ _ hz7) (h_own.mono (iE_ok _) h2) (h2 _ _ hb_complaints) (h_complaints.mono (prE_ok (iE_ok _) (prE_ok (iE_ok _) bE_ok)) h2) hr⟩
   obtain ⟨l2, h10, r11⟩ := b1_ok r3; clear r3
   refine o_call0 rfl Tryz.call48 rfl rfl rfl (book_goal_find_w hn9 h_l h10) ?_; rintro _ F12 _ hF13 hn14 ⟨a16, c17, rfl, rfl, h18, hq19⟩
   replace h_own := h_own.mono (iE_ok _) hF13
   replace hz7 := hF13 _ _ hz7
   refine shO_L (ln rfl) ?_
   refine ov ((v_eqlNil Tryz.underlying24 rfl).b (nilq_dec hq19)) rfl ?_
   refine shO_nil ?_
   refine shW_condP rfl (fun c20 => ?_) (fun c20 => ?_)
   · have r21 := ite_t r11 c20; clear r11
     refine wsr ?_
     refine ov (v_load Tryz.isAgg24 rfl (Has.frozen hz7) rfl) rfl ?_
     refine oa rfl rfl (shO_nil ?_)
     obtain ⟨g22, r23⟩ := gd_ok r21; clear r21
     refine kW kn ?_
     refine shW_ret (andThen_ret (andThen_ret ?_))
     refine q_res1 Tryz.results43 (res_tmp rfl) (sr) ?_
     obtain rfl := inj1 r23
     exact ⟨_, _, rfl, rfl, h_own, RowR.nn h_own g22⟩
   have r24 := ite_f r11 c20; clear r11
   refine shW_skip (wsr (oa rfl rfl (shO_nil ?_)))
   refine kW kn ?_
   refine shW_ret (andThen_ret ?_)
   refine q_res1 Tryz.results43 (res_tmp rfl) (sr) ?_
   obtain rfl := inj1 r24
   exact ⟨_, _, rfl, rfl, RowR.nil _ _ _, nilq_nil⟩
 have r25 := ite_f hr c2; clear hr
 refine shW_skip ?_
 refine shW_join (fun e1 F1 L1 => book_Excludes_1B_j1 = some r ∧ FExt F F1 ∧ L1 = [] ∧ e1.sub []) ?_ ?_
 · refine wsr (om rfl rfl ?_)
   refine o_alloc rfl Tryz.zeroValue3 ?_; intro b26 hb26
   refine o_store (i := 0) Tryz.sizeOf3 rfl rfl rfl rfl (Nat.le_of_ble_eq_true rfl) ?_
   refine shO_L (L' := [(b26, .cells #[.int .i64 from_] 3 (0, 0)), (b1, .cells #[.slice own_a own.length own_c] 24 (0, 0))]) rfl ?_
   refine shO_nil ?_
   refine shW_block ?_
   refine shW_lp (fun fu2 e1 F1 L1 => ∃ (i : Int) (b27 : Nat), book_Excludes_1B_l2 own from_ many complaints l rec_ fu2 i = some r ∧ FExt F F1 ∧ L1 = [(b27, .cells #[.int .i64 i] 3 (0, 0)), (b1, .cells #[.slice own_a own.length own_c] 24 (0, 0))] ∧ e1.sub [(1, .int .i64 from_), (2, .int .i64 many), (3, .pointer (some ⟨b_complaints, 0, none⟩)), (5, .pointer (some ⟨b_more, 0, none⟩)), (6, .pointer (some ⟨b1, 0, none⟩)), (11, .pointer (some ⟨b27, 0, none⟩))] ∧ K.w0.heap.size ≤ b27) FU (m0 kr ⟨from_, b26, r25, FExt.refl _, rfl, (sc rfl (sc rfl (sc rfl (sc rfl (sc rfl (sc rfl (sn _))))))), hb26⟩) ?_
   rintro fu2 e1 F33 _ ⟨i, b27, r31, hF34, rfl, he32, hb28⟩
   refine shW_env _ he32 ?_; clear he32
   replace h_own := h_own.mono (iE_ok _) hF34
   replace h_complaints := h_complaints.mono (prE_ok (iE_ok _) (prE_ok (iE_ok _) bE_ok)) hF34
   replace h_l := h_l.mono (prE_ok (arE_ok (n := 24) (sz := 1) cB_ok) (slE_ok (iE_ok _))) hF34
   replace hb_complaints := hF34 _ _ hb_complaints
   replace hb_l := hF34 _ _ hb_l
   replace hb_more := hF34 _ _ hb_more
   rcases fu2 with _ | fu2
   · rw [book_Excludes_1B_l2] at r31; cases r31
   rw [book_Excludes_1B_l2] at r31
   refine shW_seq (wsr ?_)
   refine ov (v_load Tryz.isAgg3 rfl (Has.own 0 rfl) rfl) rfl ?_
   refine ov (v_load Tryz.isAgg32 rfl (Has.frozen hb_complaints) rfl) rfl ?_
   refine ov (v_lenS Tryz.underlying32 rfl) rfl ?_
   refine ov (v_lssK rfl rfl) rfl ?_
   refine shO_nil ?_
   refine shW_condP rfl (fun c35 => ?_) (fun c35 => ?_)
   · have r36 := ite_t r31 c35; clear r31
     refine shW_skip ?_
     refine shW_join (fun e1 F1 L1 => book_Excludes_1B_j3 i (book_Excludes_1B_l2 own from_ many complaints l rec_ fu2) = some r ∧ FExt F33 F1 ∧ L1 = [(b27, .cells #[.int .i64 i] 3 (0, 0)), (b1, .cells #[.slice own_a own.length own_c] 24 (0, 0))] ∧ e1.sub [(1, .int .i64 from_), (2, .int .i64 many), (3, .pointer (some ⟨b_complaints, 0, none⟩)), (5, .pointer (some ⟨b_more, 0, none⟩)), (6, .pointer (some ⟨b1, 0, none⟩)), (11, .pointer (some ⟨b27, 0, none⟩))]) ?_ ?_
     · refine shW_block ?_
       refine shW_seq (wsr ?_)
       refine ov (v_load Tryz.isAgg32 rfl (Has.frozen hb_complaints) rfl) rfl ?_
       refine om rfl rfl ?_
       refine ov (v_load Tryz.isAgg3 rfl (Has.own 0 rfl) rfl) rfl ?_
       obtain ⟨g37, r38⟩ := gd_ok r36; clear r36
       obtain ⟨complaints2, h39, r40⟩ := bv_ok r38; clear r38
       obtain ⟨a41, c42, h43, hvh43⟩ := RowR.slice (prE_ok (iE_ok _) (prE_ok (iE_ok _) bE_ok)) h_complaints g37 h39
       refine ov ((v_slice (l := from_) (h := i) Tryz.underlying32 Tryz.sizeOf36 rfl (.inr ⟨_, rfl, rfl⟩) (.inr ⟨_, rfl, rfl⟩) hvh43.1).eq hvh43.2) rfl ?_
       refine ov (v_makeFunc rfl rfl) rfl ?_
       obtain ⟨ok, h45, r46⟩ := b1_ok r40; clear r40
       refine o_callT (Lt := [(b27, .cells #[.int .i64 i] 3 (0, 0))]) (Lr := [(b1, .cells #[.slice own_a own.length own_c] 24 (0, 0))]) rfl Tryz.call49 rfl rfl rfl (pR) (fun F2 h2 h3 => by exact slices_ContainsFunc_book_Complaint_book_Complaint_w (h43.mono (prE_ok (iE_ok _) (prE_ok (iE_ok _) bE_ok)) h2) (show FnR Tryz.prog F2 50 #[] #[.pointer (some ⟨b_complaints, 0, none⟩), .pointer (some ⟨b27, 0, none⟩)] (agE (prE (iE .i64) (prE (iE .i64) bE))) Value.bool (fun xx_ : (Int × Int × Bool) => book_Excludes_1_2 xx_.1 xx_.2.1 xx_.2.2 complaints i) from ⟨Tryz.call50, fun F3 h4 vs xx_ r ha hr => by obtain ⟨_, rfl, ⟨_, _, rfl, rfl, ⟨_, _, rfl, rfl, rfl⟩⟩⟩ := ha; exact book_Excludes_1_2_w ((h2.trans h4) _ _ hb_complaints) (h_complaints.mono (prE_ok (iE_ok _) (prE_ok (iE_ok _) bE_ok)) (h2.trans h4)) (h4 _ _ (h3 (b27, .cells #[.int .i64 i] 3 (0, 0)) (List.mem_cons_self ..))) hr⟩) h45) ?_
       refine shO_nil ?_
       refine shW_cond rfl (fun c47 => ?_) (fun c47 => ?_)
       · have r48 := bt r46 c47; clear r46
         refine shW_exit (andThen_exit ?_)
         refine inBlock_exit ?_
         exact mi kr ⟨r48, FExt.refl _, rfl, (sc rfl (sc rfl (sc rfl (sc rfl (sc rfl (sc rfl (sn _)))))))⟩
       have r49 := bf r46 c47; clear r46
       refine shW_skip (shW_seq ?_)
       refine shW_drawM [(.still, 0), (.still, 1), (.still, 3), (.pre, 4), (.still, 6), (.still, 7), (.still, 8), (.still, 9), (.seq, 2), (.alloc (.cells #[.int .i64 i] 3 (0, 0)) (fun b => .slice (some ⟨b, 0, none⟩) 1 1) [(38, .int .i64 i)], 4), (.seq, 5), (.seq, 10), (.still, 11)] (by kernel_rfl) (by kernel_rfl) (⟨⟨_, _, rfl, rfl, rfl, rfl, rfl, mk_build rfl (buildSlice_all slt_24 [.int .i64 i] rfl (by decide) (by simp [Value.cells]) (by decide))⟩, trivial⟩) (by rfl) (by kernel_rfl) ?_
       refine shM_v (v := .func (.func 43) #[] #[.pointer (some ⟨b_complaints, 0, none⟩), .pointer (some ⟨b_l, 0, none⟩), .pointer (some ⟨b_more, 0, none⟩)]) (ek := [(5, .pointer (some ⟨b_more, 0, none⟩))]) (Ls := []) rfl rfl rfl rfl ((sc rfl (sn _))) (by kernel_rfl) sm (fun H F' L' hF' hL' => v_load Tryz.isAgg106 rfl ((Has.frozen hb_more).ext hF' hL') rfl) ?_
       refine shM_v (v := .slice own_a own.length own_c) (ek := [(6, .pointer (some ⟨b1, 0, none⟩))]) (Ls := [(b1, .cells #[.slice own_a own.length own_c] 24 (0, 0))]) rfl rfl rfl rfl ((sc rfl (sn _))) (by kernel_rfl) (s0 (s1 (s2 sr))) (fun H F' L' hF' hL' => v_load Tryz.isAgg24 rfl ((Has.own 0 rfl).ext hF' hL') rfl) ?_
       refine shM_v (v := .int .i64 i) (ek := [(11, .pointer (some ⟨b27, 0, none⟩))]) (Ls := [(b27, .cells #[.int .i64 i] 3 (0, 0))]) rfl rfl rfl rfl ((sc rfl (sn _))) (by kernel_rfl) (s0 (s2 (s1 sr))) (fun H F' L' hF' hL' => v_load Tryz.isAgg3 rfl ((Has.own 0 rfl).ext hF' hL') rfl) ?_
       refine ⟨⟨_, rfl, (sc rfl (sn _)), by kernel_rfl⟩, ?_⟩
       refine shM_v (v := .int .i64 i) (ek := [(11, .pointer (some ⟨b27, 0, none⟩))]) (Ls := [(b27, .cells #[.int .i64 i] 3 (0, 0))]) rfl rfl rfl rfl ((sc rfl (sn _))) (by kernel_rfl) (s0 (s2 (s1 sr))) (fun H F' L' hF' hL' => v_load Tryz.isAgg3 rfl ((Has.own 0 rfl).ext hF' hL') rfl) ?_
       obtain ⟨g50, r51⟩ := gd_ok r49; clear r49
       refine shM_v (v := .int .i64 (i + 1)) (ek := [(41, .int .i64 i)]) (Ls := []) rfl rfl rfl rfl ((sc rfl (sn _))) (by kernel_rfl) sm (fun H F' L' hF' hL' => v_add rfl rfl g50) ?_
       refine shM_v (v := .int .i64 many) (ek := [(2, .int .i64 many)]) (Ls := []) rfl rfl rfl rfl ((sc rfl (sn _))) (by kernel_rfl) sm (fun H F' L' hF' hL' => v_move rfl) ?_
       obtain ⟨g52, r53⟩ := gd_ok r51; clear r51
       refine shM_v (v := .int .i64 (many - 1)) (ek := [(43, .int .i64 many)]) (Ls := []) rfl rfl rfl rfl ((sc rfl (sn _))) (by kernel_rfl) sm (fun H F' L' hF' hL' => v_sub rfl rfl g52) ?_
       refine ⟨_, [(36, .slice own_a own.length own_c)], rfl, rfl, (sc rfl (sn _)), by kernel_rfl, ?_⟩; intro H
       obtain ⟨l3, h54, r55⟩ := b1_ok r53; clear r53
       refine o_call0 rfl Tryz.call51 rfl rfl rfl (slices_Clone_int_int_w h_own h54) ?_; rintro _ F56 _ hF57 hn58 ⟨a60, n64, c61, Lb62, rfl, rfl, hz63⟩
       replace h_complaints := h_complaints.mono (prE_ok (iE_ok _) (prE_ok (iE_ok _) bE_ok)) hF57
       replace h_l := h_l.mono (prE_ok (arE_ok (n := 24) (sz := 1) cB_ok) (slE_ok (iE_ok _))) hF57
       replace hb_complaints := hF57 _ _ hb_complaints
       replace hb_l := hF57 _ _ hb_l
       replace hb_more := hF57 _ _ hb_more
       replace hz63 := hz63.new fun p hp => hn58 p (by simp [hp])
       refine shO_L (lp (ln rfl)) ?_
       refine kO (kf (fS fO) (kf (fS fO) kr)) ?_
       refine shO_nil ⟨_, rfl, hF57, [9, 8, 7, 6, 3, 0], by kernel_rfl, .inl (.inr (fun d h => by cases h; rfl)), (List.forall_mem_cons.2 ⟨sm, (List.forall_mem_cons.2 ⟨sm, (List.forall_mem_cons.2 ⟨sm, (List.forall_mem_cons.2 ⟨s0 (s2 (s1 (s3 sr))), (List.forall_mem_cons.2 ⟨s0 (s2 (s1 (s3 sr))), (List.forall_mem_cons.2 ⟨sm, (fun _ h => absurd h List.not_mem_nil)⟩)⟩)⟩)⟩)⟩)⟩), ?_⟩
       refine shM_bs rfl ?_; intro b66 hb66
       refine shM_L (L' := (b66, .cells #[.int .i64 i] 3 (0, 0)) :: ((b27, .cells #[.int .i64 i] 3 (0, 0)) :: ((b1, .cells #[.slice own_a own.length own_c] 24 (0, 0)) :: (Lb62 ++ [])))) rfl ?_
       refine ⟨_, [(37, .slice a60 n64 c61), (39, .slice (some ⟨b66, 0, none⟩) 1 1)], rfl, rfl, (sc rfl (sc rfl (sn _))), by kernel_rfl, ?_⟩; intro H
       obtain ⟨l4, h67, g68, r69⟩ := ap_ok r55; clear r55
       refine o_appZ (xs := l3) (ys := [i]) (zs := l4) rfl slt_24 rfl rfl (Nat.le_refl _) (fun _ => .c (.c (.c .h))) hz63 (SrcR.box (vss := [[.int .i64 i]]) (ys := [i]) 0 rfl (iE_ok _) (.cons rfl .nil) rfl rfl) h67 g68 (by decide) ?_; intro a70 n74 c71 Lb72 hz73
       refine kO (kd kr) ?_
       refine shO_nil ⟨_, rfl, FExt.refl _, [9, 8, 7, 6, 0], by kernel_rfl, .inl (.inr (fun d h => by cases h; rfl)), (List.forall_mem_cons.2 ⟨sm, (List.forall_mem_cons.2 ⟨sm, (List.forall_mem_cons.2 ⟨sm, (List.forall_mem_cons.2 ⟨s0 (s2 (s1 (s3 sr))), (List.forall_mem_cons.2 ⟨sm, (fun _ h => absurd h List.not_mem_nil)⟩)⟩)⟩)⟩)⟩), ?_⟩
       refine ⟨_, [(35, .func (.func 43) #[] #[.pointer (some ⟨b_complaints, 0, none⟩), .pointer (some ⟨b_l, 0, none⟩), .pointer (some ⟨b_more, 0, none⟩)]), (40, .slice a70 n74 c71), (42, .int .i64 (i + 1)), (44, .int .i64 (many - 1))], rfl, rfl, (sc rfl (sc rfl (sc rfl (sc rfl (sn _))))), by kernel_rfl, ?_⟩; intro H
       obtain rfl := (SlR.caps hz73).1
       refine shO_freezeR (Nat.le_refl _) (iE_ok _) (fC (fC fP)) hz73 ?_; intro F76 hF77 h78
       replace h_complaints := h_complaints.mono (prE_ok (iE_ok _) (prE_ok (iE_ok _) bE_ok)) hF77
       replace h_l := h_l.mono (prE_ok (arE_ok (n := 24) (sz := 1) cB_ok) (slE_ok (iE_ok _))) hF77
       replace hb_complaints := hF77 _ _ hb_complaints
       replace hb_l := hF77 _ _ hb_l
       replace hb_more := hF77 _ _ hb_more
       obtain ⟨l5, h79, r80⟩ := b1_ok r69; clear r69
       refine o_call0 rfl Tryz.call43 rfl rfl rfl (hrec h78 hb_complaints h_complaints hb_l h_l hb_more h79) ?_; rintro _ F81 _ hF82 hn83 ⟨a85, c86, rfl, rfl, h87, hq88⟩
       refine shO_L (ln rfl) ?_
       refine shO_nil ⟨_, rfl, (hF77.trans hF82), [], by kernel_rfl, .inl (.inl rfl), (fun _ h => absurd h List.not_mem_nil), ?_⟩
       refine shM_v (v := .slice a85 l5.length c86) (ek := [(45, .slice a85 l5.length c86)]) (Ls := []) rfl rfl rfl rfl ((sc rfl (sn _))) (by kernel_rfl) sm (fun H F' L' hF' hL' => v_assign rfl) ?_
       refine shM_nil ?_
       refine wsr (om rfl rfl ?_)
       refine ov ((v_neqNil Tryz.underlying24 rfl).b (nilq_ndec hq88)) rfl ?_
       refine shO_nil ?_
       refine shW_condP rfl (fun c89 => ?_) (fun c89 => ?_)
       · have r90 := ite_t r80 c89; clear r80
         refine wsr (om rfl rfl (oa rfl rfl (shO_nil ?_)))
         refine kW kn ?_
         refine shW_ret (inBlock_ret (andThen_ret (andThen_ret (inBlock_ret (andThen_ret ?_)))))
         refine q_res1 Tryz.results43 (res_tmp rfl) (sr) ?_
         obtain rfl := inj1 r90
         exact ⟨_, _, rfl, rfl, h87, hq88⟩
       have r91 := ite_f r80 c89; clear r80
       refine shW_skip (inBlock_n (id := 1) ?_)
       exact mi kr ⟨r91, ((hF57.trans hF77).trans hF82), rfl, (sc rfl (sc rfl (sc rfl (sc rfl (sc rfl (sc rfl (sn _)))))))⟩
     rintro e1 F94 _ ⟨r92, hF95, rfl, he93⟩
     refine shW_env _ he93 ?_; clear he93
     rw [book_Excludes_1B_j3] at r92
     refine shW_seq (wsr ?_)
     refine ov (v_load Tryz.isAgg3 rfl (Has.own 0 rfl) rfl) rfl ?_
     refine shO_nil (shW_region ?_)
     refine o_alloc rfl Tryz.zeroValue3 ?_; intro b96 hb96
     refine o_store (i := 0) Tryz.sizeOf3 rfl rfl rfl rfl (Nat.le_of_ble_eq_true rfl) ?_
     refine shO_L (L' := [(b96, .cells #[.int .i64 i] 3 (0, 0)), (b27, .cells #[.int .i64 i] 3 (0, 0)), (b1, .cells #[.slice own_a own.length own_c] 24 (0, 0))]) rfl ?_
     refine shO_nil (shW_region ?_)
     refine ov (v_load Tryz.isAgg3 rfl (Has.own 0 rfl) rfl) rfl ?_
     obtain ⟨g97, r98⟩ := gd_ok r92; clear r92
     refine ov (v_add rfl rfl g97) rfl ?_
     refine o_store (i := 0) Tryz.sizeOf3 rfl rfl rfl rfl (Nat.le_of_ble_eq_true rfl) ?_
     refine shO_L (L' := [(b96, .cells #[.int .i64 (i + 1)] 3 (0, 0)), (b27, .cells #[.int .i64 i] 3 (0, 0)), (b1, .cells #[.slice own_a own.length own_c] 24 (0, 0))]) rfl ?_
     refine shO_nil ?_
     exact le (kc (kd kr)) ⟨i + 1, b96, r98, (hF34.trans hF95), rfl, (sc rfl (sc rfl (sc rfl (sc rfl (sc rfl (sc rfl (sn _))))))), hb96⟩
   have r99 := ite_f r31 c35; clear r31
   refine shW_exit (andThen_exit (andThen_exit ?_))
   refine inBlock_exit ?_
   exact mi kn ⟨r99, hF34, rfl, (sn _)⟩
 rintro e1 F102 _ ⟨r100, hF103, rfl, he101⟩
 refine shW_env _ he101 ?_; clear he101
 rw [book_Excludes_1B_j1] at r100
 refine wsr (oa rfl rfl (shO_nil (shW_ret ?_)))
 refine q_res1 Tryz.results43 (res_tmp rfl) (sr) ?_
 obtain rfl := inj1 r100
 exact ⟨_, _, rfl, rfl, RowR.nil _ _ _, nilq_nil⟩
set_option maxHeartbeats 1000000 in
theorem book_Excludes_1_w : ∀ (fu : Nat) {own_a : Option Addr} {own_c : Nat} {own : List Int} {from_ : Int} {many : Int} {b_complaints : Nat} {complaints_a : Option Addr} {complaints_c : Nat} {complaints : List (Int × Int × Bool)} {mb_complaints : Nat × Nat} {b_l : Nat} {l_a : Option Addr} {l_c : Nat} {l : List ((List Bool) × (List Int))} {mb_l : Nat × Nat} {b_more : Nat} {mb_more : Nat × Nat} {F : FS} (_ : RowR 1 (iE .i64) F own_a own_c own) (_ : F b_complaints = some (.cells #[.slice complaints_a complaints.length complaints_c] 32 mb_complaints)) (_ : RowR 3 (prE (iE .i64) (prE (iE .i64) bE)) F complaints_a complaints_c complaints) (_ : F b_l = some (.cells #[.slice l_a l.length l_c] 97 mb_l)) (_ : RowR 25 (prE (arE 24 cB) (slE 1 (iE .i64))) F l_a l_c l) (_ : F b_more = some (.cells (#[.func (.func 43) #[] #[.pointer (some ⟨b_complaints, 0, none⟩), .pointer (some ⟨b_l, 0, none⟩), .pointer (some ⟨b_more, 0, none⟩)]]) 106 mb_more)) {r : List Int} , book_Excludes_1 fu own from_ many complaints l = some r → SH.Spec Tryz.prog 43 #[.slice own_a own.length own_c, .int .i64 from_, .int .i64 many, .pointer (some ⟨b_complaints, 0, none⟩), .pointer (some ⟨b_l, 0, none⟩), .pointer (some ⟨b_more, 0, none⟩)] F [] fun F' L' v => ∃ (ra : Option Addr) (rc : Nat), v = .slice ra r.length rc ∧ L' = [] ∧ RowR 1 (iE .i64) F' ra rc r ∧ (ra = none ↔ r = []) := by
  intro fu
  induction fu with
  | zero => intros; rename_i hr; rw [book_Excludes_1] at hr; cases hr
  | succ fu ih => intros; rename_i hr; rw [book_Excludes_1] at hr; exact book_Excludes_1B_w ih (by assumption) (by assumption) (by assumption) (by assumption) (by assumption) (by assumption) hr
set_option maxHeartbeats 1000000 in
theorem book_Excludes_w {houses : Int} {notices : Int} {hears_a : Option Addr} {hears_c : Nat} {hears : List (List (List Int))} {readings_a : Option Addr} {readings_c : Nat} {readings : List Int} {cries_a : Option Addr} {cries_c : Nat} {cries : List (Int × Int × Int)} {complaints_a : Option Addr} {complaints_c : Nat} {complaints : List (Int × Int × Bool)} {F : FS} (h_hears : RowR 1 (slE 1 (slE 1 (iE .i64))) F hears_a hears_c hears) (h_readings : RowR 1 (iE .i64) F readings_a readings_c readings) (h_cries : RowR 3 (prE (iE .i64) (prE (iE .i64) (iE .i64))) F cries_a cries_c cries) (h_complaints : RowR 3 (prE (iE .i64) (prE (iE .i64) bE)) F complaints_a complaints_c complaints) {r : List Int} {r2 : Int} (hr : book_Excludes houses notices hears readings cries complaints = some (r, r2)) :
    SH.Spec Tryz.prog 11 #[.agg #[.int .i64 houses, .int .i64 notices, .slice hears_a hears.length hears_c, .slice readings_a readings.length readings_c, .slice cries_a cries.length cries_c], .slice complaints_a complaints.length complaints_c] F [] fun F' L' v => ∃ (ra : Option Addr) (rc : Nat), v = .tuple #[.slice ra r.length rc, .int .i64 r2] ∧ L' = [] ∧ RowR 1 (iE .i64) F' ra rc r := by
 refine spec_of_shW (args := [.agg #[.int .i64 houses, .int .i64 notices, .slice hears_a hears.length hears_c, .slice readings_a readings.length readings_c, .slice cries_a cries.length cries_c], .slice complaints_a complaints.length complaints_c]) Tryz.func11 rfl Tryz.ntmps11 (Nat.le_of_ble_eq_true rfl) ?_
 intro K _ _; rw [book_Excludes] at hr
 refine wsr ?_
 refine o_box rfl rfl ?_; intro b1 hb1
 refine o_box rfl rfl ?_; intro b2 hb2
 refine oa rfl rfl (oa rfl rfl (nsr ?_))
 refine ov (v_loadA (cs := #[.int .i64 houses, .int .i64 notices, .slice hears_a hears.length hears_c, .slice readings_a readings.length readings_c, .slice cries_a cries.length cries_c]) Tryz.isAgg27 Tryz.sizeOf27 rfl (Has.own 1 rfl) (Nat.le_of_ble_eq_true rfl) rfl) rfl ?_
 refine ov (v_load Tryz.isAgg32 rfl (Has.own 0 rfl) rfl) rfl ?_
 obtain ⟨l, n, h3, r4⟩ := b2_ok hr; clear hr
 refine o_call0 rfl Tryz.call41 rfl rfl rfl (book_heard_w h_hears h_readings h_cries h_complaints h3) ?_; rintro _ F5 _ hF6 hn7 ⟨a9, n13, c10, Lb11, rfl, rfl, hz12⟩
 replace h_complaints := h_complaints.mono (prE_ok (iE_ok _) (prE_ok (iE_ok _) bE_ok)) hF6
 replace hz12 := hz12.new fun p hp => hn7 p (by simp [hp])
 refine shO_L (lp (ln rfl)) ?_
 refine kO (kf (fS fO) (kf (fS fO) kr)) ?_
 refine om rfl rfl (ox rfl rfl rfl (ox rfl rfl rfl ?_))
 refine o_alloc rfl Tryz.zeroValue97 ?_; intro b15 hb15
 refine o_store (i := 0) Tryz.sizeOf97 rfl rfl rfl rfl (Nat.le_of_ble_eq_true rfl) ?_
 refine shO_L (L' := (b15, .cells #[.slice a9 n13 c10] 97 (0, 0)) :: ((b2, .cells #[.slice complaints_a complaints.length complaints_c] 32 (0, 0)) :: ((b1, .cells #[.int .i64 houses, .int .i64 notices, .slice hears_a hears.length hears_c, .slice readings_a readings.length readings_c, .slice cries_a cries.length cries_c] 27 (0, 0)) :: (Lb11 ++ [])))) rfl ?_
 refine oa rfl rfl (shO_nil (shW_seq (wsr (om rfl rfl ?_))))
 refine ov (v_neq rfl rfl) rfl ?_
 refine shO_nil ?_
 refine shW_condP rfl (fun c16 => ?_) (fun c16 => ?_)
 · have r17 := ite_t r4 c16; clear r4
   refine wsr (om rfl rfl (oa rfl rfl (oa rfl rfl (shO_nil ?_))))
   refine kW kn ?_
   refine shW_ret (andThen_ret ?_)
   refine q_res2 Tryz.results11 (res_tmp rfl) (res_tmp rfl) (sr) ?_
   obtain ⟨rfl, rfl⟩ := inj2 r17
   exact ⟨_, _, rfl, rfl, RowR.nil _ _ _⟩
 have r18 := ite_f r4 c16; clear r4
 refine shW_skip ?_
 refine shW_join (fun e1 F1 L1 => book_Excludes_j1 = some (r, r2) ∧ FExt F5 F1 ∧ L1 = [] ∧ e1.sub []) ?_ ?_
 · refine wsr (oa rfl rfl (shO_nil ?_))
   refine shW_block ?_
   refine kW (kc (kc (kd kr))) ?_
   refine shW_freeze 1 rfl hb2 ?_; intro F19 hF20 hz21
   refine shW_L (L' := (b15, .cells #[.slice a9 n13 c10] 97 (0, 0)) :: (Lb11 ++ [])) rfl ?_
   replace h_complaints := h_complaints.mono (prE_ok (iE_ok _) (prE_ok (iE_ok _) bE_ok)) hF20
   replace hz12 := hz12.mono (prE_ok (arE_ok (n := 24) (sz := 1) cB_ok) (slE_ok (iE_ok _))) hF20
   obtain rfl := (SlR.caps hz12).1
   refine shW_freezeR (Nat.le_refl _) (prE_ok (arE_ok (n := 24) (sz := 1) cB_ok) (slE_ok (iE_ok _))) (fC fP) hz12 ?_; intro F22 hF23 h24
   replace h_complaints := h_complaints.mono (prE_ok (iE_ok _) (prE_ok (iE_ok _) bE_ok)) hF23
   replace hz21 := hF23 _ _ hz21
   refine shW_freeze 0 rfl hb15 ?_; intro F25 hF26 hz27
   refine shW_L (L' := []) rfl ?_
   replace h_complaints := h_complaints.mono (prE_ok (iE_ok _) (prE_ok (iE_ok _) bE_ok)) hF26
   replace h24 := h24.mono (prE_ok (arE_ok (n := 24) (sz := 1) cB_ok) (slE_ok (iE_ok _))) hF26
   replace hz21 := hF26 _ _ hz21
   refine shW_lpF (fun fu2 e1 F1 L1 => ∃ (many : Int), book_Excludes_l2 complaints l fu2 many = some (r, r2) ∧ FExt F25 F1 ∧ L1 = [] ∧ e1.sub [(3, .pointer (some ⟨b2, 0, none⟩)), (6, .pointer (some ⟨b15, 0, none⟩)), (8, .int .i64 many)]) FU (m0 kr ⟨1, r18, FExt.refl _, rfl, (sc rfl (sc rfl (sc rfl (sn _))))⟩) ?_
   rintro fu2 e1 F32 _ ⟨many, r30, hF33, rfl, he31⟩
   refine shW_env _ he31 ?_; clear he31
   replace h_complaints := h_complaints.mono (prE_ok (iE_ok _) (prE_ok (iE_ok _) bE_ok)) hF33
   replace h24 := h24.mono (prE_ok (arE_ok (n := 24) (sz := 1) cB_ok) (slE_ok (iE_ok _))) hF33
   replace hz21 := hF33 _ _ hz21
   replace hz27 := hF33 _ _ hz27
   rcases fu2 with _ | fu2
   · rw [book_Excludes_l2] at r30; cases r30
   rw [book_Excludes_l2] at r30
   refine shW_seq (wsr (om rfl rfl ?_))
   refine ov (v_load Tryz.isAgg32 rfl (Has.frozen hz21) rfl) rfl ?_
   refine ov (v_lenS Tryz.underlying32 rfl) rfl ?_
   refine ov (v_leqK rfl rfl) rfl ?_
   refine shO_nil ?_
   refine shW_condP rfl (fun c34 => ?_) (fun c34 => ?_)
   · have r35 := ite_t r30 c34; clear r30
     refine shW_skip (shW_seq ?_)
     refine shW_block ?_
     refine wsr ?_
     refine o_alloc rfl Tryz.zeroValue106 ?_; intro b36 hb36
     refine nsr ?_
     refine ov (v_makeFunc rfl rfl) rfl ?_
     refine o_store (i := 0) Tryz.sizeOf106 rfl rfl rfl rfl (Nat.le_of_ble_eq_true rfl) ?_
     refine shO_L (L' := [(b36, .cells (#[.func (.func 43) #[] #[.pointer (some ⟨b2, 0, none⟩), .pointer (some ⟨b15, 0, none⟩), .pointer (some ⟨b36, 0, none⟩)]]) 106 (0, 0))]) rfl ?_
     refine nsr ?_
     refine ov (v_load Tryz.isAgg106 rfl (Has.own 0 rfl) rfl) rfl ?_
     refine om rfl rfl ?_
     refine shO_freeze 0 rfl hb36 ?_; intro F37 hF38 hz39
     refine shO_L (L' := []) rfl ?_
     replace h_complaints := h_complaints.mono (prE_ok (iE_ok _) (prE_ok (iE_ok _) bE_ok)) hF38
     replace h24 := h24.mono (prE_ok (arE_ok (n := 24) (sz := 1) cB_ok) (slE_ok (iE_ok _))) hF38
     replace hz21 := hF38 _ _ hz21
     replace hz27 := hF38 _ _ hz27
     obtain ⟨l2, h40, r41⟩ := b1_ok r35; clear r35
     refine o_call0 rfl Tryz.call43 rfl rfl rfl ((book_Excludes_1_w FU) (RowR.nil _ _ _) hz21 h_complaints hz27 h24 hz39 h40) ?_; rintro _ F42 _ hF43 hn44 ⟨a46, c47, rfl, rfl, h48, hq49⟩
     refine shO_L (ln rfl) ?_
     refine oa rfl rfl (nsr (om rfl rfl ?_))
     refine ov ((v_neqNil Tryz.underlying24 rfl).b (nilq_ndec hq49)) rfl ?_
     refine shO_nil ?_
     refine shW_condP rfl (fun c50 => ?_) (fun c50 => ?_)
     · have r51 := ite_t r41 c50; clear r41
       refine wsr (om rfl rfl (oa rfl rfl (oa rfl rfl (shO_nil (shW_ret (inBlock_ret (andThen_ret (andThen_ret (inBlock_ret ?_)))))))))
       refine andThen_ret ?_
       refine q_res2 Tryz.results11 (res_tmp rfl) (res_tmp rfl) (sr) ?_
       obtain ⟨rfl, rfl⟩ := inj2 r51
       exact ⟨_, _, rfl, rfl, h48⟩
     have r52 := ite_f r41 c50; clear r41
     refine shW_skip (inBlock_n (id := 1) (shW_region (om rfl rfl ?_)))
     obtain ⟨g53, r54⟩ := gd_ok r52; clear r52
     refine ov (v_add rfl rfl g53) rfl ?_
     refine oa rfl rfl (shO_nil ?_)
     refine lf ?_
     exact mf kr ⟨many + 1, r54, ((hF33.trans hF38).trans hF43), rfl, (sc rfl (sc rfl (sc rfl (sn _))))⟩
   have r55 := ite_f r30 c34; clear r30
   refine shW_exit (andThen_exit (andThen_exit ?_))
   refine inBlock_exit ?_
   exact mi kr ⟨r55, (((hF20.trans hF23).trans hF26).trans hF33), rfl, (sn _)⟩
 rintro e1 F58 _ ⟨r56, hF59, rfl, he57⟩
 refine shW_env _ he57 ?_; clear he57
 rw [book_Excludes_j1] at r56
 refine wsr (oa rfl rfl (oa rfl rfl (shO_nil (shW_ret ?_))))
 refine q_res2 Tryz.results11 (res_tmp rfl) (res_tmp rfl) (sr) ?_
 obtain ⟨rfl, rfl⟩ := inj2 r56
 exact ⟨_, _, rfl, rfl, RowR.nil _ _ _⟩
set_option maxHeartbeats 1000000 in
theorem book_Together_1_w {g : List Bool} {b_complaints : Nat} {complaints_a : Option Addr} {complaints_c : Nat} {complaints : List (Int × Int × Bool)} {mb_complaints : Nat × Nat} {F : FS} (h_g : g.length = 24) (hb_complaints : F b_complaints = some (.cells #[.slice complaints_a complaints.length complaints_c] 32 mb_complaints)) (h_complaints : RowR 3 (prE (iE .i64) (prE (iE .i64) bE)) F complaints_a complaints_c complaints) {r : Bool} (hr : book_Together_1 g complaints = some r) :
    SpecV Tryz.prog 52 #[.agg (arr cB g), .pointer (some ⟨b_complaints, 0, none⟩)] F (.bool r) := by
 refine spec_of_shW (args := [.agg (arr cB g), .pointer (some ⟨b_complaints, 0, none⟩)]) Tryz.func52 rfl Tryz.ntmps52 (Nat.le_of_ble_eq_true rfl) ?_
 intro K _ _; rw [book_Together_1] at hr
 refine wsr ?_
 refine o_box rfl rfl ?_; intro b1 hb1
 refine oa rfl rfl (nsr ?_)
 refine ov (v_load Tryz.isAgg32 rfl (Has.frozen hb_complaints) rfl) rfl ?_
 refine ov (v_loadW Tryz.isAgg103 Tryz.sizeOf103 rfl (Has.own 0 rfl) (arr_sz cB_ok h_g)) rfl ?_
 obtain ⟨l, h2, r3⟩ := b1_ok hr; clear hr
 refine o_call0 rfl Tryz.call42 rfl rfl rfl (book_wrong_w h_complaints h_g h2) ?_; rintro _ F4 _ hF5 hn6 ⟨a8, n12, c9, Lb10, rfl, rfl, hz11⟩
 replace hz11 := hz11.new fun p hp => hn6 p (by simp [hp])
 refine shO_L (lp (ln rfl)) ?_
 refine kO (kf (fS fO) kr) ?_
 refine ov ((v_lenS Tryz.underlying24 rfl).i (SlR.lenI hz11)) rfl ?_
 refine ov (v_eql rfl rfl) rfl ?_
 refine oa rfl rfl (shO_nil ?_)
 refine kW kn ?_
 refine shW_ret ?_
 refine q_res1 Tryz.results52 (res_tmp rfl) (sr) ?_
 obtain rfl := inj1 r3
 exact rfl
set_option maxHeartbeats 1000000 in
theorem book_Together_w {houses : Int} {notices : Int} {hears_a : Option Addr} {hears_c : Nat} {hears : List (List (List Int))} {readings_a : Option Addr} {readings_c : Nat} {readings : List Int} {cries_a : Option Addr} {cries_c : Nat} {cries : List (Int × Int × Int)} {complaints_a : Option Addr} {complaints_c : Nat} {complaints : List (Int × Int × Bool)} {F : FS} (h_hears : RowR 1 (slE 1 (slE 1 (iE .i64))) F hears_a hears_c hears) (h_readings : RowR 1 (iE .i64) F readings_a readings_c readings) (h_cries : RowR 3 (prE (iE .i64) (prE (iE .i64) (iE .i64))) F cries_a cries_c cries) (h_complaints : RowR 3 (prE (iE .i64) (prE (iE .i64) bE)) F complaints_a complaints_c complaints) {r : List Int} {r2 : Int} (hr : book_Together houses notices hears readings cries complaints = some (r, r2)) :
    SH.Spec Tryz.prog 12 #[.agg #[.int .i64 houses, .int .i64 notices, .slice hears_a hears.length hears_c, .slice readings_a readings.length readings_c, .slice cries_a cries.length cries_c], .slice complaints_a complaints.length complaints_c] F [] fun F' L' v => ∃ (ra : Option Addr) (rc : Nat), v = .tuple #[.slice ra r.length rc, .int .i64 r2] ∧ L' = [] ∧ RowR 1 (iE .i64) F' ra rc r := by
 refine spec_of_shW (args := [.agg #[.int .i64 houses, .int .i64 notices, .slice hears_a hears.length hears_c, .slice readings_a readings.length readings_c, .slice cries_a cries.length cries_c], .slice complaints_a complaints.length complaints_c]) Tryz.func12 rfl Tryz.ntmps12 (Nat.le_of_ble_eq_true rfl) ?_
 intro K _ _; rw [book_Together] at hr
 refine wsr ?_
 refine o_box rfl rfl ?_; intro b1 hb1
 refine o_box rfl rfl ?_; intro b2 hb2
 refine oa rfl rfl (oa rfl rfl (nsr ?_))
 refine ov (v_loadA (cs := #[.int .i64 houses, .int .i64 notices, .slice hears_a hears.length hears_c, .slice readings_a readings.length readings_c, .slice cries_a cries.length cries_c]) Tryz.isAgg27 Tryz.sizeOf27 rfl (Has.own 1 rfl) (Nat.le_of_ble_eq_true rfl) rfl) rfl ?_
 refine ov (v_load Tryz.isAgg32 rfl (Has.own 0 rfl) rfl) rfl ?_
 obtain ⟨l, n, h3, r4⟩ := b2_ok hr; clear hr
 refine o_call0 rfl Tryz.call41 rfl rfl rfl (book_heard_w h_hears h_readings h_cries h_complaints h3) ?_; rintro _ F5 _ hF6 hn7 ⟨a9, n13, c10, Lb11, rfl, rfl, hz12⟩
 replace h_complaints := h_complaints.mono (prE_ok (iE_ok _) (prE_ok (iE_ok _) bE_ok)) hF6
 replace hz12 := hz12.new fun p hp => hn7 p (by simp [hp])
 refine shO_L (lp (ln rfl)) ?_
 refine kO (kf (fS fO) (kf (fS fO) kr)) ?_
 refine om rfl rfl (ox rfl rfl rfl (ox rfl rfl rfl (oa rfl rfl (oa rfl rfl (shO_nil (shW_seq (wsr (om rfl rfl ?_))))))))
 refine ov (v_neq rfl rfl) rfl ?_
 refine shO_nil ?_
 refine shW_condP rfl (fun c15 => ?_) (fun c15 => ?_)
 · have r16 := ite_t r4 c15; clear r4
   refine wsr (om rfl rfl (oa rfl rfl (oa rfl rfl (shO_nil ?_))))
   refine kW kn ?_
   refine shW_ret (andThen_ret ?_)
   refine q_res2 Tryz.results12 (res_tmp rfl) (res_tmp rfl) (sr) ?_
   obtain ⟨rfl, rfl⟩ := inj2 r16
   exact ⟨_, _, rfl, rfl, RowR.nil _ _ _⟩
 have r17 := ite_f r4 c15; clear r4
 refine shW_skip (wsr ?_)
 refine ov (v_makeFunc rfl rfl) rfl ?_
 refine ov (v_build (v := .agg (#[.func (.func 52) #[] #[.pointer (some ⟨b2, 0, none⟩)]])) rfl (by intro w; kernel_rfl)) rfl ?_
 refine om rfl rfl ?_
 refine shO_freeze 0 rfl hb2 ?_; intro F18 hF19 hz20
 refine shO_L (L' := (b1, .cells #[.int .i64 houses, .int .i64 notices, .slice hears_a hears.length hears_c, .slice readings_a readings.length readings_c, .slice cries_a cries.length cries_c] 27 (0, 0)) :: (Lb11 ++ [])) rfl ?_
 replace h_complaints := h_complaints.mono (prE_ok (iE_ok _) (prE_ok (iE_ok _) bE_ok)) hF19
 replace hz12 := hz12.mono (prE_ok (arE_ok (n := 24) (sz := 1) cB_ok) (slE_ok (iE_ok _))) hF19
 have hn22 : FnR Tryz.prog F18 52 #[] #[.pointer (some ⟨b2, 0, none⟩)] (agE (arE 24 cB)) Value.bool (fun xx_ : (List Bool) => book_Together_1 xx_ complaints) := ⟨Tryz.call52, fun F2 h2 vs xx_ r ha hr => by obtain ⟨_, rfl, ⟨rfl, h21⟩⟩ := ha; exact book_Together_1_w h21 (h2 _ _ hz20) (h_complaints.mono (prE_ok (iE_ok _) (prE_ok (iE_ok _) bE_ok)) h2) hr⟩
 obtain rfl := (SlR.caps hz12).1
 refine shO_freezeR (Nat.le_refl _) (prE_ok (arE_ok (n := 24) (sz := 1) cB_ok) (slE_ok (iE_ok _))) (fC fP) hz12 ?_; intro F23 hF24 h25
 replace hn22 := hn22.mono hF24
 obtain ⟨l2, h26, r27⟩ := b1_ok r17; clear r17
 refine o_call0 rfl Tryz.call48 rfl rfl rfl (book_goal_find_w hn22 h25 h26) ?_; rintro _ F28 _ hF29 hn30 ⟨a32, c33, rfl, rfl, h34, hq35⟩
 refine shO_L (ln rfl) ?_
 refine oa rfl rfl (shO_nil (shW_seq (wsr (om rfl rfl ?_))))
 refine ov ((v_eqlNil Tryz.underlying24 rfl).b (nilq_dec hq35)) rfl ?_
 refine shO_nil ?_
 refine shW_condP rfl (fun c36 => ?_) (fun c36 => ?_)
 · have r37 := ite_t r27 c36; clear r27
   refine wsr (oa rfl rfl (oa rfl rfl (shO_nil ?_)))
   refine kW kn ?_
   refine shW_ret (andThen_ret ?_)
   refine q_res2 Tryz.results12 (res_tmp rfl) (res_tmp rfl) (sr) ?_
   obtain ⟨rfl, rfl⟩ := inj2 r37
   exact ⟨_, _, rfl, rfl, RowR.nil _ _ _⟩
 have r38 := ite_f r27 c36; clear r27
 refine shW_skip (wsr (om rfl rfl (oa rfl rfl (oa rfl rfl (shO_nil ?_)))))
 refine kW kn ?_
 refine shW_ret ?_
 refine q_res2 Tryz.results12 (res_tmp rfl) (res_tmp rfl) (sr) ?_
 obtain ⟨rfl, rfl⟩ := inj2 r38
 exact ⟨_, _, rfl, rfl, h34⟩
set_option maxHeartbeats 1000000 in
theorem cmp_Less_int_w {x : Int} {y : Int} {F : FS} {r : Bool} (hr : cmp_Less_int x y = some r) :
    SpecV Tryz.prog 53 #[.int .i64 x, .int .i64 y] F (.bool r) := by
 refine spec_of_shW (args := [.int .i64 x, .int .i64 y]) Tryz.func53 rfl Tryz.ntmps53 (Nat.le_of_ble_eq_true rfl) ?_
 intro K _ _; rw [cmp_Less_int] at hr
 refine wsr (oa rfl rfl (nsr (om rfl rfl ?_)))
 obtain ⟨ok, h1, r2⟩ := b1_ok hr; clear hr
 refine o_callV rfl Tryz.call90 rfl rfl rfl (cmp_isNaN_int_w h1) ?_
 refine om rfl rfl ?_
 rcases bool_two ok with c3 | c3
 · have r4 := bt r2 c3; clear r2
   refine shO_on (b := true) 7 rfl (EnvB rfl c3) (om rfl rfl (shO_on (b := true) 7 rfl (EnvB rfl c3) ?_))
   obtain ⟨ok2, h5, r6⟩ := b1_ok r4; clear r4
   refine o_callV rfl Tryz.call90 rfl rfl rfl (cmp_isNaN_int_w h5) ?_
   refine shO_on (b := true) 7 rfl (EnvB rfl c3) ?_
   refine ov (v_notB rfl) rfl ?_
   refine ov (v_pick_t (evB rfl c3) rfl) rfl ?_
   refine om rfl rfl ?_
   rcases bool_two (!ok2) with c7 | c7
   · have r8 := bt r6 c7; clear r6
     refine shO_off (b' := true) 12 rfl (EnvB rfl c7) rfl rfl (shO_off (b' := true) 12 rfl (EnvB rfl c7) rfl rfl (shO_off (b' := true) 12 rfl (EnvB rfl c7) rfl rfl ?_))
     refine ov (v_pick_t (evB rfl c7) rfl) rfl ?_
     refine oa rfl rfl (shO_nil (shW_ret ?_))
     refine q_res1 Tryz.results53 (res_tmp rfl) (sr) ?_
     obtain rfl := inj1 r8
     exact rfl
   have r9 := bf r6 c7; clear r6
   refine shO_on (b := false) 12 rfl (EnvB rfl c7) (om rfl rfl (shO_on (b := false) 12 rfl (EnvB rfl c7) (om rfl rfl (shO_on (b := false) 12 rfl (EnvB rfl c7) ?_))))
   refine ov (v_lssK rfl rfl) rfl ?_
   refine ov (v_pick_f (evB rfl c7) rfl) rfl ?_
   refine oa rfl rfl (shO_nil (shW_ret ?_))
   refine q_res1 Tryz.results53 (res_tmp rfl) (sr) ?_
   obtain rfl := inj1 r9
   exact rfl
 have r10 := bf r2 c3; clear r2
 refine shO_off (b' := false) 7 rfl (EnvB rfl c3) rfl rfl (shO_off (b' := false) 7 rfl (EnvB rfl c3) rfl rfl (shO_off (b' := false) 7 rfl (EnvB rfl c3) rfl rfl ?_))
 refine ov (v_pick_f (evB rfl c3) rfl) rfl ?_
 refine om rfl rfl (shO_on (b := false) 12 rfl rfl (om rfl rfl (shO_on (b := false) 12 rfl rfl (om rfl rfl (shO_on (b := false) 12 rfl rfl ?_)))))
 refine ov (v_lssK rfl rfl) rfl ?_
 refine ov (v_pick_f rfl rfl) rfl ?_
 refine oa rfl rfl (shO_nil (shW_ret ?_))
 refine q_res1 Tryz.results53 (res_tmp rfl) (sr) ?_
 obtain rfl := inj1 r10
 exact rfl
set_option maxHeartbeats 1000000 in
theorem slices_IsSorted_int_int_w {x_a : Option Addr} {x_c : Nat} {x : List Int} {F : FS} (h_x : RowR 1 (iE .i64) F x_a x_c x) {r : Bool} (hr : slices_IsSorted_int_int x = some r) :
    SpecV Tryz.prog 13 #[.slice x_a x.length x_c] F (.bool r) := by
 refine spec_of_shW (args := [.slice x_a x.length x_c]) Tryz.func13 rfl Tryz.ntmps13 (Nat.le_of_ble_eq_true rfl) ?_
 intro K _ _; rw [slices_IsSorted_int_int] at hr
 refine wsr (oa rfl rfl (shO_nil ?_))
 refine shW_join (fun e1 F1 L1 => slices_IsSorted_int_int_j1 = some r ∧ F = F1 ∧ L1 = [] ∧ e1.sub []) ?_ ?_
 · refine wsr (om rfl rfl ?_)
   refine ov (v_lenS Tryz.underlying24 rfl) rfl ?_
   obtain ⟨g1, r2⟩ := gd_ok hr; clear hr
   refine ov (v_sub rfl rfl g1) rfl ?_
   refine oa rfl rfl (shO_nil ?_)
   refine shW_block ?_
   refine shW_lp (fun fu2 e1 F1 L1 => ∃ (i : Int), slices_IsSorted_int_int_l2 x fu2 i = some r ∧ F = F1 ∧ L1 = [] ∧ e1.sub [(0, .slice x_a x.length x_c), (3, .int .i64 i)]) FU (m0 kr ⟨(x.length : Int) - 1, r2, rfl, rfl, (sc rfl (sc rfl (sn _)))⟩) ?_
   rintro fu2 e1 _ _ ⟨i, r5, rfl, rfl, he6⟩
   refine shW_env _ he6 ?_; clear he6
   rcases fu2 with _ | fu2
   · rw [slices_IsSorted_int_int_l2] at r5; cases r5
   rw [slices_IsSorted_int_int_l2] at r5
   refine shW_seq (wsr (om rfl rfl ?_))
   refine ov (v_gtrK rfl rfl) rfl ?_
   refine shO_nil ?_
   refine shW_condP rfl (fun c7 => ?_) (fun c7 => ?_)
   · have r8 := ite_t r5 c7; clear r5
     refine shW_skip (shW_seq ?_)
     refine shW_block ?_
     refine wsd (by kernel_rfl) (by kernel_rfl) (by kernel_rfl) ?_
     refine qm rfl rfl (qm rfl rfl ?_)
     obtain ⟨x2, g9, hx10, r11⟩ := ix_ok r8; clear r8
     obtain ⟨b12, o13, c14, vs15, ha16, hs17, hle18, rfl, hl19, hc20⟩ := RowR.at (iE_ok _) h_x ([]) g9.1 hx10
     refine qv (v_indexO Tryz.underlying24 Tryz.sizeOf3 rfl ha16 rfl g9) rfl ?_
     refine qv (v_load Tryz.isAgg3 rfl hs17 (hc20 0 (by decide))) rfl ?_
     refine qm rfl rfl (qm rfl rfl ?_)
     obtain ⟨g21, r22⟩ := gd_ok r11; clear r11
     refine qv (v_sub rfl rfl g21) rfl ?_
     obtain ⟨x3, g23, hx24, r25⟩ := ix_ok r22; clear r22
     obtain ⟨b26, o27, c28, vs29, ha30, hs31, hle32, rfl, hl33, hc34⟩ := RowR.at (iE_ok _) h_x ([]) g23.1 hx24
     refine qv (v_indexO Tryz.underlying24 Tryz.sizeOf3 rfl ha30 rfl g23) rfl ?_
     refine qv (v_load Tryz.isAgg3 rfl hs31 (hc34 0 (by decide))) rfl ?_
     obtain ⟨ok, h35, r36⟩ := b1_ok r25; clear r25
     refine shQ_callV rfl Tryz.call53 rfl rfl rfl (cmp_Less_int_w h35) ?_
     refine shQ_nil ?_
     refine shW_cond rfl (fun c37 => ?_) (fun c37 => ?_)
     · have r38 := bt r36 c37; clear r36
       refine wsr (oa rfl rfl (shO_nil (shW_ret (inBlock_ret (andThen_ret (andThen_ret (inBlock_ret (andThen_ret ?_))))))))
       refine q_res1 Tryz.results13 (res_tmp rfl) (sr) ?_
       obtain rfl := inj1 r38
       exact rfl
     have r39 := bf r36 c37; clear r36
     refine shW_skip (inBlock_n (id := 1) (shW_region (om rfl rfl ?_)))
     obtain ⟨g40, r41⟩ := gd_ok r39; clear r39
     refine ov (v_sub rfl rfl g40) rfl ?_
     refine oa rfl rfl (shO_nil ?_)
     exact le kr ⟨i - 1, r41, rfl, rfl, (sc rfl (sc rfl (sn _)))⟩
   have r42 := ite_f r5 c7; clear r5
   refine shW_exit (andThen_exit (andThen_exit ?_))
   refine inBlock_exit ?_
   exact mi kr ⟨r42, rfl, rfl, (sn _)⟩
 rintro e1 _ _ ⟨r43, rfl, rfl, he44⟩
 refine shW_env _ he44 ?_; clear he44
 rw [slices_IsSorted_int_int_j1] at r43
 refine wsr (oa rfl rfl (shO_nil (shW_ret ?_)))
 refine q_res1 Tryz.results13 (res_tmp rfl) (sr) ?_
 obtain rfl := inj1 r43
 exact rfl
set_option maxHeartbeats 1000000 in
theorem book_course_1_w {w : Int} {F : FS} {r : Bool} (hr : book_course_1 w = some r) :
    SpecV Tryz.prog 94 #[.int .i64 w] F (.bool r) := by
 refine spec_of_shW (args := [.int .i64 w]) Tryz.func94 rfl Tryz.ntmps94 (Nat.le_of_ble_eq_true rfl) ?_
 intro K _ _; rw [book_course_1] at hr
 refine wsr (oa rfl rfl (nsr (om rfl rfl ?_)))
 obtain ⟨ok, h1, r2⟩ := b1_ok hr; clear hr
 refine o_callV rfl Tryz.call95 rfl rfl rfl (book_in_w h1) ?_
 refine oa rfl rfl (shO_nil (shW_ret ?_))
 refine q_res1 Tryz.results94 (res_tmp rfl) (sr) ?_
 obtain rfl := inj1 r2
 exact rfl
set_option maxHeartbeats 1000000 in
theorem book_course_w {houses : Int} {notices : Int} {hears_a : Option Addr} {hears_c : Nat} {hears : List (List (List Int))} {readings_a : Option Addr} {readings_c : Nat} {readings : List Int} {cries_a : Option Addr} {cries_c : Nat} {cries : List (Int × Int × Int)} {l_a : Option Addr} {l_c : Nat} {l : List Int} {F : FS} (h_hears : RowR 1 (slE 1 (slE 1 (iE .i64))) F hears_a hears_c hears) (h_readings : RowR 1 (iE .i64) F readings_a readings_c readings) (h_cries : RowR 3 (prE (iE .i64) (prE (iE .i64) (iE .i64))) F cries_a cries_c cries) (h_l : RowR 1 (iE .i64) F l_a l_c l) {r : Option (Int × Int × (List (List (List Int))) × (List Int) × (List (Int × Int × Int)))} {r2 : Int} (hr : book_course houses notices hears readings cries l = some (r, r2)) :
    SH.Spec Tryz.prog 55 #[.agg #[.int .i64 houses, .int .i64 notices, .slice hears_a hears.length hears_c, .slice readings_a readings.length readings_c, .slice cries_a cries.length cries_c], .slice l_a l.length l_c] F [] fun F' L' v => ∃ (rv : Value), v = .tuple #[rv, .int .i64 r2] ∧ L' = [] ∧ PtrR 171 (prE (iE .i64) (prE (iE .i64) (prE (slE 1 (slE 1 (slE 1 (iE .i64)))) (prE (slE 1 (iE .i64)) (slE 3 (prE (iE .i64) (prE (iE .i64) (iE .i64)))))))) F' rv r := by
 refine spec_of_shW (args := [.agg #[.int .i64 houses, .int .i64 notices, .slice hears_a hears.length hears_c, .slice readings_a readings.length readings_c, .slice cries_a cries.length cries_c], .slice l_a l.length l_c]) Tryz.func55 rfl Tryz.ntmps55 (Nat.le_of_ble_eq_true rfl) ?_
 intro K _ _; rw [book_course] at hr
 refine wsr ?_
 refine o_box rfl rfl ?_; intro b1 hb1
 refine oa rfl rfl (oa rfl rfl (nsr ?_))
 refine ov (v_loadA (cs := #[.int .i64 houses, .int .i64 notices, .slice hears_a hears.length hears_c, .slice readings_a readings.length readings_c, .slice cries_a cries.length cries_c]) Tryz.isAgg27 Tryz.sizeOf27 rfl (Has.own 0 rfl) (Nat.le_of_ble_eq_true rfl) rfl) rfl ?_
 obtain ⟨d, n, h2, r3⟩ := b2_ok hr; clear hr
 refine o_call0 rfl Tryz.call93 rfl rfl rfl (book_opened_w h_hears h_readings h_cries h2) ?_; rintro _ F4 _ hF5 hn6 ⟨v8, rfl, rfl, hp9⟩
 replace h_l := h_l.mono (iE_ok _) hF5
 refine shO_L (ln rfl) ?_
 refine om rfl rfl (ox rfl rfl rfl (ox rfl rfl rfl (oa rfl rfl (oa rfl rfl (shO_nil (shW_seq ?_))))))
 refine shW_block ?_
 refine wsr (om rfl rfl ?_)
 refine ov (v_neq rfl rfl) rfl ?_
 refine oa rfl rfl (shO_nil ?_)
 refine shW_condP rfl (fun c10 => ?_) (fun c10 => ?_)
 · have r11 := ite_t r3 c10; clear r3
   refine wsr (om rfl rfl (oa rfl rfl (oa rfl rfl (shO_nil ?_))))
   refine kW kn ?_
   refine shW_ret (inBlock_ret (andThen_ret ?_))
   refine q_res2 Tryz.results55 (res_tmp rfl) (res_tmp rfl) (sr) ?_
   obtain ⟨rfl, rfl⟩ := inj2 r11
   exact ⟨_, rfl, rfl, rfl⟩
 have r12 := ite_f r3 c10; clear r3
 refine wsr (om rfl rfl ?_)
 refine ov (v_lenS Tryz.underlying24 rfl) rfl ?_
 refine ov (v_fieldAddr fa_27_3 rfl) rfl ?_
 refine ov (v_load Tryz.isAgg24 rfl (Has.own 0 rfl) rfl) rfl ?_
 refine ov (v_lenS Tryz.underlying24 rfl) rfl ?_
 refine ov (v_neq rfl rfl) rfl ?_
 refine oa rfl rfl (shO_nil ?_)
 refine shW_condP rfl (fun c13 => ?_) (fun c13 => ?_)
 · have r14 := ite_t r12 c13; clear r12
   refine wsr (oa rfl rfl (oa rfl rfl (shO_nil ?_)))
   refine kW kn ?_
   refine shW_ret (inBlock_ret (andThen_ret ?_))
   refine q_res2 Tryz.results55 (res_tmp rfl) (res_tmp rfl) (sr) ?_
   obtain ⟨rfl, rfl⟩ := inj2 r14
   exact ⟨_, rfl, rfl, rfl⟩
 have r15 := ite_f r12 c13; clear r12
 refine wsr (om rfl rfl ?_)
 have hn16 : FnR Tryz.prog F4 94 #[] #[] (iE .i64) Value.bool (fun xx_ : Int => book_course_1 xx_) := ⟨Tryz.call94, fun F2 h2 vs xx_ r ha hr => by obtain rfl := ha; exact book_course_1_w hr⟩
 obtain ⟨ok, h17, r18⟩ := b1_ok r15; clear r15
 refine o_callV rfl Tryz.call45 rfl rfl rfl (book_every_int_w h_l hn16 h17) ?_
 refine ov (v_notB rfl) rfl ?_
 refine oa rfl rfl (shO_nil ?_)
 refine shW_cond rfl (fun c19 => ?_) (fun c19 => ?_)
 · have r20 := bt r18 c19; clear r18
   refine wsr (oa rfl rfl (oa rfl rfl (shO_nil ?_)))
   refine kW kn ?_
   refine shW_ret (inBlock_ret (andThen_ret ?_))
   refine q_res2 Tryz.results55 (res_tmp rfl) (res_tmp rfl) (sr) ?_
   obtain ⟨rfl, rfl⟩ := inj2 r20
   exact ⟨_, rfl, rfl, rfl⟩
 have r21 := bf r18 c19; clear r18
 refine shW_skip (inBlock_n (id := 0) (wsr (om rfl rfl (oa rfl rfl (oa rfl rfl (shO_nil ?_))))))
 refine kW kn ?_
 refine shW_ret ?_
 refine q_res2 Tryz.results55 (res_tmp rfl) (res_tmp rfl) (sr) ?_
 obtain ⟨rfl, rfl⟩ := inj2 r21
 exact ⟨_, rfl, rfl, hp9⟩
set_option maxHeartbeats 1000000 in
theorem book_desk_along_w {b_d : Nat} {houses : Int} {notices : Int} {hears_a : Option Addr} {hears_c : Nat} {hears : List (List (List Int))} {readings_a : Option Addr} {readings_c : Nat} {readings : List Int} {cries_a : Option Addr} {cries_c : Nat} {cries : List (Int × Int × Int)} {mb_d : Nat × Nat} {course_a : Option Addr} {course_c : Nat} {course : List Int} {F : FS} (hb_d : F b_d = some (.cells #[.int .i64 houses, .int .i64 notices, .slice hears_a hears.length hears_c, .slice readings_a readings.length readings_c, .slice cries_a cries.length cries_c] 171 mb_d)) (h_hears : RowR 1 (slE 1 (slE 1 (iE .i64))) F hears_a hears_c hears) (h_readings : RowR 1 (iE .i64) F readings_a readings_c readings) (h_cries : RowR 3 (prE (iE .i64) (prE (iE .i64) (iE .i64))) F cries_a cries_c cries) (h_course : RowR 1 (iE .i64) F course_a course_c course) {r : List Bool} (hr : book_desk_along houses notices hears readings cries course = some r) :
    SH.Spec Tryz.prog 56 #[.pointer (some ⟨b_d, 0, none⟩), .slice course_a course.length course_c] F [] fun _ L' v => v = .agg (arr cB r) ∧ L' = [] ∧ r.length = 24 := by
 refine spec_of_shW (args := [.pointer (some ⟨b_d, 0, none⟩), .slice course_a course.length course_c]) Tryz.func56 rfl Tryz.ntmps56 (Nat.le_of_ble_eq_true rfl) ?_
 intro K _ _; rw [book_desk_along] at hr
 refine wsr ?_
 refine o_alloc rfl Tryz.zeroValue103 ?_; intro b1 hb1
 refine shO_L (L' := [(b1, .cells (arr cB (List.replicate 24 false)) 103 (0, 0))]) rfl ?_
 refine nsr ?_
 refine o_alloc rfl Tryz.zeroValue103 ?_; intro b2 hb2
 refine shO_L (L' := [(b2, .cells (arr cB (List.replicate 24 false)) 103 (0, 0)), (b1, .cells (arr cB (List.replicate 24 false)) 103 (0, 0))]) rfl ?_
 refine shO_nil ?_
 obtain ⟨g, h4, r5⟩ := b1_ok hr; clear hr
 refine shW_join (fun e1 F1 L1 => FExt F F1 ∧ L1 = [(b2, .cells (arr cB g) 103 (0, 0)), (b1, .cells (arr cB (List.replicate 24 false)) 103 (0, 0))] ∧ e1.sub [(4, .pointer (some ⟨b1, 0, none⟩)), (5, .pointer (some ⟨b2, 0, none⟩))] ∧ g.length = 24) ?_ ?_
 · clear r5
   refine wsr (om rfl rfl ?_)
   refine ov (v_lenS Tryz.underlying24 rfl) rfl ?_
   refine om rfl rfl (shO_nil ?_)
   refine shW_block ?_
   refine shW_lp (fun fu1 e1 F1 L1 => ∃ (tl : List Int) (k : Int), tl.length = fu1 ∧ Lst course k tl ∧ ∃ (g2 : List Bool), book_desk_along_l1 houses notices hears readings cries tl k g2 = some g ∧ FExt F F1 ∧ L1 = [(b2, .cells (arr cB g2) 103 (0, 0)), (b1, .cells (arr cB (List.replicate 24 false)) 103 (0, 0))] ∧ e1.sub [(0, .pointer (some ⟨b_d, 0, none⟩)), (4, .pointer (some ⟨b1, 0, none⟩)), (5, .pointer (some ⟨b2, 0, none⟩)), (8, .slice course_a course.length course_c), (9, .int .i64 (course.length : Int)), (10, .int .i64 k)] ∧ g2.length = 24) _ (m0 kr ⟨_, _, rfl, Lst.start _, List.replicate 24 false, h4, FExt.refl _, rfl, (sc rfl (sc rfl (sc rfl (sc rfl (sc rfl (sc rfl (sn _))))))), List.length_replicate⟩) ?_
   rintro fu1 e1 F11 _ ⟨tl, k, hn8, hk7, g2, r9, hF12, rfl, he10, h6⟩
   refine shW_env _ he10 ?_; clear he10
   replace h_hears := h_hears.mono (slE_ok (slE_ok (iE_ok _))) hF12
   replace h_readings := h_readings.mono (iE_ok _) hF12
   replace h_cries := h_cries.mono (prE_ok (iE_ok _) (prE_ok (iE_ok _) (iE_ok _))) hF12
   replace h_course := h_course.mono (iE_ok _) hF12
   replace hb_d := hF12 _ _ hb_d
   refine wsr ?_
   refine ov (v_lssK rfl rfl) rfl ?_
   refine shO_nil (shW_seq ?_)
   refine shW_condP rfl (fun c14 => ?_) (fun c14 => ?_)
   · obtain ⟨x, tl2, rfl, hx16, g17, hk15⟩ := Lst.succ hk7 c14
     rw [book_desk_along_l1] at r9
     refine shW_skip (shW_seq ?_)
     refine shW_block ?_
     refine wsr (om rfl rfl ?_)
     obtain ⟨b18, o19, c20, vs21, ha22, hs23, hle24, rfl, hl25, hc26⟩ := RowR.at (iE_ok _) h_course ([(b2, .cells (arr cB g2) 103 (0, 0)), (b1, .cells (arr cB (List.replicate 24 false)) 103 (0, 0))]) g17.1 hx16
     refine ov (v_indexO Tryz.underlying24 Tryz.sizeOf3 rfl ha22 rfl g17) rfl ?_
     refine ov (v_load Tryz.isAgg3 rfl hs23 (hc26 0 (by decide))) rfl ?_
     refine oa rfl rfl (oa rfl rfl (shO_nil (shW_region (om rfl rfl ?_))))
     refine ov (v_loadW Tryz.isAgg103 Tryz.sizeOf103 rfl (Has.own 0 rfl) (arr_sz cB_ok h6)) rfl ?_
     refine om rfl rfl (om rfl rfl ?_)
     obtain ⟨a, h27, r28⟩ := b1_ok r9; clear r9
     refine o_call0 rfl Tryz.call96 rfl rfl rfl (book_desk_hear_w hb_d h_hears h_readings h_cries h6 h27) ?_; rintro _ F29 _ hF30 hn31 ⟨rfl, rfl, h33⟩
     replace h_course := h_course.mono (iE_ok _) hF30
     refine shO_L (ln rfl) ?_
     refine o_storeW (i := 0) Tryz.sizeOf103 rfl rfl rfl (arr_sz cB_ok h6) (arr_sz cB_ok h33) (arr_one cB_ok) ?_
     refine shO_L (L' := [(b2, .cells (arr cB a) 103 (0, 0)), (b1, .cells (arr cB (List.replicate 24 false)) 103 (0, 0))]) rfl ?_
     refine shO_nil (inBlock_n (id := 1) (shW_region ?_))
     refine ov (v_add rfl rfl (Lst.r64 hk7 c14 (RowR.lt h_course))) rfl ?_
     refine om rfl rfl (shO_nil ?_)
     subst hn8; exact le kr ⟨_, _, rfl, hk15, a, r28, (hF12.trans hF30), rfl, (sc rfl (sc rfl (sc rfl (sc rfl (sc rfl (sc rfl (sn _))))))), h33⟩
   obtain rfl := Lst.zero hk7 c14
   rw [book_desk_along_l1] at r9
   refine shW_exit (andThen_exit (andThen_exit ?_))
   refine inBlock_exit ?_
   obtain rfl := inj1 r9
   exact mi kr ⟨hF12, rfl, (sc rfl (sc rfl (sn _))), h6⟩
 rintro e1 F35 _ ⟨hF36, rfl, he34, h3⟩
 refine shW_env _ he34 ?_; clear he34
 refine wsr ?_
 refine ov (v_loadW Tryz.isAgg103 Tryz.sizeOf103 rfl (Has.own 0 rfl) (arr_sz cB_ok h3)) rfl ?_
 refine o_storeW (i := 1) Tryz.sizeOf103 rfl rfl rfl (arr_sz cB_ok List.length_replicate) (arr_sz cB_ok h3) (arr_one cB_ok) ?_
 refine shO_L (L' := [(b2, .cells (arr cB g) 103 (0, 0)), (b1, .cells (arr cB g) 103 (0, 0))]) rfl ?_
 refine shO_nil ?_
 refine kW (kd kr) ?_
 refine shW_ret ?_
 refine q_res1 Tryz.results56 (res_cellA (cs := arr cB g) Tryz.isAgg103 Tryz.sizeOf103 rfl (Has.own 0 rfl) (li_le (li_end (lfl cB_ok h3))) (li_ext (lfl cB_ok h3) (li_end (lfl cB_ok h3)))) (s1 sr) ?_
 obtain rfl := inj1 r5
 exact ⟨rfl, rfl, h3⟩
set_option maxHeartbeats 1000000 in
theorem book_False_w {houses : Int} {notices : Int} {hears_a : Option Addr} {hears_c : Nat} {hears : List (List (List Int))} {readings_a : Option Addr} {readings_c : Nat} {readings : List Int} {cries_a : Option Addr} {cries_c : Nat} {cries : List (Int × Int × Int)} {complaints_a : Option Addr} {complaints_c : Nat} {complaints : List (Int × Int × Bool)} {l_a : Option Addr} {l_c : Nat} {l : List Int} {F : FS} (h_hears : RowR 1 (slE 1 (slE 1 (iE .i64))) F hears_a hears_c hears) (h_readings : RowR 1 (iE .i64) F readings_a readings_c readings) (h_cries : RowR 3 (prE (iE .i64) (prE (iE .i64) (iE .i64))) F cries_a cries_c cries) (h_complaints : RowR 3 (prE (iE .i64) (prE (iE .i64) bE)) F complaints_a complaints_c complaints) (h_l : RowR 1 (iE .i64) F l_a l_c l) {r : List Int} {r2 : Int} (hr : book_False houses notices hears readings cries complaints l = some (r, r2)) :
    SH.Spec Tryz.prog 14 #[.agg #[.int .i64 houses, .int .i64 notices, .slice hears_a hears.length hears_c, .slice readings_a readings.length readings_c, .slice cries_a cries.length cries_c], .slice complaints_a complaints.length complaints_c, .slice l_a l.length l_c] F [] fun F' L' v => ∃ (ra : Option Addr) (rn : Nat) (rc : Nat) (rL : LH), v = .tuple #[.slice ra rn rc, .int .i64 r2] ∧ L' = rL ++ [] ∧ SlR 0 3 1 (iE .i64) F' ra rn rc r rL := by
 refine spec_of_shW (args := [.agg #[.int .i64 houses, .int .i64 notices, .slice hears_a hears.length hears_c, .slice readings_a readings.length readings_c, .slice cries_a cries.length cries_c], .slice complaints_a complaints.length complaints_c, .slice l_a l.length l_c]) Tryz.func14 rfl Tryz.ntmps14 (Nat.le_of_ble_eq_true rfl) ?_
 intro K _ _; rw [book_False] at hr
 refine wsr ?_
 refine o_box rfl rfl ?_; intro b1 hb1
 refine oa rfl rfl (oa rfl rfl (shO_nil (shW_seq (wsr ?_))))
 refine ov (v_loadA (cs := #[.int .i64 houses, .int .i64 notices, .slice hears_a hears.length hears_c, .slice readings_a readings.length readings_c, .slice cries_a cries.length cries_c]) Tryz.isAgg27 Tryz.sizeOf27 rfl (Has.own 0 rfl) (Nat.le_of_ble_eq_true rfl) rfl) rfl ?_
 refine om rfl rfl ?_
 obtain ⟨n, h2, r3⟩ := b1_ok hr; clear hr
 refine o_callV rfl Tryz.call54 rfl rfl rfl (book_complained_w h_hears h_readings h_cries h_complaints h2) ?_
 refine oa rfl rfl (nsr (om rfl rfl ?_))
 refine ov (v_neq rfl rfl) rfl ?_
 refine shO_nil ?_
 refine shW_condP rfl (fun c4 => ?_) (fun c4 => ?_)
 · have r5 := ite_t r3 c4; clear r3
   refine wsr (om rfl rfl (oa rfl rfl (oa rfl rfl (shO_nil ?_))))
   refine kW kn ?_
   refine shW_ret (andThen_ret ?_)
   refine q_res2 Tryz.results14 (res_tmp rfl) (res_tmp rfl) (sr) ?_
   obtain ⟨rfl, rfl⟩ := inj2 r5
   exact ⟨_, _, _, [], rfl, rfl, SlR.nil _ _ _ _ _⟩
 have r6 := ite_f r3 c4; clear r3
 refine shW_skip (wsr ?_)
 refine ov (v_loadA (cs := #[.int .i64 houses, .int .i64 notices, .slice hears_a hears.length hears_c, .slice readings_a readings.length readings_c, .slice cries_a cries.length cries_c]) Tryz.isAgg27 Tryz.sizeOf27 rfl (Has.own 0 rfl) (Nat.le_of_ble_eq_true rfl) rfl) rfl ?_
 refine om rfl rfl ?_
 obtain ⟨d, n2, h7, r8⟩ := b2_ok r6; clear r6
 refine o_call0 rfl Tryz.call55 rfl rfl rfl (book_course_w h_hears h_readings h_cries h_l h7) ?_; rintro _ F9 _ hF10 hn11 ⟨v13, rfl, rfl, hp14⟩
 replace h_complaints := h_complaints.mono (prE_ok (iE_ok _) (prE_ok (iE_ok _) bE_ok)) hF10
 replace h_l := h_l.mono (iE_ok _) hF10
 refine shO_L (ln rfl) ?_
 refine om rfl rfl (ox rfl rfl rfl (ox rfl rfl rfl (oa rfl rfl (oa rfl rfl (shO_nil (shW_seq (wsr (om rfl rfl ?_))))))))
 refine ov (v_neq rfl rfl) rfl ?_
 refine shO_nil ?_
 refine shW_condP rfl (fun c15 => ?_) (fun c15 => ?_)
 · have r16 := ite_t r8 c15; clear r8
   refine wsr (om rfl rfl (oa rfl rfl (oa rfl rfl (shO_nil ?_))))
   refine kW kn ?_
   refine shW_ret (andThen_ret ?_)
   refine q_res2 Tryz.results14 (res_tmp rfl) (res_tmp rfl) (sr) ?_
   obtain ⟨rfl, rfl⟩ := inj2 r16
   exact ⟨_, _, _, [], rfl, rfl, SlR.nil _ _ _ _ _⟩
 have r17 := ite_f r8 c15; clear r8
 refine shW_skip (wsr (om rfl rfl (om rfl rfl (om rfl rfl ?_))))
 obtain ⟨houses2, notices2, hears2, readings2, cries2, h18, r19⟩ := b5_ok r17; clear r17
 have h34 := hp14; rw [h18] at h34; obtain ⟨b20, c21, m22, hv23, hz24, ⟨_, _, rfl, rfl, ⟨_, _, rfl, rfl, ⟨_, _, rfl, ⟨a25, c26, rfl, h27⟩, ⟨_, _, rfl, ⟨a28, c29, rfl, h30⟩, ⟨a31, c32, rfl, h33⟩⟩⟩⟩⟩⟩ := h34; subst hv23
 have hz24 : F9 b20 = some (.cells #[.int .i64 houses2, .int .i64 notices2, .slice a25 hears2.length c26, .slice a28 readings2.length c29, .slice a31 cries2.length c32] 171 m22) := hz24
 obtain ⟨a, h35, r36⟩ := b1_ok r19; clear r19
 refine o_call0 rfl Tryz.call56 rfl rfl rfl (book_desk_along_w hz24 h27 h30 h33 h_l h35) ?_; rintro _ F37 _ hF38 hn39 ⟨rfl, rfl, h41⟩
 replace h_complaints := h_complaints.mono (prE_ok (iE_ok _) (prE_ok (iE_ok _) bE_ok)) hF38
 refine shO_L (ln rfl) ?_
 obtain ⟨l2, h42, r43⟩ := b1_ok r36; clear r36
 refine o_call0 rfl Tryz.call42 rfl rfl rfl (book_wrong_w h_complaints h41 h42) ?_; rintro _ F44 _ hF45 hn46 ⟨a48, n52, c49, Lb50, rfl, rfl, hz51⟩
 replace hz51 := hz51.new fun p hp => hn46 p (by simp [hp])
 refine shO_L (lp (ln rfl)) ?_
 refine kO (kf (fS fO) kr) ?_
 refine oa rfl rfl (oa rfl rfl (shO_nil ?_))
 refine kW (kd kr) ?_
 refine shW_ret ?_
 refine q_res2 Tryz.results14 (res_tmp rfl) (res_tmp rfl) (sr) ?_
 obtain ⟨rfl, rfl⟩ := inj2 r43
 exact ⟨_, _, _, _, rfl, rfl, hz51.any⟩
set_option maxHeartbeats 1000000 in
theorem oyezlaw07_right_1_w {w : Int} {F : FS} {r : Bool} (hr : oyezlaw07_right_1 w = some r) :
    SpecV Tryz.prog 58 #[.int .i64 w] F (.bool r) := by
 refine spec_of_shW (args := [.int .i64 w]) Tryz.func58 rfl Tryz.ntmps58 (Nat.le_of_ble_eq_true rfl) ?_
 intro K _ _; rw [oyezlaw07_right_1] at hr
 refine wsr (oa rfl rfl (nsr (om rfl rfl ?_)))
 refine ov (v_lssK rfl rfl) rfl ?_
 refine om rfl rfl ?_
 by_cases c1 : w < 0
 · have r2 := ite_t hr c1; clear hr
   refine shO_off (b' := true) 5 rfl (Env.isT rfl c1) rfl rfl (shO_off (b' := true) 5 rfl (Env.isT rfl c1) rfl rfl ?_)
   refine ov (v_pick_t (evD_true rfl c1) rfl) rfl ?_
   refine oa rfl rfl (shO_nil (shW_ret ?_))
   refine q_res1 Tryz.results58 (res_tmp rfl) (sr) ?_
   obtain rfl := inj1 r2
   exact rfl
 have r3 := ite_f hr c1; clear hr
 refine shO_on (b := false) 5 rfl (Env.isF rfl c1) (om rfl rfl (shO_on (b := false) 5 rfl (Env.isF rfl c1) ?_))
 refine ov (v_geqK rfl rfl) rfl ?_
 refine ov (v_pick_f (evD_false rfl c1) rfl) rfl ?_
 refine oa rfl rfl (shO_nil (shW_ret ?_))
 refine q_res1 Tryz.results58 (res_tmp rfl) (sr) ?_
 obtain rfl := inj1 r3
 exact rfl
set_option maxHeartbeats 1000000 in
theorem oyezlaw07_near_w {a : Int} {b : Int} {F : FS} {r : Bool} (hr : oyezlaw07_near a b = some r) :
    SpecV Tryz.prog 97 #[.int .i64 a, .int .i64 b] F (.bool r) := by
 refine spec_of_shW (args := [.int .i64 a, .int .i64 b]) Tryz.func97 rfl Tryz.ntmps97 (Nat.le_of_ble_eq_true rfl) ?_
 intro K _ _; rw [oyezlaw07_near] at hr
 refine wsr (oa rfl rfl (nsr (om rfl rfl (om rfl rfl ?_))))
 obtain ⟨g1, r2⟩ := gd_ok hr; clear hr
 refine ov (v_sub rfl rfl g1) rfl ?_
 obtain ⟨n, h3, r4⟩ := b1_ok r2; clear r2
 refine o_callV rfl Tryz.call39 rfl rfl rfl (oyezkit_Wind_w h3) ?_
 refine oa rfl rfl (nsr (om rfl rfl ?_))
 refine ov (v_lssK rfl rfl) rfl ?_
 refine om rfl rfl ?_
 by_cases c5 : n < 2
 · have r6 := ite_t r4 c5; clear r4
   refine shO_off (b' := true) 12 rfl (Env.isT rfl c5) rfl rfl (shO_off (b' := true) 12 rfl (Env.isT rfl c5) rfl rfl ?_)
   refine ov (v_pick_t (evD_true rfl c5) rfl) rfl ?_
   refine oa rfl rfl (shO_nil (shW_ret ?_))
   refine q_res1 Tryz.results97 (res_tmp rfl) (sr) ?_
   obtain rfl := inj1 r6
   exact rfl
 have r7 := ite_f r4 c5; clear r4
 refine shO_on (b := false) 12 rfl (Env.isF rfl c5) (om rfl rfl (shO_on (b := false) 12 rfl (Env.isF rfl c5) ?_))
 refine ov (v_eql rfl rfl) rfl ?_
 refine ov (v_pick_f (evD_false rfl c5) rfl) rfl ?_
 refine oa rfl rfl (shO_nil (shW_ret ?_))
 refine q_res1 Tryz.results97 (res_tmp rfl) (sr) ?_
 obtain rfl := inj1 r7
 exact rfl
set_option maxHeartbeats 1000000 in
theorem oyezlaw07_fit_w {houses : Int} {notices : Int} {hears_a : Option Addr} {hears_c : Nat} {hears : List (List (List Int))} {readings_a : Option Addr} {readings_c : Nat} {readings : List Int} {cries_a : Option Addr} {cries_c : Nat} {cries : List (Int × Int × Int)} {course_a : Option Addr} {course_c : Nat} {course : List Int} {F : FS} (_h_hears : RowR 1 (slE 1 (slE 1 (iE .i64))) F hears_a hears_c hears) (h_readings : RowR 1 (iE .i64) F readings_a readings_c readings) (_h_cries : RowR 3 (prE (iE .i64) (prE (iE .i64) (iE .i64))) F cries_a cries_c cries) (h_course : RowR 1 (iE .i64) F course_a course_c course) {r : Bool} (hr : oyezlaw07_fit houses notices hears readings cries course = some r) :
    SpecV Tryz.prog 59 #[.agg #[.int .i64 houses, .int .i64 notices, .slice hears_a hears.length hears_c, .slice readings_a readings.length readings_c, .slice cries_a cries.length cries_c], .slice course_a course.length course_c] F (.bool r) := by
 refine spec_of_shW (args := [.agg #[.int .i64 houses, .int .i64 notices, .slice hears_a hears.length hears_c, .slice readings_a readings.length readings_c, .slice cries_a cries.length cries_c], .slice course_a course.length course_c]) Tryz.func59 rfl Tryz.ntmps59 (Nat.le_of_ble_eq_true rfl) ?_
 intro K _ _; rw [oyezlaw07_fit] at hr
 refine wsr ?_
 refine o_box rfl rfl ?_; intro b1 hb1
 refine oa rfl rfl (shO_nil ?_)
 refine shW_join (fun e1 F1 L1 => oyezlaw07_fit_j1 = some r ∧ F = F1 ∧ L1 = [] ∧ e1.sub []) ?_ ?_
 · refine wsr (om rfl rfl ?_)
   refine ov (v_lenS Tryz.underlying24 rfl) rfl ?_
   refine om rfl rfl (shO_nil ?_)
   refine shW_block ?_
   refine shW_lp (fun fu2 e1 F1 L1 => ∃ (tl : List Int) (k : Int), tl.length = fu2 ∧ Lst course k tl ∧ oyezlaw07_fit_l2 readings course tl k = some r ∧ F = F1 ∧ L1 = [(b1, .cells #[.int .i64 houses, .int .i64 notices, .slice hears_a hears.length hears_c, .slice readings_a readings.length readings_c, .slice cries_a cries.length cries_c] 27 (0, 0))] ∧ e1.sub [(1, .slice course_a course.length course_c), (2, .pointer (some ⟨b1, 0, none⟩)), (7, .slice course_a course.length course_c), (8, .int .i64 (course.length : Int)), (9, .int .i64 k)]) _ (m0 kr ⟨_, _, rfl, Lst.start _, hr, rfl, rfl, (sc rfl (sc rfl (sc rfl (sc rfl (sc rfl (sn _))))))⟩) ?_
   rintro fu2 e1 _ _ ⟨tl, k, hn3, hk2, r4, rfl, rfl, he5⟩
   refine shW_env _ he5 ?_; clear he5
   refine wsr ?_
   refine ov (v_lssK rfl rfl) rfl ?_
   refine shO_nil (shW_seq ?_)
   refine shW_condP rfl (fun c7 => ?_) (fun c7 => ?_)
   · obtain ⟨x, tl2, rfl, hx9, g10, hk8⟩ := Lst.succ hk2 c7
     rw [oyezlaw07_fit_l2] at r4
     refine shW_skip (shW_seq ?_)
     refine shW_block ?_
     refine wsr (om rfl rfl ?_)
     obtain ⟨b11, o12, c13, vs14, ha15, hs16, hle17, rfl, hl18, hc19⟩ := RowR.at (iE_ok _) h_course ([(b1, .cells #[.int .i64 houses, .int .i64 notices, .slice hears_a hears.length hears_c, .slice readings_a readings.length readings_c, .slice cries_a cries.length cries_c] 27 (0, 0))]) g10.1 hx9
     refine ov (v_indexO Tryz.underlying24 Tryz.sizeOf3 rfl ha15 rfl g10) rfl ?_
     refine ov (v_load Tryz.isAgg3 rfl hs16 (hc19 0 (by decide))) rfl ?_
     refine oa rfl rfl (oa rfl rfl (shO_nil ?_))
     obtain ⟨k2, h20, r21⟩ := b1_ok r4; clear r4
     refine shW_join (fun e1 F1 L1 => F = F1 ∧ L1 = [(b1, .cells #[.int .i64 houses, .int .i64 notices, .slice hears_a hears.length hears_c, .slice readings_a readings.length readings_c, .slice cries_a cries.length cries_c] 27 (0, 0))] ∧ e1.sub [(1, .slice course_a course.length course_c), (2, .pointer (some ⟨b1, 0, none⟩)), (7, .slice course_a course.length course_c), (8, .int .i64 (course.length : Int)), (9, .int .i64 k), (43, .bool k2)]) ?_ ?_
     · clear r21
       refine shW_region ?_
       refine ov (v_fieldAddr fa_27_3 rfl) rfl ?_
       refine ov (v_load Tryz.isAgg24 rfl (Has.own 0 rfl) rfl) rfl ?_
       refine om rfl rfl ?_
       obtain ⟨x2, g22, hx23, r24⟩ := ix_ok h20; clear h20
       obtain ⟨b25, o26, c27, vs28, ha29, hs30, hle31, rfl, hl32, hc33⟩ := RowR.at (iE_ok _) h_readings ([(b1, .cells #[.int .i64 houses, .int .i64 notices, .slice hears_a hears.length hears_c, .slice readings_a readings.length readings_c, .slice cries_a cries.length cries_c] 27 (0, 0))]) g22.1 hx23
       refine ov (v_indexO Tryz.underlying24 Tryz.sizeOf3 rfl ha29 rfl g22) rfl ?_
       refine ov (v_load Tryz.isAgg3 rfl hs30 (hc33 0 (by decide))) rfl ?_
       refine ov (v_neq rfl rfl) rfl ?_
       refine om rfl rfl ?_
       by_cases c34 : x2 ≠ (-1)
       · have r35 := ite_t r24 c34; clear r24
         refine shO_on (b := true) 20 rfl (Env.isT rfl c34) (om rfl rfl (shO_on (b := true) 20 rfl (Env.isT rfl c34) ?_))
         refine ov (v_fieldAddr fa_27_3 rfl) rfl ?_
         refine shO_on (b := true) 20 rfl (Env.isT rfl c34) ?_
         refine ov (v_load Tryz.isAgg24 rfl (Has.own 0 rfl) rfl) rfl ?_
         refine shO_on (b := true) 20 rfl (Env.isT rfl c34) (om rfl rfl (shO_on (b := true) 20 rfl (Env.isT rfl c34) ?_))
         obtain ⟨b36, o37, c38, vs39, ha40, hs41, hle42, rfl, hl43, hc44⟩ := RowR.at (iE_ok _) h_readings ([(b1, .cells #[.int .i64 houses, .int .i64 notices, .slice hears_a hears.length hears_c, .slice readings_a readings.length readings_c, .slice cries_a cries.length cries_c] 27 (0, 0))]) g22.1 hx23
         refine ov (v_indexO Tryz.underlying24 Tryz.sizeOf3 rfl ha40 rfl g22) rfl ?_
         refine shO_on (b := true) 20 rfl (Env.isT rfl c34) ?_
         refine ov (v_load Tryz.isAgg3 rfl hs41 (hc44 0 (by decide))) rfl ?_
         refine shO_on (b := true) 20 rfl (Env.isT rfl c34) ?_
         obtain ⟨ok, h45, r46⟩ := b1_ok r35; clear r35
         refine o_callV rfl Tryz.call97 rfl rfl rfl (oyezlaw07_near_w h45) ?_
         refine shO_on (b := true) 20 rfl (Env.isT rfl c34) ?_
         refine ov (v_notB rfl) rfl ?_
         refine ov (v_pick_t (evD_true rfl c34) rfl) rfl ?_
         refine om rfl rfl ?_
         rcases bool_two (!ok) with c47 | c47
         · have r48 := bt r46 c47; clear r46
           refine shO_off (b' := true) 30 rfl (EnvB rfl c47) rfl rfl (shO_off (b' := true) 30 rfl (EnvB rfl c47) rfl rfl (shO_off (b' := true) 30 rfl (EnvB rfl c47) rfl rfl (shO_offU 33 rfl rfl rfl (shO_offU 33 rfl rfl rfl (shO_offU 33 rfl rfl rfl (shO_offU 33 rfl rfl rfl (shO_offU 33 rfl rfl rfl (shO_offU 33 rfl rfl rfl (shO_offU 33 rfl rfl rfl ?_)))))))))
           refine shO_offU 33 rfl rfl rfl (shO_off (b' := true) 30 rfl (EnvB rfl c47) rfl rfl ?_)
           refine ov (v_pick_t (evB rfl c47) rfl) rfl ?_
           refine shO_nil ?_
           obtain rfl := inj1 r48
           exact mi kr ⟨rfl, rfl, (sc rfl (sc rfl (sc rfl (sc rfl (sc rfl (sc rfl (sn _)))))))⟩
         have r49 := bf r46 c47; clear r46
         refine shO_on (b := false) 30 rfl (EnvB rfl c47) (om rfl rfl (shO_on (b := false) 30 rfl (EnvB rfl c47) ?_))
         refine ov (v_gtrK rfl rfl) rfl ?_
         refine shO_on (b := false) 30 rfl (EnvB rfl c47) (om rfl rfl ?_)
         by_cases c50 : 0 < k
         · have r51 := ite_t r49 c50; clear r49
           refine shO_on (b := true) 33 rfl (Env.isT rfl c50) (om rfl rfl (shO_on (b := true) 33 rfl (Env.isT rfl c50) (om rfl rfl (shO_on (b := true) 33 rfl (Env.isT rfl c50) (om rfl rfl (shO_on (b := true) 33 rfl (Env.isT rfl c50) ?_))))))
           obtain ⟨g52, r53⟩ := gd_ok r51; clear r51
           refine ov (v_sub rfl rfl g52) rfl ?_
           refine shO_on (b := true) 33 rfl (Env.isT rfl c50) ?_
           obtain ⟨x3, g54, hx55, r56⟩ := ix_ok r53; clear r53
           obtain ⟨b57, o58, c59, vs60, ha61, hs62, hle63, rfl, hl64, hc65⟩ := RowR.at (iE_ok _) h_course ([(b1, .cells #[.int .i64 houses, .int .i64 notices, .slice hears_a hears.length hears_c, .slice readings_a readings.length readings_c, .slice cries_a cries.length cries_c] 27 (0, 0))]) g54.1 hx55
           refine ov (v_indexO Tryz.underlying24 Tryz.sizeOf3 rfl ha61 rfl g54) rfl ?_
           refine shO_on (b := true) 33 rfl (Env.isT rfl c50) ?_
           refine ov (v_load Tryz.isAgg3 rfl hs62 (hc65 0 (by decide))) rfl ?_
           refine shO_on (b := true) 33 rfl (Env.isT rfl c50) ?_
           obtain ⟨ok2, h66, r67⟩ := b1_ok r56; clear r56
           refine o_callV rfl Tryz.call97 rfl rfl rfl (oyezlaw07_near_w h66) ?_
           refine shO_on (b := true) 33 rfl (Env.isT rfl c50) ?_
           refine ov (v_notB rfl) rfl ?_
           refine shO_on (b := false) 30 rfl (EnvB rfl c47) ?_
           refine ov (v_pick_t (evD_true rfl c50) rfl) rfl ?_
           refine ov (v_pick_f (evB rfl c47) rfl) rfl ?_
           refine shO_nil ?_
           obtain rfl := inj1 r67
           exact mi kr ⟨rfl, rfl, (sc rfl (sc rfl (sc rfl (sc rfl (sc rfl (sc rfl (sn _)))))))⟩
         have r68 := ite_f r49 c50; clear r49
         refine shO_off (b' := false) 33 rfl (Env.isF rfl c50) rfl rfl (shO_off (b' := false) 33 rfl (Env.isF rfl c50) rfl rfl (shO_off (b' := false) 33 rfl (Env.isF rfl c50) rfl rfl (shO_off (b' := false) 33 rfl (Env.isF rfl c50) rfl rfl (shO_off (b' := false) 33 rfl (Env.isF rfl c50) rfl rfl (shO_off (b' := false) 33 rfl (Env.isF rfl c50) rfl rfl (shO_off (b' := false) 33 rfl (Env.isF rfl c50) rfl rfl (shO_off (b' := false) 33 rfl (Env.isF rfl c50) rfl rfl (shO_on (b := false) 30 rfl (EnvB rfl c47) ?_))))))))
         refine ov (v_pick_f (evD_false rfl c50) rfl) rfl ?_
         refine ov (v_pick_f (evB rfl c47) rfl) rfl ?_
         refine shO_nil ?_
         obtain rfl := inj1 r68
         exact mi kr ⟨rfl, rfl, (sc rfl (sc rfl (sc rfl (sc rfl (sc rfl (sc rfl (sn _)))))))⟩
       have r69 := ite_f r24 c34; clear r24
       refine shO_off (b' := false) 20 rfl (Env.isF rfl c34) rfl rfl (shO_off (b' := false) 20 rfl (Env.isF rfl c34) rfl rfl (shO_off (b' := false) 20 rfl (Env.isF rfl c34) rfl rfl (shO_off (b' := false) 20 rfl (Env.isF rfl c34) rfl rfl (shO_off (b' := false) 20 rfl (Env.isF rfl c34) rfl rfl (shO_off (b' := false) 20 rfl (Env.isF rfl c34) rfl rfl (shO_off (b' := false) 20 rfl (Env.isF rfl c34) rfl rfl (shO_off (b' := false) 20 rfl (Env.isF rfl c34) rfl rfl ?_)))))))
       refine ov (v_pick_f (evD_false rfl c34) rfl) rfl ?_
       refine om rfl rfl (shO_on (b := false) 30 rfl rfl (om rfl rfl (shO_on (b := false) 30 rfl rfl ?_)))
       refine ov (v_gtrK rfl rfl) rfl ?_
       refine shO_on (b := false) 30 rfl rfl (om rfl rfl ?_)
       by_cases c70 : 0 < k
       · have r71 := ite_t r69 c70; clear r69
         refine shO_on (b := true) 33 rfl (Env.isT rfl c70) (om rfl rfl (shO_on (b := true) 33 rfl (Env.isT rfl c70) (om rfl rfl (shO_on (b := true) 33 rfl (Env.isT rfl c70) (om rfl rfl (shO_on (b := true) 33 rfl (Env.isT rfl c70) ?_))))))
         obtain ⟨g72, r73⟩ := gd_ok r71; clear r71
         refine ov (v_sub rfl rfl g72) rfl ?_
         refine shO_on (b := true) 33 rfl (Env.isT rfl c70) ?_
         obtain ⟨x4, g74, hx75, r76⟩ := ix_ok r73; clear r73
         obtain ⟨b77, o78, c79, vs80, ha81, hs82, hle83, rfl, hl84, hc85⟩ := RowR.at (iE_ok _) h_course ([(b1, .cells #[.int .i64 houses, .int .i64 notices, .slice hears_a hears.length hears_c, .slice readings_a readings.length readings_c, .slice cries_a cries.length cries_c] 27 (0, 0))]) g74.1 hx75
         refine ov (v_indexO Tryz.underlying24 Tryz.sizeOf3 rfl ha81 rfl g74) rfl ?_
         refine shO_on (b := true) 33 rfl (Env.isT rfl c70) ?_
         refine ov (v_load Tryz.isAgg3 rfl hs82 (hc85 0 (by decide))) rfl ?_
         refine shO_on (b := true) 33 rfl (Env.isT rfl c70) ?_
         obtain ⟨ok3, h86, r87⟩ := b1_ok r76; clear r76
         refine o_callV rfl Tryz.call97 rfl rfl rfl (oyezlaw07_near_w h86) ?_
         refine shO_on (b := true) 33 rfl (Env.isT rfl c70) ?_
         refine ov (v_notB rfl) rfl ?_
         refine shO_on (b := false) 30 rfl rfl ?_
         refine ov (v_pick_t (evD_true rfl c70) rfl) rfl ?_
         refine ov (v_pick_f rfl rfl) rfl ?_
         refine shO_nil ?_
         obtain rfl := inj1 r87
         exact mi kr ⟨rfl, rfl, (sc rfl (sc rfl (sc rfl (sc rfl (sc rfl (sc rfl (sn _)))))))⟩
       have r88 := ite_f r69 c70; clear r69
       refine shO_off (b' := false) 33 rfl (Env.isF rfl c70) rfl rfl (shO_off (b' := false) 33 rfl (Env.isF rfl c70) rfl rfl (shO_off (b' := false) 33 rfl (Env.isF rfl c70) rfl rfl (shO_off (b' := false) 33 rfl (Env.isF rfl c70) rfl rfl (shO_off (b' := false) 33 rfl (Env.isF rfl c70) rfl rfl (shO_off (b' := false) 33 rfl (Env.isF rfl c70) rfl rfl (shO_off (b' := false) 33 rfl (Env.isF rfl c70) rfl rfl (shO_off (b' := false) 33 rfl (Env.isF rfl c70) rfl rfl (shO_on (b := false) 30 rfl rfl ?_))))))))
       refine ov (v_pick_f (evD_false rfl c70) rfl) rfl ?_
       refine ov (v_pick_f rfl rfl) rfl ?_
       refine shO_nil ?_
       obtain rfl := inj1 r88
       exact mi kr ⟨rfl, rfl, (sc rfl (sc rfl (sc rfl (sc rfl (sc rfl (sc rfl (sn _)))))))⟩
     rintro e1 _ _ ⟨rfl, rfl, he89⟩
     refine shW_env _ he89 ?_; clear he89
     refine shW_cond rfl (fun c90 => ?_) (fun c90 => ?_)
     · have r91 := bt r21 c90; clear r21
       refine wsr (oa rfl rfl (shO_nil ?_))
       refine kW kn ?_
       refine shW_ret (inBlock_ret (andThen_ret (andThen_ret (inBlock_ret (andThen_ret ?_)))))
       refine q_res1 Tryz.results59 (res_tmp rfl) (sr) ?_
       obtain rfl := inj1 r91
       exact rfl
     have r92 := bf r21 c90; clear r21
     refine shW_skip (inBlock_n (id := 1) (shW_region ?_))
     refine ov (v_add rfl rfl (Lst.r64 hk2 c7 (RowR.lt h_course))) rfl ?_
     refine om rfl rfl (shO_nil ?_)
     subst hn3; exact le kr ⟨_, _, rfl, hk8, r92, rfl, rfl, (sc rfl (sc rfl (sc rfl (sc rfl (sc rfl (sn _))))))⟩
   obtain rfl := Lst.zero hk2 c7
   rw [oyezlaw07_fit_l2] at r4
   refine shW_exit (andThen_exit (andThen_exit ?_))
   refine inBlock_exit ?_
   exact mi kn ⟨r4, rfl, rfl, (sn _)⟩
 rintro e1 _ _ ⟨r93, rfl, rfl, he94⟩
 refine shW_env _ he94 ?_; clear he94
 rw [oyezlaw07_fit_j1] at r93
 refine wsr (oa rfl rfl (shO_nil (shW_ret ?_)))
 refine q_res1 Tryz.results59 (res_tmp rfl) (sr) ?_
 obtain rfl := inj1 r93
 exact rfl
set_option maxHeartbeats 1000000 in
theorem oyezlaw07_right_w {houses : Int} {notices : Int} {hears_a : Option Addr} {hears_c : Nat} {hears : List (List (List Int))} {readings_a : Option Addr} {readings_c : Nat} {readings : List Int} {cries_a : Option Addr} {cries_c : Nat} {cries : List (Int × Int × Int)} {course_a : Option Addr} {course_c : Nat} {course : List Int} {F : FS} (h_hears : RowR 1 (slE 1 (slE 1 (iE .i64))) F hears_a hears_c hears) (h_readings : RowR 1 (iE .i64) F readings_a readings_c readings) (h_cries : RowR 3 (prE (iE .i64) (prE (iE .i64) (iE .i64))) F cries_a cries_c cries) (h_course : RowR 1 (iE .i64) F course_a course_c course) {r : Bool} (hr : oyezlaw07_right houses notices hears readings cries course = some r) :
    SpecV Tryz.prog 15 #[.agg #[.int .i64 houses, .int .i64 notices, .slice hears_a hears.length hears_c, .slice readings_a readings.length readings_c, .slice cries_a cries.length cries_c], .slice course_a course.length course_c] F (.bool r) := by
 refine spec_of_shW (args := [.agg #[.int .i64 houses, .int .i64 notices, .slice hears_a hears.length hears_c, .slice readings_a readings.length readings_c, .slice cries_a cries.length cries_c], .slice course_a course.length course_c]) Tryz.func15 rfl Tryz.ntmps15 (Nat.le_of_ble_eq_true rfl) ?_
 intro K _ _; rw [oyezlaw07_right] at hr
 refine wsr ?_
 refine o_box rfl rfl ?_; intro b1 hb1
 refine oa rfl rfl (nsr (om rfl rfl ?_))
 refine ov (v_lenS Tryz.underlying24 rfl) rfl ?_
 refine ov (v_fieldAddr fa_27_3 rfl) rfl ?_
 refine ov (v_load Tryz.isAgg24 rfl (Has.own 0 rfl) rfl) rfl ?_
 refine ov (v_lenS Tryz.underlying24 rfl) rfl ?_
 refine ov (v_eql rfl rfl) rfl ?_
 refine om rfl rfl ?_
 by_cases c2 : (course.length : Int) = (readings.length : Int)
 · have r3 := ite_t hr c2; clear hr
   refine shO_on (b := true) 11 rfl (Env.isT rfl c2) (om rfl rfl (shO_on (b := true) 11 rfl (Env.isT rfl c2) ?_))
   have hn4 : FnR Tryz.prog F 58 #[] #[] (iE .i64) Value.bool (fun xx_ : Int => oyezlaw07_right_1 xx_) := ⟨Tryz.call58, fun F2 h2 vs xx_ r ha hr => by obtain rfl := ha; exact oyezlaw07_right_1_w hr⟩
   obtain ⟨ok, h5, r6⟩ := b1_ok r3; clear r3
   refine o_callV rfl Tryz.call57 rfl rfl rfl (slices_ContainsFunc_int_int_w h_course hn4 h5) ?_
   refine shO_on (b := true) 11 rfl (Env.isT rfl c2) ?_
   refine ov (v_notB rfl) rfl ?_
   refine ov (v_pick_t (evD_true rfl c2) rfl) rfl ?_
   refine om rfl rfl ?_
   rcases bool_two (!ok) with c7 | c7
   · have r8 := bt r6 c7; clear r6
     refine shO_on (b := true) 16 rfl (EnvB rfl c7) ?_
     refine ov (v_loadA (cs := #[.int .i64 houses, .int .i64 notices, .slice hears_a hears.length hears_c, .slice readings_a readings.length readings_c, .slice cries_a cries.length cries_c]) Tryz.isAgg27 Tryz.sizeOf27 rfl (Has.own 0 rfl) (Nat.le_of_ble_eq_true rfl) rfl) rfl ?_
     refine shO_on (b := true) 16 rfl (EnvB rfl c7) (om rfl rfl (shO_on (b := true) 16 rfl (EnvB rfl c7) ?_))
     obtain ⟨ok2, h9, r10⟩ := b1_ok r8; clear r8
     refine o_callV rfl Tryz.call59 rfl rfl rfl (oyezlaw07_fit_w h_hears h_readings h_cries h_course h9) ?_
     refine ov (v_pick_t (evB rfl c7) rfl) rfl ?_
     refine oa rfl rfl (shO_nil ?_)
     refine kW kn ?_
     refine shW_ret ?_
     refine q_res1 Tryz.results15 (res_tmp rfl) (sr) ?_
     obtain rfl := inj1 r10
     exact rfl
   have r11 := bf r6 c7; clear r6
   refine shO_off (b' := false) 16 rfl (EnvB rfl c7) rfl rfl (shO_off (b' := false) 16 rfl (EnvB rfl c7) rfl rfl (shO_off (b' := false) 16 rfl (EnvB rfl c7) rfl rfl ?_))
   refine ov (v_pick_f (evB rfl c7) rfl) rfl ?_
   refine oa rfl rfl (shO_nil ?_)
   refine kW kn ?_
   refine shW_ret ?_
   refine q_res1 Tryz.results15 (res_tmp rfl) (sr) ?_
   obtain rfl := inj1 r11
   exact rfl
 have r12 := ite_f hr c2; clear hr
 refine shO_off (b' := false) 11 rfl (Env.isF rfl c2) rfl rfl (shO_off (b' := false) 11 rfl (Env.isF rfl c2) rfl rfl (shO_off (b' := false) 11 rfl (Env.isF rfl c2) rfl rfl ?_))
 refine ov (v_pick_f (evD_false rfl c2) rfl) rfl ?_
 refine om rfl rfl (shO_off (b' := false) 16 rfl rfl rfl rfl (shO_off (b' := false) 16 rfl rfl rfl rfl (shO_off (b' := false) 16 rfl rfl rfl rfl ?_)))
 refine ov (v_pick_f rfl rfl) rfl ?_
 refine oa rfl rfl (shO_nil ?_)
 refine kW kn ?_
 refine shW_ret ?_
 refine q_res1 Tryz.results15 (res_tmp rfl) (sr) ?_
 obtain rfl := inj1 r12
 exact rfl
set_option maxHeartbeats 1000000 in
theorem slices_DeleteFunc_int_int_w {s__a : Option Addr} {s__n : Nat} {s__c : Nat} {s__L : LH} {s_ : List Int} {s__nb : Nat} {del_f : FuncId} {del_1 : Array Value} {del_2 : Array Value} {del : Int → Option Bool} {F : FS} (h_s_ : SlR s__nb 3 1 (iE .i64) F s__a s__n s__c s_ s__L) (h_del : FnR Tryz.prog F del_f del_1 del_2 (iE .i64) Value.bool del) {r : List Int} (hr : slices_DeleteFunc_int_int s_ del = some r) :
    SH.Spec Tryz.prog 18 #[.slice s__a s__n s__c, .func (.func del_f) del_1 del_2] F (s__L ++ []) fun F' L' v => ∃ (ra : Option Addr) (rn : Nat) (rc : Nat) (rL : LH), v = .slice ra rn rc ∧ L' = rL ++ [] ∧ SlR s__nb 3 1 (iE .i64) F' ra rn rc r rL := by
 refine spec_of_shW (args := [.slice s__a s__n s__c, .func (.func del_f) del_1 del_2]) Tryz.func18 rfl Tryz.ntmps18 (Nat.le_of_ble_eq_true rfl) ?_
 intro K _ _; rw [slices_DeleteFunc_int_int] at hr
 refine shW_L (L' := s__L ++ []) (by simp) ?_
 refine wsr (oa rfl rfl (nsr (om rfl rfl (om rfl rfl ?_))))
 obtain ⟨n, h1, r2⟩ := b1_ok hr; clear hr
 refine o_callT (Lt := s__L ++ []) (Lr := []) rfl Tryz.call61 rfl rfl rfl (pT pR (lp (ln rfl))) (fun F2 h2 h3 => by rw [(SlR.caps h_s_).1]; exact slices_IndexFunc_int_int_w (h_s_.row (iE_ok _) h2 (fun p hp => h3 p (List.mem_append_left _ hp))) (h_del.mono h2) h1) ?_
 refine oa rfl rfl (shO_nil (shW_seq (wsr (om rfl rfl ?_))))
 refine ov (v_eql rfl rfl) rfl ?_
 refine shO_nil ?_
 refine shW_condP rfl (fun c3 => ?_) (fun c3 => ?_)
 · have r4 := ite_t r2 c3; clear r2
   refine wsr (om rfl rfl (oa rfl rfl (shO_nil (shW_ret (andThen_ret ?_)))))
   refine q_res1 Tryz.results18 (res_tmp rfl) (sr) ?_
   obtain rfl := inj1 r4
   exact ⟨_, _, _, _, rfl, rfl, h_s_⟩
 have r5 := ite_f r2 c3; clear r2
 refine shW_skip ?_
 obtain ⟨s_2, i, h8, r9⟩ := b2_ok r5; clear r5
 refine shW_join (fun e1 F1 L1 => ∃ (Lb6 : LH), F = F1 ∧ L1 = (Lb6 ++ []) ∧ e1.sub [(0, .slice s__a s__n s__c), (5, .int .i64 i)] ∧ SlR s__nb 3 1 (iE .i64) F1 s__a s__n s__c s_2 Lb6) ?_ ?_
 · clear r9
   refine wsr (om rfl rfl ?_)
   obtain ⟨g10, r11⟩ := gd_ok h8; clear h8
   refine ov (v_add rfl rfl g10) rfl ?_
   refine oa rfl rfl (shO_nil ?_)
   refine shW_block ?_
   refine shW_lp (fun fu1 e1 F1 L1 => ∃ (s_3 : List Int) (i2 : Int) (j : Int) (Lb12 : LH), slices_DeleteFunc_int_int_l1 del fu1 s_3 i2 j = some (s_2, i) ∧ F = F1 ∧ L1 = (Lb12 ++ []) ∧ e1.sub [(0, .slice s__a s__n s__c), (1, .func (.func del_f) del_1 del_2), (5, .int .i64 i2), (6, .int .i64 j)] ∧ SlR s__nb 3 1 (iE .i64) F1 s__a s__n s__c s_3 Lb12) FU (m0 kr ⟨s_, n, n + 1, s__L, r11, rfl, rfl, (sc rfl (sc rfl (sc rfl (sc rfl (sn _))))), h_s_⟩) ?_
   rintro fu1 e1 _ _ ⟨s_3, i2, j, Lb12, r16, rfl, rfl, he17, hz13⟩
   refine shW_env _ he17 ?_; clear he17
   rcases fu1 with _ | fu1
   · rw [slices_DeleteFunc_int_int_l1] at r16; cases r16
   rw [slices_DeleteFunc_int_int_l1] at r16
   refine shW_seq (wsr (om rfl rfl (om rfl rfl ?_)))
   refine ov ((v_lenS Tryz.underlying24 rfl).i (SlR.lenI hz13)) rfl ?_
   refine ov (v_lssK rfl rfl) rfl ?_
   refine shO_nil ?_
   refine shW_condP rfl (fun c18 => ?_) (fun c18 => ?_)
   · have r19 := ite_t r16 c18; clear r16
     refine shW_skip (shW_seq ?_)
     refine shW_block ?_
     refine wsr (om rfl rfl (om rfl rfl ?_))
     obtain ⟨x, g20, hx21, r22⟩ := ix_ok r19; clear r19
     obtain ⟨b23, o24, c25, vs26, ha27, hs28, hle29, rfl, hl30, hc31⟩ := SlR.at (iE_ok _) hz13 (L := Lb12 ++ []) fP g20.1 hx21
     refine ov (v_indexO Tryz.underlying24 Tryz.sizeOf3 rfl ha27 rfl (SlR.idx hz13 g20)) rfl ?_
     refine ov (v_load Tryz.isAgg3 rfl hs28 (hc31 0 (by decide))) rfl ?_
     refine oa rfl rfl (nsr (om rfl rfl (om rfl rfl ?_)))
     obtain ⟨ok, h32, r33⟩ := b1_ok r22; clear r22
     refine o_callV rfl h_del.1 rfl rfl rfl (h_del.2 _ (FExt.refl _) _ _ _ rfl h32) ?_
     refine ov (v_notB rfl) rfl ?_
     refine shO_nil ?_
     refine shW_cond rfl (fun c34 => ?_) (fun c34 => ?_)
     · have r35 := bt r33 c34; clear r33
       refine wsr (om rfl rfl (om rfl rfl (om rfl rfl ?_)))
       obtain ⟨x2, g36, hx37, r38⟩ := ix_ok r35; clear r35
       obtain ⟨b39, o40, c41, vs42, ha43, hs44, hle45, rfl, hl46, hc47⟩ := SlR.at (iE_ok _) hz13 (L := Lb12 ++ []) fP g36.1 hx37
       refine ov (v_indexO Tryz.underlying24 Tryz.sizeOf3 rfl ha43 rfl (SlR.idx hz13 g36)) rfl ?_
       obtain ⟨s_4, h48, r49⟩ := bv_ok r38; clear r38
       refine o_storeZ (u := x) Tryz.sizeOf3 (iE_ok _) rfl ha43 rfl rfl (fun _ => .h) hz13 h48 g36 ?_; intro Lb50 hz51
       refine shO_nil (shW_region (om rfl rfl ?_))
       obtain ⟨g52, r53⟩ := gd_ok r49; clear r49
       refine ov (v_add rfl rfl g52) rfl ?_
       refine oa rfl rfl (shO_nil (inBlock_n (id := 1) (shW_region (om rfl rfl ?_))))
       obtain ⟨g54, r55⟩ := gd_ok r53; clear r53
       refine ov (v_add rfl rfl g54) rfl ?_
       refine oa rfl rfl (shO_nil ?_)
       exact le kr ⟨s_4, i2 + 1, j + 1, Lb50, r55, rfl, rfl, (sc rfl (sc rfl (sc rfl (sc rfl (sn _))))), hz51⟩
     have r56 := bf r33 c34; clear r33
     refine shW_skip (inBlock_n (id := 1) (shW_region (om rfl rfl ?_)))
     obtain ⟨g57, r58⟩ := gd_ok r56; clear r56
     refine ov (v_add rfl rfl g57) rfl ?_
     refine oa rfl rfl (shO_nil ?_)
     exact le kr ⟨s_3, i2, j + 1, Lb12, r58, rfl, rfl, (sc rfl (sc rfl (sc rfl (sc rfl (sn _))))), hz13⟩
   have r59 := ite_f r16 c18; clear r16
   refine shW_exit (andThen_exit (andThen_exit ?_))
   refine inBlock_exit ?_
   obtain ⟨rfl, rfl⟩ := inj2 r59
   exact mi kr ⟨Lb12, rfl, rfl, (sc rfl (sc rfl (sn _))), hz13⟩
 rintro e1 _ _ ⟨Lb6, rfl, rfl, he60, hz7⟩
 refine shW_env _ he60 ?_; clear he60
 refine wsr (om rfl rfl (om rfl rfl ?_))
 obtain ⟨g61, r62⟩ := gd_ok r9; clear r9
 have gv63 := SlR.gV hz7 g61
 refine ov (OpV.eq (v' := .slice (vwA s__a s__c (Int.toNat i) 1) (s__n - Int.toNat i) (s__c - Int.toNat i)) (v_slice (l := i) (h := (s__n : Nat)) Tryz.underlying24 Tryz.sizeOf3 rfl (.inr ⟨_, rfl, rfl⟩) (.inl ⟨rfl, rfl⟩) (SlR.capV hz7 gv63)) rfl) rfl ?_
 obtain ⟨s_5, h64, r65⟩ := bv_ok r62; clear r62
 refine o_clearV (z0 := 0) (zs := s_5) (l := i) rfl slt_24 (by decide) (iE_ok _) (fun _ => rfl) rfl (fun _ => .h) hz7 gv63 h64 ?_; intro Lb66 hz67
 refine nsr (om rfl rfl (om rfl rfl ?_))
 obtain ⟨g68, r69⟩ := gd_ok r65; clear r65
 obtain ⟨s_6, h70, r71⟩ := bv_ok r69; clear r69
 refine o_sliceZ (l := 0) (h := i) (zs := s_6) rfl slt_24 (iE_ok _) rfl (.inl ⟨rfl, rfl⟩) (.inr ⟨_, rfl, rfl⟩) (fun _ => .h) hz67 g68 h70 ?_; intro a72 n75 c73 Lb76 h74
 refine oa rfl rfl (shO_nil (shW_ret ?_))
 refine q_res1 Tryz.results18 (res_tmp rfl) (sr) ?_
 obtain rfl := inj1 r71
 exact ⟨_, _, _, _, rfl, rfl, h74⟩
set_option maxHeartbeats 1000000 in
theorem oyezkit_Copy_int_w {l_a : Option Addr} {l_c : Nat} {l : List Int} {F : FS} (h_l : RowR 1 (iE .i64) F l_a l_c l) {r : List Int} (hr : oyezkit_Copy_int l = some r) :
    SH.Spec Tryz.prog 19 #[.slice l_a l.length l_c] F [] fun F' L' v => ∃ (ra : Option Addr) (rn : Nat) (rc : Nat) (rL : LH), v = .slice ra rn rc ∧ L' = rL ++ [] ∧ SlR 0 3 1 (iE .i64) F' ra rn rc r rL := by
 refine spec_of_shW (args := [.slice l_a l.length l_c]) Tryz.func19 rfl Tryz.ntmps19 (Nat.le_of_ble_eq_true rfl) ?_
 intro K _ _; rw [oyezkit_Copy_int] at hr
 refine wsr (oa rfl rfl (nsr (om rfl rfl ?_)))
 refine ov (v_lenS Tryz.underlying24 rfl) rfl ?_
 obtain ⟨g1, r2⟩ := gd_ok hr; clear hr
 obtain ⟨l2, h3, r4⟩ := bv_ok r2; clear r2
 refine o_makeZ (R := (iE .i64)) (z0 := 0) (zs := l2) rfl slt_24 (by decide) (iE_ok _) (fun _ => rfl) rfl g1 h3 (fun _ => .n) ?_; intro a5 n8 Lb6 hz7
 refine oa rfl rfl (nsr (om rfl rfl (om rfl rfl ?_)))
 obtain ⟨out, h10, r11⟩ := bv_ok r4; clear r4
 refine o_copyZ (ys := l) (zs := out) rfl slt_24 (iE_ok _) rfl rfl (fun _ => .h) hz7 (RowR.src h_l) h10 ?_; intro Lb12 hz13
 refine nsr (om rfl rfl (oa rfl rfl (shO_nil (shW_ret ?_))))
 refine q_res1 Tryz.results19 (res_tmp rfl) (sr) ?_
 obtain rfl := inj1 r11
 exact ⟨_, _, _, _, rfl, rfl, hz13.any⟩
set_option maxHeartbeats 1000000 in
theorem book_Witness_w {houses : Int} {notices : Int} {hears_a : Option Addr} {hears_c : Nat} {hears : List (List (List Int))} {readings_a : Option Addr} {readings_c : Nat} {readings : List Int} {cries_a : Option Addr} {cries_c : Nat} {cries : List (Int × Int × Int)} {house : Int} {notice : Int} {heard : Bool} {F : FS} (h_hears : RowR 1 (slE 1 (slE 1 (iE .i64))) F hears_a hears_c hears) (h_readings : RowR 1 (iE .i64) F readings_a readings_c readings) (h_cries : RowR 3 (prE (iE .i64) (prE (iE .i64) (iE .i64))) F cries_a cries_c cries) {r : List Int} {r2 : Int} (hr : book_Witness houses notices hears readings cries house notice heard = some (r, r2)) :
    SH.Spec Tryz.prog 62 #[.agg #[.int .i64 houses, .int .i64 notices, .slice hears_a hears.length hears_c, .slice readings_a readings.length readings_c, .slice cries_a cries.length cries_c], .agg #[.int .i64 house, .int .i64 notice, .bool heard]] F [] fun F' L' v => ∃ (ra : Option Addr) (rc : Nat), v = .tuple #[.slice ra r.length rc, .int .i64 r2] ∧ L' = [] ∧ RowR 1 (iE .i64) F' ra rc r := by
 refine spec_of_shW (args := [.agg #[.int .i64 houses, .int .i64 notices, .slice hears_a hears.length hears_c, .slice readings_a readings.length readings_c, .slice cries_a cries.length cries_c], .agg #[.int .i64 house, .int .i64 notice, .bool heard]]) Tryz.func62 rfl Tryz.ntmps62 (Nat.le_of_ble_eq_true rfl) ?_
 intro K _ _; rw [book_Witness] at hr
 refine wsr ?_
 refine o_box rfl rfl ?_; intro b1 hb1
 refine o_box rfl rfl ?_; intro b2 hb2
 refine oa rfl rfl (oa rfl rfl (nsr ?_))
 refine ov (v_loadA (cs := #[.int .i64 houses, .int .i64 notices, .slice hears_a hears.length hears_c, .slice readings_a readings.length readings_c, .slice cries_a cries.length cries_c]) Tryz.isAgg27 Tryz.sizeOf27 rfl (Has.own 1 rfl) (Nat.le_of_ble_eq_true rfl) rfl) rfl ?_
 refine ov (v_loadA (cs := #[.int .i64 house, .int .i64 notice, .bool heard]) Tryz.isAgg36 Tryz.sizeOf36 rfl (Has.own 0 rfl) (Nat.le_of_ble_eq_true rfl) rfl) rfl ?_
 refine o_buildSlice (cs := #[.int .i64 house, .int .i64 notice, .bool heard]) rfl rfl (buildSlice_all slt_32 [.agg #[.int .i64 house, .int .i64 notice, .bool heard]] rfl (by decide) (by simp [Value.cells]) (by decide)) ?_; intro b3 hb3
 refine shO_freeze 0 rfl hb3 ?_; intro F4 hF5 hz6
 refine shO_L (L' := [(b2, .cells #[.int .i64 house, .int .i64 notice, .bool heard] 36 (0, 0)), (b1, .cells #[.int .i64 houses, .int .i64 notices, .slice hears_a hears.length hears_c, .slice readings_a readings.length readings_c, .slice cries_a cries.length cries_c] 27 (0, 0))]) rfl ?_
 replace h_hears := h_hears.mono (slE_ok (slE_ok (iE_ok _))) hF5
 replace h_readings := h_readings.mono (iE_ok _) hF5
 replace h_cries := h_cries.mono (prE_ok (iE_ok _) (prE_ok (iE_ok _) (iE_ok _))) hF5
 have h7 : RowR 3 (prE (iE .i64) (prE (iE .i64) bE)) F4 (some ⟨b3, 0, none⟩) 1 [(house, notice, heard)] := RowR.of_block (prE_ok (iE_ok _) (prE_ok (iE_ok _) bE_ok)) (vss := [[.int .i64 house, .int .i64 notice, .bool heard]]) (xs := [(house, notice, heard)]) hz6 (.cons ⟨_, _, rfl, rfl, ⟨_, _, rfl, rfl, rfl⟩⟩ .nil) rfl (by simp [maxLen])
 obtain ⟨l, n, h8, r9⟩ := b2_ok hr; clear hr
 refine o_call0 rfl Tryz.call12 rfl rfl rfl (book_Together_w h_hears h_readings h_cries h7 h8) ?_; rintro _ F10 _ hF11 hn12 ⟨a14, c15, rfl, rfl, h16⟩
 refine shO_L (ln rfl) ?_
 refine ox rfl rfl rfl (ox rfl rfl rfl (oa rfl rfl (oa rfl rfl (shO_nil ?_))))
 refine kW kn ?_
 refine shW_ret ?_
 refine q_res2 Tryz.results62 (res_tmp rfl) (res_tmp rfl) (sr) ?_
 obtain ⟨rfl, rfl⟩ := inj2 r9
 exact ⟨_, _, rfl, rfl, h16⟩
set_option maxHeartbeats 1000000 in
theorem book_Refuted_w {houses : Int} {notices : Int} {hears_a : Option Addr} {hears_c : Nat} {hears : List (List (List Int))} {readings_a : Option Addr} {readings_c : Nat} {readings : List Int} {cries_a : Option Addr} {cries_c : Nat} {cries : List (Int × Int × Int)} {house : Int} {notice : Int} {heard : Bool} {F : FS} (h_hears : RowR 1 (slE 1 (slE 1 (iE .i64))) F hears_a hears_c hears) (h_readings : RowR 1 (iE .i64) F readings_a readings_c readings) (h_cries : RowR 3 (prE (iE .i64) (prE (iE .i64) (iE .i64))) F cries_a cries_c cries) {r : Bool} {r2 : Int} (hr : book_Refuted houses notices hears readings cries house notice heard = some (r, r2)) :
    SpecV Tryz.prog 21 #[.agg #[.int .i64 houses, .int .i64 notices, .slice hears_a hears.length hears_c, .slice readings_a readings.length readings_c, .slice cries_a cries.length cries_c], .agg #[.int .i64 house, .int .i64 notice, .bool heard]] F (.tuple #[.bool r, .int .i64 r2]) := by
 refine spec_of_shW (args := [.agg #[.int .i64 houses, .int .i64 notices, .slice hears_a hears.length hears_c, .slice readings_a readings.length readings_c, .slice cries_a cries.length cries_c], .agg #[.int .i64 house, .int .i64 notice, .bool heard]]) Tryz.func21 rfl Tryz.ntmps21 (Nat.le_of_ble_eq_true rfl) ?_
 intro K _ _; rw [book_Refuted] at hr
 refine wsr ?_
 refine o_box rfl rfl ?_; intro b1 hb1
 refine o_box rfl rfl ?_; intro b2 hb2
 refine oa rfl rfl (oa rfl rfl (nsr ?_))
 refine ov (v_loadA (cs := #[.int .i64 houses, .int .i64 notices, .slice hears_a hears.length hears_c, .slice readings_a readings.length readings_c, .slice cries_a cries.length cries_c]) Tryz.isAgg27 Tryz.sizeOf27 rfl (Has.own 1 rfl) (Nat.le_of_ble_eq_true rfl) rfl) rfl ?_
 refine ov (v_loadA (cs := #[.int .i64 house, .int .i64 notice, .bool heard]) Tryz.isAgg36 Tryz.sizeOf36 rfl (Has.own 0 rfl) (Nat.le_of_ble_eq_true rfl) rfl) rfl ?_
 obtain ⟨l, n, h3, r4⟩ := b2_ok hr; clear hr
 refine o_call0 rfl Tryz.call62 rfl rfl rfl (book_Witness_w h_hears h_readings h_cries h3) ?_; rintro _ F5 _ hF6 hn7 ⟨a9, c10, rfl, rfl, h11⟩
 refine shO_L (ln rfl) ?_
 refine om rfl rfl (ox rfl rfl rfl (ox rfl rfl rfl (oa rfl rfl (oa rfl rfl (shO_nil (shW_seq (wsr (om rfl rfl (shO_nil ?_)))))))))
 refine shW_block ?_
 refine wsr ?_
 refine ov (v_eql rfl rfl) rfl ?_
 refine oa rfl rfl (shO_nil ?_)
 refine shW_condP rfl (fun c12 => ?_) (fun c12 => ?_)
 · have r13 := ite_t r4 c12; clear r4
   refine wsr (oa rfl rfl (oa rfl rfl (shO_nil ?_)))
   refine kW kn ?_
   refine shW_ret (inBlock_ret (andThen_ret ?_))
   refine q_res2 Tryz.results21 (res_tmp rfl) (res_tmp rfl) (sr) ?_
   obtain ⟨rfl, rfl⟩ := inj2 r13
   exact rfl
 have r14 := ite_f r4 c12; clear r4
 refine wsr ?_
 refine ov (v_eql rfl rfl) rfl ?_
 refine oa rfl rfl (shO_nil ?_)
 refine shW_condP rfl (fun c15 => ?_) (fun c15 => ?_)
 · have r16 := ite_t r14 c15; clear r14
   refine wsr (oa rfl rfl (oa rfl rfl (shO_nil ?_)))
   refine kW kn ?_
   refine shW_ret (inBlock_ret (andThen_ret ?_))
   refine q_res2 Tryz.results21 (res_tmp rfl) (res_tmp rfl) (sr) ?_
   obtain ⟨rfl, rfl⟩ := inj2 r16
   exact rfl
 have r17 := ite_f r14 c15; clear r14
 refine shW_skip (inBlock_n (id := 0) (wsr (om rfl rfl (oa rfl rfl (oa rfl rfl (shO_nil ?_))))))
 refine kW kn ?_
 refine shW_ret ?_
 refine q_res2 Tryz.results21 (res_tmp rfl) (res_tmp rfl) (sr) ?_
 obtain ⟨rfl, rfl⟩ := inj2 r17
 exact rfl
set_option maxHeartbeats 1000000 in
theorem oyezlaw07_tried_w {b_q : Nat} {metal_a : Option Addr} {metal_c : Nat} {metal : List Int} {at_ : Int} {turn : Int} {houses : Int} {notices : Int} {hears_a : Option Addr} {hears_c : Nat} {hears : List (List (List Int))} {readings_a : Option Addr} {readings_c : Nat} {readings : List Int} {cries_a : Option Addr} {cries_c : Nat} {cries : List (Int × Int × Int)} {real_a : Option Addr} {real_c : Nat} {real : List Int} {many : Int} {F : FS} (h_metal : RowR 1 (iE .u8) F metal_a metal_c metal) (h_hears : RowR 1 (slE 1 (slE 1 (iE .i64))) F hears_a hears_c hears) (h_readings : RowR 1 (iE .i64) F readings_a readings_c readings) (h_cries : RowR 3 (prE (iE .i64) (prE (iE .i64) (iE .i64))) F cries_a cries_c cries) (h_real : RowR 1 (iE .i64) F real_a real_c real) {r : List (List Int)} {r2 : Int} {r3 : Int} (hr : oyezlaw07_tried metal at_ turn houses notices hears readings cries real many = some (r, r2, r3)) :
    SH.Spec Tryz.prog 22 #[.pointer (some ⟨b_q, 0, none⟩), .agg #[.int .i64 houses, .int .i64 notices, .slice hears_a hears.length hears_c, .slice readings_a readings.length readings_c, .slice cries_a cries.length cries_c], .slice real_a real.length real_c, .int .i64 many] F [(b_q, .cells #[.slice metal_a metal.length metal_c, .int .i64 at_, .int .u32 turn] 95 (0, 0))] fun F' L' v => ∃ (ra : Option Addr) (rn : Nat) (rc : Nat) (rL : LH), v = .slice ra rn rc ∧ L' = (b_q, .cells #[.slice metal_a metal.length metal_c, .int .i64 r2, .int .u32 r3] 95 (0, 0)) :: (rL ++ []) ∧ SlR 0 24 1 (slE 1 (iE .i64)) F' ra rn rc r rL := by
 refine spec_of_shW (args := [.pointer (some ⟨b_q, 0, none⟩), .agg #[.int .i64 houses, .int .i64 notices, .slice hears_a hears.length hears_c, .slice readings_a readings.length readings_c, .slice cries_a cries.length cries_c], .slice real_a real.length real_c, .int .i64 many]) Tryz.func22 rfl Tryz.ntmps22 (Nat.le_of_ble_eq_true rfl) ?_
 intro K _ _; rw [oyezlaw07_tried] at hr
 refine wsr ?_
 refine o_box rfl rfl ?_; intro b1 hb1
 refine oa rfl rfl (nsr (om rfl rfl ?_))
 refine o_buildSlice (cs := #[.slice real_a real.length real_c]) rfl rfl (buildSlice_all slt_49 [.slice real_a real.length real_c] rfl (by decide) (by simp [Value.cells]) (by decide)) ?_; intro b2 hb2
 have hz4 : SlR K.w0.heap.size 24 1 (slE 1 (iE .i64)) F (some ⟨b2, 0, none⟩) 1 1 [real] [(b2, .cells #[.slice real_a real.length real_c] 24 (0, 0))] := SlR.of_block (vss := [[.slice real_a real.length real_c]]) (slE_ok (iE_ok _)) hb2 (.cons ⟨_, _, rfl, h_real⟩ .nil) rfl rfl (by simp [maxLen])
 generalize hLLb3 : ([(b2, .cells #[.slice real_a real.length real_c] 24 (0, 0))] : LH) = Lb3 at hz4
 refine shO_perm (L' := Lb3 ++ [(b1, .cells #[.int .i64 houses, .int .i64 notices, .slice hears_a hears.length hears_c, .slice readings_a readings.length readings_c, .slice cries_a cries.length cries_c] 27 (0, 0)), (b_q, .cells #[.slice metal_a metal.length metal_c, .int .i64 at_, .int .u32 turn] 95 (0, 0))]) (by rw [← hLLb3]; exact fO) ?_
 refine shO_perm (L' := (b1, .cells #[.int .i64 houses, .int .i64 notices, .slice hears_a hears.length hears_c, .slice readings_a readings.length readings_c, .slice cries_a cries.length cries_c] 27 (0, 0)) :: ((b_q, .cells #[.slice metal_a metal.length metal_c, .int .i64 at_, .int .u32 turn] 95 (0, 0)) :: (Lb3 ++ []))) (List.Perm.symm (fC (fC fP))) ?_
 refine oa rfl rfl (shO_nil ?_)
 obtain ⟨out, q_at, q_turn, h12, r13⟩ := b3_ok hr; clear hr
 refine shW_join (fun e1 F1 L1 => ∃ (a6 : Option Addr) (n10 : Nat) (c7 : Nat) (Lb8 : LH), FExt F F1 ∧ L1 = ((b_q, .cells #[.slice metal_a metal.length metal_c, .int .i64 q_at, .int .u32 q_turn] 95 (0, 0)) :: (Lb8 ++ [])) ∧ e1.sub [(9, .slice a6 n10 c7)] ∧ SlR K.w0.heap.size 24 1 (slE 1 (iE .i64)) F1 a6 n10 c7 out Lb8) ?_ ?_
 · clear r13
   refine wsr (om rfl rfl (om rfl rfl (shO_nil ?_)))
   refine shW_block ?_
   obtain ⟨g20, r21⟩ := gd_ok h12; clear h12
   refine shW_lp (fun fu1 e1 F1 L1 => ∃ (k : Int), Ctr 0 many k fu1 ∧ ∃ (q_at2 : Int) (q_turn2 : Int) (out2 : List (List Int)) (a14 : Option Addr) (n18 : Nat) (c15 : Nat) (Lb16 : LH), oyezlaw07_tried_l1 metal houses notices hears readings cries real fu1 q_at2 q_turn2 out2 = some (out, q_at, q_turn) ∧ FExt F F1 ∧ L1 = ((b1, .cells #[.int .i64 houses, .int .i64 notices, .slice hears_a hears.length hears_c, .slice readings_a readings.length readings_c, .slice cries_a cries.length cries_c] 27 (0, 0)) :: ((b_q, .cells #[.slice metal_a metal.length metal_c, .int .i64 q_at2, .int .u32 q_turn2] 95 (0, 0)) :: (Lb16 ++ []))) ∧ e1.sub [(0, .pointer (some ⟨b_q, 0, none⟩)), (2, .slice real_a real.length real_c), (5, .pointer (some ⟨b1, 0, none⟩)), (9, .slice a14 n18 c15), (17, .int .i64 many), (18, .int .i64 k)] ∧ SlR K.w0.heap.size 24 1 (slE 1 (iE .i64)) F1 a14 n18 c15 out2 Lb16) _ (m0 kr ⟨_, Ctr.start _ _, at_, turn, [real], (some ⟨b2, 0, none⟩), 1, 1, Lb3, r21, FExt.refl _, rfl, (sc rfl (sc rfl (sc rfl (sc rfl (sc rfl (sc rfl (sn _))))))), hz4⟩) ?_
   rintro fu1 e1 F26 _ ⟨k, hk22, q_at2, q_turn2, out2, a14, n18, c15, Lb16, r24, hF27, rfl, he25, hz17⟩
   refine shW_env _ he25 ?_; clear he25
   replace h_metal := h_metal.mono (iE_ok _) hF27
   replace h_hears := h_hears.mono (slE_ok (slE_ok (iE_ok _))) hF27
   replace h_readings := h_readings.mono (iE_ok _) hF27
   replace h_cries := h_cries.mono (prE_ok (iE_ok _) (prE_ok (iE_ok _) (iE_ok _))) hF27
   replace h_real := h_real.mono (iE_ok _) hF27
   refine wsr ?_
   refine ov (v_lssK rfl rfl) rfl ?_
   refine shO_nil (shW_seq ?_)
   refine shW_condP rfl (fun c29 => ?_) (fun c29 => ?_)
   · obtain ⟨fu1, rfl, hk30⟩ := Ctr.succ hk22 c29
     rw [oyezlaw07_tried_l1] at r24
     refine shW_skip ?_
     obtain ⟨q_at3, q_turn3, out3, h37, r38⟩ := b3_ok r24; clear r24
     refine shW_join (fun e1 F1 L1 => ∃ (a31 : Option Addr) (n35 : Nat) (c32 : Nat) (Lb33 : LH), FExt F26 F1 ∧ L1 = ((b_q, .cells #[.slice metal_a metal.length metal_c, .int .i64 q_at3, .int .u32 q_turn3] 95 (0, 0)) :: ((b1, .cells #[.int .i64 houses, .int .i64 notices, .slice hears_a hears.length hears_c, .slice readings_a readings.length readings_c, .slice cries_a cries.length cries_c] 27 (0, 0)) :: (Lb33 ++ []))) ∧ e1.sub [(0, .pointer (some ⟨b_q, 0, none⟩)), (2, .slice real_a real.length real_c), (5, .pointer (some ⟨b1, 0, none⟩)), (9, .slice a31 n35 c32), (17, .int .i64 many), (18, .int .i64 k)] ∧ SlR K.w0.heap.size 24 1 (slE 1 (iE .i64)) F1 a31 n35 c32 out3 Lb33) ?_ ?_
     · clear r38
       refine shW_block ?_
       refine wsr (om rfl rfl ?_)
       obtain ⟨l, h39, r40⟩ := b1_ok h37; clear h37
       refine o_call0 rfl Tryz.call19 rfl rfl rfl (oyezkit_Copy_int_w h_real h39) ?_; rintro _ F41 _ hF42 hn43 ⟨a45, n49, c46, Lb47, rfl, rfl, hz48⟩
       replace h_metal := h_metal.mono (iE_ok _) hF42
       replace h_hears := h_hears.mono (slE_ok (slE_ok (iE_ok _))) hF42
       replace h_readings := h_readings.mono (iE_ok _) hF42
       replace h_cries := h_cries.mono (prE_ok (iE_ok _) (prE_ok (iE_ok _) (iE_ok _))) hF42
       replace hz17 := hz17.mono (slE_ok (iE_ok _)) hF42
       replace hz48 := hz48.new fun p hp => hn43 p (by simp [hp])
       refine shO_L (lp (ln rfl)) ?_
       refine kO (kf (fS fO) (kf (fS fO) kr)) ?_
       refine oa rfl rfl (shO_nil ?_)
       obtain ⟨q_at4, q_turn4, own, h53, r54⟩ := b3_ok r40; clear r40
       refine shW_join (fun e1 F1 L1 => ∃ (Lb51 : LH), FExt F41 F1 ∧ L1 = ((b_q, .cells #[.slice metal_a metal.length metal_c, .int .i64 q_at4, .int .u32 q_turn4] 95 (0, 0)) :: ((b1, .cells #[.int .i64 houses, .int .i64 notices, .slice hears_a hears.length hears_c, .slice readings_a readings.length readings_c, .slice cries_a cries.length cries_c] 27 (0, 0)) :: (Lb16 ++ (Lb51 ++ [])))) ∧ e1.sub [(0, .pointer (some ⟨b_q, 0, none⟩)), (2, .slice real_a real.length real_c), (5, .pointer (some ⟨b1, 0, none⟩)), (9, .slice a14 n18 c15), (10, .slice a45 n49 c46), (17, .int .i64 many), (18, .int .i64 k)] ∧ SlR K.w0.heap.size 3 1 (iE .i64) F1 a45 n49 c46 own Lb51) ?_ ?_
       · clear r54
         refine wsr (om rfl rfl ?_)
         obtain ⟨n, at_2, turn2, h55, r56⟩ := b3_ok h53; clear h53
         refine o_callG (Lb := [(b_q, .cells #[.slice metal_a metal.length metal_c, .int .i64 q_at2, .int .u32 q_turn2] 95 (0, 0))]) (Lr := (b1, .cells #[.int .i64 houses, .int .i64 notices, .slice hears_a hears.length hears_c, .slice readings_a readings.length readings_c, .slice cries_a cries.length cries_c] 27 (0, 0)) :: (Lb47 ++ (Lb16 ++ []))) rfl Tryz.call28 rfl rfl rfl (((fC fO).trans (pC pR))) (oyezkit_Bell_Strike_w h_metal h55) ?_; rintro _ F57 _ hF58 hd60 hn59 ⟨rfl, rfl⟩
         replace h_metal := h_metal.mono (iE_ok _) hF58
         replace hz48 := hz48.mono (iE_ok _) hF58
         refine shO_L (lb (ln rfl)) ?_
         refine om rfl rfl (shO_nil ?_)
         refine shW_block ?_
         obtain ⟨g63, r64⟩ := gd_ok r56; clear r56
         refine shW_lp (fun fu2 e1 F1 L1 => ∃ (k2 : Int), Ctr 0 n k2 fu2 ∧ ∃ (q_at5 : Int) (q_turn5 : Int) (own2 : List Int) (Lb61 : LH), oyezlaw07_tried_l2 metal fu2 q_at5 q_turn5 own2 = some (q_at4, q_turn4, own) ∧ FExt F57 F1 ∧ L1 = ((b_q, .cells #[.slice metal_a metal.length metal_c, .int .i64 q_at5, .int .u32 q_turn5] 95 (0, 0)) :: ((b1, .cells #[.int .i64 houses, .int .i64 notices, .slice hears_a hears.length hears_c, .slice readings_a readings.length readings_c, .slice cries_a cries.length cries_c] 27 (0, 0)) :: (Lb16 ++ (Lb61 ++ [])))) ∧ e1.sub [(0, .pointer (some ⟨b_q, 0, none⟩)), (2, .slice real_a real.length real_c), (5, .pointer (some ⟨b1, 0, none⟩)), (9, .slice a14 n18 c15), (10, .slice a45 n49 c46), (17, .int .i64 many), (18, .int .i64 k), (23, .int .i64 n), (24, .int .i64 k2)] ∧ SlR K.w0.heap.size 3 1 (iE .i64) F1 a45 n49 c46 own2 Lb61) _ (m0 (kc (kc (kg (fS fP) kr))) ⟨_, Ctr.start _ _, at_2, turn2, l, Lb47, r64, FExt.refl _, rfl, (sc rfl (sc rfl (sc rfl (sc rfl (sc rfl (sc rfl (sc rfl (sc rfl (sc rfl (sn _)))))))))), hz48⟩) ?_
         rintro fu2 e1 F69 _ ⟨k2, hk65, q_at5, q_turn5, own2, Lb61, r67, hF70, rfl, he68, hz62⟩
         refine shW_env _ he68 ?_; clear he68
         replace h_metal := h_metal.mono (iE_ok _) hF70
         refine wsr ?_
         refine ov (v_lssK rfl rfl) rfl ?_
         refine shO_nil (shW_seq ?_)
         refine shW_condP rfl (fun c72 => ?_) (fun c72 => ?_)
         · obtain ⟨fu2, rfl, hk73⟩ := Ctr.succ hk65 c72
           rw [oyezlaw07_tried_l2] at r67
           refine shW_skip ?_
           obtain ⟨q_at6, q_turn6, own3, h76, r77⟩ := b3_ok r67; clear r67
           refine shW_join (fun e1 F1 L1 => ∃ (Lb74 : LH), FExt F69 F1 ∧ L1 = ((b_q, .cells #[.slice metal_a metal.length metal_c, .int .i64 q_at6, .int .u32 q_turn6] 95 (0, 0)) :: ((b1, .cells #[.int .i64 houses, .int .i64 notices, .slice hears_a hears.length hears_c, .slice readings_a readings.length readings_c, .slice cries_a cries.length cries_c] 27 (0, 0)) :: (Lb16 ++ (Lb74 ++ [])))) ∧ e1.sub [(0, .pointer (some ⟨b_q, 0, none⟩)), (2, .slice real_a real.length real_c), (5, .pointer (some ⟨b1, 0, none⟩)), (9, .slice a14 n18 c15), (10, .slice a45 n49 c46), (17, .int .i64 many), (18, .int .i64 k), (23, .int .i64 n), (24, .int .i64 k2)] ∧ SlR K.w0.heap.size 3 1 (iE .i64) F1 a45 n49 c46 own3 Lb74) ?_ ?_
           · clear r77
             refine shW_block ?_
             refine wsr (om rfl rfl (om rfl rfl ?_))
             refine ov ((v_lenS Tryz.underlying24 rfl).i (SlR.lenI hz62)) rfl ?_
             obtain ⟨g78, r79⟩ := gd_ok h76; clear h76
             refine ov (v_sub rfl rfl g78) rfl ?_
             obtain ⟨n2, at_3, turn3, h80, r81⟩ := b3_ok r79; clear r79
             refine o_callG (Lb := [(b_q, .cells #[.slice metal_a metal.length metal_c, .int .i64 q_at5, .int .u32 q_turn5] 95 (0, 0))]) (Lr := (b1, .cells #[.int .i64 houses, .int .i64 notices, .slice hears_a hears.length hears_c, .slice readings_a readings.length readings_c, .slice cries_a cries.length cries_c] 27 (0, 0)) :: (Lb16 ++ (Lb61 ++ []))) rfl Tryz.call8 rfl rfl rfl (pR) (oyezkit_Bell_Stroke_w h_metal h80) ?_; rintro _ F82 _ hF83 hd85 hn84 ⟨rfl, rfl⟩
             replace h_metal := h_metal.mono (iE_ok _) hF83
             replace hz62 := hz62.mono (iE_ok _) hF83
             refine shO_L (lb (ln rfl)) ?_
             refine om rfl rfl (om rfl rfl ?_)
             refine ov ((v_lenS Tryz.underlying24 rfl).i (SlR.lenI hz62)) rfl ?_
             obtain ⟨g86, r87⟩ := gd_ok r81; clear r81
             refine ov (v_sub rfl rfl g86) rfl ?_
             obtain ⟨n3, at_4, turn4, h88, r89⟩ := b3_ok r87; clear r87
             refine o_callG (Lb := [(b_q, .cells #[.slice metal_a metal.length metal_c, .int .i64 at_3, .int .u32 turn3] 95 (0, 0))]) (Lr := (b1, .cells #[.int .i64 houses, .int .i64 notices, .slice hears_a hears.length hears_c, .slice readings_a readings.length readings_c, .slice cries_a cries.length cries_c] 27 (0, 0)) :: (Lb16 ++ (Lb61 ++ []))) rfl Tryz.call8 rfl rfl rfl (pR) (oyezkit_Bell_Stroke_w h_metal h88) ?_; rintro _ F90 _ hF91 hd93 hn92 ⟨rfl, rfl⟩
             replace h_metal := h_metal.mono (iE_ok _) hF91
             replace hz62 := hz62.mono (iE_ok _) hF91
             refine shO_L (lb (ln rfl)) ?_
             refine oa rfl rfl (oa rfl rfl (nsr (om rfl rfl ?_)))
             obtain ⟨n4, at_5, turn5, h94, r95⟩ := b3_ok r89; clear r89
             refine o_callG (Lb := [(b_q, .cells #[.slice metal_a metal.length metal_c, .int .i64 at_4, .int .u32 turn4] 95 (0, 0))]) (Lr := (b1, .cells #[.int .i64 houses, .int .i64 notices, .slice hears_a hears.length hears_c, .slice readings_a readings.length readings_c, .slice cries_a cries.length cries_c] 27 (0, 0)) :: (Lb16 ++ (Lb61 ++ []))) rfl Tryz.call28 rfl rfl rfl (pR) (oyezkit_Bell_Strike_w h_metal h94) ?_; rintro _ F96 _ hF97 hd99 hn98 ⟨rfl, rfl⟩
             replace hz62 := hz62.mono (iE_ok _) hF97
             refine shO_L (lb (ln rfl)) ?_
             refine oa rfl rfl (nsr (om rfl rfl (om rfl rfl ?_)))
             refine ov (v_min2 rfl rfl) rfl ?_
             refine oa rfl rfl (shO_nil ?_)
             refine shW_block ?_
             refine shW_lp (fun fu3 e1 F1 L1 => ∃ (own4 : List Int) (h : Int) (Lb100 : LH), oyezlaw07_tried_l3 n2 n3 n4 at_5 turn5 fu3 own4 h = some (q_at6, q_turn6, own3) ∧ F96 = F1 ∧ L1 = ((b_q, .cells #[.slice metal_a metal.length metal_c, .int .i64 at_5, .int .u32 turn5] 95 (0, 0)) :: ((b1, .cells #[.int .i64 houses, .int .i64 notices, .slice hears_a hears.length hears_c, .slice readings_a readings.length readings_c, .slice cries_a cries.length cries_c] 27 (0, 0)) :: (Lb16 ++ (Lb100 ++ [])))) ∧ e1.sub [(0, .pointer (some ⟨b_q, 0, none⟩)), (2, .slice real_a real.length real_c), (5, .pointer (some ⟨b1, 0, none⟩)), (9, .slice a14 n18 c15), (10, .slice a45 n49 c46), (11, .int .i64 n2), (12, .int .i64 n3), (13, .int .i64 n4), (14, .int .i64 h), (17, .int .i64 many), (18, .int .i64 k), (23, .int .i64 n), (24, .int .i64 k2)] ∧ SlR K.w0.heap.size 3 1 (iE .i64) F1 a45 n49 c46 own4 Lb100) FU (m0 kr ⟨own2, if n3 < n2 then n3 else n2, Lb61, r95, rfl, rfl, (sc rfl (sc rfl (sc rfl (sc rfl (sc rfl (sc rfl (sc rfl (sc rfl (sc rfl (sc rfl (sc rfl (sc rfl (sc rfl (sn _)))))))))))))), hz62⟩) ?_
             rintro fu3 e1 _ _ ⟨own4, h, Lb100, r104, rfl, rfl, he105, hz101⟩
             refine shW_env _ he105 ?_; clear he105
             rcases fu3 with _ | fu3
             · rw [oyezlaw07_tried_l3] at r104; cases r104
             rw [oyezlaw07_tried_l3] at r104
             refine shW_seq (wsr (om rfl rfl (om rfl rfl (om rfl rfl ?_))))
             refine ov (v_max2 rfl rfl) rfl ?_
             refine ov (v_leqK rfl rfl) rfl ?_
             refine shO_nil ?_
             refine shW_condP rfl (fun c106 => ?_) (fun c106 => ?_)
             · have r107 := ite_t r104 c106; clear r104
               refine shW_skip (shW_seq ?_)
               refine shW_block ?_
               refine shW_region (om rfl rfl (om rfl rfl (om rfl rfl (om rfl rfl ?_))))
               obtain ⟨x, g108, hx109, r110⟩ := ix_ok r107; clear r107
               obtain ⟨b111, o112, c113, vs114, ha115, hs116, hle117, rfl, hl118, hc119⟩ := SlR.at (iE_ok _) hz101 (L := (b_q, .cells #[.slice metal_a metal.length metal_c, .int .i64 at_5, .int .u32 turn5] 95 (0, 0)) :: ((b1, .cells #[.int .i64 houses, .int .i64 notices, .slice hears_a hears.length hears_c, .slice readings_a readings.length readings_c, .slice cries_a cries.length cries_c] 27 (0, 0)) :: (Lb16 ++ (Lb100 ++ [])))) (fC (fC (fS fP))) g108.1 hx109
               refine ov (v_indexO Tryz.underlying24 Tryz.sizeOf3 rfl ha115 rfl (SlR.idx hz101 g108)) rfl ?_
               refine ov (v_load Tryz.isAgg3 rfl hs116 (hc119 0 (by decide))) rfl ?_
               refine om rfl rfl ?_
               obtain ⟨g120, r121⟩ := gd_ok r110; clear r110
               refine ov (v_add rfl rfl g120) rfl ?_
               obtain ⟨n5, h122, r123⟩ := b1_ok r121; clear r121
               refine o_callV rfl Tryz.call39 rfl rfl rfl (oyezkit_Wind_w h122) ?_
               obtain ⟨b124, o125, c126, vs127, ha128, hs129, hle130, rfl, hl131, hc132⟩ := SlR.at (iE_ok _) hz101 (L := (b_q, .cells #[.slice metal_a metal.length metal_c, .int .i64 at_5, .int .u32 turn5] 95 (0, 0)) :: ((b1, .cells #[.int .i64 houses, .int .i64 notices, .slice hears_a hears.length hears_c, .slice readings_a readings.length readings_c, .slice cries_a cries.length cries_c] 27 (0, 0)) :: (Lb16 ++ (Lb100 ++ [])))) (fC (fC (fS fP))) g108.1 hx109
               refine ov (v_indexO Tryz.underlying24 Tryz.sizeOf3 rfl ha128 rfl (SlR.idx hz101 g108)) rfl ?_
               obtain ⟨own5, h133, r134⟩ := bv_ok r123; clear r123
               refine o_storeZ (u := n5) Tryz.sizeOf3 (iE_ok _) rfl ha128 rfl rfl (fun _ => .c (.c (.s .h))) hz101 h133 g108 ?_; intro Lb135 hz136
               refine shO_nil (inBlock_n (id := 5) (shW_region (om rfl rfl ?_)))
               obtain ⟨g137, r138⟩ := gd_ok r134; clear r134
               refine ov (v_add rfl rfl g137) rfl ?_
               refine oa rfl rfl (shO_nil ?_)
               exact le kr ⟨own5, h + 1, Lb135, r138, rfl, rfl, (sc rfl (sc rfl (sc rfl (sc rfl (sc rfl (sc rfl (sc rfl (sc rfl (sc rfl (sc rfl (sc rfl (sc rfl (sc rfl (sn _)))))))))))))), hz136⟩
             have r139 := ite_f r104 c106; clear r104
             refine shW_exit (andThen_exit (andThen_exit ?_))
             refine inBlock_exit ?_
             refine inBlock_n (id := 3) ?_
             obtain ⟨rfl, rfl, rfl⟩ := inj3 r139
             exact mi kr ⟨Lb100, ((hF83.trans hF91).trans hF97), rfl, (sc rfl (sc rfl (sc rfl (sc rfl (sc rfl (sc rfl (sc rfl (sc rfl (sc rfl (sn _)))))))))), hz101⟩
           rintro e1 F141 _ ⟨Lb74, hF142, rfl, he140, hz75⟩
           refine shW_env _ he140 ?_; clear he140
           refine shW_region ?_
           refine ov (v_add rfl rfl (Ctr.r64 hk65 c72 g63)) rfl ?_
           refine om rfl rfl (shO_nil ?_)
           exact le kr ⟨_, hk73, q_at6, q_turn6, own3, Lb74, r77, (hF70.trans hF142), rfl, (sc rfl (sc rfl (sc rfl (sc rfl (sc rfl (sc rfl (sc rfl (sc rfl (sc rfl (sn _)))))))))), hz75⟩
         obtain rfl := Ctr.zero hk65 c72
         rw [oyezlaw07_tried_l2] at r67
         refine shW_exit (andThen_exit (andThen_exit ?_))
         refine inBlock_exit ?_
         obtain ⟨rfl, rfl, rfl⟩ := inj3 r67
         exact mi kr ⟨Lb61, (hF58.trans hF70), rfl, (sc rfl (sc rfl (sc rfl (sc rfl (sc rfl (sc rfl (sc rfl (sn _)))))))), hz62⟩
       rintro e1 F144 _ ⟨Lb51, hF145, rfl, he143, hz52⟩
       refine shW_env _ he143 ?_; clear he143
       replace h_hears := h_hears.mono (slE_ok (slE_ok (iE_ok _))) hF145
       replace h_readings := h_readings.mono (iE_ok _) hF145
       replace h_cries := h_cries.mono (prE_ok (iE_ok _) (prE_ok (iE_ok _) (iE_ok _))) hF145
       replace hz17 := hz17.mono (slE_ok (iE_ok _)) hF145
       refine wsr ?_
       refine ov (v_loadA (cs := #[.int .i64 houses, .int .i64 notices, .slice hears_a hears.length hears_c, .slice readings_a readings.length readings_c, .slice cries_a cries.length cries_c]) Tryz.isAgg27 Tryz.sizeOf27 rfl (Has.own 1 rfl) (Nat.le_of_ble_eq_true rfl) rfl) rfl ?_
       refine om rfl rfl ?_
       obtain ⟨ok, h146, r147⟩ := b1_ok r54; clear r54
       refine o_callT (Lt := Lb51 ++ []) (Lr := (b_q, .cells #[.slice metal_a metal.length metal_c, .int .i64 q_at4, .int .u32 q_turn4] 95 (0, 0)) :: ((b1, .cells #[.int .i64 houses, .int .i64 notices, .slice hears_a hears.length hears_c, .slice readings_a readings.length readings_c, .slice cries_a cries.length cries_c] 27 (0, 0)) :: (Lb16 ++ []))) rfl Tryz.call59 rfl rfl rfl (pT ((fC (fC (fS fP))).trans (pA pR)) (lp (ln rfl))) (fun F2 h2 h3 => by rw [(SlR.caps hz52).1]; exact oyezlaw07_fit_w (h_hears.mono (slE_ok (slE_ok (iE_ok _))) h2) (h_readings.mono (iE_ok _) h2) (h_cries.mono (prE_ok (iE_ok _) (prE_ok (iE_ok _) (iE_ok _))) h2) (hz52.row (iE_ok _) h2 (fun p hp => h3 p (List.mem_append_left _ hp))) h146) ?_
       refine shO_nil ?_
       refine shW_cond rfl (fun c148 => ?_) (fun c148 => ?_)
       · have r149 := bt r147 c148; clear r147
         refine shW_region (om rfl rfl (om rfl rfl ?_))
         refine o_buildSlice (cs := #[.slice a45 n49 c46]) rfl rfl (buildSlice_all slt_49 [.slice a45 n49 c46] rfl (by decide) (by simp [Value.cells]) (by decide)) ?_; intro b150 hb150
         obtain rfl := (SlR.caps hz52).1
         refine shO_freezeR (Nat.le_refl _) (iE_ok _) (fC (fC (fC (fS fP)))) hz52 ?_; intro F151 hF152 h153
         replace hz17 := hz17.mono (slE_ok (iE_ok _)) hF152
         obtain ⟨out4, h154, g155, r156⟩ := ap_ok r149; clear r149
         refine o_appZ (xs := out2) (ys := [own]) (zs := out4) rfl slt_49 rfl rfl (Nat.le_refl _) (fun _ => .c (.c (.c .h))) hz17 (SrcR.box (vss := [[.slice a45 own.length c46]]) (ys := [own]) 0 rfl (slE_ok (iE_ok _)) (.cons ⟨_, _, rfl, h153⟩ .nil) rfl rfl) h154 g155 (by decide) ?_; intro a157 n161 c158 Lb159 hz160
         refine kO (kd kr) ?_
         refine oa rfl rfl (shO_nil (inBlock_n (id := 1) ?_))
         obtain ⟨rfl, rfl, rfl⟩ := inj3 r156
         exact mi kr ⟨a157, n161, c158, Lb159, ((hF42.trans hF145).trans hF152), rfl, (sc rfl (sc rfl (sc rfl (sc rfl (sc rfl (sc rfl (sn _))))))), hz160⟩
       have r163 := bf r147 c148; clear r147
       refine shW_skip (inBlock_n (id := 1) ?_)
       obtain ⟨rfl, rfl, rfl⟩ := inj3 r163
       exact mi (kc (kc (ka kn))) ⟨a14, n18, c15, Lb16, (hF42.trans hF145), rfl, (sc rfl (sc rfl (sc rfl (sc rfl (sc rfl (sc rfl (sn _))))))), hz17⟩
     rintro e1 F165 _ ⟨a31, n35, c32, Lb33, hF166, rfl, he164, hz34⟩
     refine shW_env _ he164 ?_; clear he164
     refine shW_region ?_
     refine ov (v_add rfl rfl (Ctr.r64 hk22 c29 g20)) rfl ?_
     refine om rfl rfl (shO_nil ?_)
     exact le (kf (fC fO) kr) ⟨_, hk30, q_at3, q_turn3, out3, a31, n35, c32, Lb33, r38, (hF27.trans hF166), rfl, (sc rfl (sc rfl (sc rfl (sc rfl (sc rfl (sc rfl (sn _))))))), hz34⟩
   obtain rfl := Ctr.zero hk22 c29
   rw [oyezlaw07_tried_l1] at r24
   refine shW_exit (andThen_exit (andThen_exit ?_))
   refine inBlock_exit ?_
   obtain ⟨rfl, rfl, rfl⟩ := inj3 r24
   exact mi (kd kr) ⟨a14, n18, c15, Lb16, hF27, rfl, (sc rfl (sn _)), hz17⟩
 rintro e1 F168 _ ⟨a6, n10, c7, Lb8, hF169, rfl, he167, hz9⟩
 refine shW_env _ he167 ?_; clear he167
 refine wsr (om rfl rfl (oa rfl rfl (shO_nil (shW_ret ?_))))
 refine q_res1 Tryz.results22 (res_tmp rfl) (sr) ?_
 obtain ⟨rfl, rfl, rfl⟩ := inj3 r13
 exact ⟨_, _, _, _, rfl, rfl, hz9.any⟩
set_option maxHeartbeats 1000000 in
theorem book_Verdicts_w {houses : Int} {notices : Int} {hears_a : Option Addr} {hears_c : Nat} {hears : List (List (List Int))} {readings_a : Option Addr} {readings_c : Nat} {readings : List Int} {cries_a : Option Addr} {cries_c : Nat} {cries : List (Int × Int × Int)} {F : FS} (h_hears : RowR 1 (slE 1 (slE 1 (iE .i64))) F hears_a hears_c hears) (h_readings : RowR 1 (iE .i64) F readings_a readings_c readings) (h_cries : RowR 3 (prE (iE .i64) (prE (iE .i64) (iE .i64))) F cries_a cries_c cries) {r : List (List Int)} {r2 : Int} (hr : book_Verdicts houses notices hears readings cries = some (r, r2)) :
    SH.Spec Tryz.prog 29 #[.agg #[.int .i64 houses, .int .i64 notices, .slice hears_a hears.length hears_c, .slice readings_a readings.length readings_c, .slice cries_a cries.length cries_c]] F [] fun F' L' v => ∃ (ra : Option Addr) (rc : Nat), v = .tuple #[.slice ra r.length rc, .int .i64 r2] ∧ L' = [] ∧ RowR 1 (slE 1 (iE .i64)) F' ra rc r := by
 refine spec_of_shW (args := [.agg #[.int .i64 houses, .int .i64 notices, .slice hears_a hears.length hears_c, .slice readings_a readings.length readings_c, .slice cries_a cries.length cries_c]]) Tryz.func29 rfl Tryz.ntmps29 (Nat.le_of_ble_eq_true rfl) ?_
 intro K _ _; rw [book_Verdicts] at hr
 refine wsr ?_
 refine o_box rfl rfl ?_; intro b1 hb1
 refine oa rfl rfl (oa rfl rfl (nsr ?_))
 refine ov (v_loadA (cs := #[.int .i64 houses, .int .i64 notices, .slice hears_a hears.length hears_c, .slice readings_a readings.length readings_c, .slice cries_a cries.length cries_c]) Tryz.isAgg27 Tryz.sizeOf27 rfl (Has.own 0 rfl) (Nat.le_of_ble_eq_true rfl) rfl) rfl ?_
 obtain ⟨d, l, n, h2, r3⟩ := b3_ok hr; clear hr
 refine o_call0 rfl Tryz.call76 rfl rfl rfl (book_told_w h_hears h_readings h_cries h2) ?_; rintro _ F4 _ hF5 hn6 ⟨v8, a10, n14, c11, Lb12, rfl, rfl, hp9, hz13⟩
 replace hz13 := hz13.new fun p hp => hn6 p (by simp [hp])
 refine shO_L (lp (ln rfl)) ?_
 refine kO (kf (fS fO) kr) ?_
 refine om rfl rfl (ox rfl rfl rfl (ox rfl rfl rfl (ox rfl rfl rfl (oa rfl rfl (oa rfl rfl (oa rfl rfl (shO_nil (shW_seq (wsr ?_)))))))))
 refine om rfl rfl ?_
 refine ov (v_neq rfl rfl) rfl ?_
 refine shO_nil ?_
 refine shW_condP rfl (fun c16 => ?_) (fun c16 => ?_)
 · have r17 := ite_t r3 c16; clear r3
   refine wsr (om rfl rfl (oa rfl rfl (oa rfl rfl (shO_nil ?_))))
   refine kW kn ?_
   refine shW_ret (andThen_ret ?_)
   refine q_res2 Tryz.results29 (res_tmp rfl) (res_tmp rfl) (sr) ?_
   obtain ⟨rfl, rfl⟩ := inj2 r17
   exact ⟨_, _, rfl, rfl, RowR.nil _ _ _⟩
 have r18 := ite_f r3 c16; clear r3
 refine shW_skip (wsr ?_)
 refine ov (v_fieldAddr fa_27_0 rfl) rfl ?_
 refine ov (v_load Tryz.isAgg3 rfl (Has.own 0 rfl) rfl) rfl ?_
 obtain ⟨g19, r20⟩ := gd_ok r18; clear r18
 obtain ⟨l2, h21, r22⟩ := bv_ok r20; clear r20
 refine o_makeZ (R := hdE) (z0 := (none, 0, 0)) (zs := List.replicate (houses : Int).toNat (none, 0, 0)) rfl slt_68 (by decide) hdE_ok (fun _ => rfl) rfl g19 rfl (fun _ => .c .n) ?_; intro a23 n26 Lb24 hO27
 have hz25 : NlR K.w0.heap.size 71 72 1 (iE .i64) F4 a23 n26 n26 l2 Lb24 := NlR.made hO27 h21
 refine oa rfl rfl (shO_nil ?_)
 obtain ⟨out, h31, r32⟩ := b1_ok r22; clear r22
 refine shW_join (fun e1 F1 L1 => ∃ (Lb29 : LH), F4 = F1 ∧ L1 = (Lb29 ++ []) ∧ e1.sub [(7, .slice a23 n26 n26)] ∧ NlR K.w0.heap.size 71 72 1 (iE .i64) F1 a23 n26 n26 out Lb29) ?_ ?_
 · clear r32
   refine wsr (om rfl rfl ?_)
   refine ov ((v_lenS Tryz.underlying68 rfl).i (NlR.lenI hz25)) rfl ?_
   refine om rfl rfl (shO_nil ?_)
   refine shW_block ?_
   obtain ⟨g35, r36⟩ := gd_ok h31; clear h31
   refine shW_lp (fun fu1 e1 F1 L1 => ∃ (k : Int), Ctr 0 (l2.length : Int) k fu1 ∧ ∃ (out2 : List (List Int)) (Lb33 : LH), book_Verdicts_l1 notices l fu1 k out2 = some out ∧ F4 = F1 ∧ L1 = ((b1, .cells #[.int .i64 houses, .int .i64 notices, .slice hears_a hears.length hears_c, .slice readings_a readings.length readings_c, .slice cries_a cries.length cries_c] 27 (0, 0)) :: (Lb12 ++ (Lb33 ++ []))) ∧ e1.sub [(1, .pointer (some ⟨b1, 0, none⟩)), (5, .slice a10 n14 c11), (7, .slice a23 n26 n26), (27, .int .i64 (l2.length : Int)), (28, .int .i64 k)] ∧ NlR K.w0.heap.size 71 72 1 (iE .i64) F1 a23 n26 n26 out2 Lb33) _ (m0 (kc (kg (fS fP) kr)) ⟨_, Ctr.start _ _, l2, Lb24, r36, rfl, rfl, (sc rfl (sc rfl (sc rfl (sc rfl (sc rfl (sn _)))))), hz25⟩) ?_
   rintro fu1 e1 _ _ ⟨k, hk37, out2, Lb33, r39, rfl, rfl, he40, hz34⟩
   refine shW_env _ he40 ?_; clear he40
   refine wsr ?_
   refine ov (v_lssK rfl rfl) rfl ?_
   refine shO_nil (shW_seq ?_)
   refine shW_condP rfl (fun c42 => ?_) (fun c42 => ?_)
   · obtain ⟨fu1, rfl, hk43⟩ := Ctr.succ hk37 c42
     rw [book_Verdicts_l1] at r39
     refine shW_skip ?_
     obtain ⟨out3, h46, r47⟩ := b1_ok r39; clear r39
     refine shW_join (fun e1 F1 L1 => ∃ (Lb44 : LH), F4 = F1 ∧ L1 = ((b1, .cells #[.int .i64 houses, .int .i64 notices, .slice hears_a hears.length hears_c, .slice readings_a readings.length readings_c, .slice cries_a cries.length cries_c] 27 (0, 0)) :: (Lb12 ++ (Lb44 ++ []))) ∧ e1.sub [(1, .pointer (some ⟨b1, 0, none⟩)), (5, .slice a10 n14 c11), (7, .slice a23 n26 n26), (27, .int .i64 (l2.length : Int)), (28, .int .i64 k)] ∧ NlR K.w0.heap.size 71 72 1 (iE .i64) F1 a23 n26 n26 out3 Lb44) ?_ ?_
     · clear r47
       refine shW_block ?_
       refine wsr (om rfl rfl (oa rfl rfl (nsr ?_)))
       refine ov (v_fieldAddr fa_27_1 rfl) rfl ?_
       refine ov (v_load Tryz.isAgg3 rfl (Has.own 0 rfl) rfl) rfl ?_
       refine om rfl rfl (shO_nil ?_)
       refine shW_block ?_
       obtain ⟨g50, r51⟩ := gd_ok h46; clear h46
       refine shW_lp (fun fu2 e1 F1 L1 => ∃ (k2 : Int), Ctr 0 notices k2 fu2 ∧ ∃ (out4 : List (List Int)) (Lb48 : LH), book_Verdicts_l2 l k fu2 k2 out4 = some out3 ∧ F4 = F1 ∧ L1 = ((b1, .cells #[.int .i64 houses, .int .i64 notices, .slice hears_a hears.length hears_c, .slice readings_a readings.length readings_c, .slice cries_a cries.length cries_c] 27 (0, 0)) :: (Lb12 ++ (Lb48 ++ []))) ∧ e1.sub [(1, .pointer (some ⟨b1, 0, none⟩)), (5, .slice a10 n14 c11), (7, .slice a23 n26 n26), (8, .int .i64 k), (27, .int .i64 (l2.length : Int)), (28, .int .i64 k), (32, .int .i64 notices), (33, .int .i64 k2)] ∧ NlR K.w0.heap.size 71 72 1 (iE .i64) F1 a23 n26 n26 out4 Lb48) _ (m0 kr ⟨_, Ctr.start _ _, out2, Lb33, r51, rfl, rfl, (sc rfl (sc rfl (sc rfl (sc rfl (sc rfl (sc rfl (sc rfl (sc rfl (sn _))))))))), hz34⟩) ?_
       rintro fu2 e1 _ _ ⟨k2, hk52, out4, Lb48, r54, rfl, rfl, he55, hz49⟩
       refine shW_env _ he55 ?_; clear he55
       refine wsr ?_
       refine ov (v_lssK rfl rfl) rfl ?_
       refine shO_nil (shW_seq ?_)
       refine shW_condP rfl (fun c57 => ?_) (fun c57 => ?_)
       · obtain ⟨fu2, rfl, hk58⟩ := Ctr.succ hk52 c57
         rw [book_Verdicts_l2] at r54
         refine shW_skip ?_
         obtain ⟨out5, h61, r62⟩ := b1_ok r54; clear r54
         refine shW_join (fun e1 F1 L1 => ∃ (Lb59 : LH), F4 = F1 ∧ L1 = ((b1, .cells #[.int .i64 houses, .int .i64 notices, .slice hears_a hears.length hears_c, .slice readings_a readings.length readings_c, .slice cries_a cries.length cries_c] 27 (0, 0)) :: (Lb12 ++ (Lb59 ++ []))) ∧ e1.sub [(1, .pointer (some ⟨b1, 0, none⟩)), (5, .slice a10 n14 c11), (7, .slice a23 n26 n26), (8, .int .i64 k), (27, .int .i64 (l2.length : Int)), (28, .int .i64 k), (32, .int .i64 notices), (33, .int .i64 k2)] ∧ NlR K.w0.heap.size 71 72 1 (iE .i64) F1 a23 n26 n26 out5 Lb59) ?_ ?_
         · clear r62
           refine shW_block ?_
           refine wsr (om rfl rfl (oa rfl rfl (nsr (oa rfl rfl (shO_nil ?_)))))
           obtain ⟨many, h63, r64⟩ := b1_ok h61; clear h61
           refine shW_join (fun e1 F1 L1 => F4 = F1 ∧ L1 = ((b1, .cells #[.int .i64 houses, .int .i64 notices, .slice hears_a hears.length hears_c, .slice readings_a readings.length readings_c, .slice cries_a cries.length cries_c] 27 (0, 0)) :: (Lb12 ++ (Lb48 ++ []))) ∧ e1.sub [(1, .pointer (some ⟨b1, 0, none⟩)), (5, .slice a10 n14 c11), (7, .slice a23 n26 n26), (8, .int .i64 k), (10, .int .i64 many), (27, .int .i64 (l2.length : Int)), (28, .int .i64 k), (32, .int .i64 notices), (33, .int .i64 k2)]) ?_ ?_
           · clear r64
             refine wsr (om rfl rfl ?_)
             refine ov ((v_lenS Tryz.underlying97 rfl).i (SlR.lenI hz13)) rfl ?_
             refine om rfl rfl (shO_nil ?_)
             refine shW_block ?_
             refine shW_lp (fun fu3 e1 F1 L1 => ∃ (tl : List ((List Bool) × (List Int))) (k3 : Int), tl.length = fu3 ∧ Lst l k3 tl ∧ ∃ (many2 : Int), book_Verdicts_l3 k k2 tl many2 = some many ∧ F4 = F1 ∧ L1 = ((b1, .cells #[.int .i64 houses, .int .i64 notices, .slice hears_a hears.length hears_c, .slice readings_a readings.length readings_c, .slice cries_a cries.length cries_c] 27 (0, 0)) :: (Lb12 ++ (Lb48 ++ []))) ∧ e1.sub [(1, .pointer (some ⟨b1, 0, none⟩)), (5, .slice a10 n14 c11), (7, .slice a23 n26 n26), (8, .int .i64 k), (9, .int .i64 k2), (10, .int .i64 many2), (27, .int .i64 (l2.length : Int)), (28, .int .i64 k), (32, .int .i64 notices), (33, .int .i64 k2), (36, .slice a10 n14 c11), (37, .int .i64 (l.length : Int)), (38, .int .i64 k3)]) _ (m0 kr ⟨_, _, rfl, Lst.start _, 0, h63, rfl, rfl, (sc rfl (sc rfl (sc rfl (sc rfl (sc rfl (sc rfl (sc rfl (sc rfl (sc rfl (sc rfl (sc rfl (sc rfl (sc rfl (sn _))))))))))))))⟩) ?_
             rintro fu3 e1 _ _ ⟨tl, k3, hn66, hk65, many2, r67, rfl, rfl, he68⟩
             refine shW_env _ he68 ?_; clear he68
             refine wsr ?_
             refine ov (v_lssK rfl rfl) rfl ?_
             refine shO_nil (shW_seq ?_)
             refine shW_condP rfl (fun c70 => ?_) (fun c70 => ?_)
             · obtain ⟨x, tl2, rfl, hx72, g73, hk71⟩ := Lst.succ hk65 c70
               rw [book_Verdicts_l3] at r67
               refine shW_skip (shW_seq ?_)
               refine shW_block ?_
               refine wsr ?_
               obtain ⟨b74, o75, c76, vs77, ha78, hs79, hle80, ⟨_, _, rfl, ⟨rfl, h83⟩, ⟨a84, c85, rfl, h86⟩⟩, hl81, hc82⟩ := SlR.at (prE_ok (arE_ok (n := 24) (sz := 1) cB_ok) (slE_ok (iE_ok _))) hz13 (L := (b1, .cells #[.int .i64 houses, .int .i64 notices, .slice hears_a hears.length hears_c, .slice readings_a readings.length readings_c, .slice cries_a cries.length cries_c] 27 (0, 0)) :: (Lb12 ++ (Lb48 ++ []))) (fC fP) g73.1 hx72
               refine ov (v_indexO Tryz.underlying97 Tryz.sizeOf105 rfl ha78 rfl (SlR.idx hz13 g73)) rfl ?_
               refine ov (v_loadA (cs := (x.1.flatMap cB ++ (([.slice a84 x.2.length c85] : List Value))).toArray) Tryz.isAgg105 Tryz.sizeOf105 rfl hs79 hle80 (extract_cells hle80 hl81 hc82)) rfl ?_
               refine o_alloc rfl Tryz.zeroValue105 ?_; intro b87 hb87
               refine shO_L (L' := (b87, .cells (((List.replicate 24 false).flatMap cB ++ (([.slice none 0 0] : List Value))).toArray) 105 (0, 0)) :: ((b1, .cells #[.int .i64 houses, .int .i64 notices, .slice hears_a hears.length hears_c, .slice readings_a readings.length readings_c, .slice cries_a cries.length cries_c] 27 (0, 0)) :: (Lb12 ++ (Lb48 ++ [])))) rfl ?_
               refine o_storeW (i := 0) Tryz.sizeOf105 rfl rfl rfl (lz (la (lfl cB_ok List.length_replicate) rfl)) (lz (la (lfl cB_ok h83) rfl)) (oc_app (flat_one cB_ok _) (by simp [Value.oneCell'])) ?_
               refine shO_L (L' := (b87, .cells ((x.1.flatMap cB ++ (([.slice a84 x.2.length c85] : List Value))).toArray) 105 (0, 0)) :: ((b1, .cells #[.int .i64 houses, .int .i64 notices, .slice hears_a hears.length hears_c, .slice readings_a readings.length readings_c, .slice cries_a cries.length cries_c] 27 (0, 0)) :: (Lb12 ++ (Lb48 ++ [])))) rfl ?_
               refine nsr (om rfl rfl (om rfl rfl ?_))
               refine ov (v_fieldAddr fa_105_0 rfl) rfl ?_
               obtain ⟨g88, r89⟩ := gd_ok r67; clear r67
               refine ov (v_indexA Tryz.underlying103 Tryz.sizeOf101 rfl rfl g88) rfl ?_
               obtain ⟨g90, r91⟩ := gd_ok r89; clear r89
               obtain ⟨x2, g92, hx93, r94⟩ := ix_ok r91; clear r91
               have hq96 : (k * 4 + k2 : Int).toNat = (k : Int).toNat * 4 + (k2 : Int).toNat := by have := g88; have := g90; omega
               have hc95 := el_at2 cB_ok h83 hq96 hx93 (li_arr (li_here (B := ([.slice a84 x.2.length c85] : List Value)) (lfl cB_ok h83))) (li_le (li_here (B := ([.slice a84 x.2.length c85] : List Value)) (lfl cB_ok h83)))
               refine ov (v_indexA Tryz.underlying101 Tryz.sizeOf4 rfl rfl g90) rfl ?_
               refine ov (v_load Tryz.isAgg4 rfl (Has.own 0 rfl) ((hc95).2.2 0 (by decide))) rfl ?_
               refine shO_nil ?_
               refine shW_cond rfl (fun c97 => ?_) (fun c97 => ?_)
               · have r98 := bt r94 c97; clear r94
                 refine shW_region (om rfl rfl ?_)
                 obtain ⟨g99, r100⟩ := gd_ok r98; clear r98
                 refine ov (v_add rfl rfl g99) rfl ?_
                 refine oa rfl rfl (shO_nil (inBlock_n (id := 5) (shW_region ?_)))
                 refine ov (v_add rfl rfl (Lst.r64 hk65 c70 (SlR.llt hz13))) rfl ?_
                 refine om rfl rfl (shO_nil ?_)
                 subst hn66; exact le (kd kr) ⟨_, _, rfl, hk71, many2 + 1, r100, rfl, rfl, (sc rfl (sc rfl (sc rfl (sc rfl (sc rfl (sc rfl (sc rfl (sc rfl (sc rfl (sc rfl (sc rfl (sc rfl (sc rfl (sn _))))))))))))))⟩
               have r101 := bf r94 c97; clear r94
               refine shW_skip (inBlock_n (id := 5) (shW_region ?_))
               refine ov (v_add rfl rfl (Lst.r64 hk65 c70 (SlR.llt hz13))) rfl ?_
               refine om rfl rfl (shO_nil ?_)
               subst hn66; exact le (kd kr) ⟨_, _, rfl, hk71, many2, r101, rfl, rfl, (sc rfl (sc rfl (sc rfl (sc rfl (sc rfl (sc rfl (sc rfl (sc rfl (sc rfl (sc rfl (sc rfl (sc rfl (sc rfl (sn _))))))))))))))⟩
             obtain rfl := Lst.zero hk65 c70
             rw [book_Verdicts_l3] at r67
             refine shW_exit (andThen_exit (andThen_exit ?_))
             refine inBlock_exit ?_
             obtain rfl := inj1 r67
             exact mi kr ⟨rfl, rfl, (sc rfl (sc rfl (sc rfl (sc rfl (sc rfl (sc rfl (sc rfl (sc rfl (sc rfl (sn _))))))))))⟩
           rintro e1 _ _ ⟨rfl, rfl, he102⟩
           refine shW_env _ he102 ?_; clear he102
           refine wsr (oa rfl rfl (shO_nil ?_))
           obtain ⟨v, h103, r104⟩ := b1_ok r64; clear r64
           refine shW_join (fun e1 F1 L1 => F4 = F1 ∧ L1 = ((b1, .cells #[.int .i64 houses, .int .i64 notices, .slice hears_a hears.length hears_c, .slice readings_a readings.length readings_c, .slice cries_a cries.length cries_c] 27 (0, 0)) :: (Lb12 ++ (Lb48 ++ []))) ∧ e1.sub [(1, .pointer (some ⟨b1, 0, none⟩)), (5, .slice a10 n14 c11), (7, .slice a23 n26 n26), (8, .int .i64 k), (13, .int .i64 v), (27, .int .i64 (l2.length : Int)), (28, .int .i64 k), (32, .int .i64 notices), (33, .int .i64 k2)]) ?_ ?_
           · clear r104
             refine wsr (om rfl rfl (shO_nil ?_))
             refine shW_block ?_
             refine wsr (om rfl rfl ?_)
             refine ov ((v_lenS Tryz.underlying97 rfl).i (SlR.lenI hz13)) rfl ?_
             refine ov (v_eql rfl rfl) rfl ?_
             refine oa rfl rfl (shO_nil ?_)
             refine shW_condP rfl (fun c105 => ?_) (fun c105 => ?_)
             · have r106 := ite_t h103 c105; clear h103
               refine shW_region (oa rfl rfl (shO_nil (inBlock_n (id := 6) ?_)))
               obtain rfl := inj1 r106
               exact mi kr ⟨rfl, rfl, (sc rfl (sc rfl (sc rfl (sc rfl (sc rfl (sc rfl (sc rfl (sc rfl (sc rfl (sn _))))))))))⟩
             have r107 := ite_f h103 c105; clear h103
             refine wsr ?_
             refine ov (v_eql rfl rfl) rfl ?_
             refine oa rfl rfl (shO_nil ?_)
             refine shW_condP rfl (fun c108 => ?_) (fun c108 => ?_)
             · have r109 := ite_t r107 c108; clear r107
               refine shW_region (oa rfl rfl (shO_nil (inBlock_n (id := 6) ?_)))
               obtain rfl := inj1 r109
               exact mi kr ⟨rfl, rfl, (sc rfl (sc rfl (sc rfl (sc rfl (sc rfl (sc rfl (sc rfl (sc rfl (sc rfl (sn _))))))))))⟩
             have r110 := ite_f r107 c108; clear r107
             refine shW_skip (inBlock_n (id := 6) ?_)
             obtain rfl := inj1 r110
             exact mi kr ⟨rfl, rfl, (sc rfl (sc rfl (sc rfl (sc rfl (sc rfl (sc rfl (sc rfl (sc rfl (sc rfl (sn _))))))))))⟩
           rintro e1 _ _ ⟨rfl, rfl, he111⟩
           refine shW_env _ he111 ?_; clear he111
           refine shW_region (om rfl rfl (om rfl rfl (om rfl rfl (om rfl rfl ?_))))
           obtain ⟨x3, g112, hx113, r114⟩ := ix_ok r104; clear r104
           have hn126 := (NlR.caps hz49).1
           refine shO_open (fC (fS fP)) hz49 hx113 ?_; intro hs115 Lo116 Lc117 a118 n119 c120 Lb121 hh122 hO123 hz124 hI125
           refine kO (kf (fS (fS (fS fO))) kr) ?_
           obtain ⟨b128, o129, c130, vs131, ha132, hs133, hle134, rfl, hl135, hc136⟩ := SlR.at hdE_ok hO123 (L := (b1, .cells #[.int .i64 houses, .int .i64 notices, .slice hears_a hears.length hears_c, .slice readings_a readings.length readings_c, .slice cries_a cries.length cries_c] 27 (0, 0)) :: (Lo116 ++ (Lb121 ++ (Lc117 ++ (Lb12 ++ []))))) (fC fP) g112.1 hh122
           refine ov (v_indexO Tryz.underlying68 Tryz.sizeOf71 rfl ha132 rfl (idxN hn126 g112)) rfl ?_
           refine ov (v_load Tryz.isAgg71 rfl hs133 (hc136 0 (by decide))) rfl ?_
           refine om rfl rfl ?_
           refine o_buildSlice (cs := #[.int .i64 v]) rfl rfl (buildSlice_all slt_71 [.int .i64 v] rfl (by decide) (by simp [Value.cells]) (by decide)) ?_; intro b137 hb137
           obtain ⟨l3, h138, g139, r140⟩ := ap_ok r114; clear r114
           refine o_appZ (xs := x3) (ys := [v]) (zs := l3) rfl slt_71 rfl rfl (Nat.le_refl _) (fun _ => .c (.c (.s .h))) hz124 (SrcR.box (vss := [[.int .i64 v]]) (ys := [v]) 0 rfl (iE_ok _) (.cons rfl .nil) rfl rfl) h138 g139 (by decide) ?_; intro a141 n145 c142 Lb143 hz144
           refine kO (kd kr) ?_
           obtain ⟨b147, o148, c149, vs150, ha151, hs152, hle153, rfl, hl154, hc155⟩ := SlR.at hdE_ok hO123 (L := (b1, .cells #[.int .i64 houses, .int .i64 notices, .slice hears_a hears.length hears_c, .slice readings_a readings.length readings_c, .slice cries_a cries.length cries_c] 27 (0, 0)) :: (Lo116 ++ (Lb143 ++ (Lc117 ++ (Lb12 ++ []))))) (fC fP) g112.1 hh122
           refine ov (v_indexO Tryz.underlying68 Tryz.sizeOf71 rfl ha151 rfl (idxN hn126 g112)) rfl ?_
           refine o_storeZ (zs := hs115.set (k : Int).toNat (a141, n145, c142)) (u := (a141, n145, c142)) Tryz.sizeOf71 hdE_ok rfl ha151 rfl rfl (fun _ => .c .h) hO123 rfl (idxH hn126 hO123 g112) ?_; intro Lo156 hO157
           obtain ⟨out6, h158, r159⟩ := bv_ok r140; clear r140
           refine shO_fold (p := fun X => NlR K.w0.heap.size 71 72 1 (iE .i64) F4 a23 n26 n26 out6 X) (InH.back hI125 hO157 hz144 h158) (pT ((fC fP).trans (pA ((fC fP).trans (pA ((fC fP).trans (pA pR)))))) (lp (lp (lp (ln rfl))))) ?_; intro Lb160 hz161
           refine kO (kf (fS fO) kr) ?_
           refine shO_nil (inBlock_n (id := 3) ?_)
           obtain rfl := inj1 r159
           exact mi (kc (kg (fS fP) kr)) ⟨Lb160, rfl, rfl, (sc rfl (sc rfl (sc rfl (sc rfl (sc rfl (sc rfl (sc rfl (sc rfl (sn _))))))))), hz161⟩
         rintro e1 _ _ ⟨Lb59, rfl, rfl, he162, hz60⟩
         refine shW_env _ he162 ?_; clear he162
         refine shW_region ?_
         refine ov (v_add rfl rfl (Ctr.r64 hk52 c57 g50)) rfl ?_
         refine om rfl rfl (shO_nil ?_)
         exact le kr ⟨_, hk58, out5, Lb59, r62, rfl, rfl, (sc rfl (sc rfl (sc rfl (sc rfl (sc rfl (sc rfl (sc rfl (sc rfl (sn _))))))))), hz60⟩
       obtain rfl := Ctr.zero hk52 c57
       rw [book_Verdicts_l2] at r54
       refine shW_exit (andThen_exit (andThen_exit ?_))
       refine inBlock_exit ?_
       refine inBlock_n (id := 1) ?_
       obtain rfl := inj1 r54
       exact mi kr ⟨Lb48, rfl, rfl, (sc rfl (sc rfl (sc rfl (sc rfl (sc rfl (sn _)))))), hz49⟩
     rintro e1 _ _ ⟨Lb44, rfl, rfl, he163, hz45⟩
     refine shW_env _ he163 ?_; clear he163
     refine shW_region ?_
     refine ov (v_add rfl rfl (Ctr.r64 hk37 c42 g35)) rfl ?_
     refine om rfl rfl (shO_nil ?_)
     exact le kr ⟨_, hk43, out3, Lb44, r47, rfl, rfl, (sc rfl (sc rfl (sc rfl (sc rfl (sc rfl (sn _)))))), hz45⟩
   obtain rfl := Ctr.zero hk37 c42
   rw [book_Verdicts_l1] at r39
   refine shW_exit (andThen_exit (andThen_exit ?_))
   refine inBlock_exit ?_
   obtain rfl := inj1 r39
   exact mi (kd (kx kr)) ⟨Lb33, rfl, rfl, (sc rfl (sn _)), hz34⟩
 rintro e1 _ _ ⟨Lb29, rfl, rfl, he164, hz30⟩
 refine shW_env _ he164 ?_; clear he164
 refine wsr (om rfl rfl (oa rfl rfl (oa rfl rfl (shO_nil ?_))))
 obtain rfl := (NlR.caps hz30).1
 refine shW_freezeN (Nat.le_refl _) (iE_ok _) fP hz30 ?_; intro F165 hF166 h167
 refine shW_ret ?_
 refine q_res2 Tryz.results29 (res_tmp rfl) (res_tmp rfl) (sr) ?_
 obtain ⟨rfl, rfl⟩ := inj2 r32
 exact ⟨_, _, rfl, rfl, h167⟩
set_option maxHeartbeats 1000000 in
theorem book_desk_ways_w {b_d : Nat} {houses : Int} {notices : Int} {hears_a : Option Addr} {hears_c : Nat} {hears : List (List (List Int))} {readings_a : Option Addr} {readings_c : Nat} {readings : List Int} {cries_a : Option Addr} {cries_c : Nat} {cries : List (Int × Int × Int)} {mb_d : Nat × Nat} {F : FS} (hb_d : F b_d = some (.cells #[.int .i64 houses, .int .i64 notices, .slice hears_a hears.length hears_c, .slice readings_a readings.length readings_c, .slice cries_a cries.length cries_c] 171 mb_d)) (h_hears : RowR 1 (slE 1 (slE 1 (iE .i64))) F hears_a hears_c hears) (h_readings : RowR 1 (iE .i64) F readings_a readings_c readings) (h_cries : RowR 3 (prE (iE .i64) (prE (iE .i64) (iE .i64))) F cries_a cries_c cries) {r : List (List Int)} (hr : book_desk_ways houses notices hears readings cries = some r) :
    SH.Spec Tryz.prog 135 #[.pointer (some ⟨b_d, 0, none⟩)] F [] fun F' L' v => ∃ (ra : Option Addr) (rn : Nat) (rc : Nat) (rL : LH), v = .slice ra rn rc ∧ L' = rL ++ [] ∧ SlR 0 161 8 (arE 8 (cI .i64)) F' ra rn rc r rL := by
 refine spec_of_shW (args := [.pointer (some ⟨b_d, 0, none⟩)]) Tryz.func135 rfl Tryz.ntmps135 (Nat.le_of_ble_eq_true rfl) ?_
 intro K _ _; rw [book_desk_ways] at hr
 refine wsr (oa rfl rfl (nsr (om rfl rfl ?_)))
 refine ov (v_nilCheck rfl) rfl ?_
 refine ov (v_fieldAddr fa_171_0 rfl) rfl ?_
 refine ov (v_fieldAddr fa_27_3 rfl) rfl ?_
 refine ov (v_load Tryz.isAgg24 rfl (Has.frozen hb_d) rfl) rfl ?_
 refine ov (v_lenS Tryz.underlying24 rfl) rfl ?_
 obtain ⟨g1, r2⟩ := gd_ok hr; clear hr
 obtain ⟨l, h3, r4⟩ := bv_ok r2; clear r2
 refine o_makeZ (R := (arE 8 (cI .i64))) (z0 := List.replicate 8 0) (zs := l) rfl slt_163 (by decide) (arE_ok (n := 8) (sz := 1) (cI_ok .i64)) (fun _ => ⟨rfl, rfl⟩) rfl g1 h3 (fun _ => .n) ?_; intro a5 n8 Lb6 hz7
 refine o_alloc rfl Tryz.zeroValue163 ?_; intro b10 hb10
 refine o_store (i := 0) Tryz.sizeOf163 rfl rfl rfl rfl (Nat.le_of_ble_eq_true rfl) ?_
 refine shO_L (L' := (b10, .cells #[.slice a5 n8 n8] 163 (0, 0)) :: (Lb6 ++ [])) rfl ?_
 refine shO_nil ?_
 obtain ⟨out, h13, r14⟩ := b1_ok r4; clear r4
 refine shW_join (fun e1 F1 L1 => ∃ (Lb11 : LH), FExt F F1 ∧ L1 = ((b10, .cells #[.slice a5 n8 n8] 163 (0, 0)) :: (Lb11 ++ [])) ∧ e1.sub [(3, .pointer (some ⟨b10, 0, none⟩))] ∧ SlR K.w0.heap.size 161 8 (arE 8 (cI .i64)) F1 a5 n8 n8 out Lb11) ?_ ?_
 · clear r14
   refine wsr ?_
   refine ov (v_load Tryz.isAgg163 rfl (Has.own 0 rfl) rfl) rfl ?_
   refine ov ((v_lenS Tryz.underlying163 rfl).i (SlR.lenI hz7)) rfl ?_
   refine om rfl rfl (shO_nil ?_)
   refine shW_block ?_
   obtain ⟨g17, r18⟩ := gd_ok h13; clear h13
   refine shW_lp (fun fu1 e1 F1 L1 => ∃ (k : Int), Ctr 0 (l.length : Int) k fu1 ∧ ∃ (out2 : List (List Int)) (Lb15 : LH), book_desk_ways_l1 houses notices hears readings cries fu1 k out2 = some out ∧ FExt F F1 ∧ L1 = ((b10, .cells #[.slice a5 n8 n8] 163 (0, 0)) :: (Lb15 ++ [])) ∧ e1.sub [(0, .pointer (some ⟨b_d, 0, none⟩)), (3, .pointer (some ⟨b10, 0, none⟩)), (15, .int .i64 (l.length : Int)), (16, .int .i64 k)] ∧ SlR K.w0.heap.size 161 8 (arE 8 (cI .i64)) F1 a5 n8 n8 out2 Lb15) _ (m0 kr ⟨_, Ctr.start _ _, l, Lb6, r18, FExt.refl _, rfl, (sc rfl (sc rfl (sc rfl (sc rfl (sn _))))), hz7⟩) ?_
   rintro fu1 e1 F23 _ ⟨k, hk19, out2, Lb15, r21, hF24, rfl, he22, hz16⟩
   refine shW_env _ he22 ?_; clear he22
   replace h_hears := h_hears.mono (slE_ok (slE_ok (iE_ok _))) hF24
   replace h_readings := h_readings.mono (iE_ok _) hF24
   replace h_cries := h_cries.mono (prE_ok (iE_ok _) (prE_ok (iE_ok _) (iE_ok _))) hF24
   replace hb_d := hF24 _ _ hb_d
   refine wsr ?_
   refine ov (v_lssK rfl rfl) rfl ?_
   refine shO_nil (shW_seq ?_)
   refine shW_condP rfl (fun c26 => ?_) (fun c26 => ?_)
   · obtain ⟨fu1, rfl, hk27⟩ := Ctr.succ hk19 c26
     rw [book_desk_ways_l1] at r21
     refine shW_skip ?_
     obtain ⟨out3, h30, r31⟩ := b1_ok r21; clear r21
     refine shW_join (fun e1 F1 L1 => ∃ (Lb28 : LH), FExt F23 F1 ∧ L1 = ((b10, .cells #[.slice a5 n8 n8] 163 (0, 0)) :: (Lb28 ++ [])) ∧ e1.sub [(0, .pointer (some ⟨b_d, 0, none⟩)), (3, .pointer (some ⟨b10, 0, none⟩)), (15, .int .i64 (l.length : Int)), (16, .int .i64 k)] ∧ SlR K.w0.heap.size 161 8 (arE 8 (cI .i64)) F1 a5 n8 n8 out3 Lb28) ?_ ?_
     · clear r31
       refine shW_block ?_
       refine wsr (om rfl rfl ?_)
       refine o_alloc rfl Tryz.zeroValue3 ?_; intro b32 hb32
       refine o_store (i := 0) Tryz.sizeOf3 rfl rfl rfl rfl (Nat.le_of_ble_eq_true rfl) ?_
       refine shO_L (L' := (b32, .cells #[.int .i64 k] 3 (0, 0)) :: ((b10, .cells #[.slice a5 n8 n8] 163 (0, 0)) :: (Lb15 ++ []))) rfl ?_
       refine nsr (om rfl rfl (shO_nil ?_))
       refine shW_block ?_
       obtain ⟨g35, r36⟩ := gd_ok h30; clear h30
       refine shW_lp (fun fu2 e1 F1 L1 => ∃ (k2 : Int), Ctr 0 8 k2 fu2 ∧ ∃ (out4 : List (List Int)) (Lb33 : LH), book_desk_ways_l2 houses notices hears readings cries k fu2 k2 out4 = some out3 ∧ FExt F23 F1 ∧ L1 = ((b32, .cells #[.int .i64 k] 3 (0, 0)) :: ((b10, .cells #[.slice a5 n8 n8] 163 (0, 0)) :: (Lb33 ++ []))) ∧ e1.sub [(0, .pointer (some ⟨b_d, 0, none⟩)), (3, .pointer (some ⟨b10, 0, none⟩)), (4, .pointer (some ⟨b32, 0, none⟩)), (15, .int .i64 (l.length : Int)), (16, .int .i64 k), (19, .int .i64 k2)] ∧ SlR K.w0.heap.size 161 8 (arE 8 (cI .i64)) F1 a5 n8 n8 out4 Lb33) _ (m0 kr ⟨_, Ctr.start _ _, out2, Lb15, r36, FExt.refl _, rfl, (sc rfl (sc rfl (sc rfl (sc rfl (sc rfl (sc rfl (sn _))))))), hz16⟩) ?_
       rintro fu2 e1 F41 _ ⟨k2, hk37, out4, Lb33, r39, hF42, rfl, he40, hz34⟩
       refine shW_env _ he40 ?_; clear he40
       replace h_hears := h_hears.mono (slE_ok (slE_ok (iE_ok _))) hF42
       replace h_readings := h_readings.mono (iE_ok _) hF42
       replace h_cries := h_cries.mono (prE_ok (iE_ok _) (prE_ok (iE_ok _) (iE_ok _))) hF42
       replace hb_d := hF42 _ _ hb_d
       refine wsr ?_
       refine ov (v_lssK rfl rfl) rfl ?_
       refine shO_nil (shW_seq ?_)
       refine shW_condP rfl (fun c44 => ?_) (fun c44 => ?_)
       · obtain ⟨fu2, rfl, hk45⟩ := Ctr.succ hk37 c44
         rw [book_desk_ways_l2] at r39
         refine shW_skip ?_
         obtain ⟨out5, h48, r49⟩ := b1_ok r39; clear r39
         refine shW_join (fun e1 F1 L1 => ∃ (Lb46 : LH), FExt F41 F1 ∧ L1 = ((b32, .cells #[.int .i64 k] 3 (0, 0)) :: ((b10, .cells #[.slice a5 n8 n8] 163 (0, 0)) :: (Lb46 ++ []))) ∧ e1.sub [(0, .pointer (some ⟨b_d, 0, none⟩)), (3, .pointer (some ⟨b10, 0, none⟩)), (4, .pointer (some ⟨b32, 0, none⟩)), (15, .int .i64 (l.length : Int)), (16, .int .i64 k), (19, .int .i64 k2)] ∧ SlR K.w0.heap.size 161 8 (arE 8 (cI .i64)) F1 a5 n8 n8 out5 Lb46) ?_ ?_
         · clear r49
           refine shW_block ?_
           refine wsr (om rfl rfl ?_)
           refine o_alloc rfl Tryz.zeroValue3 ?_; intro b50 hb50
           refine o_store (i := 0) Tryz.sizeOf3 rfl rfl rfl rfl (Nat.le_of_ble_eq_true rfl) ?_
           refine shO_L (L' := (b50, .cells #[.int .i64 k2] 3 (0, 0)) :: ((b32, .cells #[.int .i64 k] 3 (0, 0)) :: ((b10, .cells #[.slice a5 n8 n8] 163 (0, 0)) :: (Lb33 ++ [])))) rfl ?_
           refine shO_nil ?_
           refine shW_block ?_
           refine wsd (by kernel_rfl) (by kernel_rfl) (by kernel_rfl) ?_
           refine qm rfl rfl ?_
           refine qv (v_nilCheck rfl) rfl ?_
           refine qv (v_fieldAddr fa_171_0 rfl) rfl ?_
           refine qv (v_loadA (cs := #[.int .i64 houses, .int .i64 notices, .slice hears_a hears.length hears_c, .slice readings_a readings.length readings_c, .slice cries_a cries.length cries_c]) Tryz.isAgg27 Tryz.sizeOf27 rfl (Has.frozen hb_d) (Nat.le_of_ble_eq_true rfl) rfl) rfl ?_
           refine qv (v_load Tryz.isAgg3 rfl (Has.own 1 rfl) rfl) rfl ?_
           refine qv (v_load Tryz.isAgg3 rfl (Has.own 0 rfl) rfl) rfl ?_
           obtain ⟨ok, h51, r52⟩ := b1_ok h48; clear h48
           refine shQ_callV rfl Tryz.call138 rfl rfl rfl (book_Book_can_w h_hears h_readings h_cries h51) ?_
           refine qv (v_notB rfl) rfl ?_
           refine qa rfl rfl (shQ_nil ?_)
           refine shW_cond rfl (fun c53 => ?_) (fun c53 => ?_)
           · have r54 := bt r52 c53; clear r52
             refine shW_skip (inBlock_n (id := 4) (inBlock_n (id := 3) ?_))
             obtain rfl := inj1 r54
             exact mi (kd kr) ⟨Lb33, FExt.refl _, rfl, (sc rfl (sc rfl (sc rfl (sc rfl (sc rfl (sc rfl (sn _))))))), hz34⟩
           have r55 := bf r52 c53; clear r52
           refine wsr ?_
           refine ov (v_load Tryz.isAgg3 rfl (Has.own 1 rfl) rfl) rfl ?_
           refine ov (v_eql rfl rfl) rfl ?_
           refine oa rfl rfl (shO_nil ?_)
           refine shW_condP rfl (fun c56 => ?_) (fun c56 => ?_)
           · have r57 := ite_t r55 c56; clear r55
             refine shW_drawM [(.still, 0), (.still, 1), (.still, 2), (.still, 3), (.still, 4), (.seq, 5)] (by kernel_rfl) (by kernel_rfl) (trivial) (by rfl) (by kernel_rfl) ?_
             refine shM_v (v := .slice a5 n8 n8) (ek := [(3, .pointer (some ⟨b10, 0, none⟩))]) (Ls := [(b10, .cells #[.slice a5 n8 n8] 163 (0, 0))]) rfl rfl rfl rfl ((sc rfl (sn _))) (by kernel_rfl) (s0 (s1 (s1 (s2 (s3 sr))))) (fun H F' L' hF' hL' => v_load Tryz.isAgg163 rfl ((Has.own 0 rfl).ext hF' hL') rfl) ?_
             refine shM_v (v := .int .i64 k) (ek := [(4, .pointer (some ⟨b32, 0, none⟩))]) (Ls := [(b32, .cells #[.int .i64 k] 3 (0, 0))]) rfl rfl rfl rfl ((sc rfl (sn _))) (by kernel_rfl) (s0 (s1 (s2 (s1 (s3 sr))))) (fun H F' L' hF' hL' => v_load Tryz.isAgg3 rfl ((Has.own 0 rfl).ext hF' hL') rfl) ?_
             refine shM_v (v := .int .i64 k2) (ek := [(5, .pointer (some ⟨b50, 0, none⟩))]) (Ls := [(b50, .cells #[.int .i64 k2] 3 (0, 0))]) rfl rfl rfl rfl ((sc rfl (sn _))) (by kernel_rfl) (s0 (s2 (s1 (s1 (s3 sr))))) (fun H F' L' hF' hL' => v_load Tryz.isAgg3 rfl ((Has.own 0 rfl).ext hF' hL') rfl) ?_
             obtain ⟨x, g58, hx59, r60⟩ := ix_ok r57; clear r57
             obtain ⟨b61, o62, c63, vs64, ha65, hs66, hle67, ⟨rfl, h70⟩, hl68, hc69⟩ := SlR.at (arE_ok (n := 8) (sz := 1) (cI_ok .i64)) hz34 (L := Lb33 ++ []) fP g58.1 hx59
             refine shM_v (v := .pointer (some ⟨b61, o62 + (k : Int).toNat * 8, none⟩)) (ek := [(53, .slice a5 n8 n8), (54, .int .i64 k)]) (Ls := []) rfl rfl rfl rfl ((sc rfl (sc rfl (sn _)))) (by kernel_rfl) sm (fun H F' L' hF' hL' => v_indexO Tryz.underlying163 Tryz.sizeOf161 rfl ha65 rfl (SlR.idx hz34 g58)) ?_
             obtain ⟨x2, g71, hx72, r73⟩ := ix_ok r60; clear r60
             refine shM_v (v := .pointer (some ⟨b61, o62 + (k : Int).toNat * 8 + (k2 : Int).toNat * 1, none⟩)) (ek := [(55, .int .i64 k2), (56, .pointer (some ⟨b61, o62 + (k : Int).toNat * 8, none⟩))]) (Ls := []) rfl rfl rfl rfl ((sc rfl (sc rfl (sn _)))) (by kernel_rfl) sm (fun H F' L' hF' hL' => v_indexA Tryz.underlying161 Tryz.sizeOf3 rfl rfl (arr_lt h70 g71)) ?_
             refine ⟨_, [(57, .pointer (some ⟨b61, o62 + (k : Int).toNat * 8 + (k2 : Int).toNat * 1, none⟩))], rfl, rfl, (sc rfl (sn _)), by kernel_rfl, ?_⟩; intro H
             obtain ⟨l2, h75, r76⟩ := bv_ok r73; clear r73
             refine o_storeZP (zs := l2) (off := (k2 : Int).toNat * 1) (x0 := x) (u := x.set (k2 : Int).toNat 1) Tryz.sizeOf3 (arE_ok (n := 8) (sz := 1) (cI_ok .i64)) rfl ha65 rfl rfl (arr_off (arr_lt h70 g71)) hx59 (fun vs h => arE_set (cI_ok .i64) h (arr_ltN (arr_lt h70 g71)) rfl) (fun _ => .c (.c (.c .h))) hz34 h75 g58 ?_; intro Lb77 hz78
             refine shO_nil ⟨undef, rfl, FExt.refl _, [], by kernel_rfl, .inl (.inl rfl), (fun _ h => absurd h List.not_mem_nil), ?_⟩
             refine shM_nil ?_
             refine inBlock_n (id := 4) (inBlock_n (id := 3) ?_)
             obtain rfl := inj1 r76
             exact mi (kd kr) ⟨Lb77, FExt.refl _, rfl, (sc rfl (sc rfl (sc rfl (sc rfl (sc rfl (sc rfl (sn _))))))), hz78⟩
           have r79 := ite_f r55 c56; clear r55
           refine wsr ?_
           refine ov (v_load Tryz.isAgg3 rfl (Has.own 0 rfl) rfl) rfl ?_
           obtain ⟨y, h80, r81⟩ := b1_ok r79; clear r79
           refine o_call0 rfl Tryz.call140 rfl rfl rfl (book_turned_w h80) ?_; rintro _ F82 _ hF83 hn84 ⟨cp86, rfl, rfl, hit87⟩
           replace hz34 := hz34.mono (arE_ok (n := 8) (sz := 1) (cI_ok .i64)) hF83
           refine shO_L (ln rfl) ?_
           refine shO_nil ?_
           refine shW_block ?_
           refine shW_rangeFunc (encs := (fun x : Int => #[.int .i64 x])) (xs := y) rfl Tryz.call161 rfl (fun _ => rfl) hit87 (fun pre F1 L1 => ∃ (tl : List Int) (out6 : List (List Int)) (Lb88 : LH), y = pre ++ tl ∧ book_desk_ways_l3 k k2 tl out6 = some out5 ∧ L1 = ((b50, .cells #[.int .i64 k2] 3 (0, 0)) :: ((b32, .cells #[.int .i64 k] 3 (0, 0)) :: ((b10, .cells #[.slice a5 n8 n8] 163 (0, 0)) :: (Lb88 ++ [])))) ∧ SlR K.w0.heap.size 161 8 (arE 8 (cI .i64)) F1 a5 n8 n8 out6 Lb88) (fun _ _ _ => False) ?_ ?_ ?_ ?_ ?_ ?_
           · rintro pre F1 F2 L1 ⟨tl, out6, Lb88, hs90, r91, rfl, hz89⟩ hx; exact ⟨tl, out6, Lb88, hs90, r91, rfl, hz89.mono (arE_ok (n := 8) (sz := 1) (cI_ok .i64)) hx⟩
           · intro c F1 F2 L1 h hx; exact h
           · exact ⟨_, out4, Lb33, rfl, r81, rfl, hz34⟩
           · rintro l92 wr93 Fr94 Xr95 Ha96 Hb97 hnb98 hH102 pre x3 tl2 hxs101 F99 _ hF100 ⟨tl, out6, Lb88, hs90, r103, rfl, hz89⟩
             obtain rfl := rest_head hs90 hxs101
             rw [book_desk_ways_l3] at r103
             refine shW_env [(0, .pointer (some ⟨b_d, 0, none⟩)), (3, .pointer (some ⟨b10, 0, none⟩)), (4, .pointer (some ⟨b32, 0, none⟩)), (5, .pointer (some ⟨b50, 0, none⟩)), (15, .int .i64 (l.length : Int)), (16, .int .i64 k), (19, .int .i64 k2), (23, .func (.func 161) #[] cp86), (24, .int .i64 x3)] (by exact (sc rfl (sc rfl (sc rfl (sc rfl (sc rfl (sc rfl (sc rfl (sc rfl (sc rfl (sn _))))))))))) ?_
             refine shW_region (oa rfl rfl (shO_nil ?_))
             refine ⟨rfl, ?_⟩
             refine shW_block ?_
             refine shW_drawM [(.still, 0), (.still, 1), (.still, 2), (.still, 3), (.still, 4), (.still, 5), (.still, 6), (.still, 7), (.still, 8), (.still, 9), (.still, 10), (.still, 11), (.still, 12), (.still, 13), (.still, 14), (.still, 15), (.seq, 16)] (by kernel_rfl) (by kernel_rfl) (trivial) (by rfl) (by kernel_rfl) ?_
             refine shM_v (v := .slice a5 n8 n8) (ek := [(3, .pointer (some ⟨b10, 0, none⟩))]) (Ls := [(b10, .cells #[.slice a5 n8 n8] 163 (0, 0))]) rfl rfl rfl rfl ((sc rfl (sn _))) (by kernel_rfl) (s0 (s1 (s1 (s2 (s3 sr))))) (fun H F' L' hF' hL' => v_load Tryz.isAgg163 rfl ((Has.own 0 rfl).ext hF' hL') rfl) ?_
             refine shM_v (v := .int .i64 k) (ek := [(4, .pointer (some ⟨b32, 0, none⟩))]) (Ls := [(b32, .cells #[.int .i64 k] 3 (0, 0))]) rfl rfl rfl rfl ((sc rfl (sn _))) (by kernel_rfl) (s0 (s1 (s2 (s1 (s3 sr))))) (fun H F' L' hF' hL' => v_load Tryz.isAgg3 rfl ((Has.own 0 rfl).ext hF' hL') rfl) ?_
             refine shM_v (v := .int .i64 k2) (ek := [(5, .pointer (some ⟨b50, 0, none⟩))]) (Ls := [(b50, .cells #[.int .i64 k2] 3 (0, 0))]) rfl rfl rfl rfl ((sc rfl (sn _))) (by kernel_rfl) (s0 (s2 (s1 (s1 (s3 sr))))) (fun H F' L' hF' hL' => v_load Tryz.isAgg3 rfl ((Has.own 0 rfl).ext hF' hL') rfl) ?_
             obtain ⟨x4, g104, hx105, r106⟩ := ix_ok r103; clear r103
             obtain ⟨b107, o108, c109, vs110, ha111, hs112, hle113, ⟨rfl, h116⟩, hl114, hc115⟩ := SlR.at (arE_ok (n := 8) (sz := 1) (cI_ok .i64)) hz89 (L := Lb88 ++ []) fP g104.1 hx105
             refine shM_v (v := .pointer (some ⟨b107, o108 + (k : Int).toNat * 8, none⟩)) (ek := [(25, .slice a5 n8 n8), (26, .int .i64 k)]) (Ls := []) rfl rfl rfl rfl ((sc rfl (sc rfl (sn _)))) (by kernel_rfl) sm (fun H F' L' hF' hL' => v_indexO Tryz.underlying163 Tryz.sizeOf161 rfl ha111 rfl (SlR.idx hz89 g104)) ?_
             obtain ⟨x5, g117, hx118, r119⟩ := ix_ok r106; clear r106
             have hc120 := el_at (cI_ok .i64) h116 hx118 hc115 hle113 hl114
             refine shM_v (v := .pointer (some ⟨b107, o108 + (k : Int).toNat * 8 + (k2 : Int).toNat * 1, none⟩)) (ek := [(27, .int .i64 k2), (28, .pointer (some ⟨b107, o108 + (k : Int).toNat * 8, none⟩))]) (Ls := []) rfl rfl rfl rfl ((sc rfl (sc rfl (sn _)))) (by kernel_rfl) sm (fun H F' L' hF' hL' => v_indexA Tryz.underlying161 Tryz.sizeOf3 rfl rfl (arr_lt h116 g117)) ?_
             refine shM_v (v := .int .i64 x5) (ek := [(29, .pointer (some ⟨b107, o108 + (k : Int).toNat * 8 + (k2 : Int).toNat * 1, none⟩))]) (Ls := Lb88 ++ []) rfl rfl rfl rfl ((sc rfl (sn _))) (by kernel_rfl) (s0 (s1 (s1 (s1 (s4 sr))))) (fun H F' L' hF' hL' => v_load Tryz.isAgg3 rfl (hs112.ext hF' hL') ((hc120).2.2 0 (by decide))) ?_
             refine shM_v (v := .slice a5 n8 n8) (ek := [(3, .pointer (some ⟨b10, 0, none⟩))]) (Ls := [(b10, .cells #[.slice a5 n8 n8] 163 (0, 0))]) rfl rfl rfl rfl ((sc rfl (sn _))) (by kernel_rfl) (s0 (s1 (s1 (s2 (s3 sr))))) (fun H F' L' hF' hL' => v_load Tryz.isAgg163 rfl ((Has.own 0 rfl).ext hF' hL') rfl) ?_
             refine shM_v (v := .int .i64 k) (ek := [(4, .pointer (some ⟨b32, 0, none⟩))]) (Ls := [(b32, .cells #[.int .i64 k] 3 (0, 0))]) rfl rfl rfl rfl ((sc rfl (sn _))) (by kernel_rfl) (s0 (s1 (s2 (s1 (s3 sr))))) (fun H F' L' hF' hL' => v_load Tryz.isAgg3 rfl ((Has.own 0 rfl).ext hF' hL') rfl) ?_
             obtain ⟨g121, r122⟩ := gd_ok r119; clear r119
             refine shM_v (v := .int .i64 (k - 1)) (ek := [(32, .int .i64 k)]) (Ls := []) rfl rfl rfl rfl ((sc rfl (sn _))) (by kernel_rfl) sm (fun H F' L' hF' hL' => v_sub rfl rfl g121) ?_
             refine shM_v (v := .int .i64 x3) (ek := [(6, .int .i64 x3)]) (Ls := []) rfl rfl rfl rfl ((sc rfl (sn _))) (by kernel_rfl) sm (fun H F' L' hF' hL' => v_move rfl) ?_
             obtain ⟨x6, g123, hx124, r125⟩ := ix_ok r122; clear r122
             obtain ⟨b126, o127, c128, vs129, ha130, hs131, hle132, ⟨rfl, h135⟩, hl133, hc134⟩ := SlR.at (arE_ok (n := 8) (sz := 1) (cI_ok .i64)) hz89 (L := Lb88 ++ []) fP g123.1 hx124
             refine shM_v (v := .pointer (some ⟨b126, o127 + (k - 1 : Int).toNat * 8, none⟩)) (ek := [(31, .slice a5 n8 n8), (33, .int .i64 (k - 1))]) (Ls := []) rfl rfl rfl rfl ((sc rfl (sc rfl (sn _)))) (by kernel_rfl) sm (fun H F' L' hF' hL' => v_indexO Tryz.underlying163 Tryz.sizeOf161 rfl ha130 rfl (SlR.idx hz89 g123)) ?_
             obtain ⟨x7, g136, hx137, r138⟩ := ix_ok r125; clear r125
             have hc139 := el_at (cI_ok .i64) h135 hx137 hc134 hle132 hl133
             refine shM_v (v := .pointer (some ⟨b126, o127 + (k - 1 : Int).toNat * 8 + (x3 : Int).toNat * 1, none⟩)) (ek := [(34, .int .i64 x3), (35, .pointer (some ⟨b126, o127 + (k - 1 : Int).toNat * 8, none⟩))]) (Ls := []) rfl rfl rfl rfl ((sc rfl (sc rfl (sn _)))) (by kernel_rfl) sm (fun H F' L' hF' hL' => v_indexA Tryz.underlying161 Tryz.sizeOf3 rfl rfl (arr_lt h135 g136)) ?_
             refine shM_v (v := .int .i64 x7) (ek := [(36, .pointer (some ⟨b126, o127 + (k - 1 : Int).toNat * 8 + (x3 : Int).toNat * 1, none⟩))]) (Ls := Lb88 ++ []) rfl rfl rfl rfl ((sc rfl (sn _))) (by kernel_rfl) (s0 (s1 (s1 (s1 (s4 sr))))) (fun H F' L' hF' hL' => v_load Tryz.isAgg3 rfl (hs131.ext hF' hL') ((hc139).2.2 0 (by decide))) ?_
             obtain ⟨g140, r141⟩ := gd_ok r138; clear r138
             refine shM_v (v := .int .i64 (x5 + x7)) (ek := [(30, .int .i64 x5), (37, .int .i64 x7)]) (Ls := []) rfl rfl rfl rfl ((sc rfl (sc rfl (sn _)))) (by kernel_rfl) sm (fun H F' L' hF' hL' => v_add rfl rfl g140) ?_
             obtain ⟨b142, o143, c144, vs145, ha146, hs147, hle148, ⟨rfl, h151⟩, hl149, hc150⟩ := SlR.at (arE_ok (n := 8) (sz := 1) (cI_ok .i64)) hz89 (L := Lb88 ++ []) fP g104.1 hx105
             refine shM_v (v := .pointer (some ⟨b142, o143 + (k : Int).toNat * 8, none⟩)) (ek := [(25, .slice a5 n8 n8), (26, .int .i64 k)]) (Ls := []) rfl rfl rfl rfl ((sc rfl (sc rfl (sn _)))) (by kernel_rfl) sm (fun H F' L' hF' hL' => v_indexO Tryz.underlying163 Tryz.sizeOf161 rfl ha146 rfl (SlR.idx hz89 g104)) ?_
             refine shM_v (v := .pointer (some ⟨b142, o143 + (k : Int).toNat * 8 + (k2 : Int).toNat * 1, none⟩)) (ek := [(27, .int .i64 k2), (39, .pointer (some ⟨b142, o143 + (k : Int).toNat * 8, none⟩))]) (Ls := []) rfl rfl rfl rfl ((sc rfl (sc rfl (sn _)))) (by kernel_rfl) sm (fun H F' L' hF' hL' => v_indexA Tryz.underlying161 Tryz.sizeOf3 rfl rfl (arr_lt h151 g117)) ?_
             refine ⟨_, [(38, .int .i64 (x5 + x7)), (40, .pointer (some ⟨b142, o143 + (k : Int).toNat * 8 + (k2 : Int).toNat * 1, none⟩))], rfl, rfl, (sc rfl (sc rfl (sn _))), by kernel_rfl, ?_⟩; intro H
             obtain ⟨l3, h153, r154⟩ := bv_ok r141; clear r141
             refine o_storeZP (zs := l3) (off := (k2 : Int).toNat * 1) (x0 := x4) (u := x4.set (k2 : Int).toNat (x5 + x7)) Tryz.sizeOf3 (arE_ok (n := 8) (sz := 1) (cI_ok .i64)) rfl ha146 rfl rfl (arr_off (arr_lt h151 g117)) hx105 (fun vs h => arE_set (cI_ok .i64) h (arr_ltN (arr_lt h151 g117)) rfl) (fun _ => .c (.c (.c .h))) hz89 h153 g104 ?_; intro Lb155 hz156
             refine shO_nil ⟨undef, rfl, FExt.refl _, [], by kernel_rfl, .inl (.inl rfl), (fun _ h => absurd h List.not_mem_nil), ?_⟩
             refine shM_nil ?_
             refine inBlock_n (id := 6) ?_
             refine ⟨(b50, .cells #[.int .i64 k2] 3 (0, 0)) :: ((b32, .cells #[.int .i64 k] 3 (0, 0)) :: ((b10, .cells #[.slice a5 n8 n8] 163 (0, 0)) :: (Lb155 ++ []))), ⟨_, .refl _, sr⟩, ?_⟩; exact ⟨_, l3, Lb155, (by rw [hxs101]; simp), r154, rfl, hz156⟩
           · rintro F157 _ hF158 ⟨tl, out6, Lb88, hs90, r159, rfl, hz89⟩
             obtain rfl := rest_nil hs90; rw [book_desk_ways_l3] at r159
             refine inBlock_n (id := 5) (inBlock_n (id := 4) (inBlock_n (id := 3) ?_))
             obtain rfl := inj1 r159
             exact mi (kd kr) ⟨Lb88, (hF83.trans hF158), rfl, (sc rfl (sc rfl (sc rfl (sc rfl (sc rfl (sc rfl (sn _))))))), hz89⟩
           intro c F1 L1 hx h; exact h.elim
         rintro e1 F161 _ ⟨Lb46, hF162, rfl, he160, hz47⟩
         refine shW_env _ he160 ?_; clear he160
         refine shW_region ?_
         refine ov (v_add rfl rfl (Ctr.r64 hk37 c44 g35)) rfl ?_
         refine om rfl rfl (shO_nil ?_)
         exact le kr ⟨_, hk45, out5, Lb46, r49, (hF42.trans hF162), rfl, (sc rfl (sc rfl (sc rfl (sc rfl (sc rfl (sc rfl (sn _))))))), hz47⟩
       obtain rfl := Ctr.zero hk37 c44
       rw [book_desk_ways_l2] at r39
       refine shW_exit (andThen_exit (andThen_exit ?_))
       refine inBlock_exit ?_
       refine inBlock_n (id := 1) ?_
       obtain rfl := inj1 r39
       exact mi (kd kr) ⟨Lb33, hF42, rfl, (sc rfl (sc rfl (sc rfl (sc rfl (sn _))))), hz34⟩
     rintro e1 F164 _ ⟨Lb28, hF165, rfl, he163, hz29⟩
     refine shW_env _ he163 ?_; clear he163
     refine shW_region ?_
     refine ov (v_add rfl rfl (Ctr.r64 hk19 c26 g17)) rfl ?_
     refine om rfl rfl (shO_nil ?_)
     exact le kr ⟨_, hk27, out3, Lb28, r31, (hF24.trans hF165), rfl, (sc rfl (sc rfl (sc rfl (sc rfl (sn _))))), hz29⟩
   obtain rfl := Ctr.zero hk19 c26
   rw [book_desk_ways_l1] at r21
   refine shW_exit (andThen_exit (andThen_exit ?_))
   refine inBlock_exit ?_
   obtain rfl := inj1 r21
   exact mi kr ⟨Lb15, hF24, rfl, (sc rfl (sn _)), hz16⟩
 rintro e1 F167 _ ⟨Lb11, hF168, rfl, he166, hz12⟩
 refine shW_env _ he166 ?_; clear he166
 refine wsr ?_
 refine ov (v_load Tryz.isAgg163 rfl (Has.own 0 rfl) rfl) rfl ?_
 refine oa rfl rfl (shO_nil ?_)
 refine kW (kd kr) ?_
 refine shW_ret ?_
 refine q_res1 Tryz.results135 (res_tmp rfl) (sr) ?_
 obtain rfl := inj1 r14
 exact ⟨_, _, _, _, rfl, rfl, hz12.any⟩
set_option maxHeartbeats 1000000 in
theorem slices_Reverse_int_int_w {s__a : Option Addr} {s__n : Nat} {s__c : Nat} {s__L : LH} {s_ : List Int} {s__nb : Nat} {F : FS} (h_s_ : SlR s__nb 3 1 (iE .i64) F s__a s__n s__c s_ s__L) {r : List Int} (hr : slices_Reverse_int_int s_ = some r) :
    SH.Spec Tryz.prog 136 #[.slice s__a s__n s__c] F (s__L ++ []) fun F' L' v => ∃ (rL : LH), v = .tuple #[] ∧ L' = rL ++ [] ∧ SlR s__nb 3 1 (iE .i64) F' s__a s__n s__c r rL := by
 refine spec_of_shW (args := [.slice s__a s__n s__c]) Tryz.func136 rfl Tryz.ntmps136 (Nat.le_of_ble_eq_true rfl) ?_
 intro K _ _; rw [slices_Reverse_int_int] at hr
 refine shW_L (L' := s__L ++ []) (by simp) ?_
 refine wsr (om rfl rfl ?_)
 refine ov ((v_lenS Tryz.underlying24 rfl).i (SlR.lenI h_s_)) rfl ?_
 obtain ⟨g1, r2⟩ := gd_ok hr; clear hr
 refine ov (v_sub rfl rfl g1) rfl ?_
 refine oa rfl rfl (oa rfl rfl (shO_nil ?_))
 refine shW_block ?_
 refine shW_lp (fun fu1 e1 F1 L1 => ∃ (s_2 : List Int) (i : Int) (j : Int) (Lb3 : LH), slices_Reverse_int_int_l1 fu1 s_2 i j = some r ∧ F = F1 ∧ L1 = (Lb3 ++ []) ∧ e1.sub [(0, .slice s__a s__n s__c), (2, .int .i64 i), (3, .int .i64 j)] ∧ SlR s__nb 3 1 (iE .i64) F1 s__a s__n s__c s_2 Lb3) FU (m0 kr ⟨s_, 0, (s_.length : Int) - 1, s__L, r2, rfl, rfl, (sc rfl (sc rfl (sc rfl (sn _)))), h_s_⟩) ?_
 rintro fu1 e1 _ _ ⟨s_2, i, j, Lb3, r7, rfl, rfl, he8, hz4⟩
 refine shW_env _ he8 ?_; clear he8
 rcases fu1 with _ | fu1
 · rw [slices_Reverse_int_int_l1] at r7; cases r7
 rw [slices_Reverse_int_int_l1] at r7
 refine shW_seq (wsr (om rfl rfl (om rfl rfl ?_)))
 refine ov (v_lssK rfl rfl) rfl ?_
 refine shO_nil ?_
 refine shW_condP rfl (fun c9 => ?_) (fun c9 => ?_)
 · have r10 := ite_t r7 c9; clear r7
   refine shW_skip (shW_seq ?_)
   refine shW_block ?_
   refine shW_drawM [(.still, 0), (.still, 1), (.still, 2), (.still, 3), (.still, 4), (.still, 5), (.still, 6), (.still, 7), (.still, 8), (.still, 9), (.still, 10), (.still, 11), (.still, 12), (.seq, 13), (.still, 14), (.seq, 15)] (by kernel_rfl) (by kernel_rfl) (trivial) (by rfl) (by kernel_rfl) ?_
   refine shM_v (v := .slice s__a s__n s__c) (ek := [(0, .slice s__a s__n s__c)]) (Ls := []) rfl rfl rfl rfl ((sc rfl (sn _))) (by kernel_rfl) sm (fun H F' L' hF' hL' => v_move rfl) ?_
   refine shM_v (v := .int .i64 i) (ek := [(2, .int .i64 i)]) (Ls := []) rfl rfl rfl rfl ((sc rfl (sn _))) (by kernel_rfl) sm (fun H F' L' hF' hL' => v_move rfl) ?_
   refine shM_v (v := .slice s__a s__n s__c) (ek := [(0, .slice s__a s__n s__c)]) (Ls := []) rfl rfl rfl rfl ((sc rfl (sn _))) (by kernel_rfl) sm (fun H F' L' hF' hL' => v_move rfl) ?_
   refine shM_v (v := .int .i64 j) (ek := [(3, .int .i64 j)]) (Ls := []) rfl rfl rfl rfl ((sc rfl (sn _))) (by kernel_rfl) sm (fun H F' L' hF' hL' => v_move rfl) ?_
   refine shM_v (v := .slice s__a s__n s__c) (ek := [(0, .slice s__a s__n s__c)]) (Ls := []) rfl rfl rfl rfl ((sc rfl (sn _))) (by kernel_rfl) sm (fun H F' L' hF' hL' => v_move rfl) ?_
   refine shM_v (v := .int .i64 j) (ek := [(3, .int .i64 j)]) (Ls := []) rfl rfl rfl rfl ((sc rfl (sn _))) (by kernel_rfl) sm (fun H F' L' hF' hL' => v_move rfl) ?_
   obtain ⟨x, g11, hx12, r13⟩ := ix_ok r10; clear r10
   obtain ⟨b14, o15, c16, vs17, ha18, hs19, hle20, rfl, hl21, hc22⟩ := SlR.at (iE_ok _) hz4 (L := Lb3 ++ []) fP g11.1 hx12
   refine shM_v (v := .pointer (some ⟨b14, o15 + (j : Int).toNat * 1, none⟩)) (ek := [(18, .slice s__a s__n s__c), (19, .int .i64 j)]) (Ls := []) rfl rfl rfl rfl ((sc rfl (sc rfl (sn _)))) (by kernel_rfl) sm (fun H F' L' hF' hL' => v_indexO Tryz.underlying24 Tryz.sizeOf3 rfl ha18 rfl (SlR.idx hz4 g11)) ?_
   refine shM_v (v := .int .i64 x) (ek := [(20, .pointer (some ⟨b14, o15 + (j : Int).toNat * 1, none⟩))]) (Ls := Lb3 ++ []) rfl rfl rfl rfl ((sc rfl (sn _))) (by kernel_rfl) (s0 sr) (fun H F' L' hF' hL' => v_load Tryz.isAgg3 rfl (hs19.ext hF' hL') (hc22 0 (by decide))) ?_
   refine shM_v (v := .slice s__a s__n s__c) (ek := [(0, .slice s__a s__n s__c)]) (Ls := []) rfl rfl rfl rfl ((sc rfl (sn _))) (by kernel_rfl) sm (fun H F' L' hF' hL' => v_move rfl) ?_
   refine shM_v (v := .int .i64 i) (ek := [(2, .int .i64 i)]) (Ls := []) rfl rfl rfl rfl ((sc rfl (sn _))) (by kernel_rfl) sm (fun H F' L' hF' hL' => v_move rfl) ?_
   obtain ⟨x2, g23, hx24, r25⟩ := ix_ok r13; clear r13
   obtain ⟨b26, o27, c28, vs29, ha30, hs31, hle32, rfl, hl33, hc34⟩ := SlR.at (iE_ok _) hz4 (L := Lb3 ++ []) fP g23.1 hx24
   refine shM_v (v := .pointer (some ⟨b26, o27 + (i : Int).toNat * 1, none⟩)) (ek := [(22, .slice s__a s__n s__c), (23, .int .i64 i)]) (Ls := []) rfl rfl rfl rfl ((sc rfl (sc rfl (sn _)))) (by kernel_rfl) sm (fun H F' L' hF' hL' => v_indexO Tryz.underlying24 Tryz.sizeOf3 rfl ha30 rfl (SlR.idx hz4 g23)) ?_
   refine shM_v (v := .int .i64 x2) (ek := [(24, .pointer (some ⟨b26, o27 + (i : Int).toNat * 1, none⟩))]) (Ls := Lb3 ++ []) rfl rfl rfl rfl ((sc rfl (sn _))) (by kernel_rfl) (s0 sr) (fun H F' L' hF' hL' => v_load Tryz.isAgg3 rfl (hs31.ext hF' hL') (hc34 0 (by decide))) ?_
   obtain ⟨b35, o36, c37, vs38, ha39, hs40, hle41, rfl, hl42, hc43⟩ := SlR.at (iE_ok _) hz4 (L := Lb3 ++ []) fP g23.1 hx24
   refine shM_v (v := .pointer (some ⟨b35, o36 + (i : Int).toNat * 1, none⟩)) (ek := [(14, .slice s__a s__n s__c), (15, .int .i64 i)]) (Ls := []) rfl rfl rfl rfl ((sc rfl (sc rfl (sn _)))) (by kernel_rfl) sm (fun H F' L' hF' hL' => v_indexO Tryz.underlying24 Tryz.sizeOf3 rfl ha39 rfl (SlR.idx hz4 g23)) ?_
   refine ⟨_, [(21, .int .i64 x), (26, .pointer (some ⟨b35, o36 + (i : Int).toNat * 1, none⟩))], rfl, rfl, (sc rfl (sc rfl (sn _))), by kernel_rfl, ?_⟩; intro H
   obtain ⟨l, h44, r45⟩ := bv_ok r25; clear r25
   refine o_storeZ (u := x) Tryz.sizeOf3 (iE_ok _) rfl ha39 rfl rfl (fun _ => .h) hz4 h44 g23 ?_; intro Lb46 hz47
   refine shO_nil ⟨undef, rfl, FExt.refl _, [3, 2], by kernel_rfl, .inl (.inr (fun d h => by cases h)), (List.forall_mem_cons.2 ⟨sm, (List.forall_mem_cons.2 ⟨sm, (fun _ h => absurd h List.not_mem_nil)⟩)⟩), ?_⟩
   obtain ⟨x3, g48, hx49, r50⟩ := ix_ok r45; clear r45
   obtain ⟨b51, o52, c53, vs54, ha55, hs56, hle57, rfl, hl58, hc59⟩ := SlR.at (iE_ok _) hz47 (L := Lb46 ++ []) fP g48.1 hx49
   refine shM_v (v := .pointer (some ⟨b51, o52 + (j : Int).toNat * 1, none⟩)) (ek := [(16, .slice s__a s__n s__c), (17, .int .i64 j)]) (Ls := []) rfl rfl rfl rfl ((sc rfl (sc rfl (sn _)))) (by kernel_rfl) sm (fun H F' L' hF' hL' => v_indexO Tryz.underlying24 Tryz.sizeOf3 rfl ha55 rfl (SlR.idx hz47 g48)) ?_
   refine ⟨_, [(25, .int .i64 x2), (27, .pointer (some ⟨b51, o52 + (j : Int).toNat * 1, none⟩))], rfl, rfl, (sc rfl (sc rfl (sn _))), by kernel_rfl, ?_⟩; intro H
   obtain ⟨l2, h60, r61⟩ := bv_ok r50; clear r50
   refine o_storeZ (u := x2) Tryz.sizeOf3 (iE_ok _) rfl ha55 rfl rfl (fun _ => .h) hz47 h60 g48 ?_; intro Lb62 hz63
   refine shO_nil ⟨undef, rfl, FExt.refl _, [], by kernel_rfl, .inl (.inl rfl), (fun _ h => absurd h List.not_mem_nil), ?_⟩
   refine shM_nil ?_
   refine inBlock_n (id := 1) (shW_region (om rfl rfl ?_))
   obtain ⟨g64, r65⟩ := gd_ok r61; clear r61
   refine ov (v_add rfl rfl g64) rfl ?_
   refine om rfl rfl ?_
   obtain ⟨g66, r67⟩ := gd_ok r65; clear r65
   refine ov (v_sub rfl rfl g66) rfl ?_
   refine oa rfl rfl (oa rfl rfl (shO_nil ?_))
   exact le kr ⟨l2, i + 1, j - 1, Lb62, r67, rfl, rfl, (sc rfl (sc rfl (sc rfl (sn _)))), hz63⟩
 have r68 := ite_f r7 c9; clear r7
 refine shW_exit (andThen_exit (andThen_exit ?_))
 refine inBlock_exit ?_
 refine q_end0 (.inr rfl) Tryz.results136 ?_
 obtain rfl := inj1 r68
 exact ⟨_, rfl, rfl, hz4⟩
set_option maxHeartbeats 1000000 in
theorem book_desk_through_w {b_d : Nat} {houses : Int} {notices : Int} {hears_a : Option Addr} {hears_c : Nat} {hears : List (List (List Int))} {readings_a : Option Addr} {readings_c : Nat} {readings : List Int} {cries_a : Option Addr} {cries_c : Nat} {cries : List (Int × Int × Int)} {mb_d : Nat × Nat} {F : FS} (hb_d : F b_d = some (.cells #[.int .i64 houses, .int .i64 notices, .slice hears_a hears.length hears_c, .slice readings_a readings.length readings_c, .slice cries_a cries.length cries_c] 171 mb_d)) (h_hears : RowR 1 (slE 1 (slE 1 (iE .i64))) F hears_a hears_c hears) (h_readings : RowR 1 (iE .i64) F readings_a readings_c readings) (h_cries : RowR 3 (prE (iE .i64) (prE (iE .i64) (iE .i64))) F cries_a cries_c cries) {r : List (List Int)} (hr : book_desk_through houses notices hears readings cries = some r) :
    SH.Spec Tryz.prog 98 #[.pointer (some ⟨b_d, 0, none⟩)] F [] fun F' L' v => ∃ (ra : Option Addr) (rn : Nat) (rc : Nat) (rL : LH), v = .slice ra rn rc ∧ L' = rL ++ [] ∧ SlR 0 161 8 (arE 8 (cI .i64)) F' ra rn rc r rL := by
 refine spec_of_shW (args := [.pointer (some ⟨b_d, 0, none⟩)]) Tryz.func98 rfl Tryz.ntmps98 (Nat.le_of_ble_eq_true rfl) ?_
 intro K _ _; rw [book_desk_through] at hr
 refine wsr (oa rfl rfl (nsr (om rfl rfl ?_)))
 obtain ⟨l, h1, r2⟩ := b1_ok hr; clear hr
 refine o_call0 rfl Tryz.call135 rfl rfl rfl (book_desk_ways_w hb_d h_hears h_readings h_cries h1) ?_; rintro _ F3 _ hF4 hn5 ⟨a7, n11, c8, Lb9, rfl, rfl, hz10⟩
 replace h_readings := h_readings.mono (iE_ok _) hF4
 replace hb_d := hF4 _ _ hb_d
 replace hz10 := hz10.new fun p hp => hn5 p (by simp [hp])
 refine shO_L (lp (ln rfl)) ?_
 refine oa rfl rfl (nsr (om rfl rfl ?_))
 refine ov (v_nilCheck rfl) rfl ?_
 refine ov (v_fieldAddr fa_171_0 rfl) rfl ?_
 refine ov (v_fieldAddr fa_27_3 rfl) rfl ?_
 refine ov (v_load Tryz.isAgg24 rfl (Has.frozen hb_d) rfl) rfl ?_
 obtain ⟨l2, h13, r14⟩ := b1_ok r2; clear r2
 refine o_call0 rfl Tryz.call51 rfl rfl rfl (slices_Clone_int_int_w h_readings h13) ?_; rintro _ F15 _ hF16 hn17 ⟨a19, n23, c20, Lb21, rfl, rfl, hz22⟩
 replace hz10 := hz10.mono (arE_ok (n := 8) (sz := 1) (cI_ok .i64)) hF16
 replace hz22 := hz22.new fun p hp => hn17 p (by simp [hp])
 refine shO_L (lp (ln rfl)) ?_
 refine ov (v_build (v := .agg #[.int .i64 0, .int .i64 0, .slice none 0 0, .slice a19 n23 c20, .slice none 0 0]) rfl (by intro w; kernel_rfl)) rfl ?_
 refine ov (v_build (v := .agg #[.int .i64 0, .int .i64 0, .slice none 0 0, .slice a19 n23 c20, .slice none 0 0]) rfl (by intro w; kernel_rfl)) rfl ?_
 refine o_box rfl rfl ?_; intro b25 hb25
 refine oa rfl rfl (nsr (om rfl rfl ?_))
 refine ov (v_nilCheck rfl) rfl ?_
 refine ov (v_fieldAddr fa_171_0 rfl) rfl ?_
 refine ov (v_fieldAddr fa_27_3 rfl) rfl ?_
 refine ov (v_load Tryz.isAgg24 rfl (Has.own 0 rfl) rfl) rfl ?_
 obtain ⟨s_, h26, r27⟩ := b1_ok r14; clear r14
 refine o_callG (Lb := Lb21 ++ []) (Lr := (b25, .cells #[.int .i64 0, .int .i64 0, .slice none 0 0, .slice a19 n23 c20, .slice none 0 0] 171 (0, 0)) :: (Lb9 ++ [])) rfl Tryz.call136 rfl rfl rfl (pT ((fC fP).trans (pA pR)) (lp (ln rfl))) (slices_Reverse_int_int_w hz22 h26) ?_; rintro _ F28 _ hF29 hd31 hn30 ⟨Lb32, rfl, rfl, hz33⟩
 replace hz10 := hz10.mono (arE_ok (n := 8) (sz := 1) (cI_ok .i64)) hF29
 refine shO_L (lp (ln rfl)) ?_
 refine kO (kf (fS fO) kr) ?_
 refine nsr (om rfl rfl ?_)
 obtain rfl := (SlR.caps hz33).1
 refine shO_freezeR (Nat.le_refl _) (iE_ok _) (fC fP) hz33 ?_; intro F34 hF35 h36
 replace hz10 := hz10.mono (arE_ok (n := 8) (sz := 1) (cI_ok .i64)) hF35
 refine shO_freeze 0 rfl hb25 ?_; intro F37 hF38 hz39
 refine shO_L (L' := Lb9 ++ []) rfl ?_
 replace h36 := h36.mono (iE_ok _) hF38
 replace hz10 := hz10.mono (arE_ok (n := 8) (sz := 1) (cI_ok .i64)) hF38
 obtain ⟨l3, h40, r41⟩ := b1_ok r27; clear r27
 refine o_call0 rfl Tryz.call135 rfl rfl rfl (book_desk_ways_w hz39 (RowR.nil _ _ _) h36 (RowR.nil _ _ _) h40) ?_; rintro _ F42 _ hF43 hn44 ⟨a46, n50, c47, Lb48, rfl, rfl, hz49⟩
 replace hz10 := hz10.mono (arE_ok (n := 8) (sz := 1) (cI_ok .i64)) hF43
 replace hz49 := hz49.new fun p hp => hn44 p (by simp [hp])
 refine shO_L (lp (ln rfl)) ?_
 refine oa rfl rfl (shO_nil ?_)
 obtain ⟨there, h54, r55⟩ := b1_ok r41; clear r41
 refine shW_join (fun e1 F1 L1 => ∃ (Lb52 : LH), F42 = F1 ∧ L1 = (Lb52 ++ []) ∧ e1.sub [(3, .slice a7 n11 c8)] ∧ SlR K.w0.heap.size 161 8 (arE 8 (cI .i64)) F1 a7 n11 c8 there Lb52) ?_ ?_
 · clear r55
   refine wsr (om rfl rfl ?_)
   refine ov ((v_lenS Tryz.underlying163 rfl).i (SlR.lenI hz10)) rfl ?_
   refine om rfl rfl (shO_nil ?_)
   refine shW_block ?_
   obtain ⟨g58, r59⟩ := gd_ok h54; clear h54
   refine shW_lp (fun fu1 e1 F1 L1 => ∃ (k : Int), Ctr 0 (l.length : Int) k fu1 ∧ ∃ (there2 : List (List Int)) (Lb56 : LH), book_desk_through_l1 l3 fu1 k there2 = some there ∧ F42 = F1 ∧ L1 = (Lb56 ++ (Lb48 ++ [])) ∧ e1.sub [(3, .slice a7 n11 c8), (5, .slice a46 n50 c47), (28, .int .i64 (l.length : Int)), (29, .int .i64 k)] ∧ SlR K.w0.heap.size 161 8 (arE 8 (cI .i64)) F1 a7 n11 c8 there2 Lb56) _ (m0 (kg (fS fP) kr) ⟨_, Ctr.start _ _, l, Lb9, r59, rfl, rfl, (sc rfl (sc rfl (sc rfl (sc rfl (sn _))))), hz10⟩) ?_
   rintro fu1 e1 _ _ ⟨k, hk60, there2, Lb56, r62, rfl, rfl, he63, hz57⟩
   refine shW_env _ he63 ?_; clear he63
   refine wsr ?_
   refine ov (v_lssK rfl rfl) rfl ?_
   refine shO_nil (shW_seq ?_)
   refine shW_condP rfl (fun c65 => ?_) (fun c65 => ?_)
   · obtain ⟨fu1, rfl, hk66⟩ := Ctr.succ hk60 c65
     rw [book_desk_through_l1] at r62
     refine shW_skip ?_
     obtain ⟨there3, h69, r70⟩ := b1_ok r62; clear r62
     refine shW_join (fun e1 F1 L1 => ∃ (Lb67 : LH), F42 = F1 ∧ L1 = (Lb67 ++ (Lb48 ++ [])) ∧ e1.sub [(3, .slice a7 n11 c8), (5, .slice a46 n50 c47), (28, .int .i64 (l.length : Int)), (29, .int .i64 k)] ∧ SlR K.w0.heap.size 161 8 (arE 8 (cI .i64)) F1 a7 n11 c8 there3 Lb67) ?_ ?_
     · clear r70
       refine shW_block ?_
       refine wsr (om rfl rfl (oa rfl rfl (nsr (om rfl rfl (shO_nil ?_)))))
       refine shW_block ?_
       obtain ⟨g73, r74⟩ := gd_ok h69; clear h69
       refine shW_lp (fun fu2 e1 F1 L1 => ∃ (k2 : Int), Ctr 0 8 k2 fu2 ∧ ∃ (there4 : List (List Int)) (Lb71 : LH), book_desk_through_l2 l3 k fu2 k2 there4 = some there3 ∧ F42 = F1 ∧ L1 = (Lb71 ++ (Lb48 ++ [])) ∧ e1.sub [(3, .slice a7 n11 c8), (5, .slice a46 n50 c47), (6, .int .i64 k), (28, .int .i64 (l.length : Int)), (29, .int .i64 k), (32, .int .i64 k2)] ∧ SlR K.w0.heap.size 161 8 (arE 8 (cI .i64)) F1 a7 n11 c8 there4 Lb71) _ (m0 kr ⟨_, Ctr.start _ _, there2, Lb56, r74, rfl, rfl, (sc rfl (sc rfl (sc rfl (sc rfl (sc rfl (sc rfl (sn _))))))), hz57⟩) ?_
       rintro fu2 e1 _ _ ⟨k2, hk75, there4, Lb71, r77, rfl, rfl, he78, hz72⟩
       refine shW_env _ he78 ?_; clear he78
       refine wsr ?_
       refine ov (v_lssK rfl rfl) rfl ?_
       refine shO_nil (shW_seq ?_)
       refine shW_condP rfl (fun c80 => ?_) (fun c80 => ?_)
       · obtain ⟨fu2, rfl, hk81⟩ := Ctr.succ hk75 c80
         rw [book_desk_through_l2] at r77
         refine shW_skip (shW_seq ?_)
         refine shW_block ?_
         refine wsr (om rfl rfl (oa rfl rfl (shO_nil ?_)))
         refine shW_drawM [(.still, 0), (.still, 1), (.still, 2), (.still, 3), (.still, 4), (.still, 5), (.still, 6), (.still, 7), (.still, 8), (.still, 9), (.still, 10), (.still, 11), (.still, 12), (.still, 13), (.still, 14), (.still, 15), (.still, 16), (.still, 17), (.still, 18), (.seq, 19)] (by kernel_rfl) (by kernel_rfl) (trivial) (by rfl) (by kernel_rfl) ?_
         refine shM_v (v := .slice a7 n11 c8) (ek := [(3, .slice a7 n11 c8)]) (Ls := []) rfl rfl rfl rfl ((sc rfl (sn _))) (by kernel_rfl) sm (fun H F' L' hF' hL' => v_move rfl) ?_
         refine shM_v (v := .int .i64 k) (ek := [(6, .int .i64 k)]) (Ls := []) rfl rfl rfl rfl ((sc rfl (sn _))) (by kernel_rfl) sm (fun H F' L' hF' hL' => v_move rfl) ?_
         refine shM_v (v := .int .i64 k2) (ek := [(7, .int .i64 k2)]) (Ls := []) rfl rfl rfl rfl ((sc rfl (sn _))) (by kernel_rfl) sm (fun H F' L' hF' hL' => v_move rfl) ?_
         obtain ⟨x, g82, hx83, r84⟩ := ix_ok r77; clear r77
         obtain ⟨b85, o86, c87, vs88, ha89, hs90, hle91, ⟨rfl, h94⟩, hl92, hc93⟩ := SlR.at (arE_ok (n := 8) (sz := 1) (cI_ok .i64)) hz72 (L := Lb71 ++ []) fP g82.1 hx83
         refine shM_v (v := .pointer (some ⟨b85, o86 + (k : Int).toNat * 8, none⟩)) (ek := [(35, .slice a7 n11 c8), (36, .int .i64 k)]) (Ls := []) rfl rfl rfl rfl ((sc rfl (sc rfl (sn _)))) (by kernel_rfl) sm (fun H F' L' hF' hL' => v_indexO Tryz.underlying163 Tryz.sizeOf161 rfl ha89 rfl (SlR.idx hz72 g82)) ?_
         obtain ⟨x2, g95, hx96, r97⟩ := ix_ok r84; clear r84
         have hc98 := el_at (cI_ok .i64) h94 hx96 hc93 hle91 hl92
         refine shM_v (v := .pointer (some ⟨b85, o86 + (k : Int).toNat * 8 + (k2 : Int).toNat * 1, none⟩)) (ek := [(37, .int .i64 k2), (38, .pointer (some ⟨b85, o86 + (k : Int).toNat * 8, none⟩))]) (Ls := []) rfl rfl rfl rfl ((sc rfl (sc rfl (sn _)))) (by kernel_rfl) sm (fun H F' L' hF' hL' => v_indexA Tryz.underlying161 Tryz.sizeOf3 rfl rfl (arr_lt h94 g95)) ?_
         refine shM_v (v := .int .i64 x2) (ek := [(39, .pointer (some ⟨b85, o86 + (k : Int).toNat * 8 + (k2 : Int).toNat * 1, none⟩))]) (Ls := Lb71 ++ []) rfl rfl rfl rfl ((sc rfl (sn _))) (by kernel_rfl) (s0 (s4 (s3 sr))) (fun H F' L' hF' hL' => v_load Tryz.isAgg3 rfl (hs90.ext hF' hL') ((hc98).2.2 0 (by decide))) ?_
         refine shM_v (v := .slice a46 n50 c47) (ek := [(5, .slice a46 n50 c47)]) (Ls := []) rfl rfl rfl rfl ((sc rfl (sn _))) (by kernel_rfl) sm (fun H F' L' hF' hL' => v_move rfl) ?_
         refine shM_v (v := .slice a46 n50 c47) (ek := [(5, .slice a46 n50 c47)]) (Ls := []) rfl rfl rfl rfl ((sc rfl (sn _))) (by kernel_rfl) sm (fun H F' L' hF' hL' => v_move rfl) ?_
         refine shM_v (v := .int .i64 (l3.length : Int)) (ek := [(42, .slice a46 n50 c47)]) (Ls := []) rfl rfl rfl rfl ((sc rfl (sn _))) (by kernel_rfl) sm (fun H F' L' hF' hL' => (v_lenS Tryz.underlying163 rfl).i (SlR.lenI hz49)) ?_
         obtain ⟨g99, r100⟩ := gd_ok r97; clear r97
         refine shM_v (v := .int .i64 ((l3.length : Int) - 1)) (ek := [(43, .int .i64 (l3.length : Int))]) (Ls := []) rfl rfl rfl rfl ((sc rfl (sn _))) (by kernel_rfl) sm (fun H F' L' hF' hL' => v_sub rfl rfl g99) ?_
         refine shM_v (v := .int .i64 k) (ek := [(6, .int .i64 k)]) (Ls := []) rfl rfl rfl rfl ((sc rfl (sn _))) (by kernel_rfl) sm (fun H F' L' hF' hL' => v_move rfl) ?_
         obtain ⟨g101, r102⟩ := gd_ok r100; clear r100
         refine shM_v (v := .int .i64 (((l3.length : Int) - 1) - k)) (ek := [(44, .int .i64 ((l3.length : Int) - 1)), (45, .int .i64 k)]) (Ls := []) rfl rfl rfl rfl ((sc rfl (sc rfl (sn _)))) (by kernel_rfl) sm (fun H F' L' hF' hL' => v_sub rfl rfl g101) ?_
         refine shM_v (v := .int .i64 k2) (ek := [(7, .int .i64 k2)]) (Ls := []) rfl rfl rfl rfl ((sc rfl (sn _))) (by kernel_rfl) sm (fun H F' L' hF' hL' => v_move rfl) ?_
         obtain ⟨x3, g103, hx104, r105⟩ := ix_ok r102; clear r102
         obtain ⟨b106, o107, c108, vs109, ha110, hs111, hle112, ⟨rfl, h115⟩, hl113, hc114⟩ := SlR.at (arE_ok (n := 8) (sz := 1) (cI_ok .i64)) hz49 (L := Lb48 ++ []) fP g103.1 hx104
         refine shM_v (v := .pointer (some ⟨b106, o107 + (((l3.length : Int) - 1) - k : Int).toNat * 8, none⟩)) (ek := [(41, .slice a46 n50 c47), (46, .int .i64 (((l3.length : Int) - 1) - k))]) (Ls := []) rfl rfl rfl rfl ((sc rfl (sc rfl (sn _)))) (by kernel_rfl) sm (fun H F' L' hF' hL' => v_indexO Tryz.underlying163 Tryz.sizeOf161 rfl ha110 rfl (SlR.idx hz49 g103)) ?_
         obtain ⟨x4, g116, hx117, r118⟩ := ix_ok r105; clear r105
         have hc119 := el_at (cI_ok .i64) h115 hx117 hc114 hle112 hl113
         refine shM_v (v := .pointer (some ⟨b106, o107 + (((l3.length : Int) - 1) - k : Int).toNat * 8 + (k2 : Int).toNat * 1, none⟩)) (ek := [(47, .int .i64 k2), (48, .pointer (some ⟨b106, o107 + (((l3.length : Int) - 1) - k : Int).toNat * 8, none⟩))]) (Ls := []) rfl rfl rfl rfl ((sc rfl (sc rfl (sn _)))) (by kernel_rfl) sm (fun H F' L' hF' hL' => v_indexA Tryz.underlying161 Tryz.sizeOf3 rfl rfl (arr_lt h115 g116)) ?_
         refine shM_v (v := .int .i64 x4) (ek := [(49, .pointer (some ⟨b106, o107 + (((l3.length : Int) - 1) - k : Int).toNat * 8 + (k2 : Int).toNat * 1, none⟩))]) (Ls := Lb48 ++ []) rfl rfl rfl rfl ((sc rfl (sn _))) (by kernel_rfl) (s0 (s3 (s4 sr))) (fun H F' L' hF' hL' => v_load Tryz.isAgg3 rfl (hs111.ext hF' hL') ((hc119).2.2 0 (by decide))) ?_
         obtain ⟨g120, r121⟩ := gd_ok r118; clear r118
         refine shM_v (v := .int .i64 (x2 * x4)) (ek := [(40, .int .i64 x2), (50, .int .i64 x4)]) (Ls := []) rfl rfl rfl rfl ((sc rfl (sc rfl (sn _)))) (by kernel_rfl) sm (fun H F' L' hF' hL' => v_mul rfl rfl g120) ?_
         obtain ⟨b122, o123, c124, vs125, ha126, hs127, hle128, ⟨rfl, h131⟩, hl129, hc130⟩ := SlR.at (arE_ok (n := 8) (sz := 1) (cI_ok .i64)) hz72 (L := Lb71 ++ []) fP g82.1 hx83
         refine shM_v (v := .pointer (some ⟨b122, o123 + (k : Int).toNat * 8, none⟩)) (ek := [(35, .slice a7 n11 c8), (36, .int .i64 k)]) (Ls := []) rfl rfl rfl rfl ((sc rfl (sc rfl (sn _)))) (by kernel_rfl) sm (fun H F' L' hF' hL' => v_indexO Tryz.underlying163 Tryz.sizeOf161 rfl ha126 rfl (SlR.idx hz72 g82)) ?_
         refine shM_v (v := .pointer (some ⟨b122, o123 + (k : Int).toNat * 8 + (k2 : Int).toNat * 1, none⟩)) (ek := [(37, .int .i64 k2), (52, .pointer (some ⟨b122, o123 + (k : Int).toNat * 8, none⟩))]) (Ls := []) rfl rfl rfl rfl ((sc rfl (sc rfl (sn _)))) (by kernel_rfl) sm (fun H F' L' hF' hL' => v_indexA Tryz.underlying161 Tryz.sizeOf3 rfl rfl (arr_lt h131 g95)) ?_
         refine ⟨_, [(51, .int .i64 (x2 * x4)), (53, .pointer (some ⟨b122, o123 + (k : Int).toNat * 8 + (k2 : Int).toNat * 1, none⟩))], rfl, rfl, (sc rfl (sc rfl (sn _))), by kernel_rfl, ?_⟩; intro H
         obtain ⟨l4, h133, r134⟩ := bv_ok r121; clear r121
         refine o_storeZP (zs := l4) (off := (k2 : Int).toNat * 1) (x0 := x) (u := x.set (k2 : Int).toNat (x2 * x4)) Tryz.sizeOf3 (arE_ok (n := 8) (sz := 1) (cI_ok .i64)) rfl ha126 rfl rfl (arr_off (arr_lt h131 g95)) hx83 (fun vs h => arE_set (cI_ok .i64) h (arr_ltN (arr_lt h131 g95)) rfl) (fun _ => .h) hz72 h133 g82 ?_; intro Lb135 hz136
         refine shO_nil ⟨undef, rfl, FExt.refl _, [], by kernel_rfl, .inl (.inl rfl), (fun _ h => absurd h List.not_mem_nil), ?_⟩
         refine shM_nil ?_
         refine inBlock_n (id := 3) (shW_region ?_)
         refine ov (v_add rfl rfl (Ctr.r64 hk75 c80 g73)) rfl ?_
         refine om rfl rfl (shO_nil ?_)
         exact le kr ⟨_, hk81, l4, Lb135, r134, rfl, rfl, (sc rfl (sc rfl (sc rfl (sc rfl (sc rfl (sc rfl (sn _))))))), hz136⟩
       obtain rfl := Ctr.zero hk75 c80
       rw [book_desk_through_l2] at r77
       refine shW_exit (andThen_exit (andThen_exit ?_))
       refine inBlock_exit ?_
       refine inBlock_n (id := 1) ?_
       obtain rfl := inj1 r77
       exact mi kr ⟨Lb71, rfl, rfl, (sc rfl (sc rfl (sc rfl (sc rfl (sn _))))), hz72⟩
     rintro e1 _ _ ⟨Lb67, rfl, rfl, he137, hz68⟩
     refine shW_env _ he137 ?_; clear he137
     refine shW_region ?_
     refine ov (v_add rfl rfl (Ctr.r64 hk60 c65 g58)) rfl ?_
     refine om rfl rfl (shO_nil ?_)
     exact le kr ⟨_, hk66, there3, Lb67, r70, rfl, rfl, (sc rfl (sc rfl (sc rfl (sc rfl (sn _))))), hz68⟩
   obtain rfl := Ctr.zero hk60 c65
   rw [book_desk_through_l1] at r62
   refine shW_exit (andThen_exit (andThen_exit ?_))
   refine inBlock_exit ?_
   obtain rfl := inj1 r62
   exact mi (ka kn) ⟨Lb56, rfl, rfl, (sc rfl (sn _)), hz57⟩
 rintro e1 _ _ ⟨Lb52, rfl, rfl, he138, hz53⟩
 refine shW_env _ he138 ?_; clear he138
 refine wsr (om rfl rfl (oa rfl rfl (shO_nil (shW_ret ?_))))
 refine q_res1 Tryz.results98 (res_tmp rfl) (sr) ?_
 obtain rfl := inj1 r55
 exact ⟨_, _, _, _, rfl, rfl, hz53.any⟩
set_option maxHeartbeats 1000000 in
theorem book_Count_w {houses : Int} {notices : Int} {hears_a : Option Addr} {hears_c : Nat} {hears : List (List (List Int))} {readings_a : Option Addr} {readings_c : Nat} {readings : List Int} {cries_a : Option Addr} {cries_c : Nat} {cries : List (Int × Int × Int)} {F : FS} (h_hears : RowR 1 (slE 1 (slE 1 (iE .i64))) F hears_a hears_c hears) (h_readings : RowR 1 (iE .i64) F readings_a readings_c readings) (h_cries : RowR 3 (prE (iE .i64) (prE (iE .i64) (iE .i64))) F cries_a cries_c cries) {r : Int} {r2 : Int} (hr : book_Count houses notices hears readings cries = some (r, r2)) :
    SpecV Tryz.prog 64 #[.agg #[.int .i64 houses, .int .i64 notices, .slice hears_a hears.length hears_c, .slice readings_a readings.length readings_c, .slice cries_a cries.length cries_c]] F (.tuple #[.int .i64 r, .int .i64 r2]) := by
 refine spec_of_shW (args := [.agg #[.int .i64 houses, .int .i64 notices, .slice hears_a hears.length hears_c, .slice readings_a readings.length readings_c, .slice cries_a cries.length cries_c]]) Tryz.func64 rfl Tryz.ntmps64 (Nat.le_of_ble_eq_true rfl) ?_
 intro K _ _; rw [book_Count] at hr
 refine wsr ?_
 refine o_box rfl rfl ?_; intro b1 hb1
 refine oa rfl rfl (oa rfl rfl (nsr ?_))
 refine ov (v_loadA (cs := #[.int .i64 houses, .int .i64 notices, .slice hears_a hears.length hears_c, .slice readings_a readings.length readings_c, .slice cries_a cries.length cries_c]) Tryz.isAgg27 Tryz.sizeOf27 rfl (Has.own 0 rfl) (Nat.le_of_ble_eq_true rfl) rfl) rfl ?_
 obtain ⟨d, n, h2, r3⟩ := b2_ok hr; clear hr
 refine o_call0 rfl Tryz.call93 rfl rfl rfl (book_opened_w h_hears h_readings h_cries h2) ?_; rintro _ F4 _ hF5 hn6 ⟨v8, rfl, rfl, hp9⟩
 refine shO_L (ln rfl) ?_
 refine om rfl rfl (ox rfl rfl rfl (ox rfl rfl rfl (oa rfl rfl (oa rfl rfl (shO_nil (shW_seq (wsr (om rfl rfl ?_))))))))
 refine ov (v_neq rfl rfl) rfl ?_
 refine shO_nil ?_
 refine shW_condP rfl (fun c10 => ?_) (fun c10 => ?_)
 · have r11 := ite_t r3 c10; clear r3
   refine wsr (om rfl rfl (oa rfl rfl (oa rfl rfl (shO_nil ?_))))
   refine kW kn ?_
   refine shW_ret (andThen_ret ?_)
   refine q_res2 Tryz.results64 (res_tmp rfl) (res_tmp rfl) (sr) ?_
   obtain ⟨rfl, rfl⟩ := inj2 r11
   exact rfl
 have r12 := ite_f r3 c10; clear r3
 refine shW_skip (wsr (oa rfl rfl (shO_nil ?_)))
 obtain ⟨n2, h13, r14⟩ := b1_ok r12; clear r12
 refine shW_join (fun e1 F1 L1 => FExt F4 F1 ∧ L1 = [] ∧ e1.sub [(6, .int .i64 n2)]) ?_ ?_
 · clear r14
   refine wsr (om rfl rfl ?_)
   obtain ⟨houses2, notices2, hears2, readings2, cries2, h15, r16⟩ := b5_ok h13; clear h13
   have h31 := hp9; rw [h15] at h31; obtain ⟨b17, c18, m19, hv20, hz21, ⟨_, _, rfl, rfl, ⟨_, _, rfl, rfl, ⟨_, _, rfl, ⟨a22, c23, rfl, h24⟩, ⟨_, _, rfl, ⟨a25, c26, rfl, h27⟩, ⟨a28, c29, rfl, h30⟩⟩⟩⟩⟩⟩ := h31; subst hv20
   have hz21 : F4 b17 = some (.cells #[.int .i64 houses2, .int .i64 notices2, .slice a22 hears2.length c23, .slice a25 readings2.length c26, .slice a28 cries2.length c29] 171 m19) := hz21
   obtain ⟨l, h32, r33⟩ := b1_ok r16; clear r16
   refine o_call0 rfl Tryz.call98 rfl rfl rfl (book_desk_through_w hz21 h24 h27 h30 h32) ?_; rintro _ F34 _ hF35 hn36 ⟨a38, n42, c39, Lb40, rfl, rfl, hz41⟩
   replace hz41 := hz41.new fun p hp => hn36 p (by simp [hp])
   refine shO_L (lp (ln rfl)) ?_
   refine kO (kf (fS fO) kr) ?_
   obtain ⟨x, g44, hx45, r46⟩ := ix_ok r33; clear r33
   obtain ⟨b47, o48, c49, vs50, ha51, hs52, hle53, ⟨rfl, h56⟩, hl54, hc55⟩ := SlR.at (arE_ok (n := 8) (sz := 1) (cI_ok .i64)) hz41 (L := (b1, .cells #[.int .i64 houses, .int .i64 notices, .slice hears_a hears.length hears_c, .slice readings_a readings.length readings_c, .slice cries_a cries.length cries_c] 27 (0, 0)) :: (Lb40 ++ [])) (fC fP) g44.1 hx45
   refine ov (v_indexO Tryz.underlying163 Tryz.sizeOf161 rfl ha51 rfl (SlR.idx hz41 g44)) rfl ?_
   refine ov (v_loadA (cs := arr (cI .i64) x) Tryz.isAgg161 Tryz.sizeOf161 rfl hs52 hle53 (extract_cells hle53 hl54 hc55)) rfl ?_
   refine om rfl rfl (shO_nil ?_)
   refine shW_block ?_
   refine kW kn ?_
   obtain ⟨g57, r58⟩ := gd_ok r46; clear r46
   refine shW_lp (fun fu1 e1 F1 L1 => ∃ (k : Int), Ctr 0 8 k fu1 ∧ ∃ (n3 : Int), book_Count_l1 x fu1 k n3 = some n2 ∧ F34 = F1 ∧ L1 = [] ∧ e1.sub [(6, .int .i64 n3), (20, .agg (arr (cI .i64) x)), (21, .int .i64 k)]) _ (m0 kr ⟨_, Ctr.start _ _, 0, r58, rfl, rfl, (sc rfl (sc rfl (sc rfl (sn _))))⟩) ?_
   rintro fu1 e1 _ _ ⟨k, hk59, n3, r61, rfl, rfl, he62⟩
   refine shW_env _ he62 ?_; clear he62
   refine wsr ?_
   refine ov (v_lssK rfl rfl) rfl ?_
   refine shO_nil (shW_seq ?_)
   refine shW_condP rfl (fun c64 => ?_) (fun c64 => ?_)
   · obtain ⟨fu1, rfl, hk65⟩ := Ctr.succ hk59 c64
     rw [book_Count_l1] at r61
     refine shW_skip (shW_seq ?_)
     refine shW_block ?_
     refine wsr ?_
     obtain ⟨x2, g66, hx67, r68⟩ := ix_ok r61; clear r61
     refine ov (v_index (ixa_161 h56 g66 hx67) rfl rfl) rfl ?_
     refine oa rfl rfl (shO_nil (shW_region (om rfl rfl (om rfl rfl ?_))))
     obtain ⟨g69, r70⟩ := gd_ok r68; clear r68
     refine ov (v_add rfl rfl g69) rfl ?_
     refine oa rfl rfl (shO_nil (inBlock_n (id := 1) (shW_region ?_)))
     refine ov (v_add rfl rfl (Ctr.r64 hk59 c64 g57)) rfl ?_
     refine om rfl rfl (shO_nil ?_)
     exact le kr ⟨_, hk65, n3 + x2, r70, rfl, rfl, (sc rfl (sc rfl (sc rfl (sn _))))⟩
   obtain rfl := Ctr.zero hk59 c64
   rw [book_Count_l1] at r61
   refine shW_exit (andThen_exit (andThen_exit ?_))
   refine inBlock_exit ?_
   obtain rfl := inj1 r61
   exact mi kr ⟨hF35, rfl, (sc rfl (sn _))⟩
 rintro e1 F72 _ ⟨hF73, rfl, he71⟩
 refine shW_env _ he71 ?_; clear he71
 refine wsr (om rfl rfl (oa rfl rfl (oa rfl rfl (shO_nil (shW_ret ?_)))))
 refine q_res2 Tryz.results64 (res_tmp rfl) (res_tmp rfl) (sr) ?_
 obtain ⟨rfl, rfl⟩ := inj2 r14
 exact rfl
set_option maxHeartbeats 1000000 in
theorem oyezlaw07_Bell_w {F : FS} {r : Int} {r2 : Int} {r3 : List (List (List Int))} {r4 : List Int} {r5 : List (Int × Int × Int)} (hr : oyezlaw07_Bell = some (r, r2, r3, r4, r5)) :
    SH.Spec Tryz.prog 65 #[] F [] fun F' L' v => ∃ (r3a : Option Addr) (r3n : Nat) (r3c : Nat) (r3L : LH) (r4a : Option Addr) (r4n : Nat) (r4c : Nat) (r4L : LH) (r5a : Option Addr) (r5n : Nat) (r5c : Nat) (r5L : LH), v = .agg #[.int .i64 r, .int .i64 r2, .slice r3a r3n r3c, .slice r4a r4n r4c, .slice r5a r5n r5c] ∧ L' = r3L ++ (r4L ++ (r5L ++ [])) ∧ SlR 0 49 1 (slE 1 (slE 1 (iE .i64))) F' r3a r3n r3c r3 r3L ∧ SlR 0 3 1 (iE .i64) F' r4a r4n r4c r4 r4L ∧ SlR 0 67 3 (prE (iE .i64) (prE (iE .i64) (iE .i64))) F' r5a r5n r5c r5 r5L := by
 refine spec_of_shW (args := []) Tryz.func65 rfl Tryz.ntmps65 (Nat.le_of_ble_eq_true rfl) ?_
 intro K _ _; rw [oyezlaw07_Bell] at hr
 refine wsr ?_
 refine o_alloc rfl Tryz.zeroValue27 ?_; intro b1 hb1
 refine nsr ?_
 refine o_buildSlice (cs := #[.int .i64 0]) rfl rfl (buildSlice_all slt_24 [.int .i64 0] rfl (by decide) (by simp [Value.cells]) (by decide)) ?_; intro b2 hb2
 refine o_buildSlice (cs := #[.int .i64 0, .int .i64 1]) rfl rfl (buildSlice_all slt_24 [.int .i64 0, .int .i64 1] rfl (by decide) (by simp [Value.cells]) (by decide)) ?_; intro b3 hb3
 refine o_buildSlice (cs := #[.int .i64 1]) rfl rfl (buildSlice_all slt_24 [.int .i64 1] rfl (by decide) (by simp [Value.cells]) (by decide)) ?_; intro b4 hb4
 refine o_buildSlice (cs := #[.int .i64 1]) rfl rfl (buildSlice_all slt_24 [.int .i64 1] rfl (by decide) (by simp [Value.cells]) (by decide)) ?_; intro b5 hb5
 refine o_buildSlice (cs := #[.slice (some ⟨b2, 0, none⟩) 1 1, .slice (some ⟨b3, 0, none⟩) 2 2, .slice (some ⟨b4, 0, none⟩) 1 1, .slice (some ⟨b5, 0, none⟩) 1 1, .slice none 0 0, .slice none 0 0, .slice none 0 0, .slice none 0 0]) rfl rfl (buildSlice_all slt_49 [.slice (some ⟨b2, 0, none⟩) 1 1, .slice (some ⟨b3, 0, none⟩) 2 2, .slice (some ⟨b4, 0, none⟩) 1 1, .slice (some ⟨b5, 0, none⟩) 1 1, .slice none 0 0, .slice none 0 0, .slice none 0 0, .slice none 0 0] rfl (by decide) (by simp [Value.cells]) (by decide)) ?_; intro b6 hb6
 refine o_buildSlice (cs := #[.slice (some ⟨b6, 0, none⟩) 8 8]) rfl rfl (buildSlice_all slt_23 [.slice (some ⟨b6, 0, none⟩) 8 8] rfl (by decide) (by simp [Value.cells]) (by decide)) ?_; intro b7 hb7
 refine o_buildSlice (cs := #[.int .i64 1, .int .i64 (-1), .int .i64 4]) rfl rfl (buildSlice_all slt_24 [.int .i64 1, .int .i64 (-1), .int .i64 4] rfl (by decide) (by simp [Value.cells]) (by decide)) ?_; intro b8 hb8
 refine ov (v_build (v := .agg #[.int .i64 0, .int .i64 0, .int .i64 0]) rfl (by intro w; kernel_rfl)) rfl ?_
 refine ov (v_build (v := .agg #[.int .i64 2, .int .i64 0, .int .i64 0]) rfl (by intro w; kernel_rfl)) rfl ?_
 refine o_buildSlice (cs := #[.int .i64 0, .int .i64 0, .int .i64 0, .int .i64 2, .int .i64 0, .int .i64 0]) rfl rfl (buildSlice_all slt_25 [.agg #[.int .i64 0, .int .i64 0, .int .i64 0], .agg #[.int .i64 2, .int .i64 0, .int .i64 0]] rfl (by decide) (by simp [Value.cells]) (by decide)) ?_; intro b9 hb9
 refine ov (v_build (v := .agg #[.int .i64 2, .int .i64 1, .slice (some ⟨b7, 0, none⟩) 1 1, .slice (some ⟨b8, 0, none⟩) 3 3, .slice (some ⟨b9, 0, none⟩) 2 2]) rfl (by intro w; kernel_rfl)) rfl ?_
 refine shO_freeze 7 rfl hb2 ?_; intro F10 hF11 hz12
 refine shO_L (L' := [(b9, .cells #[.int .i64 0, .int .i64 0, .int .i64 0, .int .i64 2, .int .i64 0, .int .i64 0] 67 (0, 0)), (b8, .cells #[.int .i64 1, .int .i64 (-1), .int .i64 4] 3 (0, 0)), (b7, .cells #[.slice (some ⟨b6, 0, none⟩) 8 8] 49 (0, 0)), (b6, .cells #[.slice (some ⟨b2, 0, none⟩) 1 1, .slice (some ⟨b3, 0, none⟩) 2 2, .slice (some ⟨b4, 0, none⟩) 1 1, .slice (some ⟨b5, 0, none⟩) 1 1, .slice none 0 0, .slice none 0 0, .slice none 0 0, .slice none 0 0] 24 (0, 0)), (b5, .cells #[.int .i64 1] 3 (0, 0)), (b4, .cells #[.int .i64 1] 3 (0, 0)), (b3, .cells #[.int .i64 0, .int .i64 1] 3 (0, 0)), (b1, .cells #[.int .i64 0, .int .i64 0, .slice none 0 0, .slice none 0 0, .slice none 0 0] 27 (0, 0))]) rfl ?_
 have h13 : RowR 1 (iE .i64) F10 (some ⟨b2, 0, none⟩) 1 [0] := RowR.of_block (iE_ok _) (vss := [[.int .i64 0]]) (xs := [0]) hz12 (.cons rfl .nil) rfl (by simp [maxLen])
 refine shO_freeze 6 rfl hb3 ?_; intro F14 hF15 hz16
 refine shO_L (L' := [(b9, .cells #[.int .i64 0, .int .i64 0, .int .i64 0, .int .i64 2, .int .i64 0, .int .i64 0] 67 (0, 0)), (b8, .cells #[.int .i64 1, .int .i64 (-1), .int .i64 4] 3 (0, 0)), (b7, .cells #[.slice (some ⟨b6, 0, none⟩) 8 8] 49 (0, 0)), (b6, .cells (#[.slice (some ⟨b2, 0, none⟩) [0].length 1, .slice (some ⟨b3, 0, none⟩) 2 2, .slice (some ⟨b4, 0, none⟩) 1 1, .slice (some ⟨b5, 0, none⟩) 1 1, .slice none 0 0, .slice none 0 0, .slice none 0 0, .slice none 0 0]) 24 (0, 0)), (b5, .cells #[.int .i64 1] 3 (0, 0)), (b4, .cells #[.int .i64 1] 3 (0, 0)), (b1, .cells #[.int .i64 0, .int .i64 0, .slice none 0 0, .slice none 0 0, .slice none 0 0] 27 (0, 0))]) rfl ?_
 replace h13 := h13.mono (iE_ok _) hF15
 have h17 : RowR 1 (iE .i64) F14 (some ⟨b3, 0, none⟩) 2 [0, 1] := RowR.of_block (iE_ok _) (vss := [[.int .i64 0], [.int .i64 1]]) (xs := [0, 1]) hz16 (.cons rfl (.cons rfl .nil)) rfl (by simp [maxLen])
 refine shO_freeze 5 rfl hb4 ?_; intro F18 hF19 hz20
 refine shO_L (L' := [(b9, .cells #[.int .i64 0, .int .i64 0, .int .i64 0, .int .i64 2, .int .i64 0, .int .i64 0] 67 (0, 0)), (b8, .cells #[.int .i64 1, .int .i64 (-1), .int .i64 4] 3 (0, 0)), (b7, .cells #[.slice (some ⟨b6, 0, none⟩) 8 8] 49 (0, 0)), (b6, .cells (#[.slice (some ⟨b2, 0, none⟩) [0].length 1, .slice (some ⟨b3, 0, none⟩) [0, 1].length 2, .slice (some ⟨b4, 0, none⟩) 1 1, .slice (some ⟨b5, 0, none⟩) 1 1, .slice none 0 0, .slice none 0 0, .slice none 0 0, .slice none 0 0]) 24 (0, 0)), (b5, .cells #[.int .i64 1] 3 (0, 0)), (b1, .cells #[.int .i64 0, .int .i64 0, .slice none 0 0, .slice none 0 0, .slice none 0 0] 27 (0, 0))]) rfl ?_
 replace h13 := h13.mono (iE_ok _) hF19
 replace h17 := h17.mono (iE_ok _) hF19
 have h21 : RowR 1 (iE .i64) F18 (some ⟨b4, 0, none⟩) 1 [1] := RowR.of_block (iE_ok _) (vss := [[.int .i64 1]]) (xs := [1]) hz20 (.cons rfl .nil) rfl (by simp [maxLen])
 refine shO_freeze 4 rfl hb5 ?_; intro F22 hF23 hz24
 refine shO_L (L' := [(b9, .cells #[.int .i64 0, .int .i64 0, .int .i64 0, .int .i64 2, .int .i64 0, .int .i64 0] 67 (0, 0)), (b8, .cells #[.int .i64 1, .int .i64 (-1), .int .i64 4] 3 (0, 0)), (b7, .cells #[.slice (some ⟨b6, 0, none⟩) 8 8] 49 (0, 0)), (b6, .cells (#[.slice (some ⟨b2, 0, none⟩) [0].length 1, .slice (some ⟨b3, 0, none⟩) [0, 1].length 2, .slice (some ⟨b4, 0, none⟩) [1].length 1, .slice (some ⟨b5, 0, none⟩) 1 1, .slice none 0 0, .slice none 0 0, .slice none 0 0, .slice none 0 0]) 24 (0, 0)), (b1, .cells #[.int .i64 0, .int .i64 0, .slice none 0 0, .slice none 0 0, .slice none 0 0] 27 (0, 0))]) rfl ?_
 replace h13 := h13.mono (iE_ok _) hF23
 replace h17 := h17.mono (iE_ok _) hF23
 replace h21 := h21.mono (iE_ok _) hF23
 have h25 : RowR 1 (iE .i64) F22 (some ⟨b5, 0, none⟩) 1 [1] := RowR.of_block (iE_ok _) (vss := [[.int .i64 1]]) (xs := [1]) hz24 (.cons rfl .nil) rfl (by simp [maxLen])
 refine shO_freeze 3 rfl hb6 ?_; intro F26 hF27 hz28
 refine shO_L (L' := [(b9, .cells #[.int .i64 0, .int .i64 0, .int .i64 0, .int .i64 2, .int .i64 0, .int .i64 0] 67 (0, 0)), (b8, .cells #[.int .i64 1, .int .i64 (-1), .int .i64 4] 3 (0, 0)), (b7, .cells #[.slice (some ⟨b6, 0, none⟩) 8 8] 49 (0, 0)), (b1, .cells #[.int .i64 0, .int .i64 0, .slice none 0 0, .slice none 0 0, .slice none 0 0] 27 (0, 0))]) rfl ?_
 replace h13 := h13.mono (iE_ok _) hF27
 replace h17 := h17.mono (iE_ok _) hF27
 replace h21 := h21.mono (iE_ok _) hF27
 replace h25 := h25.mono (iE_ok _) hF27
 have h29 : RowR 1 (slE 1 (iE .i64)) F26 (some ⟨b6, 0, none⟩) 8 [[0], [0, 1], [1], [1], [], [], [], []] := RowR.of_block (slE_ok (iE_ok _)) (vss := [[.slice (some ⟨b2, 0, none⟩) [0].length 1], [.slice (some ⟨b3, 0, none⟩) [0, 1].length 2], [.slice (some ⟨b4, 0, none⟩) [1].length 1], [.slice (some ⟨b5, 0, none⟩) [1].length 1], [.slice none 0 0], [.slice none 0 0], [.slice none 0 0], [.slice none 0 0]]) (xs := [[0], [0, 1], [1], [1], [], [], [], []]) hz28 (.cons ⟨_, _, rfl, h13⟩ (.cons ⟨_, _, rfl, h17⟩ (.cons ⟨_, _, rfl, h21⟩ (.cons ⟨_, _, rfl, h25⟩ (.cons ⟨_, _, rfl, RowR.nil _ _ _⟩ (.cons ⟨_, _, rfl, RowR.nil _ _ _⟩ (.cons ⟨_, _, rfl, RowR.nil _ _ _⟩ (.cons ⟨_, _, rfl, RowR.nil _ _ _⟩ .nil)))))))) rfl (by simp [maxLen])
 have hz31 : SlR K.w0.heap.size 49 1 (slE 1 (slE 1 (iE .i64))) F26 (some ⟨b7, 0, none⟩) 1 1 [[[0], [0, 1], [1], [1], [], [], [], []]] [(b7, .cells (#[.slice (some ⟨b6, 0, none⟩) [[0], [0, 1], [1], [1], [], [], [], []].length 8]) 49 (0, 0))] := SlR.of_block (vss := [[.slice (some ⟨b6, 0, none⟩) [[0], [0, 1], [1], [1], [], [], [], []].length 8]]) (slE_ok (slE_ok (iE_ok _))) hb7 (.cons ⟨_, _, rfl, h29⟩ .nil) rfl rfl (by simp [maxLen])
 generalize hLLb30 : ([(b7, .cells (#[.slice (some ⟨b6, 0, none⟩) [[0], [0, 1], [1], [1], [], [], [], []].length 8]) 49 (0, 0))] : LH) = Lb30 at hz31
 refine shO_perm (L' := Lb30 ++ [(b9, .cells #[.int .i64 0, .int .i64 0, .int .i64 0, .int .i64 2, .int .i64 0, .int .i64 0] 67 (0, 0)), (b8, .cells #[.int .i64 1, .int .i64 (-1), .int .i64 4] 3 (0, 0)), (b1, .cells #[.int .i64 0, .int .i64 0, .slice none 0 0, .slice none 0 0, .slice none 0 0] 27 (0, 0))]) (by rw [← hLLb30]; exact (fC (fC fO))) ?_
 refine shO_perm (L' := (b9, .cells #[.int .i64 0, .int .i64 0, .int .i64 0, .int .i64 2, .int .i64 0, .int .i64 0] 67 (0, 0)) :: ((b8, .cells #[.int .i64 1, .int .i64 (-1), .int .i64 4] 3 (0, 0)) :: ((b1, .cells #[.int .i64 0, .int .i64 0, .slice none 0 0, .slice none 0 0, .slice none 0 0] 27 (0, 0)) :: (Lb30 ++ [])))) (List.Perm.symm (fC (fC (fC fP)))) ?_
 have hz34 : SlR K.w0.heap.size 3 1 (iE .i64) F26 (some ⟨b8, 0, none⟩) 3 3 [1, -1, 4] [(b8, .cells #[.int .i64 1, .int .i64 (-1), .int .i64 4] 3 (0, 0))] := SlR.of_block (vss := [[.int .i64 1], [.int .i64 (-1)], [.int .i64 4]]) (iE_ok _) hb8 (.cons rfl (.cons rfl (.cons rfl .nil))) rfl rfl (by simp [maxLen])
 generalize hLLb33 : ([(b8, .cells #[.int .i64 1, .int .i64 (-1), .int .i64 4] 3 (0, 0))] : LH) = Lb33 at hz34
 refine shO_perm (L' := Lb33 ++ ((b9, .cells #[.int .i64 0, .int .i64 0, .int .i64 0, .int .i64 2, .int .i64 0, .int .i64 0] 67 (0, 0)) :: ((b1, .cells #[.int .i64 0, .int .i64 0, .slice none 0 0, .slice none 0 0, .slice none 0 0] 27 (0, 0)) :: (Lb30 ++ [])))) (by rw [← hLLb33]; exact (fC fO)) ?_
 refine shO_perm (L' := (b9, .cells #[.int .i64 0, .int .i64 0, .int .i64 0, .int .i64 2, .int .i64 0, .int .i64 0] 67 (0, 0)) :: ((b1, .cells #[.int .i64 0, .int .i64 0, .slice none 0 0, .slice none 0 0, .slice none 0 0] 27 (0, 0)) :: (Lb33 ++ (Lb30 ++ [])))) (List.Perm.symm (fC (fC fP))) ?_
 have hz37 : SlR K.w0.heap.size 67 3 (prE (iE .i64) (prE (iE .i64) (iE .i64))) F26 (some ⟨b9, 0, none⟩) 2 2 [(0, 0, 0), (2, 0, 0)] [(b9, .cells #[.int .i64 0, .int .i64 0, .int .i64 0, .int .i64 2, .int .i64 0, .int .i64 0] 67 (0, 0))] := SlR.of_block (vss := [[.int .i64 0, .int .i64 0, .int .i64 0], [.int .i64 2, .int .i64 0, .int .i64 0]]) (prE_ok (iE_ok _) (prE_ok (iE_ok _) (iE_ok _))) hb9 (.cons ⟨_, _, rfl, rfl, ⟨_, _, rfl, rfl, rfl⟩⟩ (.cons ⟨_, _, rfl, rfl, ⟨_, _, rfl, rfl, rfl⟩⟩ .nil)) rfl rfl (by simp [maxLen])
 generalize hLLb36 : ([(b9, .cells #[.int .i64 0, .int .i64 0, .int .i64 0, .int .i64 2, .int .i64 0, .int .i64 0] 67 (0, 0))] : LH) = Lb36 at hz37
 refine shO_perm (L' := Lb36 ++ ((b1, .cells #[.int .i64 0, .int .i64 0, .slice none 0 0, .slice none 0 0, .slice none 0 0] 27 (0, 0)) :: (Lb33 ++ (Lb30 ++ [])))) (by rw [← hLLb36]; exact fO) ?_
 refine shO_perm (L' := (b1, .cells #[.int .i64 0, .int .i64 0, .slice none 0 0, .slice none 0 0, .slice none 0 0] 27 (0, 0)) :: (Lb36 ++ (Lb33 ++ (Lb30 ++ [])))) (List.Perm.symm (fC fP)) ?_
 refine o_storeA (i := 0) Tryz.sizeOf27 rfl rfl rfl (by simp [Value.oneCell']) rfl (Nat.le_of_ble_eq_true rfl) ?_
 refine shO_L (L' := (b1, .cells #[.int .i64 2, .int .i64 1, .slice (some ⟨b7, 0, none⟩) 1 1, .slice (some ⟨b8, 0, none⟩) 3 3, .slice (some ⟨b9, 0, none⟩) 2 2] 27 (0, 0)) :: (Lb36 ++ (Lb33 ++ (Lb30 ++ [])))) rfl ?_
 refine shO_nil ?_
 refine kW (kc (kg (fS (fS fP)) (kg (fS fP) kr))) ?_
 refine shW_ret ?_
 refine q_res1 Tryz.results65 (res_cellA (cs := #[.int .i64 2, .int .i64 1, .slice (some ⟨b7, 0, none⟩) 1 1, .slice (some ⟨b8, 0, none⟩) 3 3, .slice (some ⟨b9, 0, none⟩) 2 2]) Tryz.isAgg27 Tryz.sizeOf27 rfl (Has.own 0 rfl) (Nat.le_of_ble_eq_true rfl) rfl) (s1 (s4 (s4 (s4 sr)))) ?_
 obtain ⟨rfl, rfl, rfl, rfl, rfl⟩ := inj5 hr
 exact ⟨_, _, _, _, _, _, _, _, _, _, _, _, rfl, rfl, hz31.any, hz34.any, hz37.any⟩
set_option maxHeartbeats 1000000 in
theorem book_Winds_w {houses : Int} {notices : Int} {hears_a : Option Addr} {hears_c : Nat} {hears : List (List (List Int))} {readings_a : Option Addr} {readings_c : Nat} {readings : List Int} {cries_a : Option Addr} {cries_c : Nat} {cries : List (Int × Int × Int)} {F : FS} (h_hears : RowR 1 (slE 1 (slE 1 (iE .i64))) F hears_a hears_c hears) (h_readings : RowR 1 (iE .i64) F readings_a readings_c readings) (h_cries : RowR 3 (prE (iE .i64) (prE (iE .i64) (iE .i64))) F cries_a cries_c cries) {r : List (List Int)} {r2 : Int} (hr : book_Winds houses notices hears readings cries = some (r, r2)) :
    SH.Spec Tryz.prog 67 #[.agg #[.int .i64 houses, .int .i64 notices, .slice hears_a hears.length hears_c, .slice readings_a readings.length readings_c, .slice cries_a cries.length cries_c]] F [] fun F' L' v => ∃ (ra : Option Addr) (rn : Nat) (rc : Nat) (rL : LH), v = .tuple #[.slice ra rn rc, .int .i64 r2] ∧ L' = rL ++ [] ∧ SlR 0 24 1 (slE 1 (iE .i64)) F' ra rn rc r rL := by
 refine spec_of_shW (args := [.agg #[.int .i64 houses, .int .i64 notices, .slice hears_a hears.length hears_c, .slice readings_a readings.length readings_c, .slice cries_a cries.length cries_c]]) Tryz.func67 rfl Tryz.ntmps67 (Nat.le_of_ble_eq_true rfl) ?_
 intro K _ _; rw [book_Winds] at hr
 refine wsr ?_
 refine o_box rfl rfl ?_; intro b1 hb1
 refine oa rfl rfl (oa rfl rfl (nsr ?_))
 refine ov (v_loadA (cs := #[.int .i64 houses, .int .i64 notices, .slice hears_a hears.length hears_c, .slice readings_a readings.length readings_c, .slice cries_a cries.length cries_c]) Tryz.isAgg27 Tryz.sizeOf27 rfl (Has.own 0 rfl) (Nat.le_of_ble_eq_true rfl) rfl) rfl ?_
 obtain ⟨d, n, h2, r3⟩ := b2_ok hr; clear hr
 refine o_call0 rfl Tryz.call93 rfl rfl rfl (book_opened_w h_hears h_readings h_cries h2) ?_; rintro _ F4 _ hF5 hn6 ⟨v8, rfl, rfl, hp9⟩
 refine shO_L (ln rfl) ?_
 refine om rfl rfl (ox rfl rfl rfl (ox rfl rfl rfl (oa rfl rfl (oa rfl rfl (shO_nil (shW_seq (wsr (om rfl rfl ?_))))))))
 refine ov (v_neq rfl rfl) rfl ?_
 refine shO_nil ?_
 refine shW_condP rfl (fun c10 => ?_) (fun c10 => ?_)
 · have r11 := ite_t r3 c10; clear r3
   refine wsr (om rfl rfl (oa rfl rfl (oa rfl rfl (shO_nil ?_))))
   refine kW kn ?_
   refine shW_ret (andThen_ret ?_)
   refine q_res2 Tryz.results67 (res_tmp rfl) (res_tmp rfl) (sr) ?_
   obtain ⟨rfl, rfl⟩ := inj2 r11
   exact ⟨_, _, _, [], rfl, rfl, SlR.nil _ _ _ _ _⟩
 have r12 := ite_f r3 c10; clear r3
 refine shW_skip (wsr (oa rfl rfl (shO_nil ?_)))
 refine shW_join (fun e1 F1 L1 => ∃ (out : List (List Int)) (a13 : Option Addr) (n17 : Nat) (c14 : Nat) (Lb15 : LH), book_Winds_j1 out = some (r, r2) ∧ FExt F4 F1 ∧ L1 = (Lb15 ++ []) ∧ e1.sub [(6, .slice a13 n17 c14)] ∧ SlR K.w0.heap.size 24 1 (slE 1 (iE .i64)) F1 a13 n17 c14 out Lb15) ?_ ?_
 · refine wsr (om rfl rfl ?_)
   obtain ⟨houses2, notices2, hears2, readings2, cries2, h19, r20⟩ := b5_ok r12; clear r12
   have h35 := hp9; rw [h19] at h35; obtain ⟨b21, c22, m23, hv24, hz25, ⟨_, _, rfl, rfl, ⟨_, _, rfl, rfl, ⟨_, _, rfl, ⟨a26, c27, rfl, h28⟩, ⟨_, _, rfl, ⟨a29, c30, rfl, h31⟩, ⟨a32, c33, rfl, h34⟩⟩⟩⟩⟩⟩ := h35; subst hv24
   have hz25 : F4 b21 = some (.cells #[.int .i64 houses2, .int .i64 notices2, .slice a26 hears2.length c27, .slice a29 readings2.length c30, .slice a32 cries2.length c33] 171 m23) := hz25
   obtain ⟨l, h36, r37⟩ := b1_ok r20; clear r20
   refine o_call0 rfl Tryz.call98 rfl rfl rfl (book_desk_through_w hz25 h28 h31 h34 h36) ?_; rintro _ F38 _ hF39 hn40 ⟨a42, n46, c43, Lb44, rfl, rfl, hz45⟩
   replace hz45 := hz45.new fun p hp => hn40 p (by simp [hp])
   refine shO_L (lp (ln rfl)) ?_
   refine kO (kf (fS fO) kr) ?_
   refine ov ((v_lenS Tryz.underlying163 rfl).i (SlR.lenI hz45)) rfl ?_
   refine om rfl rfl (shO_nil ?_)
   refine shW_block ?_
   refine kW (kd kr) ?_
   refine shW_lp (fun fu2 e1 F1 L1 => ∃ (tl : List (List Int)) (k : Int), tl.length = fu2 ∧ Lst l k tl ∧ ∃ (out2 : List (List Int)) (a48 : Option Addr) (n52 : Nat) (c49 : Nat) (Lb50 : LH), book_Winds_l2 tl out2 = some (r, r2) ∧ FExt F38 F1 ∧ L1 = (Lb50 ++ (Lb44 ++ [])) ∧ e1.sub [(6, .slice a48 n52 c49), (21, .slice a42 n46 c43), (22, .int .i64 (l.length : Int)), (23, .int .i64 k)] ∧ SlR K.w0.heap.size 24 1 (slE 1 (iE .i64)) F1 a48 n52 c49 out2 Lb50) _ (m0 (ke kr) ⟨_, _, rfl, Lst.start _, [], none, 0, 0, [], r37, FExt.refl _, rfl, (sc rfl (sc rfl (sc rfl (sc rfl (sn _))))), SlR.nil _ _ _ _ _⟩) ?_
   rintro fu2 e1 F58 _ ⟨tl, k, hn55, hk54, out2, a48, n52, c49, Lb50, r56, hF59, rfl, he57, hz51⟩
   refine shW_env _ he57 ?_; clear he57
   replace hz45 := hz45.mono (arE_ok (n := 8) (sz := 1) (cI_ok .i64)) hF59
   refine wsr ?_
   refine ov (v_lssK rfl rfl) rfl ?_
   refine shO_nil (shW_seq ?_)
   refine shW_condP rfl (fun c61 => ?_) (fun c61 => ?_)
   · obtain ⟨x, tl2, rfl, hx63, g64, hk62⟩ := Lst.succ hk54 c61
     rw [book_Winds_l2] at r56
     refine shW_skip ?_
     refine shW_join (fun e1 F1 L1 => ∃ (out3 : List (List Int)) (a65 : Option Addr) (n69 : Nat) (c66 : Nat) (Lb67 : LH), book_Winds_j3 (book_Winds_l2 tl2) out3 = some (r, r2) ∧ FExt F58 F1 ∧ L1 = (Lb67 ++ (Lb44 ++ [])) ∧ e1.sub [(6, .slice a65 n69 c66), (21, .slice a42 n46 c43), (22, .int .i64 (l.length : Int)), (23, .int .i64 k)] ∧ SlR K.w0.heap.size 24 1 (slE 1 (iE .i64)) F1 a65 n69 c66 out3 Lb67) ?_ ?_
     · refine shW_block ?_
       refine wsr ?_
       obtain ⟨b71, o72, c73, vs74, ha75, hs76, hle77, ⟨rfl, h80⟩, hl78, hc79⟩ := SlR.at (arE_ok (n := 8) (sz := 1) (cI_ok .i64)) hz45 (L := Lb50 ++ (Lb44 ++ [])) (fS fP) g64.1 hx63
       refine ov (v_indexO Tryz.underlying163 Tryz.sizeOf161 rfl ha75 rfl (SlR.idx hz45 g64)) rfl ?_
       refine ov (v_loadA (cs := arr (cI .i64) x) Tryz.isAgg161 Tryz.sizeOf161 rfl hs76 hle77 (extract_cells hle77 hl78 hc79)) rfl ?_
       refine o_alloc rfl Tryz.zeroValue161 ?_; intro b81 hb81
       refine shO_L (L' := (b81, .cells (arr (cI .i64) (List.replicate 8 0)) 161 (0, 0)) :: (Lb50 ++ (Lb44 ++ []))) rfl ?_
       refine o_storeW (i := 0) Tryz.sizeOf161 rfl rfl rfl (arr_sz (cI_ok .i64) List.length_replicate) (arr_sz (cI_ok .i64) h80) (arr_one (cI_ok .i64)) ?_
       refine shO_L (L' := (b81, .cells (arr (cI .i64) x) 161 (0, 0)) :: (Lb50 ++ (Lb44 ++ []))) rfl ?_
       refine nsr (oa rfl rfl (shO_nil ?_))
       obtain ⟨own, h88, r89⟩ := b1_ok r56; clear r56
       refine shW_join (fun e1 F1 L1 => ∃ (a82 : Option Addr) (n86 : Nat) (c83 : Nat) (Lb84 : LH), F58 = F1 ∧ L1 = (Lb50 ++ (Lb84 ++ (Lb44 ++ []))) ∧ e1.sub [(6, .slice a48 n52 c49), (9, .slice a82 n86 c83), (21, .slice a42 n46 c43), (22, .int .i64 (l.length : Int)), (23, .int .i64 k)] ∧ SlR K.w0.heap.size 3 1 (iE .i64) F1 a82 n86 c83 own Lb84) ?_ ?_
       · clear r89
         refine wsr ?_
         refine ov (v_loadW Tryz.isAgg161 Tryz.sizeOf161 rfl (Has.own 0 rfl) (arr_sz (cI_ok .i64) h80)) rfl ?_
         refine om rfl rfl (shO_nil ?_)
         refine shW_block ?_
         refine kW (kd kr) ?_
         obtain ⟨g96, r97⟩ := gd_ok h88; clear h88
         refine shW_lp (fun fu4 e1 F1 L1 => ∃ (k2 : Int), Ctr 0 8 k2 fu4 ∧ ∃ (own2 : List Int) (a90 : Option Addr) (n94 : Nat) (c91 : Nat) (Lb92 : LH), book_Winds_l4 x fu4 k2 own2 = some own ∧ F58 = F1 ∧ L1 = (Lb50 ++ (Lb92 ++ (Lb44 ++ []))) ∧ e1.sub [(6, .slice a48 n52 c49), (9, .slice a90 n94 c91), (21, .slice a42 n46 c43), (22, .int .i64 (l.length : Int)), (23, .int .i64 k), (27, .agg (arr (cI .i64) x)), (28, .int .i64 k2)] ∧ SlR K.w0.heap.size 3 1 (iE .i64) F1 a90 n94 c91 own2 Lb92) _ (m0 (ka (ke kr)) ⟨_, Ctr.start _ _, [], none, 0, 0, [], r97, rfl, rfl, (sc rfl (sc rfl (sc rfl (sc rfl (sc rfl (sc rfl (sc rfl (sn _)))))))), SlR.nil _ _ _ _ _⟩) ?_
         rintro fu4 e1 _ _ ⟨k2, hk98, own2, a90, n94, c91, Lb92, r100, rfl, rfl, he101, hz93⟩
         refine shW_env _ he101 ?_; clear he101
         refine wsr ?_
         refine ov (v_lssK rfl rfl) rfl ?_
         refine shO_nil (shW_seq ?_)
         refine shW_condP rfl (fun c103 => ?_) (fun c103 => ?_)
         · obtain ⟨fu4, rfl, hk104⟩ := Ctr.succ hk98 c103
           rw [book_Winds_l4] at r100
           refine shW_skip (shW_seq ?_)
           refine shW_block ?_
           refine wsr (om rfl rfl ?_)
           obtain ⟨x2, g105, hx106, r107⟩ := ix_ok r100; clear r100
           refine ov (v_index (ixa_161 h80 g105 hx106) rfl rfl) rfl ?_
           refine oa rfl rfl (oa rfl rfl (nsr (om rfl rfl ?_)))
           refine ov (v_gtrK rfl rfl) rfl ?_
           refine shO_nil ?_
           refine shW_condP rfl (fun c108 => ?_) (fun c108 => ?_)
           · have r109 := ite_t r107 c108; clear r107
             refine shW_region (om rfl rfl (om rfl rfl ?_))
             refine o_buildSlice (cs := #[.int .i64 k2]) rfl rfl (buildSlice_all slt_24 [.int .i64 k2] rfl (by decide) (by simp [Value.cells]) (by decide)) ?_; intro b110 hb110
             obtain ⟨own3, h111, g112, r113⟩ := ap_ok r109; clear r109
             refine o_appZ (xs := own2) (ys := [k2]) (zs := own3) rfl slt_24 rfl rfl (Nat.le_refl _) (fun _ => .c (.s .h)) hz93 (SrcR.box (vss := [[.int .i64 k2]]) (ys := [k2]) 0 rfl (iE_ok _) (.cons rfl .nil) rfl rfl) h111 g112 (by decide) ?_; intro a114 n118 c115 Lb116 hz117
             refine kO (kd kr) ?_
             refine oa rfl rfl (shO_nil (inBlock_n (id := 3) (shW_region ?_)))
             refine ov (v_add rfl rfl (Ctr.r64 hk98 c103 g96)) rfl ?_
             refine om rfl rfl (shO_nil ?_)
             exact le kr ⟨_, hk104, own3, a114, n118, c115, Lb116, r113, rfl, rfl, (sc rfl (sc rfl (sc rfl (sc rfl (sc rfl (sc rfl (sc rfl (sn _)))))))), hz117⟩
           have r120 := ite_f r107 c108; clear r107
           refine shW_skip (inBlock_n (id := 3) (shW_region ?_))
           refine ov (v_add rfl rfl (Ctr.r64 hk98 c103 g96)) rfl ?_
           refine om rfl rfl (shO_nil ?_)
           exact le kr ⟨_, hk104, own2, a90, n94, c91, Lb92, r120, rfl, rfl, (sc rfl (sc rfl (sc rfl (sc rfl (sc rfl (sc rfl (sc rfl (sn _)))))))), hz93⟩
         obtain rfl := Ctr.zero hk98 c103
         rw [book_Winds_l4] at r100
         refine shW_exit (andThen_exit (andThen_exit ?_))
         refine inBlock_exit ?_
         obtain rfl := inj1 r100
         exact mi kr ⟨a90, n94, c91, Lb92, rfl, rfl, (sc rfl (sc rfl (sc rfl (sc rfl (sc rfl (sn _)))))), hz93⟩
       rintro e1 _ _ ⟨a82, n86, c83, Lb84, rfl, rfl, he121, hz85⟩
       refine shW_env _ he121 ?_; clear he121
       refine shW_seq (wsr (om rfl rfl ?_))
       refine ov ((v_lenS Tryz.underlying24 rfl).i (SlR.lenI hz85)) rfl ?_
       refine ov (v_eql rfl rfl) rfl ?_
       refine shO_nil ?_
       refine shW_condP rfl (fun c122 => ?_) (fun c122 => ?_)
       · have r123 := ite_t r89 c122; clear r89
         refine wsr (oa rfl rfl (oa rfl rfl (shO_nil ?_)))
         refine kW kn ?_
         refine shW_ret (andThen_ret (inBlock_ret (andThen_ret (andThen_ret (inBlock_ret (andThen_ret ?_))))))
         refine q_res2 Tryz.results67 (res_tmp rfl) (res_tmp rfl) (sr) ?_
         obtain ⟨rfl, rfl⟩ := inj2 r123
         exact ⟨_, _, _, [], rfl, rfl, SlR.nil _ _ _ _ _⟩
       have r124 := ite_f r89 c122; clear r89
       refine shW_skip (shW_region (om rfl rfl (om rfl rfl ?_)))
       refine o_buildSlice (cs := #[.slice a82 n86 c83]) rfl rfl (buildSlice_all slt_49 [.slice a82 n86 c83] rfl (by decide) (by simp [Value.cells]) (by decide)) ?_; intro b125 hb125
       obtain rfl := (SlR.caps hz85).1
       refine shO_freezeR (Nat.le_refl _) (iE_ok _) (fC (fS fP)) hz85 ?_; intro F126 hF127 h128
       replace hz51 := hz51.mono (slE_ok (iE_ok _)) hF127
       obtain ⟨out4, h129, g130, r131⟩ := ap_ok r124; clear r124
       refine o_appZ (xs := out2) (ys := [own]) (zs := out4) rfl slt_49 rfl rfl (Nat.le_refl _) (fun _ => .c .h) hz51 (SrcR.box (vss := [[.slice a82 own.length c83]]) (ys := [own]) 0 rfl (slE_ok (iE_ok _)) (.cons ⟨_, _, rfl, h128⟩ .nil) rfl rfl) h129 g130 (by decide) ?_; intro a132 n136 c133 Lb134 hz135
       refine kO (kd kr) ?_
       refine oa rfl rfl (shO_nil (inBlock_n (id := 1) ?_))
       exact mi kr ⟨out4, a132, n136, c133, Lb134, r131, hF127, rfl, (sc rfl (sc rfl (sc rfl (sc rfl (sn _))))), hz135⟩
     rintro e1 F140 _ ⟨out3, a65, n69, c66, Lb67, r138, hF141, rfl, he139, hz68⟩
     refine shW_env _ he139 ?_; clear he139
     replace hz45 := hz45.mono (arE_ok (n := 8) (sz := 1) (cI_ok .i64)) hF141
     rw [book_Winds_j3] at r138
     refine shW_region ?_
     refine ov (v_add rfl rfl (Lst.r64 hk54 c61 (SlR.llt hz45))) rfl ?_
     refine om rfl rfl (shO_nil ?_)
     subst hn55; exact le kr ⟨_, _, rfl, hk62, out3, a65, n69, c66, Lb67, r138, (hF59.trans hF141), rfl, (sc rfl (sc rfl (sc rfl (sc rfl (sn _))))), hz68⟩
   obtain rfl := Lst.zero hk54 c61
   rw [book_Winds_l2] at r56
   refine shW_exit (andThen_exit (andThen_exit ?_))
   refine inBlock_exit ?_
   exact mi (ka kn) ⟨out2, a48, n52, c49, Lb50, r56, (hF39.trans hF59), rfl, (sc rfl (sn _)), hz51⟩
 rintro e1 F144 _ ⟨out, a13, n17, c14, Lb15, r142, hF145, rfl, he143, hz16⟩
 refine shW_env _ he143 ?_; clear he143
 rw [book_Winds_j1] at r142
 refine wsr (om rfl rfl (oa rfl rfl (oa rfl rfl (shO_nil (shW_ret ?_)))))
 refine q_res2 Tryz.results67 (res_tmp rfl) (res_tmp rfl) (sr) ?_
 obtain ⟨rfl, rfl⟩ := inj2 r142
 exact ⟨_, _, _, _, rfl, rfl, hz16.any⟩
set_option maxHeartbeats 1000000 in
theorem book_First_w {houses : Int} {notices : Int} {hears_a : Option Addr} {hears_c : Nat} {hears : List (List (List Int))} {readings_a : Option Addr} {readings_c : Nat} {readings : List Int} {cries_a : Option Addr} {cries_c : Nat} {cries : List (Int × Int × Int)} {F : FS} (h_hears : RowR 1 (slE 1 (slE 1 (iE .i64))) F hears_a hears_c hears) (h_readings : RowR 1 (iE .i64) F readings_a readings_c readings) (h_cries : RowR 3 (prE (iE .i64) (prE (iE .i64) (iE .i64))) F cries_a cries_c cries) {r : List Int} {r2 : Int} (hr : book_First houses notices hears readings cries = some (r, r2)) :
    SH.Spec Tryz.prog 66 #[.agg #[.int .i64 houses, .int .i64 notices, .slice hears_a hears.length hears_c, .slice readings_a readings.length readings_c, .slice cries_a cries.length cries_c]] F [] fun F' L' v => ∃ (ra : Option Addr) (rn : Nat) (rc : Nat) (rL : LH), v = .tuple #[.slice ra rn rc, .int .i64 r2] ∧ L' = rL ++ [] ∧ SlR 0 3 1 (iE .i64) F' ra rn rc r rL := by
 refine spec_of_shW (args := [.agg #[.int .i64 houses, .int .i64 notices, .slice hears_a hears.length hears_c, .slice readings_a readings.length readings_c, .slice cries_a cries.length cries_c]]) Tryz.func66 rfl Tryz.ntmps66 (Nat.le_of_ble_eq_true rfl) ?_
 intro K _ _; rw [book_First] at hr
 refine wsr ?_
 refine o_box rfl rfl ?_; intro b1 hb1
 refine oa rfl rfl (oa rfl rfl (nsr ?_))
 refine ov (v_loadA (cs := #[.int .i64 houses, .int .i64 notices, .slice hears_a hears.length hears_c, .slice readings_a readings.length readings_c, .slice cries_a cries.length cries_c]) Tryz.isAgg27 Tryz.sizeOf27 rfl (Has.own 0 rfl) (Nat.le_of_ble_eq_true rfl) rfl) rfl ?_
 obtain ⟨l, n, h2, r3⟩ := b2_ok hr; clear hr
 refine o_call0 rfl Tryz.call67 rfl rfl rfl (book_Winds_w h_hears h_readings h_cries h2) ?_; rintro _ F4 _ hF5 hn6 ⟨a8, n12, c9, Lb10, rfl, rfl, hz11⟩
 replace hz11 := hz11.new fun p hp => hn6 p (by simp [hp])
 refine shO_L (lp (ln rfl)) ?_
 refine kO (kf (fS fO) kr) ?_
 refine om rfl rfl (ox rfl rfl rfl (ox rfl rfl rfl (oa rfl rfl (oa rfl rfl (shO_nil (shW_seq (wsr (om rfl rfl ?_))))))))
 refine ov (v_neq rfl rfl) rfl ?_
 refine shO_nil ?_
 refine shW_condP rfl (fun c14 => ?_) (fun c14 => ?_)
 · have r15 := ite_t r3 c14; clear r3
   refine wsr (om rfl rfl (oa rfl rfl (oa rfl rfl (shO_nil ?_))))
   refine kW kn ?_
   refine shW_ret (andThen_ret ?_)
   refine q_res2 Tryz.results66 (res_tmp rfl) (res_tmp rfl) (sr) ?_
   obtain ⟨rfl, rfl⟩ := inj2 r15
   exact ⟨_, _, _, [], rfl, rfl, SlR.nil _ _ _ _ _⟩
 have r16 := ite_f r3 c14; clear r3
 refine shW_skip (wsr (oa rfl rfl (shO_nil ?_)))
 obtain ⟨out, h23, r24⟩ := b1_ok r16; clear r16
 refine shW_join (fun e1 F1 L1 => ∃ (a17 : Option Addr) (n21 : Nat) (c18 : Nat) (Lb19 : LH), F4 = F1 ∧ L1 = (Lb19 ++ []) ∧ e1.sub [(6, .slice a17 n21 c18)] ∧ SlR K.w0.heap.size 3 1 (iE .i64) F1 a17 n21 c18 out Lb19) ?_ ?_
 · clear r24
   refine wsr (om rfl rfl ?_)
   refine ov ((v_lenS Tryz.underlying49 rfl).i (SlR.lenI hz11)) rfl ?_
   refine om rfl rfl (shO_nil ?_)
   refine shW_block ?_
   refine kW (kd kr) ?_
   refine shW_lp (fun fu1 e1 F1 L1 => ∃ (tl : List (List Int)) (k : Int), tl.length = fu1 ∧ Lst l k tl ∧ ∃ (out2 : List Int) (a25 : Option Addr) (n29 : Nat) (c26 : Nat) (Lb27 : LH), book_First_l1 tl k out2 = some out ∧ F4 = F1 ∧ L1 = (Lb27 ++ (Lb10 ++ [])) ∧ e1.sub [(6, .slice a25 n29 c26), (19, .slice a8 n12 c9), (20, .int .i64 (l.length : Int)), (21, .int .i64 k)] ∧ SlR K.w0.heap.size 3 1 (iE .i64) F1 a25 n29 c26 out2 Lb27) _ (m0 (ke kr) ⟨_, _, rfl, Lst.start _, [], none, 0, 0, [], h23, rfl, rfl, (sc rfl (sc rfl (sc rfl (sc rfl (sn _))))), SlR.nil _ _ _ _ _⟩) ?_
   rintro fu1 e1 _ _ ⟨tl, k, hn32, hk31, out2, a25, n29, c26, Lb27, r33, rfl, rfl, he34, hz28⟩
   refine shW_env _ he34 ?_; clear he34
   refine wsr ?_
   refine ov (v_lssK rfl rfl) rfl ?_
   refine shO_nil (shW_seq ?_)
   refine shW_condP rfl (fun c36 => ?_) (fun c36 => ?_)
   · obtain ⟨x, tl2, rfl, hx38, g39, hk37⟩ := Lst.succ hk31 c36
     rw [book_First_l1] at r33
     refine shW_skip ?_
     obtain ⟨out3, h46, r47⟩ := b1_ok r33; clear r33
     refine shW_join (fun e1 F1 L1 => ∃ (a40 : Option Addr) (n44 : Nat) (c41 : Nat) (Lb42 : LH), F4 = F1 ∧ L1 = (Lb42 ++ (Lb10 ++ [])) ∧ e1.sub [(6, .slice a40 n44 c41), (19, .slice a8 n12 c9), (20, .int .i64 (l.length : Int)), (21, .int .i64 k)] ∧ SlR K.w0.heap.size 3 1 (iE .i64) F1 a40 n44 c41 out3 Lb42) ?_ ?_
     · clear r47
       refine shW_block ?_
       refine wsr (om rfl rfl ?_)
       obtain ⟨b48, o49, c50, vs51, ha52, hs53, hle54, ⟨a57, c58, rfl, h59⟩, hl55, hc56⟩ := SlR.at (slE_ok (iE_ok _)) hz11 (L := Lb27 ++ (Lb10 ++ [])) (fS fP) g39.1 hx38
       refine ov (v_indexO Tryz.underlying49 Tryz.sizeOf24 rfl ha52 rfl (SlR.idx hz11 g39)) rfl ?_
       refine ov (v_load Tryz.isAgg24 rfl hs53 (hc56 0 (by decide))) rfl ?_
       refine oa rfl rfl (oa rfl rfl (nsr (om rfl rfl ?_)))
       refine ov (v_lenS Tryz.underlying24 rfl) rfl ?_
       refine om rfl rfl (shO_nil ?_)
       refine shW_block ?_
       refine shW_lp (fun fu2 e1 F1 L1 => ∃ (tl3 : List Int) (k2 : Int), tl3.length = fu2 ∧ Lst x k2 tl3 ∧ book_First_l2 out2 k tl3 = some out3 ∧ F4 = F1 ∧ L1 = (Lb27 ++ (Lb10 ++ [])) ∧ e1.sub [(6, .slice a25 n29 c26), (7, .int .i64 k), (19, .slice a8 n12 c9), (20, .int .i64 (l.length : Int)), (21, .int .i64 k), (26, .slice a57 x.length c58), (27, .int .i64 (x.length : Int)), (28, .int .i64 k2)]) _ (m0 kr ⟨_, _, rfl, Lst.start _, h46, rfl, rfl, (sc rfl (sc rfl (sc rfl (sc rfl (sc rfl (sc rfl (sc rfl (sc rfl (sn _)))))))))⟩) ?_
       rintro fu2 e1 _ _ ⟨tl3, k2, hn61, hk60, r62, rfl, rfl, he63⟩
       refine shW_env _ he63 ?_; clear he63
       refine wsr ?_
       refine ov (v_lssK rfl rfl) rfl ?_
       refine shO_nil (shW_seq ?_)
       refine shW_condP rfl (fun c65 => ?_) (fun c65 => ?_)
       · obtain ⟨x2, tl4, rfl, hx67, g68, hk66⟩ := Lst.succ hk60 c65
         rw [book_First_l2] at r62
         refine shW_skip (shW_seq ?_)
         refine shW_block ?_
         refine wsr ?_
         obtain ⟨b69, o70, c71, vs72, ha73, hs74, hle75, rfl, hl76, hc77⟩ := RowR.at (iE_ok _) h59 (Lb27 ++ (Lb10 ++ [])) g68.1 hx67
         refine ov (v_indexO Tryz.underlying24 Tryz.sizeOf3 rfl ha73 rfl g68) rfl ?_
         refine ov (v_load Tryz.isAgg3 rfl hs74 (hc77 0 (by decide))) rfl ?_
         refine oa rfl rfl (shO_nil ?_)
         obtain ⟨k3, h78, r79⟩ := b1_ok r62; clear r62
         refine shW_join (fun e1 F1 L1 => F4 = F1 ∧ L1 = (Lb27 ++ (Lb10 ++ [])) ∧ e1.sub [(6, .slice a25 n29 c26), (7, .int .i64 k), (10, .int .i64 x2), (19, .slice a8 n12 c9), (20, .int .i64 (l.length : Int)), (21, .int .i64 k), (26, .slice a57 x.length c58), (27, .int .i64 (x.length : Int)), (28, .int .i64 k2), (42, .bool k3)]) ?_ ?_
         · clear r79
           refine shW_region (om rfl rfl ?_)
           refine ov (v_eql rfl rfl) rfl ?_
           refine om rfl rfl ?_
           by_cases c80 : k = 0
           · have r81 := ite_t h78 c80; clear h78
             refine shO_off (b' := true) 34 rfl (Env.isT rfl c80) rfl rfl (shO_off (b' := true) 34 rfl (Env.isT rfl c80) rfl rfl (shO_off (b' := true) 34 rfl (Env.isT rfl c80) rfl rfl (shO_off (b' := true) 34 rfl (Env.isT rfl c80) rfl rfl (shO_off (b' := true) 34 rfl (Env.isT rfl c80) rfl rfl (shO_off (b' := true) 34 rfl (Env.isT rfl c80) rfl rfl (shO_off (b' := true) 34 rfl (Env.isT rfl c80) rfl rfl ?_))))))
             refine ov (v_pick_t (evD_true rfl c80) rfl) rfl ?_
             refine shO_nil ?_
             obtain rfl := inj1 r81
             exact mi kr ⟨rfl, rfl, (sc rfl (sc rfl (sc rfl (sc rfl (sc rfl (sc rfl (sc rfl (sc rfl (sc rfl (sc rfl (sn _)))))))))))⟩
           have r82 := ite_f h78 c80; clear h78
           refine shO_on (b := false) 34 rfl (Env.isF rfl c80) (om rfl rfl (shO_on (b := false) 34 rfl (Env.isF rfl c80) (om rfl rfl (shO_on (b := false) 34 rfl (Env.isF rfl c80) (om rfl rfl (shO_on (b := false) 34 rfl (Env.isF rfl c80) ?_))))))
           obtain ⟨g83, r84⟩ := gd_ok r82; clear r82
           refine ov (v_sub rfl rfl g83) rfl ?_
           refine shO_on (b := false) 34 rfl (Env.isF rfl c80) ?_
           obtain ⟨x3, g85, hx86, r87⟩ := ix_ok r84; clear r84
           obtain ⟨b88, o89, c90, vs91, ha92, hs93, hle94, rfl, hl95, hc96⟩ := SlR.at (iE_ok _) hz28 (L := Lb27 ++ (Lb10 ++ [])) fP g85.1 hx86
           refine ov (v_indexO Tryz.underlying24 Tryz.sizeOf3 rfl ha92 rfl (SlR.idx hz28 g85)) rfl ?_
           refine shO_on (b := false) 34 rfl (Env.isF rfl c80) ?_
           refine ov (v_load Tryz.isAgg3 rfl hs93 (hc96 0 (by decide))) rfl ?_
           refine shO_on (b := false) 34 rfl (Env.isF rfl c80) ?_
           obtain ⟨ok, h97, r98⟩ := b1_ok r87; clear r87
           refine o_callV rfl Tryz.call99 rfl rfl rfl (book_near_w h97) ?_
           refine ov (v_pick_f (evD_false rfl c80) rfl) rfl ?_
           refine shO_nil ?_
           obtain rfl := inj1 r98
           exact mi kr ⟨rfl, rfl, (sc rfl (sc rfl (sc rfl (sc rfl (sc rfl (sc rfl (sc rfl (sc rfl (sc rfl (sc rfl (sn _)))))))))))⟩
         rintro e1 _ _ ⟨rfl, rfl, he99⟩
         refine shW_env _ he99 ?_; clear he99
         refine shW_cond rfl (fun c100 => ?_) (fun c100 => ?_)
         · have r101 := bt r79 c100; clear r79
           refine wsr (om rfl rfl (om rfl rfl ?_))
           refine o_buildSlice (cs := #[.int .i64 x2]) rfl rfl (buildSlice_all slt_24 [.int .i64 x2] rfl (by decide) (by simp [Value.cells]) (by decide)) ?_; intro b102 hb102
           obtain ⟨out4, h103, g104, r105⟩ := ap_ok r101; clear r101
           refine o_appZ (xs := out2) (ys := [x2]) (zs := out4) rfl slt_24 rfl rfl (Nat.le_refl _) (fun _ => .c .h) hz28 (SrcR.box (vss := [[.int .i64 x2]]) (ys := [x2]) 0 rfl (iE_ok _) (.cons rfl .nil) rfl rfl) h103 g104 (by decide) ?_; intro a106 n110 c107 Lb108 hz109
           refine kO (kd kr) ?_
           refine oa rfl rfl (shO_nil (shW_exit ?_))
           refine inBlock_other rfl ?_
           refine andThen_exit (andThen_exit ?_)
           refine inBlock_exit ?_
           refine inBlock_n (id := 1) ?_
           obtain rfl := inj1 r105
           exact mi kr ⟨a106, n110, c107, Lb108, rfl, rfl, (sc rfl (sc rfl (sc rfl (sc rfl (sn _))))), hz109⟩
         have r112 := bf r79 c100; clear r79
         refine shW_skip (inBlock_n (id := 3) (shW_region ?_))
         refine ov (v_add rfl rfl (Lst.r64 hk60 c65 (RowR.lt h59))) rfl ?_
         refine om rfl rfl (shO_nil ?_)
         subst hn61; exact le kr ⟨_, _, rfl, hk66, r112, rfl, rfl, (sc rfl (sc rfl (sc rfl (sc rfl (sc rfl (sc rfl (sc rfl (sc rfl (sn _)))))))))⟩
       obtain rfl := Lst.zero hk60 c65
       rw [book_First_l2] at r62
       refine shW_exit (andThen_exit (andThen_exit ?_))
       refine inBlock_exit ?_
       refine inBlock_n (id := 1) ?_
       obtain rfl := inj1 r62
       exact mi kr ⟨a25, n29, c26, Lb27, rfl, rfl, (sc rfl (sc rfl (sc rfl (sc rfl (sn _))))), hz28⟩
     rintro e1 _ _ ⟨a40, n44, c41, Lb42, rfl, rfl, he113, hz43⟩
     refine shW_env _ he113 ?_; clear he113
     refine shW_region ?_
     refine ov (v_add rfl rfl (Lst.r64 hk31 c36 (SlR.llt hz11))) rfl ?_
     refine om rfl rfl (shO_nil ?_)
     subst hn32; exact le kr ⟨_, _, rfl, hk37, out3, a40, n44, c41, Lb42, r47, rfl, rfl, (sc rfl (sc rfl (sc rfl (sc rfl (sn _))))), hz43⟩
   obtain rfl := Lst.zero hk31 c36
   rw [book_First_l1] at r33
   refine shW_exit (andThen_exit (andThen_exit ?_))
   refine inBlock_exit ?_
   obtain rfl := inj1 r33
   exact mi (ka kn) ⟨a25, n29, c26, Lb27, rfl, rfl, (sc rfl (sn _)), hz28⟩
 rintro e1 _ _ ⟨a17, n21, c18, Lb19, rfl, rfl, he114, hz20⟩
 refine shW_env _ he114 ?_; clear he114
 refine wsr (om rfl rfl (oa rfl rfl (oa rfl rfl (shO_nil (shW_ret ?_)))))
 refine q_res2 Tryz.results66 (res_tmp rfl) (res_tmp rfl) (sr) ?_
 obtain ⟨rfl, rfl⟩ := inj2 r24
 exact ⟨_, _, _, _, rfl, rfl, hz20.any⟩
set_option maxHeartbeats 1000000 in
theorem slices_Equal_int_int_w {s1_a : Option Addr} {s1_c : Nat} {s1 : List Int} {s2_a : Option Addr} {s2_c : Nat} {s2 : List Int} {F : FS} (h_s1 : RowR 1 (iE .i64) F s1_a s1_c s1) (h_s2 : RowR 1 (iE .i64) F s2_a s2_c s2) {r : Bool} (hr : slices_Equal_int_int s1 s2 = some r) :
    SpecV Tryz.prog 100 #[.slice s1_a s1.length s1_c, .slice s2_a s2.length s2_c] F (.bool r) := by
 refine spec_of_shW (args := [.slice s1_a s1.length s1_c, .slice s2_a s2.length s2_c]) Tryz.func100 rfl Tryz.ntmps100 (Nat.le_of_ble_eq_true rfl) ?_
 intro K _ _; rw [slices_Equal_int_int] at hr
 refine wsr (oa rfl rfl (shO_nil (shW_seq (wsr (om rfl rfl ?_)))))
 refine ov (v_lenS Tryz.underlying24 rfl) rfl ?_
 refine om rfl rfl ?_
 refine ov (v_lenS Tryz.underlying24 rfl) rfl ?_
 refine ov (v_neq rfl rfl) rfl ?_
 refine shO_nil ?_
 refine shW_condP rfl (fun c1 => ?_) (fun c1 => ?_)
 · have r2 := ite_t hr c1; clear hr
   refine wsr (oa rfl rfl (shO_nil (shW_ret (andThen_ret ?_))))
   refine q_res1 Tryz.results100 (res_tmp rfl) (sr) ?_
   obtain rfl := inj1 r2
   exact rfl
 have r3 := ite_f hr c1; clear hr
 refine shW_skip ?_
 refine shW_join (fun e1 F1 L1 => slices_Equal_int_int_j1 = some r ∧ F = F1 ∧ L1 = [] ∧ e1.sub []) ?_ ?_
 · refine wsr (om rfl rfl ?_)
   refine ov (v_lenS Tryz.underlying24 rfl) rfl ?_
   refine om rfl rfl (shO_nil ?_)
   refine shW_block ?_
   refine shW_lp (fun fu2 e1 F1 L1 => ∃ (tl : List Int) (k : Int), tl.length = fu2 ∧ Lst s1 k tl ∧ slices_Equal_int_int_l2 s2 tl k = some r ∧ F = F1 ∧ L1 = [] ∧ e1.sub [(0, .slice s1_a s1.length s1_c), (1, .slice s2_a s2.length s2_c), (12, .int .i64 (s1.length : Int)), (13, .int .i64 k)]) _ (m0 kr ⟨_, _, rfl, Lst.start _, r3, rfl, rfl, (sc rfl (sc rfl (sc rfl (sc rfl (sn _)))))⟩) ?_
   rintro fu2 e1 _ _ ⟨tl, k, hn5, hk4, r6, rfl, rfl, he7⟩
   refine shW_env _ he7 ?_; clear he7
   refine wsr ?_
   refine ov (v_lssK rfl rfl) rfl ?_
   refine shO_nil (shW_seq ?_)
   refine shW_condP rfl (fun c9 => ?_) (fun c9 => ?_)
   · obtain ⟨x, tl2, rfl, hx11, g12, hk10⟩ := Lst.succ hk4 c9
     rw [slices_Equal_int_int_l2] at r6
     refine shW_skip (shW_seq ?_)
     refine shW_block ?_
     refine wsr (om rfl rfl (oa rfl rfl ?_))
     refine nsd (by kernel_rfl) (by kernel_rfl) (by kernel_rfl) ?_
     refine qm rfl rfl (qm rfl rfl ?_)
     obtain ⟨b13, o14, c15, vs16, ha17, hs18, hle19, rfl, hl20, hc21⟩ := RowR.at (iE_ok _) h_s1 ([]) g12.1 hx11
     refine qv (v_indexO Tryz.underlying24 Tryz.sizeOf3 rfl ha17 rfl g12) rfl ?_
     refine qv (v_load Tryz.isAgg3 rfl hs18 (hc21 0 (by decide))) rfl ?_
     refine qm rfl rfl (qm rfl rfl ?_)
     obtain ⟨x2, g22, hx23, r24⟩ := ix_ok r6; clear r6
     obtain ⟨b25, o26, c27, vs28, ha29, hs30, hle31, rfl, hl32, hc33⟩ := RowR.at (iE_ok _) h_s2 ([]) g22.1 hx23
     refine qv (v_indexO Tryz.underlying24 Tryz.sizeOf3 rfl ha29 rfl g22) rfl ?_
     refine qv (v_load Tryz.isAgg3 rfl hs30 (hc33 0 (by decide))) rfl ?_
     refine qv (v_neq rfl rfl) rfl ?_
     refine shQ_nil ?_
     refine shW_condP rfl (fun c34 => ?_) (fun c34 => ?_)
     · have r35 := ite_t r24 c34; clear r24
       refine wsr (oa rfl rfl (shO_nil (shW_ret (inBlock_ret (andThen_ret (andThen_ret (inBlock_ret (andThen_ret ?_))))))))
       refine q_res1 Tryz.results100 (res_tmp rfl) (sr) ?_
       obtain rfl := inj1 r35
       exact rfl
     have r36 := ite_f r24 c34; clear r24
     refine shW_skip (inBlock_n (id := 1) (shW_region ?_))
     refine ov (v_add rfl rfl (Lst.r64 hk4 c9 (RowR.lt h_s1))) rfl ?_
     refine om rfl rfl (shO_nil ?_)
     subst hn5; exact le kr ⟨_, _, rfl, hk10, r36, rfl, rfl, (sc rfl (sc rfl (sc rfl (sc rfl (sn _)))))⟩
   obtain rfl := Lst.zero hk4 c9
   rw [slices_Equal_int_int_l2] at r6
   refine shW_exit (andThen_exit (andThen_exit ?_))
   refine inBlock_exit ?_
   exact mi kr ⟨r6, rfl, rfl, (sn _)⟩
 rintro e1 _ _ ⟨r37, rfl, rfl, he38⟩
 refine shW_env _ he38 ?_; clear he38
 rw [slices_Equal_int_int_j1] at r37
 refine wsr (oa rfl rfl (shO_nil (shW_ret ?_)))
 refine q_res1 Tryz.results100 (res_tmp rfl) (sr) ?_
 obtain rfl := inj1 r37
 exact rfl
set_option maxHeartbeats 1000000 in
theorem oyezkit_Like_int_w {a_a : Option Addr} {a_c : Nat} {a : List Int} {b_a : Option Addr} {b_c : Nat} {b : List Int} {F : FS} (h_a : RowR 1 (iE .i64) F a_a a_c a) (h_b : RowR 1 (iE .i64) F b_a b_c b) {r : Bool} (hr : oyezkit_Like_int a b = some r) :
    SpecV Tryz.prog 68 #[.slice a_a a.length a_c, .slice b_a b.length b_c] F (.bool r) := by
 refine spec_of_shW (args := [.slice a_a a.length a_c, .slice b_a b.length b_c]) Tryz.func68 rfl Tryz.ntmps68 (Nat.le_of_ble_eq_true rfl) ?_
 intro K _ _; rw [oyezkit_Like_int] at hr
 refine wsr (oa rfl rfl (nsr (om rfl rfl (om rfl rfl ?_))))
 obtain ⟨ok, h1, r2⟩ := b1_ok hr; clear hr
 refine o_callV rfl Tryz.call100 rfl rfl rfl (slices_Equal_int_int_w h_a h_b h1) ?_
 refine oa rfl rfl (shO_nil (shW_ret ?_))
 refine q_res1 Tryz.results68 (res_tmp rfl) (sr) ?_
 obtain rfl := inj1 r2
 exact rfl
set_option maxHeartbeats 1000000 in
theorem slices_EqualFunc_book_Verdict_book_Verdict_book_Verdict_book_Verdict_w {s1_a : Option Addr} {s1_c : Nat} {s1 : List (List Int)} {s2_a : Option Addr} {s2_c : Nat} {s2 : List (List Int)} {eq_f : FuncId} {eq_1 : Array Value} {eq_2 : Array Value} {eq : ((List Int) × (List Int)) → Option Bool} {F : FS} (h_s1 : RowR 1 (slE 1 (iE .i64)) F s1_a s1_c s1) (h_s2 : RowR 1 (slE 1 (iE .i64)) F s2_a s2_c s2) (h_eq : FnR Tryz.prog F eq_f eq_1 eq_2 (prE (slE 1 (iE .i64)) (slE 1 (iE .i64))) Value.bool eq) {r : Bool} (hr : slices_EqualFunc_book_Verdict_book_Verdict_book_Verdict_book_Verdict s1 s2 eq = some r) :
    SpecV Tryz.prog 101 #[.slice s1_a s1.length s1_c, .slice s2_a s2.length s2_c, .func (.func eq_f) eq_1 eq_2] F (.bool r) := by
 refine spec_of_shW (args := [.slice s1_a s1.length s1_c, .slice s2_a s2.length s2_c, .func (.func eq_f) eq_1 eq_2]) Tryz.func101 rfl Tryz.ntmps101 (Nat.le_of_ble_eq_true rfl) ?_
 intro K _ _; rw [slices_EqualFunc_book_Verdict_book_Verdict_book_Verdict_book_Verdict] at hr
 refine wsr (oa rfl rfl (shO_nil (shW_seq (wsr (om rfl rfl ?_)))))
 refine ov (v_lenS Tryz.underlying68 rfl) rfl ?_
 refine om rfl rfl ?_
 refine ov (v_lenS Tryz.underlying68 rfl) rfl ?_
 refine ov (v_neq rfl rfl) rfl ?_
 refine shO_nil ?_
 refine shW_condP rfl (fun c1 => ?_) (fun c1 => ?_)
 · have r2 := ite_t hr c1; clear hr
   refine wsr (oa rfl rfl (shO_nil (shW_ret (andThen_ret ?_))))
   refine q_res1 Tryz.results101 (res_tmp rfl) (sr) ?_
   obtain rfl := inj1 r2
   exact rfl
 have r3 := ite_f hr c1; clear hr
 refine shW_skip ?_
 refine shW_join (fun e1 F1 L1 => slices_EqualFunc_book_Verdict_book_Verdict_book_Verdict_book_Verdict_j1 = some r ∧ F = F1 ∧ L1 = [] ∧ e1.sub []) ?_ ?_
 · refine wsr (om rfl rfl ?_)
   refine ov (v_lenS Tryz.underlying68 rfl) rfl ?_
   refine om rfl rfl (shO_nil ?_)
   refine shW_block ?_
   refine shW_lp (fun fu2 e1 F1 L1 => ∃ (tl : List (List Int)) (k : Int), tl.length = fu2 ∧ Lst s1 k tl ∧ slices_EqualFunc_book_Verdict_book_Verdict_book_Verdict_book_Verdict_l2 s2 eq tl k = some r ∧ F = F1 ∧ L1 = [] ∧ e1.sub [(1, .slice s2_a s2.length s2_c), (2, .func (.func eq_f) eq_1 eq_2), (15, .slice s1_a s1.length s1_c), (16, .int .i64 (s1.length : Int)), (17, .int .i64 k)]) _ (m0 kr ⟨_, _, rfl, Lst.start _, r3, rfl, rfl, (sc rfl (sc rfl (sc rfl (sc rfl (sc rfl (sn _))))))⟩) ?_
   rintro fu2 e1 _ _ ⟨tl, k, hn5, hk4, r6, rfl, rfl, he7⟩
   refine shW_env _ he7 ?_; clear he7
   refine wsr ?_
   refine ov (v_lssK rfl rfl) rfl ?_
   refine shO_nil (shW_seq ?_)
   refine shW_condP rfl (fun c9 => ?_) (fun c9 => ?_)
   · obtain ⟨x, tl2, rfl, hx11, g12, hk10⟩ := Lst.succ hk4 c9
     rw [slices_EqualFunc_book_Verdict_book_Verdict_book_Verdict_book_Verdict_l2] at r6
     refine shW_skip (shW_seq ?_)
     refine shW_block ?_
     refine wsr (om rfl rfl ?_)
     obtain ⟨b13, o14, c15, vs16, ha17, hs18, hle19, ⟨a22, c23, rfl, h24⟩, hl20, hc21⟩ := RowR.at (slE_ok (iE_ok _)) h_s1 ([]) g12.1 hx11
     refine ov (v_indexO Tryz.underlying68 Tryz.sizeOf71 rfl ha17 rfl g12) rfl ?_
     refine ov (v_load Tryz.isAgg71 rfl hs18 (hc21 0 (by decide))) rfl ?_
     refine oa rfl rfl (oa rfl rfl (nsr (om rfl rfl (om rfl rfl ?_))))
     obtain ⟨x2, g25, hx26, r27⟩ := ix_ok r6; clear r6
     obtain ⟨b28, o29, c30, vs31, ha32, hs33, hle34, ⟨a37, c38, rfl, h39⟩, hl35, hc36⟩ := RowR.at (slE_ok (iE_ok _)) h_s2 ([]) g25.1 hx26
     refine ov (v_indexO Tryz.underlying68 Tryz.sizeOf71 rfl ha32 rfl g25) rfl ?_
     refine ov (v_load Tryz.isAgg71 rfl hs33 (hc36 0 (by decide))) rfl ?_
     refine oa rfl rfl (nsr (om rfl rfl (om rfl rfl (om rfl rfl ?_))))
     obtain ⟨ok, h40, r41⟩ := b1_ok r27; clear r27
     refine o_callV rfl h_eq.1 rfl rfl rfl (h_eq.2 _ (FExt.refl _) _ _ _ ⟨_, _, rfl, ⟨_, _, rfl, h24⟩, ⟨_, _, rfl, h39⟩⟩ h40) ?_
     refine ov (v_notB rfl) rfl ?_
     refine shO_nil ?_
     refine shW_cond rfl (fun c42 => ?_) (fun c42 => ?_)
     · have r43 := bt r41 c42; clear r41
       refine wsr (oa rfl rfl (shO_nil (shW_ret (inBlock_ret (andThen_ret (andThen_ret (inBlock_ret (andThen_ret ?_))))))))
       refine q_res1 Tryz.results101 (res_tmp rfl) (sr) ?_
       obtain rfl := inj1 r43
       exact rfl
     have r44 := bf r41 c42; clear r41
     refine shW_skip (inBlock_n (id := 1) (shW_region ?_))
     refine ov (v_add rfl rfl (Lst.r64 hk4 c9 (RowR.lt h_s1))) rfl ?_
     refine om rfl rfl (shO_nil ?_)
     subst hn5; exact le kr ⟨_, _, rfl, hk10, r44, rfl, rfl, (sc rfl (sc rfl (sc rfl (sc rfl (sc rfl (sn _))))))⟩
   obtain rfl := Lst.zero hk4 c9
   rw [slices_EqualFunc_book_Verdict_book_Verdict_book_Verdict_book_Verdict_l2] at r6
   refine shW_exit (andThen_exit (andThen_exit ?_))
   refine inBlock_exit ?_
   exact mi kr ⟨r6, rfl, rfl, (sn _)⟩
 rintro e1 _ _ ⟨r45, rfl, rfl, he46⟩
 refine shW_env _ he46 ?_; clear he46
 rw [slices_EqualFunc_book_Verdict_book_Verdict_book_Verdict_book_Verdict_j1] at r45
 refine wsr (oa rfl rfl (shO_nil (shW_ret ?_)))
 refine q_res1 Tryz.results101 (res_tmp rfl) (sr) ?_
 obtain rfl := inj1 r45
 exact rfl
end Go.Proofs.YtodhcoakjlmcdaaGreat
