/- The walks that this claim needs, printed by a program of mine; part 2. -/
import Derived.Test.YtdnmaodkdhdacaaNg1
namespace Go.Proofs.Ytdnmaodkdhdacaa
open Go.SH Go.PL
set_option maxHeartbeats 1000000 in
theorem slices_Index_hear_ears_hear_ears_w {s__a : Option Addr} {s__c : Nat} {s_ : List (List Bool)} {v : List Bool} {F : FS} (h_s_ : RowR 30 (arE 30 cB) F s__a s__c s_) (h_v : v.length = 30) {r : Int} (hr : slices_Index_hear_ears_hear_ears s_ v = some r) :
    SpecV Try.prog 144 #[.slice s__a s_.length s__c, .agg (arr cB v)] F (.int .i64 r) := by
 refine spec_of_shW (args := [.slice s__a s_.length s__c, .agg (arr cB v)]) Try.func144 rfl Try.ntmps144 (Nat.le_of_ble_eq_true rfl) ?_
 intro K _ _; rw [slices_Index_hear_ears_hear_ears] at hr
 refine wsr ?_
 refine o_box rfl rfl ?_; intro b1 hb1
 refine oa rfl rfl (shO_nil ?_)
 refine shW_join (fun e1 F1 L1 => slices_Index_hear_ears_hear_ears_j1 = some r ∧ F = F1 ∧ L1 = [] ∧ e1.sub []) ?_ ?_
 · refine wsr (om rfl rfl ?_)
   refine ov (v_lenS Try.underlying119 rfl) rfl ?_
   refine om rfl rfl (shO_nil ?_)
   refine shW_block ?_
   refine shW_lp (fun fu2 e1 F1 L1 => ∃ (tl : List (List Bool)) (k : Int), tl.length = fu2 ∧ Lst s_ k tl ∧ slices_Index_hear_ears_hear_ears_l2 v tl k = some r ∧ F = F1 ∧ L1 = [(b1, .cells (arr cB v) 142 (0, 0))] ∧ e1.sub [(0, .slice s__a s_.length s__c), (3, .pointer (some ⟨b1, 0, none⟩)), (7, .int .i64 (s_.length : Int)), (8, .int .i64 k)]) _ (m0 kr ⟨_, _, rfl, Lst.start _, hr, rfl, rfl, (sc rfl (sc rfl (sc rfl (sc rfl (sn _)))))⟩) ?_
   rintro fu2 e1 _ _ ⟨tl, k, hn3, hk2, r4, rfl, rfl, he5⟩
   refine shW_env _ he5 ?_; clear he5
   refine wsr ?_
   refine ov (v_lssK rfl rfl) rfl ?_
   refine shO_nil (shW_seq ?_)
   refine shW_condP rfl (fun c7 => ?_) (fun c7 => ?_)
   · obtain ⟨x, tl2, rfl, hx9, g10, hk8⟩ := Lst.succ hk2 c7
     rw [slices_Index_hear_ears_hear_ears_l2] at r4
     refine shW_skip (shW_seq ?_)
     refine shW_block ?_
     refine wsr (om rfl rfl (oa rfl rfl ?_))
     refine nsd (by kernel_rfl) (by kernel_rfl) (by kernel_rfl) ?_
     refine qv (v_loadW Try.isAgg142 Try.sizeOf142 rfl (Has.own 0 rfl) (arr_sz cB_ok h_v)) rfl ?_
     refine qm rfl rfl (qm rfl rfl ?_)
     obtain ⟨b11, o12, c13, vs14, ha15, hs16, hle17, ⟨rfl, h20⟩, hl18, hc19⟩ := RowR.at (arE_ok (n := 30) (sz := 1) cB_ok) h_s_ ([(b1, .cells (arr cB v) 142 (0, 0))]) g10.1 hx9
     refine qv (v_indexO Try.underlying119 Try.sizeOf142 rfl ha15 rfl g10) rfl ?_
     refine qv (v_loadA (cs := arr cB x) Try.isAgg142 Try.sizeOf142 rfl hs16 hle17 (extract_cells hle17 hl18 hc19)) rfl ?_
     refine qv (v_eqA (eqga_142 _ _ _ _) (eqa_142 h_v h20) rfl rfl) rfl ?_
     refine shQ_nil ?_
     refine shW_condP rfl (fun c21 => ?_) (fun c21 => ?_)
     · have r22 := ite_t r4 c21; clear r4
       refine wsr (om rfl rfl (oa rfl rfl (shO_nil ?_)))
       refine kW kn ?_
       refine shW_ret (inBlock_ret (andThen_ret (andThen_ret (inBlock_ret (andThen_ret ?_)))))
       refine q_res1 Try.results144 (res_tmp rfl) (sr) ?_
       obtain rfl := inj1 r22
       exact rfl
     have r23 := ite_f r4 c21; clear r4
     refine shW_skip (inBlock_n (id := 1) (shW_region ?_))
     refine ov (v_add rfl rfl (Lst.r64 hk2 c7 (RowR.lt h_s_))) rfl ?_
     refine om rfl rfl (shO_nil ?_)
     subst hn3; exact le kr ⟨_, _, rfl, hk8, r23, rfl, rfl, (sc rfl (sc rfl (sc rfl (sc rfl (sn _)))))⟩
   obtain rfl := Lst.zero hk2 c7
   rw [slices_Index_hear_ears_hear_ears_l2] at r4
   refine shW_exit (andThen_exit (andThen_exit ?_))
   refine inBlock_exit ?_
   exact mi kn ⟨r4, rfl, rfl, (sn _)⟩
 rintro e1 _ _ ⟨r24, rfl, rfl, he25⟩
 refine shW_env _ he25 ?_; clear he25
 rw [slices_Index_hear_ears_hear_ears_j1] at r24
 refine wsr (oa rfl rfl (shO_nil (shW_ret ?_)))
 refine q_res1 Try.results144 (res_tmp rfl) (sr) ?_
 obtain rfl := inj1 r24
 exact rfl


set_option maxHeartbeats 1000000 in
theorem slices_Contains_hear_ears_hear_ears_w {s__a : Option Addr} {s__c : Nat} {s_ : List (List Bool)} {v : List Bool} {F : FS} (h_s_ : RowR 30 (arE 30 cB) F s__a s__c s_) (h_v : v.length = 30) {r : Bool} (hr : slices_Contains_hear_ears_hear_ears s_ v = some r) :
    SpecV Try.prog 135 #[.slice s__a s_.length s__c, .agg (arr cB v)] F (.bool r) := by
 refine spec_of_shW (args := [.slice s__a s_.length s__c, .agg (arr cB v)]) Try.func135 rfl Try.ntmps135 (Nat.le_of_ble_eq_true rfl) ?_
 intro K _ _; rw [slices_Contains_hear_ears_hear_ears] at hr
 refine wsr ?_
 refine o_box rfl rfl ?_; intro b1 hb1
 refine oa rfl rfl (nsr (om rfl rfl ?_))
 refine ov (v_loadW Try.isAgg142 Try.sizeOf142 rfl (Has.own 0 rfl) (arr_sz cB_ok h_v)) rfl ?_
 obtain ⟨n, h2, r3⟩ := b1_ok hr; clear hr
 refine o_callV rfl Try.call144 rfl rfl rfl (slices_Index_hear_ears_hear_ears_w h_s_ h_v h2) ?_
 refine ov (v_geqK rfl rfl) rfl ?_
 refine oa rfl rfl (shO_nil ?_)
 refine kW kn ?_
 refine shW_ret ?_
 refine q_res1 Try.results135 (res_tmp rfl) (sr) ?_
 obtain rfl := inj1 r3
 exact rfl


set_option maxHeartbeats 1000000 in
theorem hear_quarter_deaf_w {ears_a : Option Addr} {ears_c : Nat} {ears : List (List Bool)} {count_f : FuncId} {count_1 : Array Value} {count_2 : Array Value} {count : Int → Option Int} {F : FS} (h_ears : RowR 30 (arE 30 cB) F ears_a ears_c ears) (_h_count : FnR Try.prog F count_f count_1 count_2 (iE .i64) (Value.int .i64) count) {r : Bool} (hr : hear_quarter_deaf ears count = some r) :
    SpecV Try.prog 107 #[.agg #[.slice ears_a ears.length ears_c, .func (.func count_f) count_1 count_2]] F (.bool r) := by
 refine spec_of_shW (args := [.agg #[.slice ears_a ears.length ears_c, .func (.func count_f) count_1 count_2]]) Try.func107 rfl Try.ntmps107 (Nat.le_of_ble_eq_true rfl) ?_
 intro K _ _; rw [hear_quarter_deaf] at hr
 refine wsr ?_
 refine o_box rfl rfl ?_; intro b1 hb1
 refine oa rfl rfl (nsr ?_)
 refine ov (v_fieldAddr fa_121_0 rfl) rfl ?_
 refine ov (v_load Try.isAgg119 rfl (Has.own 0 rfl) rfl) rfl ?_
 refine ov (v_build (v := .agg (arr cB (List.replicate 30 false))) rfl (by intro w; kernel_rfl)) rfl ?_
 obtain ⟨ok, h2, r3⟩ := b1_ok hr; clear hr
 refine o_callV rfl Try.call135 rfl rfl rfl (slices_Contains_hear_ears_hear_ears_w h_ears List.length_replicate h2) ?_
 refine oa rfl rfl (shO_nil ?_)
 refine kW kn ?_
 refine shW_ret ?_
 refine q_res1 Try.results107 (res_tmp rfl) (sr) ?_
 obtain rfl := inj1 r3
 exact rfl


set_option maxHeartbeats 1000000 in
theorem slices_Compact_hear_ears_hear_ears_w {s__a : Option Addr} {s__n : Nat} {s__c : Nat} {s__L : LH} {s_ : List (List Bool)} {s__nb : Nat} {F : FS} (h_s_ : SlR s__nb 142 30 (arE 30 cB) F s__a s__n s__c s_ s__L) {r : List (List Bool)} (hr : slices_Compact_hear_ears_hear_ears s_ = some r) :
    SH.Spec Try.prog 108 #[.slice s__a s__n s__c] F (s__L ++ []) fun F' L' v => ∃ (ra : Option Addr) (rn : Nat) (rc : Nat) (rL : LH), v = .slice ra rn rc ∧ L' = rL ++ [] ∧ SlR s__nb 142 30 (arE 30 cB) F' ra rn rc r rL := by
 refine spec_of_shW (args := [.slice s__a s__n s__c]) Try.func108 rfl Try.ntmps108 (Nat.le_of_ble_eq_true rfl) ?_
 intro K _ _; rw [slices_Compact_hear_ears_hear_ears] at hr
 refine shW_L (L' := s__L ++ []) (by simp) ?_
 refine wsr (oa rfl rfl (shO_nil (shW_seq (wsr (om rfl rfl ?_)))))
 refine ov ((v_lenS Try.underlying119 rfl).i (SlR.lenI h_s_)) rfl ?_
 refine ov (v_lssK rfl rfl) rfl ?_
 refine shO_nil ?_
 refine shW_condP rfl (fun c1 => ?_) (fun c1 => ?_)
 · have r2 := ite_t hr c1; clear hr
   refine wsr (om rfl rfl (oa rfl rfl (shO_nil (shW_ret (andThen_ret ?_)))))
   refine q_res1 Try.results108 (res_tmp rfl) (sr) ?_
   obtain rfl := inj1 r2
   exact ⟨_, _, _, _, rfl, rfl, h_s_⟩
 have r3 := ite_f hr c1; clear hr
 refine shW_skip ?_
 refine shW_join (fun e1 F1 L1 => slices_Compact_hear_ears_hear_ears_j1 s_ = some r ∧ F = F1 ∧ L1 = (s__L ++ []) ∧ e1.sub [(0, .slice s__a s__n s__c)]) ?_ ?_
 · refine wsr (oa rfl rfl (shO_nil ?_))
   refine shW_block ?_
   obtain ⟨g4, r5⟩ := gd_ok r3; clear r3
   refine shW_lp (fun fu2 e1 F1 L1 => ∃ (k : Int), Ctr 1 (s_.length : Int) k fu2 ∧ slices_Compact_hear_ears_hear_ears_l2 s_ fu2 k = some r ∧ F = F1 ∧ L1 = (s__L ++ []) ∧ e1.sub [(0, .slice s__a s__n s__c), (3, .int .i64 k)]) _ (m0 kr ⟨_, Ctr.start _ _, r5, rfl, rfl, (sc rfl (sc rfl (sn _)))⟩) ?_
   rintro fu2 e1 _ _ ⟨k, hk6, r8, rfl, rfl, he9⟩
   refine shW_env _ he9 ?_; clear he9
   refine shW_seq (wsr (om rfl rfl (om rfl rfl ?_)))
   refine ov ((v_lenS Try.underlying119 rfl).i (SlR.lenI h_s_)) rfl ?_
   refine ov (v_lssK rfl rfl) rfl ?_
   refine shO_nil ?_
   refine shW_condP rfl (fun c11 => ?_) (fun c11 => ?_)
   · obtain ⟨fu2, rfl, hk12⟩ := Ctr.succ hk6 c11
     rw [slices_Compact_hear_ears_hear_ears_l2] at r8
     refine shW_skip ?_
     refine shW_join (fun e1 F1 L1 => slices_Compact_hear_ears_hear_ears_j3 k (slices_Compact_hear_ears_hear_ears_l2 s_ fu2) = some r ∧ F = F1 ∧ L1 = (s__L ++ []) ∧ e1.sub [(0, .slice s__a s__n s__c), (3, .int .i64 k)]) ?_ ?_
     · refine shW_block ?_
       refine wsd (by kernel_rfl) (by kernel_rfl) (by kernel_rfl) ?_
       refine qm rfl rfl (qm rfl rfl ?_)
       obtain ⟨x, g13, hx14, r15⟩ := ix_ok r8; clear r8
       obtain ⟨b16, o17, c18, vs19, ha20, hs21, hle22, ⟨rfl, h25⟩, hl23, hc24⟩ := SlR.at (arE_ok (n := 30) (sz := 1) cB_ok) h_s_ (L := s__L ++ []) fP g13.1 hx14
       refine qv (v_indexO Try.underlying119 Try.sizeOf142 rfl ha20 rfl (SlR.idx h_s_ g13)) rfl ?_
       refine qv (v_loadA (cs := arr cB x) Try.isAgg142 Try.sizeOf142 rfl hs21 hle22 (extract_cells hle22 hl23 hc24)) rfl ?_
       refine qm rfl rfl (qm rfl rfl ?_)
       obtain ⟨g26, r27⟩ := gd_ok r15; clear r15
       refine qv (v_sub rfl rfl g26) rfl ?_
       obtain ⟨x2, g28, hx29, r30⟩ := ix_ok r27; clear r27
       obtain ⟨b31, o32, c33, vs34, ha35, hs36, hle37, ⟨rfl, h40⟩, hl38, hc39⟩ := SlR.at (arE_ok (n := 30) (sz := 1) cB_ok) h_s_ (L := s__L ++ []) fP g28.1 hx29
       refine qv (v_indexO Try.underlying119 Try.sizeOf142 rfl ha35 rfl (SlR.idx h_s_ g28)) rfl ?_
       refine qv (v_loadA (cs := arr cB x2) Try.isAgg142 Try.sizeOf142 rfl hs36 hle37 (extract_cells hle37 hl38 hc39)) rfl ?_
       refine qv (v_eqA (eqga_142 _ _ _ _) (eqa_142 h25 h40) rfl rfl) rfl ?_
       refine shQ_nil ?_
       refine shW_condP rfl (fun c41 => ?_) (fun c41 => ?_)
       · have r42 := ite_t r30 c41; clear r30
         refine wsr (om rfl rfl (om rfl rfl ?_))
         obtain ⟨g43, r44⟩ := gd_ok r42; clear r42
         have gv45 := SlR.gV h_s_ g43
         refine ov (OpV.eq (v' := .slice (vwA s__a s__c (Int.toNat k) 30) (s__n - Int.toNat k) (s__c - Int.toNat k)) (v_slice (l := k) (h := (s__n : Nat)) Try.underlying119 Try.sizeOf142 rfl (.inr ⟨_, rfl, rfl⟩) (.inl ⟨rfl, rfl⟩) (SlR.capV h_s_ gv45)) rfl) rfl ?_
         refine oa rfl rfl (shO_nil ?_)
         obtain ⟨s_2, k2, h48, r49⟩ := b2_ok r44; clear r44
         refine shW_join (fun e1 F1 L1 => ∃ (Lb46 : LH), F = F1 ∧ L1 = (Lb46 ++ []) ∧ e1.sub [(0, .slice s__a s__n s__c), (3, .int .i64 k2)] ∧ SlR s__nb 142 30 (arE 30 cB) F1 s__a s__n s__c s_2 Lb46) ?_ ?_
         · clear r49
           refine wsr (oa rfl rfl (shO_nil ?_))
           refine shW_block ?_
           refine shW_lp (fun fu4 e1 F1 L1 => ∃ (s_3 : List (List Bool)) (k3 : Int) (k2_2 : Int) (Lb50 : LH), slices_Compact_hear_ears_hear_ears_l4 k fu4 s_3 k3 k2_2 = some (s_2, k2) ∧ F = F1 ∧ L1 = (Lb50 ++ []) ∧ e1.sub [(0, .slice s__a s__n s__c), (3, .int .i64 k3), (4, .slice (vwA s__a s__c (Int.toNat k) 30) (s__n - Int.toNat k) (s__c - Int.toNat k)), (5, .int .i64 k2_2)] ∧ SlR s__nb 142 30 (arE 30 cB) F1 s__a s__n s__c s_3 Lb50) FU (m0 kr ⟨s_, k, 1, s__L, h48, rfl, rfl, (sc rfl (sc rfl (sc rfl (sc rfl (sn _))))), h_s_⟩) ?_
           rintro fu4 e1 _ _ ⟨s_3, k3, k2_2, Lb50, r54, rfl, rfl, he55, hz51⟩
           refine shW_env _ he55 ?_; clear he55
           rcases fu4 with _ | fu4
           · rw [slices_Compact_hear_ears_hear_ears_l4] at r54; cases r54
           rw [slices_Compact_hear_ears_hear_ears_l4] at r54
           refine shW_seq (wsr (om rfl rfl (om rfl rfl ?_)))
           refine ov ((v_lenS Try.underlying119 rfl).i (SlR.lenV hz51).symm) rfl ?_
           refine ov (v_lssK rfl rfl) rfl ?_
           refine shO_nil ?_
           refine shW_condP rfl (fun c56 => ?_) (fun c56 => ?_)
           · have r57 := ite_t r54 c56; clear r54
             refine shW_skip (shW_seq ?_)
             refine shW_block ?_
             refine wsd (by kernel_rfl) (by kernel_rfl) (by kernel_rfl) ?_
             refine qm rfl rfl (qm rfl rfl ?_)
             obtain ⟨x3, g58, hx59, r60⟩ := ix_ok r57; clear r57
             obtain ⟨b61, o62, c63, vs64, ha65, hs66, hle67, ⟨rfl, h70⟩, hl68, hc69⟩ := SlR.atV (arE_ok (n := 30) (sz := 1) cB_ok) hz51 (L := Lb50 ++ []) fP gv45 g58.1 hx59
             refine qv (v_indexO Try.underlying119 Try.sizeOf142 rfl ha65 rfl (SlR.idxV hz51 g58)) rfl ?_
             refine qv (v_loadA (cs := arr cB x3) Try.isAgg142 Try.sizeOf142 rfl hs66 hle67 (extract_cells hle67 hl68 hc69)) rfl ?_
             refine qm rfl rfl (qm rfl rfl ?_)
             obtain ⟨g71, r72⟩ := gd_ok r60; clear r60
             refine qv (v_sub rfl rfl g71) rfl ?_
             obtain ⟨x4, g73, hx74, r75⟩ := ix_ok r72; clear r72
             obtain ⟨b76, o77, c78, vs79, ha80, hs81, hle82, ⟨rfl, h85⟩, hl83, hc84⟩ := SlR.atV (arE_ok (n := 30) (sz := 1) cB_ok) hz51 (L := Lb50 ++ []) fP gv45 g73.1 hx74
             refine qv (v_indexO Try.underlying119 Try.sizeOf142 rfl ha80 rfl (SlR.idxV hz51 g73)) rfl ?_
             refine qv (v_loadA (cs := arr cB x4) Try.isAgg142 Try.sizeOf142 rfl hs81 hle82 (extract_cells hle82 hl83 hc84)) rfl ?_
             refine qv (v_neA (eqgna_142 _ _ _ _) (nea_142 h70 h85) rfl rfl) rfl ?_
             refine shQ_nil ?_
             refine shW_condP rfl (fun c86 => ?_) (fun c86 => ?_)
             · have r87 := ite_t r75 c86; clear r75
               refine wsr (om rfl rfl (om rfl rfl (om rfl rfl (om rfl rfl ?_))))
               obtain ⟨b88, o89, c90, vs91, ha92, hs93, hle94, ⟨rfl, h97⟩, hl95, hc96⟩ := SlR.atV (arE_ok (n := 30) (sz := 1) cB_ok) hz51 (L := Lb50 ++ []) fP gv45 g58.1 hx59
               refine ov (v_indexO Try.underlying119 Try.sizeOf142 rfl ha92 rfl (SlR.idxV hz51 g58)) rfl ?_
               refine ov (v_loadA (cs := arr cB x3) Try.isAgg142 Try.sizeOf142 rfl hs93 hle94 (extract_cells hle94 hl95 hc96)) rfl ?_
               obtain ⟨x5, g98, hx99, r100⟩ := ix_ok r87; clear r87
               obtain ⟨b101, o102, c103, vs104, ha105, hs106, hle107, ⟨rfl, h110⟩, hl108, hc109⟩ := SlR.at (arE_ok (n := 30) (sz := 1) cB_ok) hz51 (L := Lb50 ++ []) fP g98.1 hx99
               refine ov (v_indexO Try.underlying119 Try.sizeOf142 rfl ha105 rfl (SlR.idx hz51 g98)) rfl ?_
               obtain ⟨s_4, h111, r112⟩ := bv_ok r100; clear r100
               refine o_storeZ (u := x3) Try.sizeOf142 (arE_ok (n := 30) (sz := 1) cB_ok) rfl ha105 rfl ⟨rfl, h97⟩ (fun _ => .h) hz51 h111 g98 ?_; intro Lb113 hz114
               refine shO_nil (shW_region (om rfl rfl ?_))
               obtain ⟨g115, r116⟩ := gd_ok r112; clear r112
               refine ov (v_add rfl rfl g115) rfl ?_
               refine oa rfl rfl (shO_nil (inBlock_n (id := 3) (shW_region (om rfl rfl ?_))))
               obtain ⟨g117, r118⟩ := gd_ok r116; clear r116
               refine ov (v_add rfl rfl g117) rfl ?_
               refine oa rfl rfl (shO_nil ?_)
               exact le kr ⟨s_4, k3 + 1, k2_2 + 1, Lb113, r118, rfl, rfl, (sc rfl (sc rfl (sc rfl (sc rfl (sn _))))), hz114⟩
             have r119 := ite_f r75 c86; clear r75
             refine shW_skip (inBlock_n (id := 3) (shW_region (om rfl rfl ?_)))
             obtain ⟨g120, r121⟩ := gd_ok r119; clear r119
             refine ov (v_add rfl rfl g120) rfl ?_
             refine oa rfl rfl (shO_nil ?_)
             exact le kr ⟨s_3, k3, k2_2 + 1, Lb50, r121, rfl, rfl, (sc rfl (sc rfl (sc rfl (sc rfl (sn _))))), hz51⟩
           have r122 := ite_f r54 c56; clear r54
           refine shW_exit (andThen_exit (andThen_exit ?_))
           refine inBlock_exit ?_
           obtain ⟨rfl, rfl⟩ := inj2 r122
           exact mi kr ⟨Lb50, rfl, rfl, (sc rfl (sc rfl (sn _))), hz51⟩
         rintro e1 _ _ ⟨Lb46, rfl, rfl, he123, hz47⟩
         refine shW_env _ he123 ?_; clear he123
         refine wsr (om rfl rfl (om rfl rfl ?_))
         obtain ⟨g124, r125⟩ := gd_ok r49; clear r49
         have gv126 := SlR.gV hz47 g124
         refine ov (OpV.eq (v' := .slice (vwA s__a s__c (Int.toNat k2) 30) (s__n - Int.toNat k2) (s__c - Int.toNat k2)) (v_slice (l := k2) (h := (s__n : Nat)) Try.underlying119 Try.sizeOf142 rfl (.inr ⟨_, rfl, rfl⟩) (.inl ⟨rfl, rfl⟩) (SlR.capV hz47 gv126)) rfl) rfl ?_
         obtain ⟨s_5, h127, r128⟩ := bv_ok r125; clear r125
         refine o_clearV (z0 := List.replicate 30 false) (zs := s_5) (l := k2) rfl slt_119 (by decide) (arE_ok (n := 30) (sz := 1) cB_ok) (fun _ => ⟨rfl, rfl⟩) rfl (fun _ => .h) hz47 gv126 h127 ?_; intro Lb129 hz130
         refine nsr (om rfl rfl (om rfl rfl ?_))
         obtain ⟨g131, r132⟩ := gd_ok r128; clear r128
         obtain ⟨s_6, h133, r134⟩ := bv_ok r132; clear r132
         refine o_sliceZ (l := 0) (h := k2) (zs := s_6) rfl slt_119 (arE_ok (n := 30) (sz := 1) cB_ok) rfl (.inl ⟨rfl, rfl⟩) (.inr ⟨_, rfl, rfl⟩) (fun _ => .h) hz130 g131 h133 ?_; intro a135 n138 c136 Lb139 h137
         refine oa rfl rfl (shO_nil (shW_ret (inBlock_ret (andThen_ret (andThen_ret (inBlock_ret (andThen_ret ?_)))))))
         refine q_res1 Try.results108 (res_tmp rfl) (sr) ?_
         obtain rfl := inj1 r134
         exact ⟨_, _, _, _, rfl, rfl, h137⟩
       have r141 := ite_f r30 c41; clear r30
       refine shW_skip (inBlock_n (id := 1) ?_)
       exact mi kr ⟨r141, rfl, rfl, (sc rfl (sc rfl (sn _)))⟩
     rintro e1 _ _ ⟨r142, rfl, rfl, he143⟩
     refine shW_env _ he143 ?_; clear he143
     rw [slices_Compact_hear_ears_hear_ears_j3] at r142
     refine shW_region (om rfl rfl ?_)
     refine ov (v_add rfl rfl (Ctr.r64 hk6 c11 g4)) rfl ?_
     refine oa rfl rfl (shO_nil ?_)
     exact le kr ⟨_, hk12, r142, rfl, rfl, (sc rfl (sc rfl (sn _)))⟩
   obtain rfl := Ctr.zero hk6 c11
   rw [slices_Compact_hear_ears_hear_ears_l2] at r8
   refine shW_exit (andThen_exit (andThen_exit ?_))
   refine inBlock_exit ?_
   exact mi kr ⟨r8, rfl, rfl, (sc rfl (sn _))⟩
 rintro e1 _ _ ⟨r144, rfl, rfl, he145⟩
 refine shW_env _ he145 ?_; clear he145
 rw [slices_Compact_hear_ears_hear_ears_j1] at r144
 refine wsr (om rfl rfl (oa rfl rfl (shO_nil (shW_ret ?_))))
 refine q_res1 Try.results108 (res_tmp rfl) (sr) ?_
 obtain rfl := inj1 r144
 exact ⟨_, _, _, _, rfl, rfl, h_s_⟩


set_option maxHeartbeats 1000000 in
theorem slices_Clone_hear_ears_hear_ears_w {s__a : Option Addr} {s__c : Nat} {s_ : List (List Bool)} {F : FS} (h_s_ : RowR 30 (arE 30 cB) F s__a s__c s_) {r : List (List Bool)} (hr : slices_Clone_hear_ears_hear_ears s_ = some r) :
    SH.Spec Try.prog 109 #[.slice s__a s_.length s__c] F [] fun F' L' v => ∃ (ra : Option Addr) (rn : Nat) (rc : Nat) (rL : LH), v = .slice ra rn rc ∧ L' = rL ++ [] ∧ SlR 0 142 30 (arE 30 cB) F' ra rn rc r rL := by
 refine spec_of_shW (args := [.slice s__a s_.length s__c]) Try.func109 rfl Try.ntmps109 (Nat.le_of_ble_eq_true rfl) ?_
 intro K _ _; rw [slices_Clone_hear_ears_hear_ears] at hr
 refine wsr (oa rfl rfl (shO_nil (shW_seq (wsr (om rfl rfl ?_)))))
 refine ov (v_eqlNil Try.underlying119 rfl) rfl ?_
 refine shO_nil ?_
 refine shW_cond rfl (fun c1 => ?_) (fun c1 => ?_)
 · have r2 := nilIf_t hr (RowR.isNone h_s_ c1); clear hr
   refine wsr (oa rfl rfl (shO_nil (shW_ret (andThen_ret ?_))))
   refine q_res1 Try.results109 (res_tmp rfl) (sr) ?_
   obtain rfl := inj1 r2
   exact ⟨_, _, _, [], rfl, rfl, SlR.nil _ _ _ _ _⟩
 have r3 := nilIf_f hr; clear hr
 refine shW_skip (wsr ?_)
 refine o_buildSlice (cs := #[]) rfl rfl (buildSlice_none slt_119) ?_; intro b4 hb4
 refine om rfl rfl ?_
 have hz6 : SlR K.w0.heap.size 142 30 (arE 30 cB) F (some ⟨b4, 0, none⟩) 0 0 ([] : List (List Bool)) [(b4, .cells #[] 142 (0, 0))] := SlR.of_block (vss := []) (arE_ok (n := 30) (sz := 1) cB_ok) hb4 .nil rfl rfl (by simp [maxLen])
 generalize hLLb5 : ([(b4, .cells #[] 142 (0, 0))] : LH) = Lb5 at hz6
 refine shO_perm (L' := Lb5 ++ []) (by rw [← hLLb5]; exact fO) ?_
 obtain ⟨l, h8, g9, r10⟩ := ap_ok r3; clear r3
 refine o_appZ (xs := ([] : List (List Bool))) (ys := s_) (zs := l) rfl slt_119 rfl rfl (Nat.le_refl _) (fun _ => .h) hz6 (RowR.src h_s_) h8 g9 (by decide) ?_; intro a11 n15 c12 Lb13 hz14
 refine oa rfl rfl (shO_nil (shW_ret ?_))
 refine q_res1 Try.results109 (res_tmp rfl) (sr) ?_
 obtain rfl := inj1 r10
 exact ⟨_, _, _, _, rfl, rfl, hz14.any⟩


set_option maxHeartbeats 1000000 in
theorem hear_Fewest_w {wide : Int} {plots_a : Option Addr} {plots_c : Nat} {plots : List Int} {wind : Int} {voice : Int} {houses_a : Option Addr} {houses_c : Nat} {houses : List Int} {F : FS} (h_plots : RowR 1 (iE .i64) F plots_a plots_c plots) (h_houses : RowR 1 (iE .i64) F houses_a houses_c houses) {r : List Int} {r2 : Int} (hr : hear_Fewest wide plots wind voice houses = some (r, r2)) :
    SH.Spec Try.prog 59 #[.agg #[.int .i64 wide, .slice plots_a plots.length plots_c], .agg #[.int .i64 wind, .int .i64 voice], .slice houses_a houses.length houses_c] F [] fun F' L' v => ∃ (ra : Option Addr) (rn : Nat) (rc : Nat) (rL : LH), v = .tuple #[.slice ra rn rc, .int .i64 r2] ∧ L' = rL ++ [] ∧ SlR 0 3 1 (iE .i64) F' ra rn rc r rL := by
 refine spec_of_shW (args := [.agg #[.int .i64 wide, .slice plots_a plots.length plots_c], .agg #[.int .i64 wind, .int .i64 voice], .slice houses_a houses.length houses_c]) Try.func59 rfl Try.ntmps59 (Nat.le_of_ble_eq_true rfl) ?_
 intro K _ _; rw [hear_Fewest] at hr
 refine wsr ?_
 refine o_box rfl rfl ?_; intro b1 hb1
 refine o_box rfl rfl ?_; intro b2 hb2
 refine oa rfl rfl (oa rfl rfl (nsr ?_))
 refine ov (v_loadA (cs := #[.int .i64 wide, .slice plots_a plots.length plots_c]) Try.isAgg24 Try.sizeOf24 rfl (Has.own 1 rfl) (Nat.le_of_ble_eq_true rfl) rfl) rfl ?_
 refine ov (v_loadA (cs := #[.int .i64 wind, .int .i64 voice]) Try.isAgg48 Try.sizeOf48 rfl (Has.own 0 rfl) (Nat.le_of_ble_eq_true rfl) rfl) rfl ?_
 refine om rfl rfl ?_
 obtain ⟨l, y, n, h3, r4⟩ := b3_ok hr; clear hr
 refine o_call0 rfl Try.call88 rfl rfl rfl (hear_asked_w h_plots h_houses h3) ?_; rintro _ F5 _ hF6 hn7 ⟨a9, n13, c10, Lb11, v15, rfl, rfl, hz12, hp16⟩
 replace h_plots := h_plots.mono (iE_ok _) hF6
 replace h_houses := h_houses.mono (iE_ok _) hF6
 replace hz12 := hz12.new fun p hp => hn7 p (by simp [hp])
 refine shO_L (lp (ln rfl)) ?_
 refine kO (kf (fS fO) (kf (fS fO) kr)) ?_
 refine om rfl rfl (ox rfl rfl rfl (ox rfl rfl rfl ?_))
 refine o_alloc rfl Try.zeroValue121 ?_; intro b17 hb17
 refine o_storeA (i := 0) Try.sizeOf121 rfl rfl rfl (List.forall_mem_cons.2 ⟨rfl, (List.forall_mem_cons.2 ⟨hp16.1, (fun _ h => absurd h List.not_mem_nil)⟩)⟩) rfl (Nat.le_of_ble_eq_true rfl) ?_
 refine shO_L (L' := (b17, .cells #[.slice a9 n13 c10, v15] 121 (0, 0)) :: ((b2, .cells #[.int .i64 wind, .int .i64 voice] 48 (0, 0)) :: ((b1, .cells #[.int .i64 wide, .slice plots_a plots.length plots_c] 24 (0, 0)) :: (Lb11 ++ [])))) rfl ?_
 refine oa rfl rfl (shO_nil (shW_seq ?_))
 refine shW_block ?_
 refine wsr (om rfl rfl ?_)
 refine ov (v_neq rfl rfl) rfl ?_
 refine oa rfl rfl (shO_nil ?_)
 refine shW_condP rfl (fun c18 => ?_) (fun c18 => ?_)
 · have r19 := ite_t r4 c18; clear r4
   refine wsr (om rfl rfl (oa rfl rfl (oa rfl rfl (shO_nil ?_))))
   refine kW kn ?_
   refine shW_ret (inBlock_ret (andThen_ret ?_))
   refine q_res2 Try.results59 (res_tmp rfl) (res_tmp rfl) (sr) ?_
   obtain ⟨rfl, rfl⟩ := inj2 r19
   exact ⟨_, _, _, [], rfl, rfl, SlR.nil _ _ _ _ _⟩
 have r20 := ite_f r4 c18; clear r4
 refine wsr ?_
 refine ov (v_loadA (cs := #[.slice a9 n13 c10, v15]) Try.isAgg121 Try.sizeOf121 rfl (Has.own 0 rfl) (Nat.le_of_ble_eq_true rfl) rfl) rfl ?_
 obtain ⟨g21, r22⟩ := gd_ok r20; clear r20
 obtain rfl := hp16.2 g21
 have hn23 : FnR Try.prog F5 127 #[] #[] (iE .i64) (Value.int .i64) (fun x : Int => hear_ones x) := ⟨Try.call127, fun F2 h2 vs x r ha hr => by obtain rfl := ha; exact hear_ones_w hr⟩
 obtain ⟨ok, h24, r25⟩ := b1_ok r22; clear r22
 refine o_callT (Lt := Lb11 ++ []) (Lr := [(b17, .cells (#[.slice a9 n13 c10, .func (.func 127) #[] #[]]) 121 (0, 0)), (b2, .cells #[.int .i64 wind, .int .i64 voice] 48 (0, 0)), (b1, .cells #[.int .i64 wide, .slice plots_a plots.length plots_c] 24 (0, 0))]) rfl Try.call107 rfl rfl rfl (pT ((fC (fC (fC fP))).trans (pA pR)) (lp (ln rfl))) (fun F2 h2 h3 => by rw [(SlR.caps hz12).1]; exact hear_quarter_deaf_w (hz12.row (arE_ok (n := 30) (sz := 1) cB_ok) h2 (fun p hp => h3 p (List.mem_append_left _ hp))) (hn23.mono h2) h24) ?_
 refine oa rfl rfl (shO_nil ?_)
 refine shW_cond rfl (fun c26 => ?_) (fun c26 => ?_)
 · have r27 := bt r25 c26; clear r25
   refine wsr (oa rfl rfl (oa rfl rfl (shO_nil ?_)))
   refine kW kn ?_
   refine shW_ret (inBlock_ret (andThen_ret ?_))
   refine q_res2 Try.results59 (res_tmp rfl) (res_tmp rfl) (sr) ?_
   obtain ⟨rfl, rfl⟩ := inj2 r27
   exact ⟨_, _, _, [], rfl, rfl, SlR.nil _ _ _ _ _⟩
 have r28 := bf r25 c26; clear r25
 refine shW_skip (inBlock_n (id := 0) (wsr ?_))
 refine ov (v_fieldAddr fa_121_0 rfl) rfl ?_
 refine ov (v_load Try.isAgg119 rfl (Has.own 0 rfl) rfl) rfl ?_
 obtain ⟨l2, h29, r30⟩ := b1_ok r28; clear r28
 refine o_callTO (Lb := []) (Lt := Lb11 ++ []) (Lr := [(b17, .cells (#[.slice a9 n13 c10, .func (.func 127) #[] #[]]) 121 (0, 0)), (b2, .cells #[.int .i64 wind, .int .i64 voice] 48 (0, 0)), (b1, .cells #[.int .i64 wide, .slice plots_a plots.length plots_c] 24 (0, 0))]) rfl Try.call109 rfl rfl rfl (pT ((fC (fC (fC fP))).trans (pA pR)) (ln (lp (ln rfl)))) (fun F2 h2 h3 => by rw [(SlR.caps hz12).1]; exact slices_Clone_hear_ears_hear_ears_w (hz12.row (arE_ok (n := 30) (sz := 1) cB_ok) h2 (fun p hp => h3 p (List.mem_append_left _ hp))) h29) (fun _ _ _ _ hq => by obtain ⟨a35, n39, c36, Lb37, rfl, rfl, hz38⟩ := hq; exact ⟨_, _, _, _, rfl, rfl, hz38.flat (fun _ _ h => h)⟩) ?_; rintro _ F31 _ hF32 hd34 hn33 ⟨a35, n39, c36, Lb37, rfl, rfl, hz38⟩
 replace h_plots := h_plots.mono (iE_ok _) hF32
 replace h_houses := h_houses.mono (iE_ok _) hF32
 replace hn23 := hn23.mono hF32
 replace hz12 := hz12.mono (arE_ok (n := 30) (sz := 1) cB_ok) hF32
 have hn41 := newp (Lb' := []) (by rfl) hd34 hn33
 replace hz38 := hz38.new fun p hp => hn41 p (by simp [hp])
 refine shO_L (lp (ln (lp (ln rfl)))) ?_
 refine kO (kf (fS (fS fO)) (kf (fS (fS fO)) (kf (fS (fS fO)) kr))) ?_
 obtain ⟨l3, h42, r43⟩ := b1_ok r30; clear r30
 refine o_callG (Lb := Lb37 ++ []) (Lr := (b17, .cells (#[.slice a9 n13 c10, .func (.func 127) #[] #[]]) 121 (0, 0)) :: ((b2, .cells #[.int .i64 wind, .int .i64 voice] 48 (0, 0)) :: ((b1, .cells #[.int .i64 wide, .slice plots_a plots.length plots_c] 24 (0, 0)) :: (Lb11 ++ [])))) rfl Try.call108 rfl rfl rfl (pT ((fC (fC (fC fP))).trans (pA pR)) (lp (ln rfl))) (slices_Compact_hear_ears_hear_ears_w hz38 h42) ?_; rintro _ F44 _ hF45 hd47 hn46 ⟨a48, n52, c49, Lb50, rfl, rfl, hz51⟩
 replace h_plots := h_plots.mono (iE_ok _) hF45
 replace h_houses := h_houses.mono (iE_ok _) hF45
 replace hn23 := hn23.mono hF45
 replace hz12 := hz12.mono (arE_ok (n := 30) (sz := 1) cB_ok) hF45
 replace hz38 := hz38.mono (arE_ok (n := 30) (sz := 1) cB_ok) hF45
 refine shO_L (lp (ln rfl)) ?_
 refine kO (kf (fS fO) (kf (fS fO) (kf (fS fO) kr))) ?_
 refine ov (v_fieldAddr fa_121_0 rfl) rfl ?_
 refine o_store (i := 0) Try.sizeOf119 rfl rfl rfl rfl (Nat.le_of_ble_eq_true rfl) ?_
 refine shO_L (L' := (b17, .cells (#[.slice a48 n52 c49, .func (.func 127) #[] #[]]) 121 (0, 0)) :: ((b2, .cells #[.int .i64 wind, .int .i64 voice] 48 (0, 0)) :: ((b1, .cells #[.int .i64 wide, .slice plots_a plots.length plots_c] 24 (0, 0)) :: (Lb50 ++ (Lb11 ++ []))))) rfl ?_
 refine nsr ?_
 refine ov (v_loadA (cs := #[.slice a48 n52 c49, .func (.func 127) #[] #[]]) Try.isAgg121 Try.sizeOf121 rfl (Has.own 0 rfl) (Nat.le_of_ble_eq_true rfl) rfl) rfl ?_
 refine ov (v_fieldAddr fa_121_0 rfl) rfl ?_
 refine ov (v_load Try.isAgg119 rfl (Has.own 0 rfl) rfl) rfl ?_
 refine ov ((v_lenS Try.underlying119 rfl).i (SlR.lenI hz51)) rfl ?_
 obtain ⟨l4, n2, h54, r55⟩ := b2_ok r43; clear r43
 refine o_callTO (Lb := []) (Lt := Lb50 ++ []) (Lr := (b17, .cells (#[.slice a48 n52 c49, .func (.func 127) #[] #[]]) 121 (0, 0)) :: ((b2, .cells #[.int .i64 wind, .int .i64 voice] 48 (0, 0)) :: ((b1, .cells #[.int .i64 wide, .slice plots_a plots.length plots_c] 24 (0, 0)) :: (Lb11 ++ [])))) rfl Try.call90 rfl rfl rfl (pT ((fC (fC (fC fP))).trans (pA pR)) (ln (lp (ln rfl)))) (fun F2 h2 h3 => by rw [(SlR.caps hz51).1]; exact hear_quarter_chosen_w (hz51.row (arE_ok (n := 30) (sz := 1) cB_ok) h2 (fun p hp => h3 p (List.mem_append_left _ hp))) (hn23.mono h2) h54) (fun _ _ _ _ hq => by obtain ⟨a60, n64, c61, Lb62, rfl, rfl, hz63⟩ := hq; exact ⟨_, _, _, _, rfl, rfl, hz63.flat (fun _ _ h => h)⟩) ?_; rintro _ F56 _ hF57 hd59 hn58 ⟨a60, n64, c61, Lb62, rfl, rfl, hz63⟩
 replace h_plots := h_plots.mono (iE_ok _) hF57
 replace h_houses := h_houses.mono (iE_ok _) hF57
 replace hn23 := hn23.mono hF57
 replace hz12 := hz12.mono (arE_ok (n := 30) (sz := 1) cB_ok) hF57
 replace hz51 := hz51.mono (arE_ok (n := 30) (sz := 1) cB_ok) hF57
 have hn66 := newp (Lb' := []) (by rfl) hd59 hn58
 replace hz63 := hz63.new fun p hp => hn66 p (by simp [hp])
 refine shO_L (lp (ln (lp (ln rfl)))) ?_
 refine kO (kf (fS (fS fO)) (kf (fS (fS fO)) (kf (fS (fS fO)) kr))) ?_
 refine om rfl rfl (ox rfl rfl rfl (ox rfl rfl rfl (oa rfl rfl (oa rfl rfl (nsr (om rfl rfl (oa rfl rfl (oa rfl rfl (shO_nil ?_)))))))))
 refine kW (kd (kd (kd (ka kn)))) ?_
 refine shW_ret ?_
 refine q_res2 Try.results59 (res_tmp rfl) (res_tmp rfl) (sr) ?_
 obtain ⟨rfl, rfl⟩ := inj2 r55
 exact ⟨_, _, _, _, rfl, rfl, hz63.any⟩


set_option maxHeartbeats 1000000 in
theorem oyezlaw01_Drawn_w {rows_a : Option Addr} {rows_c : Nat} {rows : List (List Int)} {F : FS} (h_rows : RowR 1 sE F rows_a rows_c rows) {r : Int} {r2 : List Int} (hr : oyezlaw01_Drawn rows = some (r, r2)) :
    SH.Spec Try.prog 75 #[.slice rows_a rows.length rows_c] F [] fun F' L' v => ∃ (r2a : Option Addr) (r2n : Nat) (r2c : Nat) (r2L : LH), v = .agg #[.int .i64 r, .slice r2a r2n r2c] ∧ L' = r2L ++ [] ∧ SlR 0 73 1 (iE .i64) F' r2a r2n r2c r2 r2L := by
 refine spec_of_shW (args := [.slice rows_a rows.length rows_c]) Try.func75 rfl Try.ntmps75 (Nat.le_of_ble_eq_true rfl) ?_
 intro K _ _; rw [oyezlaw01_Drawn] at hr
 refine wsr ?_
 refine o_alloc rfl Try.zeroValue24 ?_; intro b1 hb1
 refine nsr ?_
 refine o_alloc rfl Try.zeroValue24 ?_; intro b2 hb2
 refine shO_nil ?_
 obtain ⟨t_wide, t_plots, h9, r10⟩ := b2_ok hr; clear hr
 refine shW_join (fun e1 F1 L1 => ∃ (a3 : Option Addr) (n7 : Nat) (c4 : Nat) (Lb5 : LH), F = F1 ∧ L1 = ((b2, .cells #[.int .i64 t_wide, .slice a3 n7 c4] 24 (0, 0)) :: ((b1, .cells #[.int .i64 0, .slice none 0 0] 24 (0, 0)) :: (Lb5 ++ []))) ∧ e1.sub [(2, .pointer (some ⟨b1, 0, none⟩)), (3, .pointer (some ⟨b2, 0, none⟩))] ∧ SlR K.w0.heap.size 73 1 (iE .i64) F1 a3 n7 c4 t_plots Lb5) ?_ ?_
 · clear r10
   refine wsr (om rfl rfl ?_)
   refine ov (v_lenS Try.underlying155 rfl) rfl ?_
   refine om rfl rfl (shO_nil ?_)
   refine shW_block ?_
   refine shW_lp (fun fu1 e1 F1 L1 => ∃ (tl : List (List Int)) (k : Int), tl.length = fu1 ∧ Lst rows k tl ∧ ∃ (t_wide2 : Int) (t_plots2 : List Int) (a11 : Option Addr) (n15 : Nat) (c12 : Nat) (Lb13 : LH), oyezlaw01_Drawn_l1 tl t_wide2 t_plots2 = some (t_wide, t_plots) ∧ F = F1 ∧ L1 = ((b2, .cells #[.int .i64 t_wide2, .slice a11 n15 c12] 24 (0, 0)) :: ((b1, .cells #[.int .i64 0, .slice none 0 0] 24 (0, 0)) :: (Lb13 ++ []))) ∧ e1.sub [(2, .pointer (some ⟨b1, 0, none⟩)), (3, .pointer (some ⟨b2, 0, none⟩)), (9, .slice rows_a rows.length rows_c), (10, .int .i64 (rows.length : Int)), (11, .int .i64 k)] ∧ SlR K.w0.heap.size 73 1 (iE .i64) F1 a11 n15 c12 t_plots2 Lb13) _ (m0 (kc (kc (ke kr))) ⟨_, _, rfl, Lst.start _, 0, [], none, 0, 0, [], h9, rfl, rfl, (sc rfl (sc rfl (sc rfl (sc rfl (sc rfl (sn _)))))), SlR.nil _ _ _ _ _⟩) ?_
   rintro fu1 e1 _ _ ⟨tl, k, hn18, hk17, t_wide2, t_plots2, a11, n15, c12, Lb13, r19, rfl, rfl, he20, hz14⟩
   refine shW_env _ he20 ?_; clear he20
   refine wsr ?_
   refine ov (v_lssK rfl rfl) rfl ?_
   refine shO_nil (shW_seq ?_)
   refine shW_condP rfl (fun c22 => ?_) (fun c22 => ?_)
   · obtain ⟨x, tl2, rfl, hx24, g25, hk23⟩ := Lst.succ hk17 c22
     rw [oyezlaw01_Drawn_l1] at r19
     refine shW_skip ?_
     obtain ⟨t_plots3, h32, r33⟩ := b1_ok r19; clear r19
     refine shW_join (fun e1 F1 L1 => ∃ (a26 : Option Addr) (n30 : Nat) (c27 : Nat) (Lb28 : LH), F = F1 ∧ L1 = ((b2, .cells #[.int .i64 (x.length : Int), .slice a26 n30 c27] 24 (0, 0)) :: ((b1, .cells #[.int .i64 0, .slice none 0 0] 24 (0, 0)) :: (Lb28 ++ []))) ∧ e1.sub [(2, .pointer (some ⟨b1, 0, none⟩)), (3, .pointer (some ⟨b2, 0, none⟩)), (9, .slice rows_a rows.length rows_c), (10, .int .i64 (rows.length : Int)), (11, .int .i64 k)] ∧ SlR K.w0.heap.size 73 1 (iE .i64) F1 a26 n30 c27 t_plots3 Lb28) ?_ ?_
     · clear r33
       refine shW_block ?_
       refine wsr ?_
       obtain ⟨b34, o35, c36, vs37, ha38, hs39, hle40, rfl, hl41, hc42⟩ := RowR.at sE_ok h_rows ((b2, .cells #[.int .i64 t_wide2, .slice a11 n15 c12] 24 (0, 0)) :: ((b1, .cells #[.int .i64 0, .slice none 0 0] 24 (0, 0)) :: (Lb13 ++ []))) g25.1 hx24
       refine ov (v_indexO Try.underlying155 Try.sizeOf9 rfl ha38 rfl g25) rfl ?_
       refine ov (v_load Try.isAgg9 rfl hs39 (hc42 0 (by decide))) rfl ?_
       refine oa rfl rfl (nsr (om rfl rfl ?_))
       refine ov (v_lenStr Try.underlying9 rfl) rfl ?_
       refine ov (v_fieldAddr fa_24_0 rfl) rfl ?_
       refine o_store (i := 0) Try.sizeOf3 rfl rfl rfl rfl (Nat.le_of_ble_eq_true rfl) ?_
       refine shO_L (L' := (b2, .cells #[.int .i64 (x.length : Int), .slice a11 n15 c12] 24 (0, 0)) :: ((b1, .cells #[.int .i64 0, .slice none 0 0] 24 (0, 0)) :: (Lb13 ++ []))) rfl ?_
       refine nsr (om rfl rfl ?_)
       refine o_rangeStr (s := x) rfl Try.underlying9 rfl ?_; intro b43 hb43
       refine shO_nil ?_
       refine shW_block ?_
       refine shW_lp (fun fu2 e1 F1 L1 => ∃ (t_plots4 : List Int) (pos : Nat) (a44 : Option Addr) (n48 : Nat) (c45 : Nat) (Lb46 : LH), oyezlaw01_Drawn_l2 x fu2 t_plots4 pos = some t_plots3 ∧ F = F1 ∧ L1 = ((b43, .stringIter (sB x) pos) :: ((b2, .cells #[.int .i64 (x.length : Int), .slice a44 n48 c45] 24 (0, 0)) :: ((b1, .cells #[.int .i64 0, .slice none 0 0] 24 (0, 0)) :: (Lb46 ++ [])))) ∧ e1.sub [(2, .pointer (some ⟨b1, 0, none⟩)), (3, .pointer (some ⟨b2, 0, none⟩)), (9, .slice rows_a rows.length rows_c), (10, .int .i64 (rows.length : Int)), (11, .int .i64 k), (19, .pointer (some ⟨b43, 0, none⟩))] ∧ SlR K.w0.heap.size 73 1 (iE .i64) F1 a44 n48 c45 t_plots4 Lb46) FU (m0 kr ⟨t_plots2, 0, a11, n15, c12, Lb13, h32, rfl, rfl, (sc rfl (sc rfl (sc rfl (sc rfl (sc rfl (sc rfl (sn _))))))), hz14⟩) ?_
       rintro fu2 e1 _ _ ⟨t_plots4, pos, a44, n48, c45, Lb46, r52, rfl, rfl, he53, hz47⟩
       refine shW_env _ he53 ?_; clear he53
       rcases fu2 with _ | fu2
       · rw [oyezlaw01_Drawn_l2] at r52; cases r52
       rw [oyezlaw01_Drawn_l2] at r52
       refine wsr ?_
       by_cases c54 : pos < x.length
       · have r55 := ite_t r52 c54; clear r52
         obtain ⟨c, g56, hx57, r58⟩ := ix_ok r55; clear r55
         obtain ⟨g59, r60⟩ := gd_ok r58; clear r58
         refine o_nextStr (i := 0) (c := c) rfl rfl rfl (by simpa using hx57) g59 ?_
         refine shO_L (L' := (b43, .stringIter (sB x) (pos + 1)) :: ((b2, .cells #[.int .i64 (x.length : Int), .slice a44 n48 c45] 24 (0, 0)) :: ((b1, .cells #[.int .i64 0, .slice none 0 0] 24 (0, 0)) :: (Lb46 ++ [])))) rfl ?_
         refine ox rfl rfl rfl (shO_nil (shW_seq ?_))
         refine shW_cond rfl (fun c61 => ?_) (fun c61 => nomatch c61)
         refine shW_skip ?_
         refine shW_block ?_
         refine wsr (ox rfl rfl rfl (oa rfl rfl (nsr (oa rfl rfl (shO_nil ?_)))))
         obtain ⟨p, h62, r63⟩ := b1_ok r60; clear r60
         refine shW_join (fun e1 F1 L1 => F = F1 ∧ L1 = ((b43, .stringIter (sB x) (pos + 1)) :: ((b2, .cells #[.int .i64 (x.length : Int), .slice a44 n48 c45] 24 (0, 0)) :: ((b1, .cells #[.int .i64 0, .slice none 0 0] 24 (0, 0)) :: (Lb46 ++ [])))) ∧ e1.sub [(2, .pointer (some ⟨b1, 0, none⟩)), (3, .pointer (some ⟨b2, 0, none⟩)), (7, .int .i32 c), (8, .int .i64 p), (9, .slice rows_a rows.length rows_c), (10, .int .i64 (rows.length : Int)), (11, .int .i64 k), (19, .pointer (some ⟨b43, 0, none⟩))]) ?_ ?_
         · clear r63
           refine wsr (om rfl rfl ?_)
           refine ov (v_eql rfl rfl) rfl ?_
           refine shO_nil ?_
           refine shW_condP rfl (fun c64 => ?_) (fun c64 => ?_)
           · have r65 := ite_t h62 c64; clear h62
             refine shW_region (oa rfl rfl (shO_nil ?_))
             obtain rfl := inj1 r65
             exact mi kr ⟨rfl, rfl, (sc rfl (sc rfl (sc rfl (sc rfl (sc rfl (sc rfl (sc rfl (sc rfl (sn _)))))))))⟩
           have r66 := ite_f h62 c64; clear h62
           refine shW_skip ?_
           obtain rfl := inj1 r66
           exact mi kr ⟨rfl, rfl, (sc rfl (sc rfl (sc rfl (sc rfl (sc rfl (sc rfl (sc rfl (sc rfl (sn _)))))))))⟩
         rintro e1 _ _ ⟨rfl, rfl, he67⟩
         refine shW_env _ he67 ?_; clear he67
         obtain ⟨p2, h68, r69⟩ := b1_ok r63; clear r63
         refine shW_join (fun e1 F1 L1 => F = F1 ∧ L1 = ((b43, .stringIter (sB x) (pos + 1)) :: ((b2, .cells #[.int .i64 (x.length : Int), .slice a44 n48 c45] 24 (0, 0)) :: ((b1, .cells #[.int .i64 0, .slice none 0 0] 24 (0, 0)) :: (Lb46 ++ [])))) ∧ e1.sub [(2, .pointer (some ⟨b1, 0, none⟩)), (3, .pointer (some ⟨b2, 0, none⟩)), (8, .int .i64 p2), (9, .slice rows_a rows.length rows_c), (10, .int .i64 (rows.length : Int)), (11, .int .i64 k), (19, .pointer (some ⟨b43, 0, none⟩))]) ?_ ?_
         · clear r69
           refine wsr (om rfl rfl ?_)
           refine ov (v_eql rfl rfl) rfl ?_
           refine shO_nil ?_
           refine shW_condP rfl (fun c70 => ?_) (fun c70 => ?_)
           · have r71 := ite_t h68 c70; clear h68
             refine shW_region (oa rfl rfl (shO_nil ?_))
             obtain rfl := inj1 r71
             exact mi kr ⟨rfl, rfl, (sc rfl (sc rfl (sc rfl (sc rfl (sc rfl (sc rfl (sc rfl (sn _))))))))⟩
           have r72 := ite_f h68 c70; clear h68
           refine shW_skip ?_
           obtain rfl := inj1 r72
           exact mi kr ⟨rfl, rfl, (sc rfl (sc rfl (sc rfl (sc rfl (sc rfl (sc rfl (sc rfl (sn _))))))))⟩
         rintro e1 _ _ ⟨rfl, rfl, he73⟩
         refine shW_env _ he73 ?_; clear he73
         refine shW_region ?_
         refine ov (v_fieldAddr fa_24_1 rfl) rfl ?_
         refine ov (v_load Try.isAgg22 rfl (Has.own 1 rfl) rfl) rfl ?_
         refine om rfl rfl ?_
         refine o_buildSlice (cs := #[.int .i64 p2]) rfl rfl (buildSlice_all slt_22 [.int .i64 p2] rfl (by decide) (by simp [Value.cells]) (by decide)) ?_; intro b74 hb74
         obtain ⟨t, h75, g76, r77⟩ := ap_ok r69; clear r69
         refine o_appZ (xs := t_plots4) (ys := [p2]) (zs := t) rfl slt_22 rfl rfl (Nat.le_refl _) (fun _ => .c (.c (.c (.c .h)))) hz47 (SrcR.box (vss := [[.int .i64 p2]]) (ys := [p2]) 0 rfl (iE_ok _) (.cons rfl .nil) rfl rfl) h75 g76 (by decide) ?_; intro a78 n82 c79 Lb80 hz81
         refine kO (kd kr) ?_
         refine ov (v_fieldAddr fa_24_1 rfl) rfl ?_
         refine o_store (i := 1) Try.sizeOf22 rfl rfl rfl rfl (Nat.le_of_ble_eq_true rfl) ?_
         refine shO_L (L' := (b43, .stringIter (sB x) (pos + 1)) :: ((b2, .cells #[.int .i64 (x.length : Int), .slice a78 n82 c79] 24 (0, 0)) :: ((b1, .cells #[.int .i64 0, .slice none 0 0] 24 (0, 0)) :: (Lb80 ++ [])))) rfl ?_
         refine shO_nil (inBlock_n (id := 3) ?_)
         exact le kr ⟨t, pos + 1, a78, n82, c79, Lb80, r77, rfl, rfl, (sc rfl (sc rfl (sc rfl (sc rfl (sc rfl (sc rfl (sn _))))))), hz81⟩
       have r84 := ite_f r52 c54; clear r52
       refine o_nextStr0 (i := 0) (s := x) rfl rfl rfl c54 ?_
       refine ox rfl rfl rfl (shO_nil (shW_seq ?_))
       refine shW_cond rfl (fun c85 => nomatch c85) (fun c85 => ?_)
       refine shW_exit (andThen_exit (andThen_exit ?_))
       refine inBlock_exit ?_
       refine inBlock_n (id := 1) ?_
       obtain rfl := inj1 r84
       exact mi (kd kr) ⟨a44, n48, c45, Lb46, rfl, rfl, (sc rfl (sc rfl (sc rfl (sc rfl (sc rfl (sn _)))))), hz47⟩
     rintro e1 _ _ ⟨a26, n30, c27, Lb28, rfl, rfl, he86, hz29⟩
     refine shW_env _ he86 ?_; clear he86
     refine shW_region ?_
     refine ov (v_add rfl rfl (Lst.r64 hk17 c22 (RowR.lt h_rows))) rfl ?_
     refine om rfl rfl (shO_nil ?_)
     subst hn18; exact le kr ⟨_, _, rfl, hk23, (x.length : Int), t_plots3, a26, n30, c27, Lb28, r33, rfl, rfl, (sc rfl (sc rfl (sc rfl (sc rfl (sc rfl (sn _)))))), hz29⟩
   obtain rfl := Lst.zero hk17 c22
   rw [oyezlaw01_Drawn_l1] at r19
   refine shW_exit (andThen_exit (andThen_exit ?_))
   refine inBlock_exit ?_
   obtain ⟨rfl, rfl⟩ := inj2 r19
   exact mi kr ⟨a11, n15, c12, Lb13, rfl, rfl, (sc rfl (sc rfl (sn _))), hz14⟩
 rintro e1 _ _ ⟨a3, n7, c4, Lb5, rfl, rfl, he87, hz6⟩
 refine shW_env _ he87 ?_; clear he87
 refine wsr ?_
 refine ov (v_loadA (cs := #[.int .i64 t_wide, .slice a3 n7 c4]) Try.isAgg24 Try.sizeOf24 rfl (Has.own 0 rfl) (Nat.le_of_ble_eq_true rfl) rfl) rfl ?_
 refine o_storeA (i := 1) Try.sizeOf24 rfl rfl rfl (by simp [Value.oneCell']) rfl (Nat.le_of_ble_eq_true rfl) ?_
 refine shO_L (L' := (b2, .cells #[.int .i64 t_wide, .slice a3 n7 c4] 24 (0, 0)) :: ((b1, .cells #[.int .i64 t_wide, .slice a3 n7 c4] 24 (0, 0)) :: (Lb5 ++ []))) rfl ?_
 refine shO_nil ?_
 refine kW (kd kr) ?_
 refine shW_ret ?_
 refine q_res1 Try.results75 (res_cellA (cs := #[.int .i64 t_wide, .slice a3 n7 c4]) Try.isAgg24 Try.sizeOf24 rfl (Has.own 0 rfl) (Nat.le_of_ble_eq_true rfl) rfl) (s1 (s4 sr)) ?_
 obtain ⟨rfl, rfl⟩ := inj2 r10
 exact ⟨_, _, _, _, rfl, rfl, hz6.any⟩


set_option maxHeartbeats 1000000 in
theorem oyezlaw01_awake_w {F : FS} {r : Bool} (hr : oyezlaw01_awake = some r) :
    SpecV Try.prog 15 #[] F (.bool r) := by
 refine spec_of_shW (args := []) Try.func15 rfl Try.ntmps15 (Nat.le_of_ble_eq_true rfl) ?_
 intro K _ _; rw [oyezlaw01_awake] at hr
 refine wsr (oa rfl rfl (nsr ?_))
 refine o_buildSlice (cs := #[.string (sB [115, 104, 115, 104])]) rfl rfl (buildSlice_all slt_155 [.string (sB [115, 104, 115, 104])] rfl (by decide) (by simp [Value.cells]) (by decide)) ?_; intro b1 hb1
 refine shO_freeze 0 rfl hb1 ?_; intro F2 hF3 hz4
 refine shO_L (L' := []) rfl ?_
 have h5 : RowR 1 sE F2 (some ⟨b1, 0, none⟩) 1 [[115, 104, 115, 104]] := RowR.of_block sE_ok (vss := [[.string (sB [115, 104, 115, 104])]]) (xs := [[115, 104, 115, 104]]) hz4 (.cons rfl .nil) rfl (by simp [maxLen])
 obtain ⟨n, l, h6, r7⟩ := b2_ok hr; clear hr
 refine o_call0 rfl Try.call75 rfl rfl rfl (oyezlaw01_Drawn_w h5 h6) ?_; rintro _ F8 _ hF9 hn10 ⟨a12, n16, c13, Lb14, rfl, rfl, hz15⟩
 replace h5 := h5.mono sE_ok hF9
 replace hz4 := hF9 _ _ hz4
 replace hz15 := hz15.new fun p hp => hn10 p (by simp [hp])
 refine shO_L (lp (ln rfl)) ?_
 refine o_buildSlice (cs := #[.string (sB [104, 115, 104]), .string (sB [115, 119, 115])]) rfl rfl (buildSlice_all slt_155 [.string (sB [104, 115, 104]), .string (sB [115, 119, 115])] rfl (by decide) (by simp [Value.cells]) (by decide)) ?_; intro b18 hb18
 refine shO_freeze 0 rfl hb18 ?_; intro F19 hF20 hz21
 refine shO_L (L' := Lb14 ++ []) rfl ?_
 replace h5 := h5.mono sE_ok hF20
 replace hz15 := hz15.mono (iE_ok _) hF20
 replace hz4 := hF20 _ _ hz4
 have h22 : RowR 1 sE F19 (some ⟨b18, 0, none⟩) 2 [[104, 115, 104], [115, 119, 115]] := RowR.of_block sE_ok (vss := [[.string (sB [104, 115, 104])], [.string (sB [115, 119, 115])]]) (xs := [[104, 115, 104], [115, 119, 115]]) hz21 (.cons rfl (.cons rfl .nil)) rfl (by simp [maxLen])
 obtain ⟨n2, l2, h23, r24⟩ := b2_ok r7; clear r7
 refine o_call0 rfl Try.call75 rfl rfl rfl (oyezlaw01_Drawn_w h22 h23) ?_; rintro _ F25 _ hF26 hn27 ⟨a29, n33, c30, Lb31, rfl, rfl, hz32⟩
 replace h5 := h5.mono sE_ok hF26
 replace h22 := h22.mono sE_ok hF26
 replace hz15 := hz15.mono (iE_ok _) hF26
 replace hz4 := hF26 _ _ hz4
 replace hz21 := hF26 _ _ hz21
 replace hz32 := hz32.new fun p hp => hn27 p (by simp [hp])
 refine shO_L (lp (ln rfl)) ?_
 refine o_alloc rfl Try.zeroValue24 ?_; intro b35 hb35
 refine o_alloc rfl Try.zeroValue24 ?_; intro b36 hb36
 refine o_storeA (i := 1) Try.sizeOf24 rfl rfl rfl (by simp [Value.oneCell']) rfl (Nat.le_of_ble_eq_true rfl) ?_
 refine shO_L (L' := (b36, .cells #[.int .i64 0, .slice none 0 0] 24 (0, 0)) :: ((b35, .cells #[.int .i64 n, .slice a12 n16 c13] 24 (0, 0)) :: (Lb31 ++ (Lb14 ++ [])))) rfl ?_
 refine o_storeA (i := 0) Try.sizeOf24 rfl rfl rfl (by simp [Value.oneCell']) rfl (Nat.le_of_ble_eq_true rfl) ?_
 refine shO_L (L' := (b36, .cells #[.int .i64 n2, .slice a29 n33 c30] 24 (0, 0)) :: ((b35, .cells #[.int .i64 n, .slice a12 n16 c13] 24 (0, 0)) :: (Lb31 ++ (Lb14 ++ [])))) rfl ?_
 refine nsr ?_
 refine ov (v_loadA (cs := #[.int .i64 n, .slice a12 n16 c13]) Try.isAgg24 Try.sizeOf24 rfl (Has.own 1 rfl) (Nat.le_of_ble_eq_true rfl) rfl) rfl ?_
 obtain ⟨l3, n3, h37, r38⟩ := b2_ok r24; clear r24
 refine o_callTO (Lb := []) (Lt := Lb14 ++ []) (Lr := (b36, .cells #[.int .i64 n2, .slice a29 n33 c30] 24 (0, 0)) :: ((b35, .cells #[.int .i64 n, .slice a12 n16 c13] 24 (0, 0)) :: (Lb31 ++ []))) rfl Try.call21 rfl rfl rfl (pT ((fC (fC (fS fP))).trans (pA pR)) (ln (lp (ln rfl)))) (fun F2 h2 h3 => by rw [(SlR.caps hz15).1]; exact hear_Needs_w (hz15.row (iE_ok _) h2 (fun p hp => h3 p (List.mem_append_left _ hp))) h37) (fun _ _ _ _ hq => by obtain ⟨a43, n47, c44, Lb45, rfl, rfl, hz46⟩ := hq; exact ⟨_, _, _, _, rfl, rfl, hz46.flat (fun _ _ h => h)⟩) ?_; rintro _ F39 _ hF40 hd42 hn41 ⟨a43, n47, c44, Lb45, rfl, rfl, hz46⟩
 replace h5 := h5.mono sE_ok hF40
 replace h22 := h22.mono sE_ok hF40
 replace hz15 := hz15.mono (iE_ok _) hF40
 replace hz32 := hz32.mono (iE_ok _) hF40
 replace hz4 := hF40 _ _ hz4
 replace hz21 := hF40 _ _ hz21
 have hn49 := newp (Lb' := []) (by rfl) hd42 hn41
 replace hz46 := hz46.new fun p hp => hn49 p (by simp [hp])
 refine shO_L (lp (ln (lp (ln rfl)))) ?_
 refine kO (kf (fS (fS fO)) (kf (fS (fS fO)) kr)) ?_
 refine om rfl rfl (ox rfl rfl rfl (ox rfl rfl rfl (oa rfl rfl (oa rfl rfl (nsr ?_)))))
 refine ov (v_loadA (cs := #[.int .i64 n, .slice a12 n16 c13]) Try.isAgg24 Try.sizeOf24 rfl (Has.own 1 rfl) (Nat.le_of_ble_eq_true rfl) rfl) rfl ?_
 refine ov (v_build (v := .agg #[.int .i64 0, .int .i64 5]) rfl (by intro w; kernel_rfl)) rfl ?_
 refine o_buildSlice (cs := #[.int .i64 1, .int .i64 3]) rfl rfl (buildSlice_all slt_26 [.int .i64 1, .int .i64 3] rfl (by decide) (by simp [Value.cells]) (by decide)) ?_; intro b50 hb50
 refine shO_freeze 0 rfl hb50 ?_; intro F51 hF52 hz53
 refine shO_L (L' := (b36, .cells #[.int .i64 n2, .slice a29 n33 c30] 24 (0, 0)) :: ((b35, .cells #[.int .i64 n, .slice a12 n16 c13] 24 (0, 0)) :: (Lb45 ++ (Lb14 ++ (Lb31 ++ []))))) rfl ?_
 replace h5 := h5.mono sE_ok hF52
 replace h22 := h22.mono sE_ok hF52
 replace hz15 := hz15.mono (iE_ok _) hF52
 replace hz32 := hz32.mono (iE_ok _) hF52
 replace hz46 := hz46.mono (iE_ok _) hF52
 replace hz4 := hF52 _ _ hz4
 replace hz21 := hF52 _ _ hz21
 have h54 : RowR 1 (iE .i64) F51 (some ⟨b50, 0, none⟩) 2 [1, 3] := RowR.of_block (iE_ok _) (vss := [[.int .i64 1], [.int .i64 3]]) (xs := [1, 3]) hz53 (.cons rfl (.cons rfl .nil)) rfl (by simp [maxLen])
 obtain ⟨l4, n4, h55, r56⟩ := b2_ok r38; clear r38
 refine o_callTO (Lb := []) (Lt := Lb14 ++ []) (Lr := (b36, .cells #[.int .i64 n2, .slice a29 n33 c30] 24 (0, 0)) :: ((b35, .cells #[.int .i64 n, .slice a12 n16 c13] 24 (0, 0)) :: (Lb45 ++ (Lb31 ++ [])))) rfl Try.call59 rfl rfl rfl (pT ((fC (fC (fS fP))).trans (pA pR)) (ln (lp (ln rfl)))) (fun F2 h2 h3 => by rw [(SlR.caps hz15).1]; exact hear_Fewest_w (hz15.row (iE_ok _) h2 (fun p hp => h3 p (List.mem_append_left _ hp))) (h54.mono (iE_ok _) h2) h55) (fun _ _ _ _ hq => by obtain ⟨a61, n65, c62, Lb63, rfl, rfl, hz64⟩ := hq; exact ⟨_, _, _, _, rfl, rfl, hz64.flat (fun _ _ h => h)⟩) ?_; rintro _ F57 _ hF58 hd60 hn59 ⟨a61, n65, c62, Lb63, rfl, rfl, hz64⟩
 replace h5 := h5.mono sE_ok hF58
 replace h22 := h22.mono sE_ok hF58
 replace h54 := h54.mono (iE_ok _) hF58
 replace hz15 := hz15.mono (iE_ok _) hF58
 replace hz32 := hz32.mono (iE_ok _) hF58
 replace hz46 := hz46.mono (iE_ok _) hF58
 replace hz4 := hF58 _ _ hz4
 replace hz21 := hF58 _ _ hz21
 replace hz53 := hF58 _ _ hz53
 have hn67 := newp (Lb' := []) (by rfl) hd60 hn59
 replace hz64 := hz64.new fun p hp => hn67 p (by simp [hp])
 refine shO_L (lp (ln (lp (ln rfl)))) ?_
 refine kO (kf (fS (fS fO)) (kf (fS (fS fO)) kr)) ?_
 refine om rfl rfl (ox rfl rfl rfl (ox rfl rfl rfl (oa rfl rfl (oa rfl rfl (nsr ?_)))))
 refine ov (v_loadA (cs := #[.int .i64 n2, .slice a29 n33 c30]) Try.isAgg24 Try.sizeOf24 rfl (Has.own 0 rfl) (Nat.le_of_ble_eq_true rfl) rfl) rfl ?_
 refine ov (v_build (v := .agg #[.int .i64 0, .int .i64 3]) rfl (by intro w; kernel_rfl)) rfl ?_
 refine o_buildSlice (cs := #[.int .i64 0, .int .i64 2]) rfl rfl (buildSlice_all slt_26 [.int .i64 0, .int .i64 2] rfl (by decide) (by simp [Value.cells]) (by decide)) ?_; intro b68 hb68
 refine shO_freeze 0 rfl hb68 ?_; intro F69 hF70 hz71
 refine shO_L (L' := (b36, .cells #[.int .i64 n2, .slice a29 n33 c30] 24 (0, 0)) :: ((b35, .cells #[.int .i64 n, .slice a12 n16 c13] 24 (0, 0)) :: (Lb63 ++ (Lb14 ++ (Lb45 ++ (Lb31 ++ [])))))) rfl ?_
 replace h5 := h5.mono sE_ok hF70
 replace h22 := h22.mono sE_ok hF70
 replace h54 := h54.mono (iE_ok _) hF70
 replace hz15 := hz15.mono (iE_ok _) hF70
 replace hz32 := hz32.mono (iE_ok _) hF70
 replace hz46 := hz46.mono (iE_ok _) hF70
 replace hz64 := hz64.mono (iE_ok _) hF70
 replace hz4 := hF70 _ _ hz4
 replace hz21 := hF70 _ _ hz21
 replace hz53 := hF70 _ _ hz53
 have h72 : RowR 1 (iE .i64) F69 (some ⟨b68, 0, none⟩) 2 [0, 2] := RowR.of_block (iE_ok _) (vss := [[.int .i64 0], [.int .i64 2]]) (xs := [0, 2]) hz71 (.cons rfl (.cons rfl .nil)) rfl (by simp [maxLen])
 obtain ⟨l5, n5, h73, r74⟩ := b2_ok r56; clear r56
 refine o_callTO (Lb := []) (Lt := Lb31 ++ []) (Lr := (b36, .cells #[.int .i64 n2, .slice a29 n33 c30] 24 (0, 0)) :: ((b35, .cells #[.int .i64 n, .slice a12 n16 c13] 24 (0, 0)) :: (Lb63 ++ (Lb14 ++ (Lb45 ++ []))))) rfl Try.call59 rfl rfl rfl (pT ((fC (fC (fS (fS (fS fP))))).trans (pA pR)) (ln (lp (ln rfl)))) (fun F2 h2 h3 => by rw [(SlR.caps hz32).1]; exact hear_Fewest_w (hz32.row (iE_ok _) h2 (fun p hp => h3 p (List.mem_append_left _ hp))) (h72.mono (iE_ok _) h2) h73) (fun _ _ _ _ hq => by obtain ⟨a79, n83, c80, Lb81, rfl, rfl, hz82⟩ := hq; exact ⟨_, _, _, _, rfl, rfl, hz82.flat (fun _ _ h => h)⟩) ?_; rintro _ F75 _ hF76 hd78 hn77 ⟨a79, n83, c80, Lb81, rfl, rfl, hz82⟩
 replace h5 := h5.mono sE_ok hF76
 replace h22 := h22.mono sE_ok hF76
 replace h54 := h54.mono (iE_ok _) hF76
 replace h72 := h72.mono (iE_ok _) hF76
 replace hz15 := hz15.mono (iE_ok _) hF76
 replace hz32 := hz32.mono (iE_ok _) hF76
 replace hz46 := hz46.mono (iE_ok _) hF76
 replace hz64 := hz64.mono (iE_ok _) hF76
 replace hz4 := hF76 _ _ hz4
 replace hz21 := hF76 _ _ hz21
 replace hz53 := hF76 _ _ hz53
 replace hz71 := hF76 _ _ hz71
 have hn85 := newp (Lb' := []) (by rfl) hd78 hn77
 replace hz82 := hz82.new fun p hp => hn85 p (by simp [hp])
 refine shO_L (lp (ln (lp (ln rfl)))) ?_
 refine kO (kf (fS (fS fO)) (kf (fS (fS fO)) kr)) ?_
 refine om rfl rfl (ox rfl rfl rfl (ox rfl rfl rfl (oa rfl rfl (oa rfl rfl (nsr ?_)))))
 refine ov (v_loadA (cs := #[.int .i64 n2, .slice a29 n33 c30]) Try.isAgg24 Try.sizeOf24 rfl (Has.own 0 rfl) (Nat.le_of_ble_eq_true rfl) rfl) rfl ?_
 refine o_buildSlice (cs := #[.int .i64 3, .int .i64 0, .int .i64 3, .int .i64 5, .int .i64 0, .int .i64 5]) rfl rfl (buildSlice_all slt_26 [.int .i64 3, .int .i64 0, .int .i64 3, .int .i64 5, .int .i64 0, .int .i64 5] rfl (by decide) (by simp [Value.cells]) (by decide)) ?_; intro b86 hb86
 refine shO_freeze 0 rfl hb86 ?_; intro F87 hF88 hz89
 refine shO_L (L' := (b36, .cells #[.int .i64 n2, .slice a29 n33 c30] 24 (0, 0)) :: ((b35, .cells #[.int .i64 n, .slice a12 n16 c13] 24 (0, 0)) :: (Lb81 ++ (Lb31 ++ (Lb63 ++ (Lb14 ++ (Lb45 ++ []))))))) rfl ?_
 replace h5 := h5.mono sE_ok hF88
 replace h22 := h22.mono sE_ok hF88
 replace h54 := h54.mono (iE_ok _) hF88
 replace h72 := h72.mono (iE_ok _) hF88
 replace hz15 := hz15.mono (iE_ok _) hF88
 replace hz32 := hz32.mono (iE_ok _) hF88
 replace hz46 := hz46.mono (iE_ok _) hF88
 replace hz64 := hz64.mono (iE_ok _) hF88
 replace hz82 := hz82.mono (iE_ok _) hF88
 replace hz4 := hF88 _ _ hz4
 replace hz21 := hF88 _ _ hz21
 replace hz53 := hF88 _ _ hz53
 replace hz71 := hF88 _ _ hz71
 have h90 : RowR 1 (iE .i64) F87 (some ⟨b86, 0, none⟩) 6 [3, 0, 3, 5, 0, 5] := RowR.of_block (iE_ok _) (vss := [[.int .i64 3], [.int .i64 0], [.int .i64 3], [.int .i64 5], [.int .i64 0], [.int .i64 5]]) (xs := [3, 0, 3, 5, 0, 5]) hz89 (.cons rfl (.cons rfl (.cons rfl (.cons rfl (.cons rfl (.cons rfl .nil)))))) rfl (by simp [maxLen])
 obtain ⟨ok, n6, h91, r92⟩ := b2_ok r74; clear r74
 refine o_callT (Lt := Lb31 ++ []) (Lr := (b36, .cells #[.int .i64 n2, .slice a29 n33 c30] 24 (0, 0)) :: ((b35, .cells #[.int .i64 n, .slice a12 n16 c13] 24 (0, 0)) :: (Lb81 ++ (Lb63 ++ (Lb14 ++ (Lb45 ++ [])))))) rfl Try.call24 rfl rfl rfl (pT ((fC (fC (fS fP))).trans (pA pR)) (lp (ln rfl))) (fun F2 h2 h3 => by rw [(SlR.caps hz32).1]; exact hear_Holds_w (hz32.row (iE_ok _) h2 (fun p hp => h3 p (List.mem_append_left _ hp))) (h90.mono (iE_ok _) h2) h91) ?_
 refine om rfl rfl (ox rfl rfl rfl (ox rfl rfl rfl (oa rfl rfl (oa rfl rfl (shO_nil (shW_seq ?_))))))
 obtain ⟨k, h93, r94⟩ := b1_ok r92; clear r92
 refine shW_join (fun e1 F1 L1 => FExt F87 F1 ∧ L1 = ((b36, .cells #[.int .i64 n2, .slice a29 n33 c30] 24 (0, 0)) :: ((b35, .cells #[.int .i64 n, .slice a12 n16 c13] 24 (0, 0)) :: (Lb14 ++ (Lb31 ++ [])))) ∧ e1.sub [(1, .pointer (some ⟨b35, 0, none⟩)), (2, .pointer (some ⟨b36, 0, none⟩)), (77, .bool k)]) ?_ ?_
 · clear r94
   refine shW_region (om rfl rfl ?_)
   refine ov (v_neq rfl rfl) rfl ?_
   refine om rfl rfl ?_
   by_cases c95 : n3 ≠ 0
   · have r96 := ite_t h93 c95; clear h93
     refine shO_off (b' := true) 44 rfl (Env.isT rfl c95) rfl rfl (shO_off (b' := true) 44 rfl (Env.isT rfl c95) rfl rfl ?_)
     refine ov (v_pick_t (evD_true rfl c95) rfl) rfl ?_
     refine om rfl rfl (shO_off (b' := true) 48 rfl rfl rfl rfl (shO_off (b' := true) 48 rfl rfl rfl rfl ?_))
     refine ov (v_pick_t rfl rfl) rfl ?_
     refine om rfl rfl (shO_off (b' := true) 52 rfl rfl rfl rfl (shO_off (b' := true) 52 rfl rfl rfl rfl ?_))
     refine ov (v_pick_t rfl rfl) rfl ?_
     refine om rfl rfl (shO_off (b' := true) 56 rfl rfl rfl rfl (shO_off (b' := true) 56 rfl rfl rfl rfl ?_))
     refine ov (v_pick_t rfl rfl) rfl ?_
     refine om rfl rfl (shO_off (b' := true) 60 rfl rfl rfl rfl (shO_off (b' := true) 60 rfl rfl rfl rfl (shO_off (b' := true) 60 rfl rfl rfl rfl (shO_off (b' := true) 60 rfl rfl rfl rfl ?_))))
     refine ov (v_pick_t rfl rfl) rfl ?_
     refine om rfl rfl (shO_off (b' := true) 66 rfl rfl rfl rfl (shO_off (b' := true) 66 rfl rfl rfl rfl (shO_off (b' := true) 66 rfl rfl rfl rfl (shO_off (b' := true) 66 rfl rfl rfl rfl ?_))))
     refine ov (v_pick_t rfl rfl) rfl ?_
     refine om rfl rfl (shO_off (b' := true) 72 rfl rfl rfl rfl (shO_off (b' := true) 72 rfl rfl rfl rfl (shO_off (b' := true) 72 rfl rfl rfl rfl (shO_off (b' := true) 72 rfl rfl rfl rfl ?_))))
     refine ov (v_pick_t rfl rfl) rfl ?_
     refine shO_nil ?_
     obtain rfl := inj1 r96
     exact mi (kc (kc (kx (kg (fS (fS fP)) (ka kn))))) ⟨FExt.refl _, rfl, (sc rfl (sc rfl (sc rfl (sn _))))⟩
   have r97 := ite_f h93 c95; clear h93
   refine shO_on (b := false) 44 rfl (Env.isF rfl c95) (om rfl rfl (shO_on (b := false) 44 rfl (Env.isF rfl c95) ?_))
   refine ov (v_neq rfl rfl) rfl ?_
   refine ov (v_pick_f (evD_false rfl c95) rfl) rfl ?_
   refine om rfl rfl ?_
   by_cases c98 : n4 ≠ 0
   · have r99 := ite_t r97 c98; clear r97
     refine shO_off (b' := true) 48 rfl (Env.isT rfl c98) rfl rfl (shO_off (b' := true) 48 rfl (Env.isT rfl c98) rfl rfl ?_)
     refine ov (v_pick_t (evD_true rfl c98) rfl) rfl ?_
     refine om rfl rfl (shO_off (b' := true) 52 rfl rfl rfl rfl (shO_off (b' := true) 52 rfl rfl rfl rfl ?_))
     refine ov (v_pick_t rfl rfl) rfl ?_
     refine om rfl rfl (shO_off (b' := true) 56 rfl rfl rfl rfl (shO_off (b' := true) 56 rfl rfl rfl rfl ?_))
     refine ov (v_pick_t rfl rfl) rfl ?_
     refine om rfl rfl (shO_off (b' := true) 60 rfl rfl rfl rfl (shO_off (b' := true) 60 rfl rfl rfl rfl (shO_off (b' := true) 60 rfl rfl rfl rfl (shO_off (b' := true) 60 rfl rfl rfl rfl ?_))))
     refine ov (v_pick_t rfl rfl) rfl ?_
     refine om rfl rfl (shO_off (b' := true) 66 rfl rfl rfl rfl (shO_off (b' := true) 66 rfl rfl rfl rfl (shO_off (b' := true) 66 rfl rfl rfl rfl (shO_off (b' := true) 66 rfl rfl rfl rfl ?_))))
     refine ov (v_pick_t rfl rfl) rfl ?_
     refine om rfl rfl (shO_off (b' := true) 72 rfl rfl rfl rfl (shO_off (b' := true) 72 rfl rfl rfl rfl (shO_off (b' := true) 72 rfl rfl rfl rfl (shO_off (b' := true) 72 rfl rfl rfl rfl ?_))))
     refine ov (v_pick_t rfl rfl) rfl ?_
     refine shO_nil ?_
     obtain rfl := inj1 r99
     exact mi (kc (kc (kx (kg (fS (fS fP)) (ka kn))))) ⟨FExt.refl _, rfl, (sc rfl (sc rfl (sc rfl (sn _))))⟩
   have r100 := ite_f r97 c98; clear r97
   refine shO_on (b := false) 48 rfl (Env.isF rfl c98) (om rfl rfl (shO_on (b := false) 48 rfl (Env.isF rfl c98) ?_))
   refine ov (v_neq rfl rfl) rfl ?_
   refine ov (v_pick_f (evD_false rfl c98) rfl) rfl ?_
   refine om rfl rfl ?_
   by_cases c101 : n5 ≠ 0
   · have r102 := ite_t r100 c101; clear r100
     refine shO_off (b' := true) 52 rfl (Env.isT rfl c101) rfl rfl (shO_off (b' := true) 52 rfl (Env.isT rfl c101) rfl rfl ?_)
     refine ov (v_pick_t (evD_true rfl c101) rfl) rfl ?_
     refine om rfl rfl (shO_off (b' := true) 56 rfl rfl rfl rfl (shO_off (b' := true) 56 rfl rfl rfl rfl ?_))
     refine ov (v_pick_t rfl rfl) rfl ?_
     refine om rfl rfl (shO_off (b' := true) 60 rfl rfl rfl rfl (shO_off (b' := true) 60 rfl rfl rfl rfl (shO_off (b' := true) 60 rfl rfl rfl rfl (shO_off (b' := true) 60 rfl rfl rfl rfl ?_))))
     refine ov (v_pick_t rfl rfl) rfl ?_
     refine om rfl rfl (shO_off (b' := true) 66 rfl rfl rfl rfl (shO_off (b' := true) 66 rfl rfl rfl rfl (shO_off (b' := true) 66 rfl rfl rfl rfl (shO_off (b' := true) 66 rfl rfl rfl rfl ?_))))
     refine ov (v_pick_t rfl rfl) rfl ?_
     refine om rfl rfl (shO_off (b' := true) 72 rfl rfl rfl rfl (shO_off (b' := true) 72 rfl rfl rfl rfl (shO_off (b' := true) 72 rfl rfl rfl rfl (shO_off (b' := true) 72 rfl rfl rfl rfl ?_))))
     refine ov (v_pick_t rfl rfl) rfl ?_
     refine shO_nil ?_
     obtain rfl := inj1 r102
     exact mi (kc (kc (kx (kg (fS (fS fP)) (ka kn))))) ⟨FExt.refl _, rfl, (sc rfl (sc rfl (sc rfl (sn _))))⟩
   have r103 := ite_f r100 c101; clear r100
   refine shO_on (b := false) 52 rfl (Env.isF rfl c101) (om rfl rfl (shO_on (b := false) 52 rfl (Env.isF rfl c101) ?_))
   refine ov (v_neq rfl rfl) rfl ?_
   refine ov (v_pick_f (evD_false rfl c101) rfl) rfl ?_
   refine om rfl rfl ?_
   by_cases c104 : n6 ≠ 0
   · have r105 := ite_t r103 c104; clear r103
     refine shO_off (b' := true) 56 rfl (Env.isT rfl c104) rfl rfl (shO_off (b' := true) 56 rfl (Env.isT rfl c104) rfl rfl ?_)
     refine ov (v_pick_t (evD_true rfl c104) rfl) rfl ?_
     refine om rfl rfl (shO_off (b' := true) 60 rfl rfl rfl rfl (shO_off (b' := true) 60 rfl rfl rfl rfl (shO_off (b' := true) 60 rfl rfl rfl rfl (shO_off (b' := true) 60 rfl rfl rfl rfl ?_))))
     refine ov (v_pick_t rfl rfl) rfl ?_
     refine om rfl rfl (shO_off (b' := true) 66 rfl rfl rfl rfl (shO_off (b' := true) 66 rfl rfl rfl rfl (shO_off (b' := true) 66 rfl rfl rfl rfl (shO_off (b' := true) 66 rfl rfl rfl rfl ?_))))
     refine ov (v_pick_t rfl rfl) rfl ?_
     refine om rfl rfl (shO_off (b' := true) 72 rfl rfl rfl rfl (shO_off (b' := true) 72 rfl rfl rfl rfl (shO_off (b' := true) 72 rfl rfl rfl rfl (shO_off (b' := true) 72 rfl rfl rfl rfl ?_))))
     refine ov (v_pick_t rfl rfl) rfl ?_
     refine shO_nil ?_
     obtain rfl := inj1 r105
     exact mi (kc (kc (kx (kg (fS (fS fP)) (ka kn))))) ⟨FExt.refl _, rfl, (sc rfl (sc rfl (sc rfl (sn _))))⟩
   have r106 := ite_f r103 c104; clear r103
   refine shO_on (b := false) 56 rfl (Env.isF rfl c104) (om rfl rfl (shO_on (b := false) 56 rfl (Env.isF rfl c104) ?_))
   refine ov (v_notB rfl) rfl ?_
   refine ov (v_pick_f (evD_false rfl c104) rfl) rfl ?_
   refine om rfl rfl ?_
   rcases bool_two (!ok) with c107 | c107
   · have r108 := bt r106 c107; clear r106
     refine shO_off (b' := true) 60 rfl (EnvB rfl c107) rfl rfl (shO_off (b' := true) 60 rfl (EnvB rfl c107) rfl rfl (shO_off (b' := true) 60 rfl (EnvB rfl c107) rfl rfl (shO_off (b' := true) 60 rfl (EnvB rfl c107) rfl rfl ?_)))
     refine ov (v_pick_t (evB rfl c107) rfl) rfl ?_
     refine om rfl rfl (shO_off (b' := true) 66 rfl rfl rfl rfl (shO_off (b' := true) 66 rfl rfl rfl rfl (shO_off (b' := true) 66 rfl rfl rfl rfl (shO_off (b' := true) 66 rfl rfl rfl rfl ?_))))
     refine ov (v_pick_t rfl rfl) rfl ?_
     refine om rfl rfl (shO_off (b' := true) 72 rfl rfl rfl rfl (shO_off (b' := true) 72 rfl rfl rfl rfl (shO_off (b' := true) 72 rfl rfl rfl rfl (shO_off (b' := true) 72 rfl rfl rfl rfl ?_))))
     refine ov (v_pick_t rfl rfl) rfl ?_
     refine shO_nil ?_
     obtain rfl := inj1 r108
     exact mi (kc (kc (kx (kg (fS (fS fP)) (ka kn))))) ⟨FExt.refl _, rfl, (sc rfl (sc rfl (sc rfl (sn _))))⟩
   have r109 := bf r106 c107; clear r106
   refine shO_on (b := false) 60 rfl (EnvB rfl c107) (om rfl rfl (shO_on (b := false) 60 rfl (EnvB rfl c107) ?_))
   refine o_buildSlice (cs := #[.int .i64 0, .int .i64 5, .int .i64 9, .int .i64 14]) rfl rfl (buildSlice_all slt_26 [.int .i64 0, .int .i64 5, .int .i64 9, .int .i64 14] rfl (by decide) (by simp [Value.cells]) (by decide)) ?_; intro b110 hb110
   refine shO_on (b := false) 60 rfl (EnvB rfl c107) ?_
   refine shO_freeze 0 rfl hb110 ?_; intro F111 hF112 hz113
   refine shO_L (L' := (b36, .cells #[.int .i64 n2, .slice a29 n33 c30] 24 (0, 0)) :: ((b35, .cells #[.int .i64 n, .slice a12 n16 c13] 24 (0, 0)) :: (Lb81 ++ (Lb31 ++ (Lb63 ++ (Lb14 ++ (Lb45 ++ []))))))) rfl ?_
   replace h5 := h5.mono sE_ok hF112
   replace h22 := h22.mono sE_ok hF112
   replace h54 := h54.mono (iE_ok _) hF112
   replace h72 := h72.mono (iE_ok _) hF112
   replace h90 := h90.mono (iE_ok _) hF112
   replace hz15 := hz15.mono (iE_ok _) hF112
   replace hz32 := hz32.mono (iE_ok _) hF112
   replace hz46 := hz46.mono (iE_ok _) hF112
   replace hz64 := hz64.mono (iE_ok _) hF112
   replace hz82 := hz82.mono (iE_ok _) hF112
   replace hz4 := hF112 _ _ hz4
   replace hz21 := hF112 _ _ hz21
   replace hz53 := hF112 _ _ hz53
   replace hz71 := hF112 _ _ hz71
   replace hz89 := hF112 _ _ hz89
   have h114 : RowR 1 (iE .i64) F111 (some ⟨b110, 0, none⟩) 4 [0, 5, 9, 14] := RowR.of_block (iE_ok _) (vss := [[.int .i64 0], [.int .i64 5], [.int .i64 9], [.int .i64 14]]) (xs := [0, 5, 9, 14]) hz113 (.cons rfl (.cons rfl (.cons rfl (.cons rfl .nil)))) rfl (by simp [maxLen])
   obtain ⟨ok2, h115, r116⟩ := b1_ok r109; clear r109
   refine o_callT (Lt := Lb45 ++ []) (Lr := (b36, .cells #[.int .i64 n2, .slice a29 n33 c30] 24 (0, 0)) :: ((b35, .cells #[.int .i64 n, .slice a12 n16 c13] 24 (0, 0)) :: (Lb81 ++ (Lb31 ++ (Lb63 ++ (Lb14 ++ [])))))) rfl Try.call23 rfl rfl rfl (pT ((fC (fC (fS (fS (fS (fS fP)))))).trans (pA pR)) (lp (ln rfl))) (fun F2 h2 h3 => by rw [(SlR.caps hz46).1]; exact oyezkit_Like_int_w (hz46.row (iE_ok _) h2 (fun p hp => h3 p (List.mem_append_left _ hp))) (h114.mono (iE_ok _) h2) h115) ?_
   refine shO_on (b := false) 60 rfl (EnvB rfl c107) ?_
   refine ov (v_notB rfl) rfl ?_
   refine ov (v_pick_f (evB rfl c107) rfl) rfl ?_
   refine om rfl rfl ?_
   rcases bool_two (!ok2) with c117 | c117
   · have r118 := bt r116 c117; clear r116
     refine shO_off (b' := true) 66 rfl (EnvB rfl c117) rfl rfl (shO_off (b' := true) 66 rfl (EnvB rfl c117) rfl rfl (shO_off (b' := true) 66 rfl (EnvB rfl c117) rfl rfl (shO_off (b' := true) 66 rfl (EnvB rfl c117) rfl rfl ?_)))
     refine ov (v_pick_t (evB rfl c117) rfl) rfl ?_
     refine om rfl rfl (shO_off (b' := true) 72 rfl rfl rfl rfl (shO_off (b' := true) 72 rfl rfl rfl rfl (shO_off (b' := true) 72 rfl rfl rfl rfl (shO_off (b' := true) 72 rfl rfl rfl rfl ?_))))
     refine ov (v_pick_t rfl rfl) rfl ?_
     refine shO_nil ?_
     obtain rfl := inj1 r118
     exact mi (kc (kc (kx (kg (fS (fS fP)) (ka kn))))) ⟨hF112, rfl, (sc rfl (sc rfl (sc rfl (sn _))))⟩
   have r119 := bf r116 c117; clear r116
   refine shO_on (b := false) 66 rfl (EnvB rfl c117) (om rfl rfl (shO_on (b := false) 66 rfl (EnvB rfl c117) ?_))
   refine o_buildSlice (cs := #[.int .i64 2]) rfl rfl (buildSlice_all slt_26 [.int .i64 2] rfl (by decide) (by simp [Value.cells]) (by decide)) ?_; intro b120 hb120
   refine shO_on (b := false) 66 rfl (EnvB rfl c117) ?_
   refine shO_freeze 0 rfl hb120 ?_; intro F121 hF122 hz123
   refine shO_L (L' := (b36, .cells #[.int .i64 n2, .slice a29 n33 c30] 24 (0, 0)) :: ((b35, .cells #[.int .i64 n, .slice a12 n16 c13] 24 (0, 0)) :: (Lb81 ++ (Lb31 ++ (Lb63 ++ (Lb14 ++ (Lb45 ++ []))))))) rfl ?_
   replace h5 := h5.mono sE_ok hF122
   replace h22 := h22.mono sE_ok hF122
   replace h54 := h54.mono (iE_ok _) hF122
   replace h72 := h72.mono (iE_ok _) hF122
   replace h90 := h90.mono (iE_ok _) hF122
   replace h114 := h114.mono (iE_ok _) hF122
   replace hz15 := hz15.mono (iE_ok _) hF122
   replace hz32 := hz32.mono (iE_ok _) hF122
   replace hz46 := hz46.mono (iE_ok _) hF122
   replace hz64 := hz64.mono (iE_ok _) hF122
   replace hz82 := hz82.mono (iE_ok _) hF122
   replace hz4 := hF122 _ _ hz4
   replace hz21 := hF122 _ _ hz21
   replace hz53 := hF122 _ _ hz53
   replace hz71 := hF122 _ _ hz71
   replace hz89 := hF122 _ _ hz89
   replace hz113 := hF122 _ _ hz113
   have h124 : RowR 1 (iE .i64) F121 (some ⟨b120, 0, none⟩) 1 [2] := RowR.of_block (iE_ok _) (vss := [[.int .i64 2]]) (xs := [2]) hz123 (.cons rfl .nil) rfl (by simp [maxLen])
   obtain ⟨ok3, h125, r126⟩ := b1_ok r119; clear r119
   refine o_callT (Lt := Lb63 ++ []) (Lr := (b36, .cells #[.int .i64 n2, .slice a29 n33 c30] 24 (0, 0)) :: ((b35, .cells #[.int .i64 n, .slice a12 n16 c13] 24 (0, 0)) :: (Lb81 ++ (Lb31 ++ (Lb14 ++ (Lb45 ++ [])))))) rfl Try.call23 rfl rfl rfl (pT ((fC (fC (fS (fS fP)))).trans (pA pR)) (lp (ln rfl))) (fun F2 h2 h3 => by rw [(SlR.caps hz64).1]; exact oyezkit_Like_int_w (hz64.row (iE_ok _) h2 (fun p hp => h3 p (List.mem_append_left _ hp))) (h124.mono (iE_ok _) h2) h125) ?_
   refine shO_on (b := false) 66 rfl (EnvB rfl c117) ?_
   refine ov (v_notB rfl) rfl ?_
   refine ov (v_pick_f (evB rfl c117) rfl) rfl ?_
   refine om rfl rfl ?_
   rcases bool_two (!ok3) with c127 | c127
   · have r128 := bt r126 c127; clear r126
     refine shO_off (b' := true) 72 rfl (EnvB rfl c127) rfl rfl (shO_off (b' := true) 72 rfl (EnvB rfl c127) rfl rfl (shO_off (b' := true) 72 rfl (EnvB rfl c127) rfl rfl (shO_off (b' := true) 72 rfl (EnvB rfl c127) rfl rfl ?_)))
     refine ov (v_pick_t (evB rfl c127) rfl) rfl ?_
     refine shO_nil ?_
     obtain rfl := inj1 r128
     exact mi (kc (kc (kx (kg (fS (fS fP)) (ka kn))))) ⟨(hF112.trans hF122), rfl, (sc rfl (sc rfl (sc rfl (sn _))))⟩
   have r129 := bf r126 c127; clear r126
   refine shO_on (b := false) 72 rfl (EnvB rfl c127) (om rfl rfl (shO_on (b := false) 72 rfl (EnvB rfl c127) ?_))
   refine o_buildSlice (cs := #[.int .i64 1]) rfl rfl (buildSlice_all slt_26 [.int .i64 1] rfl (by decide) (by simp [Value.cells]) (by decide)) ?_; intro b130 hb130
   refine shO_on (b := false) 72 rfl (EnvB rfl c127) ?_
   refine shO_freeze 0 rfl hb130 ?_; intro F131 hF132 hz133
   refine shO_L (L' := (b36, .cells #[.int .i64 n2, .slice a29 n33 c30] 24 (0, 0)) :: ((b35, .cells #[.int .i64 n, .slice a12 n16 c13] 24 (0, 0)) :: (Lb81 ++ (Lb31 ++ (Lb63 ++ (Lb14 ++ (Lb45 ++ []))))))) rfl ?_
   replace h5 := h5.mono sE_ok hF132
   replace h22 := h22.mono sE_ok hF132
   replace h54 := h54.mono (iE_ok _) hF132
   replace h72 := h72.mono (iE_ok _) hF132
   replace h90 := h90.mono (iE_ok _) hF132
   replace h114 := h114.mono (iE_ok _) hF132
   replace h124 := h124.mono (iE_ok _) hF132
   replace hz15 := hz15.mono (iE_ok _) hF132
   replace hz32 := hz32.mono (iE_ok _) hF132
   replace hz46 := hz46.mono (iE_ok _) hF132
   replace hz64 := hz64.mono (iE_ok _) hF132
   replace hz82 := hz82.mono (iE_ok _) hF132
   replace hz4 := hF132 _ _ hz4
   replace hz21 := hF132 _ _ hz21
   replace hz53 := hF132 _ _ hz53
   replace hz71 := hF132 _ _ hz71
   replace hz89 := hF132 _ _ hz89
   replace hz113 := hF132 _ _ hz113
   replace hz123 := hF132 _ _ hz123
   have h134 : RowR 1 (iE .i64) F131 (some ⟨b130, 0, none⟩) 1 [1] := RowR.of_block (iE_ok _) (vss := [[.int .i64 1]]) (xs := [1]) hz133 (.cons rfl .nil) rfl (by simp [maxLen])
   obtain ⟨ok4, h135, r136⟩ := b1_ok r129; clear r129
   refine o_callT (Lt := Lb81 ++ []) (Lr := (b36, .cells #[.int .i64 n2, .slice a29 n33 c30] 24 (0, 0)) :: ((b35, .cells #[.int .i64 n, .slice a12 n16 c13] 24 (0, 0)) :: (Lb31 ++ (Lb63 ++ (Lb14 ++ (Lb45 ++ [])))))) rfl Try.call23 rfl rfl rfl (pT ((fC (fC fP)).trans (pA pR)) (lp (ln rfl))) (fun F2 h2 h3 => by rw [(SlR.caps hz82).1]; exact oyezkit_Like_int_w (hz82.row (iE_ok _) h2 (fun p hp => h3 p (List.mem_append_left _ hp))) (h134.mono (iE_ok _) h2) h135) ?_
   refine shO_on (b := false) 72 rfl (EnvB rfl c127) ?_
   refine ov (v_notB rfl) rfl ?_
   refine ov (v_pick_f (evB rfl c127) rfl) rfl ?_
   refine shO_nil ?_
   obtain rfl := inj1 r136
   exact mi (kc (kc (kx (kg (fS (fS fP)) (ka kn))))) ⟨((hF112.trans hF122).trans hF132), rfl, (sc rfl (sc rfl (sc rfl (sn _))))⟩
 rintro e1 F138 _ ⟨hF139, rfl, he137⟩
 refine shW_env _ he137 ?_; clear he137
 replace h5 := h5.mono sE_ok hF139
 replace h22 := h22.mono sE_ok hF139
 replace h54 := h54.mono (iE_ok _) hF139
 replace h72 := h72.mono (iE_ok _) hF139
 replace h90 := h90.mono (iE_ok _) hF139
 replace hz15 := hz15.mono (iE_ok _) hF139
 replace hz32 := hz32.mono (iE_ok _) hF139
 replace hz4 := hF139 _ _ hz4
 replace hz21 := hF139 _ _ hz21
 replace hz53 := hF139 _ _ hz53
 replace hz71 := hF139 _ _ hz71
 replace hz89 := hF139 _ _ hz89
 refine shW_cond rfl (fun c140 => ?_) (fun c140 => ?_)
 · have r141 := bt r94 c140; clear r94
   refine wsr (oa rfl rfl (shO_nil ?_))
   refine kW kn ?_
   refine shW_ret (andThen_ret ?_)
   refine q_res1 Try.results15 (res_tmp rfl) (sr) ?_
   obtain rfl := inj1 r141
   exact rfl
 have r142 := bf r94 c140; clear r94
 refine shW_skip (wsr ?_)
 refine ov (v_loadA (cs := #[.int .i64 n, .slice a12 n16 c13]) Try.isAgg24 Try.sizeOf24 rfl (Has.own 1 rfl) (Nat.le_of_ble_eq_true rfl) rfl) rfl ?_
 refine o_buildSlice (cs := #[.int .i64 1, .int .i64 3]) rfl rfl (buildSlice_all slt_26 [.int .i64 1, .int .i64 3] rfl (by decide) (by simp [Value.cells]) (by decide)) ?_; intro b143 hb143
 refine shO_freeze 0 rfl hb143 ?_; intro F144 hF145 hz146
 refine shO_L (L' := (b36, .cells #[.int .i64 n2, .slice a29 n33 c30] 24 (0, 0)) :: ((b35, .cells #[.int .i64 n, .slice a12 n16 c13] 24 (0, 0)) :: (Lb14 ++ (Lb31 ++ [])))) rfl ?_
 replace h5 := h5.mono sE_ok hF145
 replace h22 := h22.mono sE_ok hF145
 replace h54 := h54.mono (iE_ok _) hF145
 replace h72 := h72.mono (iE_ok _) hF145
 replace h90 := h90.mono (iE_ok _) hF145
 replace hz15 := hz15.mono (iE_ok _) hF145
 replace hz32 := hz32.mono (iE_ok _) hF145
 replace hz4 := hF145 _ _ hz4
 replace hz21 := hF145 _ _ hz21
 replace hz53 := hF145 _ _ hz53
 replace hz71 := hF145 _ _ hz71
 replace hz89 := hF145 _ _ hz89
 have h147 : RowR 1 (iE .i64) F144 (some ⟨b143, 0, none⟩) 2 [1, 3] := RowR.of_block (iE_ok _) (vss := [[.int .i64 1], [.int .i64 3]]) (xs := [1, 3]) hz146 (.cons rfl (.cons rfl .nil)) rfl (by simp [maxLen])
 obtain ⟨n7, n8, h148, r149⟩ := b2_ok r142; clear r142
 refine o_callT (Lt := Lb14 ++ []) (Lr := (b36, .cells #[.int .i64 n2, .slice a29 n33 c30] 24 (0, 0)) :: ((b35, .cells #[.int .i64 n, .slice a12 n16 c13] 24 (0, 0)) :: (Lb31 ++ []))) rfl Try.call29 rfl rfl rfl (pT ((fC (fC fP)).trans (pA pR)) (lp (ln rfl))) (fun F2 h2 h3 => by rw [(SlR.caps hz15).1]; exact hear_Louder_w (hz15.row (iE_ok _) h2 (fun p hp => h3 p (List.mem_append_left _ hp))) (h147.mono (iE_ok _) h2) h148) ?_
 refine om rfl rfl (ox rfl rfl rfl (ox rfl rfl rfl (oa rfl rfl (oa rfl rfl (nsr ?_)))))
 refine ov (v_loadA (cs := #[.int .i64 n2, .slice a29 n33 c30]) Try.isAgg24 Try.sizeOf24 rfl (Has.own 0 rfl) (Nat.le_of_ble_eq_true rfl) rfl) rfl ?_
 obtain ⟨l6, n9, h150, r151⟩ := b2_ok r149; clear r149
 refine o_callTO (Lb := []) (Lt := Lb31 ++ []) (Lr := (b36, .cells #[.int .i64 n2, .slice a29 n33 c30] 24 (0, 0)) :: ((b35, .cells #[.int .i64 n, .slice a12 n16 c13] 24 (0, 0)) :: (Lb14 ++ []))) rfl Try.call47 rfl rfl rfl (pT ((fC (fC (fS fP))).trans (pA pR)) (ln (lp (ln rfl)))) (fun F2 h2 h3 => by rw [(SlR.caps hz32).1]; exact hear_Way_w (hz32.row (iE_ok _) h2 (fun p hp => h3 p (List.mem_append_left _ hp))) h150) (fun _ _ _ _ hq => by obtain ⟨a156, n160, c157, Lb158, rfl, rfl, hz159⟩ := hq; exact ⟨_, _, _, _, rfl, rfl, hz159.flat (fun _ _ h => h)⟩) ?_; rintro _ F152 _ hF153 hd155 hn154 ⟨a156, n160, c157, Lb158, rfl, rfl, hz159⟩
 replace h5 := h5.mono sE_ok hF153
 replace h22 := h22.mono sE_ok hF153
 replace h54 := h54.mono (iE_ok _) hF153
 replace h72 := h72.mono (iE_ok _) hF153
 replace h90 := h90.mono (iE_ok _) hF153
 replace h147 := h147.mono (iE_ok _) hF153
 replace hz15 := hz15.mono (iE_ok _) hF153
 replace hz32 := hz32.mono (iE_ok _) hF153
 replace hz4 := hF153 _ _ hz4
 replace hz21 := hF153 _ _ hz21
 replace hz53 := hF153 _ _ hz53
 replace hz71 := hF153 _ _ hz71
 replace hz89 := hF153 _ _ hz89
 replace hz146 := hF153 _ _ hz146
 have hn162 := newp (Lb' := []) (by rfl) hd155 hn154
 replace hz159 := hz159.new fun p hp => hn162 p (by simp [hp])
 refine shO_L (lp (ln (lp (ln rfl)))) ?_
 refine kO (kf (fS (fS fO)) (kf (fS (fS fO)) kr)) ?_
 refine om rfl rfl (ox rfl rfl rfl (ox rfl rfl rfl (oa rfl rfl (oa rfl rfl (nsr ?_)))))
 refine o_buildSlice (cs := #[.string (sB [115, 104, 119, 104])]) rfl rfl (buildSlice_all slt_155 [.string (sB [115, 104, 119, 104])] rfl (by decide) (by simp [Value.cells]) (by decide)) ?_; intro b163 hb163
 refine shO_freeze 0 rfl hb163 ?_; intro F164 hF165 hz166
 refine shO_L (L' := (b36, .cells #[.int .i64 n2, .slice a29 n33 c30] 24 (0, 0)) :: ((b35, .cells #[.int .i64 n, .slice a12 n16 c13] 24 (0, 0)) :: (Lb158 ++ (Lb31 ++ (Lb14 ++ []))))) rfl ?_
 replace h5 := h5.mono sE_ok hF165
 replace h22 := h22.mono sE_ok hF165
 replace h54 := h54.mono (iE_ok _) hF165
 replace h72 := h72.mono (iE_ok _) hF165
 replace h90 := h90.mono (iE_ok _) hF165
 replace h147 := h147.mono (iE_ok _) hF165
 replace hz15 := hz15.mono (iE_ok _) hF165
 replace hz32 := hz32.mono (iE_ok _) hF165
 replace hz159 := hz159.mono (iE_ok _) hF165
 replace hz4 := hF165 _ _ hz4
 replace hz21 := hF165 _ _ hz21
 replace hz53 := hF165 _ _ hz53
 replace hz71 := hF165 _ _ hz71
 replace hz89 := hF165 _ _ hz89
 replace hz146 := hF165 _ _ hz146
 have h167 : RowR 1 sE F164 (some ⟨b163, 0, none⟩) 1 [[115, 104, 119, 104]] := RowR.of_block sE_ok (vss := [[.string (sB [115, 104, 119, 104])]]) (xs := [[115, 104, 119, 104]]) hz166 (.cons rfl .nil) rfl (by simp [maxLen])
 obtain ⟨n10, l7, h168, r169⟩ := b2_ok r151; clear r151
 refine o_call0 rfl Try.call75 rfl rfl rfl (oyezlaw01_Drawn_w h167 h168) ?_; rintro _ F170 _ hF171 hn172 ⟨a174, n178, c175, Lb176, rfl, rfl, hz177⟩
 replace h5 := h5.mono sE_ok hF171
 replace h22 := h22.mono sE_ok hF171
 replace h54 := h54.mono (iE_ok _) hF171
 replace h72 := h72.mono (iE_ok _) hF171
 replace h90 := h90.mono (iE_ok _) hF171
 replace h147 := h147.mono (iE_ok _) hF171
 replace h167 := h167.mono sE_ok hF171
 replace hz15 := hz15.mono (iE_ok _) hF171
 replace hz32 := hz32.mono (iE_ok _) hF171
 replace hz159 := hz159.mono (iE_ok _) hF171
 replace hz4 := hF171 _ _ hz4
 replace hz21 := hF171 _ _ hz21
 replace hz53 := hF171 _ _ hz53
 replace hz71 := hF171 _ _ hz71
 replace hz89 := hF171 _ _ hz89
 replace hz146 := hF171 _ _ hz146
 replace hz166 := hF171 _ _ hz166
 replace hz177 := hz177.new fun p hp => hn172 p (by simp [hp])
 refine shO_L (lp (ln rfl)) ?_
 refine kO (kf (fS fO) (kf (fS fO) kr)) ?_
 obtain ⟨n11, n12, h180, r181⟩ := b2_ok r169; clear r169
 refine o_callT (Lt := Lb176 ++ []) (Lr := (b36, .cells #[.int .i64 n2, .slice a29 n33 c30] 24 (0, 0)) :: ((b35, .cells #[.int .i64 n, .slice a12 n16 c13] 24 (0, 0)) :: (Lb158 ++ (Lb31 ++ (Lb14 ++ []))))) rfl Try.call19 rfl rfl rfl (pT ((fC (fC fP)).trans (pA pR)) (lp (ln rfl))) (fun F2 h2 h3 => by rw [(SlR.caps hz177).1]; exact hear_Need_w (hz177.row (iE_ok _) h2 (fun p hp => h3 p (List.mem_append_left _ hp))) h180) ?_
 refine om rfl rfl (ox rfl rfl rfl (ox rfl rfl rfl (oa rfl rfl (nsr (om rfl rfl ?_)))))
 refine ov (v_eql rfl rfl) rfl ?_
 refine om rfl rfl ?_
 by_cases c182 : n8 = 0
 · have r183 := ite_t r181 c182; clear r181
   refine shO_on (b := true) 97 rfl (Env.isT rfl c182) (om rfl rfl (shO_on (b := true) 97 rfl (Env.isT rfl c182) ?_))
   refine ov (v_eql rfl rfl) rfl ?_
   refine ov (v_pick_t (evD_true rfl c182) rfl) rfl ?_
   refine om rfl rfl ?_
   by_cases c184 : n9 = 0
   · have r185 := ite_t r183 c184; clear r183
     refine shO_on (b := true) 101 rfl (Env.isT rfl c184) (om rfl rfl (shO_on (b := true) 101 rfl (Env.isT rfl c184) ?_))
     refine ov (v_eql rfl rfl) rfl ?_
     refine ov (v_pick_t (evD_true rfl c184) rfl) rfl ?_
     refine om rfl rfl ?_
     by_cases c186 : n7 = 5
     · have r187 := ite_t r185 c186; clear r185
       refine shO_on (b := true) 105 rfl (Env.isT rfl c186) (om rfl rfl (shO_on (b := true) 105 rfl (Env.isT rfl c186) ?_))
       refine o_buildSlice (cs := #[.int .i64 3, .int .i64 0, .int .i64 1, .int .i64 2]) rfl rfl (buildSlice_all slt_26 [.int .i64 3, .int .i64 0, .int .i64 1, .int .i64 2] rfl (by decide) (by simp [Value.cells]) (by decide)) ?_; intro b188 hb188
       refine shO_on (b := true) 105 rfl (Env.isT rfl c186) ?_
       refine shO_freeze 0 rfl hb188 ?_; intro F189 hF190 hz191
       refine shO_L (L' := (b36, .cells #[.int .i64 n2, .slice a29 n33 c30] 24 (0, 0)) :: ((b35, .cells #[.int .i64 n, .slice a12 n16 c13] 24 (0, 0)) :: (Lb176 ++ (Lb158 ++ (Lb31 ++ (Lb14 ++ [])))))) rfl ?_
       replace h5 := h5.mono sE_ok hF190
       replace h22 := h22.mono sE_ok hF190
       replace h54 := h54.mono (iE_ok _) hF190
       replace h72 := h72.mono (iE_ok _) hF190
       replace h90 := h90.mono (iE_ok _) hF190
       replace h147 := h147.mono (iE_ok _) hF190
       replace h167 := h167.mono sE_ok hF190
       replace hz15 := hz15.mono (iE_ok _) hF190
       replace hz32 := hz32.mono (iE_ok _) hF190
       replace hz159 := hz159.mono (iE_ok _) hF190
       replace hz177 := hz177.mono (iE_ok _) hF190
       replace hz4 := hF190 _ _ hz4
       replace hz21 := hF190 _ _ hz21
       replace hz53 := hF190 _ _ hz53
       replace hz71 := hF190 _ _ hz71
       replace hz89 := hF190 _ _ hz89
       replace hz146 := hF190 _ _ hz146
       replace hz166 := hF190 _ _ hz166
       have h192 : RowR 1 (iE .i64) F189 (some ⟨b188, 0, none⟩) 4 [3, 0, 1, 2] := RowR.of_block (iE_ok _) (vss := [[.int .i64 3], [.int .i64 0], [.int .i64 1], [.int .i64 2]]) (xs := [3, 0, 1, 2]) hz191 (.cons rfl (.cons rfl (.cons rfl (.cons rfl .nil)))) rfl (by simp [maxLen])
       obtain ⟨ok5, h193, r194⟩ := b1_ok r187; clear r187
       refine o_callT (Lt := Lb158 ++ []) (Lr := (b36, .cells #[.int .i64 n2, .slice a29 n33 c30] 24 (0, 0)) :: ((b35, .cells #[.int .i64 n, .slice a12 n16 c13] 24 (0, 0)) :: (Lb176 ++ (Lb31 ++ (Lb14 ++ []))))) rfl Try.call23 rfl rfl rfl (pT ((fC (fC (fS fP))).trans (pA pR)) (lp (ln rfl))) (fun F2 h2 h3 => by rw [(SlR.caps hz159).1]; exact oyezkit_Like_int_w (hz159.row (iE_ok _) h2 (fun p hp => h3 p (List.mem_append_left _ hp))) (h192.mono (iE_ok _) h2) h193) ?_
       refine ov (v_pick_t (evD_true rfl c186) rfl) rfl ?_
       refine om rfl rfl ?_
       rcases bool_two ok5 with c195 | c195
       · have r196 := bt r194 c195; clear r194
         refine shO_on (b := true) 110 rfl (EnvB rfl c195) (om rfl rfl (shO_on (b := true) 110 rfl (EnvB rfl c195) ?_))
         refine ov (v_eql rfl rfl) rfl ?_
         refine ov (v_pick_t (evB rfl c195) rfl) rfl ?_
         refine oa rfl rfl (shO_nil ?_)
         refine kW kn ?_
         refine shW_ret ?_
         refine q_res1 Try.results15 (res_tmp rfl) (sr) ?_
         obtain rfl := inj1 r196
         exact rfl
       have r197 := bf r194 c195; clear r194
       refine shO_off (b' := false) 110 rfl (EnvB rfl c195) rfl rfl (shO_off (b' := false) 110 rfl (EnvB rfl c195) rfl rfl ?_)
       refine ov (v_pick_f (evB rfl c195) rfl) rfl ?_
       refine oa rfl rfl (shO_nil ?_)
       refine kW kn ?_
       refine shW_ret ?_
       refine q_res1 Try.results15 (res_tmp rfl) (sr) ?_
       obtain rfl := inj1 r197
       exact rfl
     have r198 := ite_f r185 c186; clear r185
     refine shO_off (b' := false) 105 rfl (Env.isF rfl c186) rfl rfl (shO_off (b' := false) 105 rfl (Env.isF rfl c186) rfl rfl (shO_off (b' := false) 105 rfl (Env.isF rfl c186) rfl rfl ?_))
     refine ov (v_pick_f (evD_false rfl c186) rfl) rfl ?_
     refine om rfl rfl (shO_off (b' := false) 110 rfl rfl rfl rfl (shO_off (b' := false) 110 rfl rfl rfl rfl ?_))
     refine ov (v_pick_f rfl rfl) rfl ?_
     refine oa rfl rfl (shO_nil ?_)
     refine kW kn ?_
     refine shW_ret ?_
     refine q_res1 Try.results15 (res_tmp rfl) (sr) ?_
     obtain rfl := inj1 r198
     exact rfl
   have r199 := ite_f r183 c184; clear r183
   refine shO_off (b' := false) 101 rfl (Env.isF rfl c184) rfl rfl (shO_off (b' := false) 101 rfl (Env.isF rfl c184) rfl rfl ?_)
   refine ov (v_pick_f (evD_false rfl c184) rfl) rfl ?_
   refine om rfl rfl (shO_off (b' := false) 105 rfl rfl rfl rfl (shO_off (b' := false) 105 rfl rfl rfl rfl (shO_off (b' := false) 105 rfl rfl rfl rfl ?_)))
   refine ov (v_pick_f rfl rfl) rfl ?_
   refine om rfl rfl (shO_off (b' := false) 110 rfl rfl rfl rfl (shO_off (b' := false) 110 rfl rfl rfl rfl ?_))
   refine ov (v_pick_f rfl rfl) rfl ?_
   refine oa rfl rfl (shO_nil ?_)
   refine kW kn ?_
   refine shW_ret ?_
   refine q_res1 Try.results15 (res_tmp rfl) (sr) ?_
   obtain rfl := inj1 r199
   exact rfl
 have r200 := ite_f r181 c182; clear r181
 refine shO_off (b' := false) 97 rfl (Env.isF rfl c182) rfl rfl (shO_off (b' := false) 97 rfl (Env.isF rfl c182) rfl rfl ?_)
 refine ov (v_pick_f (evD_false rfl c182) rfl) rfl ?_
 refine om rfl rfl (shO_off (b' := false) 101 rfl rfl rfl rfl (shO_off (b' := false) 101 rfl rfl rfl rfl ?_))
 refine ov (v_pick_f rfl rfl) rfl ?_
 refine om rfl rfl (shO_off (b' := false) 105 rfl rfl rfl rfl (shO_off (b' := false) 105 rfl rfl rfl rfl (shO_off (b' := false) 105 rfl rfl rfl rfl ?_)))
 refine ov (v_pick_f rfl rfl) rfl ?_
 refine om rfl rfl (shO_off (b' := false) 110 rfl rfl rfl rfl (shO_off (b' := false) 110 rfl rfl rfl rfl ?_))
 refine ov (v_pick_f rfl rfl) rfl ?_
 refine oa rfl rfl (shO_nil ?_)
 refine kW kn ?_
 refine shW_ret ?_
 refine q_res1 Try.results15 (res_tmp rfl) (sr) ?_
 obtain rfl := inj1 r200
 exact rfl


set_option maxHeartbeats 1000000 in
theorem oyezkit_Copy_Plot_w {l_a : Option Addr} {l_c : Nat} {l : List Int} {F : FS} (h_l : RowR 1 (iE .i64) F l_a l_c l) {r : List Int} (hr : oyezkit_Copy_Plot l = some r) :
    SH.Spec Try.prog 76 #[.slice l_a l.length l_c] F [] fun F' L' v => ∃ (ra : Option Addr) (rn : Nat) (rc : Nat) (rL : LH), v = .slice ra rn rc ∧ L' = rL ++ [] ∧ SlR 0 73 1 (iE .i64) F' ra rn rc r rL := by
 refine spec_of_shW (args := [.slice l_a l.length l_c]) Try.func76 rfl Try.ntmps76 (Nat.le_of_ble_eq_true rfl) ?_
 intro K _ _; rw [oyezkit_Copy_Plot] at hr
 refine wsr (oa rfl rfl (nsr (om rfl rfl ?_)))
 refine ov (v_lenS Try.underlying22 rfl) rfl ?_
 obtain ⟨g1, r2⟩ := gd_ok hr; clear hr
 obtain ⟨l2, h3, r4⟩ := bv_ok r2; clear r2
 refine o_makeZ (R := (iE .i64)) (z0 := 0) (zs := l2) rfl slt_22 (by decide) (iE_ok _) (fun _ => rfl) rfl g1 h3 (fun _ => .n) ?_; intro a5 n8 Lb6 hz7
 refine oa rfl rfl (nsr (om rfl rfl (om rfl rfl ?_)))
 obtain ⟨out, h10, r11⟩ := bv_ok r4; clear r4
 refine o_copyZ (ys := l) (zs := out) rfl slt_22 (iE_ok _) rfl rfl (fun _ => .h) hz7 (RowR.src h_l) h10 ?_; intro Lb12 hz13
 refine nsr (om rfl rfl (oa rfl rfl (shO_nil (shW_ret ?_))))
 refine q_res1 Try.results76 (res_tmp rfl) (sr) ?_
 obtain rfl := inj1 r11
 exact ⟨_, _, _, _, rfl, rfl, hz13.any⟩


set_option maxHeartbeats 1000000 in
theorem oyezlaw01_Own_w {wide : Int} {plots_a : Option Addr} {plots_c : Nat} {plots : List Int} {F : FS} (h_plots : RowR 1 (iE .i64) F plots_a plots_c plots) {r : Int} {r2 : List Int} (hr : oyezlaw01_Own wide plots = some (r, r2)) :
    SH.Spec Try.prog 16 #[.agg #[.int .i64 wide, .slice plots_a plots.length plots_c]] F [] fun F' L' v => ∃ (r2a : Option Addr) (r2n : Nat) (r2c : Nat) (r2L : LH), v = .agg #[.int .i64 r, .slice r2a r2n r2c] ∧ L' = r2L ++ [] ∧ SlR 0 73 1 (iE .i64) F' r2a r2n r2c r2 r2L := by
 refine spec_of_shW (args := [.agg #[.int .i64 wide, .slice plots_a plots.length plots_c]]) Try.func16 rfl Try.ntmps16 (Nat.le_of_ble_eq_true rfl) ?_
 intro K _ _; rw [oyezlaw01_Own] at hr
 refine wsr ?_
 refine o_box rfl rfl ?_; intro b1 hb1
 refine o_alloc rfl Try.zeroValue24 ?_; intro b2 hb2
 refine shO_nil (shW_seq ?_)
 refine shW_drawM [(.still, 0), (.still, 1), (.still, 2), (.still, 3), (.seq, 4), (.still, 5), (.seq, 6)] (by kernel_rfl) (by kernel_rfl) (trivial) (by rfl) (by kernel_rfl) ?_
 refine shM_v (v := .pointer (some ⟨b1, 0, none⟩)) (ek := [(1, .pointer (some ⟨b1, 0, none⟩))]) (Ls := []) rfl rfl rfl rfl ((sc rfl (sn _))) (by kernel_rfl) sm (fun H F' L' hF' hL' => v_fieldAddr fa_24_0 rfl) ?_
 refine shM_v (v := .int .i64 wide) (ek := [(3, .pointer (some ⟨b1, 0, none⟩))]) (Ls := [(b1, .cells #[.int .i64 wide, .slice plots_a plots.length plots_c] 24 (0, 0))]) rfl rfl rfl rfl ((sc rfl (sn _))) (by kernel_rfl) (s0 (s1 (s2 sr))) (fun H F' L' hF' hL' => v_load Try.isAgg3 rfl ((Has.own 0 rfl).ext hF' hL') rfl) ?_
 refine shM_v (v := .pointer (some ⟨b1, 1, none⟩)) (ek := [(1, .pointer (some ⟨b1, 0, none⟩))]) (Ls := []) rfl rfl rfl rfl ((sc rfl (sn _))) (by kernel_rfl) sm (fun H F' L' hF' hL' => v_fieldAddr fa_24_1 rfl) ?_
 refine shM_v (v := .slice plots_a plots.length plots_c) (ek := [(5, .pointer (some ⟨b1, 1, none⟩))]) (Ls := [(b1, .cells #[.int .i64 wide, .slice plots_a plots.length plots_c] 24 (0, 0))]) rfl rfl rfl rfl ((sc rfl (sn _))) (by kernel_rfl) (s0 (s1 (s2 sr))) (fun H F' L' hF' hL' => v_load Try.isAgg22 rfl ((Has.own 0 rfl).ext hF' hL') rfl) ?_
 refine ⟨_, [(6, .slice plots_a plots.length plots_c)], rfl, rfl, (sc rfl (sn _)), by kernel_rfl, ?_⟩; intro H
 obtain ⟨l, h3, r4⟩ := b1_ok hr; clear hr
 refine o_call0 rfl Try.call76 rfl rfl rfl (oyezkit_Copy_Plot_w h_plots h3) ?_; rintro _ F5 _ hF6 hn7 ⟨a9, n13, c10, Lb11, rfl, rfl, hz12⟩
 replace h_plots := h_plots.mono (iE_ok _) hF6
 replace hz12 := hz12.new fun p hp => hn7 p (by simp [hp])
 refine shO_L (lp (ln rfl)) ?_
 refine kO (kf (fS fO) (kf (fS fO) kr)) ?_
 refine shO_nil ⟨_, rfl, hF6, [1, 0], by kernel_rfl, .inr (fun d h => by cases h; rfl), (List.forall_mem_cons.2 ⟨s0 (s1 (s2 (s3 sr))), (List.forall_mem_cons.2 ⟨sm, (fun _ h => absurd h List.not_mem_nil)⟩)⟩), ?_⟩
 refine shM_v (v := .agg #[.int .i64 wide, .slice a9 n13 c10]) (ek := [(4, .int .i64 wide), (7, .slice a9 n13 c10)]) (Ls := []) rfl rfl rfl rfl ((sc rfl (sc rfl (sn _)))) (by kernel_rfl) sm (fun H F' L' hF' hL' => v_build (v := .agg #[.int .i64 wide, .slice a9 n13 c10]) rfl (by intro w; kernel_rfl)) ?_
 refine ⟨_, [(2, .pointer (some ⟨b2, 0, none⟩)), (8, .agg #[.int .i64 wide, .slice a9 n13 c10])], rfl, rfl, (sc rfl (sc rfl (sn _))), by kernel_rfl, ?_⟩; intro H
 refine o_storeA (i := 0) Try.sizeOf24 rfl rfl rfl (by simp [Value.oneCell']) rfl (Nat.le_of_ble_eq_true rfl) ?_
 refine shO_L (L' := (b2, .cells #[.int .i64 wide, .slice a9 n13 c10] 24 (0, 0)) :: ((b1, .cells #[.int .i64 wide, .slice plots_a plots.length plots_c] 24 (0, 0)) :: (Lb11 ++ []))) rfl ?_
 refine shO_nil ⟨undef, rfl, FExt.refl _, [], by kernel_rfl, .inl rfl, (fun _ h => absurd h List.not_mem_nil), ?_⟩
 refine shM_nil ?_
 refine kW (kc (kd kr)) ?_
 refine shW_ret ?_
 refine q_res1 Try.results16 (res_cellA (cs := #[.int .i64 wide, .slice a9 n13 c10]) Try.isAgg24 Try.sizeOf24 rfl (Has.own 0 rfl) (Nat.le_of_ble_eq_true rfl) rfl) (s1 (s4 sr)) ?_
 obtain ⟨rfl, rfl⟩ := inj2 r4
 exact ⟨_, _, _, _, rfl, rfl, hz12.any⟩


set_option maxHeartbeats 1000000 in
theorem oyezkit_Copy_int_w {l_a : Option Addr} {l_c : Nat} {l : List Int} {F : FS} (h_l : RowR 1 (iE .i64) F l_a l_c l) {r : List Int} (hr : oyezkit_Copy_int l = some r) :
    SH.Spec Try.prog 17 #[.slice l_a l.length l_c] F [] fun F' L' v => ∃ (ra : Option Addr) (rn : Nat) (rc : Nat) (rL : LH), v = .slice ra rn rc ∧ L' = rL ++ [] ∧ SlR 0 3 1 (iE .i64) F' ra rn rc r rL := by
 refine spec_of_shW (args := [.slice l_a l.length l_c]) Try.func17 rfl Try.ntmps17 (Nat.le_of_ble_eq_true rfl) ?_
 intro K _ _; rw [oyezkit_Copy_int] at hr
 refine wsr (oa rfl rfl (nsr (om rfl rfl ?_)))
 refine ov (v_lenS Try.underlying26 rfl) rfl ?_
 obtain ⟨g1, r2⟩ := gd_ok hr; clear hr
 obtain ⟨l2, h3, r4⟩ := bv_ok r2; clear r2
 refine o_makeZ (R := (iE .i64)) (z0 := 0) (zs := l2) rfl slt_26 (by decide) (iE_ok _) (fun _ => rfl) rfl g1 h3 (fun _ => .n) ?_; intro a5 n8 Lb6 hz7
 refine oa rfl rfl (nsr (om rfl rfl (om rfl rfl ?_)))
 obtain ⟨out, h10, r11⟩ := bv_ok r4; clear r4
 refine o_copyZ (ys := l) (zs := out) rfl slt_26 (iE_ok _) rfl rfl (fun _ => .h) hz7 (RowR.src h_l) h10 ?_; intro Lb12 hz13
 refine nsr (om rfl rfl (oa rfl rfl (shO_nil (shW_ret ?_))))
 refine q_res1 Try.results17 (res_tmp rfl) (sr) ?_
 obtain rfl := inj1 r11
 exact ⟨_, _, _, _, rfl, rfl, hz13.any⟩


set_option maxHeartbeats 1000000 in
theorem oyezlaw01_theirs_w {wide : Int} {plots_a : Option Addr} {plots_c : Nat} {plots : List Int} {F : FS} (h_plots : RowR 1 (iE .i64) F plots_a plots_c plots) {r : Int} {r2 : List Int} (hr : oyezlaw01_theirs wide plots = some (r, r2)) :
    SH.Spec Try.prog 18 #[.agg #[.int .i64 wide, .slice plots_a plots.length plots_c]] F [] fun F' L' v => ∃ (r2a : Option Addr) (r2n : Nat) (r2c : Nat) (r2L : LH), v = .agg #[.int .i64 r, .slice r2a r2n r2c] ∧ L' = r2L ++ [] ∧ SlR 0 3 1 (iE .i64) F' r2a r2n r2c r2 r2L := by
 refine spec_of_shW (args := [.agg #[.int .i64 wide, .slice plots_a plots.length plots_c]]) Try.func18 rfl Try.ntmps18 (Nat.le_of_ble_eq_true rfl) ?_
 intro K _ _; rw [oyezlaw01_theirs] at hr
 refine wsr ?_
 refine o_box rfl rfl ?_; intro b1 hb1
 refine o_alloc rfl Try.zeroValue32 ?_; intro b2 hb2
 refine nsr ?_
 refine ov (v_fieldAddr fa_24_0 rfl) rfl ?_
 refine ov (v_load Try.isAgg3 rfl (Has.own 1 rfl) rfl) rfl ?_
 refine ov (v_build (v := .agg #[.int .i64 wide, .slice none 0 0]) rfl (by intro w; kernel_rfl)) rfl ?_
 refine o_alloc rfl Try.zeroValue32 ?_; intro b3 hb3
 refine o_storeA (i := 0) Try.sizeOf32 rfl rfl rfl (by simp [Value.oneCell']) rfl (Nat.le_of_ble_eq_true rfl) ?_
 refine shO_L (L' := [(b3, .cells #[.int .i64 wide, .slice none 0 0] 32 (0, 0)), (b2, .cells #[.int .i64 0, .slice none 0 0] 32 (0, 0)), (b1, .cells #[.int .i64 wide, .slice plots_a plots.length plots_c] 24 (0, 0))]) rfl ?_
 refine shO_nil ?_
 obtain ⟨out_plots, h10, r11⟩ := b1_ok hr; clear hr
 refine shW_join (fun e1 F1 L1 => ∃ (a4 : Option Addr) (n8 : Nat) (c5 : Nat) (Lb6 : LH), F = F1 ∧ L1 = ((b3, .cells #[.int .i64 wide, .slice a4 n8 c5] 32 (0, 0)) :: ((b2, .cells #[.int .i64 0, .slice none 0 0] 32 (0, 0)) :: (Lb6 ++ []))) ∧ e1.sub [(2, .pointer (some ⟨b2, 0, none⟩)), (3, .pointer (some ⟨b3, 0, none⟩))] ∧ SlR K.w0.heap.size 3 1 (iE .i64) F1 a4 n8 c5 out_plots Lb6) ?_ ?_
 · clear r11
   refine wsr ?_
   refine ov (v_fieldAddr fa_24_1 rfl) rfl ?_
   refine ov (v_load Try.isAgg22 rfl (Has.own 2 rfl) rfl) rfl ?_
   refine ov (v_lenS Try.underlying22 rfl) rfl ?_
   refine om rfl rfl (shO_nil ?_)
   refine shW_block ?_
   refine kW (kc (kc kn)) ?_
   refine shW_lp (fun fu1 e1 F1 L1 => ∃ (tl : List Int) (k : Int), tl.length = fu1 ∧ Lst plots k tl ∧ ∃ (out_plots2 : List Int) (a12 : Option Addr) (n16 : Nat) (c13 : Nat) (Lb14 : LH), oyezlaw01_theirs_l1 tl out_plots2 = some out_plots ∧ F = F1 ∧ L1 = ((b3, .cells #[.int .i64 wide, .slice a12 n16 c13] 32 (0, 0)) :: ((b2, .cells #[.int .i64 0, .slice none 0 0] 32 (0, 0)) :: (Lb14 ++ []))) ∧ e1.sub [(2, .pointer (some ⟨b2, 0, none⟩)), (3, .pointer (some ⟨b3, 0, none⟩)), (10, .slice plots_a plots.length plots_c), (11, .int .i64 (plots.length : Int)), (12, .int .i64 k)] ∧ SlR K.w0.heap.size 3 1 (iE .i64) F1 a12 n16 c13 out_plots2 Lb14) _ (m0 (kc (kc (ke kr))) ⟨_, _, rfl, Lst.start _, [], none, 0, 0, [], h10, rfl, rfl, (sc rfl (sc rfl (sc rfl (sc rfl (sc rfl (sn _)))))), SlR.nil _ _ _ _ _⟩) ?_
   rintro fu1 e1 _ _ ⟨tl, k, hn19, hk18, out_plots2, a12, n16, c13, Lb14, r20, rfl, rfl, he21, hz15⟩
   refine shW_env _ he21 ?_; clear he21
   refine wsr ?_
   refine ov (v_lssK rfl rfl) rfl ?_
   refine shO_nil (shW_seq ?_)
   refine shW_condP rfl (fun c23 => ?_) (fun c23 => ?_)
   · obtain ⟨x, tl2, rfl, hx25, g26, hk24⟩ := Lst.succ hk18 c23
     rw [oyezlaw01_theirs_l1] at r20
     refine shW_skip (shW_seq ?_)
     refine shW_block ?_
     refine wsr ?_
     obtain ⟨b27, o28, c29, vs30, ha31, hs32, hle33, rfl, hl34, hc35⟩ := RowR.at (iE_ok _) h_plots ((b3, .cells #[.int .i64 wide, .slice a12 n16 c13] 32 (0, 0)) :: ((b2, .cells #[.int .i64 0, .slice none 0 0] 32 (0, 0)) :: (Lb14 ++ []))) g26.1 hx25
     refine ov (v_indexO Try.underlying22 Try.sizeOf73 rfl ha31 rfl g26) rfl ?_
     refine ov (v_load Try.isAgg73 rfl hs32 (hc35 0 (by decide))) rfl ?_
     refine oa rfl rfl (shO_nil (shW_region ?_))
     refine ov (v_fieldAddr fa_32_1 rfl) rfl ?_
     refine ov (v_load Try.isAgg26 rfl (Has.own 0 rfl) rfl) rfl ?_
     refine om rfl rfl ?_
     refine o_buildSlice (cs := #[.int .i64 x]) rfl rfl (buildSlice_all slt_26 [.int .i64 x] rfl (by decide) (by simp [Value.cells]) (by decide)) ?_; intro b36 hb36
     obtain ⟨out, h37, g38, r39⟩ := ap_ok r20; clear r20
     refine o_appZ (xs := out_plots2) (ys := [x]) (zs := out) rfl slt_26 rfl rfl (Nat.le_refl _) (fun _ => .c (.c (.c .h))) hz15 (SrcR.box (vss := [[.int .i64 x]]) (ys := [x]) 0 rfl (iE_ok _) (.cons rfl .nil) rfl rfl) h37 g38 (by decide) ?_; intro a40 n44 c41 Lb42 hz43
     refine kO (kd kr) ?_
     refine ov (v_fieldAddr fa_32_1 rfl) rfl ?_
     refine o_store (i := 0) Try.sizeOf26 rfl rfl rfl rfl (Nat.le_of_ble_eq_true rfl) ?_
     refine shO_L (L' := (b3, .cells #[.int .i64 wide, .slice a40 n44 c41] 32 (0, 0)) :: ((b2, .cells #[.int .i64 0, .slice none 0 0] 32 (0, 0)) :: (Lb42 ++ []))) rfl ?_
     refine shO_nil (inBlock_n (id := 1) (shW_region ?_))
     refine ov (v_add rfl rfl (Lst.r64 hk18 c23 (RowR.lt h_plots))) rfl ?_
     refine om rfl rfl (shO_nil ?_)
     subst hn19; exact le kr ⟨_, _, rfl, hk24, out, a40, n44, c41, Lb42, r39, rfl, rfl, (sc rfl (sc rfl (sc rfl (sc rfl (sc rfl (sn _)))))), hz43⟩
   obtain rfl := Lst.zero hk18 c23
   rw [oyezlaw01_theirs_l1] at r20
   refine shW_exit (andThen_exit (andThen_exit ?_))
   refine inBlock_exit ?_
   obtain rfl := inj1 r20
   exact mi kr ⟨a12, n16, c13, Lb14, rfl, rfl, (sc rfl (sc rfl (sn _))), hz15⟩
 rintro e1 _ _ ⟨a4, n8, c5, Lb6, rfl, rfl, he46, hz7⟩
 refine shW_env _ he46 ?_; clear he46
 refine wsr ?_
 refine ov (v_loadA (cs := #[.int .i64 wide, .slice a4 n8 c5]) Try.isAgg32 Try.sizeOf32 rfl (Has.own 0 rfl) (Nat.le_of_ble_eq_true rfl) rfl) rfl ?_
 refine o_storeA (i := 1) Try.sizeOf32 rfl rfl rfl (by simp [Value.oneCell']) rfl (Nat.le_of_ble_eq_true rfl) ?_
 refine shO_L (L' := (b3, .cells #[.int .i64 wide, .slice a4 n8 c5] 32 (0, 0)) :: ((b2, .cells #[.int .i64 wide, .slice a4 n8 c5] 32 (0, 0)) :: (Lb6 ++ []))) rfl ?_
 refine shO_nil ?_
 refine kW (kd kr) ?_
 refine shW_ret ?_
 refine q_res1 Try.results18 (res_cellA (cs := #[.int .i64 wide, .slice a4 n8 c5]) Try.isAgg32 Try.sizeOf32 rfl (Has.own 0 rfl) (Nat.le_of_ble_eq_true rfl) rfl) (s1 (s4 sr)) ?_
 obtain ⟨rfl, rfl⟩ := inj2 r11
 exact ⟨_, _, _, _, rfl, rfl, hz7.any⟩


set_option maxHeartbeats 1000000 in
theorem oyezref01_off_w {n : Int} {lo : Int} {hi : Int} {F : FS} {r : Bool} (hr : oyezref01_off n lo hi = some r) :
    SpecV Try.prog 78 #[.int .i64 n, .int .i64 lo, .int .i64 hi] F (.bool r) := by
 refine spec_of_shW (args := [.int .i64 n, .int .i64 lo, .int .i64 hi]) Try.func78 rfl Try.ntmps78 (Nat.le_of_ble_eq_true rfl) ?_
 intro K _ _; rw [oyezref01_off] at hr
 refine wsr (oa rfl rfl (nsr (om rfl rfl (om rfl rfl ?_))))
 refine ov (v_lssK rfl rfl) rfl ?_
 refine om rfl rfl ?_
 by_cases c1 : n < lo
 · have r2 := ite_t hr c1; clear hr
   refine shO_off (b' := true) 10 rfl (Env.isT rfl c1) rfl rfl (shO_off (b' := true) 10 rfl (Env.isT rfl c1) rfl rfl (shO_off (b' := true) 10 rfl (Env.isT rfl c1) rfl rfl ?_))
   refine ov (v_pick_t (evD_true rfl c1) rfl) rfl ?_
   refine oa rfl rfl (shO_nil (shW_ret ?_))
   refine q_res1 Try.results78 (res_tmp rfl) (sr) ?_
   obtain rfl := inj1 r2
   exact rfl
 have r3 := ite_f hr c1; clear hr
 refine shO_on (b := false) 10 rfl (Env.isF rfl c1) (om rfl rfl (shO_on (b := false) 10 rfl (Env.isF rfl c1) (om rfl rfl (shO_on (b := false) 10 rfl (Env.isF rfl c1) ?_))))
 refine ov (v_gtrK rfl rfl) rfl ?_
 refine ov (v_pick_f (evD_false rfl c1) rfl) rfl ?_
 refine oa rfl rfl (shO_nil (shW_ret ?_))
 refine q_res1 Try.results78 (res_tmp rfl) (sr) ?_
 obtain rfl := inj1 r3
 exact rfl


set_option maxHeartbeats 1000000 in
theorem oyezref01_Check_w {wide : Int} {plots_a : Option Addr} {plots_c : Nat} {plots : List Int} {F : FS} (h_plots : RowR 1 (iE .i64) F plots_a plots_c plots) {r : Int} (hr : oyezref01_Check wide plots = some r) :
    SpecV Try.prog 34 #[.agg #[.int .i64 wide, .slice plots_a plots.length plots_c]] F (.int .i64 r) := by
 refine spec_of_shW (args := [.agg #[.int .i64 wide, .slice plots_a plots.length plots_c]]) Try.func34 rfl Try.ntmps34 (Nat.le_of_ble_eq_true rfl) ?_
 intro K _ _; rw [oyezref01_Check] at hr
 refine wsr ?_
 refine o_box rfl rfl ?_; intro b1 hb1
 refine oa rfl rfl (shO_nil (shW_seq ?_))
 obtain ⟨k, h2, r3⟩ := b1_ok hr; clear hr
 refine shW_join (fun e1 F1 L1 => F = F1 ∧ L1 = [(b1, .cells #[.int .i64 wide, .slice plots_a plots.length plots_c] 32 (0, 0))] ∧ e1.sub [(1, .pointer (some ⟨b1, 0, none⟩)), (23, .bool k)]) ?_ ?_
 · clear r3
   refine shW_region ?_
   refine ov (v_fieldAddr fa_32_0 rfl) rfl ?_
   refine ov (v_load Try.isAgg3 rfl (Has.own 0 rfl) rfl) rfl ?_
   obtain ⟨ok, h4, r5⟩ := b1_ok h2; clear h2
   refine o_callV rfl Try.call78 rfl rfl rfl (oyezref01_off_w h4) ?_
   refine om rfl rfl ?_
   rcases bool_two ok with c6 | c6
   · have r7 := bt r5 c6; clear r5
     refine shO_off (b' := true) 9 rfl (EnvB rfl c6) rfl rfl (shO_off (b' := true) 9 rfl (EnvB rfl c6) rfl rfl (shO_off (b' := true) 9 rfl (EnvB rfl c6) rfl rfl (shO_off (b' := true) 9 rfl (EnvB rfl c6) rfl rfl ?_)))
     refine ov (v_pick_t (evB rfl c6) rfl) rfl ?_
     refine om rfl rfl (shO_off (b' := true) 15 rfl rfl rfl rfl (shO_off (b' := true) 15 rfl rfl rfl rfl (shO_off (b' := true) 15 rfl rfl rfl rfl (shO_off (b' := true) 15 rfl rfl rfl rfl (shO_off (b' := true) 15 rfl rfl rfl rfl (shO_off (b' := true) 15 rfl rfl rfl rfl (shO_off (b' := true) 15 rfl rfl rfl rfl ?_)))))))
     refine ov (v_pick_t rfl rfl) rfl ?_
     refine shO_nil ?_
     obtain rfl := inj1 r7
     exact mi kr ⟨rfl, rfl, (sc rfl (sc rfl (sn _)))⟩
   have r8 := bf r5 c6; clear r5
   refine shO_on (b := false) 9 rfl (EnvB rfl c6) ?_
   refine ov (v_fieldAddr fa_32_1 rfl) rfl ?_
   refine shO_on (b := false) 9 rfl (EnvB rfl c6) ?_
   refine ov (v_load Try.isAgg26 rfl (Has.own 0 rfl) rfl) rfl ?_
   refine shO_on (b := false) 9 rfl (EnvB rfl c6) ?_
   refine ov (v_lenS Try.underlying26 rfl) rfl ?_
   refine shO_on (b := false) 9 rfl (EnvB rfl c6) ?_
   obtain ⟨ok2, h9, r10⟩ := b1_ok r8; clear r8
   refine o_callV rfl Try.call78 rfl rfl rfl (oyezref01_off_w h9) ?_
   refine ov (v_pick_f (evB rfl c6) rfl) rfl ?_
   refine om rfl rfl ?_
   rcases bool_two ok2 with c11 | c11
   · have r12 := bt r10 c11; clear r10
     refine shO_off (b' := true) 15 rfl (EnvB rfl c11) rfl rfl (shO_off (b' := true) 15 rfl (EnvB rfl c11) rfl rfl (shO_off (b' := true) 15 rfl (EnvB rfl c11) rfl rfl (shO_off (b' := true) 15 rfl (EnvB rfl c11) rfl rfl (shO_off (b' := true) 15 rfl (EnvB rfl c11) rfl rfl (shO_off (b' := true) 15 rfl (EnvB rfl c11) rfl rfl (shO_off (b' := true) 15 rfl (EnvB rfl c11) rfl rfl ?_))))))
     refine ov (v_pick_t (evB rfl c11) rfl) rfl ?_
     refine shO_nil ?_
     obtain rfl := inj1 r12
     exact mi kr ⟨rfl, rfl, (sc rfl (sc rfl (sn _)))⟩
   have r13 := bf r10 c11; clear r10
   refine shO_on (b := false) 15 rfl (EnvB rfl c11) ?_
   refine ov (v_fieldAddr fa_32_1 rfl) rfl ?_
   refine shO_on (b := false) 15 rfl (EnvB rfl c11) ?_
   refine ov (v_load Try.isAgg26 rfl (Has.own 0 rfl) rfl) rfl ?_
   refine shO_on (b := false) 15 rfl (EnvB rfl c11) ?_
   refine ov (v_lenS Try.underlying26 rfl) rfl ?_
   refine shO_on (b := false) 15 rfl (EnvB rfl c11) ?_
   refine ov (v_fieldAddr fa_32_0 rfl) rfl ?_
   refine shO_on (b := false) 15 rfl (EnvB rfl c11) ?_
   refine ov (v_load Try.isAgg3 rfl (Has.own 0 rfl) rfl) rfl ?_
   refine shO_on (b := false) 15 rfl (EnvB rfl c11) ?_
   obtain ⟨g14, r15⟩ := gd_ok r13; clear r13
   refine ov (v_remT rfl rfl g14) rfl ?_
   refine shO_on (b := false) 15 rfl (EnvB rfl c11) ?_
   refine ov (v_neq rfl rfl) rfl ?_
   refine ov (v_pick_f (evB rfl c11) rfl) rfl ?_
   refine shO_nil ?_
   obtain rfl := inj1 r15
   exact mi kr ⟨rfl, rfl, (sc rfl (sc rfl (sn _)))⟩
 rintro e1 _ _ ⟨rfl, rfl, he16⟩
 refine shW_env _ he16 ?_; clear he16
 refine shW_cond rfl (fun c17 => ?_) (fun c17 => ?_)
 · have r18 := bt r3 c17; clear r3
   refine wsr (oa rfl rfl (shO_nil ?_))
   refine kW kn ?_
   refine shW_ret (andThen_ret ?_)
   refine q_res1 Try.results34 (res_tmp rfl) (sr) ?_
   obtain rfl := inj1 r18
   exact rfl
 have r19 := bf r3 c17; clear r3
 refine shW_skip (wsr (oa rfl rfl (shO_nil ?_)))
 refine shW_join (fun e1 F1 L1 => oyezref01_Check_j1 plots = some r ∧ F = F1 ∧ L1 = [(b1, .cells #[.int .i64 wide, .slice plots_a plots.length plots_c] 32 (0, 0))] ∧ e1.sub [(1, .pointer (some ⟨b1, 0, none⟩)), (3, .int .i64 0)]) ?_ ?_
 · refine wsr (oa rfl rfl (shO_nil ?_))
   refine shW_block ?_
   refine shW_lp (fun fu2 e1 F1 L1 => ∃ (tl : List Int) (p : Int), tl.length = fu2 ∧ Lst plots p tl ∧ oyezref01_Check_l2 plots tl = some r ∧ F = F1 ∧ L1 = [(b1, .cells #[.int .i64 wide, .slice plots_a plots.length plots_c] 32 (0, 0))] ∧ e1.sub [(1, .pointer (some ⟨b1, 0, none⟩)), (3, .int .i64 0), (4, .int .i64 p)]) _ (m0 kr ⟨_, _, rfl, Lst.start _, r19, rfl, rfl, (sc rfl (sc rfl (sc rfl (sn _))))⟩) ?_
   rintro fu2 e1 _ _ ⟨tl, p, hn21, hk20, r22, rfl, rfl, he23⟩
   refine shW_env _ he23 ?_; clear he23
   refine shW_seq (wsr (om rfl rfl ?_))
   refine ov (v_fieldAddr fa_32_1 rfl) rfl ?_
   refine ov (v_load Try.isAgg26 rfl (Has.own 0 rfl) rfl) rfl ?_
   refine ov (v_lenS Try.underlying26 rfl) rfl ?_
   refine ov (v_lssK rfl rfl) rfl ?_
   refine shO_nil ?_
   refine shW_condP rfl (fun c25 => ?_) (fun c25 => ?_)
   · obtain ⟨x, tl2, rfl, hx27, g28, hk26⟩ := Lst.succ hk20 c25
     rw [oyezref01_Check_l2] at r22
     refine shW_skip (shW_seq ?_)
     refine shW_block ?_
     refine wsr ?_
     refine ov (v_fieldAddr fa_32_1 rfl) rfl ?_
     refine ov (v_load Try.isAgg26 rfl (Has.own 0 rfl) rfl) rfl ?_
     refine om rfl rfl ?_
     obtain ⟨b29, o30, c31, vs32, ha33, hs34, hle35, rfl, hl36, hc37⟩ := RowR.at (iE_ok _) h_plots ([(b1, .cells #[.int .i64 wide, .slice plots_a plots.length plots_c] 32 (0, 0))]) g28.1 hx27
     refine ov (v_indexO Try.underlying26 Try.sizeOf3 rfl ha33 rfl g28) rfl ?_
     refine ov (v_load Try.isAgg3 rfl hs34 (hc37 0 (by decide))) rfl ?_
     obtain ⟨ok3, h38, r39⟩ := b1_ok r22; clear r22
     refine o_callV rfl Try.call78 rfl rfl rfl (oyezref01_off_w h38) ?_
     refine shO_nil ?_
     refine shW_cond rfl (fun c40 => ?_) (fun c40 => ?_)
     · have r41 := bt r39 c40; clear r39
       refine wsr (oa rfl rfl (shO_nil ?_))
       refine kW kn ?_
       refine shW_ret (inBlock_ret (andThen_ret (andThen_ret (inBlock_ret (andThen_ret ?_)))))
       refine q_res1 Try.results34 (res_tmp rfl) (sr) ?_
       obtain rfl := inj1 r41
       exact rfl
     have r42 := bf r39 c40; clear r39
     refine shW_skip (inBlock_n (id := 1) (shW_region (om rfl rfl ?_)))
     refine ov (v_add rfl rfl (Lst.r64 hk20 c25 (RowR.lt h_plots))) rfl ?_
     refine oa rfl rfl (shO_nil ?_)
     subst hn21; exact le kr ⟨_, _, rfl, hk26, r42, rfl, rfl, (sc rfl (sc rfl (sc rfl (sn _))))⟩
   obtain rfl := Lst.zero hk20 c25
   rw [oyezref01_Check_l2] at r22
   refine shW_exit (andThen_exit (andThen_exit ?_))
   refine inBlock_exit ?_
   exact mi kr ⟨r22, rfl, rfl, (sc rfl (sc rfl (sn _)))⟩
 rintro e1 _ _ ⟨r43, rfl, rfl, he44⟩
 refine shW_env _ he44 ?_; clear he44
 rw [oyezref01_Check_j1] at r43
 obtain ⟨houses, h45, r46⟩ := b1_ok r43; clear r43
 refine shW_join (fun e1 F1 L1 => F = F1 ∧ L1 = [] ∧ e1.sub [(3, .int .i64 houses)]) ?_ ?_
 · clear r46
   refine wsr (oa rfl rfl (shO_nil ?_))
   refine shW_block ?_
   refine shW_lp (fun fu3 e1 F1 L1 => ∃ (tl3 : List Int) (p2 : Int), tl3.length = fu3 ∧ Lst plots p2 tl3 ∧ ∃ (houses2 : Int), oyezref01_Check_l3 tl3 houses2 = some houses ∧ F = F1 ∧ L1 = [(b1, .cells #[.int .i64 wide, .slice plots_a plots.length plots_c] 32 (0, 0))] ∧ e1.sub [(1, .pointer (some ⟨b1, 0, none⟩)), (3, .int .i64 houses2), (5, .int .i64 p2)]) _ (m0 kr ⟨_, _, rfl, Lst.start _, 0, h45, rfl, rfl, (sc rfl (sc rfl (sc rfl (sn _))))⟩) ?_
   rintro fu3 e1 _ _ ⟨tl3, p2, hn48, hk47, houses2, r49, rfl, rfl, he50⟩
   refine shW_env _ he50 ?_; clear he50
   refine shW_seq (wsr (om rfl rfl ?_))
   refine ov (v_fieldAddr fa_32_1 rfl) rfl ?_
   refine ov (v_load Try.isAgg26 rfl (Has.own 0 rfl) rfl) rfl ?_
   refine ov (v_lenS Try.underlying26 rfl) rfl ?_
   refine ov (v_lssK rfl rfl) rfl ?_
   refine shO_nil ?_
   refine shW_condP rfl (fun c52 => ?_) (fun c52 => ?_)
   · obtain ⟨x2, tl4, rfl, hx54, g55, hk53⟩ := Lst.succ hk47 c52
     rw [oyezref01_Check_l3] at r49
     refine shW_skip (shW_seq ?_)
     refine shW_block ?_
     refine wsr ?_
     refine ov (v_fieldAddr fa_32_1 rfl) rfl ?_
     refine ov (v_load Try.isAgg26 rfl (Has.own 0 rfl) rfl) rfl ?_
     refine om rfl rfl ?_
     obtain ⟨b56, o57, c58, vs59, ha60, hs61, hle62, rfl, hl63, hc64⟩ := RowR.at (iE_ok _) h_plots ([(b1, .cells #[.int .i64 wide, .slice plots_a plots.length plots_c] 32 (0, 0))]) g55.1 hx54
     refine ov (v_indexO Try.underlying26 Try.sizeOf3 rfl ha60 rfl g55) rfl ?_
     refine ov (v_load Try.isAgg3 rfl hs61 (hc64 0 (by decide))) rfl ?_
     refine ov (v_eql rfl rfl) rfl ?_
     refine shO_nil ?_
     refine shW_condP rfl (fun c65 => ?_) (fun c65 => ?_)
     · have r66 := ite_t r49 c65; clear r49
       refine shW_region (om rfl rfl ?_)
       obtain ⟨g67, r68⟩ := gd_ok r66; clear r66
       refine ov (v_add rfl rfl g67) rfl ?_
       refine oa rfl rfl (shO_nil (inBlock_n (id := 3) (shW_region (om rfl rfl ?_))))
       refine ov (v_add rfl rfl (Lst.r64 hk47 c52 (RowR.lt h_plots))) rfl ?_
       refine oa rfl rfl (shO_nil ?_)
       subst hn48; exact le kr ⟨_, _, rfl, hk53, houses2 + 1, r68, rfl, rfl, (sc rfl (sc rfl (sc rfl (sn _))))⟩
     have r69 := ite_f r49 c65; clear r49
     refine shW_skip (inBlock_n (id := 3) (shW_region (om rfl rfl ?_)))
     refine ov (v_add rfl rfl (Lst.r64 hk47 c52 (RowR.lt h_plots))) rfl ?_
     refine oa rfl rfl (shO_nil ?_)
     subst hn48; exact le kr ⟨_, _, rfl, hk53, houses2, r69, rfl, rfl, (sc rfl (sc rfl (sc rfl (sn _))))⟩
   obtain rfl := Lst.zero hk47 c52
   rw [oyezref01_Check_l3] at r49
   refine shW_exit (andThen_exit (andThen_exit ?_))
   refine inBlock_exit ?_
   obtain rfl := inj1 r49
   exact mi kn ⟨rfl, rfl, (sc rfl (sn _))⟩
 rintro e1 _ _ ⟨rfl, rfl, he70⟩
 refine shW_env _ he70 ?_; clear he70
 refine shW_seq (wsr (om rfl rfl ?_))
 refine ov (v_gtrK rfl rfl) rfl ?_
 refine shO_nil ?_
 refine shW_condP rfl (fun c71 => ?_) (fun c71 => ?_)
 · have r72 := ite_t r46 c71; clear r46
   refine wsr (oa rfl rfl (shO_nil (shW_ret (andThen_ret ?_))))
   refine q_res1 Try.results34 (res_tmp rfl) (sr) ?_
   obtain rfl := inj1 r72
   exact rfl
 have r73 := ite_f r46 c71; clear r46
 refine shW_skip (wsr (oa rfl rfl (shO_nil (shW_ret ?_))))
 refine q_res1 Try.results34 (res_tmp rfl) (sr) ?_
 obtain rfl := inj1 r73
 exact rfl


set_option maxHeartbeats 1000000 in
theorem oyezref01_Is_w {wide : Int} {plots_a : Option Addr} {plots_c : Nat} {plots : List Int} {p : Int} {kind : Int} {F : FS} (h_plots : RowR 1 (iE .i64) F plots_a plots_c plots) {r : Int} (hr : oyezref01_Is wide plots p kind = some r) :
    SpecV Try.prog 50 #[.agg #[.int .i64 wide, .slice plots_a plots.length plots_c], .int .i64 p, .int .i64 kind] F (.int .i64 r) := by
 refine spec_of_shW (args := [.agg #[.int .i64 wide, .slice plots_a plots.length plots_c], .int .i64 p, .int .i64 kind]) Try.func50 rfl Try.ntmps50 (Nat.le_of_ble_eq_true rfl) ?_
 intro K _ _; rw [oyezref01_Is] at hr
 refine wsr ?_
 refine o_box rfl rfl ?_; intro b1 hb1
 refine oa rfl rfl (shO_nil (shW_seq (wsr (om rfl rfl ?_))))
 refine ov (v_fieldAddr fa_32_1 rfl) rfl ?_
 refine ov (v_load Try.isAgg26 rfl (Has.own 0 rfl) rfl) rfl ?_
 refine ov (v_lenS Try.underlying26 rfl) rfl ?_
 obtain ⟨g2, r3⟩ := gd_ok hr; clear hr
 refine ov (v_sub rfl rfl g2) rfl ?_
 obtain ⟨ok, h4, r5⟩ := b1_ok r3; clear r3
 refine o_callV rfl Try.call78 rfl rfl rfl (oyezref01_off_w h4) ?_
 refine shO_nil ?_
 refine shW_cond rfl (fun c6 => ?_) (fun c6 => ?_)
 · have r7 := bt r5 c6; clear r5
   refine wsr (oa rfl rfl (shO_nil ?_))
   refine kW kn ?_
   refine shW_ret (andThen_ret ?_)
   refine q_res1 Try.results50 (res_tmp rfl) (sr) ?_
   obtain rfl := inj1 r7
   exact rfl
 have r8 := bf r5 c6; clear r5
 refine shW_skip (shW_seq (wsr ?_))
 refine ov (v_fieldAddr fa_32_1 rfl) rfl ?_
 refine ov (v_load Try.isAgg26 rfl (Has.own 0 rfl) rfl) rfl ?_
 refine om rfl rfl ?_
 obtain ⟨x, g9, hx10, r11⟩ := ix_ok r8; clear r8
 obtain ⟨b12, o13, c14, vs15, ha16, hs17, hle18, rfl, hl19, hc20⟩ := RowR.at (iE_ok _) h_plots ([(b1, .cells #[.int .i64 wide, .slice plots_a plots.length plots_c] 32 (0, 0))]) g9.1 hx10
 refine ov (v_indexO Try.underlying26 Try.sizeOf3 rfl ha16 rfl g9) rfl ?_
 refine ov (v_load Try.isAgg3 rfl hs17 (hc20 0 (by decide))) rfl ?_
 refine om rfl rfl ?_
 refine ov (v_neq rfl rfl) rfl ?_
 refine shO_nil ?_
 refine shW_condP rfl (fun c21 => ?_) (fun c21 => ?_)
 · have r22 := ite_t r11 c21; clear r11
   refine wsr (oa rfl rfl (shO_nil ?_))
   refine kW kn ?_
   refine shW_ret (andThen_ret ?_)
   refine q_res1 Try.results50 (res_tmp rfl) (sr) ?_
   obtain rfl := inj1 r22
   exact rfl
 have r23 := ite_f r11 c21; clear r11
 refine shW_skip (wsr (oa rfl rfl (shO_nil ?_)))
 refine kW kn ?_
 refine shW_ret ?_
 refine q_res1 Try.results50 (res_tmp rfl) (sr) ?_
 obtain rfl := inj1 r23
 exact rfl


set_option maxHeartbeats 1000000 in
theorem oyezref01_Stand_w {wide : Int} {plots_a : Option Addr} {plots_c : Nat} {plots : List Int} {wind : Int} {stand : Int} {F : FS} (h_plots : RowR 1 (iE .i64) F plots_a plots_c plots) {r : Int} (hr : oyezref01_Stand wide plots wind stand = some r) :
    SpecV Try.prog 81 #[.agg #[.int .i64 wide, .slice plots_a plots.length plots_c], .int .i64 wind, .int .i64 stand] F (.int .i64 r) := by
 refine spec_of_shW (args := [.agg #[.int .i64 wide, .slice plots_a plots.length plots_c], .int .i64 wind, .int .i64 stand]) Try.func81 rfl Try.ntmps81 (Nat.le_of_ble_eq_true rfl) ?_
 intro K _ _; rw [oyezref01_Stand] at hr
 refine wsr ?_
 refine o_box rfl rfl ?_; intro b1 hb1
 refine oa rfl rfl (shO_nil (shW_seq (wsr ?_)))
 refine ov (v_loadA (cs := #[.int .i64 wide, .slice plots_a plots.length plots_c]) Try.isAgg32 Try.sizeOf32 rfl (Has.own 0 rfl) (Nat.le_of_ble_eq_true rfl) rfl) rfl ?_
 obtain ⟨n, h2, r3⟩ := b1_ok hr; clear hr
 refine o_callV rfl Try.call34 rfl rfl rfl (oyezref01_Check_w h_plots h2) ?_
 refine oa rfl rfl (nsr (om rfl rfl ?_))
 refine ov (v_neq rfl rfl) rfl ?_
 refine shO_nil ?_
 refine shW_condP rfl (fun c4 => ?_) (fun c4 => ?_)
 · have r5 := ite_t r3 c4; clear r3
   refine wsr (om rfl rfl (oa rfl rfl (shO_nil ?_)))
   refine kW kn ?_
   refine shW_ret (andThen_ret ?_)
   refine q_res1 Try.results81 (res_tmp rfl) (sr) ?_
   obtain rfl := inj1 r5
   exact rfl
 have r6 := ite_f r3 c4; clear r3
 refine shW_skip (shW_seq (wsr (om rfl rfl ?_)))
 obtain ⟨ok, h7, r8⟩ := b1_ok r6; clear r6
 refine o_callV rfl Try.call78 rfl rfl rfl (oyezref01_off_w h7) ?_
 refine shO_nil ?_
 refine shW_cond rfl (fun c9 => ?_) (fun c9 => ?_)
 · have r10 := bt r8 c9; clear r8
   refine wsr (oa rfl rfl (shO_nil ?_))
   refine kW kn ?_
   refine shW_ret (andThen_ret ?_)
   refine q_res1 Try.results81 (res_tmp rfl) (sr) ?_
   obtain rfl := inj1 r10
   exact rfl
 have r11 := bf r8 c9; clear r8
 refine shW_skip (wsr ?_)
 refine ov (v_loadA (cs := #[.int .i64 wide, .slice plots_a plots.length plots_c]) Try.isAgg32 Try.sizeOf32 rfl (Has.own 0 rfl) (Nat.le_of_ble_eq_true rfl) rfl) rfl ?_
 refine om rfl rfl ?_
 obtain ⟨n2, h12, r13⟩ := b1_ok r11; clear r11
 refine o_callV rfl Try.call50 rfl rfl rfl (oyezref01_Is_w h_plots h12) ?_
 refine oa rfl rfl (shO_nil ?_)
 refine kW kn ?_
 refine shW_ret ?_
 refine q_res1 Try.results81 (res_tmp rfl) (sr) ?_
 obtain rfl := inj1 r13
 exact rfl


set_option maxHeartbeats 1000000 in
theorem oyezref01_Step_w {wide : Int} {plots_a : Option Addr} {plots_c : Nat} {plots : List Int} {wind : Int} {p : Int} {q : Int} {F : FS} (h_plots : RowR 1 (iE .i64) F plots_a plots_c plots) {r : Int} (hr : oyezref01_Step wide plots wind p q = some r) :
    SpecV Try.prog 82 #[.agg #[.int .i64 wide, .slice plots_a plots.length plots_c], .int .i64 wind, .int .i64 p, .int .i64 q] F (.int .i64 r) := by
 refine spec_of_shW (args := [.agg #[.int .i64 wide, .slice plots_a plots.length plots_c], .int .i64 wind, .int .i64 p, .int .i64 q]) Try.func82 rfl Try.ntmps82 (Nat.le_of_ble_eq_true rfl) ?_
 intro K _ _; rw [oyezref01_Step] at hr
 refine wsr ?_
 refine o_box rfl rfl ?_; intro b1 hb1
 refine oa rfl rfl (shO_nil (shW_seq ?_))
 obtain ⟨k, h2, r3⟩ := b1_ok hr; clear hr
 refine shW_join (fun e1 F1 L1 => F = F1 ∧ L1 = [(b1, .cells #[.int .i64 wide, .slice plots_a plots.length plots_c] 32 (0, 0))] ∧ e1.sub [(1, .int .i64 wind), (2, .int .i64 p), (3, .int .i64 q), (4, .pointer (some ⟨b1, 0, none⟩)), (42, .bool k)]) ?_ ?_
 · clear r3
   refine shW_region (om rfl rfl ?_)
   refine ov (v_fieldAddr fa_32_1 rfl) rfl ?_
   refine ov (v_load Try.isAgg26 rfl (Has.own 0 rfl) rfl) rfl ?_
   refine ov (v_lenS Try.underlying26 rfl) rfl ?_
   obtain ⟨g4, r5⟩ := gd_ok h2; clear h2
   refine ov (v_sub rfl rfl g4) rfl ?_
   obtain ⟨ok, h6, r7⟩ := b1_ok r5; clear r5
   refine o_callV rfl Try.call78 rfl rfl rfl (oyezref01_off_w h6) ?_
   refine om rfl rfl ?_
   rcases bool_two ok with c8 | c8
   · have r9 := bt r7 c8; clear r7
     refine shO_off (b' := true) 19 rfl (EnvB rfl c8) rfl rfl (shO_off (b' := true) 19 rfl (EnvB rfl c8) rfl rfl (shO_off (b' := true) 19 rfl (EnvB rfl c8) rfl rfl (shO_off (b' := true) 19 rfl (EnvB rfl c8) rfl rfl (shO_off (b' := true) 19 rfl (EnvB rfl c8) rfl rfl (shO_off (b' := true) 19 rfl (EnvB rfl c8) rfl rfl ?_)))))
     refine ov (v_pick_t (evB rfl c8) rfl) rfl ?_
     refine om rfl rfl (shO_off (b' := true) 27 rfl rfl rfl rfl (shO_off (b' := true) 27 rfl rfl rfl rfl (shO_off (b' := true) 27 rfl rfl rfl rfl (shO_off (b' := true) 27 rfl rfl rfl rfl (shO_off (b' := true) 27 rfl rfl rfl rfl (shO_off (b' := true) 27 rfl rfl rfl rfl ?_))))))
     refine ov (v_pick_t rfl rfl) rfl ?_
     refine om rfl rfl (shO_off (b' := true) 35 rfl rfl rfl rfl (shO_off (b' := true) 35 rfl rfl rfl rfl (shO_off (b' := true) 35 rfl rfl rfl rfl (shO_off (b' := true) 35 rfl rfl rfl rfl (shO_off (b' := true) 35 rfl rfl rfl rfl (shO_off (b' := true) 35 rfl rfl rfl rfl ?_))))))
     refine ov (v_pick_t rfl rfl) rfl ?_
     refine shO_nil ?_
     obtain rfl := inj1 r9
     exact mi kr ⟨rfl, rfl, (sc rfl (sc rfl (sc rfl (sc rfl (sc rfl (sn _))))))⟩
   have r10 := bf r7 c8; clear r7
   refine shO_on (b := false) 19 rfl (EnvB rfl c8) (om rfl rfl (shO_on (b := false) 19 rfl (EnvB rfl c8) ?_))
   refine ov (v_fieldAddr fa_32_1 rfl) rfl ?_
   refine shO_on (b := false) 19 rfl (EnvB rfl c8) ?_
   refine ov (v_load Try.isAgg26 rfl (Has.own 0 rfl) rfl) rfl ?_
   refine shO_on (b := false) 19 rfl (EnvB rfl c8) ?_
   refine ov (v_lenS Try.underlying26 rfl) rfl ?_
   refine shO_on (b := false) 19 rfl (EnvB rfl c8) ?_
   obtain ⟨g11, r12⟩ := gd_ok r10; clear r10
   refine ov (v_sub rfl rfl g11) rfl ?_
   refine shO_on (b := false) 19 rfl (EnvB rfl c8) ?_
   obtain ⟨ok2, h13, r14⟩ := b1_ok r12; clear r12
   refine o_callV rfl Try.call78 rfl rfl rfl (oyezref01_off_w h13) ?_
   refine ov (v_pick_f (evB rfl c8) rfl) rfl ?_
   refine om rfl rfl ?_
   rcases bool_two ok2 with c15 | c15
   · have r16 := bt r14 c15; clear r14
     refine shO_off (b' := true) 27 rfl (EnvB rfl c15) rfl rfl (shO_off (b' := true) 27 rfl (EnvB rfl c15) rfl rfl (shO_off (b' := true) 27 rfl (EnvB rfl c15) rfl rfl (shO_off (b' := true) 27 rfl (EnvB rfl c15) rfl rfl (shO_off (b' := true) 27 rfl (EnvB rfl c15) rfl rfl (shO_off (b' := true) 27 rfl (EnvB rfl c15) rfl rfl ?_)))))
     refine ov (v_pick_t (evB rfl c15) rfl) rfl ?_
     refine om rfl rfl (shO_off (b' := true) 35 rfl rfl rfl rfl (shO_off (b' := true) 35 rfl rfl rfl rfl (shO_off (b' := true) 35 rfl rfl rfl rfl (shO_off (b' := true) 35 rfl rfl rfl rfl (shO_off (b' := true) 35 rfl rfl rfl rfl (shO_off (b' := true) 35 rfl rfl rfl rfl ?_))))))
     refine ov (v_pick_t rfl rfl) rfl ?_
     refine shO_nil ?_
     obtain rfl := inj1 r16
     exact mi kr ⟨rfl, rfl, (sc rfl (sc rfl (sc rfl (sc rfl (sc rfl (sn _))))))⟩
   have r17 := bf r14 c15; clear r14
   refine shO_on (b := false) 27 rfl (EnvB rfl c15) ?_
   refine ov (v_fieldAddr fa_32_1 rfl) rfl ?_
   refine shO_on (b := false) 27 rfl (EnvB rfl c15) ?_
   refine ov (v_load Try.isAgg26 rfl (Has.own 0 rfl) rfl) rfl ?_
   refine shO_on (b := false) 27 rfl (EnvB rfl c15) (om rfl rfl (shO_on (b := false) 27 rfl (EnvB rfl c15) ?_))
   obtain ⟨x, g18, hx19, r20⟩ := ix_ok r17; clear r17
   obtain ⟨b21, o22, c23, vs24, ha25, hs26, hle27, rfl, hl28, hc29⟩ := RowR.at (iE_ok _) h_plots ([(b1, .cells #[.int .i64 wide, .slice plots_a plots.length plots_c] 32 (0, 0))]) g18.1 hx19
   refine ov (v_indexO Try.underlying26 Try.sizeOf3 rfl ha25 rfl g18) rfl ?_
   refine shO_on (b := false) 27 rfl (EnvB rfl c15) ?_
   refine ov (v_load Try.isAgg3 rfl hs26 (hc29 0 (by decide))) rfl ?_
   refine shO_on (b := false) 27 rfl (EnvB rfl c15) ?_
   refine ov (v_eql rfl rfl) rfl ?_
   refine ov (v_pick_f (evB rfl c15) rfl) rfl ?_
   refine om rfl rfl ?_
   by_cases c30 : x = 2
   · have r31 := ite_t r20 c30; clear r20
     refine shO_off (b' := true) 35 rfl (Env.isT rfl c30) rfl rfl (shO_off (b' := true) 35 rfl (Env.isT rfl c30) rfl rfl (shO_off (b' := true) 35 rfl (Env.isT rfl c30) rfl rfl (shO_off (b' := true) 35 rfl (Env.isT rfl c30) rfl rfl (shO_off (b' := true) 35 rfl (Env.isT rfl c30) rfl rfl (shO_off (b' := true) 35 rfl (Env.isT rfl c30) rfl rfl ?_)))))
     refine ov (v_pick_t (evD_true rfl c30) rfl) rfl ?_
     refine shO_nil ?_
     obtain rfl := inj1 r31
     exact mi kr ⟨rfl, rfl, (sc rfl (sc rfl (sc rfl (sc rfl (sc rfl (sn _))))))⟩
   have r32 := ite_f r20 c30; clear r20
   refine shO_on (b := false) 35 rfl (Env.isF rfl c30) ?_
   refine ov (v_fieldAddr fa_32_1 rfl) rfl ?_
   refine shO_on (b := false) 35 rfl (Env.isF rfl c30) ?_
   refine ov (v_load Try.isAgg26 rfl (Has.own 0 rfl) rfl) rfl ?_
   refine shO_on (b := false) 35 rfl (Env.isF rfl c30) (om rfl rfl (shO_on (b := false) 35 rfl (Env.isF rfl c30) ?_))
   obtain ⟨x2, g33, hx34, r35⟩ := ix_ok r32; clear r32
   obtain ⟨b36, o37, c38, vs39, ha40, hs41, hle42, rfl, hl43, hc44⟩ := RowR.at (iE_ok _) h_plots ([(b1, .cells #[.int .i64 wide, .slice plots_a plots.length plots_c] 32 (0, 0))]) g33.1 hx34
   refine ov (v_indexO Try.underlying26 Try.sizeOf3 rfl ha40 rfl g33) rfl ?_
   refine shO_on (b := false) 35 rfl (Env.isF rfl c30) ?_
   refine ov (v_load Try.isAgg3 rfl hs41 (hc44 0 (by decide))) rfl ?_
   refine shO_on (b := false) 35 rfl (Env.isF rfl c30) ?_
   refine ov (v_eql rfl rfl) rfl ?_
   refine ov (v_pick_f (evD_false rfl c30) rfl) rfl ?_
   refine shO_nil ?_
   obtain rfl := inj1 r35
   exact mi kr ⟨rfl, rfl, (sc rfl (sc rfl (sc rfl (sc rfl (sc rfl (sn _))))))⟩
 rintro e1 _ _ ⟨rfl, rfl, he45⟩
 refine shW_env _ he45 ?_; clear he45
 refine shW_cond rfl (fun c46 => ?_) (fun c46 => ?_)
 · have r47 := bt r3 c46; clear r3
   refine wsr (oa rfl rfl (shO_nil ?_))
   refine kW kn ?_
   refine shW_ret (andThen_ret ?_)
   refine q_res1 Try.results82 (res_tmp rfl) (sr) ?_
   obtain rfl := inj1 r47
   exact rfl
 have r48 := bf r3 c46; clear r3
 refine shW_skip ?_
 refine wsd (by kernel_rfl) (by kernel_rfl) (by kernel_rfl) ?_
 refine qm rfl rfl ?_
 refine qv (v_fieldAddr fa_32_0 rfl) rfl ?_
 refine qv (v_load Try.isAgg3 rfl (Has.own 0 rfl) rfl) rfl ?_
 obtain ⟨g49, r50⟩ := gd_ok r48; clear r48
 refine qv (v_quoT rfl rfl g49) rfl ?_
 refine qm rfl rfl ?_
 refine qv (v_fieldAddr fa_32_0 rfl) rfl ?_
 refine qv (v_load Try.isAgg3 rfl (Has.own 0 rfl) rfl) rfl ?_
 obtain ⟨g51, r52⟩ := gd_ok r50; clear r50
 refine qv (v_quoT rfl rfl g51) rfl ?_
 obtain ⟨g53, r54⟩ := gd_ok r52; clear r52
 refine qv (v_sub rfl rfl g53) rfl ?_
 obtain ⟨down, h55, r56⟩ := bv_ok r54; clear r54
 refine qv ((v_assign rfl).i h55) rfl ?_
 refine qsd (by kernel_rfl) (by kernel_rfl) (by kernel_rfl) ?_
 refine qm rfl rfl ?_
 refine qv (v_fieldAddr fa_32_0 rfl) rfl ?_
 refine qv (v_load Try.isAgg3 rfl (Has.own 0 rfl) rfl) rfl ?_
 obtain ⟨g57, r58⟩ := gd_ok r56; clear r56
 refine qv (v_remT rfl rfl g57) rfl ?_
 refine qm rfl rfl ?_
 refine qv (v_fieldAddr fa_32_0 rfl) rfl ?_
 refine qv (v_load Try.isAgg3 rfl (Has.own 0 rfl) rfl) rfl ?_
 obtain ⟨g59, r60⟩ := gd_ok r58; clear r58
 refine qv (v_remT rfl rfl g59) rfl ?_
 obtain ⟨g61, r62⟩ := gd_ok r60; clear r60
 refine qv (v_sub rfl rfl g61) rfl ?_
 obtain ⟨right_, h63, r64⟩ := bv_ok r62; clear r62
 refine qv ((v_assign rfl).i h63) rfl ?_
 refine shQ_nil (shW_seq (wsr (om rfl rfl (om rfl rfl ?_))))
 obtain ⟨g65, r66⟩ := gd_ok r64; clear r64
 refine ov (v_mul rfl rfl g65) rfl ?_
 refine om rfl rfl (om rfl rfl ?_)
 obtain ⟨g67, r68⟩ := gd_ok r66; clear r66
 refine ov (v_mul rfl rfl g67) rfl ?_
 obtain ⟨g69, r70⟩ := gd_ok r68; clear r68
 refine ov (v_add rfl rfl g69) rfl ?_
 refine ov (v_neq rfl rfl) rfl ?_
 refine shO_nil ?_
 refine shW_condP rfl (fun c71 => ?_) (fun c71 => ?_)
 · have r72 := ite_t r70 c71; clear r70
   refine wsr (oa rfl rfl (shO_nil ?_))
   refine kW kn ?_
   refine shW_ret (andThen_ret ?_)
   refine q_res1 Try.results82 (res_tmp rfl) (sr) ?_
   obtain rfl := inj1 r72
   exact rfl
 have r73 := ite_f r70 c71; clear r70
 refine shW_skip (wsr (oa rfl rfl (shO_nil ?_)))
 obtain ⟨along, h74, r75⟩ := b1_ok r73; clear r73
 refine shW_join (fun e1 F1 L1 => F = F1 ∧ L1 = [(b1, .cells #[.int .i64 wide, .slice plots_a plots.length plots_c] 32 (0, 0))] ∧ e1.sub [(3, .int .i64 q), (4, .pointer (some ⟨b1, 0, none⟩)), (11, .int .i64 along)]) ?_ ?_
 · clear r75
   refine wsr (om rfl rfl (shO_nil ?_))
   refine shW_block ?_
   refine wsr ?_
   refine ov (v_eql rfl rfl) rfl ?_
   refine oa rfl rfl (shO_nil ?_)
   refine shW_condP rfl (fun c76 => ?_) (fun c76 => ?_)
   · have r77 := ite_t h74 c76; clear h74
     refine shW_region (om rfl rfl ?_)
     obtain ⟨g78, r79⟩ := gd_ok r77; clear r77
     refine ov (v_negT rfl g78) rfl ?_
     refine oa rfl rfl (shO_nil (inBlock_n (id := 0) ?_))
     obtain rfl := inj1 r79
     exact mi kr ⟨rfl, rfl, (sc rfl (sc rfl (sc rfl (sn _))))⟩
   have r80 := ite_f h74 c76; clear h74
   refine wsr ?_
   refine ov (v_eql rfl rfl) rfl ?_
   refine oa rfl rfl (shO_nil ?_)
   refine shW_condP rfl (fun c81 => ?_) (fun c81 => ?_)
   · have r82 := ite_t r80 c81; clear r80
     refine shW_region (om rfl rfl (oa rfl rfl (shO_nil (inBlock_n (id := 0) ?_))))
     obtain rfl := inj1 r82
     exact mi kr ⟨rfl, rfl, (sc rfl (sc rfl (sc rfl (sn _))))⟩
   have r83 := ite_f r80 c81; clear r80
   refine wsr ?_
   refine ov (v_eql rfl rfl) rfl ?_
   refine oa rfl rfl (shO_nil ?_)
   refine shW_condP rfl (fun c84 => ?_) (fun c84 => ?_)
   · have r85 := ite_t r83 c84; clear r83
     refine shW_region (om rfl rfl (oa rfl rfl (shO_nil (inBlock_n (id := 0) ?_))))
     obtain rfl := inj1 r85
     exact mi kr ⟨rfl, rfl, (sc rfl (sc rfl (sc rfl (sn _))))⟩
   have r86 := ite_f r83 c84; clear r83
   refine wsr ?_
   refine ov (v_eql rfl rfl) rfl ?_
   refine oa rfl rfl (shO_nil ?_)
   refine shW_condP rfl (fun c87 => ?_) (fun c87 => ?_)
   · have r88 := ite_t r86 c87; clear r86
     refine shW_region (om rfl rfl ?_)
     obtain ⟨g89, r90⟩ := gd_ok r88; clear r88
     refine ov (v_negT rfl g89) rfl ?_
     refine oa rfl rfl (shO_nil (inBlock_n (id := 0) ?_))
     obtain rfl := inj1 r90
     exact mi kr ⟨rfl, rfl, (sc rfl (sc rfl (sc rfl (sn _))))⟩
   have r91 := ite_f r86 c87; clear r86
   refine shW_skip (inBlock_n (id := 0) ?_)
   obtain rfl := inj1 r91
   exact mi kr ⟨rfl, rfl, (sc rfl (sc rfl (sc rfl (sn _))))⟩
 rintro e1 _ _ ⟨rfl, rfl, he92⟩
 refine shW_env _ he92 ?_; clear he92
 refine wsr (oa rfl rfl (shO_nil ?_))
 obtain ⟨n, h93, r94⟩ := b1_ok r75; clear r75
 refine shW_join (fun e1 F1 L1 => F = F1 ∧ L1 = [(b1, .cells #[.int .i64 wide, .slice plots_a plots.length plots_c] 32 (0, 0))] ∧ e1.sub [(3, .int .i64 q), (4, .pointer (some ⟨b1, 0, none⟩)), (11, .int .i64 along), (12, .int .i64 n)]) ?_ ?_
 · clear r94
   refine wsr (om rfl rfl ?_)
   refine ov (v_eql rfl rfl) rfl ?_
   refine shO_nil ?_
   refine shW_condP rfl (fun c95 => ?_) (fun c95 => ?_)
   · have r96 := ite_t h93 c95; clear h93
     refine shW_region (oa rfl rfl (shO_nil ?_))
     obtain rfl := inj1 r96
     exact mi kr ⟨rfl, rfl, (sc rfl (sc rfl (sc rfl (sc rfl (sn _)))))⟩
   have r97 := ite_f h93 c95; clear h93
   refine shW_skip ?_
   obtain rfl := inj1 r97
   exact mi kr ⟨rfl, rfl, (sc rfl (sc rfl (sc rfl (sc rfl (sn _)))))⟩
 rintro e1 _ _ ⟨rfl, rfl, he98⟩
 refine shW_env _ he98 ?_; clear he98
 obtain ⟨n2, h99, r100⟩ := b1_ok r94; clear r94
 refine shW_join (fun e1 F1 L1 => F = F1 ∧ L1 = [(b1, .cells #[.int .i64 wide, .slice plots_a plots.length plots_c] 32 (0, 0))] ∧ e1.sub [(3, .int .i64 q), (4, .pointer (some ⟨b1, 0, none⟩)), (12, .int .i64 n2)]) ?_ ?_
 · clear r100
   refine wsr (om rfl rfl ?_)
   refine ov (v_eql rfl rfl) rfl ?_
   refine shO_nil ?_
   refine shW_condP rfl (fun c101 => ?_) (fun c101 => ?_)
   · have r102 := ite_t h99 c101; clear h99
     refine shW_region (oa rfl rfl (shO_nil ?_))
     obtain rfl := inj1 r102
     exact mi kr ⟨rfl, rfl, (sc rfl (sc rfl (sc rfl (sn _))))⟩
   have r103 := ite_f h99 c101; clear h99
   refine shW_skip ?_
   obtain rfl := inj1 r103
   exact mi kr ⟨rfl, rfl, (sc rfl (sc rfl (sc rfl (sn _))))⟩
 rintro e1 _ _ ⟨rfl, rfl, he104⟩
 refine shW_env _ he104 ?_; clear he104
 refine wsr (om rfl rfl ?_)
 refine ov (v_fieldAddr fa_32_1 rfl) rfl ?_
 refine ov (v_load Try.isAgg26 rfl (Has.own 0 rfl) rfl) rfl ?_
 refine om rfl rfl ?_
 obtain ⟨x3, g105, hx106, r107⟩ := ix_ok r100; clear r100
 obtain ⟨b108, o109, c110, vs111, ha112, hs113, hle114, rfl, hl115, hc116⟩ := RowR.at (iE_ok _) h_plots ([(b1, .cells #[.int .i64 wide, .slice plots_a plots.length plots_c] 32 (0, 0))]) g105.1 hx106
 refine ov (v_indexO Try.underlying26 Try.sizeOf3 rfl ha112 rfl g105) rfl ?_
 refine ov (v_load Try.isAgg3 rfl hs113 (hc116 0 (by decide))) rfl ?_
 refine ov (v_remT rfl rfl (by decide)) rfl ?_
 obtain ⟨g117, r118⟩ := gd_ok r107; clear r107
 refine ov (v_add rfl rfl g117) rfl ?_
 refine oa rfl rfl (shO_nil ?_)
 refine kW kn ?_
 refine shW_ret ?_
 refine q_res1 Try.results82 (res_tmp rfl) (sr) ?_
 obtain rfl := inj1 r118
 exact rfl


set_option maxHeartbeats 1000000 in
theorem oyezref01_Needs_w {wide : Int} {plots_a : Option Addr} {plots_c : Nat} {plots : List Int} {wind : Int} {stand : Int} {F : FS} (h_plots : RowR 1 (iE .i64) F plots_a plots_c plots) {r : List Int} {r2 : Int} (hr : oyezref01_Needs wide plots wind stand = some (r, r2)) :
    SH.Spec Try.prog 22 #[.agg #[.int .i64 wide, .slice plots_a plots.length plots_c], .int .i64 wind, .int .i64 stand] F [] fun F' L' v => ∃ (ra : Option Addr) (rn : Nat) (rc : Nat) (rL : LH), v = .tuple #[.slice ra rn rc, .int .i64 r2] ∧ L' = rL ++ [] ∧ SlR 0 3 1 (iE .i64) F' ra rn rc r rL := by
 refine spec_of_shW (args := [.agg #[.int .i64 wide, .slice plots_a plots.length plots_c], .int .i64 wind, .int .i64 stand]) Try.func22 rfl Try.ntmps22 (Nat.le_of_ble_eq_true rfl) ?_
 intro K _ _; rw [oyezref01_Needs] at hr
 refine wsr ?_
 refine o_box rfl rfl ?_; intro b1 hb1
 refine oa rfl rfl (oa rfl rfl (shO_nil (shW_seq (wsr ?_))))
 refine ov (v_loadA (cs := #[.int .i64 wide, .slice plots_a plots.length plots_c]) Try.isAgg32 Try.sizeOf32 rfl (Has.own 0 rfl) (Nat.le_of_ble_eq_true rfl) rfl) rfl ?_
 refine om rfl rfl (om rfl rfl ?_)
 obtain ⟨n, h2, r3⟩ := b1_ok hr; clear hr
 refine o_callV rfl Try.call81 rfl rfl rfl (oyezref01_Stand_w h_plots h2) ?_
 refine oa rfl rfl (nsr (om rfl rfl ?_))
 refine ov (v_neq rfl rfl) rfl ?_
 refine shO_nil ?_
 refine shW_condP rfl (fun c4 => ?_) (fun c4 => ?_)
 · have r5 := ite_t r3 c4; clear r3
   refine wsr (om rfl rfl (oa rfl rfl (oa rfl rfl (shO_nil ?_))))
   refine kW kn ?_
   refine shW_ret (andThen_ret ?_)
   refine q_res2 Try.results22 (res_tmp rfl) (res_tmp rfl) (sr) ?_
   obtain ⟨rfl, rfl⟩ := inj2 r5
   exact ⟨_, _, _, [], rfl, rfl, SlR.nil _ _ _ _ _⟩
 have r6 := ite_f r3 c4; clear r3
 refine shW_skip (wsr ?_)
 refine ov (v_fieldAddr fa_32_1 rfl) rfl ?_
 refine ov (v_load Try.isAgg26 rfl (Has.own 0 rfl) rfl) rfl ?_
 refine ov (v_lenS Try.underlying26 rfl) rfl ?_
 obtain ⟨g7, r8⟩ := gd_ok r6; clear r6
 obtain ⟨l, h9, r10⟩ := bv_ok r8; clear r8
 refine o_makeZ (R := (iE .i64)) (z0 := 0) (zs := l) rfl slt_26 (by decide) (iE_ok _) (fun _ => rfl) rfl g7 h9 (fun _ => .c .n) ?_; intro a11 n14 Lb12 hz13
 refine oa rfl rfl (shO_nil ?_)
 obtain ⟨out, h18, r19⟩ := b1_ok r10; clear r10
 refine shW_join (fun e1 F1 L1 => ∃ (Lb16 : LH), F = F1 ∧ L1 = ((b1, .cells #[.int .i64 wide, .slice plots_a plots.length plots_c] 32 (0, 0)) :: (Lb16 ++ [])) ∧ e1.sub [(1, .int .i64 wind), (2, .int .i64 stand), (3, .pointer (some ⟨b1, 0, none⟩)), (9, .slice a11 n14 n14)] ∧ SlR K.w0.heap.size 3 1 (iE .i64) F1 a11 n14 n14 out Lb16) ?_ ?_
 · clear r19
   refine wsr (oa rfl rfl (shO_nil ?_))
   refine shW_block ?_
   refine shW_lp (fun fu1 e1 F1 L1 => ∃ (out2 : List Int) (p : Int) (Lb20 : LH), oyezref01_Needs_l1 fu1 out2 p = some out ∧ F = F1 ∧ L1 = ((b1, .cells #[.int .i64 wide, .slice plots_a plots.length plots_c] 32 (0, 0)) :: (Lb20 ++ [])) ∧ e1.sub [(1, .int .i64 wind), (2, .int .i64 stand), (3, .pointer (some ⟨b1, 0, none⟩)), (9, .slice a11 n14 n14), (10, .int .i64 p)] ∧ SlR K.w0.heap.size 3 1 (iE .i64) F1 a11 n14 n14 out2 Lb20) FU (m0 kr ⟨l, 0, Lb12, h18, rfl, rfl, (sc rfl (sc rfl (sc rfl (sc rfl (sc rfl (sn _)))))), hz13⟩) ?_
   rintro fu1 e1 _ _ ⟨out2, p, Lb20, r24, rfl, rfl, he25, hz21⟩
   refine shW_env _ he25 ?_; clear he25
   rcases fu1 with _ | fu1
   · rw [oyezref01_Needs_l1] at r24; cases r24
   rw [oyezref01_Needs_l1] at r24
   refine shW_seq (wsr (om rfl rfl (om rfl rfl ?_)))
   refine ov ((v_lenS Try.underlying26 rfl).i (SlR.lenI hz21)) rfl ?_
   refine ov (v_lssK rfl rfl) rfl ?_
   refine shO_nil ?_
   refine shW_condP rfl (fun c26 => ?_) (fun c26 => ?_)
   · have r27 := ite_t r24 c26; clear r24
     refine shW_skip (shW_seq ?_)
     refine shW_block ?_
     refine shW_region (om rfl rfl (om rfl rfl ?_))
     obtain ⟨x, g28, hx29, r30⟩ := ix_ok r27; clear r27
     obtain ⟨b31, o32, c33, vs34, ha35, hs36, hle37, rfl, hl38, hc39⟩ := SlR.at (iE_ok _) hz21 (L := (b1, .cells #[.int .i64 wide, .slice plots_a plots.length plots_c] 32 (0, 0)) :: (Lb20 ++ [])) (fC fP) g28.1 hx29
     refine ov (v_indexO Try.underlying26 Try.sizeOf3 rfl ha35 rfl (SlR.idx hz21 g28)) rfl ?_
     obtain ⟨out3, h40, r41⟩ := bv_ok r30; clear r30
     refine o_storeZ (u := -1) Try.sizeOf3 (iE_ok _) rfl ha35 rfl rfl (fun _ => .c .h) hz21 h40 g28 ?_; intro Lb42 hz43
     refine shO_nil (inBlock_n (id := 1) (shW_region (om rfl rfl ?_)))
     obtain ⟨g44, r45⟩ := gd_ok r41; clear r41
     refine ov (v_add rfl rfl g44) rfl ?_
     refine oa rfl rfl (shO_nil ?_)
     exact le kr ⟨out3, p + 1, Lb42, r45, rfl, rfl, (sc rfl (sc rfl (sc rfl (sc rfl (sc rfl (sn _)))))), hz43⟩
   have r46 := ite_f r24 c26; clear r24
   refine shW_exit (andThen_exit (andThen_exit ?_))
   refine inBlock_exit ?_
   obtain rfl := inj1 r46
   exact mi kr ⟨Lb20, rfl, rfl, (sc rfl (sc rfl (sc rfl (sc rfl (sn _))))), hz21⟩
 rintro e1 _ _ ⟨Lb16, rfl, rfl, he47, hz17⟩
 refine shW_env _ he47 ?_; clear he47
 refine wsr (om rfl rfl (om rfl rfl ?_))
 obtain ⟨x2, g48, hx49, r50⟩ := ix_ok r19; clear r19
 obtain ⟨b51, o52, c53, vs54, ha55, hs56, hle57, rfl, hl58, hc59⟩ := SlR.at (iE_ok _) hz17 (L := (b1, .cells #[.int .i64 wide, .slice plots_a plots.length plots_c] 32 (0, 0)) :: (Lb16 ++ [])) (fC fP) g48.1 hx49
 refine ov (v_indexO Try.underlying26 Try.sizeOf3 rfl ha55 rfl (SlR.idx hz17 g48)) rfl ?_
 obtain ⟨out4, h60, r61⟩ := bv_ok r50; clear r50
 refine o_storeZ (u := 0) Try.sizeOf3 (iE_ok _) rfl ha55 rfl rfl (fun _ => .c .h) hz17 h60 g48 ?_; intro Lb62 hz63
 refine shO_nil ?_
 obtain ⟨out5, h66, r67⟩ := b1_ok r61; clear r61
 refine shW_join (fun e1 F1 L1 => ∃ (Lb64 : LH), F = F1 ∧ L1 = (Lb64 ++ []) ∧ e1.sub [(9, .slice a11 n14 n14)] ∧ SlR K.w0.heap.size 3 1 (iE .i64) F1 a11 n14 n14 out5 Lb64) ?_ ?_
 · clear r67
   refine wsr (oa rfl rfl (shO_nil ?_))
   refine shW_block ?_
   refine shW_lp (fun fu2 e1 F1 L1 => ∃ (out6 : List Int) (changed : Bool) (Lb68 : LH), oyezref01_Needs_l2 wide plots wind fu2 out6 changed = some out5 ∧ F = F1 ∧ L1 = ((b1, .cells #[.int .i64 wide, .slice plots_a plots.length plots_c] 32 (0, 0)) :: (Lb68 ++ [])) ∧ e1.sub [(1, .int .i64 wind), (3, .pointer (some ⟨b1, 0, none⟩)), (9, .slice a11 n14 n14), (11, .bool changed)] ∧ SlR K.w0.heap.size 3 1 (iE .i64) F1 a11 n14 n14 out6 Lb68) FU (m0 kr ⟨out4, true, Lb62, h66, rfl, rfl, (sc rfl (sc rfl (sc rfl (sc rfl (sn _))))), hz63⟩) ?_
   rintro fu2 e1 _ _ ⟨out6, changed, Lb68, r72, rfl, rfl, he73, hz69⟩
   refine shW_env _ he73 ?_; clear he73
   rcases fu2 with _ | fu2
   · rw [oyezref01_Needs_l2] at r72; cases r72
   rw [oyezref01_Needs_l2] at r72
   refine shW_seq (wsr (om rfl rfl (shO_nil ?_)))
   refine shW_cond rfl (fun c74 => ?_) (fun c74 => ?_)
   · have r75 := bt r72 c74; clear r72
     refine shW_skip ?_
     refine shW_block ?_
     refine wsr (oa rfl rfl (nsr (oa rfl rfl (shO_nil ?_))))
     refine shW_block ?_
     refine shW_lp (fun fu3 e1 F1 L1 => ∃ (out7 : List Int) (changed2 : Bool) (p2 : Int) (Lb76 : LH), oyezref01_Needs_l3 wide plots wind (oyezref01_Needs_l2 wide plots wind fu2) fu3 out7 changed2 p2 = some out5 ∧ F = F1 ∧ L1 = ((b1, .cells #[.int .i64 wide, .slice plots_a plots.length plots_c] 32 (0, 0)) :: (Lb76 ++ [])) ∧ e1.sub [(1, .int .i64 wind), (3, .pointer (some ⟨b1, 0, none⟩)), (9, .slice a11 n14 n14), (11, .bool changed2), (12, .int .i64 p2)] ∧ SlR K.w0.heap.size 3 1 (iE .i64) F1 a11 n14 n14 out7 Lb76) FU (m0 kr ⟨out6, false, 0, Lb68, r75, rfl, rfl, (sc rfl (sc rfl (sc rfl (sc rfl (sc rfl (sn _)))))), hz69⟩) ?_
     rintro fu3 e1 _ _ ⟨out7, changed2, p2, Lb76, r80, rfl, rfl, he81, hz77⟩
     refine shW_env _ he81 ?_; clear he81
     rcases fu3 with _ | fu3
     · rw [oyezref01_Needs_l3] at r80; cases r80
     rw [oyezref01_Needs_l3] at r80
     refine shW_seq (wsr (om rfl rfl (om rfl rfl ?_)))
     refine ov ((v_lenS Try.underlying26 rfl).i (SlR.lenI hz77)) rfl ?_
     refine ov (v_lssK rfl rfl) rfl ?_
     refine shO_nil ?_
     refine shW_condP rfl (fun c82 => ?_) (fun c82 => ?_)
     · have r83 := ite_t r80 c82; clear r80
       refine shW_skip ?_
       obtain ⟨out8, changed3, h86, r87⟩ := b2_ok r83; clear r83
       refine shW_join (fun e1 F1 L1 => ∃ (Lb84 : LH), F = F1 ∧ L1 = ((b1, .cells #[.int .i64 wide, .slice plots_a plots.length plots_c] 32 (0, 0)) :: (Lb84 ++ [])) ∧ e1.sub [(1, .int .i64 wind), (3, .pointer (some ⟨b1, 0, none⟩)), (9, .slice a11 n14 n14), (11, .bool changed3), (12, .int .i64 p2)] ∧ SlR K.w0.heap.size 3 1 (iE .i64) F1 a11 n14 n14 out8 Lb84) ?_ ?_
       · clear r87
         refine shW_block ?_
         refine wsr (oa rfl rfl (shO_nil ?_))
         refine shW_block ?_
         refine shW_lp (fun fu4 e1 F1 L1 => ∃ (out9 : List Int) (changed4 : Bool) (q : Int) (Lb88 : LH), oyezref01_Needs_l4 wide plots wind p2 fu4 out9 changed4 q = some (out8, changed3) ∧ F = F1 ∧ L1 = ((b1, .cells #[.int .i64 wide, .slice plots_a plots.length plots_c] 32 (0, 0)) :: (Lb88 ++ [])) ∧ e1.sub [(1, .int .i64 wind), (3, .pointer (some ⟨b1, 0, none⟩)), (9, .slice a11 n14 n14), (11, .bool changed4), (12, .int .i64 p2), (13, .int .i64 q)] ∧ SlR K.w0.heap.size 3 1 (iE .i64) F1 a11 n14 n14 out9 Lb88) FU (m0 kr ⟨out7, changed2, 0, Lb76, h86, rfl, rfl, (sc rfl (sc rfl (sc rfl (sc rfl (sc rfl (sc rfl (sn _))))))), hz77⟩) ?_
         rintro fu4 e1 _ _ ⟨out9, changed4, q, Lb88, r92, rfl, rfl, he93, hz89⟩
         refine shW_env _ he93 ?_; clear he93
         rcases fu4 with _ | fu4
         · rw [oyezref01_Needs_l4] at r92; cases r92
         rw [oyezref01_Needs_l4] at r92
         refine shW_seq (wsr (om rfl rfl (om rfl rfl ?_)))
         refine ov ((v_lenS Try.underlying26 rfl).i (SlR.lenI hz89)) rfl ?_
         refine ov (v_lssK rfl rfl) rfl ?_
         refine shO_nil ?_
         refine shW_condP rfl (fun c94 => ?_) (fun c94 => ?_)
         · have r95 := ite_t r92 c94; clear r92
           refine shW_skip (shW_seq ?_)
           refine shW_block ?_
           refine wsr ?_
           refine ov (v_loadA (cs := #[.int .i64 wide, .slice plots_a plots.length plots_c]) Try.isAgg32 Try.sizeOf32 rfl (Has.own 0 rfl) (Nat.le_of_ble_eq_true rfl) rfl) rfl ?_
           refine om rfl rfl (om rfl rfl (om rfl rfl ?_))
           obtain ⟨n2, h96, r97⟩ := b1_ok r95; clear r95
           refine o_callV rfl Try.call82 rfl rfl rfl (oyezref01_Step_w h_plots h96) ?_
           refine oa rfl rfl (shO_nil ?_)
           obtain ⟨k, h98, r99⟩ := b1_ok r97; clear r97
           refine shW_join (fun e1 F1 L1 => F = F1 ∧ L1 = ((b1, .cells #[.int .i64 wide, .slice plots_a plots.length plots_c] 32 (0, 0)) :: (Lb88 ++ [])) ∧ e1.sub [(1, .int .i64 wind), (3, .pointer (some ⟨b1, 0, none⟩)), (9, .slice a11 n14 n14), (11, .bool changed4), (12, .int .i64 p2), (13, .int .i64 q), (14, .int .i64 n2), (84, .bool k)]) ?_ ?_
           · clear r99
             refine shW_draw (by kernel_rfl) (by kernel_rfl) (by kernel_rfl) ?_
             refine qm rfl rfl ?_
             refine qv (v_gtrK rfl rfl) rfl ?_
             refine qm rfl rfl ?_
             by_cases c100 : 0 < n2
             · have r101 := ite_t h98 c100; clear h98
               refine shQ_on (b := true) 58 rfl (Env.isT rfl c100) (qm rfl rfl (shQ_on (b := true) 58 rfl (Env.isT rfl c100) (qm rfl rfl (shQ_on (b := true) 58 rfl (Env.isT rfl c100) ?_))))
               obtain ⟨x3, g102, hx103, r104⟩ := ix_ok r101; clear r101
               obtain ⟨b105, o106, c107, vs108, ha109, hs110, hle111, rfl, hl112, hc113⟩ := SlR.at (iE_ok _) hz89 (L := (b1, .cells #[.int .i64 wide, .slice plots_a plots.length plots_c] 32 (0, 0)) :: (Lb88 ++ [])) (fC fP) g102.1 hx103
               refine qv (v_indexO Try.underlying26 Try.sizeOf3 rfl ha109 rfl (SlR.idx hz89 g102)) rfl ?_
               refine shQ_on (b := true) 58 rfl (Env.isT rfl c100) ?_
               refine qv (v_load Try.isAgg3 rfl hs110 (hc113 0 (by decide))) rfl ?_
               refine shQ_on (b := true) 58 rfl (Env.isT rfl c100) ?_
               refine qv (v_geqK rfl rfl) rfl ?_
               refine qv (v_pick_t (evD_true rfl c100) rfl) rfl ?_
               refine qm rfl rfl ?_
               by_cases c114 : 0 ≤ x3
               · have r115 := ite_t r104 c114; clear r104
                 refine shQ_on (b := true) 65 rfl (Env.isT rfl c114) (qm rfl rfl (shQ_on (b := true) 65 rfl (Env.isT rfl c114) (qm rfl rfl (shQ_on (b := true) 65 rfl (Env.isT rfl c114) ?_))))
                 obtain ⟨x4, g116, hx117, r118⟩ := ix_ok r115; clear r115
                 obtain ⟨b119, o120, c121, vs122, ha123, hs124, hle125, rfl, hl126, hc127⟩ := SlR.at (iE_ok _) hz89 (L := (b1, .cells #[.int .i64 wide, .slice plots_a plots.length plots_c] 32 (0, 0)) :: (Lb88 ++ [])) (fC fP) g116.1 hx117
                 refine qv (v_indexO Try.underlying26 Try.sizeOf3 rfl ha123 rfl (SlR.idx hz89 g116)) rfl ?_
                 refine shQ_on (b := true) 65 rfl (Env.isT rfl c114) ?_
                 refine qv (v_load Try.isAgg3 rfl hs124 (hc127 0 (by decide))) rfl ?_
                 refine shQ_on (b := true) 65 rfl (Env.isT rfl c114) ?_
                 refine qv (v_lssK rfl rfl) rfl ?_
                 refine shQ_on (b := true) 65 rfl (Env.isT rfl c114) (qm rfl rfl ?_)
                 by_cases c128 : x4 < 0
                 · have r129 := ite_t r118 c128; clear r118
                   refine shQ_off (b' := true) 71 rfl (Env.isT rfl c128) rfl rfl (shQ_off (b' := true) 71 rfl (Env.isT rfl c128) rfl rfl (shQ_off (b' := true) 71 rfl (Env.isT rfl c128) rfl rfl (shQ_off (b' := true) 71 rfl (Env.isT rfl c128) rfl rfl (shQ_off (b' := true) 71 rfl (Env.isT rfl c128) rfl rfl (shQ_off (b' := true) 71 rfl (Env.isT rfl c128) rfl rfl (shQ_off (b' := true) 71 rfl (Env.isT rfl c128) rfl rfl (shQ_off (b' := true) 71 rfl (Env.isT rfl c128) rfl rfl (shQ_off (b' := true) 71 rfl (Env.isT rfl c128) rfl rfl (shQ_off (b' := true) 71 rfl (Env.isT rfl c128) rfl rfl ?_)))))))))
                   refine shQ_off (b' := true) 71 rfl (Env.isT rfl c128) rfl rfl (shQ_on (b := true) 65 rfl (Env.isT rfl c114) ?_)
                   refine qv (v_pick_t (evD_true rfl c128) rfl) rfl ?_
                   refine qv (v_pick_t (evD_true rfl c114) rfl) rfl ?_
                   refine shQ_nil ?_
                   obtain rfl := inj1 r129
                   exact mi kr ⟨rfl, rfl, (sc rfl (sc rfl (sc rfl (sc rfl (sc rfl (sc rfl (sc rfl (sc rfl (sn _)))))))))⟩
                 have r130 := ite_f r118 c128; clear r118
                 refine shQ_on (b := false) 71 rfl (Env.isF rfl c128) (qm rfl rfl (shQ_on (b := false) 71 rfl (Env.isF rfl c128) (qm rfl rfl (shQ_on (b := false) 71 rfl (Env.isF rfl c128) ?_))))
                 obtain ⟨b131, o132, c133, vs134, ha135, hs136, hle137, rfl, hl138, hc139⟩ := SlR.at (iE_ok _) hz89 (L := (b1, .cells #[.int .i64 wide, .slice plots_a plots.length plots_c] 32 (0, 0)) :: (Lb88 ++ [])) (fC fP) g102.1 hx103
                 refine qv (v_indexO Try.underlying26 Try.sizeOf3 rfl ha135 rfl (SlR.idx hz89 g102)) rfl ?_
                 refine shQ_on (b := false) 71 rfl (Env.isF rfl c128) ?_
                 refine qv (v_load Try.isAgg3 rfl hs136 (hc139 0 (by decide))) rfl ?_
                 refine shQ_on (b := false) 71 rfl (Env.isF rfl c128) (qm rfl rfl (shQ_on (b := false) 71 rfl (Env.isF rfl c128) ?_))
                 obtain ⟨g140, r141⟩ := gd_ok r130; clear r130
                 refine qv (v_add rfl rfl g140) rfl ?_
                 refine shQ_on (b := false) 71 rfl (Env.isF rfl c128) (qm rfl rfl (shQ_on (b := false) 71 rfl (Env.isF rfl c128) (qm rfl rfl (shQ_on (b := false) 71 rfl (Env.isF rfl c128) ?_))))
                 obtain ⟨b142, o143, c144, vs145, ha146, hs147, hle148, rfl, hl149, hc150⟩ := SlR.at (iE_ok _) hz89 (L := (b1, .cells #[.int .i64 wide, .slice plots_a plots.length plots_c] 32 (0, 0)) :: (Lb88 ++ [])) (fC fP) g116.1 hx117
                 refine qv (v_indexO Try.underlying26 Try.sizeOf3 rfl ha146 rfl (SlR.idx hz89 g116)) rfl ?_
                 refine shQ_on (b := false) 71 rfl (Env.isF rfl c128) ?_
                 refine qv (v_load Try.isAgg3 rfl hs147 (hc150 0 (by decide))) rfl ?_
                 refine shQ_on (b := false) 71 rfl (Env.isF rfl c128) ?_
                 refine qv (v_lssK rfl rfl) rfl ?_
                 refine shQ_on (b := true) 65 rfl (Env.isT rfl c114) ?_
                 refine qv (v_pick_f (evD_false rfl c128) rfl) rfl ?_
                 refine qv (v_pick_t (evD_true rfl c114) rfl) rfl ?_
                 refine shQ_nil ?_
                 obtain rfl := inj1 r141
                 exact mi kr ⟨rfl, rfl, (sc rfl (sc rfl (sc rfl (sc rfl (sc rfl (sc rfl (sc rfl (sc rfl (sn _)))))))))⟩
               have r151 := ite_f r104 c114; clear r104
               refine shQ_off (b' := false) 65 rfl (Env.isF rfl c114) rfl rfl (shQ_off (b' := false) 65 rfl (Env.isF rfl c114) rfl rfl (shQ_off (b' := false) 65 rfl (Env.isF rfl c114) rfl rfl (shQ_off (b' := false) 65 rfl (Env.isF rfl c114) rfl rfl (shQ_off (b' := false) 65 rfl (Env.isF rfl c114) rfl rfl (shQ_off (b' := false) 65 rfl (Env.isF rfl c114) rfl rfl (shQ_offU 71 rfl rfl rfl (shQ_offU 71 rfl rfl rfl (shQ_offU 71 rfl rfl rfl (shQ_offU 71 rfl rfl rfl ?_)))))))))
               refine shQ_offU 71 rfl rfl rfl (shQ_offU 71 rfl rfl rfl (shQ_offU 71 rfl rfl rfl (shQ_offU 71 rfl rfl rfl (shQ_offU 71 rfl rfl rfl (shQ_offU 71 rfl rfl rfl (shQ_offU 71 rfl rfl rfl (shQ_off (b' := false) 65 rfl (Env.isF rfl c114) rfl rfl ?_)))))))
               refine qv (v_pick_f (evD_false rfl c114) rfl) rfl ?_
               refine shQ_nil ?_
               obtain rfl := inj1 r151
               exact mi kr ⟨rfl, rfl, (sc rfl (sc rfl (sc rfl (sc rfl (sc rfl (sc rfl (sc rfl (sc rfl (sn _)))))))))⟩
             have r152 := ite_f h98 c100; clear h98
             refine shQ_off (b' := false) 58 rfl (Env.isF rfl c100) rfl rfl (shQ_off (b' := false) 58 rfl (Env.isF rfl c100) rfl rfl (shQ_off (b' := false) 58 rfl (Env.isF rfl c100) rfl rfl (shQ_off (b' := false) 58 rfl (Env.isF rfl c100) rfl rfl (shQ_off (b' := false) 58 rfl (Env.isF rfl c100) rfl rfl ?_))))
             refine qv (v_pick_f (evD_false rfl c100) rfl) rfl ?_
             refine qm rfl rfl (shQ_off (b' := false) 65 rfl rfl rfl rfl (shQ_off (b' := false) 65 rfl rfl rfl rfl (shQ_off (b' := false) 65 rfl rfl rfl rfl (shQ_off (b' := false) 65 rfl rfl rfl rfl (shQ_off (b' := false) 65 rfl rfl rfl rfl (shQ_off (b' := false) 65 rfl rfl rfl rfl (shQ_offU 71 rfl rfl rfl (shQ_offU 71 rfl rfl rfl (shQ_offU 71 rfl rfl rfl ?_)))))))))
             refine shQ_offU 71 rfl rfl rfl (shQ_offU 71 rfl rfl rfl (shQ_offU 71 rfl rfl rfl (shQ_offU 71 rfl rfl rfl (shQ_offU 71 rfl rfl rfl (shQ_offU 71 rfl rfl rfl (shQ_offU 71 rfl rfl rfl (shQ_offU 71 rfl rfl rfl (shQ_off (b' := false) 65 rfl rfl rfl rfl ?_))))))))
             refine qv (v_pick_f rfl rfl) rfl ?_
             refine shQ_nil ?_
             obtain rfl := inj1 r152
             exact mi kr ⟨rfl, rfl, (sc rfl (sc rfl (sc rfl (sc rfl (sc rfl (sc rfl (sc rfl (sc rfl (sn _)))))))))⟩
           rintro e1 _ _ ⟨rfl, rfl, he153⟩
           refine shW_env _ he153 ?_; clear he153
           refine shW_cond rfl (fun c154 => ?_) (fun c154 => ?_)
           · have r155 := bt r99 c154; clear r99
             refine wsr (om rfl rfl (om rfl rfl (om rfl rfl (om rfl rfl ?_))))
             obtain ⟨x5, g156, hx157, r158⟩ := ix_ok r155; clear r155
             obtain ⟨b159, o160, c161, vs162, ha163, hs164, hle165, rfl, hl166, hc167⟩ := SlR.at (iE_ok _) hz89 (L := (b1, .cells #[.int .i64 wide, .slice plots_a plots.length plots_c] 32 (0, 0)) :: (Lb88 ++ [])) (fC fP) g156.1 hx157
             refine ov (v_indexO Try.underlying26 Try.sizeOf3 rfl ha163 rfl (SlR.idx hz89 g156)) rfl ?_
             refine ov (v_load Try.isAgg3 rfl hs164 (hc167 0 (by decide))) rfl ?_
             refine om rfl rfl ?_
             obtain ⟨g168, r169⟩ := gd_ok r158; clear r158
             refine ov (v_add rfl rfl g168) rfl ?_
             obtain ⟨x6, g170, hx171, r172⟩ := ix_ok r169; clear r169
             obtain ⟨b173, o174, c175, vs176, ha177, hs178, hle179, rfl, hl180, hc181⟩ := SlR.at (iE_ok _) hz89 (L := (b1, .cells #[.int .i64 wide, .slice plots_a plots.length plots_c] 32 (0, 0)) :: (Lb88 ++ [])) (fC fP) g170.1 hx171
             refine ov (v_indexO Try.underlying26 Try.sizeOf3 rfl ha177 rfl (SlR.idx hz89 g170)) rfl ?_
             obtain ⟨out10, h182, r183⟩ := bv_ok r172; clear r172
             refine o_storeZ (u := x5 + n2) Try.sizeOf3 (iE_ok _) rfl ha177 rfl rfl (fun _ => .c .h) hz89 h182 g170 ?_; intro Lb184 hz185
             refine shO_nil (shW_region (oa rfl rfl (shO_nil (inBlock_n (id := 7) (shW_region (om rfl rfl ?_))))))
             obtain ⟨g186, r187⟩ := gd_ok r183; clear r183
             refine ov (v_add rfl rfl g186) rfl ?_
             refine oa rfl rfl (shO_nil ?_)
             exact le kr ⟨out10, true, q + 1, Lb184, r187, rfl, rfl, (sc rfl (sc rfl (sc rfl (sc rfl (sc rfl (sc rfl (sn _))))))), hz185⟩
           have r188 := bf r99 c154; clear r99
           refine shW_skip (inBlock_n (id := 7) (shW_region (om rfl rfl ?_)))
           obtain ⟨g189, r190⟩ := gd_ok r188; clear r188
           refine ov (v_add rfl rfl g189) rfl ?_
           refine oa rfl rfl (shO_nil ?_)
           exact le kr ⟨out9, changed4, q + 1, Lb88, r190, rfl, rfl, (sc rfl (sc rfl (sc rfl (sc rfl (sc rfl (sc rfl (sn _))))))), hz89⟩
         have r191 := ite_f r92 c94; clear r92
         refine shW_exit (andThen_exit (andThen_exit ?_))
         refine inBlock_exit ?_
         refine inBlock_n (id := 5) ?_
         obtain ⟨rfl, rfl⟩ := inj2 r191
         exact mi kr ⟨Lb88, rfl, rfl, (sc rfl (sc rfl (sc rfl (sc rfl (sc rfl (sn _)))))), hz89⟩
       rintro e1 _ _ ⟨Lb84, rfl, rfl, he192, hz85⟩
       refine shW_env _ he192 ?_; clear he192
       refine shW_region (om rfl rfl ?_)
       obtain ⟨g193, r194⟩ := gd_ok r87; clear r87
       refine ov (v_add rfl rfl g193) rfl ?_
       refine oa rfl rfl (shO_nil ?_)
       exact le kr ⟨out8, changed3, p2 + 1, Lb84, r194, rfl, rfl, (sc rfl (sc rfl (sc rfl (sc rfl (sc rfl (sn _)))))), hz85⟩
     have r195 := ite_f r80 c82; clear r80
     refine shW_exit (andThen_exit (andThen_exit ?_))
     refine inBlock_exit ?_
     refine inBlock_n (id := 3) ?_
     exact le kr ⟨out7, changed2, Lb76, r195, rfl, rfl, (sc rfl (sc rfl (sc rfl (sc rfl (sn _))))), hz77⟩
   have r196 := bf r72 c74; clear r72
   refine shW_exit (andThen_exit (andThen_exit ?_))
   refine inBlock_exit ?_
   obtain rfl := inj1 r196
   exact mi (kd kr) ⟨Lb68, rfl, rfl, (sc rfl (sn _)), hz69⟩
 rintro e1 _ _ ⟨Lb64, rfl, rfl, he197, hz65⟩
 refine shW_env _ he197 ?_; clear he197
 refine wsr (om rfl rfl (oa rfl rfl (oa rfl rfl (shO_nil (shW_ret ?_)))))
 refine q_res2 Try.results22 (res_tmp rfl) (res_tmp rfl) (sr) ?_
 obtain ⟨rfl, rfl⟩ := inj2 r67
 exact ⟨_, _, _, _, rfl, rfl, hz65.any⟩


set_option maxHeartbeats 1000000 in
theorem slices_Equal_hear_Plot_hear_Plot_w {s1_a : Option Addr} {s1_c : Nat} {s1 : List Int} {s2_a : Option Addr} {s2_c : Nat} {s2 : List Int} {F : FS} (h_s1 : RowR 1 (iE .i64) F s1_a s1_c s1) (h_s2 : RowR 1 (iE .i64) F s2_a s2_c s2) {r : Bool} (hr : slices_Equal_hear_Plot_hear_Plot s1 s2 = some r) :
    SpecV Try.prog 125 #[.slice s1_a s1.length s1_c, .slice s2_a s2.length s2_c] F (.bool r) := by
 refine spec_of_shW (args := [.slice s1_a s1.length s1_c, .slice s2_a s2.length s2_c]) Try.func125 rfl Try.ntmps125 (Nat.le_of_ble_eq_true rfl) ?_
 intro K _ _; rw [slices_Equal_hear_Plot_hear_Plot] at hr
 refine wsr (oa rfl rfl (shO_nil (shW_seq (wsr (om rfl rfl ?_)))))
 refine ov (v_lenS Try.underlying22 rfl) rfl ?_
 refine om rfl rfl ?_
 refine ov (v_lenS Try.underlying22 rfl) rfl ?_
 refine ov (v_neq rfl rfl) rfl ?_
 refine shO_nil ?_
 refine shW_condP rfl (fun c1 => ?_) (fun c1 => ?_)
 · have r2 := ite_t hr c1; clear hr
   refine wsr (oa rfl rfl (shO_nil (shW_ret (andThen_ret ?_))))
   refine q_res1 Try.results125 (res_tmp rfl) (sr) ?_
   obtain rfl := inj1 r2
   exact rfl
 have r3 := ite_f hr c1; clear hr
 refine shW_skip ?_
 refine shW_join (fun e1 F1 L1 => slices_Equal_hear_Plot_hear_Plot_j1 = some r ∧ F = F1 ∧ L1 = [] ∧ e1.sub []) ?_ ?_
 · refine wsr (om rfl rfl ?_)
   refine ov (v_lenS Try.underlying22 rfl) rfl ?_
   refine om rfl rfl (shO_nil ?_)
   refine shW_block ?_
   refine shW_lp (fun fu2 e1 F1 L1 => ∃ (tl : List Int) (k : Int), tl.length = fu2 ∧ Lst s1 k tl ∧ slices_Equal_hear_Plot_hear_Plot_l2 s2 tl k = some r ∧ F = F1 ∧ L1 = [] ∧ e1.sub [(0, .slice s1_a s1.length s1_c), (1, .slice s2_a s2.length s2_c), (12, .int .i64 (s1.length : Int)), (13, .int .i64 k)]) _ (m0 kr ⟨_, _, rfl, Lst.start _, r3, rfl, rfl, (sc rfl (sc rfl (sc rfl (sc rfl (sn _)))))⟩) ?_
   rintro fu2 e1 _ _ ⟨tl, k, hn5, hk4, r6, rfl, rfl, he7⟩
   refine shW_env _ he7 ?_; clear he7
   refine wsr ?_
   refine ov (v_lssK rfl rfl) rfl ?_
   refine shO_nil (shW_seq ?_)
   refine shW_condP rfl (fun c9 => ?_) (fun c9 => ?_)
   · obtain ⟨x, tl2, rfl, hx11, g12, hk10⟩ := Lst.succ hk4 c9
     rw [slices_Equal_hear_Plot_hear_Plot_l2] at r6
     refine shW_skip (shW_seq ?_)
     refine shW_block ?_
     refine wsr (om rfl rfl (oa rfl rfl ?_))
     refine nsd (by kernel_rfl) (by kernel_rfl) (by kernel_rfl) ?_
     refine qm rfl rfl (qm rfl rfl ?_)
     obtain ⟨b13, o14, c15, vs16, ha17, hs18, hle19, rfl, hl20, hc21⟩ := RowR.at (iE_ok _) h_s1 ([]) g12.1 hx11
     refine qv (v_indexO Try.underlying22 Try.sizeOf73 rfl ha17 rfl g12) rfl ?_
     refine qv (v_load Try.isAgg73 rfl hs18 (hc21 0 (by decide))) rfl ?_
     refine qm rfl rfl (qm rfl rfl ?_)
     obtain ⟨x2, g22, hx23, r24⟩ := ix_ok r6; clear r6
     obtain ⟨b25, o26, c27, vs28, ha29, hs30, hle31, rfl, hl32, hc33⟩ := RowR.at (iE_ok _) h_s2 ([]) g22.1 hx23
     refine qv (v_indexO Try.underlying22 Try.sizeOf73 rfl ha29 rfl g22) rfl ?_
     refine qv (v_load Try.isAgg73 rfl hs30 (hc33 0 (by decide))) rfl ?_
     refine qv (v_neq rfl rfl) rfl ?_
     refine shQ_nil ?_
     refine shW_condP rfl (fun c34 => ?_) (fun c34 => ?_)
     · have r35 := ite_t r24 c34; clear r24
       refine wsr (oa rfl rfl (shO_nil (shW_ret (inBlock_ret (andThen_ret (andThen_ret (inBlock_ret (andThen_ret ?_))))))))
       refine q_res1 Try.results125 (res_tmp rfl) (sr) ?_
       obtain rfl := inj1 r35
       exact rfl
     have r36 := ite_f r24 c34; clear r24
     refine shW_skip (inBlock_n (id := 1) (shW_region ?_))
     refine ov (v_add rfl rfl (Lst.r64 hk4 c9 (RowR.lt h_s1))) rfl ?_
     refine om rfl rfl (shO_nil ?_)
     subst hn5; exact le kr ⟨_, _, rfl, hk10, r36, rfl, rfl, (sc rfl (sc rfl (sc rfl (sc rfl (sn _)))))⟩
   obtain rfl := Lst.zero hk4 c9
   rw [slices_Equal_hear_Plot_hear_Plot_l2] at r6
   refine shW_exit (andThen_exit (andThen_exit ?_))
   refine inBlock_exit ?_
   exact mi kr ⟨r6, rfl, rfl, (sn _)⟩
 rintro e1 _ _ ⟨r37, rfl, rfl, he38⟩
 refine shW_env _ he38 ?_; clear he38
 rw [slices_Equal_hear_Plot_hear_Plot_j1] at r37
 refine wsr (oa rfl rfl (shO_nil (shW_ret ?_)))
 refine q_res1 Try.results125 (res_tmp rfl) (sr) ?_
 obtain rfl := inj1 r37
 exact rfl


set_option maxHeartbeats 1000000 in
theorem oyezkit_Like_Plot_w {a_a : Option Addr} {a_c : Nat} {a : List Int} {b_a : Option Addr} {b_c : Nat} {b : List Int} {F : FS} (h_a : RowR 1 (iE .i64) F a_a a_c a) (h_b : RowR 1 (iE .i64) F b_a b_c b) {r : Bool} (hr : oyezkit_Like_Plot a b = some r) :
    SpecV Try.prog 87 #[.slice a_a a.length a_c, .slice b_a b.length b_c] F (.bool r) := by
 refine spec_of_shW (args := [.slice a_a a.length a_c, .slice b_a b.length b_c]) Try.func87 rfl Try.ntmps87 (Nat.le_of_ble_eq_true rfl) ?_
 intro K _ _; rw [oyezkit_Like_Plot] at hr
 refine wsr (oa rfl rfl (nsr (om rfl rfl (om rfl rfl ?_))))
 obtain ⟨ok, h1, r2⟩ := b1_ok hr; clear hr
 refine o_callV rfl Try.call125 rfl rfl rfl (slices_Equal_hear_Plot_hear_Plot_w h_a h_b h1) ?_
 refine oa rfl rfl (shO_nil (shW_ret ?_))
 refine q_res1 Try.results87 (res_tmp rfl) (sr) ?_
 obtain rfl := inj1 r2
 exact rfl


set_option maxHeartbeats 1000000 in
theorem oyezlaw01_same_w {wide : Int} {plots_a : Option Addr} {plots_c : Nat} {plots : List Int} {wide2 : Int} {plots2_a : Option Addr} {plots2_c : Nat} {plots2 : List Int} {F : FS} (h_plots : RowR 1 (iE .i64) F plots_a plots_c plots) (h_plots2 : RowR 1 (iE .i64) F plots2_a plots2_c plots2) {r : Bool} (hr : oyezlaw01_same wide plots wide2 plots2 = some r) :
    SpecV Try.prog 26 #[.agg #[.int .i64 wide, .slice plots_a plots.length plots_c], .agg #[.int .i64 wide2, .slice plots2_a plots2.length plots2_c]] F (.bool r) := by
 refine spec_of_shW (args := [.agg #[.int .i64 wide, .slice plots_a plots.length plots_c], .agg #[.int .i64 wide2, .slice plots2_a plots2.length plots2_c]]) Try.func26 rfl Try.ntmps26 (Nat.le_of_ble_eq_true rfl) ?_
 intro K _ _; rw [oyezlaw01_same] at hr
 refine wsr ?_
 refine o_box rfl rfl ?_; intro b1 hb1
 refine o_box rfl rfl ?_; intro b2 hb2
 refine oa rfl rfl (nsr ?_)
 refine ov (v_fieldAddr fa_24_0 rfl) rfl ?_
 refine ov (v_load Try.isAgg3 rfl (Has.own 1 rfl) rfl) rfl ?_
 refine ov (v_fieldAddr fa_24_0 rfl) rfl ?_
 refine ov (v_load Try.isAgg3 rfl (Has.own 0 rfl) rfl) rfl ?_
 refine ov (v_eql rfl rfl) rfl ?_
 refine om rfl rfl ?_
 by_cases c3 : wide = wide2
 · have r4 := ite_t hr c3; clear hr
   refine shO_on (b := true) 10 rfl (Env.isT rfl c3) ?_
   refine ov (v_fieldAddr fa_24_1 rfl) rfl ?_
   refine shO_on (b := true) 10 rfl (Env.isT rfl c3) ?_
   refine ov (v_load Try.isAgg22 rfl (Has.own 1 rfl) rfl) rfl ?_
   refine shO_on (b := true) 10 rfl (Env.isT rfl c3) ?_
   refine ov (v_fieldAddr fa_24_1 rfl) rfl ?_
   refine shO_on (b := true) 10 rfl (Env.isT rfl c3) ?_
   refine ov (v_load Try.isAgg22 rfl (Has.own 0 rfl) rfl) rfl ?_
   refine shO_on (b := true) 10 rfl (Env.isT rfl c3) ?_
   obtain ⟨ok, h5, r6⟩ := b1_ok r4; clear r4
   refine o_callV rfl Try.call87 rfl rfl rfl (oyezkit_Like_Plot_w h_plots h_plots2 h5) ?_
   refine ov (v_pick_t (evD_true rfl c3) rfl) rfl ?_
   refine oa rfl rfl (shO_nil ?_)
   refine kW kn ?_
   refine shW_ret ?_
   refine q_res1 Try.results26 (res_tmp rfl) (sr) ?_
   obtain rfl := inj1 r6
   exact rfl
 have r7 := ite_f hr c3; clear hr
 refine shO_off (b' := false) 10 rfl (Env.isF rfl c3) rfl rfl (shO_off (b' := false) 10 rfl (Env.isF rfl c3) rfl rfl (shO_off (b' := false) 10 rfl (Env.isF rfl c3) rfl rfl (shO_off (b' := false) 10 rfl (Env.isF rfl c3) rfl rfl (shO_off (b' := false) 10 rfl (Env.isF rfl c3) rfl rfl ?_))))
 refine ov (v_pick_f (evD_false rfl c3) rfl) rfl ?_
 refine oa rfl rfl (shO_nil ?_)
 refine kW kn ?_
 refine shW_ret ?_
 refine q_res1 Try.results26 (res_tmp rfl) (sr) ?_
 obtain rfl := inj1 r7
 exact rfl


set_option maxHeartbeats 1000000 in
theorem oyezlaw01_many_w {wide : Int} {plots_a : Option Addr} {plots_c : Nat} {plots : List Int} {most : Int} {F : FS} (h_plots : RowR 1 (iE .i64) F plots_a plots_c plots) {r : Bool} (hr : oyezlaw01_many wide plots most = some r) :
    SpecV Try.prog 27 #[.agg #[.int .i64 wide, .slice plots_a plots.length plots_c], .int .i64 most] F (.bool r) := by
 refine spec_of_shW (args := [.agg #[.int .i64 wide, .slice plots_a plots.length plots_c], .int .i64 most]) Try.func27 rfl Try.ntmps27 (Nat.le_of_ble_eq_true rfl) ?_
 intro K _ _; rw [oyezlaw01_many] at hr
 refine wsr ?_
 refine o_box rfl rfl ?_; intro b1 hb1
 refine oa rfl rfl (nsr (oa rfl rfl (shO_nil ?_)))
 obtain ⟨n, h2, r3⟩ := b1_ok hr; clear hr
 refine shW_join (fun e1 F1 L1 => F = F1 ∧ L1 = [(b1, .cells #[.int .i64 wide, .slice plots_a plots.length plots_c] 24 (0, 0))] ∧ e1.sub [(1, .int .i64 most), (2, .pointer (some ⟨b1, 0, none⟩)), (5, .int .i64 n)]) ?_ ?_
 · clear r3
   refine wsr ?_
   refine ov (v_fieldAddr fa_24_1 rfl) rfl ?_
   refine ov (v_load Try.isAgg22 rfl (Has.own 0 rfl) rfl) rfl ?_
   refine ov (v_lenS Try.underlying22 rfl) rfl ?_
   refine om rfl rfl (shO_nil ?_)
   refine shW_block ?_
   refine shW_lp (fun fu1 e1 F1 L1 => ∃ (tl : List Int) (k : Int), tl.length = fu1 ∧ Lst plots k tl ∧ ∃ (n2 : Int), oyezlaw01_many_l1 tl n2 = some n ∧ F = F1 ∧ L1 = [(b1, .cells #[.int .i64 wide, .slice plots_a plots.length plots_c] 24 (0, 0))] ∧ e1.sub [(1, .int .i64 most), (2, .pointer (some ⟨b1, 0, none⟩)), (5, .int .i64 n2), (9, .slice plots_a plots.length plots_c), (10, .int .i64 (plots.length : Int)), (11, .int .i64 k)]) _ (m0 kr ⟨_, _, rfl, Lst.start _, 0, h2, rfl, rfl, (sc rfl (sc rfl (sc rfl (sc rfl (sc rfl (sc rfl (sn _)))))))⟩) ?_
   rintro fu1 e1 _ _ ⟨tl, k, hn5, hk4, n2, r6, rfl, rfl, he7⟩
   refine shW_env _ he7 ?_; clear he7
   refine wsr ?_
   refine ov (v_lssK rfl rfl) rfl ?_
   refine shO_nil (shW_seq ?_)
   refine shW_condP rfl (fun c9 => ?_) (fun c9 => ?_)
   · obtain ⟨x, tl2, rfl, hx11, g12, hk10⟩ := Lst.succ hk4 c9
     rw [oyezlaw01_many_l1] at r6
     refine shW_skip (shW_seq ?_)
     refine shW_block ?_
     refine wsr ?_
     obtain ⟨b13, o14, c15, vs16, ha17, hs18, hle19, rfl, hl20, hc21⟩ := RowR.at (iE_ok _) h_plots ([(b1, .cells #[.int .i64 wide, .slice plots_a plots.length plots_c] 24 (0, 0))]) g12.1 hx11
     refine ov (v_indexO Try.underlying22 Try.sizeOf73 rfl ha17 rfl g12) rfl ?_
     refine ov (v_load Try.isAgg73 rfl hs18 (hc21 0 (by decide))) rfl ?_
     refine oa rfl rfl (nsr (om rfl rfl ?_))
     refine ov (v_eql rfl rfl) rfl ?_
     refine shO_nil ?_
     refine shW_condP rfl (fun c22 => ?_) (fun c22 => ?_)
     · have r23 := ite_t r6 c22; clear r6
       refine shW_region (om rfl rfl ?_)
       obtain ⟨g24, r25⟩ := gd_ok r23; clear r23
       refine ov (v_add rfl rfl g24) rfl ?_
       refine oa rfl rfl (shO_nil (inBlock_n (id := 1) (shW_region ?_)))
       refine ov (v_add rfl rfl (Lst.r64 hk4 c9 (RowR.lt h_plots))) rfl ?_
       refine om rfl rfl (shO_nil ?_)
       subst hn5; exact le kr ⟨_, _, rfl, hk10, n2 + 1, r25, rfl, rfl, (sc rfl (sc rfl (sc rfl (sc rfl (sc rfl (sc rfl (sn _)))))))⟩
     have r26 := ite_f r6 c22; clear r6
     refine shW_skip (inBlock_n (id := 1) (shW_region ?_))
     refine ov (v_add rfl rfl (Lst.r64 hk4 c9 (RowR.lt h_plots))) rfl ?_
     refine om rfl rfl (shO_nil ?_)
     subst hn5; exact le kr ⟨_, _, rfl, hk10, n2, r26, rfl, rfl, (sc rfl (sc rfl (sc rfl (sc rfl (sc rfl (sc rfl (sn _)))))))⟩
   obtain rfl := Lst.zero hk4 c9
   rw [oyezlaw01_many_l1] at r6
   refine shW_exit (andThen_exit (andThen_exit ?_))
   refine inBlock_exit ?_
   obtain rfl := inj1 r6
   exact mi kr ⟨rfl, rfl, (sc rfl (sc rfl (sc rfl (sn _))))⟩
 rintro e1 _ _ ⟨rfl, rfl, he27⟩
 refine shW_env _ he27 ?_; clear he27
 refine wsr ?_
 refine ov (v_loadA (cs := #[.int .i64 wide, .slice plots_a plots.length plots_c]) Try.isAgg24 Try.sizeOf24 rfl (Has.own 0 rfl) (Nat.le_of_ble_eq_true rfl) rfl) rfl ?_
 obtain ⟨ok, h28, r29⟩ := b1_ok r3; clear r3
 refine o_callV rfl Try.call14 rfl rfl rfl (oyezlaw01_great_w h_plots h28) ?_
 refine om rfl rfl ?_
 rcases bool_two ok with c30 | c30
 · have r31 := bt r29 c30; clear r29
   refine shO_off (b' := true) 22 rfl (EnvB rfl c30) rfl rfl (shO_off (b' := true) 22 rfl (EnvB rfl c30) rfl rfl (shO_off (b' := true) 22 rfl (EnvB rfl c30) rfl rfl (shO_off (b' := true) 22 rfl (EnvB rfl c30) rfl rfl (shO_offU 26 rfl rfl rfl (shO_offU 26 rfl rfl rfl (shO_offU 26 rfl rfl rfl (shO_offU 26 rfl rfl rfl (shO_off (b' := true) 22 rfl (EnvB rfl c30) rfl rfl ?_))))))))
   refine ov (v_pick_t (evB rfl c30) rfl) rfl ?_
   refine oa rfl rfl (shO_nil ?_)
   refine kW kn ?_
   refine shW_ret ?_
   refine q_res1 Try.results27 (res_tmp rfl) (sr) ?_
   obtain rfl := inj1 r31
   exact rfl
 have r32 := bf r29 c30; clear r29
 refine shO_on (b := false) 22 rfl (EnvB rfl c30) (om rfl rfl (shO_on (b := false) 22 rfl (EnvB rfl c30) (om rfl rfl (shO_on (b := false) 22 rfl (EnvB rfl c30) ?_))))
 refine ov (v_gtrK rfl rfl) rfl ?_
 refine shO_on (b := false) 22 rfl (EnvB rfl c30) (om rfl rfl ?_)
 by_cases c33 : most < n
 · have r34 := ite_t r32 c33; clear r32
   refine shO_on (b := true) 26 rfl (Env.isT rfl c33) ?_
   refine ov (v_fieldAddr fa_24_1 rfl) rfl ?_
   refine shO_on (b := true) 26 rfl (Env.isT rfl c33) ?_
   refine ov (v_load Try.isAgg22 rfl (Has.own 0 rfl) rfl) rfl ?_
   refine shO_on (b := true) 26 rfl (Env.isT rfl c33) ?_
   refine ov (v_lenS Try.underlying22 rfl) rfl ?_
   refine shO_on (b := true) 26 rfl (Env.isT rfl c33) ?_
   refine ov (v_leqK rfl rfl) rfl ?_
   refine shO_on (b := false) 22 rfl (EnvB rfl c30) ?_
   refine ov (v_pick_t (evD_true rfl c33) rfl) rfl ?_
   refine ov (v_pick_f (evB rfl c30) rfl) rfl ?_
   refine oa rfl rfl (shO_nil ?_)
   refine kW kn ?_
   refine shW_ret ?_
   refine q_res1 Try.results27 (res_tmp rfl) (sr) ?_
   obtain rfl := inj1 r34
   exact rfl
 have r35 := ite_f r32 c33; clear r32
 refine shO_off (b' := false) 26 rfl (Env.isF rfl c33) rfl rfl (shO_off (b' := false) 26 rfl (Env.isF rfl c33) rfl rfl (shO_off (b' := false) 26 rfl (Env.isF rfl c33) rfl rfl (shO_off (b' := false) 26 rfl (Env.isF rfl c33) rfl rfl (shO_on (b := false) 22 rfl (EnvB rfl c30) ?_))))
 refine ov (v_pick_f (evD_false rfl c33) rfl) rfl ?_
 refine ov (v_pick_f (evB rfl c30) rfl) rfl ?_
 refine oa rfl rfl (shO_nil ?_)
 refine kW kn ?_
 refine shW_ret ?_
 refine q_res1 Try.results27 (res_tmp rfl) (sr) ?_
 obtain rfl := inj1 r35
 exact rfl


set_option maxHeartbeats 1000000 in
theorem hear_Best_w {wide : Int} {plots_a : Option Addr} {plots_c : Nat} {plots : List Int} {wind : Int} {voice : Int} {houses_a : Option Addr} {houses_c : Nat} {houses : List Int} {stands : Int} {F : FS} (h_plots : RowR 1 (iE .i64) F plots_a plots_c plots) (h_houses : RowR 1 (iE .i64) F houses_a houses_c houses) {r : List Int} {r2 : Int} {r3 : Int} (hr : hear_Best wide plots wind voice houses stands = some (r, r2, r3)) :
    SH.Spec Try.prog 28 #[.agg #[.int .i64 wide, .slice plots_a plots.length plots_c], .agg #[.int .i64 wind, .int .i64 voice], .slice houses_a houses.length houses_c, .int .i64 stands] F [] fun F' L' v => ∃ (ra : Option Addr) (rn : Nat) (rc : Nat) (rL : LH), v = .tuple #[.slice ra rn rc, .int .i64 r2, .int .i64 r3] ∧ L' = rL ++ [] ∧ SlR 0 3 1 (iE .i64) F' ra rn rc r rL := by
 refine spec_of_shW (args := [.agg #[.int .i64 wide, .slice plots_a plots.length plots_c], .agg #[.int .i64 wind, .int .i64 voice], .slice houses_a houses.length houses_c, .int .i64 stands]) Try.func28 rfl Try.ntmps28 (Nat.le_of_ble_eq_true rfl) ?_
 intro K _ _; rw [hear_Best] at hr
 refine wsr ?_
 refine o_box rfl rfl ?_; intro b1 hb1
 refine o_box rfl rfl ?_; intro b2 hb2
 refine oa rfl rfl (oa rfl rfl (oa rfl rfl (nsr ?_)))
 refine ov (v_loadA (cs := #[.int .i64 wide, .slice plots_a plots.length plots_c]) Try.isAgg24 Try.sizeOf24 rfl (Has.own 1 rfl) (Nat.le_of_ble_eq_true rfl) rfl) rfl ?_
 refine ov (v_loadA (cs := #[.int .i64 wind, .int .i64 voice]) Try.isAgg48 Try.sizeOf48 rfl (Has.own 0 rfl) (Nat.le_of_ble_eq_true rfl) rfl) rfl ?_
 refine om rfl rfl ?_
 obtain ⟨l, y, n, h3, r4⟩ := b3_ok hr; clear hr
 refine o_call0 rfl Try.call88 rfl rfl rfl (hear_asked_w h_plots h_houses h3) ?_; rintro _ F5 _ hF6 hn7 ⟨a9, n13, c10, Lb11, v15, rfl, rfl, hz12, hp16⟩
 replace h_plots := h_plots.mono (iE_ok _) hF6
 replace h_houses := h_houses.mono (iE_ok _) hF6
 replace hz12 := hz12.new fun p hp => hn7 p (by simp [hp])
 refine shO_L (lp (ln rfl)) ?_
 refine kO (kf (fS fO) (kf (fS fO) kr)) ?_
 refine om rfl rfl (ox rfl rfl rfl (ox rfl rfl rfl ?_))
 refine o_alloc rfl Try.zeroValue121 ?_; intro b17 hb17
 refine o_storeA (i := 0) Try.sizeOf121 rfl rfl rfl (List.forall_mem_cons.2 ⟨rfl, (List.forall_mem_cons.2 ⟨hp16.1, (fun _ h => absurd h List.not_mem_nil)⟩)⟩) rfl (Nat.le_of_ble_eq_true rfl) ?_
 refine shO_L (L' := (b17, .cells #[.slice a9 n13 c10, v15] 121 (0, 0)) :: ((b2, .cells #[.int .i64 wind, .int .i64 voice] 48 (0, 0)) :: ((b1, .cells #[.int .i64 wide, .slice plots_a plots.length plots_c] 24 (0, 0)) :: (Lb11 ++ [])))) rfl ?_
 refine oa rfl rfl (shO_nil (shW_seq ?_))
 refine shW_block ?_
 refine wsr (om rfl rfl ?_)
 refine ov (v_neq rfl rfl) rfl ?_
 refine oa rfl rfl (shO_nil ?_)
 refine shW_condP rfl (fun c18 => ?_) (fun c18 => ?_)
 · have r19 := ite_t r4 c18; clear r4
   refine wsr (om rfl rfl (oa rfl rfl (oa rfl rfl (oa rfl rfl (shO_nil ?_)))))
   refine kW kn ?_
   refine shW_ret (inBlock_ret (andThen_ret ?_))
   refine q_res3 Try.results28 (res_tmp rfl) (res_tmp rfl) (res_tmp rfl) (sr) ?_
   obtain ⟨rfl, rfl, rfl⟩ := inj3 r19
   exact ⟨_, _, _, [], rfl, rfl, SlR.nil _ _ _ _ _⟩
 have r20 := ite_f r4 c18; clear r4
 refine wsr (om rfl rfl ?_)
 obtain ⟨ok, h21, r22⟩ := b1_ok r20; clear r20
 refine o_callV rfl Try.call89 rfl rfl rfl (hear_in_w h21) ?_
 refine ov (v_notB rfl) rfl ?_
 refine oa rfl rfl (shO_nil ?_)
 refine shW_cond rfl (fun c23 => ?_) (fun c23 => ?_)
 · have r24 := bt r22 c23; clear r22
   refine wsr (oa rfl rfl (oa rfl rfl (oa rfl rfl (shO_nil ?_))))
   refine kW kn ?_
   refine shW_ret (inBlock_ret (andThen_ret ?_))
   refine q_res3 Try.results28 (res_tmp rfl) (res_tmp rfl) (res_tmp rfl) (sr) ?_
   obtain ⟨rfl, rfl, rfl⟩ := inj3 r24
   exact ⟨_, _, _, [], rfl, rfl, SlR.nil _ _ _ _ _⟩
 have r25 := bf r22 c23; clear r22
 refine shW_skip (inBlock_n (id := 0) (wsr ?_))
 refine ov (v_loadA (cs := #[.slice a9 n13 c10, v15]) Try.isAgg121 Try.sizeOf121 rfl (Has.own 0 rfl) (Nat.le_of_ble_eq_true rfl) rfl) rfl ?_
 refine om rfl rfl ?_
 obtain ⟨g26, r27⟩ := gd_ok r25; clear r25
 obtain rfl := hp16.2 g26
 have hn28 : FnR Try.prog F5 127 #[] #[] (iE .i64) (Value.int .i64) (fun x : Int => hear_ones x) := ⟨Try.call127, fun F2 h2 vs x r ha hr => by obtain rfl := ha; exact hear_ones_w hr⟩
 obtain ⟨l2, n2, h29, r30⟩ := b2_ok r27; clear r27
 refine o_callTO (Lb := []) (Lt := Lb11 ++ []) (Lr := [(b17, .cells (#[.slice a9 n13 c10, .func (.func 127) #[] #[]]) 121 (0, 0)), (b2, .cells #[.int .i64 wind, .int .i64 voice] 48 (0, 0)), (b1, .cells #[.int .i64 wide, .slice plots_a plots.length plots_c] 24 (0, 0))]) rfl Try.call90 rfl rfl rfl (pT ((fC (fC (fC fP))).trans (pA pR)) (ln (lp (ln rfl)))) (fun F2 h2 h3 => by rw [(SlR.caps hz12).1]; exact hear_quarter_chosen_w (hz12.row (arE_ok (n := 30) (sz := 1) cB_ok) h2 (fun p hp => h3 p (List.mem_append_left _ hp))) (hn28.mono h2) h29) (fun _ _ _ _ hq => by obtain ⟨a35, n39, c36, Lb37, rfl, rfl, hz38⟩ := hq; exact ⟨_, _, _, _, rfl, rfl, hz38.flat (fun _ _ h => h)⟩) ?_; rintro _ F31 _ hF32 hd34 hn33 ⟨a35, n39, c36, Lb37, rfl, rfl, hz38⟩
 replace h_plots := h_plots.mono (iE_ok _) hF32
 replace h_houses := h_houses.mono (iE_ok _) hF32
 replace hn28 := hn28.mono hF32
 replace hz12 := hz12.mono (arE_ok (n := 30) (sz := 1) cB_ok) hF32
 have hn41 := newp (Lb' := []) (by rfl) hd34 hn33
 replace hz38 := hz38.new fun p hp => hn41 p (by simp [hp])
 refine shO_L (lp (ln (lp (ln rfl)))) ?_
 refine kO (kf (fS (fS fO)) (kf (fS (fS fO)) (kf (fS (fS fO)) kr))) ?_
 refine om rfl rfl (ox rfl rfl rfl (ox rfl rfl rfl (oa rfl rfl (oa rfl rfl (nsr (om rfl rfl (om rfl rfl (oa rfl rfl (oa rfl rfl ?_)))))))))
 refine oa rfl rfl (shO_nil ?_)
 refine kW (kd (kd (kd (ka kn)))) ?_
 refine shW_ret ?_
 refine q_res3 Try.results28 (res_tmp rfl) (res_tmp rfl) (res_tmp rfl) (sr) ?_
 obtain ⟨rfl, rfl, rfl⟩ := inj3 r30
 exact ⟨_, _, _, _, rfl, rfl, hz38.any⟩


set_option maxHeartbeats 1000000 in
theorem oyezref01_CheckAir_w {wind : Int} {voice : Int} {F : FS} {r : Int} (hr : oyezref01_CheckAir wind voice = some r) :
    SpecV Try.prog 36 #[.int .i64 wind, .int .i64 voice] F (.int .i64 r) := by
 refine spec_of_shW (args := [.int .i64 wind, .int .i64 voice]) Try.func36 rfl Try.ntmps36 (Nat.le_of_ble_eq_true rfl) ?_
 intro K _ _; rw [oyezref01_CheckAir] at hr
 refine wsr (oa rfl rfl (shO_nil (shW_seq ?_)))
 obtain ⟨k, h1, r2⟩ := b1_ok hr; clear hr
 refine shW_join (fun e1 F1 L1 => F = F1 ∧ L1 = [] ∧ e1.sub [(10, .bool k)]) ?_ ?_
 · clear r2
   refine shW_region (om rfl rfl ?_)
   obtain ⟨ok, h3, r4⟩ := b1_ok h1; clear h1
   refine o_callV rfl Try.call78 rfl rfl rfl (oyezref01_off_w h3) ?_
   refine om rfl rfl ?_
   rcases bool_two ok with c5 | c5
   · have r6 := bt r4 c5; clear r4
     refine shO_off (b' := true) 7 rfl (EnvB rfl c5) rfl rfl (shO_off (b' := true) 7 rfl (EnvB rfl c5) rfl rfl ?_)
     refine ov (v_pick_t (evB rfl c5) rfl) rfl ?_
     refine shO_nil ?_
     obtain rfl := inj1 r6
     exact mi kr ⟨rfl, rfl, (sc rfl (sn _))⟩
   have r7 := bf r4 c5; clear r4
   refine shO_on (b := false) 7 rfl (EnvB rfl c5) (om rfl rfl (shO_on (b := false) 7 rfl (EnvB rfl c5) ?_))
   obtain ⟨ok2, h8, r9⟩ := b1_ok r7; clear r7
   refine o_callV rfl Try.call78 rfl rfl rfl (oyezref01_off_w h8) ?_
   refine ov (v_pick_f (evB rfl c5) rfl) rfl ?_
   refine shO_nil ?_
   obtain rfl := inj1 r9
   exact mi kr ⟨rfl, rfl, (sc rfl (sn _))⟩
 rintro e1 _ _ ⟨rfl, rfl, he10⟩
 refine shW_env _ he10 ?_; clear he10
 refine shW_cond rfl (fun c11 => ?_) (fun c11 => ?_)
 · have r12 := bt r2 c11; clear r2
   refine wsr (oa rfl rfl (shO_nil (shW_ret (andThen_ret ?_))))
   refine q_res1 Try.results36 (res_tmp rfl) (sr) ?_
   obtain rfl := inj1 r12
   exact rfl
 have r13 := bf r2 c11; clear r2
 refine shW_skip (wsr (oa rfl rfl (shO_nil (shW_ret ?_))))
 refine q_res1 Try.results36 (res_tmp rfl) (sr) ?_
 obtain rfl := inj1 r13
 exact rfl


set_option maxHeartbeats 1000000 in
theorem oyezref01_has_w {l_a : Option Addr} {l_c : Nat} {l : List Int} {n : Int} {F : FS} (h_l : RowR 1 (iE .i64) F l_a l_c l) {r : Bool} (hr : oyezref01_has l n = some r) :
    SpecV Try.prog 91 #[.slice l_a l.length l_c, .int .i64 n] F (.bool r) := by
 refine spec_of_shW (args := [.slice l_a l.length l_c, .int .i64 n]) Try.func91 rfl Try.ntmps91 (Nat.le_of_ble_eq_true rfl) ?_
 intro K _ _; rw [oyezref01_has] at hr
 refine wsr (oa rfl rfl (shO_nil ?_))
 refine shW_join (fun e1 F1 L1 => oyezref01_has_j1 = some r ∧ F = F1 ∧ L1 = [] ∧ e1.sub []) ?_ ?_
 · refine wsr (oa rfl rfl (shO_nil ?_))
   refine shW_block ?_
   refine shW_lp (fun fu2 e1 F1 L1 => ∃ (tl : List Int) (i : Int), tl.length = fu2 ∧ Lst l i tl ∧ oyezref01_has_l2 n tl = some r ∧ F = F1 ∧ L1 = [] ∧ e1.sub [(0, .slice l_a l.length l_c), (1, .int .i64 n), (5, .int .i64 i)]) _ (m0 kr ⟨_, _, rfl, Lst.start _, hr, rfl, rfl, (sc rfl (sc rfl (sc rfl (sn _))))⟩) ?_
   rintro fu2 e1 _ _ ⟨tl, i, hn2, hk1, r3, rfl, rfl, he4⟩
   refine shW_env _ he4 ?_; clear he4
   refine shW_seq (wsr (om rfl rfl (om rfl rfl ?_)))
   refine ov (v_lenS Try.underlying26 rfl) rfl ?_
   refine ov (v_lssK rfl rfl) rfl ?_
   refine shO_nil ?_
   refine shW_condP rfl (fun c6 => ?_) (fun c6 => ?_)
   · obtain ⟨x, tl2, rfl, hx8, g9, hk7⟩ := Lst.succ hk1 c6
     rw [oyezref01_has_l2] at r3
     refine shW_skip (shW_seq ?_)
     refine shW_block ?_
     refine wsr (om rfl rfl (om rfl rfl ?_))
     obtain ⟨b10, o11, c12, vs13, ha14, hs15, hle16, rfl, hl17, hc18⟩ := RowR.at (iE_ok _) h_l ([]) g9.1 hx8
     refine ov (v_indexO Try.underlying26 Try.sizeOf3 rfl ha14 rfl g9) rfl ?_
     refine ov (v_load Try.isAgg3 rfl hs15 (hc18 0 (by decide))) rfl ?_
     refine om rfl rfl ?_
     refine ov (v_eql rfl rfl) rfl ?_
     refine shO_nil ?_
     refine shW_condP rfl (fun c19 => ?_) (fun c19 => ?_)
     · have r20 := ite_t r3 c19; clear r3
       refine wsr (oa rfl rfl (shO_nil (shW_ret (inBlock_ret (andThen_ret (andThen_ret (inBlock_ret (andThen_ret ?_))))))))
       refine q_res1 Try.results91 (res_tmp rfl) (sr) ?_
       obtain rfl := inj1 r20
       exact rfl
     have r21 := ite_f r3 c19; clear r3
     refine shW_skip (inBlock_n (id := 1) (shW_region (om rfl rfl ?_)))
     refine ov (v_add rfl rfl (Lst.r64 hk1 c6 (RowR.lt h_l))) rfl ?_
     refine oa rfl rfl (shO_nil ?_)
     subst hn2; exact le kr ⟨_, _, rfl, hk7, r21, rfl, rfl, (sc rfl (sc rfl (sc rfl (sn _))))⟩
   obtain rfl := Lst.zero hk1 c6
   rw [oyezref01_has_l2] at r3
   refine shW_exit (andThen_exit (andThen_exit ?_))
   refine inBlock_exit ?_
   exact mi kr ⟨r3, rfl, rfl, (sn _)⟩
 rintro e1 _ _ ⟨r22, rfl, rfl, he23⟩
 refine shW_env _ he23 ?_; clear he23
 rw [oyezref01_has_j1] at r22
 refine wsr (oa rfl rfl (shO_nil (shW_ret ?_)))
 refine q_res1 Try.results91 (res_tmp rfl) (sr) ?_
 obtain rfl := inj1 r22
 exact rfl


set_option maxHeartbeats 1000000 in
theorem oyezref01_Asked_w {wide : Int} {plots_a : Option Addr} {plots_c : Nat} {plots : List Int} {wind : Int} {voice : Int} {houses_a : Option Addr} {houses_c : Nat} {houses : List Int} {F : FS} (h_plots : RowR 1 (iE .i64) F plots_a plots_c plots) (h_houses : RowR 1 (iE .i64) F houses_a houses_c houses) {r : Int} (hr : oyezref01_Asked wide plots wind voice houses = some r) :
    SpecV Try.prog 30 #[.agg #[.int .i64 wide, .slice plots_a plots.length plots_c], .int .i64 wind, .int .i64 voice, .slice houses_a houses.length houses_c] F (.int .i64 r) := by
 refine spec_of_shW (args := [.agg #[.int .i64 wide, .slice plots_a plots.length plots_c], .int .i64 wind, .int .i64 voice, .slice houses_a houses.length houses_c]) Try.func30 rfl Try.ntmps30 (Nat.le_of_ble_eq_true rfl) ?_
 intro K _ _; rw [oyezref01_Asked] at hr
 refine wsr ?_
 refine o_box rfl rfl ?_; intro b1 hb1
 refine oa rfl rfl (shO_nil (shW_seq (wsr ?_)))
 refine ov (v_loadA (cs := #[.int .i64 wide, .slice plots_a plots.length plots_c]) Try.isAgg32 Try.sizeOf32 rfl (Has.own 0 rfl) (Nat.le_of_ble_eq_true rfl) rfl) rfl ?_
 obtain ⟨n, h2, r3⟩ := b1_ok hr; clear hr
 refine o_callV rfl Try.call34 rfl rfl rfl (oyezref01_Check_w h_plots h2) ?_
 refine oa rfl rfl (nsr (om rfl rfl ?_))
 refine ov (v_neq rfl rfl) rfl ?_
 refine shO_nil ?_
 refine shW_condP rfl (fun c4 => ?_) (fun c4 => ?_)
 · have r5 := ite_t r3 c4; clear r3
   refine wsr (om rfl rfl (oa rfl rfl (shO_nil ?_)))
   refine kW kn ?_
   refine shW_ret (andThen_ret ?_)
   refine q_res1 Try.results30 (res_tmp rfl) (sr) ?_
   obtain rfl := inj1 r5
   exact rfl
 have r6 := ite_f r3 c4; clear r3
 refine shW_skip (shW_seq (wsr (om rfl rfl (om rfl rfl ?_))))
 obtain ⟨n2, h7, r8⟩ := b1_ok r6; clear r6
 refine o_callV rfl Try.call36 rfl rfl rfl (oyezref01_CheckAir_w h7) ?_
 refine oa rfl rfl (nsr (om rfl rfl ?_))
 refine ov (v_neq rfl rfl) rfl ?_
 refine shO_nil ?_
 refine shW_condP rfl (fun c9 => ?_) (fun c9 => ?_)
 · have r10 := ite_t r8 c9; clear r8
   refine wsr (om rfl rfl (oa rfl rfl (shO_nil ?_)))
   refine kW kn ?_
   refine shW_ret (andThen_ret ?_)
   refine q_res1 Try.results30 (res_tmp rfl) (sr) ?_
   obtain rfl := inj1 r10
   exact rfl
 have r11 := ite_f r8 c9; clear r8
 refine shW_skip ?_
 refine shW_join (fun e1 F1 L1 => oyezref01_Asked_j1 = some r ∧ F = F1 ∧ L1 = [] ∧ e1.sub []) ?_ ?_
 · refine wsr (oa rfl rfl (shO_nil ?_))
   refine shW_block ?_
   refine shW_lp (fun fu2 e1 F1 L1 => ∃ (tl : List Int) (i : Int), tl.length = fu2 ∧ Lst houses i tl ∧ oyezref01_Asked_l2 wide plots houses tl i = some r ∧ F = F1 ∧ L1 = [(b1, .cells #[.int .i64 wide, .slice plots_a plots.length plots_c] 32 (0, 0))] ∧ e1.sub [(3, .slice houses_a houses.length houses_c), (4, .pointer (some ⟨b1, 0, none⟩)), (11, .int .i64 i)]) _ (m0 kr ⟨_, _, rfl, Lst.start _, r11, rfl, rfl, (sc rfl (sc rfl (sc rfl (sn _))))⟩) ?_
   rintro fu2 e1 _ _ ⟨tl, i, hn13, hk12, r14, rfl, rfl, he15⟩
   refine shW_env _ he15 ?_; clear he15
   refine shW_seq (wsr (om rfl rfl (om rfl rfl ?_)))
   refine ov (v_lenS Try.underlying26 rfl) rfl ?_
   refine ov (v_lssK rfl rfl) rfl ?_
   refine shO_nil ?_
   refine shW_condP rfl (fun c17 => ?_) (fun c17 => ?_)
   · obtain ⟨x, tl2, rfl, hx19, g20, hk18⟩ := Lst.succ hk12 c17
     rw [oyezref01_Asked_l2] at r14
     refine shW_skip (shW_seq ?_)
     refine shW_block ?_
     refine shW_seq ?_
     refine wsd (by kernel_rfl) (by kernel_rfl) (by kernel_rfl) ?_
     refine qv (v_loadA (cs := #[.int .i64 wide, .slice plots_a plots.length plots_c]) Try.isAgg32 Try.sizeOf32 rfl (Has.own 0 rfl) (Nat.le_of_ble_eq_true rfl) rfl) rfl ?_
     refine qm rfl rfl (qm rfl rfl ?_)
     obtain ⟨b21, o22, c23, vs24, ha25, hs26, hle27, rfl, hl28, hc29⟩ := RowR.at (iE_ok _) h_houses ([(b1, .cells #[.int .i64 wide, .slice plots_a plots.length plots_c] 32 (0, 0))]) g20.1 hx19
     refine qv (v_indexO Try.underlying26 Try.sizeOf3 rfl ha25 rfl g20) rfl ?_
     refine qv (v_load Try.isAgg3 rfl hs26 (hc29 0 (by decide))) rfl ?_
     obtain ⟨n3, h30, r31⟩ := b1_ok r14; clear r14
     refine shQ_callV rfl Try.call50 rfl rfl rfl (oyezref01_Is_w h_plots h30) ?_
     refine qa rfl rfl (qsr (om rfl rfl ?_))
     refine ov (v_neq rfl rfl) rfl ?_
     refine shO_nil ?_
     refine shW_condP rfl (fun c32 => ?_) (fun c32 => ?_)
     · have r33 := ite_t r31 c32; clear r31
       refine wsr (om rfl rfl (oa rfl rfl (shO_nil ?_)))
       refine kW kn ?_
       refine shW_ret (andThen_ret (inBlock_ret (andThen_ret (andThen_ret (inBlock_ret (andThen_ret ?_))))))
       refine q_res1 Try.results30 (res_tmp rfl) (sr) ?_
       obtain rfl := inj1 r33
       exact rfl
     have r34 := ite_f r31 c32; clear r31
     refine shW_skip ?_
     refine wsd (by kernel_rfl) (by kernel_rfl) (by kernel_rfl) ?_
     refine qm rfl rfl (qm rfl rfl ?_)
     obtain ⟨g35, r36⟩ := gd_ok r34; clear r34
     obtain ⟨houses2, h37, r38⟩ := bv_ok r36; clear r36
     obtain ⟨a39, c40, h41, hvh41⟩ := RowR.slice (iE_ok _) h_houses g35 h37
     refine qv ((v_slice (l := 0) (h := i) Try.underlying26 Try.sizeOf3 rfl (.inl ⟨rfl, rfl⟩) (.inr ⟨_, rfl, rfl⟩) hvh41.1).eq hvh41.2) rfl ?_
     refine qm rfl rfl (qm rfl rfl ?_)
     obtain ⟨b43, o44, c45, vs46, ha47, hs48, hle49, rfl, hl50, hc51⟩ := RowR.at (iE_ok _) h_houses ([(b1, .cells #[.int .i64 wide, .slice plots_a plots.length plots_c] 32 (0, 0))]) g20.1 hx19
     refine qv (v_indexO Try.underlying26 Try.sizeOf3 rfl ha47 rfl g20) rfl ?_
     refine qv (v_load Try.isAgg3 rfl hs48 (hc51 0 (by decide))) rfl ?_
     obtain ⟨ok, h52, r53⟩ := b1_ok r38; clear r38
     refine shQ_callV rfl Try.call91 rfl rfl rfl (oyezref01_has_w h41 h52) ?_
     refine shQ_nil ?_
     refine shW_cond rfl (fun c54 => ?_) (fun c54 => ?_)
     · have r55 := bt r53 c54; clear r53
       refine wsr (oa rfl rfl (shO_nil ?_))
       refine kW kn ?_
       refine shW_ret (inBlock_ret (andThen_ret (andThen_ret (inBlock_ret (andThen_ret ?_)))))
       refine q_res1 Try.results30 (res_tmp rfl) (sr) ?_
       obtain rfl := inj1 r55
       exact rfl
     have r56 := bf r53 c54; clear r53
     refine shW_skip (inBlock_n (id := 1) (shW_region (om rfl rfl ?_)))
     refine ov (v_add rfl rfl (Lst.r64 hk12 c17 (RowR.lt h_houses))) rfl ?_
     refine oa rfl rfl (shO_nil ?_)
     subst hn13; exact le kr ⟨_, _, rfl, hk18, r56, rfl, rfl, (sc rfl (sc rfl (sc rfl (sn _))))⟩
   obtain rfl := Lst.zero hk12 c17
   rw [oyezref01_Asked_l2] at r14
   refine shW_exit (andThen_exit (andThen_exit ?_))
   refine inBlock_exit ?_
   exact mi kn ⟨r14, rfl, rfl, (sn _)⟩
 rintro e1 _ _ ⟨r57, rfl, rfl, he58⟩
 refine shW_env _ he58 ?_; clear he58
 rw [oyezref01_Asked_j1] at r57
 refine wsr (oa rfl rfl (shO_nil (shW_ret ?_)))
 refine q_res1 Try.results30 (res_tmp rfl) (sr) ?_
 obtain rfl := inj1 r57
 exact rfl


set_option maxHeartbeats 1000000 in
theorem oyezref01_Ears_w {wide : Int} {plots_a : Option Addr} {plots_c : Nat} {plots : List Int} {wind : Int} {voice : Int} {F : FS} (h_plots : RowR 1 (iE .i64) F plots_a plots_c plots) {r : List (List Int)} (hr : oyezref01_Ears wide plots wind voice = some r) :
    SH.Spec Try.prog 51 #[.agg #[.int .i64 wide, .slice plots_a plots.length plots_c], .int .i64 wind, .int .i64 voice] F [] fun F' L' v => ∃ (ra : Option Addr) (rc : Nat), v = .slice ra r.length rc ∧ L' = [] ∧ RowR 1 (slE 1 (iE .i64)) F' ra rc r := by
 refine spec_of_shW (args := [.agg #[.int .i64 wide, .slice plots_a plots.length plots_c], .int .i64 wind, .int .i64 voice]) Try.func51 rfl Try.ntmps51 (Nat.le_of_ble_eq_true rfl) ?_
 intro K _ _; rw [oyezref01_Ears] at hr
 refine wsr ?_
 refine o_box rfl rfl ?_; intro b1 hb1
 refine oa rfl rfl (nsr ?_)
 refine ov (v_fieldAddr fa_32_1 rfl) rfl ?_
 refine ov (v_load Try.isAgg26 rfl (Has.own 0 rfl) rfl) rfl ?_
 refine ov (v_lenS Try.underlying26 rfl) rfl ?_
 obtain ⟨g2, r3⟩ := gd_ok hr; clear hr
 obtain ⟨l, h4, r5⟩ := bv_ok r3; clear r3
 refine o_makeZ (R := hdE) (z0 := (none, 0, 0)) (zs := List.replicate ((plots.length : Int) : Int).toNat (none, 0, 0)) rfl slt_86 (by decide) hdE_ok (fun _ => rfl) rfl g2 rfl (fun _ => .c .n) ?_; intro a6 n9 Lb7 hO10
 have hz8 : NlR K.w0.heap.size 26 3 1 (iE .i64) F a6 n9 n9 l Lb7 := NlR.made hO10 h4
 refine oa rfl rfl (shO_nil ?_)
 obtain ⟨out, h14, r15⟩ := b1_ok r5; clear r5
 refine shW_join (fun e1 F1 L1 => ∃ (Lb12 : LH), FExt F F1 ∧ L1 = (Lb12 ++ []) ∧ e1.sub [(7, .slice a6 n9 n9)] ∧ NlR K.w0.heap.size 26 3 1 (iE .i64) F1 a6 n9 n9 out Lb12) ?_ ?_
 · clear r15
   refine wsr (oa rfl rfl (shO_nil ?_))
   refine shW_block ?_
   refine shW_lp (fun fu1 e1 F1 L1 => ∃ (tl : List Int) (s_ : Int), tl.length = fu1 ∧ Lst plots s_ tl ∧ ∃ (out2 : List (List Int)) (Lb16 : LH), oyezref01_Ears_l1 wide plots wind voice tl s_ out2 = some out ∧ FExt F F1 ∧ L1 = ((b1, .cells #[.int .i64 wide, .slice plots_a plots.length plots_c] 32 (0, 0)) :: (Lb16 ++ [])) ∧ e1.sub [(1, .int .i64 wind), (2, .int .i64 voice), (3, .pointer (some ⟨b1, 0, none⟩)), (7, .slice a6 n9 n9), (8, .int .i64 s_)] ∧ NlR K.w0.heap.size 26 3 1 (iE .i64) F1 a6 n9 n9 out2 Lb16) _ (m0 kr ⟨_, _, rfl, Lst.start _, l, Lb7, h14, FExt.refl _, rfl, (sc rfl (sc rfl (sc rfl (sc rfl (sc rfl (sn _)))))), hz8⟩) ?_
   rintro fu1 e1 F22 _ ⟨tl, s_, hn19, hk18, out2, Lb16, r20, hF23, rfl, he21, hz17⟩
   refine shW_env _ he21 ?_; clear he21
   replace h_plots := h_plots.mono (iE_ok _) hF23
   refine shW_seq (wsr (om rfl rfl ?_))
   refine ov (v_fieldAddr fa_32_1 rfl) rfl ?_
   refine ov (v_load Try.isAgg26 rfl (Has.own 0 rfl) rfl) rfl ?_
   refine ov (v_lenS Try.underlying26 rfl) rfl ?_
   refine ov (v_lssK rfl rfl) rfl ?_
   refine shO_nil ?_
   refine shW_condP rfl (fun c25 => ?_) (fun c25 => ?_)
   · obtain ⟨x, tl2, rfl, hx27, g28, hk26⟩ := Lst.succ hk18 c25
     rw [oyezref01_Ears_l1] at r20
     refine shW_skip ?_
     obtain ⟨out3, h31, r32⟩ := b1_ok r20; clear r20
     refine shW_join (fun e1 F1 L1 => ∃ (Lb29 : LH), FExt F22 F1 ∧ L1 = ((b1, .cells #[.int .i64 wide, .slice plots_a plots.length plots_c] 32 (0, 0)) :: (Lb29 ++ [])) ∧ e1.sub [(1, .int .i64 wind), (2, .int .i64 voice), (3, .pointer (some ⟨b1, 0, none⟩)), (7, .slice a6 n9 n9), (8, .int .i64 s_)] ∧ NlR K.w0.heap.size 26 3 1 (iE .i64) F1 a6 n9 n9 out3 Lb29) ?_ ?_
     · clear r32
       refine shW_block ?_
       refine shW_seq (wsr ?_)
       refine ov (v_fieldAddr fa_32_1 rfl) rfl ?_
       refine ov (v_load Try.isAgg26 rfl (Has.own 0 rfl) rfl) rfl ?_
       refine om rfl rfl ?_
       obtain ⟨b33, o34, c35, vs36, ha37, hs38, hle39, rfl, hl40, hc41⟩ := RowR.at (iE_ok _) h_plots ((b1, .cells #[.int .i64 wide, .slice plots_a plots.length plots_c] 32 (0, 0)) :: (Lb16 ++ [])) g28.1 hx27
       refine ov (v_indexO Try.underlying26 Try.sizeOf3 rfl ha37 rfl g28) rfl ?_
       refine ov (v_load Try.isAgg3 rfl hs38 (hc41 0 (by decide))) rfl ?_
       refine ov (v_neq rfl rfl) rfl ?_
       refine shO_nil ?_
       refine shW_condP rfl (fun c42 => ?_) (fun c42 => ?_)
       · have r43 := ite_t h31 c42; clear h31
         refine shW_exit (andThen_exit ?_)
         refine inBlock_exit ?_
         obtain rfl := inj1 r43
         exact mi kr ⟨Lb16, FExt.refl _, rfl, (sc rfl (sc rfl (sc rfl (sc rfl (sc rfl (sn _)))))), hz17⟩
       have r44 := ite_f h31 c42; clear h31
       refine shW_skip (wsr ?_)
       refine ov (v_loadA (cs := #[.int .i64 wide, .slice plots_a plots.length plots_c]) Try.isAgg32 Try.sizeOf32 rfl (Has.own 0 rfl) (Nat.le_of_ble_eq_true rfl) rfl) rfl ?_
       refine om rfl rfl (om rfl rfl ?_)
       obtain ⟨l2, n, h45, r46⟩ := b2_ok r44; clear r44
       refine o_call0 rfl Try.call22 rfl rfl rfl (oyezref01_Needs_w h_plots h45) ?_; rintro _ F47 _ hF48 hn49 ⟨a51, n55, c52, Lb53, rfl, rfl, hz54⟩
       replace h_plots := h_plots.mono (iE_ok _) hF48
       replace hz17 := hz17.mono (iE_ok _) hF48
       replace hz54 := hz54.new fun p hp => hn49 p (by simp [hp])
       refine shO_L (lp (ln rfl)) ?_
       refine kO (kf (fS fO) kr) ?_
       refine om rfl rfl (ox rfl rfl rfl (ox rfl rfl rfl (oa rfl rfl (oa rfl rfl (nsr (oa rfl rfl (shO_nil ?_)))))))
       refine shW_block ?_
       refine shW_lp (fun fu2 e1 F1 L1 => ∃ (tl3 : List Int) (p : Int), tl3.length = fu2 ∧ Lst l2 p tl3 ∧ ∃ (out4 : List (List Int)) (Lb57 : LH), oyezref01_Ears_l2 plots voice s_ tl3 p out4 = some out3 ∧ F47 = F1 ∧ L1 = ((b1, .cells #[.int .i64 wide, .slice plots_a plots.length plots_c] 32 (0, 0)) :: (Lb57 ++ (Lb53 ++ []))) ∧ e1.sub [(1, .int .i64 wind), (2, .int .i64 voice), (3, .pointer (some ⟨b1, 0, none⟩)), (7, .slice a6 n9 n9), (8, .int .i64 s_), (9, .slice a51 n55 c52), (11, .int .i64 p)] ∧ NlR K.w0.heap.size 26 3 1 (iE .i64) F1 a6 n9 n9 out4 Lb57) _ (m0 (kc (kg (fS fP) kr)) ⟨_, _, rfl, Lst.start _, out2, Lb16, r46, rfl, rfl, (sc rfl (sc rfl (sc rfl (sc rfl (sc rfl (sc rfl (sc rfl (sn _)))))))), hz17⟩) ?_
       rintro fu2 e1 _ _ ⟨tl3, p, hn60, hk59, out4, Lb57, r61, rfl, rfl, he62, hz58⟩
       refine shW_env _ he62 ?_; clear he62
       refine shW_seq (wsr (om rfl rfl (om rfl rfl ?_)))
       refine ov ((v_lenS Try.underlying26 rfl).i (SlR.lenI hz54)) rfl ?_
       refine ov (v_lssK rfl rfl) rfl ?_
       refine shO_nil ?_
       refine shW_condP rfl (fun c64 => ?_) (fun c64 => ?_)
       · obtain ⟨x2, tl4, rfl, hx66, g67, hk65⟩ := Lst.succ hk59 c64
         rw [oyezref01_Ears_l2] at r61
         refine shW_skip (shW_seq ?_)
         refine shW_block ?_
         obtain ⟨k, h68, r69⟩ := b1_ok r61; clear r61
         refine shW_join (fun e1 F1 L1 => F47 = F1 ∧ L1 = ((b1, .cells #[.int .i64 wide, .slice plots_a plots.length plots_c] 32 (0, 0)) :: (Lb57 ++ (Lb53 ++ []))) ∧ e1.sub [(1, .int .i64 wind), (2, .int .i64 voice), (3, .pointer (some ⟨b1, 0, none⟩)), (7, .slice a6 n9 n9), (8, .int .i64 s_), (9, .slice a51 n55 c52), (11, .int .i64 p), (62, .bool k)]) ?_ ?_
         · clear r69
           refine shW_region ?_
           refine ov (v_fieldAddr fa_32_1 rfl) rfl ?_
           refine ov (v_load Try.isAgg26 rfl (Has.own 0 rfl) rfl) rfl ?_
           refine om rfl rfl ?_
           obtain ⟨x3, g70, hx71, r72⟩ := ix_ok h68; clear h68
           obtain ⟨b73, o74, c75, vs76, ha77, hs78, hle79, rfl, hl80, hc81⟩ := RowR.at (iE_ok _) h_plots ((b1, .cells #[.int .i64 wide, .slice plots_a plots.length plots_c] 32 (0, 0)) :: (Lb57 ++ (Lb53 ++ []))) g70.1 hx71
           refine ov (v_indexO Try.underlying26 Try.sizeOf3 rfl ha77 rfl g70) rfl ?_
           refine ov (v_load Try.isAgg3 rfl hs78 (hc81 0 (by decide))) rfl ?_
           refine ov (v_eql rfl rfl) rfl ?_
           refine om rfl rfl ?_
           by_cases c82 : x3 = 1
           · have r83 := ite_t r72 c82; clear r72
             refine shO_on (b := true) 48 rfl (Env.isT rfl c82) (om rfl rfl (shO_on (b := true) 48 rfl (Env.isT rfl c82) (om rfl rfl (shO_on (b := true) 48 rfl (Env.isT rfl c82) ?_))))
             obtain ⟨b84, o85, c86, vs87, ha88, hs89, hle90, rfl, hl91, hc92⟩ := SlR.at (iE_ok _) hz54 (L := (b1, .cells #[.int .i64 wide, .slice plots_a plots.length plots_c] 32 (0, 0)) :: (Lb57 ++ (Lb53 ++ []))) (fC (fS fP)) g67.1 hx66
             refine ov (v_indexO Try.underlying26 Try.sizeOf3 rfl ha88 rfl (SlR.idx hz54 g67)) rfl ?_
             refine shO_on (b := true) 48 rfl (Env.isT rfl c82) ?_
             refine ov (v_load Try.isAgg3 rfl hs89 (hc92 0 (by decide))) rfl ?_
             refine shO_on (b := true) 48 rfl (Env.isT rfl c82) ?_
             refine ov (v_geqK rfl rfl) rfl ?_
             refine ov (v_pick_t (evD_true rfl c82) rfl) rfl ?_
             refine om rfl rfl ?_
             by_cases c93 : 0 ≤ x2
             · have r94 := ite_t r83 c93; clear r83
               refine shO_on (b := true) 55 rfl (Env.isT rfl c93) (om rfl rfl (shO_on (b := true) 55 rfl (Env.isT rfl c93) (om rfl rfl (shO_on (b := true) 55 rfl (Env.isT rfl c93) ?_))))
               obtain ⟨b95, o96, c97, vs98, ha99, hs100, hle101, rfl, hl102, hc103⟩ := SlR.at (iE_ok _) hz54 (L := (b1, .cells #[.int .i64 wide, .slice plots_a plots.length plots_c] 32 (0, 0)) :: (Lb57 ++ (Lb53 ++ []))) (fC (fS fP)) g67.1 hx66
               refine ov (v_indexO Try.underlying26 Try.sizeOf3 rfl ha99 rfl (SlR.idx hz54 g67)) rfl ?_
               refine shO_on (b := true) 55 rfl (Env.isT rfl c93) ?_
               refine ov (v_load Try.isAgg3 rfl hs100 (hc103 0 (by decide))) rfl ?_
               refine shO_on (b := true) 55 rfl (Env.isT rfl c93) (om rfl rfl (shO_on (b := true) 55 rfl (Env.isT rfl c93) ?_))
               refine ov (v_leqK rfl rfl) rfl ?_
               refine ov (v_pick_t (evD_true rfl c93) rfl) rfl ?_
               refine shO_nil ?_
               obtain rfl := inj1 r94
               exact mi kr ⟨rfl, rfl, (sc rfl (sc rfl (sc rfl (sc rfl (sc rfl (sc rfl (sc rfl (sc rfl (sn _)))))))))⟩
             have r104 := ite_f r83 c93; clear r83
             refine shO_off (b' := false) 55 rfl (Env.isF rfl c93) rfl rfl (shO_off (b' := false) 55 rfl (Env.isF rfl c93) rfl rfl (shO_off (b' := false) 55 rfl (Env.isF rfl c93) rfl rfl (shO_off (b' := false) 55 rfl (Env.isF rfl c93) rfl rfl (shO_off (b' := false) 55 rfl (Env.isF rfl c93) rfl rfl (shO_off (b' := false) 55 rfl (Env.isF rfl c93) rfl rfl ?_)))))
             refine ov (v_pick_f (evD_false rfl c93) rfl) rfl ?_
             refine shO_nil ?_
             obtain rfl := inj1 r104
             exact mi kr ⟨rfl, rfl, (sc rfl (sc rfl (sc rfl (sc rfl (sc rfl (sc rfl (sc rfl (sc rfl (sn _)))))))))⟩
           have r105 := ite_f r72 c82; clear r72
           refine shO_off (b' := false) 48 rfl (Env.isF rfl c82) rfl rfl (shO_off (b' := false) 48 rfl (Env.isF rfl c82) rfl rfl (shO_off (b' := false) 48 rfl (Env.isF rfl c82) rfl rfl (shO_off (b' := false) 48 rfl (Env.isF rfl c82) rfl rfl (shO_off (b' := false) 48 rfl (Env.isF rfl c82) rfl rfl ?_))))
           refine ov (v_pick_f (evD_false rfl c82) rfl) rfl ?_
           refine om rfl rfl (shO_off (b' := false) 55 rfl rfl rfl rfl (shO_off (b' := false) 55 rfl rfl rfl rfl (shO_off (b' := false) 55 rfl rfl rfl rfl (shO_off (b' := false) 55 rfl rfl rfl rfl (shO_off (b' := false) 55 rfl rfl rfl rfl (shO_off (b' := false) 55 rfl rfl rfl rfl ?_))))))
           refine ov (v_pick_f rfl rfl) rfl ?_
           refine shO_nil ?_
           obtain rfl := inj1 r105
           exact mi kr ⟨rfl, rfl, (sc rfl (sc rfl (sc rfl (sc rfl (sc rfl (sc rfl (sc rfl (sc rfl (sn _)))))))))⟩
         rintro e1 _ _ ⟨rfl, rfl, he106⟩
         refine shW_env _ he106 ?_; clear he106
         refine shW_cond rfl (fun c107 => ?_) (fun c107 => ?_)
         · have r108 := bt r69 c107; clear r69
           refine shW_region (om rfl rfl (om rfl rfl (om rfl rfl (om rfl rfl ?_))))
           obtain ⟨x4, g109, hx110, r111⟩ := ix_ok r108; clear r108
           have hn123 := (NlR.caps hz58).1
           refine shO_open (fC fP) hz58 hx110 ?_; intro hs112 Lo113 Lc114 a115 n116 c117 Lb118 hh119 hO120 hz121 hI122
           refine kO (kf (fS (fS (fS fO))) kr) ?_
           obtain ⟨b125, o126, c127, vs128, ha129, hs130, hle131, rfl, hl132, hc133⟩ := SlR.at hdE_ok hO120 (L := (b1, .cells #[.int .i64 wide, .slice plots_a plots.length plots_c] 32 (0, 0)) :: (Lo113 ++ (Lb118 ++ (Lc114 ++ (Lb53 ++ []))))) (fC fP) g109.1 hh119
           refine ov (v_indexO Try.underlying86 Try.sizeOf26 rfl ha129 rfl (idxN hn123 g109)) rfl ?_
           refine ov (v_load Try.isAgg26 rfl hs130 (hc133 0 (by decide))) rfl ?_
           refine om rfl rfl ?_
           refine o_buildSlice (cs := #[.int .i64 s_]) rfl rfl (buildSlice_all slt_26 [.int .i64 s_] rfl (by decide) (by simp [Value.cells]) (by decide)) ?_; intro b134 hb134
           obtain ⟨l3, h135, g136, r137⟩ := ap_ok r111; clear r111
           refine o_appZ (xs := x4) (ys := [s_]) (zs := l3) rfl slt_26 rfl rfl (Nat.le_refl _) (fun _ => .c (.c (.s .h))) hz121 (SrcR.box (vss := [[.int .i64 s_]]) (ys := [s_]) 0 rfl (iE_ok _) (.cons rfl .nil) rfl rfl) h135 g136 (by decide) ?_; intro a138 n142 c139 Lb140 hz141
           refine kO (kd kr) ?_
           obtain ⟨b144, o145, c146, vs147, ha148, hs149, hle150, rfl, hl151, hc152⟩ := SlR.at hdE_ok hO120 (L := (b1, .cells #[.int .i64 wide, .slice plots_a plots.length plots_c] 32 (0, 0)) :: (Lo113 ++ (Lb140 ++ (Lc114 ++ (Lb53 ++ []))))) (fC fP) g109.1 hh119
           refine ov (v_indexO Try.underlying86 Try.sizeOf26 rfl ha148 rfl (idxN hn123 g109)) rfl ?_
           refine o_storeZ (zs := hs112.set (p : Int).toNat (a138, n142, c139)) (u := (a138, n142, c139)) Try.sizeOf26 hdE_ok rfl ha148 rfl rfl (fun _ => .c .h) hO120 rfl (idxH hn123 hO120 g109) ?_; intro Lo153 hO154
           obtain ⟨out5, h155, r156⟩ := bv_ok r137; clear r137
           refine shO_fold (p := fun X => NlR K.w0.heap.size 26 3 1 (iE .i64) F47 a6 n9 n9 out5 X) (InH.back hI122 hO154 hz141 h155) (pT ((fC fP).trans (pA ((fC fP).trans (pA ((fC fP).trans (pA pR)))))) (lp (lp (lp (ln rfl))))) ?_; intro Lb157 hz158
           refine kO (kf (fS fO) kr) ?_
           refine shO_nil (inBlock_n (id := 3) (shW_region (om rfl rfl ?_)))
           refine ov (v_add rfl rfl (Lst.r64 hk59 c64 (SlR.llt hz54))) rfl ?_
           refine oa rfl rfl (shO_nil ?_)
           subst hn60; exact le kr ⟨_, _, rfl, hk65, out5, Lb157, r156, rfl, rfl, (sc rfl (sc rfl (sc rfl (sc rfl (sc rfl (sc rfl (sc rfl (sn _)))))))), hz158⟩
         have r159 := bf r69 c107; clear r69
         refine shW_skip (inBlock_n (id := 3) (shW_region (om rfl rfl ?_)))
         refine ov (v_add rfl rfl (Lst.r64 hk59 c64 (SlR.llt hz54))) rfl ?_
         refine oa rfl rfl (shO_nil ?_)
         subst hn60; exact le kr ⟨_, _, rfl, hk65, out4, Lb57, r159, rfl, rfl, (sc rfl (sc rfl (sc rfl (sc rfl (sc rfl (sc rfl (sc rfl (sn _)))))))), hz58⟩
       obtain rfl := Lst.zero hk59 c64
       rw [oyezref01_Ears_l2] at r61
       refine shW_exit (andThen_exit (andThen_exit ?_))
       refine inBlock_exit ?_
       refine inBlock_n (id := 1) ?_
       obtain rfl := inj1 r61
       exact mi (kc (ka kn)) ⟨Lb57, hF48, rfl, (sc rfl (sc rfl (sc rfl (sc rfl (sc rfl (sn _)))))), hz58⟩
     rintro e1 F161 _ ⟨Lb29, hF162, rfl, he160, hz30⟩
     refine shW_env _ he160 ?_; clear he160
     replace h_plots := h_plots.mono (iE_ok _) hF162
     refine shW_region (om rfl rfl ?_)
     refine ov (v_add rfl rfl (Lst.r64 hk18 c25 (RowR.lt h_plots))) rfl ?_
     refine oa rfl rfl (shO_nil ?_)
     subst hn19; exact le kr ⟨_, _, rfl, hk26, out3, Lb29, r32, (hF23.trans hF162), rfl, (sc rfl (sc rfl (sc rfl (sc rfl (sc rfl (sn _)))))), hz30⟩
   obtain rfl := Lst.zero hk18 c25
   rw [oyezref01_Ears_l1] at r20
   refine shW_exit (andThen_exit (andThen_exit ?_))
   refine inBlock_exit ?_
   obtain rfl := inj1 r20
   exact mi (kd kr) ⟨Lb16, hF23, rfl, (sc rfl (sn _)), hz17⟩
 rintro e1 F164 _ ⟨Lb12, hF165, rfl, he163, hz13⟩
 refine shW_env _ he163 ?_; clear he163
 replace h_plots := h_plots.mono (iE_ok _) hF165
 refine wsr (om rfl rfl (oa rfl rfl (shO_nil ?_)))
 obtain rfl := (NlR.caps hz13).1
 refine shW_freezeN (Nat.le_refl _) (iE_ok _) fP hz13 ?_; intro F166 hF167 h168
 replace h_plots := h_plots.mono (iE_ok _) hF167
 refine shW_ret ?_
 refine q_res1 Try.results51 (res_tmp rfl) (sr) ?_
 obtain rfl := inj1 r15
 exact ⟨_, _, rfl, rfl, h168⟩


set_option maxHeartbeats 1000000 in
theorem oyezref01_ListsB_w {rec_ : (List Int) → Int → Option ((List (List Int)))} (hrec : ∀ {of__a : Option Addr} {of__c : Nat} {of_ : List Int} {many : Int} {F : FS} (_ : RowR 1 (iE .i64) F of__a of__c of_) {r : List (List Int)} , rec_ of_ many = some r → SH.Spec Try.prog 92 #[.slice of__a of_.length of__c, .int .i64 many] F [] fun F' L' v => ∃ (ra : Option Addr) (rn : Nat) (rc : Nat) (rL : LH), v = .slice ra rn rc ∧ L' = rL ++ [] ∧ SlR 0 26 1 (slE 1 (iE .i64)) F' ra rn rc r rL) {of__a : Option Addr} {of__c : Nat} {of_ : List Int} {many : Int} {F : FS} (h_of_ : RowR 1 (iE .i64) F of__a of__c of_) {r : List (List Int)} (hr : oyezref01_ListsB rec_ of_ many = some r) :
    SH.Spec Try.prog 92 #[.slice of__a of_.length of__c, .int .i64 many] F [] fun F' L' v => ∃ (ra : Option Addr) (rn : Nat) (rc : Nat) (rL : LH), v = .slice ra rn rc ∧ L' = rL ++ [] ∧ SlR 0 26 1 (slE 1 (iE .i64)) F' ra rn rc r rL := by
 refine spec_of_shW (args := [.slice of__a of_.length of__c, .int .i64 many]) Try.func92 rfl Try.ntmps92 (Nat.le_of_ble_eq_true rfl) ?_
 intro K _ _; rw [oyezref01_ListsB] at hr
 refine wsr (oa rfl rfl (shO_nil (shW_seq (wsr (om rfl rfl ?_)))))
 refine ov (v_eql rfl rfl) rfl ?_
 refine shO_nil ?_
 refine shW_condP rfl (fun c1 => ?_) (fun c1 => ?_)
 · have r2 := ite_t hr c1; clear hr
   refine wsr ?_
   refine o_buildSlice (cs := #[.slice none 0 0]) rfl rfl (buildSlice_all slt_86 [.slice none 0 0] rfl (by decide) (by simp [Value.cells]) (by decide)) ?_; intro b3 hb3
   have hz5 : SlR K.w0.heap.size 26 1 (slE 1 (iE .i64)) F (some ⟨b3, 0, none⟩) 1 1 [[]] [(b3, .cells #[.slice none 0 0] 26 (0, 0))] := SlR.of_block (vss := [[.slice none 0 0]]) (slE_ok (iE_ok _)) hb3 (.cons ⟨_, _, rfl, RowR.nil _ _ _⟩ .nil) rfl rfl (by simp [maxLen])
   generalize hLLb4 : ([(b3, .cells #[.slice none 0 0] 26 (0, 0))] : LH) = Lb4 at hz5
   refine shO_perm (L' := Lb4 ++ []) (by rw [← hLLb4]; exact fO) ?_
   refine oa rfl rfl (shO_nil (shW_ret (andThen_ret ?_)))
   refine q_res1 Try.results92 (res_tmp rfl) (sr) ?_
   obtain rfl := inj1 r2
   exact ⟨_, _, _, _, rfl, rfl, hz5.any⟩
 have r7 := ite_f hr c1; clear hr
 refine shW_skip (wsr (oa rfl rfl (shO_nil ?_)))
 obtain ⟨out, h14, r15⟩ := b1_ok r7; clear r7
 refine shW_join (fun e1 F1 L1 => ∃ (a8 : Option Addr) (n12 : Nat) (c9 : Nat) (Lb10 : LH), FExt F F1 ∧ L1 = (Lb10 ++ []) ∧ e1.sub [(5, .slice a8 n12 c9)] ∧ SlR K.w0.heap.size 26 1 (slE 1 (iE .i64)) F1 a8 n12 c9 out Lb10) ?_ ?_
 · clear r15
   refine wsr (oa rfl rfl (shO_nil ?_))
   refine shW_block ?_
   refine shW_lp (fun fu1 e1 F1 L1 => ∃ (tl : List Int) (i : Int), tl.length = fu1 ∧ Lst of_ i tl ∧ ∃ (out2 : List (List Int)) (a16 : Option Addr) (n20 : Nat) (c17 : Nat) (Lb18 : LH), oyezref01_ListsB_l1 of_ many rec_ tl i out2 = some out ∧ FExt F F1 ∧ L1 = (Lb18 ++ []) ∧ e1.sub [(0, .slice of__a of_.length of__c), (1, .int .i64 many), (5, .slice a16 n20 c17), (6, .int .i64 i)] ∧ SlR K.w0.heap.size 26 1 (slE 1 (iE .i64)) F1 a16 n20 c17 out2 Lb18) _ (m0 (ke kr) ⟨_, _, rfl, Lst.start _, [], none, 0, 0, [], h14, FExt.refl _, rfl, (sc rfl (sc rfl (sc rfl (sc rfl (sn _))))), SlR.nil _ _ _ _ _⟩) ?_
   rintro fu1 e1 F26 _ ⟨tl, i, hn23, hk22, out2, a16, n20, c17, Lb18, r24, hF27, rfl, he25, hz19⟩
   refine shW_env _ he25 ?_; clear he25
   replace h_of_ := h_of_.mono (iE_ok _) hF27
   refine shW_seq (wsr (om rfl rfl (om rfl rfl ?_)))
   refine ov (v_lenS Try.underlying26 rfl) rfl ?_
   refine ov (v_lssK rfl rfl) rfl ?_
   refine shO_nil ?_
   refine shW_condP rfl (fun c29 => ?_) (fun c29 => ?_)
   · obtain ⟨x, tl2, rfl, hx31, g32, hk30⟩ := Lst.succ hk22 c29
     rw [oyezref01_ListsB_l1] at r24
     refine shW_skip ?_
     obtain ⟨out3, h39, r40⟩ := b1_ok r24; clear r24
     refine shW_join (fun e1 F1 L1 => ∃ (a33 : Option Addr) (n37 : Nat) (c34 : Nat) (Lb35 : LH), FExt F26 F1 ∧ L1 = (Lb35 ++ []) ∧ e1.sub [(0, .slice of__a of_.length of__c), (1, .int .i64 many), (5, .slice a33 n37 c34), (6, .int .i64 i)] ∧ SlR K.w0.heap.size 26 1 (slE 1 (iE .i64)) F1 a33 n37 c34 out3 Lb35) ?_ ?_
     · clear r40
       refine shW_block ?_
       refine wsr (om rfl rfl (om rfl rfl ?_))
       refine ov (v_add rfl rfl (Lst.r64 hk22 c29 (RowR.lt h_of_))) rfl ?_
       obtain ⟨g41, r42⟩ := gd_ok h39; clear h39
       obtain ⟨of_2, h43, r44⟩ := bv_ok r42; clear r42
       obtain ⟨a45, c46, h47, hvh47⟩ := RowR.slice (iE_ok _) h_of_ g41 h43
       refine ov ((v_slice (l := i + 1) (h := (of_.length : Int)) Try.underlying26 Try.sizeOf3 rfl (.inr ⟨_, rfl, rfl⟩) (.inl ⟨rfl, rfl⟩) hvh47.1).eq hvh47.2) rfl ?_
       refine om rfl rfl ?_
       obtain ⟨g49, r50⟩ := gd_ok r44; clear r44
       refine ov (v_sub rfl rfl g49) rfl ?_
       obtain ⟨l, h51, r52⟩ := b1_ok r50; clear r50
       refine o_call0 rfl Try.call92 rfl rfl rfl (hrec h47 h51) ?_; rintro _ F53 _ hF54 hn55 ⟨a57, n61, c58, Lb59, rfl, rfl, hz60⟩
       replace h_of_ := h_of_.mono (iE_ok _) hF54
       replace h47 := h47.mono (iE_ok _) hF54
       replace hz19 := hz19.mono (slE_ok (iE_ok _)) hF54
       replace hz60 := hz60.new fun p hp => hn55 p (by simp [hp])
       refine shO_L (lp (ln rfl)) ?_
       refine oa rfl rfl (nsr (oa rfl rfl (shO_nil ?_)))
       refine shW_block ?_
       refine shW_lp (fun fu2 e1 F1 L1 => ∃ (tl3 : List (List Int)) (k : Int), tl3.length = fu2 ∧ Lst l k tl3 ∧ ∃ (out4 : List (List Int)) (a63 : Option Addr) (n67 : Nat) (c64 : Nat) (Lb65 : LH), oyezref01_ListsB_l2 x tl3 out4 = some out3 ∧ FExt F53 F1 ∧ L1 = (Lb65 ++ (Lb59 ++ [])) ∧ e1.sub [(0, .slice of__a of_.length of__c), (1, .int .i64 many), (5, .slice a63 n67 c64), (6, .int .i64 i), (7, .slice a57 n61 c58), (8, .int .i64 k)] ∧ SlR K.w0.heap.size 26 1 (slE 1 (iE .i64)) F1 a63 n67 c64 out4 Lb65) _ (m0 (kg (fS fP) kr) ⟨_, _, rfl, Lst.start _, out2, a16, n20, c17, Lb18, r52, FExt.refl _, rfl, (sc rfl (sc rfl (sc rfl (sc rfl (sc rfl (sc rfl (sn _))))))), hz19⟩) ?_
       rintro fu2 e1 F73 _ ⟨tl3, k, hn70, hk69, out4, a63, n67, c64, Lb65, r71, hF74, rfl, he72, hz66⟩
       refine shW_env _ he72 ?_; clear he72
       replace h_of_ := h_of_.mono (iE_ok _) hF74
       replace h47 := h47.mono (iE_ok _) hF74
       replace hz60 := hz60.mono (slE_ok (iE_ok _)) hF74
       refine shW_seq (wsr (om rfl rfl (om rfl rfl ?_)))
       refine ov ((v_lenS Try.underlying86 rfl).i (SlR.lenI hz60)) rfl ?_
       refine ov (v_lssK rfl rfl) rfl ?_
       refine shO_nil ?_
       refine shW_condP rfl (fun c76 => ?_) (fun c76 => ?_)
       · obtain ⟨x2, tl4, rfl, hx78, g79, hk77⟩ := Lst.succ hk69 c76
         rw [oyezref01_ListsB_l2] at r71
         refine shW_skip (shW_seq ?_)
         refine shW_block ?_
         refine shW_drawM [(.still, 0), (.still, 1), (.still, 2), (.still, 3), (.still, 4), (.still, 6), (.still, 7), (.still, 8), (.still, 9), (.seq, 5), (.seq, 10), (.seq, 11), (.seq, 12), (.seq, 13)] (by kernel_rfl) (by kernel_rfl) (trivial) (by rfl) (by kernel_rfl) ?_
         refine shM_v (v := .slice a63 n67 c64) (ek := [(5, .slice a63 n67 c64)]) (Ls := []) rfl rfl rfl rfl ((sc rfl (sn _))) (by kernel_rfl) sm (fun H F' L' hF' hL' => v_move rfl) ?_
         refine shM_v (v := .slice of__a of_.length of__c) (ek := [(0, .slice of__a of_.length of__c)]) (Ls := []) rfl rfl rfl rfl ((sc rfl (sn _))) (by kernel_rfl) sm (fun H F' L' hF' hL' => v_move rfl) ?_
         refine shM_v (v := .int .i64 i) (ek := [(6, .int .i64 i)]) (Ls := []) rfl rfl rfl rfl ((sc rfl (sn _))) (by kernel_rfl) sm (fun H F' L' hF' hL' => v_move rfl) ?_
         obtain ⟨b80, o81, c82, vs83, ha84, hs85, hle86, rfl, hl87, hc88⟩ := RowR.at (iE_ok _) h_of_ ([]) g32.1 hx31
         refine shM_v (v := .pointer (some ⟨b80, o81 + (i : Int).toNat * 1, none⟩)) (ek := [(32, .slice of__a of_.length of__c), (33, .int .i64 i)]) (Ls := []) rfl rfl rfl rfl ((sc rfl (sc rfl (sn _)))) (by kernel_rfl) sm (fun H F' L' hF' hL' => v_indexO Try.underlying26 Try.sizeOf3 rfl ha84 rfl g32) ?_
         refine shM_v (v := .int .i64 x) (ek := [(34, .pointer (some ⟨b80, o81 + (i : Int).toNat * 1, none⟩))]) (Ls := []) rfl rfl rfl rfl ((sc rfl (sn _))) (by kernel_rfl) sm (fun H F' L' hF' hL' => v_load Try.isAgg3 rfl (hs85.ext hF' hL') (hc88 0 (by decide))) ?_
         refine shM_v (v := .slice a57 n61 c58) (ek := [(7, .slice a57 n61 c58)]) (Ls := []) rfl rfl rfl rfl ((sc rfl (sn _))) (by kernel_rfl) sm (fun H F' L' hF' hL' => v_move rfl) ?_
         refine shM_v (v := .int .i64 k) (ek := [(8, .int .i64 k)]) (Ls := []) rfl rfl rfl rfl ((sc rfl (sn _))) (by kernel_rfl) sm (fun H F' L' hF' hL' => v_move rfl) ?_
         obtain ⟨b89, o90, c91, vs92, ha93, hs94, hle95, ⟨a98, c99, rfl, h100⟩, hl96, hc97⟩ := SlR.at (slE_ok (iE_ok _)) hz60 (L := Lb59 ++ []) fP g79.1 hx78
         refine shM_v (v := .pointer (some ⟨b89, o90 + (k : Int).toNat * 1, none⟩)) (ek := [(37, .slice a57 n61 c58), (38, .int .i64 k)]) (Ls := []) rfl rfl rfl rfl ((sc rfl (sc rfl (sn _)))) (by kernel_rfl) sm (fun H F' L' hF' hL' => v_indexO Try.underlying86 Try.sizeOf26 rfl ha93 rfl (SlR.idx hz60 g79)) ?_
         refine shM_v (v := .slice a98 x2.length c99) (ek := [(39, .pointer (some ⟨b89, o90 + (k : Int).toNat * 1, none⟩))]) (Ls := Lb59 ++ []) rfl rfl rfl rfl ((sc rfl (sn _))) (by kernel_rfl) (s0 (s3 (s4 sr))) (fun H F' L' hF' hL' => v_load Try.isAgg26 rfl (hs94.ext hF' hL') (hc97 0 (by decide))) ?_
         refine ⟨_, [(35, .int .i64 x)], rfl, rfl, (sc rfl (sn _)), by kernel_rfl, ?_⟩; intro H
         refine o_buildSlice (cs := #[.int .i64 x]) rfl rfl (buildSlice_all slt_26 [.int .i64 x] rfl (by decide) (by simp [Value.cells]) (by decide)) ?_; intro b101 hb101
         refine shO_nil ⟨_, rfl, FExt.refl _, [9, 8, 7, 6, 0], by kernel_rfl, .inr (fun d h => by cases h; rfl), (List.forall_mem_cons.2 ⟨s0 (s1 (s3 (s4 sr))), (List.forall_mem_cons.2 ⟨sm, (List.forall_mem_cons.2 ⟨sm, (List.forall_mem_cons.2 ⟨sm, (List.forall_mem_cons.2 ⟨sm, (fun _ h => absurd h List.not_mem_nil)⟩)⟩)⟩)⟩)⟩), ?_⟩
         refine ⟨_, [(36, .slice (some ⟨b101, 0, none⟩) 1 1), (40, .slice a98 x2.length c99)], rfl, rfl, (sc rfl (sc rfl (sn _))), by kernel_rfl, ?_⟩; intro H
         have hz103 : SlR K.w0.heap.size 3 1 (iE .i64) F73 (some ⟨b101, 0, none⟩) 1 1 [x] [(b101, .cells #[.int .i64 x] 3 (0, 0))] := SlR.of_block (vss := [[.int .i64 x]]) (iE_ok _) hb101 (.cons rfl .nil) rfl rfl (by simp [maxLen])
         generalize hLLb102 : ([(b101, .cells #[.int .i64 x] 3 (0, 0))] : LH) = Lb102 at hz103
         refine shO_perm (L' := Lb102 ++ (Lb65 ++ (Lb59 ++ []))) (by rw [← hLLb102]; exact fO) ?_
         obtain ⟨l2, h105, g106, r107⟩ := ap_ok r71; clear r71
         refine o_appZ (xs := [x]) (ys := x2) (zs := l2) rfl slt_26 rfl rfl (Nat.le_refl _) (fun _ => .h) hz103 (RowR.src h100) h105 g106 (by decide) ?_; intro a108 n112 c109 Lb110 hz111
         refine shO_nil ⟨_, rfl, FExt.refl _, [0], by kernel_rfl, .inr (fun d h => by cases h; rfl), (List.forall_mem_cons.2 ⟨sm, (fun _ h => absurd h List.not_mem_nil)⟩), ?_⟩
         refine ⟨_, [(41, .slice a108 n112 c109)], rfl, rfl, (sc rfl (sn _)), by kernel_rfl, ?_⟩; intro H
         refine o_buildSlice (cs := #[.slice a108 n112 c109]) rfl rfl (buildSlice_all slt_86 [.slice a108 n112 c109] rfl (by decide) (by simp [Value.cells]) (by decide)) ?_; intro b114 hb114
         refine shO_nil ⟨_, rfl, FExt.refl _, [0], by kernel_rfl, .inr (fun d h => by cases h; rfl), (List.forall_mem_cons.2 ⟨sm, (fun _ h => absurd h List.not_mem_nil)⟩), ?_⟩
         refine ⟨_, [(31, .slice a63 n67 c64), (42, .slice (some ⟨b114, 0, none⟩) 1 1)], rfl, rfl, (sc rfl (sc rfl (sn _))), by kernel_rfl, ?_⟩; intro H
         obtain rfl := (SlR.caps hz111).1
         refine shO_freezeR (Nat.le_refl _) (iE_ok _) (fC fP) hz111 ?_; intro F115 hF116 h117
         replace h_of_ := h_of_.mono (iE_ok _) hF116
         replace h47 := h47.mono (iE_ok _) hF116
         replace h100 := h100.mono (iE_ok _) hF116
         replace hz60 := hz60.mono (slE_ok (iE_ok _)) hF116
         replace hz66 := hz66.mono (slE_ok (iE_ok _)) hF116
         obtain ⟨l3, h118, g119, r120⟩ := ap_ok r107; clear r107
         refine o_appZ (xs := out4) (ys := [l2]) (zs := l3) rfl slt_86 rfl rfl (Nat.le_refl _) (fun _ => .c .h) hz66 (SrcR.box (vss := [[.slice a108 l2.length c109]]) (ys := [l2]) 0 rfl (slE_ok (iE_ok _)) (.cons ⟨_, _, rfl, h117⟩ .nil) rfl rfl) h118 g119 (by decide) ?_; intro a121 n125 c122 Lb123 hz124
         refine kO (kd kr) ?_
         refine shO_nil ⟨_, rfl, hF116, [], by kernel_rfl, .inl rfl, (fun _ h => absurd h List.not_mem_nil), ?_⟩
         refine ⟨_, [(43, .slice a121 n125 c122)], rfl, rfl, (sc rfl (sn _)), by kernel_rfl, ?_⟩; intro H
         refine oa rfl rfl ?_
         refine shO_nil ⟨_, rfl, FExt.refl _, [], by kernel_rfl, .inl rfl, (fun _ h => absurd h List.not_mem_nil), ?_⟩
         refine shM_nil ?_
         refine inBlock_n (id := 3) (shW_region (om rfl rfl ?_))
         refine ov (v_add rfl rfl (Lst.r64 hk69 c76 (SlR.llt hz60))) rfl ?_
         refine oa rfl rfl (shO_nil ?_)
         subst hn70; exact le kr ⟨_, _, rfl, hk77, l3, a121, n125, c122, Lb123, r120, (hF74.trans hF116), rfl, (sc rfl (sc rfl (sc rfl (sc rfl (sc rfl (sc rfl (sn _))))))), hz124⟩
       obtain rfl := Lst.zero hk69 c76
       rw [oyezref01_ListsB_l2] at r71
       refine shW_exit (andThen_exit (andThen_exit ?_))
       refine inBlock_exit ?_
       refine inBlock_n (id := 1) ?_
       obtain rfl := inj1 r71
       exact mi (ka kn) ⟨a63, n67, c64, Lb65, (hF54.trans hF74), rfl, (sc rfl (sc rfl (sc rfl (sc rfl (sn _))))), hz66⟩
     rintro e1 F128 _ ⟨a33, n37, c34, Lb35, hF129, rfl, he127, hz36⟩
     refine shW_env _ he127 ?_; clear he127
     replace h_of_ := h_of_.mono (iE_ok _) hF129
     refine shW_region (om rfl rfl ?_)
     refine ov (v_add rfl rfl (Lst.r64 hk22 c29 (RowR.lt h_of_))) rfl ?_
     refine oa rfl rfl (shO_nil ?_)
     subst hn23; exact le kr ⟨_, _, rfl, hk30, out3, a33, n37, c34, Lb35, r40, (hF27.trans hF129), rfl, (sc rfl (sc rfl (sc rfl (sc rfl (sn _))))), hz36⟩
   obtain rfl := Lst.zero hk22 c29
   rw [oyezref01_ListsB_l1] at r24
   refine shW_exit (andThen_exit (andThen_exit ?_))
   refine inBlock_exit ?_
   obtain rfl := inj1 r24
   exact mi kr ⟨a16, n20, c17, Lb18, hF27, rfl, (sc rfl (sn _)), hz19⟩
 rintro e1 F131 _ ⟨a8, n12, c9, Lb10, hF132, rfl, he130, hz11⟩
 refine shW_env _ he130 ?_; clear he130
 replace h_of_ := h_of_.mono (iE_ok _) hF132
 refine wsr (om rfl rfl (oa rfl rfl (shO_nil (shW_ret ?_))))
 refine q_res1 Try.results92 (res_tmp rfl) (sr) ?_
 obtain rfl := inj1 r15
 exact ⟨_, _, _, _, rfl, rfl, hz11.any⟩


set_option maxHeartbeats 1000000 in
theorem oyezref01_Lists_w : ∀ (fu : Nat) {of__a : Option Addr} {of__c : Nat} {of_ : List Int} {many : Int} {F : FS} (_ : RowR 1 (iE .i64) F of__a of__c of_) {r : List (List Int)} , oyezref01_Lists fu of_ many = some r → SH.Spec Try.prog 92 #[.slice of__a of_.length of__c, .int .i64 many] F [] fun F' L' v => ∃ (ra : Option Addr) (rn : Nat) (rc : Nat) (rL : LH), v = .slice ra rn rc ∧ L' = rL ++ [] ∧ SlR 0 26 1 (slE 1 (iE .i64)) F' ra rn rc r rL := by
  intro fu
  induction fu with
  | zero => intros; rename_i hr; rw [oyezref01_Lists] at hr; cases hr
  | succ fu ih => intros; rename_i hr; rw [oyezref01_Lists] at hr; exact oyezref01_ListsB_w ih (by assumption) hr


set_option maxHeartbeats 1000000 in
theorem oyezref01_streets_w {wide : Int} {plots_a : Option Addr} {plots_c : Nat} {plots : List Int} {F : FS} (h_plots : RowR 1 (iE .i64) F plots_a plots_c plots) {r : List Int} (hr : oyezref01_streets wide plots = some r) :
    SH.Spec Try.prog 93 #[.agg #[.int .i64 wide, .slice plots_a plots.length plots_c]] F [] fun F' L' v => ∃ (ra : Option Addr) (rn : Nat) (rc : Nat) (rL : LH), v = .slice ra rn rc ∧ L' = rL ++ [] ∧ SlR 0 3 1 (iE .i64) F' ra rn rc r rL := by
 refine spec_of_shW (args := [.agg #[.int .i64 wide, .slice plots_a plots.length plots_c]]) Try.func93 rfl Try.ntmps93 (Nat.le_of_ble_eq_true rfl) ?_
 intro K _ _; rw [oyezref01_streets] at hr
 refine wsr ?_
 refine o_box rfl rfl ?_; intro b1 hb1
 refine oa rfl rfl (nsr (oa rfl rfl (shO_nil ?_)))
 obtain ⟨out, h8, r9⟩ := b1_ok hr; clear hr
 refine shW_join (fun e1 F1 L1 => ∃ (a2 : Option Addr) (n6 : Nat) (c3 : Nat) (Lb4 : LH), F = F1 ∧ L1 = (Lb4 ++ []) ∧ e1.sub [(3, .slice a2 n6 c3)] ∧ SlR K.w0.heap.size 3 1 (iE .i64) F1 a2 n6 c3 out Lb4) ?_ ?_
 · clear r9
   refine wsr (oa rfl rfl (shO_nil ?_))
   refine shW_block ?_
   refine shW_lp (fun fu1 e1 F1 L1 => ∃ (tl : List Int) (p : Int), tl.length = fu1 ∧ Lst plots p tl ∧ ∃ (out2 : List Int) (a10 : Option Addr) (n14 : Nat) (c11 : Nat) (Lb12 : LH), oyezref01_streets_l1 tl p out2 = some out ∧ F = F1 ∧ L1 = ((b1, .cells #[.int .i64 wide, .slice plots_a plots.length plots_c] 32 (0, 0)) :: (Lb12 ++ [])) ∧ e1.sub [(1, .pointer (some ⟨b1, 0, none⟩)), (3, .slice a10 n14 c11), (4, .int .i64 p)] ∧ SlR K.w0.heap.size 3 1 (iE .i64) F1 a10 n14 c11 out2 Lb12) _ (m0 (kc (ke kr)) ⟨_, _, rfl, Lst.start _, [], none, 0, 0, [], h8, rfl, rfl, (sc rfl (sc rfl (sc rfl (sn _)))), SlR.nil _ _ _ _ _⟩) ?_
   rintro fu1 e1 _ _ ⟨tl, p, hn17, hk16, out2, a10, n14, c11, Lb12, r18, rfl, rfl, he19, hz13⟩
   refine shW_env _ he19 ?_; clear he19
   refine shW_seq (wsr (om rfl rfl ?_))
   refine ov (v_fieldAddr fa_32_1 rfl) rfl ?_
   refine ov (v_load Try.isAgg26 rfl (Has.own 0 rfl) rfl) rfl ?_
   refine ov (v_lenS Try.underlying26 rfl) rfl ?_
   refine ov (v_lssK rfl rfl) rfl ?_
   refine shO_nil ?_
   refine shW_condP rfl (fun c21 => ?_) (fun c21 => ?_)
   · obtain ⟨x, tl2, rfl, hx23, g24, hk22⟩ := Lst.succ hk16 c21
     rw [oyezref01_streets_l1] at r18
     refine shW_skip (shW_seq ?_)
     refine shW_block ?_
     refine wsr ?_
     refine ov (v_fieldAddr fa_32_1 rfl) rfl ?_
     refine ov (v_load Try.isAgg26 rfl (Has.own 0 rfl) rfl) rfl ?_
     refine om rfl rfl ?_
     obtain ⟨b25, o26, c27, vs28, ha29, hs30, hle31, rfl, hl32, hc33⟩ := RowR.at (iE_ok _) h_plots ((b1, .cells #[.int .i64 wide, .slice plots_a plots.length plots_c] 32 (0, 0)) :: (Lb12 ++ [])) g24.1 hx23
     refine ov (v_indexO Try.underlying26 Try.sizeOf3 rfl ha29 rfl g24) rfl ?_
     refine ov (v_load Try.isAgg3 rfl hs30 (hc33 0 (by decide))) rfl ?_
     refine ov (v_eql rfl rfl) rfl ?_
     refine shO_nil ?_
     refine shW_condP rfl (fun c34 => ?_) (fun c34 => ?_)
     · have r35 := ite_t r18 c34; clear r18
       refine shW_region (om rfl rfl (om rfl rfl ?_))
       refine o_buildSlice (cs := #[.int .i64 p]) rfl rfl (buildSlice_all slt_26 [.int .i64 p] rfl (by decide) (by simp [Value.cells]) (by decide)) ?_; intro b36 hb36
       obtain ⟨out3, h37, g38, r39⟩ := ap_ok r35; clear r35
       refine o_appZ (xs := out2) (ys := [p]) (zs := out3) rfl slt_26 rfl rfl (Nat.le_refl _) (fun _ => .c (.c .h)) hz13 (SrcR.box (vss := [[.int .i64 p]]) (ys := [p]) 0 rfl (iE_ok _) (.cons rfl .nil) rfl rfl) h37 g38 (by decide) ?_; intro a40 n44 c41 Lb42 hz43
       refine kO (kd kr) ?_
       refine oa rfl rfl (shO_nil (inBlock_n (id := 1) (shW_region (om rfl rfl ?_))))
       refine ov (v_add rfl rfl (Lst.r64 hk16 c21 (RowR.lt h_plots))) rfl ?_
       refine oa rfl rfl (shO_nil ?_)
       subst hn17; exact le kr ⟨_, _, rfl, hk22, out3, a40, n44, c41, Lb42, r39, rfl, rfl, (sc rfl (sc rfl (sc rfl (sn _)))), hz43⟩
     have r46 := ite_f r18 c34; clear r18
     refine shW_skip (inBlock_n (id := 1) (shW_region (om rfl rfl ?_)))
     refine ov (v_add rfl rfl (Lst.r64 hk16 c21 (RowR.lt h_plots))) rfl ?_
     refine oa rfl rfl (shO_nil ?_)
     subst hn17; exact le kr ⟨_, _, rfl, hk22, out2, a10, n14, c11, Lb12, r46, rfl, rfl, (sc rfl (sc rfl (sc rfl (sn _)))), hz13⟩
   obtain rfl := Lst.zero hk16 c21
   rw [oyezref01_streets_l1] at r18
   refine shW_exit (andThen_exit (andThen_exit ?_))
   refine inBlock_exit ?_
   obtain rfl := inj1 r18
   exact mi (kd kr) ⟨a10, n14, c11, Lb12, rfl, rfl, (sc rfl (sn _)), hz13⟩
 rintro e1 _ _ ⟨a2, n6, c3, Lb4, rfl, rfl, he47, hz5⟩
 refine shW_env _ he47 ?_; clear he47
 refine wsr (om rfl rfl (oa rfl rfl (shO_nil (shW_ret ?_))))
 refine q_res1 Try.results93 (res_tmp rfl) (sr) ?_
 obtain rfl := inj1 r9
 exact ⟨_, _, _, _, rfl, rfl, hz5.any⟩


set_option maxHeartbeats 1000000 in
theorem oyezref01_served_w {ears_a : Option Addr} {ears_c : Nat} {ears : List (List Int)} {houses_a : Option Addr} {houses_c : Nat} {houses : List Int} {stands_a : Option Addr} {stands_c : Nat} {stands : List Int} {F : FS} (h_ears : RowR 1 (slE 1 (iE .i64)) F ears_a ears_c ears) (h_houses : RowR 1 (iE .i64) F houses_a houses_c houses) (h_stands : RowR 1 (iE .i64) F stands_a stands_c stands) {r : Int} (hr : oyezref01_served ears houses stands = some r) :
    SpecV Try.prog 94 #[.slice ears_a ears.length ears_c, .slice houses_a houses.length houses_c, .slice stands_a stands.length stands_c] F (.int .i64 r) := by
 refine spec_of_shW (args := [.slice ears_a ears.length ears_c, .slice houses_a houses.length houses_c, .slice stands_a stands.length stands_c]) Try.func94 rfl Try.ntmps94 (Nat.le_of_ble_eq_true rfl) ?_
 intro K _ _; rw [oyezref01_served] at hr
 refine wsr (oa rfl rfl (nsr (oa rfl rfl (shO_nil ?_))))
 obtain ⟨n, h1, r2⟩ := b1_ok hr; clear hr
 refine shW_join (fun e1 F1 L1 => F = F1 ∧ L1 = [] ∧ e1.sub [(7, .int .i64 n)]) ?_ ?_
 · clear r2
   refine wsr (oa rfl rfl (shO_nil ?_))
   refine shW_block ?_
   refine shW_lp (fun fu1 e1 F1 L1 => ∃ (tl : List Int) (i : Int), tl.length = fu1 ∧ Lst houses i tl ∧ ∃ (n2 : Int), oyezref01_served_l1 ears stands tl n2 = some n ∧ F = F1 ∧ L1 = [] ∧ e1.sub [(0, .slice ears_a ears.length ears_c), (1, .slice houses_a houses.length houses_c), (2, .slice stands_a stands.length stands_c), (7, .int .i64 n2), (8, .int .i64 i)]) _ (m0 kr ⟨_, _, rfl, Lst.start _, 0, h1, rfl, rfl, (sc rfl (sc rfl (sc rfl (sc rfl (sc rfl (sn _))))))⟩) ?_
   rintro fu1 e1 _ _ ⟨tl, i, hn4, hk3, n2, r5, rfl, rfl, he6⟩
   refine shW_env _ he6 ?_; clear he6
   refine shW_seq (wsr (om rfl rfl (om rfl rfl ?_)))
   refine ov (v_lenS Try.underlying26 rfl) rfl ?_
   refine ov (v_lssK rfl rfl) rfl ?_
   refine shO_nil ?_
   refine shW_condP rfl (fun c8 => ?_) (fun c8 => ?_)
   · obtain ⟨x, tl2, rfl, hx10, g11, hk9⟩ := Lst.succ hk3 c8
     rw [oyezref01_served_l1] at r5
     refine shW_skip ?_
     obtain ⟨n3, h12, r13⟩ := b1_ok r5; clear r5
     refine shW_join (fun e1 F1 L1 => F = F1 ∧ L1 = [] ∧ e1.sub [(0, .slice ears_a ears.length ears_c), (1, .slice houses_a houses.length houses_c), (2, .slice stands_a stands.length stands_c), (7, .int .i64 n3), (8, .int .i64 i)]) ?_ ?_
     · clear r13
       refine shW_block ?_
       refine wsr (oa rfl rfl (shO_nil ?_))
       obtain ⟨is_, h14, r15⟩ := b1_ok h12; clear h12
       refine shW_join (fun e1 F1 L1 => F = F1 ∧ L1 = [] ∧ e1.sub [(0, .slice ears_a ears.length ears_c), (1, .slice houses_a houses.length houses_c), (2, .slice stands_a stands.length stands_c), (7, .int .i64 n2), (8, .int .i64 i), (9, .bool is_)]) ?_ ?_
       · clear r15
         refine wsr (oa rfl rfl (shO_nil ?_))
         refine shW_block ?_
         refine shW_lp (fun fu2 e1 F1 L1 => ∃ (tl3 : List Int) (k : Int), tl3.length = fu2 ∧ Lst stands k tl3 ∧ ∃ (is_2 : Bool), oyezref01_served_l2 ears x tl3 is_2 = some is_ ∧ F = F1 ∧ L1 = [] ∧ e1.sub [(0, .slice ears_a ears.length ears_c), (1, .slice houses_a houses.length houses_c), (2, .slice stands_a stands.length stands_c), (7, .int .i64 n2), (8, .int .i64 i), (9, .bool is_2), (10, .int .i64 k)]) _ (m0 kr ⟨_, _, rfl, Lst.start _, false, h14, rfl, rfl, (sc rfl (sc rfl (sc rfl (sc rfl (sc rfl (sc rfl (sc rfl (sn _))))))))⟩) ?_
         rintro fu2 e1 _ _ ⟨tl3, k, hn17, hk16, is_2, r18, rfl, rfl, he19⟩
         refine shW_env _ he19 ?_; clear he19
         refine shW_seq (wsr (om rfl rfl (om rfl rfl ?_)))
         refine ov (v_lenS Try.underlying26 rfl) rfl ?_
         refine ov (v_lssK rfl rfl) rfl ?_
         refine shO_nil ?_
         refine shW_condP rfl (fun c21 => ?_) (fun c21 => ?_)
         · obtain ⟨x2, tl4, rfl, hx23, g24, hk22⟩ := Lst.succ hk16 c21
           rw [oyezref01_served_l2] at r18
           refine shW_skip (shW_seq ?_)
           refine shW_block ?_
           refine shW_draw (by kernel_rfl) (by kernel_rfl) (by kernel_rfl) ?_
           refine qm rfl rfl (qm rfl rfl ?_)
           rcases bool_two is_2 with c25 | c25
           · have r26 := bt r18 c25; clear r18
             refine shQ_off (b' := true) 24 rfl (EnvB rfl c25) rfl rfl (shQ_off (b' := true) 24 rfl (EnvB rfl c25) rfl rfl (shQ_off (b' := true) 24 rfl (EnvB rfl c25) rfl rfl (shQ_off (b' := true) 24 rfl (EnvB rfl c25) rfl rfl (shQ_off (b' := true) 24 rfl (EnvB rfl c25) rfl rfl (shQ_off (b' := true) 24 rfl (EnvB rfl c25) rfl rfl (shQ_off (b' := true) 24 rfl (EnvB rfl c25) rfl rfl (shQ_off (b' := true) 24 rfl (EnvB rfl c25) rfl rfl (shQ_off (b' := true) 24 rfl (EnvB rfl c25) rfl rfl (shQ_off (b' := true) 24 rfl (EnvB rfl c25) rfl rfl ?_)))))))))
             refine shQ_off (b' := true) 24 rfl (EnvB rfl c25) rfl rfl (shQ_off (b' := true) 24 rfl (EnvB rfl c25) rfl rfl ?_)
             refine qv (v_pick_t (evB rfl c25) rfl) rfl ?_
             refine qa rfl rfl (shQ_nil (inBlock_n (id := 3) (shW_region (om rfl rfl ?_))))
             refine ov (v_add rfl rfl (Lst.r64 hk16 c21 (RowR.lt h_stands))) rfl ?_
             refine oa rfl rfl (shO_nil ?_)
             subst hn17; exact le kr ⟨_, _, rfl, hk22, true, r26, rfl, rfl, (sc rfl (sc rfl (sc rfl (sc rfl (sc rfl (sc rfl (sc rfl (sn _))))))))⟩
           have r27 := bf r18 c25; clear r18
           refine shQ_on (b := false) 24 rfl (EnvB rfl c25) (qm rfl rfl (shQ_on (b := false) 24 rfl (EnvB rfl c25) (qm rfl rfl (shQ_on (b := false) 24 rfl (EnvB rfl c25) (qm rfl rfl (shQ_on (b := false) 24 rfl (EnvB rfl c25) ?_))))))
           obtain ⟨b28, o29, c30, vs31, ha32, hs33, hle34, rfl, hl35, hc36⟩ := RowR.at (iE_ok _) h_houses ([]) g11.1 hx10
           refine qv (v_indexO Try.underlying26 Try.sizeOf3 rfl ha32 rfl g11) rfl ?_
           refine shQ_on (b := false) 24 rfl (EnvB rfl c25) ?_
           refine qv (v_load Try.isAgg3 rfl hs33 (hc36 0 (by decide))) rfl ?_
           refine shQ_on (b := false) 24 rfl (EnvB rfl c25) ?_
           obtain ⟨x3, g37, hx38, r39⟩ := ix_ok r27; clear r27
           obtain ⟨b40, o41, c42, vs43, ha44, hs45, hle46, ⟨a49, c50, rfl, h51⟩, hl47, hc48⟩ := RowR.at (slE_ok (iE_ok _)) h_ears ([]) g37.1 hx38
           refine qv (v_indexO Try.underlying86 Try.sizeOf26 rfl ha44 rfl g37) rfl ?_
           refine shQ_on (b := false) 24 rfl (EnvB rfl c25) ?_
           refine qv (v_load Try.isAgg26 rfl hs45 (hc48 0 (by decide))) rfl ?_
           refine shQ_on (b := false) 24 rfl (EnvB rfl c25) (qm rfl rfl (shQ_on (b := false) 24 rfl (EnvB rfl c25) (qm rfl rfl (shQ_on (b := false) 24 rfl (EnvB rfl c25) ?_))))
           obtain ⟨b52, o53, c54, vs55, ha56, hs57, hle58, rfl, hl59, hc60⟩ := RowR.at (iE_ok _) h_stands ([]) g24.1 hx23
           refine qv (v_indexO Try.underlying26 Try.sizeOf3 rfl ha56 rfl g24) rfl ?_
           refine shQ_on (b := false) 24 rfl (EnvB rfl c25) ?_
           refine qv (v_load Try.isAgg3 rfl hs57 (hc60 0 (by decide))) rfl ?_
           refine shQ_on (b := false) 24 rfl (EnvB rfl c25) ?_
           obtain ⟨ok, h61, r62⟩ := b1_ok r39; clear r39
           refine shQ_callV rfl Try.call91 rfl rfl rfl (oyezref01_has_w h51 h61) ?_
           refine qv (v_pick_f (evB rfl c25) rfl) rfl ?_
           refine qa rfl rfl (shQ_nil (inBlock_n (id := 3) (shW_region (om rfl rfl ?_))))
           refine ov (v_add rfl rfl (Lst.r64 hk16 c21 (RowR.lt h_stands))) rfl ?_
           refine oa rfl rfl (shO_nil ?_)
           subst hn17; exact le kr ⟨_, _, rfl, hk22, ok, r62, rfl, rfl, (sc rfl (sc rfl (sc rfl (sc rfl (sc rfl (sc rfl (sc rfl (sn _))))))))⟩
         obtain rfl := Lst.zero hk16 c21
         rw [oyezref01_served_l2] at r18
         refine shW_exit (andThen_exit (andThen_exit ?_))
         refine inBlock_exit ?_
         obtain rfl := inj1 r18
         exact mi kr ⟨rfl, rfl, (sc rfl (sc rfl (sc rfl (sc rfl (sc rfl (sc rfl (sn _)))))))⟩
       rintro e1 _ _ ⟨rfl, rfl, he63⟩
       refine shW_env _ he63 ?_; clear he63
       refine wsr (om rfl rfl (shO_nil ?_))
       refine shW_cond rfl (fun c64 => ?_) (fun c64 => ?_)
       · have r65 := bt r15 c64; clear r15
         refine shW_region (om rfl rfl ?_)
         obtain ⟨g66, r67⟩ := gd_ok r65; clear r65
         refine ov (v_add rfl rfl g66) rfl ?_
         refine oa rfl rfl (shO_nil (inBlock_n (id := 1) ?_))
         obtain rfl := inj1 r67
         exact mi kr ⟨rfl, rfl, (sc rfl (sc rfl (sc rfl (sc rfl (sc rfl (sn _))))))⟩
       have r68 := bf r15 c64; clear r15
       refine shW_skip (inBlock_n (id := 1) ?_)
       obtain rfl := inj1 r68
       exact mi kr ⟨rfl, rfl, (sc rfl (sc rfl (sc rfl (sc rfl (sc rfl (sn _))))))⟩
     rintro e1 _ _ ⟨rfl, rfl, he69⟩
     refine shW_env _ he69 ?_; clear he69
     refine shW_region (om rfl rfl ?_)
     refine ov (v_add rfl rfl (Lst.r64 hk3 c8 (RowR.lt h_houses))) rfl ?_
     refine oa rfl rfl (shO_nil ?_)
     subst hn4; exact le kr ⟨_, _, rfl, hk9, n3, r13, rfl, rfl, (sc rfl (sc rfl (sc rfl (sc rfl (sc rfl (sn _))))))⟩
   obtain rfl := Lst.zero hk3 c8
   rw [oyezref01_served_l1] at r5
   refine shW_exit (andThen_exit (andThen_exit ?_))
   refine inBlock_exit ?_
   obtain rfl := inj1 r5
   exact mi kr ⟨rfl, rfl, (sc rfl (sn _))⟩
 rintro e1 _ _ ⟨rfl, rfl, he70⟩
 refine shW_env _ he70 ?_; clear he70
 refine wsr (om rfl rfl (oa rfl rfl (shO_nil (shW_ret ?_))))
 refine q_res1 Try.results94 (res_tmp rfl) (sr) ?_
 obtain rfl := inj1 r2
 exact rfl


set_option maxHeartbeats 1000000 in
theorem oyezref01_Best_w {wide : Int} {plots_a : Option Addr} {plots_c : Nat} {plots : List Int} {wind : Int} {voice : Int} {houses_a : Option Addr} {houses_c : Nat} {houses : List Int} {most : Int} {F : FS} (h_plots : RowR 1 (iE .i64) F plots_a plots_c plots) (h_houses : RowR 1 (iE .i64) F houses_a houses_c houses) {r : List Int} {r2 : Int} (hr : oyezref01_Best wide plots wind voice houses most = some (r, r2)) :
    SH.Spec Try.prog 31 #[.agg #[.int .i64 wide, .slice plots_a plots.length plots_c], .int .i64 wind, .int .i64 voice, .slice houses_a houses.length houses_c, .int .i64 most] F [] fun F' L' v => ∃ (ra : Option Addr) (rc : Nat), v = .tuple #[.slice ra r.length rc, .int .i64 r2] ∧ L' = [] ∧ RowR 1 (iE .i64) F' ra rc r := by
 refine spec_of_shW (args := [.agg #[.int .i64 wide, .slice plots_a plots.length plots_c], .int .i64 wind, .int .i64 voice, .slice houses_a houses.length houses_c, .int .i64 most]) Try.func31 rfl Try.ntmps31 (Nat.le_of_ble_eq_true rfl) ?_
 intro K _ _; rw [oyezref01_Best] at hr
 refine wsr ?_
 refine o_box rfl rfl ?_; intro b1 hb1
 refine oa rfl rfl (oa rfl rfl (nsr ?_))
 refine ov (v_loadA (cs := #[.int .i64 wide, .slice plots_a plots.length plots_c]) Try.isAgg32 Try.sizeOf32 rfl (Has.own 0 rfl) (Nat.le_of_ble_eq_true rfl) rfl) rfl ?_
 refine om rfl rfl (om rfl rfl ?_)
 obtain ⟨l, h2, r3⟩ := b1_ok hr; clear hr
 refine o_call0 rfl Try.call51 rfl rfl rfl (oyezref01_Ears_w h_plots h2) ?_; rintro _ F4 _ hF5 hn6 ⟨a8, c9, rfl, rfl, h10⟩
 replace h_plots := h_plots.mono (iE_ok _) hF5
 replace h_houses := h_houses.mono (iE_ok _) hF5
 refine shO_L (ln rfl) ?_
 refine oa rfl rfl (nsr (oa rfl rfl (nsr (oa rfl rfl (shO_nil ?_)))))
 obtain ⟨best, n, h14, r15⟩ := b2_ok r3; clear r3
 refine shW_join (fun e1 F1 L1 => ∃ (a11 : Option Addr) (c12 : Nat), FExt F4 F1 ∧ L1 = [] ∧ e1.sub [(13, .slice a11 best.length c12), (14, .int .i64 n)] ∧ RowR 1 (iE .i64) F1 a11 c12 best) ?_ ?_
 · clear r15
   refine wsr (oa rfl rfl (shO_nil ?_))
   refine shW_block ?_
   refine shW_lp (fun fu1 e1 F1 L1 => ∃ (best2 : List Int) (n2 : Int) (many : Int) (a16 : Option Addr) (c17 : Nat), oyezref01_Best_l1 wide plots houses most l fu1 best2 n2 many = some (best, n) ∧ FExt F4 F1 ∧ L1 = [(b1, .cells #[.int .i64 wide, .slice plots_a plots.length plots_c] 32 (0, 0))] ∧ e1.sub [(3, .slice houses_a houses.length houses_c), (4, .int .i64 most), (5, .pointer (some ⟨b1, 0, none⟩)), (12, .slice a8 l.length c9), (13, .slice a16 best2.length c17), (14, .int .i64 n2), (15, .int .i64 many)] ∧ RowR 1 (iE .i64) F1 a16 c17 best2) FU (m0 kr ⟨[], 0, 1, none, 0, h14, FExt.refl _, rfl, (sc rfl (sc rfl (sc rfl (sc rfl (sc rfl (sc rfl (sc rfl (sn _)))))))), RowR.nil _ _ _⟩) ?_
   rintro fu1 e1 F23 _ ⟨best2, n2, many, a16, c17, r21, hF24, rfl, he22, h18⟩
   refine shW_env _ he22 ?_; clear he22
   replace h_plots := h_plots.mono (iE_ok _) hF24
   replace h_houses := h_houses.mono (iE_ok _) hF24
   replace h10 := h10.mono (slE_ok (iE_ok _)) hF24
   rcases fu1 with _ | fu1
   · rw [oyezref01_Best_l1] at r21; cases r21
   rw [oyezref01_Best_l1] at r21
   refine shW_seq ?_
   obtain ⟨k, h25, r26⟩ := b1_ok r21; clear r21
   refine shW_join (fun e1 F1 L1 => F23 = F1 ∧ L1 = [(b1, .cells #[.int .i64 wide, .slice plots_a plots.length plots_c] 32 (0, 0))] ∧ e1.sub [(3, .slice houses_a houses.length houses_c), (4, .int .i64 most), (5, .pointer (some ⟨b1, 0, none⟩)), (12, .slice a8 l.length c9), (13, .slice a16 best2.length c17), (14, .int .i64 n2), (15, .int .i64 many), (31, .bool k)]) ?_ ?_
   · clear r26
     refine shW_region (om rfl rfl (om rfl rfl ?_))
     refine ov (v_leqK rfl rfl) rfl ?_
     refine om rfl rfl ?_
     by_cases c27 : many ≤ most
     · have r28 := ite_t h25 c27; clear h25
       refine shO_on (b := true) 26 rfl (Env.isT rfl c27) (om rfl rfl (shO_on (b := true) 26 rfl (Env.isT rfl c27) (om rfl rfl (shO_on (b := true) 26 rfl (Env.isT rfl c27) ?_))))
       refine ov (v_lenS Try.underlying26 rfl) rfl ?_
       refine shO_on (b := true) 26 rfl (Env.isT rfl c27) ?_
       refine ov (v_leqK rfl rfl) rfl ?_
       refine ov (v_pick_t (evD_true rfl c27) rfl) rfl ?_
       refine shO_nil ?_
       obtain rfl := inj1 r28
       exact mi kr ⟨rfl, rfl, (sc rfl (sc rfl (sc rfl (sc rfl (sc rfl (sc rfl (sc rfl (sc rfl (sn _)))))))))⟩
     have r29 := ite_f h25 c27; clear h25
     refine shO_off (b' := false) 26 rfl (Env.isF rfl c27) rfl rfl (shO_off (b' := false) 26 rfl (Env.isF rfl c27) rfl rfl (shO_off (b' := false) 26 rfl (Env.isF rfl c27) rfl rfl (shO_off (b' := false) 26 rfl (Env.isF rfl c27) rfl rfl ?_)))
     refine ov (v_pick_f (evD_false rfl c27) rfl) rfl ?_
     refine shO_nil ?_
     obtain rfl := inj1 r29
     exact mi kr ⟨rfl, rfl, (sc rfl (sc rfl (sc rfl (sc rfl (sc rfl (sc rfl (sc rfl (sc rfl (sn _)))))))))⟩
   rintro e1 _ _ ⟨rfl, rfl, he30⟩
   refine shW_env _ he30 ?_; clear he30
   refine shW_cond rfl (fun c31 => ?_) (fun c31 => ?_)
   · have r32 := bt r26 c31; clear r26
     refine shW_skip ?_
     obtain ⟨best3, n3, h36, r37⟩ := b2_ok r32; clear r32
     refine shW_join (fun e1 F1 L1 => ∃ (a33 : Option Addr) (c34 : Nat), FExt F23 F1 ∧ L1 = [(b1, .cells #[.int .i64 wide, .slice plots_a plots.length plots_c] 32 (0, 0))] ∧ e1.sub [(3, .slice houses_a houses.length houses_c), (4, .int .i64 most), (5, .pointer (some ⟨b1, 0, none⟩)), (12, .slice a8 l.length c9), (13, .slice a33 best3.length c34), (14, .int .i64 n3), (15, .int .i64 many)] ∧ RowR 1 (iE .i64) F1 a33 c34 best3) ?_ ?_
     · clear r37
       refine shW_block ?_
       refine wsr ?_
       refine ov (v_loadA (cs := #[.int .i64 wide, .slice plots_a plots.length plots_c]) Try.isAgg32 Try.sizeOf32 rfl (Has.own 0 rfl) (Nat.le_of_ble_eq_true rfl) rfl) rfl ?_
       obtain ⟨l2, h38, r39⟩ := b1_ok h36; clear h36
       refine o_call0 rfl Try.call93 rfl rfl rfl (oyezref01_streets_w h_plots h38) ?_; rintro _ F40 _ hF41 hn42 ⟨a44, n48, c45, Lb46, rfl, rfl, hz47⟩
       replace h_plots := h_plots.mono (iE_ok _) hF41
       replace h_houses := h_houses.mono (iE_ok _) hF41
       replace h10 := h10.mono (slE_ok (iE_ok _)) hF41
       replace h18 := h18.mono (iE_ok _) hF41
       replace hz47 := hz47.new fun p hp => hn42 p (by simp [hp])
       refine shO_L (lp (ln rfl)) ?_
       refine kO (kf (fS fO) kr) ?_
       refine om rfl rfl ?_
       obtain rfl := (SlR.caps hz47).1
       refine shO_freezeR (Nat.le_refl _) (iE_ok _) (fC fP) hz47 ?_; intro F50 hF51 h52
       replace h_plots := h_plots.mono (iE_ok _) hF51
       replace h_houses := h_houses.mono (iE_ok _) hF51
       replace h10 := h10.mono (slE_ok (iE_ok _)) hF51
       replace h18 := h18.mono (iE_ok _) hF51
       obtain ⟨l3, h53, r54⟩ := b1_ok r39; clear r39
       refine o_call0 rfl Try.call92 rfl rfl rfl ((oyezref01_Lists_w FU) h52 h53) ?_; rintro _ F55 _ hF56 hn57 ⟨a59, n63, c60, Lb61, rfl, rfl, hz62⟩
       replace h_plots := h_plots.mono (iE_ok _) hF56
       replace h_houses := h_houses.mono (iE_ok _) hF56
       replace h10 := h10.mono (slE_ok (iE_ok _)) hF56
       replace h18 := h18.mono (iE_ok _) hF56
       replace h52 := h52.mono (iE_ok _) hF56
       replace hz62 := hz62.new fun p hp => hn57 p (by simp [hp])
       refine shO_L (lp (ln rfl)) ?_
       refine kO (kf (fS fO) kr) ?_
       refine oa rfl rfl (nsr (oa rfl rfl (shO_nil ?_)))
       refine shW_block ?_
       refine shW_lp (fun fu2 e1 F1 L1 => ∃ (tl : List (List Int)) (i : Int), tl.length = fu2 ∧ Lst l3 i tl ∧ ∃ (best4 : List Int) (n4 : Int) (a65 : Option Addr) (c66 : Nat), oyezref01_Best_l2 houses l tl best4 n4 = some (best3, n3) ∧ F55 = F1 ∧ L1 = ((b1, .cells #[.int .i64 wide, .slice plots_a plots.length plots_c] 32 (0, 0)) :: (Lb61 ++ [])) ∧ e1.sub [(3, .slice houses_a houses.length houses_c), (4, .int .i64 most), (5, .pointer (some ⟨b1, 0, none⟩)), (12, .slice a8 l.length c9), (13, .slice a65 best4.length c66), (14, .int .i64 n4), (15, .int .i64 many), (16, .slice a59 n63 c60), (17, .int .i64 i)] ∧ RowR 1 (iE .i64) F1 a65 c66 best4) _ (m0 kr ⟨_, _, rfl, Lst.start _, best2, n2, a16, c17, r54, rfl, rfl, (sc rfl (sc rfl (sc rfl (sc rfl (sc rfl (sc rfl (sc rfl (sc rfl (sc rfl (sn _)))))))))), h18⟩) ?_
       rintro fu2 e1 _ _ ⟨tl, i, hn69, hk68, best4, n4, a65, c66, r70, rfl, rfl, he71, h67⟩
       refine shW_env _ he71 ?_; clear he71
       refine shW_seq (wsr (om rfl rfl (om rfl rfl ?_)))
       refine ov ((v_lenS Try.underlying86 rfl).i (SlR.lenI hz62)) rfl ?_
       refine ov (v_lssK rfl rfl) rfl ?_
       refine shO_nil ?_
       refine shW_condP rfl (fun c73 => ?_) (fun c73 => ?_)
       · obtain ⟨x, tl2, rfl, hx75, g76, hk74⟩ := Lst.succ hk68 c73
         rw [oyezref01_Best_l2] at r70
         refine shW_skip (shW_seq ?_)
         refine shW_block ?_
         refine wsr (om rfl rfl (om rfl rfl (om rfl rfl (om rfl rfl ?_))))
         obtain ⟨b77, o78, c79, vs80, ha81, hs82, hle83, ⟨a86, c87, rfl, h88⟩, hl84, hc85⟩ := SlR.at (slE_ok (iE_ok _)) hz62 (L := (b1, .cells #[.int .i64 wide, .slice plots_a plots.length plots_c] 32 (0, 0)) :: (Lb61 ++ [])) (fC fP) g76.1 hx75
         refine ov (v_indexO Try.underlying86 Try.sizeOf26 rfl ha81 rfl (SlR.idx hz62 g76)) rfl ?_
         refine ov (v_load Try.isAgg26 rfl hs82 (hc85 0 (by decide))) rfl ?_
         obtain ⟨n5, h89, r90⟩ := b1_ok r70; clear r70
         refine o_callV rfl Try.call94 rfl rfl rfl (oyezref01_served_w h10 h_houses h88 h89) ?_
         refine oa rfl rfl (nsr (om rfl rfl (om rfl rfl ?_)))
         refine ov (v_gtrK rfl rfl) rfl ?_
         refine shO_nil ?_
         refine shW_condP rfl (fun c91 => ?_) (fun c91 => ?_)
         · have r92 := ite_t r90 c91; clear r90
           refine shW_region (om rfl rfl (om rfl rfl ?_))
           obtain ⟨b93, o94, c95, vs96, ha97, hs98, hle99, ⟨a102, c103, rfl, h104⟩, hl100, hc101⟩ := SlR.at (slE_ok (iE_ok _)) hz62 (L := (b1, .cells #[.int .i64 wide, .slice plots_a plots.length plots_c] 32 (0, 0)) :: (Lb61 ++ [])) (fC fP) g76.1 hx75
           refine ov (v_indexO Try.underlying86 Try.sizeOf26 rfl ha97 rfl (SlR.idx hz62 g76)) rfl ?_
           refine ov (v_load Try.isAgg26 rfl hs98 (hc101 0 (by decide))) rfl ?_
           refine om rfl rfl (oa rfl rfl (oa rfl rfl (shO_nil (inBlock_n (id := 3) (shW_region (om rfl rfl ?_))))))
           refine ov (v_add rfl rfl (Lst.r64 hk68 c73 (SlR.llt hz62))) rfl ?_
           refine oa rfl rfl (shO_nil ?_)
           subst hn69; exact le kr ⟨_, _, rfl, hk74, x, n5, a102, c103, r92, rfl, rfl, (sc rfl (sc rfl (sc rfl (sc rfl (sc rfl (sc rfl (sc rfl (sc rfl (sc rfl (sn _)))))))))), h104⟩
         have r105 := ite_f r90 c91; clear r90
         refine shW_skip (inBlock_n (id := 3) (shW_region (om rfl rfl ?_)))
         refine ov (v_add rfl rfl (Lst.r64 hk68 c73 (SlR.llt hz62))) rfl ?_
         refine oa rfl rfl (shO_nil ?_)
         subst hn69; exact le kr ⟨_, _, rfl, hk74, best4, n4, a65, c66, r105, rfl, rfl, (sc rfl (sc rfl (sc rfl (sc rfl (sc rfl (sc rfl (sc rfl (sc rfl (sc rfl (sn _)))))))))), h67⟩
       obtain rfl := Lst.zero hk68 c73
       rw [oyezref01_Best_l2] at r70
       refine shW_exit (andThen_exit (andThen_exit ?_))
       refine inBlock_exit ?_
       refine inBlock_n (id := 1) ?_
       obtain ⟨rfl, rfl⟩ := inj2 r70
       exact mi (kc kn) ⟨a65, c66, ((hF41.trans hF51).trans hF56), rfl, (sc rfl (sc rfl (sc rfl (sc rfl (sc rfl (sc rfl (sc rfl (sn _)))))))), h67⟩
     rintro e1 F107 _ ⟨a33, c34, hF108, rfl, he106, h35⟩
     refine shW_env _ he106 ?_; clear he106
     replace h_plots := h_plots.mono (iE_ok _) hF108
     replace h_houses := h_houses.mono (iE_ok _) hF108
     replace h10 := h10.mono (slE_ok (iE_ok _)) hF108
     replace h18 := h18.mono (iE_ok _) hF108
     refine shW_region (om rfl rfl ?_)
     obtain ⟨g109, r110⟩ := gd_ok r37; clear r37
     refine ov (v_add rfl rfl g109) rfl ?_
     refine oa rfl rfl (shO_nil ?_)
     exact le kr ⟨best3, n3, many + 1, a33, c34, r110, (hF24.trans hF108), rfl, (sc rfl (sc rfl (sc rfl (sc rfl (sc rfl (sc rfl (sc rfl (sn _)))))))), h35⟩
   have r111 := bf r26 c31; clear r26
   refine shW_exit (andThen_exit (andThen_exit ?_))
   refine inBlock_exit ?_
   obtain ⟨rfl, rfl⟩ := inj2 r111
   exact mi kn ⟨a16, c17, hF24, rfl, (sc rfl (sc rfl (sn _))), h18⟩
 rintro e1 F113 _ ⟨a11, c12, hF114, rfl, he112, h13⟩
 refine shW_env _ he112 ?_; clear he112
 replace h_plots := h_plots.mono (iE_ok _) hF114
 replace h_houses := h_houses.mono (iE_ok _) hF114
 replace h10 := h10.mono (slE_ok (iE_ok _)) hF114
 refine wsr (om rfl rfl (om rfl rfl (oa rfl rfl (oa rfl rfl (shO_nil (shW_ret ?_))))))
 refine q_res2 Try.results31 (res_tmp rfl) (res_tmp rfl) (sr) ?_
 obtain ⟨rfl, rfl⟩ := inj2 r15
 exact ⟨_, _, rfl, rfl, h13⟩


set_option maxHeartbeats 1000000 in
theorem oyezref01_Louder_w {wide : Int} {plots_a : Option Addr} {plots_c : Nat} {plots : List Int} {wind : Int} {houses_a : Option Addr} {houses_c : Nat} {houses : List Int} {most : Int} {F : FS} (h_plots : RowR 1 (iE .i64) F plots_a plots_c plots) (h_houses : RowR 1 (iE .i64) F houses_a houses_c houses) {r : Int} (hr : oyezref01_Louder wide plots wind houses most = some r) :
    SpecV Try.prog 32 #[.agg #[.int .i64 wide, .slice plots_a plots.length plots_c], .int .i64 wind, .slice houses_a houses.length houses_c, .int .i64 most] F (.int .i64 r) := by
 refine spec_of_shW (args := [.agg #[.int .i64 wide, .slice plots_a plots.length plots_c], .int .i64 wind, .slice houses_a houses.length houses_c, .int .i64 most]) Try.func32 rfl Try.ntmps32 (Nat.le_of_ble_eq_true rfl) ?_
 intro K _ _; rw [oyezref01_Louder] at hr
 refine wsr ?_
 refine o_box rfl rfl ?_; intro b1 hb1
 refine oa rfl rfl (shO_nil ?_)
 refine shW_join (fun e1 F1 L1 => oyezref01_Louder_j1 = some r ∧ FExt F F1 ∧ L1 = [] ∧ e1.sub []) ?_ ?_
 · refine wsr (oa rfl rfl (shO_nil ?_))
   refine shW_block ?_
   refine shW_lp (fun fu2 e1 F1 L1 => ∃ (voice : Int), oyezref01_Louder_l2 wide plots wind houses most fu2 voice = some r ∧ FExt F F1 ∧ L1 = [(b1, .cells #[.int .i64 wide, .slice plots_a plots.length plots_c] 32 (0, 0))] ∧ e1.sub [(1, .int .i64 wind), (2, .slice houses_a houses.length houses_c), (3, .int .i64 most), (4, .pointer (some ⟨b1, 0, none⟩)), (9, .int .i64 voice)]) FU (m0 kr ⟨1, hr, FExt.refl _, rfl, (sc rfl (sc rfl (sc rfl (sc rfl (sc rfl (sn _))))))⟩) ?_
   rintro fu2 e1 F6 _ ⟨voice, r4, hF7, rfl, he5⟩
   refine shW_env _ he5 ?_; clear he5
   replace h_plots := h_plots.mono (iE_ok _) hF7
   replace h_houses := h_houses.mono (iE_ok _) hF7
   rcases fu2 with _ | fu2
   · rw [oyezref01_Louder_l2] at r4; cases r4
   rw [oyezref01_Louder_l2] at r4
   refine shW_seq (wsr (om rfl rfl ?_))
   refine ov (v_leqK rfl rfl) rfl ?_
   refine shO_nil ?_
   refine shW_condP rfl (fun c8 => ?_) (fun c8 => ?_)
   · have r9 := ite_t r4 c8; clear r4
     refine shW_skip (shW_seq ?_)
     refine shW_block ?_
     refine wsr ?_
     refine ov (v_loadA (cs := #[.int .i64 wide, .slice plots_a plots.length plots_c]) Try.isAgg32 Try.sizeOf32 rfl (Has.own 0 rfl) (Nat.le_of_ble_eq_true rfl) rfl) rfl ?_
     refine om rfl rfl (om rfl rfl (om rfl rfl (om rfl rfl ?_)))
     obtain ⟨l, n, h10, r11⟩ := b2_ok r9; clear r9
     refine o_call0 rfl Try.call31 rfl rfl rfl (oyezref01_Best_w h_plots h_houses h10) ?_; rintro _ F12 _ hF13 hn14 ⟨a16, c17, rfl, rfl, h18⟩
     replace h_plots := h_plots.mono (iE_ok _) hF13
     replace h_houses := h_houses.mono (iE_ok _) hF13
     refine shO_L (ln rfl) ?_
     refine om rfl rfl (ox rfl rfl rfl (ox rfl rfl rfl (oa rfl rfl (oa rfl rfl (nsr (om rfl rfl (om rfl rfl ?_)))))))
     refine ov (v_lenS Try.underlying26 rfl) rfl ?_
     refine ov (v_eql rfl rfl) rfl ?_
     refine shO_nil ?_
     refine shW_condP rfl (fun c19 => ?_) (fun c19 => ?_)
     · have r20 := ite_t r11 c19; clear r11
       refine wsr (om rfl rfl (oa rfl rfl (shO_nil ?_)))
       refine kW kn ?_
       refine shW_ret (inBlock_ret (andThen_ret (andThen_ret (inBlock_ret (andThen_ret ?_)))))
       refine q_res1 Try.results32 (res_tmp rfl) (sr) ?_
       obtain rfl := inj1 r20
       exact rfl
     have r21 := ite_f r11 c19; clear r11
     refine shW_skip (inBlock_n (id := 1) (shW_region (om rfl rfl ?_)))
     obtain ⟨g22, r23⟩ := gd_ok r21; clear r21
     refine ov (v_add rfl rfl g22) rfl ?_
     refine oa rfl rfl (shO_nil ?_)
     exact le kr ⟨voice + 1, r23, (hF7.trans hF13), rfl, (sc rfl (sc rfl (sc rfl (sc rfl (sc rfl (sn _))))))⟩
   have r24 := ite_f r4 c8; clear r4
   refine shW_exit (andThen_exit (andThen_exit ?_))
   refine inBlock_exit ?_
   exact mi kn ⟨r24, hF7, rfl, (sn _)⟩
 rintro e1 F27 _ ⟨r25, hF28, rfl, he26⟩
 refine shW_env _ he26 ?_; clear he26
 replace h_plots := h_plots.mono (iE_ok _) hF28
 replace h_houses := h_houses.mono (iE_ok _) hF28
 rw [oyezref01_Louder_j1] at r25
 refine wsr (oa rfl rfl (shO_nil (shW_ret ?_)))
 refine q_res1 Try.results32 (res_tmp rfl) (sr) ?_
 obtain rfl := inj1 r25
 exact rfl


end Go.Proofs.Ytdnmaodkdhdacaa
