/- The walks that this claim needs, printed by a program of mine; part 2. -/
import Derived.Test.YtdnmaodkdhdacaaNd1
namespace Go.Proofs.Ytdnmaodkdhdacaa
open Go.SH Go.PL
set_option maxHeartbeats 1000000 in
theorem slices_Index_hear_ears_hear_ears_w {s__a : Option Addr} {s__c : Nat} {s_ : List (List Bool)} {v : List Bool} {F : FS} (h_s_ : RowR 30 (arE 30 cB) F s__a s__c s_) (h_v : v.length = 30) {r : Int} (hr : slices_Index_hear_ears_hear_ears s_ v = some r) :
    SpecV Try.prog 144 #[.slice s__a s_.length s__c, .agg (arr cB v)] F (.int .i64 r) := by
 refine spec_of_shW (args := [.slice s__a s_.length s__c, .agg (arr cB v)]) Try.func144 rfl Try.ntmps144 (Nat.le_of_ble_eq_true rfl) ?_
 intro K _ _; rw [slices_Index_hear_ears_hear_ears] at hr
 refine wsr ?_
 refine o_box rfl rfl ?_; intro b1 hb1
 refine oa rfl rfl (shO_nil ?_)
 refine shW_join (fun e1 F1 L1 => slices_Index_hear_ears_hear_ears_j1 = some r ∧ F = F1 ∧ L1 = [] ∧ e1.sub []) ?_ ?_
 · refine wsr (om rfl rfl ?_)
   refine ov (v_lenS Try.underlying119 rfl) rfl ?_
   refine om rfl rfl (shO_nil ?_)
   refine shW_block ?_
   refine shW_lp (fun fu2 e1 F1 L1 => ∃ (tl : List (List Bool)) (k : Int), tl.length = fu2 ∧ Lst s_ k tl ∧ slices_Index_hear_ears_hear_ears_l2 v tl k = some r ∧ F = F1 ∧ L1 = [(b1, .cells (arr cB v) 142 (0, 0))] ∧ e1.sub [(0, .slice s__a s_.length s__c), (3, .pointer (some ⟨b1, 0, none⟩)), (7, .int .i64 (s_.length : Int)), (8, .int .i64 k)]) _ (m0 kr ⟨_, _, rfl, Lst.start _, hr, rfl, rfl, (sc rfl (sc rfl (sc rfl (sc rfl (sn _)))))⟩) ?_
   rintro fu2 e1 _ _ ⟨tl, k, hn3, hk2, r4, rfl, rfl, he5⟩
   refine shW_env _ he5 ?_; clear he5
   refine wsr ?_
   refine ov (v_lssK rfl rfl) rfl ?_
   refine shO_nil (shW_seq ?_)
   refine shW_condP rfl (fun c7 => ?_) (fun c7 => ?_)
   · obtain ⟨x, tl2, rfl, hx9, g10, hk8⟩ := Lst.succ hk2 c7
     rw [slices_Index_hear_ears_hear_ears_l2] at r4
     refine shW_skip (shW_seq ?_)
     refine shW_block ?_
     refine wsr (om rfl rfl (oa rfl rfl ?_))
     refine nsd (by kernel_rfl) (by kernel_rfl) (by kernel_rfl) ?_
     refine qv (v_loadW Try.isAgg142 Try.sizeOf142 rfl (Has.own 0 rfl) (arr_sz cB_ok h_v)) rfl ?_
     refine qm rfl rfl (qm rfl rfl ?_)
     obtain ⟨b11, o12, c13, vs14, ha15, hs16, hle17, ⟨rfl, h20⟩, hl18, hc19⟩ := RowR.at (arE_ok (n := 30) (sz := 1) cB_ok) h_s_ ([(b1, .cells (arr cB v) 142 (0, 0))]) g10.1 hx9
     refine qv (v_indexO Try.underlying119 Try.sizeOf142 rfl ha15 rfl g10) rfl ?_
     refine qv (v_loadA (cs := arr cB x) Try.isAgg142 Try.sizeOf142 rfl hs16 hle17 (extract_cells hle17 hl18 hc19)) rfl ?_
     refine qv (v_eqA (eqga_142 _ _ _ _) (eqa_142 h_v h20) rfl rfl) rfl ?_
     refine shQ_nil ?_
     refine shW_condP rfl (fun c21 => ?_) (fun c21 => ?_)
     · have r22 := ite_t r4 c21; clear r4
       refine wsr (om rfl rfl (oa rfl rfl (shO_nil ?_)))
       refine kW kn ?_
       refine shW_ret (inBlock_ret (andThen_ret (andThen_ret (inBlock_ret (andThen_ret ?_)))))
       refine q_res1 Try.results144 (res_tmp rfl) (sr) ?_
       obtain rfl := inj1 r22
       exact rfl
     have r23 := ite_f r4 c21; clear r4
     refine shW_skip (inBlock_n (id := 1) (shW_region ?_))
     refine ov (v_add rfl rfl (Lst.r64 hk2 c7 (RowR.lt h_s_))) rfl ?_
     refine om rfl rfl (shO_nil ?_)
     subst hn3; exact le kr ⟨_, _, rfl, hk8, r23, rfl, rfl, (sc rfl (sc rfl (sc rfl (sc rfl (sn _)))))⟩
   obtain rfl := Lst.zero hk2 c7
   rw [slices_Index_hear_ears_hear_ears_l2] at r4
   refine shW_exit (andThen_exit (andThen_exit ?_))
   refine inBlock_exit ?_
   exact mi kn ⟨r4, rfl, rfl, (sn _)⟩
 rintro e1 _ _ ⟨r24, rfl, rfl, he25⟩
 refine shW_env _ he25 ?_; clear he25
 rw [slices_Index_hear_ears_hear_ears_j1] at r24
 refine wsr (oa rfl rfl (shO_nil (shW_ret ?_)))
 refine q_res1 Try.results144 (res_tmp rfl) (sr) ?_
 obtain rfl := inj1 r24
 exact rfl


set_option maxHeartbeats 1000000 in
theorem slices_Contains_hear_ears_hear_ears_w {s__a : Option Addr} {s__c : Nat} {s_ : List (List Bool)} {v : List Bool} {F : FS} (h_s_ : RowR 30 (arE 30 cB) F s__a s__c s_) (h_v : v.length = 30) {r : Bool} (hr : slices_Contains_hear_ears_hear_ears s_ v = some r) :
    SpecV Try.prog 135 #[.slice s__a s_.length s__c, .agg (arr cB v)] F (.bool r) := by
 refine spec_of_shW (args := [.slice s__a s_.length s__c, .agg (arr cB v)]) Try.func135 rfl Try.ntmps135 (Nat.le_of_ble_eq_true rfl) ?_
 intro K _ _; rw [slices_Contains_hear_ears_hear_ears] at hr
 refine wsr ?_
 refine o_box rfl rfl ?_; intro b1 hb1
 refine oa rfl rfl (nsr (om rfl rfl ?_))
 refine ov (v_loadW Try.isAgg142 Try.sizeOf142 rfl (Has.own 0 rfl) (arr_sz cB_ok h_v)) rfl ?_
 obtain ⟨n, h2, r3⟩ := b1_ok hr; clear hr
 refine o_callV rfl Try.call144 rfl rfl rfl (slices_Index_hear_ears_hear_ears_w h_s_ h_v h2) ?_
 refine ov (v_geqK rfl rfl) rfl ?_
 refine oa rfl rfl (shO_nil ?_)
 refine kW kn ?_
 refine shW_ret ?_
 refine q_res1 Try.results135 (res_tmp rfl) (sr) ?_
 obtain rfl := inj1 r3
 exact rfl


set_option maxHeartbeats 1000000 in
theorem hear_quarter_deaf_w {ears_a : Option Addr} {ears_c : Nat} {ears : List (List Bool)} {count_f : FuncId} {count_1 : Array Value} {count_2 : Array Value} {count : Int → Option Int} {F : FS} (h_ears : RowR 30 (arE 30 cB) F ears_a ears_c ears) (_h_count : FnR Try.prog F count_f count_1 count_2 (iE .i64) (Value.int .i64) count) {r : Bool} (hr : hear_quarter_deaf ears count = some r) :
    SpecV Try.prog 107 #[.agg #[.slice ears_a ears.length ears_c, .func (.func count_f) count_1 count_2]] F (.bool r) := by
 refine spec_of_shW (args := [.agg #[.slice ears_a ears.length ears_c, .func (.func count_f) count_1 count_2]]) Try.func107 rfl Try.ntmps107 (Nat.le_of_ble_eq_true rfl) ?_
 intro K _ _; rw [hear_quarter_deaf] at hr
 refine wsr ?_
 refine o_box rfl rfl ?_; intro b1 hb1
 refine oa rfl rfl (nsr ?_)
 refine ov (v_fieldAddr fa_121_0 rfl) rfl ?_
 refine ov (v_load Try.isAgg119 rfl (Has.own 0 rfl) rfl) rfl ?_
 refine ov (v_build (v := .agg (arr cB (List.replicate 30 false))) rfl (by intro w; kernel_rfl)) rfl ?_
 obtain ⟨ok, h2, r3⟩ := b1_ok hr; clear hr
 refine o_callV rfl Try.call135 rfl rfl rfl (slices_Contains_hear_ears_hear_ears_w h_ears List.length_replicate h2) ?_
 refine oa rfl rfl (shO_nil ?_)
 refine kW kn ?_
 refine shW_ret ?_
 refine q_res1 Try.results107 (res_tmp rfl) (sr) ?_
 obtain rfl := inj1 r3
 exact rfl


set_option maxHeartbeats 1000000 in
theorem slices_Compact_hear_ears_hear_ears_w {s__a : Option Addr} {s__n : Nat} {s__c : Nat} {s__L : LH} {s_ : List (List Bool)} {s__nb : Nat} {F : FS} (h_s_ : SlR s__nb 142 30 (arE 30 cB) F s__a s__n s__c s_ s__L) {r : List (List Bool)} (hr : slices_Compact_hear_ears_hear_ears s_ = some r) :
    SH.Spec Try.prog 108 #[.slice s__a s__n s__c] F (s__L ++ []) fun F' L' v => ∃ (ra : Option Addr) (rn : Nat) (rc : Nat) (rL : LH), v = .slice ra rn rc ∧ L' = rL ++ [] ∧ SlR s__nb 142 30 (arE 30 cB) F' ra rn rc r rL := by
 refine spec_of_shW (args := [.slice s__a s__n s__c]) Try.func108 rfl Try.ntmps108 (Nat.le_of_ble_eq_true rfl) ?_
 intro K _ _; rw [slices_Compact_hear_ears_hear_ears] at hr
 refine shW_L (L' := s__L ++ []) (by simp) ?_
 refine wsr (oa rfl rfl (shO_nil (shW_seq (wsr (om rfl rfl ?_)))))
 refine ov ((v_lenS Try.underlying119 rfl).i (SlR.lenI h_s_)) rfl ?_
 refine ov (v_lssK rfl rfl) rfl ?_
 refine shO_nil ?_
 refine shW_condP rfl (fun c1 => ?_) (fun c1 => ?_)
 · have r2 := ite_t hr c1; clear hr
   refine wsr (om rfl rfl (oa rfl rfl (shO_nil (shW_ret (andThen_ret ?_)))))
   refine q_res1 Try.results108 (res_tmp rfl) (sr) ?_
   obtain rfl := inj1 r2
   exact ⟨_, _, _, _, rfl, rfl, h_s_⟩
 have r3 := ite_f hr c1; clear hr
 refine shW_skip ?_
 refine shW_join (fun e1 F1 L1 => slices_Compact_hear_ears_hear_ears_j1 s_ = some r ∧ F = F1 ∧ L1 = (s__L ++ []) ∧ e1.sub [(0, .slice s__a s__n s__c)]) ?_ ?_
 · refine wsr (oa rfl rfl (shO_nil ?_))
   refine shW_block ?_
   obtain ⟨g4, r5⟩ := gd_ok r3; clear r3
   refine shW_lp (fun fu2 e1 F1 L1 => ∃ (k : Int), Ctr 1 (s_.length : Int) k fu2 ∧ slices_Compact_hear_ears_hear_ears_l2 s_ fu2 k = some r ∧ F = F1 ∧ L1 = (s__L ++ []) ∧ e1.sub [(0, .slice s__a s__n s__c), (3, .int .i64 k)]) _ (m0 kr ⟨_, Ctr.start _ _, r5, rfl, rfl, (sc rfl (sc rfl (sn _)))⟩) ?_
   rintro fu2 e1 _ _ ⟨k, hk6, r8, rfl, rfl, he9⟩
   refine shW_env _ he9 ?_; clear he9
   refine shW_seq (wsr (om rfl rfl (om rfl rfl ?_)))
   refine ov ((v_lenS Try.underlying119 rfl).i (SlR.lenI h_s_)) rfl ?_
   refine ov (v_lssK rfl rfl) rfl ?_
   refine shO_nil ?_
   refine shW_condP rfl (fun c11 => ?_) (fun c11 => ?_)
   · obtain ⟨fu2, rfl, hk12⟩ := Ctr.succ hk6 c11
     rw [slices_Compact_hear_ears_hear_ears_l2] at r8
     refine shW_skip ?_
     refine shW_join (fun e1 F1 L1 => slices_Compact_hear_ears_hear_ears_j3 k (slices_Compact_hear_ears_hear_ears_l2 s_ fu2) = some r ∧ F = F1 ∧ L1 = (s__L ++ []) ∧ e1.sub [(0, .slice s__a s__n s__c), (3, .int .i64 k)]) ?_ ?_
     · refine shW_block ?_
       refine wsd (by kernel_rfl) (by kernel_rfl) (by kernel_rfl) ?_
       refine qm rfl rfl (qm rfl rfl ?_)
       obtain ⟨x, g13, hx14, r15⟩ := ix_ok r8; clear r8
       obtain ⟨b16, o17, c18, vs19, ha20, hs21, hle22, ⟨rfl, h25⟩, hl23, hc24⟩ := SlR.at (arE_ok (n := 30) (sz := 1) cB_ok) h_s_ (L := s__L ++ []) fP g13.1 hx14
       refine qv (v_indexO Try.underlying119 Try.sizeOf142 rfl ha20 rfl (SlR.idx h_s_ g13)) rfl ?_
       refine qv (v_loadA (cs := arr cB x) Try.isAgg142 Try.sizeOf142 rfl hs21 hle22 (extract_cells hle22 hl23 hc24)) rfl ?_
       refine qm rfl rfl (qm rfl rfl ?_)
       obtain ⟨g26, r27⟩ := gd_ok r15; clear r15
       refine qv (v_sub rfl rfl g26) rfl ?_
       obtain ⟨x2, g28, hx29, r30⟩ := ix_ok r27; clear r27
       obtain ⟨b31, o32, c33, vs34, ha35, hs36, hle37, ⟨rfl, h40⟩, hl38, hc39⟩ := SlR.at (arE_ok (n := 30) (sz := 1) cB_ok) h_s_ (L := s__L ++ []) fP g28.1 hx29
       refine qv (v_indexO Try.underlying119 Try.sizeOf142 rfl ha35 rfl (SlR.idx h_s_ g28)) rfl ?_
       refine qv (v_loadA (cs := arr cB x2) Try.isAgg142 Try.sizeOf142 rfl hs36 hle37 (extract_cells hle37 hl38 hc39)) rfl ?_
       refine qv (v_eqA (eqga_142 _ _ _ _) (eqa_142 h25 h40) rfl rfl) rfl ?_
       refine shQ_nil ?_
       refine shW_condP rfl (fun c41 => ?_) (fun c41 => ?_)
       · have r42 := ite_t r30 c41; clear r30
         refine wsr (om rfl rfl (om rfl rfl ?_))
         obtain ⟨g43, r44⟩ := gd_ok r42; clear r42
         have gv45 := SlR.gV h_s_ g43
         refine ov (OpV.eq (v' := .slice (vwA s__a s__c (Int.toNat k) 30) (s__n - Int.toNat k) (s__c - Int.toNat k)) (v_slice (l := k) (h := (s__n : Nat)) Try.underlying119 Try.sizeOf142 rfl (.inr ⟨_, rfl, rfl⟩) (.inl ⟨rfl, rfl⟩) (SlR.capV h_s_ gv45)) rfl) rfl ?_
         refine oa rfl rfl (shO_nil ?_)
         obtain ⟨s_2, k2, h48, r49⟩ := b2_ok r44; clear r44
         refine shW_join (fun e1 F1 L1 => ∃ (Lb46 : LH), F = F1 ∧ L1 = (Lb46 ++ []) ∧ e1.sub [(0, .slice s__a s__n s__c), (3, .int .i64 k2)] ∧ SlR s__nb 142 30 (arE 30 cB) F1 s__a s__n s__c s_2 Lb46) ?_ ?_
         · clear r49
           refine wsr (oa rfl rfl (shO_nil ?_))
           refine shW_block ?_
           refine shW_lp (fun fu4 e1 F1 L1 => ∃ (s_3 : List (List Bool)) (k3 : Int) (k2_2 : Int) (Lb50 : LH), slices_Compact_hear_ears_hear_ears_l4 k fu4 s_3 k3 k2_2 = some (s_2, k2) ∧ F = F1 ∧ L1 = (Lb50 ++ []) ∧ e1.sub [(0, .slice s__a s__n s__c), (3, .int .i64 k3), (4, .slice (vwA s__a s__c (Int.toNat k) 30) (s__n - Int.toNat k) (s__c - Int.toNat k)), (5, .int .i64 k2_2)] ∧ SlR s__nb 142 30 (arE 30 cB) F1 s__a s__n s__c s_3 Lb50) FU (m0 kr ⟨s_, k, 1, s__L, h48, rfl, rfl, (sc rfl (sc rfl (sc rfl (sc rfl (sn _))))), h_s_⟩) ?_
           rintro fu4 e1 _ _ ⟨s_3, k3, k2_2, Lb50, r54, rfl, rfl, he55, hz51⟩
           refine shW_env _ he55 ?_; clear he55
           rcases fu4 with _ | fu4
           · rw [slices_Compact_hear_ears_hear_ears_l4] at r54; cases r54
           rw [slices_Compact_hear_ears_hear_ears_l4] at r54
           refine shW_seq (wsr (om rfl rfl (om rfl rfl ?_)))
           refine ov ((v_lenS Try.underlying119 rfl).i (SlR.lenV hz51).symm) rfl ?_
           refine ov (v_lssK rfl rfl) rfl ?_
           refine shO_nil ?_
           refine shW_condP rfl (fun c56 => ?_) (fun c56 => ?_)
           · have r57 := ite_t r54 c56; clear r54
             refine shW_skip (shW_seq ?_)
             refine shW_block ?_
             refine wsd (by kernel_rfl) (by kernel_rfl) (by kernel_rfl) ?_
             refine qm rfl rfl (qm rfl rfl ?_)
             obtain ⟨x3, g58, hx59, r60⟩ := ix_ok r57; clear r57
             obtain ⟨b61, o62, c63, vs64, ha65, hs66, hle67, ⟨rfl, h70⟩, hl68, hc69⟩ := SlR.atV (arE_ok (n := 30) (sz := 1) cB_ok) hz51 (L := Lb50 ++ []) fP gv45 g58.1 hx59
             refine qv (v_indexO Try.underlying119 Try.sizeOf142 rfl ha65 rfl (SlR.idxV hz51 g58)) rfl ?_
             refine qv (v_loadA (cs := arr cB x3) Try.isAgg142 Try.sizeOf142 rfl hs66 hle67 (extract_cells hle67 hl68 hc69)) rfl ?_
             refine qm rfl rfl (qm rfl rfl ?_)
             obtain ⟨g71, r72⟩ := gd_ok r60; clear r60
             refine qv (v_sub rfl rfl g71) rfl ?_
             obtain ⟨x4, g73, hx74, r75⟩ := ix_ok r72; clear r72
             obtain ⟨b76, o77, c78, vs79, ha80, hs81, hle82, ⟨rfl, h85⟩, hl83, hc84⟩ := SlR.atV (arE_ok (n := 30) (sz := 1) cB_ok) hz51 (L := Lb50 ++ []) fP gv45 g73.1 hx74
             refine qv (v_indexO Try.underlying119 Try.sizeOf142 rfl ha80 rfl (SlR.idxV hz51 g73)) rfl ?_
             refine qv (v_loadA (cs := arr cB x4) Try.isAgg142 Try.sizeOf142 rfl hs81 hle82 (extract_cells hle82 hl83 hc84)) rfl ?_
             refine qv (v_neA (eqgna_142 _ _ _ _) (nea_142 h70 h85) rfl rfl) rfl ?_
             refine shQ_nil ?_
             refine shW_condP rfl (fun c86 => ?_) (fun c86 => ?_)
             · have r87 := ite_t r75 c86; clear r75
               refine wsr (om rfl rfl (om rfl rfl (om rfl rfl (om rfl rfl ?_))))
               obtain ⟨b88, o89, c90, vs91, ha92, hs93, hle94, ⟨rfl, h97⟩, hl95, hc96⟩ := SlR.atV (arE_ok (n := 30) (sz := 1) cB_ok) hz51 (L := Lb50 ++ []) fP gv45 g58.1 hx59
               refine ov (v_indexO Try.underlying119 Try.sizeOf142 rfl ha92 rfl (SlR.idxV hz51 g58)) rfl ?_
               refine ov (v_loadA (cs := arr cB x3) Try.isAgg142 Try.sizeOf142 rfl hs93 hle94 (extract_cells hle94 hl95 hc96)) rfl ?_
               obtain ⟨x5, g98, hx99, r100⟩ := ix_ok r87; clear r87
               obtain ⟨b101, o102, c103, vs104, ha105, hs106, hle107, ⟨rfl, h110⟩, hl108, hc109⟩ := SlR.at (arE_ok (n := 30) (sz := 1) cB_ok) hz51 (L := Lb50 ++ []) fP g98.1 hx99
               refine ov (v_indexO Try.underlying119 Try.sizeOf142 rfl ha105 rfl (SlR.idx hz51 g98)) rfl ?_
               obtain ⟨s_4, h111, r112⟩ := bv_ok r100; clear r100
               refine o_storeZ (u := x3) Try.sizeOf142 (arE_ok (n := 30) (sz := 1) cB_ok) rfl ha105 rfl ⟨rfl, h97⟩ (fun _ => .h) hz51 h111 g98 ?_; intro Lb113 hz114
               refine shO_nil (shW_region (om rfl rfl ?_))
               obtain ⟨g115, r116⟩ := gd_ok r112; clear r112
               refine ov (v_add rfl rfl g115) rfl ?_
               refine oa rfl rfl (shO_nil (inBlock_n (id := 3) (shW_region (om rfl rfl ?_))))
               obtain ⟨g117, r118⟩ := gd_ok r116; clear r116
               refine ov (v_add rfl rfl g117) rfl ?_
               refine oa rfl rfl (shO_nil ?_)
               exact le kr ⟨s_4, k3 + 1, k2_2 + 1, Lb113, r118, rfl, rfl, (sc rfl (sc rfl (sc rfl (sc rfl (sn _))))), hz114⟩
             have r119 := ite_f r75 c86; clear r75
             refine shW_skip (inBlock_n (id := 3) (shW_region (om rfl rfl ?_)))
             obtain ⟨g120, r121⟩ := gd_ok r119; clear r119
             refine ov (v_add rfl rfl g120) rfl ?_
             refine oa rfl rfl (shO_nil ?_)
             exact le kr ⟨s_3, k3, k2_2 + 1, Lb50, r121, rfl, rfl, (sc rfl (sc rfl (sc rfl (sc rfl (sn _))))), hz51⟩
           have r122 := ite_f r54 c56; clear r54
           refine shW_exit (andThen_exit (andThen_exit ?_))
           refine inBlock_exit ?_
           obtain ⟨rfl, rfl⟩ := inj2 r122
           exact mi kr ⟨Lb50, rfl, rfl, (sc rfl (sc rfl (sn _))), hz51⟩
         rintro e1 _ _ ⟨Lb46, rfl, rfl, he123, hz47⟩
         refine shW_env _ he123 ?_; clear he123
         refine wsr (om rfl rfl (om rfl rfl ?_))
         obtain ⟨g124, r125⟩ := gd_ok r49; clear r49
         have gv126 := SlR.gV hz47 g124
         refine ov (OpV.eq (v' := .slice (vwA s__a s__c (Int.toNat k2) 30) (s__n - Int.toNat k2) (s__c - Int.toNat k2)) (v_slice (l := k2) (h := (s__n : Nat)) Try.underlying119 Try.sizeOf142 rfl (.inr ⟨_, rfl, rfl⟩) (.inl ⟨rfl, rfl⟩) (SlR.capV hz47 gv126)) rfl) rfl ?_
         obtain ⟨s_5, h127, r128⟩ := bv_ok r125; clear r125
         refine o_clearV (z0 := List.replicate 30 false) (zs := s_5) (l := k2) rfl slt_119 (by decide) (arE_ok (n := 30) (sz := 1) cB_ok) (fun _ => ⟨rfl, rfl⟩) rfl (fun _ => .h) hz47 gv126 h127 ?_; intro Lb129 hz130
         refine nsr (om rfl rfl (om rfl rfl ?_))
         obtain ⟨g131, r132⟩ := gd_ok r128; clear r128
         obtain ⟨s_6, h133, r134⟩ := bv_ok r132; clear r132
         refine o_sliceZ (l := 0) (h := k2) (zs := s_6) rfl slt_119 (arE_ok (n := 30) (sz := 1) cB_ok) rfl (.inl ⟨rfl, rfl⟩) (.inr ⟨_, rfl, rfl⟩) (fun _ => .h) hz130 g131 h133 ?_; intro a135 n138 c136 Lb139 h137
         refine oa rfl rfl (shO_nil (shW_ret (inBlock_ret (andThen_ret (andThen_ret (inBlock_ret (andThen_ret ?_)))))))
         refine q_res1 Try.results108 (res_tmp rfl) (sr) ?_
         obtain rfl := inj1 r134
         exact ⟨_, _, _, _, rfl, rfl, h137⟩
       have r141 := ite_f r30 c41; clear r30
       refine shW_skip (inBlock_n (id := 1) ?_)
       exact mi kr ⟨r141, rfl, rfl, (sc rfl (sc rfl (sn _)))⟩
     rintro e1 _ _ ⟨r142, rfl, rfl, he143⟩
     refine shW_env _ he143 ?_; clear he143
     rw [slices_Compact_hear_ears_hear_ears_j3] at r142
     refine shW_region (om rfl rfl ?_)
     refine ov (v_add rfl rfl (Ctr.r64 hk6 c11 g4)) rfl ?_
     refine oa rfl rfl (shO_nil ?_)
     exact le kr ⟨_, hk12, r142, rfl, rfl, (sc rfl (sc rfl (sn _)))⟩
   obtain rfl := Ctr.zero hk6 c11
   rw [slices_Compact_hear_ears_hear_ears_l2] at r8
   refine shW_exit (andThen_exit (andThen_exit ?_))
   refine inBlock_exit ?_
   exact mi kr ⟨r8, rfl, rfl, (sc rfl (sn _))⟩
 rintro e1 _ _ ⟨r144, rfl, rfl, he145⟩
 refine shW_env _ he145 ?_; clear he145
 rw [slices_Compact_hear_ears_hear_ears_j1] at r144
 refine wsr (om rfl rfl (oa rfl rfl (shO_nil (shW_ret ?_))))
 refine q_res1 Try.results108 (res_tmp rfl) (sr) ?_
 obtain rfl := inj1 r144
 exact ⟨_, _, _, _, rfl, rfl, h_s_⟩


set_option maxHeartbeats 1000000 in
theorem slices_Clone_hear_ears_hear_ears_w {s__a : Option Addr} {s__c : Nat} {s_ : List (List Bool)} {F : FS} (h_s_ : RowR 30 (arE 30 cB) F s__a s__c s_) {r : List (List Bool)} (hr : slices_Clone_hear_ears_hear_ears s_ = some r) :
    SH.Spec Try.prog 109 #[.slice s__a s_.length s__c] F [] fun F' L' v => ∃ (ra : Option Addr) (rn : Nat) (rc : Nat) (rL : LH), v = .slice ra rn rc ∧ L' = rL ++ [] ∧ SlR 0 142 30 (arE 30 cB) F' ra rn rc r rL := by
 refine spec_of_shW (args := [.slice s__a s_.length s__c]) Try.func109 rfl Try.ntmps109 (Nat.le_of_ble_eq_true rfl) ?_
 intro K _ _; rw [slices_Clone_hear_ears_hear_ears] at hr
 refine wsr (oa rfl rfl (shO_nil (shW_seq (wsr (om rfl rfl ?_)))))
 refine ov (v_eqlNil Try.underlying119 rfl) rfl ?_
 refine shO_nil ?_
 refine shW_cond rfl (fun c1 => ?_) (fun c1 => ?_)
 · have r2 := nilIf_t hr (RowR.isNone h_s_ c1); clear hr
   refine wsr (oa rfl rfl (shO_nil (shW_ret (andThen_ret ?_))))
   refine q_res1 Try.results109 (res_tmp rfl) (sr) ?_
   obtain rfl := inj1 r2
   exact ⟨_, _, _, [], rfl, rfl, SlR.nil _ _ _ _ _⟩
 have r3 := nilIf_f hr; clear hr
 refine shW_skip (wsr ?_)
 refine o_buildSlice (cs := #[]) rfl rfl (buildSlice_none slt_119) ?_; intro b4 hb4
 refine om rfl rfl ?_
 have hz6 : SlR K.w0.heap.size 142 30 (arE 30 cB) F (some ⟨b4, 0, none⟩) 0 0 ([] : List (List Bool)) [(b4, .cells #[] 142 (0, 0))] := SlR.of_block (vss := []) (arE_ok (n := 30) (sz := 1) cB_ok) hb4 .nil rfl rfl (by simp [maxLen])
 generalize hLLb5 : ([(b4, .cells #[] 142 (0, 0))] : LH) = Lb5 at hz6
 refine shO_perm (L' := Lb5 ++ []) (by rw [← hLLb5]; exact fO) ?_
 obtain ⟨l, h8, g9, r10⟩ := ap_ok r3; clear r3
 refine o_appZ (xs := ([] : List (List Bool))) (ys := s_) (zs := l) rfl slt_119 rfl rfl (Nat.le_refl _) (fun _ => .h) hz6 (RowR.src h_s_) h8 g9 (by decide) ?_; intro a11 n15 c12 Lb13 hz14
 refine oa rfl rfl (shO_nil (shW_ret ?_))
 refine q_res1 Try.results109 (res_tmp rfl) (sr) ?_
 obtain rfl := inj1 r10
 exact ⟨_, _, _, _, rfl, rfl, hz14.any⟩


set_option maxHeartbeats 1000000 in
theorem hear_Fewest_w {wide : Int} {plots_a : Option Addr} {plots_c : Nat} {plots : List Int} {wind : Int} {voice : Int} {houses_a : Option Addr} {houses_c : Nat} {houses : List Int} {F : FS} (h_plots : RowR 1 (iE .i64) F plots_a plots_c plots) (h_houses : RowR 1 (iE .i64) F houses_a houses_c houses) {r : List Int} {r2 : Int} (hr : hear_Fewest wide plots wind voice houses = some (r, r2)) :
    SH.Spec Try.prog 59 #[.agg #[.int .i64 wide, .slice plots_a plots.length plots_c], .agg #[.int .i64 wind, .int .i64 voice], .slice houses_a houses.length houses_c] F [] fun F' L' v => ∃ (ra : Option Addr) (rn : Nat) (rc : Nat) (rL : LH), v = .tuple #[.slice ra rn rc, .int .i64 r2] ∧ L' = rL ++ [] ∧ SlR 0 3 1 (iE .i64) F' ra rn rc r rL := by
 refine spec_of_shW (args := [.agg #[.int .i64 wide, .slice plots_a plots.length plots_c], .agg #[.int .i64 wind, .int .i64 voice], .slice houses_a houses.length houses_c]) Try.func59 rfl Try.ntmps59 (Nat.le_of_ble_eq_true rfl) ?_
 intro K _ _; rw [hear_Fewest] at hr
 refine wsr ?_
 refine o_box rfl rfl ?_; intro b1 hb1
 refine o_box rfl rfl ?_; intro b2 hb2
 refine oa rfl rfl (oa rfl rfl (nsr ?_))
 refine ov (v_loadA (cs := #[.int .i64 wide, .slice plots_a plots.length plots_c]) Try.isAgg24 Try.sizeOf24 rfl (Has.own 1 rfl) (Nat.le_of_ble_eq_true rfl) rfl) rfl ?_
 refine ov (v_loadA (cs := #[.int .i64 wind, .int .i64 voice]) Try.isAgg48 Try.sizeOf48 rfl (Has.own 0 rfl) (Nat.le_of_ble_eq_true rfl) rfl) rfl ?_
 refine om rfl rfl ?_
 obtain ⟨l, y, n, h3, r4⟩ := b3_ok hr; clear hr
 refine o_call0 rfl Try.call88 rfl rfl rfl (hear_asked_w h_plots h_houses h3) ?_; rintro _ F5 _ hF6 hn7 ⟨a9, n13, c10, Lb11, v15, rfl, rfl, hz12, hp16⟩
 replace h_plots := h_plots.mono (iE_ok _) hF6
 replace h_houses := h_houses.mono (iE_ok _) hF6
 replace hz12 := hz12.new fun p hp => hn7 p (by simp [hp])
 refine shO_L (lp (ln rfl)) ?_
 refine kO (kf (fS fO) (kf (fS fO) kr)) ?_
 refine om rfl rfl (ox rfl rfl rfl (ox rfl rfl rfl ?_))
 refine o_alloc rfl Try.zeroValue121 ?_; intro b17 hb17
 refine o_storeA (i := 0) Try.sizeOf121 rfl rfl rfl (List.forall_mem_cons.2 ⟨rfl, (List.forall_mem_cons.2 ⟨hp16.1, (fun _ h => absurd h List.not_mem_nil)⟩)⟩) rfl (Nat.le_of_ble_eq_true rfl) ?_
 refine shO_L (L' := (b17, .cells #[.slice a9 n13 c10, v15] 121 (0, 0)) :: ((b2, .cells #[.int .i64 wind, .int .i64 voice] 48 (0, 0)) :: ((b1, .cells #[.int .i64 wide, .slice plots_a plots.length plots_c] 24 (0, 0)) :: (Lb11 ++ [])))) rfl ?_
 refine oa rfl rfl (shO_nil (shW_seq ?_))
 refine shW_block ?_
 refine wsr (om rfl rfl ?_)
 refine ov (v_neq rfl rfl) rfl ?_
 refine oa rfl rfl (shO_nil ?_)
 refine shW_condP rfl (fun c18 => ?_) (fun c18 => ?_)
 · have r19 := ite_t r4 c18; clear r4
   refine wsr (om rfl rfl (oa rfl rfl (oa rfl rfl (shO_nil ?_))))
   refine kW kn ?_
   refine shW_ret (inBlock_ret (andThen_ret ?_))
   refine q_res2 Try.results59 (res_tmp rfl) (res_tmp rfl) (sr) ?_
   obtain ⟨rfl, rfl⟩ := inj2 r19
   exact ⟨_, _, _, [], rfl, rfl, SlR.nil _ _ _ _ _⟩
 have r20 := ite_f r4 c18; clear r4
 refine wsr ?_
 refine ov (v_loadA (cs := #[.slice a9 n13 c10, v15]) Try.isAgg121 Try.sizeOf121 rfl (Has.own 0 rfl) (Nat.le_of_ble_eq_true rfl) rfl) rfl ?_
 obtain ⟨g21, r22⟩ := gd_ok r20; clear r20
 obtain rfl := hp16.2 g21
 have hn23 : FnR Try.prog F5 127 #[] #[] (iE .i64) (Value.int .i64) (fun x : Int => hear_ones x) := ⟨Try.call127, fun F2 h2 vs x r ha hr => by obtain rfl := ha; exact hear_ones_w hr⟩
 obtain ⟨ok, h24, r25⟩ := b1_ok r22; clear r22
 refine o_callT (Lt := Lb11 ++ []) (Lr := [(b17, .cells (#[.slice a9 n13 c10, .func (.func 127) #[] #[]]) 121 (0, 0)), (b2, .cells #[.int .i64 wind, .int .i64 voice] 48 (0, 0)), (b1, .cells #[.int .i64 wide, .slice plots_a plots.length plots_c] 24 (0, 0))]) rfl Try.call107 rfl rfl rfl (pT ((fC (fC (fC fP))).trans (pA pR)) (lp (ln rfl))) (fun F2 h2 h3 => by rw [(SlR.caps hz12).1]; exact hear_quarter_deaf_w (hz12.row (arE_ok (n := 30) (sz := 1) cB_ok) h2 (fun p hp => h3 p (List.mem_append_left _ hp))) (hn23.mono h2) h24) ?_
 refine oa rfl rfl (shO_nil ?_)
 refine shW_cond rfl (fun c26 => ?_) (fun c26 => ?_)
 · have r27 := bt r25 c26; clear r25
   refine wsr (oa rfl rfl (oa rfl rfl (shO_nil ?_)))
   refine kW kn ?_
   refine shW_ret (inBlock_ret (andThen_ret ?_))
   refine q_res2 Try.results59 (res_tmp rfl) (res_tmp rfl) (sr) ?_
   obtain ⟨rfl, rfl⟩ := inj2 r27
   exact ⟨_, _, _, [], rfl, rfl, SlR.nil _ _ _ _ _⟩
 have r28 := bf r25 c26; clear r25
 refine shW_skip (inBlock_n (id := 0) (wsr ?_))
 refine ov (v_fieldAddr fa_121_0 rfl) rfl ?_
 refine ov (v_load Try.isAgg119 rfl (Has.own 0 rfl) rfl) rfl ?_
 obtain ⟨l2, h29, r30⟩ := b1_ok r28; clear r28
 refine o_callTO (Lb := []) (Lt := Lb11 ++ []) (Lr := [(b17, .cells (#[.slice a9 n13 c10, .func (.func 127) #[] #[]]) 121 (0, 0)), (b2, .cells #[.int .i64 wind, .int .i64 voice] 48 (0, 0)), (b1, .cells #[.int .i64 wide, .slice plots_a plots.length plots_c] 24 (0, 0))]) rfl Try.call109 rfl rfl rfl (pT ((fC (fC (fC fP))).trans (pA pR)) (ln (lp (ln rfl)))) (fun F2 h2 h3 => by rw [(SlR.caps hz12).1]; exact slices_Clone_hear_ears_hear_ears_w (hz12.row (arE_ok (n := 30) (sz := 1) cB_ok) h2 (fun p hp => h3 p (List.mem_append_left _ hp))) h29) (fun _ _ _ _ hq => by obtain ⟨a35, n39, c36, Lb37, rfl, rfl, hz38⟩ := hq; exact ⟨_, _, _, _, rfl, rfl, hz38.flat (fun _ _ h => h)⟩) ?_; rintro _ F31 _ hF32 hd34 hn33 ⟨a35, n39, c36, Lb37, rfl, rfl, hz38⟩
 replace h_plots := h_plots.mono (iE_ok _) hF32
 replace h_houses := h_houses.mono (iE_ok _) hF32
 replace hn23 := hn23.mono hF32
 replace hz12 := hz12.mono (arE_ok (n := 30) (sz := 1) cB_ok) hF32
 have hn41 := newp (Lb' := []) (by rfl) hd34 hn33
 replace hz38 := hz38.new fun p hp => hn41 p (by simp [hp])
 refine shO_L (lp (ln (lp (ln rfl)))) ?_
 refine kO (kf (fS (fS fO)) (kf (fS (fS fO)) (kf (fS (fS fO)) kr))) ?_
 obtain ⟨l3, h42, r43⟩ := b1_ok r30; clear r30
 refine o_callG (Lb := Lb37 ++ []) (Lr := (b17, .cells (#[.slice a9 n13 c10, .func (.func 127) #[] #[]]) 121 (0, 0)) :: ((b2, .cells #[.int .i64 wind, .int .i64 voice] 48 (0, 0)) :: ((b1, .cells #[.int .i64 wide, .slice plots_a plots.length plots_c] 24 (0, 0)) :: (Lb11 ++ [])))) rfl Try.call108 rfl rfl rfl (pT ((fC (fC (fC fP))).trans (pA pR)) (lp (ln rfl))) (slices_Compact_hear_ears_hear_ears_w hz38 h42) ?_; rintro _ F44 _ hF45 hd47 hn46 ⟨a48, n52, c49, Lb50, rfl, rfl, hz51⟩
 replace h_plots := h_plots.mono (iE_ok _) hF45
 replace h_houses := h_houses.mono (iE_ok _) hF45
 replace hn23 := hn23.mono hF45
 replace hz12 := hz12.mono (arE_ok (n := 30) (sz := 1) cB_ok) hF45
 replace hz38 := hz38.mono (arE_ok (n := 30) (sz := 1) cB_ok) hF45
 refine shO_L (lp (ln rfl)) ?_
 refine kO (kf (fS fO) (kf (fS fO) (kf (fS fO) kr))) ?_
 refine ov (v_fieldAddr fa_121_0 rfl) rfl ?_
 refine o_store (i := 0) Try.sizeOf119 rfl rfl rfl rfl (Nat.le_of_ble_eq_true rfl) ?_
 refine shO_L (L' := (b17, .cells (#[.slice a48 n52 c49, .func (.func 127) #[] #[]]) 121 (0, 0)) :: ((b2, .cells #[.int .i64 wind, .int .i64 voice] 48 (0, 0)) :: ((b1, .cells #[.int .i64 wide, .slice plots_a plots.length plots_c] 24 (0, 0)) :: (Lb50 ++ (Lb11 ++ []))))) rfl ?_
 refine nsr ?_
 refine ov (v_loadA (cs := #[.slice a48 n52 c49, .func (.func 127) #[] #[]]) Try.isAgg121 Try.sizeOf121 rfl (Has.own 0 rfl) (Nat.le_of_ble_eq_true rfl) rfl) rfl ?_
 refine ov (v_fieldAddr fa_121_0 rfl) rfl ?_
 refine ov (v_load Try.isAgg119 rfl (Has.own 0 rfl) rfl) rfl ?_
 refine ov ((v_lenS Try.underlying119 rfl).i (SlR.lenI hz51)) rfl ?_
 obtain ⟨l4, n2, h54, r55⟩ := b2_ok r43; clear r43
 refine o_callTO (Lb := []) (Lt := Lb50 ++ []) (Lr := (b17, .cells (#[.slice a48 n52 c49, .func (.func 127) #[] #[]]) 121 (0, 0)) :: ((b2, .cells #[.int .i64 wind, .int .i64 voice] 48 (0, 0)) :: ((b1, .cells #[.int .i64 wide, .slice plots_a plots.length plots_c] 24 (0, 0)) :: (Lb11 ++ [])))) rfl Try.call90 rfl rfl rfl (pT ((fC (fC (fC fP))).trans (pA pR)) (ln (lp (ln rfl)))) (fun F2 h2 h3 => by rw [(SlR.caps hz51).1]; exact hear_quarter_chosen_w (hz51.row (arE_ok (n := 30) (sz := 1) cB_ok) h2 (fun p hp => h3 p (List.mem_append_left _ hp))) (hn23.mono h2) h54) (fun _ _ _ _ hq => by obtain ⟨a60, n64, c61, Lb62, rfl, rfl, hz63⟩ := hq; exact ⟨_, _, _, _, rfl, rfl, hz63.flat (fun _ _ h => h)⟩) ?_; rintro _ F56 _ hF57 hd59 hn58 ⟨a60, n64, c61, Lb62, rfl, rfl, hz63⟩
 replace h_plots := h_plots.mono (iE_ok _) hF57
 replace h_houses := h_houses.mono (iE_ok _) hF57
 replace hn23 := hn23.mono hF57
 replace hz12 := hz12.mono (arE_ok (n := 30) (sz := 1) cB_ok) hF57
 replace hz51 := hz51.mono (arE_ok (n := 30) (sz := 1) cB_ok) hF57
 have hn66 := newp (Lb' := []) (by rfl) hd59 hn58
 replace hz63 := hz63.new fun p hp => hn66 p (by simp [hp])
 refine shO_L (lp (ln (lp (ln rfl)))) ?_
 refine kO (kf (fS (fS fO)) (kf (fS (fS fO)) (kf (fS (fS fO)) kr))) ?_
 refine om rfl rfl (ox rfl rfl rfl (ox rfl rfl rfl (oa rfl rfl (oa rfl rfl (nsr (om rfl rfl (oa rfl rfl (oa rfl rfl (shO_nil ?_)))))))))
 refine kW (kd (kd (kd (ka kn)))) ?_
 refine shW_ret ?_
 refine q_res2 Try.results59 (res_tmp rfl) (res_tmp rfl) (sr) ?_
 obtain ⟨rfl, rfl⟩ := inj2 r55
 exact ⟨_, _, _, _, rfl, rfl, hz63.any⟩


set_option maxHeartbeats 1000000 in
theorem oyezlaw01_Drawn_w {rows_a : Option Addr} {rows_c : Nat} {rows : List (List Int)} {F : FS} (h_rows : RowR 1 sE F rows_a rows_c rows) {r : Int} {r2 : List Int} (hr : oyezlaw01_Drawn rows = some (r, r2)) :
    SH.Spec Try.prog 75 #[.slice rows_a rows.length rows_c] F [] fun F' L' v => ∃ (r2a : Option Addr) (r2n : Nat) (r2c : Nat) (r2L : LH), v = .agg #[.int .i64 r, .slice r2a r2n r2c] ∧ L' = r2L ++ [] ∧ SlR 0 73 1 (iE .i64) F' r2a r2n r2c r2 r2L := by
 refine spec_of_shW (args := [.slice rows_a rows.length rows_c]) Try.func75 rfl Try.ntmps75 (Nat.le_of_ble_eq_true rfl) ?_
 intro K _ _; rw [oyezlaw01_Drawn] at hr
 refine wsr ?_
 refine o_alloc rfl Try.zeroValue24 ?_; intro b1 hb1
 refine nsr ?_
 refine o_alloc rfl Try.zeroValue24 ?_; intro b2 hb2
 refine shO_nil ?_
 obtain ⟨t_wide, t_plots, h9, r10⟩ := b2_ok hr; clear hr
 refine shW_join (fun e1 F1 L1 => ∃ (a3 : Option Addr) (n7 : Nat) (c4 : Nat) (Lb5 : LH), F = F1 ∧ L1 = ((b2, .cells #[.int .i64 t_wide, .slice a3 n7 c4] 24 (0, 0)) :: ((b1, .cells #[.int .i64 0, .slice none 0 0] 24 (0, 0)) :: (Lb5 ++ []))) ∧ e1.sub [(2, .pointer (some ⟨b1, 0, none⟩)), (3, .pointer (some ⟨b2, 0, none⟩))] ∧ SlR K.w0.heap.size 73 1 (iE .i64) F1 a3 n7 c4 t_plots Lb5) ?_ ?_
 · clear r10
   refine wsr (om rfl rfl ?_)
   refine ov (v_lenS Try.underlying155 rfl) rfl ?_
   refine om rfl rfl (shO_nil ?_)
   refine shW_block ?_
   refine shW_lp (fun fu1 e1 F1 L1 => ∃ (tl : List (List Int)) (k : Int), tl.length = fu1 ∧ Lst rows k tl ∧ ∃ (t_wide2 : Int) (t_plots2 : List Int) (a11 : Option Addr) (n15 : Nat) (c12 : Nat) (Lb13 : LH), oyezlaw01_Drawn_l1 tl t_wide2 t_plots2 = some (t_wide, t_plots) ∧ F = F1 ∧ L1 = ((b2, .cells #[.int .i64 t_wide2, .slice a11 n15 c12] 24 (0, 0)) :: ((b1, .cells #[.int .i64 0, .slice none 0 0] 24 (0, 0)) :: (Lb13 ++ []))) ∧ e1.sub [(2, .pointer (some ⟨b1, 0, none⟩)), (3, .pointer (some ⟨b2, 0, none⟩)), (9, .slice rows_a rows.length rows_c), (10, .int .i64 (rows.length : Int)), (11, .int .i64 k)] ∧ SlR K.w0.heap.size 73 1 (iE .i64) F1 a11 n15 c12 t_plots2 Lb13) _ (m0 (kc (kc (ke kr))) ⟨_, _, rfl, Lst.start _, 0, [], none, 0, 0, [], h9, rfl, rfl, (sc rfl (sc rfl (sc rfl (sc rfl (sc rfl (sn _)))))), SlR.nil _ _ _ _ _⟩) ?_
   rintro fu1 e1 _ _ ⟨tl, k, hn18, hk17, t_wide2, t_plots2, a11, n15, c12, Lb13, r19, rfl, rfl, he20, hz14⟩
   refine shW_env _ he20 ?_; clear he20
   refine wsr ?_
   refine ov (v_lssK rfl rfl) rfl ?_
   refine shO_nil (shW_seq ?_)
   refine shW_condP rfl (fun c22 => ?_) (fun c22 => ?_)
   · obtain ⟨x, tl2, rfl, hx24, g25, hk23⟩ := Lst.succ hk17 c22
     rw [oyezlaw01_Drawn_l1] at r19
     refine shW_skip ?_
     obtain ⟨t_plots3, h32, r33⟩ := b1_ok r19; clear r19
     refine shW_join (fun e1 F1 L1 => ∃ (a26 : Option Addr) (n30 : Nat) (c27 : Nat) (Lb28 : LH), F = F1 ∧ L1 = ((b2, .cells #[.int .i64 (x.length : Int), .slice a26 n30 c27] 24 (0, 0)) :: ((b1, .cells #[.int .i64 0, .slice none 0 0] 24 (0, 0)) :: (Lb28 ++ []))) ∧ e1.sub [(2, .pointer (some ⟨b1, 0, none⟩)), (3, .pointer (some ⟨b2, 0, none⟩)), (9, .slice rows_a rows.length rows_c), (10, .int .i64 (rows.length : Int)), (11, .int .i64 k)] ∧ SlR K.w0.heap.size 73 1 (iE .i64) F1 a26 n30 c27 t_plots3 Lb28) ?_ ?_
     · clear r33
       refine shW_block ?_
       refine wsr ?_
       obtain ⟨b34, o35, c36, vs37, ha38, hs39, hle40, rfl, hl41, hc42⟩ := RowR.at sE_ok h_rows ((b2, .cells #[.int .i64 t_wide2, .slice a11 n15 c12] 24 (0, 0)) :: ((b1, .cells #[.int .i64 0, .slice none 0 0] 24 (0, 0)) :: (Lb13 ++ []))) g25.1 hx24
       refine ov (v_indexO Try.underlying155 Try.sizeOf9 rfl ha38 rfl g25) rfl ?_
       refine ov (v_load Try.isAgg9 rfl hs39 (hc42 0 (by decide))) rfl ?_
       refine oa rfl rfl (nsr (om rfl rfl ?_))
       refine ov (v_lenStr Try.underlying9 rfl) rfl ?_
       refine ov (v_fieldAddr fa_24_0 rfl) rfl ?_
       refine o_store (i := 0) Try.sizeOf3 rfl rfl rfl rfl (Nat.le_of_ble_eq_true rfl) ?_
       refine shO_L (L' := (b2, .cells #[.int .i64 (x.length : Int), .slice a11 n15 c12] 24 (0, 0)) :: ((b1, .cells #[.int .i64 0, .slice none 0 0] 24 (0, 0)) :: (Lb13 ++ []))) rfl ?_
       refine nsr (om rfl rfl ?_)
       refine o_rangeStr (s := x) rfl Try.underlying9 rfl ?_; intro b43 hb43
       refine shO_nil ?_
       refine shW_block ?_
       refine shW_lp (fun fu2 e1 F1 L1 => ∃ (t_plots4 : List Int) (pos : Nat) (a44 : Option Addr) (n48 : Nat) (c45 : Nat) (Lb46 : LH), oyezlaw01_Drawn_l2 x fu2 t_plots4 pos = some t_plots3 ∧ F = F1 ∧ L1 = ((b43, .stringIter (sB x) pos) :: ((b2, .cells #[.int .i64 (x.length : Int), .slice a44 n48 c45] 24 (0, 0)) :: ((b1, .cells #[.int .i64 0, .slice none 0 0] 24 (0, 0)) :: (Lb46 ++ [])))) ∧ e1.sub [(2, .pointer (some ⟨b1, 0, none⟩)), (3, .pointer (some ⟨b2, 0, none⟩)), (9, .slice rows_a rows.length rows_c), (10, .int .i64 (rows.length : Int)), (11, .int .i64 k), (19, .pointer (some ⟨b43, 0, none⟩))] ∧ SlR K.w0.heap.size 73 1 (iE .i64) F1 a44 n48 c45 t_plots4 Lb46) FU (m0 kr ⟨t_plots2, 0, a11, n15, c12, Lb13, h32, rfl, rfl, (sc rfl (sc rfl (sc rfl (sc rfl (sc rfl (sc rfl (sn _))))))), hz14⟩) ?_
       rintro fu2 e1 _ _ ⟨t_plots4, pos, a44, n48, c45, Lb46, r52, rfl, rfl, he53, hz47⟩
       refine shW_env _ he53 ?_; clear he53
       rcases fu2 with _ | fu2
       · rw [oyezlaw01_Drawn_l2] at r52; cases r52
       rw [oyezlaw01_Drawn_l2] at r52
       refine wsr ?_
       by_cases c54 : pos < x.length
       · have r55 := ite_t r52 c54; clear r52
         obtain ⟨c, g56, hx57, r58⟩ := ix_ok r55; clear r55
         obtain ⟨g59, r60⟩ := gd_ok r58; clear r58
         refine o_nextStr (i := 0) (c := c) rfl rfl rfl (by simpa using hx57) g59 ?_
         refine shO_L (L' := (b43, .stringIter (sB x) (pos + 1)) :: ((b2, .cells #[.int .i64 (x.length : Int), .slice a44 n48 c45] 24 (0, 0)) :: ((b1, .cells #[.int .i64 0, .slice none 0 0] 24 (0, 0)) :: (Lb46 ++ [])))) rfl ?_
         refine ox rfl rfl rfl (shO_nil (shW_seq ?_))
         refine shW_cond rfl (fun c61 => ?_) (fun c61 => nomatch c61)
         refine shW_skip ?_
         refine shW_block ?_
         refine wsr (ox rfl rfl rfl (oa rfl rfl (nsr (oa rfl rfl (shO_nil ?_)))))
         obtain ⟨p, h62, r63⟩ := b1_ok r60; clear r60
         refine shW_join (fun e1 F1 L1 => F = F1 ∧ L1 = ((b43, .stringIter (sB x) (pos + 1)) :: ((b2, .cells #[.int .i64 (x.length : Int), .slice a44 n48 c45] 24 (0, 0)) :: ((b1, .cells #[.int .i64 0, .slice none 0 0] 24 (0, 0)) :: (Lb46 ++ [])))) ∧ e1.sub [(2, .pointer (some ⟨b1, 0, none⟩)), (3, .pointer (some ⟨b2, 0, none⟩)), (7, .int .i32 c), (8, .int .i64 p), (9, .slice rows_a rows.length rows_c), (10, .int .i64 (rows.length : Int)), (11, .int .i64 k), (19, .pointer (some ⟨b43, 0, none⟩))]) ?_ ?_
         · clear r63
           refine wsr (om rfl rfl ?_)
           refine ov (v_eql rfl rfl) rfl ?_
           refine shO_nil ?_
           refine shW_condP rfl (fun c64 => ?_) (fun c64 => ?_)
           · have r65 := ite_t h62 c64; clear h62
             refine shW_region (oa rfl rfl (shO_nil ?_))
             obtain rfl := inj1 r65
             exact mi kr ⟨rfl, rfl, (sc rfl (sc rfl (sc rfl (sc rfl (sc rfl (sc rfl (sc rfl (sc rfl (sn _)))))))))⟩
           have r66 := ite_f h62 c64; clear h62
           refine shW_skip ?_
           obtain rfl := inj1 r66
           exact mi kr ⟨rfl, rfl, (sc rfl (sc rfl (sc rfl (sc rfl (sc rfl (sc rfl (sc rfl (sc rfl (sn _)))))))))⟩
         rintro e1 _ _ ⟨rfl, rfl, he67⟩
         refine shW_env _ he67 ?_; clear he67
         obtain ⟨p2, h68, r69⟩ := b1_ok r63; clear r63
         refine shW_join (fun e1 F1 L1 => F = F1 ∧ L1 = ((b43, .stringIter (sB x) (pos + 1)) :: ((b2, .cells #[.int .i64 (x.length : Int), .slice a44 n48 c45] 24 (0, 0)) :: ((b1, .cells #[.int .i64 0, .slice none 0 0] 24 (0, 0)) :: (Lb46 ++ [])))) ∧ e1.sub [(2, .pointer (some ⟨b1, 0, none⟩)), (3, .pointer (some ⟨b2, 0, none⟩)), (8, .int .i64 p2), (9, .slice rows_a rows.length rows_c), (10, .int .i64 (rows.length : Int)), (11, .int .i64 k), (19, .pointer (some ⟨b43, 0, none⟩))]) ?_ ?_
         · clear r69
           refine wsr (om rfl rfl ?_)
           refine ov (v_eql rfl rfl) rfl ?_
           refine shO_nil ?_
           refine shW_condP rfl (fun c70 => ?_) (fun c70 => ?_)
           · have r71 := ite_t h68 c70; clear h68
             refine shW_region (oa rfl rfl (shO_nil ?_))
             obtain rfl := inj1 r71
             exact mi kr ⟨rfl, rfl, (sc rfl (sc rfl (sc rfl (sc rfl (sc rfl (sc rfl (sc rfl (sn _))))))))⟩
           have r72 := ite_f h68 c70; clear h68
           refine shW_skip ?_
           obtain rfl := inj1 r72
           exact mi kr ⟨rfl, rfl, (sc rfl (sc rfl (sc rfl (sc rfl (sc rfl (sc rfl (sc rfl (sn _))))))))⟩
         rintro e1 _ _ ⟨rfl, rfl, he73⟩
         refine shW_env _ he73 ?_; clear he73
         refine shW_region ?_
         refine ov (v_fieldAddr fa_24_1 rfl) rfl ?_
         refine ov (v_load Try.isAgg22 rfl (Has.own 1 rfl) rfl) rfl ?_
         refine om rfl rfl ?_
         refine o_buildSlice (cs := #[.int .i64 p2]) rfl rfl (buildSlice_all slt_22 [.int .i64 p2] rfl (by decide) (by simp [Value.cells]) (by decide)) ?_; intro b74 hb74
         obtain ⟨t, h75, g76, r77⟩ := ap_ok r69; clear r69
         refine o_appZ (xs := t_plots4) (ys := [p2]) (zs := t) rfl slt_22 rfl rfl (Nat.le_refl _) (fun _ => .c (.c (.c (.c .h)))) hz47 (SrcR.box (vss := [[.int .i64 p2]]) (ys := [p2]) 0 rfl (iE_ok _) (.cons rfl .nil) rfl rfl) h75 g76 (by decide) ?_; intro a78 n82 c79 Lb80 hz81
         refine kO (kd kr) ?_
         refine ov (v_fieldAddr fa_24_1 rfl) rfl ?_
         refine o_store (i := 1) Try.sizeOf22 rfl rfl rfl rfl (Nat.le_of_ble_eq_true rfl) ?_
         refine shO_L (L' := (b43, .stringIter (sB x) (pos + 1)) :: ((b2, .cells #[.int .i64 (x.length : Int), .slice a78 n82 c79] 24 (0, 0)) :: ((b1, .cells #[.int .i64 0, .slice none 0 0] 24 (0, 0)) :: (Lb80 ++ [])))) rfl ?_
         refine shO_nil (inBlock_n (id := 3) ?_)
         exact le kr ⟨t, pos + 1, a78, n82, c79, Lb80, r77, rfl, rfl, (sc rfl (sc rfl (sc rfl (sc rfl (sc rfl (sc rfl (sn _))))))), hz81⟩
       have r84 := ite_f r52 c54; clear r52
       refine o_nextStr0 (i := 0) (s := x) rfl rfl rfl c54 ?_
       refine ox rfl rfl rfl (shO_nil (shW_seq ?_))
       refine shW_cond rfl (fun c85 => nomatch c85) (fun c85 => ?_)
       refine shW_exit (andThen_exit (andThen_exit ?_))
       refine inBlock_exit ?_
       refine inBlock_n (id := 1) ?_
       obtain rfl := inj1 r84
       exact mi (kd kr) ⟨a44, n48, c45, Lb46, rfl, rfl, (sc rfl (sc rfl (sc rfl (sc rfl (sc rfl (sn _)))))), hz47⟩
     rintro e1 _ _ ⟨a26, n30, c27, Lb28, rfl, rfl, he86, hz29⟩
     refine shW_env _ he86 ?_; clear he86
     refine shW_region ?_
     refine ov (v_add rfl rfl (Lst.r64 hk17 c22 (RowR.lt h_rows))) rfl ?_
     refine om rfl rfl (shO_nil ?_)
     subst hn18; exact le kr ⟨_, _, rfl, hk23, (x.length : Int), t_plots3, a26, n30, c27, Lb28, r33, rfl, rfl, (sc rfl (sc rfl (sc rfl (sc rfl (sc rfl (sn _)))))), hz29⟩
   obtain rfl := Lst.zero hk17 c22
   rw [oyezlaw01_Drawn_l1] at r19
   refine shW_exit (andThen_exit (andThen_exit ?_))
   refine inBlock_exit ?_
   obtain ⟨rfl, rfl⟩ := inj2 r19
   exact mi kr ⟨a11, n15, c12, Lb13, rfl, rfl, (sc rfl (sc rfl (sn _))), hz14⟩
 rintro e1 _ _ ⟨a3, n7, c4, Lb5, rfl, rfl, he87, hz6⟩
 refine shW_env _ he87 ?_; clear he87
 refine wsr ?_
 refine ov (v_loadA (cs := #[.int .i64 t_wide, .slice a3 n7 c4]) Try.isAgg24 Try.sizeOf24 rfl (Has.own 0 rfl) (Nat.le_of_ble_eq_true rfl) rfl) rfl ?_
 refine o_storeA (i := 1) Try.sizeOf24 rfl rfl rfl (by simp [Value.oneCell']) rfl (Nat.le_of_ble_eq_true rfl) ?_
 refine shO_L (L' := (b2, .cells #[.int .i64 t_wide, .slice a3 n7 c4] 24 (0, 0)) :: ((b1, .cells #[.int .i64 t_wide, .slice a3 n7 c4] 24 (0, 0)) :: (Lb5 ++ []))) rfl ?_
 refine shO_nil ?_
 refine kW (kd kr) ?_
 refine shW_ret ?_
 refine q_res1 Try.results75 (res_cellA (cs := #[.int .i64 t_wide, .slice a3 n7 c4]) Try.isAgg24 Try.sizeOf24 rfl (Has.own 0 rfl) (Nat.le_of_ble_eq_true rfl) rfl) (s1 (s4 sr)) ?_
 obtain ⟨rfl, rfl⟩ := inj2 r10
 exact ⟨_, _, _, _, rfl, rfl, hz6.any⟩


set_option maxHeartbeats 1000000 in
theorem oyezlaw01_awake_w {F : FS} {r : Bool} (hr : oyezlaw01_awake = some r) :
    SpecV Try.prog 15 #[] F (.bool r) := by
 refine spec_of_shW (args := []) Try.func15 rfl Try.ntmps15 (Nat.le_of_ble_eq_true rfl) ?_
 intro K _ _; rw [oyezlaw01_awake] at hr
 refine wsr (oa rfl rfl (nsr ?_))
 refine o_buildSlice (cs := #[.string (sB [115, 104, 115, 104])]) rfl rfl (buildSlice_all slt_155 [.string (sB [115, 104, 115, 104])] rfl (by decide) (by simp [Value.cells]) (by decide)) ?_; intro b1 hb1
 refine shO_freeze 0 rfl hb1 ?_; intro F2 hF3 hz4
 refine shO_L (L' := []) rfl ?_
 have h5 : RowR 1 sE F2 (some ⟨b1, 0, none⟩) 1 [[115, 104, 115, 104]] := RowR.of_block sE_ok (vss := [[.string (sB [115, 104, 115, 104])]]) (xs := [[115, 104, 115, 104]]) hz4 (.cons rfl .nil) rfl (by simp [maxLen])
 obtain ⟨n, l, h6, r7⟩ := b2_ok hr; clear hr
 refine o_call0 rfl Try.call75 rfl rfl rfl (oyezlaw01_Drawn_w h5 h6) ?_; rintro _ F8 _ hF9 hn10 ⟨a12, n16, c13, Lb14, rfl, rfl, hz15⟩
 replace h5 := h5.mono sE_ok hF9
 replace hz4 := hF9 _ _ hz4
 replace hz15 := hz15.new fun p hp => hn10 p (by simp [hp])
 refine shO_L (lp (ln rfl)) ?_
 refine o_buildSlice (cs := #[.string (sB [104, 115, 104]), .string (sB [115, 119, 115])]) rfl rfl (buildSlice_all slt_155 [.string (sB [104, 115, 104]), .string (sB [115, 119, 115])] rfl (by decide) (by simp [Value.cells]) (by decide)) ?_; intro b18 hb18
 refine shO_freeze 0 rfl hb18 ?_; intro F19 hF20 hz21
 refine shO_L (L' := Lb14 ++ []) rfl ?_
 replace h5 := h5.mono sE_ok hF20
 replace hz15 := hz15.mono (iE_ok _) hF20
 replace hz4 := hF20 _ _ hz4
 have h22 : RowR 1 sE F19 (some ⟨b18, 0, none⟩) 2 [[104, 115, 104], [115, 119, 115]] := RowR.of_block sE_ok (vss := [[.string (sB [104, 115, 104])], [.string (sB [115, 119, 115])]]) (xs := [[104, 115, 104], [115, 119, 115]]) hz21 (.cons rfl (.cons rfl .nil)) rfl (by simp [maxLen])
 obtain ⟨n2, l2, h23, r24⟩ := b2_ok r7; clear r7
 refine o_call0 rfl Try.call75 rfl rfl rfl (oyezlaw01_Drawn_w h22 h23) ?_; rintro _ F25 _ hF26 hn27 ⟨a29, n33, c30, Lb31, rfl, rfl, hz32⟩
 replace h5 := h5.mono sE_ok hF26
 replace h22 := h22.mono sE_ok hF26
 replace hz15 := hz15.mono (iE_ok _) hF26
 replace hz4 := hF26 _ _ hz4
 replace hz21 := hF26 _ _ hz21
 replace hz32 := hz32.new fun p hp => hn27 p (by simp [hp])
 refine shO_L (lp (ln rfl)) ?_
 refine o_alloc rfl Try.zeroValue24 ?_; intro b35 hb35
 refine o_alloc rfl Try.zeroValue24 ?_; intro b36 hb36
 refine o_storeA (i := 1) Try.sizeOf24 rfl rfl rfl (by simp [Value.oneCell']) rfl (Nat.le_of_ble_eq_true rfl) ?_
 refine shO_L (L' := (b36, .cells #[.int .i64 0, .slice none 0 0] 24 (0, 0)) :: ((b35, .cells #[.int .i64 n, .slice a12 n16 c13] 24 (0, 0)) :: (Lb31 ++ (Lb14 ++ [])))) rfl ?_
 refine o_storeA (i := 0) Try.sizeOf24 rfl rfl rfl (by simp [Value.oneCell']) rfl (Nat.le_of_ble_eq_true rfl) ?_
 refine shO_L (L' := (b36, .cells #[.int .i64 n2, .slice a29 n33 c30] 24 (0, 0)) :: ((b35, .cells #[.int .i64 n, .slice a12 n16 c13] 24 (0, 0)) :: (Lb31 ++ (Lb14 ++ [])))) rfl ?_
 refine nsr ?_
 refine ov (v_loadA (cs := #[.int .i64 n, .slice a12 n16 c13]) Try.isAgg24 Try.sizeOf24 rfl (Has.own 1 rfl) (Nat.le_of_ble_eq_true rfl) rfl) rfl ?_
 obtain ⟨l3, n3, h37, r38⟩ := b2_ok r24; clear r24
 refine o_callTO (Lb := []) (Lt := Lb14 ++ []) (Lr := (b36, .cells #[.int .i64 n2, .slice a29 n33 c30] 24 (0, 0)) :: ((b35, .cells #[.int .i64 n, .slice a12 n16 c13] 24 (0, 0)) :: (Lb31 ++ []))) rfl Try.call21 rfl rfl rfl (pT ((fC (fC (fS fP))).trans (pA pR)) (ln (lp (ln rfl)))) (fun F2 h2 h3 => by rw [(SlR.caps hz15).1]; exact hear_Needs_w (hz15.row (iE_ok _) h2 (fun p hp => h3 p (List.mem_append_left _ hp))) h37) (fun _ _ _ _ hq => by obtain ⟨a43, n47, c44, Lb45, rfl, rfl, hz46⟩ := hq; exact ⟨_, _, _, _, rfl, rfl, hz46.flat (fun _ _ h => h)⟩) ?_; rintro _ F39 _ hF40 hd42 hn41 ⟨a43, n47, c44, Lb45, rfl, rfl, hz46⟩
 replace h5 := h5.mono sE_ok hF40
 replace h22 := h22.mono sE_ok hF40
 replace hz15 := hz15.mono (iE_ok _) hF40
 replace hz32 := hz32.mono (iE_ok _) hF40
 replace hz4 := hF40 _ _ hz4
 replace hz21 := hF40 _ _ hz21
 have hn49 := newp (Lb' := []) (by rfl) hd42 hn41
 replace hz46 := hz46.new fun p hp => hn49 p (by simp [hp])
 refine shO_L (lp (ln (lp (ln rfl)))) ?_
 refine kO (kf (fS (fS fO)) (kf (fS (fS fO)) kr)) ?_
 refine om rfl rfl (ox rfl rfl rfl (ox rfl rfl rfl (oa rfl rfl (oa rfl rfl (nsr ?_)))))
 refine ov (v_loadA (cs := #[.int .i64 n, .slice a12 n16 c13]) Try.isAgg24 Try.sizeOf24 rfl (Has.own 1 rfl) (Nat.le_of_ble_eq_true rfl) rfl) rfl ?_
 refine ov (v_build (v := .agg #[.int .i64 0, .int .i64 5]) rfl (by intro w; kernel_rfl)) rfl ?_
 refine o_buildSlice (cs := #[.int .i64 1, .int .i64 3]) rfl rfl (buildSlice_all slt_26 [.int .i64 1, .int .i64 3] rfl (by decide) (by simp [Value.cells]) (by decide)) ?_; intro b50 hb50
 refine shO_freeze 0 rfl hb50 ?_; intro F51 hF52 hz53
 refine shO_L (L' := (b36, .cells #[.int .i64 n2, .slice a29 n33 c30] 24 (0, 0)) :: ((b35, .cells #[.int .i64 n, .slice a12 n16 c13] 24 (0, 0)) :: (Lb45 ++ (Lb14 ++ (Lb31 ++ []))))) rfl ?_
 replace h5 := h5.mono sE_ok hF52
 replace h22 := h22.mono sE_ok hF52
 replace hz15 := hz15.mono (iE_ok _) hF52
 replace hz32 := hz32.mono (iE_ok _) hF52
 replace hz46 := hz46.mono (iE_ok _) hF52
 replace hz4 := hF52 _ _ hz4
 replace hz21 := hF52 _ _ hz21
 have h54 : RowR 1 (iE .i64) F51 (some ⟨b50, 0, none⟩) 2 [1, 3] := RowR.of_block (iE_ok _) (vss := [[.int .i64 1], [.int .i64 3]]) (xs := [1, 3]) hz53 (.cons rfl (.cons rfl .nil)) rfl (by simp [maxLen])
 obtain ⟨l4, n4, h55, r56⟩ := b2_ok r38; clear r38
 refine o_callTO (Lb := []) (Lt := Lb14 ++ []) (Lr := (b36, .cells #[.int .i64 n2, .slice a29 n33 c30] 24 (0, 0)) :: ((b35, .cells #[.int .i64 n, .slice a12 n16 c13] 24 (0, 0)) :: (Lb45 ++ (Lb31 ++ [])))) rfl Try.call59 rfl rfl rfl (pT ((fC (fC (fS fP))).trans (pA pR)) (ln (lp (ln rfl)))) (fun F2 h2 h3 => by rw [(SlR.caps hz15).1]; exact hear_Fewest_w (hz15.row (iE_ok _) h2 (fun p hp => h3 p (List.mem_append_left _ hp))) (h54.mono (iE_ok _) h2) h55) (fun _ _ _ _ hq => by obtain ⟨a61, n65, c62, Lb63, rfl, rfl, hz64⟩ := hq; exact ⟨_, _, _, _, rfl, rfl, hz64.flat (fun _ _ h => h)⟩) ?_; rintro _ F57 _ hF58 hd60 hn59 ⟨a61, n65, c62, Lb63, rfl, rfl, hz64⟩
 replace h5 := h5.mono sE_ok hF58
 replace h22 := h22.mono sE_ok hF58
 replace h54 := h54.mono (iE_ok _) hF58
 replace hz15 := hz15.mono (iE_ok _) hF58
 replace hz32 := hz32.mono (iE_ok _) hF58
 replace hz46 := hz46.mono (iE_ok _) hF58
 replace hz4 := hF58 _ _ hz4
 replace hz21 := hF58 _ _ hz21
 replace hz53 := hF58 _ _ hz53
 have hn67 := newp (Lb' := []) (by rfl) hd60 hn59
 replace hz64 := hz64.new fun p hp => hn67 p (by simp [hp])
 refine shO_L (lp (ln (lp (ln rfl)))) ?_
 refine kO (kf (fS (fS fO)) (kf (fS (fS fO)) kr)) ?_
 refine om rfl rfl (ox rfl rfl rfl (ox rfl rfl rfl (oa rfl rfl (oa rfl rfl (nsr ?_)))))
 refine ov (v_loadA (cs := #[.int .i64 n2, .slice a29 n33 c30]) Try.isAgg24 Try.sizeOf24 rfl (Has.own 0 rfl) (Nat.le_of_ble_eq_true rfl) rfl) rfl ?_
 refine ov (v_build (v := .agg #[.int .i64 0, .int .i64 3]) rfl (by intro w; kernel_rfl)) rfl ?_
 refine o_buildSlice (cs := #[.int .i64 0, .int .i64 2]) rfl rfl (buildSlice_all slt_26 [.int .i64 0, .int .i64 2] rfl (by decide) (by simp [Value.cells]) (by decide)) ?_; intro b68 hb68
 refine shO_freeze 0 rfl hb68 ?_; intro F69 hF70 hz71
 refine shO_L (L' := (b36, .cells #[.int .i64 n2, .slice a29 n33 c30] 24 (0, 0)) :: ((b35, .cells #[.int .i64 n, .slice a12 n16 c13] 24 (0, 0)) :: (Lb63 ++ (Lb14 ++ (Lb45 ++ (Lb31 ++ [])))))) rfl ?_
 replace h5 := h5.mono sE_ok hF70
 replace h22 := h22.mono sE_ok hF70
 replace h54 := h54.mono (iE_ok _) hF70
 replace hz15 := hz15.mono (iE_ok _) hF70
 replace hz32 := hz32.mono (iE_ok _) hF70
 replace hz46 := hz46.mono (iE_ok _) hF70
 replace hz64 := hz64.mono (iE_ok _) hF70
 replace hz4 := hF70 _ _ hz4
 replace hz21 := hF70 _ _ hz21
 replace hz53 := hF70 _ _ hz53
 have h72 : RowR 1 (iE .i64) F69 (some ⟨b68, 0, none⟩) 2 [0, 2] := RowR.of_block (iE_ok _) (vss := [[.int .i64 0], [.int .i64 2]]) (xs := [0, 2]) hz71 (.cons rfl (.cons rfl .nil)) rfl (by simp [maxLen])
 obtain ⟨l5, n5, h73, r74⟩ := b2_ok r56; clear r56
 refine o_callTO (Lb := []) (Lt := Lb31 ++ []) (Lr := (b36, .cells #[.int .i64 n2, .slice a29 n33 c30] 24 (0, 0)) :: ((b35, .cells #[.int .i64 n, .slice a12 n16 c13] 24 (0, 0)) :: (Lb63 ++ (Lb14 ++ (Lb45 ++ []))))) rfl Try.call59 rfl rfl rfl (pT ((fC (fC (fS (fS (fS fP))))).trans (pA pR)) (ln (lp (ln rfl)))) (fun F2 h2 h3 => by rw [(SlR.caps hz32).1]; exact hear_Fewest_w (hz32.row (iE_ok _) h2 (fun p hp => h3 p (List.mem_append_left _ hp))) (h72.mono (iE_ok _) h2) h73) (fun _ _ _ _ hq => by obtain ⟨a79, n83, c80, Lb81, rfl, rfl, hz82⟩ := hq; exact ⟨_, _, _, _, rfl, rfl, hz82.flat (fun _ _ h => h)⟩) ?_; rintro _ F75 _ hF76 hd78 hn77 ⟨a79, n83, c80, Lb81, rfl, rfl, hz82⟩
 replace h5 := h5.mono sE_ok hF76
 replace h22 := h22.mono sE_ok hF76
 replace h54 := h54.mono (iE_ok _) hF76
 replace h72 := h72.mono (iE_ok _) hF76
 replace hz15 := hz15.mono (iE_ok _) hF76
 replace hz32 := hz32.mono (iE_ok _) hF76
 replace hz46 := hz46.mono (iE_ok _) hF76
 replace hz64 := hz64.mono (iE_ok _) hF76
 replace hz4 := hF76 _ _ hz4
 replace hz21 := hF76 _ _ hz21
 replace hz53 := hF76 _ _ hz53
 replace hz71 := hF76 _ _ hz71
 have hn85 := newp (Lb' := []) (by rfl) hd78 hn77
 replace hz82 := hz82.new fun p hp => hn85 p (by simp [hp])
 refine shO_L (lp (ln (lp (ln rfl)))) ?_
 refine kO (kf (fS (fS fO)) (kf (fS (fS fO)) kr)) ?_
 refine om rfl rfl (ox rfl rfl rfl (ox rfl rfl rfl (oa rfl rfl (oa rfl rfl (nsr ?_)))))
 refine ov (v_loadA (cs := #[.int .i64 n2, .slice a29 n33 c30]) Try.isAgg24 Try.sizeOf24 rfl (Has.own 0 rfl) (Nat.le_of_ble_eq_true rfl) rfl) rfl ?_
 refine o_buildSlice (cs := #[.int .i64 3, .int .i64 0, .int .i64 3, .int .i64 5, .int .i64 0, .int .i64 5]) rfl rfl (buildSlice_all slt_26 [.int .i64 3, .int .i64 0, .int .i64 3, .int .i64 5, .int .i64 0, .int .i64 5] rfl (by decide) (by simp [Value.cells]) (by decide)) ?_; intro b86 hb86
 refine shO_freeze 0 rfl hb86 ?_; intro F87 hF88 hz89
 refine shO_L (L' := (b36, .cells #[.int .i64 n2, .slice a29 n33 c30] 24 (0, 0)) :: ((b35, .cells #[.int .i64 n, .slice a12 n16 c13] 24 (0, 0)) :: (Lb81 ++ (Lb31 ++ (Lb63 ++ (Lb14 ++ (Lb45 ++ []))))))) rfl ?_
 replace h5 := h5.mono sE_ok hF88
 replace h22 := h22.mono sE_ok hF88
 replace h54 := h54.mono (iE_ok _) hF88
 replace h72 := h72.mono (iE_ok _) hF88
 replace hz15 := hz15.mono (iE_ok _) hF88
 replace hz32 := hz32.mono (iE_ok _) hF88
 replace hz46 := hz46.mono (iE_ok _) hF88
 replace hz64 := hz64.mono (iE_ok _) hF88
 replace hz82 := hz82.mono (iE_ok _) hF88
 replace hz4 := hF88 _ _ hz4
 replace hz21 := hF88 _ _ hz21
 replace hz53 := hF88 _ _ hz53
 replace hz71 := hF88 _ _ hz71
 have h90 : RowR 1 (iE .i64) F87 (some ⟨b86, 0, none⟩) 6 [3, 0, 3, 5, 0, 5] := RowR.of_block (iE_ok _) (vss := [[.int .i64 3], [.int .i64 0], [.int .i64 3], [.int .i64 5], [.int .i64 0], [.int .i64 5]]) (xs := [3, 0, 3, 5, 0, 5]) hz89 (.cons rfl (.cons rfl (.cons rfl (.cons rfl (.cons rfl (.cons rfl .nil)))))) rfl (by simp [maxLen])
 obtain ⟨ok, n6, h91, r92⟩ := b2_ok r74; clear r74
 refine o_callT (Lt := Lb31 ++ []) (Lr := (b36, .cells #[.int .i64 n2, .slice a29 n33 c30] 24 (0, 0)) :: ((b35, .cells #[.int .i64 n, .slice a12 n16 c13] 24 (0, 0)) :: (Lb81 ++ (Lb63 ++ (Lb14 ++ (Lb45 ++ [])))))) rfl Try.call24 rfl rfl rfl (pT ((fC (fC (fS fP))).trans (pA pR)) (lp (ln rfl))) (fun F2 h2 h3 => by rw [(SlR.caps hz32).1]; exact hear_Holds_w (hz32.row (iE_ok _) h2 (fun p hp => h3 p (List.mem_append_left _ hp))) (h90.mono (iE_ok _) h2) h91) ?_
 refine om rfl rfl (ox rfl rfl rfl (ox rfl rfl rfl (oa rfl rfl (oa rfl rfl (shO_nil (shW_seq ?_))))))
 obtain ⟨k, h93, r94⟩ := b1_ok r92; clear r92
 refine shW_join (fun e1 F1 L1 => FExt F87 F1 ∧ L1 = ((b36, .cells #[.int .i64 n2, .slice a29 n33 c30] 24 (0, 0)) :: ((b35, .cells #[.int .i64 n, .slice a12 n16 c13] 24 (0, 0)) :: (Lb14 ++ (Lb31 ++ [])))) ∧ e1.sub [(1, .pointer (some ⟨b35, 0, none⟩)), (2, .pointer (some ⟨b36, 0, none⟩)), (77, .bool k)]) ?_ ?_
 · clear r94
   refine shW_region (om rfl rfl ?_)
   refine ov (v_neq rfl rfl) rfl ?_
   refine om rfl rfl ?_
   by_cases c95 : n3 ≠ 0
   · have r96 := ite_t h93 c95; clear h93
     refine shO_off (b' := true) 44 rfl (Env.isT rfl c95) rfl rfl (shO_off (b' := true) 44 rfl (Env.isT rfl c95) rfl rfl ?_)
     refine ov (v_pick_t (evD_true rfl c95) rfl) rfl ?_
     refine om rfl rfl (shO_off (b' := true) 48 rfl rfl rfl rfl (shO_off (b' := true) 48 rfl rfl rfl rfl ?_))
     refine ov (v_pick_t rfl rfl) rfl ?_
     refine om rfl rfl (shO_off (b' := true) 52 rfl rfl rfl rfl (shO_off (b' := true) 52 rfl rfl rfl rfl ?_))
     refine ov (v_pick_t rfl rfl) rfl ?_
     refine om rfl rfl (shO_off (b' := true) 56 rfl rfl rfl rfl (shO_off (b' := true) 56 rfl rfl rfl rfl ?_))
     refine ov (v_pick_t rfl rfl) rfl ?_
     refine om rfl rfl (shO_off (b' := true) 60 rfl rfl rfl rfl (shO_off (b' := true) 60 rfl rfl rfl rfl (shO_off (b' := true) 60 rfl rfl rfl rfl (shO_off (b' := true) 60 rfl rfl rfl rfl ?_))))
     refine ov (v_pick_t rfl rfl) rfl ?_
     refine om rfl rfl (shO_off (b' := true) 66 rfl rfl rfl rfl (shO_off (b' := true) 66 rfl rfl rfl rfl (shO_off (b' := true) 66 rfl rfl rfl rfl (shO_off (b' := true) 66 rfl rfl rfl rfl ?_))))
     refine ov (v_pick_t rfl rfl) rfl ?_
     refine om rfl rfl (shO_off (b' := true) 72 rfl rfl rfl rfl (shO_off (b' := true) 72 rfl rfl rfl rfl (shO_off (b' := true) 72 rfl rfl rfl rfl (shO_off (b' := true) 72 rfl rfl rfl rfl ?_))))
     refine ov (v_pick_t rfl rfl) rfl ?_
     refine shO_nil ?_
     obtain rfl := inj1 r96
     exact mi (kc (kc (kx (kg (fS (fS fP)) (ka kn))))) ⟨FExt.refl _, rfl, (sc rfl (sc rfl (sc rfl (sn _))))⟩
   have r97 := ite_f h93 c95; clear h93
   refine shO_on (b := false) 44 rfl (Env.isF rfl c95) (om rfl rfl (shO_on (b := false) 44 rfl (Env.isF rfl c95) ?_))
   refine ov (v_neq rfl rfl) rfl ?_
   refine ov (v_pick_f (evD_false rfl c95) rfl) rfl ?_
   refine om rfl rfl ?_
   by_cases c98 : n4 ≠ 0
   · have r99 := ite_t r97 c98; clear r97
     refine shO_off (b' := true) 48 rfl (Env.isT rfl c98) rfl rfl (shO_off (b' := true) 48 rfl (Env.isT rfl c98) rfl rfl ?_)
     refine ov (v_pick_t (evD_true rfl c98) rfl) rfl ?_
     refine om rfl rfl (shO_off (b' := true) 52 rfl rfl rfl rfl (shO_off (b' := true) 52 rfl rfl rfl rfl ?_))
     refine ov (v_pick_t rfl rfl) rfl ?_
     refine om rfl rfl (shO_off (b' := true) 56 rfl rfl rfl rfl (shO_off (b' := true) 56 rfl rfl rfl rfl ?_))
     refine ov (v_pick_t rfl rfl) rfl ?_
     refine om rfl rfl (shO_off (b' := true) 60 rfl rfl rfl rfl (shO_off (b' := true) 60 rfl rfl rfl rfl (shO_off (b' := true) 60 rfl rfl rfl rfl (shO_off (b' := true) 60 rfl rfl rfl rfl ?_))))
     refine ov (v_pick_t rfl rfl) rfl ?_
     refine om rfl rfl (shO_off (b' := true) 66 rfl rfl rfl rfl (shO_off (b' := true) 66 rfl rfl rfl rfl (shO_off (b' := true) 66 rfl rfl rfl rfl (shO_off (b' := true) 66 rfl rfl rfl rfl ?_))))
     refine ov (v_pick_t rfl rfl) rfl ?_
     refine om rfl rfl (shO_off (b' := true) 72 rfl rfl rfl rfl (shO_off (b' := true) 72 rfl rfl rfl rfl (shO_off (b' := true) 72 rfl rfl rfl rfl (shO_off (b' := true) 72 rfl rfl rfl rfl ?_))))
     refine ov (v_pick_t rfl rfl) rfl ?_
     refine shO_nil ?_
     obtain rfl := inj1 r99
     exact mi (kc (kc (kx (kg (fS (fS fP)) (ka kn))))) ⟨FExt.refl _, rfl, (sc rfl (sc rfl (sc rfl (sn _))))⟩
   have r100 := ite_f r97 c98; clear r97
   refine shO_on (b := false) 48 rfl (Env.isF rfl c98) (om rfl rfl (shO_on (b := false) 48 rfl (Env.isF rfl c98) ?_))
   refine ov (v_neq rfl rfl) rfl ?_
   refine ov (v_pick_f (evD_false rfl c98) rfl) rfl ?_
   refine om rfl rfl ?_
   by_cases c101 : n5 ≠ 0
   · have r102 := ite_t r100 c101; clear r100
     refine shO_off (b' := true) 52 rfl (Env.isT rfl c101) rfl rfl (shO_off (b' := true) 52 rfl (Env.isT rfl c101) rfl rfl ?_)
     refine ov (v_pick_t (evD_true rfl c101) rfl) rfl ?_
     refine om rfl rfl (shO_off (b' := true) 56 rfl rfl rfl rfl (shO_off (b' := true) 56 rfl rfl rfl rfl ?_))
     refine ov (v_pick_t rfl rfl) rfl ?_
     refine om rfl rfl (shO_off (b' := true) 60 rfl rfl rfl rfl (shO_off (b' := true) 60 rfl rfl rfl rfl (shO_off (b' := true) 60 rfl rfl rfl rfl (shO_off (b' := true) 60 rfl rfl rfl rfl ?_))))
     refine ov (v_pick_t rfl rfl) rfl ?_
     refine om rfl rfl (shO_off (b' := true) 66 rfl rfl rfl rfl (shO_off (b' := true) 66 rfl rfl rfl rfl (shO_off (b' := true) 66 rfl rfl rfl rfl (shO_off (b' := true) 66 rfl rfl rfl rfl ?_))))
     refine ov (v_pick_t rfl rfl) rfl ?_
     refine om rfl rfl (shO_off (b' := true) 72 rfl rfl rfl rfl (shO_off (b' := true) 72 rfl rfl rfl rfl (shO_off (b' := true) 72 rfl rfl rfl rfl (shO_off (b' := true) 72 rfl rfl rfl rfl ?_))))
     refine ov (v_pick_t rfl rfl) rfl ?_
     refine shO_nil ?_
     obtain rfl := inj1 r102
     exact mi (kc (kc (kx (kg (fS (fS fP)) (ka kn))))) ⟨FExt.refl _, rfl, (sc rfl (sc rfl (sc rfl (sn _))))⟩
   have r103 := ite_f r100 c101; clear r100
   refine shO_on (b := false) 52 rfl (Env.isF rfl c101) (om rfl rfl (shO_on (b := false) 52 rfl (Env.isF rfl c101) ?_))
   refine ov (v_neq rfl rfl) rfl ?_
   refine ov (v_pick_f (evD_false rfl c101) rfl) rfl ?_
   refine om rfl rfl ?_
   by_cases c104 : n6 ≠ 0
   · have r105 := ite_t r103 c104; clear r103
     refine shO_off (b' := true) 56 rfl (Env.isT rfl c104) rfl rfl (shO_off (b' := true) 56 rfl (Env.isT rfl c104) rfl rfl ?_)
     refine ov (v_pick_t (evD_true rfl c104) rfl) rfl ?_
     refine om rfl rfl (shO_off (b' := true) 60 rfl rfl rfl rfl (shO_off (b' := true) 60 rfl rfl rfl rfl (shO_off (b' := true) 60 rfl rfl rfl rfl (shO_off (b' := true) 60 rfl rfl rfl rfl ?_))))
     refine ov (v_pick_t rfl rfl) rfl ?_
     refine om rfl rfl (shO_off (b' := true) 66 rfl rfl rfl rfl (shO_off (b' := true) 66 rfl rfl rfl rfl (shO_off (b' := true) 66 rfl rfl rfl rfl (shO_off (b' := true) 66 rfl rfl rfl rfl ?_))))
     refine ov (v_pick_t rfl rfl) rfl ?_
     refine om rfl rfl (shO_off (b' := true) 72 rfl rfl rfl rfl (shO_off (b' := true) 72 rfl rfl rfl rfl (shO_off (b' := true) 72 rfl rfl rfl rfl (shO_off (b' := true) 72 rfl rfl rfl rfl ?_))))
     refine ov (v_pick_t rfl rfl) rfl ?_
     refine shO_nil ?_
     obtain rfl := inj1 r105
     exact mi (kc (kc (kx (kg (fS (fS fP)) (ka kn))))) ⟨FExt.refl _, rfl, (sc rfl (sc rfl (sc rfl (sn _))))⟩
   have r106 := ite_f r103 c104; clear r103
   refine shO_on (b := false) 56 rfl (Env.isF rfl c104) (om rfl rfl (shO_on (b := false) 56 rfl (Env.isF rfl c104) ?_))
   refine ov (v_notB rfl) rfl ?_
   refine ov (v_pick_f (evD_false rfl c104) rfl) rfl ?_
   refine om rfl rfl ?_
   rcases bool_two (!ok) with c107 | c107
   · have r108 := bt r106 c107; clear r106
     refine shO_off (b' := true) 60 rfl (EnvB rfl c107) rfl rfl (shO_off (b' := true) 60 rfl (EnvB rfl c107) rfl rfl (shO_off (b' := true) 60 rfl (EnvB rfl c107) rfl rfl (shO_off (b' := true) 60 rfl (EnvB rfl c107) rfl rfl ?_)))
     refine ov (v_pick_t (evB rfl c107) rfl) rfl ?_
     refine om rfl rfl (shO_off (b' := true) 66 rfl rfl rfl rfl (shO_off (b' := true) 66 rfl rfl rfl rfl (shO_off (b' := true) 66 rfl rfl rfl rfl (shO_off (b' := true) 66 rfl rfl rfl rfl ?_))))
     refine ov (v_pick_t rfl rfl) rfl ?_
     refine om rfl rfl (shO_off (b' := true) 72 rfl rfl rfl rfl (shO_off (b' := true) 72 rfl rfl rfl rfl (shO_off (b' := true) 72 rfl rfl rfl rfl (shO_off (b' := true) 72 rfl rfl rfl rfl ?_))))
     refine ov (v_pick_t rfl rfl) rfl ?_
     refine shO_nil ?_
     obtain rfl := inj1 r108
     exact mi (kc (kc (kx (kg (fS (fS fP)) (ka kn))))) ⟨FExt.refl _, rfl, (sc rfl (sc rfl (sc rfl (sn _))))⟩
   have r109 := bf r106 c107; clear r106
   refine shO_on (b := false) 60 rfl (EnvB rfl c107) (om rfl rfl (shO_on (b := false) 60 rfl (EnvB rfl c107) ?_))
   refine o_buildSlice (cs := #[.int .i64 0, .int .i64 5, .int .i64 9, .int .i64 14]) rfl rfl (buildSlice_all slt_26 [.int .i64 0, .int .i64 5, .int .i64 9, .int .i64 14] rfl (by decide) (by simp [Value.cells]) (by decide)) ?_; intro b110 hb110
   refine shO_on (b := false) 60 rfl (EnvB rfl c107) ?_
   refine shO_freeze 0 rfl hb110 ?_; intro F111 hF112 hz113
   refine shO_L (L' := (b36, .cells #[.int .i64 n2, .slice a29 n33 c30] 24 (0, 0)) :: ((b35, .cells #[.int .i64 n, .slice a12 n16 c13] 24 (0, 0)) :: (Lb81 ++ (Lb31 ++ (Lb63 ++ (Lb14 ++ (Lb45 ++ []))))))) rfl ?_
   replace h5 := h5.mono sE_ok hF112
   replace h22 := h22.mono sE_ok hF112
   replace h54 := h54.mono (iE_ok _) hF112
   replace h72 := h72.mono (iE_ok _) hF112
   replace h90 := h90.mono (iE_ok _) hF112
   replace hz15 := hz15.mono (iE_ok _) hF112
   replace hz32 := hz32.mono (iE_ok _) hF112
   replace hz46 := hz46.mono (iE_ok _) hF112
   replace hz64 := hz64.mono (iE_ok _) hF112
   replace hz82 := hz82.mono (iE_ok _) hF112
   replace hz4 := hF112 _ _ hz4
   replace hz21 := hF112 _ _ hz21
   replace hz53 := hF112 _ _ hz53
   replace hz71 := hF112 _ _ hz71
   replace hz89 := hF112 _ _ hz89
   have h114 : RowR 1 (iE .i64) F111 (some ⟨b110, 0, none⟩) 4 [0, 5, 9, 14] := RowR.of_block (iE_ok _) (vss := [[.int .i64 0], [.int .i64 5], [.int .i64 9], [.int .i64 14]]) (xs := [0, 5, 9, 14]) hz113 (.cons rfl (.cons rfl (.cons rfl (.cons rfl .nil)))) rfl (by simp [maxLen])
   obtain ⟨ok2, h115, r116⟩ := b1_ok r109; clear r109
   refine o_callT (Lt := Lb45 ++ []) (Lr := (b36, .cells #[.int .i64 n2, .slice a29 n33 c30] 24 (0, 0)) :: ((b35, .cells #[.int .i64 n, .slice a12 n16 c13] 24 (0, 0)) :: (Lb81 ++ (Lb31 ++ (Lb63 ++ (Lb14 ++ [])))))) rfl Try.call23 rfl rfl rfl (pT ((fC (fC (fS (fS (fS (fS fP)))))).trans (pA pR)) (lp (ln rfl))) (fun F2 h2 h3 => by rw [(SlR.caps hz46).1]; exact oyezkit_Like_int_w (hz46.row (iE_ok _) h2 (fun p hp => h3 p (List.mem_append_left _ hp))) (h114.mono (iE_ok _) h2) h115) ?_
   refine shO_on (b := false) 60 rfl (EnvB rfl c107) ?_
   refine ov (v_notB rfl) rfl ?_
   refine ov (v_pick_f (evB rfl c107) rfl) rfl ?_
   refine om rfl rfl ?_
   rcases bool_two (!ok2) with c117 | c117
   · have r118 := bt r116 c117; clear r116
     refine shO_off (b' := true) 66 rfl (EnvB rfl c117) rfl rfl (shO_off (b' := true) 66 rfl (EnvB rfl c117) rfl rfl (shO_off (b' := true) 66 rfl (EnvB rfl c117) rfl rfl (shO_off (b' := true) 66 rfl (EnvB rfl c117) rfl rfl ?_)))
     refine ov (v_pick_t (evB rfl c117) rfl) rfl ?_
     refine om rfl rfl (shO_off (b' := true) 72 rfl rfl rfl rfl (shO_off (b' := true) 72 rfl rfl rfl rfl (shO_off (b' := true) 72 rfl rfl rfl rfl (shO_off (b' := true) 72 rfl rfl rfl rfl ?_))))
     refine ov (v_pick_t rfl rfl) rfl ?_
     refine shO_nil ?_
     obtain rfl := inj1 r118
     exact mi (kc (kc (kx (kg (fS (fS fP)) (ka kn))))) ⟨hF112, rfl, (sc rfl (sc rfl (sc rfl (sn _))))⟩
   have r119 := bf r116 c117; clear r116
   refine shO_on (b := false) 66 rfl (EnvB rfl c117) (om rfl rfl (shO_on (b := false) 66 rfl (EnvB rfl c117) ?_))
   refine o_buildSlice (cs := #[.int .i64 2]) rfl rfl (buildSlice_all slt_26 [.int .i64 2] rfl (by decide) (by simp [Value.cells]) (by decide)) ?_; intro b120 hb120
   refine shO_on (b := false) 66 rfl (EnvB rfl c117) ?_
   refine shO_freeze 0 rfl hb120 ?_; intro F121 hF122 hz123
   refine shO_L (L' := (b36, .cells #[.int .i64 n2, .slice a29 n33 c30] 24 (0, 0)) :: ((b35, .cells #[.int .i64 n, .slice a12 n16 c13] 24 (0, 0)) :: (Lb81 ++ (Lb31 ++ (Lb63 ++ (Lb14 ++ (Lb45 ++ []))))))) rfl ?_
   replace h5 := h5.mono sE_ok hF122
   replace h22 := h22.mono sE_ok hF122
   replace h54 := h54.mono (iE_ok _) hF122
   replace h72 := h72.mono (iE_ok _) hF122
   replace h90 := h90.mono (iE_ok _) hF122
   replace h114 := h114.mono (iE_ok _) hF122
   replace hz15 := hz15.mono (iE_ok _) hF122
   replace hz32 := hz32.mono (iE_ok _) hF122
   replace hz46 := hz46.mono (iE_ok _) hF122
   replace hz64 := hz64.mono (iE_ok _) hF122
   replace hz82 := hz82.mono (iE_ok _) hF122
   replace hz4 := hF122 _ _ hz4
   replace hz21 := hF122 _ _ hz21
   replace hz53 := hF122 _ _ hz53
   replace hz71 := hF122 _ _ hz71
   replace hz89 := hF122 _ _ hz89
   replace hz113 := hF122 _ _ hz113
   have h124 : RowR 1 (iE .i64) F121 (some ⟨b120, 0, none⟩) 1 [2] := RowR.of_block (iE_ok _) (vss := [[.int .i64 2]]) (xs := [2]) hz123 (.cons rfl .nil) rfl (by simp [maxLen])
   obtain ⟨ok3, h125, r126⟩ := b1_ok r119; clear r119
   refine o_callT (Lt := Lb63 ++ []) (Lr := (b36, .cells #[.int .i64 n2, .slice a29 n33 c30] 24 (0, 0)) :: ((b35, .cells #[.int .i64 n, .slice a12 n16 c13] 24 (0, 0)) :: (Lb81 ++ (Lb31 ++ (Lb14 ++ (Lb45 ++ [])))))) rfl Try.call23 rfl rfl rfl (pT ((fC (fC (fS (fS fP)))).trans (pA pR)) (lp (ln rfl))) (fun F2 h2 h3 => by rw [(SlR.caps hz64).1]; exact oyezkit_Like_int_w (hz64.row (iE_ok _) h2 (fun p hp => h3 p (List.mem_append_left _ hp))) (h124.mono (iE_ok _) h2) h125) ?_
   refine shO_on (b := false) 66 rfl (EnvB rfl c117) ?_
   refine ov (v_notB rfl) rfl ?_
   refine ov (v_pick_f (evB rfl c117) rfl) rfl ?_
   refine om rfl rfl ?_
   rcases bool_two (!ok3) with c127 | c127
   · have r128 := bt r126 c127; clear r126
     refine shO_off (b' := true) 72 rfl (EnvB rfl c127) rfl rfl (shO_off (b' := true) 72 rfl (EnvB rfl c127) rfl rfl (shO_off (b' := true) 72 rfl (EnvB rfl c127) rfl rfl (shO_off (b' := true) 72 rfl (EnvB rfl c127) rfl rfl ?_)))
     refine ov (v_pick_t (evB rfl c127) rfl) rfl ?_
     refine shO_nil ?_
     obtain rfl := inj1 r128
     exact mi (kc (kc (kx (kg (fS (fS fP)) (ka kn))))) ⟨(hF112.trans hF122), rfl, (sc rfl (sc rfl (sc rfl (sn _))))⟩
   have r129 := bf r126 c127; clear r126
   refine shO_on (b := false) 72 rfl (EnvB rfl c127) (om rfl rfl (shO_on (b := false) 72 rfl (EnvB rfl c127) ?_))
   refine o_buildSlice (cs := #[.int .i64 1]) rfl rfl (buildSlice_all slt_26 [.int .i64 1] rfl (by decide) (by simp [Value.cells]) (by decide)) ?_; intro b130 hb130
   refine shO_on (b := false) 72 rfl (EnvB rfl c127) ?_
   refine shO_freeze 0 rfl hb130 ?_; intro F131 hF132 hz133
   refine shO_L (L' := (b36, .cells #[.int .i64 n2, .slice a29 n33 c30] 24 (0, 0)) :: ((b35, .cells #[.int .i64 n, .slice a12 n16 c13] 24 (0, 0)) :: (Lb81 ++ (Lb31 ++ (Lb63 ++ (Lb14 ++ (Lb45 ++ []))))))) rfl ?_
   replace h5 := h5.mono sE_ok hF132
   replace h22 := h22.mono sE_ok hF132
   replace h54 := h54.mono (iE_ok _) hF132
   replace h72 := h72.mono (iE_ok _) hF132
   replace h90 := h90.mono (iE_ok _) hF132
   replace h114 := h114.mono (iE_ok _) hF132
   replace h124 := h124.mono (iE_ok _) hF132
   replace hz15 := hz15.mono (iE_ok _) hF132
   replace hz32 := hz32.mono (iE_ok _) hF132
   replace hz46 := hz46.mono (iE_ok _) hF132
   replace hz64 := hz64.mono (iE_ok _) hF132
   replace hz82 := hz82.mono (iE_ok _) hF132
   replace hz4 := hF132 _ _ hz4
   replace hz21 := hF132 _ _ hz21
   replace hz53 := hF132 _ _ hz53
   replace hz71 := hF132 _ _ hz71
   replace hz89 := hF132 _ _ hz89
   replace hz113 := hF132 _ _ hz113
   replace hz123 := hF132 _ _ hz123
   have h134 : RowR 1 (iE .i64) F131 (some ⟨b130, 0, none⟩) 1 [1] := RowR.of_block (iE_ok _) (vss := [[.int .i64 1]]) (xs := [1]) hz133 (.cons rfl .nil) rfl (by simp [maxLen])
   obtain ⟨ok4, h135, r136⟩ := b1_ok r129; clear r129
   refine o_callT (Lt := Lb81 ++ []) (Lr := (b36, .cells #[.int .i64 n2, .slice a29 n33 c30] 24 (0, 0)) :: ((b35, .cells #[.int .i64 n, .slice a12 n16 c13] 24 (0, 0)) :: (Lb31 ++ (Lb63 ++ (Lb14 ++ (Lb45 ++ [])))))) rfl Try.call23 rfl rfl rfl (pT ((fC (fC fP)).trans (pA pR)) (lp (ln rfl))) (fun F2 h2 h3 => by rw [(SlR.caps hz82).1]; exact oyezkit_Like_int_w (hz82.row (iE_ok _) h2 (fun p hp => h3 p (List.mem_append_left _ hp))) (h134.mono (iE_ok _) h2) h135) ?_
   refine shO_on (b := false) 72 rfl (EnvB rfl c127) ?_
   refine ov (v_notB rfl) rfl ?_
   refine ov (v_pick_f (evB rfl c127) rfl) rfl ?_
   refine shO_nil ?_
   obtain rfl := inj1 r136
   exact mi (kc (kc (kx (kg (fS (fS fP)) (ka kn))))) ⟨((hF112.trans hF122).trans hF132), rfl, (sc rfl (sc rfl (sc rfl (sn _))))⟩
 rintro e1 F138 _ ⟨hF139, rfl, he137⟩
 refine shW_env _ he137 ?_; clear he137
 replace h5 := h5.mono sE_ok hF139
 replace h22 := h22.mono sE_ok hF139
 replace h54 := h54.mono (iE_ok _) hF139
 replace h72 := h72.mono (iE_ok _) hF139
 replace h90 := h90.mono (iE_ok _) hF139
 replace hz15 := hz15.mono (iE_ok _) hF139
 replace hz32 := hz32.mono (iE_ok _) hF139
 replace hz4 := hF139 _ _ hz4
 replace hz21 := hF139 _ _ hz21
 replace hz53 := hF139 _ _ hz53
 replace hz71 := hF139 _ _ hz71
 replace hz89 := hF139 _ _ hz89
 refine shW_cond rfl (fun c140 => ?_) (fun c140 => ?_)
 · have r141 := bt r94 c140; clear r94
   refine wsr (oa rfl rfl (shO_nil ?_))
   refine kW kn ?_
   refine shW_ret (andThen_ret ?_)
   refine q_res1 Try.results15 (res_tmp rfl) (sr) ?_
   obtain rfl := inj1 r141
   exact rfl
 have r142 := bf r94 c140; clear r94
 refine shW_skip (wsr ?_)
 refine ov (v_loadA (cs := #[.int .i64 n, .slice a12 n16 c13]) Try.isAgg24 Try.sizeOf24 rfl (Has.own 1 rfl) (Nat.le_of_ble_eq_true rfl) rfl) rfl ?_
 refine o_buildSlice (cs := #[.int .i64 1, .int .i64 3]) rfl rfl (buildSlice_all slt_26 [.int .i64 1, .int .i64 3] rfl (by decide) (by simp [Value.cells]) (by decide)) ?_; intro b143 hb143
 refine shO_freeze 0 rfl hb143 ?_; intro F144 hF145 hz146
 refine shO_L (L' := (b36, .cells #[.int .i64 n2, .slice a29 n33 c30] 24 (0, 0)) :: ((b35, .cells #[.int .i64 n, .slice a12 n16 c13] 24 (0, 0)) :: (Lb14 ++ (Lb31 ++ [])))) rfl ?_
 replace h5 := h5.mono sE_ok hF145
 replace h22 := h22.mono sE_ok hF145
 replace h54 := h54.mono (iE_ok _) hF145
 replace h72 := h72.mono (iE_ok _) hF145
 replace h90 := h90.mono (iE_ok _) hF145
 replace hz15 := hz15.mono (iE_ok _) hF145
 replace hz32 := hz32.mono (iE_ok _) hF145
 replace hz4 := hF145 _ _ hz4
 replace hz21 := hF145 _ _ hz21
 replace hz53 := hF145 _ _ hz53
 replace hz71 := hF145 _ _ hz71
 replace hz89 := hF145 _ _ hz89
 have h147 : RowR 1 (iE .i64) F144 (some ⟨b143, 0, none⟩) 2 [1, 3] := RowR.of_block (iE_ok _) (vss := [[.int .i64 1], [.int .i64 3]]) (xs := [1, 3]) hz146 (.cons rfl (.cons rfl .nil)) rfl (by simp [maxLen])
 obtain ⟨n7, n8, h148, r149⟩ := b2_ok r142; clear r142
 refine o_callT (Lt := Lb14 ++ []) (Lr := (b36, .cells #[.int .i64 n2, .slice a29 n33 c30] 24 (0, 0)) :: ((b35, .cells #[.int .i64 n, .slice a12 n16 c13] 24 (0, 0)) :: (Lb31 ++ []))) rfl Try.call29 rfl rfl rfl (pT ((fC (fC fP)).trans (pA pR)) (lp (ln rfl))) (fun F2 h2 h3 => by rw [(SlR.caps hz15).1]; exact hear_Louder_w (hz15.row (iE_ok _) h2 (fun p hp => h3 p (List.mem_append_left _ hp))) (h147.mono (iE_ok _) h2) h148) ?_
 refine om rfl rfl (ox rfl rfl rfl (ox rfl rfl rfl (oa rfl rfl (oa rfl rfl (nsr ?_)))))
 refine ov (v_loadA (cs := #[.int .i64 n2, .slice a29 n33 c30]) Try.isAgg24 Try.sizeOf24 rfl (Has.own 0 rfl) (Nat.le_of_ble_eq_true rfl) rfl) rfl ?_
 obtain ⟨l6, n9, h150, r151⟩ := b2_ok r149; clear r149
 refine o_callTO (Lb := []) (Lt := Lb31 ++ []) (Lr := (b36, .cells #[.int .i64 n2, .slice a29 n33 c30] 24 (0, 0)) :: ((b35, .cells #[.int .i64 n, .slice a12 n16 c13] 24 (0, 0)) :: (Lb14 ++ []))) rfl Try.call47 rfl rfl rfl (pT ((fC (fC (fS fP))).trans (pA pR)) (ln (lp (ln rfl)))) (fun F2 h2 h3 => by rw [(SlR.caps hz32).1]; exact hear_Way_w (hz32.row (iE_ok _) h2 (fun p hp => h3 p (List.mem_append_left _ hp))) h150) (fun _ _ _ _ hq => by obtain ⟨a156, n160, c157, Lb158, rfl, rfl, hz159⟩ := hq; exact ⟨_, _, _, _, rfl, rfl, hz159.flat (fun _ _ h => h)⟩) ?_; rintro _ F152 _ hF153 hd155 hn154 ⟨a156, n160, c157, Lb158, rfl, rfl, hz159⟩
 replace h5 := h5.mono sE_ok hF153
 replace h22 := h22.mono sE_ok hF153
 replace h54 := h54.mono (iE_ok _) hF153
 replace h72 := h72.mono (iE_ok _) hF153
 replace h90 := h90.mono (iE_ok _) hF153
 replace h147 := h147.mono (iE_ok _) hF153
 replace hz15 := hz15.mono (iE_ok _) hF153
 replace hz32 := hz32.mono (iE_ok _) hF153
 replace hz4 := hF153 _ _ hz4
 replace hz21 := hF153 _ _ hz21
 replace hz53 := hF153 _ _ hz53
 replace hz71 := hF153 _ _ hz71
 replace hz89 := hF153 _ _ hz89
 replace hz146 := hF153 _ _ hz146
 have hn162 := newp (Lb' := []) (by rfl) hd155 hn154
 replace hz159 := hz159.new fun p hp => hn162 p (by simp [hp])
 refine shO_L (lp (ln (lp (ln rfl)))) ?_
 refine kO (kf (fS (fS fO)) (kf (fS (fS fO)) kr)) ?_
 refine om rfl rfl (ox rfl rfl rfl (ox rfl rfl rfl (oa rfl rfl (oa rfl rfl (nsr ?_)))))
 refine o_buildSlice (cs := #[.string (sB [115, 104, 119, 104])]) rfl rfl (buildSlice_all slt_155 [.string (sB [115, 104, 119, 104])] rfl (by decide) (by simp [Value.cells]) (by decide)) ?_; intro b163 hb163
 refine shO_freeze 0 rfl hb163 ?_; intro F164 hF165 hz166
 refine shO_L (L' := (b36, .cells #[.int .i64 n2, .slice a29 n33 c30] 24 (0, 0)) :: ((b35, .cells #[.int .i64 n, .slice a12 n16 c13] 24 (0, 0)) :: (Lb158 ++ (Lb31 ++ (Lb14 ++ []))))) rfl ?_
 replace h5 := h5.mono sE_ok hF165
 replace h22 := h22.mono sE_ok hF165
 replace h54 := h54.mono (iE_ok _) hF165
 replace h72 := h72.mono (iE_ok _) hF165
 replace h90 := h90.mono (iE_ok _) hF165
 replace h147 := h147.mono (iE_ok _) hF165
 replace hz15 := hz15.mono (iE_ok _) hF165
 replace hz32 := hz32.mono (iE_ok _) hF165
 replace hz159 := hz159.mono (iE_ok _) hF165
 replace hz4 := hF165 _ _ hz4
 replace hz21 := hF165 _ _ hz21
 replace hz53 := hF165 _ _ hz53
 replace hz71 := hF165 _ _ hz71
 replace hz89 := hF165 _ _ hz89
 replace hz146 := hF165 _ _ hz146
 have h167 : RowR 1 sE F164 (some ⟨b163, 0, none⟩) 1 [[115, 104, 119, 104]] := RowR.of_block sE_ok (vss := [[.string (sB [115, 104, 119, 104])]]) (xs := [[115, 104, 119, 104]]) hz166 (.cons rfl .nil) rfl (by simp [maxLen])
 obtain ⟨n10, l7, h168, r169⟩ := b2_ok r151; clear r151
 refine o_call0 rfl Try.call75 rfl rfl rfl (oyezlaw01_Drawn_w h167 h168) ?_; rintro _ F170 _ hF171 hn172 ⟨a174, n178, c175, Lb176, rfl, rfl, hz177⟩
 replace h5 := h5.mono sE_ok hF171
 replace h22 := h22.mono sE_ok hF171
 replace h54 := h54.mono (iE_ok _) hF171
 replace h72 := h72.mono (iE_ok _) hF171
 replace h90 := h90.mono (iE_ok _) hF171
 replace h147 := h147.mono (iE_ok _) hF171
 replace h167 := h167.mono sE_ok hF171
 replace hz15 := hz15.mono (iE_ok _) hF171
 replace hz32 := hz32.mono (iE_ok _) hF171
 replace hz159 := hz159.mono (iE_ok _) hF171
 replace hz4 := hF171 _ _ hz4
 replace hz21 := hF171 _ _ hz21
 replace hz53 := hF171 _ _ hz53
 replace hz71 := hF171 _ _ hz71
 replace hz89 := hF171 _ _ hz89
 replace hz146 := hF171 _ _ hz146
 replace hz166 := hF171 _ _ hz166
 replace hz177 := hz177.new fun p hp => hn172 p (by simp [hp])
 refine shO_L (lp (ln rfl)) ?_
 refine kO (kf (fS fO) (kf (fS fO) kr)) ?_
 obtain ⟨n11, n12, h180, r181⟩ := b2_ok r169; clear r169
 refine o_callT (Lt := Lb176 ++ []) (Lr := (b36, .cells #[.int .i64 n2, .slice a29 n33 c30] 24 (0, 0)) :: ((b35, .cells #[.int .i64 n, .slice a12 n16 c13] 24 (0, 0)) :: (Lb158 ++ (Lb31 ++ (Lb14 ++ []))))) rfl Try.call19 rfl rfl rfl (pT ((fC (fC fP)).trans (pA pR)) (lp (ln rfl))) (fun F2 h2 h3 => by rw [(SlR.caps hz177).1]; exact hear_Need_w (hz177.row (iE_ok _) h2 (fun p hp => h3 p (List.mem_append_left _ hp))) h180) ?_
 refine om rfl rfl (ox rfl rfl rfl (ox rfl rfl rfl (oa rfl rfl (nsr (om rfl rfl ?_)))))
 refine ov (v_eql rfl rfl) rfl ?_
 refine om rfl rfl ?_
 by_cases c182 : n8 = 0
 · have r183 := ite_t r181 c182; clear r181
   refine shO_on (b := true) 97 rfl (Env.isT rfl c182) (om rfl rfl (shO_on (b := true) 97 rfl (Env.isT rfl c182) ?_))
   refine ov (v_eql rfl rfl) rfl ?_
   refine ov (v_pick_t (evD_true rfl c182) rfl) rfl ?_
   refine om rfl rfl ?_
   by_cases c184 : n9 = 0
   · have r185 := ite_t r183 c184; clear r183
     refine shO_on (b := true) 101 rfl (Env.isT rfl c184) (om rfl rfl (shO_on (b := true) 101 rfl (Env.isT rfl c184) ?_))
     refine ov (v_eql rfl rfl) rfl ?_
     refine ov (v_pick_t (evD_true rfl c184) rfl) rfl ?_
     refine om rfl rfl ?_
     by_cases c186 : n7 = 5
     · have r187 := ite_t r185 c186; clear r185
       refine shO_on (b := true) 105 rfl (Env.isT rfl c186) (om rfl rfl (shO_on (b := true) 105 rfl (Env.isT rfl c186) ?_))
       refine o_buildSlice (cs := #[.int .i64 3, .int .i64 0, .int .i64 1, .int .i64 2]) rfl rfl (buildSlice_all slt_26 [.int .i64 3, .int .i64 0, .int .i64 1, .int .i64 2] rfl (by decide) (by simp [Value.cells]) (by decide)) ?_; intro b188 hb188
       refine shO_on (b := true) 105 rfl (Env.isT rfl c186) ?_
       refine shO_freeze 0 rfl hb188 ?_; intro F189 hF190 hz191
       refine shO_L (L' := (b36, .cells #[.int .i64 n2, .slice a29 n33 c30] 24 (0, 0)) :: ((b35, .cells #[.int .i64 n, .slice a12 n16 c13] 24 (0, 0)) :: (Lb176 ++ (Lb158 ++ (Lb31 ++ (Lb14 ++ [])))))) rfl ?_
       replace h5 := h5.mono sE_ok hF190
       replace h22 := h22.mono sE_ok hF190
       replace h54 := h54.mono (iE_ok _) hF190
       replace h72 := h72.mono (iE_ok _) hF190
       replace h90 := h90.mono (iE_ok _) hF190
       replace h147 := h147.mono (iE_ok _) hF190
       replace h167 := h167.mono sE_ok hF190
       replace hz15 := hz15.mono (iE_ok _) hF190
       replace hz32 := hz32.mono (iE_ok _) hF190
       replace hz159 := hz159.mono (iE_ok _) hF190
       replace hz177 := hz177.mono (iE_ok _) hF190
       replace hz4 := hF190 _ _ hz4
       replace hz21 := hF190 _ _ hz21
       replace hz53 := hF190 _ _ hz53
       replace hz71 := hF190 _ _ hz71
       replace hz89 := hF190 _ _ hz89
       replace hz146 := hF190 _ _ hz146
       replace hz166 := hF190 _ _ hz166
       have h192 : RowR 1 (iE .i64) F189 (some ⟨b188, 0, none⟩) 4 [3, 0, 1, 2] := RowR.of_block (iE_ok _) (vss := [[.int .i64 3], [.int .i64 0], [.int .i64 1], [.int .i64 2]]) (xs := [3, 0, 1, 2]) hz191 (.cons rfl (.cons rfl (.cons rfl (.cons rfl .nil)))) rfl (by simp [maxLen])
       obtain ⟨ok5, h193, r194⟩ := b1_ok r187; clear r187
       refine o_callT (Lt := Lb158 ++ []) (Lr := (b36, .cells #[.int .i64 n2, .slice a29 n33 c30] 24 (0, 0)) :: ((b35, .cells #[.int .i64 n, .slice a12 n16 c13] 24 (0, 0)) :: (Lb176 ++ (Lb31 ++ (Lb14 ++ []))))) rfl Try.call23 rfl rfl rfl (pT ((fC (fC (fS fP))).trans (pA pR)) (lp (ln rfl))) (fun F2 h2 h3 => by rw [(SlR.caps hz159).1]; exact oyezkit_Like_int_w (hz159.row (iE_ok _) h2 (fun p hp => h3 p (List.mem_append_left _ hp))) (h192.mono (iE_ok _) h2) h193) ?_
       refine ov (v_pick_t (evD_true rfl c186) rfl) rfl ?_
       refine om rfl rfl ?_
       rcases bool_two ok5 with c195 | c195
       · have r196 := bt r194 c195; clear r194
         refine shO_on (b := true) 110 rfl (EnvB rfl c195) (om rfl rfl (shO_on (b := true) 110 rfl (EnvB rfl c195) ?_))
         refine ov (v_eql rfl rfl) rfl ?_
         refine ov (v_pick_t (evB rfl c195) rfl) rfl ?_
         refine oa rfl rfl (shO_nil ?_)
         refine kW kn ?_
         refine shW_ret ?_
         refine q_res1 Try.results15 (res_tmp rfl) (sr) ?_
         obtain rfl := inj1 r196
         exact rfl
       have r197 := bf r194 c195; clear r194
       refine shO_off (b' := false) 110 rfl (EnvB rfl c195) rfl rfl (shO_off (b' := false) 110 rfl (EnvB rfl c195) rfl rfl ?_)
       refine ov (v_pick_f (evB rfl c195) rfl) rfl ?_
       refine oa rfl rfl (shO_nil ?_)
       refine kW kn ?_
       refine shW_ret ?_
       refine q_res1 Try.results15 (res_tmp rfl) (sr) ?_
       obtain rfl := inj1 r197
       exact rfl
     have r198 := ite_f r185 c186; clear r185
     refine shO_off (b' := false) 105 rfl (Env.isF rfl c186) rfl rfl (shO_off (b' := false) 105 rfl (Env.isF rfl c186) rfl rfl (shO_off (b' := false) 105 rfl (Env.isF rfl c186) rfl rfl ?_))
     refine ov (v_pick_f (evD_false rfl c186) rfl) rfl ?_
     refine om rfl rfl (shO_off (b' := false) 110 rfl rfl rfl rfl (shO_off (b' := false) 110 rfl rfl rfl rfl ?_))
     refine ov (v_pick_f rfl rfl) rfl ?_
     refine oa rfl rfl (shO_nil ?_)
     refine kW kn ?_
     refine shW_ret ?_
     refine q_res1 Try.results15 (res_tmp rfl) (sr) ?_
     obtain rfl := inj1 r198
     exact rfl
   have r199 := ite_f r183 c184; clear r183
   refine shO_off (b' := false) 101 rfl (Env.isF rfl c184) rfl rfl (shO_off (b' := false) 101 rfl (Env.isF rfl c184) rfl rfl ?_)
   refine ov (v_pick_f (evD_false rfl c184) rfl) rfl ?_
   refine om rfl rfl (shO_off (b' := false) 105 rfl rfl rfl rfl (shO_off (b' := false) 105 rfl rfl rfl rfl (shO_off (b' := false) 105 rfl rfl rfl rfl ?_)))
   refine ov (v_pick_f rfl rfl) rfl ?_
   refine om rfl rfl (shO_off (b' := false) 110 rfl rfl rfl rfl (shO_off (b' := false) 110 rfl rfl rfl rfl ?_))
   refine ov (v_pick_f rfl rfl) rfl ?_
   refine oa rfl rfl (shO_nil ?_)
   refine kW kn ?_
   refine shW_ret ?_
   refine q_res1 Try.results15 (res_tmp rfl) (sr) ?_
   obtain rfl := inj1 r199
   exact rfl
 have r200 := ite_f r181 c182; clear r181
 refine shO_off (b' := false) 97 rfl (Env.isF rfl c182) rfl rfl (shO_off (b' := false) 97 rfl (Env.isF rfl c182) rfl rfl ?_)
 refine ov (v_pick_f (evD_false rfl c182) rfl) rfl ?_
 refine om rfl rfl (shO_off (b' := false) 101 rfl rfl rfl rfl (shO_off (b' := false) 101 rfl rfl rfl rfl ?_))
 refine ov (v_pick_f rfl rfl) rfl ?_
 refine om rfl rfl (shO_off (b' := false) 105 rfl rfl rfl rfl (shO_off (b' := false) 105 rfl rfl rfl rfl (shO_off (b' := false) 105 rfl rfl rfl rfl ?_)))
 refine ov (v_pick_f rfl rfl) rfl ?_
 refine om rfl rfl (shO_off (b' := false) 110 rfl rfl rfl rfl (shO_off (b' := false) 110 rfl rfl rfl rfl ?_))
 refine ov (v_pick_f rfl rfl) rfl ?_
 refine oa rfl rfl (shO_nil ?_)
 refine kW kn ?_
 refine shW_ret ?_
 refine q_res1 Try.results15 (res_tmp rfl) (sr) ?_
 obtain rfl := inj1 r200
 exact rfl


set_option maxHeartbeats 1000000 in
theorem oyezkit_Hang_w {metal_a : Option Addr} {metal_c : Nat} {metal : List Int} {F : FS} (h_metal : RowR 1 (iE .u8) F metal_a metal_c metal) {r : List Int} {r2 : Int} {r3 : Int} (hr : oyezkit_Hang metal = some (r, r2, r3)) :
    SH.Spec Try.prog 39 #[.slice metal_a metal.length metal_c] F [] fun F' L' v => ∃ (rb : Nat) (ra : Option Addr) (rc : Nat), v = .pointer (some ⟨rb, 0, none⟩) ∧ L' = [(rb, .cells #[.slice ra r.length rc, .int .i64 r2, .int .u32 r3] 134 (0, 0))] ∧ RowR 1 (iE .u8) F' ra rc r := by
 refine spec_of_shW (args := [.slice metal_a metal.length metal_c]) Try.func39 rfl Try.ntmps39 (Nat.le_of_ble_eq_true rfl) ?_
 intro K _ _; rw [oyezkit_Hang] at hr
 refine wsr (oa rfl rfl (nsr (om rfl rfl ?_)))
 refine ov (v_build (v := .agg #[.slice metal_a metal.length metal_c, .int .i64 0, .int .u32 0]) rfl (by intro w; kernel_rfl)) rfl ?_
 refine o_box rfl rfl ?_; intro b1 hb1
 refine oa rfl rfl (shO_nil (shW_ret ?_))
 refine q_res1 Try.results39 (res_tmp rfl) (sr) ?_
 obtain ⟨rfl, rfl, rfl⟩ := inj3 hr
 exact ⟨_, _, _, rfl, rfl, h_metal⟩


set_option maxHeartbeats 1000000 in
theorem oyezkit_Bell_ring_w {b_b : Nat} {metal_a : Option Addr} {metal_c : Nat} {metal : List Int} {at_ : Int} {turn : Int} {F : FS} (h_metal : RowR 1 (iE .u8) F metal_a metal_c metal) {r : Int} {r2 : Int} {r3 : Int} (hr : oyezkit_Bell_ring metal at_ turn = some (r, r2, r3)) :
    SH.Spec Try.prog 103 #[.pointer (some ⟨b_b, 0, none⟩)] F [(b_b, .cells #[.slice metal_a metal.length metal_c, .int .i64 at_, .int .u32 turn] 134 (0, 0))] fun _ L' v => v = .int .i64 r ∧ L' = [(b_b, .cells #[.slice metal_a metal.length metal_c, .int .i64 r2, .int .u32 r3] 134 (0, 0))] := by
 refine spec_of_shW (args := [.pointer (some ⟨b_b, 0, none⟩)]) Try.func103 rfl Try.ntmps103 (Nat.le_of_ble_eq_true rfl) ?_
 intro K _ _; rw [oyezkit_Bell_ring] at hr
 refine wsr (oa rfl rfl (shO_nil ?_))
 obtain ⟨b_at, b_turn, h1, r4⟩ := b2_ok hr; clear hr
 refine shW_join (fun e1 F1 L1 => F = F1 ∧ L1 = [(b_b, .cells #[.slice metal_a metal.length metal_c, .int .i64 b_at, .int .u32 b_turn] 134 (0, 0))] ∧ e1.sub [(0, .pointer (some ⟨b_b, 0, none⟩))]) ?_ ?_
 · clear r4
   refine wsd (by kernel_rfl) (by kernel_rfl) (by kernel_rfl) ?_
   refine qm rfl rfl ?_
   refine qv (v_nilCheck rfl) rfl ?_
   refine qv (v_fieldAddr fa_134_1 rfl) rfl ?_
   refine qv (v_load Try.isAgg3 rfl (Has.own 0 rfl) rfl) rfl ?_
   refine qm rfl rfl ?_
   refine qv (v_nilCheck rfl) rfl ?_
   refine qv (v_fieldAddr fa_134_0 rfl) rfl ?_
   refine qv (v_load Try.isAgg67 rfl (Has.own 0 rfl) rfl) rfl ?_
   refine qv (v_lenS Try.underlying67 rfl) rfl ?_
   refine qv (v_eql rfl rfl) rfl ?_
   refine shQ_nil ?_
   refine shW_condP rfl (fun c5 => ?_) (fun c5 => ?_)
   · have r6 := ite_t h1 c5; clear h1
     refine shW_region (om rfl rfl (om rfl rfl (om rfl rfl ?_)))
     refine ov (v_nilCheck rfl) rfl ?_
     refine ov (v_fieldAddr fa_134_2 rfl) rfl ?_
     refine ov (v_load Try.isAgg132 rfl (Has.own 0 rfl) rfl) rfl ?_
     refine ov (u_add rfl rfl rfl) rfl ?_
     refine ov (v_nilCheck rfl) rfl ?_
     refine ov (v_fieldAddr fa_134_1 rfl) rfl ?_
     refine o_store (i := 0) Try.sizeOf3 rfl rfl rfl rfl (Nat.le_of_ble_eq_true rfl) ?_
     refine shO_L (L' := [(b_b, .cells #[.slice metal_a metal.length metal_c, .int .i64 0, .int .u32 turn] 134 (0, 0))]) rfl ?_
     refine ov (v_nilCheck rfl) rfl ?_
     refine ov (v_fieldAddr fa_134_2 rfl) rfl ?_
     refine o_store (i := 0) Try.sizeOf132 rfl rfl rfl rfl (Nat.le_of_ble_eq_true rfl) ?_
     refine shO_L (L' := [(b_b, .cells #[.slice metal_a metal.length metal_c, .int .i64 0, .int .u32 ((turn + 1) % 4294967296)] 134 (0, 0))]) rfl ?_
     refine shO_nil ?_
     obtain ⟨rfl, rfl⟩ := inj2 r6
     exact mi kr ⟨rfl, rfl, (sc rfl (sn _))⟩
   have r7 := ite_f h1 c5; clear h1
   refine shW_skip ?_
   obtain ⟨rfl, rfl⟩ := inj2 r7
   exact mi kr ⟨rfl, rfl, (sc rfl (sn _))⟩
 rintro e1 _ _ ⟨rfl, rfl, he8⟩
 refine shW_env _ he8 ?_; clear he8
 refine wsr (om rfl rfl ?_)
 refine ov (v_nilCheck rfl) rfl ?_
 refine ov (v_fieldAddr fa_134_2 rfl) rfl ?_
 refine ov (v_load Try.isAgg132 rfl (Has.own 0 rfl) rfl) rfl ?_
 refine ov (u_mul rfl rfl rfl) rfl ?_
 obtain ⟨n, h9, r10⟩ := bv_ok r4; clear r4
 refine ov ((v_assign rfl).i h9) rfl ?_
 refine shO_nil ?_
 obtain ⟨n2, b_at2, h11, r12⟩ := b2_ok r10; clear r10
 refine shW_join (fun e1 F1 L1 => F = F1 ∧ L1 = [(b_b, .cells #[.slice metal_a metal.length metal_c, .int .i64 b_at2, .int .u32 b_turn] 134 (0, 0))] ∧ e1.sub [(3, .int .u32 n2)]) ?_ ?_
 · clear r12
   refine wsr (om rfl rfl ?_)
   refine ov (v_nilCheck rfl) rfl ?_
   refine ov (v_fieldAddr fa_134_0 rfl) rfl ?_
   refine ov (v_load Try.isAgg67 rfl (Has.own 0 rfl) rfl) rfl ?_
   refine ov (v_lenS Try.underlying67 rfl) rfl ?_
   refine ov (v_gtrK rfl rfl) rfl ?_
   refine shO_nil ?_
   refine shW_condP rfl (fun c13 => ?_) (fun c13 => ?_)
   · have r14 := ite_t h11 c13; clear h11
     refine wsd (by kernel_rfl) (by kernel_rfl) (by kernel_rfl) ?_
     refine qm rfl rfl (qm rfl rfl ?_)
     refine qv (v_nilCheck rfl) rfl ?_
     refine qv (v_fieldAddr fa_134_0 rfl) rfl ?_
     refine qv (v_load Try.isAgg67 rfl (Has.own 0 rfl) rfl) rfl ?_
     refine qm rfl rfl ?_
     refine qv (v_nilCheck rfl) rfl ?_
     refine qv (v_fieldAddr fa_134_1 rfl) rfl ?_
     refine qv (v_load Try.isAgg3 rfl (Has.own 0 rfl) rfl) rfl ?_
     obtain ⟨x, g15, hx16, r17⟩ := ix_ok r14; clear r14
     obtain ⟨b18, o19, c20, vs21, ha22, hs23, hle24, rfl, hl25, hc26⟩ := RowR.at (iE_ok _) h_metal ([(b_b, .cells #[.slice metal_a metal.length metal_c, .int .i64 b_at, .int .u32 b_turn] 134 (0, 0))]) g15.1 hx16
     refine qv (v_indexO Try.underlying67 Try.sizeOf5 rfl ha22 rfl g15) rfl ?_
     refine qv (v_load Try.isAgg5 rfl hs23 (hc26 0 (by decide))) rfl ?_
     refine qv (u_conv rfl Try.underlying5 Try.underlying132 rfl) rfl ?_
     refine qv (u_mul rfl rfl rfl) rfl ?_
     refine qv (u_add rfl rfl rfl) rfl ?_
     obtain ⟨n3, h27, r28⟩ := bv_ok r17; clear r17
     refine qv ((v_assign rfl).i h27) rfl ?_
     refine shQ_nil (shW_region (om rfl rfl ?_))
     refine ov (v_nilCheck rfl) rfl ?_
     refine ov (v_fieldAddr fa_134_1 rfl) rfl ?_
     refine ov (v_load Try.isAgg3 rfl (Has.own 0 rfl) rfl) rfl ?_
     obtain ⟨g29, r30⟩ := gd_ok r28; clear r28
     refine ov (v_add rfl rfl g29) rfl ?_
     refine ov (v_nilCheck rfl) rfl ?_
     refine ov (v_fieldAddr fa_134_1 rfl) rfl ?_
     refine o_store (i := 0) Try.sizeOf3 rfl rfl rfl rfl (Nat.le_of_ble_eq_true rfl) ?_
     refine shO_L (L' := [(b_b, .cells #[.slice metal_a metal.length metal_c, .int .i64 (b_at + 1), .int .u32 b_turn] 134 (0, 0))]) rfl ?_
     refine shO_nil ?_
     obtain ⟨rfl, rfl⟩ := inj2 r30
     exact mi kr ⟨rfl, rfl, (sc rfl (sn _))⟩
   have r31 := ite_f h11 c13; clear h11
   refine shW_skip ?_
   obtain ⟨rfl, rfl⟩ := inj2 r31
   exact mi kr ⟨rfl, rfl, (sc rfl (sn _))⟩
 rintro e1 _ _ ⟨rfl, rfl, he32⟩
 refine shW_env _ he32 ?_; clear he32
 refine wsr (om rfl rfl (om rfl rfl ?_))
 refine ov (v_shr rfl rfl (by decide)) rfl ?_
 refine ov (u_xor rfl rfl rfl) rfl ?_
 refine ov (u_and rfl rfl rfl) rfl ?_
 obtain ⟨g33, r34⟩ := gd_ok r12; clear r12
 refine ov (i_conv Try.underlying132 Try.underlying3 rfl g33) rfl ?_
 refine oa rfl rfl (shO_nil (shW_ret ?_))
 refine q_res1 Try.results103 (res_tmp rfl) (sr) ?_
 obtain ⟨rfl, rfl, rfl⟩ := inj3 r34
 exact ⟨rfl, rfl⟩


set_option maxHeartbeats 1000000 in
theorem oyezkit_Bell_Stroke_w {b_b : Nat} {metal_a : Option Addr} {metal_c : Nat} {metal : List Int} {at_ : Int} {turn : Int} {n : Int} {F : FS} (h_metal : RowR 1 (iE .u8) F metal_a metal_c metal) {r : Int} {r2 : Int} {r3 : Int} (hr : oyezkit_Bell_Stroke metal at_ turn n = some (r, r2, r3)) :
    SH.Spec Try.prog 48 #[.pointer (some ⟨b_b, 0, none⟩), .int .i64 n] F [(b_b, .cells #[.slice metal_a metal.length metal_c, .int .i64 at_, .int .u32 turn] 134 (0, 0))] fun _ L' v => v = .int .i64 r ∧ L' = [(b_b, .cells #[.slice metal_a metal.length metal_c, .int .i64 r2, .int .u32 r3] 134 (0, 0))] := by
 refine spec_of_shW (args := [.pointer (some ⟨b_b, 0, none⟩), .int .i64 n]) Try.func48 rfl Try.ntmps48 (Nat.le_of_ble_eq_true rfl) ?_
 intro K _ _; rw [oyezkit_Bell_Stroke] at hr
 refine wsr (oa rfl rfl (nsr (om rfl rfl ?_)))
 obtain ⟨n2, at_2, turn2, h1, r4⟩ := b3_ok hr; clear hr
 refine o_callG (Lb := [(b_b, .cells #[.slice metal_a metal.length metal_c, .int .i64 at_, .int .u32 turn] 134 (0, 0))]) (Lr := []) rfl Try.call103 rfl rfl rfl (pR) (oyezkit_Bell_ring_w h_metal h1) ?_; rintro _ F5 _ hF6 hd8 hn7 ⟨rfl, rfl⟩
 replace h_metal := h_metal.mono (iE_ok _) hF6
 refine shO_L (lb (ln rfl)) ?_
 refine om rfl rfl ?_
 obtain ⟨g9, r10⟩ := gd_ok r4; clear r4
 refine ov (v_add rfl rfl g9) rfl ?_
 refine ov (v_max2 rfl rfl) rfl ?_
 obtain ⟨g11, r12⟩ := gd_ok r10; clear r10
 refine ov (v_remT rfl rfl g11) rfl ?_
 refine oa rfl rfl (shO_nil (shW_ret ?_))
 refine q_res1 Try.results48 (res_tmp rfl) (sr) ?_
 obtain ⟨rfl, rfl, rfl⟩ := inj3 r12
 exact ⟨rfl, rfl⟩


set_option maxHeartbeats 1000000 in
theorem oyezkit_Bell_Strike_w {b_b : Nat} {metal_a : Option Addr} {metal_c : Nat} {metal : List Int} {at_ : Int} {turn : Int} {lo : Int} {hi : Int} {F : FS} (h_metal : RowR 1 (iE .u8) F metal_a metal_c metal) {r : Int} {r2 : Int} {r3 : Int} (hr : oyezkit_Bell_Strike metal at_ turn lo hi = some (r, r2, r3)) :
    SH.Spec Try.prog 49 #[.pointer (some ⟨b_b, 0, none⟩), .int .i64 lo, .int .i64 hi] F [(b_b, .cells #[.slice metal_a metal.length metal_c, .int .i64 at_, .int .u32 turn] 134 (0, 0))] fun _ L' v => v = .int .i64 r ∧ L' = [(b_b, .cells #[.slice metal_a metal.length metal_c, .int .i64 r2, .int .u32 r3] 134 (0, 0))] := by
 refine spec_of_shW (args := [.pointer (some ⟨b_b, 0, none⟩), .int .i64 lo, .int .i64 hi]) Try.func49 rfl Try.ntmps49 (Nat.le_of_ble_eq_true rfl) ?_
 intro K _ _; rw [oyezkit_Bell_Strike] at hr
 refine wsr (oa rfl rfl (nsr (om rfl rfl (om rfl rfl (om rfl rfl (om rfl rfl ?_))))))
 obtain ⟨g1, r4⟩ := gd_ok hr; clear hr
 refine ov (v_sub rfl rfl g1) rfl ?_
 obtain ⟨n, at_2, turn2, h5, r6⟩ := b3_ok r4; clear r4
 refine o_callG (Lb := [(b_b, .cells #[.slice metal_a metal.length metal_c, .int .i64 at_, .int .u32 turn] 134 (0, 0))]) (Lr := []) rfl Try.call48 rfl rfl rfl (pR) (oyezkit_Bell_Stroke_w h_metal h5) ?_; rintro _ F7 _ hF8 hd10 hn9 ⟨rfl, rfl⟩
 replace h_metal := h_metal.mono (iE_ok _) hF8
 refine shO_L (lb (ln rfl)) ?_
 obtain ⟨g11, r12⟩ := gd_ok r6; clear r6
 refine ov (v_add rfl rfl g11) rfl ?_
 refine oa rfl rfl (shO_nil (shW_ret ?_))
 refine q_res1 Try.results49 (res_tmp rfl) (sr) ?_
 obtain ⟨rfl, rfl, rfl⟩ := inj3 r12
 exact ⟨rfl, rfl⟩


set_option maxHeartbeats 1000000 in
theorem oyezlaw01_Made_w {b_b : Nat} {metal_a : Option Addr} {metal_c : Nat} {metal : List Int} {at_ : Int} {turn : Int} {plots : Int} {F : FS} (h_metal : RowR 1 (iE .u8) F metal_a metal_c metal) {r : Int} {r2 : List Int} {r3 : Int} {r4 : Int} (hr : oyezlaw01_Made metal at_ turn plots = some (r, r2, r3, r4)) :
    SH.Spec Try.prog 40 #[.pointer (some ⟨b_b, 0, none⟩), .int .i64 plots] F [(b_b, .cells #[.slice metal_a metal.length metal_c, .int .i64 at_, .int .u32 turn] 134 (0, 0))] fun F' L' v => ∃ (r2a : Option Addr) (r2n : Nat) (r2c : Nat) (r2L : LH), v = .agg #[.int .i64 r, .slice r2a r2n r2c] ∧ L' = (b_b, .cells #[.slice metal_a metal.length metal_c, .int .i64 r3, .int .u32 r4] 134 (0, 0)) :: (r2L ++ []) ∧ SlR 0 73 1 (iE .i64) F' r2a r2n r2c r2 r2L := by
 refine spec_of_shW (args := [.pointer (some ⟨b_b, 0, none⟩), .int .i64 plots]) Try.func40 rfl Try.ntmps40 (Nat.le_of_ble_eq_true rfl) ?_
 intro K _ _; rw [oyezlaw01_Made] at hr
 refine wsr ?_
 refine o_alloc rfl Try.zeroValue24 ?_; intro b1 hb1
 refine nsr (om rfl rfl ?_)
 obtain ⟨n, at_2, turn2, h2, r5⟩ := b3_ok hr; clear hr
 refine o_callG (Lb := [(b_b, .cells #[.slice metal_a metal.length metal_c, .int .i64 at_, .int .u32 turn] 134 (0, 0))]) (Lr := [(b1, .cells #[.int .i64 0, .slice none 0 0] 24 (0, 0))]) rfl Try.call49 rfl rfl rfl (((fC fO).trans (pC pR))) (oyezkit_Bell_Strike_w h_metal h2) ?_; rintro _ F6 _ hF7 hd9 hn8 ⟨rfl, rfl⟩
 replace h_metal := h_metal.mono (iE_ok _) hF7
 refine shO_L (lb (ln rfl)) ?_
 refine ov (v_build (v := .agg #[.int .i64 n, .slice none 0 0]) rfl (by intro w; kernel_rfl)) rfl ?_
 refine o_alloc rfl Try.zeroValue24 ?_; intro b10 hb10
 refine o_storeA (i := 0) Try.sizeOf24 rfl rfl rfl (by simp [Value.oneCell']) rfl (Nat.le_of_ble_eq_true rfl) ?_
 refine shO_L (L' := [(b10, .cells #[.int .i64 n, .slice none 0 0] 24 (0, 0)), (b_b, .cells #[.slice metal_a metal.length metal_c, .int .i64 at_2, .int .u32 turn2] 134 (0, 0)), (b1, .cells #[.int .i64 0, .slice none 0 0] 24 (0, 0))]) rfl ?_
 refine nsr (om rfl rfl (om rfl rfl ?_))
 refine ov (v_fieldAddr fa_24_0 rfl) rfl ?_
 refine ov (v_load Try.isAgg3 rfl (Has.own 0 rfl) rfl) rfl ?_
 obtain ⟨g11, r12⟩ := gd_ok r5; clear r5
 refine ov (v_quoT rfl rfl g11) rfl ?_
 refine ov (v_max2 rfl rfl) rfl ?_
 obtain ⟨n2, at_3, turn3, h13, r14⟩ := b3_ok r12; clear r12
 refine o_callG (Lb := [(b_b, .cells #[.slice metal_a metal.length metal_c, .int .i64 at_2, .int .u32 turn2] 134 (0, 0))]) (Lr := [(b10, .cells #[.int .i64 n, .slice none 0 0] 24 (0, 0)), (b1, .cells #[.int .i64 0, .slice none 0 0] 24 (0, 0))]) rfl Try.call49 rfl rfl rfl (((fC fO).trans (pC pR))) (oyezkit_Bell_Strike_w h_metal h13) ?_; rintro _ F15 _ hF16 hd18 hn17 ⟨rfl, rfl⟩
 replace h_metal := h_metal.mono (iE_ok _) hF16
 refine shO_L (lb (ln rfl)) ?_
 refine oa rfl rfl (nsr (oa rfl rfl (shO_nil ?_)))
 obtain ⟨b_at, b_turn, t_plots, h25, r26⟩ := b3_ok r14; clear r14
 refine shW_join (fun e1 F1 L1 => ∃ (a19 : Option Addr) (n23 : Nat) (c20 : Nat) (Lb21 : LH), FExt F15 F1 ∧ L1 = ((b_b, .cells #[.slice metal_a metal.length metal_c, .int .i64 b_at, .int .u32 b_turn] 134 (0, 0)) :: ((b10, .cells #[.int .i64 n, .slice a19 n23 c20] 24 (0, 0)) :: ((b1, .cells #[.int .i64 0, .slice none 0 0] 24 (0, 0)) :: (Lb21 ++ [])))) ∧ e1.sub [(0, .pointer (some ⟨b_b, 0, none⟩)), (4, .pointer (some ⟨b1, 0, none⟩)), (5, .pointer (some ⟨b10, 0, none⟩))] ∧ SlR K.w0.heap.size 73 1 (iE .i64) F1 a19 n23 c20 t_plots Lb21) ?_ ?_
 · clear r26
   refine wsr (om rfl rfl ?_)
   refine ov (v_fieldAddr fa_24_0 rfl) rfl ?_
   refine ov (v_load Try.isAgg3 rfl (Has.own 1 rfl) rfl) rfl ?_
   obtain ⟨g27, r28⟩ := gd_ok h25; clear h25
   refine ov (v_mul rfl rfl g27) rfl ?_
   refine om rfl rfl (shO_nil ?_)
   refine shW_block ?_
   obtain ⟨g35, r36⟩ := gd_ok r28; clear r28
   refine shW_lp (fun fu1 e1 F1 L1 => ∃ (k : Int), Ctr 0 (n2 * n) k fu1 ∧ ∃ (b_at2 : Int) (b_turn2 : Int) (t_plots2 : List Int) (left_ : Int) (a29 : Option Addr) (n33 : Nat) (c30 : Nat) (Lb31 : LH), oyezlaw01_Made_l1 metal fu1 b_at2 b_turn2 t_plots2 left_ = some (b_at, b_turn, t_plots) ∧ FExt F15 F1 ∧ L1 = ((b_b, .cells #[.slice metal_a metal.length metal_c, .int .i64 b_at2, .int .u32 b_turn2] 134 (0, 0)) :: ((b10, .cells #[.int .i64 n, .slice a29 n33 c30] 24 (0, 0)) :: ((b1, .cells #[.int .i64 0, .slice none 0 0] 24 (0, 0)) :: (Lb31 ++ [])))) ∧ e1.sub [(0, .pointer (some ⟨b_b, 0, none⟩)), (4, .pointer (some ⟨b1, 0, none⟩)), (5, .pointer (some ⟨b10, 0, none⟩)), (7, .int .i64 left_), (22, .int .i64 (n2 * n)), (23, .int .i64 k)] ∧ SlR K.w0.heap.size 73 1 (iE .i64) F1 a29 n33 c30 t_plots2 Lb31) _ (m0 (kc (kc (kc (ke kr)))) ⟨_, Ctr.start _ _, at_3, turn3, [], 10, none, 0, 0, [], r36, FExt.refl _, rfl, (sc rfl (sc rfl (sc rfl (sc rfl (sc rfl (sc rfl (sn _))))))), SlR.nil _ _ _ _ _⟩) ?_
   rintro fu1 e1 F41 _ ⟨k, hk37, b_at2, b_turn2, t_plots2, left_, a29, n33, c30, Lb31, r39, hF42, rfl, he40, hz32⟩
   refine shW_env _ he40 ?_; clear he40
   replace h_metal := h_metal.mono (iE_ok _) hF42
   refine wsr ?_
   refine ov (v_lssK rfl rfl) rfl ?_
   refine shO_nil (shW_seq ?_)
   refine shW_condP rfl (fun c44 => ?_) (fun c44 => ?_)
   · obtain ⟨fu1, rfl, hk45⟩ := Ctr.succ hk37 c44
     rw [oyezlaw01_Made_l1] at r39
     refine shW_skip (shW_seq ?_)
     refine shW_block ?_
     refine wsr ?_
     refine o_buildSlice (cs := #[.int .i64 0, .int .i64 0, .int .i64 0, .int .i64 1, .int .i64 1, .int .i64 2]) rfl rfl (buildSlice_all slt_26 [.int .i64 0, .int .i64 0, .int .i64 0, .int .i64 1, .int .i64 1, .int .i64 2] rfl (by decide) (by simp [Value.cells]) (by decide)) ?_; intro b46 hb46
     refine om rfl rfl ?_
     obtain ⟨n3, at_4, turn4, h47, r48⟩ := b3_ok r39; clear r39
     refine o_callG (Lb := [(b_b, .cells #[.slice metal_a metal.length metal_c, .int .i64 b_at2, .int .u32 b_turn2] 134 (0, 0))]) (Lr := (b46, .cells #[.int .i64 0, .int .i64 0, .int .i64 0, .int .i64 1, .int .i64 1, .int .i64 2] 3 (0, 0)) :: ((b10, .cells #[.int .i64 n, .slice a29 n33 c30] 24 (0, 0)) :: ((b1, .cells #[.int .i64 0, .slice none 0 0] 24 (0, 0)) :: (Lb31 ++ [])))) rfl Try.call48 rfl rfl rfl (((fC fO).trans (pC pR))) (oyezkit_Bell_Stroke_w h_metal h47) ?_; rintro _ F49 _ hF50 hd52 hn51 ⟨rfl, rfl⟩
     replace h_metal := h_metal.mono (iE_ok _) hF50
     replace hz32 := hz32.mono (iE_ok _) hF50
     refine shO_L (lb (ln rfl)) ?_
     refine shO_freeze 1 rfl hb46 ?_; intro F53 hF54 hz55
     refine shO_L (L' := (b_b, .cells #[.slice metal_a metal.length metal_c, .int .i64 at_4, .int .u32 turn4] 134 (0, 0)) :: ((b10, .cells #[.int .i64 n, .slice a29 n33 c30] 24 (0, 0)) :: ((b1, .cells #[.int .i64 0, .slice none 0 0] 24 (0, 0)) :: (Lb31 ++ [])))) rfl ?_
     replace h_metal := h_metal.mono (iE_ok _) hF54
     replace hz32 := hz32.mono (iE_ok _) hF54
     have h56 : RowR 1 (iE .i64) F53 (some ⟨b46, 0, none⟩) 6 [0, 0, 0, 1, 1, 2] := RowR.of_block (iE_ok _) (vss := [[.int .i64 0], [.int .i64 0], [.int .i64 0], [.int .i64 1], [.int .i64 1], [.int .i64 2]]) (xs := [0, 0, 0, 1, 1, 2]) hz55 (.cons rfl (.cons rfl (.cons rfl (.cons rfl (.cons rfl (.cons rfl .nil)))))) rfl (by simp [maxLen])
     obtain ⟨x, g57, hx58, r59⟩ := ix_ok r48; clear r48
     obtain ⟨b60, o61, c62, vs63, ha64, hs65, hle66, rfl, hl67, hc68⟩ := RowR.at (iE_ok _) h56 ((b_b, .cells #[.slice metal_a metal.length metal_c, .int .i64 at_4, .int .u32 turn4] 134 (0, 0)) :: ((b10, .cells #[.int .i64 n, .slice a29 n33 c30] 24 (0, 0)) :: ((b1, .cells #[.int .i64 0, .slice none 0 0] 24 (0, 0)) :: (Lb31 ++ [])))) g57.1 hx58
     refine ov (v_indexO Try.underlying26 Try.sizeOf3 rfl ha64 rfl g57) rfl ?_
     refine ov (v_load Try.isAgg3 rfl hs65 (hc68 0 (by decide))) rfl ?_
     refine oa rfl rfl (shO_nil ?_)
     obtain ⟨left_2, p, h69, r70⟩ := b2_ok r59; clear r59
     refine shW_join (fun e1 F1 L1 => F53 = F1 ∧ L1 = ((b_b, .cells #[.slice metal_a metal.length metal_c, .int .i64 at_4, .int .u32 turn4] 134 (0, 0)) :: ((b10, .cells #[.int .i64 n, .slice a29 n33 c30] 24 (0, 0)) :: ((b1, .cells #[.int .i64 0, .slice none 0 0] 24 (0, 0)) :: (Lb31 ++ [])))) ∧ e1.sub [(0, .pointer (some ⟨b_b, 0, none⟩)), (4, .pointer (some ⟨b1, 0, none⟩)), (5, .pointer (some ⟨b10, 0, none⟩)), (7, .int .i64 left_2), (8, .int .i64 p), (22, .int .i64 (n2 * n)), (23, .int .i64 k)]) ?_ ?_
     · clear r70
       refine wsr (om rfl rfl ?_)
       refine ov (v_eql rfl rfl) rfl ?_
       refine shO_nil ?_
       refine shW_condP rfl (fun c71 => ?_) (fun c71 => ?_)
       · have r72 := ite_t h69 c71; clear h69
         refine wsr (om rfl rfl ?_)
         obtain ⟨g73, r74⟩ := gd_ok r72; clear r72
         refine ov (v_sub rfl rfl g73) rfl ?_
         refine oa rfl rfl (nsr (om rfl rfl ?_))
         refine ov (v_lssK rfl rfl) rfl ?_
         refine shO_nil ?_
         refine shW_condP rfl (fun c75 => ?_) (fun c75 => ?_)
         · have r76 := ite_t r74 c75; clear r74
           refine shW_region (oa rfl rfl (shO_nil ?_))
           obtain ⟨rfl, rfl⟩ := inj2 r76
           exact mi kr ⟨rfl, rfl, (sc rfl (sc rfl (sc rfl (sc rfl (sc rfl (sc rfl (sc rfl (sn _))))))))⟩
         have r77 := ite_f r74 c75; clear r74
         refine shW_skip ?_
         obtain ⟨rfl, rfl⟩ := inj2 r77
         exact mi kr ⟨rfl, rfl, (sc rfl (sc rfl (sc rfl (sc rfl (sc rfl (sc rfl (sc rfl (sn _))))))))⟩
       have r78 := ite_f h69 c71; clear h69
       refine shW_skip ?_
       obtain ⟨rfl, rfl⟩ := inj2 r78
       exact mi kr ⟨rfl, rfl, (sc rfl (sc rfl (sc rfl (sc rfl (sc rfl (sc rfl (sc rfl (sn _))))))))⟩
     rintro e1 _ _ ⟨rfl, rfl, he79⟩
     refine shW_env _ he79 ?_; clear he79
     refine shW_region ?_
     refine ov (v_fieldAddr fa_24_1 rfl) rfl ?_
     refine ov (v_load Try.isAgg22 rfl (Has.own 1 rfl) rfl) rfl ?_
     refine om rfl rfl ?_
     refine o_buildSlice (cs := #[.int .i64 p]) rfl rfl (buildSlice_all slt_22 [.int .i64 p] rfl (by decide) (by simp [Value.cells]) (by decide)) ?_; intro b80 hb80
     obtain ⟨t, h81, g82, r83⟩ := ap_ok r70; clear r70
     refine o_appZ (xs := t_plots2) (ys := [p]) (zs := t) rfl slt_22 rfl rfl (Nat.le_refl _) (fun _ => .c (.c (.c (.c .h)))) hz32 (SrcR.box (vss := [[.int .i64 p]]) (ys := [p]) 0 rfl (iE_ok _) (.cons rfl .nil) rfl rfl) h81 g82 (by decide) ?_; intro a84 n88 c85 Lb86 hz87
     refine kO (kd kr) ?_
     refine ov (v_fieldAddr fa_24_1 rfl) rfl ?_
     refine o_store (i := 1) Try.sizeOf22 rfl rfl rfl rfl (Nat.le_of_ble_eq_true rfl) ?_
     refine shO_L (L' := (b_b, .cells #[.slice metal_a metal.length metal_c, .int .i64 at_4, .int .u32 turn4] 134 (0, 0)) :: ((b10, .cells #[.int .i64 n, .slice a84 n88 c85] 24 (0, 0)) :: ((b1, .cells #[.int .i64 0, .slice none 0 0] 24 (0, 0)) :: (Lb86 ++ [])))) rfl ?_
     refine shO_nil (inBlock_n (id := 1) (shW_region ?_))
     refine ov (v_add rfl rfl (Ctr.r64 hk37 c44 g35)) rfl ?_
     refine om rfl rfl (shO_nil ?_)
     exact le kr ⟨_, hk45, at_4, turn4, t, left_2, a84, n88, c85, Lb86, r83, ((hF42.trans hF50).trans hF54), rfl, (sc rfl (sc rfl (sc rfl (sc rfl (sc rfl (sc rfl (sn _))))))), hz87⟩
   obtain rfl := Ctr.zero hk37 c44
   rw [oyezlaw01_Made_l1] at r39
   refine shW_exit (andThen_exit (andThen_exit ?_))
   refine inBlock_exit ?_
   obtain ⟨rfl, rfl, rfl⟩ := inj3 r39
   exact mi kr ⟨a29, n33, c30, Lb31, hF42, rfl, (sc rfl (sc rfl (sc rfl (sn _)))), hz32⟩
 rintro e1 F91 _ ⟨a19, n23, c20, Lb21, hF92, rfl, he90, hz22⟩
 refine shW_env _ he90 ?_; clear he90
 replace h_metal := h_metal.mono (iE_ok _) hF92
 refine shW_seq ?_
 refine shW_drawM [(.still, 0), (.still, 1), (.still, 2), (.still, 3), (.still, 4), (.still, 5), (.still, 6), (.seq, 7), (.still, 8), (.seq, 9)] (by kernel_rfl) (by kernel_rfl) (trivial) (by rfl) ?_
 refine shM_v (v := .pointer (some ⟨b10, 1, none⟩)) (ek := [(5, .pointer (some ⟨b10, 0, none⟩))]) (Ls := []) rfl rfl rfl rfl ((sc rfl (sn _))) (by kernel_rfl) sm (fun H F' L' hF' hL' => v_fieldAddr fa_24_1 rfl) ?_
 refine shM_v (v := .slice a19 n23 c20) (ek := [(43, .pointer (some ⟨b10, 1, none⟩))]) (Ls := [(b10, .cells #[.int .i64 n, .slice a19 n23 c20] 24 (0, 0))]) rfl rfl rfl rfl ((sc rfl (sn _))) (by kernel_rfl) (s0 (s1 (s2 (s1 (s3 sr))))) (fun H F' L' hF' hL' => v_load Try.isAgg22 rfl ((Has.own 0 rfl).ext hF' hL') rfl) ?_
 refine shM_v (v := .pointer (some ⟨b_b, 0, none⟩)) (ek := [(0, .pointer (some ⟨b_b, 0, none⟩))]) (Ls := []) rfl rfl rfl rfl ((sc rfl (sn _))) (by kernel_rfl) sm (fun H F' L' hF' hL' => v_move rfl) ?_
 refine shM_v (v := .pointer (some ⟨b10, 1, none⟩)) (ek := [(5, .pointer (some ⟨b10, 0, none⟩))]) (Ls := []) rfl rfl rfl rfl ((sc rfl (sn _))) (by kernel_rfl) sm (fun H F' L' hF' hL' => v_fieldAddr fa_24_1 rfl) ?_
 refine shM_v (v := .slice a19 n23 c20) (ek := [(46, .pointer (some ⟨b10, 1, none⟩))]) (Ls := [(b10, .cells #[.int .i64 n, .slice a19 n23 c20] 24 (0, 0))]) rfl rfl rfl rfl ((sc rfl (sn _))) (by kernel_rfl) (s0 (s1 (s2 (s1 (s3 sr))))) (fun H F' L' hF' hL' => v_load Try.isAgg22 rfl ((Has.own 0 rfl).ext hF' hL') rfl) ?_
 refine shM_v (v := .int .i64 (t_plots.length : Int)) (ek := [(47, .slice a19 n23 c20)]) (Ls := []) rfl rfl rfl rfl ((sc rfl (sn _))) (by kernel_rfl) sm (fun H F' L' hF' hL' => (v_lenS Try.underlying22 rfl).i (SlR.lenI hz22)) ?_
 obtain ⟨g93, r94⟩ := gd_ok r26; clear r26
 refine shM_v (v := .int .i64 ((t_plots.length : Int) - 1)) (ek := [(48, .int .i64 (t_plots.length : Int))]) (Ls := []) rfl rfl rfl rfl ((sc rfl (sn _))) (by kernel_rfl) sm (fun H F' L' hF' hL' => v_sub rfl rfl g93) ?_
 refine ⟨_, [(45, .pointer (some ⟨b_b, 0, none⟩)), (49, .int .i64 ((t_plots.length : Int) - 1))], rfl, rfl, (sc rfl (sc rfl (sn _))), by kernel_rfl, ?_⟩; intro H
 obtain ⟨n4, at_5, turn5, h95, r96⟩ := b3_ok r94; clear r94
 refine o_callG (Lb := [(b_b, .cells #[.slice metal_a metal.length metal_c, .int .i64 b_at, .int .u32 b_turn] 134 (0, 0))]) (Lr := (b10, .cells #[.int .i64 n, .slice a19 n23 c20] 24 (0, 0)) :: ((b1, .cells #[.int .i64 0, .slice none 0 0] 24 (0, 0)) :: (Lb21 ++ []))) rfl Try.call48 rfl rfl rfl (pR) (oyezkit_Bell_Stroke_w h_metal h95) ?_; rintro _ F97 _ hF98 hd100 hn99 ⟨rfl, rfl⟩
 replace h_metal := h_metal.mono (iE_ok _) hF98
 replace hz22 := hz22.mono (iE_ok _) hF98
 refine shO_L (lb (ln rfl)) ?_
 refine shO_nil ⟨_, rfl, hF98, [1, 0], by kernel_rfl, .inr (fun d h => by cases h; rfl), (List.forall_mem_cons.2 ⟨s0 (s1 (s2 (s1 (s3 sr)))), (List.forall_mem_cons.2 ⟨sm, (fun _ h => absurd h List.not_mem_nil)⟩)⟩), ?_⟩
 obtain ⟨x2, g101, hx102, r103⟩ := ix_ok r96; clear r96
 obtain ⟨b104, o105, c106, vs107, ha108, hs109, hle110, rfl, hl111, hc112⟩ := SlR.at (iE_ok _) hz22 (L := Lb21 ++ []) fP g101.1 hx102
 refine shM_v (v := .pointer (some ⟨b104, o105 + (n4 : Int).toNat * 1, none⟩)) (ek := [(44, .slice a19 n23 c20), (50, .int .i64 n4)]) (Ls := []) rfl rfl rfl rfl ((sc rfl (sc rfl (sn _)))) (by kernel_rfl) sm (fun H F' L' hF' hL' => v_indexO Try.underlying22 Try.sizeOf73 rfl ha108 rfl (SlR.idx hz22 g101)) ?_
 refine ⟨_, [(51, .pointer (some ⟨b104, o105 + (n4 : Int).toNat * 1, none⟩))], rfl, rfl, (sc rfl (sn _)), by kernel_rfl, ?_⟩; intro H
 obtain ⟨l, h113, r114⟩ := bv_ok r103; clear r103
 refine o_storeZ (u := 0) Try.sizeOf73 (iE_ok _) rfl ha108 rfl rfl (fun _ => .c (.c (.c .h))) hz22 h113 g101 ?_; intro Lb115 hz116
 refine shO_nil ⟨undef, rfl, FExt.refl _, [], by kernel_rfl, .inl rfl, (fun _ h => absurd h List.not_mem_nil), ?_⟩
 refine shM_nil ?_
 refine wsr ?_
 refine ov (v_loadA (cs := #[.int .i64 n, .slice a19 n23 c20]) Try.isAgg24 Try.sizeOf24 rfl (Has.own 1 rfl) (Nat.le_of_ble_eq_true rfl) rfl) rfl ?_
 refine o_storeA (i := 2) Try.sizeOf24 rfl rfl rfl (by simp [Value.oneCell']) rfl (Nat.le_of_ble_eq_true rfl) ?_
 refine shO_L (L' := (b_b, .cells #[.slice metal_a metal.length metal_c, .int .i64 at_5, .int .u32 turn5] 134 (0, 0)) :: ((b10, .cells #[.int .i64 n, .slice a19 n23 c20] 24 (0, 0)) :: ((b1, .cells #[.int .i64 n, .slice a19 n23 c20] 24 (0, 0)) :: (Lb115 ++ [])))) rfl ?_
 refine shO_nil ?_
 refine kW (kf (fC (fC fO)) (kc (kd kr))) ?_
 refine shW_ret ?_
 refine q_res1 Try.results40 (res_cellA (cs := #[.int .i64 n, .slice a19 n23 c20]) Try.isAgg24 Try.sizeOf24 rfl (Has.own 0 rfl) (Nat.le_of_ble_eq_true rfl) rfl) (s1 (s2 (s4 sr))) ?_
 obtain ⟨rfl, rfl, rfl, rfl⟩ := inj4 r114
 exact ⟨_, _, _, _, rfl, rfl, hz116.any⟩


set_option maxHeartbeats 1000000 in
theorem oyezlaw01_Aired_w {b_b : Nat} {metal_a : Option Addr} {metal_c : Nat} {metal : List Int} {at_ : Int} {turn : Int} {F : FS} (h_metal : RowR 1 (iE .u8) F metal_a metal_c metal) {r : Int} {r2 : Int} {r3 : Int} {r4 : Int} (hr : oyezlaw01_Aired metal at_ turn = some (r, r2, r3, r4)) :
    SH.Spec Try.prog 41 #[.pointer (some ⟨b_b, 0, none⟩)] F [(b_b, .cells #[.slice metal_a metal.length metal_c, .int .i64 at_, .int .u32 turn] 134 (0, 0))] fun _ L' v => v = .agg #[.int .i64 r, .int .i64 r2] ∧ L' = [(b_b, .cells #[.slice metal_a metal.length metal_c, .int .i64 r3, .int .u32 r4] 134 (0, 0))] := by
 refine spec_of_shW (args := [.pointer (some ⟨b_b, 0, none⟩)]) Try.func41 rfl Try.ntmps41 (Nat.le_of_ble_eq_true rfl) ?_
 intro K _ _; rw [oyezlaw01_Aired] at hr
 refine wsr ?_
 refine o_alloc rfl Try.zeroValue48 ?_; intro b1 hb1
 refine nsr (om rfl rfl ?_)
 obtain ⟨n, at_2, turn2, h2, r5⟩ := b3_ok hr; clear hr
 refine o_callG (Lb := [(b_b, .cells #[.slice metal_a metal.length metal_c, .int .i64 at_, .int .u32 turn] 134 (0, 0))]) (Lr := [(b1, .cells #[.int .i64 0, .int .i64 0] 48 (0, 0))]) rfl Try.call48 rfl rfl rfl (((fC fO).trans (pC pR))) (oyezkit_Bell_Stroke_w h_metal h2) ?_; rintro _ F6 _ hF7 hd9 hn8 ⟨rfl, rfl⟩
 replace h_metal := h_metal.mono (iE_ok _) hF7
 refine shO_L (lb (ln rfl)) ?_
 refine om rfl rfl ?_
 obtain ⟨n2, at_3, turn3, h10, r11⟩ := b3_ok r5; clear r5
 refine o_callG (Lb := [(b_b, .cells #[.slice metal_a metal.length metal_c, .int .i64 at_2, .int .u32 turn2] 134 (0, 0))]) (Lr := [(b1, .cells #[.int .i64 0, .int .i64 0] 48 (0, 0))]) rfl Try.call49 rfl rfl rfl (pR) (oyezkit_Bell_Strike_w h_metal h10) ?_; rintro _ F12 _ hF13 hd15 hn14 ⟨rfl, rfl⟩
 replace h_metal := h_metal.mono (iE_ok _) hF13
 refine shO_L (lb (ln rfl)) ?_
 refine ov (v_build (v := .agg #[.int .i64 n, .int .i64 n2]) rfl (by intro w; kernel_rfl)) rfl ?_
 refine o_storeA (i := 1) Try.sizeOf48 rfl rfl rfl (by simp [Value.oneCell']) rfl (Nat.le_of_ble_eq_true rfl) ?_
 refine shO_L (L' := [(b_b, .cells #[.slice metal_a metal.length metal_c, .int .i64 at_3, .int .u32 turn3] 134 (0, 0)), (b1, .cells #[.int .i64 n, .int .i64 n2] 48 (0, 0))]) rfl ?_
 refine shO_nil ?_
 refine kW (kf (fC fO) kr) ?_
 refine shW_ret ?_
 refine q_res1 Try.results41 (res_cellA (cs := #[.int .i64 n, .int .i64 n2]) Try.isAgg48 Try.sizeOf48 rfl (Has.own 0 rfl) (Nat.le_of_ble_eq_true rfl) rfl) (s1 (s2 sr)) ?_
 obtain ⟨rfl, rfl, rfl, rfl⟩ := inj4 r11
 exact ⟨rfl, rfl⟩


set_option maxHeartbeats 1000000 in
theorem oyezlaw01_streets_w {wide : Int} {plots_a : Option Addr} {plots_c : Nat} {plots : List Int} {F : FS} (h_plots : RowR 1 (iE .i64) F plots_a plots_c plots) {r : List Int} (hr : oyezlaw01_streets wide plots = some r) :
    SH.Spec Try.prog 42 #[.agg #[.int .i64 wide, .slice plots_a plots.length plots_c]] F [] fun F' L' v => ∃ (ra : Option Addr) (rn : Nat) (rc : Nat) (rL : LH), v = .slice ra rn rc ∧ L' = rL ++ [] ∧ SlR 0 3 1 (iE .i64) F' ra rn rc r rL := by
 refine spec_of_shW (args := [.agg #[.int .i64 wide, .slice plots_a plots.length plots_c]]) Try.func42 rfl Try.ntmps42 (Nat.le_of_ble_eq_true rfl) ?_
 intro K _ _; rw [oyezlaw01_streets] at hr
 refine wsr ?_
 refine o_box rfl rfl ?_; intro b1 hb1
 refine oa rfl rfl (nsr (oa rfl rfl (shO_nil ?_)))
 obtain ⟨out, h8, r9⟩ := b1_ok hr; clear hr
 refine shW_join (fun e1 F1 L1 => ∃ (a2 : Option Addr) (n6 : Nat) (c3 : Nat) (Lb4 : LH), F = F1 ∧ L1 = (Lb4 ++ []) ∧ e1.sub [(3, .slice a2 n6 c3)] ∧ SlR K.w0.heap.size 3 1 (iE .i64) F1 a2 n6 c3 out Lb4) ?_ ?_
 · clear r9
   refine wsr ?_
   refine ov (v_fieldAddr fa_24_1 rfl) rfl ?_
   refine ov (v_load Try.isAgg22 rfl (Has.own 0 rfl) rfl) rfl ?_
   refine ov (v_lenS Try.underlying22 rfl) rfl ?_
   refine om rfl rfl (shO_nil ?_)
   refine shW_block ?_
   refine kW kn ?_
   refine shW_lp (fun fu1 e1 F1 L1 => ∃ (tl : List Int) (k : Int), tl.length = fu1 ∧ Lst plots k tl ∧ ∃ (out2 : List Int) (a10 : Option Addr) (n14 : Nat) (c11 : Nat) (Lb12 : LH), oyezlaw01_streets_l1 tl k out2 = some out ∧ F = F1 ∧ L1 = (Lb12 ++ []) ∧ e1.sub [(3, .slice a10 n14 c11), (7, .slice plots_a plots.length plots_c), (8, .int .i64 (plots.length : Int)), (9, .int .i64 k)] ∧ SlR K.w0.heap.size 3 1 (iE .i64) F1 a10 n14 c11 out2 Lb12) _ (m0 (ke kr) ⟨_, _, rfl, Lst.start _, [], none, 0, 0, [], h8, rfl, rfl, (sc rfl (sc rfl (sc rfl (sc rfl (sn _))))), SlR.nil _ _ _ _ _⟩) ?_
   rintro fu1 e1 _ _ ⟨tl, k, hn17, hk16, out2, a10, n14, c11, Lb12, r18, rfl, rfl, he19, hz13⟩
   refine shW_env _ he19 ?_; clear he19
   refine wsr ?_
   refine ov (v_lssK rfl rfl) rfl ?_
   refine shO_nil (shW_seq ?_)
   refine shW_condP rfl (fun c21 => ?_) (fun c21 => ?_)
   · obtain ⟨x, tl2, rfl, hx23, g24, hk22⟩ := Lst.succ hk16 c21
     rw [oyezlaw01_streets_l1] at r18
     refine shW_skip (shW_seq ?_)
     refine shW_block ?_
     refine wsr (om rfl rfl ?_)
     obtain ⟨b25, o26, c27, vs28, ha29, hs30, hle31, rfl, hl32, hc33⟩ := RowR.at (iE_ok _) h_plots (Lb12 ++ []) g24.1 hx23
     refine ov (v_indexO Try.underlying22 Try.sizeOf73 rfl ha29 rfl g24) rfl ?_
     refine ov (v_load Try.isAgg73 rfl hs30 (hc33 0 (by decide))) rfl ?_
     refine oa rfl rfl (oa rfl rfl (nsr (om rfl rfl ?_)))
     refine ov (v_eql rfl rfl) rfl ?_
     refine shO_nil ?_
     refine shW_condP rfl (fun c34 => ?_) (fun c34 => ?_)
     · have r35 := ite_t r18 c34; clear r18
       refine shW_region (om rfl rfl (om rfl rfl ?_))
       refine o_buildSlice (cs := #[.int .i64 k]) rfl rfl (buildSlice_all slt_26 [.int .i64 k] rfl (by decide) (by simp [Value.cells]) (by decide)) ?_; intro b36 hb36
       obtain ⟨out3, h37, g38, r39⟩ := ap_ok r35; clear r35
       refine o_appZ (xs := out2) (ys := [k]) (zs := out3) rfl slt_26 rfl rfl (Nat.le_refl _) (fun _ => .c .h) hz13 (SrcR.box (vss := [[.int .i64 k]]) (ys := [k]) 0 rfl (iE_ok _) (.cons rfl .nil) rfl rfl) h37 g38 (by decide) ?_; intro a40 n44 c41 Lb42 hz43
       refine kO (kd kr) ?_
       refine oa rfl rfl (shO_nil (inBlock_n (id := 1) (shW_region ?_)))
       refine ov (v_add rfl rfl (Lst.r64 hk16 c21 (RowR.lt h_plots))) rfl ?_
       refine om rfl rfl (shO_nil ?_)
       subst hn17; exact le kr ⟨_, _, rfl, hk22, out3, a40, n44, c41, Lb42, r39, rfl, rfl, (sc rfl (sc rfl (sc rfl (sc rfl (sn _))))), hz43⟩
     have r46 := ite_f r18 c34; clear r18
     refine shW_skip (inBlock_n (id := 1) (shW_region ?_))
     refine ov (v_add rfl rfl (Lst.r64 hk16 c21 (RowR.lt h_plots))) rfl ?_
     refine om rfl rfl (shO_nil ?_)
     subst hn17; exact le kr ⟨_, _, rfl, hk22, out2, a10, n14, c11, Lb12, r46, rfl, rfl, (sc rfl (sc rfl (sc rfl (sc rfl (sn _))))), hz13⟩
   obtain rfl := Lst.zero hk16 c21
   rw [oyezlaw01_streets_l1] at r18
   refine shW_exit (andThen_exit (andThen_exit ?_))
   refine inBlock_exit ?_
   obtain rfl := inj1 r18
   exact mi kr ⟨a10, n14, c11, Lb12, rfl, rfl, (sc rfl (sn _)), hz13⟩
 rintro e1 _ _ ⟨a2, n6, c3, Lb4, rfl, rfl, he47, hz5⟩
 refine shW_env _ he47 ?_; clear he47
 refine wsr (om rfl rfl (oa rfl rfl (shO_nil (shW_ret ?_))))
 refine q_res1 Try.results42 (res_tmp rfl) (sr) ?_
 obtain rfl := inj1 r9
 exact ⟨_, _, _, _, rfl, rfl, hz5.any⟩


set_option maxHeartbeats 1000000 in
theorem hear_Winds_w {wide : Int} {plots_a : Option Addr} {plots_c : Nat} {plots : List Int} {voice : Int} {stand : Int} {house : Int} {F : FS} (h_plots : RowR 1 (iE .i64) F plots_a plots_c plots) {r : List Int} {r2 : Int} (hr : hear_Winds wide plots voice stand house = some (r, r2)) :
    SH.Spec Try.prog 43 #[.agg #[.int .i64 wide, .slice plots_a plots.length plots_c], .int .i64 voice, .int .i64 stand, .int .i64 house] F [] fun F' L' v => ∃ (ra : Option Addr) (rn : Nat) (rc : Nat) (rL : LH), v = .tuple #[.slice ra rn rc, .int .i64 r2] ∧ L' = rL ++ [] ∧ SlR 0 25 1 (iE .i64) F' ra rn rc r rL := by
 refine spec_of_shW (args := [.agg #[.int .i64 wide, .slice plots_a plots.length plots_c], .int .i64 voice, .int .i64 stand, .int .i64 house]) Try.func43 rfl Try.ntmps43 (Nat.le_of_ble_eq_true rfl) ?_
 intro K _ _; rw [hear_Winds] at hr
 refine wsr ?_
 refine o_box rfl rfl ?_; intro b1 hb1
 refine oa rfl rfl (oa rfl rfl (shO_nil (shW_seq (wsr ?_))))
 refine ov (v_loadA (cs := #[.int .i64 wide, .slice plots_a plots.length plots_c]) Try.isAgg24 Try.sizeOf24 rfl (Has.own 0 rfl) (Nat.le_of_ble_eq_true rfl) rfl) rfl ?_
 obtain ⟨n, h2, r3⟩ := b1_ok hr; clear hr
 refine o_callV rfl Try.call33 rfl rfl rfl (hear_Check_w h_plots h2) ?_
 refine oa rfl rfl (nsr (om rfl rfl ?_))
 refine ov (v_neq rfl rfl) rfl ?_
 refine shO_nil ?_
 refine shW_condP rfl (fun c4 => ?_) (fun c4 => ?_)
 · have r5 := ite_t r3 c4; clear r3
   refine wsr (om rfl rfl (oa rfl rfl (oa rfl rfl (shO_nil ?_))))
   refine kW kn ?_
   refine shW_ret (andThen_ret ?_)
   refine q_res2 Try.results43 (res_tmp rfl) (res_tmp rfl) (sr) ?_
   obtain ⟨rfl, rfl⟩ := inj2 r5
   exact ⟨_, _, _, [], rfl, rfl, SlR.nil _ _ _ _ _⟩
 have r6 := ite_f r3 c4; clear r3
 refine shW_skip (shW_seq (wsr (om rfl rfl ?_)))
 refine ov (v_build (v := .agg #[.int .i64 0, .int .i64 voice]) rfl (by intro w; kernel_rfl)) rfl ?_
 obtain ⟨n2, h7, r8⟩ := b1_ok r6; clear r6
 refine o_callV rfl Try.call35 rfl rfl rfl (hear_CheckAir_w h7) ?_
 refine oa rfl rfl (nsr (om rfl rfl ?_))
 refine ov (v_neq rfl rfl) rfl ?_
 refine shO_nil ?_
 refine shW_condP rfl (fun c9 => ?_) (fun c9 => ?_)
 · have r10 := ite_t r8 c9; clear r8
   refine wsr (om rfl rfl (oa rfl rfl (oa rfl rfl (shO_nil ?_))))
   refine kW kn ?_
   refine shW_ret (andThen_ret ?_)
   refine q_res2 Try.results43 (res_tmp rfl) (res_tmp rfl) (sr) ?_
   obtain ⟨rfl, rfl⟩ := inj2 r10
   exact ⟨_, _, _, [], rfl, rfl, SlR.nil _ _ _ _ _⟩
 have r11 := ite_f r8 c9; clear r8
 refine shW_skip ?_
 refine shW_join (fun e1 F1 L1 => hear_Winds_j1 wide plots voice stand house = some (r, r2) ∧ FExt F F1 ∧ L1 = [(b1, .cells #[.int .i64 wide, .slice plots_a plots.length plots_c] 24 (0, 0))] ∧ e1.sub [(1, .int .i64 voice), (2, .int .i64 stand), (3, .int .i64 house), (4, .pointer (some ⟨b1, 0, none⟩))]) ?_ ?_
 · refine shW_seq ?_
   refine shW_drawM [(.still, 0), (.still, 1), (.still, 3), (.still, 4), (.still, 8), (.seq, 2), (.seq, 5), (.seq, 6), (.still, 7)] (by kernel_rfl) (by kernel_rfl) (trivial) (by rfl) ?_
   refine shM_v (v := .agg #[.int .i64 wide, .slice plots_a plots.length plots_c]) (ek := [(4, .pointer (some ⟨b1, 0, none⟩))]) (Ls := [(b1, .cells #[.int .i64 wide, .slice plots_a plots.length plots_c] 24 (0, 0))]) rfl rfl rfl rfl ((sc rfl (sn _))) (by kernel_rfl) (s0 sr) (fun H F' L' hF' hL' => v_loadA (cs := #[.int .i64 wide, .slice plots_a plots.length plots_c]) Try.isAgg24 Try.sizeOf24 rfl ((Has.own 0 rfl).ext hF' hL') (Nat.le_of_ble_eq_true rfl) rfl) ?_
   refine shM_v (v := .int .i64 stand) (ek := [(2, .int .i64 stand)]) (Ls := []) rfl rfl rfl rfl ((sc rfl (sn _))) (by kernel_rfl) sm (fun H F' L' hF' hL' => v_move rfl) ?_
   refine shM_v (v := .agg #[.int .i64 wide, .slice plots_a plots.length plots_c]) (ek := [(4, .pointer (some ⟨b1, 0, none⟩))]) (Ls := [(b1, .cells #[.int .i64 wide, .slice plots_a plots.length plots_c] 24 (0, 0))]) rfl rfl rfl rfl ((sc rfl (sn _))) (by kernel_rfl) (s0 sr) (fun H F' L' hF' hL' => v_loadA (cs := #[.int .i64 wide, .slice plots_a plots.length plots_c]) Try.isAgg24 Try.sizeOf24 rfl ((Has.own 0 rfl).ext hF' hL') (Nat.le_of_ble_eq_true rfl) rfl) ?_
   refine shM_v (v := .int .i64 house) (ek := [(3, .int .i64 house)]) (Ls := []) rfl rfl rfl rfl ((sc rfl (sn _))) (by kernel_rfl) sm (fun H F' L' hF' hL' => v_move rfl) ?_
   refine shM_v (v := .int .i64 0) (ek := []) (Ls := []) rfl rfl rfl rfl ((sn _)) (by kernel_rfl) sm (fun H F' L' hF' hL' => v_move rfl) ?_
   refine ⟨_, [(29, .agg #[.int .i64 wide, .slice plots_a plots.length plots_c]), (30, .int .i64 stand)], rfl, rfl, (sc rfl (sc rfl (sn _))), by kernel_rfl, ?_⟩; intro H
   obtain ⟨n3, h12, r13⟩ := b1_ok r11; clear r11
   refine o_callV rfl Try.call99 rfl rfl rfl (hear_Town_is_w h_plots h12) ?_
   refine shO_nil ⟨_, rfl, FExt.refl _, [8, 4, 3], by kernel_rfl, .inr (fun d h => by cases h; rfl), (List.forall_mem_cons.2 ⟨sm, (List.forall_mem_cons.2 ⟨sm, (List.forall_mem_cons.2 ⟨s0 sr, (fun _ h => absurd h List.not_mem_nil)⟩)⟩)⟩), ?_⟩
   refine ⟨_, [(32, .agg #[.int .i64 wide, .slice plots_a plots.length plots_c]), (33, .int .i64 house)], rfl, rfl, (sc rfl (sc rfl (sn _))), by kernel_rfl, ?_⟩; intro H
   obtain ⟨n4, h14, r15⟩ := b1_ok r13; clear r13
   refine o_callV rfl Try.call99 rfl rfl rfl (hear_Town_is_w h_plots h14) ?_
   refine shO_nil ⟨_, rfl, FExt.refl _, [8], by kernel_rfl, .inr (fun d h => by cases h; rfl), (List.forall_mem_cons.2 ⟨sm, (fun _ h => absurd h List.not_mem_nil)⟩), ?_⟩
   refine ⟨_, [(31, .int .i64 n3), (34, .int .i64 n4)], rfl, rfl, (sc rfl (sc rfl (sn _))), by kernel_rfl, ?_⟩; intro H
   refine o_buildSlice (cs := #[.int .i64 n3, .int .i64 n4]) rfl rfl (buildSlice_all slt_135 [.int .i64 n3, .int .i64 n4] rfl (by decide) (by simp [Value.cells]) (by decide)) ?_; intro b16 hb16
   refine shO_nil ⟨_, rfl, FExt.refl _, [8], by kernel_rfl, .inr (fun d h => by cases h; rfl), (List.forall_mem_cons.2 ⟨sm, (fun _ h => absurd h List.not_mem_nil)⟩), ?_⟩
   refine shM_v (v := .int .i64 2) (ek := [(35, .slice (some ⟨b16, 0, none⟩) 2 2)]) (Ls := []) rfl rfl rfl rfl ((sc rfl (sn _))) (by kernel_rfl) sm (fun H F' L' hF' hL' => v_lenS Try.underlying135 rfl) ?_
   refine shM_nil ?_
   refine shW_block ?_
   refine shW_freeze 0 rfl hb16 ?_; intro F17 hF18 hz19
   refine shW_L (L' := [(b1, .cells #[.int .i64 wide, .slice plots_a plots.length plots_c] 24 (0, 0))]) rfl ?_
   replace h_plots := h_plots.mono (iE_ok _) hF18
   have h20 : RowR 1 (iE .i64) F17 (some ⟨b16, 0, none⟩) 2 [n3, n4] := RowR.of_block (iE_ok _) (vss := [[.int .i64 n3], [.int .i64 n4]]) (xs := [n3, n4]) hz19 (.cons rfl (.cons rfl .nil)) rfl (by simp [maxLen])
   obtain ⟨g21, r22⟩ := gd_ok r15; clear r15
   refine shW_lp (fun fu2 e1 F1 L1 => ∃ (k : Int), Ctr 0 2 k fu2 ∧ hear_Winds_l2 wide plots voice stand house n3 n4 fu2 k = some (r, r2) ∧ F17 = F1 ∧ L1 = [(b1, .cells #[.int .i64 wide, .slice plots_a plots.length plots_c] 24 (0, 0))] ∧ e1.sub [(1, .int .i64 voice), (2, .int .i64 stand), (3, .int .i64 house), (4, .pointer (some ⟨b1, 0, none⟩)), (35, .slice (some ⟨b16, 0, none⟩) [n3, n4].length 2), (36, .int .i64 2), (37, .int .i64 k)]) _ (m0 kr ⟨_, Ctr.start _ _, r22, rfl, rfl, (sc rfl (sc rfl (sc rfl (sc rfl (sc rfl (sc rfl (sc rfl (sn _))))))))⟩) ?_
   rintro fu2 e1 _ _ ⟨k, hk23, r25, rfl, rfl, he26⟩
   refine shW_env _ he26 ?_; clear he26
   refine wsr ?_
   refine ov (v_lssK rfl rfl) rfl ?_
   refine shO_nil (shW_seq ?_)
   refine shW_condP rfl (fun c28 => ?_) (fun c28 => ?_)
   · obtain ⟨fu2, rfl, hk29⟩ := Ctr.succ hk23 c28
     rw [hear_Winds_l2] at r25
     refine shW_skip (shW_seq ?_)
     refine shW_block ?_
     refine wsr ?_
     obtain ⟨x, g30, hx31, r32⟩ := ix_ok r25; clear r25
     obtain ⟨b33, o34, c35, vs36, ha37, hs38, hle39, rfl, hl40, hc41⟩ := RowR.at (iE_ok _) h20 ([(b1, .cells #[.int .i64 wide, .slice plots_a plots.length plots_c] 24 (0, 0))]) g30.1 hx31
     refine ov (v_indexO Try.underlying135 Try.sizeOf34 rfl ha37 rfl g30) rfl ?_
     refine ov (v_load Try.isAgg34 rfl hs38 (hc41 0 (by decide))) rfl ?_
     refine oa rfl rfl (nsr (om rfl rfl ?_))
     refine ov (v_neq rfl rfl) rfl ?_
     refine shO_nil ?_
     refine shW_condP rfl (fun c42 => ?_) (fun c42 => ?_)
     · have r43 := ite_t r32 c42; clear r32
       refine wsr (om rfl rfl (oa rfl rfl (oa rfl rfl (shO_nil ?_))))
       refine kW kn ?_
       refine shW_ret (inBlock_ret (andThen_ret (andThen_ret (inBlock_ret (andThen_ret ?_)))))
       refine q_res2 Try.results43 (res_tmp rfl) (res_tmp rfl) (sr) ?_
       obtain ⟨rfl, rfl⟩ := inj2 r43
       exact ⟨_, _, _, [], rfl, rfl, SlR.nil _ _ _ _ _⟩
     have r44 := ite_f r32 c42; clear r32
     refine shW_skip (inBlock_n (id := 1) (shW_region ?_))
     refine ov (v_add rfl rfl (Ctr.r64 hk23 c28 g21)) rfl ?_
     refine om rfl rfl (shO_nil ?_)
     exact le kr ⟨_, hk29, r44, rfl, rfl, (sc rfl (sc rfl (sc rfl (sc rfl (sc rfl (sc rfl (sc rfl (sn _))))))))⟩
   obtain rfl := Ctr.zero hk23 c28
   rw [hear_Winds_l2] at r25
   refine shW_exit (andThen_exit (andThen_exit ?_))
   refine inBlock_exit ?_
   exact mi kr ⟨r25, hF18, rfl, (sc rfl (sc rfl (sc rfl (sc rfl (sn _)))))⟩
 rintro e1 F47 _ ⟨r45, hF48, rfl, he46⟩
 refine shW_env _ he46 ?_; clear he46
 replace h_plots := h_plots.mono (iE_ok _) hF48
 rw [hear_Winds_j1] at r45
 refine wsr (oa rfl rfl (shO_nil ?_))
 obtain ⟨out, h55, r56⟩ := b1_ok r45; clear r45
 refine shW_join (fun e1 F1 L1 => ∃ (a49 : Option Addr) (n53 : Nat) (c50 : Nat) (Lb51 : LH), F47 = F1 ∧ L1 = (Lb51 ++ []) ∧ e1.sub [(14, .slice a49 n53 c50)] ∧ SlR K.w0.heap.size 25 1 (iE .i64) F1 a49 n53 c50 out Lb51) ?_ ?_
 · clear r56
   refine wsr (oa rfl rfl (shO_nil ?_))
   refine shW_block ?_
   refine shW_lp (fun fu3 e1 F1 L1 => ∃ (out2 : List Int) (w : Int) (a57 : Option Addr) (n61 : Nat) (c58 : Nat) (Lb59 : LH), hear_Winds_l3 wide plots voice stand house fu3 out2 w = some out ∧ F47 = F1 ∧ L1 = ((b1, .cells #[.int .i64 wide, .slice plots_a plots.length plots_c] 24 (0, 0)) :: (Lb59 ++ [])) ∧ e1.sub [(1, .int .i64 voice), (2, .int .i64 stand), (3, .int .i64 house), (4, .pointer (some ⟨b1, 0, none⟩)), (14, .slice a57 n61 c58), (15, .int .i64 w)] ∧ SlR K.w0.heap.size 25 1 (iE .i64) F1 a57 n61 c58 out2 Lb59) FU (m0 (kc (ke kr)) ⟨[], 0, none, 0, 0, [], h55, rfl, rfl, (sc rfl (sc rfl (sc rfl (sc rfl (sc rfl (sc rfl (sn _))))))), SlR.nil _ _ _ _ _⟩) ?_
   rintro fu3 e1 _ _ ⟨out2, w, a57, n61, c58, Lb59, r65, rfl, rfl, he66, hz60⟩
   refine shW_env _ he66 ?_; clear he66
   rcases fu3 with _ | fu3
   · rw [hear_Winds_l3] at r65; cases r65
   rw [hear_Winds_l3] at r65
   refine shW_seq (wsr (om rfl rfl ?_))
   refine ov (v_leqK rfl rfl) rfl ?_
   refine shO_nil ?_
   refine shW_condP rfl (fun c67 => ?_) (fun c67 => ?_)
   · have r68 := ite_t r65 c67; clear r65
     refine shW_skip (shW_seq ?_)
     refine shW_block ?_
     refine wsr ?_
     refine ov (v_loadA (cs := #[.int .i64 wide, .slice plots_a plots.length plots_c]) Try.isAgg24 Try.sizeOf24 rfl (Has.own 0 rfl) (Nat.le_of_ble_eq_true rfl) rfl) rfl ?_
     refine om rfl rfl (om rfl rfl (om rfl rfl ?_))
     obtain ⟨n5, n6, h69, r70⟩ := b2_ok r68; clear r68
     refine o_callV rfl Try.call19 rfl rfl rfl (hear_Need_w h_plots h69) ?_
     refine om rfl rfl (ox rfl rfl rfl (ox rfl rfl rfl (oa rfl rfl (oa rfl rfl (shO_nil ?_)))))
     obtain ⟨k2, h71, r72⟩ := b1_ok r70; clear r70
     refine shW_join (fun e1 F1 L1 => F47 = F1 ∧ L1 = ((b1, .cells #[.int .i64 wide, .slice plots_a plots.length plots_c] 24 (0, 0)) :: (Lb59 ++ [])) ∧ e1.sub [(1, .int .i64 voice), (2, .int .i64 stand), (3, .int .i64 house), (4, .pointer (some ⟨b1, 0, none⟩)), (14, .slice a57 n61 c58), (15, .int .i64 w), (63, .bool k2)]) ?_ ?_
     · clear r72
       refine shW_region (om rfl rfl ?_)
       refine ov (v_eql rfl rfl) rfl ?_
       refine om rfl rfl ?_
       by_cases c73 : n6 = 0
       · have r74 := ite_t h71 c73; clear h71
         refine shO_on (b := true) 59 rfl (Env.isT rfl c73) (om rfl rfl (shO_on (b := true) 59 rfl (Env.isT rfl c73) (om rfl rfl (shO_on (b := true) 59 rfl (Env.isT rfl c73) ?_))))
         refine ov (v_leqK rfl rfl) rfl ?_
         refine ov (v_pick_t (evD_true rfl c73) rfl) rfl ?_
         refine shO_nil ?_
         obtain rfl := inj1 r74
         exact mi kr ⟨rfl, rfl, (sc rfl (sc rfl (sc rfl (sc rfl (sc rfl (sc rfl (sc rfl (sn _))))))))⟩
       have r75 := ite_f h71 c73; clear h71
       refine shO_off (b' := false) 59 rfl (Env.isF rfl c73) rfl rfl (shO_off (b' := false) 59 rfl (Env.isF rfl c73) rfl rfl (shO_off (b' := false) 59 rfl (Env.isF rfl c73) rfl rfl ?_))
       refine ov (v_pick_f (evD_false rfl c73) rfl) rfl ?_
       refine shO_nil ?_
       obtain rfl := inj1 r75
       exact mi kr ⟨rfl, rfl, (sc rfl (sc rfl (sc rfl (sc rfl (sc rfl (sc rfl (sc rfl (sn _))))))))⟩
     rintro e1 _ _ ⟨rfl, rfl, he76⟩
     refine shW_env _ he76 ?_; clear he76
     refine shW_cond rfl (fun c77 => ?_) (fun c77 => ?_)
     · have r78 := bt r72 c77; clear r72
       refine shW_region (om rfl rfl (om rfl rfl ?_))
       refine o_buildSlice (cs := #[.int .i64 w]) rfl rfl (buildSlice_all slt_74 [.int .i64 w] rfl (by decide) (by simp [Value.cells]) (by decide)) ?_; intro b79 hb79
       obtain ⟨out3, h80, g81, r82⟩ := ap_ok r78; clear r78
       refine o_appZ (xs := out2) (ys := [w]) (zs := out3) rfl slt_74 rfl rfl (Nat.le_refl _) (fun _ => .c (.c .h)) hz60 (SrcR.box (vss := [[.int .i64 w]]) (ys := [w]) 0 rfl (iE_ok _) (.cons rfl .nil) rfl rfl) h80 g81 (by decide) ?_; intro a83 n87 c84 Lb85 hz86
       refine kO (kd kr) ?_
       refine oa rfl rfl (shO_nil (inBlock_n (id := 3) (shW_region (om rfl rfl ?_))))
       obtain ⟨g89, r90⟩ := gd_ok r82; clear r82
       refine ov (v_add rfl rfl g89) rfl ?_
       refine oa rfl rfl (shO_nil ?_)
       exact le kr ⟨out3, w + 1, a83, n87, c84, Lb85, r90, rfl, rfl, (sc rfl (sc rfl (sc rfl (sc rfl (sc rfl (sc rfl (sn _))))))), hz86⟩
     have r91 := bf r72 c77; clear r72
     refine shW_skip (inBlock_n (id := 3) (shW_region (om rfl rfl ?_)))
     obtain ⟨g92, r93⟩ := gd_ok r91; clear r91
     refine ov (v_add rfl rfl g92) rfl ?_
     refine oa rfl rfl (shO_nil ?_)
     exact le kr ⟨out2, w + 1, a57, n61, c58, Lb59, r93, rfl, rfl, (sc rfl (sc rfl (sc rfl (sc rfl (sc rfl (sc rfl (sn _))))))), hz60⟩
   have r94 := ite_f r65 c67; clear r65
   refine shW_exit (andThen_exit (andThen_exit ?_))
   refine inBlock_exit ?_
   obtain rfl := inj1 r94
   exact mi (kd kr) ⟨a57, n61, c58, Lb59, rfl, rfl, (sc rfl (sn _)), hz60⟩
 rintro e1 _ _ ⟨a49, n53, c50, Lb51, rfl, rfl, he95, hz52⟩
 refine shW_env _ he95 ?_; clear he95
 refine wsr (om rfl rfl (oa rfl rfl (oa rfl rfl (shO_nil (shW_ret ?_)))))
 refine q_res2 Try.results43 (res_tmp rfl) (res_tmp rfl) (sr) ?_
 obtain ⟨rfl, rfl⟩ := inj2 r56
 exact ⟨_, _, _, _, rfl, rfl, hz52.any⟩


set_option maxHeartbeats 1000000 in
theorem slices_Index_hear_Dir_hear_Dir_w {s__a : Option Addr} {s__c : Nat} {s_ : List Int} {v : Int} {F : FS} (h_s_ : RowR 1 (iE .i64) F s__a s__c s_) {r : Int} (hr : slices_Index_hear_Dir_hear_Dir s_ v = some r) :
    SpecV Try.prog 100 #[.slice s__a s_.length s__c, .int .i64 v] F (.int .i64 r) := by
 refine spec_of_shW (args := [.slice s__a s_.length s__c, .int .i64 v]) Try.func100 rfl Try.ntmps100 (Nat.le_of_ble_eq_true rfl) ?_
 intro K _ _; rw [slices_Index_hear_Dir_hear_Dir] at hr
 refine wsr (oa rfl rfl (shO_nil ?_))
 refine shW_join (fun e1 F1 L1 => slices_Index_hear_Dir_hear_Dir_j1 = some r ∧ F = F1 ∧ L1 = [] ∧ e1.sub []) ?_ ?_
 · refine wsr (om rfl rfl ?_)
   refine ov (v_lenS Try.underlying74 rfl) rfl ?_
   refine om rfl rfl (shO_nil ?_)
   refine shW_block ?_
   refine shW_lp (fun fu2 e1 F1 L1 => ∃ (tl : List Int) (k : Int), tl.length = fu2 ∧ Lst s_ k tl ∧ slices_Index_hear_Dir_hear_Dir_l2 v tl k = some r ∧ F = F1 ∧ L1 = [] ∧ e1.sub [(0, .slice s__a s_.length s__c), (1, .int .i64 v), (7, .int .i64 (s_.length : Int)), (8, .int .i64 k)]) _ (m0 kr ⟨_, _, rfl, Lst.start _, hr, rfl, rfl, (sc rfl (sc rfl (sc rfl (sc rfl (sn _)))))⟩) ?_
   rintro fu2 e1 _ _ ⟨tl, k, hn2, hk1, r3, rfl, rfl, he4⟩
   refine shW_env _ he4 ?_; clear he4
   refine wsr ?_
   refine ov (v_lssK rfl rfl) rfl ?_
   refine shO_nil (shW_seq ?_)
   refine shW_condP rfl (fun c6 => ?_) (fun c6 => ?_)
   · obtain ⟨x, tl2, rfl, hx8, g9, hk7⟩ := Lst.succ hk1 c6
     rw [slices_Index_hear_Dir_hear_Dir_l2] at r3
     refine shW_skip (shW_seq ?_)
     refine shW_block ?_
     refine wsr (om rfl rfl (oa rfl rfl (nsr (om rfl rfl (om rfl rfl (om rfl rfl ?_))))))
     obtain ⟨b10, o11, c12, vs13, ha14, hs15, hle16, rfl, hl17, hc18⟩ := RowR.at (iE_ok _) h_s_ ([]) g9.1 hx8
     refine ov (v_indexO Try.underlying74 Try.sizeOf25 rfl ha14 rfl g9) rfl ?_
     refine ov (v_load Try.isAgg25 rfl hs15 (hc18 0 (by decide))) rfl ?_
     refine ov (v_eql rfl rfl) rfl ?_
     refine shO_nil ?_
     refine shW_condP rfl (fun c19 => ?_) (fun c19 => ?_)
     · have r20 := ite_t r3 c19; clear r3
       refine wsr (om rfl rfl (oa rfl rfl (shO_nil (shW_ret (inBlock_ret (andThen_ret (andThen_ret (inBlock_ret (andThen_ret ?_)))))))))
       refine q_res1 Try.results100 (res_tmp rfl) (sr) ?_
       obtain rfl := inj1 r20
       exact rfl
     have r21 := ite_f r3 c19; clear r3
     refine shW_skip (inBlock_n (id := 1) (shW_region ?_))
     refine ov (v_add rfl rfl (Lst.r64 hk1 c6 (RowR.lt h_s_))) rfl ?_
     refine om rfl rfl (shO_nil ?_)
     subst hn2; exact le kr ⟨_, _, rfl, hk7, r21, rfl, rfl, (sc rfl (sc rfl (sc rfl (sc rfl (sn _)))))⟩
   obtain rfl := Lst.zero hk1 c6
   rw [slices_Index_hear_Dir_hear_Dir_l2] at r3
   refine shW_exit (andThen_exit (andThen_exit ?_))
   refine inBlock_exit ?_
   exact mi kr ⟨r3, rfl, rfl, (sn _)⟩
 rintro e1 _ _ ⟨r22, rfl, rfl, he23⟩
 refine shW_env _ he23 ?_; clear he23
 rw [slices_Index_hear_Dir_hear_Dir_j1] at r22
 refine wsr (oa rfl rfl (shO_nil (shW_ret ?_)))
 refine q_res1 Try.results100 (res_tmp rfl) (sr) ?_
 obtain rfl := inj1 r22
 exact rfl


set_option maxHeartbeats 1000000 in
theorem slices_Contains_hear_Dir_hear_Dir_w {s__a : Option Addr} {s__c : Nat} {s_ : List Int} {v : Int} {F : FS} (h_s_ : RowR 1 (iE .i64) F s__a s__c s_) {r : Bool} (hr : slices_Contains_hear_Dir_hear_Dir s_ v = some r) :
    SpecV Try.prog 44 #[.slice s__a s_.length s__c, .int .i64 v] F (.bool r) := by
 refine spec_of_shW (args := [.slice s__a s_.length s__c, .int .i64 v]) Try.func44 rfl Try.ntmps44 (Nat.le_of_ble_eq_true rfl) ?_
 intro K _ _; rw [slices_Contains_hear_Dir_hear_Dir] at hr
 refine wsr (oa rfl rfl (nsr (om rfl rfl (om rfl rfl ?_))))
 obtain ⟨n, h1, r2⟩ := b1_ok hr; clear hr
 refine o_callV rfl Try.call100 rfl rfl rfl (slices_Index_hear_Dir_hear_Dir_w h_s_ h1) ?_
 refine ov (v_geqK rfl rfl) rfl ?_
 refine oa rfl rfl (shO_nil (shW_ret ?_))
 refine q_res1 Try.results44 (res_tmp rfl) (sr) ?_
 obtain rfl := inj1 r2
 exact rfl


set_option maxHeartbeats 1000000 in
theorem oyezlaw01_HearBack_w {numbers_a : Option Addr} {numbers_c : Nat} {numbers : List Int} {F : FS} (h_numbers : RowR 1 (iE .u8) F numbers_a numbers_c numbers) {r : Bool} (hr : oyezlaw01_HearBack numbers = some r) :
    SpecV Try.prog 6 #[.slice numbers_a numbers.length numbers_c] F (.bool r) := by
 refine spec_of_shW (args := [.slice numbers_a numbers.length numbers_c]) Try.func6 rfl Try.ntmps6 (Nat.le_of_ble_eq_true rfl) ?_
 intro K _ _; rw [oyezlaw01_HearBack] at hr
 refine wsr (oa rfl rfl (nsr (om rfl rfl ?_)))
 obtain ⟨metal, at_, turn, h1, r2⟩ := b3_ok hr; clear hr
 refine o_call0 rfl Try.call39 rfl rfl rfl (oyezkit_Hang_w h_numbers h1) ?_; rintro _ F3 _ hF4 hn5 ⟨b7, a8, c9, rfl, rfl, h10⟩
 replace h_numbers := h_numbers.mono (iE_ok _) hF4
 have hb7 := hn5 _ (List.mem_cons_self ..)
 refine shO_L (lb (ln rfl)) ?_
 refine oa rfl rfl (nsr (om rfl rfl ?_))
 obtain ⟨n, l, at_2, turn2, h11, r12⟩ := b4_ok r2; clear r2
 refine o_callG (Lb := [(b7, .cells #[.slice a8 metal.length c9, .int .i64 at_, .int .u32 turn] 134 (0, 0))]) (Lr := []) rfl Try.call40 rfl rfl rfl (pR) (oyezlaw01_Made_w h10 h11) ?_; rintro _ F13 _ hF14 hd16 hn15 ⟨a17, n21, c18, Lb19, rfl, rfl, hz20⟩
 replace h_numbers := h_numbers.mono (iE_ok _) hF14
 replace h10 := h10.mono (iE_ok _) hF14
 have hn23 := newp (Lb' := [(b7, .cells #[.slice a8 metal.length c9, .int .i64 at_2, .int .u32 turn2] 134 (0, 0))]) (by rfl) hd16 hn15
 replace hz20 := hz20.new fun p hp => hn23 p (by simp [hp])
 refine shO_L (lb (lp (ln rfl))) ?_
 refine o_alloc rfl Try.zeroValue24 ?_; intro b24 hb24
 refine o_storeA (i := 0) Try.sizeOf24 rfl rfl rfl (by simp [Value.oneCell']) rfl (Nat.le_of_ble_eq_true rfl) ?_
 refine shO_L (L' := (b24, .cells #[.int .i64 n, .slice a17 n21 c18] 24 (0, 0)) :: ((b7, .cells #[.slice a8 metal.length c9, .int .i64 at_2, .int .u32 turn2] 134 (0, 0)) :: (Lb19 ++ []))) rfl ?_
 refine nsr (om rfl rfl ?_)
 obtain ⟨n2, n3, at_3, turn3, h25, r26⟩ := b4_ok r12; clear r12
 refine o_callG (Lb := [(b7, .cells #[.slice a8 metal.length c9, .int .i64 at_2, .int .u32 turn2] 134 (0, 0))]) (Lr := (b24, .cells #[.int .i64 n, .slice a17 n21 c18] 24 (0, 0)) :: (Lb19 ++ [])) rfl Try.call41 rfl rfl rfl (((fC fO).trans (pC pR))) (oyezlaw01_Aired_w h10 h25) ?_; rintro _ F27 _ hF28 hd30 hn29 ⟨rfl, rfl⟩
 replace h_numbers := h_numbers.mono (iE_ok _) hF28
 replace h10 := h10.mono (iE_ok _) hF28
 replace hz20 := hz20.mono (iE_ok _) hF28
 refine shO_L (lb (ln rfl)) ?_
 refine o_alloc rfl Try.zeroValue48 ?_; intro b31 hb31
 refine o_storeA (i := 0) Try.sizeOf48 rfl rfl rfl (by simp [Value.oneCell']) rfl (Nat.le_of_ble_eq_true rfl) ?_
 refine shO_L (L' := (b31, .cells #[.int .i64 n2, .int .i64 n3] 48 (0, 0)) :: ((b7, .cells #[.slice a8 metal.length c9, .int .i64 at_3, .int .u32 turn3] 134 (0, 0)) :: ((b24, .cells #[.int .i64 n, .slice a17 n21 c18] 24 (0, 0)) :: (Lb19 ++ [])))) rfl ?_
 refine nsr (oa rfl rfl (shO_nil ?_))
 obtain ⟨back, h32, r33⟩ := b1_ok r26; clear r26
 refine shW_join (fun e1 F1 L1 => F27 = F1 ∧ L1 = ((b31, .cells #[.int .i64 n2, .int .i64 n3] 48 (0, 0)) :: ((b24, .cells #[.int .i64 n, .slice a17 n21 c18] 24 (0, 0)) :: (Lb19 ++ []))) ∧ e1.sub [(4, .pointer (some ⟨b24, 0, none⟩)), (5, .pointer (some ⟨b31, 0, none⟩)), (6, .int .i64 back)]) ?_ ?_
 · clear r33
   refine wsr ?_
   refine ov (v_fieldAddr fa_48_0 rfl) rfl ?_
   refine ov (v_load Try.isAgg25 rfl (Has.own 0 rfl) rfl) rfl ?_
   refine ov (v_neq rfl rfl) rfl ?_
   refine shO_nil ?_
   refine shW_condP rfl (fun c34 => ?_) (fun c34 => ?_)
   · have r35 := ite_t h32 c34; clear h32
     refine shW_region ?_
     refine ov (v_fieldAddr fa_48_0 rfl) rfl ?_
     refine ov (v_load Try.isAgg25 rfl (Has.own 0 rfl) rfl) rfl ?_
     obtain ⟨g36, r37⟩ := gd_ok r35; clear r35
     refine ov (v_add rfl rfl g36) rfl ?_
     refine ov (v_remT rfl rfl (by decide)) rfl ?_
     obtain ⟨g38, r39⟩ := gd_ok r37; clear r37
     refine ov (v_add rfl rfl g38) rfl ?_
     refine oa rfl rfl (shO_nil ?_)
     obtain rfl := inj1 r39
     exact mi (kc (kd kr)) ⟨rfl, rfl, (sc rfl (sc rfl (sc rfl (sn _))))⟩
   have r40 := ite_f h32 c34; clear h32
   refine shW_skip ?_
   obtain rfl := inj1 r40
   exact mi (kc (kd kr)) ⟨rfl, rfl, (sc rfl (sc rfl (sc rfl (sn _))))⟩
 rintro e1 _ _ ⟨rfl, rfl, he41⟩
 refine shW_env _ he41 ?_; clear he41
 refine shW_join (fun e1 F1 L1 => oyezlaw01_HearBack_j1 = some r ∧ FExt F27 F1 ∧ L1 = [] ∧ e1.sub []) ?_ ?_
 · refine wsr ?_
   refine ov (v_loadA (cs := #[.int .i64 n, .slice a17 n21 c18]) Try.isAgg24 Try.sizeOf24 rfl (Has.own 1 rfl) (Nat.le_of_ble_eq_true rfl) rfl) rfl ?_
   obtain ⟨l2, h42, r43⟩ := b1_ok r33; clear r33
   refine o_callTO (Lb := []) (Lt := Lb19 ++ []) (Lr := [(b31, .cells #[.int .i64 n2, .int .i64 n3] 48 (0, 0)), (b24, .cells #[.int .i64 n, .slice a17 n21 c18] 24 (0, 0))]) rfl Try.call42 rfl rfl rfl (pT ((fC (fC fP)).trans (pA pR)) (ln (lp (ln rfl)))) (fun F2 h2 h3 => by rw [(SlR.caps hz20).1]; exact oyezlaw01_streets_w (hz20.row (iE_ok _) h2 (fun p hp => h3 p (List.mem_append_left _ hp))) h42) (fun _ _ _ _ hq => by obtain ⟨a48, n52, c49, Lb50, rfl, rfl, hz51⟩ := hq; exact ⟨_, _, _, _, rfl, rfl, hz51.flat (fun _ _ h => h)⟩) ?_; rintro _ F44 _ hF45 hd47 hn46 ⟨a48, n52, c49, Lb50, rfl, rfl, hz51⟩
   replace h_numbers := h_numbers.mono (iE_ok _) hF45
   replace h10 := h10.mono (iE_ok _) hF45
   replace hz20 := hz20.mono (iE_ok _) hF45
   have hn54 := newp (Lb' := []) (by rfl) hd47 hn46
   replace hz51 := hz51.new fun p hp => hn54 p (by simp [hp])
   refine shO_L (lp (ln (lp (ln rfl)))) ?_
   refine kO (kf (fS (fS fO)) (kf (fS (fS fO)) kr)) ?_
   refine ov ((v_lenS Try.underlying26 rfl).i (SlR.lenI hz51)) rfl ?_
   refine om rfl rfl (shO_nil ?_)
   refine shW_block ?_
   refine shW_lp (fun fu2 e1 F1 L1 => ∃ (tl : List Int) (k : Int), tl.length = fu2 ∧ Lst l2 k tl ∧ oyezlaw01_HearBack_l2 n l n2 n3 back tl = some r ∧ FExt F44 F1 ∧ L1 = ((b31, .cells #[.int .i64 n2, .int .i64 n3] 48 (0, 0)) :: ((b24, .cells #[.int .i64 n, .slice a17 n21 c18] 24 (0, 0)) :: (Lb19 ++ (Lb50 ++ [])))) ∧ e1.sub [(4, .pointer (some ⟨b24, 0, none⟩)), (5, .pointer (some ⟨b31, 0, none⟩)), (6, .int .i64 back), (33, .slice a48 n52 c49), (34, .int .i64 (l2.length : Int)), (35, .int .i64 k)]) _ (m0 (kc (kc (kg (fS fP) kr))) ⟨_, _, rfl, Lst.start _, r43, FExt.refl _, rfl, (sc rfl (sc rfl (sc rfl (sc rfl (sc rfl (sc rfl (sn _)))))))⟩) ?_
   rintro fu2 e1 F59 _ ⟨tl, k, hn56, hk55, r57, hF60, rfl, he58⟩
   refine shW_env _ he58 ?_; clear he58
   replace h_numbers := h_numbers.mono (iE_ok _) hF60
   replace h10 := h10.mono (iE_ok _) hF60
   replace hz20 := hz20.mono (iE_ok _) hF60
   replace hz51 := hz51.mono (iE_ok _) hF60
   refine wsr ?_
   refine ov (v_lssK rfl rfl) rfl ?_
   refine shO_nil (shW_seq ?_)
   refine shW_condP rfl (fun c62 => ?_) (fun c62 => ?_)
   · obtain ⟨x, tl2, rfl, hx64, g65, hk63⟩ := Lst.succ hk55 c62
     rw [oyezlaw01_HearBack_l2] at r57
     refine shW_skip ?_
     refine shW_join (fun e1 F1 L1 => oyezlaw01_HearBack_j3 (oyezlaw01_HearBack_l2 n l n2 n3 back tl2) = some r ∧ FExt F59 F1 ∧ L1 = ((b31, .cells #[.int .i64 n2, .int .i64 n3] 48 (0, 0)) :: ((b24, .cells #[.int .i64 n, .slice a17 n21 c18] 24 (0, 0)) :: (Lb19 ++ (Lb50 ++ [])))) ∧ e1.sub [(4, .pointer (some ⟨b24, 0, none⟩)), (5, .pointer (some ⟨b31, 0, none⟩)), (6, .int .i64 back), (33, .slice a48 n52 c49), (34, .int .i64 (l2.length : Int)), (35, .int .i64 k)]) ?_ ?_
     · refine shW_block ?_
       refine wsr ?_
       obtain ⟨b66, o67, c68, vs69, ha70, hs71, hle72, rfl, hl73, hc74⟩ := SlR.at (iE_ok _) hz51 (L := (b31, .cells #[.int .i64 n2, .int .i64 n3] 48 (0, 0)) :: ((b24, .cells #[.int .i64 n, .slice a17 n21 c18] 24 (0, 0)) :: (Lb19 ++ (Lb50 ++ [])))) (fC (fC (fS fP))) g65.1 hx64
       refine ov (v_indexO Try.underlying26 Try.sizeOf3 rfl ha70 rfl (SlR.idx hz51 g65)) rfl ?_
       refine ov (v_load Try.isAgg3 rfl hs71 (hc74 0 (by decide))) rfl ?_
       refine oa rfl rfl (nsr ?_)
       refine ov (v_loadA (cs := #[.int .i64 n, .slice a17 n21 c18]) Try.isAgg24 Try.sizeOf24 rfl (Has.own 1 rfl) (Nat.le_of_ble_eq_true rfl) rfl) rfl ?_
       refine ov (v_fieldAddr fa_48_0 rfl) rfl ?_
       refine ov (v_load Try.isAgg25 rfl (Has.own 0 rfl) rfl) rfl ?_
       refine om rfl rfl ?_
       obtain ⟨l3, n4, h75, r76⟩ := b2_ok r57; clear r57
       refine o_callTO (Lb := []) (Lt := Lb19 ++ []) (Lr := (b31, .cells #[.int .i64 n2, .int .i64 n3] 48 (0, 0)) :: ((b24, .cells #[.int .i64 n, .slice a17 n21 c18] 24 (0, 0)) :: (Lb50 ++ []))) rfl Try.call21 rfl rfl rfl (pT ((fC (fC fP)).trans (pA pR)) (ln (lp (ln rfl)))) (fun F2 h2 h3 => by rw [(SlR.caps hz20).1]; exact hear_Needs_w (hz20.row (iE_ok _) h2 (fun p hp => h3 p (List.mem_append_left _ hp))) h75) (fun _ _ _ _ hq => by obtain ⟨a81, n85, c82, Lb83, rfl, rfl, hz84⟩ := hq; exact ⟨_, _, _, _, rfl, rfl, hz84.flat (fun _ _ h => h)⟩) ?_; rintro _ F77 _ hF78 hd80 hn79 ⟨a81, n85, c82, Lb83, rfl, rfl, hz84⟩
       replace h_numbers := h_numbers.mono (iE_ok _) hF78
       replace h10 := h10.mono (iE_ok _) hF78
       replace hz20 := hz20.mono (iE_ok _) hF78
       replace hz51 := hz51.mono (iE_ok _) hF78
       have hn87 := newp (Lb' := []) (by rfl) hd80 hn79
       replace hz84 := hz84.new fun p hp => hn87 p (by simp [hp])
       refine shO_L (lp (ln (lp (ln rfl)))) ?_
       refine kO (kf (fS (fS fO)) (kf (fS (fS fO)) kr)) ?_
       refine om rfl rfl (ox rfl rfl rfl (ox rfl rfl rfl (oa rfl rfl (oa rfl rfl (nsr ?_)))))
       refine ov (v_loadA (cs := #[.int .i64 n, .slice a17 n21 c18]) Try.isAgg24 Try.sizeOf24 rfl (Has.own 1 rfl) (Nat.le_of_ble_eq_true rfl) rfl) rfl ?_
       refine om rfl rfl ?_
       obtain ⟨l4, n5, h88, r89⟩ := b2_ok r76; clear r76
       refine o_callTO (Lb := []) (Lt := Lb19 ++ []) (Lr := (b31, .cells #[.int .i64 n2, .int .i64 n3] 48 (0, 0)) :: ((b24, .cells #[.int .i64 n, .slice a17 n21 c18] 24 (0, 0)) :: (Lb83 ++ (Lb50 ++ [])))) rfl Try.call21 rfl rfl rfl (pT ((fC (fC (fS fP))).trans (pA pR)) (ln (lp (ln rfl)))) (fun F2 h2 h3 => by rw [(SlR.caps hz20).1]; exact hear_Needs_w (hz20.row (iE_ok _) h2 (fun p hp => h3 p (List.mem_append_left _ hp))) h88) (fun _ _ _ _ hq => by obtain ⟨a94, n98, c95, Lb96, rfl, rfl, hz97⟩ := hq; exact ⟨_, _, _, _, rfl, rfl, hz97.flat (fun _ _ h => h)⟩) ?_; rintro _ F90 _ hF91 hd93 hn92 ⟨a94, n98, c95, Lb96, rfl, rfl, hz97⟩
       replace h_numbers := h_numbers.mono (iE_ok _) hF91
       replace h10 := h10.mono (iE_ok _) hF91
       replace hz20 := hz20.mono (iE_ok _) hF91
       replace hz51 := hz51.mono (iE_ok _) hF91
       replace hz84 := hz84.mono (iE_ok _) hF91
       have hn100 := newp (Lb' := []) (by rfl) hd93 hn92
       replace hz97 := hz97.new fun p hp => hn100 p (by simp [hp])
       refine shO_L (lp (ln (lp (ln rfl)))) ?_
       refine kO (kf (fS (fS fO)) (kf (fS (fS fO)) kr)) ?_
       refine om rfl rfl (ox rfl rfl rfl (ox rfl rfl rfl (oa rfl rfl (oa rfl rfl (shO_nil (shW_seq ?_))))))
       obtain ⟨k2, h101, r102⟩ := b1_ok r89; clear r89
       refine shW_join (fun e1 F1 L1 => F90 = F1 ∧ L1 = ((b31, .cells #[.int .i64 n2, .int .i64 n3] 48 (0, 0)) :: ((b24, .cells #[.int .i64 n, .slice a17 n21 c18] 24 (0, 0)) :: (Lb19 ++ (Lb83 ++ (Lb96 ++ (Lb50 ++ [])))))) ∧ e1.sub [(4, .pointer (some ⟨b24, 0, none⟩)), (5, .pointer (some ⟨b31, 0, none⟩)), (6, .int .i64 back), (8, .int .i64 x), (9, .slice a81 n85 c82), (11, .slice a94 n98 c95), (33, .slice a48 n52 c49), (34, .int .i64 (l2.length : Int)), (35, .int .i64 k), (74, .bool k2)]) ?_ ?_
       · clear r102
         refine shW_region (om rfl rfl ?_)
         refine ov (v_neq rfl rfl) rfl ?_
         refine om rfl rfl ?_
         by_cases c103 : n4 ≠ 0
         · have r104 := ite_t h101 c103; clear h101
           refine shO_off (b' := true) 55 rfl (Env.isT rfl c103) rfl rfl (shO_off (b' := true) 55 rfl (Env.isT rfl c103) rfl rfl ?_)
           refine ov (v_pick_t (evD_true rfl c103) rfl) rfl ?_
           refine om rfl rfl (shO_off (b' := true) 59 rfl rfl rfl rfl (shO_off (b' := true) 59 rfl rfl rfl rfl (shO_off (b' := true) 59 rfl rfl rfl rfl (shO_off (b' := true) 59 rfl rfl rfl rfl (shO_off (b' := true) 59 rfl rfl rfl rfl (shO_off (b' := true) 59 rfl rfl rfl rfl ?_))))))
           refine ov (v_pick_t rfl rfl) rfl ?_
           refine om rfl rfl (shO_off (b' := true) 67 rfl rfl rfl rfl (shO_off (b' := true) 67 rfl rfl rfl rfl (shO_off (b' := true) 67 rfl rfl rfl rfl (shO_off (b' := true) 67 rfl rfl rfl rfl (shO_off (b' := true) 67 rfl rfl rfl rfl (shO_off (b' := true) 67 rfl rfl rfl rfl ?_))))))
           refine ov (v_pick_t rfl rfl) rfl ?_
           refine shO_nil ?_
           obtain rfl := inj1 r104
           exact mi (kc (kc (kg (fS fP) (kg (fS fP) kr)))) ⟨rfl, rfl, (sc rfl (sc rfl (sc rfl (sc rfl (sc rfl (sc rfl (sc rfl (sc rfl (sc rfl (sc rfl (sn _)))))))))))⟩
         have r105 := ite_f h101 c103; clear h101
         refine shO_on (b := false) 55 rfl (Env.isF rfl c103) (om rfl rfl (shO_on (b := false) 55 rfl (Env.isF rfl c103) ?_))
         refine ov (v_neq rfl rfl) rfl ?_
         refine ov (v_pick_f (evD_false rfl c103) rfl) rfl ?_
         refine om rfl rfl ?_
         by_cases c106 : n5 ≠ 0
         · have r107 := ite_t r105 c106; clear r105
           refine shO_off (b' := true) 59 rfl (Env.isT rfl c106) rfl rfl (shO_off (b' := true) 59 rfl (Env.isT rfl c106) rfl rfl (shO_off (b' := true) 59 rfl (Env.isT rfl c106) rfl rfl (shO_off (b' := true) 59 rfl (Env.isT rfl c106) rfl rfl (shO_off (b' := true) 59 rfl (Env.isT rfl c106) rfl rfl (shO_off (b' := true) 59 rfl (Env.isT rfl c106) rfl rfl ?_)))))
           refine ov (v_pick_t (evD_true rfl c106) rfl) rfl ?_
           refine om rfl rfl (shO_off (b' := true) 67 rfl rfl rfl rfl (shO_off (b' := true) 67 rfl rfl rfl rfl (shO_off (b' := true) 67 rfl rfl rfl rfl (shO_off (b' := true) 67 rfl rfl rfl rfl (shO_off (b' := true) 67 rfl rfl rfl rfl (shO_off (b' := true) 67 rfl rfl rfl rfl ?_))))))
           refine ov (v_pick_t rfl rfl) rfl ?_
           refine shO_nil ?_
           obtain rfl := inj1 r107
           exact mi (kc (kc (kg (fS fP) (kg (fS fP) kr)))) ⟨rfl, rfl, (sc rfl (sc rfl (sc rfl (sc rfl (sc rfl (sc rfl (sc rfl (sc rfl (sc rfl (sc rfl (sn _)))))))))))⟩
         have r108 := ite_f r105 c106; clear r105
         refine shO_on (b := false) 59 rfl (Env.isF rfl c106) (om rfl rfl (shO_on (b := false) 59 rfl (Env.isF rfl c106) ?_))
         refine ov ((v_lenS Try.underlying26 rfl).i (SlR.lenI hz84)) rfl ?_
         refine shO_on (b := false) 59 rfl (Env.isF rfl c106) ?_
         refine ov (v_fieldAddr fa_24_1 rfl) rfl ?_
         refine shO_on (b := false) 59 rfl (Env.isF rfl c106) ?_
         refine ov (v_load Try.isAgg22 rfl (Has.own 1 rfl) rfl) rfl ?_
         refine shO_on (b := false) 59 rfl (Env.isF rfl c106) ?_
         refine ov ((v_lenS Try.underlying22 rfl).i (SlR.lenI hz20)) rfl ?_
         refine shO_on (b := false) 59 rfl (Env.isF rfl c106) ?_
         refine ov (v_neq rfl rfl) rfl ?_
         refine ov (v_pick_f (evD_false rfl c106) rfl) rfl ?_
         refine om rfl rfl ?_
         by_cases c109 : (l3.length : Int) ≠ (l.length : Int)
         · have r110 := ite_t r108 c109; clear r108
           refine shO_off (b' := true) 67 rfl (Env.isT rfl c109) rfl rfl (shO_off (b' := true) 67 rfl (Env.isT rfl c109) rfl rfl (shO_off (b' := true) 67 rfl (Env.isT rfl c109) rfl rfl (shO_off (b' := true) 67 rfl (Env.isT rfl c109) rfl rfl (shO_off (b' := true) 67 rfl (Env.isT rfl c109) rfl rfl (shO_off (b' := true) 67 rfl (Env.isT rfl c109) rfl rfl ?_)))))
           refine ov (v_pick_t (evD_true rfl c109) rfl) rfl ?_
           refine shO_nil ?_
           obtain rfl := inj1 r110
           exact mi (kc (kc (kg (fS fP) (kg (fS fP) kr)))) ⟨rfl, rfl, (sc rfl (sc rfl (sc rfl (sc rfl (sc rfl (sc rfl (sc rfl (sc rfl (sc rfl (sc rfl (sn _)))))))))))⟩
         have r111 := ite_f r108 c109; clear r108
         refine shO_on (b := false) 67 rfl (Env.isF rfl c109) (om rfl rfl (shO_on (b := false) 67 rfl (Env.isF rfl c109) ?_))
         refine ov ((v_lenS Try.underlying26 rfl).i (SlR.lenI hz97)) rfl ?_
         refine shO_on (b := false) 67 rfl (Env.isF rfl c109) ?_
         refine ov (v_fieldAddr fa_24_1 rfl) rfl ?_
         refine shO_on (b := false) 67 rfl (Env.isF rfl c109) ?_
         refine ov (v_load Try.isAgg22 rfl (Has.own 1 rfl) rfl) rfl ?_
         refine shO_on (b := false) 67 rfl (Env.isF rfl c109) ?_
         refine ov ((v_lenS Try.underlying22 rfl).i (SlR.lenI hz20)) rfl ?_
         refine shO_on (b := false) 67 rfl (Env.isF rfl c109) ?_
         refine ov (v_neq rfl rfl) rfl ?_
         refine ov (v_pick_f (evD_false rfl c109) rfl) rfl ?_
         refine shO_nil ?_
         obtain rfl := inj1 r111
         exact mi (kc (kc (kg (fS fP) (kg (fS fP) kr)))) ⟨rfl, rfl, (sc rfl (sc rfl (sc rfl (sc rfl (sc rfl (sc rfl (sc rfl (sc rfl (sc rfl (sc rfl (sn _)))))))))))⟩
       rintro e1 _ _ ⟨rfl, rfl, he112⟩
       refine shW_env _ he112 ?_; clear he112
       refine shW_cond rfl (fun c113 => ?_) (fun c113 => ?_)
       · have r114 := bt r102 c113; clear r102
         refine wsr (oa rfl rfl (shO_nil ?_))
         refine kW kn ?_
         refine shW_ret (andThen_ret (inBlock_ret (andThen_ret (andThen_ret (inBlock_ret (andThen_ret ?_))))))
         refine q_res1 Try.results6 (res_tmp rfl) (sr) ?_
         obtain rfl := inj1 r114
         exact rfl
       have r115 := bf r102 c113; clear r102
       refine shW_skip (wsr (om rfl rfl ?_))
       refine ov ((v_lenS Try.underlying26 rfl).i (SlR.lenI hz84)) rfl ?_
       refine om rfl rfl (shO_nil ?_)
       refine shW_block ?_
       refine shW_lp (fun fu4 e1 F1 L1 => ∃ (tl3 : List Int) (k3 : Int), tl3.length = fu4 ∧ Lst l3 k3 tl3 ∧ oyezlaw01_HearBack_l4 n l n2 n3 back x l4 (oyezlaw01_HearBack_l2 n l n2 n3 back tl2) tl3 k3 = some r ∧ FExt F90 F1 ∧ L1 = ((b31, .cells #[.int .i64 n2, .int .i64 n3] 48 (0, 0)) :: ((b24, .cells #[.int .i64 n, .slice a17 n21 c18] 24 (0, 0)) :: (Lb19 ++ (Lb83 ++ (Lb96 ++ (Lb50 ++ [])))))) ∧ e1.sub [(4, .pointer (some ⟨b24, 0, none⟩)), (5, .pointer (some ⟨b31, 0, none⟩)), (6, .int .i64 back), (8, .int .i64 x), (9, .slice a81 n85 c82), (11, .slice a94 n98 c95), (33, .slice a48 n52 c49), (34, .int .i64 (l2.length : Int)), (35, .int .i64 k), (76, .int .i64 (l3.length : Int)), (77, .int .i64 k3)]) _ (m0 kr ⟨_, _, rfl, Lst.start _, r115, FExt.refl _, rfl, (sc rfl (sc rfl (sc rfl (sc rfl (sc rfl (sc rfl (sc rfl (sc rfl (sc rfl (sc rfl (sc rfl (sn _))))))))))))⟩) ?_
       rintro fu4 e1 F120 _ ⟨tl3, k3, hn117, hk116, r118, hF121, rfl, he119⟩
       refine shW_env _ he119 ?_; clear he119
       replace h_numbers := h_numbers.mono (iE_ok _) hF121
       replace h10 := h10.mono (iE_ok _) hF121
       replace hz20 := hz20.mono (iE_ok _) hF121
       replace hz84 := hz84.mono (iE_ok _) hF121
       replace hz97 := hz97.mono (iE_ok _) hF121
       replace hz51 := hz51.mono (iE_ok _) hF121
       refine wsr ?_
       refine ov (v_lssK rfl rfl) rfl ?_
       refine shO_nil (shW_seq ?_)
       refine shW_condP rfl (fun c123 => ?_) (fun c123 => ?_)
       · obtain ⟨x2, tl4, rfl, hx125, g126, hk124⟩ := Lst.succ hk116 c123
         rw [oyezlaw01_HearBack_l4] at r118
         refine shW_skip (shW_seq ?_)
         refine shW_block ?_
         refine wsr (om rfl rfl (oa rfl rfl (shO_nil (shW_seq ?_))))
         obtain ⟨k4, h127, r128⟩ := b1_ok r118; clear r118
         refine shW_join (fun e1 F1 L1 => F120 = F1 ∧ L1 = ((b31, .cells #[.int .i64 n2, .int .i64 n3] 48 (0, 0)) :: ((b24, .cells #[.int .i64 n, .slice a17 n21 c18] 24 (0, 0)) :: (Lb19 ++ (Lb83 ++ (Lb96 ++ (Lb50 ++ [])))))) ∧ e1.sub [(4, .pointer (some ⟨b24, 0, none⟩)), (5, .pointer (some ⟨b31, 0, none⟩)), (6, .int .i64 back), (8, .int .i64 x), (9, .slice a81 n85 c82), (11, .slice a94 n98 c95), (13, .int .i64 k3), (33, .slice a48 n52 c49), (34, .int .i64 (l2.length : Int)), (35, .int .i64 k), (76, .int .i64 (l3.length : Int)), (77, .int .i64 k3), (128, .bool k4)]) ?_ ?_
         · clear r128
           refine shW_draw (by kernel_rfl) (by kernel_rfl) (by kernel_rfl) ?_
           refine qm rfl rfl (qm rfl rfl ?_)
           obtain ⟨b129, o130, c131, vs132, ha133, hs134, hle135, rfl, hl136, hc137⟩ := SlR.at (iE_ok _) hz84 (L := (b31, .cells #[.int .i64 n2, .int .i64 n3] 48 (0, 0)) :: ((b24, .cells #[.int .i64 n, .slice a17 n21 c18] 24 (0, 0)) :: (Lb19 ++ (Lb83 ++ (Lb96 ++ (Lb50 ++ [])))))) (fC (fC (fS fP))) g126.1 hx125
           refine qv (v_indexO Try.underlying26 Try.sizeOf3 rfl ha133 rfl (SlR.idx hz84 g126)) rfl ?_
           refine qv (v_load Try.isAgg3 rfl hs134 (hc137 0 (by decide))) rfl ?_
           refine qv (v_eql rfl rfl) rfl ?_
           refine qm rfl rfl (qm rfl rfl ?_)
           obtain ⟨x3, g138, hx139, r140⟩ := ix_ok h127; clear h127
           obtain ⟨b141, o142, c143, vs144, ha145, hs146, hle147, rfl, hl148, hc149⟩ := SlR.at (iE_ok _) hz97 (L := (b31, .cells #[.int .i64 n2, .int .i64 n3] 48 (0, 0)) :: ((b24, .cells #[.int .i64 n, .slice a17 n21 c18] 24 (0, 0)) :: (Lb19 ++ (Lb83 ++ (Lb96 ++ (Lb50 ++ [])))))) (fC (fC (fS (fS fP)))) g138.1 hx139
           refine qv (v_indexO Try.underlying26 Try.sizeOf3 rfl ha145 rfl (SlR.idx hz97 g138)) rfl ?_
           refine qv (v_load Try.isAgg3 rfl hs146 (hc149 0 (by decide))) rfl ?_
           refine qv (v_eql rfl rfl) rfl ?_
           refine qv (v_neqB Try.underlying4 rfl rfl) rfl ?_
           refine qm rfl rfl ?_
           by_cases c150 : (decide (x2 = (-1))) ≠ (decide (x3 = (-1)))
           · have r151 := ite_t r140 c150; clear r140
             refine shQ_off (b' := true) 91 rfl (Env.isT rfl c150) rfl rfl (shQ_off (b' := true) 91 rfl (Env.isT rfl c150) rfl rfl (shQ_off (b' := true) 91 rfl (Env.isT rfl c150) rfl rfl (shQ_off (b' := true) 91 rfl (Env.isT rfl c150) rfl rfl (shQ_off (b' := true) 91 rfl (Env.isT rfl c150) rfl rfl (shQ_off (b' := true) 91 rfl (Env.isT rfl c150) rfl rfl (shQ_off (b' := true) 91 rfl (Env.isT rfl c150) rfl rfl (shQ_off (b' := true) 91 rfl (Env.isT rfl c150) rfl rfl (shQ_off (b' := true) 91 rfl (Env.isT rfl c150) rfl rfl (shQ_off (b' := true) 91 rfl (Env.isT rfl c150) rfl rfl ?_)))))))))
             refine shQ_off (b' := true) 91 rfl (Env.isT rfl c150) rfl rfl (shQ_offU 102 rfl rfl rfl (shQ_offU 102 rfl rfl rfl (shQ_offU 102 rfl rfl rfl (shQ_offU 102 rfl rfl rfl (shQ_offU 102 rfl rfl rfl (shQ_off (b' := true) 91 rfl (Env.isT rfl c150) rfl rfl ?_))))))
             refine qv (v_pick_t (evD_true rfl c150) rfl) rfl ?_
             refine qm rfl rfl (shQ_off (b' := true) 110 rfl rfl rfl rfl (shQ_off (b' := true) 110 rfl rfl rfl rfl (shQ_off (b' := true) 110 rfl rfl rfl rfl (shQ_off (b' := true) 110 rfl rfl rfl rfl (shQ_off (b' := true) 110 rfl rfl rfl rfl (shQ_off (b' := true) 110 rfl rfl rfl rfl (shQ_off (b' := true) 110 rfl rfl rfl rfl (shQ_off (b' := true) 110 rfl rfl rfl rfl (shQ_off (b' := true) 110 rfl rfl rfl rfl ?_)))))))))
             refine shQ_off (b' := true) 110 rfl rfl rfl rfl (shQ_off (b' := true) 110 rfl rfl rfl rfl (shQ_offU 121 rfl rfl rfl (shQ_offU 121 rfl rfl rfl (shQ_offU 121 rfl rfl rfl (shQ_offU 121 rfl rfl rfl (shQ_offU 121 rfl rfl rfl (shQ_off (b' := true) 110 rfl rfl rfl rfl ?_)))))))
             refine qv (v_pick_t rfl rfl) rfl ?_
             refine shQ_nil ?_
             obtain rfl := inj1 r151
             exact mi kr ⟨rfl, rfl, (sc rfl (sc rfl (sc rfl (sc rfl (sc rfl (sc rfl (sc rfl (sc rfl (sc rfl (sc rfl (sc rfl (sc rfl (sc rfl (sn _))))))))))))))⟩
           have r152 := ite_f r140 c150; clear r140
           refine shQ_on (b := false) 91 rfl (Env.isF rfl c150) (qm rfl rfl (shQ_on (b := false) 91 rfl (Env.isF rfl c150) (qm rfl rfl (shQ_on (b := false) 91 rfl (Env.isF rfl c150) ?_))))
           obtain ⟨b153, o154, c155, vs156, ha157, hs158, hle159, rfl, hl160, hc161⟩ := SlR.at (iE_ok _) hz84 (L := (b31, .cells #[.int .i64 n2, .int .i64 n3] 48 (0, 0)) :: ((b24, .cells #[.int .i64 n, .slice a17 n21 c18] 24 (0, 0)) :: (Lb19 ++ (Lb83 ++ (Lb96 ++ (Lb50 ++ [])))))) (fC (fC (fS fP))) g126.1 hx125
           refine qv (v_indexO Try.underlying26 Try.sizeOf3 rfl ha157 rfl (SlR.idx hz84 g126)) rfl ?_
           refine shQ_on (b := false) 91 rfl (Env.isF rfl c150) ?_
           refine qv (v_load Try.isAgg3 rfl hs158 (hc161 0 (by decide))) rfl ?_
           refine shQ_on (b := false) 91 rfl (Env.isF rfl c150) (qm rfl rfl (shQ_on (b := false) 91 rfl (Env.isF rfl c150) (qm rfl rfl (shQ_on (b := false) 91 rfl (Env.isF rfl c150) ?_))))
           obtain ⟨b162, o163, c164, vs165, ha166, hs167, hle168, rfl, hl169, hc170⟩ := SlR.at (iE_ok _) hz97 (L := (b31, .cells #[.int .i64 n2, .int .i64 n3] 48 (0, 0)) :: ((b24, .cells #[.int .i64 n, .slice a17 n21 c18] 24 (0, 0)) :: (Lb19 ++ (Lb83 ++ (Lb96 ++ (Lb50 ++ [])))))) (fC (fC (fS (fS fP)))) g138.1 hx139
           refine qv (v_indexO Try.underlying26 Try.sizeOf3 rfl ha166 rfl (SlR.idx hz97 g138)) rfl ?_
           refine shQ_on (b := false) 91 rfl (Env.isF rfl c150) ?_
           refine qv (v_load Try.isAgg3 rfl hs167 (hc170 0 (by decide))) rfl ?_
           refine shQ_on (b := false) 91 rfl (Env.isF rfl c150) ?_
           obtain ⟨g171, r172⟩ := gd_ok r152; clear r152
           refine qv (v_mul rfl rfl g171) rfl ?_
           refine shQ_on (b := false) 91 rfl (Env.isF rfl c150) ?_
           refine qv (v_gtrK rfl rfl) rfl ?_
           refine shQ_on (b := false) 91 rfl (Env.isF rfl c150) (qm rfl rfl ?_)
           by_cases c173 : (2 * x3) < x2
           · have r174 := ite_t r172 c173; clear r172
             refine shQ_on (b := true) 102 rfl (Env.isT rfl c173) (qm rfl rfl (shQ_on (b := true) 102 rfl (Env.isT rfl c173) (qm rfl rfl (shQ_on (b := true) 102 rfl (Env.isT rfl c173) ?_))))
             obtain ⟨b175, o176, c177, vs178, ha179, hs180, hle181, rfl, hl182, hc183⟩ := SlR.at (iE_ok _) hz97 (L := (b31, .cells #[.int .i64 n2, .int .i64 n3] 48 (0, 0)) :: ((b24, .cells #[.int .i64 n, .slice a17 n21 c18] 24 (0, 0)) :: (Lb19 ++ (Lb83 ++ (Lb96 ++ (Lb50 ++ [])))))) (fC (fC (fS (fS fP)))) g138.1 hx139
             refine qv (v_indexO Try.underlying26 Try.sizeOf3 rfl ha179 rfl (SlR.idx hz97 g138)) rfl ?_
             refine shQ_on (b := true) 102 rfl (Env.isT rfl c173) ?_
             refine qv (v_load Try.isAgg3 rfl hs180 (hc183 0 (by decide))) rfl ?_
             refine shQ_on (b := true) 102 rfl (Env.isT rfl c173) ?_
             refine qv (v_geqK rfl rfl) rfl ?_
             refine shQ_on (b := false) 91 rfl (Env.isF rfl c150) ?_
             refine qv (v_pick_t (evD_true rfl c173) rfl) rfl ?_
             refine qv (v_pick_f (evD_false rfl c150) rfl) rfl ?_
             refine qm rfl rfl ?_
             by_cases c184 : 0 ≤ x3
             · have r185 := ite_t r174 c184; clear r174
               refine shQ_off (b' := true) 110 rfl (Env.isT rfl c184) rfl rfl (shQ_off (b' := true) 110 rfl (Env.isT rfl c184) rfl rfl (shQ_off (b' := true) 110 rfl (Env.isT rfl c184) rfl rfl (shQ_off (b' := true) 110 rfl (Env.isT rfl c184) rfl rfl (shQ_off (b' := true) 110 rfl (Env.isT rfl c184) rfl rfl (shQ_off (b' := true) 110 rfl (Env.isT rfl c184) rfl rfl (shQ_off (b' := true) 110 rfl (Env.isT rfl c184) rfl rfl (shQ_off (b' := true) 110 rfl (Env.isT rfl c184) rfl rfl (shQ_off (b' := true) 110 rfl (Env.isT rfl c184) rfl rfl (shQ_off (b' := true) 110 rfl (Env.isT rfl c184) rfl rfl ?_)))))))))
               refine shQ_off (b' := true) 110 rfl (Env.isT rfl c184) rfl rfl (shQ_offU 121 rfl rfl rfl (shQ_offU 121 rfl rfl rfl (shQ_offU 121 rfl rfl rfl (shQ_offU 121 rfl rfl rfl (shQ_offU 121 rfl rfl rfl (shQ_off (b' := true) 110 rfl (Env.isT rfl c184) rfl rfl ?_))))))
               refine qv (v_pick_t (evD_true rfl c184) rfl) rfl ?_
               refine shQ_nil ?_
               obtain rfl := inj1 r185
               exact mi kr ⟨rfl, rfl, (sc rfl (sc rfl (sc rfl (sc rfl (sc rfl (sc rfl (sc rfl (sc rfl (sc rfl (sc rfl (sc rfl (sc rfl (sc rfl (sn _))))))))))))))⟩
             have r186 := ite_f r174 c184; clear r174
             refine shQ_on (b := false) 110 rfl (Env.isF rfl c184) (qm rfl rfl (shQ_on (b := false) 110 rfl (Env.isF rfl c184) (qm rfl rfl (shQ_on (b := false) 110 rfl (Env.isF rfl c184) ?_))))
             obtain ⟨b187, o188, c189, vs190, ha191, hs192, hle193, rfl, hl194, hc195⟩ := SlR.at (iE_ok _) hz97 (L := (b31, .cells #[.int .i64 n2, .int .i64 n3] 48 (0, 0)) :: ((b24, .cells #[.int .i64 n, .slice a17 n21 c18] 24 (0, 0)) :: (Lb19 ++ (Lb83 ++ (Lb96 ++ (Lb50 ++ [])))))) (fC (fC (fS (fS fP)))) g138.1 hx139
             refine qv (v_indexO Try.underlying26 Try.sizeOf3 rfl ha191 rfl (SlR.idx hz97 g138)) rfl ?_
             refine shQ_on (b := false) 110 rfl (Env.isF rfl c184) ?_
             refine qv (v_load Try.isAgg3 rfl hs192 (hc195 0 (by decide))) rfl ?_
             refine shQ_on (b := false) 110 rfl (Env.isF rfl c184) (qm rfl rfl (shQ_on (b := false) 110 rfl (Env.isF rfl c184) (qm rfl rfl (shQ_on (b := false) 110 rfl (Env.isF rfl c184) ?_))))
             obtain ⟨b196, o197, c198, vs199, ha200, hs201, hle202, rfl, hl203, hc204⟩ := SlR.at (iE_ok _) hz84 (L := (b31, .cells #[.int .i64 n2, .int .i64 n3] 48 (0, 0)) :: ((b24, .cells #[.int .i64 n, .slice a17 n21 c18] 24 (0, 0)) :: (Lb19 ++ (Lb83 ++ (Lb96 ++ (Lb50 ++ [])))))) (fC (fC (fS fP))) g126.1 hx125
             refine qv (v_indexO Try.underlying26 Try.sizeOf3 rfl ha200 rfl (SlR.idx hz84 g126)) rfl ?_
             refine shQ_on (b := false) 110 rfl (Env.isF rfl c184) ?_
             refine qv (v_load Try.isAgg3 rfl hs201 (hc204 0 (by decide))) rfl ?_
             refine shQ_on (b := false) 110 rfl (Env.isF rfl c184) ?_
             obtain ⟨g205, r206⟩ := gd_ok r186; clear r186
             refine qv (v_mul rfl rfl g205) rfl ?_
             refine shQ_on (b := false) 110 rfl (Env.isF rfl c184) ?_
             refine qv (v_gtrK rfl rfl) rfl ?_
             refine shQ_on (b := false) 110 rfl (Env.isF rfl c184) (qm rfl rfl ?_)
             by_cases c207 : (2 * x2) < x3
             · have r208 := ite_t r206 c207; clear r206
               refine shQ_on (b := true) 121 rfl (Env.isT rfl c207) (qm rfl rfl (shQ_on (b := true) 121 rfl (Env.isT rfl c207) (qm rfl rfl (shQ_on (b := true) 121 rfl (Env.isT rfl c207) ?_))))
               obtain ⟨b209, o210, c211, vs212, ha213, hs214, hle215, rfl, hl216, hc217⟩ := SlR.at (iE_ok _) hz84 (L := (b31, .cells #[.int .i64 n2, .int .i64 n3] 48 (0, 0)) :: ((b24, .cells #[.int .i64 n, .slice a17 n21 c18] 24 (0, 0)) :: (Lb19 ++ (Lb83 ++ (Lb96 ++ (Lb50 ++ [])))))) (fC (fC (fS fP))) g126.1 hx125
               refine qv (v_indexO Try.underlying26 Try.sizeOf3 rfl ha213 rfl (SlR.idx hz84 g126)) rfl ?_
               refine shQ_on (b := true) 121 rfl (Env.isT rfl c207) ?_
               refine qv (v_load Try.isAgg3 rfl hs214 (hc217 0 (by decide))) rfl ?_
               refine shQ_on (b := true) 121 rfl (Env.isT rfl c207) ?_
               refine qv (v_geqK rfl rfl) rfl ?_
               refine shQ_on (b := false) 110 rfl (Env.isF rfl c184) ?_
               refine qv (v_pick_t (evD_true rfl c207) rfl) rfl ?_
               refine qv (v_pick_f (evD_false rfl c184) rfl) rfl ?_
               refine shQ_nil ?_
               obtain rfl := inj1 r208
               exact mi kr ⟨rfl, rfl, (sc rfl (sc rfl (sc rfl (sc rfl (sc rfl (sc rfl (sc rfl (sc rfl (sc rfl (sc rfl (sc rfl (sc rfl (sc rfl (sn _))))))))))))))⟩
             have r218 := ite_f r206 c207; clear r206
             refine shQ_off (b' := false) 121 rfl (Env.isF rfl c207) rfl rfl (shQ_off (b' := false) 121 rfl (Env.isF rfl c207) rfl rfl (shQ_off (b' := false) 121 rfl (Env.isF rfl c207) rfl rfl (shQ_off (b' := false) 121 rfl (Env.isF rfl c207) rfl rfl (shQ_off (b' := false) 121 rfl (Env.isF rfl c207) rfl rfl (shQ_on (b := false) 110 rfl (Env.isF rfl c184) ?_)))))
             refine qv (v_pick_f (evD_false rfl c207) rfl) rfl ?_
             refine qv (v_pick_f (evD_false rfl c184) rfl) rfl ?_
             refine shQ_nil ?_
             obtain rfl := inj1 r218
             exact mi kr ⟨rfl, rfl, (sc rfl (sc rfl (sc rfl (sc rfl (sc rfl (sc rfl (sc rfl (sc rfl (sc rfl (sc rfl (sc rfl (sc rfl (sc rfl (sn _))))))))))))))⟩
           have r219 := ite_f r172 c173; clear r172
           refine shQ_off (b' := false) 102 rfl (Env.isF rfl c173) rfl rfl (shQ_off (b' := false) 102 rfl (Env.isF rfl c173) rfl rfl (shQ_off (b' := false) 102 rfl (Env.isF rfl c173) rfl rfl (shQ_off (b' := false) 102 rfl (Env.isF rfl c173) rfl rfl (shQ_off (b' := false) 102 rfl (Env.isF rfl c173) rfl rfl (shQ_on (b := false) 91 rfl (Env.isF rfl c150) ?_)))))
           refine qv (v_pick_f (evD_false rfl c173) rfl) rfl ?_
           refine qv (v_pick_f (evD_false rfl c150) rfl) rfl ?_
           refine qm rfl rfl (shQ_on (b := false) 110 rfl rfl (qm rfl rfl (shQ_on (b := false) 110 rfl rfl (qm rfl rfl (shQ_on (b := false) 110 rfl rfl ?_)))))
           obtain ⟨b220, o221, c222, vs223, ha224, hs225, hle226, rfl, hl227, hc228⟩ := SlR.at (iE_ok _) hz97 (L := (b31, .cells #[.int .i64 n2, .int .i64 n3] 48 (0, 0)) :: ((b24, .cells #[.int .i64 n, .slice a17 n21 c18] 24 (0, 0)) :: (Lb19 ++ (Lb83 ++ (Lb96 ++ (Lb50 ++ [])))))) (fC (fC (fS (fS fP)))) g138.1 hx139
           refine qv (v_indexO Try.underlying26 Try.sizeOf3 rfl ha224 rfl (SlR.idx hz97 g138)) rfl ?_
           refine shQ_on (b := false) 110 rfl rfl ?_
           refine qv (v_load Try.isAgg3 rfl hs225 (hc228 0 (by decide))) rfl ?_
           refine shQ_on (b := false) 110 rfl rfl (qm rfl rfl (shQ_on (b := false) 110 rfl rfl (qm rfl rfl (shQ_on (b := false) 110 rfl rfl ?_))))
           obtain ⟨b229, o230, c231, vs232, ha233, hs234, hle235, rfl, hl236, hc237⟩ := SlR.at (iE_ok _) hz84 (L := (b31, .cells #[.int .i64 n2, .int .i64 n3] 48 (0, 0)) :: ((b24, .cells #[.int .i64 n, .slice a17 n21 c18] 24 (0, 0)) :: (Lb19 ++ (Lb83 ++ (Lb96 ++ (Lb50 ++ [])))))) (fC (fC (fS fP))) g126.1 hx125
           refine qv (v_indexO Try.underlying26 Try.sizeOf3 rfl ha233 rfl (SlR.idx hz84 g126)) rfl ?_
           refine shQ_on (b := false) 110 rfl rfl ?_
           refine qv (v_load Try.isAgg3 rfl hs234 (hc237 0 (by decide))) rfl ?_
           refine shQ_on (b := false) 110 rfl rfl ?_
           obtain ⟨g238, r239⟩ := gd_ok r219; clear r219
           refine qv (v_mul rfl rfl g238) rfl ?_
           refine shQ_on (b := false) 110 rfl rfl ?_
           refine qv (v_gtrK rfl rfl) rfl ?_
           refine shQ_on (b := false) 110 rfl rfl (qm rfl rfl ?_)
           by_cases c240 : (2 * x2) < x3
           · have r241 := ite_t r239 c240; clear r239
             refine shQ_on (b := true) 121 rfl (Env.isT rfl c240) (qm rfl rfl (shQ_on (b := true) 121 rfl (Env.isT rfl c240) (qm rfl rfl (shQ_on (b := true) 121 rfl (Env.isT rfl c240) ?_))))
             obtain ⟨b242, o243, c244, vs245, ha246, hs247, hle248, rfl, hl249, hc250⟩ := SlR.at (iE_ok _) hz84 (L := (b31, .cells #[.int .i64 n2, .int .i64 n3] 48 (0, 0)) :: ((b24, .cells #[.int .i64 n, .slice a17 n21 c18] 24 (0, 0)) :: (Lb19 ++ (Lb83 ++ (Lb96 ++ (Lb50 ++ [])))))) (fC (fC (fS fP))) g126.1 hx125
             refine qv (v_indexO Try.underlying26 Try.sizeOf3 rfl ha246 rfl (SlR.idx hz84 g126)) rfl ?_
             refine shQ_on (b := true) 121 rfl (Env.isT rfl c240) ?_
             refine qv (v_load Try.isAgg3 rfl hs247 (hc250 0 (by decide))) rfl ?_
             refine shQ_on (b := true) 121 rfl (Env.isT rfl c240) ?_
             refine qv (v_geqK rfl rfl) rfl ?_
             refine shQ_on (b := false) 110 rfl rfl ?_
             refine qv (v_pick_t (evD_true rfl c240) rfl) rfl ?_
             refine qv (v_pick_f rfl rfl) rfl ?_
             refine shQ_nil ?_
             obtain rfl := inj1 r241
             exact mi kr ⟨rfl, rfl, (sc rfl (sc rfl (sc rfl (sc rfl (sc rfl (sc rfl (sc rfl (sc rfl (sc rfl (sc rfl (sc rfl (sc rfl (sc rfl (sn _))))))))))))))⟩
           have r251 := ite_f r239 c240; clear r239
           refine shQ_off (b' := false) 121 rfl (Env.isF rfl c240) rfl rfl (shQ_off (b' := false) 121 rfl (Env.isF rfl c240) rfl rfl (shQ_off (b' := false) 121 rfl (Env.isF rfl c240) rfl rfl (shQ_off (b' := false) 121 rfl (Env.isF rfl c240) rfl rfl (shQ_off (b' := false) 121 rfl (Env.isF rfl c240) rfl rfl (shQ_on (b := false) 110 rfl rfl ?_)))))
           refine qv (v_pick_f (evD_false rfl c240) rfl) rfl ?_
           refine qv (v_pick_f rfl rfl) rfl ?_
           refine shQ_nil ?_
           obtain rfl := inj1 r251
           exact mi kr ⟨rfl, rfl, (sc rfl (sc rfl (sc rfl (sc rfl (sc rfl (sc rfl (sc rfl (sc rfl (sc rfl (sc rfl (sc rfl (sc rfl (sc rfl (sn _))))))))))))))⟩
         rintro e1 _ _ ⟨rfl, rfl, he252⟩
         refine shW_env _ he252 ?_; clear he252
         refine shW_cond rfl (fun c253 => ?_) (fun c253 => ?_)
         · have r254 := bt r128 c253; clear r128
           refine wsr (oa rfl rfl (shO_nil ?_))
           refine kW kn ?_
           refine shW_ret (andThen_ret (inBlock_ret (andThen_ret (andThen_ret (inBlock_ret (inBlock_ret (andThen_ret (andThen_ret (inBlock_ret ?_)))))))))
           refine andThen_ret ?_
           refine q_res1 Try.results6 (res_tmp rfl) (sr) ?_
           obtain rfl := inj1 r254
           exact rfl
         have r255 := bf r128 c253; clear r128
         refine shW_skip (wsr ?_)
         refine ov (v_fieldAddr fa_24_1 rfl) rfl ?_
         refine ov (v_load Try.isAgg22 rfl (Has.own 1 rfl) rfl) rfl ?_
         refine om rfl rfl ?_
         obtain ⟨x4, g256, hx257, r258⟩ := ix_ok r255; clear r255
         obtain ⟨b259, o260, c261, vs262, ha263, hs264, hle265, rfl, hl266, hc267⟩ := SlR.at (iE_ok _) hz20 (L := (b31, .cells #[.int .i64 n2, .int .i64 n3] 48 (0, 0)) :: ((b24, .cells #[.int .i64 n, .slice a17 n21 c18] 24 (0, 0)) :: (Lb19 ++ (Lb83 ++ (Lb96 ++ (Lb50 ++ [])))))) (fC (fC fP)) g256.1 hx257
         refine ov (v_indexO Try.underlying22 Try.sizeOf73 rfl ha263 rfl (SlR.idx hz20 g256)) rfl ?_
         refine ov (v_load Try.isAgg73 rfl hs264 (hc267 0 (by decide))) rfl ?_
         refine shO_nil ?_
         refine shW_block ?_
         refine wsr ?_
         refine ov (v_eql rfl rfl) rfl ?_
         refine oa rfl rfl (shO_nil ?_)
         refine shW_condP rfl (fun c268 => ?_) (fun c268 => ?_)
         · have r269 := ite_t r258 c268; clear r258
           refine wsr ?_
           refine ov (v_loadA (cs := #[.int .i64 n, .slice a17 n21 c18]) Try.isAgg24 Try.sizeOf24 rfl (Has.own 1 rfl) (Nat.le_of_ble_eq_true rfl) rfl) rfl ?_
           refine om rfl rfl (om rfl rfl (om rfl rfl ?_))
           obtain ⟨n6, n7, h270, r271⟩ := b2_ok r269; clear r269
           refine o_callT (Lt := Lb19 ++ []) (Lr := (b31, .cells #[.int .i64 n2, .int .i64 n3] 48 (0, 0)) :: ((b24, .cells #[.int .i64 n, .slice a17 n21 c18] 24 (0, 0)) :: (Lb83 ++ (Lb96 ++ (Lb50 ++ []))))) rfl Try.call19 rfl rfl rfl (pT ((fC (fC fP)).trans (pA pR)) (lp (ln rfl))) (fun F2 h2 h3 => by rw [(SlR.caps hz20).1]; exact hear_Need_w (hz20.row (iE_ok _) h2 (fun p hp => h3 p (List.mem_append_left _ hp))) h270) ?_
           refine om rfl rfl (ox rfl rfl rfl (ox rfl rfl rfl (oa rfl rfl (oa rfl rfl (shO_nil ?_)))))
           obtain ⟨k5, h272, r273⟩ := b1_ok r271; clear r271
           refine shW_join (fun e1 F1 L1 => F120 = F1 ∧ L1 = ((b31, .cells #[.int .i64 n2, .int .i64 n3] 48 (0, 0)) :: ((b24, .cells #[.int .i64 n, .slice a17 n21 c18] 24 (0, 0)) :: (Lb19 ++ (Lb83 ++ (Lb96 ++ (Lb50 ++ [])))))) ∧ e1.sub [(4, .pointer (some ⟨b24, 0, none⟩)), (5, .pointer (some ⟨b31, 0, none⟩)), (6, .int .i64 back), (8, .int .i64 x), (9, .slice a81 n85 c82), (11, .slice a94 n98 c95), (33, .slice a48 n52 c49), (34, .int .i64 (l2.length : Int)), (35, .int .i64 k), (76, .int .i64 (l3.length : Int)), (77, .int .i64 k3), (171, .bool k5)]) ?_ ?_
           · clear r273
             refine shW_region (om rfl rfl (om rfl rfl ?_))
             obtain ⟨b274, o275, c276, vs277, ha278, hs279, hle280, rfl, hl281, hc282⟩ := SlR.at (iE_ok _) hz84 (L := (b31, .cells #[.int .i64 n2, .int .i64 n3] 48 (0, 0)) :: ((b24, .cells #[.int .i64 n, .slice a17 n21 c18] 24 (0, 0)) :: (Lb19 ++ (Lb83 ++ (Lb96 ++ (Lb50 ++ [])))))) (fC (fC (fS fP))) g126.1 hx125
             refine ov (v_indexO Try.underlying26 Try.sizeOf3 rfl ha278 rfl (SlR.idx hz84 g126)) rfl ?_
             refine ov (v_load Try.isAgg3 rfl hs279 (hc282 0 (by decide))) rfl ?_
             refine ov (v_eql rfl rfl) rfl ?_
             refine om rfl rfl ?_
             by_cases c283 : x2 = (-1)
             · have r284 := ite_t h272 c283; clear h272
               refine shO_on (b := true) 149 rfl (Env.isT rfl c283) (om rfl rfl (shO_on (b := true) 149 rfl (Env.isT rfl c283) ?_))
               refine ov (v_neq rfl rfl) rfl ?_
               refine ov (v_pick_t (evD_true rfl c283) rfl) rfl ?_
               refine om rfl rfl ?_
               by_cases c285 : n7 ≠ 6
               · have r286 := ite_t r284 c285; clear r284
                 refine shO_off (b' := true) 153 rfl (Env.isT rfl c285) rfl rfl (shO_off (b' := true) 153 rfl (Env.isT rfl c285) rfl rfl (shO_off (b' := true) 153 rfl (Env.isT rfl c285) rfl rfl (shO_off (b' := true) 153 rfl (Env.isT rfl c285) rfl rfl (shO_off (b' := true) 153 rfl (Env.isT rfl c285) rfl rfl (shO_off (b' := true) 153 rfl (Env.isT rfl c285) rfl rfl (shO_offU 159 rfl rfl rfl (shO_offU 159 rfl rfl rfl (shO_offU 159 rfl rfl rfl (shO_offU 162 rfl rfl rfl ?_)))))))))
                 refine shO_offU 162 rfl rfl rfl (shO_offU 162 rfl rfl rfl (shO_offU 162 rfl rfl rfl (shO_offU 162 rfl rfl rfl (shO_offU 162 rfl rfl rfl (shO_offU 159 rfl rfl rfl (shO_off (b' := true) 153 rfl (Env.isT rfl c285) rfl rfl ?_))))))
                 refine ov (v_pick_t (evD_true rfl c285) rfl) rfl ?_
                 refine shO_nil ?_
                 obtain rfl := inj1 r286
                 exact mi kr ⟨rfl, rfl, (sc rfl (sc rfl (sc rfl (sc rfl (sc rfl (sc rfl (sc rfl (sc rfl (sc rfl (sc rfl (sc rfl (sc rfl (sn _)))))))))))))⟩
               have r287 := ite_f r284 c285; clear r284
               refine shO_on (b := false) 153 rfl (Env.isF rfl c285) (om rfl rfl (shO_on (b := false) 153 rfl (Env.isF rfl c285) (om rfl rfl (shO_on (b := false) 153 rfl (Env.isF rfl c285) ?_))))
               obtain ⟨b288, o289, c290, vs291, ha292, hs293, hle294, rfl, hl295, hc296⟩ := SlR.at (iE_ok _) hz84 (L := (b31, .cells #[.int .i64 n2, .int .i64 n3] 48 (0, 0)) :: ((b24, .cells #[.int .i64 n, .slice a17 n21 c18] 24 (0, 0)) :: (Lb19 ++ (Lb83 ++ (Lb96 ++ (Lb50 ++ [])))))) (fC (fC (fS fP))) g126.1 hx125
               refine ov (v_indexO Try.underlying26 Try.sizeOf3 rfl ha292 rfl (SlR.idx hz84 g126)) rfl ?_
               refine shO_on (b := false) 153 rfl (Env.isF rfl c285) ?_
               refine ov (v_load Try.isAgg3 rfl hs293 (hc296 0 (by decide))) rfl ?_
               refine shO_on (b := false) 153 rfl (Env.isF rfl c285) ?_
               refine ov (v_neq rfl rfl) rfl ?_
               refine shO_on (b := false) 153 rfl (Env.isF rfl c285) (om rfl rfl ?_)
               by_cases c297 : x2 ≠ (-1)
               · have r298 := ite_t r287 c297; clear r287
                 refine shO_on (b := true) 159 rfl (Env.isT rfl c297) (om rfl rfl (shO_on (b := true) 159 rfl (Env.isT rfl c297) ?_))
                 refine ov (v_neq rfl rfl) rfl ?_
                 refine shO_on (b := true) 159 rfl (Env.isT rfl c297) (om rfl rfl ?_)
                 by_cases c299 : n7 ≠ 0
                 · have r300 := ite_t r298 c299; clear r298
                   refine shO_off (b' := true) 162 rfl (Env.isT rfl c299) rfl rfl (shO_off (b' := true) 162 rfl (Env.isT rfl c299) rfl rfl (shO_off (b' := true) 162 rfl (Env.isT rfl c299) rfl rfl (shO_off (b' := true) 162 rfl (Env.isT rfl c299) rfl rfl (shO_off (b' := true) 162 rfl (Env.isT rfl c299) rfl rfl (shO_off (b' := true) 162 rfl (Env.isT rfl c299) rfl rfl (shO_on (b := true) 159 rfl (Env.isT rfl c297) ?_))))))
                   refine ov (v_pick_t (evD_true rfl c299) rfl) rfl ?_
                   refine shO_on (b := false) 153 rfl (Env.isF rfl c285) ?_
                   refine ov (v_pick_t (evD_true rfl c297) rfl) rfl ?_
                   refine ov (v_pick_f (evD_false rfl c285) rfl) rfl ?_
                   refine shO_nil ?_
                   obtain rfl := inj1 r300
                   exact mi kr ⟨rfl, rfl, (sc rfl (sc rfl (sc rfl (sc rfl (sc rfl (sc rfl (sc rfl (sc rfl (sc rfl (sc rfl (sc rfl (sc rfl (sn _)))))))))))))⟩
                 have r301 := ite_f r298 c299; clear r298
                 refine shO_on (b := false) 162 rfl (Env.isF rfl c299) (om rfl rfl (shO_on (b := false) 162 rfl (Env.isF rfl c299) (om rfl rfl (shO_on (b := false) 162 rfl (Env.isF rfl c299) (om rfl rfl (shO_on (b := false) 162 rfl (Env.isF rfl c299) ?_))))))
                 obtain ⟨b302, o303, c304, vs305, ha306, hs307, hle308, rfl, hl309, hc310⟩ := SlR.at (iE_ok _) hz84 (L := (b31, .cells #[.int .i64 n2, .int .i64 n3] 48 (0, 0)) :: ((b24, .cells #[.int .i64 n, .slice a17 n21 c18] 24 (0, 0)) :: (Lb19 ++ (Lb83 ++ (Lb96 ++ (Lb50 ++ [])))))) (fC (fC (fS fP))) g126.1 hx125
                 refine ov (v_indexO Try.underlying26 Try.sizeOf3 rfl ha306 rfl (SlR.idx hz84 g126)) rfl ?_
                 refine shO_on (b := false) 162 rfl (Env.isF rfl c299) ?_
                 refine ov (v_load Try.isAgg3 rfl hs307 (hc310 0 (by decide))) rfl ?_
                 refine shO_on (b := false) 162 rfl (Env.isF rfl c299) ?_
                 refine ov (v_neq rfl rfl) rfl ?_
                 refine shO_on (b := true) 159 rfl (Env.isT rfl c297) ?_
                 refine ov (v_pick_f (evD_false rfl c299) rfl) rfl ?_
                 refine shO_on (b := false) 153 rfl (Env.isF rfl c285) ?_
                 refine ov (v_pick_t (evD_true rfl c297) rfl) rfl ?_
                 refine ov (v_pick_f (evD_false rfl c285) rfl) rfl ?_
                 refine shO_nil ?_
                 obtain rfl := inj1 r301
                 exact mi kr ⟨rfl, rfl, (sc rfl (sc rfl (sc rfl (sc rfl (sc rfl (sc rfl (sc rfl (sc rfl (sc rfl (sc rfl (sc rfl (sc rfl (sn _)))))))))))))⟩
               have r311 := ite_f r287 c297; clear r287
               refine shO_off (b' := false) 159 rfl (Env.isF rfl c297) rfl rfl (shO_off (b' := false) 159 rfl (Env.isF rfl c297) rfl rfl (shO_off (b' := false) 159 rfl (Env.isF rfl c297) rfl rfl (shO_offU 162 rfl rfl rfl (shO_offU 162 rfl rfl rfl (shO_offU 162 rfl rfl rfl (shO_offU 162 rfl rfl rfl (shO_offU 162 rfl rfl rfl (shO_offU 162 rfl rfl rfl (shO_off (b' := false) 159 rfl (Env.isF rfl c297) rfl rfl ?_)))))))))
               refine shO_on (b := false) 153 rfl (Env.isF rfl c285) ?_
               refine ov (v_pick_f (evD_false rfl c297) rfl) rfl ?_
               refine ov (v_pick_f (evD_false rfl c285) rfl) rfl ?_
               refine shO_nil ?_
               obtain rfl := inj1 r311
               exact mi kr ⟨rfl, rfl, (sc rfl (sc rfl (sc rfl (sc rfl (sc rfl (sc rfl (sc rfl (sc rfl (sc rfl (sc rfl (sc rfl (sc rfl (sn _)))))))))))))⟩
             have r312 := ite_f h272 c283; clear h272
             refine shO_off (b' := false) 149 rfl (Env.isF rfl c283) rfl rfl (shO_off (b' := false) 149 rfl (Env.isF rfl c283) rfl rfl ?_)
             refine ov (v_pick_f (evD_false rfl c283) rfl) rfl ?_
             refine om rfl rfl (shO_on (b := false) 153 rfl rfl (om rfl rfl (shO_on (b := false) 153 rfl rfl (om rfl rfl (shO_on (b := false) 153 rfl rfl ?_)))))
             obtain ⟨b313, o314, c315, vs316, ha317, hs318, hle319, rfl, hl320, hc321⟩ := SlR.at (iE_ok _) hz84 (L := (b31, .cells #[.int .i64 n2, .int .i64 n3] 48 (0, 0)) :: ((b24, .cells #[.int .i64 n, .slice a17 n21 c18] 24 (0, 0)) :: (Lb19 ++ (Lb83 ++ (Lb96 ++ (Lb50 ++ [])))))) (fC (fC (fS fP))) g126.1 hx125
             refine ov (v_indexO Try.underlying26 Try.sizeOf3 rfl ha317 rfl (SlR.idx hz84 g126)) rfl ?_
             refine shO_on (b := false) 153 rfl rfl ?_
             refine ov (v_load Try.isAgg3 rfl hs318 (hc321 0 (by decide))) rfl ?_
             refine shO_on (b := false) 153 rfl rfl ?_
             refine ov (v_neq rfl rfl) rfl ?_
             refine shO_on (b := false) 153 rfl rfl (om rfl rfl ?_)
             by_cases c322 : x2 ≠ (-1)
             · have r323 := ite_t r312 c322; clear r312
               refine shO_on (b := true) 159 rfl (Env.isT rfl c322) (om rfl rfl (shO_on (b := true) 159 rfl (Env.isT rfl c322) ?_))
               refine ov (v_neq rfl rfl) rfl ?_
               refine shO_on (b := true) 159 rfl (Env.isT rfl c322) (om rfl rfl ?_)
               by_cases c324 : n7 ≠ 0
               · have r325 := ite_t r323 c324; clear r323
                 refine shO_off (b' := true) 162 rfl (Env.isT rfl c324) rfl rfl (shO_off (b' := true) 162 rfl (Env.isT rfl c324) rfl rfl (shO_off (b' := true) 162 rfl (Env.isT rfl c324) rfl rfl (shO_off (b' := true) 162 rfl (Env.isT rfl c324) rfl rfl (shO_off (b' := true) 162 rfl (Env.isT rfl c324) rfl rfl (shO_off (b' := true) 162 rfl (Env.isT rfl c324) rfl rfl (shO_on (b := true) 159 rfl (Env.isT rfl c322) ?_))))))
                 refine ov (v_pick_t (evD_true rfl c324) rfl) rfl ?_
                 refine shO_on (b := false) 153 rfl rfl ?_
                 refine ov (v_pick_t (evD_true rfl c322) rfl) rfl ?_
                 refine ov (v_pick_f rfl rfl) rfl ?_
                 refine shO_nil ?_
                 obtain rfl := inj1 r325
                 exact mi kr ⟨rfl, rfl, (sc rfl (sc rfl (sc rfl (sc rfl (sc rfl (sc rfl (sc rfl (sc rfl (sc rfl (sc rfl (sc rfl (sc rfl (sn _)))))))))))))⟩
               have r326 := ite_f r323 c324; clear r323
               refine shO_on (b := false) 162 rfl (Env.isF rfl c324) (om rfl rfl (shO_on (b := false) 162 rfl (Env.isF rfl c324) (om rfl rfl (shO_on (b := false) 162 rfl (Env.isF rfl c324) (om rfl rfl (shO_on (b := false) 162 rfl (Env.isF rfl c324) ?_))))))
               obtain ⟨b327, o328, c329, vs330, ha331, hs332, hle333, rfl, hl334, hc335⟩ := SlR.at (iE_ok _) hz84 (L := (b31, .cells #[.int .i64 n2, .int .i64 n3] 48 (0, 0)) :: ((b24, .cells #[.int .i64 n, .slice a17 n21 c18] 24 (0, 0)) :: (Lb19 ++ (Lb83 ++ (Lb96 ++ (Lb50 ++ [])))))) (fC (fC (fS fP))) g126.1 hx125
               refine ov (v_indexO Try.underlying26 Try.sizeOf3 rfl ha331 rfl (SlR.idx hz84 g126)) rfl ?_
               refine shO_on (b := false) 162 rfl (Env.isF rfl c324) ?_
               refine ov (v_load Try.isAgg3 rfl hs332 (hc335 0 (by decide))) rfl ?_
               refine shO_on (b := false) 162 rfl (Env.isF rfl c324) ?_
               refine ov (v_neq rfl rfl) rfl ?_
               refine shO_on (b := true) 159 rfl (Env.isT rfl c322) ?_
               refine ov (v_pick_f (evD_false rfl c324) rfl) rfl ?_
               refine shO_on (b := false) 153 rfl rfl ?_
               refine ov (v_pick_t (evD_true rfl c322) rfl) rfl ?_
               refine ov (v_pick_f rfl rfl) rfl ?_
               refine shO_nil ?_
               obtain rfl := inj1 r326
               exact mi kr ⟨rfl, rfl, (sc rfl (sc rfl (sc rfl (sc rfl (sc rfl (sc rfl (sc rfl (sc rfl (sc rfl (sc rfl (sc rfl (sc rfl (sn _)))))))))))))⟩
             have r336 := ite_f r312 c322; clear r312
             refine shO_off (b' := false) 159 rfl (Env.isF rfl c322) rfl rfl (shO_off (b' := false) 159 rfl (Env.isF rfl c322) rfl rfl (shO_off (b' := false) 159 rfl (Env.isF rfl c322) rfl rfl (shO_offU 162 rfl rfl rfl (shO_offU 162 rfl rfl rfl (shO_offU 162 rfl rfl rfl (shO_offU 162 rfl rfl rfl (shO_offU 162 rfl rfl rfl (shO_offU 162 rfl rfl rfl (shO_off (b' := false) 159 rfl (Env.isF rfl c322) rfl rfl ?_)))))))))
             refine shO_on (b := false) 153 rfl rfl ?_
             refine ov (v_pick_f (evD_false rfl c322) rfl) rfl ?_
             refine ov (v_pick_f rfl rfl) rfl ?_
             refine shO_nil ?_
             obtain rfl := inj1 r336
             exact mi kr ⟨rfl, rfl, (sc rfl (sc rfl (sc rfl (sc rfl (sc rfl (sc rfl (sc rfl (sc rfl (sc rfl (sc rfl (sc rfl (sc rfl (sn _)))))))))))))⟩
           rintro e1 _ _ ⟨rfl, rfl, he337⟩
           refine shW_env _ he337 ?_; clear he337
           refine shW_cond rfl (fun c338 => ?_) (fun c338 => ?_)
           · have r339 := bt r273 c338; clear r273
             refine wsr (oa rfl rfl (shO_nil ?_))
             refine kW kn ?_
             refine shW_ret (inBlock_ret (inBlock_ret (andThen_ret (andThen_ret (inBlock_ret (inBlock_ret (andThen_ret (andThen_ret (inBlock_ret ?_)))))))))
             refine andThen_ret ?_
             refine q_res1 Try.results6 (res_tmp rfl) (sr) ?_
             obtain rfl := inj1 r339
             exact rfl
           have r340 := bf r273 c338; clear r273
           refine shW_skip (inBlock_n (id := 4) (inBlock_n (id := 3) (shW_region ?_)))
           refine ov (v_add rfl rfl (Lst.r64 hk116 c123 (SlR.llt hz84))) rfl ?_
           refine om rfl rfl (shO_nil ?_)
           subst hn117; exact le kr ⟨_, _, rfl, hk124, r340, hF121, rfl, (sc rfl (sc rfl (sc rfl (sc rfl (sc rfl (sc rfl (sc rfl (sc rfl (sc rfl (sc rfl (sc rfl (sn _))))))))))))⟩
         have r341 := ite_f r258 c268; clear r258
         refine wsr ?_
         refine ov (v_eql rfl rfl) rfl ?_
         refine oa rfl rfl (shO_nil ?_)
         refine shW_condP rfl (fun c342 => ?_) (fun c342 => ?_)
         · have r343 := ite_t r341 c342; clear r341
           refine wsr ?_
           refine ov (v_loadA (cs := #[.int .i64 n, .slice a17 n21 c18]) Try.isAgg24 Try.sizeOf24 rfl (Has.own 1 rfl) (Nat.le_of_ble_eq_true rfl) rfl) rfl ?_
           refine ov (v_fieldAddr fa_48_1 rfl) rfl ?_
           refine ov (v_load Try.isAgg3 rfl (Has.own 0 rfl) rfl) rfl ?_
           refine om rfl rfl (om rfl rfl ?_)
           obtain ⟨l5, n8, h344, r345⟩ := b2_ok r343; clear r343
           refine o_callTO (Lb := []) (Lt := Lb19 ++ []) (Lr := (b31, .cells #[.int .i64 n2, .int .i64 n3] 48 (0, 0)) :: ((b24, .cells #[.int .i64 n, .slice a17 n21 c18] 24 (0, 0)) :: (Lb83 ++ (Lb96 ++ (Lb50 ++ []))))) rfl Try.call43 rfl rfl rfl (pT ((fC (fC fP)).trans (pA pR)) (ln (lp (ln rfl)))) (fun F2 h2 h3 => by rw [(SlR.caps hz20).1]; exact hear_Winds_w (hz20.row (iE_ok _) h2 (fun p hp => h3 p (List.mem_append_left _ hp))) h344) (fun _ _ _ _ hq => by obtain ⟨a350, n354, c351, Lb352, rfl, rfl, hz353⟩ := hq; exact ⟨_, _, _, _, rfl, rfl, hz353.flat (fun _ _ h => h)⟩) ?_; rintro _ F346 _ hF347 hd349 hn348 ⟨a350, n354, c351, Lb352, rfl, rfl, hz353⟩
           replace h_numbers := h_numbers.mono (iE_ok _) hF347
           replace h10 := h10.mono (iE_ok _) hF347
           replace hz20 := hz20.mono (iE_ok _) hF347
           replace hz84 := hz84.mono (iE_ok _) hF347
           replace hz97 := hz97.mono (iE_ok _) hF347
           replace hz51 := hz51.mono (iE_ok _) hF347
           have hn356 := newp (Lb' := []) (by rfl) hd349 hn348
           replace hz353 := hz353.new fun p hp => hn356 p (by simp [hp])
           refine shO_L (lp (ln (lp (ln rfl)))) ?_
           refine kO (kf (fS (fS fO)) (kf (fS (fS fO)) kr)) ?_
           refine om rfl rfl (ox rfl rfl rfl (ox rfl rfl rfl (oa rfl rfl (oa rfl rfl (shO_nil ?_)))))
           obtain ⟨k6, h357, r358⟩ := b1_ok r345; clear r345
           refine shW_join (fun e1 F1 L1 => F346 = F1 ∧ L1 = ((b31, .cells #[.int .i64 n2, .int .i64 n3] 48 (0, 0)) :: ((b24, .cells #[.int .i64 n, .slice a17 n21 c18] 24 (0, 0)) :: (Lb19 ++ (Lb83 ++ (Lb96 ++ (Lb50 ++ [])))))) ∧ e1.sub [(4, .pointer (some ⟨b24, 0, none⟩)), (5, .pointer (some ⟨b31, 0, none⟩)), (6, .int .i64 back), (8, .int .i64 x), (9, .slice a81 n85 c82), (11, .slice a94 n98 c95), (33, .slice a48 n52 c49), (34, .int .i64 (l2.length : Int)), (35, .int .i64 k), (76, .int .i64 (l3.length : Int)), (77, .int .i64 k3), (224, .bool k6)]) ?_ ?_
           · clear r358
             refine shW_draw (by kernel_rfl) (by kernel_rfl) (by kernel_rfl) ?_
             refine qm rfl rfl ?_
             refine qv (v_neq rfl rfl) rfl ?_
             refine qm rfl rfl ?_
             by_cases c359 : n8 ≠ 0
             · have r360 := ite_t h357 c359; clear h357
               refine shQ_off (b' := true) 185 rfl (Env.isT rfl c359) rfl rfl (shQ_off (b' := true) 185 rfl (Env.isT rfl c359) rfl rfl (shQ_off (b' := true) 185 rfl (Env.isT rfl c359) rfl rfl (shQ_off (b' := true) 185 rfl (Env.isT rfl c359) rfl rfl (shQ_off (b' := true) 185 rfl (Env.isT rfl c359) rfl rfl (shQ_off (b' := true) 185 rfl (Env.isT rfl c359) rfl rfl (shQ_off (b' := true) 185 rfl (Env.isT rfl c359) rfl rfl (shQ_off (b' := true) 185 rfl (Env.isT rfl c359) rfl rfl (shQ_off (b' := true) 185 rfl (Env.isT rfl c359) rfl rfl (shQ_off (b' := true) 185 rfl (Env.isT rfl c359) rfl rfl ?_)))))))))
               refine shQ_offU 195 rfl rfl rfl (shQ_offU 195 rfl rfl rfl (shQ_offU 195 rfl rfl rfl (shQ_offU 195 rfl rfl rfl (shQ_offU 195 rfl rfl rfl (shQ_offU 195 rfl rfl rfl (shQ_offU 195 rfl rfl rfl (shQ_off (b' := true) 185 rfl (Env.isT rfl c359) rfl rfl (shQ_off (b' := true) 185 rfl (Env.isT rfl c359) rfl rfl ?_))))))))
               refine qv (v_pick_t (evD_true rfl c359) rfl) rfl ?_
               refine qm rfl rfl (shQ_off (b' := true) 206 rfl rfl rfl rfl (shQ_off (b' := true) 206 rfl rfl rfl rfl (shQ_off (b' := true) 206 rfl rfl rfl rfl (shQ_off (b' := true) 206 rfl rfl rfl rfl (shQ_off (b' := true) 206 rfl rfl rfl rfl (shQ_off (b' := true) 206 rfl rfl rfl rfl (shQ_off (b' := true) 206 rfl rfl rfl rfl (shQ_off (b' := true) 206 rfl rfl rfl rfl (shQ_offU 214 rfl rfl rfl ?_)))))))))
               refine shQ_offU 214 rfl rfl rfl (shQ_offU 214 rfl rfl rfl (shQ_offU 214 rfl rfl rfl (shQ_offU 214 rfl rfl rfl (shQ_offU 214 rfl rfl rfl (shQ_offU 214 rfl rfl rfl (shQ_off (b' := true) 206 rfl rfl rfl rfl (shQ_off (b' := true) 206 rfl rfl rfl rfl ?_)))))))
               refine qv (v_pick_t rfl rfl) rfl ?_
               refine shQ_nil ?_
               obtain rfl := inj1 r360
               exact mi (kc (kc (kx kr))) ⟨rfl, rfl, (sc rfl (sc rfl (sc rfl (sc rfl (sc rfl (sc rfl (sc rfl (sc rfl (sc rfl (sc rfl (sc rfl (sc rfl (sn _)))))))))))))⟩
             have r361 := ite_f h357 c359; clear h357
             refine shQ_on (b := false) 185 rfl (Env.isF rfl c359) (qm rfl rfl (shQ_on (b := false) 185 rfl (Env.isF rfl c359) ?_))
             refine qv (v_fieldAddr fa_48_0 rfl) rfl ?_
             refine shQ_on (b := false) 185 rfl (Env.isF rfl c359) ?_
             refine qv (v_load Try.isAgg25 rfl (Has.own 0 rfl) rfl) rfl ?_
             refine shQ_on (b := false) 185 rfl (Env.isF rfl c359) ?_
             obtain ⟨ok, h362, r363⟩ := b1_ok r361; clear r361
             refine shQ_callT (Lt := Lb352 ++ []) (Lr := (b31, .cells #[.int .i64 n2, .int .i64 n3] 48 (0, 0)) :: ((b24, .cells #[.int .i64 n, .slice a17 n21 c18] 24 (0, 0)) :: (Lb19 ++ (Lb83 ++ (Lb96 ++ (Lb50 ++ [])))))) rfl Try.call44 rfl rfl rfl (pT ((fC (fC fP)).trans (pA pR)) (lp (ln rfl))) (fun F2 h2 h3 => by rw [(SlR.caps hz353).1]; exact slices_Contains_hear_Dir_hear_Dir_w (hz353.row (iE_ok _) h2 (fun p hp => h3 p (List.mem_append_left _ hp))) h362) ?_
             refine shQ_on (b := false) 185 rfl (Env.isF rfl c359) (qm rfl rfl (shQ_on (b := false) 185 rfl (Env.isF rfl c359) (qm rfl rfl (shQ_on (b := false) 185 rfl (Env.isF rfl c359) ?_))))
             obtain ⟨b364, o365, c366, vs367, ha368, hs369, hle370, rfl, hl371, hc372⟩ := SlR.at (iE_ok _) hz84 (L := (b31, .cells #[.int .i64 n2, .int .i64 n3] 48 (0, 0)) :: ((b24, .cells #[.int .i64 n, .slice a17 n21 c18] 24 (0, 0)) :: (Lb352 ++ (Lb19 ++ (Lb83 ++ (Lb96 ++ (Lb50 ++ []))))))) (fC (fC (fS (fS fP)))) g126.1 hx125
             refine qv (v_indexO Try.underlying26 Try.sizeOf3 rfl ha368 rfl (SlR.idx hz84 g126)) rfl ?_
             refine shQ_on (b := false) 185 rfl (Env.isF rfl c359) ?_
             refine qv (v_load Try.isAgg3 rfl hs369 (hc372 0 (by decide))) rfl ?_
             refine shQ_on (b := false) 185 rfl (Env.isF rfl c359) ?_
             refine qv (v_geqK rfl rfl) rfl ?_
             refine shQ_on (b := false) 185 rfl (Env.isF rfl c359) (qm rfl rfl ?_)
             by_cases c373 : 0 ≤ x2
             · have r374 := ite_t r363 c373; clear r363
               refine shQ_on (b := true) 195 rfl (Env.isT rfl c373) (qm rfl rfl (shQ_on (b := true) 195 rfl (Env.isT rfl c373) (qm rfl rfl (shQ_on (b := true) 195 rfl (Env.isT rfl c373) ?_))))
               obtain ⟨b375, o376, c377, vs378, ha379, hs380, hle381, rfl, hl382, hc383⟩ := SlR.at (iE_ok _) hz84 (L := (b31, .cells #[.int .i64 n2, .int .i64 n3] 48 (0, 0)) :: ((b24, .cells #[.int .i64 n, .slice a17 n21 c18] 24 (0, 0)) :: (Lb352 ++ (Lb19 ++ (Lb83 ++ (Lb96 ++ (Lb50 ++ []))))))) (fC (fC (fS (fS fP)))) g126.1 hx125
               refine qv (v_indexO Try.underlying26 Try.sizeOf3 rfl ha379 rfl (SlR.idx hz84 g126)) rfl ?_
               refine shQ_on (b := true) 195 rfl (Env.isT rfl c373) ?_
               refine qv (v_load Try.isAgg3 rfl hs380 (hc383 0 (by decide))) rfl ?_
               refine shQ_on (b := true) 195 rfl (Env.isT rfl c373) ?_
               refine qv (v_fieldAddr fa_48_1 rfl) rfl ?_
               refine shQ_on (b := true) 195 rfl (Env.isT rfl c373) ?_
               refine qv (v_load Try.isAgg3 rfl (Has.own 0 rfl) rfl) rfl ?_
               refine shQ_on (b := true) 195 rfl (Env.isT rfl c373) ?_
               refine qv (v_leqK rfl rfl) rfl ?_
               refine shQ_on (b := false) 185 rfl (Env.isF rfl c359) ?_
               refine qv (v_pick_t (evD_true rfl c373) rfl) rfl ?_
               refine shQ_on (b := false) 185 rfl (Env.isF rfl c359) ?_
               refine qv (v_neqB Try.underlying4 rfl rfl) rfl ?_
               refine qv (v_pick_f (evD_false rfl c359) rfl) rfl ?_
               refine qm rfl rfl ?_
               by_cases c384 : ok ≠ (decide (x2 ≤ n3))
               · have r385 := ite_t r374 c384; clear r374
                 refine shQ_off (b' := true) 206 rfl (Env.isT rfl c384) rfl rfl (shQ_off (b' := true) 206 rfl (Env.isT rfl c384) rfl rfl (shQ_off (b' := true) 206 rfl (Env.isT rfl c384) rfl rfl (shQ_off (b' := true) 206 rfl (Env.isT rfl c384) rfl rfl (shQ_off (b' := true) 206 rfl (Env.isT rfl c384) rfl rfl (shQ_off (b' := true) 206 rfl (Env.isT rfl c384) rfl rfl (shQ_off (b' := true) 206 rfl (Env.isT rfl c384) rfl rfl (shQ_off (b' := true) 206 rfl (Env.isT rfl c384) rfl rfl (shQ_offU 214 rfl rfl rfl (shQ_offU 214 rfl rfl rfl ?_)))))))))
                 refine shQ_offU 214 rfl rfl rfl (shQ_offU 214 rfl rfl rfl (shQ_offU 214 rfl rfl rfl (shQ_offU 214 rfl rfl rfl (shQ_offU 214 rfl rfl rfl (shQ_off (b' := true) 206 rfl (Env.isT rfl c384) rfl rfl (shQ_off (b' := true) 206 rfl (Env.isT rfl c384) rfl rfl ?_))))))
                 refine qv (v_pick_t (evD_true rfl c384) rfl) rfl ?_
                 refine shQ_nil ?_
                 obtain rfl := inj1 r385
                 exact mi (kc (kc (kx kr))) ⟨rfl, rfl, (sc rfl (sc rfl (sc rfl (sc rfl (sc rfl (sc rfl (sc rfl (sc rfl (sc rfl (sc rfl (sc rfl (sc rfl (sn _)))))))))))))⟩
               have r386 := ite_f r374 c384; clear r374
               refine shQ_on (b := false) 206 rfl (Env.isF rfl c384) (qm rfl rfl (shQ_on (b := false) 206 rfl (Env.isF rfl c384) ?_))
               obtain ⟨ok2, h387, r388⟩ := b1_ok r386; clear r386
               refine shQ_callT (Lt := Lb352 ++ []) (Lr := (b31, .cells #[.int .i64 n2, .int .i64 n3] 48 (0, 0)) :: ((b24, .cells #[.int .i64 n, .slice a17 n21 c18] 24 (0, 0)) :: (Lb19 ++ (Lb83 ++ (Lb96 ++ (Lb50 ++ [])))))) rfl Try.call44 rfl rfl rfl (pT ((fC (fC fP)).trans (pA pR)) (lp (ln rfl))) (fun F2 h2 h3 => by rw [(SlR.caps hz353).1]; exact slices_Contains_hear_Dir_hear_Dir_w (hz353.row (iE_ok _) h2 (fun p hp => h3 p (List.mem_append_left _ hp))) h387) ?_
               refine shQ_on (b := false) 206 rfl (Env.isF rfl c384) (qm rfl rfl (shQ_on (b := false) 206 rfl (Env.isF rfl c384) (qm rfl rfl (shQ_on (b := false) 206 rfl (Env.isF rfl c384) ?_))))
               obtain ⟨x5, g389, hx390, r391⟩ := ix_ok r388; clear r388
               obtain ⟨b392, o393, c394, vs395, ha396, hs397, hle398, rfl, hl399, hc400⟩ := SlR.at (iE_ok _) hz97 (L := (b31, .cells #[.int .i64 n2, .int .i64 n3] 48 (0, 0)) :: ((b24, .cells #[.int .i64 n, .slice a17 n21 c18] 24 (0, 0)) :: (Lb352 ++ (Lb19 ++ (Lb83 ++ (Lb96 ++ (Lb50 ++ []))))))) (fC (fC (fS (fS (fS fP))))) g389.1 hx390
               refine qv (v_indexO Try.underlying26 Try.sizeOf3 rfl ha396 rfl (SlR.idx hz97 g389)) rfl ?_
               refine shQ_on (b := false) 206 rfl (Env.isF rfl c384) ?_
               refine qv (v_load Try.isAgg3 rfl hs397 (hc400 0 (by decide))) rfl ?_
               refine shQ_on (b := false) 206 rfl (Env.isF rfl c384) ?_
               refine qv (v_geqK rfl rfl) rfl ?_
               refine shQ_on (b := false) 206 rfl (Env.isF rfl c384) (qm rfl rfl ?_)
               by_cases c401 : 0 ≤ x5
               · have r402 := ite_t r391 c401; clear r391
                 refine shQ_on (b := true) 214 rfl (Env.isT rfl c401) (qm rfl rfl (shQ_on (b := true) 214 rfl (Env.isT rfl c401) (qm rfl rfl (shQ_on (b := true) 214 rfl (Env.isT rfl c401) ?_))))
                 obtain ⟨b403, o404, c405, vs406, ha407, hs408, hle409, rfl, hl410, hc411⟩ := SlR.at (iE_ok _) hz97 (L := (b31, .cells #[.int .i64 n2, .int .i64 n3] 48 (0, 0)) :: ((b24, .cells #[.int .i64 n, .slice a17 n21 c18] 24 (0, 0)) :: (Lb352 ++ (Lb19 ++ (Lb83 ++ (Lb96 ++ (Lb50 ++ []))))))) (fC (fC (fS (fS (fS fP))))) g389.1 hx390
                 refine qv (v_indexO Try.underlying26 Try.sizeOf3 rfl ha407 rfl (SlR.idx hz97 g389)) rfl ?_
                 refine shQ_on (b := true) 214 rfl (Env.isT rfl c401) ?_
                 refine qv (v_load Try.isAgg3 rfl hs408 (hc411 0 (by decide))) rfl ?_
                 refine shQ_on (b := true) 214 rfl (Env.isT rfl c401) ?_
                 refine qv (v_fieldAddr fa_48_1 rfl) rfl ?_
                 refine shQ_on (b := true) 214 rfl (Env.isT rfl c401) ?_
                 refine qv (v_load Try.isAgg3 rfl (Has.own 0 rfl) rfl) rfl ?_
                 refine shQ_on (b := true) 214 rfl (Env.isT rfl c401) ?_
                 refine qv (v_leqK rfl rfl) rfl ?_
                 refine shQ_on (b := false) 206 rfl (Env.isF rfl c384) ?_
                 refine qv (v_pick_t (evD_true rfl c401) rfl) rfl ?_
                 refine shQ_on (b := false) 206 rfl (Env.isF rfl c384) ?_
                 refine qv (v_neqB Try.underlying4 rfl rfl) rfl ?_
                 refine qv (v_pick_f (evD_false rfl c384) rfl) rfl ?_
                 refine shQ_nil ?_
                 obtain rfl := inj1 r402
                 exact mi (kc (kc (kx kr))) ⟨rfl, rfl, (sc rfl (sc rfl (sc rfl (sc rfl (sc rfl (sc rfl (sc rfl (sc rfl (sc rfl (sc rfl (sc rfl (sc rfl (sn _)))))))))))))⟩
               have r412 := ite_f r391 c401; clear r391
               refine shQ_off (b' := false) 214 rfl (Env.isF rfl c401) rfl rfl (shQ_off (b' := false) 214 rfl (Env.isF rfl c401) rfl rfl (shQ_off (b' := false) 214 rfl (Env.isF rfl c401) rfl rfl (shQ_off (b' := false) 214 rfl (Env.isF rfl c401) rfl rfl (shQ_off (b' := false) 214 rfl (Env.isF rfl c401) rfl rfl (shQ_off (b' := false) 214 rfl (Env.isF rfl c401) rfl rfl (shQ_off (b' := false) 214 rfl (Env.isF rfl c401) rfl rfl (shQ_on (b := false) 206 rfl (Env.isF rfl c384) ?_)))))))
               refine qv (v_pick_f (evD_false rfl c401) rfl) rfl ?_
               refine shQ_on (b := false) 206 rfl (Env.isF rfl c384) ?_
               refine qv (v_neqB Try.underlying4 rfl rfl) rfl ?_
               refine qv (v_pick_f (evD_false rfl c384) rfl) rfl ?_
               refine shQ_nil ?_
               obtain rfl := inj1 r412
               exact mi (kc (kc (kx kr))) ⟨rfl, rfl, (sc rfl (sc rfl (sc rfl (sc rfl (sc rfl (sc rfl (sc rfl (sc rfl (sc rfl (sc rfl (sc rfl (sc rfl (sn _)))))))))))))⟩
             have r413 := ite_f r363 c373; clear r363
             refine shQ_off (b' := false) 195 rfl (Env.isF rfl c373) rfl rfl (shQ_off (b' := false) 195 rfl (Env.isF rfl c373) rfl rfl (shQ_off (b' := false) 195 rfl (Env.isF rfl c373) rfl rfl (shQ_off (b' := false) 195 rfl (Env.isF rfl c373) rfl rfl (shQ_off (b' := false) 195 rfl (Env.isF rfl c373) rfl rfl (shQ_off (b' := false) 195 rfl (Env.isF rfl c373) rfl rfl (shQ_off (b' := false) 195 rfl (Env.isF rfl c373) rfl rfl (shQ_on (b := false) 185 rfl (Env.isF rfl c359) ?_)))))))
             refine qv (v_pick_f (evD_false rfl c373) rfl) rfl ?_
             refine shQ_on (b := false) 185 rfl (Env.isF rfl c359) ?_
             refine qv (v_neqB Try.underlying4 rfl rfl) rfl ?_
             refine qv (v_pick_f (evD_false rfl c359) rfl) rfl ?_
             refine qm rfl rfl ?_
             by_cases c414 : ok ≠ false
             · have r415 := ite_t r413 c414; clear r413
               refine shQ_off (b' := true) 206 rfl (Env.isT rfl c414) rfl rfl (shQ_off (b' := true) 206 rfl (Env.isT rfl c414) rfl rfl (shQ_off (b' := true) 206 rfl (Env.isT rfl c414) rfl rfl (shQ_off (b' := true) 206 rfl (Env.isT rfl c414) rfl rfl (shQ_off (b' := true) 206 rfl (Env.isT rfl c414) rfl rfl (shQ_off (b' := true) 206 rfl (Env.isT rfl c414) rfl rfl (shQ_off (b' := true) 206 rfl (Env.isT rfl c414) rfl rfl (shQ_off (b' := true) 206 rfl (Env.isT rfl c414) rfl rfl (shQ_offU 214 rfl rfl rfl (shQ_offU 214 rfl rfl rfl ?_)))))))))
               refine shQ_offU 214 rfl rfl rfl (shQ_offU 214 rfl rfl rfl (shQ_offU 214 rfl rfl rfl (shQ_offU 214 rfl rfl rfl (shQ_offU 214 rfl rfl rfl (shQ_off (b' := true) 206 rfl (Env.isT rfl c414) rfl rfl (shQ_off (b' := true) 206 rfl (Env.isT rfl c414) rfl rfl ?_))))))
               refine qv (v_pick_t (evD_true rfl c414) rfl) rfl ?_
               refine shQ_nil ?_
               obtain rfl := inj1 r415
               exact mi (kc (kc (kx kr))) ⟨rfl, rfl, (sc rfl (sc rfl (sc rfl (sc rfl (sc rfl (sc rfl (sc rfl (sc rfl (sc rfl (sc rfl (sc rfl (sc rfl (sn _)))))))))))))⟩
             have r416 := ite_f r413 c414; clear r413
             refine shQ_on (b := false) 206 rfl (Env.isF rfl c414) (qm rfl rfl (shQ_on (b := false) 206 rfl (Env.isF rfl c414) ?_))
             obtain ⟨ok3, h417, r418⟩ := b1_ok r416; clear r416
             refine shQ_callT (Lt := Lb352 ++ []) (Lr := (b31, .cells #[.int .i64 n2, .int .i64 n3] 48 (0, 0)) :: ((b24, .cells #[.int .i64 n, .slice a17 n21 c18] 24 (0, 0)) :: (Lb19 ++ (Lb83 ++ (Lb96 ++ (Lb50 ++ [])))))) rfl Try.call44 rfl rfl rfl (pT ((fC (fC fP)).trans (pA pR)) (lp (ln rfl))) (fun F2 h2 h3 => by rw [(SlR.caps hz353).1]; exact slices_Contains_hear_Dir_hear_Dir_w (hz353.row (iE_ok _) h2 (fun p hp => h3 p (List.mem_append_left _ hp))) h417) ?_
             refine shQ_on (b := false) 206 rfl (Env.isF rfl c414) (qm rfl rfl (shQ_on (b := false) 206 rfl (Env.isF rfl c414) (qm rfl rfl (shQ_on (b := false) 206 rfl (Env.isF rfl c414) ?_))))
             obtain ⟨x6, g419, hx420, r421⟩ := ix_ok r418; clear r418
             obtain ⟨b422, o423, c424, vs425, ha426, hs427, hle428, rfl, hl429, hc430⟩ := SlR.at (iE_ok _) hz97 (L := (b31, .cells #[.int .i64 n2, .int .i64 n3] 48 (0, 0)) :: ((b24, .cells #[.int .i64 n, .slice a17 n21 c18] 24 (0, 0)) :: (Lb352 ++ (Lb19 ++ (Lb83 ++ (Lb96 ++ (Lb50 ++ []))))))) (fC (fC (fS (fS (fS fP))))) g419.1 hx420
             refine qv (v_indexO Try.underlying26 Try.sizeOf3 rfl ha426 rfl (SlR.idx hz97 g419)) rfl ?_
             refine shQ_on (b := false) 206 rfl (Env.isF rfl c414) ?_
             refine qv (v_load Try.isAgg3 rfl hs427 (hc430 0 (by decide))) rfl ?_
             refine shQ_on (b := false) 206 rfl (Env.isF rfl c414) ?_
             refine qv (v_geqK rfl rfl) rfl ?_
             refine shQ_on (b := false) 206 rfl (Env.isF rfl c414) (qm rfl rfl ?_)
             by_cases c431 : 0 ≤ x6
             · have r432 := ite_t r421 c431; clear r421
               refine shQ_on (b := true) 214 rfl (Env.isT rfl c431) (qm rfl rfl (shQ_on (b := true) 214 rfl (Env.isT rfl c431) (qm rfl rfl (shQ_on (b := true) 214 rfl (Env.isT rfl c431) ?_))))
               obtain ⟨b433, o434, c435, vs436, ha437, hs438, hle439, rfl, hl440, hc441⟩ := SlR.at (iE_ok _) hz97 (L := (b31, .cells #[.int .i64 n2, .int .i64 n3] 48 (0, 0)) :: ((b24, .cells #[.int .i64 n, .slice a17 n21 c18] 24 (0, 0)) :: (Lb352 ++ (Lb19 ++ (Lb83 ++ (Lb96 ++ (Lb50 ++ []))))))) (fC (fC (fS (fS (fS fP))))) g419.1 hx420
               refine qv (v_indexO Try.underlying26 Try.sizeOf3 rfl ha437 rfl (SlR.idx hz97 g419)) rfl ?_
               refine shQ_on (b := true) 214 rfl (Env.isT rfl c431) ?_
               refine qv (v_load Try.isAgg3 rfl hs438 (hc441 0 (by decide))) rfl ?_
               refine shQ_on (b := true) 214 rfl (Env.isT rfl c431) ?_
               refine qv (v_fieldAddr fa_48_1 rfl) rfl ?_
               refine shQ_on (b := true) 214 rfl (Env.isT rfl c431) ?_
               refine qv (v_load Try.isAgg3 rfl (Has.own 0 rfl) rfl) rfl ?_
               refine shQ_on (b := true) 214 rfl (Env.isT rfl c431) ?_
               refine qv (v_leqK rfl rfl) rfl ?_
               refine shQ_on (b := false) 206 rfl (Env.isF rfl c414) ?_
               refine qv (v_pick_t (evD_true rfl c431) rfl) rfl ?_
               refine shQ_on (b := false) 206 rfl (Env.isF rfl c414) ?_
               refine qv (v_neqB Try.underlying4 rfl rfl) rfl ?_
               refine qv (v_pick_f (evD_false rfl c414) rfl) rfl ?_
               refine shQ_nil ?_
               obtain rfl := inj1 r432
               exact mi (kc (kc (kx kr))) ⟨rfl, rfl, (sc rfl (sc rfl (sc rfl (sc rfl (sc rfl (sc rfl (sc rfl (sc rfl (sc rfl (sc rfl (sc rfl (sc rfl (sn _)))))))))))))⟩
             have r442 := ite_f r421 c431; clear r421
             refine shQ_off (b' := false) 214 rfl (Env.isF rfl c431) rfl rfl (shQ_off (b' := false) 214 rfl (Env.isF rfl c431) rfl rfl (shQ_off (b' := false) 214 rfl (Env.isF rfl c431) rfl rfl (shQ_off (b' := false) 214 rfl (Env.isF rfl c431) rfl rfl (shQ_off (b' := false) 214 rfl (Env.isF rfl c431) rfl rfl (shQ_off (b' := false) 214 rfl (Env.isF rfl c431) rfl rfl (shQ_off (b' := false) 214 rfl (Env.isF rfl c431) rfl rfl (shQ_on (b := false) 206 rfl (Env.isF rfl c414) ?_)))))))
             refine qv (v_pick_f (evD_false rfl c431) rfl) rfl ?_
             refine shQ_on (b := false) 206 rfl (Env.isF rfl c414) ?_
             refine qv (v_neqB Try.underlying4 rfl rfl) rfl ?_
             refine qv (v_pick_f (evD_false rfl c414) rfl) rfl ?_
             refine shQ_nil ?_
             obtain rfl := inj1 r442
             exact mi (kc (kc (kx kr))) ⟨rfl, rfl, (sc rfl (sc rfl (sc rfl (sc rfl (sc rfl (sc rfl (sc rfl (sc rfl (sc rfl (sc rfl (sc rfl (sc rfl (sn _)))))))))))))⟩
           rintro e1 _ _ ⟨rfl, rfl, he443⟩
           refine shW_env _ he443 ?_; clear he443
           refine shW_cond rfl (fun c444 => ?_) (fun c444 => ?_)
           · have r445 := bt r358 c444; clear r358
             refine wsr (oa rfl rfl (shO_nil ?_))
             refine kW kn ?_
             refine shW_ret (inBlock_ret (inBlock_ret (andThen_ret (andThen_ret (inBlock_ret (inBlock_ret (andThen_ret (andThen_ret (inBlock_ret ?_)))))))))
             refine andThen_ret ?_
             refine q_res1 Try.results6 (res_tmp rfl) (sr) ?_
             obtain rfl := inj1 r445
             exact rfl
           have r446 := bf r358 c444; clear r358
           refine shW_skip (inBlock_n (id := 4) (inBlock_n (id := 3) (shW_region ?_)))
           refine ov (v_add rfl rfl (Lst.r64 hk116 c123 (SlR.llt hz84))) rfl ?_
           refine om rfl rfl (shO_nil ?_)
           subst hn117; exact le kr ⟨_, _, rfl, hk124, r446, (hF121.trans hF347), rfl, (sc rfl (sc rfl (sc rfl (sc rfl (sc rfl (sc rfl (sc rfl (sc rfl (sc rfl (sc rfl (sc rfl (sn _))))))))))))⟩
         have r447 := ite_f r341 c342; clear r341
         refine shW_skip (inBlock_n (id := 4) (inBlock_n (id := 3) (shW_region ?_)))
         refine ov (v_add rfl rfl (Lst.r64 hk116 c123 (SlR.llt hz84))) rfl ?_
         refine om rfl rfl (shO_nil ?_)
         subst hn117; exact le kr ⟨_, _, rfl, hk124, r447, hF121, rfl, (sc rfl (sc rfl (sc rfl (sc rfl (sc rfl (sc rfl (sc rfl (sc rfl (sc rfl (sc rfl (sc rfl (sn _))))))))))))⟩
       obtain rfl := Lst.zero hk116 c123
       rw [oyezlaw01_HearBack_l4] at r118
       refine shW_exit (andThen_exit (andThen_exit ?_))
       refine inBlock_exit ?_
       refine inBlock_n (id := 1) ?_
       exact mi (kc (kc (ka (kx (kx kr))))) ⟨r118, ((hF78.trans hF91).trans hF121), rfl, (sc rfl (sc rfl (sc rfl (sc rfl (sc rfl (sc rfl (sn _)))))))⟩
     rintro e1 F450 _ ⟨r448, hF451, rfl, he449⟩
     refine shW_env _ he449 ?_; clear he449
     replace h_numbers := h_numbers.mono (iE_ok _) hF451
     replace h10 := h10.mono (iE_ok _) hF451
     replace hz20 := hz20.mono (iE_ok _) hF451
     replace hz51 := hz51.mono (iE_ok _) hF451
     rw [oyezlaw01_HearBack_j3] at r448
     refine shW_region ?_
     refine ov (v_add rfl rfl (Lst.r64 hk55 c62 (SlR.llt hz51))) rfl ?_
     refine om rfl rfl (shO_nil ?_)
     subst hn56; exact le kr ⟨_, _, rfl, hk63, r448, (hF60.trans hF451), rfl, (sc rfl (sc rfl (sc rfl (sc rfl (sc rfl (sc rfl (sn _)))))))⟩
   obtain rfl := Lst.zero hk55 c62
   rw [oyezlaw01_HearBack_l2] at r57
   refine shW_exit (andThen_exit (andThen_exit ?_))
   refine inBlock_exit ?_
   exact mi kn ⟨r57, (hF45.trans hF60), rfl, (sn _)⟩
 rintro e1 F454 _ ⟨r452, hF455, rfl, he453⟩
 refine shW_env _ he453 ?_; clear he453
 replace h_numbers := h_numbers.mono (iE_ok _) hF455
 replace h10 := h10.mono (iE_ok _) hF455
 rw [oyezlaw01_HearBack_j1] at r452
 refine wsr ?_
 obtain ⟨ok4, h456, r457⟩ := b1_ok r452; clear r452
 refine o_callV rfl Try.call15 rfl rfl rfl (oyezlaw01_awake_w h456) ?_
 refine oa rfl rfl (shO_nil (shW_ret ?_))
 refine q_res1 Try.results6 (res_tmp rfl) (sr) ?_
 obtain rfl := inj1 r457
 exact rfl


end Go.Proofs.Ytdnmaodkdhdacaa
