/- The walks that this claim needs, printed by a program of mine; part 2. -/
import Derived.Test.YtdnmaodkdhdacaaNe1
namespace Go.Proofs.Ytdnmaodkdhdacaa
open Go.SH Go.PL
set_option maxHeartbeats 1000000 in
theorem slices_Index_hear_ears_hear_ears_w {s__a : Option Addr} {s__c : Nat} {s_ : List (List Bool)} {v : List Bool} {F : FS} (h_s_ : RowR 30 (arE 30 cB) F s__a s__c s_) (h_v : v.length = 30) {r : Int} (hr : slices_Index_hear_ears_hear_ears s_ v = some r) :
    SpecV Try.prog 144 #[.slice s__a s_.length s__c, .agg (arr cB v)] F (.int .i64 r) := by
 refine spec_of_shW (args := [.slice s__a s_.length s__c, .agg (arr cB v)]) Try.func144 rfl Try.ntmps144 (Nat.le_of_ble_eq_true rfl) ?_
 intro K _ _; rw [slices_Index_hear_ears_hear_ears] at hr
 refine wsr ?_
 refine o_box rfl rfl ?_; intro b1 hb1
 refine oa rfl rfl (shO_nil ?_)
 refine shW_join (fun e1 F1 L1 => slices_Index_hear_ears_hear_ears_j1 = some r ∧ F = F1 ∧ L1 = [] ∧ e1.sub []) ?_ ?_
 · refine wsr (om rfl rfl ?_)
   refine ov (v_lenS Try.underlying119 rfl) rfl ?_
   refine om rfl rfl (shO_nil ?_)
   refine shW_block ?_
   refine shW_lp (fun fu2 e1 F1 L1 => ∃ (tl : List (List Bool)) (k : Int), tl.length = fu2 ∧ Lst s_ k tl ∧ slices_Index_hear_ears_hear_ears_l2 v tl k = some r ∧ F = F1 ∧ L1 = [(b1, .cells (arr cB v) 142 (0, 0))] ∧ e1.sub [(0, .slice s__a s_.length s__c), (3, .pointer (some ⟨b1, 0, none⟩)), (7, .int .i64 (s_.length : Int)), (8, .int .i64 k)]) _ (m0 kr ⟨_, _, rfl, Lst.start _, hr, rfl, rfl, (sc rfl (sc rfl (sc rfl (sc rfl (sn _)))))⟩) ?_
   rintro fu2 e1 _ _ ⟨tl, k, hn3, hk2, r4, rfl, rfl, he5⟩
   refine shW_env _ he5 ?_; clear he5
   refine wsr ?_
   refine ov (v_lssK rfl rfl) rfl ?_
   refine shO_nil (shW_seq ?_)
   refine shW_condP rfl (fun c7 => ?_) (fun c7 => ?_)
   · obtain ⟨x, tl2, rfl, hx9, g10, hk8⟩ := Lst.succ hk2 c7
     rw [slices_Index_hear_ears_hear_ears_l2] at r4
     refine shW_skip (shW_seq ?_)
     refine shW_block ?_
     refine wsr (om rfl rfl (oa rfl rfl ?_))
     refine nsd (by kernel_rfl) (by kernel_rfl) (by kernel_rfl) ?_
     refine qv (v_loadW Try.isAgg142 Try.sizeOf142 rfl (Has.own 0 rfl) (arr_sz cB_ok h_v)) rfl ?_
     refine qm rfl rfl (qm rfl rfl ?_)
     obtain ⟨b11, o12, c13, vs14, ha15, hs16, hle17, ⟨rfl, h20⟩, hl18, hc19⟩ := RowR.at (arE_ok (n := 30) (sz := 1) cB_ok) h_s_ ([(b1, .cells (arr cB v) 142 (0, 0))]) g10.1 hx9
     refine qv (v_indexO Try.underlying119 Try.sizeOf142 rfl ha15 rfl g10) rfl ?_
     refine qv (v_loadA (cs := arr cB x) Try.isAgg142 Try.sizeOf142 rfl hs16 hle17 (extract_cells hle17 hl18 hc19)) rfl ?_
     refine qv (v_eqA (eqga_142 _ _ _ _) (eqa_142 h_v h20) rfl rfl) rfl ?_
     refine shQ_nil ?_
     refine shW_condP rfl (fun c21 => ?_) (fun c21 => ?_)
     · have r22 := ite_t r4 c21; clear r4
       refine wsr (om rfl rfl (oa rfl rfl (shO_nil ?_)))
       refine kW kn ?_
       refine shW_ret (inBlock_ret (andThen_ret (andThen_ret (inBlock_ret (andThen_ret ?_)))))
       refine q_res1 Try.results144 (res_tmp rfl) (sr) ?_
       obtain rfl := inj1 r22
       exact rfl
     have r23 := ite_f r4 c21; clear r4
     refine shW_skip (inBlock_n (id := 1) (shW_region ?_))
     refine ov (v_add rfl rfl (Lst.r64 hk2 c7 (RowR.lt h_s_))) rfl ?_
     refine om rfl rfl (shO_nil ?_)
     subst hn3; exact le kr ⟨_, _, rfl, hk8, r23, rfl, rfl, (sc rfl (sc rfl (sc rfl (sc rfl (sn _)))))⟩
   obtain rfl := Lst.zero hk2 c7
   rw [slices_Index_hear_ears_hear_ears_l2] at r4
   refine shW_exit (andThen_exit (andThen_exit ?_))
   refine inBlock_exit ?_
   exact mi kn ⟨r4, rfl, rfl, (sn _)⟩
 rintro e1 _ _ ⟨r24, rfl, rfl, he25⟩
 refine shW_env _ he25 ?_; clear he25
 rw [slices_Index_hear_ears_hear_ears_j1] at r24
 refine wsr (oa rfl rfl (shO_nil (shW_ret ?_)))
 refine q_res1 Try.results144 (res_tmp rfl) (sr) ?_
 obtain rfl := inj1 r24
 exact rfl


set_option maxHeartbeats 1000000 in
theorem slices_Contains_hear_ears_hear_ears_w {s__a : Option Addr} {s__c : Nat} {s_ : List (List Bool)} {v : List Bool} {F : FS} (h_s_ : RowR 30 (arE 30 cB) F s__a s__c s_) (h_v : v.length = 30) {r : Bool} (hr : slices_Contains_hear_ears_hear_ears s_ v = some r) :
    SpecV Try.prog 135 #[.slice s__a s_.length s__c, .agg (arr cB v)] F (.bool r) := by
 refine spec_of_shW (args := [.slice s__a s_.length s__c, .agg (arr cB v)]) Try.func135 rfl Try.ntmps135 (Nat.le_of_ble_eq_true rfl) ?_
 intro K _ _; rw [slices_Contains_hear_ears_hear_ears] at hr
 refine wsr ?_
 refine o_box rfl rfl ?_; intro b1 hb1
 refine oa rfl rfl (nsr (om rfl rfl ?_))
 refine ov (v_loadW Try.isAgg142 Try.sizeOf142 rfl (Has.own 0 rfl) (arr_sz cB_ok h_v)) rfl ?_
 obtain ⟨n, h2, r3⟩ := b1_ok hr; clear hr
 refine o_callV rfl Try.call144 rfl rfl rfl (slices_Index_hear_ears_hear_ears_w h_s_ h_v h2) ?_
 refine ov (v_geqK rfl rfl) rfl ?_
 refine oa rfl rfl (shO_nil ?_)
 refine kW kn ?_
 refine shW_ret ?_
 refine q_res1 Try.results135 (res_tmp rfl) (sr) ?_
 obtain rfl := inj1 r3
 exact rfl


set_option maxHeartbeats 1000000 in
theorem hear_quarter_deaf_w {ears_a : Option Addr} {ears_c : Nat} {ears : List (List Bool)} {count_f : FuncId} {count_1 : Array Value} {count_2 : Array Value} {count : Int → Option Int} {F : FS} (h_ears : RowR 30 (arE 30 cB) F ears_a ears_c ears) (_h_count : FnR Try.prog F count_f count_1 count_2 (iE .i64) (Value.int .i64) count) {r : Bool} (hr : hear_quarter_deaf ears count = some r) :
    SpecV Try.prog 107 #[.agg #[.slice ears_a ears.length ears_c, .func (.func count_f) count_1 count_2]] F (.bool r) := by
 refine spec_of_shW (args := [.agg #[.slice ears_a ears.length ears_c, .func (.func count_f) count_1 count_2]]) Try.func107 rfl Try.ntmps107 (Nat.le_of_ble_eq_true rfl) ?_
 intro K _ _; rw [hear_quarter_deaf] at hr
 refine wsr ?_
 refine o_box rfl rfl ?_; intro b1 hb1
 refine oa rfl rfl (nsr ?_)
 refine ov (v_fieldAddr fa_121_0 rfl) rfl ?_
 refine ov (v_load Try.isAgg119 rfl (Has.own 0 rfl) rfl) rfl ?_
 refine ov (v_build (v := .agg (arr cB (List.replicate 30 false))) rfl (by intro w; kernel_rfl)) rfl ?_
 obtain ⟨ok, h2, r3⟩ := b1_ok hr; clear hr
 refine o_callV rfl Try.call135 rfl rfl rfl (slices_Contains_hear_ears_hear_ears_w h_ears List.length_replicate h2) ?_
 refine oa rfl rfl (shO_nil ?_)
 refine kW kn ?_
 refine shW_ret ?_
 refine q_res1 Try.results107 (res_tmp rfl) (sr) ?_
 obtain rfl := inj1 r3
 exact rfl


set_option maxHeartbeats 1000000 in
theorem slices_Compact_hear_ears_hear_ears_w {s__a : Option Addr} {s__n : Nat} {s__c : Nat} {s__L : LH} {s_ : List (List Bool)} {s__nb : Nat} {F : FS} (h_s_ : SlR s__nb 142 30 (arE 30 cB) F s__a s__n s__c s_ s__L) {r : List (List Bool)} (hr : slices_Compact_hear_ears_hear_ears s_ = some r) :
    SH.Spec Try.prog 108 #[.slice s__a s__n s__c] F (s__L ++ []) fun F' L' v => ∃ (ra : Option Addr) (rn : Nat) (rc : Nat) (rL : LH), v = .slice ra rn rc ∧ L' = rL ++ [] ∧ SlR s__nb 142 30 (arE 30 cB) F' ra rn rc r rL := by
 refine spec_of_shW (args := [.slice s__a s__n s__c]) Try.func108 rfl Try.ntmps108 (Nat.le_of_ble_eq_true rfl) ?_
 intro K _ _; rw [slices_Compact_hear_ears_hear_ears] at hr
 refine shW_L (L' := s__L ++ []) (by simp) ?_
 refine wsr (oa rfl rfl (shO_nil (shW_seq (wsr (om rfl rfl ?_)))))
 refine ov ((v_lenS Try.underlying119 rfl).i (SlR.lenI h_s_)) rfl ?_
 refine ov (v_lssK rfl rfl) rfl ?_
 refine shO_nil ?_
 refine shW_condP rfl (fun c1 => ?_) (fun c1 => ?_)
 · have r2 := ite_t hr c1; clear hr
   refine wsr (om rfl rfl (oa rfl rfl (shO_nil (shW_ret (andThen_ret ?_)))))
   refine q_res1 Try.results108 (res_tmp rfl) (sr) ?_
   obtain rfl := inj1 r2
   exact ⟨_, _, _, _, rfl, rfl, h_s_⟩
 have r3 := ite_f hr c1; clear hr
 refine shW_skip ?_
 refine shW_join (fun e1 F1 L1 => slices_Compact_hear_ears_hear_ears_j1 s_ = some r ∧ F = F1 ∧ L1 = (s__L ++ []) ∧ e1.sub [(0, .slice s__a s__n s__c)]) ?_ ?_
 · refine wsr (oa rfl rfl (shO_nil ?_))
   refine shW_block ?_
   obtain ⟨g4, r5⟩ := gd_ok r3; clear r3
   refine shW_lp (fun fu2 e1 F1 L1 => ∃ (k : Int), Ctr 1 (s_.length : Int) k fu2 ∧ slices_Compact_hear_ears_hear_ears_l2 s_ fu2 k = some r ∧ F = F1 ∧ L1 = (s__L ++ []) ∧ e1.sub [(0, .slice s__a s__n s__c), (3, .int .i64 k)]) _ (m0 kr ⟨_, Ctr.start _ _, r5, rfl, rfl, (sc rfl (sc rfl (sn _)))⟩) ?_
   rintro fu2 e1 _ _ ⟨k, hk6, r8, rfl, rfl, he9⟩
   refine shW_env _ he9 ?_; clear he9
   refine shW_seq (wsr (om rfl rfl (om rfl rfl ?_)))
   refine ov ((v_lenS Try.underlying119 rfl).i (SlR.lenI h_s_)) rfl ?_
   refine ov (v_lssK rfl rfl) rfl ?_
   refine shO_nil ?_
   refine shW_condP rfl (fun c11 => ?_) (fun c11 => ?_)
   · obtain ⟨fu2, rfl, hk12⟩ := Ctr.succ hk6 c11
     rw [slices_Compact_hear_ears_hear_ears_l2] at r8
     refine shW_skip ?_
     refine shW_join (fun e1 F1 L1 => slices_Compact_hear_ears_hear_ears_j3 k (slices_Compact_hear_ears_hear_ears_l2 s_ fu2) = some r ∧ F = F1 ∧ L1 = (s__L ++ []) ∧ e1.sub [(0, .slice s__a s__n s__c), (3, .int .i64 k)]) ?_ ?_
     · refine shW_block ?_
       refine wsd (by kernel_rfl) (by kernel_rfl) (by kernel_rfl) ?_
       refine qm rfl rfl (qm rfl rfl ?_)
       obtain ⟨x, g13, hx14, r15⟩ := ix_ok r8; clear r8
       obtain ⟨b16, o17, c18, vs19, ha20, hs21, hle22, ⟨rfl, h25⟩, hl23, hc24⟩ := SlR.at (arE_ok (n := 30) (sz := 1) cB_ok) h_s_ (L := s__L ++ []) fP g13.1 hx14
       refine qv (v_indexO Try.underlying119 Try.sizeOf142 rfl ha20 rfl (SlR.idx h_s_ g13)) rfl ?_
       refine qv (v_loadA (cs := arr cB x) Try.isAgg142 Try.sizeOf142 rfl hs21 hle22 (extract_cells hle22 hl23 hc24)) rfl ?_
       refine qm rfl rfl (qm rfl rfl ?_)
       obtain ⟨g26, r27⟩ := gd_ok r15; clear r15
       refine qv (v_sub rfl rfl g26) rfl ?_
       obtain ⟨x2, g28, hx29, r30⟩ := ix_ok r27; clear r27
       obtain ⟨b31, o32, c33, vs34, ha35, hs36, hle37, ⟨rfl, h40⟩, hl38, hc39⟩ := SlR.at (arE_ok (n := 30) (sz := 1) cB_ok) h_s_ (L := s__L ++ []) fP g28.1 hx29
       refine qv (v_indexO Try.underlying119 Try.sizeOf142 rfl ha35 rfl (SlR.idx h_s_ g28)) rfl ?_
       refine qv (v_loadA (cs := arr cB x2) Try.isAgg142 Try.sizeOf142 rfl hs36 hle37 (extract_cells hle37 hl38 hc39)) rfl ?_
       refine qv (v_eqA (eqga_142 _ _ _ _) (eqa_142 h25 h40) rfl rfl) rfl ?_
       refine shQ_nil ?_
       refine shW_condP rfl (fun c41 => ?_) (fun c41 => ?_)
       · have r42 := ite_t r30 c41; clear r30
         refine wsr (om rfl rfl (om rfl rfl ?_))
         obtain ⟨g43, r44⟩ := gd_ok r42; clear r42
         have gv45 := SlR.gV h_s_ g43
         refine ov (OpV.eq (v' := .slice (vwA s__a s__c (Int.toNat k) 30) (s__n - Int.toNat k) (s__c - Int.toNat k)) (v_slice (l := k) (h := (s__n : Nat)) Try.underlying119 Try.sizeOf142 rfl (.inr ⟨_, rfl, rfl⟩) (.inl ⟨rfl, rfl⟩) (SlR.capV h_s_ gv45)) rfl) rfl ?_
         refine oa rfl rfl (shO_nil ?_)
         obtain ⟨s_2, k2, h48, r49⟩ := b2_ok r44; clear r44
         refine shW_join (fun e1 F1 L1 => ∃ (Lb46 : LH), F = F1 ∧ L1 = (Lb46 ++ []) ∧ e1.sub [(0, .slice s__a s__n s__c), (3, .int .i64 k2)] ∧ SlR s__nb 142 30 (arE 30 cB) F1 s__a s__n s__c s_2 Lb46) ?_ ?_
         · clear r49
           refine wsr (oa rfl rfl (shO_nil ?_))
           refine shW_block ?_
           refine shW_lp (fun fu4 e1 F1 L1 => ∃ (s_3 : List (List Bool)) (k3 : Int) (k2_2 : Int) (Lb50 : LH), slices_Compact_hear_ears_hear_ears_l4 k fu4 s_3 k3 k2_2 = some (s_2, k2) ∧ F = F1 ∧ L1 = (Lb50 ++ []) ∧ e1.sub [(0, .slice s__a s__n s__c), (3, .int .i64 k3), (4, .slice (vwA s__a s__c (Int.toNat k) 30) (s__n - Int.toNat k) (s__c - Int.toNat k)), (5, .int .i64 k2_2)] ∧ SlR s__nb 142 30 (arE 30 cB) F1 s__a s__n s__c s_3 Lb50) FU (m0 kr ⟨s_, k, 1, s__L, h48, rfl, rfl, (sc rfl (sc rfl (sc rfl (sc rfl (sn _))))), h_s_⟩) ?_
           rintro fu4 e1 _ _ ⟨s_3, k3, k2_2, Lb50, r54, rfl, rfl, he55, hz51⟩
           refine shW_env _ he55 ?_; clear he55
           rcases fu4 with _ | fu4
           · rw [slices_Compact_hear_ears_hear_ears_l4] at r54; cases r54
           rw [slices_Compact_hear_ears_hear_ears_l4] at r54
           refine shW_seq (wsr (om rfl rfl (om rfl rfl ?_)))
           refine ov ((v_lenS Try.underlying119 rfl).i (SlR.lenV hz51).symm) rfl ?_
           refine ov (v_lssK rfl rfl) rfl ?_
           refine shO_nil ?_
           refine shW_condP rfl (fun c56 => ?_) (fun c56 => ?_)
           · have r57 := ite_t r54 c56; clear r54
             refine shW_skip (shW_seq ?_)
             refine shW_block ?_
             refine wsd (by kernel_rfl) (by kernel_rfl) (by kernel_rfl) ?_
             refine qm rfl rfl (qm rfl rfl ?_)
             obtain ⟨x3, g58, hx59, r60⟩ := ix_ok r57; clear r57
             obtain ⟨b61, o62, c63, vs64, ha65, hs66, hle67, ⟨rfl, h70⟩, hl68, hc69⟩ := SlR.atV (arE_ok (n := 30) (sz := 1) cB_ok) hz51 (L := Lb50 ++ []) fP gv45 g58.1 hx59
             refine qv (v_indexO Try.underlying119 Try.sizeOf142 rfl ha65 rfl (SlR.idxV hz51 g58)) rfl ?_
             refine qv (v_loadA (cs := arr cB x3) Try.isAgg142 Try.sizeOf142 rfl hs66 hle67 (extract_cells hle67 hl68 hc69)) rfl ?_
             refine qm rfl rfl (qm rfl rfl ?_)
             obtain ⟨g71, r72⟩ := gd_ok r60; clear r60
             refine qv (v_sub rfl rfl g71) rfl ?_
             obtain ⟨x4, g73, hx74, r75⟩ := ix_ok r72; clear r72
             obtain ⟨b76, o77, c78, vs79, ha80, hs81, hle82, ⟨rfl, h85⟩, hl83, hc84⟩ := SlR.atV (arE_ok (n := 30) (sz := 1) cB_ok) hz51 (L := Lb50 ++ []) fP gv45 g73.1 hx74
             refine qv (v_indexO Try.underlying119 Try.sizeOf142 rfl ha80 rfl (SlR.idxV hz51 g73)) rfl ?_
             refine qv (v_loadA (cs := arr cB x4) Try.isAgg142 Try.sizeOf142 rfl hs81 hle82 (extract_cells hle82 hl83 hc84)) rfl ?_
             refine qv (v_neA (eqgna_142 _ _ _ _) (nea_142 h70 h85) rfl rfl) rfl ?_
             refine shQ_nil ?_
             refine shW_condP rfl (fun c86 => ?_) (fun c86 => ?_)
             · have r87 := ite_t r75 c86; clear r75
               refine wsr (om rfl rfl (om rfl rfl (om rfl rfl (om rfl rfl ?_))))
               obtain ⟨b88, o89, c90, vs91, ha92, hs93, hle94, ⟨rfl, h97⟩, hl95, hc96⟩ := SlR.atV (arE_ok (n := 30) (sz := 1) cB_ok) hz51 (L := Lb50 ++ []) fP gv45 g58.1 hx59
               refine ov (v_indexO Try.underlying119 Try.sizeOf142 rfl ha92 rfl (SlR.idxV hz51 g58)) rfl ?_
               refine ov (v_loadA (cs := arr cB x3) Try.isAgg142 Try.sizeOf142 rfl hs93 hle94 (extract_cells hle94 hl95 hc96)) rfl ?_
               obtain ⟨x5, g98, hx99, r100⟩ := ix_ok r87; clear r87
               obtain ⟨b101, o102, c103, vs104, ha105, hs106, hle107, ⟨rfl, h110⟩, hl108, hc109⟩ := SlR.at (arE_ok (n := 30) (sz := 1) cB_ok) hz51 (L := Lb50 ++ []) fP g98.1 hx99
               refine ov (v_indexO Try.underlying119 Try.sizeOf142 rfl ha105 rfl (SlR.idx hz51 g98)) rfl ?_
               obtain ⟨s_4, h111, r112⟩ := bv_ok r100; clear r100
               refine o_storeZ (u := x3) Try.sizeOf142 (arE_ok (n := 30) (sz := 1) cB_ok) rfl ha105 rfl ⟨rfl, h97⟩ (fun _ => .h) hz51 h111 g98 ?_; intro Lb113 hz114
               refine shO_nil (shW_region (om rfl rfl ?_))
               obtain ⟨g115, r116⟩ := gd_ok r112; clear r112
               refine ov (v_add rfl rfl g115) rfl ?_
               refine oa rfl rfl (shO_nil (inBlock_n (id := 3) (shW_region (om rfl rfl ?_))))
               obtain ⟨g117, r118⟩ := gd_ok r116; clear r116
               refine ov (v_add rfl rfl g117) rfl ?_
               refine oa rfl rfl (shO_nil ?_)
               exact le kr ⟨s_4, k3 + 1, k2_2 + 1, Lb113, r118, rfl, rfl, (sc rfl (sc rfl (sc rfl (sc rfl (sn _))))), hz114⟩
             have r119 := ite_f r75 c86; clear r75
             refine shW_skip (inBlock_n (id := 3) (shW_region (om rfl rfl ?_)))
             obtain ⟨g120, r121⟩ := gd_ok r119; clear r119
             refine ov (v_add rfl rfl g120) rfl ?_
             refine oa rfl rfl (shO_nil ?_)
             exact le kr ⟨s_3, k3, k2_2 + 1, Lb50, r121, rfl, rfl, (sc rfl (sc rfl (sc rfl (sc rfl (sn _))))), hz51⟩
           have r122 := ite_f r54 c56; clear r54
           refine shW_exit (andThen_exit (andThen_exit ?_))
           refine inBlock_exit ?_
           obtain ⟨rfl, rfl⟩ := inj2 r122
           exact mi kr ⟨Lb50, rfl, rfl, (sc rfl (sc rfl (sn _))), hz51⟩
         rintro e1 _ _ ⟨Lb46, rfl, rfl, he123, hz47⟩
         refine shW_env _ he123 ?_; clear he123
         refine wsr (om rfl rfl (om rfl rfl ?_))
         obtain ⟨g124, r125⟩ := gd_ok r49; clear r49
         have gv126 := SlR.gV hz47 g124
         refine ov (OpV.eq (v' := .slice (vwA s__a s__c (Int.toNat k2) 30) (s__n - Int.toNat k2) (s__c - Int.toNat k2)) (v_slice (l := k2) (h := (s__n : Nat)) Try.underlying119 Try.sizeOf142 rfl (.inr ⟨_, rfl, rfl⟩) (.inl ⟨rfl, rfl⟩) (SlR.capV hz47 gv126)) rfl) rfl ?_
         obtain ⟨s_5, h127, r128⟩ := bv_ok r125; clear r125
         refine o_clearV (z0 := List.replicate 30 false) (zs := s_5) (l := k2) rfl slt_119 (by decide) (arE_ok (n := 30) (sz := 1) cB_ok) (fun _ => ⟨rfl, rfl⟩) rfl (fun _ => .h) hz47 gv126 h127 ?_; intro Lb129 hz130
         refine nsr (om rfl rfl (om rfl rfl ?_))
         obtain ⟨g131, r132⟩ := gd_ok r128; clear r128
         obtain ⟨s_6, h133, r134⟩ := bv_ok r132; clear r132
         refine o_sliceZ (l := 0) (h := k2) (zs := s_6) rfl slt_119 (arE_ok (n := 30) (sz := 1) cB_ok) rfl (.inl ⟨rfl, rfl⟩) (.inr ⟨_, rfl, rfl⟩) (fun _ => .h) hz130 g131 h133 ?_; intro a135 n138 c136 Lb139 h137
         refine oa rfl rfl (shO_nil (shW_ret (inBlock_ret (andThen_ret (andThen_ret (inBlock_ret (andThen_ret ?_)))))))
         refine q_res1 Try.results108 (res_tmp rfl) (sr) ?_
         obtain rfl := inj1 r134
         exact ⟨_, _, _, _, rfl, rfl, h137⟩
       have r141 := ite_f r30 c41; clear r30
       refine shW_skip (inBlock_n (id := 1) ?_)
       exact mi kr ⟨r141, rfl, rfl, (sc rfl (sc rfl (sn _)))⟩
     rintro e1 _ _ ⟨r142, rfl, rfl, he143⟩
     refine shW_env _ he143 ?_; clear he143
     rw [slices_Compact_hear_ears_hear_ears_j3] at r142
     refine shW_region (om rfl rfl ?_)
     refine ov (v_add rfl rfl (Ctr.r64 hk6 c11 g4)) rfl ?_
     refine oa rfl rfl (shO_nil ?_)
     exact le kr ⟨_, hk12, r142, rfl, rfl, (sc rfl (sc rfl (sn _)))⟩
   obtain rfl := Ctr.zero hk6 c11
   rw [slices_Compact_hear_ears_hear_ears_l2] at r8
   refine shW_exit (andThen_exit (andThen_exit ?_))
   refine inBlock_exit ?_
   exact mi kr ⟨r8, rfl, rfl, (sc rfl (sn _))⟩
 rintro e1 _ _ ⟨r144, rfl, rfl, he145⟩
 refine shW_env _ he145 ?_; clear he145
 rw [slices_Compact_hear_ears_hear_ears_j1] at r144
 refine wsr (om rfl rfl (oa rfl rfl (shO_nil (shW_ret ?_))))
 refine q_res1 Try.results108 (res_tmp rfl) (sr) ?_
 obtain rfl := inj1 r144
 exact ⟨_, _, _, _, rfl, rfl, h_s_⟩


set_option maxHeartbeats 1000000 in
theorem slices_Clone_hear_ears_hear_ears_w {s__a : Option Addr} {s__c : Nat} {s_ : List (List Bool)} {F : FS} (h_s_ : RowR 30 (arE 30 cB) F s__a s__c s_) {r : List (List Bool)} (hr : slices_Clone_hear_ears_hear_ears s_ = some r) :
    SH.Spec Try.prog 109 #[.slice s__a s_.length s__c] F [] fun F' L' v => ∃ (ra : Option Addr) (rn : Nat) (rc : Nat) (rL : LH), v = .slice ra rn rc ∧ L' = rL ++ [] ∧ SlR 0 142 30 (arE 30 cB) F' ra rn rc r rL := by
 refine spec_of_shW (args := [.slice s__a s_.length s__c]) Try.func109 rfl Try.ntmps109 (Nat.le_of_ble_eq_true rfl) ?_
 intro K _ _; rw [slices_Clone_hear_ears_hear_ears] at hr
 refine wsr (oa rfl rfl (shO_nil (shW_seq (wsr (om rfl rfl ?_)))))
 refine ov (v_eqlNil Try.underlying119 rfl) rfl ?_
 refine shO_nil ?_
 refine shW_cond rfl (fun c1 => ?_) (fun c1 => ?_)
 · have r2 := nilIf_t hr (RowR.isNone h_s_ c1); clear hr
   refine wsr (oa rfl rfl (shO_nil (shW_ret (andThen_ret ?_))))
   refine q_res1 Try.results109 (res_tmp rfl) (sr) ?_
   obtain rfl := inj1 r2
   exact ⟨_, _, _, [], rfl, rfl, SlR.nil _ _ _ _ _⟩
 have r3 := nilIf_f hr; clear hr
 refine shW_skip (wsr ?_)
 refine o_buildSlice (cs := #[]) rfl rfl (buildSlice_none slt_119) ?_; intro b4 hb4
 refine om rfl rfl ?_
 have hz6 : SlR K.w0.heap.size 142 30 (arE 30 cB) F (some ⟨b4, 0, none⟩) 0 0 ([] : List (List Bool)) [(b4, .cells #[] 142 (0, 0))] := SlR.of_block (vss := []) (arE_ok (n := 30) (sz := 1) cB_ok) hb4 .nil rfl rfl (by simp [maxLen])
 generalize hLLb5 : ([(b4, .cells #[] 142 (0, 0))] : LH) = Lb5 at hz6
 refine shO_perm (L' := Lb5 ++ []) (by rw [← hLLb5]; exact fO) ?_
 obtain ⟨l, h8, g9, r10⟩ := ap_ok r3; clear r3
 refine o_appZ (xs := ([] : List (List Bool))) (ys := s_) (zs := l) rfl slt_119 rfl rfl (Nat.le_refl _) (fun _ => .h) hz6 (RowR.src h_s_) h8 g9 (by decide) ?_; intro a11 n15 c12 Lb13 hz14
 refine oa rfl rfl (shO_nil (shW_ret ?_))
 refine q_res1 Try.results109 (res_tmp rfl) (sr) ?_
 obtain rfl := inj1 r10
 exact ⟨_, _, _, _, rfl, rfl, hz14.any⟩


set_option maxHeartbeats 1000000 in
theorem hear_Fewest_w {wide : Int} {plots_a : Option Addr} {plots_c : Nat} {plots : List Int} {wind : Int} {voice : Int} {houses_a : Option Addr} {houses_c : Nat} {houses : List Int} {F : FS} (h_plots : RowR 1 (iE .i64) F plots_a plots_c plots) (h_houses : RowR 1 (iE .i64) F houses_a houses_c houses) {r : List Int} {r2 : Int} (hr : hear_Fewest wide plots wind voice houses = some (r, r2)) :
    SH.Spec Try.prog 59 #[.agg #[.int .i64 wide, .slice plots_a plots.length plots_c], .agg #[.int .i64 wind, .int .i64 voice], .slice houses_a houses.length houses_c] F [] fun F' L' v => ∃ (ra : Option Addr) (rn : Nat) (rc : Nat) (rL : LH), v = .tuple #[.slice ra rn rc, .int .i64 r2] ∧ L' = rL ++ [] ∧ SlR 0 3 1 (iE .i64) F' ra rn rc r rL := by
 refine spec_of_shW (args := [.agg #[.int .i64 wide, .slice plots_a plots.length plots_c], .agg #[.int .i64 wind, .int .i64 voice], .slice houses_a houses.length houses_c]) Try.func59 rfl Try.ntmps59 (Nat.le_of_ble_eq_true rfl) ?_
 intro K _ _; rw [hear_Fewest] at hr
 refine wsr ?_
 refine o_box rfl rfl ?_; intro b1 hb1
 refine o_box rfl rfl ?_; intro b2 hb2
 refine oa rfl rfl (oa rfl rfl (nsr ?_))
 refine ov (v_loadA (cs := #[.int .i64 wide, .slice plots_a plots.length plots_c]) Try.isAgg24 Try.sizeOf24 rfl (Has.own 1 rfl) (Nat.le_of_ble_eq_true rfl) rfl) rfl ?_
 refine ov (v_loadA (cs := #[.int .i64 wind, .int .i64 voice]) Try.isAgg48 Try.sizeOf48 rfl (Has.own 0 rfl) (Nat.le_of_ble_eq_true rfl) rfl) rfl ?_
 refine om rfl rfl ?_
 obtain ⟨l, y, n, h3, r4⟩ := b3_ok hr; clear hr
 refine o_call0 rfl Try.call88 rfl rfl rfl (hear_asked_w h_plots h_houses h3) ?_; rintro _ F5 _ hF6 hn7 ⟨a9, n13, c10, Lb11, v15, rfl, rfl, hz12, hp16⟩
 replace h_plots := h_plots.mono (iE_ok _) hF6
 replace h_houses := h_houses.mono (iE_ok _) hF6
 replace hz12 := hz12.new fun p hp => hn7 p (by simp [hp])
 refine shO_L (lp (ln rfl)) ?_
 refine kO (kf (fS fO) (kf (fS fO) kr)) ?_
 refine om rfl rfl (ox rfl rfl rfl (ox rfl rfl rfl ?_))
 refine o_alloc rfl Try.zeroValue121 ?_; intro b17 hb17
 refine o_storeA (i := 0) Try.sizeOf121 rfl rfl rfl (List.forall_mem_cons.2 ⟨rfl, (List.forall_mem_cons.2 ⟨hp16.1, (fun _ h => absurd h List.not_mem_nil)⟩)⟩) rfl (Nat.le_of_ble_eq_true rfl) ?_
 refine shO_L (L' := (b17, .cells #[.slice a9 n13 c10, v15] 121 (0, 0)) :: ((b2, .cells #[.int .i64 wind, .int .i64 voice] 48 (0, 0)) :: ((b1, .cells #[.int .i64 wide, .slice plots_a plots.length plots_c] 24 (0, 0)) :: (Lb11 ++ [])))) rfl ?_
 refine oa rfl rfl (shO_nil (shW_seq ?_))
 refine shW_block ?_
 refine wsr (om rfl rfl ?_)
 refine ov (v_neq rfl rfl) rfl ?_
 refine oa rfl rfl (shO_nil ?_)
 refine shW_condP rfl (fun c18 => ?_) (fun c18 => ?_)
 · have r19 := ite_t r4 c18; clear r4
   refine wsr (om rfl rfl (oa rfl rfl (oa rfl rfl (shO_nil ?_))))
   refine kW kn ?_
   refine shW_ret (inBlock_ret (andThen_ret ?_))
   refine q_res2 Try.results59 (res_tmp rfl) (res_tmp rfl) (sr) ?_
   obtain ⟨rfl, rfl⟩ := inj2 r19
   exact ⟨_, _, _, [], rfl, rfl, SlR.nil _ _ _ _ _⟩
 have r20 := ite_f r4 c18; clear r4
 refine wsr ?_
 refine ov (v_loadA (cs := #[.slice a9 n13 c10, v15]) Try.isAgg121 Try.sizeOf121 rfl (Has.own 0 rfl) (Nat.le_of_ble_eq_true rfl) rfl) rfl ?_
 obtain ⟨g21, r22⟩ := gd_ok r20; clear r20
 obtain rfl := hp16.2 g21
 have hn23 : FnR Try.prog F5 127 #[] #[] (iE .i64) (Value.int .i64) (fun x : Int => hear_ones x) := ⟨Try.call127, fun F2 h2 vs x r ha hr => by obtain rfl := ha; exact hear_ones_w hr⟩
 obtain ⟨ok, h24, r25⟩ := b1_ok r22; clear r22
 refine o_callT (Lt := Lb11 ++ []) (Lr := [(b17, .cells (#[.slice a9 n13 c10, .func (.func 127) #[] #[]]) 121 (0, 0)), (b2, .cells #[.int .i64 wind, .int .i64 voice] 48 (0, 0)), (b1, .cells #[.int .i64 wide, .slice plots_a plots.length plots_c] 24 (0, 0))]) rfl Try.call107 rfl rfl rfl (pT ((fC (fC (fC fP))).trans (pA pR)) (lp (ln rfl))) (fun F2 h2 h3 => by rw [(SlR.caps hz12).1]; exact hear_quarter_deaf_w (hz12.row (arE_ok (n := 30) (sz := 1) cB_ok) h2 (fun p hp => h3 p (List.mem_append_left _ hp))) (hn23.mono h2) h24) ?_
 refine oa rfl rfl (shO_nil ?_)
 refine shW_cond rfl (fun c26 => ?_) (fun c26 => ?_)
 · have r27 := bt r25 c26; clear r25
   refine wsr (oa rfl rfl (oa rfl rfl (shO_nil ?_)))
   refine kW kn ?_
   refine shW_ret (inBlock_ret (andThen_ret ?_))
   refine q_res2 Try.results59 (res_tmp rfl) (res_tmp rfl) (sr) ?_
   obtain ⟨rfl, rfl⟩ := inj2 r27
   exact ⟨_, _, _, [], rfl, rfl, SlR.nil _ _ _ _ _⟩
 have r28 := bf r25 c26; clear r25
 refine shW_skip (inBlock_n (id := 0) (wsr ?_))
 refine ov (v_fieldAddr fa_121_0 rfl) rfl ?_
 refine ov (v_load Try.isAgg119 rfl (Has.own 0 rfl) rfl) rfl ?_
 obtain ⟨l2, h29, r30⟩ := b1_ok r28; clear r28
 refine o_callTO (Lb := []) (Lt := Lb11 ++ []) (Lr := [(b17, .cells (#[.slice a9 n13 c10, .func (.func 127) #[] #[]]) 121 (0, 0)), (b2, .cells #[.int .i64 wind, .int .i64 voice] 48 (0, 0)), (b1, .cells #[.int .i64 wide, .slice plots_a plots.length plots_c] 24 (0, 0))]) rfl Try.call109 rfl rfl rfl (pT ((fC (fC (fC fP))).trans (pA pR)) (ln (lp (ln rfl)))) (fun F2 h2 h3 => by rw [(SlR.caps hz12).1]; exact slices_Clone_hear_ears_hear_ears_w (hz12.row (arE_ok (n := 30) (sz := 1) cB_ok) h2 (fun p hp => h3 p (List.mem_append_left _ hp))) h29) (fun _ _ _ _ hq => by obtain ⟨a35, n39, c36, Lb37, rfl, rfl, hz38⟩ := hq; exact ⟨_, _, _, _, rfl, rfl, hz38.flat (fun _ _ h => h)⟩) ?_; rintro _ F31 _ hF32 hd34 hn33 ⟨a35, n39, c36, Lb37, rfl, rfl, hz38⟩
 replace h_plots := h_plots.mono (iE_ok _) hF32
 replace h_houses := h_houses.mono (iE_ok _) hF32
 replace hn23 := hn23.mono hF32
 replace hz12 := hz12.mono (arE_ok (n := 30) (sz := 1) cB_ok) hF32
 have hn41 := newp (Lb' := []) (by rfl) hd34 hn33
 replace hz38 := hz38.new fun p hp => hn41 p (by simp [hp])
 refine shO_L (lp (ln (lp (ln rfl)))) ?_
 refine kO (kf (fS (fS fO)) (kf (fS (fS fO)) (kf (fS (fS fO)) kr))) ?_
 obtain ⟨l3, h42, r43⟩ := b1_ok r30; clear r30
 refine o_callG (Lb := Lb37 ++ []) (Lr := (b17, .cells (#[.slice a9 n13 c10, .func (.func 127) #[] #[]]) 121 (0, 0)) :: ((b2, .cells #[.int .i64 wind, .int .i64 voice] 48 (0, 0)) :: ((b1, .cells #[.int .i64 wide, .slice plots_a plots.length plots_c] 24 (0, 0)) :: (Lb11 ++ [])))) rfl Try.call108 rfl rfl rfl (pT ((fC (fC (fC fP))).trans (pA pR)) (lp (ln rfl))) (slices_Compact_hear_ears_hear_ears_w hz38 h42) ?_; rintro _ F44 _ hF45 hd47 hn46 ⟨a48, n52, c49, Lb50, rfl, rfl, hz51⟩
 replace h_plots := h_plots.mono (iE_ok _) hF45
 replace h_houses := h_houses.mono (iE_ok _) hF45
 replace hn23 := hn23.mono hF45
 replace hz12 := hz12.mono (arE_ok (n := 30) (sz := 1) cB_ok) hF45
 replace hz38 := hz38.mono (arE_ok (n := 30) (sz := 1) cB_ok) hF45
 refine shO_L (lp (ln rfl)) ?_
 refine kO (kf (fS fO) (kf (fS fO) (kf (fS fO) kr))) ?_
 refine ov (v_fieldAddr fa_121_0 rfl) rfl ?_
 refine o_store (i := 0) Try.sizeOf119 rfl rfl rfl rfl (Nat.le_of_ble_eq_true rfl) ?_
 refine shO_L (L' := (b17, .cells (#[.slice a48 n52 c49, .func (.func 127) #[] #[]]) 121 (0, 0)) :: ((b2, .cells #[.int .i64 wind, .int .i64 voice] 48 (0, 0)) :: ((b1, .cells #[.int .i64 wide, .slice plots_a plots.length plots_c] 24 (0, 0)) :: (Lb50 ++ (Lb11 ++ []))))) rfl ?_
 refine nsr ?_
 refine ov (v_loadA (cs := #[.slice a48 n52 c49, .func (.func 127) #[] #[]]) Try.isAgg121 Try.sizeOf121 rfl (Has.own 0 rfl) (Nat.le_of_ble_eq_true rfl) rfl) rfl ?_
 refine ov (v_fieldAddr fa_121_0 rfl) rfl ?_
 refine ov (v_load Try.isAgg119 rfl (Has.own 0 rfl) rfl) rfl ?_
 refine ov ((v_lenS Try.underlying119 rfl).i (SlR.lenI hz51)) rfl ?_
 obtain ⟨l4, n2, h54, r55⟩ := b2_ok r43; clear r43
 refine o_callTO (Lb := []) (Lt := Lb50 ++ []) (Lr := (b17, .cells (#[.slice a48 n52 c49, .func (.func 127) #[] #[]]) 121 (0, 0)) :: ((b2, .cells #[.int .i64 wind, .int .i64 voice] 48 (0, 0)) :: ((b1, .cells #[.int .i64 wide, .slice plots_a plots.length plots_c] 24 (0, 0)) :: (Lb11 ++ [])))) rfl Try.call90 rfl rfl rfl (pT ((fC (fC (fC fP))).trans (pA pR)) (ln (lp (ln rfl)))) (fun F2 h2 h3 => by rw [(SlR.caps hz51).1]; exact hear_quarter_chosen_w (hz51.row (arE_ok (n := 30) (sz := 1) cB_ok) h2 (fun p hp => h3 p (List.mem_append_left _ hp))) (hn23.mono h2) h54) (fun _ _ _ _ hq => by obtain ⟨a60, n64, c61, Lb62, rfl, rfl, hz63⟩ := hq; exact ⟨_, _, _, _, rfl, rfl, hz63.flat (fun _ _ h => h)⟩) ?_; rintro _ F56 _ hF57 hd59 hn58 ⟨a60, n64, c61, Lb62, rfl, rfl, hz63⟩
 replace h_plots := h_plots.mono (iE_ok _) hF57
 replace h_houses := h_houses.mono (iE_ok _) hF57
 replace hn23 := hn23.mono hF57
 replace hz12 := hz12.mono (arE_ok (n := 30) (sz := 1) cB_ok) hF57
 replace hz51 := hz51.mono (arE_ok (n := 30) (sz := 1) cB_ok) hF57
 have hn66 := newp (Lb' := []) (by rfl) hd59 hn58
 replace hz63 := hz63.new fun p hp => hn66 p (by simp [hp])
 refine shO_L (lp (ln (lp (ln rfl)))) ?_
 refine kO (kf (fS (fS fO)) (kf (fS (fS fO)) (kf (fS (fS fO)) kr))) ?_
 refine om rfl rfl (ox rfl rfl rfl (ox rfl rfl rfl (oa rfl rfl (oa rfl rfl (nsr (om rfl rfl (oa rfl rfl (oa rfl rfl (shO_nil ?_)))))))))
 refine kW (kd (kd (kd (ka kn)))) ?_
 refine shW_ret ?_
 refine q_res2 Try.results59 (res_tmp rfl) (res_tmp rfl) (sr) ?_
 obtain ⟨rfl, rfl⟩ := inj2 r55
 exact ⟨_, _, _, _, rfl, rfl, hz63.any⟩


set_option maxHeartbeats 1000000 in
theorem oyezlaw01_Drawn_w {rows_a : Option Addr} {rows_c : Nat} {rows : List (List Int)} {F : FS} (h_rows : RowR 1 sE F rows_a rows_c rows) {r : Int} {r2 : List Int} (hr : oyezlaw01_Drawn rows = some (r, r2)) :
    SH.Spec Try.prog 75 #[.slice rows_a rows.length rows_c] F [] fun F' L' v => ∃ (r2a : Option Addr) (r2n : Nat) (r2c : Nat) (r2L : LH), v = .agg #[.int .i64 r, .slice r2a r2n r2c] ∧ L' = r2L ++ [] ∧ SlR 0 73 1 (iE .i64) F' r2a r2n r2c r2 r2L := by
 refine spec_of_shW (args := [.slice rows_a rows.length rows_c]) Try.func75 rfl Try.ntmps75 (Nat.le_of_ble_eq_true rfl) ?_
 intro K _ _; rw [oyezlaw01_Drawn] at hr
 refine wsr ?_
 refine o_alloc rfl Try.zeroValue24 ?_; intro b1 hb1
 refine nsr ?_
 refine o_alloc rfl Try.zeroValue24 ?_; intro b2 hb2
 refine shO_nil ?_
 obtain ⟨t_wide, t_plots, h9, r10⟩ := b2_ok hr; clear hr
 refine shW_join (fun e1 F1 L1 => ∃ (a3 : Option Addr) (n7 : Nat) (c4 : Nat) (Lb5 : LH), F = F1 ∧ L1 = ((b2, .cells #[.int .i64 t_wide, .slice a3 n7 c4] 24 (0, 0)) :: ((b1, .cells #[.int .i64 0, .slice none 0 0] 24 (0, 0)) :: (Lb5 ++ []))) ∧ e1.sub [(2, .pointer (some ⟨b1, 0, none⟩)), (3, .pointer (some ⟨b2, 0, none⟩))] ∧ SlR K.w0.heap.size 73 1 (iE .i64) F1 a3 n7 c4 t_plots Lb5) ?_ ?_
 · clear r10
   refine wsr (om rfl rfl ?_)
   refine ov (v_lenS Try.underlying155 rfl) rfl ?_
   refine om rfl rfl (shO_nil ?_)
   refine shW_block ?_
   refine shW_lp (fun fu1 e1 F1 L1 => ∃ (tl : List (List Int)) (k : Int), tl.length = fu1 ∧ Lst rows k tl ∧ ∃ (t_wide2 : Int) (t_plots2 : List Int) (a11 : Option Addr) (n15 : Nat) (c12 : Nat) (Lb13 : LH), oyezlaw01_Drawn_l1 tl t_wide2 t_plots2 = some (t_wide, t_plots) ∧ F = F1 ∧ L1 = ((b2, .cells #[.int .i64 t_wide2, .slice a11 n15 c12] 24 (0, 0)) :: ((b1, .cells #[.int .i64 0, .slice none 0 0] 24 (0, 0)) :: (Lb13 ++ []))) ∧ e1.sub [(2, .pointer (some ⟨b1, 0, none⟩)), (3, .pointer (some ⟨b2, 0, none⟩)), (9, .slice rows_a rows.length rows_c), (10, .int .i64 (rows.length : Int)), (11, .int .i64 k)] ∧ SlR K.w0.heap.size 73 1 (iE .i64) F1 a11 n15 c12 t_plots2 Lb13) _ (m0 (kc (kc (ke kr))) ⟨_, _, rfl, Lst.start _, 0, [], none, 0, 0, [], h9, rfl, rfl, (sc rfl (sc rfl (sc rfl (sc rfl (sc rfl (sn _)))))), SlR.nil _ _ _ _ _⟩) ?_
   rintro fu1 e1 _ _ ⟨tl, k, hn18, hk17, t_wide2, t_plots2, a11, n15, c12, Lb13, r19, rfl, rfl, he20, hz14⟩
   refine shW_env _ he20 ?_; clear he20
   refine wsr ?_
   refine ov (v_lssK rfl rfl) rfl ?_
   refine shO_nil (shW_seq ?_)
   refine shW_condP rfl (fun c22 => ?_) (fun c22 => ?_)
   · obtain ⟨x, tl2, rfl, hx24, g25, hk23⟩ := Lst.succ hk17 c22
     rw [oyezlaw01_Drawn_l1] at r19
     refine shW_skip ?_
     obtain ⟨t_plots3, h32, r33⟩ := b1_ok r19; clear r19
     refine shW_join (fun e1 F1 L1 => ∃ (a26 : Option Addr) (n30 : Nat) (c27 : Nat) (Lb28 : LH), F = F1 ∧ L1 = ((b2, .cells #[.int .i64 (x.length : Int), .slice a26 n30 c27] 24 (0, 0)) :: ((b1, .cells #[.int .i64 0, .slice none 0 0] 24 (0, 0)) :: (Lb28 ++ []))) ∧ e1.sub [(2, .pointer (some ⟨b1, 0, none⟩)), (3, .pointer (some ⟨b2, 0, none⟩)), (9, .slice rows_a rows.length rows_c), (10, .int .i64 (rows.length : Int)), (11, .int .i64 k)] ∧ SlR K.w0.heap.size 73 1 (iE .i64) F1 a26 n30 c27 t_plots3 Lb28) ?_ ?_
     · clear r33
       refine shW_block ?_
       refine wsr ?_
       obtain ⟨b34, o35, c36, vs37, ha38, hs39, hle40, rfl, hl41, hc42⟩ := RowR.at sE_ok h_rows ((b2, .cells #[.int .i64 t_wide2, .slice a11 n15 c12] 24 (0, 0)) :: ((b1, .cells #[.int .i64 0, .slice none 0 0] 24 (0, 0)) :: (Lb13 ++ []))) g25.1 hx24
       refine ov (v_indexO Try.underlying155 Try.sizeOf9 rfl ha38 rfl g25) rfl ?_
       refine ov (v_load Try.isAgg9 rfl hs39 (hc42 0 (by decide))) rfl ?_
       refine oa rfl rfl (nsr (om rfl rfl ?_))
       refine ov (v_lenStr Try.underlying9 rfl) rfl ?_
       refine ov (v_fieldAddr fa_24_0 rfl) rfl ?_
       refine o_store (i := 0) Try.sizeOf3 rfl rfl rfl rfl (Nat.le_of_ble_eq_true rfl) ?_
       refine shO_L (L' := (b2, .cells #[.int .i64 (x.length : Int), .slice a11 n15 c12] 24 (0, 0)) :: ((b1, .cells #[.int .i64 0, .slice none 0 0] 24 (0, 0)) :: (Lb13 ++ []))) rfl ?_
       refine nsr (om rfl rfl ?_)
       refine o_rangeStr (s := x) rfl Try.underlying9 rfl ?_; intro b43 hb43
       refine shO_nil ?_
       refine shW_block ?_
       refine shW_lp (fun fu2 e1 F1 L1 => ∃ (t_plots4 : List Int) (pos : Nat) (a44 : Option Addr) (n48 : Nat) (c45 : Nat) (Lb46 : LH), oyezlaw01_Drawn_l2 x fu2 t_plots4 pos = some t_plots3 ∧ F = F1 ∧ L1 = ((b43, .stringIter (sB x) pos) :: ((b2, .cells #[.int .i64 (x.length : Int), .slice a44 n48 c45] 24 (0, 0)) :: ((b1, .cells #[.int .i64 0, .slice none 0 0] 24 (0, 0)) :: (Lb46 ++ [])))) ∧ e1.sub [(2, .pointer (some ⟨b1, 0, none⟩)), (3, .pointer (some ⟨b2, 0, none⟩)), (9, .slice rows_a rows.length rows_c), (10, .int .i64 (rows.length : Int)), (11, .int .i64 k), (19, .pointer (some ⟨b43, 0, none⟩))] ∧ SlR K.w0.heap.size 73 1 (iE .i64) F1 a44 n48 c45 t_plots4 Lb46) FU (m0 kr ⟨t_plots2, 0, a11, n15, c12, Lb13, h32, rfl, rfl, (sc rfl (sc rfl (sc rfl (sc rfl (sc rfl (sc rfl (sn _))))))), hz14⟩) ?_
       rintro fu2 e1 _ _ ⟨t_plots4, pos, a44, n48, c45, Lb46, r52, rfl, rfl, he53, hz47⟩
       refine shW_env _ he53 ?_; clear he53
       rcases fu2 with _ | fu2
       · rw [oyezlaw01_Drawn_l2] at r52; cases r52
       rw [oyezlaw01_Drawn_l2] at r52
       refine wsr ?_
       by_cases c54 : pos < x.length
       · have r55 := ite_t r52 c54; clear r52
         obtain ⟨c, g56, hx57, r58⟩ := ix_ok r55; clear r55
         obtain ⟨g59, r60⟩ := gd_ok r58; clear r58
         refine o_nextStr (i := 0) (c := c) rfl rfl rfl (by simpa using hx57) g59 ?_
         refine shO_L (L' := (b43, .stringIter (sB x) (pos + 1)) :: ((b2, .cells #[.int .i64 (x.length : Int), .slice a44 n48 c45] 24 (0, 0)) :: ((b1, .cells #[.int .i64 0, .slice none 0 0] 24 (0, 0)) :: (Lb46 ++ [])))) rfl ?_
         refine ox rfl rfl rfl (shO_nil (shW_seq ?_))
         refine shW_cond rfl (fun c61 => ?_) (fun c61 => nomatch c61)
         refine shW_skip ?_
         refine shW_block ?_
         refine wsr (ox rfl rfl rfl (oa rfl rfl (nsr (oa rfl rfl (shO_nil ?_)))))
         obtain ⟨p, h62, r63⟩ := b1_ok r60; clear r60
         refine shW_join (fun e1 F1 L1 => F = F1 ∧ L1 = ((b43, .stringIter (sB x) (pos + 1)) :: ((b2, .cells #[.int .i64 (x.length : Int), .slice a44 n48 c45] 24 (0, 0)) :: ((b1, .cells #[.int .i64 0, .slice none 0 0] 24 (0, 0)) :: (Lb46 ++ [])))) ∧ e1.sub [(2, .pointer (some ⟨b1, 0, none⟩)), (3, .pointer (some ⟨b2, 0, none⟩)), (7, .int .i32 c), (8, .int .i64 p), (9, .slice rows_a rows.length rows_c), (10, .int .i64 (rows.length : Int)), (11, .int .i64 k), (19, .pointer (some ⟨b43, 0, none⟩))]) ?_ ?_
         · clear r63
           refine wsr (om rfl rfl ?_)
           refine ov (v_eql rfl rfl) rfl ?_
           refine shO_nil ?_
           refine shW_condP rfl (fun c64 => ?_) (fun c64 => ?_)
           · have r65 := ite_t h62 c64; clear h62
             refine shW_region (oa rfl rfl (shO_nil ?_))
             obtain rfl := inj1 r65
             exact mi kr ⟨rfl, rfl, (sc rfl (sc rfl (sc rfl (sc rfl (sc rfl (sc rfl (sc rfl (sc rfl (sn _)))))))))⟩
           have r66 := ite_f h62 c64; clear h62
           refine shW_skip ?_
           obtain rfl := inj1 r66
           exact mi kr ⟨rfl, rfl, (sc rfl (sc rfl (sc rfl (sc rfl (sc rfl (sc rfl (sc rfl (sc rfl (sn _)))))))))⟩
         rintro e1 _ _ ⟨rfl, rfl, he67⟩
         refine shW_env _ he67 ?_; clear he67
         obtain ⟨p2, h68, r69⟩ := b1_ok r63; clear r63
         refine shW_join (fun e1 F1 L1 => F = F1 ∧ L1 = ((b43, .stringIter (sB x) (pos + 1)) :: ((b2, .cells #[.int .i64 (x.length : Int), .slice a44 n48 c45] 24 (0, 0)) :: ((b1, .cells #[.int .i64 0, .slice none 0 0] 24 (0, 0)) :: (Lb46 ++ [])))) ∧ e1.sub [(2, .pointer (some ⟨b1, 0, none⟩)), (3, .pointer (some ⟨b2, 0, none⟩)), (8, .int .i64 p2), (9, .slice rows_a rows.length rows_c), (10, .int .i64 (rows.length : Int)), (11, .int .i64 k), (19, .pointer (some ⟨b43, 0, none⟩))]) ?_ ?_
         · clear r69
           refine wsr (om rfl rfl ?_)
           refine ov (v_eql rfl rfl) rfl ?_
           refine shO_nil ?_
           refine shW_condP rfl (fun c70 => ?_) (fun c70 => ?_)
           · have r71 := ite_t h68 c70; clear h68
             refine shW_region (oa rfl rfl (shO_nil ?_))
             obtain rfl := inj1 r71
             exact mi kr ⟨rfl, rfl, (sc rfl (sc rfl (sc rfl (sc rfl (sc rfl (sc rfl (sc rfl (sn _))))))))⟩
           have r72 := ite_f h68 c70; clear h68
           refine shW_skip ?_
           obtain rfl := inj1 r72
           exact mi kr ⟨rfl, rfl, (sc rfl (sc rfl (sc rfl (sc rfl (sc rfl (sc rfl (sc rfl (sn _))))))))⟩
         rintro e1 _ _ ⟨rfl, rfl, he73⟩
         refine shW_env _ he73 ?_; clear he73
         refine shW_region ?_
         refine ov (v_fieldAddr fa_24_1 rfl) rfl ?_
         refine ov (v_load Try.isAgg22 rfl (Has.own 1 rfl) rfl) rfl ?_
         refine om rfl rfl ?_
         refine o_buildSlice (cs := #[.int .i64 p2]) rfl rfl (buildSlice_all slt_22 [.int .i64 p2] rfl (by decide) (by simp [Value.cells]) (by decide)) ?_; intro b74 hb74
         obtain ⟨t, h75, g76, r77⟩ := ap_ok r69; clear r69
         refine o_appZ (xs := t_plots4) (ys := [p2]) (zs := t) rfl slt_22 rfl rfl (Nat.le_refl _) (fun _ => .c (.c (.c (.c .h)))) hz47 (SrcR.box (vss := [[.int .i64 p2]]) (ys := [p2]) 0 rfl (iE_ok _) (.cons rfl .nil) rfl rfl) h75 g76 (by decide) ?_; intro a78 n82 c79 Lb80 hz81
         refine kO (kd kr) ?_
         refine ov (v_fieldAddr fa_24_1 rfl) rfl ?_
         refine o_store (i := 1) Try.sizeOf22 rfl rfl rfl rfl (Nat.le_of_ble_eq_true rfl) ?_
         refine shO_L (L' := (b43, .stringIter (sB x) (pos + 1)) :: ((b2, .cells #[.int .i64 (x.length : Int), .slice a78 n82 c79] 24 (0, 0)) :: ((b1, .cells #[.int .i64 0, .slice none 0 0] 24 (0, 0)) :: (Lb80 ++ [])))) rfl ?_
         refine shO_nil (inBlock_n (id := 3) ?_)
         exact le kr ⟨t, pos + 1, a78, n82, c79, Lb80, r77, rfl, rfl, (sc rfl (sc rfl (sc rfl (sc rfl (sc rfl (sc rfl (sn _))))))), hz81⟩
       have r84 := ite_f r52 c54; clear r52
       refine o_nextStr0 (i := 0) (s := x) rfl rfl rfl c54 ?_
       refine ox rfl rfl rfl (shO_nil (shW_seq ?_))
       refine shW_cond rfl (fun c85 => nomatch c85) (fun c85 => ?_)
       refine shW_exit (andThen_exit (andThen_exit ?_))
       refine inBlock_exit ?_
       refine inBlock_n (id := 1) ?_
       obtain rfl := inj1 r84
       exact mi (kd kr) ⟨a44, n48, c45, Lb46, rfl, rfl, (sc rfl (sc rfl (sc rfl (sc rfl (sc rfl (sn _)))))), hz47⟩
     rintro e1 _ _ ⟨a26, n30, c27, Lb28, rfl, rfl, he86, hz29⟩
     refine shW_env _ he86 ?_; clear he86
     refine shW_region ?_
     refine ov (v_add rfl rfl (Lst.r64 hk17 c22 (RowR.lt h_rows))) rfl ?_
     refine om rfl rfl (shO_nil ?_)
     subst hn18; exact le kr ⟨_, _, rfl, hk23, (x.length : Int), t_plots3, a26, n30, c27, Lb28, r33, rfl, rfl, (sc rfl (sc rfl (sc rfl (sc rfl (sc rfl (sn _)))))), hz29⟩
   obtain rfl := Lst.zero hk17 c22
   rw [oyezlaw01_Drawn_l1] at r19
   refine shW_exit (andThen_exit (andThen_exit ?_))
   refine inBlock_exit ?_
   obtain ⟨rfl, rfl⟩ := inj2 r19
   exact mi kr ⟨a11, n15, c12, Lb13, rfl, rfl, (sc rfl (sc rfl (sn _))), hz14⟩
 rintro e1 _ _ ⟨a3, n7, c4, Lb5, rfl, rfl, he87, hz6⟩
 refine shW_env _ he87 ?_; clear he87
 refine wsr ?_
 refine ov (v_loadA (cs := #[.int .i64 t_wide, .slice a3 n7 c4]) Try.isAgg24 Try.sizeOf24 rfl (Has.own 0 rfl) (Nat.le_of_ble_eq_true rfl) rfl) rfl ?_
 refine o_storeA (i := 1) Try.sizeOf24 rfl rfl rfl (by simp [Value.oneCell']) rfl (Nat.le_of_ble_eq_true rfl) ?_
 refine shO_L (L' := (b2, .cells #[.int .i64 t_wide, .slice a3 n7 c4] 24 (0, 0)) :: ((b1, .cells #[.int .i64 t_wide, .slice a3 n7 c4] 24 (0, 0)) :: (Lb5 ++ []))) rfl ?_
 refine shO_nil ?_
 refine kW (kd kr) ?_
 refine shW_ret ?_
 refine q_res1 Try.results75 (res_cellA (cs := #[.int .i64 t_wide, .slice a3 n7 c4]) Try.isAgg24 Try.sizeOf24 rfl (Has.own 0 rfl) (Nat.le_of_ble_eq_true rfl) rfl) (s1 (s4 sr)) ?_
 obtain ⟨rfl, rfl⟩ := inj2 r10
 exact ⟨_, _, _, _, rfl, rfl, hz6.any⟩


set_option maxHeartbeats 1000000 in
theorem oyezlaw01_awake_w {F : FS} {r : Bool} (hr : oyezlaw01_awake = some r) :
    SpecV Try.prog 15 #[] F (.bool r) := by
 refine spec_of_shW (args := []) Try.func15 rfl Try.ntmps15 (Nat.le_of_ble_eq_true rfl) ?_
 intro K _ _; rw [oyezlaw01_awake] at hr
 refine wsr (oa rfl rfl (nsr ?_))
 refine o_buildSlice (cs := #[.string (sB [115, 104, 115, 104])]) rfl rfl (buildSlice_all slt_155 [.string (sB [115, 104, 115, 104])] rfl (by decide) (by simp [Value.cells]) (by decide)) ?_; intro b1 hb1
 refine shO_freeze 0 rfl hb1 ?_; intro F2 hF3 hz4
 refine shO_L (L' := []) rfl ?_
 have h5 : RowR 1 sE F2 (some ⟨b1, 0, none⟩) 1 [[115, 104, 115, 104]] := RowR.of_block sE_ok (vss := [[.string (sB [115, 104, 115, 104])]]) (xs := [[115, 104, 115, 104]]) hz4 (.cons rfl .nil) rfl (by simp [maxLen])
 obtain ⟨n, l, h6, r7⟩ := b2_ok hr; clear hr
 refine o_call0 rfl Try.call75 rfl rfl rfl (oyezlaw01_Drawn_w h5 h6) ?_; rintro _ F8 _ hF9 hn10 ⟨a12, n16, c13, Lb14, rfl, rfl, hz15⟩
 replace h5 := h5.mono sE_ok hF9
 replace hz4 := hF9 _ _ hz4
 replace hz15 := hz15.new fun p hp => hn10 p (by simp [hp])
 refine shO_L (lp (ln rfl)) ?_
 refine o_buildSlice (cs := #[.string (sB [104, 115, 104]), .string (sB [115, 119, 115])]) rfl rfl (buildSlice_all slt_155 [.string (sB [104, 115, 104]), .string (sB [115, 119, 115])] rfl (by decide) (by simp [Value.cells]) (by decide)) ?_; intro b18 hb18
 refine shO_freeze 0 rfl hb18 ?_; intro F19 hF20 hz21
 refine shO_L (L' := Lb14 ++ []) rfl ?_
 replace h5 := h5.mono sE_ok hF20
 replace hz15 := hz15.mono (iE_ok _) hF20
 replace hz4 := hF20 _ _ hz4
 have h22 : RowR 1 sE F19 (some ⟨b18, 0, none⟩) 2 [[104, 115, 104], [115, 119, 115]] := RowR.of_block sE_ok (vss := [[.string (sB [104, 115, 104])], [.string (sB [115, 119, 115])]]) (xs := [[104, 115, 104], [115, 119, 115]]) hz21 (.cons rfl (.cons rfl .nil)) rfl (by simp [maxLen])
 obtain ⟨n2, l2, h23, r24⟩ := b2_ok r7; clear r7
 refine o_call0 rfl Try.call75 rfl rfl rfl (oyezlaw01_Drawn_w h22 h23) ?_; rintro _ F25 _ hF26 hn27 ⟨a29, n33, c30, Lb31, rfl, rfl, hz32⟩
 replace h5 := h5.mono sE_ok hF26
 replace h22 := h22.mono sE_ok hF26
 replace hz15 := hz15.mono (iE_ok _) hF26
 replace hz4 := hF26 _ _ hz4
 replace hz21 := hF26 _ _ hz21
 replace hz32 := hz32.new fun p hp => hn27 p (by simp [hp])
 refine shO_L (lp (ln rfl)) ?_
 refine o_alloc rfl Try.zeroValue24 ?_; intro b35 hb35
 refine o_alloc rfl Try.zeroValue24 ?_; intro b36 hb36
 refine o_storeA (i := 1) Try.sizeOf24 rfl rfl rfl (by simp [Value.oneCell']) rfl (Nat.le_of_ble_eq_true rfl) ?_
 refine shO_L (L' := (b36, .cells #[.int .i64 0, .slice none 0 0] 24 (0, 0)) :: ((b35, .cells #[.int .i64 n, .slice a12 n16 c13] 24 (0, 0)) :: (Lb31 ++ (Lb14 ++ [])))) rfl ?_
 refine o_storeA (i := 0) Try.sizeOf24 rfl rfl rfl (by simp [Value.oneCell']) rfl (Nat.le_of_ble_eq_true rfl) ?_
 refine shO_L (L' := (b36, .cells #[.int .i64 n2, .slice a29 n33 c30] 24 (0, 0)) :: ((b35, .cells #[.int .i64 n, .slice a12 n16 c13] 24 (0, 0)) :: (Lb31 ++ (Lb14 ++ [])))) rfl ?_
 refine nsr ?_
 refine ov (v_loadA (cs := #[.int .i64 n, .slice a12 n16 c13]) Try.isAgg24 Try.sizeOf24 rfl (Has.own 1 rfl) (Nat.le_of_ble_eq_true rfl) rfl) rfl ?_
 obtain ⟨l3, n3, h37, r38⟩ := b2_ok r24; clear r24
 refine o_callTO (Lb := []) (Lt := Lb14 ++ []) (Lr := (b36, .cells #[.int .i64 n2, .slice a29 n33 c30] 24 (0, 0)) :: ((b35, .cells #[.int .i64 n, .slice a12 n16 c13] 24 (0, 0)) :: (Lb31 ++ []))) rfl Try.call21 rfl rfl rfl (pT ((fC (fC (fS fP))).trans (pA pR)) (ln (lp (ln rfl)))) (fun F2 h2 h3 => by rw [(SlR.caps hz15).1]; exact hear_Needs_w (hz15.row (iE_ok _) h2 (fun p hp => h3 p (List.mem_append_left _ hp))) h37) (fun _ _ _ _ hq => by obtain ⟨a43, n47, c44, Lb45, rfl, rfl, hz46⟩ := hq; exact ⟨_, _, _, _, rfl, rfl, hz46.flat (fun _ _ h => h)⟩) ?_; rintro _ F39 _ hF40 hd42 hn41 ⟨a43, n47, c44, Lb45, rfl, rfl, hz46⟩
 replace h5 := h5.mono sE_ok hF40
 replace h22 := h22.mono sE_ok hF40
 replace hz15 := hz15.mono (iE_ok _) hF40
 replace hz32 := hz32.mono (iE_ok _) hF40
 replace hz4 := hF40 _ _ hz4
 replace hz21 := hF40 _ _ hz21
 have hn49 := newp (Lb' := []) (by rfl) hd42 hn41
 replace hz46 := hz46.new fun p hp => hn49 p (by simp [hp])
 refine shO_L (lp (ln (lp (ln rfl)))) ?_
 refine kO (kf (fS (fS fO)) (kf (fS (fS fO)) kr)) ?_
 refine om rfl rfl (ox rfl rfl rfl (ox rfl rfl rfl (oa rfl rfl (oa rfl rfl (nsr ?_)))))
 refine ov (v_loadA (cs := #[.int .i64 n, .slice a12 n16 c13]) Try.isAgg24 Try.sizeOf24 rfl (Has.own 1 rfl) (Nat.le_of_ble_eq_true rfl) rfl) rfl ?_
 refine ov (v_build (v := .agg #[.int .i64 0, .int .i64 5]) rfl (by intro w; kernel_rfl)) rfl ?_
 refine o_buildSlice (cs := #[.int .i64 1, .int .i64 3]) rfl rfl (buildSlice_all slt_26 [.int .i64 1, .int .i64 3] rfl (by decide) (by simp [Value.cells]) (by decide)) ?_; intro b50 hb50
 refine shO_freeze 0 rfl hb50 ?_; intro F51 hF52 hz53
 refine shO_L (L' := (b36, .cells #[.int .i64 n2, .slice a29 n33 c30] 24 (0, 0)) :: ((b35, .cells #[.int .i64 n, .slice a12 n16 c13] 24 (0, 0)) :: (Lb45 ++ (Lb14 ++ (Lb31 ++ []))))) rfl ?_
 replace h5 := h5.mono sE_ok hF52
 replace h22 := h22.mono sE_ok hF52
 replace hz15 := hz15.mono (iE_ok _) hF52
 replace hz32 := hz32.mono (iE_ok _) hF52
 replace hz46 := hz46.mono (iE_ok _) hF52
 replace hz4 := hF52 _ _ hz4
 replace hz21 := hF52 _ _ hz21
 have h54 : RowR 1 (iE .i64) F51 (some ⟨b50, 0, none⟩) 2 [1, 3] := RowR.of_block (iE_ok _) (vss := [[.int .i64 1], [.int .i64 3]]) (xs := [1, 3]) hz53 (.cons rfl (.cons rfl .nil)) rfl (by simp [maxLen])
 obtain ⟨l4, n4, h55, r56⟩ := b2_ok r38; clear r38
 refine o_callTO (Lb := []) (Lt := Lb14 ++ []) (Lr := (b36, .cells #[.int .i64 n2, .slice a29 n33 c30] 24 (0, 0)) :: ((b35, .cells #[.int .i64 n, .slice a12 n16 c13] 24 (0, 0)) :: (Lb45 ++ (Lb31 ++ [])))) rfl Try.call59 rfl rfl rfl (pT ((fC (fC (fS fP))).trans (pA pR)) (ln (lp (ln rfl)))) (fun F2 h2 h3 => by rw [(SlR.caps hz15).1]; exact hear_Fewest_w (hz15.row (iE_ok _) h2 (fun p hp => h3 p (List.mem_append_left _ hp))) (h54.mono (iE_ok _) h2) h55) (fun _ _ _ _ hq => by obtain ⟨a61, n65, c62, Lb63, rfl, rfl, hz64⟩ := hq; exact ⟨_, _, _, _, rfl, rfl, hz64.flat (fun _ _ h => h)⟩) ?_; rintro _ F57 _ hF58 hd60 hn59 ⟨a61, n65, c62, Lb63, rfl, rfl, hz64⟩
 replace h5 := h5.mono sE_ok hF58
 replace h22 := h22.mono sE_ok hF58
 replace h54 := h54.mono (iE_ok _) hF58
 replace hz15 := hz15.mono (iE_ok _) hF58
 replace hz32 := hz32.mono (iE_ok _) hF58
 replace hz46 := hz46.mono (iE_ok _) hF58
 replace hz4 := hF58 _ _ hz4
 replace hz21 := hF58 _ _ hz21
 replace hz53 := hF58 _ _ hz53
 have hn67 := newp (Lb' := []) (by rfl) hd60 hn59
 replace hz64 := hz64.new fun p hp => hn67 p (by simp [hp])
 refine shO_L (lp (ln (lp (ln rfl)))) ?_
 refine kO (kf (fS (fS fO)) (kf (fS (fS fO)) kr)) ?_
 refine om rfl rfl (ox rfl rfl rfl (ox rfl rfl rfl (oa rfl rfl (oa rfl rfl (nsr ?_)))))
 refine ov (v_loadA (cs := #[.int .i64 n2, .slice a29 n33 c30]) Try.isAgg24 Try.sizeOf24 rfl (Has.own 0 rfl) (Nat.le_of_ble_eq_true rfl) rfl) rfl ?_
 refine ov (v_build (v := .agg #[.int .i64 0, .int .i64 3]) rfl (by intro w; kernel_rfl)) rfl ?_
 refine o_buildSlice (cs := #[.int .i64 0, .int .i64 2]) rfl rfl (buildSlice_all slt_26 [.int .i64 0, .int .i64 2] rfl (by decide) (by simp [Value.cells]) (by decide)) ?_; intro b68 hb68
 refine shO_freeze 0 rfl hb68 ?_; intro F69 hF70 hz71
 refine shO_L (L' := (b36, .cells #[.int .i64 n2, .slice a29 n33 c30] 24 (0, 0)) :: ((b35, .cells #[.int .i64 n, .slice a12 n16 c13] 24 (0, 0)) :: (Lb63 ++ (Lb14 ++ (Lb45 ++ (Lb31 ++ [])))))) rfl ?_
 replace h5 := h5.mono sE_ok hF70
 replace h22 := h22.mono sE_ok hF70
 replace h54 := h54.mono (iE_ok _) hF70
 replace hz15 := hz15.mono (iE_ok _) hF70
 replace hz32 := hz32.mono (iE_ok _) hF70
 replace hz46 := hz46.mono (iE_ok _) hF70
 replace hz64 := hz64.mono (iE_ok _) hF70
 replace hz4 := hF70 _ _ hz4
 replace hz21 := hF70 _ _ hz21
 replace hz53 := hF70 _ _ hz53
 have h72 : RowR 1 (iE .i64) F69 (some ⟨b68, 0, none⟩) 2 [0, 2] := RowR.of_block (iE_ok _) (vss := [[.int .i64 0], [.int .i64 2]]) (xs := [0, 2]) hz71 (.cons rfl (.cons rfl .nil)) rfl (by simp [maxLen])
 obtain ⟨l5, n5, h73, r74⟩ := b2_ok r56; clear r56
 refine o_callTO (Lb := []) (Lt := Lb31 ++ []) (Lr := (b36, .cells #[.int .i64 n2, .slice a29 n33 c30] 24 (0, 0)) :: ((b35, .cells #[.int .i64 n, .slice a12 n16 c13] 24 (0, 0)) :: (Lb63 ++ (Lb14 ++ (Lb45 ++ []))))) rfl Try.call59 rfl rfl rfl (pT ((fC (fC (fS (fS (fS fP))))).trans (pA pR)) (ln (lp (ln rfl)))) (fun F2 h2 h3 => by rw [(SlR.caps hz32).1]; exact hear_Fewest_w (hz32.row (iE_ok _) h2 (fun p hp => h3 p (List.mem_append_left _ hp))) (h72.mono (iE_ok _) h2) h73) (fun _ _ _ _ hq => by obtain ⟨a79, n83, c80, Lb81, rfl, rfl, hz82⟩ := hq; exact ⟨_, _, _, _, rfl, rfl, hz82.flat (fun _ _ h => h)⟩) ?_; rintro _ F75 _ hF76 hd78 hn77 ⟨a79, n83, c80, Lb81, rfl, rfl, hz82⟩
 replace h5 := h5.mono sE_ok hF76
 replace h22 := h22.mono sE_ok hF76
 replace h54 := h54.mono (iE_ok _) hF76
 replace h72 := h72.mono (iE_ok _) hF76
 replace hz15 := hz15.mono (iE_ok _) hF76
 replace hz32 := hz32.mono (iE_ok _) hF76
 replace hz46 := hz46.mono (iE_ok _) hF76
 replace hz64 := hz64.mono (iE_ok _) hF76
 replace hz4 := hF76 _ _ hz4
 replace hz21 := hF76 _ _ hz21
 replace hz53 := hF76 _ _ hz53
 replace hz71 := hF76 _ _ hz71
 have hn85 := newp (Lb' := []) (by rfl) hd78 hn77
 replace hz82 := hz82.new fun p hp => hn85 p (by simp [hp])
 refine shO_L (lp (ln (lp (ln rfl)))) ?_
 refine kO (kf (fS (fS fO)) (kf (fS (fS fO)) kr)) ?_
 refine om rfl rfl (ox rfl rfl rfl (ox rfl rfl rfl (oa rfl rfl (oa rfl rfl (nsr ?_)))))
 refine ov (v_loadA (cs := #[.int .i64 n2, .slice a29 n33 c30]) Try.isAgg24 Try.sizeOf24 rfl (Has.own 0 rfl) (Nat.le_of_ble_eq_true rfl) rfl) rfl ?_
 refine o_buildSlice (cs := #[.int .i64 3, .int .i64 0, .int .i64 3, .int .i64 5, .int .i64 0, .int .i64 5]) rfl rfl (buildSlice_all slt_26 [.int .i64 3, .int .i64 0, .int .i64 3, .int .i64 5, .int .i64 0, .int .i64 5] rfl (by decide) (by simp [Value.cells]) (by decide)) ?_; intro b86 hb86
 refine shO_freeze 0 rfl hb86 ?_; intro F87 hF88 hz89
 refine shO_L (L' := (b36, .cells #[.int .i64 n2, .slice a29 n33 c30] 24 (0, 0)) :: ((b35, .cells #[.int .i64 n, .slice a12 n16 c13] 24 (0, 0)) :: (Lb81 ++ (Lb31 ++ (Lb63 ++ (Lb14 ++ (Lb45 ++ []))))))) rfl ?_
 replace h5 := h5.mono sE_ok hF88
 replace h22 := h22.mono sE_ok hF88
 replace h54 := h54.mono (iE_ok _) hF88
 replace h72 := h72.mono (iE_ok _) hF88
 replace hz15 := hz15.mono (iE_ok _) hF88
 replace hz32 := hz32.mono (iE_ok _) hF88
 replace hz46 := hz46.mono (iE_ok _) hF88
 replace hz64 := hz64.mono (iE_ok _) hF88
 replace hz82 := hz82.mono (iE_ok _) hF88
 replace hz4 := hF88 _ _ hz4
 replace hz21 := hF88 _ _ hz21
 replace hz53 := hF88 _ _ hz53
 replace hz71 := hF88 _ _ hz71
 have h90 : RowR 1 (iE .i64) F87 (some ⟨b86, 0, none⟩) 6 [3, 0, 3, 5, 0, 5] := RowR.of_block (iE_ok _) (vss := [[.int .i64 3], [.int .i64 0], [.int .i64 3], [.int .i64 5], [.int .i64 0], [.int .i64 5]]) (xs := [3, 0, 3, 5, 0, 5]) hz89 (.cons rfl (.cons rfl (.cons rfl (.cons rfl (.cons rfl (.cons rfl .nil)))))) rfl (by simp [maxLen])
 obtain ⟨ok, n6, h91, r92⟩ := b2_ok r74; clear r74
 refine o_callT (Lt := Lb31 ++ []) (Lr := (b36, .cells #[.int .i64 n2, .slice a29 n33 c30] 24 (0, 0)) :: ((b35, .cells #[.int .i64 n, .slice a12 n16 c13] 24 (0, 0)) :: (Lb81 ++ (Lb63 ++ (Lb14 ++ (Lb45 ++ [])))))) rfl Try.call24 rfl rfl rfl (pT ((fC (fC (fS fP))).trans (pA pR)) (lp (ln rfl))) (fun F2 h2 h3 => by rw [(SlR.caps hz32).1]; exact hear_Holds_w (hz32.row (iE_ok _) h2 (fun p hp => h3 p (List.mem_append_left _ hp))) (h90.mono (iE_ok _) h2) h91) ?_
 refine om rfl rfl (ox rfl rfl rfl (ox rfl rfl rfl (oa rfl rfl (oa rfl rfl (shO_nil (shW_seq ?_))))))
 obtain ⟨k, h93, r94⟩ := b1_ok r92; clear r92
 refine shW_join (fun e1 F1 L1 => FExt F87 F1 ∧ L1 = ((b36, .cells #[.int .i64 n2, .slice a29 n33 c30] 24 (0, 0)) :: ((b35, .cells #[.int .i64 n, .slice a12 n16 c13] 24 (0, 0)) :: (Lb14 ++ (Lb31 ++ [])))) ∧ e1.sub [(1, .pointer (some ⟨b35, 0, none⟩)), (2, .pointer (some ⟨b36, 0, none⟩)), (77, .bool k)]) ?_ ?_
 · clear r94
   refine shW_region (om rfl rfl ?_)
   refine ov (v_neq rfl rfl) rfl ?_
   refine om rfl rfl ?_
   by_cases c95 : n3 ≠ 0
   · have r96 := ite_t h93 c95; clear h93
     refine shO_off (b' := true) 44 rfl (Env.isT rfl c95) rfl rfl (shO_off (b' := true) 44 rfl (Env.isT rfl c95) rfl rfl ?_)
     refine ov (v_pick_t (evD_true rfl c95) rfl) rfl ?_
     refine om rfl rfl (shO_off (b' := true) 48 rfl rfl rfl rfl (shO_off (b' := true) 48 rfl rfl rfl rfl ?_))
     refine ov (v_pick_t rfl rfl) rfl ?_
     refine om rfl rfl (shO_off (b' := true) 52 rfl rfl rfl rfl (shO_off (b' := true) 52 rfl rfl rfl rfl ?_))
     refine ov (v_pick_t rfl rfl) rfl ?_
     refine om rfl rfl (shO_off (b' := true) 56 rfl rfl rfl rfl (shO_off (b' := true) 56 rfl rfl rfl rfl ?_))
     refine ov (v_pick_t rfl rfl) rfl ?_
     refine om rfl rfl (shO_off (b' := true) 60 rfl rfl rfl rfl (shO_off (b' := true) 60 rfl rfl rfl rfl (shO_off (b' := true) 60 rfl rfl rfl rfl (shO_off (b' := true) 60 rfl rfl rfl rfl ?_))))
     refine ov (v_pick_t rfl rfl) rfl ?_
     refine om rfl rfl (shO_off (b' := true) 66 rfl rfl rfl rfl (shO_off (b' := true) 66 rfl rfl rfl rfl (shO_off (b' := true) 66 rfl rfl rfl rfl (shO_off (b' := true) 66 rfl rfl rfl rfl ?_))))
     refine ov (v_pick_t rfl rfl) rfl ?_
     refine om rfl rfl (shO_off (b' := true) 72 rfl rfl rfl rfl (shO_off (b' := true) 72 rfl rfl rfl rfl (shO_off (b' := true) 72 rfl rfl rfl rfl (shO_off (b' := true) 72 rfl rfl rfl rfl ?_))))
     refine ov (v_pick_t rfl rfl) rfl ?_
     refine shO_nil ?_
     obtain rfl := inj1 r96
     exact mi (kc (kc (kx (kg (fS (fS fP)) (ka kn))))) ⟨FExt.refl _, rfl, (sc rfl (sc rfl (sc rfl (sn _))))⟩
   have r97 := ite_f h93 c95; clear h93
   refine shO_on (b := false) 44 rfl (Env.isF rfl c95) (om rfl rfl (shO_on (b := false) 44 rfl (Env.isF rfl c95) ?_))
   refine ov (v_neq rfl rfl) rfl ?_
   refine ov (v_pick_f (evD_false rfl c95) rfl) rfl ?_
   refine om rfl rfl ?_
   by_cases c98 : n4 ≠ 0
   · have r99 := ite_t r97 c98; clear r97
     refine shO_off (b' := true) 48 rfl (Env.isT rfl c98) rfl rfl (shO_off (b' := true) 48 rfl (Env.isT rfl c98) rfl rfl ?_)
     refine ov (v_pick_t (evD_true rfl c98) rfl) rfl ?_
     refine om rfl rfl (shO_off (b' := true) 52 rfl rfl rfl rfl (shO_off (b' := true) 52 rfl rfl rfl rfl ?_))
     refine ov (v_pick_t rfl rfl) rfl ?_
     refine om rfl rfl (shO_off (b' := true) 56 rfl rfl rfl rfl (shO_off (b' := true) 56 rfl rfl rfl rfl ?_))
     refine ov (v_pick_t rfl rfl) rfl ?_
     refine om rfl rfl (shO_off (b' := true) 60 rfl rfl rfl rfl (shO_off (b' := true) 60 rfl rfl rfl rfl (shO_off (b' := true) 60 rfl rfl rfl rfl (shO_off (b' := true) 60 rfl rfl rfl rfl ?_))))
     refine ov (v_pick_t rfl rfl) rfl ?_
     refine om rfl rfl (shO_off (b' := true) 66 rfl rfl rfl rfl (shO_off (b' := true) 66 rfl rfl rfl rfl (shO_off (b' := true) 66 rfl rfl rfl rfl (shO_off (b' := true) 66 rfl rfl rfl rfl ?_))))
     refine ov (v_pick_t rfl rfl) rfl ?_
     refine om rfl rfl (shO_off (b' := true) 72 rfl rfl rfl rfl (shO_off (b' := true) 72 rfl rfl rfl rfl (shO_off (b' := true) 72 rfl rfl rfl rfl (shO_off (b' := true) 72 rfl rfl rfl rfl ?_))))
     refine ov (v_pick_t rfl rfl) rfl ?_
     refine shO_nil ?_
     obtain rfl := inj1 r99
     exact mi (kc (kc (kx (kg (fS (fS fP)) (ka kn))))) ⟨FExt.refl _, rfl, (sc rfl (sc rfl (sc rfl (sn _))))⟩
   have r100 := ite_f r97 c98; clear r97
   refine shO_on (b := false) 48 rfl (Env.isF rfl c98) (om rfl rfl (shO_on (b := false) 48 rfl (Env.isF rfl c98) ?_))
   refine ov (v_neq rfl rfl) rfl ?_
   refine ov (v_pick_f (evD_false rfl c98) rfl) rfl ?_
   refine om rfl rfl ?_
   by_cases c101 : n5 ≠ 0
   · have r102 := ite_t r100 c101; clear r100
     refine shO_off (b' := true) 52 rfl (Env.isT rfl c101) rfl rfl (shO_off (b' := true) 52 rfl (Env.isT rfl c101) rfl rfl ?_)
     refine ov (v_pick_t (evD_true rfl c101) rfl) rfl ?_
     refine om rfl rfl (shO_off (b' := true) 56 rfl rfl rfl rfl (shO_off (b' := true) 56 rfl rfl rfl rfl ?_))
     refine ov (v_pick_t rfl rfl) rfl ?_
     refine om rfl rfl (shO_off (b' := true) 60 rfl rfl rfl rfl (shO_off (b' := true) 60 rfl rfl rfl rfl (shO_off (b' := true) 60 rfl rfl rfl rfl (shO_off (b' := true) 60 rfl rfl rfl rfl ?_))))
     refine ov (v_pick_t rfl rfl) rfl ?_
     refine om rfl rfl (shO_off (b' := true) 66 rfl rfl rfl rfl (shO_off (b' := true) 66 rfl rfl rfl rfl (shO_off (b' := true) 66 rfl rfl rfl rfl (shO_off (b' := true) 66 rfl rfl rfl rfl ?_))))
     refine ov (v_pick_t rfl rfl) rfl ?_
     refine om rfl rfl (shO_off (b' := true) 72 rfl rfl rfl rfl (shO_off (b' := true) 72 rfl rfl rfl rfl (shO_off (b' := true) 72 rfl rfl rfl rfl (shO_off (b' := true) 72 rfl rfl rfl rfl ?_))))
     refine ov (v_pick_t rfl rfl) rfl ?_
     refine shO_nil ?_
     obtain rfl := inj1 r102
     exact mi (kc (kc (kx (kg (fS (fS fP)) (ka kn))))) ⟨FExt.refl _, rfl, (sc rfl (sc rfl (sc rfl (sn _))))⟩
   have r103 := ite_f r100 c101; clear r100
   refine shO_on (b := false) 52 rfl (Env.isF rfl c101) (om rfl rfl (shO_on (b := false) 52 rfl (Env.isF rfl c101) ?_))
   refine ov (v_neq rfl rfl) rfl ?_
   refine ov (v_pick_f (evD_false rfl c101) rfl) rfl ?_
   refine om rfl rfl ?_
   by_cases c104 : n6 ≠ 0
   · have r105 := ite_t r103 c104; clear r103
     refine shO_off (b' := true) 56 rfl (Env.isT rfl c104) rfl rfl (shO_off (b' := true) 56 rfl (Env.isT rfl c104) rfl rfl ?_)
     refine ov (v_pick_t (evD_true rfl c104) rfl) rfl ?_
     refine om rfl rfl (shO_off (b' := true) 60 rfl rfl rfl rfl (shO_off (b' := true) 60 rfl rfl rfl rfl (shO_off (b' := true) 60 rfl rfl rfl rfl (shO_off (b' := true) 60 rfl rfl rfl rfl ?_))))
     refine ov (v_pick_t rfl rfl) rfl ?_
     refine om rfl rfl (shO_off (b' := true) 66 rfl rfl rfl rfl (shO_off (b' := true) 66 rfl rfl rfl rfl (shO_off (b' := true) 66 rfl rfl rfl rfl (shO_off (b' := true) 66 rfl rfl rfl rfl ?_))))
     refine ov (v_pick_t rfl rfl) rfl ?_
     refine om rfl rfl (shO_off (b' := true) 72 rfl rfl rfl rfl (shO_off (b' := true) 72 rfl rfl rfl rfl (shO_off (b' := true) 72 rfl rfl rfl rfl (shO_off (b' := true) 72 rfl rfl rfl rfl ?_))))
     refine ov (v_pick_t rfl rfl) rfl ?_
     refine shO_nil ?_
     obtain rfl := inj1 r105
     exact mi (kc (kc (kx (kg (fS (fS fP)) (ka kn))))) ⟨FExt.refl _, rfl, (sc rfl (sc rfl (sc rfl (sn _))))⟩
   have r106 := ite_f r103 c104; clear r103
   refine shO_on (b := false) 56 rfl (Env.isF rfl c104) (om rfl rfl (shO_on (b := false) 56 rfl (Env.isF rfl c104) ?_))
   refine ov (v_notB rfl) rfl ?_
   refine ov (v_pick_f (evD_false rfl c104) rfl) rfl ?_
   refine om rfl rfl ?_
   rcases bool_two (!ok) with c107 | c107
   · have r108 := bt r106 c107; clear r106
     refine shO_off (b' := true) 60 rfl (EnvB rfl c107) rfl rfl (shO_off (b' := true) 60 rfl (EnvB rfl c107) rfl rfl (shO_off (b' := true) 60 rfl (EnvB rfl c107) rfl rfl (shO_off (b' := true) 60 rfl (EnvB rfl c107) rfl rfl ?_)))
     refine ov (v_pick_t (evB rfl c107) rfl) rfl ?_
     refine om rfl rfl (shO_off (b' := true) 66 rfl rfl rfl rfl (shO_off (b' := true) 66 rfl rfl rfl rfl (shO_off (b' := true) 66 rfl rfl rfl rfl (shO_off (b' := true) 66 rfl rfl rfl rfl ?_))))
     refine ov (v_pick_t rfl rfl) rfl ?_
     refine om rfl rfl (shO_off (b' := true) 72 rfl rfl rfl rfl (shO_off (b' := true) 72 rfl rfl rfl rfl (shO_off (b' := true) 72 rfl rfl rfl rfl (shO_off (b' := true) 72 rfl rfl rfl rfl ?_))))
     refine ov (v_pick_t rfl rfl) rfl ?_
     refine shO_nil ?_
     obtain rfl := inj1 r108
     exact mi (kc (kc (kx (kg (fS (fS fP)) (ka kn))))) ⟨FExt.refl _, rfl, (sc rfl (sc rfl (sc rfl (sn _))))⟩
   have r109 := bf r106 c107; clear r106
   refine shO_on (b := false) 60 rfl (EnvB rfl c107) (om rfl rfl (shO_on (b := false) 60 rfl (EnvB rfl c107) ?_))
   refine o_buildSlice (cs := #[.int .i64 0, .int .i64 5, .int .i64 9, .int .i64 14]) rfl rfl (buildSlice_all slt_26 [.int .i64 0, .int .i64 5, .int .i64 9, .int .i64 14] rfl (by decide) (by simp [Value.cells]) (by decide)) ?_; intro b110 hb110
   refine shO_on (b := false) 60 rfl (EnvB rfl c107) ?_
   refine shO_freeze 0 rfl hb110 ?_; intro F111 hF112 hz113
   refine shO_L (L' := (b36, .cells #[.int .i64 n2, .slice a29 n33 c30] 24 (0, 0)) :: ((b35, .cells #[.int .i64 n, .slice a12 n16 c13] 24 (0, 0)) :: (Lb81 ++ (Lb31 ++ (Lb63 ++ (Lb14 ++ (Lb45 ++ []))))))) rfl ?_
   replace h5 := h5.mono sE_ok hF112
   replace h22 := h22.mono sE_ok hF112
   replace h54 := h54.mono (iE_ok _) hF112
   replace h72 := h72.mono (iE_ok _) hF112
   replace h90 := h90.mono (iE_ok _) hF112
   replace hz15 := hz15.mono (iE_ok _) hF112
   replace hz32 := hz32.mono (iE_ok _) hF112
   replace hz46 := hz46.mono (iE_ok _) hF112
   replace hz64 := hz64.mono (iE_ok _) hF112
   replace hz82 := hz82.mono (iE_ok _) hF112
   replace hz4 := hF112 _ _ hz4
   replace hz21 := hF112 _ _ hz21
   replace hz53 := hF112 _ _ hz53
   replace hz71 := hF112 _ _ hz71
   replace hz89 := hF112 _ _ hz89
   have h114 : RowR 1 (iE .i64) F111 (some ⟨b110, 0, none⟩) 4 [0, 5, 9, 14] := RowR.of_block (iE_ok _) (vss := [[.int .i64 0], [.int .i64 5], [.int .i64 9], [.int .i64 14]]) (xs := [0, 5, 9, 14]) hz113 (.cons rfl (.cons rfl (.cons rfl (.cons rfl .nil)))) rfl (by simp [maxLen])
   obtain ⟨ok2, h115, r116⟩ := b1_ok r109; clear r109
   refine o_callT (Lt := Lb45 ++ []) (Lr := (b36, .cells #[.int .i64 n2, .slice a29 n33 c30] 24 (0, 0)) :: ((b35, .cells #[.int .i64 n, .slice a12 n16 c13] 24 (0, 0)) :: (Lb81 ++ (Lb31 ++ (Lb63 ++ (Lb14 ++ [])))))) rfl Try.call23 rfl rfl rfl (pT ((fC (fC (fS (fS (fS (fS fP)))))).trans (pA pR)) (lp (ln rfl))) (fun F2 h2 h3 => by rw [(SlR.caps hz46).1]; exact oyezkit_Like_int_w (hz46.row (iE_ok _) h2 (fun p hp => h3 p (List.mem_append_left _ hp))) (h114.mono (iE_ok _) h2) h115) ?_
   refine shO_on (b := false) 60 rfl (EnvB rfl c107) ?_
   refine ov (v_notB rfl) rfl ?_
   refine ov (v_pick_f (evB rfl c107) rfl) rfl ?_
   refine om rfl rfl ?_
   rcases bool_two (!ok2) with c117 | c117
   · have r118 := bt r116 c117; clear r116
     refine shO_off (b' := true) 66 rfl (EnvB rfl c117) rfl rfl (shO_off (b' := true) 66 rfl (EnvB rfl c117) rfl rfl (shO_off (b' := true) 66 rfl (EnvB rfl c117) rfl rfl (shO_off (b' := true) 66 rfl (EnvB rfl c117) rfl rfl ?_)))
     refine ov (v_pick_t (evB rfl c117) rfl) rfl ?_
     refine om rfl rfl (shO_off (b' := true) 72 rfl rfl rfl rfl (shO_off (b' := true) 72 rfl rfl rfl rfl (shO_off (b' := true) 72 rfl rfl rfl rfl (shO_off (b' := true) 72 rfl rfl rfl rfl ?_))))
     refine ov (v_pick_t rfl rfl) rfl ?_
     refine shO_nil ?_
     obtain rfl := inj1 r118
     exact mi (kc (kc (kx (kg (fS (fS fP)) (ka kn))))) ⟨hF112, rfl, (sc rfl (sc rfl (sc rfl (sn _))))⟩
   have r119 := bf r116 c117; clear r116
   refine shO_on (b := false) 66 rfl (EnvB rfl c117) (om rfl rfl (shO_on (b := false) 66 rfl (EnvB rfl c117) ?_))
   refine o_buildSlice (cs := #[.int .i64 2]) rfl rfl (buildSlice_all slt_26 [.int .i64 2] rfl (by decide) (by simp [Value.cells]) (by decide)) ?_; intro b120 hb120
   refine shO_on (b := false) 66 rfl (EnvB rfl c117) ?_
   refine shO_freeze 0 rfl hb120 ?_; intro F121 hF122 hz123
   refine shO_L (L' := (b36, .cells #[.int .i64 n2, .slice a29 n33 c30] 24 (0, 0)) :: ((b35, .cells #[.int .i64 n, .slice a12 n16 c13] 24 (0, 0)) :: (Lb81 ++ (Lb31 ++ (Lb63 ++ (Lb14 ++ (Lb45 ++ []))))))) rfl ?_
   replace h5 := h5.mono sE_ok hF122
   replace h22 := h22.mono sE_ok hF122
   replace h54 := h54.mono (iE_ok _) hF122
   replace h72 := h72.mono (iE_ok _) hF122
   replace h90 := h90.mono (iE_ok _) hF122
   replace h114 := h114.mono (iE_ok _) hF122
   replace hz15 := hz15.mono (iE_ok _) hF122
   replace hz32 := hz32.mono (iE_ok _) hF122
   replace hz46 := hz46.mono (iE_ok _) hF122
   replace hz64 := hz64.mono (iE_ok _) hF122
   replace hz82 := hz82.mono (iE_ok _) hF122
   replace hz4 := hF122 _ _ hz4
   replace hz21 := hF122 _ _ hz21
   replace hz53 := hF122 _ _ hz53
   replace hz71 := hF122 _ _ hz71
   replace hz89 := hF122 _ _ hz89
   replace hz113 := hF122 _ _ hz113
   have h124 : RowR 1 (iE .i64) F121 (some ⟨b120, 0, none⟩) 1 [2] := RowR.of_block (iE_ok _) (vss := [[.int .i64 2]]) (xs := [2]) hz123 (.cons rfl .nil) rfl (by simp [maxLen])
   obtain ⟨ok3, h125, r126⟩ := b1_ok r119; clear r119
   refine o_callT (Lt := Lb63 ++ []) (Lr := (b36, .cells #[.int .i64 n2, .slice a29 n33 c30] 24 (0, 0)) :: ((b35, .cells #[.int .i64 n, .slice a12 n16 c13] 24 (0, 0)) :: (Lb81 ++ (Lb31 ++ (Lb14 ++ (Lb45 ++ [])))))) rfl Try.call23 rfl rfl rfl (pT ((fC (fC (fS (fS fP)))).trans (pA pR)) (lp (ln rfl))) (fun F2 h2 h3 => by rw [(SlR.caps hz64).1]; exact oyezkit_Like_int_w (hz64.row (iE_ok _) h2 (fun p hp => h3 p (List.mem_append_left _ hp))) (h124.mono (iE_ok _) h2) h125) ?_
   refine shO_on (b := false) 66 rfl (EnvB rfl c117) ?_
   refine ov (v_notB rfl) rfl ?_
   refine ov (v_pick_f (evB rfl c117) rfl) rfl ?_
   refine om rfl rfl ?_
   rcases bool_two (!ok3) with c127 | c127
   · have r128 := bt r126 c127; clear r126
     refine shO_off (b' := true) 72 rfl (EnvB rfl c127) rfl rfl (shO_off (b' := true) 72 rfl (EnvB rfl c127) rfl rfl (shO_off (b' := true) 72 rfl (EnvB rfl c127) rfl rfl (shO_off (b' := true) 72 rfl (EnvB rfl c127) rfl rfl ?_)))
     refine ov (v_pick_t (evB rfl c127) rfl) rfl ?_
     refine shO_nil ?_
     obtain rfl := inj1 r128
     exact mi (kc (kc (kx (kg (fS (fS fP)) (ka kn))))) ⟨(hF112.trans hF122), rfl, (sc rfl (sc rfl (sc rfl (sn _))))⟩
   have r129 := bf r126 c127; clear r126
   refine shO_on (b := false) 72 rfl (EnvB rfl c127) (om rfl rfl (shO_on (b := false) 72 rfl (EnvB rfl c127) ?_))
   refine o_buildSlice (cs := #[.int .i64 1]) rfl rfl (buildSlice_all slt_26 [.int .i64 1] rfl (by decide) (by simp [Value.cells]) (by decide)) ?_; intro b130 hb130
   refine shO_on (b := false) 72 rfl (EnvB rfl c127) ?_
   refine shO_freeze 0 rfl hb130 ?_; intro F131 hF132 hz133
   refine shO_L (L' := (b36, .cells #[.int .i64 n2, .slice a29 n33 c30] 24 (0, 0)) :: ((b35, .cells #[.int .i64 n, .slice a12 n16 c13] 24 (0, 0)) :: (Lb81 ++ (Lb31 ++ (Lb63 ++ (Lb14 ++ (Lb45 ++ []))))))) rfl ?_
   replace h5 := h5.mono sE_ok hF132
   replace h22 := h22.mono sE_ok hF132
   replace h54 := h54.mono (iE_ok _) hF132
   replace h72 := h72.mono (iE_ok _) hF132
   replace h90 := h90.mono (iE_ok _) hF132
   replace h114 := h114.mono (iE_ok _) hF132
   replace h124 := h124.mono (iE_ok _) hF132
   replace hz15 := hz15.mono (iE_ok _) hF132
   replace hz32 := hz32.mono (iE_ok _) hF132
   replace hz46 := hz46.mono (iE_ok _) hF132
   replace hz64 := hz64.mono (iE_ok _) hF132
   replace hz82 := hz82.mono (iE_ok _) hF132
   replace hz4 := hF132 _ _ hz4
   replace hz21 := hF132 _ _ hz21
   replace hz53 := hF132 _ _ hz53
   replace hz71 := hF132 _ _ hz71
   replace hz89 := hF132 _ _ hz89
   replace hz113 := hF132 _ _ hz113
   replace hz123 := hF132 _ _ hz123
   have h134 : RowR 1 (iE .i64) F131 (some ⟨b130, 0, none⟩) 1 [1] := RowR.of_block (iE_ok _) (vss := [[.int .i64 1]]) (xs := [1]) hz133 (.cons rfl .nil) rfl (by simp [maxLen])
   obtain ⟨ok4, h135, r136⟩ := b1_ok r129; clear r129
   refine o_callT (Lt := Lb81 ++ []) (Lr := (b36, .cells #[.int .i64 n2, .slice a29 n33 c30] 24 (0, 0)) :: ((b35, .cells #[.int .i64 n, .slice a12 n16 c13] 24 (0, 0)) :: (Lb31 ++ (Lb63 ++ (Lb14 ++ (Lb45 ++ [])))))) rfl Try.call23 rfl rfl rfl (pT ((fC (fC fP)).trans (pA pR)) (lp (ln rfl))) (fun F2 h2 h3 => by rw [(SlR.caps hz82).1]; exact oyezkit_Like_int_w (hz82.row (iE_ok _) h2 (fun p hp => h3 p (List.mem_append_left _ hp))) (h134.mono (iE_ok _) h2) h135) ?_
   refine shO_on (b := false) 72 rfl (EnvB rfl c127) ?_
   refine ov (v_notB rfl) rfl ?_
   refine ov (v_pick_f (evB rfl c127) rfl) rfl ?_
   refine shO_nil ?_
   obtain rfl := inj1 r136
   exact mi (kc (kc (kx (kg (fS (fS fP)) (ka kn))))) ⟨((hF112.trans hF122).trans hF132), rfl, (sc rfl (sc rfl (sc rfl (sn _))))⟩
 rintro e1 F138 _ ⟨hF139, rfl, he137⟩
 refine shW_env _ he137 ?_; clear he137
 replace h5 := h5.mono sE_ok hF139
 replace h22 := h22.mono sE_ok hF139
 replace h54 := h54.mono (iE_ok _) hF139
 replace h72 := h72.mono (iE_ok _) hF139
 replace h90 := h90.mono (iE_ok _) hF139
 replace hz15 := hz15.mono (iE_ok _) hF139
 replace hz32 := hz32.mono (iE_ok _) hF139
 replace hz4 := hF139 _ _ hz4
 replace hz21 := hF139 _ _ hz21
 replace hz53 := hF139 _ _ hz53
 replace hz71 := hF139 _ _ hz71
 replace hz89 := hF139 _ _ hz89
 refine shW_cond rfl (fun c140 => ?_) (fun c140 => ?_)
 · have r141 := bt r94 c140; clear r94
   refine wsr (oa rfl rfl (shO_nil ?_))
   refine kW kn ?_
   refine shW_ret (andThen_ret ?_)
   refine q_res1 Try.results15 (res_tmp rfl) (sr) ?_
   obtain rfl := inj1 r141
   exact rfl
 have r142 := bf r94 c140; clear r94
 refine shW_skip (wsr ?_)
 refine ov (v_loadA (cs := #[.int .i64 n, .slice a12 n16 c13]) Try.isAgg24 Try.sizeOf24 rfl (Has.own 1 rfl) (Nat.le_of_ble_eq_true rfl) rfl) rfl ?_
 refine o_buildSlice (cs := #[.int .i64 1, .int .i64 3]) rfl rfl (buildSlice_all slt_26 [.int .i64 1, .int .i64 3] rfl (by decide) (by simp [Value.cells]) (by decide)) ?_; intro b143 hb143
 refine shO_freeze 0 rfl hb143 ?_; intro F144 hF145 hz146
 refine shO_L (L' := (b36, .cells #[.int .i64 n2, .slice a29 n33 c30] 24 (0, 0)) :: ((b35, .cells #[.int .i64 n, .slice a12 n16 c13] 24 (0, 0)) :: (Lb14 ++ (Lb31 ++ [])))) rfl ?_
 replace h5 := h5.mono sE_ok hF145
 replace h22 := h22.mono sE_ok hF145
 replace h54 := h54.mono (iE_ok _) hF145
 replace h72 := h72.mono (iE_ok _) hF145
 replace h90 := h90.mono (iE_ok _) hF145
 replace hz15 := hz15.mono (iE_ok _) hF145
 replace hz32 := hz32.mono (iE_ok _) hF145
 replace hz4 := hF145 _ _ hz4
 replace hz21 := hF145 _ _ hz21
 replace hz53 := hF145 _ _ hz53
 replace hz71 := hF145 _ _ hz71
 replace hz89 := hF145 _ _ hz89
 have h147 : RowR 1 (iE .i64) F144 (some ⟨b143, 0, none⟩) 2 [1, 3] := RowR.of_block (iE_ok _) (vss := [[.int .i64 1], [.int .i64 3]]) (xs := [1, 3]) hz146 (.cons rfl (.cons rfl .nil)) rfl (by simp [maxLen])
 obtain ⟨n7, n8, h148, r149⟩ := b2_ok r142; clear r142
 refine o_callT (Lt := Lb14 ++ []) (Lr := (b36, .cells #[.int .i64 n2, .slice a29 n33 c30] 24 (0, 0)) :: ((b35, .cells #[.int .i64 n, .slice a12 n16 c13] 24 (0, 0)) :: (Lb31 ++ []))) rfl Try.call29 rfl rfl rfl (pT ((fC (fC fP)).trans (pA pR)) (lp (ln rfl))) (fun F2 h2 h3 => by rw [(SlR.caps hz15).1]; exact hear_Louder_w (hz15.row (iE_ok _) h2 (fun p hp => h3 p (List.mem_append_left _ hp))) (h147.mono (iE_ok _) h2) h148) ?_
 refine om rfl rfl (ox rfl rfl rfl (ox rfl rfl rfl (oa rfl rfl (oa rfl rfl (nsr ?_)))))
 refine ov (v_loadA (cs := #[.int .i64 n2, .slice a29 n33 c30]) Try.isAgg24 Try.sizeOf24 rfl (Has.own 0 rfl) (Nat.le_of_ble_eq_true rfl) rfl) rfl ?_
 obtain ⟨l6, n9, h150, r151⟩ := b2_ok r149; clear r149
 refine o_callTO (Lb := []) (Lt := Lb31 ++ []) (Lr := (b36, .cells #[.int .i64 n2, .slice a29 n33 c30] 24 (0, 0)) :: ((b35, .cells #[.int .i64 n, .slice a12 n16 c13] 24 (0, 0)) :: (Lb14 ++ []))) rfl Try.call47 rfl rfl rfl (pT ((fC (fC (fS fP))).trans (pA pR)) (ln (lp (ln rfl)))) (fun F2 h2 h3 => by rw [(SlR.caps hz32).1]; exact hear_Way_w (hz32.row (iE_ok _) h2 (fun p hp => h3 p (List.mem_append_left _ hp))) h150) (fun _ _ _ _ hq => by obtain ⟨a156, n160, c157, Lb158, rfl, rfl, hz159⟩ := hq; exact ⟨_, _, _, _, rfl, rfl, hz159.flat (fun _ _ h => h)⟩) ?_; rintro _ F152 _ hF153 hd155 hn154 ⟨a156, n160, c157, Lb158, rfl, rfl, hz159⟩
 replace h5 := h5.mono sE_ok hF153
 replace h22 := h22.mono sE_ok hF153
 replace h54 := h54.mono (iE_ok _) hF153
 replace h72 := h72.mono (iE_ok _) hF153
 replace h90 := h90.mono (iE_ok _) hF153
 replace h147 := h147.mono (iE_ok _) hF153
 replace hz15 := hz15.mono (iE_ok _) hF153
 replace hz32 := hz32.mono (iE_ok _) hF153
 replace hz4 := hF153 _ _ hz4
 replace hz21 := hF153 _ _ hz21
 replace hz53 := hF153 _ _ hz53
 replace hz71 := hF153 _ _ hz71
 replace hz89 := hF153 _ _ hz89
 replace hz146 := hF153 _ _ hz146
 have hn162 := newp (Lb' := []) (by rfl) hd155 hn154
 replace hz159 := hz159.new fun p hp => hn162 p (by simp [hp])
 refine shO_L (lp (ln (lp (ln rfl)))) ?_
 refine kO (kf (fS (fS fO)) (kf (fS (fS fO)) kr)) ?_
 refine om rfl rfl (ox rfl rfl rfl (ox rfl rfl rfl (oa rfl rfl (oa rfl rfl (nsr ?_)))))
 refine o_buildSlice (cs := #[.string (sB [115, 104, 119, 104])]) rfl rfl (buildSlice_all slt_155 [.string (sB [115, 104, 119, 104])] rfl (by decide) (by simp [Value.cells]) (by decide)) ?_; intro b163 hb163
 refine shO_freeze 0 rfl hb163 ?_; intro F164 hF165 hz166
 refine shO_L (L' := (b36, .cells #[.int .i64 n2, .slice a29 n33 c30] 24 (0, 0)) :: ((b35, .cells #[.int .i64 n, .slice a12 n16 c13] 24 (0, 0)) :: (Lb158 ++ (Lb31 ++ (Lb14 ++ []))))) rfl ?_
 replace h5 := h5.mono sE_ok hF165
 replace h22 := h22.mono sE_ok hF165
 replace h54 := h54.mono (iE_ok _) hF165
 replace h72 := h72.mono (iE_ok _) hF165
 replace h90 := h90.mono (iE_ok _) hF165
 replace h147 := h147.mono (iE_ok _) hF165
 replace hz15 := hz15.mono (iE_ok _) hF165
 replace hz32 := hz32.mono (iE_ok _) hF165
 replace hz159 := hz159.mono (iE_ok _) hF165
 replace hz4 := hF165 _ _ hz4
 replace hz21 := hF165 _ _ hz21
 replace hz53 := hF165 _ _ hz53
 replace hz71 := hF165 _ _ hz71
 replace hz89 := hF165 _ _ hz89
 replace hz146 := hF165 _ _ hz146
 have h167 : RowR 1 sE F164 (some ⟨b163, 0, none⟩) 1 [[115, 104, 119, 104]] := RowR.of_block sE_ok (vss := [[.string (sB [115, 104, 119, 104])]]) (xs := [[115, 104, 119, 104]]) hz166 (.cons rfl .nil) rfl (by simp [maxLen])
 obtain ⟨n10, l7, h168, r169⟩ := b2_ok r151; clear r151
 refine o_call0 rfl Try.call75 rfl rfl rfl (oyezlaw01_Drawn_w h167 h168) ?_; rintro _ F170 _ hF171 hn172 ⟨a174, n178, c175, Lb176, rfl, rfl, hz177⟩
 replace h5 := h5.mono sE_ok hF171
 replace h22 := h22.mono sE_ok hF171
 replace h54 := h54.mono (iE_ok _) hF171
 replace h72 := h72.mono (iE_ok _) hF171
 replace h90 := h90.mono (iE_ok _) hF171
 replace h147 := h147.mono (iE_ok _) hF171
 replace h167 := h167.mono sE_ok hF171
 replace hz15 := hz15.mono (iE_ok _) hF171
 replace hz32 := hz32.mono (iE_ok _) hF171
 replace hz159 := hz159.mono (iE_ok _) hF171
 replace hz4 := hF171 _ _ hz4
 replace hz21 := hF171 _ _ hz21
 replace hz53 := hF171 _ _ hz53
 replace hz71 := hF171 _ _ hz71
 replace hz89 := hF171 _ _ hz89
 replace hz146 := hF171 _ _ hz146
 replace hz166 := hF171 _ _ hz166
 replace hz177 := hz177.new fun p hp => hn172 p (by simp [hp])
 refine shO_L (lp (ln rfl)) ?_
 refine kO (kf (fS fO) (kf (fS fO) kr)) ?_
 obtain ⟨n11, n12, h180, r181⟩ := b2_ok r169; clear r169
 refine o_callT (Lt := Lb176 ++ []) (Lr := (b36, .cells #[.int .i64 n2, .slice a29 n33 c30] 24 (0, 0)) :: ((b35, .cells #[.int .i64 n, .slice a12 n16 c13] 24 (0, 0)) :: (Lb158 ++ (Lb31 ++ (Lb14 ++ []))))) rfl Try.call19 rfl rfl rfl (pT ((fC (fC fP)).trans (pA pR)) (lp (ln rfl))) (fun F2 h2 h3 => by rw [(SlR.caps hz177).1]; exact hear_Need_w (hz177.row (iE_ok _) h2 (fun p hp => h3 p (List.mem_append_left _ hp))) h180) ?_
 refine om rfl rfl (ox rfl rfl rfl (ox rfl rfl rfl (oa rfl rfl (nsr (om rfl rfl ?_)))))
 refine ov (v_eql rfl rfl) rfl ?_
 refine om rfl rfl ?_
 by_cases c182 : n8 = 0
 · have r183 := ite_t r181 c182; clear r181
   refine shO_on (b := true) 97 rfl (Env.isT rfl c182) (om rfl rfl (shO_on (b := true) 97 rfl (Env.isT rfl c182) ?_))
   refine ov (v_eql rfl rfl) rfl ?_
   refine ov (v_pick_t (evD_true rfl c182) rfl) rfl ?_
   refine om rfl rfl ?_
   by_cases c184 : n9 = 0
   · have r185 := ite_t r183 c184; clear r183
     refine shO_on (b := true) 101 rfl (Env.isT rfl c184) (om rfl rfl (shO_on (b := true) 101 rfl (Env.isT rfl c184) ?_))
     refine ov (v_eql rfl rfl) rfl ?_
     refine ov (v_pick_t (evD_true rfl c184) rfl) rfl ?_
     refine om rfl rfl ?_
     by_cases c186 : n7 = 5
     · have r187 := ite_t r185 c186; clear r185
       refine shO_on (b := true) 105 rfl (Env.isT rfl c186) (om rfl rfl (shO_on (b := true) 105 rfl (Env.isT rfl c186) ?_))
       refine o_buildSlice (cs := #[.int .i64 3, .int .i64 0, .int .i64 1, .int .i64 2]) rfl rfl (buildSlice_all slt_26 [.int .i64 3, .int .i64 0, .int .i64 1, .int .i64 2] rfl (by decide) (by simp [Value.cells]) (by decide)) ?_; intro b188 hb188
       refine shO_on (b := true) 105 rfl (Env.isT rfl c186) ?_
       refine shO_freeze 0 rfl hb188 ?_; intro F189 hF190 hz191
       refine shO_L (L' := (b36, .cells #[.int .i64 n2, .slice a29 n33 c30] 24 (0, 0)) :: ((b35, .cells #[.int .i64 n, .slice a12 n16 c13] 24 (0, 0)) :: (Lb176 ++ (Lb158 ++ (Lb31 ++ (Lb14 ++ [])))))) rfl ?_
       replace h5 := h5.mono sE_ok hF190
       replace h22 := h22.mono sE_ok hF190
       replace h54 := h54.mono (iE_ok _) hF190
       replace h72 := h72.mono (iE_ok _) hF190
       replace h90 := h90.mono (iE_ok _) hF190
       replace h147 := h147.mono (iE_ok _) hF190
       replace h167 := h167.mono sE_ok hF190
       replace hz15 := hz15.mono (iE_ok _) hF190
       replace hz32 := hz32.mono (iE_ok _) hF190
       replace hz159 := hz159.mono (iE_ok _) hF190
       replace hz177 := hz177.mono (iE_ok _) hF190
       replace hz4 := hF190 _ _ hz4
       replace hz21 := hF190 _ _ hz21
       replace hz53 := hF190 _ _ hz53
       replace hz71 := hF190 _ _ hz71
       replace hz89 := hF190 _ _ hz89
       replace hz146 := hF190 _ _ hz146
       replace hz166 := hF190 _ _ hz166
       have h192 : RowR 1 (iE .i64) F189 (some ⟨b188, 0, none⟩) 4 [3, 0, 1, 2] := RowR.of_block (iE_ok _) (vss := [[.int .i64 3], [.int .i64 0], [.int .i64 1], [.int .i64 2]]) (xs := [3, 0, 1, 2]) hz191 (.cons rfl (.cons rfl (.cons rfl (.cons rfl .nil)))) rfl (by simp [maxLen])
       obtain ⟨ok5, h193, r194⟩ := b1_ok r187; clear r187
       refine o_callT (Lt := Lb158 ++ []) (Lr := (b36, .cells #[.int .i64 n2, .slice a29 n33 c30] 24 (0, 0)) :: ((b35, .cells #[.int .i64 n, .slice a12 n16 c13] 24 (0, 0)) :: (Lb176 ++ (Lb31 ++ (Lb14 ++ []))))) rfl Try.call23 rfl rfl rfl (pT ((fC (fC (fS fP))).trans (pA pR)) (lp (ln rfl))) (fun F2 h2 h3 => by rw [(SlR.caps hz159).1]; exact oyezkit_Like_int_w (hz159.row (iE_ok _) h2 (fun p hp => h3 p (List.mem_append_left _ hp))) (h192.mono (iE_ok _) h2) h193) ?_
       refine ov (v_pick_t (evD_true rfl c186) rfl) rfl ?_
       refine om rfl rfl ?_
       rcases bool_two ok5 with c195 | c195
       · have r196 := bt r194 c195; clear r194
         refine shO_on (b := true) 110 rfl (EnvB rfl c195) (om rfl rfl (shO_on (b := true) 110 rfl (EnvB rfl c195) ?_))
         refine ov (v_eql rfl rfl) rfl ?_
         refine ov (v_pick_t (evB rfl c195) rfl) rfl ?_
         refine oa rfl rfl (shO_nil ?_)
         refine kW kn ?_
         refine shW_ret ?_
         refine q_res1 Try.results15 (res_tmp rfl) (sr) ?_
         obtain rfl := inj1 r196
         exact rfl
       have r197 := bf r194 c195; clear r194
       refine shO_off (b' := false) 110 rfl (EnvB rfl c195) rfl rfl (shO_off (b' := false) 110 rfl (EnvB rfl c195) rfl rfl ?_)
       refine ov (v_pick_f (evB rfl c195) rfl) rfl ?_
       refine oa rfl rfl (shO_nil ?_)
       refine kW kn ?_
       refine shW_ret ?_
       refine q_res1 Try.results15 (res_tmp rfl) (sr) ?_
       obtain rfl := inj1 r197
       exact rfl
     have r198 := ite_f r185 c186; clear r185
     refine shO_off (b' := false) 105 rfl (Env.isF rfl c186) rfl rfl (shO_off (b' := false) 105 rfl (Env.isF rfl c186) rfl rfl (shO_off (b' := false) 105 rfl (Env.isF rfl c186) rfl rfl ?_))
     refine ov (v_pick_f (evD_false rfl c186) rfl) rfl ?_
     refine om rfl rfl (shO_off (b' := false) 110 rfl rfl rfl rfl (shO_off (b' := false) 110 rfl rfl rfl rfl ?_))
     refine ov (v_pick_f rfl rfl) rfl ?_
     refine oa rfl rfl (shO_nil ?_)
     refine kW kn ?_
     refine shW_ret ?_
     refine q_res1 Try.results15 (res_tmp rfl) (sr) ?_
     obtain rfl := inj1 r198
     exact rfl
   have r199 := ite_f r183 c184; clear r183
   refine shO_off (b' := false) 101 rfl (Env.isF rfl c184) rfl rfl (shO_off (b' := false) 101 rfl (Env.isF rfl c184) rfl rfl ?_)
   refine ov (v_pick_f (evD_false rfl c184) rfl) rfl ?_
   refine om rfl rfl (shO_off (b' := false) 105 rfl rfl rfl rfl (shO_off (b' := false) 105 rfl rfl rfl rfl (shO_off (b' := false) 105 rfl rfl rfl rfl ?_)))
   refine ov (v_pick_f rfl rfl) rfl ?_
   refine om rfl rfl (shO_off (b' := false) 110 rfl rfl rfl rfl (shO_off (b' := false) 110 rfl rfl rfl rfl ?_))
   refine ov (v_pick_f rfl rfl) rfl ?_
   refine oa rfl rfl (shO_nil ?_)
   refine kW kn ?_
   refine shW_ret ?_
   refine q_res1 Try.results15 (res_tmp rfl) (sr) ?_
   obtain rfl := inj1 r199
   exact rfl
 have r200 := ite_f r181 c182; clear r181
 refine shO_off (b' := false) 97 rfl (Env.isF rfl c182) rfl rfl (shO_off (b' := false) 97 rfl (Env.isF rfl c182) rfl rfl ?_)
 refine ov (v_pick_f (evD_false rfl c182) rfl) rfl ?_
 refine om rfl rfl (shO_off (b' := false) 101 rfl rfl rfl rfl (shO_off (b' := false) 101 rfl rfl rfl rfl ?_))
 refine ov (v_pick_f rfl rfl) rfl ?_
 refine om rfl rfl (shO_off (b' := false) 105 rfl rfl rfl rfl (shO_off (b' := false) 105 rfl rfl rfl rfl (shO_off (b' := false) 105 rfl rfl rfl rfl ?_)))
 refine ov (v_pick_f rfl rfl) rfl ?_
 refine om rfl rfl (shO_off (b' := false) 110 rfl rfl rfl rfl (shO_off (b' := false) 110 rfl rfl rfl rfl ?_))
 refine ov (v_pick_f rfl rfl) rfl ?_
 refine oa rfl rfl (shO_nil ?_)
 refine kW kn ?_
 refine shW_ret ?_
 refine q_res1 Try.results15 (res_tmp rfl) (sr) ?_
 obtain rfl := inj1 r200
 exact rfl


set_option maxHeartbeats 1000000 in
theorem oyezkit_Copy_int_w {l_a : Option Addr} {l_c : Nat} {l : List Int} {F : FS} (h_l : RowR 1 (iE .i64) F l_a l_c l) {r : List Int} (hr : oyezkit_Copy_int l = some r) :
    SH.Spec Try.prog 17 #[.slice l_a l.length l_c] F [] fun F' L' v => ∃ (ra : Option Addr) (rn : Nat) (rc : Nat) (rL : LH), v = .slice ra rn rc ∧ L' = rL ++ [] ∧ SlR 0 3 1 (iE .i64) F' ra rn rc r rL := by
 refine spec_of_shW (args := [.slice l_a l.length l_c]) Try.func17 rfl Try.ntmps17 (Nat.le_of_ble_eq_true rfl) ?_
 intro K _ _; rw [oyezkit_Copy_int] at hr
 refine wsr (oa rfl rfl (nsr (om rfl rfl ?_)))
 refine ov (v_lenS Try.underlying26 rfl) rfl ?_
 obtain ⟨g1, r2⟩ := gd_ok hr; clear hr
 obtain ⟨l2, h3, r4⟩ := bv_ok r2; clear r2
 refine o_makeZ (R := (iE .i64)) (z0 := 0) (zs := l2) rfl slt_26 (by decide) (iE_ok _) (fun _ => rfl) rfl g1 h3 (fun _ => .n) ?_; intro a5 n8 Lb6 hz7
 refine oa rfl rfl (nsr (om rfl rfl (om rfl rfl ?_)))
 obtain ⟨out, h10, r11⟩ := bv_ok r4; clear r4
 refine o_copyZ (ys := l) (zs := out) rfl slt_26 (iE_ok _) rfl rfl (fun _ => .h) hz7 (RowR.src h_l) h10 ?_; intro Lb12 hz13
 refine nsr (om rfl rfl (oa rfl rfl (shO_nil (shW_ret ?_))))
 refine q_res1 Try.results17 (res_tmp rfl) (sr) ?_
 obtain rfl := inj1 r11
 exact ⟨_, _, _, _, rfl, rfl, hz13.any⟩


set_option maxHeartbeats 1000000 in
theorem oyezkit_Hang_w {metal_a : Option Addr} {metal_c : Nat} {metal : List Int} {F : FS} (h_metal : RowR 1 (iE .u8) F metal_a metal_c metal) {r : List Int} {r2 : Int} {r3 : Int} (hr : oyezkit_Hang metal = some (r, r2, r3)) :
    SH.Spec Try.prog 39 #[.slice metal_a metal.length metal_c] F [] fun F' L' v => ∃ (rb : Nat) (ra : Option Addr) (rc : Nat), v = .pointer (some ⟨rb, 0, none⟩) ∧ L' = [(rb, .cells #[.slice ra r.length rc, .int .i64 r2, .int .u32 r3] 134 (0, 0))] ∧ RowR 1 (iE .u8) F' ra rc r := by
 refine spec_of_shW (args := [.slice metal_a metal.length metal_c]) Try.func39 rfl Try.ntmps39 (Nat.le_of_ble_eq_true rfl) ?_
 intro K _ _; rw [oyezkit_Hang] at hr
 refine wsr (oa rfl rfl (nsr (om rfl rfl ?_)))
 refine ov (v_build (v := .agg #[.slice metal_a metal.length metal_c, .int .i64 0, .int .u32 0]) rfl (by intro w; kernel_rfl)) rfl ?_
 refine o_box rfl rfl ?_; intro b1 hb1
 refine oa rfl rfl (shO_nil (shW_ret ?_))
 refine q_res1 Try.results39 (res_tmp rfl) (sr) ?_
 obtain ⟨rfl, rfl, rfl⟩ := inj3 hr
 exact ⟨_, _, _, rfl, rfl, h_metal⟩


set_option maxHeartbeats 1000000 in
theorem oyezkit_Bell_ring_w {b_b : Nat} {metal_a : Option Addr} {metal_c : Nat} {metal : List Int} {at_ : Int} {turn : Int} {F : FS} (h_metal : RowR 1 (iE .u8) F metal_a metal_c metal) {r : Int} {r2 : Int} {r3 : Int} (hr : oyezkit_Bell_ring metal at_ turn = some (r, r2, r3)) :
    SH.Spec Try.prog 103 #[.pointer (some ⟨b_b, 0, none⟩)] F [(b_b, .cells #[.slice metal_a metal.length metal_c, .int .i64 at_, .int .u32 turn] 134 (0, 0))] fun _ L' v => v = .int .i64 r ∧ L' = [(b_b, .cells #[.slice metal_a metal.length metal_c, .int .i64 r2, .int .u32 r3] 134 (0, 0))] := by
 refine spec_of_shW (args := [.pointer (some ⟨b_b, 0, none⟩)]) Try.func103 rfl Try.ntmps103 (Nat.le_of_ble_eq_true rfl) ?_
 intro K _ _; rw [oyezkit_Bell_ring] at hr
 refine wsr (oa rfl rfl (shO_nil ?_))
 obtain ⟨b_at, b_turn, h1, r4⟩ := b2_ok hr; clear hr
 refine shW_join (fun e1 F1 L1 => F = F1 ∧ L1 = [(b_b, .cells #[.slice metal_a metal.length metal_c, .int .i64 b_at, .int .u32 b_turn] 134 (0, 0))] ∧ e1.sub [(0, .pointer (some ⟨b_b, 0, none⟩))]) ?_ ?_
 · clear r4
   refine wsd (by kernel_rfl) (by kernel_rfl) (by kernel_rfl) ?_
   refine qm rfl rfl ?_
   refine qv (v_nilCheck rfl) rfl ?_
   refine qv (v_fieldAddr fa_134_1 rfl) rfl ?_
   refine qv (v_load Try.isAgg3 rfl (Has.own 0 rfl) rfl) rfl ?_
   refine qm rfl rfl ?_
   refine qv (v_nilCheck rfl) rfl ?_
   refine qv (v_fieldAddr fa_134_0 rfl) rfl ?_
   refine qv (v_load Try.isAgg67 rfl (Has.own 0 rfl) rfl) rfl ?_
   refine qv (v_lenS Try.underlying67 rfl) rfl ?_
   refine qv (v_eql rfl rfl) rfl ?_
   refine shQ_nil ?_
   refine shW_condP rfl (fun c5 => ?_) (fun c5 => ?_)
   · have r6 := ite_t h1 c5; clear h1
     refine shW_region (om rfl rfl (om rfl rfl (om rfl rfl ?_)))
     refine ov (v_nilCheck rfl) rfl ?_
     refine ov (v_fieldAddr fa_134_2 rfl) rfl ?_
     refine ov (v_load Try.isAgg132 rfl (Has.own 0 rfl) rfl) rfl ?_
     refine ov (u_add rfl rfl rfl) rfl ?_
     refine ov (v_nilCheck rfl) rfl ?_
     refine ov (v_fieldAddr fa_134_1 rfl) rfl ?_
     refine o_store (i := 0) Try.sizeOf3 rfl rfl rfl rfl (Nat.le_of_ble_eq_true rfl) ?_
     refine shO_L (L' := [(b_b, .cells #[.slice metal_a metal.length metal_c, .int .i64 0, .int .u32 turn] 134 (0, 0))]) rfl ?_
     refine ov (v_nilCheck rfl) rfl ?_
     refine ov (v_fieldAddr fa_134_2 rfl) rfl ?_
     refine o_store (i := 0) Try.sizeOf132 rfl rfl rfl rfl (Nat.le_of_ble_eq_true rfl) ?_
     refine shO_L (L' := [(b_b, .cells #[.slice metal_a metal.length metal_c, .int .i64 0, .int .u32 ((turn + 1) % 4294967296)] 134 (0, 0))]) rfl ?_
     refine shO_nil ?_
     obtain ⟨rfl, rfl⟩ := inj2 r6
     exact mi kr ⟨rfl, rfl, (sc rfl (sn _))⟩
   have r7 := ite_f h1 c5; clear h1
   refine shW_skip ?_
   obtain ⟨rfl, rfl⟩ := inj2 r7
   exact mi kr ⟨rfl, rfl, (sc rfl (sn _))⟩
 rintro e1 _ _ ⟨rfl, rfl, he8⟩
 refine shW_env _ he8 ?_; clear he8
 refine wsr (om rfl rfl ?_)
 refine ov (v_nilCheck rfl) rfl ?_
 refine ov (v_fieldAddr fa_134_2 rfl) rfl ?_
 refine ov (v_load Try.isAgg132 rfl (Has.own 0 rfl) rfl) rfl ?_
 refine ov (u_mul rfl rfl rfl) rfl ?_
 obtain ⟨n, h9, r10⟩ := bv_ok r4; clear r4
 refine ov ((v_assign rfl).i h9) rfl ?_
 refine shO_nil ?_
 obtain ⟨n2, b_at2, h11, r12⟩ := b2_ok r10; clear r10
 refine shW_join (fun e1 F1 L1 => F = F1 ∧ L1 = [(b_b, .cells #[.slice metal_a metal.length metal_c, .int .i64 b_at2, .int .u32 b_turn] 134 (0, 0))] ∧ e1.sub [(3, .int .u32 n2)]) ?_ ?_
 · clear r12
   refine wsr (om rfl rfl ?_)
   refine ov (v_nilCheck rfl) rfl ?_
   refine ov (v_fieldAddr fa_134_0 rfl) rfl ?_
   refine ov (v_load Try.isAgg67 rfl (Has.own 0 rfl) rfl) rfl ?_
   refine ov (v_lenS Try.underlying67 rfl) rfl ?_
   refine ov (v_gtrK rfl rfl) rfl ?_
   refine shO_nil ?_
   refine shW_condP rfl (fun c13 => ?_) (fun c13 => ?_)
   · have r14 := ite_t h11 c13; clear h11
     refine wsd (by kernel_rfl) (by kernel_rfl) (by kernel_rfl) ?_
     refine qm rfl rfl (qm rfl rfl ?_)
     refine qv (v_nilCheck rfl) rfl ?_
     refine qv (v_fieldAddr fa_134_0 rfl) rfl ?_
     refine qv (v_load Try.isAgg67 rfl (Has.own 0 rfl) rfl) rfl ?_
     refine qm rfl rfl ?_
     refine qv (v_nilCheck rfl) rfl ?_
     refine qv (v_fieldAddr fa_134_1 rfl) rfl ?_
     refine qv (v_load Try.isAgg3 rfl (Has.own 0 rfl) rfl) rfl ?_
     obtain ⟨x, g15, hx16, r17⟩ := ix_ok r14; clear r14
     obtain ⟨b18, o19, c20, vs21, ha22, hs23, hle24, rfl, hl25, hc26⟩ := RowR.at (iE_ok _) h_metal ([(b_b, .cells #[.slice metal_a metal.length metal_c, .int .i64 b_at, .int .u32 b_turn] 134 (0, 0))]) g15.1 hx16
     refine qv (v_indexO Try.underlying67 Try.sizeOf5 rfl ha22 rfl g15) rfl ?_
     refine qv (v_load Try.isAgg5 rfl hs23 (hc26 0 (by decide))) rfl ?_
     refine qv (u_conv rfl Try.underlying5 Try.underlying132 rfl) rfl ?_
     refine qv (u_mul rfl rfl rfl) rfl ?_
     refine qv (u_add rfl rfl rfl) rfl ?_
     obtain ⟨n3, h27, r28⟩ := bv_ok r17; clear r17
     refine qv ((v_assign rfl).i h27) rfl ?_
     refine shQ_nil (shW_region (om rfl rfl ?_))
     refine ov (v_nilCheck rfl) rfl ?_
     refine ov (v_fieldAddr fa_134_1 rfl) rfl ?_
     refine ov (v_load Try.isAgg3 rfl (Has.own 0 rfl) rfl) rfl ?_
     obtain ⟨g29, r30⟩ := gd_ok r28; clear r28
     refine ov (v_add rfl rfl g29) rfl ?_
     refine ov (v_nilCheck rfl) rfl ?_
     refine ov (v_fieldAddr fa_134_1 rfl) rfl ?_
     refine o_store (i := 0) Try.sizeOf3 rfl rfl rfl rfl (Nat.le_of_ble_eq_true rfl) ?_
     refine shO_L (L' := [(b_b, .cells #[.slice metal_a metal.length metal_c, .int .i64 (b_at + 1), .int .u32 b_turn] 134 (0, 0))]) rfl ?_
     refine shO_nil ?_
     obtain ⟨rfl, rfl⟩ := inj2 r30
     exact mi kr ⟨rfl, rfl, (sc rfl (sn _))⟩
   have r31 := ite_f h11 c13; clear h11
   refine shW_skip ?_
   obtain ⟨rfl, rfl⟩ := inj2 r31
   exact mi kr ⟨rfl, rfl, (sc rfl (sn _))⟩
 rintro e1 _ _ ⟨rfl, rfl, he32⟩
 refine shW_env _ he32 ?_; clear he32
 refine wsr (om rfl rfl (om rfl rfl ?_))
 refine ov (v_shr rfl rfl (by decide)) rfl ?_
 refine ov (u_xor rfl rfl rfl) rfl ?_
 refine ov (u_and rfl rfl rfl) rfl ?_
 obtain ⟨g33, r34⟩ := gd_ok r12; clear r12
 refine ov (i_conv Try.underlying132 Try.underlying3 rfl g33) rfl ?_
 refine oa rfl rfl (shO_nil (shW_ret ?_))
 refine q_res1 Try.results103 (res_tmp rfl) (sr) ?_
 obtain ⟨rfl, rfl, rfl⟩ := inj3 r34
 exact ⟨rfl, rfl⟩


set_option maxHeartbeats 1000000 in
theorem oyezkit_Bell_Stroke_w {b_b : Nat} {metal_a : Option Addr} {metal_c : Nat} {metal : List Int} {at_ : Int} {turn : Int} {n : Int} {F : FS} (h_metal : RowR 1 (iE .u8) F metal_a metal_c metal) {r : Int} {r2 : Int} {r3 : Int} (hr : oyezkit_Bell_Stroke metal at_ turn n = some (r, r2, r3)) :
    SH.Spec Try.prog 48 #[.pointer (some ⟨b_b, 0, none⟩), .int .i64 n] F [(b_b, .cells #[.slice metal_a metal.length metal_c, .int .i64 at_, .int .u32 turn] 134 (0, 0))] fun _ L' v => v = .int .i64 r ∧ L' = [(b_b, .cells #[.slice metal_a metal.length metal_c, .int .i64 r2, .int .u32 r3] 134 (0, 0))] := by
 refine spec_of_shW (args := [.pointer (some ⟨b_b, 0, none⟩), .int .i64 n]) Try.func48 rfl Try.ntmps48 (Nat.le_of_ble_eq_true rfl) ?_
 intro K _ _; rw [oyezkit_Bell_Stroke] at hr
 refine wsr (oa rfl rfl (nsr (om rfl rfl ?_)))
 obtain ⟨n2, at_2, turn2, h1, r4⟩ := b3_ok hr; clear hr
 refine o_callG (Lb := [(b_b, .cells #[.slice metal_a metal.length metal_c, .int .i64 at_, .int .u32 turn] 134 (0, 0))]) (Lr := []) rfl Try.call103 rfl rfl rfl (pR) (oyezkit_Bell_ring_w h_metal h1) ?_; rintro _ F5 _ hF6 hd8 hn7 ⟨rfl, rfl⟩
 replace h_metal := h_metal.mono (iE_ok _) hF6
 refine shO_L (lb (ln rfl)) ?_
 refine om rfl rfl ?_
 obtain ⟨g9, r10⟩ := gd_ok r4; clear r4
 refine ov (v_add rfl rfl g9) rfl ?_
 refine ov (v_max2 rfl rfl) rfl ?_
 obtain ⟨g11, r12⟩ := gd_ok r10; clear r10
 refine ov (v_remT rfl rfl g11) rfl ?_
 refine oa rfl rfl (shO_nil (shW_ret ?_))
 refine q_res1 Try.results48 (res_tmp rfl) (sr) ?_
 obtain ⟨rfl, rfl, rfl⟩ := inj3 r12
 exact ⟨rfl, rfl⟩


set_option maxHeartbeats 1000000 in
theorem oyezkit_Bell_Strike_w {b_b : Nat} {metal_a : Option Addr} {metal_c : Nat} {metal : List Int} {at_ : Int} {turn : Int} {lo : Int} {hi : Int} {F : FS} (h_metal : RowR 1 (iE .u8) F metal_a metal_c metal) {r : Int} {r2 : Int} {r3 : Int} (hr : oyezkit_Bell_Strike metal at_ turn lo hi = some (r, r2, r3)) :
    SH.Spec Try.prog 49 #[.pointer (some ⟨b_b, 0, none⟩), .int .i64 lo, .int .i64 hi] F [(b_b, .cells #[.slice metal_a metal.length metal_c, .int .i64 at_, .int .u32 turn] 134 (0, 0))] fun _ L' v => v = .int .i64 r ∧ L' = [(b_b, .cells #[.slice metal_a metal.length metal_c, .int .i64 r2, .int .u32 r3] 134 (0, 0))] := by
 refine spec_of_shW (args := [.pointer (some ⟨b_b, 0, none⟩), .int .i64 lo, .int .i64 hi]) Try.func49 rfl Try.ntmps49 (Nat.le_of_ble_eq_true rfl) ?_
 intro K _ _; rw [oyezkit_Bell_Strike] at hr
 refine wsr (oa rfl rfl (nsr (om rfl rfl (om rfl rfl (om rfl rfl (om rfl rfl ?_))))))
 obtain ⟨g1, r4⟩ := gd_ok hr; clear hr
 refine ov (v_sub rfl rfl g1) rfl ?_
 obtain ⟨n, at_2, turn2, h5, r6⟩ := b3_ok r4; clear r4
 refine o_callG (Lb := [(b_b, .cells #[.slice metal_a metal.length metal_c, .int .i64 at_, .int .u32 turn] 134 (0, 0))]) (Lr := []) rfl Try.call48 rfl rfl rfl (pR) (oyezkit_Bell_Stroke_w h_metal h5) ?_; rintro _ F7 _ hF8 hd10 hn9 ⟨rfl, rfl⟩
 replace h_metal := h_metal.mono (iE_ok _) hF8
 refine shO_L (lb (ln rfl)) ?_
 obtain ⟨g11, r12⟩ := gd_ok r6; clear r6
 refine ov (v_add rfl rfl g11) rfl ?_
 refine oa rfl rfl (shO_nil (shW_ret ?_))
 refine q_res1 Try.results49 (res_tmp rfl) (sr) ?_
 obtain ⟨rfl, rfl, rfl⟩ := inj3 r12
 exact ⟨rfl, rfl⟩


set_option maxHeartbeats 1000000 in
theorem oyezlaw01_Made_w {b_b : Nat} {metal_a : Option Addr} {metal_c : Nat} {metal : List Int} {at_ : Int} {turn : Int} {plots : Int} {F : FS} (h_metal : RowR 1 (iE .u8) F metal_a metal_c metal) {r : Int} {r2 : List Int} {r3 : Int} {r4 : Int} (hr : oyezlaw01_Made metal at_ turn plots = some (r, r2, r3, r4)) :
    SH.Spec Try.prog 40 #[.pointer (some ⟨b_b, 0, none⟩), .int .i64 plots] F [(b_b, .cells #[.slice metal_a metal.length metal_c, .int .i64 at_, .int .u32 turn] 134 (0, 0))] fun F' L' v => ∃ (r2a : Option Addr) (r2n : Nat) (r2c : Nat) (r2L : LH), v = .agg #[.int .i64 r, .slice r2a r2n r2c] ∧ L' = (b_b, .cells #[.slice metal_a metal.length metal_c, .int .i64 r3, .int .u32 r4] 134 (0, 0)) :: (r2L ++ []) ∧ SlR 0 73 1 (iE .i64) F' r2a r2n r2c r2 r2L := by
 refine spec_of_shW (args := [.pointer (some ⟨b_b, 0, none⟩), .int .i64 plots]) Try.func40 rfl Try.ntmps40 (Nat.le_of_ble_eq_true rfl) ?_
 intro K _ _; rw [oyezlaw01_Made] at hr
 refine wsr ?_
 refine o_alloc rfl Try.zeroValue24 ?_; intro b1 hb1
 refine nsr (om rfl rfl ?_)
 obtain ⟨n, at_2, turn2, h2, r5⟩ := b3_ok hr; clear hr
 refine o_callG (Lb := [(b_b, .cells #[.slice metal_a metal.length metal_c, .int .i64 at_, .int .u32 turn] 134 (0, 0))]) (Lr := [(b1, .cells #[.int .i64 0, .slice none 0 0] 24 (0, 0))]) rfl Try.call49 rfl rfl rfl (((fC fO).trans (pC pR))) (oyezkit_Bell_Strike_w h_metal h2) ?_; rintro _ F6 _ hF7 hd9 hn8 ⟨rfl, rfl⟩
 replace h_metal := h_metal.mono (iE_ok _) hF7
 refine shO_L (lb (ln rfl)) ?_
 refine ov (v_build (v := .agg #[.int .i64 n, .slice none 0 0]) rfl (by intro w; kernel_rfl)) rfl ?_
 refine o_alloc rfl Try.zeroValue24 ?_; intro b10 hb10
 refine o_storeA (i := 0) Try.sizeOf24 rfl rfl rfl (by simp [Value.oneCell']) rfl (Nat.le_of_ble_eq_true rfl) ?_
 refine shO_L (L' := [(b10, .cells #[.int .i64 n, .slice none 0 0] 24 (0, 0)), (b_b, .cells #[.slice metal_a metal.length metal_c, .int .i64 at_2, .int .u32 turn2] 134 (0, 0)), (b1, .cells #[.int .i64 0, .slice none 0 0] 24 (0, 0))]) rfl ?_
 refine nsr (om rfl rfl (om rfl rfl ?_))
 refine ov (v_fieldAddr fa_24_0 rfl) rfl ?_
 refine ov (v_load Try.isAgg3 rfl (Has.own 0 rfl) rfl) rfl ?_
 obtain ⟨g11, r12⟩ := gd_ok r5; clear r5
 refine ov (v_quoT rfl rfl g11) rfl ?_
 refine ov (v_max2 rfl rfl) rfl ?_
 obtain ⟨n2, at_3, turn3, h13, r14⟩ := b3_ok r12; clear r12
 refine o_callG (Lb := [(b_b, .cells #[.slice metal_a metal.length metal_c, .int .i64 at_2, .int .u32 turn2] 134 (0, 0))]) (Lr := [(b10, .cells #[.int .i64 n, .slice none 0 0] 24 (0, 0)), (b1, .cells #[.int .i64 0, .slice none 0 0] 24 (0, 0))]) rfl Try.call49 rfl rfl rfl (((fC fO).trans (pC pR))) (oyezkit_Bell_Strike_w h_metal h13) ?_; rintro _ F15 _ hF16 hd18 hn17 ⟨rfl, rfl⟩
 replace h_metal := h_metal.mono (iE_ok _) hF16
 refine shO_L (lb (ln rfl)) ?_
 refine oa rfl rfl (nsr (oa rfl rfl (shO_nil ?_)))
 obtain ⟨b_at, b_turn, t_plots, h25, r26⟩ := b3_ok r14; clear r14
 refine shW_join (fun e1 F1 L1 => ∃ (a19 : Option Addr) (n23 : Nat) (c20 : Nat) (Lb21 : LH), FExt F15 F1 ∧ L1 = ((b_b, .cells #[.slice metal_a metal.length metal_c, .int .i64 b_at, .int .u32 b_turn] 134 (0, 0)) :: ((b10, .cells #[.int .i64 n, .slice a19 n23 c20] 24 (0, 0)) :: ((b1, .cells #[.int .i64 0, .slice none 0 0] 24 (0, 0)) :: (Lb21 ++ [])))) ∧ e1.sub [(0, .pointer (some ⟨b_b, 0, none⟩)), (4, .pointer (some ⟨b1, 0, none⟩)), (5, .pointer (some ⟨b10, 0, none⟩))] ∧ SlR K.w0.heap.size 73 1 (iE .i64) F1 a19 n23 c20 t_plots Lb21) ?_ ?_
 · clear r26
   refine wsr (om rfl rfl ?_)
   refine ov (v_fieldAddr fa_24_0 rfl) rfl ?_
   refine ov (v_load Try.isAgg3 rfl (Has.own 1 rfl) rfl) rfl ?_
   obtain ⟨g27, r28⟩ := gd_ok h25; clear h25
   refine ov (v_mul rfl rfl g27) rfl ?_
   refine om rfl rfl (shO_nil ?_)
   refine shW_block ?_
   obtain ⟨g35, r36⟩ := gd_ok r28; clear r28
   refine shW_lp (fun fu1 e1 F1 L1 => ∃ (k : Int), Ctr 0 (n2 * n) k fu1 ∧ ∃ (b_at2 : Int) (b_turn2 : Int) (t_plots2 : List Int) (left_ : Int) (a29 : Option Addr) (n33 : Nat) (c30 : Nat) (Lb31 : LH), oyezlaw01_Made_l1 metal fu1 b_at2 b_turn2 t_plots2 left_ = some (b_at, b_turn, t_plots) ∧ FExt F15 F1 ∧ L1 = ((b_b, .cells #[.slice metal_a metal.length metal_c, .int .i64 b_at2, .int .u32 b_turn2] 134 (0, 0)) :: ((b10, .cells #[.int .i64 n, .slice a29 n33 c30] 24 (0, 0)) :: ((b1, .cells #[.int .i64 0, .slice none 0 0] 24 (0, 0)) :: (Lb31 ++ [])))) ∧ e1.sub [(0, .pointer (some ⟨b_b, 0, none⟩)), (4, .pointer (some ⟨b1, 0, none⟩)), (5, .pointer (some ⟨b10, 0, none⟩)), (7, .int .i64 left_), (22, .int .i64 (n2 * n)), (23, .int .i64 k)] ∧ SlR K.w0.heap.size 73 1 (iE .i64) F1 a29 n33 c30 t_plots2 Lb31) _ (m0 (kc (kc (kc (ke kr)))) ⟨_, Ctr.start _ _, at_3, turn3, [], 10, none, 0, 0, [], r36, FExt.refl _, rfl, (sc rfl (sc rfl (sc rfl (sc rfl (sc rfl (sc rfl (sn _))))))), SlR.nil _ _ _ _ _⟩) ?_
   rintro fu1 e1 F41 _ ⟨k, hk37, b_at2, b_turn2, t_plots2, left_, a29, n33, c30, Lb31, r39, hF42, rfl, he40, hz32⟩
   refine shW_env _ he40 ?_; clear he40
   replace h_metal := h_metal.mono (iE_ok _) hF42
   refine wsr ?_
   refine ov (v_lssK rfl rfl) rfl ?_
   refine shO_nil (shW_seq ?_)
   refine shW_condP rfl (fun c44 => ?_) (fun c44 => ?_)
   · obtain ⟨fu1, rfl, hk45⟩ := Ctr.succ hk37 c44
     rw [oyezlaw01_Made_l1] at r39
     refine shW_skip (shW_seq ?_)
     refine shW_block ?_
     refine wsr ?_
     refine o_buildSlice (cs := #[.int .i64 0, .int .i64 0, .int .i64 0, .int .i64 1, .int .i64 1, .int .i64 2]) rfl rfl (buildSlice_all slt_26 [.int .i64 0, .int .i64 0, .int .i64 0, .int .i64 1, .int .i64 1, .int .i64 2] rfl (by decide) (by simp [Value.cells]) (by decide)) ?_; intro b46 hb46
     refine om rfl rfl ?_
     obtain ⟨n3, at_4, turn4, h47, r48⟩ := b3_ok r39; clear r39
     refine o_callG (Lb := [(b_b, .cells #[.slice metal_a metal.length metal_c, .int .i64 b_at2, .int .u32 b_turn2] 134 (0, 0))]) (Lr := (b46, .cells #[.int .i64 0, .int .i64 0, .int .i64 0, .int .i64 1, .int .i64 1, .int .i64 2] 3 (0, 0)) :: ((b10, .cells #[.int .i64 n, .slice a29 n33 c30] 24 (0, 0)) :: ((b1, .cells #[.int .i64 0, .slice none 0 0] 24 (0, 0)) :: (Lb31 ++ [])))) rfl Try.call48 rfl rfl rfl (((fC fO).trans (pC pR))) (oyezkit_Bell_Stroke_w h_metal h47) ?_; rintro _ F49 _ hF50 hd52 hn51 ⟨rfl, rfl⟩
     replace h_metal := h_metal.mono (iE_ok _) hF50
     replace hz32 := hz32.mono (iE_ok _) hF50
     refine shO_L (lb (ln rfl)) ?_
     refine shO_freeze 1 rfl hb46 ?_; intro F53 hF54 hz55
     refine shO_L (L' := (b_b, .cells #[.slice metal_a metal.length metal_c, .int .i64 at_4, .int .u32 turn4] 134 (0, 0)) :: ((b10, .cells #[.int .i64 n, .slice a29 n33 c30] 24 (0, 0)) :: ((b1, .cells #[.int .i64 0, .slice none 0 0] 24 (0, 0)) :: (Lb31 ++ [])))) rfl ?_
     replace h_metal := h_metal.mono (iE_ok _) hF54
     replace hz32 := hz32.mono (iE_ok _) hF54
     have h56 : RowR 1 (iE .i64) F53 (some ⟨b46, 0, none⟩) 6 [0, 0, 0, 1, 1, 2] := RowR.of_block (iE_ok _) (vss := [[.int .i64 0], [.int .i64 0], [.int .i64 0], [.int .i64 1], [.int .i64 1], [.int .i64 2]]) (xs := [0, 0, 0, 1, 1, 2]) hz55 (.cons rfl (.cons rfl (.cons rfl (.cons rfl (.cons rfl (.cons rfl .nil)))))) rfl (by simp [maxLen])
     obtain ⟨x, g57, hx58, r59⟩ := ix_ok r48; clear r48
     obtain ⟨b60, o61, c62, vs63, ha64, hs65, hle66, rfl, hl67, hc68⟩ := RowR.at (iE_ok _) h56 ((b_b, .cells #[.slice metal_a metal.length metal_c, .int .i64 at_4, .int .u32 turn4] 134 (0, 0)) :: ((b10, .cells #[.int .i64 n, .slice a29 n33 c30] 24 (0, 0)) :: ((b1, .cells #[.int .i64 0, .slice none 0 0] 24 (0, 0)) :: (Lb31 ++ [])))) g57.1 hx58
     refine ov (v_indexO Try.underlying26 Try.sizeOf3 rfl ha64 rfl g57) rfl ?_
     refine ov (v_load Try.isAgg3 rfl hs65 (hc68 0 (by decide))) rfl ?_
     refine oa rfl rfl (shO_nil ?_)
     obtain ⟨left_2, p, h69, r70⟩ := b2_ok r59; clear r59
     refine shW_join (fun e1 F1 L1 => F53 = F1 ∧ L1 = ((b_b, .cells #[.slice metal_a metal.length metal_c, .int .i64 at_4, .int .u32 turn4] 134 (0, 0)) :: ((b10, .cells #[.int .i64 n, .slice a29 n33 c30] 24 (0, 0)) :: ((b1, .cells #[.int .i64 0, .slice none 0 0] 24 (0, 0)) :: (Lb31 ++ [])))) ∧ e1.sub [(0, .pointer (some ⟨b_b, 0, none⟩)), (4, .pointer (some ⟨b1, 0, none⟩)), (5, .pointer (some ⟨b10, 0, none⟩)), (7, .int .i64 left_2), (8, .int .i64 p), (22, .int .i64 (n2 * n)), (23, .int .i64 k)]) ?_ ?_
     · clear r70
       refine wsr (om rfl rfl ?_)
       refine ov (v_eql rfl rfl) rfl ?_
       refine shO_nil ?_
       refine shW_condP rfl (fun c71 => ?_) (fun c71 => ?_)
       · have r72 := ite_t h69 c71; clear h69
         refine wsr (om rfl rfl ?_)
         obtain ⟨g73, r74⟩ := gd_ok r72; clear r72
         refine ov (v_sub rfl rfl g73) rfl ?_
         refine oa rfl rfl (nsr (om rfl rfl ?_))
         refine ov (v_lssK rfl rfl) rfl ?_
         refine shO_nil ?_
         refine shW_condP rfl (fun c75 => ?_) (fun c75 => ?_)
         · have r76 := ite_t r74 c75; clear r74
           refine shW_region (oa rfl rfl (shO_nil ?_))
           obtain ⟨rfl, rfl⟩ := inj2 r76
           exact mi kr ⟨rfl, rfl, (sc rfl (sc rfl (sc rfl (sc rfl (sc rfl (sc rfl (sc rfl (sn _))))))))⟩
         have r77 := ite_f r74 c75; clear r74
         refine shW_skip ?_
         obtain ⟨rfl, rfl⟩ := inj2 r77
         exact mi kr ⟨rfl, rfl, (sc rfl (sc rfl (sc rfl (sc rfl (sc rfl (sc rfl (sc rfl (sn _))))))))⟩
       have r78 := ite_f h69 c71; clear h69
       refine shW_skip ?_
       obtain ⟨rfl, rfl⟩ := inj2 r78
       exact mi kr ⟨rfl, rfl, (sc rfl (sc rfl (sc rfl (sc rfl (sc rfl (sc rfl (sc rfl (sn _))))))))⟩
     rintro e1 _ _ ⟨rfl, rfl, he79⟩
     refine shW_env _ he79 ?_; clear he79
     refine shW_region ?_
     refine ov (v_fieldAddr fa_24_1 rfl) rfl ?_
     refine ov (v_load Try.isAgg22 rfl (Has.own 1 rfl) rfl) rfl ?_
     refine om rfl rfl ?_
     refine o_buildSlice (cs := #[.int .i64 p]) rfl rfl (buildSlice_all slt_22 [.int .i64 p] rfl (by decide) (by simp [Value.cells]) (by decide)) ?_; intro b80 hb80
     obtain ⟨t, h81, g82, r83⟩ := ap_ok r70; clear r70
     refine o_appZ (xs := t_plots2) (ys := [p]) (zs := t) rfl slt_22 rfl rfl (Nat.le_refl _) (fun _ => .c (.c (.c (.c .h)))) hz32 (SrcR.box (vss := [[.int .i64 p]]) (ys := [p]) 0 rfl (iE_ok _) (.cons rfl .nil) rfl rfl) h81 g82 (by decide) ?_; intro a84 n88 c85 Lb86 hz87
     refine kO (kd kr) ?_
     refine ov (v_fieldAddr fa_24_1 rfl) rfl ?_
     refine o_store (i := 1) Try.sizeOf22 rfl rfl rfl rfl (Nat.le_of_ble_eq_true rfl) ?_
     refine shO_L (L' := (b_b, .cells #[.slice metal_a metal.length metal_c, .int .i64 at_4, .int .u32 turn4] 134 (0, 0)) :: ((b10, .cells #[.int .i64 n, .slice a84 n88 c85] 24 (0, 0)) :: ((b1, .cells #[.int .i64 0, .slice none 0 0] 24 (0, 0)) :: (Lb86 ++ [])))) rfl ?_
     refine shO_nil (inBlock_n (id := 1) (shW_region ?_))
     refine ov (v_add rfl rfl (Ctr.r64 hk37 c44 g35)) rfl ?_
     refine om rfl rfl (shO_nil ?_)
     exact le kr ⟨_, hk45, at_4, turn4, t, left_2, a84, n88, c85, Lb86, r83, ((hF42.trans hF50).trans hF54), rfl, (sc rfl (sc rfl (sc rfl (sc rfl (sc rfl (sc rfl (sn _))))))), hz87⟩
   obtain rfl := Ctr.zero hk37 c44
   rw [oyezlaw01_Made_l1] at r39
   refine shW_exit (andThen_exit (andThen_exit ?_))
   refine inBlock_exit ?_
   obtain ⟨rfl, rfl, rfl⟩ := inj3 r39
   exact mi kr ⟨a29, n33, c30, Lb31, hF42, rfl, (sc rfl (sc rfl (sc rfl (sn _)))), hz32⟩
 rintro e1 F91 _ ⟨a19, n23, c20, Lb21, hF92, rfl, he90, hz22⟩
 refine shW_env _ he90 ?_; clear he90
 replace h_metal := h_metal.mono (iE_ok _) hF92
 refine shW_seq ?_
 refine shW_drawM [(.still, 0), (.still, 1), (.still, 2), (.still, 3), (.still, 4), (.still, 5), (.still, 6), (.seq, 7), (.still, 8), (.seq, 9)] (by kernel_rfl) (by kernel_rfl) (trivial) (by rfl) (by kernel_rfl) ?_
 refine shM_v (v := .pointer (some ⟨b10, 1, none⟩)) (ek := [(5, .pointer (some ⟨b10, 0, none⟩))]) (Ls := []) rfl rfl rfl rfl ((sc rfl (sn _))) (by kernel_rfl) sm (fun H F' L' hF' hL' => v_fieldAddr fa_24_1 rfl) ?_
 refine shM_v (v := .slice a19 n23 c20) (ek := [(43, .pointer (some ⟨b10, 1, none⟩))]) (Ls := [(b10, .cells #[.int .i64 n, .slice a19 n23 c20] 24 (0, 0))]) rfl rfl rfl rfl ((sc rfl (sn _))) (by kernel_rfl) (s0 (s1 (s2 (s1 (s3 sr))))) (fun H F' L' hF' hL' => v_load Try.isAgg22 rfl ((Has.own 0 rfl).ext hF' hL') rfl) ?_
 refine shM_v (v := .pointer (some ⟨b_b, 0, none⟩)) (ek := [(0, .pointer (some ⟨b_b, 0, none⟩))]) (Ls := []) rfl rfl rfl rfl ((sc rfl (sn _))) (by kernel_rfl) sm (fun H F' L' hF' hL' => v_move rfl) ?_
 refine shM_v (v := .pointer (some ⟨b10, 1, none⟩)) (ek := [(5, .pointer (some ⟨b10, 0, none⟩))]) (Ls := []) rfl rfl rfl rfl ((sc rfl (sn _))) (by kernel_rfl) sm (fun H F' L' hF' hL' => v_fieldAddr fa_24_1 rfl) ?_
 refine shM_v (v := .slice a19 n23 c20) (ek := [(46, .pointer (some ⟨b10, 1, none⟩))]) (Ls := [(b10, .cells #[.int .i64 n, .slice a19 n23 c20] 24 (0, 0))]) rfl rfl rfl rfl ((sc rfl (sn _))) (by kernel_rfl) (s0 (s1 (s2 (s1 (s3 sr))))) (fun H F' L' hF' hL' => v_load Try.isAgg22 rfl ((Has.own 0 rfl).ext hF' hL') rfl) ?_
 refine shM_v (v := .int .i64 (t_plots.length : Int)) (ek := [(47, .slice a19 n23 c20)]) (Ls := []) rfl rfl rfl rfl ((sc rfl (sn _))) (by kernel_rfl) sm (fun H F' L' hF' hL' => (v_lenS Try.underlying22 rfl).i (SlR.lenI hz22)) ?_
 obtain ⟨g93, r94⟩ := gd_ok r26; clear r26
 refine shM_v (v := .int .i64 ((t_plots.length : Int) - 1)) (ek := [(48, .int .i64 (t_plots.length : Int))]) (Ls := []) rfl rfl rfl rfl ((sc rfl (sn _))) (by kernel_rfl) sm (fun H F' L' hF' hL' => v_sub rfl rfl g93) ?_
 refine ⟨_, [(45, .pointer (some ⟨b_b, 0, none⟩)), (49, .int .i64 ((t_plots.length : Int) - 1))], rfl, rfl, (sc rfl (sc rfl (sn _))), by kernel_rfl, ?_⟩; intro H
 obtain ⟨n4, at_5, turn5, h95, r96⟩ := b3_ok r94; clear r94
 refine o_callG (Lb := [(b_b, .cells #[.slice metal_a metal.length metal_c, .int .i64 b_at, .int .u32 b_turn] 134 (0, 0))]) (Lr := (b10, .cells #[.int .i64 n, .slice a19 n23 c20] 24 (0, 0)) :: ((b1, .cells #[.int .i64 0, .slice none 0 0] 24 (0, 0)) :: (Lb21 ++ []))) rfl Try.call48 rfl rfl rfl (pR) (oyezkit_Bell_Stroke_w h_metal h95) ?_; rintro _ F97 _ hF98 hd100 hn99 ⟨rfl, rfl⟩
 replace h_metal := h_metal.mono (iE_ok _) hF98
 replace hz22 := hz22.mono (iE_ok _) hF98
 refine shO_L (lb (ln rfl)) ?_
 refine shO_nil ⟨_, rfl, hF98, [1, 0], by kernel_rfl, .inr (fun d h => by cases h; rfl), (List.forall_mem_cons.2 ⟨s0 (s1 (s2 (s1 (s3 sr)))), (List.forall_mem_cons.2 ⟨sm, (fun _ h => absurd h List.not_mem_nil)⟩)⟩), ?_⟩
 obtain ⟨x2, g101, hx102, r103⟩ := ix_ok r96; clear r96
 obtain ⟨b104, o105, c106, vs107, ha108, hs109, hle110, rfl, hl111, hc112⟩ := SlR.at (iE_ok _) hz22 (L := Lb21 ++ []) fP g101.1 hx102
 refine shM_v (v := .pointer (some ⟨b104, o105 + (n4 : Int).toNat * 1, none⟩)) (ek := [(44, .slice a19 n23 c20), (50, .int .i64 n4)]) (Ls := []) rfl rfl rfl rfl ((sc rfl (sc rfl (sn _)))) (by kernel_rfl) sm (fun H F' L' hF' hL' => v_indexO Try.underlying22 Try.sizeOf73 rfl ha108 rfl (SlR.idx hz22 g101)) ?_
 refine ⟨_, [(51, .pointer (some ⟨b104, o105 + (n4 : Int).toNat * 1, none⟩))], rfl, rfl, (sc rfl (sn _)), by kernel_rfl, ?_⟩; intro H
 obtain ⟨l, h113, r114⟩ := bv_ok r103; clear r103
 refine o_storeZ (u := 0) Try.sizeOf73 (iE_ok _) rfl ha108 rfl rfl (fun _ => .c (.c (.c .h))) hz22 h113 g101 ?_; intro Lb115 hz116
 refine shO_nil ⟨undef, rfl, FExt.refl _, [], by kernel_rfl, .inl rfl, (fun _ h => absurd h List.not_mem_nil), ?_⟩
 refine shM_nil ?_
 refine wsr ?_
 refine ov (v_loadA (cs := #[.int .i64 n, .slice a19 n23 c20]) Try.isAgg24 Try.sizeOf24 rfl (Has.own 1 rfl) (Nat.le_of_ble_eq_true rfl) rfl) rfl ?_
 refine o_storeA (i := 2) Try.sizeOf24 rfl rfl rfl (by simp [Value.oneCell']) rfl (Nat.le_of_ble_eq_true rfl) ?_
 refine shO_L (L' := (b_b, .cells #[.slice metal_a metal.length metal_c, .int .i64 at_5, .int .u32 turn5] 134 (0, 0)) :: ((b10, .cells #[.int .i64 n, .slice a19 n23 c20] 24 (0, 0)) :: ((b1, .cells #[.int .i64 n, .slice a19 n23 c20] 24 (0, 0)) :: (Lb115 ++ [])))) rfl ?_
 refine shO_nil ?_
 refine kW (kf (fC (fC fO)) (kc (kd kr))) ?_
 refine shW_ret ?_
 refine q_res1 Try.results40 (res_cellA (cs := #[.int .i64 n, .slice a19 n23 c20]) Try.isAgg24 Try.sizeOf24 rfl (Has.own 0 rfl) (Nat.le_of_ble_eq_true rfl) rfl) (s1 (s2 (s4 sr))) ?_
 obtain ⟨rfl, rfl, rfl, rfl⟩ := inj4 r114
 exact ⟨_, _, _, _, rfl, rfl, hz116.any⟩


set_option maxHeartbeats 1000000 in
theorem oyezlaw01_Aired_w {b_b : Nat} {metal_a : Option Addr} {metal_c : Nat} {metal : List Int} {at_ : Int} {turn : Int} {F : FS} (h_metal : RowR 1 (iE .u8) F metal_a metal_c metal) {r : Int} {r2 : Int} {r3 : Int} {r4 : Int} (hr : oyezlaw01_Aired metal at_ turn = some (r, r2, r3, r4)) :
    SH.Spec Try.prog 41 #[.pointer (some ⟨b_b, 0, none⟩)] F [(b_b, .cells #[.slice metal_a metal.length metal_c, .int .i64 at_, .int .u32 turn] 134 (0, 0))] fun _ L' v => v = .agg #[.int .i64 r, .int .i64 r2] ∧ L' = [(b_b, .cells #[.slice metal_a metal.length metal_c, .int .i64 r3, .int .u32 r4] 134 (0, 0))] := by
 refine spec_of_shW (args := [.pointer (some ⟨b_b, 0, none⟩)]) Try.func41 rfl Try.ntmps41 (Nat.le_of_ble_eq_true rfl) ?_
 intro K _ _; rw [oyezlaw01_Aired] at hr
 refine wsr ?_
 refine o_alloc rfl Try.zeroValue48 ?_; intro b1 hb1
 refine nsr (om rfl rfl ?_)
 obtain ⟨n, at_2, turn2, h2, r5⟩ := b3_ok hr; clear hr
 refine o_callG (Lb := [(b_b, .cells #[.slice metal_a metal.length metal_c, .int .i64 at_, .int .u32 turn] 134 (0, 0))]) (Lr := [(b1, .cells #[.int .i64 0, .int .i64 0] 48 (0, 0))]) rfl Try.call48 rfl rfl rfl (((fC fO).trans (pC pR))) (oyezkit_Bell_Stroke_w h_metal h2) ?_; rintro _ F6 _ hF7 hd9 hn8 ⟨rfl, rfl⟩
 replace h_metal := h_metal.mono (iE_ok _) hF7
 refine shO_L (lb (ln rfl)) ?_
 refine om rfl rfl ?_
 obtain ⟨n2, at_3, turn3, h10, r11⟩ := b3_ok r5; clear r5
 refine o_callG (Lb := [(b_b, .cells #[.slice metal_a metal.length metal_c, .int .i64 at_2, .int .u32 turn2] 134 (0, 0))]) (Lr := [(b1, .cells #[.int .i64 0, .int .i64 0] 48 (0, 0))]) rfl Try.call49 rfl rfl rfl (pR) (oyezkit_Bell_Strike_w h_metal h10) ?_; rintro _ F12 _ hF13 hd15 hn14 ⟨rfl, rfl⟩
 replace h_metal := h_metal.mono (iE_ok _) hF13
 refine shO_L (lb (ln rfl)) ?_
 refine ov (v_build (v := .agg #[.int .i64 n, .int .i64 n2]) rfl (by intro w; kernel_rfl)) rfl ?_
 refine o_storeA (i := 1) Try.sizeOf48 rfl rfl rfl (by simp [Value.oneCell']) rfl (Nat.le_of_ble_eq_true rfl) ?_
 refine shO_L (L' := [(b_b, .cells #[.slice metal_a metal.length metal_c, .int .i64 at_3, .int .u32 turn3] 134 (0, 0)), (b1, .cells #[.int .i64 n, .int .i64 n2] 48 (0, 0))]) rfl ?_
 refine shO_nil ?_
 refine kW (kf (fC fO) kr) ?_
 refine shW_ret ?_
 refine q_res1 Try.results41 (res_cellA (cs := #[.int .i64 n, .int .i64 n2]) Try.isAgg48 Try.sizeOf48 rfl (Has.own 0 rfl) (Nat.le_of_ble_eq_true rfl) rfl) (s1 (s2 sr)) ?_
 obtain ⟨rfl, rfl, rfl, rfl⟩ := inj4 r11
 exact ⟨rfl, rfl⟩


set_option maxHeartbeats 1000000 in
theorem oyezlaw01_streets_w {wide : Int} {plots_a : Option Addr} {plots_c : Nat} {plots : List Int} {F : FS} (h_plots : RowR 1 (iE .i64) F plots_a plots_c plots) {r : List Int} (hr : oyezlaw01_streets wide plots = some r) :
    SH.Spec Try.prog 42 #[.agg #[.int .i64 wide, .slice plots_a plots.length plots_c]] F [] fun F' L' v => ∃ (ra : Option Addr) (rn : Nat) (rc : Nat) (rL : LH), v = .slice ra rn rc ∧ L' = rL ++ [] ∧ SlR 0 3 1 (iE .i64) F' ra rn rc r rL := by
 refine spec_of_shW (args := [.agg #[.int .i64 wide, .slice plots_a plots.length plots_c]]) Try.func42 rfl Try.ntmps42 (Nat.le_of_ble_eq_true rfl) ?_
 intro K _ _; rw [oyezlaw01_streets] at hr
 refine wsr ?_
 refine o_box rfl rfl ?_; intro b1 hb1
 refine oa rfl rfl (nsr (oa rfl rfl (shO_nil ?_)))
 obtain ⟨out, h8, r9⟩ := b1_ok hr; clear hr
 refine shW_join (fun e1 F1 L1 => ∃ (a2 : Option Addr) (n6 : Nat) (c3 : Nat) (Lb4 : LH), F = F1 ∧ L1 = (Lb4 ++ []) ∧ e1.sub [(3, .slice a2 n6 c3)] ∧ SlR K.w0.heap.size 3 1 (iE .i64) F1 a2 n6 c3 out Lb4) ?_ ?_
 · clear r9
   refine wsr ?_
   refine ov (v_fieldAddr fa_24_1 rfl) rfl ?_
   refine ov (v_load Try.isAgg22 rfl (Has.own 0 rfl) rfl) rfl ?_
   refine ov (v_lenS Try.underlying22 rfl) rfl ?_
   refine om rfl rfl (shO_nil ?_)
   refine shW_block ?_
   refine kW kn ?_
   refine shW_lp (fun fu1 e1 F1 L1 => ∃ (tl : List Int) (k : Int), tl.length = fu1 ∧ Lst plots k tl ∧ ∃ (out2 : List Int) (a10 : Option Addr) (n14 : Nat) (c11 : Nat) (Lb12 : LH), oyezlaw01_streets_l1 tl k out2 = some out ∧ F = F1 ∧ L1 = (Lb12 ++ []) ∧ e1.sub [(3, .slice a10 n14 c11), (7, .slice plots_a plots.length plots_c), (8, .int .i64 (plots.length : Int)), (9, .int .i64 k)] ∧ SlR K.w0.heap.size 3 1 (iE .i64) F1 a10 n14 c11 out2 Lb12) _ (m0 (ke kr) ⟨_, _, rfl, Lst.start _, [], none, 0, 0, [], h8, rfl, rfl, (sc rfl (sc rfl (sc rfl (sc rfl (sn _))))), SlR.nil _ _ _ _ _⟩) ?_
   rintro fu1 e1 _ _ ⟨tl, k, hn17, hk16, out2, a10, n14, c11, Lb12, r18, rfl, rfl, he19, hz13⟩
   refine shW_env _ he19 ?_; clear he19
   refine wsr ?_
   refine ov (v_lssK rfl rfl) rfl ?_
   refine shO_nil (shW_seq ?_)
   refine shW_condP rfl (fun c21 => ?_) (fun c21 => ?_)
   · obtain ⟨x, tl2, rfl, hx23, g24, hk22⟩ := Lst.succ hk16 c21
     rw [oyezlaw01_streets_l1] at r18
     refine shW_skip (shW_seq ?_)
     refine shW_block ?_
     refine wsr (om rfl rfl ?_)
     obtain ⟨b25, o26, c27, vs28, ha29, hs30, hle31, rfl, hl32, hc33⟩ := RowR.at (iE_ok _) h_plots (Lb12 ++ []) g24.1 hx23
     refine ov (v_indexO Try.underlying22 Try.sizeOf73 rfl ha29 rfl g24) rfl ?_
     refine ov (v_load Try.isAgg73 rfl hs30 (hc33 0 (by decide))) rfl ?_
     refine oa rfl rfl (oa rfl rfl (nsr (om rfl rfl ?_)))
     refine ov (v_eql rfl rfl) rfl ?_
     refine shO_nil ?_
     refine shW_condP rfl (fun c34 => ?_) (fun c34 => ?_)
     · have r35 := ite_t r18 c34; clear r18
       refine shW_region (om rfl rfl (om rfl rfl ?_))
       refine o_buildSlice (cs := #[.int .i64 k]) rfl rfl (buildSlice_all slt_26 [.int .i64 k] rfl (by decide) (by simp [Value.cells]) (by decide)) ?_; intro b36 hb36
       obtain ⟨out3, h37, g38, r39⟩ := ap_ok r35; clear r35
       refine o_appZ (xs := out2) (ys := [k]) (zs := out3) rfl slt_26 rfl rfl (Nat.le_refl _) (fun _ => .c .h) hz13 (SrcR.box (vss := [[.int .i64 k]]) (ys := [k]) 0 rfl (iE_ok _) (.cons rfl .nil) rfl rfl) h37 g38 (by decide) ?_; intro a40 n44 c41 Lb42 hz43
       refine kO (kd kr) ?_
       refine oa rfl rfl (shO_nil (inBlock_n (id := 1) (shW_region ?_)))
       refine ov (v_add rfl rfl (Lst.r64 hk16 c21 (RowR.lt h_plots))) rfl ?_
       refine om rfl rfl (shO_nil ?_)
       subst hn17; exact le kr ⟨_, _, rfl, hk22, out3, a40, n44, c41, Lb42, r39, rfl, rfl, (sc rfl (sc rfl (sc rfl (sc rfl (sn _))))), hz43⟩
     have r46 := ite_f r18 c34; clear r18
     refine shW_skip (inBlock_n (id := 1) (shW_region ?_))
     refine ov (v_add rfl rfl (Lst.r64 hk16 c21 (RowR.lt h_plots))) rfl ?_
     refine om rfl rfl (shO_nil ?_)
     subst hn17; exact le kr ⟨_, _, rfl, hk22, out2, a10, n14, c11, Lb12, r46, rfl, rfl, (sc rfl (sc rfl (sc rfl (sc rfl (sn _))))), hz13⟩
   obtain rfl := Lst.zero hk16 c21
   rw [oyezlaw01_streets_l1] at r18
   refine shW_exit (andThen_exit (andThen_exit ?_))
   refine inBlock_exit ?_
   obtain rfl := inj1 r18
   exact mi kr ⟨a10, n14, c11, Lb12, rfl, rfl, (sc rfl (sn _)), hz13⟩
 rintro e1 _ _ ⟨a2, n6, c3, Lb4, rfl, rfl, he47, hz5⟩
 refine shW_env _ he47 ?_; clear he47
 refine wsr (om rfl rfl (oa rfl rfl (shO_nil (shW_ret ?_))))
 refine q_res1 Try.results42 (res_tmp rfl) (sr) ?_
 obtain rfl := inj1 r9
 exact ⟨_, _, _, _, rfl, rfl, hz5.any⟩


set_option maxHeartbeats 1000000 in
theorem hear_Takes_w {wide : Int} {plots_a : Option Addr} {plots_c : Nat} {plots : List Int} {wind : Int} {way_a : Option Addr} {way_c : Nat} {way : List Int} {F : FS} (h_plots : RowR 1 (iE .i64) F plots_a plots_c plots) (h_way : RowR 1 (iE .i64) F way_a way_c way) {r : Int} {r2 : Int} (hr : hear_Takes wide plots wind way = some (r, r2)) :
    SpecV Try.prog 45 #[.agg #[.int .i64 wide, .slice plots_a plots.length plots_c], .int .i64 wind, .slice way_a way.length way_c] F (.tuple #[.int .i64 r, .int .i64 r2]) := by
 refine spec_of_shW (args := [.agg #[.int .i64 wide, .slice plots_a plots.length plots_c], .int .i64 wind, .slice way_a way.length way_c]) Try.func45 rfl Try.ntmps45 (Nat.le_of_ble_eq_true rfl) ?_
 intro K _ _; rw [hear_Takes] at hr
 refine wsr ?_
 refine o_box rfl rfl ?_; intro b1 hb1
 refine oa rfl rfl (oa rfl rfl (nsr ?_))
 refine ov (v_loadA (cs := #[.int .i64 wide, .slice plots_a plots.length plots_c]) Try.isAgg24 Try.sizeOf24 rfl (Has.own 0 rfl) (Nat.le_of_ble_eq_true rfl) rfl) rfl ?_
 refine om rfl rfl ?_
 obtain ⟨d, n, h2, r3⟩ := b2_ok hr; clear hr
 refine o_call0 rfl Try.call101 rfl rfl rfl (hear_opened_w h_plots h2) ?_; rintro _ F4 _ hF5 hn6 ⟨v8, rfl, rfl, hp9⟩
 replace h_plots := h_plots.mono (iE_ok _) hF5
 replace h_way := h_way.mono (iE_ok _) hF5
 refine shO_L (ln rfl) ?_
 refine om rfl rfl (ox rfl rfl rfl (ox rfl rfl rfl (oa rfl rfl (oa rfl rfl (shO_nil (shW_seq ?_))))))
 refine shW_block ?_
 refine wsr (om rfl rfl ?_)
 refine ov (v_neq rfl rfl) rfl ?_
 refine oa rfl rfl (shO_nil ?_)
 refine shW_condP rfl (fun c10 => ?_) (fun c10 => ?_)
 · have r11 := ite_t r3 c10; clear r3
   refine wsr (om rfl rfl (oa rfl rfl (oa rfl rfl (shO_nil ?_))))
   refine kW kn ?_
   refine shW_ret (inBlock_ret (andThen_ret ?_))
   refine q_res2 Try.results45 (res_tmp rfl) (res_tmp rfl) (sr) ?_
   obtain ⟨rfl, rfl⟩ := inj2 r11
   exact rfl
 have r12 := ite_f r3 c10; clear r3
 refine wsr (om rfl rfl ?_)
 refine ov (v_lenS Try.underlying26 rfl) rfl ?_
 refine ov (v_eql rfl rfl) rfl ?_
 refine oa rfl rfl (shO_nil ?_)
 refine shW_condP rfl (fun c13 => ?_) (fun c13 => ?_)
 · have r14 := ite_t r12 c13; clear r12
   refine wsr (oa rfl rfl (oa rfl rfl (shO_nil ?_)))
   refine kW kn ?_
   refine shW_ret (inBlock_ret (andThen_ret ?_))
   refine q_res2 Try.results45 (res_tmp rfl) (res_tmp rfl) (sr) ?_
   obtain ⟨rfl, rfl⟩ := inj2 r14
   exact rfl
 have r15 := ite_f r12 c13; clear r12
 refine wsd (by kernel_rfl) (by kernel_rfl) (by kernel_rfl) ?_
 refine qv (v_loadA (cs := #[.int .i64 wide, .slice plots_a plots.length plots_c]) Try.isAgg24 Try.sizeOf24 rfl (Has.own 0 rfl) (Nat.le_of_ble_eq_true rfl) rfl) rfl ?_
 refine qm rfl rfl ?_
 obtain ⟨x, g16, hx17, r18⟩ := ix_ok r15; clear r15
 obtain ⟨b19, o20, c21, vs22, ha23, hs24, hle25, rfl, hl26, hc27⟩ := RowR.at (iE_ok _) h_way ([(b1, .cells #[.int .i64 wide, .slice plots_a plots.length plots_c] 24 (0, 0))]) g16.1 hx17
 refine qv (v_indexO Try.underlying26 Try.sizeOf3 rfl ha23 rfl g16) rfl ?_
 refine qv (v_load Try.isAgg3 rfl hs24 (hc27 0 (by decide))) rfl ?_
 obtain ⟨n2, h28, r29⟩ := b1_ok r18; clear r18
 refine shQ_callV rfl Try.call99 rfl rfl rfl (hear_Town_is_w h_plots h28) ?_
 refine qv (v_neq rfl rfl) rfl ?_
 refine qa rfl rfl (shQ_nil ?_)
 refine shW_condP rfl (fun c30 => ?_) (fun c30 => ?_)
 · have r31 := ite_t r29 c30; clear r29
   refine wsr (oa rfl rfl (oa rfl rfl (shO_nil ?_)))
   refine kW kn ?_
   refine shW_ret (inBlock_ret (andThen_ret ?_))
   refine q_res2 Try.results45 (res_tmp rfl) (res_tmp rfl) (sr) ?_
   obtain ⟨rfl, rfl⟩ := inj2 r31
   exact rfl
 have r32 := ite_f r29 c30; clear r29
 refine shW_skip (inBlock_n (id := 0) (wsr (oa rfl rfl (shO_nil ?_))))
 refine shW_join (fun e1 F1 L1 => ∃ (sum : Int), hear_Takes_j1 sum = some (r, r2) ∧ FExt F4 F1 ∧ L1 = [] ∧ e1.sub [(10, .int .i64 sum)]) ?_ ?_
 · refine wsr (om rfl rfl ?_)
   obtain ⟨g33, r34⟩ := gd_ok r32; clear r32
   obtain ⟨way2, h35, r36⟩ := bv_ok r34; clear r34
   obtain ⟨a37, c38, h39, hvh39⟩ := RowR.slice (iE_ok _) h_way g33 h35
   refine ov ((v_slice (l := 1) (h := (way.length : Int)) Try.underlying26 Try.sizeOf3 rfl (.inr ⟨_, rfl, rfl⟩) (.inl ⟨rfl, rfl⟩) hvh39.1).eq hvh39.2) rfl ?_
   refine ov (v_lenS Try.underlying26 rfl) rfl ?_
   refine om rfl rfl (shO_nil ?_)
   refine shW_block ?_
   refine kW kn ?_
   refine shW_lp (fun fu2 e1 F1 L1 => ∃ (tl : List Int) (k : Int), tl.length = fu2 ∧ Lst way2 k tl ∧ ∃ (sum2 : Int) (v41 : Value), hear_Takes_l2 way d tl k sum2 = some (r, r2) ∧ FExt F4 F1 ∧ L1 = [] ∧ e1.sub [(2, .slice way_a way.length way_c), (8, v41), (10, .int .i64 sum2), (38, .slice a37 way2.length c38), (39, .int .i64 (way2.length : Int)), (40, .int .i64 k)] ∧ PtrR 159 (prE (iE .i64) (prE (slE 1 (iE .i64)) (prE (iE .i64) (prE (iE .i64) bE)))) F1 v41 d) _ (m0 kr ⟨_, _, rfl, Lst.start _, 0, v8, r36, FExt.refl _, rfl, (sc rfl (sc rfl (sc rfl (sc rfl (sc rfl (sc rfl (sn _))))))), hp9⟩) ?_
   rintro fu2 e1 F47 _ ⟨tl, k, hn44, hk43, sum2, v41, r45, hF48, rfl, he46, hp42⟩
   refine shW_env _ he46 ?_; clear he46
   replace h_plots := h_plots.mono (iE_ok _) hF48
   replace h_way := h_way.mono (iE_ok _) hF48
   replace hp9 := hp9.mono (prE_ok (iE_ok _) (prE_ok (slE_ok (iE_ok _)) (prE_ok (iE_ok _) (prE_ok (iE_ok _) bE_ok)))) hF48
   replace h39 := h39.mono (iE_ok _) hF48
   refine wsr ?_
   refine ov (v_lssK rfl rfl) rfl ?_
   refine shO_nil (shW_seq ?_)
   refine shW_condP rfl (fun c50 => ?_) (fun c50 => ?_)
   · obtain ⟨x2, tl2, rfl, hx52, g53, hk51⟩ := Lst.succ hk43 c50
     rw [hear_Takes_l2] at r45
     refine shW_skip ?_
     refine shW_join (fun e1 F1 L1 => ∃ (sum3 : Int) (v54 : Value), hear_Takes_j3 k (hear_Takes_l2 way d tl2) sum3 = some (r, r2) ∧ FExt F47 F1 ∧ L1 = [] ∧ e1.sub [(2, .slice way_a way.length way_c), (8, v54), (10, .int .i64 sum3), (38, .slice a37 way2.length c38), (39, .int .i64 (way2.length : Int)), (40, .int .i64 k)] ∧ PtrR 159 (prE (iE .i64) (prE (slE 1 (iE .i64)) (prE (iE .i64) (prE (iE .i64) bE)))) F1 v54 d) ?_ ?_
     · refine shW_block ?_
       refine wsr (om rfl rfl ?_)
       obtain ⟨b56, o57, c58, vs59, ha60, hs61, hle62, rfl, hl63, hc64⟩ := RowR.at (iE_ok _) h39 ([]) g53.1 hx52
       refine ov (v_indexO Try.underlying26 Try.sizeOf3 rfl ha60 rfl g53) rfl ?_
       refine ov (v_load Try.isAgg3 rfl hs61 (hc64 0 (by decide))) rfl ?_
       refine o_alloc rfl Try.zeroValue3 ?_; intro b65 hb65
       refine oa rfl rfl ?_
       refine o_store (i := 0) Try.sizeOf3 rfl rfl rfl rfl (Nat.le_of_ble_eq_true rfl) ?_
       refine shO_L (L' := [(b65, .cells #[.int .i64 x2] 3 (0, 0))]) rfl ?_
       refine nsr ?_
       refine o_alloc rfl Try.zeroValue3 ?_; intro b66 hb66
       refine o_store (i := 0) Try.sizeOf3 rfl rfl rfl rfl (Nat.le_of_ble_eq_true rfl) ?_
       refine shO_L (L' := [(b66, .cells #[.int .i64 (-1)] 3 (0, 0)), (b65, .cells #[.int .i64 x2] 3 (0, 0))]) rfl ?_
       refine shO_nil ?_
       obtain ⟨needs, h69, r70⟩ := b1_ok r45; clear r45
       refine shW_join (fun e1 F1 L1 => ∃ (v67 : Value), FExt F47 F1 ∧ L1 = [(b66, .cells #[.int .i64 needs] 3 (0, 0))] ∧ e1.sub [(2, .slice way_a way.length way_c), (8, v67), (10, .int .i64 sum2), (13, .pointer (some ⟨b66, 0, none⟩)), (38, .slice a37 way2.length c38), (39, .int .i64 (way2.length : Int)), (40, .int .i64 k)] ∧ PtrR 159 (prE (iE .i64) (prE (slE 1 (iE .i64)) (prE (iE .i64) (prE (iE .i64) bE)))) F1 v67 d) ?_ ?_
       · clear r70
         refine wsr (om rfl rfl (om rfl rfl (om rfl rfl ?_)))
         obtain ⟨x3, g71, hx72, r73⟩ := ix_ok h69; clear h69
         obtain ⟨b74, o75, c76, vs77, ha78, hs79, hle80, rfl, hl81, hc82⟩ := RowR.at (iE_ok _) h_way ([(b66, .cells #[.int .i64 (-1)] 3 (0, 0)), (b65, .cells #[.int .i64 x2] 3 (0, 0))]) g71.1 hx72
         refine ov (v_indexO Try.underlying26 Try.sizeOf3 rfl ha78 rfl g71) rfl ?_
         refine ov (v_load Try.isAgg3 rfl hs79 (hc82 0 (by decide))) rfl ?_
         obtain ⟨wide2, plots2, down, right_, blows, h83, r84⟩ := b5_ok r73; clear r73
         have h93 := hp42; rw [h83] at h93; obtain ⟨b85, c86, m87, hv88, hz89, ⟨_, _, rfl, rfl, ⟨_, _, rfl, ⟨a90, c91, rfl, h92⟩, ⟨_, _, rfl, rfl, ⟨_, _, rfl, rfl, rfl⟩⟩⟩⟩⟩ := h93; subst hv88
         have hz89 : F47 b85 = some (.cells #[.int .i64 wide2, .slice a90 plots2.length c91, .int .i64 down, .int .i64 right_, .bool blows] 159 m87) := hz89
         obtain ⟨y, h94, r95⟩ := b1_ok r84; clear r84
         refine o_call0 rfl Try.call84 rfl rfl rfl (hear_desk_next_w hz89 h92 h94) ?_; rintro _ F96 _ hF97 hn98 ⟨cp100, rfl, rfl, hit101⟩
         replace h_plots := h_plots.mono (iE_ok _) hF97
         replace h_way := h_way.mono (iE_ok _) hF97
         replace hp9 := hp9.mono (prE_ok (iE_ok _) (prE_ok (slE_ok (iE_ok _)) (prE_ok (iE_ok _) (prE_ok (iE_ok _) bE_ok)))) hF97
         replace h39 := h39.mono (iE_ok _) hF97
         replace hp42 := hp42.mono (prE_ok (iE_ok _) (prE_ok (slE_ok (iE_ok _)) (prE_ok (iE_ok _) (prE_ok (iE_ok _) bE_ok)))) hF97
         replace h92 := h92.mono (iE_ok _) hF97
         replace hz89 := hF97 _ _ hz89
         refine shO_L (ln rfl) ?_
         refine shO_nil ?_
         refine shW_block ?_
         refine shW_rangeFunc (encs := (fun x : Int × Int => #[.int .i64 x.1, .int .i64 x.2])) (xs := y) rfl Try.call123 rfl (fun _ => rfl) hit101 (fun pre F1 L1 => ∃ (tl3 : List (Int × Int)) (needs2 : Int), y = pre ++ tl3 ∧ hear_Takes_l4 x2 tl3 needs2 = some needs ∧ L1 = [(b66, .cells #[.int .i64 needs2] 3 (0, 0)), (b65, .cells #[.int .i64 x2] 3 (0, 0))]) (fun _ _ _ => False) ?_ ?_ ?_ ?_ ?_ ?_
         · rintro pre F1 F2 L1 ⟨tl3, needs2, hs102, r103, rfl⟩ hx; exact ⟨tl3, needs2, hs102, r103, rfl⟩
         · intro c F1 F2 L1 h hx; exact h
         · exact ⟨_, -1, rfl, r95, rfl⟩
         · rintro l104 wr105 Fr106 Xr107 Ha108 Hb109 hnb110 pre x4 tl4 hxs113 F111 _ hF112 ⟨tl3, needs2, hs102, r114, rfl⟩
           obtain rfl := rest_head hs102 hxs113
           rw [hear_Takes_l4] at r114
           replace h_plots := h_plots.mono (iE_ok _) hF112
           replace h_way := h_way.mono (iE_ok _) hF112
           replace hp9 := hp9.mono (prE_ok (iE_ok _) (prE_ok (slE_ok (iE_ok _)) (prE_ok (iE_ok _) (prE_ok (iE_ok _) bE_ok)))) hF112
           replace h39 := h39.mono (iE_ok _) hF112
           replace hp42 := hp42.mono (prE_ok (iE_ok _) (prE_ok (slE_ok (iE_ok _)) (prE_ok (iE_ok _) (prE_ok (iE_ok _) bE_ok)))) hF112
           replace h92 := h92.mono (iE_ok _) hF112
           replace hit101 := hit101.mono hF112
           replace hz89 := hF112 _ _ hz89
           refine shW_env [(2, .slice way_a way.length way_c), (8, .pointer (some ⟨b85, 0, none⟩)), (10, .int .i64 sum2), (12, .pointer (some ⟨b65, 0, none⟩)), (13, .pointer (some ⟨b66, 0, none⟩)), (38, .slice a37 way2.length c38), (39, .int .i64 (way2.length : Int)), (40, .int .i64 k), (50, .func (.func 123) #[] cp100), (51, .int .i64 x4.1), (52, .int .i64 x4.2)] (by exact (sc rfl (sc rfl (sc rfl (sc rfl (sc rfl (sc rfl (sc rfl (sc rfl (sc rfl (sc rfl (sc rfl (sn _))))))))))))) ?_
           refine wsr (oa rfl rfl (shO_nil (shW_region (oa rfl rfl (shO_nil ?_)))))
           refine ⟨rfl, ?_⟩
           refine shW_block ?_
           refine wsr (om rfl rfl ?_)
           refine ov (v_load Try.isAgg3 rfl (Has.own 1 rfl) rfl) rfl ?_
           refine ov (v_eql rfl rfl) rfl ?_
           refine shO_nil ?_
           refine shW_condP rfl (fun c115 => ?_) (fun c115 => ?_)
           · have r116 := ite_t r114 c115; clear r114
             refine shW_region (om rfl rfl ?_)
             refine o_store (i := 0) Try.sizeOf3 rfl rfl rfl rfl (Nat.le_of_ble_eq_true rfl) ?_
             refine shO_L (L' := [(b66, .cells #[.int .i64 x4.2] 3 (0, 0)), (b65, .cells #[.int .i64 x2] 3 (0, 0))]) rfl ?_
             refine shO_nil (inBlock_n (id := 4) ?_)
             refine ⟨[(b66, .cells #[.int .i64 x4.2] 3 (0, 0)), (b65, .cells #[.int .i64 x2] 3 (0, 0))], sr, ?_⟩; exact ⟨_, x4.2, (by rw [hxs113]; simp), r116, rfl⟩
           have r117 := ite_f r114 c115; clear r114
           refine shW_skip (inBlock_n (id := 4) ?_)
           refine ⟨[(b66, .cells #[.int .i64 needs2] 3 (0, 0)), (b65, .cells #[.int .i64 x2] 3 (0, 0))], sr, ?_⟩; exact ⟨_, needs2, (by rw [hxs113]; simp), r117, rfl⟩
         · rintro F118 _ hF119 ⟨tl3, needs2, hs102, r120, rfl⟩
           obtain rfl := rest_nil hs102; rw [hear_Takes_l4] at r120
           replace h_plots := h_plots.mono (iE_ok _) hF119
           replace h_way := h_way.mono (iE_ok _) hF119
           replace hp9 := hp9.mono (prE_ok (iE_ok _) (prE_ok (slE_ok (iE_ok _)) (prE_ok (iE_ok _) (prE_ok (iE_ok _) bE_ok)))) hF119
           replace h39 := h39.mono (iE_ok _) hF119
           replace hp42 := hp42.mono (prE_ok (iE_ok _) (prE_ok (slE_ok (iE_ok _)) (prE_ok (iE_ok _) (prE_ok (iE_ok _) bE_ok)))) hF119
           replace h92 := h92.mono (iE_ok _) hF119
           replace hit101 := hit101.mono hF119
           replace hz89 := hF119 _ _ hz89
           refine inBlock_n (id := 3) ?_
           obtain rfl := inj1 r120
           exact mi (kc kn) ⟨.pointer (some ⟨b85, 0, none⟩), (hF97.trans hF119), rfl, (sc rfl (sc rfl (sc rfl (sc rfl (sc rfl (sc rfl (sc rfl (sn _)))))))), hp42⟩
         intro c F1 L1 hx h; exact h.elim
       rintro e1 F122 _ ⟨v67, hF123, rfl, he121, hp68⟩
       refine shW_env _ he121 ?_; clear he121
       replace h_plots := h_plots.mono (iE_ok _) hF123
       replace h_way := h_way.mono (iE_ok _) hF123
       replace hp9 := hp9.mono (prE_ok (iE_ok _) (prE_ok (slE_ok (iE_ok _)) (prE_ok (iE_ok _) (prE_ok (iE_ok _) bE_ok)))) hF123
       replace h39 := h39.mono (iE_ok _) hF123
       replace hp42 := hp42.mono (prE_ok (iE_ok _) (prE_ok (slE_ok (iE_ok _)) (prE_ok (iE_ok _) (prE_ok (iE_ok _) bE_ok)))) hF123
       refine shW_seq (wsr ?_)
       refine ov (v_load Try.isAgg3 rfl (Has.own 0 rfl) rfl) rfl ?_
       refine ov (v_eql rfl rfl) rfl ?_
       refine shO_nil ?_
       refine shW_condP rfl (fun c124 => ?_) (fun c124 => ?_)
       · have r125 := ite_t r70 c124; clear r70
         refine wsr (oa rfl rfl (oa rfl rfl (shO_nil ?_)))
         refine kW kn ?_
         refine shW_ret (andThen_ret (inBlock_ret (andThen_ret (andThen_ret (inBlock_ret (andThen_ret ?_))))))
         refine q_res2 Try.results45 (res_tmp rfl) (res_tmp rfl) (sr) ?_
         obtain ⟨rfl, rfl⟩ := inj2 r125
         exact rfl
       have r126 := ite_f r70 c124; clear r70
       refine shW_skip (shW_region (om rfl rfl ?_))
       refine ov (v_load Try.isAgg3 rfl (Has.own 0 rfl) rfl) rfl ?_
       obtain ⟨g127, r128⟩ := gd_ok r126; clear r126
       refine ov (v_add rfl rfl g127) rfl ?_
       refine oa rfl rfl (shO_nil (inBlock_n (id := 2) ?_))
       exact mi kn ⟨sum2 + needs, v67, r128, hF123, rfl, (sc rfl (sc rfl (sc rfl (sc rfl (sc rfl (sc rfl (sn _))))))), hp68⟩
     rintro e1 F131 _ ⟨sum3, v54, r129, hF132, rfl, he130, hp55⟩
     refine shW_env _ he130 ?_; clear he130
     replace h_plots := h_plots.mono (iE_ok _) hF132
     replace h_way := h_way.mono (iE_ok _) hF132
     replace hp9 := hp9.mono (prE_ok (iE_ok _) (prE_ok (slE_ok (iE_ok _)) (prE_ok (iE_ok _) (prE_ok (iE_ok _) bE_ok)))) hF132
     replace h39 := h39.mono (iE_ok _) hF132
     replace hp42 := hp42.mono (prE_ok (iE_ok _) (prE_ok (slE_ok (iE_ok _)) (prE_ok (iE_ok _) (prE_ok (iE_ok _) bE_ok)))) hF132
     rw [hear_Takes_j3] at r129
     refine shW_region ?_
     refine ov (v_add rfl rfl (Lst.r64 hk43 c50 (RowR.lt h39))) rfl ?_
     refine om rfl rfl (shO_nil ?_)
     subst hn44; exact le kr ⟨_, _, rfl, hk51, sum3, v54, r129, (hF48.trans hF132), rfl, (sc rfl (sc rfl (sc rfl (sc rfl (sc rfl (sc rfl (sn _))))))), hp55⟩
   obtain rfl := Lst.zero hk43 c50
   rw [hear_Takes_l2] at r45
   refine shW_exit (andThen_exit (andThen_exit ?_))
   refine inBlock_exit ?_
   exact mi kr ⟨sum2, r45, hF48, rfl, (sc rfl (sn _))⟩
 rintro e1 F135 _ ⟨sum, r133, hF136, rfl, he134⟩
 refine shW_env _ he134 ?_; clear he134
 replace h_plots := h_plots.mono (iE_ok _) hF136
 replace h_way := h_way.mono (iE_ok _) hF136
 replace hp9 := hp9.mono (prE_ok (iE_ok _) (prE_ok (slE_ok (iE_ok _)) (prE_ok (iE_ok _) (prE_ok (iE_ok _) bE_ok)))) hF136
 rw [hear_Takes_j1] at r133
 refine wsr (om rfl rfl (oa rfl rfl (oa rfl rfl (shO_nil (shW_ret ?_)))))
 refine q_res2 Try.results45 (res_tmp rfl) (res_tmp rfl) (sr) ?_
 obtain ⟨rfl, rfl⟩ := inj2 r133
 exact rfl


set_option maxHeartbeats 1000000 in
theorem oyezlaw01_HearProved_w {numbers_a : Option Addr} {numbers_c : Nat} {numbers : List Int} {tries_a : Option Addr} {tries_c : Nat} {tries : List Int} {F : FS} (h_numbers : RowR 1 (iE .u8) F numbers_a numbers_c numbers) (h_tries : RowR 1 (iE .u8) F tries_a tries_c tries) {r : Bool} (hr : oyezlaw01_HearProved numbers tries = some r) :
    SpecV Try.prog 8 #[.slice numbers_a numbers.length numbers_c, .slice tries_a tries.length tries_c] F (.bool r) := by
 refine spec_of_shW (args := [.slice numbers_a numbers.length numbers_c, .slice tries_a tries.length tries_c]) Try.func8 rfl Try.ntmps8 (Nat.le_of_ble_eq_true rfl) ?_
 intro K _ _; rw [oyezlaw01_HearProved] at hr
 refine wsr (oa rfl rfl (nsr (om rfl rfl ?_)))
 obtain ⟨metal, at_, turn, h1, r2⟩ := b3_ok hr; clear hr
 refine o_call0 rfl Try.call39 rfl rfl rfl (oyezkit_Hang_w h_numbers h1) ?_; rintro _ F3 _ hF4 hn5 ⟨b7, a8, c9, rfl, rfl, h10⟩
 replace h_numbers := h_numbers.mono (iE_ok _) hF4
 replace h_tries := h_tries.mono (iE_ok _) hF4
 have hb7 := hn5 _ (List.mem_cons_self ..)
 refine shO_L (lb (ln rfl)) ?_
 refine om rfl rfl ?_
 obtain ⟨metal2, at_2, turn2, h11, r12⟩ := b3_ok r2; clear r2
 refine o_call0 rfl Try.call39 rfl rfl rfl (oyezkit_Hang_w h_tries h11) ?_; rintro _ F13 _ hF14 hn15 ⟨b17, a18, c19, rfl, rfl, h20⟩
 replace h_numbers := h_numbers.mono (iE_ok _) hF14
 replace h_tries := h_tries.mono (iE_ok _) hF14
 replace h10 := h10.mono (iE_ok _) hF14
 have hb17 := hn15 _ (List.mem_cons_self ..)
 refine shO_L (lb (ln rfl)) ?_
 refine oa rfl rfl (oa rfl rfl (nsr (om rfl rfl ?_)))
 obtain ⟨n, l, at_3, turn3, h21, r22⟩ := b4_ok r12; clear r12
 refine o_callG (Lb := [(b7, .cells #[.slice a8 metal.length c9, .int .i64 at_, .int .u32 turn] 134 (0, 0))]) (Lr := [(b17, .cells #[.slice a18 metal2.length c19, .int .i64 at_2, .int .u32 turn2] 134 (0, 0))]) rfl Try.call40 rfl rfl rfl (((fC fO).trans (pC pR))) (oyezlaw01_Made_w h10 h21) ?_; rintro _ F23 _ hF24 hd26 hn25 ⟨a27, n31, c28, Lb29, rfl, rfl, hz30⟩
 replace h_numbers := h_numbers.mono (iE_ok _) hF24
 replace h_tries := h_tries.mono (iE_ok _) hF24
 replace h10 := h10.mono (iE_ok _) hF24
 replace h20 := h20.mono (iE_ok _) hF24
 have hn33 := newp (Lb' := [(b7, .cells #[.slice a8 metal.length c9, .int .i64 at_3, .int .u32 turn3] 134 (0, 0))]) (by rfl) hd26 hn25
 replace hz30 := hz30.new fun p hp => hn33 p (by simp [hp])
 refine shO_L (lb (lp (ln rfl))) ?_
 refine kO (kc (kf (fS fO) kr)) ?_
 refine o_alloc rfl Try.zeroValue24 ?_; intro b34 hb34
 refine o_storeA (i := 0) Try.sizeOf24 rfl rfl rfl (by simp [Value.oneCell']) rfl (Nat.le_of_ble_eq_true rfl) ?_
 refine shO_L (L' := (b34, .cells #[.int .i64 n, .slice a27 n31 c28] 24 (0, 0)) :: ((b7, .cells #[.slice a8 metal.length c9, .int .i64 at_3, .int .u32 turn3] 134 (0, 0)) :: ((b17, .cells #[.slice a18 metal2.length c19, .int .i64 at_2, .int .u32 turn2] 134 (0, 0)) :: (Lb29 ++ [])))) rfl ?_
 refine shO_nil (shW_seq ?_)
 refine shW_drawM [(.still, 0), (.still, 3), (.seq, 1), (.still, 2), (.seq, 4), (.still, 5), (.still, 6)] (by kernel_rfl) (by kernel_rfl) (trivial) (by rfl) (by kernel_rfl) ?_
 refine shM_v (v := .pointer (some ⟨b7, 0, none⟩)) (ek := [(5, .pointer (some ⟨b7, 0, none⟩))]) (Ls := []) rfl rfl rfl rfl ((sc rfl (sn _))) (by kernel_rfl) sm (fun H F' L' hF' hL' => v_move rfl) ?_
 refine shM_v (v := .agg #[.int .i64 n, .slice a27 n31 c28]) (ek := [(7, .pointer (some ⟨b34, 0, none⟩))]) (Ls := [(b34, .cells #[.int .i64 n, .slice a27 n31 c28] 24 (0, 0))]) rfl rfl rfl rfl ((sc rfl (sn _))) (by kernel_rfl) (s0 (s2 (s1 (s1 (s3 sr))))) (fun H F' L' hF' hL' => v_loadA (cs := #[.int .i64 n, .slice a27 n31 c28]) Try.isAgg24 Try.sizeOf24 rfl ((Has.own 0 rfl).ext hF' hL') (Nat.le_of_ble_eq_true rfl) rfl) ?_
 refine ⟨_, [(37, .pointer (some ⟨b7, 0, none⟩))], rfl, rfl, (sc rfl (sn _)), by kernel_rfl, ?_⟩; intro H
 obtain ⟨n2, n3, at_4, turn4, h35, r36⟩ := b4_ok r22; clear r22
 refine o_callG (Lb := [(b7, .cells #[.slice a8 metal.length c9, .int .i64 at_3, .int .u32 turn3] 134 (0, 0))]) (Lr := (b34, .cells #[.int .i64 n, .slice a27 n31 c28] 24 (0, 0)) :: ((b17, .cells #[.slice a18 metal2.length c19, .int .i64 at_2, .int .u32 turn2] 134 (0, 0)) :: (Lb29 ++ []))) rfl Try.call41 rfl rfl rfl (((fC fO).trans (pC pR))) (oyezlaw01_Aired_w h10 h35) ?_; rintro _ F37 _ hF38 hd40 hn39 ⟨rfl, rfl⟩
 replace h_numbers := h_numbers.mono (iE_ok _) hF38
 replace h_tries := h_tries.mono (iE_ok _) hF38
 replace h10 := h10.mono (iE_ok _) hF38
 replace h20 := h20.mono (iE_ok _) hF38
 replace hz30 := hz30.mono (iE_ok _) hF38
 refine shO_L (lb (ln rfl)) ?_
 refine shO_nil ⟨_, rfl, hF38, [3], by kernel_rfl, .inr (fun d h => by cases h; rfl), (List.forall_mem_cons.2 ⟨s0 (s1 (s2 (s1 (s3 sr)))), (fun _ h => absurd h List.not_mem_nil)⟩), ?_⟩
 refine shM_v (v := .int .i64 n2) (ek := [(38, .agg #[.int .i64 n2, .int .i64 n3])]) (Ls := []) rfl rfl rfl rfl ((sc rfl (sn _))) (by kernel_rfl) sm (fun H F' L' hF' hL' => v_field (v := .int .i64 n2) (by intro w; kernel_rfl) rfl) ?_
 refine ⟨_, [(40, .agg #[.int .i64 n, .slice a27 n31 c28])], rfl, rfl, (sc rfl (sn _)), by kernel_rfl, ?_⟩; intro H
 obtain ⟨l2, h41, r42⟩ := b1_ok r36; clear r36
 refine o_callTO (Lb := []) (Lt := Lb29 ++ []) (Lr := [(b7, .cells #[.slice a8 metal.length c9, .int .i64 at_4, .int .u32 turn4] 134 (0, 0)), (b34, .cells #[.int .i64 n, .slice a27 n31 c28] 24 (0, 0)), (b17, .cells #[.slice a18 metal2.length c19, .int .i64 at_2, .int .u32 turn2] 134 (0, 0))]) rfl Try.call42 rfl rfl rfl (pT ((fC (fC (fC fP))).trans (pA pR)) (ln (lp (ln rfl)))) (fun F2 h2 h3 => by rw [(SlR.caps hz30).1]; exact oyezlaw01_streets_w (hz30.row (iE_ok _) h2 (fun p hp => h3 p (List.mem_append_left _ hp))) h41) (fun _ _ _ _ hq => by obtain ⟨a47, n51, c48, Lb49, rfl, rfl, hz50⟩ := hq; exact ⟨_, _, _, _, rfl, rfl, hz50.flat (fun _ _ h => h)⟩) ?_; rintro _ F43 _ hF44 hd46 hn45 ⟨a47, n51, c48, Lb49, rfl, rfl, hz50⟩
 replace h_numbers := h_numbers.mono (iE_ok _) hF44
 replace h_tries := h_tries.mono (iE_ok _) hF44
 replace h10 := h10.mono (iE_ok _) hF44
 replace h20 := h20.mono (iE_ok _) hF44
 replace hz30 := hz30.mono (iE_ok _) hF44
 have hn53 := newp (Lb' := []) (by rfl) hd46 hn45
 replace hz50 := hz50.new fun p hp => hn53 p (by simp [hp])
 refine shO_L (lp (ln (lp (ln rfl)))) ?_
 refine kO (kf (fS (fS fO)) (kf (fS (fS fO)) (kf (fS (fS fO)) kr))) ?_
 refine shO_nil ⟨_, rfl, hF44, [2], by kernel_rfl, .inr (fun d h => by cases h; rfl), (List.forall_mem_cons.2 ⟨sm, (fun _ h => absurd h List.not_mem_nil)⟩), ?_⟩
 refine shM_v (v := .int .i64 n2) (ek := [(39, .int .i64 n2)]) (Ls := []) rfl rfl rfl rfl ((sc rfl (sn _))) (by kernel_rfl) sm (fun H F' L' hF' hL' => v_assign rfl) ?_
 refine shM_v (v := .slice a47 n51 c48) (ek := [(41, .slice a47 n51 c48)]) (Ls := []) rfl rfl rfl rfl ((sc rfl (sn _))) (by kernel_rfl) sm (fun H F' L' hF' hL' => v_assign rfl) ?_
 refine shM_nil ?_
 refine wsr (om rfl rfl (om rfl rfl (om rfl rfl ?_)))
 refine ov ((v_lenS Try.underlying26 rfl).i (SlR.lenI hz50)) rfl ?_
 obtain ⟨g54, r55⟩ := gd_ok r42; clear r42
 refine ov (v_sub rfl rfl g54) rfl ?_
 obtain ⟨n4, at_5, turn5, h56, r57⟩ := b3_ok r55; clear r55
 refine o_callG (Lb := [(b7, .cells #[.slice a8 metal.length c9, .int .i64 at_4, .int .u32 turn4] 134 (0, 0))]) (Lr := (b34, .cells #[.int .i64 n, .slice a27 n31 c28] 24 (0, 0)) :: ((b17, .cells #[.slice a18 metal2.length c19, .int .i64 at_2, .int .u32 turn2] 134 (0, 0)) :: (Lb49 ++ (Lb29 ++ [])))) rfl Try.call48 rfl rfl rfl (pR) (oyezkit_Bell_Stroke_w h10 h56) ?_; rintro _ F58 _ hF59 hd61 hn60 ⟨rfl, rfl⟩
 replace h_numbers := h_numbers.mono (iE_ok _) hF59
 replace h_tries := h_tries.mono (iE_ok _) hF59
 replace h10 := h10.mono (iE_ok _) hF59
 replace h20 := h20.mono (iE_ok _) hF59
 replace hz30 := hz30.mono (iE_ok _) hF59
 replace hz50 := hz50.mono (iE_ok _) hF59
 refine shO_L (lb (ln rfl)) ?_
 obtain ⟨x, g62, hx63, r64⟩ := ix_ok r57; clear r57
 obtain ⟨b65, o66, c67, vs68, ha69, hs70, hle71, rfl, hl72, hc73⟩ := SlR.at (iE_ok _) hz50 (L := (b7, .cells #[.slice a8 metal.length c9, .int .i64 at_5, .int .u32 turn5] 134 (0, 0)) :: ((b34, .cells #[.int .i64 n, .slice a27 n31 c28] 24 (0, 0)) :: ((b17, .cells #[.slice a18 metal2.length c19, .int .i64 at_2, .int .u32 turn2] 134 (0, 0)) :: (Lb49 ++ (Lb29 ++ []))))) (fC (fC (fC fP))) g62.1 hx63
 refine ov (v_indexO Try.underlying26 Try.sizeOf3 rfl ha69 rfl (SlR.idx hz50 g62)) rfl ?_
 refine ov (v_load Try.isAgg3 rfl hs70 (hc73 0 (by decide))) rfl ?_
 refine oa rfl rfl (nsr ?_)
 refine ov (v_loadA (cs := #[.int .i64 n, .slice a27 n31 c28]) Try.isAgg24 Try.sizeOf24 rfl (Has.own 1 rfl) (Nat.le_of_ble_eq_true rfl) rfl) rfl ?_
 refine om rfl rfl (om rfl rfl ?_)
 obtain ⟨l3, n5, h74, r75⟩ := b2_ok r64; clear r64
 refine o_callTO (Lb := []) (Lt := Lb29 ++ []) (Lr := (b7, .cells #[.slice a8 metal.length c9, .int .i64 at_5, .int .u32 turn5] 134 (0, 0)) :: ((b34, .cells #[.int .i64 n, .slice a27 n31 c28] 24 (0, 0)) :: ((b17, .cells #[.slice a18 metal2.length c19, .int .i64 at_2, .int .u32 turn2] 134 (0, 0)) :: (Lb49 ++ [])))) rfl Try.call21 rfl rfl rfl (pT ((fC (fC (fC (fS fP)))).trans (pA pR)) (ln (lp (ln rfl)))) (fun F2 h2 h3 => by rw [(SlR.caps hz30).1]; exact hear_Needs_w (hz30.row (iE_ok _) h2 (fun p hp => h3 p (List.mem_append_left _ hp))) h74) (fun _ _ _ _ hq => by obtain ⟨a80, n84, c81, Lb82, rfl, rfl, hz83⟩ := hq; exact ⟨_, _, _, _, rfl, rfl, hz83.flat (fun _ _ h => h)⟩) ?_; rintro _ F76 _ hF77 hd79 hn78 ⟨a80, n84, c81, Lb82, rfl, rfl, hz83⟩
 replace h_numbers := h_numbers.mono (iE_ok _) hF77
 replace h_tries := h_tries.mono (iE_ok _) hF77
 replace h10 := h10.mono (iE_ok _) hF77
 replace h20 := h20.mono (iE_ok _) hF77
 replace hz30 := hz30.mono (iE_ok _) hF77
 replace hz50 := hz50.mono (iE_ok _) hF77
 have hn86 := newp (Lb' := []) (by rfl) hd79 hn78
 replace hz83 := hz83.new fun p hp => hn86 p (by simp [hp])
 refine shO_L (lp (ln (lp (ln rfl)))) ?_
 refine kO (kf (fS (fS fO)) (kf (fS (fS fO)) (kf (fS (fS fO)) kr))) ?_
 refine om rfl rfl (ox rfl rfl rfl (ox rfl rfl rfl (oa rfl rfl (oa rfl rfl (nsr ?_)))))
 refine ov (v_loadA (cs := #[.int .i64 n, .slice a27 n31 c28]) Try.isAgg24 Try.sizeOf24 rfl (Has.own 1 rfl) (Nat.le_of_ble_eq_true rfl) rfl) rfl ?_
 refine om rfl rfl (om rfl rfl (om rfl rfl ?_))
 obtain ⟨ok, n6, h87, r88⟩ := b2_ok r75; clear r75
 refine o_callT (Lt := Lb29 ++ (Lb82 ++ [])) (Lr := (b7, .cells #[.slice a8 metal.length c9, .int .i64 at_5, .int .u32 turn5] 134 (0, 0)) :: ((b34, .cells #[.int .i64 n, .slice a27 n31 c28] 24 (0, 0)) :: ((b17, .cells #[.slice a18 metal2.length c19, .int .i64 at_2, .int .u32 turn2] 134 (0, 0)) :: (Lb49 ++ [])))) rfl Try.call24 rfl rfl rfl (pT ((fC (fC (fC (fS fP)))).trans (pA ((fC (fC (fC fP))).trans (pA pR)))) (lp (lp (ln rfl)))) (fun F2 h2 h3 => by rw [(SlR.caps hz30).1]; rw [(SlR.caps hz83).1]; exact hear_Holds_w (hz30.row (iE_ok _) h2 (fun p hp => h3 p (List.mem_append_left _ hp))) (hz83.row (iE_ok _) h2 (fun p hp => h3 p (List.mem_append_right _ (List.mem_append_left _ hp)))) h87) ?_
 refine om rfl rfl (ox rfl rfl rfl (ox rfl rfl rfl (oa rfl rfl (oa rfl rfl (shO_nil (shW_seq ?_))))))
 obtain ⟨k, h89, r90⟩ := b1_ok r88; clear r88
 refine shW_join (fun e1 F1 L1 => F76 = F1 ∧ L1 = ((b34, .cells #[.int .i64 n, .slice a27 n31 c28] 24 (0, 0)) :: ((b17, .cells #[.slice a18 metal2.length c19, .int .i64 at_2, .int .u32 turn2] 134 (0, 0)) :: (Lb29 ++ (Lb82 ++ [])))) ∧ e1.sub [(6, .pointer (some ⟨b17, 0, none⟩)), (7, .pointer (some ⟨b34, 0, none⟩)), (8, .int .i64 n2), (10, .int .i64 x), (11, .slice a80 n84 c81), (82, .bool k)]) ?_ ?_
 · clear r90
   refine shW_region (om rfl rfl ?_)
   refine ov (v_neq rfl rfl) rfl ?_
   refine om rfl rfl ?_
   by_cases c91 : n5 ≠ 0
   · have r92 := ite_t h89 c91; clear h89
     refine shO_off (b' := true) 67 rfl (Env.isT rfl c91) rfl rfl (shO_off (b' := true) 67 rfl (Env.isT rfl c91) rfl rfl ?_)
     refine ov (v_pick_t (evD_true rfl c91) rfl) rfl ?_
     refine om rfl rfl (shO_off (b' := true) 71 rfl rfl rfl rfl (shO_off (b' := true) 71 rfl rfl rfl rfl ?_))
     refine ov (v_pick_t rfl rfl) rfl ?_
     refine om rfl rfl (shO_off (b' := true) 75 rfl rfl rfl rfl (shO_off (b' := true) 75 rfl rfl rfl rfl (shO_off (b' := true) 75 rfl rfl rfl rfl (shO_off (b' := true) 75 rfl rfl rfl rfl (shO_off (b' := true) 75 rfl rfl rfl rfl (shO_off (b' := true) 75 rfl rfl rfl rfl ?_))))))
     refine ov (v_pick_t rfl rfl) rfl ?_
     refine shO_nil ?_
     obtain rfl := inj1 r92
     exact mi (kd (kc (kc (kg (fS fP) (ka kn))))) ⟨rfl, rfl, (sc rfl (sc rfl (sc rfl (sc rfl (sc rfl (sc rfl (sn _)))))))⟩
   have r93 := ite_f h89 c91; clear h89
   refine shO_on (b := false) 67 rfl (Env.isF rfl c91) (om rfl rfl (shO_on (b := false) 67 rfl (Env.isF rfl c91) ?_))
   refine ov (v_neq rfl rfl) rfl ?_
   refine ov (v_pick_f (evD_false rfl c91) rfl) rfl ?_
   refine om rfl rfl ?_
   by_cases c94 : n6 ≠ 0
   · have r95 := ite_t r93 c94; clear r93
     refine shO_off (b' := true) 71 rfl (Env.isT rfl c94) rfl rfl (shO_off (b' := true) 71 rfl (Env.isT rfl c94) rfl rfl ?_)
     refine ov (v_pick_t (evD_true rfl c94) rfl) rfl ?_
     refine om rfl rfl (shO_off (b' := true) 75 rfl rfl rfl rfl (shO_off (b' := true) 75 rfl rfl rfl rfl (shO_off (b' := true) 75 rfl rfl rfl rfl (shO_off (b' := true) 75 rfl rfl rfl rfl (shO_off (b' := true) 75 rfl rfl rfl rfl (shO_off (b' := true) 75 rfl rfl rfl rfl ?_))))))
     refine ov (v_pick_t rfl rfl) rfl ?_
     refine shO_nil ?_
     obtain rfl := inj1 r95
     exact mi (kd (kc (kc (kg (fS fP) (ka kn))))) ⟨rfl, rfl, (sc rfl (sc rfl (sc rfl (sc rfl (sc rfl (sc rfl (sn _)))))))⟩
   have r96 := ite_f r93 c94; clear r93
   refine shO_on (b := false) 71 rfl (Env.isF rfl c94) (om rfl rfl (shO_on (b := false) 71 rfl (Env.isF rfl c94) ?_))
   refine ov (v_notB rfl) rfl ?_
   refine ov (v_pick_f (evD_false rfl c94) rfl) rfl ?_
   refine om rfl rfl ?_
   rcases bool_two (!ok) with c97 | c97
   · have r98 := bt r96 c97; clear r96
     refine shO_off (b' := true) 75 rfl (EnvB rfl c97) rfl rfl (shO_off (b' := true) 75 rfl (EnvB rfl c97) rfl rfl (shO_off (b' := true) 75 rfl (EnvB rfl c97) rfl rfl (shO_off (b' := true) 75 rfl (EnvB rfl c97) rfl rfl (shO_off (b' := true) 75 rfl (EnvB rfl c97) rfl rfl (shO_off (b' := true) 75 rfl (EnvB rfl c97) rfl rfl ?_)))))
     refine ov (v_pick_t (evB rfl c97) rfl) rfl ?_
     refine shO_nil ?_
     obtain rfl := inj1 r98
     exact mi (kd (kc (kc (kg (fS fP) (ka kn))))) ⟨rfl, rfl, (sc rfl (sc rfl (sc rfl (sc rfl (sc rfl (sc rfl (sn _)))))))⟩
   have r99 := bf r96 c97; clear r96
   refine shO_on (b := false) 75 rfl (EnvB rfl c97) (om rfl rfl (shO_on (b := false) 75 rfl (EnvB rfl c97) ?_))
   refine ov ((v_lenS Try.underlying26 rfl).i (SlR.lenI hz83)) rfl ?_
   refine shO_on (b := false) 75 rfl (EnvB rfl c97) ?_
   refine ov (v_fieldAddr fa_24_1 rfl) rfl ?_
   refine shO_on (b := false) 75 rfl (EnvB rfl c97) ?_
   refine ov (v_load Try.isAgg22 rfl (Has.own 1 rfl) rfl) rfl ?_
   refine shO_on (b := false) 75 rfl (EnvB rfl c97) ?_
   refine ov ((v_lenS Try.underlying22 rfl).i (SlR.lenI hz30)) rfl ?_
   refine shO_on (b := false) 75 rfl (EnvB rfl c97) ?_
   refine ov (v_neq rfl rfl) rfl ?_
   refine ov (v_pick_f (evB rfl c97) rfl) rfl ?_
   refine shO_nil ?_
   obtain rfl := inj1 r99
   exact mi (kd (kc (kc (kg (fS fP) (ka kn))))) ⟨rfl, rfl, (sc rfl (sc rfl (sc rfl (sc rfl (sc rfl (sc rfl (sn _)))))))⟩
 rintro e1 _ _ ⟨rfl, rfl, he100⟩
 refine shW_env _ he100 ?_; clear he100
 refine shW_cond rfl (fun c101 => ?_) (fun c101 => ?_)
 · have r102 := bt r90 c101; clear r90
   refine wsr (oa rfl rfl (shO_nil ?_))
   refine kW kn ?_
   refine shW_ret (andThen_ret ?_)
   refine q_res1 Try.results8 (res_tmp rfl) (sr) ?_
   obtain rfl := inj1 r102
   exact rfl
 have r103 := bf r90 c101; clear r90
 refine shW_skip ?_
 refine shW_join (fun e1 F1 L1 => oyezlaw01_HearProved_j1 metal2 at_2 turn2 n l n2 x l3 = some r ∧ FExt F76 F1 ∧ L1 = ((b34, .cells #[.int .i64 n, .slice a27 n31 c28] 24 (0, 0)) :: ((b17, .cells #[.slice a18 metal2.length c19, .int .i64 at_2, .int .u32 turn2] 134 (0, 0)) :: (Lb29 ++ (Lb82 ++ [])))) ∧ e1.sub [(6, .pointer (some ⟨b17, 0, none⟩)), (7, .pointer (some ⟨b34, 0, none⟩)), (8, .int .i64 n2), (10, .int .i64 x), (11, .slice a80 n84 c81)]) ?_ ?_
 · refine wsr (om rfl rfl ?_)
   refine ov ((v_lenS Try.underlying26 rfl).i (SlR.lenI hz83)) rfl ?_
   refine om rfl rfl (shO_nil ?_)
   refine shW_block ?_
   refine shW_lp (fun fu2 e1 F1 L1 => ∃ (tl : List Int) (k2 : Int), tl.length = fu2 ∧ Lst l3 k2 tl ∧ oyezlaw01_HearProved_l2 metal2 at_2 turn2 n l n2 x l3 tl k2 = some r ∧ FExt F76 F1 ∧ L1 = ((b34, .cells #[.int .i64 n, .slice a27 n31 c28] 24 (0, 0)) :: ((b17, .cells #[.slice a18 metal2.length c19, .int .i64 at_2, .int .u32 turn2] 134 (0, 0)) :: (Lb29 ++ (Lb82 ++ [])))) ∧ e1.sub [(6, .pointer (some ⟨b17, 0, none⟩)), (7, .pointer (some ⟨b34, 0, none⟩)), (8, .int .i64 n2), (10, .int .i64 x), (11, .slice a80 n84 c81), (83, .slice a80 n84 c81), (84, .int .i64 (l3.length : Int)), (85, .int .i64 k2)]) _ (m0 kr ⟨_, _, rfl, Lst.start _, r103, FExt.refl _, rfl, (sc rfl (sc rfl (sc rfl (sc rfl (sc rfl (sc rfl (sc rfl (sc rfl (sn _)))))))))⟩) ?_
   rintro fu2 e1 F108 _ ⟨tl, k2, hn105, hk104, r106, hF109, rfl, he107⟩
   refine shW_env _ he107 ?_; clear he107
   replace h_numbers := h_numbers.mono (iE_ok _) hF109
   replace h_tries := h_tries.mono (iE_ok _) hF109
   replace h10 := h10.mono (iE_ok _) hF109
   replace h20 := h20.mono (iE_ok _) hF109
   replace hz30 := hz30.mono (iE_ok _) hF109
   replace hz83 := hz83.mono (iE_ok _) hF109
   refine wsr ?_
   refine ov (v_lssK rfl rfl) rfl ?_
   refine shO_nil (shW_seq ?_)
   refine shW_condP rfl (fun c111 => ?_) (fun c111 => ?_)
   · obtain ⟨x2, tl2, rfl, hx113, g114, hk112⟩ := Lst.succ hk104 c111
     rw [oyezlaw01_HearProved_l2] at r106
     refine shW_skip (shW_seq ?_)
     refine shW_block ?_
     refine wsr (om rfl rfl ?_)
     obtain ⟨b115, o116, c117, vs118, ha119, hs120, hle121, rfl, hl122, hc123⟩ := SlR.at (iE_ok _) hz83 (L := (b34, .cells #[.int .i64 n, .slice a27 n31 c28] 24 (0, 0)) :: ((b17, .cells #[.slice a18 metal2.length c19, .int .i64 at_2, .int .u32 turn2] 134 (0, 0)) :: (Lb29 ++ (Lb82 ++ [])))) (fC (fC (fS fP))) g114.1 hx113
     refine ov (v_indexO Try.underlying26 Try.sizeOf3 rfl ha119 rfl (SlR.idx hz83 g114)) rfl ?_
     refine ov (v_load Try.isAgg3 rfl hs120 (hc123 0 (by decide))) rfl ?_
     refine oa rfl rfl (oa rfl rfl (nsr ?_))
     refine ov (v_loadA (cs := #[.int .i64 n, .slice a27 n31 c28]) Try.isAgg24 Try.sizeOf24 rfl (Has.own 0 rfl) (Nat.le_of_ble_eq_true rfl) rfl) rfl ?_
     refine om rfl rfl (om rfl rfl (om rfl rfl ?_))
     obtain ⟨l4, n7, h124, r125⟩ := b2_ok r106; clear r106
     refine o_callTO (Lb := []) (Lt := Lb29 ++ []) (Lr := (b34, .cells #[.int .i64 n, .slice a27 n31 c28] 24 (0, 0)) :: ((b17, .cells #[.slice a18 metal2.length c19, .int .i64 at_2, .int .u32 turn2] 134 (0, 0)) :: (Lb82 ++ []))) rfl Try.call47 rfl rfl rfl (pT ((fC (fC fP)).trans (pA pR)) (ln (lp (ln rfl)))) (fun F2 h2 h3 => by rw [(SlR.caps hz30).1]; exact hear_Way_w (hz30.row (iE_ok _) h2 (fun p hp => h3 p (List.mem_append_left _ hp))) h124) (fun _ _ _ _ hq => by obtain ⟨a130, n134, c131, Lb132, rfl, rfl, hz133⟩ := hq; exact ⟨_, _, _, _, rfl, rfl, hz133.flat (fun _ _ h => h)⟩) ?_; rintro _ F126 _ hF127 hd129 hn128 ⟨a130, n134, c131, Lb132, rfl, rfl, hz133⟩
     replace h_numbers := h_numbers.mono (iE_ok _) hF127
     replace h_tries := h_tries.mono (iE_ok _) hF127
     replace h10 := h10.mono (iE_ok _) hF127
     replace h20 := h20.mono (iE_ok _) hF127
     replace hz30 := hz30.mono (iE_ok _) hF127
     replace hz83 := hz83.mono (iE_ok _) hF127
     have hn136 := newp (Lb' := []) (by rfl) hd129 hn128
     replace hz133 := hz133.new fun p hp => hn136 p (by simp [hp])
     refine shO_L (lp (ln (lp (ln rfl)))) ?_
     refine kO (kf (fS (fS fO)) (kf (fS (fS fO)) kr)) ?_
     refine om rfl rfl (ox rfl rfl rfl (ox rfl rfl rfl (oa rfl rfl (oa rfl rfl (shO_nil (shW_seq (wsr (om rfl rfl ?_))))))))
     refine ov (v_neq rfl rfl) rfl ?_
     refine shO_nil ?_
     refine shW_condP rfl (fun c137 => ?_) (fun c137 => ?_)
     · have r138 := ite_t r125 c137; clear r125
       refine shW_seq ?_
       obtain ⟨k3, h139, r140⟩ := b1_ok r138; clear r138
       refine shW_join (fun e1 F1 L1 => F126 = F1 ∧ L1 = ((b34, .cells #[.int .i64 n, .slice a27 n31 c28] 24 (0, 0)) :: ((b17, .cells #[.slice a18 metal2.length c19, .int .i64 at_2, .int .u32 turn2] 134 (0, 0)) :: (Lb29 ++ (Lb82 ++ [])))) ∧ e1.sub [(6, .pointer (some ⟨b17, 0, none⟩)), (7, .pointer (some ⟨b34, 0, none⟩)), (8, .int .i64 n2), (10, .int .i64 x), (11, .slice a80 n84 c81), (83, .slice a80 n84 c81), (84, .int .i64 (l3.length : Int)), (85, .int .i64 k2), (105, .bool k3)]) ?_ ?_
       · clear r140
         refine shW_region (om rfl rfl ?_)
         refine ov (v_neq rfl rfl) rfl ?_
         refine om rfl rfl ?_
         by_cases c141 : n7 ≠ 6
         · have r142 := ite_t h139 c141; clear h139
           refine shO_off (b' := true) 102 rfl (Env.isT rfl c141) rfl rfl (shO_off (b' := true) 102 rfl (Env.isT rfl c141) rfl rfl ?_)
           refine ov (v_pick_t (evD_true rfl c141) rfl) rfl ?_
           refine shO_nil ?_
           obtain rfl := inj1 r142
           exact mi (kc (kc (kx kr))) ⟨rfl, rfl, (sc rfl (sc rfl (sc rfl (sc rfl (sc rfl (sc rfl (sc rfl (sc rfl (sc rfl (sn _))))))))))⟩
         have r143 := ite_f h139 c141; clear h139
         refine shO_on (b := false) 102 rfl (Env.isF rfl c141) (om rfl rfl (shO_on (b := false) 102 rfl (Env.isF rfl c141) ?_))
         refine ov (v_neq rfl rfl) rfl ?_
         refine ov (v_pick_f (evD_false rfl c141) rfl) rfl ?_
         refine shO_nil ?_
         obtain rfl := inj1 r143
         exact mi (kc (kc (kx kr))) ⟨rfl, rfl, (sc rfl (sc rfl (sc rfl (sc rfl (sc rfl (sc rfl (sc rfl (sc rfl (sc rfl (sn _))))))))))⟩
       rintro e1 _ _ ⟨rfl, rfl, he144⟩
       refine shW_env _ he144 ?_; clear he144
       refine shW_cond rfl (fun c145 => ?_) (fun c145 => ?_)
       · have r146 := bt r140 c145; clear r140
         refine wsr (oa rfl rfl (shO_nil ?_))
         refine kW kn ?_
         refine shW_ret (andThen_ret (andThen_ret (inBlock_ret (andThen_ret (andThen_ret (inBlock_ret (andThen_ret ?_)))))))
         refine q_res1 Try.results8 (res_tmp rfl) (sr) ?_
         obtain rfl := inj1 r146
         exact rfl
       have r147 := bf r140 c145; clear r140
       refine shW_skip (shW_exit (andThen_exit ?_))
       refine inBlock_exit ?_
       refine shW_region ?_
       refine ov (v_add rfl rfl (Lst.r64 hk104 c111 (SlR.llt hz83))) rfl ?_
       refine om rfl rfl (shO_nil ?_)
       subst hn105; exact le kr ⟨_, _, rfl, hk112, r147, (hF109.trans hF127), rfl, (sc rfl (sc rfl (sc rfl (sc rfl (sc rfl (sc rfl (sc rfl (sc rfl (sn _)))))))))⟩
     have r148 := ite_f r125 c137; clear r125
     refine shW_skip (wsr ?_)
     refine ov (v_loadA (cs := #[.int .i64 n, .slice a27 n31 c28]) Try.isAgg24 Try.sizeOf24 rfl (Has.own 0 rfl) (Nat.le_of_ble_eq_true rfl) rfl) rfl ?_
     refine om rfl rfl (om rfl rfl ?_)
     obtain ⟨n8, n9, h149, r150⟩ := b2_ok r148; clear r148
     refine o_callT (Lt := Lb29 ++ (Lb132 ++ [])) (Lr := (b34, .cells #[.int .i64 n, .slice a27 n31 c28] 24 (0, 0)) :: ((b17, .cells #[.slice a18 metal2.length c19, .int .i64 at_2, .int .u32 turn2] 134 (0, 0)) :: (Lb82 ++ []))) rfl Try.call45 rfl rfl rfl (pT ((fC (fC (fS fP))).trans (pA ((fC (fC fP)).trans (pA pR)))) (lp (lp (ln rfl)))) (fun F2 h2 h3 => by rw [(SlR.caps hz30).1]; rw [(SlR.caps hz133).1]; exact hear_Takes_w (hz30.row (iE_ok _) h2 (fun p hp => h3 p (List.mem_append_left _ hp))) (hz133.row (iE_ok _) h2 (fun p hp => h3 p (List.mem_append_right _ (List.mem_append_left _ hp)))) h149) ?_
     refine om rfl rfl (ox rfl rfl rfl (ox rfl rfl rfl (oa rfl rfl (oa rfl rfl (shO_nil ?_)))))
     obtain ⟨k4, h151, r152⟩ := b1_ok r150; clear r150
     refine shW_join (fun e1 F1 L1 => F126 = F1 ∧ L1 = ((b34, .cells #[.int .i64 n, .slice a27 n31 c28] 24 (0, 0)) :: ((b17, .cells #[.slice a18 metal2.length c19, .int .i64 at_2, .int .u32 turn2] 134 (0, 0)) :: (Lb29 ++ (Lb82 ++ [])))) ∧ e1.sub [(6, .pointer (some ⟨b17, 0, none⟩)), (7, .pointer (some ⟨b34, 0, none⟩)), (8, .int .i64 n2), (10, .int .i64 x), (11, .slice a80 n84 c81), (83, .slice a80 n84 c81), (84, .int .i64 (l3.length : Int)), (85, .int .i64 k2), (141, .bool k4)]) ?_ ?_
     · clear r152
       refine shW_region (om rfl rfl ?_)
       refine ov (v_neq rfl rfl) rfl ?_
       refine om rfl rfl ?_
       by_cases c153 : n9 ≠ 0
       · have r154 := ite_t h151 c153; clear h151
         refine shO_off (b' := true) 115 rfl (Env.isT rfl c153) rfl rfl (shO_off (b' := true) 115 rfl (Env.isT rfl c153) rfl rfl (shO_off (b' := true) 115 rfl (Env.isT rfl c153) rfl rfl ?_))
         refine ov (v_pick_t (evD_true rfl c153) rfl) rfl ?_
         refine om rfl rfl (shO_off (b' := true) 120 rfl rfl rfl rfl (shO_off (b' := true) 120 rfl rfl rfl rfl (shO_off (b' := true) 120 rfl rfl rfl rfl ?_)))
         refine ov (v_pick_t rfl rfl) rfl ?_
         refine om rfl rfl (shO_off (b' := true) 125 rfl rfl rfl rfl (shO_off (b' := true) 125 rfl rfl rfl rfl (shO_off (b' := true) 125 rfl rfl rfl rfl (shO_off (b' := true) 125 rfl rfl rfl rfl (shO_off (b' := true) 125 rfl rfl rfl rfl ?_)))))
         refine ov (v_pick_t rfl rfl) rfl ?_
         refine om rfl rfl (shO_off (b' := true) 132 rfl rfl rfl rfl (shO_off (b' := true) 132 rfl rfl rfl rfl (shO_off (b' := true) 132 rfl rfl rfl rfl (shO_off (b' := true) 132 rfl rfl rfl rfl (shO_off (b' := true) 132 rfl rfl rfl rfl (shO_off (b' := true) 132 rfl rfl rfl rfl (shO_off (b' := true) 132 rfl rfl rfl rfl (shO_off (b' := true) 132 rfl rfl rfl rfl ?_))))))))
         refine ov (v_pick_t rfl rfl) rfl ?_
         refine shO_nil ?_
         obtain rfl := inj1 r154
         exact mi (kc (kc (kx kr))) ⟨rfl, rfl, (sc rfl (sc rfl (sc rfl (sc rfl (sc rfl (sc rfl (sc rfl (sc rfl (sc rfl (sn _))))))))))⟩
       have r155 := ite_f h151 c153; clear h151
       refine shO_on (b := false) 115 rfl (Env.isF rfl c153) (om rfl rfl (shO_on (b := false) 115 rfl (Env.isF rfl c153) (om rfl rfl (shO_on (b := false) 115 rfl (Env.isF rfl c153) ?_))))
       refine ov (v_neq rfl rfl) rfl ?_
       refine ov (v_pick_f (evD_false rfl c153) rfl) rfl ?_
       refine om rfl rfl ?_
       by_cases c156 : n8 ≠ x2
       · have r157 := ite_t r155 c156; clear r155
         refine shO_off (b' := true) 120 rfl (Env.isT rfl c156) rfl rfl (shO_off (b' := true) 120 rfl (Env.isT rfl c156) rfl rfl (shO_off (b' := true) 120 rfl (Env.isT rfl c156) rfl rfl ?_))
         refine ov (v_pick_t (evD_true rfl c156) rfl) rfl ?_
         refine om rfl rfl (shO_off (b' := true) 125 rfl rfl rfl rfl (shO_off (b' := true) 125 rfl rfl rfl rfl (shO_off (b' := true) 125 rfl rfl rfl rfl (shO_off (b' := true) 125 rfl rfl rfl rfl (shO_off (b' := true) 125 rfl rfl rfl rfl ?_)))))
         refine ov (v_pick_t rfl rfl) rfl ?_
         refine om rfl rfl (shO_off (b' := true) 132 rfl rfl rfl rfl (shO_off (b' := true) 132 rfl rfl rfl rfl (shO_off (b' := true) 132 rfl rfl rfl rfl (shO_off (b' := true) 132 rfl rfl rfl rfl (shO_off (b' := true) 132 rfl rfl rfl rfl (shO_off (b' := true) 132 rfl rfl rfl rfl (shO_off (b' := true) 132 rfl rfl rfl rfl (shO_off (b' := true) 132 rfl rfl rfl rfl ?_))))))))
         refine ov (v_pick_t rfl rfl) rfl ?_
         refine shO_nil ?_
         obtain rfl := inj1 r157
         exact mi (kc (kc (kx kr))) ⟨rfl, rfl, (sc rfl (sc rfl (sc rfl (sc rfl (sc rfl (sc rfl (sc rfl (sc rfl (sc rfl (sn _))))))))))⟩
       have r158 := ite_f r155 c156; clear r155
       refine shO_on (b := false) 120 rfl (Env.isF rfl c156) (om rfl rfl (shO_on (b := false) 120 rfl (Env.isF rfl c156) ?_))
       refine ov ((v_lenS Try.underlying26 rfl).i (SlR.lenI hz133)) rfl ?_
       refine shO_on (b := false) 120 rfl (Env.isF rfl c156) ?_
       refine ov (v_eql rfl rfl) rfl ?_
       refine ov (v_pick_f (evD_false rfl c156) rfl) rfl ?_
       refine om rfl rfl ?_
       by_cases c159 : (l4.length : Int) = 0
       · have r160 := ite_t r158 c159; clear r158
         refine shO_off (b' := true) 125 rfl (Env.isT rfl c159) rfl rfl (shO_off (b' := true) 125 rfl (Env.isT rfl c159) rfl rfl (shO_off (b' := true) 125 rfl (Env.isT rfl c159) rfl rfl (shO_off (b' := true) 125 rfl (Env.isT rfl c159) rfl rfl (shO_off (b' := true) 125 rfl (Env.isT rfl c159) rfl rfl ?_))))
         refine ov (v_pick_t (evD_true rfl c159) rfl) rfl ?_
         refine om rfl rfl (shO_off (b' := true) 132 rfl rfl rfl rfl (shO_off (b' := true) 132 rfl rfl rfl rfl (shO_off (b' := true) 132 rfl rfl rfl rfl (shO_off (b' := true) 132 rfl rfl rfl rfl (shO_off (b' := true) 132 rfl rfl rfl rfl (shO_off (b' := true) 132 rfl rfl rfl rfl (shO_off (b' := true) 132 rfl rfl rfl rfl (shO_off (b' := true) 132 rfl rfl rfl rfl ?_))))))))
         refine ov (v_pick_t rfl rfl) rfl ?_
         refine shO_nil ?_
         obtain rfl := inj1 r160
         exact mi (kc (kc (kx kr))) ⟨rfl, rfl, (sc rfl (sc rfl (sc rfl (sc rfl (sc rfl (sc rfl (sc rfl (sc rfl (sc rfl (sn _))))))))))⟩
       have r161 := ite_f r158 c159; clear r158
       refine shO_on (b := false) 125 rfl (Env.isF rfl c159) (om rfl rfl (shO_on (b := false) 125 rfl (Env.isF rfl c159) ?_))
       obtain ⟨x3, g162, hx163, r164⟩ := ix_ok r161; clear r161
       obtain ⟨b165, o166, c167, vs168, ha169, hs170, hle171, rfl, hl172, hc173⟩ := SlR.at (iE_ok _) hz133 (L := (b34, .cells #[.int .i64 n, .slice a27 n31 c28] 24 (0, 0)) :: ((b17, .cells #[.slice a18 metal2.length c19, .int .i64 at_2, .int .u32 turn2] 134 (0, 0)) :: (Lb132 ++ (Lb29 ++ (Lb82 ++ []))))) (fC (fC fP)) g162.1 hx163
       refine ov (v_indexO Try.underlying26 Try.sizeOf3 rfl ha169 rfl (SlR.idx hz133 g162)) rfl ?_
       refine shO_on (b := false) 125 rfl (Env.isF rfl c159) ?_
       refine ov (v_load Try.isAgg3 rfl hs170 (hc173 0 (by decide))) rfl ?_
       refine shO_on (b := false) 125 rfl (Env.isF rfl c159) (om rfl rfl (shO_on (b := false) 125 rfl (Env.isF rfl c159) ?_))
       refine ov (v_neq rfl rfl) rfl ?_
       refine ov (v_pick_f (evD_false rfl c159) rfl) rfl ?_
       refine om rfl rfl ?_
       by_cases c174 : x3 ≠ x
       · have r175 := ite_t r164 c174; clear r164
         refine shO_off (b' := true) 132 rfl (Env.isT rfl c174) rfl rfl (shO_off (b' := true) 132 rfl (Env.isT rfl c174) rfl rfl (shO_off (b' := true) 132 rfl (Env.isT rfl c174) rfl rfl (shO_off (b' := true) 132 rfl (Env.isT rfl c174) rfl rfl (shO_off (b' := true) 132 rfl (Env.isT rfl c174) rfl rfl (shO_off (b' := true) 132 rfl (Env.isT rfl c174) rfl rfl (shO_off (b' := true) 132 rfl (Env.isT rfl c174) rfl rfl (shO_off (b' := true) 132 rfl (Env.isT rfl c174) rfl rfl ?_)))))))
         refine ov (v_pick_t (evD_true rfl c174) rfl) rfl ?_
         refine shO_nil ?_
         obtain rfl := inj1 r175
         exact mi (kc (kc (kx kr))) ⟨rfl, rfl, (sc rfl (sc rfl (sc rfl (sc rfl (sc rfl (sc rfl (sc rfl (sc rfl (sc rfl (sn _))))))))))⟩
       have r176 := ite_f r164 c174; clear r164
       refine shO_on (b := false) 132 rfl (Env.isF rfl c174) (om rfl rfl (shO_on (b := false) 132 rfl (Env.isF rfl c174) (om rfl rfl (shO_on (b := false) 132 rfl (Env.isF rfl c174) ?_))))
       refine ov ((v_lenS Try.underlying26 rfl).i (SlR.lenI hz133)) rfl ?_
       refine shO_on (b := false) 132 rfl (Env.isF rfl c174) ?_
       obtain ⟨g177, r178⟩ := gd_ok r176; clear r176
       refine ov (v_sub rfl rfl g177) rfl ?_
       refine shO_on (b := false) 132 rfl (Env.isF rfl c174) ?_
       obtain ⟨x4, g179, hx180, r181⟩ := ix_ok r178; clear r178
       obtain ⟨b182, o183, c184, vs185, ha186, hs187, hle188, rfl, hl189, hc190⟩ := SlR.at (iE_ok _) hz133 (L := (b34, .cells #[.int .i64 n, .slice a27 n31 c28] 24 (0, 0)) :: ((b17, .cells #[.slice a18 metal2.length c19, .int .i64 at_2, .int .u32 turn2] 134 (0, 0)) :: (Lb132 ++ (Lb29 ++ (Lb82 ++ []))))) (fC (fC fP)) g179.1 hx180
       refine ov (v_indexO Try.underlying26 Try.sizeOf3 rfl ha186 rfl (SlR.idx hz133 g179)) rfl ?_
       refine shO_on (b := false) 132 rfl (Env.isF rfl c174) ?_
       refine ov (v_load Try.isAgg3 rfl hs187 (hc190 0 (by decide))) rfl ?_
       refine shO_on (b := false) 132 rfl (Env.isF rfl c174) (om rfl rfl (shO_on (b := false) 132 rfl (Env.isF rfl c174) ?_))
       refine ov (v_neq rfl rfl) rfl ?_
       refine ov (v_pick_f (evD_false rfl c174) rfl) rfl ?_
       refine shO_nil ?_
       obtain rfl := inj1 r181
       exact mi (kc (kc (kx kr))) ⟨rfl, rfl, (sc rfl (sc rfl (sc rfl (sc rfl (sc rfl (sc rfl (sc rfl (sc rfl (sc rfl (sn _))))))))))⟩
     rintro e1 _ _ ⟨rfl, rfl, he191⟩
     refine shW_env _ he191 ?_; clear he191
     refine shW_cond rfl (fun c192 => ?_) (fun c192 => ?_)
     · have r193 := bt r152 c192; clear r152
       refine wsr (oa rfl rfl (shO_nil ?_))
       refine kW kn ?_
       refine shW_ret (inBlock_ret (andThen_ret (andThen_ret (inBlock_ret (andThen_ret ?_)))))
       refine q_res1 Try.results8 (res_tmp rfl) (sr) ?_
       obtain rfl := inj1 r193
       exact rfl
     have r194 := bf r152 c192; clear r152
     refine shW_skip (inBlock_n (id := 1) (shW_region ?_))
     refine ov (v_add rfl rfl (Lst.r64 hk104 c111 (SlR.llt hz83))) rfl ?_
     refine om rfl rfl (shO_nil ?_)
     subst hn105; exact le kr ⟨_, _, rfl, hk112, r194, (hF109.trans hF127), rfl, (sc rfl (sc rfl (sc rfl (sc rfl (sc rfl (sc rfl (sc rfl (sc rfl (sn _)))))))))⟩
   obtain rfl := Lst.zero hk104 c111
   rw [oyezlaw01_HearProved_l2] at r106
   refine shW_exit (andThen_exit (andThen_exit ?_))
   refine inBlock_exit ?_
   exact mi kr ⟨r106, hF109, rfl, (sc rfl (sc rfl (sc rfl (sc rfl (sc rfl (sn _))))))⟩
 rintro e1 F197 _ ⟨r195, hF198, rfl, he196⟩
 refine shW_env _ he196 ?_; clear he196
 replace h_numbers := h_numbers.mono (iE_ok _) hF198
 replace h_tries := h_tries.mono (iE_ok _) hF198
 replace h10 := h10.mono (iE_ok _) hF198
 replace h20 := h20.mono (iE_ok _) hF198
 replace hz30 := hz30.mono (iE_ok _) hF198
 replace hz83 := hz83.mono (iE_ok _) hF198
 rw [oyezlaw01_HearProved_j1] at r195
 refine shW_join (fun e1 F1 L1 => oyezlaw01_HearProved_j3 = some r ∧ FExt F197 F1 ∧ L1 = [] ∧ e1.sub []) ?_ ?_
 · refine wsr (om rfl rfl (shO_nil ?_))
   refine shW_block ?_
   obtain ⟨g199, r200⟩ := gd_ok r195; clear r195
   refine shW_lp (fun fu4 e1 F1 L1 => ∃ (k5 : Int), Ctr 0 5 k5 fu4 ∧ ∃ (q_at : Int) (q_turn : Int), oyezlaw01_HearProved_l4 metal2 n l n2 x l3 fu4 q_at q_turn = some r ∧ FExt F197 F1 ∧ L1 = ((b34, .cells #[.int .i64 n, .slice a27 n31 c28] 24 (0, 0)) :: ((b17, .cells #[.slice a18 metal2.length c19, .int .i64 q_at, .int .u32 q_turn] 134 (0, 0)) :: (Lb29 ++ (Lb82 ++ [])))) ∧ e1.sub [(6, .pointer (some ⟨b17, 0, none⟩)), (7, .pointer (some ⟨b34, 0, none⟩)), (8, .int .i64 n2), (10, .int .i64 x), (11, .slice a80 n84 c81), (143, .int .i64 k5)]) _ (m0 kr ⟨_, Ctr.start _ _, at_2, turn2, r200, FExt.refl _, rfl, (sc rfl (sc rfl (sc rfl (sc rfl (sc rfl (sc rfl (sn _)))))))⟩) ?_
   rintro fu4 e1 F205 _ ⟨k5, hk201, q_at, q_turn, r203, hF206, rfl, he204⟩
   refine shW_env _ he204 ?_; clear he204
   replace h_numbers := h_numbers.mono (iE_ok _) hF206
   replace h_tries := h_tries.mono (iE_ok _) hF206
   replace h10 := h10.mono (iE_ok _) hF206
   replace h20 := h20.mono (iE_ok _) hF206
   replace hz30 := hz30.mono (iE_ok _) hF206
   replace hz83 := hz83.mono (iE_ok _) hF206
   refine wsr ?_
   refine ov (v_lssK rfl rfl) rfl ?_
   refine shO_nil (shW_seq ?_)
   refine shW_condP rfl (fun c208 => ?_) (fun c208 => ?_)
   · obtain ⟨fu4, rfl, hk209⟩ := Ctr.succ hk201 c208
     rw [oyezlaw01_HearProved_l4] at r203
     refine shW_skip ?_
     refine shW_join (fun e1 F1 L1 => ∃ (q_at2 : Int) (q_turn2 : Int), oyezlaw01_HearProved_j5 (oyezlaw01_HearProved_l4 metal2 n l n2 x l3 fu4) q_at2 q_turn2 = some r ∧ FExt F205 F1 ∧ L1 = ((b17, .cells #[.slice a18 metal2.length c19, .int .i64 q_at2, .int .u32 q_turn2] 134 (0, 0)) :: ((b34, .cells #[.int .i64 n, .slice a27 n31 c28] 24 (0, 0)) :: (Lb29 ++ (Lb82 ++ [])))) ∧ e1.sub [(6, .pointer (some ⟨b17, 0, none⟩)), (7, .pointer (some ⟨b34, 0, none⟩)), (8, .int .i64 n2), (10, .int .i64 x), (11, .slice a80 n84 c81), (143, .int .i64 k5)]) ?_ ?_
     · refine shW_block ?_
       refine wsr (om rfl rfl ?_)
       obtain ⟨l5, h210, r211⟩ := b1_ok r203; clear r203
       refine o_callTO (Lb := []) (Lt := Lb82 ++ []) (Lr := (b34, .cells #[.int .i64 n, .slice a27 n31 c28] 24 (0, 0)) :: ((b17, .cells #[.slice a18 metal2.length c19, .int .i64 q_at, .int .u32 q_turn] 134 (0, 0)) :: (Lb29 ++ []))) rfl Try.call17 rfl rfl rfl (pT ((fC (fC (fS fP))).trans (pA pR)) (ln (lp (ln rfl)))) (fun F2 h2 h3 => by rw [(SlR.caps hz83).1]; exact oyezkit_Copy_int_w (hz83.row (iE_ok _) h2 (fun p hp => h3 p (List.mem_append_left _ hp))) h210) (fun _ _ _ _ hq => by obtain ⟨a216, n220, c217, Lb218, rfl, rfl, hz219⟩ := hq; exact ⟨_, _, _, _, rfl, rfl, hz219.flat (fun _ _ h => h)⟩) ?_; rintro _ F212 _ hF213 hd215 hn214 ⟨a216, n220, c217, Lb218, rfl, rfl, hz219⟩
       replace h_numbers := h_numbers.mono (iE_ok _) hF213
       replace h_tries := h_tries.mono (iE_ok _) hF213
       replace h10 := h10.mono (iE_ok _) hF213
       replace h20 := h20.mono (iE_ok _) hF213
       replace hz30 := hz30.mono (iE_ok _) hF213
       replace hz83 := hz83.mono (iE_ok _) hF213
       have hn222 := newp (Lb' := []) (by rfl) hd215 hn214
       replace hz219 := hz219.new fun p hp => hn222 p (by simp [hp])
       refine shO_L (lp (ln (lp (ln rfl)))) ?_
       refine kO (kf (fS (fS fO)) (kf (fS (fS fO)) kr)) ?_
       refine oa rfl rfl (shO_nil ?_)
       obtain ⟨q_at3, q_turn3, table, h225, r226⟩ := b3_ok r211; clear r211
       refine shW_join (fun e1 F1 L1 => ∃ (Lb223 : LH), FExt F212 F1 ∧ L1 = ((b17, .cells #[.slice a18 metal2.length c19, .int .i64 q_at3, .int .u32 q_turn3] 134 (0, 0)) :: ((b34, .cells #[.int .i64 n, .slice a27 n31 c28] 24 (0, 0)) :: (Lb29 ++ (Lb82 ++ (Lb223 ++ []))))) ∧ e1.sub [(6, .pointer (some ⟨b17, 0, none⟩)), (7, .pointer (some ⟨b34, 0, none⟩)), (8, .int .i64 n2), (10, .int .i64 x), (11, .slice a80 n84 c81), (21, .slice a216 n220 c217), (143, .int .i64 k5)] ∧ SlR K.w0.heap.size 3 1 (iE .i64) F1 a216 n220 c217 table Lb223) ?_ ?_
       · clear r226
         refine wsr (om rfl rfl ?_)
         obtain ⟨n10, at_6, turn6, h227, r228⟩ := b3_ok h225; clear h225
         refine o_callG (Lb := [(b17, .cells #[.slice a18 metal2.length c19, .int .i64 q_at, .int .u32 q_turn] 134 (0, 0))]) (Lr := (b34, .cells #[.int .i64 n, .slice a27 n31 c28] 24 (0, 0)) :: (Lb218 ++ (Lb82 ++ (Lb29 ++ [])))) rfl Try.call49 rfl rfl rfl (((fC fO).trans (pC pR))) (oyezkit_Bell_Strike_w h20 h227) ?_; rintro _ F229 _ hF230 hd232 hn231 ⟨rfl, rfl⟩
         replace h_numbers := h_numbers.mono (iE_ok _) hF230
         replace h_tries := h_tries.mono (iE_ok _) hF230
         replace h10 := h10.mono (iE_ok _) hF230
         replace h20 := h20.mono (iE_ok _) hF230
         replace hz30 := hz30.mono (iE_ok _) hF230
         replace hz83 := hz83.mono (iE_ok _) hF230
         replace hz219 := hz219.mono (iE_ok _) hF230
         refine shO_L (lb (ln rfl)) ?_
         refine om rfl rfl (shO_nil ?_)
         refine shW_block ?_
         obtain ⟨g235, r236⟩ := gd_ok r228; clear r228
         refine shW_lp (fun fu6 e1 F1 L1 => ∃ (k6 : Int), Ctr 0 n10 k6 fu6 ∧ ∃ (q_at4 : Int) (q_turn4 : Int) (table2 : List Int) (Lb233 : LH), oyezlaw01_HearProved_l6 metal2 fu6 q_at4 q_turn4 table2 = some (q_at3, q_turn3, table) ∧ FExt F229 F1 ∧ L1 = ((b17, .cells #[.slice a18 metal2.length c19, .int .i64 q_at4, .int .u32 q_turn4] 134 (0, 0)) :: ((b34, .cells #[.int .i64 n, .slice a27 n31 c28] 24 (0, 0)) :: (Lb29 ++ (Lb82 ++ (Lb233 ++ []))))) ∧ e1.sub [(6, .pointer (some ⟨b17, 0, none⟩)), (7, .pointer (some ⟨b34, 0, none⟩)), (8, .int .i64 n2), (10, .int .i64 x), (11, .slice a80 n84 c81), (21, .slice a216 n220 c217), (143, .int .i64 k5), (148, .int .i64 n10), (149, .int .i64 k6)] ∧ SlR K.w0.heap.size 3 1 (iE .i64) F1 a216 n220 c217 table2 Lb233) _ (m0 (kc (kc (kg (fS (fS fP)) (kg (fS fP) kr)))) ⟨_, Ctr.start _ _, at_6, turn6, l5, Lb218, r236, FExt.refl _, rfl, (sc rfl (sc rfl (sc rfl (sc rfl (sc rfl (sc rfl (sc rfl (sc rfl (sc rfl (sn _)))))))))), hz219⟩) ?_
         rintro fu6 e1 F241 _ ⟨k6, hk237, q_at4, q_turn4, table2, Lb233, r239, hF242, rfl, he240, hz234⟩
         refine shW_env _ he240 ?_; clear he240
         replace h_numbers := h_numbers.mono (iE_ok _) hF242
         replace h_tries := h_tries.mono (iE_ok _) hF242
         replace h10 := h10.mono (iE_ok _) hF242
         replace h20 := h20.mono (iE_ok _) hF242
         replace hz30 := hz30.mono (iE_ok _) hF242
         replace hz83 := hz83.mono (iE_ok _) hF242
         refine wsr ?_
         refine ov (v_lssK rfl rfl) rfl ?_
         refine shO_nil (shW_seq ?_)
         refine shW_condP rfl (fun c244 => ?_) (fun c244 => ?_)
         · obtain ⟨fu6, rfl, hk245⟩ := Ctr.succ hk237 c244
           rw [oyezlaw01_HearProved_l6] at r239
           refine shW_skip (shW_seq ?_)
           refine shW_block ?_
           refine shW_drawM [(.still, 0), (.still, 1), (.still, 2), (.still, 3), (.still, 4), (.still, 8), (.seq, 5), (.still, 6), (.still, 7), (.seq, 9), (.still, 10), (.still, 11), (.seq, 12)] (by kernel_rfl) (by kernel_rfl) (trivial) (by rfl) (by kernel_rfl) ?_
           refine shM_v (v := .slice a216 n220 c217) (ek := [(21, .slice a216 n220 c217)]) (Ls := []) rfl rfl rfl rfl ((sc rfl (sn _))) (by kernel_rfl) sm (fun H F' L' hF' hL' => v_move rfl) ?_
           refine shM_v (v := .pointer (some ⟨b17, 0, none⟩)) (ek := [(6, .pointer (some ⟨b17, 0, none⟩))]) (Ls := []) rfl rfl rfl rfl ((sc rfl (sn _))) (by kernel_rfl) sm (fun H F' L' hF' hL' => v_move rfl) ?_
           refine shM_v (v := .slice a216 n220 c217) (ek := [(21, .slice a216 n220 c217)]) (Ls := []) rfl rfl rfl rfl ((sc rfl (sn _))) (by kernel_rfl) sm (fun H F' L' hF' hL' => v_move rfl) ?_
           refine shM_v (v := .int .i64 (table2.length : Int)) (ek := [(153, .slice a216 n220 c217)]) (Ls := []) rfl rfl rfl rfl ((sc rfl (sn _))) (by kernel_rfl) sm (fun H F' L' hF' hL' => (v_lenS Try.underlying26 rfl).i (SlR.lenI hz234)) ?_
           obtain ⟨g246, r247⟩ := gd_ok r239; clear r239
           refine shM_v (v := .int .i64 ((table2.length : Int) - 1)) (ek := [(154, .int .i64 (table2.length : Int))]) (Ls := []) rfl rfl rfl rfl ((sc rfl (sn _))) (by kernel_rfl) sm (fun H F' L' hF' hL' => v_sub rfl rfl g246) ?_
           refine shM_v (v := .pointer (some ⟨b17, 0, none⟩)) (ek := [(6, .pointer (some ⟨b17, 0, none⟩))]) (Ls := []) rfl rfl rfl rfl ((sc rfl (sn _))) (by kernel_rfl) sm (fun H F' L' hF' hL' => v_move rfl) ?_
           refine ⟨_, [(152, .pointer (some ⟨b17, 0, none⟩)), (155, .int .i64 ((table2.length : Int) - 1))], rfl, rfl, (sc rfl (sc rfl (sn _))), by kernel_rfl, ?_⟩; intro H
           obtain ⟨n11, at_7, turn7, h248, r249⟩ := b3_ok r247; clear r247
           refine o_callG (Lb := [(b17, .cells #[.slice a18 metal2.length c19, .int .i64 q_at4, .int .u32 q_turn4] 134 (0, 0))]) (Lr := (b34, .cells #[.int .i64 n, .slice a27 n31 c28] 24 (0, 0)) :: (Lb29 ++ (Lb82 ++ (Lb233 ++ [])))) rfl Try.call48 rfl rfl rfl (pR) (oyezkit_Bell_Stroke_w h20 h248) ?_; rintro _ F250 _ hF251 hd253 hn252 ⟨rfl, rfl⟩
           replace h_numbers := h_numbers.mono (iE_ok _) hF251
           replace h_tries := h_tries.mono (iE_ok _) hF251
           replace h10 := h10.mono (iE_ok _) hF251
           replace h20 := h20.mono (iE_ok _) hF251
           replace hz30 := hz30.mono (iE_ok _) hF251
           replace hz83 := hz83.mono (iE_ok _) hF251
           replace hz234 := hz234.mono (iE_ok _) hF251
           refine shO_L (lb (ln rfl)) ?_
           refine shO_nil ⟨_, rfl, hF251, [8, 0], by kernel_rfl, .inr (fun d h => by cases h; rfl), (List.forall_mem_cons.2 ⟨sm, (List.forall_mem_cons.2 ⟨sm, (fun _ h => absurd h List.not_mem_nil)⟩)⟩), ?_⟩
           obtain ⟨x5, g254, hx255, r256⟩ := ix_ok r249; clear r249
           obtain ⟨b257, o258, c259, vs260, ha261, hs262, hle263, rfl, hl264, hc265⟩ := SlR.at (iE_ok _) hz234 (L := Lb233 ++ []) fP g254.1 hx255
           refine shM_v (v := .pointer (some ⟨b257, o258 + (n11 : Int).toNat * 1, none⟩)) (ek := [(151, .slice a216 n220 c217), (156, .int .i64 n11)]) (Ls := []) rfl rfl rfl rfl ((sc rfl (sc rfl (sn _)))) (by kernel_rfl) sm (fun H F' L' hF' hL' => v_indexO Try.underlying26 Try.sizeOf3 rfl ha261 rfl (SlR.idx hz234 g254)) ?_
           refine shM_v (v := .int .i64 x5) (ek := [(157, .pointer (some ⟨b257, o258 + (n11 : Int).toNat * 1, none⟩))]) (Ls := Lb233 ++ []) rfl rfl rfl rfl ((sc rfl (sn _))) (by kernel_rfl) (s0 (s1 (s1 (s3 (s3 (s4 sr)))))) (fun H F' L' hF' hL' => v_load Try.isAgg3 rfl (hs262.ext hF' hL') (hc265 0 (by decide))) ?_
           refine ⟨_, [(159, .pointer (some ⟨b17, 0, none⟩))], rfl, rfl, (sc rfl (sn _)), by kernel_rfl, ?_⟩; intro H
           obtain ⟨n12, at_8, turn8, h266, r267⟩ := b3_ok r256; clear r256
           refine o_callG (Lb := [(b17, .cells #[.slice a18 metal2.length c19, .int .i64 at_7, .int .u32 turn7] 134 (0, 0))]) (Lr := (b34, .cells #[.int .i64 n, .slice a27 n31 c28] 24 (0, 0)) :: (Lb29 ++ (Lb82 ++ (Lb233 ++ [])))) rfl Try.call49 rfl rfl rfl (pR) (oyezkit_Bell_Strike_w h20 h266) ?_; rintro _ F268 _ hF269 hd271 hn270 ⟨rfl, rfl⟩
           replace h_numbers := h_numbers.mono (iE_ok _) hF269
           replace h_tries := h_tries.mono (iE_ok _) hF269
           replace h10 := h10.mono (iE_ok _) hF269
           replace h20 := h20.mono (iE_ok _) hF269
           replace hz30 := hz30.mono (iE_ok _) hF269
           replace hz83 := hz83.mono (iE_ok _) hF269
           replace hz234 := hz234.mono (iE_ok _) hF269
           refine shO_L (lb (ln rfl)) ?_
           refine shO_nil ⟨_, rfl, hF269, [7, 6, 0], by kernel_rfl, .inr (fun d h => by cases h; rfl), (List.forall_mem_cons.2 ⟨s0 (s1 (s1 (s3 (s3 (s4 sr))))), (List.forall_mem_cons.2 ⟨sm, (List.forall_mem_cons.2 ⟨sm, (fun _ h => absurd h List.not_mem_nil)⟩)⟩)⟩), ?_⟩
           obtain ⟨g272, r273⟩ := gd_ok r267; clear r267
           refine shM_v (v := .int .i64 (x5 + n12)) (ek := [(158, .int .i64 x5), (160, .int .i64 n12)]) (Ls := []) rfl rfl rfl rfl ((sc rfl (sc rfl (sn _)))) (by kernel_rfl) sm (fun H F' L' hF' hL' => v_add rfl rfl g272) ?_
           obtain ⟨b274, o275, c276, vs277, ha278, hs279, hle280, rfl, hl281, hc282⟩ := SlR.at (iE_ok _) hz234 (L := Lb233 ++ []) fP g254.1 hx255
           refine shM_v (v := .pointer (some ⟨b274, o275 + (n11 : Int).toNat * 1, none⟩)) (ek := [(151, .slice a216 n220 c217), (156, .int .i64 n11)]) (Ls := []) rfl rfl rfl rfl ((sc rfl (sc rfl (sn _)))) (by kernel_rfl) sm (fun H F' L' hF' hL' => v_indexO Try.underlying26 Try.sizeOf3 rfl ha278 rfl (SlR.idx hz234 g254)) ?_
           refine ⟨_, [(161, .int .i64 (x5 + n12)), (162, .pointer (some ⟨b274, o275 + (n11 : Int).toNat * 1, none⟩))], rfl, rfl, (sc rfl (sc rfl (sn _))), by kernel_rfl, ?_⟩; intro H
           obtain ⟨l6, h283, r284⟩ := bv_ok r273; clear r273
           refine o_storeZ (u := x5 + n12) Try.sizeOf3 (iE_ok _) rfl ha278 rfl rfl (fun _ => .c (.c (.s (.s .h)))) hz234 h283 g254 ?_; intro Lb285 hz286
           refine shO_nil ⟨undef, rfl, FExt.refl _, [], by kernel_rfl, .inl rfl, (fun _ h => absurd h List.not_mem_nil), ?_⟩
           refine shM_nil ?_
           refine inBlock_n (id := 5) (shW_region ?_)
           refine ov (v_add rfl rfl (Ctr.r64 hk237 c244 g235)) rfl ?_
           refine om rfl rfl (shO_nil ?_)
           exact le kr ⟨_, hk245, at_8, turn8, l6, Lb285, r284, ((hF242.trans hF251).trans hF269), rfl, (sc rfl (sc rfl (sc rfl (sc rfl (sc rfl (sc rfl (sc rfl (sc rfl (sc rfl (sn _)))))))))), hz286⟩
         obtain rfl := Ctr.zero hk237 c244
         rw [oyezlaw01_HearProved_l6] at r239
         refine shW_exit (andThen_exit (andThen_exit ?_))
         refine inBlock_exit ?_
         obtain ⟨rfl, rfl, rfl⟩ := inj3 r239
         exact mi kr ⟨Lb233, (hF230.trans hF242), rfl, (sc rfl (sc rfl (sc rfl (sc rfl (sc rfl (sc rfl (sc rfl (sn _)))))))), hz234⟩
       rintro e1 F288 _ ⟨Lb223, hF289, rfl, he287, hz224⟩
       refine shW_env _ he287 ?_; clear he287
       replace h_numbers := h_numbers.mono (iE_ok _) hF289
       replace h_tries := h_tries.mono (iE_ok _) hF289
       replace h10 := h10.mono (iE_ok _) hF289
       replace h20 := h20.mono (iE_ok _) hF289
       replace hz30 := hz30.mono (iE_ok _) hF289
       replace hz83 := hz83.mono (iE_ok _) hF289
       refine wsr ?_
       refine ov (v_loadA (cs := #[.int .i64 n, .slice a27 n31 c28]) Try.isAgg24 Try.sizeOf24 rfl (Has.own 1 rfl) (Nat.le_of_ble_eq_true rfl) rfl) rfl ?_
       refine om rfl rfl (om rfl rfl (om rfl rfl ?_))
       obtain ⟨ok2, n13, h290, r291⟩ := b2_ok r226; clear r226
       refine o_callT (Lt := Lb29 ++ (Lb223 ++ [])) (Lr := (b17, .cells #[.slice a18 metal2.length c19, .int .i64 q_at3, .int .u32 q_turn3] 134 (0, 0)) :: ((b34, .cells #[.int .i64 n, .slice a27 n31 c28] 24 (0, 0)) :: (Lb82 ++ []))) rfl Try.call24 rfl rfl rfl (pT ((fC (fC fP)).trans (pA ((fC (fC (fS fP))).trans (pA pR)))) (lp (lp (ln rfl)))) (fun F2 h2 h3 => by rw [(SlR.caps hz30).1]; rw [(SlR.caps hz224).1]; exact hear_Holds_w (hz30.row (iE_ok _) h2 (fun p hp => h3 p (List.mem_append_left _ hp))) (hz224.row (iE_ok _) h2 (fun p hp => h3 p (List.mem_append_right _ (List.mem_append_left _ hp)))) h290) ?_
       refine om rfl rfl (ox rfl rfl rfl (ox rfl rfl rfl (oa rfl rfl (oa rfl rfl (shO_nil (shW_seq (wsr (om rfl rfl ?_))))))))
       refine ov (v_neq rfl rfl) rfl ?_
       refine shO_nil ?_
       refine shW_condP rfl (fun c292 => ?_) (fun c292 => ?_)
       · have r293 := ite_t r291 c292; clear r291
         refine wsr (oa rfl rfl (shO_nil ?_))
         refine kW kn ?_
         refine shW_ret (andThen_ret (inBlock_ret (andThen_ret (andThen_ret (inBlock_ret (andThen_ret ?_))))))
         refine q_res1 Try.results8 (res_tmp rfl) (sr) ?_
         obtain rfl := inj1 r293
         exact rfl
       have r294 := ite_f r291 c292; clear r291
       refine shW_skip ?_
       refine shW_join (fun e1 F1 L1 => oyezlaw01_HearProved_j7 metal2 n l n2 x l3 q_at3 q_turn3 (oyezlaw01_HearProved_l4 metal2 n l n2 x l3 fu4) = some r ∧ F288 = F1 ∧ L1 = ((b17, .cells #[.slice a18 metal2.length c19, .int .i64 q_at3, .int .u32 q_turn3] 134 (0, 0)) :: ((b34, .cells #[.int .i64 n, .slice a27 n31 c28] 24 (0, 0)) :: (Lb29 ++ (Lb82 ++ [])))) ∧ e1.sub [(6, .pointer (some ⟨b17, 0, none⟩)), (7, .pointer (some ⟨b34, 0, none⟩)), (8, .int .i64 n2), (10, .int .i64 x), (11, .slice a80 n84 c81), (143, .int .i64 k5)]) ?_ ?_
       · refine wsr (om rfl rfl ?_)
         refine ov ((v_lenS Try.underlying26 rfl).i (SlR.lenI hz224)) rfl ?_
         refine om rfl rfl (shO_nil ?_)
         refine shW_block ?_
         refine shW_lp (fun fu8 e1 F1 L1 => ∃ (tl3 : List Int) (k7 : Int), tl3.length = fu8 ∧ Lst table k7 tl3 ∧ oyezlaw01_HearProved_l8 metal2 n l n2 x l3 q_at3 q_turn3 ok2 (oyezlaw01_HearProved_l4 metal2 n l n2 x l3 fu4) tl3 k7 = some r ∧ F288 = F1 ∧ L1 = ((b17, .cells #[.slice a18 metal2.length c19, .int .i64 q_at3, .int .u32 q_turn3] 134 (0, 0)) :: ((b34, .cells #[.int .i64 n, .slice a27 n31 c28] 24 (0, 0)) :: (Lb29 ++ (Lb82 ++ (Lb223 ++ []))))) ∧ e1.sub [(6, .pointer (some ⟨b17, 0, none⟩)), (7, .pointer (some ⟨b34, 0, none⟩)), (8, .int .i64 n2), (10, .int .i64 x), (11, .slice a80 n84 c81), (22, .bool ok2), (143, .int .i64 k5), (174, .slice a216 n220 c217), (175, .int .i64 (table.length : Int)), (176, .int .i64 k7)]) _ (m0 kr ⟨_, _, rfl, Lst.start _, r294, rfl, rfl, (sc rfl (sc rfl (sc rfl (sc rfl (sc rfl (sc rfl (sc rfl (sc rfl (sc rfl (sc rfl (sn _)))))))))))⟩) ?_
         rintro fu8 e1 _ _ ⟨tl3, k7, hn296, hk295, r297, rfl, rfl, he298⟩
         refine shW_env _ he298 ?_; clear he298
         refine wsr ?_
         refine ov (v_lssK rfl rfl) rfl ?_
         refine shO_nil (shW_seq ?_)
         refine shW_condP rfl (fun c300 => ?_) (fun c300 => ?_)
         · obtain ⟨x6, tl4, rfl, hx302, g303, hk301⟩ := Lst.succ hk295 c300
           rw [oyezlaw01_HearProved_l8] at r297
           refine shW_skip (shW_seq ?_)
           refine shW_block ?_
           refine wsr (om rfl rfl ?_)
           obtain ⟨b304, o305, c306, vs307, ha308, hs309, hle310, rfl, hl311, hc312⟩ := SlR.at (iE_ok _) hz224 (L := (b17, .cells #[.slice a18 metal2.length c19, .int .i64 q_at3, .int .u32 q_turn3] 134 (0, 0)) :: ((b34, .cells #[.int .i64 n, .slice a27 n31 c28] 24 (0, 0)) :: (Lb29 ++ (Lb82 ++ (Lb223 ++ []))))) (fC (fC (fS (fS fP)))) g303.1 hx302
           refine ov (v_indexO Try.underlying26 Try.sizeOf3 rfl ha308 rfl (SlR.idx hz224 g303)) rfl ?_
           refine ov (v_load Try.isAgg3 rfl hs309 (hc312 0 (by decide))) rfl ?_
           refine oa rfl rfl (oa rfl rfl (shO_nil ?_))
           obtain ⟨k8, h313, r314⟩ := b1_ok r297; clear r297
           refine shW_join (fun e1 F1 L1 => F288 = F1 ∧ L1 = ((b17, .cells #[.slice a18 metal2.length c19, .int .i64 q_at3, .int .u32 q_turn3] 134 (0, 0)) :: ((b34, .cells #[.int .i64 n, .slice a27 n31 c28] 24 (0, 0)) :: (Lb29 ++ (Lb82 ++ (Lb223 ++ []))))) ∧ e1.sub [(6, .pointer (some ⟨b17, 0, none⟩)), (7, .pointer (some ⟨b34, 0, none⟩)), (8, .int .i64 n2), (10, .int .i64 x), (11, .slice a80 n84 c81), (22, .bool ok2), (143, .int .i64 k5), (174, .slice a216 n220 c217), (175, .int .i64 (table.length : Int)), (176, .int .i64 k7), (196, .bool k8)]) ?_ ?_
           · clear r314
             refine shW_region (om rfl rfl (om rfl rfl ?_))
             rcases bool_two ok2 with c315 | c315
             · have r316 := bt h313 c315; clear h313
               refine shO_on (b := true) 182 rfl (EnvB rfl c315) (om rfl rfl (shO_on (b := true) 182 rfl (EnvB rfl c315) (om rfl rfl (shO_on (b := true) 182 rfl (EnvB rfl c315) ?_))))
               obtain ⟨x7, g317, hx318, r319⟩ := ix_ok r316; clear r316
               obtain ⟨b320, o321, c322, vs323, ha324, hs325, hle326, rfl, hl327, hc328⟩ := SlR.at (iE_ok _) hz83 (L := (b17, .cells #[.slice a18 metal2.length c19, .int .i64 q_at3, .int .u32 q_turn3] 134 (0, 0)) :: ((b34, .cells #[.int .i64 n, .slice a27 n31 c28] 24 (0, 0)) :: (Lb29 ++ (Lb82 ++ (Lb223 ++ []))))) (fC (fC (fS fP))) g317.1 hx318
               refine ov (v_indexO Try.underlying26 Try.sizeOf3 rfl ha324 rfl (SlR.idx hz83 g317)) rfl ?_
               refine shO_on (b := true) 182 rfl (EnvB rfl c315) ?_
               refine ov (v_load Try.isAgg3 rfl hs325 (hc328 0 (by decide))) rfl ?_
               refine shO_on (b := true) 182 rfl (EnvB rfl c315) ?_
               refine ov (v_neq rfl rfl) rfl ?_
               refine ov (v_pick_t (evB rfl c315) rfl) rfl ?_
               refine om rfl rfl ?_
               by_cases c329 : x7 ≠ (-1)
               · have r330 := ite_t r319 c329; clear r319
                 refine shO_on (b := true) 189 rfl (Env.isT rfl c329) (om rfl rfl (shO_on (b := true) 189 rfl (Env.isT rfl c329) (om rfl rfl (shO_on (b := true) 189 rfl (Env.isT rfl c329) (om rfl rfl (shO_on (b := true) 189 rfl (Env.isT rfl c329) ?_))))))
                 obtain ⟨b331, o332, c333, vs334, ha335, hs336, hle337, rfl, hl338, hc339⟩ := SlR.at (iE_ok _) hz83 (L := (b17, .cells #[.slice a18 metal2.length c19, .int .i64 q_at3, .int .u32 q_turn3] 134 (0, 0)) :: ((b34, .cells #[.int .i64 n, .slice a27 n31 c28] 24 (0, 0)) :: (Lb29 ++ (Lb82 ++ (Lb223 ++ []))))) (fC (fC (fS fP))) g317.1 hx318
                 refine ov (v_indexO Try.underlying26 Try.sizeOf3 rfl ha335 rfl (SlR.idx hz83 g317)) rfl ?_
                 refine shO_on (b := true) 189 rfl (Env.isT rfl c329) ?_
                 refine ov (v_load Try.isAgg3 rfl hs336 (hc339 0 (by decide))) rfl ?_
                 refine shO_on (b := true) 189 rfl (Env.isT rfl c329) ?_
                 refine ov (v_gtrK rfl rfl) rfl ?_
                 refine ov (v_pick_t (evD_true rfl c329) rfl) rfl ?_
                 refine shO_nil ?_
                 obtain rfl := inj1 r330
                 exact mi kr ⟨rfl, rfl, (sc rfl (sc rfl (sc rfl (sc rfl (sc rfl (sc rfl (sc rfl (sc rfl (sc rfl (sc rfl (sc rfl (sn _))))))))))))⟩
               have r340 := ite_f r319 c329; clear r319
               refine shO_off (b' := false) 189 rfl (Env.isF rfl c329) rfl rfl (shO_off (b' := false) 189 rfl (Env.isF rfl c329) rfl rfl (shO_off (b' := false) 189 rfl (Env.isF rfl c329) rfl rfl (shO_off (b' := false) 189 rfl (Env.isF rfl c329) rfl rfl (shO_off (b' := false) 189 rfl (Env.isF rfl c329) rfl rfl (shO_off (b' := false) 189 rfl (Env.isF rfl c329) rfl rfl ?_)))))
               refine ov (v_pick_f (evD_false rfl c329) rfl) rfl ?_
               refine shO_nil ?_
               obtain rfl := inj1 r340
               exact mi kr ⟨rfl, rfl, (sc rfl (sc rfl (sc rfl (sc rfl (sc rfl (sc rfl (sc rfl (sc rfl (sc rfl (sc rfl (sc rfl (sn _))))))))))))⟩
             have r341 := bf h313 c315; clear h313
             refine shO_off (b' := false) 182 rfl (EnvB rfl c315) rfl rfl (shO_off (b' := false) 182 rfl (EnvB rfl c315) rfl rfl (shO_off (b' := false) 182 rfl (EnvB rfl c315) rfl rfl (shO_off (b' := false) 182 rfl (EnvB rfl c315) rfl rfl (shO_off (b' := false) 182 rfl (EnvB rfl c315) rfl rfl ?_))))
             refine ov (v_pick_f (evB rfl c315) rfl) rfl ?_
             refine om rfl rfl (shO_off (b' := false) 189 rfl rfl rfl rfl (shO_off (b' := false) 189 rfl rfl rfl rfl (shO_off (b' := false) 189 rfl rfl rfl rfl (shO_off (b' := false) 189 rfl rfl rfl rfl (shO_off (b' := false) 189 rfl rfl rfl rfl (shO_off (b' := false) 189 rfl rfl rfl rfl ?_))))))
             refine ov (v_pick_f rfl rfl) rfl ?_
             refine shO_nil ?_
             obtain rfl := inj1 r341
             exact mi kr ⟨rfl, rfl, (sc rfl (sc rfl (sc rfl (sc rfl (sc rfl (sc rfl (sc rfl (sc rfl (sc rfl (sc rfl (sc rfl (sn _))))))))))))⟩
           rintro e1 _ _ ⟨rfl, rfl, he342⟩
           refine shW_env _ he342 ?_; clear he342
           refine shW_cond rfl (fun c343 => ?_) (fun c343 => ?_)
           · have r344 := bt r314 c343; clear r314
             refine wsr (oa rfl rfl (shO_nil ?_))
             refine kW kn ?_
             refine shW_ret (inBlock_ret (andThen_ret (andThen_ret (inBlock_ret (andThen_ret (inBlock_ret (andThen_ret (andThen_ret (inBlock_ret ?_)))))))))
             refine andThen_ret ?_
             refine q_res1 Try.results8 (res_tmp rfl) (sr) ?_
             obtain rfl := inj1 r344
             exact rfl
           have r345 := bf r314 c343; clear r314
           refine shW_skip (inBlock_n (id := 7) (shW_region ?_))
           refine ov (v_add rfl rfl (Lst.r64 hk295 c300 (SlR.llt hz224))) rfl ?_
           refine om rfl rfl (shO_nil ?_)
           subst hn296; exact le kr ⟨_, _, rfl, hk301, r345, rfl, rfl, (sc rfl (sc rfl (sc rfl (sc rfl (sc rfl (sc rfl (sc rfl (sc rfl (sc rfl (sc rfl (sn _)))))))))))⟩
         obtain rfl := Lst.zero hk295 c300
         rw [oyezlaw01_HearProved_l8] at r297
         refine shW_exit (andThen_exit (andThen_exit ?_))
         refine inBlock_exit ?_
         exact mi (kc (kc (ka (ka kn)))) ⟨r297, rfl, rfl, (sc rfl (sc rfl (sc rfl (sc rfl (sc rfl (sc rfl (sn _)))))))⟩
       rintro e1 _ _ ⟨r346, rfl, rfl, he347⟩
       refine shW_env _ he347 ?_; clear he347
       rw [oyezlaw01_HearProved_j7] at r346
       refine wsr (om rfl rfl ?_)
       refine o_buildSlice (cs := #[.int .i64 x]) rfl rfl (buildSlice_all slt_26 [.int .i64 x] rfl (by decide) (by simp [Value.cells]) (by decide)) ?_; intro b348 hb348
       have hz350 : SlR K.w0.heap.size 3 1 (iE .i64) F288 (some ⟨b348, 0, none⟩) 1 1 [x] [(b348, .cells #[.int .i64 x] 3 (0, 0))] := SlR.of_block (vss := [[.int .i64 x]]) (iE_ok _) hb348 (.cons rfl .nil) rfl rfl (by simp [maxLen])
       generalize hLLb349 : ([(b348, .cells #[.int .i64 x] 3 (0, 0))] : LH) = Lb349 at hz350
       refine shO_perm (L' := Lb349 ++ ((b17, .cells #[.slice a18 metal2.length c19, .int .i64 q_at3, .int .u32 q_turn3] 134 (0, 0)) :: ((b34, .cells #[.int .i64 n, .slice a27 n31 c28] 24 (0, 0)) :: (Lb29 ++ (Lb82 ++ []))))) (by rw [← hLLb349]; exact fO) ?_
       refine shO_perm (L' := (b17, .cells #[.slice a18 metal2.length c19, .int .i64 q_at3, .int .u32 q_turn3] 134 (0, 0)) :: ((b34, .cells #[.int .i64 n, .slice a27 n31 c28] 24 (0, 0)) :: (Lb349 ++ (Lb29 ++ (Lb82 ++ []))))) (List.Perm.symm (fC (fC fP))) ?_
       refine oa rfl rfl (nsr (om rfl rfl ?_))
       obtain ⟨n14, at_9, turn9, h352, r353⟩ := b3_ok r346; clear r346
       refine o_callG (Lb := [(b17, .cells #[.slice a18 metal2.length c19, .int .i64 q_at3, .int .u32 q_turn3] 134 (0, 0))]) (Lr := (b34, .cells #[.int .i64 n, .slice a27 n31 c28] 24 (0, 0)) :: (Lb349 ++ (Lb29 ++ (Lb82 ++ [])))) rfl Try.call48 rfl rfl rfl (pR) (oyezkit_Bell_Stroke_w h20 h352) ?_; rintro _ F354 _ hF355 hd357 hn356 ⟨rfl, rfl⟩
       replace h_numbers := h_numbers.mono (iE_ok _) hF355
       replace h_tries := h_tries.mono (iE_ok _) hF355
       replace h10 := h10.mono (iE_ok _) hF355
       replace h20 := h20.mono (iE_ok _) hF355
       replace hz30 := hz30.mono (iE_ok _) hF355
       replace hz83 := hz83.mono (iE_ok _) hF355
       replace hz350 := hz350.mono (iE_ok _) hF355
       refine shO_L (lb (ln rfl)) ?_
       refine om rfl rfl (shO_nil ?_)
       refine shW_block ?_
       obtain ⟨g364, r365⟩ := gd_ok r353; clear r353
       refine shW_lp (fun fu9 e1 F1 L1 => ∃ (k9 : Int), Ctr 0 n14 k9 fu9 ∧ ∃ (q_at5 : Int) (q_turn5 : Int) (way : List Int) (a358 : Option Addr) (n362 : Nat) (c359 : Nat) (Lb360 : LH), oyezlaw01_HearProved_l9 metal2 n l n2 l3 (oyezlaw01_HearProved_l4 metal2 n l n2 x l3 fu4) fu9 q_at5 q_turn5 way = some r ∧ FExt F354 F1 ∧ L1 = ((b17, .cells #[.slice a18 metal2.length c19, .int .i64 q_at5, .int .u32 q_turn5] 134 (0, 0)) :: ((b34, .cells #[.int .i64 n, .slice a27 n31 c28] 24 (0, 0)) :: (Lb29 ++ (Lb82 ++ (Lb360 ++ []))))) ∧ e1.sub [(6, .pointer (some ⟨b17, 0, none⟩)), (7, .pointer (some ⟨b34, 0, none⟩)), (8, .int .i64 n2), (10, .int .i64 x), (11, .slice a80 n84 c81), (26, .slice a358 n362 c359), (143, .int .i64 k5), (201, .int .i64 n14), (202, .int .i64 k9)] ∧ SlR K.w0.heap.size 3 1 (iE .i64) F1 a358 n362 c359 way Lb360) _ (m0 (kc (kc (kg (fS fP) (kg (fS fP) kr)))) ⟨_, Ctr.start _ _, at_9, turn9, [x], (some ⟨b348, 0, none⟩), 1, 1, Lb349, r365, FExt.refl _, rfl, (sc rfl (sc rfl (sc rfl (sc rfl (sc rfl (sc rfl (sc rfl (sc rfl (sc rfl (sn _)))))))))), hz350⟩) ?_
       rintro fu9 e1 F370 _ ⟨k9, hk366, q_at5, q_turn5, way, a358, n362, c359, Lb360, r368, hF371, rfl, he369, hz361⟩
       refine shW_env _ he369 ?_; clear he369
       replace h_numbers := h_numbers.mono (iE_ok _) hF371
       replace h_tries := h_tries.mono (iE_ok _) hF371
       replace h10 := h10.mono (iE_ok _) hF371
       replace h20 := h20.mono (iE_ok _) hF371
       replace hz30 := hz30.mono (iE_ok _) hF371
       replace hz83 := hz83.mono (iE_ok _) hF371
       refine wsr ?_
       refine ov (v_lssK rfl rfl) rfl ?_
       refine shO_nil (shW_seq ?_)
       refine shW_condP rfl (fun c373 => ?_) (fun c373 => ?_)
       · obtain ⟨fu9, rfl, hk374⟩ := Ctr.succ hk366 c373
         rw [oyezlaw01_HearProved_l9] at r368
         refine shW_skip (shW_seq ?_)
         refine shW_block ?_
         refine wsr (om rfl rfl (om rfl rfl ?_))
         refine ov ((v_lenS Try.underlying26 rfl).i (SlR.lenI hz361)) rfl ?_
         obtain ⟨g375, r376⟩ := gd_ok r368; clear r368
         refine ov (v_sub rfl rfl g375) rfl ?_
         obtain ⟨x8, g377, hx378, r379⟩ := ix_ok r376; clear r376
         obtain ⟨b380, o381, c382, vs383, ha384, hs385, hle386, rfl, hl387, hc388⟩ := SlR.at (iE_ok _) hz361 (L := (b17, .cells #[.slice a18 metal2.length c19, .int .i64 q_at5, .int .u32 q_turn5] 134 (0, 0)) :: ((b34, .cells #[.int .i64 n, .slice a27 n31 c28] 24 (0, 0)) :: (Lb29 ++ (Lb82 ++ (Lb360 ++ []))))) (fC (fC (fS (fS fP)))) g377.1 hx378
         refine ov (v_indexO Try.underlying26 Try.sizeOf3 rfl ha384 rfl (SlR.idx hz361 g377)) rfl ?_
         refine ov (v_load Try.isAgg3 rfl hs385 (hc388 0 (by decide))) rfl ?_
         refine oa rfl rfl (shO_nil (shW_seq ?_))
         refine shW_drawM [(.still, 0), (.still, 1), (.still, 2), (.still, 3), (.still, 4), (.still, 5), (.pre, 6), (.still, 7), (.seq, 8), (.alloc (.cells #[.int .i64 (-1), .int .i64 1, .int .i64 (-n), .int .i64 n] 3 (0, 0)) (fun b => .slice (some ⟨b, 0, none⟩) 4 4) [(213, .int .i64 (-n)), (215, .int .i64 n)], 6), (.seq, 9), (.still, 10), (.still, 11), (.still, 12)] (by kernel_rfl) (by kernel_rfl) (⟨⟨_, _, rfl, rfl, rfl, rfl, rfl, mk_build rfl (buildSlice_all slt_26 [.int .i64 (-1), .int .i64 1, .int .i64 (-n), .int .i64 n] rfl (by decide) (by simp [Value.cells]) (by decide))⟩, trivial⟩) (by rfl) (by kernel_rfl) ?_
         refine shM_v (v := .int .i64 x8) (ek := [(27, .int .i64 x8)]) (Ls := []) rfl rfl rfl rfl ((sc rfl (sn _))) (by kernel_rfl) sm (fun H F' L' hF' hL' => v_move rfl) ?_
         refine shM_v (v := .pointer (some ⟨b34, 0, none⟩)) (ek := [(7, .pointer (some ⟨b34, 0, none⟩))]) (Ls := []) rfl rfl rfl rfl ((sc rfl (sn _))) (by kernel_rfl) sm (fun H F' L' hF' hL' => v_fieldAddr fa_24_0 rfl) ?_
         refine shM_v (v := .int .i64 n) (ek := [(211, .pointer (some ⟨b34, 0, none⟩))]) (Ls := [(b34, .cells #[.int .i64 n, .slice a27 n31 c28] 24 (0, 0))]) rfl rfl rfl rfl ((sc rfl (sn _))) (by kernel_rfl) (s0 (s1 (s2 (s3 (s3 (s3 sr)))))) (fun H F' L' hF' hL' => v_load Try.isAgg3 rfl ((Has.own 0 rfl).ext hF' hL') rfl) ?_
         obtain ⟨g389, r390⟩ := gd_ok r379; clear r379
         refine shM_v (v := .int .i64 (-n)) (ek := [(212, .int .i64 n)]) (Ls := []) rfl rfl rfl rfl ((sc rfl (sn _))) (by kernel_rfl) sm (fun H F' L' hF' hL' => v_negT rfl g389) ?_
         refine shM_v (v := .pointer (some ⟨b34, 0, none⟩)) (ek := [(7, .pointer (some ⟨b34, 0, none⟩))]) (Ls := []) rfl rfl rfl rfl ((sc rfl (sn _))) (by kernel_rfl) sm (fun H F' L' hF' hL' => v_fieldAddr fa_24_0 rfl) ?_
         refine shM_v (v := .int .i64 n) (ek := [(214, .pointer (some ⟨b34, 0, none⟩))]) (Ls := [(b34, .cells #[.int .i64 n, .slice a27 n31 c28] 24 (0, 0))]) rfl rfl rfl rfl ((sc rfl (sn _))) (by kernel_rfl) (s0 (s1 (s2 (s3 (s3 (s3 sr)))))) (fun H F' L' hF' hL' => v_load Try.isAgg3 rfl ((Has.own 0 rfl).ext hF' hL') rfl) ?_
         refine ⟨⟨_, rfl, (sc rfl (sc rfl (sn _))), by kernel_rfl⟩, ?_⟩
         refine shM_v (v := .pointer (some ⟨b17, 0, none⟩)) (ek := [(6, .pointer (some ⟨b17, 0, none⟩))]) (Ls := []) rfl rfl rfl rfl ((sc rfl (sn _))) (by kernel_rfl) sm (fun H F' L' hF' hL' => v_move rfl) ?_
         refine ⟨_, [(217, .pointer (some ⟨b17, 0, none⟩))], rfl, rfl, (sc rfl (sn _)), by kernel_rfl, ?_⟩; intro H
         obtain ⟨n15, at_10, turn10, h391, r392⟩ := b3_ok r390; clear r390
         refine o_callG (Lb := [(b17, .cells #[.slice a18 metal2.length c19, .int .i64 q_at5, .int .u32 q_turn5] 134 (0, 0))]) (Lr := (b34, .cells #[.int .i64 n, .slice a27 n31 c28] 24 (0, 0)) :: (Lb29 ++ (Lb82 ++ (Lb360 ++ [])))) rfl Try.call48 rfl rfl rfl (pR) (oyezkit_Bell_Stroke_w h20 h391) ?_; rintro _ F393 _ hF394 hd396 hn395 ⟨rfl, rfl⟩
         replace h_numbers := h_numbers.mono (iE_ok _) hF394
         replace h_tries := h_tries.mono (iE_ok _) hF394
         replace h10 := h10.mono (iE_ok _) hF394
         replace h20 := h20.mono (iE_ok _) hF394
         replace hz30 := hz30.mono (iE_ok _) hF394
         replace hz83 := hz83.mono (iE_ok _) hF394
         replace hz361 := hz361.mono (iE_ok _) hF394
         refine shO_L (lb (ln rfl)) ?_
         refine shO_nil ⟨_, rfl, hF394, [5, 4, 3, 2, 1, 0], by kernel_rfl, .inr (fun d h => by cases h; rfl), (List.forall_mem_cons.2 ⟨s0 (s1 (s2 (s3 (s3 (s3 sr))))), (List.forall_mem_cons.2 ⟨sm, (List.forall_mem_cons.2 ⟨sm, (List.forall_mem_cons.2 ⟨s0 (s1 (s2 (s3 (s3 (s3 sr))))), (List.forall_mem_cons.2 ⟨sm, (List.forall_mem_cons.2 ⟨sm, (fun _ h => absurd h List.not_mem_nil)⟩)⟩)⟩)⟩)⟩)⟩), ?_⟩
         refine shM_bs rfl ?_; intro b397 hb397
         refine shM_L (L' := (b397, .cells #[.int .i64 (-1), .int .i64 1, .int .i64 (-n), .int .i64 n] 3 (0, 0)) :: ((b17, .cells #[.slice a18 metal2.length c19, .int .i64 at_10, .int .u32 turn10] 134 (0, 0)) :: ((b34, .cells #[.int .i64 n, .slice a27 n31 c28] 24 (0, 0)) :: (Lb29 ++ (Lb82 ++ (Lb360 ++ [])))))) rfl ?_
         refine ⟨_, [(216, .slice (some ⟨b397, 0, none⟩) 4 4), (218, .int .i64 n15)], rfl, rfl, (sc rfl (sc rfl (sn _))), by kernel_rfl, ?_⟩; intro H
         refine shO_freeze 0 rfl hb397 ?_; intro F398 hF399 hz400
         refine shO_L (L' := (b17, .cells #[.slice a18 metal2.length c19, .int .i64 at_10, .int .u32 turn10] 134 (0, 0)) :: ((b34, .cells #[.int .i64 n, .slice a27 n31 c28] 24 (0, 0)) :: (Lb29 ++ (Lb82 ++ (Lb360 ++ []))))) rfl ?_
         replace h_numbers := h_numbers.mono (iE_ok _) hF399
         replace h_tries := h_tries.mono (iE_ok _) hF399
         replace h10 := h10.mono (iE_ok _) hF399
         replace h20 := h20.mono (iE_ok _) hF399
         replace hz30 := hz30.mono (iE_ok _) hF399
         replace hz83 := hz83.mono (iE_ok _) hF399
         replace hz361 := hz361.mono (iE_ok _) hF399
         have h401 : RowR 1 (iE .i64) F398 (some ⟨b397, 0, none⟩) 4 [-1, 1, -n, n] := RowR.of_block (iE_ok _) (vss := [[.int .i64 (-1)], [.int .i64 1], [.int .i64 (-n)], [.int .i64 n]]) (xs := [-1, 1, -n, n]) hz400 (.cons rfl (.cons rfl (.cons rfl (.cons rfl .nil)))) rfl (by simp [maxLen])
         obtain ⟨x9, g402, hx403, r404⟩ := ix_ok r392; clear r392
         obtain ⟨b405, o406, c407, vs408, ha409, hs410, hle411, rfl, hl412, hc413⟩ := RowR.at (iE_ok _) h401 ([]) g402.1 hx403
         refine ov (v_indexO Try.underlying26 Try.sizeOf3 rfl ha409 rfl g402) rfl ?_
         refine shO_nil ⟨_, rfl, hF399, [0], by kernel_rfl, .inr (fun d h => by cases h; rfl), (List.forall_mem_cons.2 ⟨sm, (fun _ h => absurd h List.not_mem_nil)⟩), ?_⟩
         refine shM_v (v := .int .i64 x9) (ek := [(219, .pointer (some ⟨b405, o406 + (n15 : Int).toNat * 1, none⟩))]) (Ls := []) rfl rfl rfl rfl ((sc rfl (sn _))) (by kernel_rfl) sm (fun H F' L' hF' hL' => v_load Try.isAgg3 rfl (hs410.ext hF' hL') (hc413 0 (by decide))) ?_
         obtain ⟨g414, r415⟩ := gd_ok r404; clear r404
         refine shM_v (v := .int .i64 (x8 + x9)) (ek := [(210, .int .i64 x8), (220, .int .i64 x9)]) (Ls := []) rfl rfl rfl rfl ((sc rfl (sc rfl (sn _)))) (by kernel_rfl) sm (fun H F' L' hF' hL' => v_add rfl rfl g414) ?_
         refine shM_v (v := .int .i64 (x8 + x9)) (ek := [(221, .int .i64 (x8 + x9))]) (Ls := []) rfl rfl rfl rfl ((sc rfl (sn _))) (by kernel_rfl) sm (fun H F' L' hF' hL' => v_assign rfl) ?_
         refine shM_nil ?_
         refine shW_seq ?_
         obtain ⟨k10, h416, r417⟩ := b1_ok r415; clear r415
         refine shW_join (fun e1 F1 L1 => F398 = F1 ∧ L1 = ((b17, .cells #[.slice a18 metal2.length c19, .int .i64 at_10, .int .u32 turn10] 134 (0, 0)) :: ((b34, .cells #[.int .i64 n, .slice a27 n31 c28] 24 (0, 0)) :: (Lb29 ++ (Lb82 ++ (Lb360 ++ []))))) ∧ e1.sub [(6, .pointer (some ⟨b17, 0, none⟩)), (7, .pointer (some ⟨b34, 0, none⟩)), (8, .int .i64 n2), (10, .int .i64 x), (11, .slice a80 n84 c81), (26, .slice a358 n362 c359), (28, .int .i64 (x8 + x9)), (143, .int .i64 k5), (201, .int .i64 n14), (202, .int .i64 k9), (230, .bool k10)]) ?_ ?_
         · clear r417
           refine shW_region (om rfl rfl ?_)
           refine ov (v_lssK rfl rfl) rfl ?_
           refine om rfl rfl ?_
           by_cases c418 : (x8 + x9) < 0
           · have r419 := ite_t h416 c418; clear h416
             refine shO_off (b' := true) 224 rfl (Env.isT rfl c418) rfl rfl (shO_off (b' := true) 224 rfl (Env.isT rfl c418) rfl rfl (shO_off (b' := true) 224 rfl (Env.isT rfl c418) rfl rfl (shO_off (b' := true) 224 rfl (Env.isT rfl c418) rfl rfl (shO_off (b' := true) 224 rfl (Env.isT rfl c418) rfl rfl ?_))))
             refine ov (v_pick_t (evD_true rfl c418) rfl) rfl ?_
             refine shO_nil ?_
             obtain rfl := inj1 r419
             exact mi kr ⟨rfl, rfl, (sc rfl (sc rfl (sc rfl (sc rfl (sc rfl (sc rfl (sc rfl (sc rfl (sc rfl (sc rfl (sc rfl (sn _))))))))))))⟩
           have r420 := ite_f h416 c418; clear h416
           refine shO_on (b := false) 224 rfl (Env.isF rfl c418) (om rfl rfl (shO_on (b := false) 224 rfl (Env.isF rfl c418) ?_))
           refine ov (v_fieldAddr fa_24_1 rfl) rfl ?_
           refine shO_on (b := false) 224 rfl (Env.isF rfl c418) ?_
           refine ov (v_load Try.isAgg22 rfl (Has.own 1 rfl) rfl) rfl ?_
           refine shO_on (b := false) 224 rfl (Env.isF rfl c418) ?_
           refine ov ((v_lenS Try.underlying22 rfl).i (SlR.lenI hz30)) rfl ?_
           refine shO_on (b := false) 224 rfl (Env.isF rfl c418) ?_
           refine ov (v_geqK rfl rfl) rfl ?_
           refine ov (v_pick_f (evD_false rfl c418) rfl) rfl ?_
           refine shO_nil ?_
           obtain rfl := inj1 r420
           exact mi kr ⟨rfl, rfl, (sc rfl (sc rfl (sc rfl (sc rfl (sc rfl (sc rfl (sc rfl (sc rfl (sc rfl (sc rfl (sc rfl (sn _))))))))))))⟩
         rintro e1 _ _ ⟨rfl, rfl, he421⟩
         refine shW_env _ he421 ?_; clear he421
         refine shW_cond rfl (fun c422 => ?_) (fun c422 => ?_)
         · have r423 := bt r417 c422; clear r417
           refine shW_exit (andThen_exit ?_)
           refine inBlock_exit ?_
           refine shW_region ?_
           refine ov (v_add rfl rfl (Ctr.r64 hk366 c373 g364)) rfl ?_
           refine om rfl rfl (shO_nil ?_)
           exact le kr ⟨_, hk374, at_10, turn10, way, a358, n362, c359, Lb360, r423, ((hF371.trans hF394).trans hF399), rfl, (sc rfl (sc rfl (sc rfl (sc rfl (sc rfl (sc rfl (sc rfl (sc rfl (sc rfl (sn _)))))))))), hz361⟩
         have r424 := bf r417 c422; clear r417
         refine shW_skip (shW_seq ?_)
         refine shW_drawM [(.still, 0), (.still, 1), (.still, 2), (.still, 4), (.pre, 5), (.seq, 3), (.alloc (.cells #[.int .i64 (x8 + x9)] 3 (0, 0)) (fun b => .slice (some ⟨b, 0, none⟩) 1 1) [(236, .int .i64 (x8 + x9))], 5), (.seq, 6), (.seq, 7), (.still, 8), (.still, 9), (.still, 10), (.still, 11), (.still, 12)] (by kernel_rfl) (by kernel_rfl) (⟨⟨_, _, rfl, rfl, rfl, rfl, rfl, mk_build rfl (buildSlice_all slt_26 [.int .i64 (x8 + x9)] rfl (by decide) (by simp [Value.cells]) (by decide))⟩, trivial⟩) (by rfl) (by kernel_rfl) ?_
         refine shM_v (v := .agg #[.int .i64 n, .slice a27 n31 c28]) (ek := [(7, .pointer (some ⟨b34, 0, none⟩))]) (Ls := [(b34, .cells #[.int .i64 n, .slice a27 n31 c28] 24 (0, 0))]) rfl rfl rfl rfl ((sc rfl (sn _))) (by kernel_rfl) (s0 (s1 (s2 (s3 (s3 (s3 sr)))))) (fun H F' L' hF' hL' => v_loadA (cs := #[.int .i64 n, .slice a27 n31 c28]) Try.isAgg24 Try.sizeOf24 rfl ((Has.own 0 rfl).ext hF' hL') (Nat.le_of_ble_eq_true rfl) rfl) ?_
         refine shM_v (v := .int .i64 n2) (ek := [(8, .int .i64 n2)]) (Ls := []) rfl rfl rfl rfl ((sc rfl (sn _))) (by kernel_rfl) sm (fun H F' L' hF' hL' => v_move rfl) ?_
         refine shM_v (v := .slice a358 n362 c359) (ek := [(26, .slice a358 n362 c359)]) (Ls := []) rfl rfl rfl rfl ((sc rfl (sn _))) (by kernel_rfl) sm (fun H F' L' hF' hL' => v_move rfl) ?_
         refine shM_v (v := .int .i64 (x8 + x9)) (ek := [(28, .int .i64 (x8 + x9))]) (Ls := []) rfl rfl rfl rfl ((sc rfl (sn _))) (by kernel_rfl) sm (fun H F' L' hF' hL' => v_move rfl) ?_
         refine ⟨⟨_, rfl, (sc rfl (sn _)), by kernel_rfl⟩, ?_⟩
         refine ⟨_, [(234, .slice a358 n362 c359)], rfl, rfl, (sc rfl (sn _)), by kernel_rfl, ?_⟩; intro H
         obtain ⟨l7, h425, r426⟩ := b1_ok r424; clear r424
         refine o_callTO (Lb := []) (Lt := Lb360 ++ []) (Lr := (b17, .cells #[.slice a18 metal2.length c19, .int .i64 at_10, .int .u32 turn10] 134 (0, 0)) :: ((b34, .cells #[.int .i64 n, .slice a27 n31 c28] 24 (0, 0)) :: (Lb29 ++ (Lb82 ++ [])))) rfl Try.call17 rfl rfl rfl (pT ((fC (fC (fS (fS fP)))).trans (pA pR)) (ln (lp (ln rfl)))) (fun F2 h2 h3 => by rw [(SlR.caps hz361).1]; exact oyezkit_Copy_int_w (hz361.row (iE_ok _) h2 (fun p hp => h3 p (List.mem_append_left _ hp))) h425) (fun _ _ _ _ hq => by obtain ⟨a431, n435, c432, Lb433, rfl, rfl, hz434⟩ := hq; exact ⟨_, _, _, _, rfl, rfl, hz434.flat (fun _ _ h => h)⟩) ?_; rintro _ F427 _ hF428 hd430 hn429 ⟨a431, n435, c432, Lb433, rfl, rfl, hz434⟩
         replace h_numbers := h_numbers.mono (iE_ok _) hF428
         replace h_tries := h_tries.mono (iE_ok _) hF428
         replace h10 := h10.mono (iE_ok _) hF428
         replace h20 := h20.mono (iE_ok _) hF428
         replace h401 := h401.mono (iE_ok _) hF428
         replace hz30 := hz30.mono (iE_ok _) hF428
         replace hz83 := hz83.mono (iE_ok _) hF428
         replace hz361 := hz361.mono (iE_ok _) hF428
         replace hz400 := hF428 _ _ hz400
         have hn437 := newp (Lb' := []) (by rfl) hd430 hn429
         replace hz434 := hz434.new fun p hp => hn437 p (by simp [hp])
         refine shO_L (lp (ln (lp (ln rfl)))) ?_
         refine kO (kf (fS (fS fO)) (kf (fS (fS fO)) kr)) ?_
         refine shO_nil ⟨_, rfl, hF428, [4, 1, 0], by kernel_rfl, .inr (fun d h => by cases h; rfl), (List.forall_mem_cons.2 ⟨sm, (List.forall_mem_cons.2 ⟨sm, (List.forall_mem_cons.2 ⟨s0 (s1 (s2 (s3 (s3 (s3 (s3 sr)))))), (fun _ h => absurd h List.not_mem_nil)⟩)⟩)⟩), ?_⟩
         refine shM_bs rfl ?_; intro b438 hb438
         refine shM_L (L' := (b438, .cells #[.int .i64 (x8 + x9)] 3 (0, 0)) :: ((b17, .cells #[.slice a18 metal2.length c19, .int .i64 at_10, .int .u32 turn10] 134 (0, 0)) :: ((b34, .cells #[.int .i64 n, .slice a27 n31 c28] 24 (0, 0)) :: (Lb433 ++ (Lb360 ++ (Lb29 ++ (Lb82 ++ []))))))) rfl ?_
         refine ⟨_, [(235, .slice a431 n435 c432), (237, .slice (some ⟨b438, 0, none⟩) 1 1)], rfl, rfl, (sc rfl (sc rfl (sn _))), by kernel_rfl, ?_⟩; intro H
         obtain ⟨l8, h439, g440, r441⟩ := ap_ok r426; clear r426
         refine o_appZ (xs := l7) (ys := [x8 + x9]) (zs := l8) rfl slt_26 rfl rfl (Nat.le_refl _) (fun _ => .c (.c (.c .h))) hz434 (SrcR.box (vss := [[.int .i64 (x8 + x9)]]) (ys := [x8 + x9]) 0 rfl (iE_ok _) (.cons rfl .nil) rfl rfl) h439 g440 (by decide) ?_; intro a442 n446 c443 Lb444 hz445
         refine kO (kd kr) ?_
         refine shO_nil ⟨_, rfl, FExt.refl _, [1, 0], by kernel_rfl, .inr (fun d h => by cases h; rfl), (List.forall_mem_cons.2 ⟨sm, (List.forall_mem_cons.2 ⟨s0 (s1 (s2 (s3 (s3 (s3 (s3 sr)))))), (fun _ h => absurd h List.not_mem_nil)⟩)⟩), ?_⟩
         refine ⟨_, [(232, .agg #[.int .i64 n, .slice a27 n31 c28]), (233, .int .i64 n2), (238, .slice a442 n446 c443)], rfl, rfl, (sc rfl (sc rfl (sc rfl (sn _)))), by kernel_rfl, ?_⟩; intro H
         obtain ⟨n16, n17, h448, r449⟩ := b2_ok r441; clear r441
         refine o_callT (Lt := Lb29 ++ (Lb444 ++ [])) (Lr := (b17, .cells #[.slice a18 metal2.length c19, .int .i64 at_10, .int .u32 turn10] 134 (0, 0)) :: ((b34, .cells #[.int .i64 n, .slice a27 n31 c28] 24 (0, 0)) :: (Lb360 ++ (Lb82 ++ [])))) rfl Try.call45 rfl rfl rfl (pT ((fC (fC (fS (fS fP)))).trans (pA ((fC (fC fP)).trans (pA pR)))) (lp (lp (ln rfl)))) (fun F2 h2 h3 => by rw [(SlR.caps hz30).1]; rw [(SlR.caps hz445).1]; exact hear_Takes_w (hz30.row (iE_ok _) h2 (fun p hp => h3 p (List.mem_append_left _ hp))) (hz445.row (iE_ok _) h2 (fun p hp => h3 p (List.mem_append_right _ (List.mem_append_left _ hp)))) h448) ?_
         refine shO_nil ⟨_, rfl, FExt.refl _, [], by kernel_rfl, .inl rfl, (fun _ h => absurd h List.not_mem_nil), ?_⟩
         refine shM_v (v := .tuple #[.int .i64 n16, .int .i64 n17]) (ek := [(239, .tuple #[.int .i64 n16, .int .i64 n17])]) (Ls := []) rfl rfl rfl rfl ((sc rfl (sn _))) (by kernel_rfl) sm (fun H F' L' hF' hL' => v_move rfl) ?_
         refine shM_v (v := .int .i64 n16) (ek := [(231, .tuple #[.int .i64 n16, .int .i64 n17])]) (Ls := []) rfl rfl rfl rfl ((sc rfl (sn _))) (by kernel_rfl) sm (fun H F' L' hF' hL' => v_extract rfl rfl) ?_
         refine shM_v (v := .int .i64 n17) (ek := [(231, .tuple #[.int .i64 n16, .int .i64 n17])]) (Ls := []) rfl rfl rfl rfl ((sc rfl (sn _))) (by kernel_rfl) sm (fun H F' L' hF' hL' => v_extract rfl rfl) ?_
         refine shM_v (v := .int .i64 n16) (ek := [(240, .int .i64 n16)]) (Ls := []) rfl rfl rfl rfl ((sc rfl (sn _))) (by kernel_rfl) sm (fun H F' L' hF' hL' => v_assign rfl) ?_
         refine shM_v (v := .int .i64 n17) (ek := [(241, .int .i64 n17)]) (Ls := []) rfl rfl rfl rfl ((sc rfl (sn _))) (by kernel_rfl) sm (fun H F' L' hF' hL' => v_assign rfl) ?_
         refine shM_nil ?_
         refine shW_seq (wsr (om rfl rfl ?_))
         refine ov (v_neq rfl rfl) rfl ?_
         refine shO_nil ?_
         refine shW_condP rfl (fun c450 => ?_) (fun c450 => ?_)
         · have r451 := ite_t r449 c450; clear r449
           refine shW_seq (wsr (om rfl rfl ?_))
           refine ov (v_neq rfl rfl) rfl ?_
           refine shO_nil ?_
           refine shW_condP rfl (fun c452 => ?_) (fun c452 => ?_)
           · have r453 := ite_t r451 c452; clear r451
             refine wsr (oa rfl rfl (shO_nil ?_))
             refine kW kn ?_
             refine shW_ret (andThen_ret (andThen_ret (inBlock_ret (andThen_ret (andThen_ret (inBlock_ret (inBlock_ret (andThen_ret (andThen_ret ?_)))))))))
             refine inBlock_ret (andThen_ret ?_)
             refine q_res1 Try.results8 (res_tmp rfl) (sr) ?_
             obtain rfl := inj1 r453
             exact rfl
           have r454 := ite_f r451 c452; clear r451
           refine shW_skip (shW_exit (andThen_exit ?_))
           refine inBlock_exit ?_
           refine shW_region ?_
           refine ov (v_add rfl rfl (Ctr.r64 hk366 c373 g364)) rfl ?_
           refine om rfl rfl (shO_nil ?_)
           exact le (kc (kc (kx (kg (fS fP) (kg (fS fP) kr))))) ⟨_, hk374, at_10, turn10, way, a358, n362, c359, Lb360, r454, (((hF371.trans hF394).trans hF399).trans hF428), rfl, (sc rfl (sc rfl (sc rfl (sc rfl (sc rfl (sc rfl (sc rfl (sc rfl (sc rfl (sn _)))))))))), hz361⟩
         have r455 := ite_f r449 c450; clear r449
         refine shW_skip (wsr (om rfl rfl (om rfl rfl ?_)))
         refine o_buildSlice (cs := #[.int .i64 (x8 + x9)]) rfl rfl (buildSlice_all slt_26 [.int .i64 (x8 + x9)] rfl (by decide) (by simp [Value.cells]) (by decide)) ?_; intro b456 hb456
         obtain ⟨way2, h457, g458, r459⟩ := ap_ok r455; clear r455
         refine o_appZ (xs := way) (ys := [x8 + x9]) (zs := way2) rfl slt_26 rfl rfl (Nat.le_refl _) (fun _ => .c (.c (.c (.s .h)))) hz361 (SrcR.box (vss := [[.int .i64 (x8 + x9)]]) (ys := [x8 + x9]) 0 rfl (iE_ok _) (.cons rfl .nil) rfl rfl) h457 g458 (by decide) ?_; intro a460 n464 c461 Lb462 hz463
         refine kO (kd kr) ?_
         refine oa rfl rfl (shO_nil ?_)
         obtain ⟨k11, h466, r467⟩ := b1_ok r459; clear r459
         refine shW_join (fun e1 F1 L1 => F427 = F1 ∧ L1 = ((b17, .cells #[.slice a18 metal2.length c19, .int .i64 at_10, .int .u32 turn10] 134 (0, 0)) :: ((b34, .cells #[.int .i64 n, .slice a27 n31 c28] 24 (0, 0)) :: (Lb29 ++ (Lb82 ++ (Lb462 ++ []))))) ∧ e1.sub [(6, .pointer (some ⟨b17, 0, none⟩)), (7, .pointer (some ⟨b34, 0, none⟩)), (8, .int .i64 n2), (10, .int .i64 x), (11, .slice a80 n84 c81), (26, .slice a460 n464 c461), (143, .int .i64 k5), (201, .int .i64 n14), (202, .int .i64 k9), (262, .bool k11)]) ?_ ?_
         · clear r467
           refine shW_region (om rfl rfl (om rfl rfl (om rfl rfl ?_)))
           obtain ⟨x10, g468, hx469, r470⟩ := ix_ok h466; clear h466
           obtain ⟨b471, o472, c473, vs474, ha475, hs476, hle477, rfl, hl478, hc479⟩ := SlR.at (iE_ok _) hz83 (L := (b17, .cells #[.slice a18 metal2.length c19, .int .i64 at_10, .int .u32 turn10] 134 (0, 0)) :: ((b34, .cells #[.int .i64 n, .slice a27 n31 c28] 24 (0, 0)) :: (Lb444 ++ (Lb462 ++ (Lb29 ++ (Lb82 ++ [])))))) (fC (fC (fS (fS (fS fP))))) g468.1 hx469
           refine ov (v_indexO Try.underlying26 Try.sizeOf3 rfl ha475 rfl (SlR.idx hz83 g468)) rfl ?_
           refine ov (v_load Try.isAgg3 rfl hs476 (hc479 0 (by decide))) rfl ?_
           refine ov (v_lssK rfl rfl) rfl ?_
           refine om rfl rfl ?_
           by_cases c480 : n16 < x10
           · have r481 := ite_t r470 c480; clear r470
             refine shO_off (b' := true) 256 rfl (Env.isT rfl c480) rfl rfl (shO_off (b' := true) 256 rfl (Env.isT rfl c480) rfl rfl (shO_off (b' := true) 256 rfl (Env.isT rfl c480) rfl rfl (shO_off (b' := true) 256 rfl (Env.isT rfl c480) rfl rfl (shO_off (b' := true) 256 rfl (Env.isT rfl c480) rfl rfl ?_))))
             refine ov (v_pick_t (evD_true rfl c480) rfl) rfl ?_
             refine shO_nil ?_
             obtain rfl := inj1 r481
             exact mi (kc (kc (kx (kg (fS fP) (kg (fS fP) kr))))) ⟨rfl, rfl, (sc rfl (sc rfl (sc rfl (sc rfl (sc rfl (sc rfl (sc rfl (sc rfl (sc rfl (sc rfl (sn _)))))))))))⟩
           have r482 := ite_f r470 c480; clear r470
           refine shO_on (b := false) 256 rfl (Env.isF rfl c480) (om rfl rfl (shO_on (b := false) 256 rfl (Env.isF rfl c480) (om rfl rfl (shO_on (b := false) 256 rfl (Env.isF rfl c480) ?_))))
           obtain ⟨b483, o484, c485, vs486, ha487, hs488, hle489, rfl, hl490, hc491⟩ := SlR.at (iE_ok _) hz83 (L := (b17, .cells #[.slice a18 metal2.length c19, .int .i64 at_10, .int .u32 turn10] 134 (0, 0)) :: ((b34, .cells #[.int .i64 n, .slice a27 n31 c28] 24 (0, 0)) :: (Lb444 ++ (Lb462 ++ (Lb29 ++ (Lb82 ++ [])))))) (fC (fC (fS (fS (fS fP))))) g468.1 hx469
           refine ov (v_indexO Try.underlying26 Try.sizeOf3 rfl ha487 rfl (SlR.idx hz83 g468)) rfl ?_
           refine shO_on (b := false) 256 rfl (Env.isF rfl c480) ?_
           refine ov (v_load Try.isAgg3 rfl hs488 (hc491 0 (by decide))) rfl ?_
           refine shO_on (b := false) 256 rfl (Env.isF rfl c480) ?_
           refine ov (v_eql rfl rfl) rfl ?_
           refine ov (v_pick_f (evD_false rfl c480) rfl) rfl ?_
           refine shO_nil ?_
           obtain rfl := inj1 r482
           exact mi (kc (kc (kx (kg (fS fP) (kg (fS fP) kr))))) ⟨rfl, rfl, (sc rfl (sc rfl (sc rfl (sc rfl (sc rfl (sc rfl (sc rfl (sc rfl (sc rfl (sc rfl (sn _)))))))))))⟩
         rintro e1 _ _ ⟨rfl, rfl, he492⟩
         refine shW_env _ he492 ?_; clear he492
         refine shW_cond rfl (fun c493 => ?_) (fun c493 => ?_)
         · have r494 := bt r467 c493; clear r467
           refine wsr (oa rfl rfl (shO_nil ?_))
           refine kW kn ?_
           refine shW_ret (inBlock_ret (andThen_ret (andThen_ret (inBlock_ret (inBlock_ret (andThen_ret (andThen_ret (inBlock_ret (andThen_ret ?_)))))))))
           refine q_res1 Try.results8 (res_tmp rfl) (sr) ?_
           obtain rfl := inj1 r494
           exact rfl
         have r495 := bf r467 c493; clear r467
         refine shW_skip (inBlock_n (id := 9) (shW_region ?_))
         refine ov (v_add rfl rfl (Ctr.r64 hk366 c373 g364)) rfl ?_
         refine om rfl rfl (shO_nil ?_)
         exact le kr ⟨_, hk374, at_10, turn10, way2, a460, n464, c461, Lb462, r495, (((hF371.trans hF394).trans hF399).trans hF428), rfl, (sc rfl (sc rfl (sc rfl (sc rfl (sc rfl (sc rfl (sc rfl (sc rfl (sc rfl (sn _)))))))))), hz463⟩
       obtain rfl := Ctr.zero hk366 c373
       rw [oyezlaw01_HearProved_l9] at r368
       refine shW_exit (andThen_exit (andThen_exit ?_))
       refine inBlock_exit ?_
       refine inBlock_n (id := 3) ?_
       exact mi (kc (kc (ka (ka kn)))) ⟨q_at5, q_turn5, r368, (((hF213.trans hF289).trans hF355).trans hF371), rfl, (sc rfl (sc rfl (sc rfl (sc rfl (sc rfl (sc rfl (sn _)))))))⟩
     rintro e1 F498 _ ⟨q_at2, q_turn2, r496, hF499, rfl, he497⟩
     refine shW_env _ he497 ?_; clear he497
     replace h_numbers := h_numbers.mono (iE_ok _) hF499
     replace h_tries := h_tries.mono (iE_ok _) hF499
     replace h10 := h10.mono (iE_ok _) hF499
     replace h20 := h20.mono (iE_ok _) hF499
     replace hz30 := hz30.mono (iE_ok _) hF499
     replace hz83 := hz83.mono (iE_ok _) hF499
     rw [oyezlaw01_HearProved_j5] at r496
     refine shW_region ?_
     refine ov (v_add rfl rfl (Ctr.r64 hk201 c208 g199)) rfl ?_
     refine om rfl rfl (shO_nil ?_)
     exact le (kf (fC fO) kr) ⟨_, hk209, q_at2, q_turn2, r496, (hF206.trans hF499), rfl, (sc rfl (sc rfl (sc rfl (sc rfl (sc rfl (sc rfl (sn _)))))))⟩
   obtain rfl := Ctr.zero hk201 c208
   rw [oyezlaw01_HearProved_l4] at r203
   refine shW_exit (andThen_exit (andThen_exit ?_))
   refine inBlock_exit ?_
   exact mi kn ⟨r203, hF206, rfl, (sn _)⟩
 rintro e1 F502 _ ⟨r500, hF503, rfl, he501⟩
 refine shW_env _ he501 ?_; clear he501
 replace h_numbers := h_numbers.mono (iE_ok _) hF503
 replace h_tries := h_tries.mono (iE_ok _) hF503
 replace h10 := h10.mono (iE_ok _) hF503
 replace h20 := h20.mono (iE_ok _) hF503
 rw [oyezlaw01_HearProved_j3] at r500
 refine wsr ?_
 obtain ⟨ok3, h504, r505⟩ := b1_ok r500; clear r500
 refine o_callV rfl Try.call15 rfl rfl rfl (oyezlaw01_awake_w h504) ?_
 refine oa rfl rfl (shO_nil (shW_ret ?_))
 refine q_res1 Try.results8 (res_tmp rfl) (sr) ?_
 obtain rfl := inj1 r505
 exact rfl


end Go.Proofs.Ytdnmaodkdhdacaa
