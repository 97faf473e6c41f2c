/- The walks that this claim needs, printed by a program of mine; part 2. -/
import Derived.Test.YtodhcoakjlmcdaaGreatZBNB1
namespace Go.Proofs.YtodhcoakjlmcdaaGreat
open Go.SH Go.PL
set_option maxHeartbeats 1000000 in
theorem book_desk_ways_w {b_d : Nat} {houses : Int} {notices : Int} {hears_a : Option Addr} {hears_c : Nat} {hears : List (List (List Int))} {readings_a : Option Addr} {readings_c : Nat} {readings : List Int} {cries_a : Option Addr} {cries_c : Nat} {cries : List (Int × Int × Int)} {mb_d : Nat × Nat} {F : FS} (hb_d : F b_d = some (.cells #[.int .i64 houses, .int .i64 notices, .slice hears_a hears.length hears_c, .slice readings_a readings.length readings_c, .slice cries_a cries.length cries_c] 171 mb_d)) (h_hears : RowR 1 (slE 1 (slE 1 (iE .i64))) F hears_a hears_c hears) (h_readings : RowR 1 (iE .i64) F readings_a readings_c readings) (h_cries : RowR 3 (prE (iE .i64) (prE (iE .i64) (iE .i64))) F cries_a cries_c cries) {r : List (List Int)} (hr : book_desk_ways houses notices hears readings cries = some r) :
    SH.Spec Tryz.prog 135 #[.pointer (some ⟨b_d, 0, none⟩)] F [] fun F' L' v => ∃ (ra : Option Addr) (rn : Nat) (rc : Nat) (rL : LH), v = .slice ra rn rc ∧ L' = rL ++ [] ∧ SlR 0 161 8 (arE 8 (cI .i64)) F' ra rn rc r rL := by
 refine spec_of_shW (args := [.pointer (some ⟨b_d, 0, none⟩)]) Tryz.func135 rfl Tryz.ntmps135 (Nat.le_of_ble_eq_true rfl) ?_
 intro K _ _; rw [book_desk_ways] at hr
 refine wsr (oa rfl rfl (nsr (om rfl rfl ?_)))
 refine ov (v_nilCheck rfl) rfl ?_
 refine ov (v_fieldAddr fa_171_0 rfl) rfl ?_
 refine ov (v_fieldAddr fa_27_3 rfl) rfl ?_
 refine ov (v_load Tryz.isAgg24 rfl (Has.frozen hb_d) rfl) rfl ?_
 refine ov (v_lenS Tryz.underlying24 rfl) rfl ?_
 obtain ⟨g1, r2⟩ := gd_ok hr; clear hr
 obtain ⟨l, h3, r4⟩ := bv_ok r2; clear r2
 refine o_makeZ (R := (arE 8 (cI .i64))) (z0 := List.replicate 8 0) (zs := l) rfl slt_163 (by decide) (arE_ok (n := 8) (sz := 1) (cI_ok .i64)) (fun _ => ⟨rfl, rfl⟩) rfl g1 h3 (fun _ => .n) ?_; intro a5 n8 Lb6 hz7
 refine o_alloc rfl Tryz.zeroValue163 ?_; intro b10 hb10
 refine o_store (i := 0) Tryz.sizeOf163 rfl rfl rfl rfl (Nat.le_of_ble_eq_true rfl) ?_
 refine shO_L (L' := (b10, .cells #[.slice a5 n8 n8] 163 (0, 0)) :: (Lb6 ++ [])) rfl ?_
 refine shO_nil ?_
 obtain ⟨out, h13, r14⟩ := b1_ok r4; clear r4
 refine shW_join (fun e1 F1 L1 => ∃ (Lb11 : LH), FExt F F1 ∧ L1 = ((b10, .cells #[.slice a5 n8 n8] 163 (0, 0)) :: (Lb11 ++ [])) ∧ e1.sub [(3, .pointer (some ⟨b10, 0, none⟩))] ∧ SlR K.w0.heap.size 161 8 (arE 8 (cI .i64)) F1 a5 n8 n8 out Lb11) ?_ ?_
 · clear r14
   refine wsr ?_
   refine ov (v_load Tryz.isAgg163 rfl (Has.own 0 rfl) rfl) rfl ?_
   refine ov ((v_lenS Tryz.underlying163 rfl).i (SlR.lenI hz7)) rfl ?_
   refine om rfl rfl (shO_nil ?_)
   refine shW_block ?_
   obtain ⟨g17, r18⟩ := gd_ok h13; clear h13
   refine shW_lp (fun fu1 e1 F1 L1 => ∃ (k : Int), Ctr 0 (l.length : Int) k fu1 ∧ ∃ (out2 : List (List Int)) (Lb15 : LH), book_desk_ways_l1 houses notices hears readings cries fu1 k out2 = some out ∧ FExt F F1 ∧ L1 = ((b10, .cells #[.slice a5 n8 n8] 163 (0, 0)) :: (Lb15 ++ [])) ∧ e1.sub [(0, .pointer (some ⟨b_d, 0, none⟩)), (3, .pointer (some ⟨b10, 0, none⟩)), (15, .int .i64 (l.length : Int)), (16, .int .i64 k)] ∧ SlR K.w0.heap.size 161 8 (arE 8 (cI .i64)) F1 a5 n8 n8 out2 Lb15) _ (m0 kr ⟨_, Ctr.start _ _, l, Lb6, r18, FExt.refl _, rfl, (sc rfl (sc rfl (sc rfl (sc rfl (sn _))))), hz7⟩) ?_
   rintro fu1 e1 F23 _ ⟨k, hk19, out2, Lb15, r21, hF24, rfl, he22, hz16⟩
   refine shW_env _ he22 ?_; clear he22
   replace h_hears := h_hears.mono (slE_ok (slE_ok (iE_ok _))) hF24
   replace h_readings := h_readings.mono (iE_ok _) hF24
   replace h_cries := h_cries.mono (prE_ok (iE_ok _) (prE_ok (iE_ok _) (iE_ok _))) hF24
   replace hb_d := hF24 _ _ hb_d
   refine wsr ?_
   refine ov (v_lssK rfl rfl) rfl ?_
   refine shO_nil (shW_seq ?_)
   refine shW_condP rfl (fun c26 => ?_) (fun c26 => ?_)
   · obtain ⟨fu1, rfl, hk27⟩ := Ctr.succ hk19 c26
     rw [book_desk_ways_l1] at r21
     refine shW_skip ?_
     obtain ⟨out3, h30, r31⟩ := b1_ok r21; clear r21
     refine shW_join (fun e1 F1 L1 => ∃ (Lb28 : LH), FExt F23 F1 ∧ L1 = ((b10, .cells #[.slice a5 n8 n8] 163 (0, 0)) :: (Lb28 ++ [])) ∧ e1.sub [(0, .pointer (some ⟨b_d, 0, none⟩)), (3, .pointer (some ⟨b10, 0, none⟩)), (15, .int .i64 (l.length : Int)), (16, .int .i64 k)] ∧ SlR K.w0.heap.size 161 8 (arE 8 (cI .i64)) F1 a5 n8 n8 out3 Lb28) ?_ ?_
     · clear r31
       refine shW_block ?_
       refine wsr (om rfl rfl ?_)
       refine o_alloc rfl Tryz.zeroValue3 ?_; intro b32 hb32
       refine o_store (i := 0) Tryz.sizeOf3 rfl rfl rfl rfl (Nat.le_of_ble_eq_true rfl) ?_
       refine shO_L (L' := (b32, .cells #[.int .i64 k] 3 (0, 0)) :: ((b10, .cells #[.slice a5 n8 n8] 163 (0, 0)) :: (Lb15 ++ []))) rfl ?_
       refine nsr (om rfl rfl (shO_nil ?_))
       refine shW_block ?_
       obtain ⟨g35, r36⟩ := gd_ok h30; clear h30
       refine shW_lp (fun fu2 e1 F1 L1 => ∃ (k2 : Int), Ctr 0 8 k2 fu2 ∧ ∃ (out4 : List (List Int)) (Lb33 : LH), book_desk_ways_l2 houses notices hears readings cries k fu2 k2 out4 = some out3 ∧ FExt F23 F1 ∧ L1 = ((b32, .cells #[.int .i64 k] 3 (0, 0)) :: ((b10, .cells #[.slice a5 n8 n8] 163 (0, 0)) :: (Lb33 ++ []))) ∧ e1.sub [(0, .pointer (some ⟨b_d, 0, none⟩)), (3, .pointer (some ⟨b10, 0, none⟩)), (4, .pointer (some ⟨b32, 0, none⟩)), (15, .int .i64 (l.length : Int)), (16, .int .i64 k), (19, .int .i64 k2)] ∧ SlR K.w0.heap.size 161 8 (arE 8 (cI .i64)) F1 a5 n8 n8 out4 Lb33) _ (m0 kr ⟨_, Ctr.start _ _, out2, Lb15, r36, FExt.refl _, rfl, (sc rfl (sc rfl (sc rfl (sc rfl (sc rfl (sc rfl (sn _))))))), hz16⟩) ?_
       rintro fu2 e1 F41 _ ⟨k2, hk37, out4, Lb33, r39, hF42, rfl, he40, hz34⟩
       refine shW_env _ he40 ?_; clear he40
       replace h_hears := h_hears.mono (slE_ok (slE_ok (iE_ok _))) hF42
       replace h_readings := h_readings.mono (iE_ok _) hF42
       replace h_cries := h_cries.mono (prE_ok (iE_ok _) (prE_ok (iE_ok _) (iE_ok _))) hF42
       replace hb_d := hF42 _ _ hb_d
       refine wsr ?_
       refine ov (v_lssK rfl rfl) rfl ?_
       refine shO_nil (shW_seq ?_)
       refine shW_condP rfl (fun c44 => ?_) (fun c44 => ?_)
       · obtain ⟨fu2, rfl, hk45⟩ := Ctr.succ hk37 c44
         rw [book_desk_ways_l2] at r39
         refine shW_skip ?_
         obtain ⟨out5, h48, r49⟩ := b1_ok r39; clear r39
         refine shW_join (fun e1 F1 L1 => ∃ (Lb46 : LH), FExt F41 F1 ∧ L1 = ((b32, .cells #[.int .i64 k] 3 (0, 0)) :: ((b10, .cells #[.slice a5 n8 n8] 163 (0, 0)) :: (Lb46 ++ []))) ∧ e1.sub [(0, .pointer (some ⟨b_d, 0, none⟩)), (3, .pointer (some ⟨b10, 0, none⟩)), (4, .pointer (some ⟨b32, 0, none⟩)), (15, .int .i64 (l.length : Int)), (16, .int .i64 k), (19, .int .i64 k2)] ∧ SlR K.w0.heap.size 161 8 (arE 8 (cI .i64)) F1 a5 n8 n8 out5 Lb46) ?_ ?_
         · clear r49
           refine shW_block ?_
           refine wsr (om rfl rfl ?_)
           refine o_alloc rfl Tryz.zeroValue3 ?_; intro b50 hb50
           refine o_store (i := 0) Tryz.sizeOf3 rfl rfl rfl rfl (Nat.le_of_ble_eq_true rfl) ?_
           refine shO_L (L' := (b50, .cells #[.int .i64 k2] 3 (0, 0)) :: ((b32, .cells #[.int .i64 k] 3 (0, 0)) :: ((b10, .cells #[.slice a5 n8 n8] 163 (0, 0)) :: (Lb33 ++ [])))) rfl ?_
           refine shO_nil ?_
           refine shW_block ?_
           refine wsd (by kernel_rfl) (by kernel_rfl) (by kernel_rfl) ?_
           refine qm rfl rfl ?_
           refine qv (v_nilCheck rfl) rfl ?_
           refine qv (v_fieldAddr fa_171_0 rfl) rfl ?_
           refine qv (v_loadA (cs := #[.int .i64 houses, .int .i64 notices, .slice hears_a hears.length hears_c, .slice readings_a readings.length readings_c, .slice cries_a cries.length cries_c]) Tryz.isAgg27 Tryz.sizeOf27 rfl (Has.frozen hb_d) (Nat.le_of_ble_eq_true rfl) rfl) rfl ?_
           refine qv (v_load Tryz.isAgg3 rfl (Has.own 1 rfl) rfl) rfl ?_
           refine qv (v_load Tryz.isAgg3 rfl (Has.own 0 rfl) rfl) rfl ?_
           obtain ⟨ok, h51, r52⟩ := b1_ok h48; clear h48
           refine shQ_callV rfl Tryz.call138 rfl rfl rfl (book_Book_can_w h_hears h_readings h_cries h51) ?_
           refine qv (v_notB rfl) rfl ?_
           refine qa rfl rfl (shQ_nil ?_)
           refine shW_cond rfl (fun c53 => ?_) (fun c53 => ?_)
           · have r54 := bt r52 c53; clear r52
             refine shW_skip (inBlock_n (id := 4) (inBlock_n (id := 3) ?_))
             obtain rfl := inj1 r54
             exact mi (kd kr) ⟨Lb33, FExt.refl _, rfl, (sc rfl (sc rfl (sc rfl (sc rfl (sc rfl (sc rfl (sn _))))))), hz34⟩
           have r55 := bf r52 c53; clear r52
           refine wsr ?_
           refine ov (v_load Tryz.isAgg3 rfl (Has.own 1 rfl) rfl) rfl ?_
           refine ov (v_eql rfl rfl) rfl ?_
           refine oa rfl rfl (shO_nil ?_)
           refine shW_condP rfl (fun c56 => ?_) (fun c56 => ?_)
           · have r57 := ite_t r55 c56; clear r55
             refine shW_drawM [(.still, 0), (.still, 1), (.still, 2), (.still, 3), (.still, 4), (.seq, 5)] (by kernel_rfl) (by kernel_rfl) (trivial) (by rfl) (by kernel_rfl) ?_
             refine shM_v (v := .slice a5 n8 n8) (ek := [(3, .pointer (some ⟨b10, 0, none⟩))]) (Ls := [(b10, .cells #[.slice a5 n8 n8] 163 (0, 0))]) rfl rfl rfl rfl ((sc rfl (sn _))) (by kernel_rfl) (s0 (s1 (s1 (s2 (s3 sr))))) (fun H F' L' hF' hL' => v_load Tryz.isAgg163 rfl ((Has.own 0 rfl).ext hF' hL') rfl) ?_
             refine shM_v (v := .int .i64 k) (ek := [(4, .pointer (some ⟨b32, 0, none⟩))]) (Ls := [(b32, .cells #[.int .i64 k] 3 (0, 0))]) rfl rfl rfl rfl ((sc rfl (sn _))) (by kernel_rfl) (s0 (s1 (s2 (s1 (s3 sr))))) (fun H F' L' hF' hL' => v_load Tryz.isAgg3 rfl ((Has.own 0 rfl).ext hF' hL') rfl) ?_
             refine shM_v (v := .int .i64 k2) (ek := [(5, .pointer (some ⟨b50, 0, none⟩))]) (Ls := [(b50, .cells #[.int .i64 k2] 3 (0, 0))]) rfl rfl rfl rfl ((sc rfl (sn _))) (by kernel_rfl) (s0 (s2 (s1 (s1 (s3 sr))))) (fun H F' L' hF' hL' => v_load Tryz.isAgg3 rfl ((Has.own 0 rfl).ext hF' hL') rfl) ?_
             obtain ⟨x, g58, hx59, r60⟩ := ix_ok r57; clear r57
             obtain ⟨b61, o62, c63, vs64, ha65, hs66, hle67, ⟨rfl, h70⟩, hl68, hc69⟩ := SlR.at (arE_ok (n := 8) (sz := 1) (cI_ok .i64)) hz34 (L := Lb33 ++ []) fP g58.1 hx59
             refine shM_v (v := .pointer (some ⟨b61, o62 + (k : Int).toNat * 8, none⟩)) (ek := [(53, .slice a5 n8 n8), (54, .int .i64 k)]) (Ls := []) rfl rfl rfl rfl ((sc rfl (sc rfl (sn _)))) (by kernel_rfl) sm (fun H F' L' hF' hL' => v_indexO Tryz.underlying163 Tryz.sizeOf161 rfl ha65 rfl (SlR.idx hz34 g58)) ?_
             obtain ⟨x2, g71, hx72, r73⟩ := ix_ok r60; clear r60
             refine shM_v (v := .pointer (some ⟨b61, o62 + (k : Int).toNat * 8 + (k2 : Int).toNat * 1, none⟩)) (ek := [(55, .int .i64 k2), (56, .pointer (some ⟨b61, o62 + (k : Int).toNat * 8, none⟩))]) (Ls := []) rfl rfl rfl rfl ((sc rfl (sc rfl (sn _)))) (by kernel_rfl) sm (fun H F' L' hF' hL' => v_indexA Tryz.underlying161 Tryz.sizeOf3 rfl rfl (arr_lt h70 g71)) ?_
             refine ⟨_, [(57, .pointer (some ⟨b61, o62 + (k : Int).toNat * 8 + (k2 : Int).toNat * 1, none⟩))], rfl, rfl, (sc rfl (sn _)), by kernel_rfl, ?_⟩; intro H
             obtain ⟨l2, h75, r76⟩ := bv_ok r73; clear r73
             refine o_storeZP (zs := l2) (off := (k2 : Int).toNat * 1) (x0 := x) (u := x.set (k2 : Int).toNat 1) Tryz.sizeOf3 (arE_ok (n := 8) (sz := 1) (cI_ok .i64)) rfl ha65 rfl rfl (arr_off (arr_lt h70 g71)) hx59 (fun vs h => arE_set (cI_ok .i64) h (arr_ltN (arr_lt h70 g71)) rfl) (fun _ => .c (.c (.c .h))) hz34 h75 g58 ?_; intro Lb77 hz78
             refine shO_nil ⟨undef, rfl, FExt.refl _, [], by kernel_rfl, .inl (.inl rfl), (fun _ h => absurd h List.not_mem_nil), ?_⟩
             refine shM_nil ?_
             refine inBlock_n (id := 4) (inBlock_n (id := 3) ?_)
             obtain rfl := inj1 r76
             exact mi (kd kr) ⟨Lb77, FExt.refl _, rfl, (sc rfl (sc rfl (sc rfl (sc rfl (sc rfl (sc rfl (sn _))))))), hz78⟩
           have r79 := ite_f r55 c56; clear r55
           refine wsr ?_
           refine ov (v_load Tryz.isAgg3 rfl (Has.own 0 rfl) rfl) rfl ?_
           obtain ⟨y, h80, r81⟩ := b1_ok r79; clear r79
           refine o_call0 rfl Tryz.call140 rfl rfl rfl (book_turned_w h80) ?_; rintro _ F82 _ hF83 hn84 ⟨cp86, rfl, rfl, hit87⟩
           replace hz34 := hz34.mono (arE_ok (n := 8) (sz := 1) (cI_ok .i64)) hF83
           refine shO_L (ln rfl) ?_
           refine shO_nil ?_
           refine shW_block ?_
           refine shW_rangeFunc (encs := (fun x : Int => #[.int .i64 x])) (xs := y) rfl Tryz.call161 rfl (fun _ => rfl) hit87 (fun pre F1 L1 => ∃ (tl : List Int) (out6 : List (List Int)) (Lb88 : LH), y = pre ++ tl ∧ book_desk_ways_l3 k k2 tl out6 = some out5 ∧ L1 = ((b50, .cells #[.int .i64 k2] 3 (0, 0)) :: ((b32, .cells #[.int .i64 k] 3 (0, 0)) :: ((b10, .cells #[.slice a5 n8 n8] 163 (0, 0)) :: (Lb88 ++ [])))) ∧ SlR K.w0.heap.size 161 8 (arE 8 (cI .i64)) F1 a5 n8 n8 out6 Lb88) (fun _ _ _ => False) ?_ ?_ ?_ ?_ ?_ ?_
           · rintro pre F1 F2 L1 ⟨tl, out6, Lb88, hs90, r91, rfl, hz89⟩ hx; exact ⟨tl, out6, Lb88, hs90, r91, rfl, hz89.mono (arE_ok (n := 8) (sz := 1) (cI_ok .i64)) hx⟩
           · intro c F1 F2 L1 h hx; exact h
           · exact ⟨_, out4, Lb33, rfl, r81, rfl, hz34⟩
           · rintro l92 wr93 Fr94 Xr95 Ha96 Hb97 hnb98 hH102 pre x3 tl2 hxs101 F99 _ hF100 ⟨tl, out6, Lb88, hs90, r103, rfl, hz89⟩
             obtain rfl := rest_head hs90 hxs101
             rw [book_desk_ways_l3] at r103
             refine shW_env [(0, .pointer (some ⟨b_d, 0, none⟩)), (3, .pointer (some ⟨b10, 0, none⟩)), (4, .pointer (some ⟨b32, 0, none⟩)), (5, .pointer (some ⟨b50, 0, none⟩)), (15, .int .i64 (l.length : Int)), (16, .int .i64 k), (19, .int .i64 k2), (23, .func (.func 161) #[] cp86), (24, .int .i64 x3)] (by exact (sc rfl (sc rfl (sc rfl (sc rfl (sc rfl (sc rfl (sc rfl (sc rfl (sc rfl (sn _))))))))))) ?_
             refine shW_region (oa rfl rfl (shO_nil ?_))
             refine ⟨rfl, ?_⟩
             refine shW_block ?_
             refine shW_drawM [(.still, 0), (.still, 1), (.still, 2), (.still, 3), (.still, 4), (.still, 5), (.still, 6), (.still, 7), (.still, 8), (.still, 9), (.still, 10), (.still, 11), (.still, 12), (.still, 13), (.still, 14), (.still, 15), (.seq, 16)] (by kernel_rfl) (by kernel_rfl) (trivial) (by rfl) (by kernel_rfl) ?_
             refine shM_v (v := .slice a5 n8 n8) (ek := [(3, .pointer (some ⟨b10, 0, none⟩))]) (Ls := [(b10, .cells #[.slice a5 n8 n8] 163 (0, 0))]) rfl rfl rfl rfl ((sc rfl (sn _))) (by kernel_rfl) (s0 (s1 (s1 (s2 (s3 sr))))) (fun H F' L' hF' hL' => v_load Tryz.isAgg163 rfl ((Has.own 0 rfl).ext hF' hL') rfl) ?_
             refine shM_v (v := .int .i64 k) (ek := [(4, .pointer (some ⟨b32, 0, none⟩))]) (Ls := [(b32, .cells #[.int .i64 k] 3 (0, 0))]) rfl rfl rfl rfl ((sc rfl (sn _))) (by kernel_rfl) (s0 (s1 (s2 (s1 (s3 sr))))) (fun H F' L' hF' hL' => v_load Tryz.isAgg3 rfl ((Has.own 0 rfl).ext hF' hL') rfl) ?_
             refine shM_v (v := .int .i64 k2) (ek := [(5, .pointer (some ⟨b50, 0, none⟩))]) (Ls := [(b50, .cells #[.int .i64 k2] 3 (0, 0))]) rfl rfl rfl rfl ((sc rfl (sn _))) (by kernel_rfl) (s0 (s2 (s1 (s1 (s3 sr))))) (fun H F' L' hF' hL' => v_load Tryz.isAgg3 rfl ((Has.own 0 rfl).ext hF' hL') rfl) ?_
             obtain ⟨x4, g104, hx105, r106⟩ := ix_ok r103; clear r103
             obtain ⟨b107, o108, c109, vs110, ha111, hs112, hle113, ⟨rfl, h116⟩, hl114, hc115⟩ := SlR.at (arE_ok (n := 8) (sz := 1) (cI_ok .i64)) hz89 (L := Lb88 ++ []) fP g104.1 hx105
             refine shM_v (v := .pointer (some ⟨b107, o108 + (k : Int).toNat * 8, none⟩)) (ek := [(25, .slice a5 n8 n8), (26, .int .i64 k)]) (Ls := []) rfl rfl rfl rfl ((sc rfl (sc rfl (sn _)))) (by kernel_rfl) sm (fun H F' L' hF' hL' => v_indexO Tryz.underlying163 Tryz.sizeOf161 rfl ha111 rfl (SlR.idx hz89 g104)) ?_
             obtain ⟨x5, g117, hx118, r119⟩ := ix_ok r106; clear r106
             have hc120 := el_at (cI_ok .i64) h116 hx118 hc115 hle113 hl114
             refine shM_v (v := .pointer (some ⟨b107, o108 + (k : Int).toNat * 8 + (k2 : Int).toNat * 1, none⟩)) (ek := [(27, .int .i64 k2), (28, .pointer (some ⟨b107, o108 + (k : Int).toNat * 8, none⟩))]) (Ls := []) rfl rfl rfl rfl ((sc rfl (sc rfl (sn _)))) (by kernel_rfl) sm (fun H F' L' hF' hL' => v_indexA Tryz.underlying161 Tryz.sizeOf3 rfl rfl (arr_lt h116 g117)) ?_
             refine shM_v (v := .int .i64 x5) (ek := [(29, .pointer (some ⟨b107, o108 + (k : Int).toNat * 8 + (k2 : Int).toNat * 1, none⟩))]) (Ls := Lb88 ++ []) rfl rfl rfl rfl ((sc rfl (sn _))) (by kernel_rfl) (s0 (s1 (s1 (s1 (s4 sr))))) (fun H F' L' hF' hL' => v_load Tryz.isAgg3 rfl (hs112.ext hF' hL') ((hc120).2.2 0 (by decide))) ?_
             refine shM_v (v := .slice a5 n8 n8) (ek := [(3, .pointer (some ⟨b10, 0, none⟩))]) (Ls := [(b10, .cells #[.slice a5 n8 n8] 163 (0, 0))]) rfl rfl rfl rfl ((sc rfl (sn _))) (by kernel_rfl) (s0 (s1 (s1 (s2 (s3 sr))))) (fun H F' L' hF' hL' => v_load Tryz.isAgg163 rfl ((Has.own 0 rfl).ext hF' hL') rfl) ?_
             refine shM_v (v := .int .i64 k) (ek := [(4, .pointer (some ⟨b32, 0, none⟩))]) (Ls := [(b32, .cells #[.int .i64 k] 3 (0, 0))]) rfl rfl rfl rfl ((sc rfl (sn _))) (by kernel_rfl) (s0 (s1 (s2 (s1 (s3 sr))))) (fun H F' L' hF' hL' => v_load Tryz.isAgg3 rfl ((Has.own 0 rfl).ext hF' hL') rfl) ?_
             obtain ⟨g121, r122⟩ := gd_ok r119; clear r119
             refine shM_v (v := .int .i64 (k - 1)) (ek := [(32, .int .i64 k)]) (Ls := []) rfl rfl rfl rfl ((sc rfl (sn _))) (by kernel_rfl) sm (fun H F' L' hF' hL' => v_sub rfl rfl g121) ?_
             refine shM_v (v := .int .i64 x3) (ek := [(6, .int .i64 x3)]) (Ls := []) rfl rfl rfl rfl ((sc rfl (sn _))) (by kernel_rfl) sm (fun H F' L' hF' hL' => v_move rfl) ?_
             obtain ⟨x6, g123, hx124, r125⟩ := ix_ok r122; clear r122
             obtain ⟨b126, o127, c128, vs129, ha130, hs131, hle132, ⟨rfl, h135⟩, hl133, hc134⟩ := SlR.at (arE_ok (n := 8) (sz := 1) (cI_ok .i64)) hz89 (L := Lb88 ++ []) fP g123.1 hx124
             refine shM_v (v := .pointer (some ⟨b126, o127 + (k - 1 : Int).toNat * 8, none⟩)) (ek := [(31, .slice a5 n8 n8), (33, .int .i64 (k - 1))]) (Ls := []) rfl rfl rfl rfl ((sc rfl (sc rfl (sn _)))) (by kernel_rfl) sm (fun H F' L' hF' hL' => v_indexO Tryz.underlying163 Tryz.sizeOf161 rfl ha130 rfl (SlR.idx hz89 g123)) ?_
             obtain ⟨x7, g136, hx137, r138⟩ := ix_ok r125; clear r125
             have hc139 := el_at (cI_ok .i64) h135 hx137 hc134 hle132 hl133
             refine shM_v (v := .pointer (some ⟨b126, o127 + (k - 1 : Int).toNat * 8 + (x3 : Int).toNat * 1, none⟩)) (ek := [(34, .int .i64 x3), (35, .pointer (some ⟨b126, o127 + (k - 1 : Int).toNat * 8, none⟩))]) (Ls := []) rfl rfl rfl rfl ((sc rfl (sc rfl (sn _)))) (by kernel_rfl) sm (fun H F' L' hF' hL' => v_indexA Tryz.underlying161 Tryz.sizeOf3 rfl rfl (arr_lt h135 g136)) ?_
             refine shM_v (v := .int .i64 x7) (ek := [(36, .pointer (some ⟨b126, o127 + (k - 1 : Int).toNat * 8 + (x3 : Int).toNat * 1, none⟩))]) (Ls := Lb88 ++ []) rfl rfl rfl rfl ((sc rfl (sn _))) (by kernel_rfl) (s0 (s1 (s1 (s1 (s4 sr))))) (fun H F' L' hF' hL' => v_load Tryz.isAgg3 rfl (hs131.ext hF' hL') ((hc139).2.2 0 (by decide))) ?_
             obtain ⟨g140, r141⟩ := gd_ok r138; clear r138
             refine shM_v (v := .int .i64 (x5 + x7)) (ek := [(30, .int .i64 x5), (37, .int .i64 x7)]) (Ls := []) rfl rfl rfl rfl ((sc rfl (sc rfl (sn _)))) (by kernel_rfl) sm (fun H F' L' hF' hL' => v_add rfl rfl g140) ?_
             obtain ⟨b142, o143, c144, vs145, ha146, hs147, hle148, ⟨rfl, h151⟩, hl149, hc150⟩ := SlR.at (arE_ok (n := 8) (sz := 1) (cI_ok .i64)) hz89 (L := Lb88 ++ []) fP g104.1 hx105
             refine shM_v (v := .pointer (some ⟨b142, o143 + (k : Int).toNat * 8, none⟩)) (ek := [(25, .slice a5 n8 n8), (26, .int .i64 k)]) (Ls := []) rfl rfl rfl rfl ((sc rfl (sc rfl (sn _)))) (by kernel_rfl) sm (fun H F' L' hF' hL' => v_indexO Tryz.underlying163 Tryz.sizeOf161 rfl ha146 rfl (SlR.idx hz89 g104)) ?_
             refine shM_v (v := .pointer (some ⟨b142, o143 + (k : Int).toNat * 8 + (k2 : Int).toNat * 1, none⟩)) (ek := [(27, .int .i64 k2), (39, .pointer (some ⟨b142, o143 + (k : Int).toNat * 8, none⟩))]) (Ls := []) rfl rfl rfl rfl ((sc rfl (sc rfl (sn _)))) (by kernel_rfl) sm (fun H F' L' hF' hL' => v_indexA Tryz.underlying161 Tryz.sizeOf3 rfl rfl (arr_lt h151 g117)) ?_
             refine ⟨_, [(38, .int .i64 (x5 + x7)), (40, .pointer (some ⟨b142, o143 + (k : Int).toNat * 8 + (k2 : Int).toNat * 1, none⟩))], rfl, rfl, (sc rfl (sc rfl (sn _))), by kernel_rfl, ?_⟩; intro H
             obtain ⟨l3, h153, r154⟩ := bv_ok r141; clear r141
             refine o_storeZP (zs := l3) (off := (k2 : Int).toNat * 1) (x0 := x4) (u := x4.set (k2 : Int).toNat (x5 + x7)) Tryz.sizeOf3 (arE_ok (n := 8) (sz := 1) (cI_ok .i64)) rfl ha146 rfl rfl (arr_off (arr_lt h151 g117)) hx105 (fun vs h => arE_set (cI_ok .i64) h (arr_ltN (arr_lt h151 g117)) rfl) (fun _ => .c (.c (.c .h))) hz89 h153 g104 ?_; intro Lb155 hz156
             refine shO_nil ⟨undef, rfl, FExt.refl _, [], by kernel_rfl, .inl (.inl rfl), (fun _ h => absurd h List.not_mem_nil), ?_⟩
             refine shM_nil ?_
             refine inBlock_n (id := 6) ?_
             refine ⟨(b50, .cells #[.int .i64 k2] 3 (0, 0)) :: ((b32, .cells #[.int .i64 k] 3 (0, 0)) :: ((b10, .cells #[.slice a5 n8 n8] 163 (0, 0)) :: (Lb155 ++ []))), ⟨_, .refl _, sr⟩, ?_⟩; exact ⟨_, l3, Lb155, (by rw [hxs101]; simp), r154, rfl, hz156⟩
           · rintro F157 _ hF158 ⟨tl, out6, Lb88, hs90, r159, rfl, hz89⟩
             obtain rfl := rest_nil hs90; rw [book_desk_ways_l3] at r159
             refine inBlock_n (id := 5) (inBlock_n (id := 4) (inBlock_n (id := 3) ?_))
             obtain rfl := inj1 r159
             exact mi (kd kr) ⟨Lb88, (hF83.trans hF158), rfl, (sc rfl (sc rfl (sc rfl (sc rfl (sc rfl (sc rfl (sn _))))))), hz89⟩
           intro c F1 L1 hx h; exact h.elim
         rintro e1 F161 _ ⟨Lb46, hF162, rfl, he160, hz47⟩
         refine shW_env _ he160 ?_; clear he160
         refine shW_region ?_
         refine ov (v_add rfl rfl (Ctr.r64 hk37 c44 g35)) rfl ?_
         refine om rfl rfl (shO_nil ?_)
         exact le kr ⟨_, hk45, out5, Lb46, r49, (hF42.trans hF162), rfl, (sc rfl (sc rfl (sc rfl (sc rfl (sc rfl (sc rfl (sn _))))))), hz47⟩
       obtain rfl := Ctr.zero hk37 c44
       rw [book_desk_ways_l2] at r39
       refine shW_exit (andThen_exit (andThen_exit ?_))
       refine inBlock_exit ?_
       refine inBlock_n (id := 1) ?_
       obtain rfl := inj1 r39
       exact mi (kd kr) ⟨Lb33, hF42, rfl, (sc rfl (sc rfl (sc rfl (sc rfl (sn _))))), hz34⟩
     rintro e1 F164 _ ⟨Lb28, hF165, rfl, he163, hz29⟩
     refine shW_env _ he163 ?_; clear he163
     refine shW_region ?_
     refine ov (v_add rfl rfl (Ctr.r64 hk19 c26 g17)) rfl ?_
     refine om rfl rfl (shO_nil ?_)
     exact le kr ⟨_, hk27, out3, Lb28, r31, (hF24.trans hF165), rfl, (sc rfl (sc rfl (sc rfl (sc rfl (sn _))))), hz29⟩
   obtain rfl := Ctr.zero hk19 c26
   rw [book_desk_ways_l1] at r21
   refine shW_exit (andThen_exit (andThen_exit ?_))
   refine inBlock_exit ?_
   obtain rfl := inj1 r21
   exact mi kr ⟨Lb15, hF24, rfl, (sc rfl (sn _)), hz16⟩
 rintro e1 F167 _ ⟨Lb11, hF168, rfl, he166, hz12⟩
 refine shW_env _ he166 ?_; clear he166
 refine wsr ?_
 refine ov (v_load Tryz.isAgg163 rfl (Has.own 0 rfl) rfl) rfl ?_
 refine oa rfl rfl (shO_nil ?_)
 refine kW (kd kr) ?_
 refine shW_ret ?_
 refine q_res1 Tryz.results135 (res_tmp rfl) (sr) ?_
 obtain rfl := inj1 r14
 exact ⟨_, _, _, _, rfl, rfl, hz12.any⟩
set_option maxHeartbeats 1000000 in
theorem slices_Reverse_int_int_w {s__a : Option Addr} {s__n : Nat} {s__c : Nat} {s__L : LH} {s_ : List Int} {s__nb : Nat} {F : FS} (h_s_ : SlR s__nb 3 1 (iE .i64) F s__a s__n s__c s_ s__L) {r : List Int} (hr : slices_Reverse_int_int s_ = some r) :
    SH.Spec Tryz.prog 136 #[.slice s__a s__n s__c] F (s__L ++ []) fun F' L' v => ∃ (rL : LH), v = .tuple #[] ∧ L' = rL ++ [] ∧ SlR s__nb 3 1 (iE .i64) F' s__a s__n s__c r rL := by
 refine spec_of_shW (args := [.slice s__a s__n s__c]) Tryz.func136 rfl Tryz.ntmps136 (Nat.le_of_ble_eq_true rfl) ?_
 intro K _ _; rw [slices_Reverse_int_int] at hr
 refine shW_L (L' := s__L ++ []) (by simp) ?_
 refine wsr (om rfl rfl ?_)
 refine ov ((v_lenS Tryz.underlying24 rfl).i (SlR.lenI h_s_)) rfl ?_
 obtain ⟨g1, r2⟩ := gd_ok hr; clear hr
 refine ov (v_sub rfl rfl g1) rfl ?_
 refine oa rfl rfl (oa rfl rfl (shO_nil ?_))
 refine shW_block ?_
 refine shW_lp (fun fu1 e1 F1 L1 => ∃ (s_2 : List Int) (i : Int) (j : Int) (Lb3 : LH), slices_Reverse_int_int_l1 fu1 s_2 i j = some r ∧ F = F1 ∧ L1 = (Lb3 ++ []) ∧ e1.sub [(0, .slice s__a s__n s__c), (2, .int .i64 i), (3, .int .i64 j)] ∧ SlR s__nb 3 1 (iE .i64) F1 s__a s__n s__c s_2 Lb3) FU (m0 kr ⟨s_, 0, (s_.length : Int) - 1, s__L, r2, rfl, rfl, (sc rfl (sc rfl (sc rfl (sn _)))), h_s_⟩) ?_
 rintro fu1 e1 _ _ ⟨s_2, i, j, Lb3, r7, rfl, rfl, he8, hz4⟩
 refine shW_env _ he8 ?_; clear he8
 rcases fu1 with _ | fu1
 · rw [slices_Reverse_int_int_l1] at r7; cases r7
 rw [slices_Reverse_int_int_l1] at r7
 refine shW_seq (wsr (om rfl rfl (om rfl rfl ?_)))
 refine ov (v_lssK rfl rfl) rfl ?_
 refine shO_nil ?_
 refine shW_condP rfl (fun c9 => ?_) (fun c9 => ?_)
 · have r10 := ite_t r7 c9; clear r7
   refine shW_skip (shW_seq ?_)
   refine shW_block ?_
   refine shW_drawM [(.still, 0), (.still, 1), (.still, 2), (.still, 3), (.still, 4), (.still, 5), (.still, 6), (.still, 7), (.still, 8), (.still, 9), (.still, 10), (.still, 11), (.still, 12), (.seq, 13), (.still, 14), (.seq, 15)] (by kernel_rfl) (by kernel_rfl) (trivial) (by rfl) (by kernel_rfl) ?_
   refine shM_v (v := .slice s__a s__n s__c) (ek := [(0, .slice s__a s__n s__c)]) (Ls := []) rfl rfl rfl rfl ((sc rfl (sn _))) (by kernel_rfl) sm (fun H F' L' hF' hL' => v_move rfl) ?_
   refine shM_v (v := .int .i64 i) (ek := [(2, .int .i64 i)]) (Ls := []) rfl rfl rfl rfl ((sc rfl (sn _))) (by kernel_rfl) sm (fun H F' L' hF' hL' => v_move rfl) ?_
   refine shM_v (v := .slice s__a s__n s__c) (ek := [(0, .slice s__a s__n s__c)]) (Ls := []) rfl rfl rfl rfl ((sc rfl (sn _))) (by kernel_rfl) sm (fun H F' L' hF' hL' => v_move rfl) ?_
   refine shM_v (v := .int .i64 j) (ek := [(3, .int .i64 j)]) (Ls := []) rfl rfl rfl rfl ((sc rfl (sn _))) (by kernel_rfl) sm (fun H F' L' hF' hL' => v_move rfl) ?_
   refine shM_v (v := .slice s__a s__n s__c) (ek := [(0, .slice s__a s__n s__c)]) (Ls := []) rfl rfl rfl rfl ((sc rfl (sn _))) (by kernel_rfl) sm (fun H F' L' hF' hL' => v_move rfl) ?_
   refine shM_v (v := .int .i64 j) (ek := [(3, .int .i64 j)]) (Ls := []) rfl rfl rfl rfl ((sc rfl (sn _))) (by kernel_rfl) sm (fun H F' L' hF' hL' => v_move rfl) ?_
   obtain ⟨x, g11, hx12, r13⟩ := ix_ok r10; clear r10
   obtain ⟨b14, o15, c16, vs17, ha18, hs19, hle20, rfl, hl21, hc22⟩ := SlR.at (iE_ok _) hz4 (L := Lb3 ++ []) fP g11.1 hx12
   refine shM_v (v := .pointer (some ⟨b14, o15 + (j : Int).toNat * 1, none⟩)) (ek := [(18, .slice s__a s__n s__c), (19, .int .i64 j)]) (Ls := []) rfl rfl rfl rfl ((sc rfl (sc rfl (sn _)))) (by kernel_rfl) sm (fun H F' L' hF' hL' => v_indexO Tryz.underlying24 Tryz.sizeOf3 rfl ha18 rfl (SlR.idx hz4 g11)) ?_
   refine shM_v (v := .int .i64 x) (ek := [(20, .pointer (some ⟨b14, o15 + (j : Int).toNat * 1, none⟩))]) (Ls := Lb3 ++ []) rfl rfl rfl rfl ((sc rfl (sn _))) (by kernel_rfl) (s0 sr) (fun H F' L' hF' hL' => v_load Tryz.isAgg3 rfl (hs19.ext hF' hL') (hc22 0 (by decide))) ?_
   refine shM_v (v := .slice s__a s__n s__c) (ek := [(0, .slice s__a s__n s__c)]) (Ls := []) rfl rfl rfl rfl ((sc rfl (sn _))) (by kernel_rfl) sm (fun H F' L' hF' hL' => v_move rfl) ?_
   refine shM_v (v := .int .i64 i) (ek := [(2, .int .i64 i)]) (Ls := []) rfl rfl rfl rfl ((sc rfl (sn _))) (by kernel_rfl) sm (fun H F' L' hF' hL' => v_move rfl) ?_
   obtain ⟨x2, g23, hx24, r25⟩ := ix_ok r13; clear r13
   obtain ⟨b26, o27, c28, vs29, ha30, hs31, hle32, rfl, hl33, hc34⟩ := SlR.at (iE_ok _) hz4 (L := Lb3 ++ []) fP g23.1 hx24
   refine shM_v (v := .pointer (some ⟨b26, o27 + (i : Int).toNat * 1, none⟩)) (ek := [(22, .slice s__a s__n s__c), (23, .int .i64 i)]) (Ls := []) rfl rfl rfl rfl ((sc rfl (sc rfl (sn _)))) (by kernel_rfl) sm (fun H F' L' hF' hL' => v_indexO Tryz.underlying24 Tryz.sizeOf3 rfl ha30 rfl (SlR.idx hz4 g23)) ?_
   refine shM_v (v := .int .i64 x2) (ek := [(24, .pointer (some ⟨b26, o27 + (i : Int).toNat * 1, none⟩))]) (Ls := Lb3 ++ []) rfl rfl rfl rfl ((sc rfl (sn _))) (by kernel_rfl) (s0 sr) (fun H F' L' hF' hL' => v_load Tryz.isAgg3 rfl (hs31.ext hF' hL') (hc34 0 (by decide))) ?_
   obtain ⟨b35, o36, c37, vs38, ha39, hs40, hle41, rfl, hl42, hc43⟩ := SlR.at (iE_ok _) hz4 (L := Lb3 ++ []) fP g23.1 hx24
   refine shM_v (v := .pointer (some ⟨b35, o36 + (i : Int).toNat * 1, none⟩)) (ek := [(14, .slice s__a s__n s__c), (15, .int .i64 i)]) (Ls := []) rfl rfl rfl rfl ((sc rfl (sc rfl (sn _)))) (by kernel_rfl) sm (fun H F' L' hF' hL' => v_indexO Tryz.underlying24 Tryz.sizeOf3 rfl ha39 rfl (SlR.idx hz4 g23)) ?_
   refine ⟨_, [(21, .int .i64 x), (26, .pointer (some ⟨b35, o36 + (i : Int).toNat * 1, none⟩))], rfl, rfl, (sc rfl (sc rfl (sn _))), by kernel_rfl, ?_⟩; intro H
   obtain ⟨l, h44, r45⟩ := bv_ok r25; clear r25
   refine o_storeZ (u := x) Tryz.sizeOf3 (iE_ok _) rfl ha39 rfl rfl (fun _ => .h) hz4 h44 g23 ?_; intro Lb46 hz47
   refine shO_nil ⟨undef, rfl, FExt.refl _, [3, 2], by kernel_rfl, .inl (.inr (fun d h => by cases h)), (List.forall_mem_cons.2 ⟨sm, (List.forall_mem_cons.2 ⟨sm, (fun _ h => absurd h List.not_mem_nil)⟩)⟩), ?_⟩
   obtain ⟨x3, g48, hx49, r50⟩ := ix_ok r45; clear r45
   obtain ⟨b51, o52, c53, vs54, ha55, hs56, hle57, rfl, hl58, hc59⟩ := SlR.at (iE_ok _) hz47 (L := Lb46 ++ []) fP g48.1 hx49
   refine shM_v (v := .pointer (some ⟨b51, o52 + (j : Int).toNat * 1, none⟩)) (ek := [(16, .slice s__a s__n s__c), (17, .int .i64 j)]) (Ls := []) rfl rfl rfl rfl ((sc rfl (sc rfl (sn _)))) (by kernel_rfl) sm (fun H F' L' hF' hL' => v_indexO Tryz.underlying24 Tryz.sizeOf3 rfl ha55 rfl (SlR.idx hz47 g48)) ?_
   refine ⟨_, [(25, .int .i64 x2), (27, .pointer (some ⟨b51, o52 + (j : Int).toNat * 1, none⟩))], rfl, rfl, (sc rfl (sc rfl (sn _))), by kernel_rfl, ?_⟩; intro H
   obtain ⟨l2, h60, r61⟩ := bv_ok r50; clear r50
   refine o_storeZ (u := x2) Tryz.sizeOf3 (iE_ok _) rfl ha55 rfl rfl (fun _ => .h) hz47 h60 g48 ?_; intro Lb62 hz63
   refine shO_nil ⟨undef, rfl, FExt.refl _, [], by kernel_rfl, .inl (.inl rfl), (fun _ h => absurd h List.not_mem_nil), ?_⟩
   refine shM_nil ?_
   refine inBlock_n (id := 1) (shW_region (om rfl rfl ?_))
   obtain ⟨g64, r65⟩ := gd_ok r61; clear r61
   refine ov (v_add rfl rfl g64) rfl ?_
   refine om rfl rfl ?_
   obtain ⟨g66, r67⟩ := gd_ok r65; clear r65
   refine ov (v_sub rfl rfl g66) rfl ?_
   refine oa rfl rfl (oa rfl rfl (shO_nil ?_))
   exact le kr ⟨l2, i + 1, j - 1, Lb62, r67, rfl, rfl, (sc rfl (sc rfl (sc rfl (sn _)))), hz63⟩
 have r68 := ite_f r7 c9; clear r7
 refine shW_exit (andThen_exit (andThen_exit ?_))
 refine inBlock_exit ?_
 refine q_end0 (.inr rfl) Tryz.results136 ?_
 obtain rfl := inj1 r68
 exact ⟨_, rfl, rfl, hz4⟩
set_option maxHeartbeats 1000000 in
theorem book_desk_through_w {b_d : Nat} {houses : Int} {notices : Int} {hears_a : Option Addr} {hears_c : Nat} {hears : List (List (List Int))} {readings_a : Option Addr} {readings_c : Nat} {readings : List Int} {cries_a : Option Addr} {cries_c : Nat} {cries : List (Int × Int × Int)} {mb_d : Nat × Nat} {F : FS} (hb_d : F b_d = some (.cells #[.int .i64 houses, .int .i64 notices, .slice hears_a hears.length hears_c, .slice readings_a readings.length readings_c, .slice cries_a cries.length cries_c] 171 mb_d)) (h_hears : RowR 1 (slE 1 (slE 1 (iE .i64))) F hears_a hears_c hears) (h_readings : RowR 1 (iE .i64) F readings_a readings_c readings) (h_cries : RowR 3 (prE (iE .i64) (prE (iE .i64) (iE .i64))) F cries_a cries_c cries) {r : List (List Int)} (hr : book_desk_through houses notices hears readings cries = some r) :
    SH.Spec Tryz.prog 98 #[.pointer (some ⟨b_d, 0, none⟩)] F [] fun F' L' v => ∃ (ra : Option Addr) (rn : Nat) (rc : Nat) (rL : LH), v = .slice ra rn rc ∧ L' = rL ++ [] ∧ SlR 0 161 8 (arE 8 (cI .i64)) F' ra rn rc r rL := by
 refine spec_of_shW (args := [.pointer (some ⟨b_d, 0, none⟩)]) Tryz.func98 rfl Tryz.ntmps98 (Nat.le_of_ble_eq_true rfl) ?_
 intro K _ _; rw [book_desk_through] at hr
 refine wsr (oa rfl rfl (nsr (om rfl rfl ?_)))
 obtain ⟨l, h1, r2⟩ := b1_ok hr; clear hr
 refine o_call0 rfl Tryz.call135 rfl rfl rfl (book_desk_ways_w hb_d h_hears h_readings h_cries h1) ?_; rintro _ F3 _ hF4 hn5 ⟨a7, n11, c8, Lb9, rfl, rfl, hz10⟩
 replace h_readings := h_readings.mono (iE_ok _) hF4
 replace hb_d := hF4 _ _ hb_d
 replace hz10 := hz10.new fun p hp => hn5 p (by simp [hp])
 refine shO_L (lp (ln rfl)) ?_
 refine oa rfl rfl (nsr (om rfl rfl ?_))
 refine ov (v_nilCheck rfl) rfl ?_
 refine ov (v_fieldAddr fa_171_0 rfl) rfl ?_
 refine ov (v_fieldAddr fa_27_3 rfl) rfl ?_
 refine ov (v_load Tryz.isAgg24 rfl (Has.frozen hb_d) rfl) rfl ?_
 obtain ⟨l2, h13, r14⟩ := b1_ok r2; clear r2
 refine o_call0 rfl Tryz.call51 rfl rfl rfl (slices_Clone_int_int_w h_readings h13) ?_; rintro _ F15 _ hF16 hn17 ⟨a19, n23, c20, Lb21, rfl, rfl, hz22⟩
 replace hz10 := hz10.mono (arE_ok (n := 8) (sz := 1) (cI_ok .i64)) hF16
 replace hz22 := hz22.new fun p hp => hn17 p (by simp [hp])
 refine shO_L (lp (ln rfl)) ?_
 refine ov (v_build (v := .agg #[.int .i64 0, .int .i64 0, .slice none 0 0, .slice a19 n23 c20, .slice none 0 0]) rfl (by intro w; kernel_rfl)) rfl ?_
 refine ov (v_build (v := .agg #[.int .i64 0, .int .i64 0, .slice none 0 0, .slice a19 n23 c20, .slice none 0 0]) rfl (by intro w; kernel_rfl)) rfl ?_
 refine o_box rfl rfl ?_; intro b25 hb25
 refine oa rfl rfl (nsr (om rfl rfl ?_))
 refine ov (v_nilCheck rfl) rfl ?_
 refine ov (v_fieldAddr fa_171_0 rfl) rfl ?_
 refine ov (v_fieldAddr fa_27_3 rfl) rfl ?_
 refine ov (v_load Tryz.isAgg24 rfl (Has.own 0 rfl) rfl) rfl ?_
 obtain ⟨s_, h26, r27⟩ := b1_ok r14; clear r14
 refine o_callG (Lb := Lb21 ++ []) (Lr := (b25, .cells #[.int .i64 0, .int .i64 0, .slice none 0 0, .slice a19 n23 c20, .slice none 0 0] 171 (0, 0)) :: (Lb9 ++ [])) rfl Tryz.call136 rfl rfl rfl (pT ((fC fP).trans (pA pR)) (lp (ln rfl))) (slices_Reverse_int_int_w hz22 h26) ?_; rintro _ F28 _ hF29 hd31 hn30 ⟨Lb32, rfl, rfl, hz33⟩
 replace hz10 := hz10.mono (arE_ok (n := 8) (sz := 1) (cI_ok .i64)) hF29
 refine shO_L (lp (ln rfl)) ?_
 refine kO (kf (fS fO) kr) ?_
 refine nsr (om rfl rfl ?_)
 obtain rfl := (SlR.caps hz33).1
 refine shO_freezeR (Nat.le_refl _) (iE_ok _) (fC fP) hz33 ?_; intro F34 hF35 h36
 replace hz10 := hz10.mono (arE_ok (n := 8) (sz := 1) (cI_ok .i64)) hF35
 refine shO_freeze 0 rfl hb25 ?_; intro F37 hF38 hz39
 refine shO_L (L' := Lb9 ++ []) rfl ?_
 replace h36 := h36.mono (iE_ok _) hF38
 replace hz10 := hz10.mono (arE_ok (n := 8) (sz := 1) (cI_ok .i64)) hF38
 obtain ⟨l3, h40, r41⟩ := b1_ok r27; clear r27
 refine o_call0 rfl Tryz.call135 rfl rfl rfl (book_desk_ways_w hz39 (RowR.nil _ _ _) h36 (RowR.nil _ _ _) h40) ?_; rintro _ F42 _ hF43 hn44 ⟨a46, n50, c47, Lb48, rfl, rfl, hz49⟩
 replace hz10 := hz10.mono (arE_ok (n := 8) (sz := 1) (cI_ok .i64)) hF43
 replace hz49 := hz49.new fun p hp => hn44 p (by simp [hp])
 refine shO_L (lp (ln rfl)) ?_
 refine oa rfl rfl (shO_nil ?_)
 obtain ⟨there, h54, r55⟩ := b1_ok r41; clear r41
 refine shW_join (fun e1 F1 L1 => ∃ (Lb52 : LH), F42 = F1 ∧ L1 = (Lb52 ++ []) ∧ e1.sub [(3, .slice a7 n11 c8)] ∧ SlR K.w0.heap.size 161 8 (arE 8 (cI .i64)) F1 a7 n11 c8 there Lb52) ?_ ?_
 · clear r55
   refine wsr (om rfl rfl ?_)
   refine ov ((v_lenS Tryz.underlying163 rfl).i (SlR.lenI hz10)) rfl ?_
   refine om rfl rfl (shO_nil ?_)
   refine shW_block ?_
   obtain ⟨g58, r59⟩ := gd_ok h54; clear h54
   refine shW_lp (fun fu1 e1 F1 L1 => ∃ (k : Int), Ctr 0 (l.length : Int) k fu1 ∧ ∃ (there2 : List (List Int)) (Lb56 : LH), book_desk_through_l1 l3 fu1 k there2 = some there ∧ F42 = F1 ∧ L1 = (Lb56 ++ (Lb48 ++ [])) ∧ e1.sub [(3, .slice a7 n11 c8), (5, .slice a46 n50 c47), (28, .int .i64 (l.length : Int)), (29, .int .i64 k)] ∧ SlR K.w0.heap.size 161 8 (arE 8 (cI .i64)) F1 a7 n11 c8 there2 Lb56) _ (m0 (kg (fS fP) kr) ⟨_, Ctr.start _ _, l, Lb9, r59, rfl, rfl, (sc rfl (sc rfl (sc rfl (sc rfl (sn _))))), hz10⟩) ?_
   rintro fu1 e1 _ _ ⟨k, hk60, there2, Lb56, r62, rfl, rfl, he63, hz57⟩
   refine shW_env _ he63 ?_; clear he63
   refine wsr ?_
   refine ov (v_lssK rfl rfl) rfl ?_
   refine shO_nil (shW_seq ?_)
   refine shW_condP rfl (fun c65 => ?_) (fun c65 => ?_)
   · obtain ⟨fu1, rfl, hk66⟩ := Ctr.succ hk60 c65
     rw [book_desk_through_l1] at r62
     refine shW_skip ?_
     obtain ⟨there3, h69, r70⟩ := b1_ok r62; clear r62
     refine shW_join (fun e1 F1 L1 => ∃ (Lb67 : LH), F42 = F1 ∧ L1 = (Lb67 ++ (Lb48 ++ [])) ∧ e1.sub [(3, .slice a7 n11 c8), (5, .slice a46 n50 c47), (28, .int .i64 (l.length : Int)), (29, .int .i64 k)] ∧ SlR K.w0.heap.size 161 8 (arE 8 (cI .i64)) F1 a7 n11 c8 there3 Lb67) ?_ ?_
     · clear r70
       refine shW_block ?_
       refine wsr (om rfl rfl (oa rfl rfl (nsr (om rfl rfl (shO_nil ?_)))))
       refine shW_block ?_
       obtain ⟨g73, r74⟩ := gd_ok h69; clear h69
       refine shW_lp (fun fu2 e1 F1 L1 => ∃ (k2 : Int), Ctr 0 8 k2 fu2 ∧ ∃ (there4 : List (List Int)) (Lb71 : LH), book_desk_through_l2 l3 k fu2 k2 there4 = some there3 ∧ F42 = F1 ∧ L1 = (Lb71 ++ (Lb48 ++ [])) ∧ e1.sub [(3, .slice a7 n11 c8), (5, .slice a46 n50 c47), (6, .int .i64 k), (28, .int .i64 (l.length : Int)), (29, .int .i64 k), (32, .int .i64 k2)] ∧ SlR K.w0.heap.size 161 8 (arE 8 (cI .i64)) F1 a7 n11 c8 there4 Lb71) _ (m0 kr ⟨_, Ctr.start _ _, there2, Lb56, r74, rfl, rfl, (sc rfl (sc rfl (sc rfl (sc rfl (sc rfl (sc rfl (sn _))))))), hz57⟩) ?_
       rintro fu2 e1 _ _ ⟨k2, hk75, there4, Lb71, r77, rfl, rfl, he78, hz72⟩
       refine shW_env _ he78 ?_; clear he78
       refine wsr ?_
       refine ov (v_lssK rfl rfl) rfl ?_
       refine shO_nil (shW_seq ?_)
       refine shW_condP rfl (fun c80 => ?_) (fun c80 => ?_)
       · obtain ⟨fu2, rfl, hk81⟩ := Ctr.succ hk75 c80
         rw [book_desk_through_l2] at r77
         refine shW_skip (shW_seq ?_)
         refine shW_block ?_
         refine wsr (om rfl rfl (oa rfl rfl (shO_nil ?_)))
         refine shW_drawM [(.still, 0), (.still, 1), (.still, 2), (.still, 3), (.still, 4), (.still, 5), (.still, 6), (.still, 7), (.still, 8), (.still, 9), (.still, 10), (.still, 11), (.still, 12), (.still, 13), (.still, 14), (.still, 15), (.still, 16), (.still, 17), (.still, 18), (.seq, 19)] (by kernel_rfl) (by kernel_rfl) (trivial) (by rfl) (by kernel_rfl) ?_
         refine shM_v (v := .slice a7 n11 c8) (ek := [(3, .slice a7 n11 c8)]) (Ls := []) rfl rfl rfl rfl ((sc rfl (sn _))) (by kernel_rfl) sm (fun H F' L' hF' hL' => v_move rfl) ?_
         refine shM_v (v := .int .i64 k) (ek := [(6, .int .i64 k)]) (Ls := []) rfl rfl rfl rfl ((sc rfl (sn _))) (by kernel_rfl) sm (fun H F' L' hF' hL' => v_move rfl) ?_
         refine shM_v (v := .int .i64 k2) (ek := [(7, .int .i64 k2)]) (Ls := []) rfl rfl rfl rfl ((sc rfl (sn _))) (by kernel_rfl) sm (fun H F' L' hF' hL' => v_move rfl) ?_
         obtain ⟨x, g82, hx83, r84⟩ := ix_ok r77; clear r77
         obtain ⟨b85, o86, c87, vs88, ha89, hs90, hle91, ⟨rfl, h94⟩, hl92, hc93⟩ := SlR.at (arE_ok (n := 8) (sz := 1) (cI_ok .i64)) hz72 (L := Lb71 ++ []) fP g82.1 hx83
         refine shM_v (v := .pointer (some ⟨b85, o86 + (k : Int).toNat * 8, none⟩)) (ek := [(35, .slice a7 n11 c8), (36, .int .i64 k)]) (Ls := []) rfl rfl rfl rfl ((sc rfl (sc rfl (sn _)))) (by kernel_rfl) sm (fun H F' L' hF' hL' => v_indexO Tryz.underlying163 Tryz.sizeOf161 rfl ha89 rfl (SlR.idx hz72 g82)) ?_
         obtain ⟨x2, g95, hx96, r97⟩ := ix_ok r84; clear r84
         have hc98 := el_at (cI_ok .i64) h94 hx96 hc93 hle91 hl92
         refine shM_v (v := .pointer (some ⟨b85, o86 + (k : Int).toNat * 8 + (k2 : Int).toNat * 1, none⟩)) (ek := [(37, .int .i64 k2), (38, .pointer (some ⟨b85, o86 + (k : Int).toNat * 8, none⟩))]) (Ls := []) rfl rfl rfl rfl ((sc rfl (sc rfl (sn _)))) (by kernel_rfl) sm (fun H F' L' hF' hL' => v_indexA Tryz.underlying161 Tryz.sizeOf3 rfl rfl (arr_lt h94 g95)) ?_
         refine shM_v (v := .int .i64 x2) (ek := [(39, .pointer (some ⟨b85, o86 + (k : Int).toNat * 8 + (k2 : Int).toNat * 1, none⟩))]) (Ls := Lb71 ++ []) rfl rfl rfl rfl ((sc rfl (sn _))) (by kernel_rfl) (s0 (s4 (s3 sr))) (fun H F' L' hF' hL' => v_load Tryz.isAgg3 rfl (hs90.ext hF' hL') ((hc98).2.2 0 (by decide))) ?_
         refine shM_v (v := .slice a46 n50 c47) (ek := [(5, .slice a46 n50 c47)]) (Ls := []) rfl rfl rfl rfl ((sc rfl (sn _))) (by kernel_rfl) sm (fun H F' L' hF' hL' => v_move rfl) ?_
         refine shM_v (v := .slice a46 n50 c47) (ek := [(5, .slice a46 n50 c47)]) (Ls := []) rfl rfl rfl rfl ((sc rfl (sn _))) (by kernel_rfl) sm (fun H F' L' hF' hL' => v_move rfl) ?_
         refine shM_v (v := .int .i64 (l3.length : Int)) (ek := [(42, .slice a46 n50 c47)]) (Ls := []) rfl rfl rfl rfl ((sc rfl (sn _))) (by kernel_rfl) sm (fun H F' L' hF' hL' => (v_lenS Tryz.underlying163 rfl).i (SlR.lenI hz49)) ?_
         obtain ⟨g99, r100⟩ := gd_ok r97; clear r97
         refine shM_v (v := .int .i64 ((l3.length : Int) - 1)) (ek := [(43, .int .i64 (l3.length : Int))]) (Ls := []) rfl rfl rfl rfl ((sc rfl (sn _))) (by kernel_rfl) sm (fun H F' L' hF' hL' => v_sub rfl rfl g99) ?_
         refine shM_v (v := .int .i64 k) (ek := [(6, .int .i64 k)]) (Ls := []) rfl rfl rfl rfl ((sc rfl (sn _))) (by kernel_rfl) sm (fun H F' L' hF' hL' => v_move rfl) ?_
         obtain ⟨g101, r102⟩ := gd_ok r100; clear r100
         refine shM_v (v := .int .i64 (((l3.length : Int) - 1) - k)) (ek := [(44, .int .i64 ((l3.length : Int) - 1)), (45, .int .i64 k)]) (Ls := []) rfl rfl rfl rfl ((sc rfl (sc rfl (sn _)))) (by kernel_rfl) sm (fun H F' L' hF' hL' => v_sub rfl rfl g101) ?_
         refine shM_v (v := .int .i64 k2) (ek := [(7, .int .i64 k2)]) (Ls := []) rfl rfl rfl rfl ((sc rfl (sn _))) (by kernel_rfl) sm (fun H F' L' hF' hL' => v_move rfl) ?_
         obtain ⟨x3, g103, hx104, r105⟩ := ix_ok r102; clear r102
         obtain ⟨b106, o107, c108, vs109, ha110, hs111, hle112, ⟨rfl, h115⟩, hl113, hc114⟩ := SlR.at (arE_ok (n := 8) (sz := 1) (cI_ok .i64)) hz49 (L := Lb48 ++ []) fP g103.1 hx104
         refine shM_v (v := .pointer (some ⟨b106, o107 + (((l3.length : Int) - 1) - k : Int).toNat * 8, none⟩)) (ek := [(41, .slice a46 n50 c47), (46, .int .i64 (((l3.length : Int) - 1) - k))]) (Ls := []) rfl rfl rfl rfl ((sc rfl (sc rfl (sn _)))) (by kernel_rfl) sm (fun H F' L' hF' hL' => v_indexO Tryz.underlying163 Tryz.sizeOf161 rfl ha110 rfl (SlR.idx hz49 g103)) ?_
         obtain ⟨x4, g116, hx117, r118⟩ := ix_ok r105; clear r105
         have hc119 := el_at (cI_ok .i64) h115 hx117 hc114 hle112 hl113
         refine shM_v (v := .pointer (some ⟨b106, o107 + (((l3.length : Int) - 1) - k : Int).toNat * 8 + (k2 : Int).toNat * 1, none⟩)) (ek := [(47, .int .i64 k2), (48, .pointer (some ⟨b106, o107 + (((l3.length : Int) - 1) - k : Int).toNat * 8, none⟩))]) (Ls := []) rfl rfl rfl rfl ((sc rfl (sc rfl (sn _)))) (by kernel_rfl) sm (fun H F' L' hF' hL' => v_indexA Tryz.underlying161 Tryz.sizeOf3 rfl rfl (arr_lt h115 g116)) ?_
         refine shM_v (v := .int .i64 x4) (ek := [(49, .pointer (some ⟨b106, o107 + (((l3.length : Int) - 1) - k : Int).toNat * 8 + (k2 : Int).toNat * 1, none⟩))]) (Ls := Lb48 ++ []) rfl rfl rfl rfl ((sc rfl (sn _))) (by kernel_rfl) (s0 (s3 (s4 sr))) (fun H F' L' hF' hL' => v_load Tryz.isAgg3 rfl (hs111.ext hF' hL') ((hc119).2.2 0 (by decide))) ?_
         obtain ⟨g120, r121⟩ := gd_ok r118; clear r118
         refine shM_v (v := .int .i64 (x2 * x4)) (ek := [(40, .int .i64 x2), (50, .int .i64 x4)]) (Ls := []) rfl rfl rfl rfl ((sc rfl (sc rfl (sn _)))) (by kernel_rfl) sm (fun H F' L' hF' hL' => v_mul rfl rfl g120) ?_
         obtain ⟨b122, o123, c124, vs125, ha126, hs127, hle128, ⟨rfl, h131⟩, hl129, hc130⟩ := SlR.at (arE_ok (n := 8) (sz := 1) (cI_ok .i64)) hz72 (L := Lb71 ++ []) fP g82.1 hx83
         refine shM_v (v := .pointer (some ⟨b122, o123 + (k : Int).toNat * 8, none⟩)) (ek := [(35, .slice a7 n11 c8), (36, .int .i64 k)]) (Ls := []) rfl rfl rfl rfl ((sc rfl (sc rfl (sn _)))) (by kernel_rfl) sm (fun H F' L' hF' hL' => v_indexO Tryz.underlying163 Tryz.sizeOf161 rfl ha126 rfl (SlR.idx hz72 g82)) ?_
         refine shM_v (v := .pointer (some ⟨b122, o123 + (k : Int).toNat * 8 + (k2 : Int).toNat * 1, none⟩)) (ek := [(37, .int .i64 k2), (52, .pointer (some ⟨b122, o123 + (k : Int).toNat * 8, none⟩))]) (Ls := []) rfl rfl rfl rfl ((sc rfl (sc rfl (sn _)))) (by kernel_rfl) sm (fun H F' L' hF' hL' => v_indexA Tryz.underlying161 Tryz.sizeOf3 rfl rfl (arr_lt h131 g95)) ?_
         refine ⟨_, [(51, .int .i64 (x2 * x4)), (53, .pointer (some ⟨b122, o123 + (k : Int).toNat * 8 + (k2 : Int).toNat * 1, none⟩))], rfl, rfl, (sc rfl (sc rfl (sn _))), by kernel_rfl, ?_⟩; intro H
         obtain ⟨l4, h133, r134⟩ := bv_ok r121; clear r121
         refine o_storeZP (zs := l4) (off := (k2 : Int).toNat * 1) (x0 := x) (u := x.set (k2 : Int).toNat (x2 * x4)) Tryz.sizeOf3 (arE_ok (n := 8) (sz := 1) (cI_ok .i64)) rfl ha126 rfl rfl (arr_off (arr_lt h131 g95)) hx83 (fun vs h => arE_set (cI_ok .i64) h (arr_ltN (arr_lt h131 g95)) rfl) (fun _ => .h) hz72 h133 g82 ?_; intro Lb135 hz136
         refine shO_nil ⟨undef, rfl, FExt.refl _, [], by kernel_rfl, .inl (.inl rfl), (fun _ h => absurd h List.not_mem_nil), ?_⟩
         refine shM_nil ?_
         refine inBlock_n (id := 3) (shW_region ?_)
         refine ov (v_add rfl rfl (Ctr.r64 hk75 c80 g73)) rfl ?_
         refine om rfl rfl (shO_nil ?_)
         exact le kr ⟨_, hk81, l4, Lb135, r134, rfl, rfl, (sc rfl (sc rfl (sc rfl (sc rfl (sc rfl (sc rfl (sn _))))))), hz136⟩
       obtain rfl := Ctr.zero hk75 c80
       rw [book_desk_through_l2] at r77
       refine shW_exit (andThen_exit (andThen_exit ?_))
       refine inBlock_exit ?_
       refine inBlock_n (id := 1) ?_
       obtain rfl := inj1 r77
       exact mi kr ⟨Lb71, rfl, rfl, (sc rfl (sc rfl (sc rfl (sc rfl (sn _))))), hz72⟩
     rintro e1 _ _ ⟨Lb67, rfl, rfl, he137, hz68⟩
     refine shW_env _ he137 ?_; clear he137
     refine shW_region ?_
     refine ov (v_add rfl rfl (Ctr.r64 hk60 c65 g58)) rfl ?_
     refine om rfl rfl (shO_nil ?_)
     exact le kr ⟨_, hk66, there3, Lb67, r70, rfl, rfl, (sc rfl (sc rfl (sc rfl (sc rfl (sn _))))), hz68⟩
   obtain rfl := Ctr.zero hk60 c65
   rw [book_desk_through_l1] at r62
   refine shW_exit (andThen_exit (andThen_exit ?_))
   refine inBlock_exit ?_
   obtain rfl := inj1 r62
   exact mi (ka kn) ⟨Lb56, rfl, rfl, (sc rfl (sn _)), hz57⟩
 rintro e1 _ _ ⟨Lb52, rfl, rfl, he138, hz53⟩
 refine shW_env _ he138 ?_; clear he138
 refine wsr (om rfl rfl (oa rfl rfl (shO_nil (shW_ret ?_))))
 refine q_res1 Tryz.results98 (res_tmp rfl) (sr) ?_
 obtain rfl := inj1 r55
 exact ⟨_, _, _, _, rfl, rfl, hz53.any⟩
set_option maxHeartbeats 1000000 in
theorem book_Count_w {houses : Int} {notices : Int} {hears_a : Option Addr} {hears_c : Nat} {hears : List (List (List Int))} {readings_a : Option Addr} {readings_c : Nat} {readings : List Int} {cries_a : Option Addr} {cries_c : Nat} {cries : List (Int × Int × Int)} {F : FS} (h_hears : RowR 1 (slE 1 (slE 1 (iE .i64))) F hears_a hears_c hears) (h_readings : RowR 1 (iE .i64) F readings_a readings_c readings) (h_cries : RowR 3 (prE (iE .i64) (prE (iE .i64) (iE .i64))) F cries_a cries_c cries) {r : Int} {r2 : Int} (hr : book_Count houses notices hears readings cries = some (r, r2)) :
    SpecV Tryz.prog 64 #[.agg #[.int .i64 houses, .int .i64 notices, .slice hears_a hears.length hears_c, .slice readings_a readings.length readings_c, .slice cries_a cries.length cries_c]] F (.tuple #[.int .i64 r, .int .i64 r2]) := by
 refine spec_of_shW (args := [.agg #[.int .i64 houses, .int .i64 notices, .slice hears_a hears.length hears_c, .slice readings_a readings.length readings_c, .slice cries_a cries.length cries_c]]) Tryz.func64 rfl Tryz.ntmps64 (Nat.le_of_ble_eq_true rfl) ?_
 intro K _ _; rw [book_Count] at hr
 refine wsr ?_
 refine o_box rfl rfl ?_; intro b1 hb1
 refine oa rfl rfl (oa rfl rfl (nsr ?_))
 refine ov (v_loadA (cs := #[.int .i64 houses, .int .i64 notices, .slice hears_a hears.length hears_c, .slice readings_a readings.length readings_c, .slice cries_a cries.length cries_c]) Tryz.isAgg27 Tryz.sizeOf27 rfl (Has.own 0 rfl) (Nat.le_of_ble_eq_true rfl) rfl) rfl ?_
 obtain ⟨d, n, h2, r3⟩ := b2_ok hr; clear hr
 refine o_call0 rfl Tryz.call93 rfl rfl rfl (book_opened_w h_hears h_readings h_cries h2) ?_; rintro _ F4 _ hF5 hn6 ⟨v8, rfl, rfl, hp9⟩
 refine shO_L (ln rfl) ?_
 refine om rfl rfl (ox rfl rfl rfl (ox rfl rfl rfl (oa rfl rfl (oa rfl rfl (shO_nil (shW_seq (wsr (om rfl rfl ?_))))))))
 refine ov (v_neq rfl rfl) rfl ?_
 refine shO_nil ?_
 refine shW_condP rfl (fun c10 => ?_) (fun c10 => ?_)
 · have r11 := ite_t r3 c10; clear r3
   refine wsr (om rfl rfl (oa rfl rfl (oa rfl rfl (shO_nil ?_))))
   refine kW kn ?_
   refine shW_ret (andThen_ret ?_)
   refine q_res2 Tryz.results64 (res_tmp rfl) (res_tmp rfl) (sr) ?_
   obtain ⟨rfl, rfl⟩ := inj2 r11
   exact rfl
 have r12 := ite_f r3 c10; clear r3
 refine shW_skip (wsr (oa rfl rfl (shO_nil ?_)))
 obtain ⟨n2, h13, r14⟩ := b1_ok r12; clear r12
 refine shW_join (fun e1 F1 L1 => FExt F4 F1 ∧ L1 = [] ∧ e1.sub [(6, .int .i64 n2)]) ?_ ?_
 · clear r14
   refine wsr (om rfl rfl ?_)
   obtain ⟨houses2, notices2, hears2, readings2, cries2, h15, r16⟩ := b5_ok h13; clear h13
   have h31 := hp9; rw [h15] at h31; obtain ⟨b17, c18, m19, hv20, hz21, ⟨_, _, rfl, rfl, ⟨_, _, rfl, rfl, ⟨_, _, rfl, ⟨a22, c23, rfl, h24⟩, ⟨_, _, rfl, ⟨a25, c26, rfl, h27⟩, ⟨a28, c29, rfl, h30⟩⟩⟩⟩⟩⟩ := h31; subst hv20
   have hz21 : F4 b17 = some (.cells #[.int .i64 houses2, .int .i64 notices2, .slice a22 hears2.length c23, .slice a25 readings2.length c26, .slice a28 cries2.length c29] 171 m19) := hz21
   obtain ⟨l, h32, r33⟩ := b1_ok r16; clear r16
   refine o_call0 rfl Tryz.call98 rfl rfl rfl (book_desk_through_w hz21 h24 h27 h30 h32) ?_; rintro _ F34 _ hF35 hn36 ⟨a38, n42, c39, Lb40, rfl, rfl, hz41⟩
   replace hz41 := hz41.new fun p hp => hn36 p (by simp [hp])
   refine shO_L (lp (ln rfl)) ?_
   refine kO (kf (fS fO) kr) ?_
   obtain ⟨x, g44, hx45, r46⟩ := ix_ok r33; clear r33
   obtain ⟨b47, o48, c49, vs50, ha51, hs52, hle53, ⟨rfl, h56⟩, hl54, hc55⟩ := SlR.at (arE_ok (n := 8) (sz := 1) (cI_ok .i64)) hz41 (L := (b1, .cells #[.int .i64 houses, .int .i64 notices, .slice hears_a hears.length hears_c, .slice readings_a readings.length readings_c, .slice cries_a cries.length cries_c] 27 (0, 0)) :: (Lb40 ++ [])) (fC fP) g44.1 hx45
   refine ov (v_indexO Tryz.underlying163 Tryz.sizeOf161 rfl ha51 rfl (SlR.idx hz41 g44)) rfl ?_
   refine ov (v_loadA (cs := arr (cI .i64) x) Tryz.isAgg161 Tryz.sizeOf161 rfl hs52 hle53 (extract_cells hle53 hl54 hc55)) rfl ?_
   refine om rfl rfl (shO_nil ?_)
   refine shW_block ?_
   refine kW kn ?_
   obtain ⟨g57, r58⟩ := gd_ok r46; clear r46
   refine shW_lp (fun fu1 e1 F1 L1 => ∃ (k : Int), Ctr 0 8 k fu1 ∧ ∃ (n3 : Int), book_Count_l1 x fu1 k n3 = some n2 ∧ F34 = F1 ∧ L1 = [] ∧ e1.sub [(6, .int .i64 n3), (20, .agg (arr (cI .i64) x)), (21, .int .i64 k)]) _ (m0 kr ⟨_, Ctr.start _ _, 0, r58, rfl, rfl, (sc rfl (sc rfl (sc rfl (sn _))))⟩) ?_
   rintro fu1 e1 _ _ ⟨k, hk59, n3, r61, rfl, rfl, he62⟩
   refine shW_env _ he62 ?_; clear he62
   refine wsr ?_
   refine ov (v_lssK rfl rfl) rfl ?_
   refine shO_nil (shW_seq ?_)
   refine shW_condP rfl (fun c64 => ?_) (fun c64 => ?_)
   · obtain ⟨fu1, rfl, hk65⟩ := Ctr.succ hk59 c64
     rw [book_Count_l1] at r61
     refine shW_skip (shW_seq ?_)
     refine shW_block ?_
     refine wsr ?_
     obtain ⟨x2, g66, hx67, r68⟩ := ix_ok r61; clear r61
     refine ov (v_index (ixa_161 h56 g66 hx67) rfl rfl) rfl ?_
     refine oa rfl rfl (shO_nil (shW_region (om rfl rfl (om rfl rfl ?_))))
     obtain ⟨g69, r70⟩ := gd_ok r68; clear r68
     refine ov (v_add rfl rfl g69) rfl ?_
     refine oa rfl rfl (shO_nil (inBlock_n (id := 1) (shW_region ?_)))
     refine ov (v_add rfl rfl (Ctr.r64 hk59 c64 g57)) rfl ?_
     refine om rfl rfl (shO_nil ?_)
     exact le kr ⟨_, hk65, n3 + x2, r70, rfl, rfl, (sc rfl (sc rfl (sc rfl (sn _))))⟩
   obtain rfl := Ctr.zero hk59 c64
   rw [book_Count_l1] at r61
   refine shW_exit (andThen_exit (andThen_exit ?_))
   refine inBlock_exit ?_
   obtain rfl := inj1 r61
   exact mi kr ⟨hF35, rfl, (sc rfl (sn _))⟩
 rintro e1 F72 _ ⟨hF73, rfl, he71⟩
 refine shW_env _ he71 ?_; clear he71
 refine wsr (om rfl rfl (oa rfl rfl (oa rfl rfl (shO_nil (shW_ret ?_)))))
 refine q_res2 Tryz.results64 (res_tmp rfl) (res_tmp rfl) (sr) ?_
 obtain ⟨rfl, rfl⟩ := inj2 r14
 exact rfl
set_option maxHeartbeats 1000000 in
theorem oyezlaw07_Bell_w {F : FS} {r : Int} {r2 : Int} {r3 : List (List (List Int))} {r4 : List Int} {r5 : List (Int × Int × Int)} (hr : oyezlaw07_Bell = some (r, r2, r3, r4, r5)) :
    SH.Spec Tryz.prog 65 #[] F [] fun F' L' v => ∃ (r3a : Option Addr) (r3n : Nat) (r3c : Nat) (r3L : LH) (r4a : Option Addr) (r4n : Nat) (r4c : Nat) (r4L : LH) (r5a : Option Addr) (r5n : Nat) (r5c : Nat) (r5L : LH), v = .agg #[.int .i64 r, .int .i64 r2, .slice r3a r3n r3c, .slice r4a r4n r4c, .slice r5a r5n r5c] ∧ L' = r3L ++ (r4L ++ (r5L ++ [])) ∧ SlR 0 49 1 (slE 1 (slE 1 (iE .i64))) F' r3a r3n r3c r3 r3L ∧ SlR 0 3 1 (iE .i64) F' r4a r4n r4c r4 r4L ∧ SlR 0 67 3 (prE (iE .i64) (prE (iE .i64) (iE .i64))) F' r5a r5n r5c r5 r5L := by
 refine spec_of_shW (args := []) Tryz.func65 rfl Tryz.ntmps65 (Nat.le_of_ble_eq_true rfl) ?_
 intro K _ _; rw [oyezlaw07_Bell] at hr
 refine wsr ?_
 refine o_alloc rfl Tryz.zeroValue27 ?_; intro b1 hb1
 refine nsr ?_
 refine o_buildSlice (cs := #[.int .i64 0]) rfl rfl (buildSlice_all slt_24 [.int .i64 0] rfl (by decide) (by simp [Value.cells]) (by decide)) ?_; intro b2 hb2
 refine o_buildSlice (cs := #[.int .i64 0, .int .i64 1]) rfl rfl (buildSlice_all slt_24 [.int .i64 0, .int .i64 1] rfl (by decide) (by simp [Value.cells]) (by decide)) ?_; intro b3 hb3
 refine o_buildSlice (cs := #[.int .i64 1]) rfl rfl (buildSlice_all slt_24 [.int .i64 1] rfl (by decide) (by simp [Value.cells]) (by decide)) ?_; intro b4 hb4
 refine o_buildSlice (cs := #[.int .i64 1]) rfl rfl (buildSlice_all slt_24 [.int .i64 1] rfl (by decide) (by simp [Value.cells]) (by decide)) ?_; intro b5 hb5
 refine o_buildSlice (cs := #[.slice (some ⟨b2, 0, none⟩) 1 1, .slice (some ⟨b3, 0, none⟩) 2 2, .slice (some ⟨b4, 0, none⟩) 1 1, .slice (some ⟨b5, 0, none⟩) 1 1, .slice none 0 0, .slice none 0 0, .slice none 0 0, .slice none 0 0]) rfl rfl (buildSlice_all slt_49 [.slice (some ⟨b2, 0, none⟩) 1 1, .slice (some ⟨b3, 0, none⟩) 2 2, .slice (some ⟨b4, 0, none⟩) 1 1, .slice (some ⟨b5, 0, none⟩) 1 1, .slice none 0 0, .slice none 0 0, .slice none 0 0, .slice none 0 0] rfl (by decide) (by simp [Value.cells]) (by decide)) ?_; intro b6 hb6
 refine o_buildSlice (cs := #[.slice (some ⟨b6, 0, none⟩) 8 8]) rfl rfl (buildSlice_all slt_23 [.slice (some ⟨b6, 0, none⟩) 8 8] rfl (by decide) (by simp [Value.cells]) (by decide)) ?_; intro b7 hb7
 refine o_buildSlice (cs := #[.int .i64 1, .int .i64 (-1), .int .i64 4]) rfl rfl (buildSlice_all slt_24 [.int .i64 1, .int .i64 (-1), .int .i64 4] rfl (by decide) (by simp [Value.cells]) (by decide)) ?_; intro b8 hb8
 refine ov (v_build (v := .agg #[.int .i64 0, .int .i64 0, .int .i64 0]) rfl (by intro w; kernel_rfl)) rfl ?_
 refine ov (v_build (v := .agg #[.int .i64 2, .int .i64 0, .int .i64 0]) rfl (by intro w; kernel_rfl)) rfl ?_
 refine o_buildSlice (cs := #[.int .i64 0, .int .i64 0, .int .i64 0, .int .i64 2, .int .i64 0, .int .i64 0]) rfl rfl (buildSlice_all slt_25 [.agg #[.int .i64 0, .int .i64 0, .int .i64 0], .agg #[.int .i64 2, .int .i64 0, .int .i64 0]] rfl (by decide) (by simp [Value.cells]) (by decide)) ?_; intro b9 hb9
 refine ov (v_build (v := .agg #[.int .i64 2, .int .i64 1, .slice (some ⟨b7, 0, none⟩) 1 1, .slice (some ⟨b8, 0, none⟩) 3 3, .slice (some ⟨b9, 0, none⟩) 2 2]) rfl (by intro w; kernel_rfl)) rfl ?_
 refine shO_freeze 7 rfl hb2 ?_; intro F10 hF11 hz12
 refine shO_L (L' := [(b9, .cells #[.int .i64 0, .int .i64 0, .int .i64 0, .int .i64 2, .int .i64 0, .int .i64 0] 67 (0, 0)), (b8, .cells #[.int .i64 1, .int .i64 (-1), .int .i64 4] 3 (0, 0)), (b7, .cells #[.slice (some ⟨b6, 0, none⟩) 8 8] 49 (0, 0)), (b6, .cells #[.slice (some ⟨b2, 0, none⟩) 1 1, .slice (some ⟨b3, 0, none⟩) 2 2, .slice (some ⟨b4, 0, none⟩) 1 1, .slice (some ⟨b5, 0, none⟩) 1 1, .slice none 0 0, .slice none 0 0, .slice none 0 0, .slice none 0 0] 24 (0, 0)), (b5, .cells #[.int .i64 1] 3 (0, 0)), (b4, .cells #[.int .i64 1] 3 (0, 0)), (b3, .cells #[.int .i64 0, .int .i64 1] 3 (0, 0)), (b1, .cells #[.int .i64 0, .int .i64 0, .slice none 0 0, .slice none 0 0, .slice none 0 0] 27 (0, 0))]) rfl ?_
 have h13 : RowR 1 (iE .i64) F10 (some ⟨b2, 0, none⟩) 1 [0] := RowR.of_block (iE_ok _) (vss := [[.int .i64 0]]) (xs := [0]) hz12 (.cons rfl .nil) rfl (by simp [maxLen])
 refine shO_freeze 6 rfl hb3 ?_; intro F14 hF15 hz16
 refine shO_L (L' := [(b9, .cells #[.int .i64 0, .int .i64 0, .int .i64 0, .int .i64 2, .int .i64 0, .int .i64 0] 67 (0, 0)), (b8, .cells #[.int .i64 1, .int .i64 (-1), .int .i64 4] 3 (0, 0)), (b7, .cells #[.slice (some ⟨b6, 0, none⟩) 8 8] 49 (0, 0)), (b6, .cells (#[.slice (some ⟨b2, 0, none⟩) [0].length 1, .slice (some ⟨b3, 0, none⟩) 2 2, .slice (some ⟨b4, 0, none⟩) 1 1, .slice (some ⟨b5, 0, none⟩) 1 1, .slice none 0 0, .slice none 0 0, .slice none 0 0, .slice none 0 0]) 24 (0, 0)), (b5, .cells #[.int .i64 1] 3 (0, 0)), (b4, .cells #[.int .i64 1] 3 (0, 0)), (b1, .cells #[.int .i64 0, .int .i64 0, .slice none 0 0, .slice none 0 0, .slice none 0 0] 27 (0, 0))]) rfl ?_
 replace h13 := h13.mono (iE_ok _) hF15
 have h17 : RowR 1 (iE .i64) F14 (some ⟨b3, 0, none⟩) 2 [0, 1] := RowR.of_block (iE_ok _) (vss := [[.int .i64 0], [.int .i64 1]]) (xs := [0, 1]) hz16 (.cons rfl (.cons rfl .nil)) rfl (by simp [maxLen])
 refine shO_freeze 5 rfl hb4 ?_; intro F18 hF19 hz20
 refine shO_L (L' := [(b9, .cells #[.int .i64 0, .int .i64 0, .int .i64 0, .int .i64 2, .int .i64 0, .int .i64 0] 67 (0, 0)), (b8, .cells #[.int .i64 1, .int .i64 (-1), .int .i64 4] 3 (0, 0)), (b7, .cells #[.slice (some ⟨b6, 0, none⟩) 8 8] 49 (0, 0)), (b6, .cells (#[.slice (some ⟨b2, 0, none⟩) [0].length 1, .slice (some ⟨b3, 0, none⟩) [0, 1].length 2, .slice (some ⟨b4, 0, none⟩) 1 1, .slice (some ⟨b5, 0, none⟩) 1 1, .slice none 0 0, .slice none 0 0, .slice none 0 0, .slice none 0 0]) 24 (0, 0)), (b5, .cells #[.int .i64 1] 3 (0, 0)), (b1, .cells #[.int .i64 0, .int .i64 0, .slice none 0 0, .slice none 0 0, .slice none 0 0] 27 (0, 0))]) rfl ?_
 replace h13 := h13.mono (iE_ok _) hF19
 replace h17 := h17.mono (iE_ok _) hF19
 have h21 : RowR 1 (iE .i64) F18 (some ⟨b4, 0, none⟩) 1 [1] := RowR.of_block (iE_ok _) (vss := [[.int .i64 1]]) (xs := [1]) hz20 (.cons rfl .nil) rfl (by simp [maxLen])
 refine shO_freeze 4 rfl hb5 ?_; intro F22 hF23 hz24
 refine shO_L (L' := [(b9, .cells #[.int .i64 0, .int .i64 0, .int .i64 0, .int .i64 2, .int .i64 0, .int .i64 0] 67 (0, 0)), (b8, .cells #[.int .i64 1, .int .i64 (-1), .int .i64 4] 3 (0, 0)), (b7, .cells #[.slice (some ⟨b6, 0, none⟩) 8 8] 49 (0, 0)), (b6, .cells (#[.slice (some ⟨b2, 0, none⟩) [0].length 1, .slice (some ⟨b3, 0, none⟩) [0, 1].length 2, .slice (some ⟨b4, 0, none⟩) [1].length 1, .slice (some ⟨b5, 0, none⟩) 1 1, .slice none 0 0, .slice none 0 0, .slice none 0 0, .slice none 0 0]) 24 (0, 0)), (b1, .cells #[.int .i64 0, .int .i64 0, .slice none 0 0, .slice none 0 0, .slice none 0 0] 27 (0, 0))]) rfl ?_
 replace h13 := h13.mono (iE_ok _) hF23
 replace h17 := h17.mono (iE_ok _) hF23
 replace h21 := h21.mono (iE_ok _) hF23
 have h25 : RowR 1 (iE .i64) F22 (some ⟨b5, 0, none⟩) 1 [1] := RowR.of_block (iE_ok _) (vss := [[.int .i64 1]]) (xs := [1]) hz24 (.cons rfl .nil) rfl (by simp [maxLen])
 refine shO_freeze 3 rfl hb6 ?_; intro F26 hF27 hz28
 refine shO_L (L' := [(b9, .cells #[.int .i64 0, .int .i64 0, .int .i64 0, .int .i64 2, .int .i64 0, .int .i64 0] 67 (0, 0)), (b8, .cells #[.int .i64 1, .int .i64 (-1), .int .i64 4] 3 (0, 0)), (b7, .cells #[.slice (some ⟨b6, 0, none⟩) 8 8] 49 (0, 0)), (b1, .cells #[.int .i64 0, .int .i64 0, .slice none 0 0, .slice none 0 0, .slice none 0 0] 27 (0, 0))]) rfl ?_
 replace h13 := h13.mono (iE_ok _) hF27
 replace h17 := h17.mono (iE_ok _) hF27
 replace h21 := h21.mono (iE_ok _) hF27
 replace h25 := h25.mono (iE_ok _) hF27
 have h29 : RowR 1 (slE 1 (iE .i64)) F26 (some ⟨b6, 0, none⟩) 8 [[0], [0, 1], [1], [1], [], [], [], []] := RowR.of_block (slE_ok (iE_ok _)) (vss := [[.slice (some ⟨b2, 0, none⟩) [0].length 1], [.slice (some ⟨b3, 0, none⟩) [0, 1].length 2], [.slice (some ⟨b4, 0, none⟩) [1].length 1], [.slice (some ⟨b5, 0, none⟩) [1].length 1], [.slice none 0 0], [.slice none 0 0], [.slice none 0 0], [.slice none 0 0]]) (xs := [[0], [0, 1], [1], [1], [], [], [], []]) hz28 (.cons ⟨_, _, rfl, h13⟩ (.cons ⟨_, _, rfl, h17⟩ (.cons ⟨_, _, rfl, h21⟩ (.cons ⟨_, _, rfl, h25⟩ (.cons ⟨_, _, rfl, RowR.nil _ _ _⟩ (.cons ⟨_, _, rfl, RowR.nil _ _ _⟩ (.cons ⟨_, _, rfl, RowR.nil _ _ _⟩ (.cons ⟨_, _, rfl, RowR.nil _ _ _⟩ .nil)))))))) rfl (by simp [maxLen])
 have hz31 : SlR K.w0.heap.size 49 1 (slE 1 (slE 1 (iE .i64))) F26 (some ⟨b7, 0, none⟩) 1 1 [[[0], [0, 1], [1], [1], [], [], [], []]] [(b7, .cells (#[.slice (some ⟨b6, 0, none⟩) [[0], [0, 1], [1], [1], [], [], [], []].length 8]) 49 (0, 0))] := SlR.of_block (vss := [[.slice (some ⟨b6, 0, none⟩) [[0], [0, 1], [1], [1], [], [], [], []].length 8]]) (slE_ok (slE_ok (iE_ok _))) hb7 (.cons ⟨_, _, rfl, h29⟩ .nil) rfl rfl (by simp [maxLen])
 generalize hLLb30 : ([(b7, .cells (#[.slice (some ⟨b6, 0, none⟩) [[0], [0, 1], [1], [1], [], [], [], []].length 8]) 49 (0, 0))] : LH) = Lb30 at hz31
 refine shO_perm (L' := Lb30 ++ [(b9, .cells #[.int .i64 0, .int .i64 0, .int .i64 0, .int .i64 2, .int .i64 0, .int .i64 0] 67 (0, 0)), (b8, .cells #[.int .i64 1, .int .i64 (-1), .int .i64 4] 3 (0, 0)), (b1, .cells #[.int .i64 0, .int .i64 0, .slice none 0 0, .slice none 0 0, .slice none 0 0] 27 (0, 0))]) (by rw [← hLLb30]; exact (fC (fC fO))) ?_
 refine shO_perm (L' := (b9, .cells #[.int .i64 0, .int .i64 0, .int .i64 0, .int .i64 2, .int .i64 0, .int .i64 0] 67 (0, 0)) :: ((b8, .cells #[.int .i64 1, .int .i64 (-1), .int .i64 4] 3 (0, 0)) :: ((b1, .cells #[.int .i64 0, .int .i64 0, .slice none 0 0, .slice none 0 0, .slice none 0 0] 27 (0, 0)) :: (Lb30 ++ [])))) (List.Perm.symm (fC (fC (fC fP)))) ?_
 have hz34 : SlR K.w0.heap.size 3 1 (iE .i64) F26 (some ⟨b8, 0, none⟩) 3 3 [1, -1, 4] [(b8, .cells #[.int .i64 1, .int .i64 (-1), .int .i64 4] 3 (0, 0))] := SlR.of_block (vss := [[.int .i64 1], [.int .i64 (-1)], [.int .i64 4]]) (iE_ok _) hb8 (.cons rfl (.cons rfl (.cons rfl .nil))) rfl rfl (by simp [maxLen])
 generalize hLLb33 : ([(b8, .cells #[.int .i64 1, .int .i64 (-1), .int .i64 4] 3 (0, 0))] : LH) = Lb33 at hz34
 refine shO_perm (L' := Lb33 ++ ((b9, .cells #[.int .i64 0, .int .i64 0, .int .i64 0, .int .i64 2, .int .i64 0, .int .i64 0] 67 (0, 0)) :: ((b1, .cells #[.int .i64 0, .int .i64 0, .slice none 0 0, .slice none 0 0, .slice none 0 0] 27 (0, 0)) :: (Lb30 ++ [])))) (by rw [← hLLb33]; exact (fC fO)) ?_
 refine shO_perm (L' := (b9, .cells #[.int .i64 0, .int .i64 0, .int .i64 0, .int .i64 2, .int .i64 0, .int .i64 0] 67 (0, 0)) :: ((b1, .cells #[.int .i64 0, .int .i64 0, .slice none 0 0, .slice none 0 0, .slice none 0 0] 27 (0, 0)) :: (Lb33 ++ (Lb30 ++ [])))) (List.Perm.symm (fC (fC fP))) ?_
 have hz37 : SlR K.w0.heap.size 67 3 (prE (iE .i64) (prE (iE .i64) (iE .i64))) F26 (some ⟨b9, 0, none⟩) 2 2 [(0, 0, 0), (2, 0, 0)] [(b9, .cells #[.int .i64 0, .int .i64 0, .int .i64 0, .int .i64 2, .int .i64 0, .int .i64 0] 67 (0, 0))] := SlR.of_block (vss := [[.int .i64 0, .int .i64 0, .int .i64 0], [.int .i64 2, .int .i64 0, .int .i64 0]]) (prE_ok (iE_ok _) (prE_ok (iE_ok _) (iE_ok _))) hb9 (.cons ⟨_, _, rfl, rfl, ⟨_, _, rfl, rfl, rfl⟩⟩ (.cons ⟨_, _, rfl, rfl, ⟨_, _, rfl, rfl, rfl⟩⟩ .nil)) rfl rfl (by simp [maxLen])
 generalize hLLb36 : ([(b9, .cells #[.int .i64 0, .int .i64 0, .int .i64 0, .int .i64 2, .int .i64 0, .int .i64 0] 67 (0, 0))] : LH) = Lb36 at hz37
 refine shO_perm (L' := Lb36 ++ ((b1, .cells #[.int .i64 0, .int .i64 0, .slice none 0 0, .slice none 0 0, .slice none 0 0] 27 (0, 0)) :: (Lb33 ++ (Lb30 ++ [])))) (by rw [← hLLb36]; exact fO) ?_
 refine shO_perm (L' := (b1, .cells #[.int .i64 0, .int .i64 0, .slice none 0 0, .slice none 0 0, .slice none 0 0] 27 (0, 0)) :: (Lb36 ++ (Lb33 ++ (Lb30 ++ [])))) (List.Perm.symm (fC fP)) ?_
 refine o_storeA (i := 0) Tryz.sizeOf27 rfl rfl rfl (by simp [Value.oneCell']) rfl (Nat.le_of_ble_eq_true rfl) ?_
 refine shO_L (L' := (b1, .cells #[.int .i64 2, .int .i64 1, .slice (some ⟨b7, 0, none⟩) 1 1, .slice (some ⟨b8, 0, none⟩) 3 3, .slice (some ⟨b9, 0, none⟩) 2 2] 27 (0, 0)) :: (Lb36 ++ (Lb33 ++ (Lb30 ++ [])))) rfl ?_
 refine shO_nil ?_
 refine kW (kc (kg (fS (fS fP)) (kg (fS fP) kr))) ?_
 refine shW_ret ?_
 refine q_res1 Tryz.results65 (res_cellA (cs := #[.int .i64 2, .int .i64 1, .slice (some ⟨b7, 0, none⟩) 1 1, .slice (some ⟨b8, 0, none⟩) 3 3, .slice (some ⟨b9, 0, none⟩) 2 2]) Tryz.isAgg27 Tryz.sizeOf27 rfl (Has.own 0 rfl) (Nat.le_of_ble_eq_true rfl) rfl) (s1 (s4 (s4 (s4 sr)))) ?_
 obtain ⟨rfl, rfl, rfl, rfl, rfl⟩ := inj5 hr
 exact ⟨_, _, _, _, _, _, _, _, _, _, _, _, rfl, rfl, hz31.any, hz34.any, hz37.any⟩
set_option maxHeartbeats 1000000 in
theorem book_Winds_w {houses : Int} {notices : Int} {hears_a : Option Addr} {hears_c : Nat} {hears : List (List (List Int))} {readings_a : Option Addr} {readings_c : Nat} {readings : List Int} {cries_a : Option Addr} {cries_c : Nat} {cries : List (Int × Int × Int)} {F : FS} (h_hears : RowR 1 (slE 1 (slE 1 (iE .i64))) F hears_a hears_c hears) (h_readings : RowR 1 (iE .i64) F readings_a readings_c readings) (h_cries : RowR 3 (prE (iE .i64) (prE (iE .i64) (iE .i64))) F cries_a cries_c cries) {r : List (List Int)} {r2 : Int} (hr : book_Winds houses notices hears readings cries = some (r, r2)) :
    SH.Spec Tryz.prog 67 #[.agg #[.int .i64 houses, .int .i64 notices, .slice hears_a hears.length hears_c, .slice readings_a readings.length readings_c, .slice cries_a cries.length cries_c]] F [] fun F' L' v => ∃ (ra : Option Addr) (rn : Nat) (rc : Nat) (rL : LH), v = .tuple #[.slice ra rn rc, .int .i64 r2] ∧ L' = rL ++ [] ∧ SlR 0 24 1 (slE 1 (iE .i64)) F' ra rn rc r rL := by
 refine spec_of_shW (args := [.agg #[.int .i64 houses, .int .i64 notices, .slice hears_a hears.length hears_c, .slice readings_a readings.length readings_c, .slice cries_a cries.length cries_c]]) Tryz.func67 rfl Tryz.ntmps67 (Nat.le_of_ble_eq_true rfl) ?_
 intro K _ _; rw [book_Winds] at hr
 refine wsr ?_
 refine o_box rfl rfl ?_; intro b1 hb1
 refine oa rfl rfl (oa rfl rfl (nsr ?_))
 refine ov (v_loadA (cs := #[.int .i64 houses, .int .i64 notices, .slice hears_a hears.length hears_c, .slice readings_a readings.length readings_c, .slice cries_a cries.length cries_c]) Tryz.isAgg27 Tryz.sizeOf27 rfl (Has.own 0 rfl) (Nat.le_of_ble_eq_true rfl) rfl) rfl ?_
 obtain ⟨d, n, h2, r3⟩ := b2_ok hr; clear hr
 refine o_call0 rfl Tryz.call93 rfl rfl rfl (book_opened_w h_hears h_readings h_cries h2) ?_; rintro _ F4 _ hF5 hn6 ⟨v8, rfl, rfl, hp9⟩
 refine shO_L (ln rfl) ?_
 refine om rfl rfl (ox rfl rfl rfl (ox rfl rfl rfl (oa rfl rfl (oa rfl rfl (shO_nil (shW_seq (wsr (om rfl rfl ?_))))))))
 refine ov (v_neq rfl rfl) rfl ?_
 refine shO_nil ?_
 refine shW_condP rfl (fun c10 => ?_) (fun c10 => ?_)
 · have r11 := ite_t r3 c10; clear r3
   refine wsr (om rfl rfl (oa rfl rfl (oa rfl rfl (shO_nil ?_))))
   refine kW kn ?_
   refine shW_ret (andThen_ret ?_)
   refine q_res2 Tryz.results67 (res_tmp rfl) (res_tmp rfl) (sr) ?_
   obtain ⟨rfl, rfl⟩ := inj2 r11
   exact ⟨_, _, _, [], rfl, rfl, SlR.nil _ _ _ _ _⟩
 have r12 := ite_f r3 c10; clear r3
 refine shW_skip (wsr (oa rfl rfl (shO_nil ?_)))
 refine shW_join (fun e1 F1 L1 => ∃ (out : List (List Int)) (a13 : Option Addr) (n17 : Nat) (c14 : Nat) (Lb15 : LH), book_Winds_j1 out = some (r, r2) ∧ FExt F4 F1 ∧ L1 = (Lb15 ++ []) ∧ e1.sub [(6, .slice a13 n17 c14)] ∧ SlR K.w0.heap.size 24 1 (slE 1 (iE .i64)) F1 a13 n17 c14 out Lb15) ?_ ?_
 · refine wsr (om rfl rfl ?_)
   obtain ⟨houses2, notices2, hears2, readings2, cries2, h19, r20⟩ := b5_ok r12; clear r12
   have h35 := hp9; rw [h19] at h35; obtain ⟨b21, c22, m23, hv24, hz25, ⟨_, _, rfl, rfl, ⟨_, _, rfl, rfl, ⟨_, _, rfl, ⟨a26, c27, rfl, h28⟩, ⟨_, _, rfl, ⟨a29, c30, rfl, h31⟩, ⟨a32, c33, rfl, h34⟩⟩⟩⟩⟩⟩ := h35; subst hv24
   have hz25 : F4 b21 = some (.cells #[.int .i64 houses2, .int .i64 notices2, .slice a26 hears2.length c27, .slice a29 readings2.length c30, .slice a32 cries2.length c33] 171 m23) := hz25
   obtain ⟨l, h36, r37⟩ := b1_ok r20; clear r20
   refine o_call0 rfl Tryz.call98 rfl rfl rfl (book_desk_through_w hz25 h28 h31 h34 h36) ?_; rintro _ F38 _ hF39 hn40 ⟨a42, n46, c43, Lb44, rfl, rfl, hz45⟩
   replace hz45 := hz45.new fun p hp => hn40 p (by simp [hp])
   refine shO_L (lp (ln rfl)) ?_
   refine kO (kf (fS fO) kr) ?_
   refine ov ((v_lenS Tryz.underlying163 rfl).i (SlR.lenI hz45)) rfl ?_
   refine om rfl rfl (shO_nil ?_)
   refine shW_block ?_
   refine kW (kd kr) ?_
   refine shW_lp (fun fu2 e1 F1 L1 => ∃ (tl : List (List Int)) (k : Int), tl.length = fu2 ∧ Lst l k tl ∧ ∃ (out2 : List (List Int)) (a48 : Option Addr) (n52 : Nat) (c49 : Nat) (Lb50 : LH), book_Winds_l2 tl out2 = some (r, r2) ∧ FExt F38 F1 ∧ L1 = (Lb50 ++ (Lb44 ++ [])) ∧ e1.sub [(6, .slice a48 n52 c49), (21, .slice a42 n46 c43), (22, .int .i64 (l.length : Int)), (23, .int .i64 k)] ∧ SlR K.w0.heap.size 24 1 (slE 1 (iE .i64)) F1 a48 n52 c49 out2 Lb50) _ (m0 (ke kr) ⟨_, _, rfl, Lst.start _, [], none, 0, 0, [], r37, FExt.refl _, rfl, (sc rfl (sc rfl (sc rfl (sc rfl (sn _))))), SlR.nil _ _ _ _ _⟩) ?_
   rintro fu2 e1 F58 _ ⟨tl, k, hn55, hk54, out2, a48, n52, c49, Lb50, r56, hF59, rfl, he57, hz51⟩
   refine shW_env _ he57 ?_; clear he57
   replace hz45 := hz45.mono (arE_ok (n := 8) (sz := 1) (cI_ok .i64)) hF59
   refine wsr ?_
   refine ov (v_lssK rfl rfl) rfl ?_
   refine shO_nil (shW_seq ?_)
   refine shW_condP rfl (fun c61 => ?_) (fun c61 => ?_)
   · obtain ⟨x, tl2, rfl, hx63, g64, hk62⟩ := Lst.succ hk54 c61
     rw [book_Winds_l2] at r56
     refine shW_skip ?_
     refine shW_join (fun e1 F1 L1 => ∃ (out3 : List (List Int)) (a65 : Option Addr) (n69 : Nat) (c66 : Nat) (Lb67 : LH), book_Winds_j3 (book_Winds_l2 tl2) out3 = some (r, r2) ∧ FExt F58 F1 ∧ L1 = (Lb67 ++ (Lb44 ++ [])) ∧ e1.sub [(6, .slice a65 n69 c66), (21, .slice a42 n46 c43), (22, .int .i64 (l.length : Int)), (23, .int .i64 k)] ∧ SlR K.w0.heap.size 24 1 (slE 1 (iE .i64)) F1 a65 n69 c66 out3 Lb67) ?_ ?_
     · refine shW_block ?_
       refine wsr ?_
       obtain ⟨b71, o72, c73, vs74, ha75, hs76, hle77, ⟨rfl, h80⟩, hl78, hc79⟩ := SlR.at (arE_ok (n := 8) (sz := 1) (cI_ok .i64)) hz45 (L := Lb50 ++ (Lb44 ++ [])) (fS fP) g64.1 hx63
       refine ov (v_indexO Tryz.underlying163 Tryz.sizeOf161 rfl ha75 rfl (SlR.idx hz45 g64)) rfl ?_
       refine ov (v_loadA (cs := arr (cI .i64) x) Tryz.isAgg161 Tryz.sizeOf161 rfl hs76 hle77 (extract_cells hle77 hl78 hc79)) rfl ?_
       refine o_alloc rfl Tryz.zeroValue161 ?_; intro b81 hb81
       refine shO_L (L' := (b81, .cells (arr (cI .i64) (List.replicate 8 0)) 161 (0, 0)) :: (Lb50 ++ (Lb44 ++ []))) rfl ?_
       refine o_storeW (i := 0) Tryz.sizeOf161 rfl rfl rfl (arr_sz (cI_ok .i64) List.length_replicate) (arr_sz (cI_ok .i64) h80) (arr_one (cI_ok .i64)) ?_
       refine shO_L (L' := (b81, .cells (arr (cI .i64) x) 161 (0, 0)) :: (Lb50 ++ (Lb44 ++ []))) rfl ?_
       refine nsr (oa rfl rfl (shO_nil ?_))
       obtain ⟨own, h88, r89⟩ := b1_ok r56; clear r56
       refine shW_join (fun e1 F1 L1 => ∃ (a82 : Option Addr) (n86 : Nat) (c83 : Nat) (Lb84 : LH), F58 = F1 ∧ L1 = (Lb50 ++ (Lb84 ++ (Lb44 ++ []))) ∧ e1.sub [(6, .slice a48 n52 c49), (9, .slice a82 n86 c83), (21, .slice a42 n46 c43), (22, .int .i64 (l.length : Int)), (23, .int .i64 k)] ∧ SlR K.w0.heap.size 3 1 (iE .i64) F1 a82 n86 c83 own Lb84) ?_ ?_
       · clear r89
         refine wsr ?_
         refine ov (v_loadW Tryz.isAgg161 Tryz.sizeOf161 rfl (Has.own 0 rfl) (arr_sz (cI_ok .i64) h80)) rfl ?_
         refine om rfl rfl (shO_nil ?_)
         refine shW_block ?_
         refine kW (kd kr) ?_
         obtain ⟨g96, r97⟩ := gd_ok h88; clear h88
         refine shW_lp (fun fu4 e1 F1 L1 => ∃ (k2 : Int), Ctr 0 8 k2 fu4 ∧ ∃ (own2 : List Int) (a90 : Option Addr) (n94 : Nat) (c91 : Nat) (Lb92 : LH), book_Winds_l4 x fu4 k2 own2 = some own ∧ F58 = F1 ∧ L1 = (Lb50 ++ (Lb92 ++ (Lb44 ++ []))) ∧ e1.sub [(6, .slice a48 n52 c49), (9, .slice a90 n94 c91), (21, .slice a42 n46 c43), (22, .int .i64 (l.length : Int)), (23, .int .i64 k), (27, .agg (arr (cI .i64) x)), (28, .int .i64 k2)] ∧ SlR K.w0.heap.size 3 1 (iE .i64) F1 a90 n94 c91 own2 Lb92) _ (m0 (ka (ke kr)) ⟨_, Ctr.start _ _, [], none, 0, 0, [], r97, rfl, rfl, (sc rfl (sc rfl (sc rfl (sc rfl (sc rfl (sc rfl (sc rfl (sn _)))))))), SlR.nil _ _ _ _ _⟩) ?_
         rintro fu4 e1 _ _ ⟨k2, hk98, own2, a90, n94, c91, Lb92, r100, rfl, rfl, he101, hz93⟩
         refine shW_env _ he101 ?_; clear he101
         refine wsr ?_
         refine ov (v_lssK rfl rfl) rfl ?_
         refine shO_nil (shW_seq ?_)
         refine shW_condP rfl (fun c103 => ?_) (fun c103 => ?_)
         · obtain ⟨fu4, rfl, hk104⟩ := Ctr.succ hk98 c103
           rw [book_Winds_l4] at r100
           refine shW_skip (shW_seq ?_)
           refine shW_block ?_
           refine wsr (om rfl rfl ?_)
           obtain ⟨x2, g105, hx106, r107⟩ := ix_ok r100; clear r100
           refine ov (v_index (ixa_161 h80 g105 hx106) rfl rfl) rfl ?_
           refine oa rfl rfl (oa rfl rfl (nsr (om rfl rfl ?_)))
           refine ov (v_gtrK rfl rfl) rfl ?_
           refine shO_nil ?_
           refine shW_condP rfl (fun c108 => ?_) (fun c108 => ?_)
           · have r109 := ite_t r107 c108; clear r107
             refine shW_region (om rfl rfl (om rfl rfl ?_))
             refine o_buildSlice (cs := #[.int .i64 k2]) rfl rfl (buildSlice_all slt_24 [.int .i64 k2] rfl (by decide) (by simp [Value.cells]) (by decide)) ?_; intro b110 hb110
             obtain ⟨own3, h111, g112, r113⟩ := ap_ok r109; clear r109
             refine o_appZ (xs := own2) (ys := [k2]) (zs := own3) rfl slt_24 rfl rfl (Nat.le_refl _) (fun _ => .c (.s .h)) hz93 (SrcR.box (vss := [[.int .i64 k2]]) (ys := [k2]) 0 rfl (iE_ok _) (.cons rfl .nil) rfl rfl) h111 g112 (by decide) ?_; intro a114 n118 c115 Lb116 hz117
             refine kO (kd kr) ?_
             refine oa rfl rfl (shO_nil (inBlock_n (id := 3) (shW_region ?_)))
             refine ov (v_add rfl rfl (Ctr.r64 hk98 c103 g96)) rfl ?_
             refine om rfl rfl (shO_nil ?_)
             exact le kr ⟨_, hk104, own3, a114, n118, c115, Lb116, r113, rfl, rfl, (sc rfl (sc rfl (sc rfl (sc rfl (sc rfl (sc rfl (sc rfl (sn _)))))))), hz117⟩
           have r120 := ite_f r107 c108; clear r107
           refine shW_skip (inBlock_n (id := 3) (shW_region ?_))
           refine ov (v_add rfl rfl (Ctr.r64 hk98 c103 g96)) rfl ?_
           refine om rfl rfl (shO_nil ?_)
           exact le kr ⟨_, hk104, own2, a90, n94, c91, Lb92, r120, rfl, rfl, (sc rfl (sc rfl (sc rfl (sc rfl (sc rfl (sc rfl (sc rfl (sn _)))))))), hz93⟩
         obtain rfl := Ctr.zero hk98 c103
         rw [book_Winds_l4] at r100
         refine shW_exit (andThen_exit (andThen_exit ?_))
         refine inBlock_exit ?_
         obtain rfl := inj1 r100
         exact mi kr ⟨a90, n94, c91, Lb92, rfl, rfl, (sc rfl (sc rfl (sc rfl (sc rfl (sc rfl (sn _)))))), hz93⟩
       rintro e1 _ _ ⟨a82, n86, c83, Lb84, rfl, rfl, he121, hz85⟩
       refine shW_env _ he121 ?_; clear he121
       refine shW_seq (wsr (om rfl rfl ?_))
       refine ov ((v_lenS Tryz.underlying24 rfl).i (SlR.lenI hz85)) rfl ?_
       refine ov (v_eql rfl rfl) rfl ?_
       refine shO_nil ?_
       refine shW_condP rfl (fun c122 => ?_) (fun c122 => ?_)
       · have r123 := ite_t r89 c122; clear r89
         refine wsr (oa rfl rfl (oa rfl rfl (shO_nil ?_)))
         refine kW kn ?_
         refine shW_ret (andThen_ret (inBlock_ret (andThen_ret (andThen_ret (inBlock_ret (andThen_ret ?_))))))
         refine q_res2 Tryz.results67 (res_tmp rfl) (res_tmp rfl) (sr) ?_
         obtain ⟨rfl, rfl⟩ := inj2 r123
         exact ⟨_, _, _, [], rfl, rfl, SlR.nil _ _ _ _ _⟩
       have r124 := ite_f r89 c122; clear r89
       refine shW_skip (shW_region (om rfl rfl (om rfl rfl ?_)))
       refine o_buildSlice (cs := #[.slice a82 n86 c83]) rfl rfl (buildSlice_all slt_49 [.slice a82 n86 c83] rfl (by decide) (by simp [Value.cells]) (by decide)) ?_; intro b125 hb125
       obtain rfl := (SlR.caps hz85).1
       refine shO_freezeR (Nat.le_refl _) (iE_ok _) (fC (fS fP)) hz85 ?_; intro F126 hF127 h128
       replace hz51 := hz51.mono (slE_ok (iE_ok _)) hF127
       obtain ⟨out4, h129, g130, r131⟩ := ap_ok r124; clear r124
       refine o_appZ (xs := out2) (ys := [own]) (zs := out4) rfl slt_49 rfl rfl (Nat.le_refl _) (fun _ => .c .h) hz51 (SrcR.box (vss := [[.slice a82 own.length c83]]) (ys := [own]) 0 rfl (slE_ok (iE_ok _)) (.cons ⟨_, _, rfl, h128⟩ .nil) rfl rfl) h129 g130 (by decide) ?_; intro a132 n136 c133 Lb134 hz135
       refine kO (kd kr) ?_
       refine oa rfl rfl (shO_nil (inBlock_n (id := 1) ?_))
       exact mi kr ⟨out4, a132, n136, c133, Lb134, r131, hF127, rfl, (sc rfl (sc rfl (sc rfl (sc rfl (sn _))))), hz135⟩
     rintro e1 F140 _ ⟨out3, a65, n69, c66, Lb67, r138, hF141, rfl, he139, hz68⟩
     refine shW_env _ he139 ?_; clear he139
     replace hz45 := hz45.mono (arE_ok (n := 8) (sz := 1) (cI_ok .i64)) hF141
     rw [book_Winds_j3] at r138
     refine shW_region ?_
     refine ov (v_add rfl rfl (Lst.r64 hk54 c61 (SlR.llt hz45))) rfl ?_
     refine om rfl rfl (shO_nil ?_)
     subst hn55; exact le kr ⟨_, _, rfl, hk62, out3, a65, n69, c66, Lb67, r138, (hF59.trans hF141), rfl, (sc rfl (sc rfl (sc rfl (sc rfl (sn _))))), hz68⟩
   obtain rfl := Lst.zero hk54 c61
   rw [book_Winds_l2] at r56
   refine shW_exit (andThen_exit (andThen_exit ?_))
   refine inBlock_exit ?_
   exact mi (ka kn) ⟨out2, a48, n52, c49, Lb50, r56, (hF39.trans hF59), rfl, (sc rfl (sn _)), hz51⟩
 rintro e1 F144 _ ⟨out, a13, n17, c14, Lb15, r142, hF145, rfl, he143, hz16⟩
 refine shW_env _ he143 ?_; clear he143
 rw [book_Winds_j1] at r142
 refine wsr (om rfl rfl (oa rfl rfl (oa rfl rfl (shO_nil (shW_ret ?_)))))
 refine q_res2 Tryz.results67 (res_tmp rfl) (res_tmp rfl) (sr) ?_
 obtain ⟨rfl, rfl⟩ := inj2 r142
 exact ⟨_, _, _, _, rfl, rfl, hz16.any⟩
set_option maxHeartbeats 1000000 in
theorem book_First_w {houses : Int} {notices : Int} {hears_a : Option Addr} {hears_c : Nat} {hears : List (List (List Int))} {readings_a : Option Addr} {readings_c : Nat} {readings : List Int} {cries_a : Option Addr} {cries_c : Nat} {cries : List (Int × Int × Int)} {F : FS} (h_hears : RowR 1 (slE 1 (slE 1 (iE .i64))) F hears_a hears_c hears) (h_readings : RowR 1 (iE .i64) F readings_a readings_c readings) (h_cries : RowR 3 (prE (iE .i64) (prE (iE .i64) (iE .i64))) F cries_a cries_c cries) {r : List Int} {r2 : Int} (hr : book_First houses notices hears readings cries = some (r, r2)) :
    SH.Spec Tryz.prog 66 #[.agg #[.int .i64 houses, .int .i64 notices, .slice hears_a hears.length hears_c, .slice readings_a readings.length readings_c, .slice cries_a cries.length cries_c]] F [] fun F' L' v => ∃ (ra : Option Addr) (rn : Nat) (rc : Nat) (rL : LH), v = .tuple #[.slice ra rn rc, .int .i64 r2] ∧ L' = rL ++ [] ∧ SlR 0 3 1 (iE .i64) F' ra rn rc r rL := by
 refine spec_of_shW (args := [.agg #[.int .i64 houses, .int .i64 notices, .slice hears_a hears.length hears_c, .slice readings_a readings.length readings_c, .slice cries_a cries.length cries_c]]) Tryz.func66 rfl Tryz.ntmps66 (Nat.le_of_ble_eq_true rfl) ?_
 intro K _ _; rw [book_First] at hr
 refine wsr ?_
 refine o_box rfl rfl ?_; intro b1 hb1
 refine oa rfl rfl (oa rfl rfl (nsr ?_))
 refine ov (v_loadA (cs := #[.int .i64 houses, .int .i64 notices, .slice hears_a hears.length hears_c, .slice readings_a readings.length readings_c, .slice cries_a cries.length cries_c]) Tryz.isAgg27 Tryz.sizeOf27 rfl (Has.own 0 rfl) (Nat.le_of_ble_eq_true rfl) rfl) rfl ?_
 obtain ⟨l, n, h2, r3⟩ := b2_ok hr; clear hr
 refine o_call0 rfl Tryz.call67 rfl rfl rfl (book_Winds_w h_hears h_readings h_cries h2) ?_; rintro _ F4 _ hF5 hn6 ⟨a8, n12, c9, Lb10, rfl, rfl, hz11⟩
 replace hz11 := hz11.new fun p hp => hn6 p (by simp [hp])
 refine shO_L (lp (ln rfl)) ?_
 refine kO (kf (fS fO) kr) ?_
 refine om rfl rfl (ox rfl rfl rfl (ox rfl rfl rfl (oa rfl rfl (oa rfl rfl (shO_nil (shW_seq (wsr (om rfl rfl ?_))))))))
 refine ov (v_neq rfl rfl) rfl ?_
 refine shO_nil ?_
 refine shW_condP rfl (fun c14 => ?_) (fun c14 => ?_)
 · have r15 := ite_t r3 c14; clear r3
   refine wsr (om rfl rfl (oa rfl rfl (oa rfl rfl (shO_nil ?_))))
   refine kW kn ?_
   refine shW_ret (andThen_ret ?_)
   refine q_res2 Tryz.results66 (res_tmp rfl) (res_tmp rfl) (sr) ?_
   obtain ⟨rfl, rfl⟩ := inj2 r15
   exact ⟨_, _, _, [], rfl, rfl, SlR.nil _ _ _ _ _⟩
 have r16 := ite_f r3 c14; clear r3
 refine shW_skip (wsr (oa rfl rfl (shO_nil ?_)))
 obtain ⟨out, h23, r24⟩ := b1_ok r16; clear r16
 refine shW_join (fun e1 F1 L1 => ∃ (a17 : Option Addr) (n21 : Nat) (c18 : Nat) (Lb19 : LH), F4 = F1 ∧ L1 = (Lb19 ++ []) ∧ e1.sub [(6, .slice a17 n21 c18)] ∧ SlR K.w0.heap.size 3 1 (iE .i64) F1 a17 n21 c18 out Lb19) ?_ ?_
 · clear r24
   refine wsr (om rfl rfl ?_)
   refine ov ((v_lenS Tryz.underlying49 rfl).i (SlR.lenI hz11)) rfl ?_
   refine om rfl rfl (shO_nil ?_)
   refine shW_block ?_
   refine kW (kd kr) ?_
   refine shW_lp (fun fu1 e1 F1 L1 => ∃ (tl : List (List Int)) (k : Int), tl.length = fu1 ∧ Lst l k tl ∧ ∃ (out2 : List Int) (a25 : Option Addr) (n29 : Nat) (c26 : Nat) (Lb27 : LH), book_First_l1 tl k out2 = some out ∧ F4 = F1 ∧ L1 = (Lb27 ++ (Lb10 ++ [])) ∧ e1.sub [(6, .slice a25 n29 c26), (19, .slice a8 n12 c9), (20, .int .i64 (l.length : Int)), (21, .int .i64 k)] ∧ SlR K.w0.heap.size 3 1 (iE .i64) F1 a25 n29 c26 out2 Lb27) _ (m0 (ke kr) ⟨_, _, rfl, Lst.start _, [], none, 0, 0, [], h23, rfl, rfl, (sc rfl (sc rfl (sc rfl (sc rfl (sn _))))), SlR.nil _ _ _ _ _⟩) ?_
   rintro fu1 e1 _ _ ⟨tl, k, hn32, hk31, out2, a25, n29, c26, Lb27, r33, rfl, rfl, he34, hz28⟩
   refine shW_env _ he34 ?_; clear he34
   refine wsr ?_
   refine ov (v_lssK rfl rfl) rfl ?_
   refine shO_nil (shW_seq ?_)
   refine shW_condP rfl (fun c36 => ?_) (fun c36 => ?_)
   · obtain ⟨x, tl2, rfl, hx38, g39, hk37⟩ := Lst.succ hk31 c36
     rw [book_First_l1] at r33
     refine shW_skip ?_
     obtain ⟨out3, h46, r47⟩ := b1_ok r33; clear r33
     refine shW_join (fun e1 F1 L1 => ∃ (a40 : Option Addr) (n44 : Nat) (c41 : Nat) (Lb42 : LH), F4 = F1 ∧ L1 = (Lb42 ++ (Lb10 ++ [])) ∧ e1.sub [(6, .slice a40 n44 c41), (19, .slice a8 n12 c9), (20, .int .i64 (l.length : Int)), (21, .int .i64 k)] ∧ SlR K.w0.heap.size 3 1 (iE .i64) F1 a40 n44 c41 out3 Lb42) ?_ ?_
     · clear r47
       refine shW_block ?_
       refine wsr (om rfl rfl ?_)
       obtain ⟨b48, o49, c50, vs51, ha52, hs53, hle54, ⟨a57, c58, rfl, h59⟩, hl55, hc56⟩ := SlR.at (slE_ok (iE_ok _)) hz11 (L := Lb27 ++ (Lb10 ++ [])) (fS fP) g39.1 hx38
       refine ov (v_indexO Tryz.underlying49 Tryz.sizeOf24 rfl ha52 rfl (SlR.idx hz11 g39)) rfl ?_
       refine ov (v_load Tryz.isAgg24 rfl hs53 (hc56 0 (by decide))) rfl ?_
       refine oa rfl rfl (oa rfl rfl (nsr (om rfl rfl ?_)))
       refine ov (v_lenS Tryz.underlying24 rfl) rfl ?_
       refine om rfl rfl (shO_nil ?_)
       refine shW_block ?_
       refine shW_lp (fun fu2 e1 F1 L1 => ∃ (tl3 : List Int) (k2 : Int), tl3.length = fu2 ∧ Lst x k2 tl3 ∧ book_First_l2 out2 k tl3 = some out3 ∧ F4 = F1 ∧ L1 = (Lb27 ++ (Lb10 ++ [])) ∧ e1.sub [(6, .slice a25 n29 c26), (7, .int .i64 k), (19, .slice a8 n12 c9), (20, .int .i64 (l.length : Int)), (21, .int .i64 k), (26, .slice a57 x.length c58), (27, .int .i64 (x.length : Int)), (28, .int .i64 k2)]) _ (m0 kr ⟨_, _, rfl, Lst.start _, h46, rfl, rfl, (sc rfl (sc rfl (sc rfl (sc rfl (sc rfl (sc rfl (sc rfl (sc rfl (sn _)))))))))⟩) ?_
       rintro fu2 e1 _ _ ⟨tl3, k2, hn61, hk60, r62, rfl, rfl, he63⟩
       refine shW_env _ he63 ?_; clear he63
       refine wsr ?_
       refine ov (v_lssK rfl rfl) rfl ?_
       refine shO_nil (shW_seq ?_)
       refine shW_condP rfl (fun c65 => ?_) (fun c65 => ?_)
       · obtain ⟨x2, tl4, rfl, hx67, g68, hk66⟩ := Lst.succ hk60 c65
         rw [book_First_l2] at r62
         refine shW_skip (shW_seq ?_)
         refine shW_block ?_
         refine wsr ?_
         obtain ⟨b69, o70, c71, vs72, ha73, hs74, hle75, rfl, hl76, hc77⟩ := RowR.at (iE_ok _) h59 (Lb27 ++ (Lb10 ++ [])) g68.1 hx67
         refine ov (v_indexO Tryz.underlying24 Tryz.sizeOf3 rfl ha73 rfl g68) rfl ?_
         refine ov (v_load Tryz.isAgg3 rfl hs74 (hc77 0 (by decide))) rfl ?_
         refine oa rfl rfl (shO_nil ?_)
         obtain ⟨k3, h78, r79⟩ := b1_ok r62; clear r62
         refine shW_join (fun e1 F1 L1 => F4 = F1 ∧ L1 = (Lb27 ++ (Lb10 ++ [])) ∧ e1.sub [(6, .slice a25 n29 c26), (7, .int .i64 k), (10, .int .i64 x2), (19, .slice a8 n12 c9), (20, .int .i64 (l.length : Int)), (21, .int .i64 k), (26, .slice a57 x.length c58), (27, .int .i64 (x.length : Int)), (28, .int .i64 k2), (42, .bool k3)]) ?_ ?_
         · clear r79
           refine shW_region (om rfl rfl ?_)
           refine ov (v_eql rfl rfl) rfl ?_
           refine om rfl rfl ?_
           by_cases c80 : k = 0
           · have r81 := ite_t h78 c80; clear h78
             refine shO_off (b' := true) 34 rfl (Env.isT rfl c80) rfl rfl (shO_off (b' := true) 34 rfl (Env.isT rfl c80) rfl rfl (shO_off (b' := true) 34 rfl (Env.isT rfl c80) rfl rfl (shO_off (b' := true) 34 rfl (Env.isT rfl c80) rfl rfl (shO_off (b' := true) 34 rfl (Env.isT rfl c80) rfl rfl (shO_off (b' := true) 34 rfl (Env.isT rfl c80) rfl rfl (shO_off (b' := true) 34 rfl (Env.isT rfl c80) rfl rfl ?_))))))
             refine ov (v_pick_t (evD_true rfl c80) rfl) rfl ?_
             refine shO_nil ?_
             obtain rfl := inj1 r81
             exact mi kr ⟨rfl, rfl, (sc rfl (sc rfl (sc rfl (sc rfl (sc rfl (sc rfl (sc rfl (sc rfl (sc rfl (sc rfl (sn _)))))))))))⟩
           have r82 := ite_f h78 c80; clear h78
           refine shO_on (b := false) 34 rfl (Env.isF rfl c80) (om rfl rfl (shO_on (b := false) 34 rfl (Env.isF rfl c80) (om rfl rfl (shO_on (b := false) 34 rfl (Env.isF rfl c80) (om rfl rfl (shO_on (b := false) 34 rfl (Env.isF rfl c80) ?_))))))
           obtain ⟨g83, r84⟩ := gd_ok r82; clear r82
           refine ov (v_sub rfl rfl g83) rfl ?_
           refine shO_on (b := false) 34 rfl (Env.isF rfl c80) ?_
           obtain ⟨x3, g85, hx86, r87⟩ := ix_ok r84; clear r84
           obtain ⟨b88, o89, c90, vs91, ha92, hs93, hle94, rfl, hl95, hc96⟩ := SlR.at (iE_ok _) hz28 (L := Lb27 ++ (Lb10 ++ [])) fP g85.1 hx86
           refine ov (v_indexO Tryz.underlying24 Tryz.sizeOf3 rfl ha92 rfl (SlR.idx hz28 g85)) rfl ?_
           refine shO_on (b := false) 34 rfl (Env.isF rfl c80) ?_
           refine ov (v_load Tryz.isAgg3 rfl hs93 (hc96 0 (by decide))) rfl ?_
           refine shO_on (b := false) 34 rfl (Env.isF rfl c80) ?_
           obtain ⟨ok, h97, r98⟩ := b1_ok r87; clear r87
           refine o_callV rfl Tryz.call99 rfl rfl rfl (book_near_w h97) ?_
           refine ov (v_pick_f (evD_false rfl c80) rfl) rfl ?_
           refine shO_nil ?_
           obtain rfl := inj1 r98
           exact mi kr ⟨rfl, rfl, (sc rfl (sc rfl (sc rfl (sc rfl (sc rfl (sc rfl (sc rfl (sc rfl (sc rfl (sc rfl (sn _)))))))))))⟩
         rintro e1 _ _ ⟨rfl, rfl, he99⟩
         refine shW_env _ he99 ?_; clear he99
         refine shW_cond rfl (fun c100 => ?_) (fun c100 => ?_)
         · have r101 := bt r79 c100; clear r79
           refine wsr (om rfl rfl (om rfl rfl ?_))
           refine o_buildSlice (cs := #[.int .i64 x2]) rfl rfl (buildSlice_all slt_24 [.int .i64 x2] rfl (by decide) (by simp [Value.cells]) (by decide)) ?_; intro b102 hb102
           obtain ⟨out4, h103, g104, r105⟩ := ap_ok r101; clear r101
           refine o_appZ (xs := out2) (ys := [x2]) (zs := out4) rfl slt_24 rfl rfl (Nat.le_refl _) (fun _ => .c .h) hz28 (SrcR.box (vss := [[.int .i64 x2]]) (ys := [x2]) 0 rfl (iE_ok _) (.cons rfl .nil) rfl rfl) h103 g104 (by decide) ?_; intro a106 n110 c107 Lb108 hz109
           refine kO (kd kr) ?_
           refine oa rfl rfl (shO_nil (shW_exit ?_))
           refine inBlock_other rfl ?_
           refine andThen_exit (andThen_exit ?_)
           refine inBlock_exit ?_
           refine inBlock_n (id := 1) ?_
           obtain rfl := inj1 r105
           exact mi kr ⟨a106, n110, c107, Lb108, rfl, rfl, (sc rfl (sc rfl (sc rfl (sc rfl (sn _))))), hz109⟩
         have r112 := bf r79 c100; clear r79
         refine shW_skip (inBlock_n (id := 3) (shW_region ?_))
         refine ov (v_add rfl rfl (Lst.r64 hk60 c65 (RowR.lt h59))) rfl ?_
         refine om rfl rfl (shO_nil ?_)
         subst hn61; exact le kr ⟨_, _, rfl, hk66, r112, rfl, rfl, (sc rfl (sc rfl (sc rfl (sc rfl (sc rfl (sc rfl (sc rfl (sc rfl (sn _)))))))))⟩
       obtain rfl := Lst.zero hk60 c65
       rw [book_First_l2] at r62
       refine shW_exit (andThen_exit (andThen_exit ?_))
       refine inBlock_exit ?_
       refine inBlock_n (id := 1) ?_
       obtain rfl := inj1 r62
       exact mi kr ⟨a25, n29, c26, Lb27, rfl, rfl, (sc rfl (sc rfl (sc rfl (sc rfl (sn _))))), hz28⟩
     rintro e1 _ _ ⟨a40, n44, c41, Lb42, rfl, rfl, he113, hz43⟩
     refine shW_env _ he113 ?_; clear he113
     refine shW_region ?_
     refine ov (v_add rfl rfl (Lst.r64 hk31 c36 (SlR.llt hz11))) rfl ?_
     refine om rfl rfl (shO_nil ?_)
     subst hn32; exact le kr ⟨_, _, rfl, hk37, out3, a40, n44, c41, Lb42, r47, rfl, rfl, (sc rfl (sc rfl (sc rfl (sc rfl (sn _))))), hz43⟩
   obtain rfl := Lst.zero hk31 c36
   rw [book_First_l1] at r33
   refine shW_exit (andThen_exit (andThen_exit ?_))
   refine inBlock_exit ?_
   obtain rfl := inj1 r33
   exact mi (ka kn) ⟨a25, n29, c26, Lb27, rfl, rfl, (sc rfl (sn _)), hz28⟩
 rintro e1 _ _ ⟨a17, n21, c18, Lb19, rfl, rfl, he114, hz20⟩
 refine shW_env _ he114 ?_; clear he114
 refine wsr (om rfl rfl (oa rfl rfl (oa rfl rfl (shO_nil (shW_ret ?_)))))
 refine q_res2 Tryz.results66 (res_tmp rfl) (res_tmp rfl) (sr) ?_
 obtain ⟨rfl, rfl⟩ := inj2 r24
 exact ⟨_, _, _, _, rfl, rfl, hz20.any⟩
set_option maxHeartbeats 1000000 in
theorem slices_Equal_int_int_w {s1_a : Option Addr} {s1_c : Nat} {s1 : List Int} {s2_a : Option Addr} {s2_c : Nat} {s2 : List Int} {F : FS} (h_s1 : RowR 1 (iE .i64) F s1_a s1_c s1) (h_s2 : RowR 1 (iE .i64) F s2_a s2_c s2) {r : Bool} (hr : slices_Equal_int_int s1 s2 = some r) :
    SpecV Tryz.prog 100 #[.slice s1_a s1.length s1_c, .slice s2_a s2.length s2_c] F (.bool r) := by
 refine spec_of_shW (args := [.slice s1_a s1.length s1_c, .slice s2_a s2.length s2_c]) Tryz.func100 rfl Tryz.ntmps100 (Nat.le_of_ble_eq_true rfl) ?_
 intro K _ _; rw [slices_Equal_int_int] at hr
 refine wsr (oa rfl rfl (shO_nil (shW_seq (wsr (om rfl rfl ?_)))))
 refine ov (v_lenS Tryz.underlying24 rfl) rfl ?_
 refine om rfl rfl ?_
 refine ov (v_lenS Tryz.underlying24 rfl) rfl ?_
 refine ov (v_neq rfl rfl) rfl ?_
 refine shO_nil ?_
 refine shW_condP rfl (fun c1 => ?_) (fun c1 => ?_)
 · have r2 := ite_t hr c1; clear hr
   refine wsr (oa rfl rfl (shO_nil (shW_ret (andThen_ret ?_))))
   refine q_res1 Tryz.results100 (res_tmp rfl) (sr) ?_
   obtain rfl := inj1 r2
   exact rfl
 have r3 := ite_f hr c1; clear hr
 refine shW_skip ?_
 refine shW_join (fun e1 F1 L1 => slices_Equal_int_int_j1 = some r ∧ F = F1 ∧ L1 = [] ∧ e1.sub []) ?_ ?_
 · refine wsr (om rfl rfl ?_)
   refine ov (v_lenS Tryz.underlying24 rfl) rfl ?_
   refine om rfl rfl (shO_nil ?_)
   refine shW_block ?_
   refine shW_lp (fun fu2 e1 F1 L1 => ∃ (tl : List Int) (k : Int), tl.length = fu2 ∧ Lst s1 k tl ∧ slices_Equal_int_int_l2 s2 tl k = some r ∧ F = F1 ∧ L1 = [] ∧ e1.sub [(0, .slice s1_a s1.length s1_c), (1, .slice s2_a s2.length s2_c), (12, .int .i64 (s1.length : Int)), (13, .int .i64 k)]) _ (m0 kr ⟨_, _, rfl, Lst.start _, r3, rfl, rfl, (sc rfl (sc rfl (sc rfl (sc rfl (sn _)))))⟩) ?_
   rintro fu2 e1 _ _ ⟨tl, k, hn5, hk4, r6, rfl, rfl, he7⟩
   refine shW_env _ he7 ?_; clear he7
   refine wsr ?_
   refine ov (v_lssK rfl rfl) rfl ?_
   refine shO_nil (shW_seq ?_)
   refine shW_condP rfl (fun c9 => ?_) (fun c9 => ?_)
   · obtain ⟨x, tl2, rfl, hx11, g12, hk10⟩ := Lst.succ hk4 c9
     rw [slices_Equal_int_int_l2] at r6
     refine shW_skip (shW_seq ?_)
     refine shW_block ?_
     refine wsr (om rfl rfl (oa rfl rfl ?_))
     refine nsd (by kernel_rfl) (by kernel_rfl) (by kernel_rfl) ?_
     refine qm rfl rfl (qm rfl rfl ?_)
     obtain ⟨b13, o14, c15, vs16, ha17, hs18, hle19, rfl, hl20, hc21⟩ := RowR.at (iE_ok _) h_s1 ([]) g12.1 hx11
     refine qv (v_indexO Tryz.underlying24 Tryz.sizeOf3 rfl ha17 rfl g12) rfl ?_
     refine qv (v_load Tryz.isAgg3 rfl hs18 (hc21 0 (by decide))) rfl ?_
     refine qm rfl rfl (qm rfl rfl ?_)
     obtain ⟨x2, g22, hx23, r24⟩ := ix_ok r6; clear r6
     obtain ⟨b25, o26, c27, vs28, ha29, hs30, hle31, rfl, hl32, hc33⟩ := RowR.at (iE_ok _) h_s2 ([]) g22.1 hx23
     refine qv (v_indexO Tryz.underlying24 Tryz.sizeOf3 rfl ha29 rfl g22) rfl ?_
     refine qv (v_load Tryz.isAgg3 rfl hs30 (hc33 0 (by decide))) rfl ?_
     refine qv (v_neq rfl rfl) rfl ?_
     refine shQ_nil ?_
     refine shW_condP rfl (fun c34 => ?_) (fun c34 => ?_)
     · have r35 := ite_t r24 c34; clear r24
       refine wsr (oa rfl rfl (shO_nil (shW_ret (inBlock_ret (andThen_ret (andThen_ret (inBlock_ret (andThen_ret ?_))))))))
       refine q_res1 Tryz.results100 (res_tmp rfl) (sr) ?_
       obtain rfl := inj1 r35
       exact rfl
     have r36 := ite_f r24 c34; clear r24
     refine shW_skip (inBlock_n (id := 1) (shW_region ?_))
     refine ov (v_add rfl rfl (Lst.r64 hk4 c9 (RowR.lt h_s1))) rfl ?_
     refine om rfl rfl (shO_nil ?_)
     subst hn5; exact le kr ⟨_, _, rfl, hk10, r36, rfl, rfl, (sc rfl (sc rfl (sc rfl (sc rfl (sn _)))))⟩
   obtain rfl := Lst.zero hk4 c9
   rw [slices_Equal_int_int_l2] at r6
   refine shW_exit (andThen_exit (andThen_exit ?_))
   refine inBlock_exit ?_
   exact mi kr ⟨r6, rfl, rfl, (sn _)⟩
 rintro e1 _ _ ⟨r37, rfl, rfl, he38⟩
 refine shW_env _ he38 ?_; clear he38
 rw [slices_Equal_int_int_j1] at r37
 refine wsr (oa rfl rfl (shO_nil (shW_ret ?_)))
 refine q_res1 Tryz.results100 (res_tmp rfl) (sr) ?_
 obtain rfl := inj1 r37
 exact rfl
set_option maxHeartbeats 1000000 in
theorem oyezkit_Like_int_w {a_a : Option Addr} {a_c : Nat} {a : List Int} {b_a : Option Addr} {b_c : Nat} {b : List Int} {F : FS} (h_a : RowR 1 (iE .i64) F a_a a_c a) (h_b : RowR 1 (iE .i64) F b_a b_c b) {r : Bool} (hr : oyezkit_Like_int a b = some r) :
    SpecV Tryz.prog 68 #[.slice a_a a.length a_c, .slice b_a b.length b_c] F (.bool r) := by
 refine spec_of_shW (args := [.slice a_a a.length a_c, .slice b_a b.length b_c]) Tryz.func68 rfl Tryz.ntmps68 (Nat.le_of_ble_eq_true rfl) ?_
 intro K _ _; rw [oyezkit_Like_int] at hr
 refine wsr (oa rfl rfl (nsr (om rfl rfl (om rfl rfl ?_))))
 obtain ⟨ok, h1, r2⟩ := b1_ok hr; clear hr
 refine o_callV rfl Tryz.call100 rfl rfl rfl (slices_Equal_int_int_w h_a h_b h1) ?_
 refine oa rfl rfl (shO_nil (shW_ret ?_))
 refine q_res1 Tryz.results68 (res_tmp rfl) (sr) ?_
 obtain rfl := inj1 r2
 exact rfl
set_option maxHeartbeats 1000000 in
theorem slices_EqualFunc_book_Verdict_book_Verdict_book_Verdict_book_Verdict_w {s1_a : Option Addr} {s1_c : Nat} {s1 : List (List Int)} {s2_a : Option Addr} {s2_c : Nat} {s2 : List (List Int)} {eq_f : FuncId} {eq_1 : Array Value} {eq_2 : Array Value} {eq : ((List Int) × (List Int)) → Option Bool} {F : FS} (h_s1 : RowR 1 (slE 1 (iE .i64)) F s1_a s1_c s1) (h_s2 : RowR 1 (slE 1 (iE .i64)) F s2_a s2_c s2) (h_eq : FnR Tryz.prog F eq_f eq_1 eq_2 (prE (slE 1 (iE .i64)) (slE 1 (iE .i64))) Value.bool eq) {r : Bool} (hr : slices_EqualFunc_book_Verdict_book_Verdict_book_Verdict_book_Verdict s1 s2 eq = some r) :
    SpecV Tryz.prog 101 #[.slice s1_a s1.length s1_c, .slice s2_a s2.length s2_c, .func (.func eq_f) eq_1 eq_2] F (.bool r) := by
 refine spec_of_shW (args := [.slice s1_a s1.length s1_c, .slice s2_a s2.length s2_c, .func (.func eq_f) eq_1 eq_2]) Tryz.func101 rfl Tryz.ntmps101 (Nat.le_of_ble_eq_true rfl) ?_
 intro K _ _; rw [slices_EqualFunc_book_Verdict_book_Verdict_book_Verdict_book_Verdict] at hr
 refine wsr (oa rfl rfl (shO_nil (shW_seq (wsr (om rfl rfl ?_)))))
 refine ov (v_lenS Tryz.underlying68 rfl) rfl ?_
 refine om rfl rfl ?_
 refine ov (v_lenS Tryz.underlying68 rfl) rfl ?_
 refine ov (v_neq rfl rfl) rfl ?_
 refine shO_nil ?_
 refine shW_condP rfl (fun c1 => ?_) (fun c1 => ?_)
 · have r2 := ite_t hr c1; clear hr
   refine wsr (oa rfl rfl (shO_nil (shW_ret (andThen_ret ?_))))
   refine q_res1 Tryz.results101 (res_tmp rfl) (sr) ?_
   obtain rfl := inj1 r2
   exact rfl
 have r3 := ite_f hr c1; clear hr
 refine shW_skip ?_
 refine shW_join (fun e1 F1 L1 => slices_EqualFunc_book_Verdict_book_Verdict_book_Verdict_book_Verdict_j1 = some r ∧ F = F1 ∧ L1 = [] ∧ e1.sub []) ?_ ?_
 · refine wsr (om rfl rfl ?_)
   refine ov (v_lenS Tryz.underlying68 rfl) rfl ?_
   refine om rfl rfl (shO_nil ?_)
   refine shW_block ?_
   refine shW_lp (fun fu2 e1 F1 L1 => ∃ (tl : List (List Int)) (k : Int), tl.length = fu2 ∧ Lst s1 k tl ∧ slices_EqualFunc_book_Verdict_book_Verdict_book_Verdict_book_Verdict_l2 s2 eq tl k = some r ∧ F = F1 ∧ L1 = [] ∧ e1.sub [(1, .slice s2_a s2.length s2_c), (2, .func (.func eq_f) eq_1 eq_2), (15, .slice s1_a s1.length s1_c), (16, .int .i64 (s1.length : Int)), (17, .int .i64 k)]) _ (m0 kr ⟨_, _, rfl, Lst.start _, r3, rfl, rfl, (sc rfl (sc rfl (sc rfl (sc rfl (sc rfl (sn _))))))⟩) ?_
   rintro fu2 e1 _ _ ⟨tl, k, hn5, hk4, r6, rfl, rfl, he7⟩
   refine shW_env _ he7 ?_; clear he7
   refine wsr ?_
   refine ov (v_lssK rfl rfl) rfl ?_
   refine shO_nil (shW_seq ?_)
   refine shW_condP rfl (fun c9 => ?_) (fun c9 => ?_)
   · obtain ⟨x, tl2, rfl, hx11, g12, hk10⟩ := Lst.succ hk4 c9
     rw [slices_EqualFunc_book_Verdict_book_Verdict_book_Verdict_book_Verdict_l2] at r6
     refine shW_skip (shW_seq ?_)
     refine shW_block ?_
     refine wsr (om rfl rfl ?_)
     obtain ⟨b13, o14, c15, vs16, ha17, hs18, hle19, ⟨a22, c23, rfl, h24⟩, hl20, hc21⟩ := RowR.at (slE_ok (iE_ok _)) h_s1 ([]) g12.1 hx11
     refine ov (v_indexO Tryz.underlying68 Tryz.sizeOf71 rfl ha17 rfl g12) rfl ?_
     refine ov (v_load Tryz.isAgg71 rfl hs18 (hc21 0 (by decide))) rfl ?_
     refine oa rfl rfl (oa rfl rfl (nsr (om rfl rfl (om rfl rfl ?_))))
     obtain ⟨x2, g25, hx26, r27⟩ := ix_ok r6; clear r6
     obtain ⟨b28, o29, c30, vs31, ha32, hs33, hle34, ⟨a37, c38, rfl, h39⟩, hl35, hc36⟩ := RowR.at (slE_ok (iE_ok _)) h_s2 ([]) g25.1 hx26
     refine ov (v_indexO Tryz.underlying68 Tryz.sizeOf71 rfl ha32 rfl g25) rfl ?_
     refine ov (v_load Tryz.isAgg71 rfl hs33 (hc36 0 (by decide))) rfl ?_
     refine oa rfl rfl (nsr (om rfl rfl (om rfl rfl (om rfl rfl ?_))))
     obtain ⟨ok, h40, r41⟩ := b1_ok r27; clear r27
     refine o_callV rfl h_eq.1 rfl rfl rfl (h_eq.2 _ (FExt.refl _) _ _ _ ⟨_, _, rfl, ⟨_, _, rfl, h24⟩, ⟨_, _, rfl, h39⟩⟩ h40) ?_
     refine ov (v_notB rfl) rfl ?_
     refine shO_nil ?_
     refine shW_cond rfl (fun c42 => ?_) (fun c42 => ?_)
     · have r43 := bt r41 c42; clear r41
       refine wsr (oa rfl rfl (shO_nil (shW_ret (inBlock_ret (andThen_ret (andThen_ret (inBlock_ret (andThen_ret ?_))))))))
       refine q_res1 Tryz.results101 (res_tmp rfl) (sr) ?_
       obtain rfl := inj1 r43
       exact rfl
     have r44 := bf r41 c42; clear r41
     refine shW_skip (inBlock_n (id := 1) (shW_region ?_))
     refine ov (v_add rfl rfl (Lst.r64 hk4 c9 (RowR.lt h_s1))) rfl ?_
     refine om rfl rfl (shO_nil ?_)
     subst hn5; exact le kr ⟨_, _, rfl, hk10, r44, rfl, rfl, (sc rfl (sc rfl (sc rfl (sc rfl (sc rfl (sn _))))))⟩
   obtain rfl := Lst.zero hk4 c9
   rw [slices_EqualFunc_book_Verdict_book_Verdict_book_Verdict_book_Verdict_l2] at r6
   refine shW_exit (andThen_exit (andThen_exit ?_))
   refine inBlock_exit ?_
   exact mi kr ⟨r6, rfl, rfl, (sn _)⟩
 rintro e1 _ _ ⟨r45, rfl, rfl, he46⟩
 refine shW_env _ he46 ?_; clear he46
 rw [slices_EqualFunc_book_Verdict_book_Verdict_book_Verdict_book_Verdict_j1] at r45
 refine wsr (oa rfl rfl (shO_nil (shW_ret ?_)))
 refine q_res1 Tryz.results101 (res_tmp rfl) (sr) ?_
 obtain rfl := inj1 r45
 exact rfl
set_option maxHeartbeats 1000000 in
theorem slices_Equal_book_Verdict_book_Verdict_w {s1_a : Option Addr} {s1_c : Nat} {s1 : List Int} {s2_a : Option Addr} {s2_c : Nat} {s2 : List Int} {F : FS} (h_s1 : RowR 1 (iE .i64) F s1_a s1_c s1) (h_s2 : RowR 1 (iE .i64) F s2_a s2_c s2) {r : Bool} (hr : slices_Equal_book_Verdict_book_Verdict s1 s2 = some r) :
    SpecV Tryz.prog 102 #[.slice s1_a s1.length s1_c, .slice s2_a s2.length s2_c] F (.bool r) := by
 refine spec_of_shW (args := [.slice s1_a s1.length s1_c, .slice s2_a s2.length s2_c]) Tryz.func102 rfl Tryz.ntmps102 (Nat.le_of_ble_eq_true rfl) ?_
 intro K _ _; rw [slices_Equal_book_Verdict_book_Verdict] at hr
 refine wsr (oa rfl rfl (shO_nil (shW_seq (wsr (om rfl rfl ?_)))))
 refine ov (v_lenS Tryz.underlying71 rfl) rfl ?_
 refine om rfl rfl ?_
 refine ov (v_lenS Tryz.underlying71 rfl) rfl ?_
 refine ov (v_neq rfl rfl) rfl ?_
 refine shO_nil ?_
 refine shW_condP rfl (fun c1 => ?_) (fun c1 => ?_)
 · have r2 := ite_t hr c1; clear hr
   refine wsr (oa rfl rfl (shO_nil (shW_ret (andThen_ret ?_))))
   refine q_res1 Tryz.results102 (res_tmp rfl) (sr) ?_
   obtain rfl := inj1 r2
   exact rfl
 have r3 := ite_f hr c1; clear hr
 refine shW_skip ?_
 refine shW_join (fun e1 F1 L1 => slices_Equal_book_Verdict_book_Verdict_j1 = some r ∧ F = F1 ∧ L1 = [] ∧ e1.sub []) ?_ ?_
 · refine wsr (om rfl rfl ?_)
   refine ov (v_lenS Tryz.underlying71 rfl) rfl ?_
   refine om rfl rfl (shO_nil ?_)
   refine shW_block ?_
   refine shW_lp (fun fu2 e1 F1 L1 => ∃ (tl : List Int) (k : Int), tl.length = fu2 ∧ Lst s1 k tl ∧ slices_Equal_book_Verdict_book_Verdict_l2 s2 tl k = some r ∧ F = F1 ∧ L1 = [] ∧ e1.sub [(0, .slice s1_a s1.length s1_c), (1, .slice s2_a s2.length s2_c), (12, .int .i64 (s1.length : Int)), (13, .int .i64 k)]) _ (m0 kr ⟨_, _, rfl, Lst.start _, r3, rfl, rfl, (sc rfl (sc rfl (sc rfl (sc rfl (sn _)))))⟩) ?_
   rintro fu2 e1 _ _ ⟨tl, k, hn5, hk4, r6, rfl, rfl, he7⟩
   refine shW_env _ he7 ?_; clear he7
   refine wsr ?_
   refine ov (v_lssK rfl rfl) rfl ?_
   refine shO_nil (shW_seq ?_)
   refine shW_condP rfl (fun c9 => ?_) (fun c9 => ?_)
   · obtain ⟨x, tl2, rfl, hx11, g12, hk10⟩ := Lst.succ hk4 c9
     rw [slices_Equal_book_Verdict_book_Verdict_l2] at r6
     refine shW_skip (shW_seq ?_)
     refine shW_block ?_
     refine wsr (om rfl rfl (oa rfl rfl ?_))
     refine nsd (by kernel_rfl) (by kernel_rfl) (by kernel_rfl) ?_
     refine qm rfl rfl (qm rfl rfl ?_)
     obtain ⟨b13, o14, c15, vs16, ha17, hs18, hle19, rfl, hl20, hc21⟩ := RowR.at (iE_ok _) h_s1 ([]) g12.1 hx11
     refine qv (v_indexO Tryz.underlying71 Tryz.sizeOf72 rfl ha17 rfl g12) rfl ?_
     refine qv (v_load Tryz.isAgg72 rfl hs18 (hc21 0 (by decide))) rfl ?_
     refine qm rfl rfl (qm rfl rfl ?_)
     obtain ⟨x2, g22, hx23, r24⟩ := ix_ok r6; clear r6
     obtain ⟨b25, o26, c27, vs28, ha29, hs30, hle31, rfl, hl32, hc33⟩ := RowR.at (iE_ok _) h_s2 ([]) g22.1 hx23
     refine qv (v_indexO Tryz.underlying71 Tryz.sizeOf72 rfl ha29 rfl g22) rfl ?_
     refine qv (v_load Tryz.isAgg72 rfl hs30 (hc33 0 (by decide))) rfl ?_
     refine qv (v_neq rfl rfl) rfl ?_
     refine shQ_nil ?_
     refine shW_condP rfl (fun c34 => ?_) (fun c34 => ?_)
     · have r35 := ite_t r24 c34; clear r24
       refine wsr (oa rfl rfl (shO_nil (shW_ret (inBlock_ret (andThen_ret (andThen_ret (inBlock_ret (andThen_ret ?_))))))))
       refine q_res1 Tryz.results102 (res_tmp rfl) (sr) ?_
       obtain rfl := inj1 r35
       exact rfl
     have r36 := ite_f r24 c34; clear r24
     refine shW_skip (inBlock_n (id := 1) (shW_region ?_))
     refine ov (v_add rfl rfl (Lst.r64 hk4 c9 (RowR.lt h_s1))) rfl ?_
     refine om rfl rfl (shO_nil ?_)
     subst hn5; exact le kr ⟨_, _, rfl, hk10, r36, rfl, rfl, (sc rfl (sc rfl (sc rfl (sc rfl (sn _)))))⟩
   obtain rfl := Lst.zero hk4 c9
   rw [slices_Equal_book_Verdict_book_Verdict_l2] at r6
   refine shW_exit (andThen_exit (andThen_exit ?_))
   refine inBlock_exit ?_
   exact mi kr ⟨r6, rfl, rfl, (sn _)⟩
 rintro e1 _ _ ⟨r37, rfl, rfl, he38⟩
 refine shW_env _ he38 ?_; clear he38
 rw [slices_Equal_book_Verdict_book_Verdict_j1] at r37
 refine wsr (oa rfl rfl (shO_nil (shW_ret ?_)))
 refine q_res1 Tryz.results102 (res_tmp rfl) (sr) ?_
 obtain rfl := inj1 r37
 exact rfl
set_option maxHeartbeats 1000000 in
theorem oyezkit_LikeRows_Verdict_w {a_a : Option Addr} {a_c : Nat} {a : List (List Int)} {b_a : Option Addr} {b_c : Nat} {b : List (List Int)} {F : FS} (h_a : RowR 1 (slE 1 (iE .i64)) F a_a a_c a) (h_b : RowR 1 (slE 1 (iE .i64)) F b_a b_c b) {r : Bool} (hr : oyezkit_LikeRows_Verdict a b = some r) :
    SpecV Tryz.prog 69 #[.slice a_a a.length a_c, .slice b_a b.length b_c] F (.bool r) := by
 refine spec_of_shW (args := [.slice a_a a.length a_c, .slice b_a b.length b_c]) Tryz.func69 rfl Tryz.ntmps69 (Nat.le_of_ble_eq_true rfl) ?_
 intro K _ _; rw [oyezkit_LikeRows_Verdict] at hr
 refine wsr (oa rfl rfl (nsr (om rfl rfl (om rfl rfl ?_))))
 have hn7 : FnR Tryz.prog F 102 #[] #[] (prE (slE 1 (iE .i64)) (slE 1 (iE .i64))) Value.bool (fun xx_ : (List Int) × (List Int) => slices_Equal_book_Verdict_book_Verdict xx_.1 xx_.2) := ⟨Tryz.call102, fun F2 h2 vs xx_ r ha hr => by obtain ⟨_, _, rfl, ⟨a1, c2, rfl, h3⟩, ⟨a4, c5, rfl, h6⟩⟩ := ha; exact slices_Equal_book_Verdict_book_Verdict_w h3 h6 hr⟩
 obtain ⟨ok, h8, r9⟩ := b1_ok hr; clear hr
 refine o_callV rfl Tryz.call101 rfl rfl rfl (slices_EqualFunc_book_Verdict_book_Verdict_book_Verdict_book_Verdict_w h_a h_b hn7 h8) ?_
 refine oa rfl rfl (shO_nil (shW_ret ?_))
 refine q_res1 Tryz.results69 (res_tmp rfl) (sr) ?_
 obtain rfl := inj1 r9
 exact rfl
set_option maxHeartbeats 1000000 in
theorem slices_EqualFunc_int_int_int_int_w {s1_a : Option Addr} {s1_c : Nat} {s1 : List (List Int)} {s2_a : Option Addr} {s2_c : Nat} {s2 : List (List Int)} {eq_f : FuncId} {eq_1 : Array Value} {eq_2 : Array Value} {eq : ((List Int) × (List Int)) → Option Bool} {F : FS} (h_s1 : RowR 1 (slE 1 (iE .i64)) F s1_a s1_c s1) (h_s2 : RowR 1 (slE 1 (iE .i64)) F s2_a s2_c s2) (h_eq : FnR Tryz.prog F eq_f eq_1 eq_2 (prE (slE 1 (iE .i64)) (slE 1 (iE .i64))) Value.bool eq) {r : Bool} (hr : slices_EqualFunc_int_int_int_int s1 s2 eq = some r) :
    SpecV Tryz.prog 103 #[.slice s1_a s1.length s1_c, .slice s2_a s2.length s2_c, .func (.func eq_f) eq_1 eq_2] F (.bool r) := by
 refine spec_of_shW (args := [.slice s1_a s1.length s1_c, .slice s2_a s2.length s2_c, .func (.func eq_f) eq_1 eq_2]) Tryz.func103 rfl Tryz.ntmps103 (Nat.le_of_ble_eq_true rfl) ?_
 intro K _ _; rw [slices_EqualFunc_int_int_int_int] at hr
 refine wsr (oa rfl rfl (shO_nil (shW_seq (wsr (om rfl rfl ?_)))))
 refine ov (v_lenS Tryz.underlying49 rfl) rfl ?_
 refine om rfl rfl ?_
 refine ov (v_lenS Tryz.underlying49 rfl) rfl ?_
 refine ov (v_neq rfl rfl) rfl ?_
 refine shO_nil ?_
 refine shW_condP rfl (fun c1 => ?_) (fun c1 => ?_)
 · have r2 := ite_t hr c1; clear hr
   refine wsr (oa rfl rfl (shO_nil (shW_ret (andThen_ret ?_))))
   refine q_res1 Tryz.results103 (res_tmp rfl) (sr) ?_
   obtain rfl := inj1 r2
   exact rfl
 have r3 := ite_f hr c1; clear hr
 refine shW_skip ?_
 refine shW_join (fun e1 F1 L1 => slices_EqualFunc_int_int_int_int_j1 = some r ∧ F = F1 ∧ L1 = [] ∧ e1.sub []) ?_ ?_
 · refine wsr (om rfl rfl ?_)
   refine ov (v_lenS Tryz.underlying49 rfl) rfl ?_
   refine om rfl rfl (shO_nil ?_)
   refine shW_block ?_
   refine shW_lp (fun fu2 e1 F1 L1 => ∃ (tl : List (List Int)) (k : Int), tl.length = fu2 ∧ Lst s1 k tl ∧ slices_EqualFunc_int_int_int_int_l2 s2 eq tl k = some r ∧ F = F1 ∧ L1 = [] ∧ e1.sub [(1, .slice s2_a s2.length s2_c), (2, .func (.func eq_f) eq_1 eq_2), (15, .slice s1_a s1.length s1_c), (16, .int .i64 (s1.length : Int)), (17, .int .i64 k)]) _ (m0 kr ⟨_, _, rfl, Lst.start _, r3, rfl, rfl, (sc rfl (sc rfl (sc rfl (sc rfl (sc rfl (sn _))))))⟩) ?_
   rintro fu2 e1 _ _ ⟨tl, k, hn5, hk4, r6, rfl, rfl, he7⟩
   refine shW_env _ he7 ?_; clear he7
   refine wsr ?_
   refine ov (v_lssK rfl rfl) rfl ?_
   refine shO_nil (shW_seq ?_)
   refine shW_condP rfl (fun c9 => ?_) (fun c9 => ?_)
   · obtain ⟨x, tl2, rfl, hx11, g12, hk10⟩ := Lst.succ hk4 c9
     rw [slices_EqualFunc_int_int_int_int_l2] at r6
     refine shW_skip (shW_seq ?_)
     refine shW_block ?_
     refine wsr (om rfl rfl ?_)
     obtain ⟨b13, o14, c15, vs16, ha17, hs18, hle19, ⟨a22, c23, rfl, h24⟩, hl20, hc21⟩ := RowR.at (slE_ok (iE_ok _)) h_s1 ([]) g12.1 hx11
     refine ov (v_indexO Tryz.underlying49 Tryz.sizeOf24 rfl ha17 rfl g12) rfl ?_
     refine ov (v_load Tryz.isAgg24 rfl hs18 (hc21 0 (by decide))) rfl ?_
     refine oa rfl rfl (oa rfl rfl (nsr (om rfl rfl (om rfl rfl ?_))))
     obtain ⟨x2, g25, hx26, r27⟩ := ix_ok r6; clear r6
     obtain ⟨b28, o29, c30, vs31, ha32, hs33, hle34, ⟨a37, c38, rfl, h39⟩, hl35, hc36⟩ := RowR.at (slE_ok (iE_ok _)) h_s2 ([]) g25.1 hx26
     refine ov (v_indexO Tryz.underlying49 Tryz.sizeOf24 rfl ha32 rfl g25) rfl ?_
     refine ov (v_load Tryz.isAgg24 rfl hs33 (hc36 0 (by decide))) rfl ?_
     refine oa rfl rfl (nsr (om rfl rfl (om rfl rfl (om rfl rfl ?_))))
     obtain ⟨ok, h40, r41⟩ := b1_ok r27; clear r27
     refine o_callV rfl h_eq.1 rfl rfl rfl (h_eq.2 _ (FExt.refl _) _ _ _ ⟨_, _, rfl, ⟨_, _, rfl, h24⟩, ⟨_, _, rfl, h39⟩⟩ h40) ?_
     refine ov (v_notB rfl) rfl ?_
     refine shO_nil ?_
     refine shW_cond rfl (fun c42 => ?_) (fun c42 => ?_)
     · have r43 := bt r41 c42; clear r41
       refine wsr (oa rfl rfl (shO_nil (shW_ret (inBlock_ret (andThen_ret (andThen_ret (inBlock_ret (andThen_ret ?_))))))))
       refine q_res1 Tryz.results103 (res_tmp rfl) (sr) ?_
       obtain rfl := inj1 r43
       exact rfl
     have r44 := bf r41 c42; clear r41
     refine shW_skip (inBlock_n (id := 1) (shW_region ?_))
     refine ov (v_add rfl rfl (Lst.r64 hk4 c9 (RowR.lt h_s1))) rfl ?_
     refine om rfl rfl (shO_nil ?_)
     subst hn5; exact le kr ⟨_, _, rfl, hk10, r44, rfl, rfl, (sc rfl (sc rfl (sc rfl (sc rfl (sc rfl (sn _))))))⟩
   obtain rfl := Lst.zero hk4 c9
   rw [slices_EqualFunc_int_int_int_int_l2] at r6
   refine shW_exit (andThen_exit (andThen_exit ?_))
   refine inBlock_exit ?_
   exact mi kr ⟨r6, rfl, rfl, (sn _)⟩
 rintro e1 _ _ ⟨r45, rfl, rfl, he46⟩
 refine shW_env _ he46 ?_; clear he46
 rw [slices_EqualFunc_int_int_int_int_j1] at r45
 refine wsr (oa rfl rfl (shO_nil (shW_ret ?_)))
 refine q_res1 Tryz.results103 (res_tmp rfl) (sr) ?_
 obtain rfl := inj1 r45
 exact rfl
set_option maxHeartbeats 1000000 in
theorem oyezkit_LikeRows_int_w {a_a : Option Addr} {a_c : Nat} {a : List (List Int)} {b_a : Option Addr} {b_c : Nat} {b : List (List Int)} {F : FS} (h_a : RowR 1 (slE 1 (iE .i64)) F a_a a_c a) (h_b : RowR 1 (slE 1 (iE .i64)) F b_a b_c b) {r : Bool} (hr : oyezkit_LikeRows_int a b = some r) :
    SpecV Tryz.prog 70 #[.slice a_a a.length a_c, .slice b_a b.length b_c] F (.bool r) := by
 refine spec_of_shW (args := [.slice a_a a.length a_c, .slice b_a b.length b_c]) Tryz.func70 rfl Tryz.ntmps70 (Nat.le_of_ble_eq_true rfl) ?_
 intro K _ _; rw [oyezkit_LikeRows_int] at hr
 refine wsr (oa rfl rfl (nsr (om rfl rfl (om rfl rfl ?_))))
 have hn7 : FnR Tryz.prog F 100 #[] #[] (prE (slE 1 (iE .i64)) (slE 1 (iE .i64))) Value.bool (fun xx_ : (List Int) × (List Int) => slices_Equal_int_int xx_.1 xx_.2) := ⟨Tryz.call100, fun F2 h2 vs xx_ r ha hr => by obtain ⟨_, _, rfl, ⟨a1, c2, rfl, h3⟩, ⟨a4, c5, rfl, h6⟩⟩ := ha; exact slices_Equal_int_int_w h3 h6 hr⟩
 obtain ⟨ok, h8, r9⟩ := b1_ok hr; clear hr
 refine o_callV rfl Tryz.call103 rfl rfl rfl (slices_EqualFunc_int_int_int_int_w h_a h_b hn7 h8) ?_
 refine oa rfl rfl (shO_nil (shW_ret ?_))
 refine q_res1 Tryz.results70 (res_tmp rfl) (sr) ?_
 obtain rfl := inj1 r9
 exact rfl
set_option maxHeartbeats 1000000 in
theorem slices_Clone_book_Cry_book_Cry_w {s__a : Option Addr} {s__c : Nat} {s_ : List (Int × Int × Int)} {F : FS} (h_s_ : RowR 3 (prE (iE .i64) (prE (iE .i64) (iE .i64))) F s__a s__c s_) {r : List (Int × Int × Int)} (hr : slices_Clone_book_Cry_book_Cry s_ = some r) :
    SH.Spec Tryz.prog 108 #[.slice s__a s_.length s__c] F [] fun F' L' v => ∃ (ra : Option Addr) (rn : Nat) (rc : Nat) (rL : LH), v = .slice ra rn rc ∧ L' = rL ++ [] ∧ SlR 0 67 3 (prE (iE .i64) (prE (iE .i64) (iE .i64))) F' ra rn rc r rL := by
 refine spec_of_shW (args := [.slice s__a s_.length s__c]) Tryz.func108 rfl Tryz.ntmps108 (Nat.le_of_ble_eq_true rfl) ?_
 intro K _ _; rw [slices_Clone_book_Cry_book_Cry] at hr
 refine wsr (oa rfl rfl (shO_nil (shW_seq (wsr (om rfl rfl ?_)))))
 refine ov (v_eqlNil Tryz.underlying25 rfl) rfl ?_
 refine shO_nil ?_
 refine shW_cond rfl (fun c1 => ?_) (fun c1 => ?_)
 · have r2 := nilIf_t hr (RowR.isNone h_s_ c1); clear hr
   refine wsr (oa rfl rfl (shO_nil (shW_ret (andThen_ret ?_))))
   refine q_res1 Tryz.results108 (res_tmp rfl) (sr) ?_
   obtain rfl := inj1 r2
   exact ⟨_, _, _, [], rfl, rfl, SlR.nil _ _ _ _ _⟩
 have r3 := nilIf_f hr; clear hr
 refine shW_skip (wsr ?_)
 refine o_buildSlice (cs := #[]) rfl rfl (buildSlice_none slt_25) ?_; intro b4 hb4
 refine om rfl rfl ?_
 have hz6 : SlR K.w0.heap.size 67 3 (prE (iE .i64) (prE (iE .i64) (iE .i64))) F (some ⟨b4, 0, none⟩) 0 0 ([] : List (Int × Int × Int)) [(b4, .cells #[] 67 (0, 0))] := SlR.of_block (vss := []) (prE_ok (iE_ok _) (prE_ok (iE_ok _) (iE_ok _))) hb4 .nil rfl rfl (by simp [maxLen])
 generalize hLLb5 : ([(b4, .cells #[] 67 (0, 0))] : LH) = Lb5 at hz6
 refine shO_perm (L' := Lb5 ++ []) (by rw [← hLLb5]; exact fO) ?_
 obtain ⟨l, h8, g9, r10⟩ := ap_ok r3; clear r3
 refine o_appZ (xs := ([] : List (Int × Int × Int))) (ys := s_) (zs := l) rfl slt_25 rfl rfl (Nat.le_refl _) (fun _ => .h) hz6 (RowR.src h_s_) h8 g9 (by decide) ?_; intro a11 n15 c12 Lb13 hz14
 refine oa rfl rfl (shO_nil (shW_ret ?_))
 refine q_res1 Tryz.results108 (res_tmp rfl) (sr) ?_
 obtain rfl := inj1 r10
 exact ⟨_, _, _, _, rfl, rfl, hz14.any⟩
set_option maxHeartbeats 1000000 in
theorem book_Again_1_1_1_w {h : Int} {b_g : Nat} {g : List Bool} {mb_g : Nat × Nat} {b_x : Nat} {x : Int} {mb_x : Nat × Nat} {F : FS} (hb_g : F b_g = some (.cells (arr cB g) 103 mb_g)) (h_g : g.length = 24) (hb_x : F b_x = some (.cells #[.int .i64 x] 3 mb_x)) {r : Bool} (hr : book_Again_1_1_1 h g x = some r) :
    SpecV Tryz.prog 110 #[.int .i64 h, .pointer (some ⟨b_g, 0, none⟩), .pointer (some ⟨b_x, 0, none⟩)] F (.bool r) := by
 refine spec_of_shW (args := [.int .i64 h, .pointer (some ⟨b_g, 0, none⟩), .pointer (some ⟨b_x, 0, none⟩)]) Tryz.func110 rfl Tryz.ntmps110 (Nat.le_of_ble_eq_true rfl) ?_
 intro K _ _; rw [book_Again_1_1_1] at hr
 refine wsr (oa rfl rfl ?_)
 refine nsd (by kernel_rfl) (by kernel_rfl) (by kernel_rfl) ?_
 refine qm rfl rfl ?_
 refine qv (v_load Tryz.isAgg3 rfl (Has.frozen hb_x) rfl) rfl ?_
 obtain ⟨g1, r2⟩ := gd_ok hr; clear hr
 refine qv (v_indexA Tryz.underlying103 Tryz.sizeOf101 rfl rfl g1) rfl ?_
 obtain ⟨g3, r4⟩ := gd_ok r2; clear r2
 obtain ⟨x2, g5, hx6, r7⟩ := ix_ok r4; clear r4
 have hq9 : (h * 4 + x : Int).toNat = (h : Int).toNat * 4 + (x : Int).toNat := by have := g1; have := g3; omega
 have hc8 := el_at2 cB_ok h_g hq9 hx6 (li_arr (li_end (lfl cB_ok h_g))) (li_le (li_end (lfl cB_ok h_g)))
 refine qv (v_indexA Tryz.underlying101 Tryz.sizeOf4 rfl rfl g3) rfl ?_
 refine qv (v_load Tryz.isAgg4 rfl (Has.frozen hb_g) ((hc8).2.2 0 (by decide))) rfl ?_
 refine qa rfl rfl (shQ_nil (shW_ret ?_))
 refine q_res1 Tryz.results110 (res_tmp rfl) (sr) ?_
 obtain rfl := inj1 r7
 exact rfl
set_option maxHeartbeats 1000000 in
theorem book_Again_1_1_w {g : List Bool} {b_x : Nat} {x_a : Option Addr} {x_c : Nat} {x : List Int} {mb_x : Nat × Nat} {b_x_ : Nat} {x2 : Int} {mb_x_ : Nat × Nat} {F : FS} (h_g : g.length = 24) (hb_x : F b_x = some (.cells #[.slice x_a x.length x_c] 24 mb_x)) (h_x : RowR 1 (iE .i64) F x_a x_c x) (hb_x_ : F b_x_ = some (.cells #[.int .i64 x2] 3 mb_x_)) {r : Bool} (hr : book_Again_1_1 g x x2 = some r) :
    SpecV Tryz.prog 109 #[.agg (arr cB g), .pointer (some ⟨b_x, 0, none⟩), .pointer (some ⟨b_x_, 0, none⟩)] F (.bool r) := by
 refine spec_of_shW (args := [.agg (arr cB g), .pointer (some ⟨b_x, 0, none⟩), .pointer (some ⟨b_x_, 0, none⟩)]) Tryz.func109 rfl Tryz.ntmps109 (Nat.le_of_ble_eq_true rfl) ?_
 intro K _ _; rw [book_Again_1_1] at hr
 refine wsr ?_
 refine o_box rfl rfl ?_; intro b1 hb1
 refine oa rfl rfl (nsr ?_)
 refine ov (v_load Tryz.isAgg24 rfl (Has.frozen hb_x) rfl) rfl ?_
 refine ov (v_makeFunc rfl rfl) rfl ?_
 refine shO_freeze 0 rfl hb1 ?_; intro F2 hF3 hz4
 refine shO_L (L' := []) rfl ?_
 replace h_x := h_x.mono (iE_ok _) hF3
 replace hb_x_ := hF3 _ _ hb_x_
 have hn5 : FnR Tryz.prog F2 110 #[] #[.pointer (some ⟨b1, 0, none⟩), .pointer (some ⟨b_x_, 0, none⟩)] (iE .i64) Value.bool (fun xx_ : Int => book_Again_1_1_1 xx_ g x2) := ⟨Tryz.call110, fun F2 h2 vs xx_ r ha hr => by obtain rfl := ha; exact book_Again_1_1_1_w (h2 _ _ hz4) h_g (h2 _ _ hb_x_) hr⟩
 obtain ⟨ok, h6, r7⟩ := b1_ok hr; clear hr
 refine o_callV rfl Tryz.call45 rfl rfl rfl (book_every_int_w h_x hn5 h6) ?_
 refine ov (v_notB rfl) rfl ?_
 refine oa rfl rfl (shO_nil (shW_ret ?_))
 refine q_res1 Tryz.results109 (res_tmp rfl) (sr) ?_
 obtain rfl := inj1 r7
 exact rfl
set_option maxHeartbeats 1000000 in
theorem book_Again_1B_w {rec_ : (List Int) → Int → Int → Int → Int → (List (List (List Int))) → (List Int) → (List (Int × Int × Int)) → Int → Int → (List Int) → (List Int) → Bool → Option (Bool × (List Int) × Bool)} (hrec : ∀ {l_a : Option Addr} {l_c : Nat} {l : List Int} {from_ : Int} {many : Int} {b_b : Nat} {houses : Int} {notices : Int} {hears_a : Option Addr} {hears_c : Nat} {hears : List (List (List Int))} {readings_a : Option Addr} {readings_c : Nat} {readings : List Int} {cries_a : Option Addr} {cries_c : Nat} {cries : List (Int × Int × Int)} {mb_b : Nat × Nat} {b_hour : Nat} {hour : Int} {mb_hour : Nat × Nat} {b_notice : Nat} {notice : Int} {mb_notice : Nat × Nat} {b_houses : Nat} {houses2_a : Option Addr} {houses2_c : Nat} {houses2 : List Int} {mb_houses : Nat × Nat} {b_out : Nat} {out_a : Option Addr} {out_c : Nat} {out : List Int} {b_found : Nat} {found : Bool} {b_pick : Nat} {mb_pick : Nat × Nat} {F : FS} (_ : RowR 1 (iE .i64) F l_a l_c l) (_ : F b_b = some (.cells #[.int .i64 houses, .int .i64 notices, .slice hears_a hears.length hears_c, .slice readings_a readings.length readings_c, .slice cries_a cries.length cries_c] 27 mb_b)) (_ : RowR 1 (slE 1 (slE 1 (iE .i64))) F hears_a hears_c hears) (_ : RowR 1 (iE .i64) F readings_a readings_c readings) (_ : RowR 3 (prE (iE .i64) (prE (iE .i64) (iE .i64))) F cries_a cries_c cries) (_ : F b_hour = some (.cells #[.int .i64 hour] 3 mb_hour)) (_ : F b_notice = some (.cells #[.int .i64 notice] 3 mb_notice)) (_ : F b_houses = some (.cells #[.slice houses2_a houses2.length houses2_c] 24 mb_houses)) (_ : RowR 1 (iE .i64) F houses2_a houses2_c houses2) (_ : RowR 1 (iE .i64) F out_a out_c out) (_ : F b_pick = some (.cells (#[.func (.func 107) #[] #[.pointer (some ⟨b_b, 0, none⟩), .pointer (some ⟨b_hour, 0, none⟩), .pointer (some ⟨b_notice, 0, none⟩), .pointer (some ⟨b_houses, 0, none⟩), .pointer (some ⟨b_out, 0, none⟩), .pointer (some ⟨b_found, 0, none⟩), .pointer (some ⟨b_pick, 0, none⟩)]]) 169 mb_pick)) {r : Bool} {r2 : List Int} {r3 : Bool} , rec_ l from_ many houses notices hears readings cries hour notice houses2 out found = some (r, r2, r3) → SH.Spec Tryz.prog 107 #[.slice l_a l.length l_c, .int .i64 from_, .int .i64 many, .pointer (some ⟨b_b, 0, none⟩), .pointer (some ⟨b_hour, 0, none⟩), .pointer (some ⟨b_notice, 0, none⟩), .pointer (some ⟨b_houses, 0, none⟩), .pointer (some ⟨b_out, 0, none⟩), .pointer (some ⟨b_found, 0, none⟩), .pointer (some ⟨b_pick, 0, none⟩)] F [(b_out, .cells #[.slice out_a out.length out_c] 24 (0, 0)), (b_found, .cells #[.bool found] 4 (0, 0))] fun F' L' v => ∃ (r2a : Option Addr) (r2c : Nat), v = .bool r ∧ L' = [(b_out, .cells #[.slice r2a r2.length r2c] 24 (0, 0)), (b_found, .cells #[.bool r3] 4 (0, 0))] ∧ RowR 1 (iE .i64) F' r2a r2c r2) {l_a : Option Addr} {l_c : Nat} {l : List Int} {from_ : Int} {many : Int} {b_b : Nat} {houses : Int} {notices : Int} {hears_a : Option Addr} {hears_c : Nat} {hears : List (List (List Int))} {readings_a : Option Addr} {readings_c : Nat} {readings : List Int} {cries_a : Option Addr} {cries_c : Nat} {cries : List (Int × Int × Int)} {mb_b : Nat × Nat} {b_hour : Nat} {hour : Int} {mb_hour : Nat × Nat} {b_notice : Nat} {notice : Int} {mb_notice : Nat × Nat} {b_houses : Nat} {houses2_a : Option Addr} {houses2_c : Nat} {houses2 : List Int} {mb_houses : Nat × Nat} {b_out : Nat} {out_a : Option Addr} {out_c : Nat} {out : List Int} {b_found : Nat} {found : Bool} {b_pick : Nat} {mb_pick : Nat × Nat} {F : FS} (h_l : RowR 1 (iE .i64) F l_a l_c l) (hb_b : F b_b = some (.cells #[.int .i64 houses, .int .i64 notices, .slice hears_a hears.length hears_c, .slice readings_a readings.length readings_c, .slice cries_a cries.length cries_c] 27 mb_b)) (h_hears : RowR 1 (slE 1 (slE 1 (iE .i64))) F hears_a hears_c hears) (h_readings : RowR 1 (iE .i64) F readings_a readings_c readings) (h_cries : RowR 3 (prE (iE .i64) (prE (iE .i64) (iE .i64))) F cries_a cries_c cries) (hb_hour : F b_hour = some (.cells #[.int .i64 hour] 3 mb_hour)) (hb_notice : F b_notice = some (.cells #[.int .i64 notice] 3 mb_notice)) (hb_houses : F b_houses = some (.cells #[.slice houses2_a houses2.length houses2_c] 24 mb_houses)) (h_houses2 : RowR 1 (iE .i64) F houses2_a houses2_c houses2) (h_out : RowR 1 (iE .i64) F out_a out_c out) (hb_pick : F b_pick = some (.cells (#[.func (.func 107) #[] #[.pointer (some ⟨b_b, 0, none⟩), .pointer (some ⟨b_hour, 0, none⟩), .pointer (some ⟨b_notice, 0, none⟩), .pointer (some ⟨b_houses, 0, none⟩), .pointer (some ⟨b_out, 0, none⟩), .pointer (some ⟨b_found, 0, none⟩), .pointer (some ⟨b_pick, 0, none⟩)]]) 169 mb_pick)) {r : Bool} {r2 : List Int} {r3 : Bool} (hr : book_Again_1B rec_ l from_ many houses notices hears readings cries hour notice houses2 out found = some (r, r2, r3)) :
    SH.Spec Tryz.prog 107 #[.slice l_a l.length l_c, .int .i64 from_, .int .i64 many, .pointer (some ⟨b_b, 0, none⟩), .pointer (some ⟨b_hour, 0, none⟩), .pointer (some ⟨b_notice, 0, none⟩), .pointer (some ⟨b_houses, 0, none⟩), .pointer (some ⟨b_out, 0, none⟩), .pointer (some ⟨b_found, 0, none⟩), .pointer (some ⟨b_pick, 0, none⟩)] F [(b_out, .cells #[.slice out_a out.length out_c] 24 (0, 0)), (b_found, .cells #[.bool found] 4 (0, 0))] fun F' L' v => ∃ (r2a : Option Addr) (r2c : Nat), v = .bool r ∧ L' = [(b_out, .cells #[.slice r2a r2.length r2c] 24 (0, 0)), (b_found, .cells #[.bool r3] 4 (0, 0))] ∧ RowR 1 (iE .i64) F' r2a r2c r2 := by
 refine spec_of_shW (args := [.slice l_a l.length l_c, .int .i64 from_, .int .i64 many, .pointer (some ⟨b_b, 0, none⟩), .pointer (some ⟨b_hour, 0, none⟩), .pointer (some ⟨b_notice, 0, none⟩), .pointer (some ⟨b_houses, 0, none⟩), .pointer (some ⟨b_out, 0, none⟩), .pointer (some ⟨b_found, 0, none⟩), .pointer (some ⟨b_pick, 0, none⟩)]) Tryz.func107 rfl Tryz.ntmps107 (Nat.le_of_ble_eq_true rfl) ?_
 intro K _ _; rw [book_Again_1B] at hr
 refine wsr (oa rfl rfl (shO_nil ?_))
 refine shW_join (fun e1 F1 L1 => book_Again_1B_j1 l from_ many houses notices hears readings cries hour notice houses2 out found rec_ = some (r, r2, r3) ∧ F = F1 ∧ L1 = [(b_out, .cells #[.slice out_a out.length out_c] 24 (0, 0)), (b_found, .cells #[.bool found] 4 (0, 0))] ∧ e1.sub [(0, .slice l_a l.length l_c), (1, .int .i64 from_), (2, .int .i64 many), (3, .pointer (some ⟨b_b, 0, none⟩)), (9, .pointer (some ⟨b_pick, 0, none⟩))]) ?_ ?_
 · refine wsr (om rfl rfl ?_)
   refine ov (v_eql rfl rfl) rfl ?_
   refine shO_nil ?_
   refine shW_condP rfl (fun c1 => ?_) (fun c1 => ?_)
   · have r4 := ite_t hr c1; clear hr
     refine wsr ?_
     refine ov (v_loadA (cs := #[.int .i64 houses, .int .i64 notices, .slice hears_a hears.length hears_c, .slice readings_a readings.length readings_c, .slice cries_a cries.length cries_c]) Tryz.isAgg27 Tryz.sizeOf27 rfl (Has.frozen hb_b) (Nat.le_of_ble_eq_true rfl) rfl) rfl ?_
     refine ov (v_build (v := .agg #[.int .i64 houses, .int .i64 notices, .slice hears_a hears.length hears_c, .slice readings_a readings.length readings_c, .slice cries_a cries.length cries_c]) rfl (by intro w; kernel_rfl)) rfl ?_
     refine o_box rfl rfl ?_; intro b5 hb5
     refine oa rfl rfl (nsr (om rfl rfl ?_))
     refine ov (v_fieldAddr fa_27_4 rfl) rfl ?_
     refine ov (v_load Tryz.isAgg25 rfl (Has.frozen hb_b) rfl) rfl ?_
     obtain ⟨l2, h6, r7⟩ := b1_ok r4; clear r4
     refine o_call0 rfl Tryz.call108 rfl rfl rfl (slices_Clone_book_Cry_book_Cry_w h_cries h6) ?_; rintro _ F8 _ hF9 hn10 ⟨a12, n16, c13, Lb14, rfl, rfl, hz15⟩
     replace h_l := h_l.mono (iE_ok _) hF9
     replace h_hears := h_hears.mono (slE_ok (slE_ok (iE_ok _))) hF9
     replace h_readings := h_readings.mono (iE_ok _) hF9
     replace h_houses2 := h_houses2.mono (iE_ok _) hF9
     replace h_out := h_out.mono (iE_ok _) hF9
     replace hb_hour := hF9 _ _ hb_hour
     replace hb_notice := hF9 _ _ hb_notice
     replace hb_houses := hF9 _ _ hb_houses
     replace hz15 := hz15.new fun p hp => hn10 p (by simp [hp])
     refine shO_L (lp (ln rfl)) ?_
     refine kO (kf (fS fO) (kf (fS fO) (kf (fS fO) kr))) ?_
     refine ov (v_nilCheck rfl) rfl ?_
     refine ov (v_fieldAddr fa_171_0 rfl) rfl ?_
     refine ov (v_fieldAddr fa_27_4 rfl) rfl ?_
     refine o_store (i := 0) Tryz.sizeOf25 rfl rfl rfl rfl (Nat.le_of_ble_eq_true rfl) ?_
     refine shO_L (L' := (b5, .cells #[.int .i64 houses, .int .i64 notices, .slice hears_a hears.length hears_c, .slice readings_a readings.length readings_c, .slice a12 n16 c13] 171 (0, 0)) :: ((b_out, .cells #[.slice out_a out.length out_c] 24 (0, 0)) :: ((b_found, .cells #[.bool found] 4 (0, 0)) :: (Lb14 ++ [])))) rfl ?_
     refine shO_nil ?_
     obtain ⟨d_cries, h24, r25⟩ := b1_ok r7; clear r7
     refine shW_join (fun e1 F1 L1 => ∃ (a18 : Option Addr) (n22 : Nat) (c19 : Nat) (Lb20 : LH), F8 = F1 ∧ L1 = ((b5, .cells #[.int .i64 houses, .int .i64 notices, .slice hears_a hears.length hears_c, .slice readings_a readings.length readings_c, .slice a18 n22 c19] 171 (0, 0)) :: ((b_out, .cells #[.slice out_a out.length out_c] 24 (0, 0)) :: ((b_found, .cells #[.bool found] 4 (0, 0)) :: (Lb20 ++ [])))) ∧ e1.sub [(0, .slice l_a l.length l_c), (5, .pointer (some ⟨b_notice, 0, none⟩)), (6, .pointer (some ⟨b_houses, 0, none⟩)), (7, .pointer (some ⟨b_out, 0, none⟩)), (8, .pointer (some ⟨b_found, 0, none⟩)), (14, .pointer (some ⟨b5, 0, none⟩))] ∧ SlR K.w0.heap.size 67 3 (prE (iE .i64) (prE (iE .i64) (iE .i64))) F1 a18 n22 c19 d_cries Lb20) ?_ ?_
     · clear r25
       refine wsr (om rfl rfl ?_)
       refine ov (v_lenS Tryz.underlying24 rfl) rfl ?_
       refine om rfl rfl (shO_nil ?_)
       refine shW_block ?_
       refine shW_lp (fun fu2 e1 F1 L1 => ∃ (tl : List Int) (k : Int), tl.length = fu2 ∧ Lst l k tl ∧ ∃ (d_cries2 : List (Int × Int × Int)) (a26 : Option Addr) (n30 : Nat) (c27 : Nat) (Lb28 : LH), book_Again_1B_l2 hour notice tl d_cries2 = some d_cries ∧ F8 = F1 ∧ L1 = ((b5, .cells #[.int .i64 houses, .int .i64 notices, .slice hears_a hears.length hears_c, .slice readings_a readings.length readings_c, .slice a26 n30 c27] 171 (0, 0)) :: ((b_out, .cells #[.slice out_a out.length out_c] 24 (0, 0)) :: ((b_found, .cells #[.bool found] 4 (0, 0)) :: (Lb28 ++ [])))) ∧ e1.sub [(0, .slice l_a l.length l_c), (4, .pointer (some ⟨b_hour, 0, none⟩)), (5, .pointer (some ⟨b_notice, 0, none⟩)), (6, .pointer (some ⟨b_houses, 0, none⟩)), (7, .pointer (some ⟨b_out, 0, none⟩)), (8, .pointer (some ⟨b_found, 0, none⟩)), (14, .pointer (some ⟨b5, 0, none⟩)), (31, .slice l_a l.length l_c), (32, .int .i64 (l.length : Int)), (33, .int .i64 k)] ∧ SlR K.w0.heap.size 67 3 (prE (iE .i64) (prE (iE .i64) (iE .i64))) F1 a26 n30 c27 d_cries2 Lb28) _ (m0 kr ⟨_, _, rfl, Lst.start _, l2, a12, n16, c13, Lb14, h24, rfl, rfl, (sc rfl (sc rfl (sc rfl (sc rfl (sc rfl (sc rfl (sc rfl (sc rfl (sc rfl (sc rfl (sn _))))))))))), hz15⟩) ?_
       rintro fu2 e1 _ _ ⟨tl, k, hn33, hk32, d_cries2, a26, n30, c27, Lb28, r34, rfl, rfl, he35, hz29⟩
       refine shW_env _ he35 ?_; clear he35
       refine wsr ?_
       refine ov (v_lssK rfl rfl) rfl ?_
       refine shO_nil (shW_seq ?_)
       refine shW_condP rfl (fun c37 => ?_) (fun c37 => ?_)
       · obtain ⟨x, tl2, rfl, hx39, g40, hk38⟩ := Lst.succ hk32 c37
         rw [book_Again_1B_l2] at r34
         refine shW_skip (shW_seq ?_)
         refine shW_block ?_
         refine wsr ?_
         obtain ⟨b41, o42, c43, vs44, ha45, hs46, hle47, rfl, hl48, hc49⟩ := RowR.at (iE_ok _) h_l ((b5, .cells #[.int .i64 houses, .int .i64 notices, .slice hears_a hears.length hears_c, .slice readings_a readings.length readings_c, .slice a26 n30 c27] 171 (0, 0)) :: ((b_out, .cells #[.slice out_a out.length out_c] 24 (0, 0)) :: ((b_found, .cells #[.bool found] 4 (0, 0)) :: (Lb28 ++ [])))) g40.1 hx39
         refine ov (v_indexO Tryz.underlying24 Tryz.sizeOf3 rfl ha45 rfl g40) rfl ?_
         refine ov (v_load Tryz.isAgg3 rfl hs46 (hc49 0 (by decide))) rfl ?_
         refine oa rfl rfl (shO_nil ?_)
         refine shW_drawM [(.still, 0), (.still, 1), (.still, 2), (.still, 3), (.still, 4), (.still, 5), (.still, 6), (.still, 7), (.still, 8), (.still, 9), (.seq, 10), (.seq, 11), (.still, 12), (.still, 13), (.still, 14), (.seq, 15)] (by kernel_rfl) (by kernel_rfl) (trivial) (by rfl) (by kernel_rfl) ?_
         refine shM_v (v := .pointer (some ⟨b5, 0, none⟩)) (ek := [(14, .pointer (some ⟨b5, 0, none⟩))]) (Ls := []) rfl rfl rfl rfl ((sc rfl (sn _))) (by kernel_rfl) sm (fun H F' L' hF' hL' => v_move rfl) ?_
         refine shM_v (v := .pointer (some ⟨b5, 0, none⟩)) (ek := [(14, .pointer (some ⟨b5, 0, none⟩))]) (Ls := []) rfl rfl rfl rfl ((sc rfl (sn _))) (by kernel_rfl) sm (fun H F' L' hF' hL' => v_move rfl) ?_
         refine shM_v (v := .pointer (some ⟨b5, 0, none⟩)) (ek := [(38, .pointer (some ⟨b5, 0, none⟩))]) (Ls := []) rfl rfl rfl rfl ((sc rfl (sn _))) (by kernel_rfl) sm (fun H F' L' hF' hL' => v_nilCheck rfl) ?_
         refine shM_v (v := .pointer (some ⟨b5, 0, none⟩)) (ek := [(39, .pointer (some ⟨b5, 0, none⟩))]) (Ls := []) rfl rfl rfl rfl ((sc rfl (sn _))) (by kernel_rfl) sm (fun H F' L' hF' hL' => v_fieldAddr fa_171_0 rfl) ?_
         refine shM_v (v := .pointer (some ⟨b5, 4, none⟩)) (ek := [(40, .pointer (some ⟨b5, 0, none⟩))]) (Ls := []) rfl rfl rfl rfl ((sc rfl (sn _))) (by kernel_rfl) sm (fun H F' L' hF' hL' => v_fieldAddr fa_27_4 rfl) ?_
         refine shM_v (v := .slice a26 n30 c27) (ek := [(41, .pointer (some ⟨b5, 4, none⟩))]) (Ls := [(b5, .cells #[.int .i64 houses, .int .i64 notices, .slice hears_a hears.length hears_c, .slice readings_a readings.length readings_c, .slice a26 n30 c27] 171 (0, 0))]) rfl rfl rfl rfl ((sc rfl (sn _))) (by kernel_rfl) (s0 (s2 (s1 (s1 (s3 sr))))) (fun H F' L' hF' hL' => v_load Tryz.isAgg25 rfl ((Has.own 0 rfl).ext hF' hL') rfl) ?_
         refine shM_v (v := .int .i64 hour) (ek := [(4, .pointer (some ⟨b_hour, 0, none⟩))]) (Ls := []) rfl rfl rfl rfl ((sc rfl (sn _))) (by kernel_rfl) sm (fun H F' L' hF' hL' => v_load Tryz.isAgg3 rfl ((Has.frozen hb_hour).ext hF' hL') rfl) ?_
         refine shM_v (v := .int .i64 x) (ek := [(16, .int .i64 x)]) (Ls := []) rfl rfl rfl rfl ((sc rfl (sn _))) (by kernel_rfl) sm (fun H F' L' hF' hL' => v_move rfl) ?_
         refine shM_v (v := .int .i64 notice) (ek := [(5, .pointer (some ⟨b_notice, 0, none⟩))]) (Ls := []) rfl rfl rfl rfl ((sc rfl (sn _))) (by kernel_rfl) sm (fun H F' L' hF' hL' => v_load Tryz.isAgg3 rfl ((Has.frozen hb_notice).ext hF' hL') rfl) ?_
         refine shM_v (v := .agg #[.int .i64 hour, .int .i64 x, .int .i64 notice]) (ek := [(43, .int .i64 hour), (44, .int .i64 x), (45, .int .i64 notice)]) (Ls := []) rfl rfl rfl rfl ((sc rfl (sc rfl (sc rfl (sn _))))) (by kernel_rfl) sm (fun H F' L' hF' hL' => v_build (v := .agg #[.int .i64 hour, .int .i64 x, .int .i64 notice]) rfl (by intro w; kernel_rfl)) ?_
         refine ⟨_, [(46, .agg #[.int .i64 hour, .int .i64 x, .int .i64 notice])], rfl, rfl, (sc rfl (sn _)), by kernel_rfl, ?_⟩; intro H
         refine o_buildSlice (cs := #[.int .i64 hour, .int .i64 x, .int .i64 notice]) rfl rfl (buildSlice_all slt_25 [.agg #[.int .i64 hour, .int .i64 x, .int .i64 notice]] rfl (by decide) (by simp [Value.cells]) (by decide)) ?_; intro b50 hb50
         refine shO_nil ⟨_, rfl, FExt.refl _, [5, 4, 3, 2, 1, 0], by kernel_rfl, .inl (.inr (fun d h => by cases h; rfl)), (List.forall_mem_cons.2 ⟨s0 (s1 (s2 (s1 (s1 (s3 sr))))), (List.forall_mem_cons.2 ⟨sm, (List.forall_mem_cons.2 ⟨sm, (List.forall_mem_cons.2 ⟨sm, (List.forall_mem_cons.2 ⟨sm, (List.forall_mem_cons.2 ⟨sm, (fun _ h => absurd h List.not_mem_nil)⟩)⟩)⟩)⟩)⟩)⟩), ?_⟩
         refine ⟨_, [(42, .slice a26 n30 c27), (47, .slice (some ⟨b50, 0, none⟩) 1 1)], rfl, rfl, (sc rfl (sc rfl (sn _))), by kernel_rfl, ?_⟩; intro H
         obtain ⟨l3, h51, g52, r53⟩ := ap_ok r34; clear r34
         refine o_appZ (xs := d_cries2) (ys := [(hour, x, notice)]) (zs := l3) rfl slt_25 rfl rfl (Nat.le_refl _) (fun _ => .c (.c (.c (.c .h)))) hz29 (SrcR.box (vss := [[.int .i64 hour, .int .i64 x, .int .i64 notice]]) (ys := [(hour, x, notice)]) 0 rfl (prE_ok (iE_ok _) (prE_ok (iE_ok _) (iE_ok _))) (.cons ⟨_, _, rfl, rfl, ⟨_, _, rfl, rfl, rfl⟩⟩ .nil) rfl rfl) h51 g52 (by decide) ?_; intro a54 n58 c55 Lb56 hz57
         refine kO (kd kr) ?_
         refine shO_nil ⟨_, rfl, FExt.refl _, [0], by kernel_rfl, .inl (.inr (fun d h => by cases h; rfl)), (List.forall_mem_cons.2 ⟨sm, (fun _ h => absurd h List.not_mem_nil)⟩), ?_⟩
         refine shM_v (v := .pointer (some ⟨b5, 0, none⟩)) (ek := [(37, .pointer (some ⟨b5, 0, none⟩))]) (Ls := []) rfl rfl rfl rfl ((sc rfl (sn _))) (by kernel_rfl) sm (fun H F' L' hF' hL' => v_nilCheck rfl) ?_
         refine shM_v (v := .pointer (some ⟨b5, 0, none⟩)) (ek := [(49, .pointer (some ⟨b5, 0, none⟩))]) (Ls := []) rfl rfl rfl rfl ((sc rfl (sn _))) (by kernel_rfl) sm (fun H F' L' hF' hL' => v_fieldAddr fa_171_0 rfl) ?_
         refine shM_v (v := .pointer (some ⟨b5, 4, none⟩)) (ek := [(50, .pointer (some ⟨b5, 0, none⟩))]) (Ls := []) rfl rfl rfl rfl ((sc rfl (sn _))) (by kernel_rfl) sm (fun H F' L' hF' hL' => v_fieldAddr fa_27_4 rfl) ?_
         refine ⟨_, [(48, .slice a54 n58 c55), (51, .pointer (some ⟨b5, 4, none⟩))], rfl, rfl, (sc rfl (sc rfl (sn _))), by kernel_rfl, ?_⟩; intro H
         refine o_store (i := 0) Tryz.sizeOf25 rfl rfl rfl rfl (Nat.le_of_ble_eq_true rfl) ?_
         refine shO_L (L' := (b5, .cells #[.int .i64 houses, .int .i64 notices, .slice hears_a hears.length hears_c, .slice readings_a readings.length readings_c, .slice a54 n58 c55] 171 (0, 0)) :: ((b_out, .cells #[.slice out_a out.length out_c] 24 (0, 0)) :: ((b_found, .cells #[.bool found] 4 (0, 0)) :: (Lb56 ++ [])))) rfl ?_
         refine shO_nil ⟨undef, rfl, FExt.refl _, [], by kernel_rfl, .inl (.inl rfl), (fun _ h => absurd h List.not_mem_nil), ?_⟩
         refine shM_nil ?_
         refine inBlock_n (id := 1) (shW_region ?_)
         refine ov (v_add rfl rfl (Lst.r64 hk32 c37 (RowR.lt h_l))) rfl ?_
         refine om rfl rfl (shO_nil ?_)
         subst hn33; exact le kr ⟨_, _, rfl, hk38, l3, a54, n58, c55, Lb56, r53, rfl, rfl, (sc rfl (sc rfl (sc rfl (sc rfl (sc rfl (sc rfl (sc rfl (sc rfl (sc rfl (sc rfl (sn _))))))))))), hz57⟩
       obtain rfl := Lst.zero hk32 c37
       rw [book_Again_1B_l2] at r34
       refine shW_exit (andThen_exit (andThen_exit ?_))
       refine inBlock_exit ?_
       obtain rfl := inj1 r34
       exact mi kr ⟨a26, n30, c27, Lb28, rfl, rfl, (sc rfl (sc rfl (sc rfl (sc rfl (sc rfl (sc rfl (sn _))))))), hz29⟩
     rintro e1 _ _ ⟨a18, n22, c19, Lb20, rfl, rfl, he60, hz21⟩
     refine shW_env _ he60 ?_; clear he60
     refine wsr ?_
     refine ov (v_makeFunc rfl rfl) rfl ?_
     refine ov (v_build (v := .agg (#[.func (.func 109) #[] #[.pointer (some ⟨b_houses, 0, none⟩), .pointer (some ⟨b_notice, 0, none⟩)]])) rfl (by intro w; kernel_rfl)) rfl ?_
     refine o_alloc rfl Tryz.zeroValue110 ?_; intro b61 hb61
     refine o_storeA (i := 0) Tryz.sizeOf110 rfl rfl rfl (by simp [Value.oneCell']) rfl (Nat.le_of_ble_eq_true rfl) ?_
     refine shO_L (L' := (b61, .cells (#[.func (.func 109) #[] #[.pointer (some ⟨b_houses, 0, none⟩), .pointer (some ⟨b_notice, 0, none⟩)]]) 110 (0, 0)) :: ((b5, .cells #[.int .i64 houses, .int .i64 notices, .slice hears_a hears.length hears_c, .slice readings_a readings.length readings_c, .slice a18 n22 c19] 171 (0, 0)) :: ((b_out, .cells #[.slice out_a out.length out_c] 24 (0, 0)) :: ((b_found, .cells #[.bool found] 4 (0, 0)) :: (Lb20 ++ []))))) rfl ?_
     refine shO_nil (shW_seq (shW_seq ?_))
     refine shW_drawM [(.still, 0), (.still, 1), (.seq, 2), (.seq, 3), (.still, 4)] (by kernel_rfl) (by kernel_rfl) (trivial) (by rfl) (by kernel_rfl) ?_
     refine shM_v (v := .agg (#[.func (.func 109) #[] #[.pointer (some ⟨b_houses, 0, none⟩), .pointer (some ⟨b_notice, 0, none⟩)]])) (ek := [(17, .pointer (some ⟨b61, 0, none⟩))]) (Ls := [(b61, .cells (#[.func (.func 109) #[] #[.pointer (some ⟨b_houses, 0, none⟩), .pointer (some ⟨b_notice, 0, none⟩)]]) 110 (0, 0))]) rfl rfl rfl rfl ((sc rfl (sn _))) (by kernel_rfl) (s0 (s2 (s1 (s1 (s1 (s3 sr)))))) (fun H F' L' hF' hL' => v_loadA (cs := #[.func (.func 109) #[] #[.pointer (some ⟨b_houses, 0, none⟩), .pointer (some ⟨b_notice, 0, none⟩)]]) Tryz.isAgg110 Tryz.sizeOf110 rfl ((Has.own 0 rfl).ext hF' hL') (Nat.le_of_ble_eq_true rfl) rfl) ?_
     refine shM_v (v := .pointer (some ⟨b5, 0, none⟩)) (ek := [(14, .pointer (some ⟨b5, 0, none⟩))]) (Ls := []) rfl rfl rfl rfl ((sc rfl (sn _))) (by kernel_rfl) sm (fun H F' L' hF' hL' => v_move rfl) ?_
     refine ⟨_, [(56, .pointer (some ⟨b5, 0, none⟩))], rfl, rfl, (sc rfl (sn _)), by kernel_rfl, ?_⟩; intro H
     obtain rfl := (SlR.caps hz21).1
     refine shO_freezeR (Nat.le_refl _) (prE_ok (iE_ok _) (prE_ok (iE_ok _) (iE_ok _))) (fC (fC (fC (fC fP)))) hz21 ?_; intro F62 hF63 h64
     replace h_l := h_l.mono (iE_ok _) hF63
     replace h_hears := h_hears.mono (slE_ok (slE_ok (iE_ok _))) hF63
     replace h_readings := h_readings.mono (iE_ok _) hF63
     replace h_houses2 := h_houses2.mono (iE_ok _) hF63
     replace h_out := h_out.mono (iE_ok _) hF63
     replace hb_notice := hF63 _ _ hb_notice
     replace hb_houses := hF63 _ _ hb_houses
     refine shO_freeze 1 rfl hb5 ?_; intro F65 hF66 hz67
     refine shO_L (L' := [(b61, .cells (#[.func (.func 109) #[] #[.pointer (some ⟨b_houses, 0, none⟩), .pointer (some ⟨b_notice, 0, none⟩)]]) 110 (0, 0)), (b_out, .cells #[.slice out_a out.length out_c] 24 (0, 0)), (b_found, .cells #[.bool found] 4 (0, 0))]) rfl ?_
     replace h_l := h_l.mono (iE_ok _) hF66
     replace h_hears := h_hears.mono (slE_ok (slE_ok (iE_ok _))) hF66
     replace h_readings := h_readings.mono (iE_ok _) hF66
     replace h_houses2 := h_houses2.mono (iE_ok _) hF66
     replace h_out := h_out.mono (iE_ok _) hF66
     replace h64 := h64.mono (prE_ok (iE_ok _) (prE_ok (iE_ok _) (iE_ok _))) hF66
     replace hb_notice := hF66 _ _ hb_notice
     replace hb_houses := hF66 _ _ hb_houses
     obtain ⟨l4, h68, r69⟩ := b1_ok r25; clear r25
     refine o_call0 rfl Tryz.call111 rfl rfl rfl (book_desk_endings_w hz67 h_hears h_readings h64 h68) ?_; rintro _ F70 _ hF71 hn72 ⟨a74, n78, c75, Lb76, rfl, rfl, hz77⟩
     replace h_l := h_l.mono (iE_ok _) hF71
     replace h_houses2 := h_houses2.mono (iE_ok _) hF71
     replace h_out := h_out.mono (iE_ok _) hF71
     replace hb_notice := hF71 _ _ hb_notice
     replace hb_houses := hF71 _ _ hb_houses
     replace hz77 := hz77.new fun p hp => hn72 p (by simp [hp])
     refine shO_L (lp (ln rfl)) ?_
     refine kO (kf (fS fO) (kf (fS fO) (kf (fS fO) kr))) ?_
     refine shO_nil ⟨_, rfl, ((hF63.trans hF66).trans hF71), [0], by kernel_rfl, .inl (.inr (fun d h => by cases h; rfl)), (List.forall_mem_cons.2 ⟨s0 (s2 (s1 (s1 (s3 sr)))), (fun _ h => absurd h List.not_mem_nil)⟩), ?_⟩
     refine ⟨_, [(55, .agg (#[.func (.func 109) #[] #[.pointer (some ⟨b_houses, 0, none⟩), .pointer (some ⟨b_notice, 0, none⟩)]])), (57, .slice a74 n78 c75)], rfl, rfl, (sc rfl (sc rfl (sn _))), by kernel_rfl, ?_⟩; intro H
     have hn81 : FnR Tryz.prog F70 109 #[] #[.pointer (some ⟨b_houses, 0, none⟩), .pointer (some ⟨b_notice, 0, none⟩)] (agE (arE 24 cB)) Value.bool (fun xx_ : (List Bool) => book_Again_1_1 xx_ houses2 notice) := ⟨Tryz.call109, fun F2 h2 vs xx_ r ha hr => by obtain ⟨_, rfl, ⟨rfl, h80⟩⟩ := ha; exact book_Again_1_1_w h80 (h2 _ _ hb_houses) (h_houses2.mono (iE_ok _) h2) (h2 _ _ hb_notice) hr⟩
     obtain rfl := (SlR.caps hz77).1
     refine shO_freezeR (Nat.le_refl _) (prE_ok (arE_ok (n := 24) (sz := 1) cB_ok) (slE_ok (iE_ok _))) (fC (fC (fC fP))) hz77 ?_; intro F82 hF83 h84
     replace h_l := h_l.mono (iE_ok _) hF83
     replace h_out := h_out.mono (iE_ok _) hF83
     replace hn81 := hn81.mono hF83
     obtain ⟨l5, h85, r86⟩ := b1_ok r69; clear r69
     refine o_call0 rfl Tryz.call48 rfl rfl rfl (book_goal_find_w hn81 h84 h85) ?_; rintro _ F87 _ hF88 hn89 ⟨a91, c92, rfl, rfl, h93, hq94⟩
     replace h_l := h_l.mono (iE_ok _) hF88
     replace h_out := h_out.mono (iE_ok _) hF88
     refine shO_L (ln rfl) ?_
     refine shO_nil ⟨_, rfl, (hF83.trans hF88), [], by kernel_rfl, .inl (.inl rfl), (fun _ h => absurd h List.not_mem_nil), ?_⟩
     refine shM_v (v := .bool (decide (l5 = []))) (ek := [(58, .slice a91 l5.length c92)]) (Ls := []) rfl rfl rfl rfl ((sc rfl (sn _))) (by kernel_rfl) sm (fun H F' L' hF' hL' => (v_eqlNil Tryz.underlying24 rfl).b (nilq_dec hq94)) ?_
     refine shM_nil ?_
     refine shW_condP rfl (fun c95 => ?_) (fun c95 => ?_)
     · have r96 := ite_t r86 c95; clear r86
       refine shW_region (om rfl rfl ?_)
       refine o_store (i := 1) Tryz.sizeOf24 rfl rfl rfl rfl (Nat.le_of_ble_eq_true rfl) ?_
       refine shO_L (L' := [(b61, .cells (#[.func (.func 109) #[] #[.pointer (some ⟨b_houses, 0, none⟩), .pointer (some ⟨b_notice, 0, none⟩)]]) 110 (0, 0)), (b_out, .cells #[.slice l_a l.length l_c] 24 (0, 0)), (b_found, .cells #[.bool found] 4 (0, 0))]) rfl ?_
       refine o_store (i := 2) Tryz.sizeOf4 rfl rfl rfl rfl (Nat.le_of_ble_eq_true rfl) ?_
       refine shO_L (L' := [(b61, .cells (#[.func (.func 109) #[] #[.pointer (some ⟨b_houses, 0, none⟩), .pointer (some ⟨b_notice, 0, none⟩)]]) 110 (0, 0)), (b_out, .cells #[.slice l_a l.length l_c] 24 (0, 0)), (b_found, .cells #[.bool true] 4 (0, 0))]) rfl ?_
       refine nsr ?_
       refine ov (v_load Tryz.isAgg4 rfl (Has.own 2 rfl) rfl) rfl ?_
       refine oa rfl rfl (shO_nil ?_)
       refine kW (kd kr) ?_
       refine shW_ret (andThen_ret ?_)
       refine q_res1 Tryz.results107 (res_tmp rfl) (sr) ?_
       obtain ⟨rfl, rfl, rfl⟩ := inj3 r96
       exact ⟨_, _, rfl, rfl, h_l⟩
     have r97 := ite_f r86 c95; clear r86
     refine shW_skip (wsr ?_)
     refine ov (v_load Tryz.isAgg4 rfl (Has.own 2 rfl) rfl) rfl ?_
     refine oa rfl rfl (shO_nil ?_)
     refine kW (kd kr) ?_
     refine shW_ret (andThen_ret ?_)
     refine q_res1 Tryz.results107 (res_tmp rfl) (sr) ?_
     obtain ⟨rfl, rfl, rfl⟩ := inj3 r97
     exact ⟨_, _, rfl, rfl, h_out⟩
   have r98 := ite_f hr c1; clear hr
   refine shW_skip ?_
   exact mi kr ⟨r98, rfl, rfl, (sc rfl (sc rfl (sc rfl (sc rfl (sc rfl (sn _))))))⟩
 rintro e1 _ _ ⟨r99, rfl, rfl, he100⟩
 refine shW_env _ he100 ?_; clear he100
 rw [book_Again_1B_j1] at r99
 refine shW_join (fun e1 F1 L1 => ∃ (out2 : List Int) (found2 : Bool) (a101 : Option Addr) (c102 : Nat), book_Again_1B_j3 out2 found2 = some (r, r2, r3) ∧ FExt F F1 ∧ L1 = [(b_out, .cells #[.slice a101 out2.length c102] 24 (0, 0)), (b_found, .cells #[.bool found2] 4 (0, 0))] ∧ e1.sub [] ∧ RowR 1 (iE .i64) F1 a101 c102 out2) ?_ ?_
 · refine wsr (om rfl rfl (oa rfl rfl (shO_nil ?_)))
   refine shW_block ?_
   obtain ⟨g107, r108⟩ := gd_ok r99; clear r99
   refine shW_lp (fun fu4 e1 F1 L1 => ∃ (s_ : Int), Ctr from_ (hears.length : Int) s_ fu4 ∧ ∃ (out3 : List Int) (found3 : Bool) (a104 : Option Addr) (c105 : Nat), book_Again_1B_l4 l many houses notices hears readings cries hour notice houses2 rec_ fu4 s_ out3 found3 = some (r, r2, r3) ∧ FExt F F1 ∧ L1 = [(b_out, .cells #[.slice a104 out3.length c105] 24 (0, 0)), (b_found, .cells #[.bool found3] 4 (0, 0))] ∧ e1.sub [(0, .slice l_a l.length l_c), (2, .int .i64 many), (3, .pointer (some ⟨b_b, 0, none⟩)), (9, .pointer (some ⟨b_pick, 0, none⟩)), (18, .int .i64 s_)] ∧ RowR 1 (iE .i64) F1 a104 c105 out3) _ (m0 kr ⟨_, Ctr.start _ _, out, found, out_a, out_c, r108, FExt.refl _, rfl, (sc rfl (sc rfl (sc rfl (sc rfl (sc rfl (sn _)))))), h_out⟩) ?_
   rintro fu4 e1 F113 _ ⟨s_, hk109, out3, found3, a104, c105, r111, hF114, rfl, he112, h106⟩
   refine shW_env _ he112 ?_; clear he112
   replace h_l := h_l.mono (iE_ok _) hF114
   replace h_hears := h_hears.mono (slE_ok (slE_ok (iE_ok _))) hF114
   replace h_readings := h_readings.mono (iE_ok _) hF114
   replace h_cries := h_cries.mono (prE_ok (iE_ok _) (prE_ok (iE_ok _) (iE_ok _))) hF114
   replace h_houses2 := h_houses2.mono (iE_ok _) hF114
   replace hb_b := hF114 _ _ hb_b
   replace hb_hour := hF114 _ _ hb_hour
   replace hb_notice := hF114 _ _ hb_notice
   replace hb_houses := hF114 _ _ hb_houses
   replace hb_pick := hF114 _ _ hb_pick
   refine shW_seq (wsr (om rfl rfl ?_))
   refine ov (v_fieldAddr fa_27_2 rfl) rfl ?_
   refine ov (v_load Tryz.isAgg23 rfl (Has.frozen hb_b) rfl) rfl ?_
   refine ov (v_lenS Tryz.underlying23 rfl) rfl ?_
   refine ov (v_lssK rfl rfl) rfl ?_
   refine shO_nil ?_
   refine shW_condP rfl (fun c116 => ?_) (fun c116 => ?_)
   · obtain ⟨fu4, rfl, hk117⟩ := Ctr.succ hk109 c116
     rw [book_Again_1B_l4] at r111
     refine shW_skip (shW_seq ?_)
     refine shW_block ?_
     refine shW_seq ?_
     refine shW_drawM [(.still, 0), (.still, 1), (.still, 3), (.pre, 4), (.still, 6), (.still, 7), (.still, 8), (.still, 9), (.seq, 2), (.alloc (.cells #[.int .i64 s_] 3 (0, 0)) (fun b => .slice (some ⟨b, 0, none⟩) 1 1) [(73, .int .i64 s_)], 4), (.seq, 5), (.seq, 10)] (by kernel_rfl) (by kernel_rfl) (⟨⟨_, _, rfl, rfl, rfl, rfl, rfl, mk_build rfl (buildSlice_all slt_24 [.int .i64 s_] rfl (by decide) (by simp [Value.cells]) (by decide))⟩, trivial⟩) (by rfl) (by kernel_rfl) ?_
     refine shM_v (v := .func (.func 107) #[] #[.pointer (some ⟨b_b, 0, none⟩), .pointer (some ⟨b_hour, 0, none⟩), .pointer (some ⟨b_notice, 0, none⟩), .pointer (some ⟨b_houses, 0, none⟩), .pointer (some ⟨b_out, 0, none⟩), .pointer (some ⟨b_found, 0, none⟩), .pointer (some ⟨b_pick, 0, none⟩)]) (ek := [(9, .pointer (some ⟨b_pick, 0, none⟩))]) (Ls := []) rfl rfl rfl rfl ((sc rfl (sn _))) (by kernel_rfl) sm (fun H F' L' hF' hL' => v_load Tryz.isAgg169 rfl ((Has.frozen hb_pick).ext hF' hL') rfl) ?_
     refine shM_v (v := .slice l_a l.length l_c) (ek := [(0, .slice l_a l.length l_c)]) (Ls := []) rfl rfl rfl rfl ((sc rfl (sn _))) (by kernel_rfl) sm (fun H F' L' hF' hL' => v_move rfl) ?_
     refine shM_v (v := .int .i64 s_) (ek := [(18, .int .i64 s_)]) (Ls := []) rfl rfl rfl rfl ((sc rfl (sn _))) (by kernel_rfl) sm (fun H F' L' hF' hL' => v_move rfl) ?_
     refine ⟨⟨_, rfl, (sc rfl (sn _)), by kernel_rfl⟩, ?_⟩
     refine shM_v (v := .int .i64 s_) (ek := [(18, .int .i64 s_)]) (Ls := []) rfl rfl rfl rfl ((sc rfl (sn _))) (by kernel_rfl) sm (fun H F' L' hF' hL' => v_move rfl) ?_
     refine shM_v (v := .int .i64 (s_ + 1)) (ek := [(76, .int .i64 s_)]) (Ls := []) rfl rfl rfl rfl ((sc rfl (sn _))) (by kernel_rfl) sm (fun H F' L' hF' hL' => v_add rfl rfl (Ctr.r64 hk109 c116 g107)) ?_
     refine shM_v (v := .int .i64 many) (ek := [(2, .int .i64 many)]) (Ls := []) rfl rfl rfl rfl ((sc rfl (sn _))) (by kernel_rfl) sm (fun H F' L' hF' hL' => v_move rfl) ?_
     obtain ⟨g118, r119⟩ := gd_ok r111; clear r111
     refine shM_v (v := .int .i64 (many - 1)) (ek := [(78, .int .i64 many)]) (Ls := []) rfl rfl rfl rfl ((sc rfl (sn _))) (by kernel_rfl) sm (fun H F' L' hF' hL' => v_sub rfl rfl g118) ?_
     refine ⟨_, [(71, .slice l_a l.length l_c)], rfl, rfl, (sc rfl (sn _)), by kernel_rfl, ?_⟩; intro H
     obtain ⟨l6, h120, r121⟩ := b1_ok r119; clear r119
     refine o_call0 rfl Tryz.call51 rfl rfl rfl (slices_Clone_int_int_w h_l h120) ?_; rintro _ F122 _ hF123 hn124 ⟨a126, n130, c127, Lb128, rfl, rfl, hz129⟩
     replace h_hears := h_hears.mono (slE_ok (slE_ok (iE_ok _))) hF123
     replace h_readings := h_readings.mono (iE_ok _) hF123
     replace h_cries := h_cries.mono (prE_ok (iE_ok _) (prE_ok (iE_ok _) (iE_ok _))) hF123
     replace h_houses2 := h_houses2.mono (iE_ok _) hF123
     replace h106 := h106.mono (iE_ok _) hF123
     replace hb_b := hF123 _ _ hb_b
     replace hb_hour := hF123 _ _ hb_hour
     replace hb_notice := hF123 _ _ hb_notice
     replace hb_houses := hF123 _ _ hb_houses
     replace hb_pick := hF123 _ _ hb_pick
     replace hz129 := hz129.new fun p hp => hn124 p (by simp [hp])
     refine shO_L (lp (ln rfl)) ?_
     refine kO (kf (fS fO) (kf (fS fO) kr)) ?_
     refine shO_nil ⟨_, rfl, hF123, [9, 8, 7, 6, 3, 0], by kernel_rfl, .inl (.inr (fun d h => by cases h; rfl)), (List.forall_mem_cons.2 ⟨sm, (List.forall_mem_cons.2 ⟨sm, (List.forall_mem_cons.2 ⟨sm, (List.forall_mem_cons.2 ⟨sm, (List.forall_mem_cons.2 ⟨sm, (List.forall_mem_cons.2 ⟨sm, (fun _ h => absurd h List.not_mem_nil)⟩)⟩)⟩)⟩)⟩)⟩), ?_⟩
     refine shM_bs rfl ?_; intro b132 hb132
     refine shM_L (L' := (b132, .cells #[.int .i64 s_] 3 (0, 0)) :: ((b_out, .cells #[.slice a104 out3.length c105] 24 (0, 0)) :: ((b_found, .cells #[.bool found3] 4 (0, 0)) :: (Lb128 ++ [])))) rfl ?_
     refine ⟨_, [(72, .slice a126 n130 c127), (74, .slice (some ⟨b132, 0, none⟩) 1 1)], rfl, rfl, (sc rfl (sc rfl (sn _))), by kernel_rfl, ?_⟩; intro H
     obtain ⟨l7, h133, g134, r135⟩ := ap_ok r121; clear r121
     refine o_appZ (xs := l6) (ys := [s_]) (zs := l7) rfl slt_24 rfl rfl (Nat.le_refl _) (fun _ => .c (.c (.c .h))) hz129 (SrcR.box (vss := [[.int .i64 s_]]) (ys := [s_]) 0 rfl (iE_ok _) (.cons rfl .nil) rfl rfl) h133 g134 (by decide) ?_; intro a136 n140 c137 Lb138 hz139
     refine kO (kd kr) ?_
     refine shO_nil ⟨_, rfl, FExt.refl _, [9, 8, 7, 6, 0], by kernel_rfl, .inl (.inr (fun d h => by cases h; rfl)), (List.forall_mem_cons.2 ⟨sm, (List.forall_mem_cons.2 ⟨sm, (List.forall_mem_cons.2 ⟨sm, (List.forall_mem_cons.2 ⟨sm, (List.forall_mem_cons.2 ⟨sm, (fun _ h => absurd h List.not_mem_nil)⟩)⟩)⟩)⟩)⟩), ?_⟩
     refine ⟨_, [(70, .func (.func 107) #[] #[.pointer (some ⟨b_b, 0, none⟩), .pointer (some ⟨b_hour, 0, none⟩), .pointer (some ⟨b_notice, 0, none⟩), .pointer (some ⟨b_houses, 0, none⟩), .pointer (some ⟨b_out, 0, none⟩), .pointer (some ⟨b_found, 0, none⟩), .pointer (some ⟨b_pick, 0, none⟩)]), (75, .slice a136 n140 c137), (77, .int .i64 (s_ + 1)), (79, .int .i64 (many - 1))], rfl, rfl, (sc rfl (sc rfl (sc rfl (sc rfl (sn _))))), by kernel_rfl, ?_⟩; intro H
     obtain rfl := (SlR.caps hz139).1
     refine shO_freezeR (Nat.le_refl _) (iE_ok _) (fC (fC fP)) hz139 ?_; intro F142 hF143 h144
     replace h_hears := h_hears.mono (slE_ok (slE_ok (iE_ok _))) hF143
     replace h_readings := h_readings.mono (iE_ok _) hF143
     replace h_cries := h_cries.mono (prE_ok (iE_ok _) (prE_ok (iE_ok _) (iE_ok _))) hF143
     replace h_houses2 := h_houses2.mono (iE_ok _) hF143
     replace h106 := h106.mono (iE_ok _) hF143
     replace hb_b := hF143 _ _ hb_b
     replace hb_hour := hF143 _ _ hb_hour
     replace hb_notice := hF143 _ _ hb_notice
     replace hb_houses := hF143 _ _ hb_houses
     replace hb_pick := hF143 _ _ hb_pick
     obtain ⟨ok, out4, found4, h145, r146⟩ := b3_ok r135; clear r135
     refine o_callG (Lb := [(b_out, .cells #[.slice a104 out3.length c105] 24 (0, 0)), (b_found, .cells #[.bool found3] 4 (0, 0))]) (Lr := []) rfl Tryz.call107 rfl rfl rfl (pR) (hrec h144 hb_b h_hears h_readings h_cries hb_hour hb_notice hb_houses h_houses2 h106 hb_pick h145) ?_; rintro _ F147 _ hF148 hd150 hn149 ⟨a151, c152, rfl, rfl, h153⟩
     refine shO_L (lb (lb (ln rfl))) ?_
     refine shO_nil ⟨_, rfl, (hF143.trans hF148), [], by kernel_rfl, .inl (.inl rfl), (fun _ h => absurd h List.not_mem_nil), ?_⟩
     refine shM_nil ?_
     refine shW_cond rfl (fun c154 => ?_) (fun c154 => ?_)
     · have r155 := bt r146 c154; clear r146
       refine wsr (oa rfl rfl (shO_nil (shW_ret (inBlock_ret (andThen_ret (andThen_ret (inBlock_ret (andThen_ret ?_))))))))
       refine q_res1 Tryz.results107 (res_tmp rfl) (sr) ?_
       obtain ⟨rfl, rfl, rfl⟩ := inj3 r155
       exact ⟨_, _, rfl, rfl, h153⟩
     have r156 := bf r146 c154; clear r146
     refine shW_skip (inBlock_n (id := 3) (shW_region (om rfl rfl ?_)))
     refine ov (v_add rfl rfl (Ctr.r64 hk109 c116 g107)) rfl ?_
     refine oa rfl rfl (shO_nil ?_)
     exact le kr ⟨_, hk117, out4, found4, a151, c152, r156, (((hF114.trans hF123).trans hF143).trans hF148), rfl, (sc rfl (sc rfl (sc rfl (sc rfl (sc rfl (sn _)))))), h153⟩
   obtain rfl := Ctr.zero hk109 c116
   rw [book_Again_1B_l4] at r111
   refine shW_exit (andThen_exit (andThen_exit ?_))
   refine inBlock_exit ?_
   exact mi kr ⟨out3, found3, a104, c105, r111, hF114, rfl, (sn _), h106⟩
 rintro e1 F159 _ ⟨out2, found2, a101, c102, r157, hF160, rfl, he158, h103⟩
 refine shW_env _ he158 ?_; clear he158
 rw [book_Again_1B_j3] at r157
 refine wsr (oa rfl rfl (shO_nil (shW_ret ?_)))
 refine q_res1 Tryz.results107 (res_tmp rfl) (sr) ?_
 obtain ⟨rfl, rfl, rfl⟩ := inj3 r157
 exact ⟨_, _, rfl, rfl, h103⟩
set_option maxHeartbeats 1000000 in
theorem book_Again_1_w : ∀ (fu : Nat) {l_a : Option Addr} {l_c : Nat} {l : List Int} {from_ : Int} {many : Int} {b_b : Nat} {houses : Int} {notices : Int} {hears_a : Option Addr} {hears_c : Nat} {hears : List (List (List Int))} {readings_a : Option Addr} {readings_c : Nat} {readings : List Int} {cries_a : Option Addr} {cries_c : Nat} {cries : List (Int × Int × Int)} {mb_b : Nat × Nat} {b_hour : Nat} {hour : Int} {mb_hour : Nat × Nat} {b_notice : Nat} {notice : Int} {mb_notice : Nat × Nat} {b_houses : Nat} {houses2_a : Option Addr} {houses2_c : Nat} {houses2 : List Int} {mb_houses : Nat × Nat} {b_out : Nat} {out_a : Option Addr} {out_c : Nat} {out : List Int} {b_found : Nat} {found : Bool} {b_pick : Nat} {mb_pick : Nat × Nat} {F : FS} (_ : RowR 1 (iE .i64) F l_a l_c l) (_ : F b_b = some (.cells #[.int .i64 houses, .int .i64 notices, .slice hears_a hears.length hears_c, .slice readings_a readings.length readings_c, .slice cries_a cries.length cries_c] 27 mb_b)) (_ : RowR 1 (slE 1 (slE 1 (iE .i64))) F hears_a hears_c hears) (_ : RowR 1 (iE .i64) F readings_a readings_c readings) (_ : RowR 3 (prE (iE .i64) (prE (iE .i64) (iE .i64))) F cries_a cries_c cries) (_ : F b_hour = some (.cells #[.int .i64 hour] 3 mb_hour)) (_ : F b_notice = some (.cells #[.int .i64 notice] 3 mb_notice)) (_ : F b_houses = some (.cells #[.slice houses2_a houses2.length houses2_c] 24 mb_houses)) (_ : RowR 1 (iE .i64) F houses2_a houses2_c houses2) (_ : RowR 1 (iE .i64) F out_a out_c out) (_ : F b_pick = some (.cells (#[.func (.func 107) #[] #[.pointer (some ⟨b_b, 0, none⟩), .pointer (some ⟨b_hour, 0, none⟩), .pointer (some ⟨b_notice, 0, none⟩), .pointer (some ⟨b_houses, 0, none⟩), .pointer (some ⟨b_out, 0, none⟩), .pointer (some ⟨b_found, 0, none⟩), .pointer (some ⟨b_pick, 0, none⟩)]]) 169 mb_pick)) {r : Bool} {r2 : List Int} {r3 : Bool} , book_Again_1 fu l from_ many houses notices hears readings cries hour notice houses2 out found = some (r, r2, r3) → SH.Spec Tryz.prog 107 #[.slice l_a l.length l_c, .int .i64 from_, .int .i64 many, .pointer (some ⟨b_b, 0, none⟩), .pointer (some ⟨b_hour, 0, none⟩), .pointer (some ⟨b_notice, 0, none⟩), .pointer (some ⟨b_houses, 0, none⟩), .pointer (some ⟨b_out, 0, none⟩), .pointer (some ⟨b_found, 0, none⟩), .pointer (some ⟨b_pick, 0, none⟩)] F [(b_out, .cells #[.slice out_a out.length out_c] 24 (0, 0)), (b_found, .cells #[.bool found] 4 (0, 0))] fun F' L' v => ∃ (r2a : Option Addr) (r2c : Nat), v = .bool r ∧ L' = [(b_out, .cells #[.slice r2a r2.length r2c] 24 (0, 0)), (b_found, .cells #[.bool r3] 4 (0, 0))] ∧ RowR 1 (iE .i64) F' r2a r2c r2 := by
  intro fu
  induction fu with
  | zero => intros; rename_i hr; rw [book_Again_1] at hr; cases hr
  | succ fu ih => intros; rename_i hr; rw [book_Again_1] at hr; exact book_Again_1B_w ih (by assumption) (by assumption) (by assumption) (by assumption) (by assumption) (by assumption) (by assumption) (by assumption) (by assumption) (by assumption) (by assumption) hr
set_option maxHeartbeats 1000000 in
theorem book_Again_w {houses : Int} {notices : Int} {hears_a : Option Addr} {hears_c : Nat} {hears : List (List (List Int))} {readings_a : Option Addr} {readings_c : Nat} {readings : List Int} {cries_a : Option Addr} {cries_c : Nat} {cries : List (Int × Int × Int)} {notice : Int} {hour : Int} {houses2_a : Option Addr} {houses2_c : Nat} {houses2 : List Int} {F : FS} (h_hears : RowR 1 (slE 1 (slE 1 (iE .i64))) F hears_a hears_c hears) (h_readings : RowR 1 (iE .i64) F readings_a readings_c readings) (h_cries : RowR 3 (prE (iE .i64) (prE (iE .i64) (iE .i64))) F cries_a cries_c cries) (h_houses2 : RowR 1 (iE .i64) F houses2_a houses2_c houses2) {r : List Int} {r2 : Int} (hr : book_Again houses notices hears readings cries notice hour houses2 = some (r, r2)) :
    SH.Spec Tryz.prog 71 #[.agg #[.int .i64 houses, .int .i64 notices, .slice hears_a hears.length hears_c, .slice readings_a readings.length readings_c, .slice cries_a cries.length cries_c], .int .i64 notice, .int .i64 hour, .slice houses2_a houses2.length houses2_c] F [] fun F' L' v => ∃ (ra : Option Addr) (rc : Nat), v = .tuple #[.slice ra r.length rc, .int .i64 r2] ∧ L' = [] ∧ RowR 1 (iE .i64) F' ra rc r := by
 refine spec_of_shW (args := [.agg #[.int .i64 houses, .int .i64 notices, .slice hears_a hears.length hears_c, .slice readings_a readings.length readings_c, .slice cries_a cries.length cries_c], .int .i64 notice, .int .i64 hour, .slice houses2_a houses2.length houses2_c]) Tryz.func71 rfl Tryz.ntmps71 (Nat.le_of_ble_eq_true rfl) ?_
 intro K _ _; rw [book_Again] at hr
 refine wsr ?_
 refine o_box rfl rfl ?_; intro b1 hb1
 refine o_box rfl rfl ?_; intro b2 hb2
 refine o_box rfl rfl ?_; intro b3 hb3
 refine o_box rfl rfl ?_; intro b4 hb4
 refine oa rfl rfl (oa rfl rfl (shO_nil ?_))
 refine shW_scope ?_
 refine shW_seq (wsr ?_)
 refine ov (v_loadA (cs := #[.int .i64 houses, .int .i64 notices, .slice hears_a hears.length hears_c, .slice readings_a readings.length readings_c, .slice cries_a cries.length cries_c]) Tryz.isAgg27 Tryz.sizeOf27 rfl (Has.own 3 rfl) (Nat.le_of_ble_eq_true rfl) rfl) rfl ?_
 obtain ⟨n, h5, r6⟩ := b1_ok hr; clear hr
 refine o_callV rfl Tryz.call91 rfl rfl rfl (book_Check_w h_hears h_readings h_cries h5) ?_
 refine oa rfl rfl (nsr (om rfl rfl ?_))
 refine ov (v_neq rfl rfl) rfl ?_
 refine shO_nil ?_
 refine shW_condP rfl (fun c7 => ?_) (fun c7 => ?_)
 · have r8 := ite_t r6 c7; clear r6
   refine wsr (om rfl rfl (oa rfl rfl (oa rfl rfl (shO_nil ?_))))
   refine kW kn ?_
   refine shW_ret (andThen_ret (noGoto_ret ?_))
   refine q_res2 Tryz.results71 (res_tmp rfl) (res_tmp rfl) (sr) ?_
   obtain ⟨rfl, rfl⟩ := inj2 r8
   exact ⟨_, _, rfl, rfl, RowR.nil _ _ _⟩
 have r9 := ite_f r6 c7; clear r6
 refine shW_skip (shW_seq ?_)
 obtain ⟨k, h10, r11⟩ := b1_ok r9; clear r9
 refine shW_join (fun e1 F1 L1 => F = F1 ∧ L1 = [(b4, .cells #[.slice houses2_a houses2.length houses2_c] 24 (0, 0)), (b3, .cells #[.int .i64 hour] 3 (0, 0)), (b2, .cells #[.int .i64 notice] 3 (0, 0)), (b1, .cells #[.int .i64 houses, .int .i64 notices, .slice hears_a hears.length hears_c, .slice readings_a readings.length readings_c, .slice cries_a cries.length cries_c] 27 (0, 0))] ∧ e1.sub [(4, .pointer (some ⟨b1, 0, none⟩)), (5, .pointer (some ⟨b2, 0, none⟩)), (6, .pointer (some ⟨b3, 0, none⟩)), (7, .pointer (some ⟨b4, 0, none⟩)), (33, .bool k)]) ?_ ?_
 · clear r11
   refine shW_region ?_
   refine ov (v_loadA (cs := #[.int .i64 houses, .int .i64 notices, .slice hears_a hears.length hears_c, .slice readings_a readings.length readings_c, .slice cries_a cries.length cries_c]) Tryz.isAgg27 Tryz.sizeOf27 rfl (Has.own 3 rfl) (Nat.le_of_ble_eq_true rfl) rfl) rfl ?_
   refine ov (v_load Tryz.isAgg3 rfl (Has.own 2 rfl) rfl) rfl ?_
   obtain ⟨ok, h12, r13⟩ := b1_ok h10; clear h10
   refine o_callV rfl Tryz.call104 rfl rfl rfl (book_Book_notice_w h_hears h_readings h_cries h12) ?_
   refine ov (v_notB rfl) rfl ?_
   refine om rfl rfl ?_
   rcases bool_two (!ok) with c14 | c14
   · have r15 := bt r13 c14; clear r13
     refine shO_off (b' := true) 28 rfl (EnvB rfl c14) rfl rfl (shO_off (b' := true) 28 rfl (EnvB rfl c14) rfl rfl (shO_off (b' := true) 28 rfl (EnvB rfl c14) rfl rfl (shO_off (b' := true) 28 rfl (EnvB rfl c14) rfl rfl ?_)))
     refine ov (v_pick_t (evB rfl c14) rfl) rfl ?_
     refine shO_nil ?_
     obtain rfl := inj1 r15
     exact mi kr ⟨rfl, rfl, (sc rfl (sc rfl (sc rfl (sc rfl (sc rfl (sn _))))))⟩
   have r16 := bf r13 c14; clear r13
   refine shO_on (b := false) 28 rfl (EnvB rfl c14) ?_
   refine ov (v_loadA (cs := #[.int .i64 houses, .int .i64 notices, .slice hears_a hears.length hears_c, .slice readings_a readings.length readings_c, .slice cries_a cries.length cries_c]) Tryz.isAgg27 Tryz.sizeOf27 rfl (Has.own 3 rfl) (Nat.le_of_ble_eq_true rfl) rfl) rfl ?_
   refine shO_on (b := false) 28 rfl (EnvB rfl c14) ?_
   refine ov (v_load Tryz.isAgg3 rfl (Has.own 1 rfl) rfl) rfl ?_
   refine shO_on (b := false) 28 rfl (EnvB rfl c14) ?_
   obtain ⟨ok2, h17, r18⟩ := b1_ok r16; clear r16
   refine o_callV rfl Tryz.call105 rfl rfl rfl (book_Book_hour_w h_hears h_readings h_cries h17) ?_
   refine shO_on (b := false) 28 rfl (EnvB rfl c14) ?_
   refine ov (v_notB rfl) rfl ?_
   refine ov (v_pick_f (evB rfl c14) rfl) rfl ?_
   refine shO_nil ?_
   obtain rfl := inj1 r18
   exact mi kr ⟨rfl, rfl, (sc rfl (sc rfl (sc rfl (sc rfl (sc rfl (sn _))))))⟩
 rintro e1 _ _ ⟨rfl, rfl, he19⟩
 refine shW_env _ he19 ?_; clear he19
 refine shW_cond rfl (fun c20 => ?_) (fun c20 => ?_)
 · have r21 := bt r11 c20; clear r11
   refine wsr (oa rfl rfl (oa rfl rfl (shO_nil ?_)))
   refine kW kn ?_
   refine shW_ret (andThen_ret (noGoto_ret ?_))
   refine q_res2 Tryz.results71 (res_tmp rfl) (res_tmp rfl) (sr) ?_
   obtain ⟨rfl, rfl⟩ := inj2 r21
   exact ⟨_, _, rfl, rfl, RowR.nil _ _ _⟩
 have r22 := bf r11 c20; clear r11
 refine shW_skip (shW_seq (wsr ?_))
 refine ov (v_loadA (cs := #[.int .i64 houses, .int .i64 notices, .slice hears_a hears.length hears_c, .slice readings_a readings.length readings_c, .slice cries_a cries.length cries_c]) Tryz.isAgg27 Tryz.sizeOf27 rfl (Has.own 3 rfl) (Nat.le_of_ble_eq_true rfl) rfl) rfl ?_
 refine ov (v_load Tryz.isAgg24 rfl (Has.own 0 rfl) rfl) rfl ?_
 obtain ⟨n2, h23, r24⟩ := b1_ok r22; clear r22
 refine o_callV rfl Tryz.call106 rfl rfl rfl (book_Book_listed_w h_hears h_readings h_cries h_houses2 h23) ?_
 refine oa rfl rfl (nsr (om rfl rfl ?_))
 refine ov (v_neq rfl rfl) rfl ?_
 refine shO_nil ?_
 refine shW_condP rfl (fun c25 => ?_) (fun c25 => ?_)
 · have r26 := ite_t r24 c25; clear r24
   refine wsr (om rfl rfl (oa rfl rfl (oa rfl rfl (shO_nil ?_))))
   refine kW kn ?_
   refine shW_ret (andThen_ret (noGoto_ret ?_))
   refine q_res2 Tryz.results71 (res_tmp rfl) (res_tmp rfl) (sr) ?_
   obtain ⟨rfl, rfl⟩ := inj2 r26
   exact ⟨_, _, rfl, rfl, RowR.nil _ _ _⟩
 have r27 := ite_f r24 c25; clear r24
 refine shW_skip (shW_seq (wsr ?_))
 refine ov (v_loadA (cs := #[.int .i64 houses, .int .i64 notices, .slice hears_a hears.length hears_c, .slice readings_a readings.length readings_c, .slice cries_a cries.length cries_c]) Tryz.isAgg27 Tryz.sizeOf27 rfl (Has.own 3 rfl) (Nat.le_of_ble_eq_true rfl) rfl) rfl ?_
 obtain ⟨d, l, n3, h28, r29⟩ := b3_ok r27; clear r27
 refine o_call0 rfl Tryz.call76 rfl rfl rfl (book_told_w h_hears h_readings h_cries h28) ?_; rintro _ F30 _ hF31 hn32 ⟨v34, a36, n40, c37, Lb38, rfl, rfl, hp35, hz39⟩
 replace h_hears := h_hears.mono (slE_ok (slE_ok (iE_ok _))) hF31
 replace h_readings := h_readings.mono (iE_ok _) hF31
 replace h_cries := h_cries.mono (prE_ok (iE_ok _) (prE_ok (iE_ok _) (iE_ok _))) hF31
 replace h_houses2 := h_houses2.mono (iE_ok _) hF31
 refine shO_L (lp (ln rfl)) ?_
 refine kO (kf (fS fO) (kf (fS fO) (kf (fS fO) (kf (fS fO) kr)))) ?_
 refine om rfl rfl (ox rfl rfl rfl (ox rfl rfl rfl (ox rfl rfl rfl (oa rfl rfl (oa rfl rfl (oa rfl rfl (nsr (om rfl rfl ?_))))))))
 refine ov (v_neq rfl rfl) rfl ?_
 refine shO_nil ?_
 refine shW_condP rfl (fun c42 => ?_) (fun c42 => ?_)
 · have r43 := ite_t r29 c42; clear r29
   refine wsr (om rfl rfl (oa rfl rfl (oa rfl rfl (shO_nil ?_))))
   refine kW kn ?_
   refine shW_ret (andThen_ret (noGoto_ret ?_))
   refine q_res2 Tryz.results71 (res_tmp rfl) (res_tmp rfl) (sr) ?_
   obtain ⟨rfl, rfl⟩ := inj2 r43
   exact ⟨_, _, rfl, rfl, RowR.nil _ _ _⟩
 have r44 := ite_f r29 c42; clear r29
 refine shW_skip (wsr ?_)
 refine o_alloc rfl Tryz.zeroValue24 ?_; intro b45 hb45
 refine nsr ?_
 refine o_alloc rfl Tryz.zeroValue4 ?_; intro b46 hb46
 refine o_store (i := 0) Tryz.sizeOf4 rfl rfl rfl rfl (Nat.le_of_ble_eq_true rfl) ?_
 refine shO_L (L' := (b46, .cells #[.bool false] 4 (0, 0)) :: ((b45, .cells #[.slice none 0 0] 24 (0, 0)) :: ((b4, .cells #[.slice houses2_a houses2.length houses2_c] 24 (0, 0)) :: ((b3, .cells #[.int .i64 hour] 3 (0, 0)) :: ((b2, .cells #[.int .i64 notice] 3 (0, 0)) :: ((b1, .cells #[.int .i64 houses, .int .i64 notices, .slice hears_a hears.length hears_c, .slice readings_a readings.length readings_c, .slice cries_a cries.length cries_c] 27 (0, 0)) :: (Lb38 ++ []))))))) rfl ?_
 refine shO_nil (shW_seq ?_)
 refine shW_label ?_
 obtain ⟨out, found, h50, r51⟩ := b2_ok r44; clear r44
 refine shW_join (fun e1 F1 L1 => ∃ (a47 : Option Addr) (c48 : Nat), FExt F30 F1 ∧ L1 = [(b45, .cells #[.slice a47 out.length c48] 24 (0, 0)), (b46, .cells #[.bool found] 4 (0, 0))] ∧ e1.sub [(15, .pointer (some ⟨b45, 0, none⟩)), (16, .pointer (some ⟨b46, 0, none⟩))] ∧ RowR 1 (iE .i64) F1 a47 c48 out) ?_ ?_
 · clear r51
   refine wsr ?_
   refine ov (v_fieldAddr fa_27_2 rfl) rfl ?_
   refine ov (v_load Tryz.isAgg23 rfl (Has.own 5 rfl) rfl) rfl ?_
   refine ov (v_lenS Tryz.underlying23 rfl) rfl ?_
   obtain ⟨g52, r53⟩ := gd_ok h50; clear h50
   refine ov (v_add rfl rfl g52) rfl ?_
   refine om rfl rfl (shO_nil ?_)
   refine shW_block ?_
   refine kW (kc (kc (kc (kc (kc (kc kn)))))) ?_
   refine shW_freeze 5 rfl hb1 ?_; intro F54 hF55 hz56
   refine shW_L (L' := [(b46, .cells #[.bool false] 4 (0, 0)), (b45, .cells #[.slice none 0 0] 24 (0, 0)), (b4, .cells #[.slice houses2_a houses2.length houses2_c] 24 (0, 0)), (b3, .cells #[.int .i64 hour] 3 (0, 0)), (b2, .cells #[.int .i64 notice] 3 (0, 0))]) rfl ?_
   replace h_hears := h_hears.mono (slE_ok (slE_ok (iE_ok _))) hF55
   replace h_readings := h_readings.mono (iE_ok _) hF55
   replace h_cries := h_cries.mono (prE_ok (iE_ok _) (prE_ok (iE_ok _) (iE_ok _))) hF55
   replace h_houses2 := h_houses2.mono (iE_ok _) hF55
   refine shW_freeze 4 rfl hb2 ?_; intro F57 hF58 hz59
   refine shW_L (L' := [(b46, .cells #[.bool false] 4 (0, 0)), (b45, .cells #[.slice none 0 0] 24 (0, 0)), (b4, .cells #[.slice houses2_a houses2.length houses2_c] 24 (0, 0)), (b3, .cells #[.int .i64 hour] 3 (0, 0))]) rfl ?_
   replace h_hears := h_hears.mono (slE_ok (slE_ok (iE_ok _))) hF58
   replace h_readings := h_readings.mono (iE_ok _) hF58
   replace h_cries := h_cries.mono (prE_ok (iE_ok _) (prE_ok (iE_ok _) (iE_ok _))) hF58
   replace h_houses2 := h_houses2.mono (iE_ok _) hF58
   replace hz56 := hF58 _ _ hz56
   refine shW_freeze 3 rfl hb3 ?_; intro F60 hF61 hz62
   refine shW_L (L' := [(b46, .cells #[.bool false] 4 (0, 0)), (b45, .cells #[.slice none 0 0] 24 (0, 0)), (b4, .cells #[.slice houses2_a houses2.length houses2_c] 24 (0, 0))]) rfl ?_
   replace h_hears := h_hears.mono (slE_ok (slE_ok (iE_ok _))) hF61
   replace h_readings := h_readings.mono (iE_ok _) hF61
   replace h_cries := h_cries.mono (prE_ok (iE_ok _) (prE_ok (iE_ok _) (iE_ok _))) hF61
   replace h_houses2 := h_houses2.mono (iE_ok _) hF61
   replace hz56 := hF61 _ _ hz56
   replace hz59 := hF61 _ _ hz59
   refine shW_freeze 2 rfl hb4 ?_; intro F63 hF64 hz65
   refine shW_L (L' := [(b46, .cells #[.bool false] 4 (0, 0)), (b45, .cells #[.slice none 0 0] 24 (0, 0))]) rfl ?_
   replace h_hears := h_hears.mono (slE_ok (slE_ok (iE_ok _))) hF64
   replace h_readings := h_readings.mono (iE_ok _) hF64
   replace h_cries := h_cries.mono (prE_ok (iE_ok _) (prE_ok (iE_ok _) (iE_ok _))) hF64
   replace h_houses2 := h_houses2.mono (iE_ok _) hF64
   replace hz56 := hF64 _ _ hz56
   replace hz59 := hF64 _ _ hz59
   replace hz62 := hF64 _ _ hz62
   obtain ⟨g69, r70⟩ := gd_ok r53; clear r53
   refine shW_lpF (fun fu1 e1 F1 L1 => ∃ (k2 : Int), Ctr 0 ((hears.length : Int) + 1) k2 fu1 ∧ ∃ (out2 : List Int) (found2 : Bool) (a66 : Option Addr) (c67 : Nat), book_Again_l1 houses notices hears readings cries notice hour houses2 fu1 k2 out2 found2 = some (out, found) ∧ FExt F63 F1 ∧ L1 = [(b46, .cells #[.bool found2] 4 (0, 0)), (b45, .cells #[.slice a66 out2.length c67] 24 (0, 0))] ∧ e1.sub [(4, .pointer (some ⟨b1, 0, none⟩)), (5, .pointer (some ⟨b2, 0, none⟩)), (6, .pointer (some ⟨b3, 0, none⟩)), (7, .pointer (some ⟨b4, 0, none⟩)), (15, .pointer (some ⟨b45, 0, none⟩)), (16, .pointer (some ⟨b46, 0, none⟩)), (52, .int .i64 ((hears.length : Int) + 1)), (53, .int .i64 k2)] ∧ RowR 1 (iE .i64) F1 a66 c67 out2) _ (m0 kr ⟨_, Ctr.start _ _, [], false, none, 0, r70, FExt.refl _, rfl, (sc rfl (sc rfl (sc rfl (sc rfl (sc rfl (sc rfl (sc rfl (sc rfl (sn _))))))))), RowR.nil _ _ _⟩) ?_
   rintro fu1 e1 F75 _ ⟨k2, hk71, out2, found2, a66, c67, r73, hF76, rfl, he74, h68⟩
   refine shW_env _ he74 ?_; clear he74
   replace h_hears := h_hears.mono (slE_ok (slE_ok (iE_ok _))) hF76
   replace h_readings := h_readings.mono (iE_ok _) hF76
   replace h_cries := h_cries.mono (prE_ok (iE_ok _) (prE_ok (iE_ok _) (iE_ok _))) hF76
   replace h_houses2 := h_houses2.mono (iE_ok _) hF76
   replace hz56 := hF76 _ _ hz56
   replace hz59 := hF76 _ _ hz59
   replace hz62 := hF76 _ _ hz62
   replace hz65 := hF76 _ _ hz65
   refine wsr ?_
   refine ov (v_lssK rfl rfl) rfl ?_
   refine shO_nil (shW_seq ?_)
   refine shW_condP rfl (fun c78 => ?_) (fun c78 => ?_)
   · obtain ⟨fu1, rfl, hk79⟩ := Ctr.succ hk71 c78
     rw [book_Again_l1] at r73
     refine shW_skip (shW_seq ?_)
     refine shW_block ?_
     refine wsr (om rfl rfl (oa rfl rfl (nsr ?_)))
     refine o_alloc rfl Tryz.zeroValue169 ?_; intro b80 hb80
     refine nsr ?_
     refine ov (v_makeFunc rfl rfl) rfl ?_
     refine o_store (i := 0) Tryz.sizeOf169 rfl rfl rfl rfl (Nat.le_of_ble_eq_true rfl) ?_
     refine shO_L (L' := [(b80, .cells (#[.func (.func 107) #[] #[.pointer (some ⟨b1, 0, none⟩), .pointer (some ⟨b3, 0, none⟩), .pointer (some ⟨b2, 0, none⟩), .pointer (some ⟨b4, 0, none⟩), .pointer (some ⟨b45, 0, none⟩), .pointer (some ⟨b46, 0, none⟩), .pointer (some ⟨b80, 0, none⟩)]]) 169 (0, 0)), (b46, .cells #[.bool found2] 4 (0, 0)), (b45, .cells #[.slice a66 out2.length c67] 24 (0, 0))]) rfl ?_
     refine nsr ?_
     refine ov (v_load Tryz.isAgg169 rfl (Has.own 0 rfl) rfl) rfl ?_
     refine om rfl rfl ?_
     refine shO_freeze 0 rfl hb80 ?_; intro F81 hF82 hz83
     refine shO_L (L' := [(b46, .cells #[.bool found2] 4 (0, 0)), (b45, .cells #[.slice a66 out2.length c67] 24 (0, 0))]) rfl ?_
     replace h_hears := h_hears.mono (slE_ok (slE_ok (iE_ok _))) hF82
     replace h_readings := h_readings.mono (iE_ok _) hF82
     replace h_cries := h_cries.mono (prE_ok (iE_ok _) (prE_ok (iE_ok _) (iE_ok _))) hF82
     replace h_houses2 := h_houses2.mono (iE_ok _) hF82
     replace h68 := h68.mono (iE_ok _) hF82
     replace hz56 := hF82 _ _ hz56
     replace hz59 := hF82 _ _ hz59
     replace hz62 := hF82 _ _ hz62
     replace hz65 := hF82 _ _ hz65
     obtain ⟨ok3, out3, found3, h84, r85⟩ := b3_ok r73; clear r73
     refine o_callG (Lb := [(b45, .cells #[.slice a66 out2.length c67] 24 (0, 0)), (b46, .cells #[.bool found2] 4 (0, 0))]) (Lr := []) rfl Tryz.call107 rfl rfl rfl (((fC fO).trans (pC pR))) ((book_Again_1_w FU) (RowR.nil _ _ _) hz56 h_hears h_readings h_cries hz62 hz59 hz65 h_houses2 h68 hz83 h84) ?_; rintro _ F86 _ hF87 hd89 hn88 ⟨a90, c91, rfl, rfl, h92⟩
     refine shO_L (lb (lb (ln rfl))) ?_
     refine shO_nil ?_
     refine shW_cond rfl (fun c93 => ?_) (fun c93 => ?_)
     · have r94 := bt r85 c93; clear r85
       refine shW_exit ?_
       refine inBlock_other rfl ?_
       refine andThen_exit (andThen_exit ?_)
       refine inBlock_exit ?_
       obtain ⟨rfl, rfl⟩ := inj2 r94
       exact mi kr ⟨a90, c91, ((((((hF55.trans hF58).trans hF61).trans hF64).trans hF76).trans hF82).trans hF87), rfl, (sc rfl (sc rfl (sn _))), h92⟩
     have r95 := bf r85 c93; clear r85
     refine shW_skip (inBlock_n (id := 1) (shW_region ?_))
     refine ov (v_add rfl rfl (Ctr.r64 hk71 c78 g69)) rfl ?_
     refine om rfl rfl (shO_nil ?_)
     refine lf ?_
     exact mf (kf (fC fO) kr) ⟨_, hk79, out3, found3, a90, c91, r95, ((hF76.trans hF82).trans hF87), rfl, (sc rfl (sc rfl (sc rfl (sc rfl (sc rfl (sc rfl (sc rfl (sc rfl (sn _))))))))), h92⟩
   obtain rfl := Ctr.zero hk71 c78
   rw [book_Again_l1] at r73
   refine shW_exit (andThen_exit (andThen_exit ?_))
   refine inBlock_exit ?_
   obtain ⟨rfl, rfl⟩ := inj2 r73
   exact mi (kf (fC fO) kr) ⟨a66, c67, ((((hF55.trans hF58).trans hF61).trans hF64).trans hF76), rfl, (sc rfl (sc rfl (sn _))), h68⟩
 rintro e1 F97 _ ⟨a47, c48, hF98, rfl, he96, h49⟩
 refine shW_env _ he96 ?_; clear he96
 refine shW_seq (wsr ?_)
 refine ov (v_load Tryz.isAgg4 rfl (Has.own 1 rfl) rfl) rfl ?_
 refine ov (v_notB rfl) rfl ?_
 refine shO_nil ?_
 refine shW_cond rfl (fun c99 => ?_) (fun c99 => ?_)
 · have r100 := bt r51 c99; clear r51
   refine wsr (oa rfl rfl (oa rfl rfl (shO_nil ?_)))
   refine kW kn ?_
   refine shW_ret (andThen_ret (noGoto_ret ?_))
   refine q_res2 Tryz.results71 (res_tmp rfl) (res_tmp rfl) (sr) ?_
   obtain ⟨rfl, rfl⟩ := inj2 r100
   exact ⟨_, _, rfl, rfl, RowR.nil _ _ _⟩
 have r101 := bf r51 c99; clear r51
 refine shW_skip (wsr ?_)
 refine ov (v_load Tryz.isAgg24 rfl (Has.own 0 rfl) rfl) rfl ?_
 refine oa rfl rfl (oa rfl rfl (shO_nil ?_))
 refine kW kn ?_
 refine shW_ret (noGoto_ret ?_)
 refine q_res2 Tryz.results71 (res_tmp rfl) (res_tmp rfl) (sr) ?_
 obtain ⟨rfl, rfl⟩ := inj2 r101
 exact ⟨_, _, rfl, rfl, h49⟩
set_option maxHeartbeats 1000000 in
theorem oyezlaw07_awake_w {F : FS} {r : Bool} (hr : oyezlaw07_awake = some r) :
    SpecV Tryz.prog 24 #[] F (.bool r) := by
 refine spec_of_shW (args := []) Tryz.func24 rfl Tryz.ntmps24 (Nat.le_of_ble_eq_true rfl) ?_
 intro K _ _; rw [oyezlaw07_awake] at hr
 refine wsr (oa rfl rfl (nsr ?_))
 obtain ⟨n, n2, l, l2, l3, h1, r2⟩ := b5_ok hr; clear hr
 refine o_call0 rfl Tryz.call65 rfl rfl rfl (oyezlaw07_Bell_w h1) ?_; rintro _ F3 _ hF4 hn5 ⟨a7, n11, c8, Lb9, a13, n17, c14, Lb15, a19, n23, c20, Lb21, rfl, rfl, hz10, hz16, hz22⟩
 replace hz10 := hz10.new fun p hp => hn5 p (by simp [hp])
 replace hz16 := hz16.new fun p hp => hn5 p (by simp [hp])
 replace hz22 := hz22.new fun p hp => hn5 p (by simp [hp])
 refine shO_L (lp (lp (lp (ln rfl)))) ?_
 obtain ⟨n3, n4, h25, r26⟩ := b2_ok r2; clear r2
 refine o_callT (Lt := Lb9 ++ (Lb15 ++ (Lb21 ++ []))) (Lr := []) rfl Tryz.call64 rfl rfl rfl (pT pR (lp (lp (lp (ln rfl))))) (fun F2 h2 h3 => by rw [(SlR.caps hz10).1]; rw [(SlR.caps hz16).1]; rw [(SlR.caps hz22).1]; exact book_Count_w (hz10.row (slE_ok (slE_ok (iE_ok _))) h2 (fun p hp => h3 p (List.mem_append_left _ hp))) (hz16.row (iE_ok _) h2 (fun p hp => h3 p (List.mem_append_right _ (List.mem_append_left _ hp)))) (hz22.row (prE_ok (iE_ok _) (prE_ok (iE_ok _) (iE_ok _))) h2 (fun p hp => h3 p (List.mem_append_right _ (List.mem_append_right _ (List.mem_append_left _ hp))))) h25) ?_
 refine om rfl rfl (ox rfl rfl rfl (ox rfl rfl rfl (oa rfl rfl (oa rfl rfl (nsr ?_)))))
 obtain ⟨n5, n6, l4, l5, l6, h27, r28⟩ := b5_ok r26; clear r26
 refine o_call0 rfl Tryz.call65 rfl rfl rfl (oyezlaw07_Bell_w h27) ?_; rintro _ F29 _ hF30 hn31 ⟨a33, n37, c34, Lb35, a39, n43, c40, Lb41, a45, n49, c46, Lb47, rfl, rfl, hz36, hz42, hz48⟩
 replace hz36 := hz36.new fun p hp => hn31 p (by simp [hp])
 replace hz42 := hz42.new fun p hp => hn31 p (by simp [hp])
 replace hz48 := hz48.new fun p hp => hn31 p (by simp [hp])
 refine shO_L (lp (lp (lp (ln rfl)))) ?_
 obtain ⟨l7, n7, h51, r52⟩ := b2_ok r28; clear r28
 refine o_callTO (Lb := []) (Lt := Lb35 ++ (Lb41 ++ (Lb47 ++ []))) (Lr := Lb9 ++ (Lb15 ++ (Lb21 ++ []))) rfl Tryz.call66 rfl rfl rfl (pT pR (ln (lp (lp (lp (ln rfl)))))) (fun F2 h2 h3 => by rw [(SlR.caps hz36).1]; rw [(SlR.caps hz42).1]; rw [(SlR.caps hz48).1]; exact book_First_w (hz36.row (slE_ok (slE_ok (iE_ok _))) h2 (fun p hp => h3 p (List.mem_append_left _ hp))) (hz42.row (iE_ok _) h2 (fun p hp => h3 p (List.mem_append_right _ (List.mem_append_left _ hp)))) (hz48.row (prE_ok (iE_ok _) (prE_ok (iE_ok _) (iE_ok _))) h2 (fun p hp => h3 p (List.mem_append_right _ (List.mem_append_right _ (List.mem_append_left _ hp))))) h51) (fun _ _ _ _ hq => by obtain ⟨a57, n61, c58, Lb59, rfl, rfl, hz60⟩ := hq; exact ⟨_, _, _, _, rfl, rfl, hz60.flat (fun _ _ h => h)⟩) ?_; rintro _ F53 _ hF54 hd56 hn55 ⟨a57, n61, c58, Lb59, rfl, rfl, hz60⟩
 have hn63 := newp (Lb' := []) (by rfl) hd56 hn55
 replace hz60 := hz60.new fun p hp => hn63 p (by simp [hp])
 refine shO_L (lp (ln (lp (lp (lp (ln rfl)))))) ?_
 refine om rfl rfl (ox rfl rfl rfl (ox rfl rfl rfl (oa rfl rfl (oa rfl rfl (nsr ?_)))))
 obtain ⟨n8, n9, l8, l9, l10, h64, r65⟩ := b5_ok r52; clear r52
 refine o_call0 rfl Tryz.call65 rfl rfl rfl (oyezlaw07_Bell_w h64) ?_; rintro _ F66 _ hF67 hn68 ⟨a70, n74, c71, Lb72, a76, n80, c77, Lb78, a82, n86, c83, Lb84, rfl, rfl, hz73, hz79, hz85⟩
 replace hz60 := hz60.mono (iE_ok _) hF67
 replace hz73 := hz73.new fun p hp => hn68 p (by simp [hp])
 replace hz79 := hz79.new fun p hp => hn68 p (by simp [hp])
 replace hz85 := hz85.new fun p hp => hn68 p (by simp [hp])
 refine shO_L (lp (lp (lp (ln rfl)))) ?_
 obtain rfl := (SlR.caps hz73).1
 refine shO_freezeR (Nat.le_refl _) (slE_ok (slE_ok (iE_ok _))) fP hz73 ?_; intro F88 hF89 h90
 replace hz60 := hz60.mono (iE_ok _) hF89
 replace hz79 := hz79.mono (iE_ok _) hF89
 replace hz85 := hz85.mono (prE_ok (iE_ok _) (prE_ok (iE_ok _) (iE_ok _))) hF89
 obtain rfl := (SlR.caps hz79).1
 refine shO_freezeR (Nat.le_refl _) (iE_ok _) fP hz79 ?_; intro F91 hF92 h93
 replace h90 := h90.mono (slE_ok (slE_ok (iE_ok _))) hF92
 replace hz60 := hz60.mono (iE_ok _) hF92
 replace hz85 := hz85.mono (prE_ok (iE_ok _) (prE_ok (iE_ok _) (iE_ok _))) hF92
 obtain rfl := (SlR.caps hz85).1
 refine shO_freezeR (Nat.le_refl _) (prE_ok (iE_ok _) (prE_ok (iE_ok _) (iE_ok _))) fP hz85 ?_; intro F94 hF95 h96
 replace h90 := h90.mono (slE_ok (slE_ok (iE_ok _))) hF95
 replace h93 := h93.mono (iE_ok _) hF95
 replace hz60 := hz60.mono (iE_ok _) hF95
 obtain ⟨l11, n10, h97, r98⟩ := b2_ok r65; clear r65
 refine o_call0 rfl Tryz.call29 rfl rfl rfl (book_Verdicts_w h90 h93 h96 h97) ?_; rintro _ F99 _ hF100 hn101 ⟨a103, c104, rfl, rfl, h105⟩
 replace hz60 := hz60.mono (iE_ok _) hF100
 refine shO_L (ln rfl) ?_
 refine om rfl rfl (ox rfl rfl rfl (ox rfl rfl rfl (oa rfl rfl (oa rfl rfl (nsr ?_)))))
 obtain ⟨n11, n12, l12, l13, l14, h106, r107⟩ := b5_ok r98; clear r98
 refine o_call0 rfl Tryz.call65 rfl rfl rfl (oyezlaw07_Bell_w h106) ?_; rintro _ F108 _ hF109 hn110 ⟨a112, n116, c113, Lb114, a118, n122, c119, Lb120, a124, n128, c125, Lb126, rfl, rfl, hz115, hz121, hz127⟩
 replace h105 := h105.mono (slE_ok (iE_ok _)) hF109
 replace hz60 := hz60.mono (iE_ok _) hF109
 replace hz115 := hz115.new fun p hp => hn110 p (by simp [hp])
 replace hz121 := hz121.new fun p hp => hn110 p (by simp [hp])
 replace hz127 := hz127.new fun p hp => hn110 p (by simp [hp])
 refine shO_L (lp (lp (lp (ln rfl)))) ?_
 obtain rfl := (SlR.caps hz115).1
 refine shO_freezeR (Nat.le_refl _) (slE_ok (slE_ok (iE_ok _))) fP hz115 ?_; intro F130 hF131 h132
 replace h105 := h105.mono (slE_ok (iE_ok _)) hF131
 replace hz60 := hz60.mono (iE_ok _) hF131
 replace hz121 := hz121.mono (iE_ok _) hF131
 replace hz127 := hz127.mono (prE_ok (iE_ok _) (prE_ok (iE_ok _) (iE_ok _))) hF131
 obtain rfl := (SlR.caps hz121).1
 refine shO_freezeR (Nat.le_refl _) (iE_ok _) fP hz121 ?_; intro F133 hF134 h135
 replace h105 := h105.mono (slE_ok (iE_ok _)) hF134
 replace h132 := h132.mono (slE_ok (slE_ok (iE_ok _))) hF134
 replace hz60 := hz60.mono (iE_ok _) hF134
 replace hz127 := hz127.mono (prE_ok (iE_ok _) (prE_ok (iE_ok _) (iE_ok _))) hF134
 obtain rfl := (SlR.caps hz127).1
 refine shO_freezeR (Nat.le_refl _) (prE_ok (iE_ok _) (prE_ok (iE_ok _) (iE_ok _))) fP hz127 ?_; intro F136 hF137 h138
 replace h105 := h105.mono (slE_ok (iE_ok _)) hF137
 replace h132 := h132.mono (slE_ok (slE_ok (iE_ok _))) hF137
 replace h135 := h135.mono (iE_ok _) hF137
 replace hz60 := hz60.mono (iE_ok _) hF137
 obtain ⟨l15, n13, h139, r140⟩ := b2_ok r107; clear r107
 refine o_call0 rfl Tryz.call67 rfl rfl rfl (book_Winds_w h132 h135 h138 h139) ?_; rintro _ F141 _ hF142 hn143 ⟨a145, n149, c146, Lb147, rfl, rfl, hz148⟩
 replace h105 := h105.mono (slE_ok (iE_ok _)) hF142
 replace hz60 := hz60.mono (iE_ok _) hF142
 replace hz148 := hz148.new fun p hp => hn143 p (by simp [hp])
 refine shO_L (lp (ln rfl)) ?_
 refine om rfl rfl (ox rfl rfl rfl (ox rfl rfl rfl (oa rfl rfl (oa rfl rfl (shO_nil (shW_seq ?_))))))
 obtain ⟨k, h151, r152⟩ := b1_ok r140; clear r140
 refine shW_join (fun e1 F1 L1 => FExt F141 F1 ∧ L1 = [] ∧ e1.sub [(73, .bool k)]) ?_ ?_
 · clear r152
   refine shW_region (om rfl rfl ?_)
   refine ov (v_neq rfl rfl) rfl ?_
   refine om rfl rfl ?_
   by_cases c153 : n4 ≠ 0
   · have r154 := ite_t h151 c153; clear h151
     refine shO_off (b' := true) 35 rfl (Env.isT rfl c153) rfl rfl (shO_off (b' := true) 35 rfl (Env.isT rfl c153) rfl rfl ?_)
     refine ov (v_pick_t (evD_true rfl c153) rfl) rfl ?_
     refine om rfl rfl (shO_off (b' := true) 39 rfl rfl rfl rfl (shO_off (b' := true) 39 rfl rfl rfl rfl ?_))
     refine ov (v_pick_t rfl rfl) rfl ?_
     refine om rfl rfl (shO_off (b' := true) 43 rfl rfl rfl rfl (shO_off (b' := true) 43 rfl rfl rfl rfl ?_))
     refine ov (v_pick_t rfl rfl) rfl ?_
     refine om rfl rfl (shO_off (b' := true) 47 rfl rfl rfl rfl (shO_off (b' := true) 47 rfl rfl rfl rfl ?_))
     refine ov (v_pick_t rfl rfl) rfl ?_
     refine om rfl rfl (shO_off (b' := true) 51 rfl rfl rfl rfl (shO_off (b' := true) 51 rfl rfl rfl rfl (shO_off (b' := true) 51 rfl rfl rfl rfl (shO_off (b' := true) 51 rfl rfl rfl rfl ?_))))
     refine ov (v_pick_t rfl rfl) rfl ?_
     refine om rfl rfl (shO_off (b' := true) 57 rfl rfl rfl rfl (shO_off (b' := true) 57 rfl rfl rfl rfl (shO_off (b' := true) 57 rfl rfl rfl rfl (shO_off (b' := true) 57 rfl rfl rfl rfl (shO_off (b' := true) 57 rfl rfl rfl rfl (shO_off (b' := true) 57 rfl rfl rfl rfl ?_))))))
     refine ov (v_pick_t rfl rfl) rfl ?_
     refine om rfl rfl (shO_off (b' := true) 65 rfl rfl rfl rfl (shO_off (b' := true) 65 rfl rfl rfl rfl (shO_off (b' := true) 65 rfl rfl rfl rfl (shO_off (b' := true) 65 rfl rfl rfl rfl (shO_off (b' := true) 65 rfl rfl rfl rfl (shO_off (b' := true) 65 rfl rfl rfl rfl (shO_off (b' := true) 65 rfl rfl rfl rfl ?_)))))))
     refine ov (v_pick_t rfl rfl) rfl ?_
     refine shO_nil ?_
     obtain rfl := inj1 r154
     exact mi kn ⟨FExt.refl _, rfl, (sc rfl (sn _))⟩
   have r155 := ite_f h151 c153; clear h151
   refine shO_on (b := false) 35 rfl (Env.isF rfl c153) (om rfl rfl (shO_on (b := false) 35 rfl (Env.isF rfl c153) ?_))
   refine ov (v_neq rfl rfl) rfl ?_
   refine ov (v_pick_f (evD_false rfl c153) rfl) rfl ?_
   refine om rfl rfl ?_
   by_cases c156 : n7 ≠ 0
   · have r157 := ite_t r155 c156; clear r155
     refine shO_off (b' := true) 39 rfl (Env.isT rfl c156) rfl rfl (shO_off (b' := true) 39 rfl (Env.isT rfl c156) rfl rfl ?_)
     refine ov (v_pick_t (evD_true rfl c156) rfl) rfl ?_
     refine om rfl rfl (shO_off (b' := true) 43 rfl rfl rfl rfl (shO_off (b' := true) 43 rfl rfl rfl rfl ?_))
     refine ov (v_pick_t rfl rfl) rfl ?_
     refine om rfl rfl (shO_off (b' := true) 47 rfl rfl rfl rfl (shO_off (b' := true) 47 rfl rfl rfl rfl ?_))
     refine ov (v_pick_t rfl rfl) rfl ?_
     refine om rfl rfl (shO_off (b' := true) 51 rfl rfl rfl rfl (shO_off (b' := true) 51 rfl rfl rfl rfl (shO_off (b' := true) 51 rfl rfl rfl rfl (shO_off (b' := true) 51 rfl rfl rfl rfl ?_))))
     refine ov (v_pick_t rfl rfl) rfl ?_
     refine om rfl rfl (shO_off (b' := true) 57 rfl rfl rfl rfl (shO_off (b' := true) 57 rfl rfl rfl rfl (shO_off (b' := true) 57 rfl rfl rfl rfl (shO_off (b' := true) 57 rfl rfl rfl rfl (shO_off (b' := true) 57 rfl rfl rfl rfl (shO_off (b' := true) 57 rfl rfl rfl rfl ?_))))))
     refine ov (v_pick_t rfl rfl) rfl ?_
     refine om rfl rfl (shO_off (b' := true) 65 rfl rfl rfl rfl (shO_off (b' := true) 65 rfl rfl rfl rfl (shO_off (b' := true) 65 rfl rfl rfl rfl (shO_off (b' := true) 65 rfl rfl rfl rfl (shO_off (b' := true) 65 rfl rfl rfl rfl (shO_off (b' := true) 65 rfl rfl rfl rfl (shO_off (b' := true) 65 rfl rfl rfl rfl ?_)))))))
     refine ov (v_pick_t rfl rfl) rfl ?_
     refine shO_nil ?_
     obtain rfl := inj1 r157
     exact mi kn ⟨FExt.refl _, rfl, (sc rfl (sn _))⟩
   have r158 := ite_f r155 c156; clear r155
   refine shO_on (b := false) 39 rfl (Env.isF rfl c156) (om rfl rfl (shO_on (b := false) 39 rfl (Env.isF rfl c156) ?_))
   refine ov (v_neq rfl rfl) rfl ?_
   refine ov (v_pick_f (evD_false rfl c156) rfl) rfl ?_
   refine om rfl rfl ?_
   by_cases c159 : n10 ≠ 0
   · have r160 := ite_t r158 c159; clear r158
     refine shO_off (b' := true) 43 rfl (Env.isT rfl c159) rfl rfl (shO_off (b' := true) 43 rfl (Env.isT rfl c159) rfl rfl ?_)
     refine ov (v_pick_t (evD_true rfl c159) rfl) rfl ?_
     refine om rfl rfl (shO_off (b' := true) 47 rfl rfl rfl rfl (shO_off (b' := true) 47 rfl rfl rfl rfl ?_))
     refine ov (v_pick_t rfl rfl) rfl ?_
     refine om rfl rfl (shO_off (b' := true) 51 rfl rfl rfl rfl (shO_off (b' := true) 51 rfl rfl rfl rfl (shO_off (b' := true) 51 rfl rfl rfl rfl (shO_off (b' := true) 51 rfl rfl rfl rfl ?_))))
     refine ov (v_pick_t rfl rfl) rfl ?_
     refine om rfl rfl (shO_off (b' := true) 57 rfl rfl rfl rfl (shO_off (b' := true) 57 rfl rfl rfl rfl (shO_off (b' := true) 57 rfl rfl rfl rfl (shO_off (b' := true) 57 rfl rfl rfl rfl (shO_off (b' := true) 57 rfl rfl rfl rfl (shO_off (b' := true) 57 rfl rfl rfl rfl ?_))))))
     refine ov (v_pick_t rfl rfl) rfl ?_
     refine om rfl rfl (shO_off (b' := true) 65 rfl rfl rfl rfl (shO_off (b' := true) 65 rfl rfl rfl rfl (shO_off (b' := true) 65 rfl rfl rfl rfl (shO_off (b' := true) 65 rfl rfl rfl rfl (shO_off (b' := true) 65 rfl rfl rfl rfl (shO_off (b' := true) 65 rfl rfl rfl rfl (shO_off (b' := true) 65 rfl rfl rfl rfl ?_)))))))
     refine ov (v_pick_t rfl rfl) rfl ?_
     refine shO_nil ?_
     obtain rfl := inj1 r160
     exact mi kn ⟨FExt.refl _, rfl, (sc rfl (sn _))⟩
   have r161 := ite_f r158 c159; clear r158
   refine shO_on (b := false) 43 rfl (Env.isF rfl c159) (om rfl rfl (shO_on (b := false) 43 rfl (Env.isF rfl c159) ?_))
   refine ov (v_neq rfl rfl) rfl ?_
   refine ov (v_pick_f (evD_false rfl c159) rfl) rfl ?_
   refine om rfl rfl ?_
   by_cases c162 : n13 ≠ 0
   · have r163 := ite_t r161 c162; clear r161
     refine shO_off (b' := true) 47 rfl (Env.isT rfl c162) rfl rfl (shO_off (b' := true) 47 rfl (Env.isT rfl c162) rfl rfl ?_)
     refine ov (v_pick_t (evD_true rfl c162) rfl) rfl ?_
     refine om rfl rfl (shO_off (b' := true) 51 rfl rfl rfl rfl (shO_off (b' := true) 51 rfl rfl rfl rfl (shO_off (b' := true) 51 rfl rfl rfl rfl (shO_off (b' := true) 51 rfl rfl rfl rfl ?_))))
     refine ov (v_pick_t rfl rfl) rfl ?_
     refine om rfl rfl (shO_off (b' := true) 57 rfl rfl rfl rfl (shO_off (b' := true) 57 rfl rfl rfl rfl (shO_off (b' := true) 57 rfl rfl rfl rfl (shO_off (b' := true) 57 rfl rfl rfl rfl (shO_off (b' := true) 57 rfl rfl rfl rfl (shO_off (b' := true) 57 rfl rfl rfl rfl ?_))))))
     refine ov (v_pick_t rfl rfl) rfl ?_
     refine om rfl rfl (shO_off (b' := true) 65 rfl rfl rfl rfl (shO_off (b' := true) 65 rfl rfl rfl rfl (shO_off (b' := true) 65 rfl rfl rfl rfl (shO_off (b' := true) 65 rfl rfl rfl rfl (shO_off (b' := true) 65 rfl rfl rfl rfl (shO_off (b' := true) 65 rfl rfl rfl rfl (shO_off (b' := true) 65 rfl rfl rfl rfl ?_)))))))
     refine ov (v_pick_t rfl rfl) rfl ?_
     refine shO_nil ?_
     obtain rfl := inj1 r163
     exact mi kn ⟨FExt.refl _, rfl, (sc rfl (sn _))⟩
   have r164 := ite_f r161 c162; clear r161
   refine shO_on (b := false) 47 rfl (Env.isF rfl c162) (om rfl rfl (shO_on (b := false) 47 rfl (Env.isF rfl c162) ?_))
   refine ov (v_neq rfl rfl) rfl ?_
   refine ov (v_pick_f (evD_false rfl c162) rfl) rfl ?_
   refine om rfl rfl ?_
   by_cases c165 : n3 ≠ 4
   · have r166 := ite_t r164 c165; clear r164
     refine shO_off (b' := true) 51 rfl (Env.isT rfl c165) rfl rfl (shO_off (b' := true) 51 rfl (Env.isT rfl c165) rfl rfl (shO_off (b' := true) 51 rfl (Env.isT rfl c165) rfl rfl (shO_off (b' := true) 51 rfl (Env.isT rfl c165) rfl rfl ?_)))
     refine ov (v_pick_t (evD_true rfl c165) rfl) rfl ?_
     refine om rfl rfl (shO_off (b' := true) 57 rfl rfl rfl rfl (shO_off (b' := true) 57 rfl rfl rfl rfl (shO_off (b' := true) 57 rfl rfl rfl rfl (shO_off (b' := true) 57 rfl rfl rfl rfl (shO_off (b' := true) 57 rfl rfl rfl rfl (shO_off (b' := true) 57 rfl rfl rfl rfl ?_))))))
     refine ov (v_pick_t rfl rfl) rfl ?_
     refine om rfl rfl (shO_off (b' := true) 65 rfl rfl rfl rfl (shO_off (b' := true) 65 rfl rfl rfl rfl (shO_off (b' := true) 65 rfl rfl rfl rfl (shO_off (b' := true) 65 rfl rfl rfl rfl (shO_off (b' := true) 65 rfl rfl rfl rfl (shO_off (b' := true) 65 rfl rfl rfl rfl (shO_off (b' := true) 65 rfl rfl rfl rfl ?_)))))))
     refine ov (v_pick_t rfl rfl) rfl ?_
     refine shO_nil ?_
     obtain rfl := inj1 r166
     exact mi kn ⟨FExt.refl _, rfl, (sc rfl (sn _))⟩
   have r167 := ite_f r164 c165; clear r164
   refine shO_on (b := false) 51 rfl (Env.isF rfl c165) (om rfl rfl (shO_on (b := false) 51 rfl (Env.isF rfl c165) ?_))
   refine o_buildSlice (cs := #[.int .i64 1, .int .i64 2, .int .i64 3]) rfl rfl (buildSlice_all slt_24 [.int .i64 1, .int .i64 2, .int .i64 3] rfl (by decide) (by simp [Value.cells]) (by decide)) ?_; intro b168 hb168
   refine shO_on (b := false) 51 rfl (Env.isF rfl c165) ?_
   refine shO_freeze 0 rfl hb168 ?_; intro F169 hF170 hz171
   refine shO_L (L' := Lb147 ++ (Lb59 ++ (Lb35 ++ (Lb41 ++ (Lb47 ++ (Lb9 ++ (Lb15 ++ (Lb21 ++ [])))))))) rfl ?_
   replace h105 := h105.mono (slE_ok (iE_ok _)) hF170
   replace hz60 := hz60.mono (iE_ok _) hF170
   replace hz148 := hz148.mono (slE_ok (iE_ok _)) hF170
   have h172 : RowR 1 (iE .i64) F169 (some ⟨b168, 0, none⟩) 3 [1, 2, 3] := RowR.of_block (iE_ok _) (vss := [[.int .i64 1], [.int .i64 2], [.int .i64 3]]) (xs := [1, 2, 3]) hz171 (.cons rfl (.cons rfl (.cons rfl .nil))) rfl (by simp [maxLen])
   obtain ⟨ok, h173, r174⟩ := b1_ok r167; clear r167
   refine o_callT (Lt := Lb59 ++ []) (Lr := Lb147 ++ (Lb35 ++ (Lb41 ++ (Lb47 ++ (Lb9 ++ (Lb15 ++ (Lb21 ++ []))))))) rfl Tryz.call68 rfl rfl rfl (pT ((fS fP).trans (pA pR)) (lp (ln rfl))) (fun F2 h2 h3 => by rw [(SlR.caps hz60).1]; exact oyezkit_Like_int_w (hz60.row (iE_ok _) h2 (fun p hp => h3 p (List.mem_append_left _ hp))) (h172.mono (iE_ok _) h2) h173) ?_
   refine shO_on (b := false) 51 rfl (Env.isF rfl c165) ?_
   refine ov (v_notB rfl) rfl ?_
   refine ov (v_pick_f (evD_false rfl c165) rfl) rfl ?_
   refine om rfl rfl ?_
   rcases bool_two (!ok) with c175 | c175
   · have r176 := bt r174 c175; clear r174
     refine shO_off (b' := true) 57 rfl (EnvB rfl c175) rfl rfl (shO_off (b' := true) 57 rfl (EnvB rfl c175) rfl rfl (shO_off (b' := true) 57 rfl (EnvB rfl c175) rfl rfl (shO_off (b' := true) 57 rfl (EnvB rfl c175) rfl rfl (shO_off (b' := true) 57 rfl (EnvB rfl c175) rfl rfl (shO_off (b' := true) 57 rfl (EnvB rfl c175) rfl rfl ?_)))))
     refine ov (v_pick_t (evB rfl c175) rfl) rfl ?_
     refine om rfl rfl (shO_off (b' := true) 65 rfl rfl rfl rfl (shO_off (b' := true) 65 rfl rfl rfl rfl (shO_off (b' := true) 65 rfl rfl rfl rfl (shO_off (b' := true) 65 rfl rfl rfl rfl (shO_off (b' := true) 65 rfl rfl rfl rfl (shO_off (b' := true) 65 rfl rfl rfl rfl (shO_off (b' := true) 65 rfl rfl rfl rfl ?_)))))))
     refine ov (v_pick_t rfl rfl) rfl ?_
     refine shO_nil ?_
     obtain rfl := inj1 r176
     exact mi kn ⟨hF170, rfl, (sc rfl (sn _))⟩
   have r177 := bf r174 c175; clear r174
   refine shO_on (b := false) 57 rfl (EnvB rfl c175) (om rfl rfl (shO_on (b := false) 57 rfl (EnvB rfl c175) ?_))
   refine o_buildSlice (cs := #[.int .i64 0]) rfl rfl (buildSlice_all slt_71 [.int .i64 0] rfl (by decide) (by simp [Value.cells]) (by decide)) ?_; intro b178 hb178
   refine shO_on (b := false) 57 rfl (EnvB rfl c175) ?_
   refine o_buildSlice (cs := #[.int .i64 1]) rfl rfl (buildSlice_all slt_71 [.int .i64 1] rfl (by decide) (by simp [Value.cells]) (by decide)) ?_; intro b179 hb179
   refine shO_on (b := false) 57 rfl (EnvB rfl c175) ?_
   refine o_buildSlice (cs := #[.slice (some ⟨b178, 0, none⟩) 1 1, .slice (some ⟨b179, 0, none⟩) 1 1]) rfl rfl (buildSlice_all slt_68 [.slice (some ⟨b178, 0, none⟩) 1 1, .slice (some ⟨b179, 0, none⟩) 1 1] rfl (by decide) (by simp [Value.cells]) (by decide)) ?_; intro b180 hb180
   refine shO_on (b := false) 57 rfl (EnvB rfl c175) ?_
   refine shO_freeze 2 rfl hb178 ?_; intro F181 hF182 hz183
   refine shO_L (L' := (b180, .cells #[.slice (some ⟨b178, 0, none⟩) 1 1, .slice (some ⟨b179, 0, none⟩) 1 1] 71 (0, 0)) :: ((b179, .cells #[.int .i64 1] 72 (0, 0)) :: (Lb147 ++ (Lb59 ++ (Lb35 ++ (Lb41 ++ (Lb47 ++ (Lb9 ++ (Lb15 ++ (Lb21 ++ [])))))))))) rfl ?_
   replace h105 := h105.mono (slE_ok (iE_ok _)) hF182
   replace hz148 := hz148.mono (slE_ok (iE_ok _)) hF182
   have h184 : RowR 1 (iE .i64) F181 (some ⟨b178, 0, none⟩) 1 [0] := RowR.of_block (iE_ok _) (vss := [[.int .i64 0]]) (xs := [0]) hz183 (.cons rfl .nil) rfl (by simp [maxLen])
   refine shO_freeze 1 rfl hb179 ?_; intro F185 hF186 hz187
   refine shO_L (L' := (b180, .cells (#[.slice (some ⟨b178, 0, none⟩) [0].length 1, .slice (some ⟨b179, 0, none⟩) 1 1]) 71 (0, 0)) :: (Lb147 ++ (Lb59 ++ (Lb35 ++ (Lb41 ++ (Lb47 ++ (Lb9 ++ (Lb15 ++ (Lb21 ++ []))))))))) rfl ?_
   replace h105 := h105.mono (slE_ok (iE_ok _)) hF186
   replace h184 := h184.mono (iE_ok _) hF186
   replace hz148 := hz148.mono (slE_ok (iE_ok _)) hF186
   have h188 : RowR 1 (iE .i64) F185 (some ⟨b179, 0, none⟩) 1 [1] := RowR.of_block (iE_ok _) (vss := [[.int .i64 1]]) (xs := [1]) hz187 (.cons rfl .nil) rfl (by simp [maxLen])
   refine shO_freeze 0 rfl hb180 ?_; intro F189 hF190 hz191
   refine shO_L (L' := Lb147 ++ (Lb59 ++ (Lb35 ++ (Lb41 ++ (Lb47 ++ (Lb9 ++ (Lb15 ++ (Lb21 ++ [])))))))) rfl ?_
   replace h105 := h105.mono (slE_ok (iE_ok _)) hF190
   replace h184 := h184.mono (iE_ok _) hF190
   replace h188 := h188.mono (iE_ok _) hF190
   replace hz148 := hz148.mono (slE_ok (iE_ok _)) hF190
   have h192 : RowR 1 (slE 1 (iE .i64)) F189 (some ⟨b180, 0, none⟩) 2 [[0], [1]] := RowR.of_block (slE_ok (iE_ok _)) (vss := [[.slice (some ⟨b178, 0, none⟩) [0].length 1], [.slice (some ⟨b179, 0, none⟩) [1].length 1]]) (xs := [[0], [1]]) hz191 (.cons ⟨_, _, rfl, h184⟩ (.cons ⟨_, _, rfl, h188⟩ .nil)) rfl (by simp [maxLen])
   obtain ⟨ok2, h193, r194⟩ := b1_ok r177; clear r177
   refine o_callV rfl Tryz.call69 rfl rfl rfl (oyezkit_LikeRows_Verdict_w h105 h192 h193) ?_
   refine shO_on (b := false) 57 rfl (EnvB rfl c175) ?_
   refine ov (v_notB rfl) rfl ?_
   refine ov (v_pick_f (evB rfl c175) rfl) rfl ?_
   refine om rfl rfl ?_
   rcases bool_two (!ok2) with c195 | c195
   · have r196 := bt r194 c195; clear r194
     refine shO_off (b' := true) 65 rfl (EnvB rfl c195) rfl rfl (shO_off (b' := true) 65 rfl (EnvB rfl c195) rfl rfl (shO_off (b' := true) 65 rfl (EnvB rfl c195) rfl rfl (shO_off (b' := true) 65 rfl (EnvB rfl c195) rfl rfl (shO_off (b' := true) 65 rfl (EnvB rfl c195) rfl rfl (shO_off (b' := true) 65 rfl (EnvB rfl c195) rfl rfl (shO_off (b' := true) 65 rfl (EnvB rfl c195) rfl rfl ?_))))))
     refine ov (v_pick_t (evB rfl c195) rfl) rfl ?_
     refine shO_nil ?_
     obtain rfl := inj1 r196
     exact mi kn ⟨(((hF170.trans hF182).trans hF186).trans hF190), rfl, (sc rfl (sn _))⟩
   have r197 := bf r194 c195; clear r194
   refine shO_on (b := false) 65 rfl (EnvB rfl c195) (om rfl rfl (shO_on (b := false) 65 rfl (EnvB rfl c195) ?_))
   refine o_buildSlice (cs := #[.int .i64 1, .int .i64 2]) rfl rfl (buildSlice_all slt_24 [.int .i64 1, .int .i64 2] rfl (by decide) (by simp [Value.cells]) (by decide)) ?_; intro b198 hb198
   refine shO_on (b := false) 65 rfl (EnvB rfl c195) ?_
   refine o_buildSlice (cs := #[.int .i64 2, .int .i64 3]) rfl rfl (buildSlice_all slt_24 [.int .i64 2, .int .i64 3] rfl (by decide) (by simp [Value.cells]) (by decide)) ?_; intro b199 hb199
   refine shO_on (b := false) 65 rfl (EnvB rfl c195) ?_
   refine o_buildSlice (cs := #[.int .i64 3, .int .i64 4]) rfl rfl (buildSlice_all slt_24 [.int .i64 3, .int .i64 4] rfl (by decide) (by simp [Value.cells]) (by decide)) ?_; intro b200 hb200
   refine shO_on (b := false) 65 rfl (EnvB rfl c195) ?_
   refine o_buildSlice (cs := #[.slice (some ⟨b198, 0, none⟩) 2 2, .slice (some ⟨b199, 0, none⟩) 2 2, .slice (some ⟨b200, 0, none⟩) 2 2]) rfl rfl (buildSlice_all slt_49 [.slice (some ⟨b198, 0, none⟩) 2 2, .slice (some ⟨b199, 0, none⟩) 2 2, .slice (some ⟨b200, 0, none⟩) 2 2] rfl (by decide) (by simp [Value.cells]) (by decide)) ?_; intro b201 hb201
   refine shO_on (b := false) 65 rfl (EnvB rfl c195) ?_
   refine shO_freeze 3 rfl hb198 ?_; intro F202 hF203 hz204
   refine shO_L (L' := (b201, .cells #[.slice (some ⟨b198, 0, none⟩) 2 2, .slice (some ⟨b199, 0, none⟩) 2 2, .slice (some ⟨b200, 0, none⟩) 2 2] 24 (0, 0)) :: ((b200, .cells #[.int .i64 3, .int .i64 4] 3 (0, 0)) :: ((b199, .cells #[.int .i64 2, .int .i64 3] 3 (0, 0)) :: (Lb147 ++ (Lb59 ++ (Lb35 ++ (Lb41 ++ (Lb47 ++ (Lb9 ++ (Lb15 ++ (Lb21 ++ []))))))))))) rfl ?_
   replace hz148 := hz148.mono (slE_ok (iE_ok _)) hF203
   have h205 : RowR 1 (iE .i64) F202 (some ⟨b198, 0, none⟩) 2 [1, 2] := RowR.of_block (iE_ok _) (vss := [[.int .i64 1], [.int .i64 2]]) (xs := [1, 2]) hz204 (.cons rfl (.cons rfl .nil)) rfl (by simp [maxLen])
   refine shO_freeze 2 rfl hb199 ?_; intro F206 hF207 hz208
   refine shO_L (L' := (b201, .cells (#[.slice (some ⟨b198, 0, none⟩) [1, 2].length 2, .slice (some ⟨b199, 0, none⟩) 2 2, .slice (some ⟨b200, 0, none⟩) 2 2]) 24 (0, 0)) :: ((b200, .cells #[.int .i64 3, .int .i64 4] 3 (0, 0)) :: (Lb147 ++ (Lb59 ++ (Lb35 ++ (Lb41 ++ (Lb47 ++ (Lb9 ++ (Lb15 ++ (Lb21 ++ [])))))))))) rfl ?_
   replace h205 := h205.mono (iE_ok _) hF207
   replace hz148 := hz148.mono (slE_ok (iE_ok _)) hF207
   have h209 : RowR 1 (iE .i64) F206 (some ⟨b199, 0, none⟩) 2 [2, 3] := RowR.of_block (iE_ok _) (vss := [[.int .i64 2], [.int .i64 3]]) (xs := [2, 3]) hz208 (.cons rfl (.cons rfl .nil)) rfl (by simp [maxLen])
   refine shO_freeze 1 rfl hb200 ?_; intro F210 hF211 hz212
   refine shO_L (L' := (b201, .cells (#[.slice (some ⟨b198, 0, none⟩) [1, 2].length 2, .slice (some ⟨b199, 0, none⟩) [2, 3].length 2, .slice (some ⟨b200, 0, none⟩) 2 2]) 24 (0, 0)) :: (Lb147 ++ (Lb59 ++ (Lb35 ++ (Lb41 ++ (Lb47 ++ (Lb9 ++ (Lb15 ++ (Lb21 ++ []))))))))) rfl ?_
   replace h205 := h205.mono (iE_ok _) hF211
   replace h209 := h209.mono (iE_ok _) hF211
   replace hz148 := hz148.mono (slE_ok (iE_ok _)) hF211
   have h213 : RowR 1 (iE .i64) F210 (some ⟨b200, 0, none⟩) 2 [3, 4] := RowR.of_block (iE_ok _) (vss := [[.int .i64 3], [.int .i64 4]]) (xs := [3, 4]) hz212 (.cons rfl (.cons rfl .nil)) rfl (by simp [maxLen])
   refine shO_freeze 0 rfl hb201 ?_; intro F214 hF215 hz216
   refine shO_L (L' := Lb147 ++ (Lb59 ++ (Lb35 ++ (Lb41 ++ (Lb47 ++ (Lb9 ++ (Lb15 ++ (Lb21 ++ [])))))))) rfl ?_
   replace h205 := h205.mono (iE_ok _) hF215
   replace h209 := h209.mono (iE_ok _) hF215
   replace h213 := h213.mono (iE_ok _) hF215
   replace hz148 := hz148.mono (slE_ok (iE_ok _)) hF215
   have h217 : RowR 1 (slE 1 (iE .i64)) F214 (some ⟨b201, 0, none⟩) 3 [[1, 2], [2, 3], [3, 4]] := RowR.of_block (slE_ok (iE_ok _)) (vss := [[.slice (some ⟨b198, 0, none⟩) [1, 2].length 2], [.slice (some ⟨b199, 0, none⟩) [2, 3].length 2], [.slice (some ⟨b200, 0, none⟩) [3, 4].length 2]]) (xs := [[1, 2], [2, 3], [3, 4]]) hz216 (.cons ⟨_, _, rfl, h205⟩ (.cons ⟨_, _, rfl, h209⟩ (.cons ⟨_, _, rfl, h213⟩ .nil))) rfl (by simp [maxLen])
   obtain ⟨ok3, h218, r219⟩ := b1_ok r197; clear r197
   refine o_callT (Lt := Lb147 ++ []) (Lr := Lb59 ++ (Lb35 ++ (Lb41 ++ (Lb47 ++ (Lb9 ++ (Lb15 ++ (Lb21 ++ []))))))) rfl Tryz.call70 rfl rfl rfl (pT pR (lp (ln rfl))) (fun F2 h2 h3 => by rw [(SlR.caps hz148).1]; exact oyezkit_LikeRows_int_w (hz148.row (slE_ok (iE_ok _)) h2 (fun p hp => h3 p (List.mem_append_left _ hp))) (h217.mono (slE_ok (iE_ok _)) h2) h218) ?_
   refine shO_on (b := false) 65 rfl (EnvB rfl c195) ?_
   refine ov (v_notB rfl) rfl ?_
   refine ov (v_pick_f (evB rfl c195) rfl) rfl ?_
   refine shO_nil ?_
   obtain rfl := inj1 r219
   exact mi kn ⟨(((((((hF170.trans hF182).trans hF186).trans hF190).trans hF203).trans hF207).trans hF211).trans hF215), rfl, (sc rfl (sn _))⟩
 rintro e1 F221 _ ⟨hF222, rfl, he220⟩
 refine shW_env _ he220 ?_; clear he220
 refine shW_cond rfl (fun c223 => ?_) (fun c223 => ?_)
 · have r224 := bt r152 c223; clear r152
   refine wsr (oa rfl rfl (shO_nil (shW_ret (andThen_ret ?_))))
   refine q_res1 Tryz.results24 (res_tmp rfl) (sr) ?_
   obtain rfl := inj1 r224
   exact rfl
 have r225 := bf r152 c223; clear r152
 refine shW_skip (wsr ?_)
 refine ov (v_build (v := .agg #[.int .i64 0, .int .i64 0, .bool true]) rfl (by intro w; kernel_rfl)) rfl ?_
 refine ov (v_build (v := .agg #[.int .i64 0, .int .i64 0, .bool false]) rfl (by intro w; kernel_rfl)) rfl ?_
 refine o_buildSlice (cs := #[.int .i64 0, .int .i64 0, .bool true, .int .i64 0, .int .i64 0, .bool false]) rfl rfl (buildSlice_all slt_32 [.agg #[.int .i64 0, .int .i64 0, .bool true], .agg #[.int .i64 0, .int .i64 0, .bool false]] rfl (by decide) (by simp [Value.cells]) (by decide)) ?_; intro b226 hb226
 have hz228 : SlR K.w0.heap.size 36 3 (prE (iE .i64) (prE (iE .i64) bE)) F221 (some ⟨b226, 0, none⟩) 2 2 [(0, 0, true), (0, 0, false)] [(b226, .cells #[.int .i64 0, .int .i64 0, .bool true, .int .i64 0, .int .i64 0, .bool false] 36 (0, 0))] := SlR.of_block (vss := [[.int .i64 0, .int .i64 0, .bool true], [.int .i64 0, .int .i64 0, .bool false]]) (prE_ok (iE_ok _) (prE_ok (iE_ok _) bE_ok)) hb226 (.cons ⟨_, _, rfl, rfl, ⟨_, _, rfl, rfl, rfl⟩⟩ (.cons ⟨_, _, rfl, rfl, ⟨_, _, rfl, rfl, rfl⟩⟩ .nil)) rfl rfl (by simp [maxLen])
 generalize hLLb227 : ([(b226, .cells #[.int .i64 0, .int .i64 0, .bool true, .int .i64 0, .int .i64 0, .bool false] 36 (0, 0))] : LH) = Lb227 at hz228
 refine shO_perm (L' := Lb227 ++ []) (by rw [← hLLb227]; exact fO) ?_
 refine oa rfl rfl (nsr ?_)
 obtain ⟨n14, n15, l16, l17, l18, h230, r231⟩ := b5_ok r225; clear r225
 refine o_call0 rfl Tryz.call65 rfl rfl rfl (oyezlaw07_Bell_w h230) ?_; rintro _ F232 _ hF233 hn234 ⟨a236, n240, c237, Lb238, a242, n246, c243, Lb244, a248, n252, c249, Lb250, rfl, rfl, hz239, hz245, hz251⟩
 replace hz228 := hz228.mono (prE_ok (iE_ok _) (prE_ok (iE_ok _) bE_ok)) hF233
 replace hz239 := hz239.new fun p hp => hn234 p (by simp [hp])
 replace hz245 := hz245.new fun p hp => hn234 p (by simp [hp])
 replace hz251 := hz251.new fun p hp => hn234 p (by simp [hp])
 refine shO_L (lp (lp (lp (ln rfl)))) ?_
 refine om rfl rfl ?_
 obtain ⟨l19, n16, h254, r255⟩ := b2_ok r231; clear r231
 refine o_callTO (Lb := []) (Lt := Lb238 ++ (Lb244 ++ (Lb250 ++ (Lb227 ++ [])))) (Lr := []) rfl Tryz.call10 rfl rfl rfl (pT pR (ln (lp (lp (lp (lp (ln rfl))))))) (fun F2 h2 h3 => by rw [(SlR.caps hz239).1]; rw [(SlR.caps hz245).1]; rw [(SlR.caps hz251).1]; rw [(SlR.caps hz228).1]; exact book_Fewest_w (hz239.row (slE_ok (slE_ok (iE_ok _))) h2 (fun p hp => h3 p (List.mem_append_left _ hp))) (hz245.row (iE_ok _) h2 (fun p hp => h3 p (List.mem_append_right _ (List.mem_append_left _ hp)))) (hz251.row (prE_ok (iE_ok _) (prE_ok (iE_ok _) (iE_ok _))) h2 (fun p hp => h3 p (List.mem_append_right _ (List.mem_append_right _ (List.mem_append_left _ hp))))) (hz228.row (prE_ok (iE_ok _) (prE_ok (iE_ok _) bE_ok)) h2 (fun p hp => h3 p (List.mem_append_right _ (List.mem_append_right _ (List.mem_append_right _ (List.mem_append_left _ hp)))))) h254) (fun _ _ _ _ hq => by obtain ⟨a260, n264, c261, Lb262, rfl, rfl, hz263⟩ := hq; exact ⟨_, _, _, _, rfl, rfl, hz263.flat (fun _ _ h => h)⟩) ?_; rintro _ F256 _ hF257 hd259 hn258 ⟨a260, n264, c261, Lb262, rfl, rfl, hz263⟩
 replace hz228 := hz228.mono (prE_ok (iE_ok _) (prE_ok (iE_ok _) bE_ok)) hF257
 have hn266 := newp (Lb' := []) (by rfl) hd259 hn258
 replace hz263 := hz263.new fun p hp => hn266 p (by simp [hp])
 refine shO_L (lp (ln (lp (lp (lp (lp (ln rfl))))))) ?_
 refine om rfl rfl (ox rfl rfl rfl (ox rfl rfl rfl (oa rfl rfl (oa rfl rfl (nsr ?_)))))
 obtain ⟨n17, n18, l20, l21, l22, h267, r268⟩ := b5_ok r255; clear r255
 refine o_call0 rfl Tryz.call65 rfl rfl rfl (oyezlaw07_Bell_w h267) ?_; rintro _ F269 _ hF270 hn271 ⟨a273, n277, c274, Lb275, a279, n283, c280, Lb281, a285, n289, c286, Lb287, rfl, rfl, hz276, hz282, hz288⟩
 replace hz228 := hz228.mono (prE_ok (iE_ok _) (prE_ok (iE_ok _) bE_ok)) hF270
 replace hz263 := hz263.mono (iE_ok _) hF270
 replace hz276 := hz276.new fun p hp => hn271 p (by simp [hp])
 replace hz282 := hz282.new fun p hp => hn271 p (by simp [hp])
 replace hz288 := hz288.new fun p hp => hn271 p (by simp [hp])
 refine shO_L (lp (lp (lp (ln rfl)))) ?_
 refine ov (v_build (v := .agg #[.int .i64 1, .int .i64 0, .bool false]) rfl (by intro w; kernel_rfl)) rfl ?_
 obtain ⟨ok4, n19, h291, r292⟩ := b2_ok r268; clear r268
 refine o_callT (Lt := Lb275 ++ (Lb281 ++ (Lb287 ++ []))) (Lr := Lb262 ++ (Lb238 ++ (Lb244 ++ (Lb250 ++ (Lb227 ++ []))))) rfl Tryz.call21 rfl rfl rfl (pT pR (lp (lp (lp (ln rfl))))) (fun F2 h2 h3 => by rw [(SlR.caps hz276).1]; rw [(SlR.caps hz282).1]; rw [(SlR.caps hz288).1]; exact book_Refuted_w (hz276.row (slE_ok (slE_ok (iE_ok _))) h2 (fun p hp => h3 p (List.mem_append_left _ hp))) (hz282.row (iE_ok _) h2 (fun p hp => h3 p (List.mem_append_right _ (List.mem_append_left _ hp)))) (hz288.row (prE_ok (iE_ok _) (prE_ok (iE_ok _) (iE_ok _))) h2 (fun p hp => h3 p (List.mem_append_right _ (List.mem_append_right _ (List.mem_append_left _ hp))))) h291) ?_
 refine om rfl rfl (ox rfl rfl rfl (ox rfl rfl rfl (oa rfl rfl (oa rfl rfl (shO_nil (shW_seq ?_))))))
 refine shW_drawM [(.still, 1), (.still, 2), (.still, 3), (.seq, 0), (.seq, 4), (.still, 5), (.still, 6), (.still, 7), (.still, 8), (.still, 9)] (by kernel_rfl) (by kernel_rfl) (trivial) (by rfl) (by kernel_rfl) ?_
 refine shM_v (v := .slice (some ⟨b226, 0, none⟩) 2 2) (ek := [(9, .slice (some ⟨b226, 0, none⟩) 2 2)]) (Ls := []) rfl rfl rfl rfl ((sc rfl (sn _))) (by kernel_rfl) sm (fun H F' L' hF' hL' => v_move rfl) ?_
 obtain ⟨x, g293, hx294, r295⟩ := ix_ok r292; clear r292
 obtain ⟨b296, o297, c298, vs299, ha300, hs301, hle302, ⟨_, _, rfl, rfl, ⟨_, _, rfl, rfl, rfl⟩⟩, hl303, hc304⟩ := SlR.at (prE_ok (iE_ok _) (prE_ok (iE_ok _) bE_ok)) hz228 (L := Lb227 ++ []) fP g293.1 hx294
 refine shM_v (v := .pointer (some ⟨b296, o297 + (0 : Int).toNat * 3, none⟩)) (ek := [(91, .slice (some ⟨b226, 0, none⟩) 2 2)]) (Ls := []) rfl rfl rfl rfl ((sc rfl (sn _))) (by kernel_rfl) sm (fun H F' L' hF' hL' => v_indexO Tryz.underlying32 Tryz.sizeOf36 rfl ha300 rfl (SlR.idx hz228 g293)) ?_
 refine shM_v (v := .agg #[.int .i64 x.1, .int .i64 x.2.1, .bool x.2.2]) (ek := [(92, .pointer (some ⟨b296, o297 + (0 : Int).toNat * 3, none⟩))]) (Ls := Lb227 ++ []) rfl rfl rfl rfl ((sc rfl (sn _))) (by kernel_rfl) (s0 (s3 (s3 (s3 (s3 (s3 (s3 (s3 (s4 sr))))))))) (fun H F' L' hF' hL' => v_loadA (cs := #[.int .i64 x.1, .int .i64 x.2.1, .bool x.2.2]) Tryz.isAgg36 Tryz.sizeOf36 rfl (hs301.ext hF' hL') hle302 (extract_cells hle302 hl303 hc304)) ?_
 refine ⟨_, [], rfl, rfl, (sn _), by kernel_rfl, ?_⟩; intro H
 obtain ⟨n20, n21, l23, l24, l25, h305, r306⟩ := b5_ok r295; clear r295
 refine o_call0 rfl Tryz.call65 rfl rfl rfl (oyezlaw07_Bell_w h305) ?_; rintro _ F307 _ hF308 hn309 ⟨a311, n315, c312, Lb313, a317, n321, c318, Lb319, a323, n327, c324, Lb325, rfl, rfl, hz314, hz320, hz326⟩
 replace hz263 := hz263.mono (iE_ok _) hF308
 replace hz314 := hz314.new fun p hp => hn309 p (by simp [hp])
 replace hz320 := hz320.new fun p hp => hn309 p (by simp [hp])
 replace hz326 := hz326.new fun p hp => hn309 p (by simp [hp])
 refine shO_L (lp (lp (lp (ln rfl)))) ?_
 refine shO_nil ⟨_, rfl, hF308, [3, 2, 1], by kernel_rfl, .inl (.inr (fun d h => by cases h; rfl)), (List.forall_mem_cons.2 ⟨s0 (s3 (s3 (s3 (s3 (s3 (s3 (s3 (s3 (s3 (s3 (s4 sr))))))))))), (List.forall_mem_cons.2 ⟨sm, (List.forall_mem_cons.2 ⟨sm, (fun _ h => absurd h List.not_mem_nil)⟩)⟩)⟩), ?_⟩
 refine ⟨_, [(90, .agg #[.int .i64 n20, .int .i64 n21, .slice a311 n315 c312, .slice a317 n321 c318, .slice a323 n327 c324]), (93, .agg #[.int .i64 x.1, .int .i64 x.2.1, .bool x.2.2])], rfl, rfl, (sc rfl (sc rfl (sn _))), by kernel_rfl, ?_⟩; intro H
 obtain rfl := (SlR.caps hz314).1
 refine shO_freezeR (Nat.le_refl _) (slE_ok (slE_ok (iE_ok _))) fP hz314 ?_; intro F329 hF330 h331
 replace hz263 := hz263.mono (iE_ok _) hF330
 replace hz320 := hz320.mono (iE_ok _) hF330
 replace hz326 := hz326.mono (prE_ok (iE_ok _) (prE_ok (iE_ok _) (iE_ok _))) hF330
 obtain rfl := (SlR.caps hz320).1
 refine shO_freezeR (Nat.le_refl _) (iE_ok _) fP hz320 ?_; intro F332 hF333 h334
 replace h331 := h331.mono (slE_ok (slE_ok (iE_ok _))) hF333
 replace hz263 := hz263.mono (iE_ok _) hF333
 replace hz326 := hz326.mono (prE_ok (iE_ok _) (prE_ok (iE_ok _) (iE_ok _))) hF333
 obtain rfl := (SlR.caps hz326).1
 refine shO_freezeR (Nat.le_refl _) (prE_ok (iE_ok _) (prE_ok (iE_ok _) (iE_ok _))) fP hz326 ?_; intro F335 hF336 h337
 replace h331 := h331.mono (slE_ok (slE_ok (iE_ok _))) hF336
 replace h334 := h334.mono (iE_ok _) hF336
 replace hz263 := hz263.mono (iE_ok _) hF336
 obtain ⟨l26, n22, h338, r339⟩ := b2_ok r306; clear r306
 refine o_call0 rfl Tryz.call62 rfl rfl rfl (book_Witness_w h331 h334 h337 h338) ?_; rintro _ F340 _ hF341 hn342 ⟨a344, c345, rfl, rfl, h346⟩
 replace hz263 := hz263.mono (iE_ok _) hF341
 refine shO_L (ln rfl) ?_
 refine shO_nil ⟨_, rfl, (((hF330.trans hF333).trans hF336).trans hF341), [], by kernel_rfl, .inl (.inl rfl), (fun _ h => absurd h List.not_mem_nil), ?_⟩
 refine shM_v (v := .tuple #[.slice a344 l26.length c345, .int .i64 n22]) (ek := [(94, .tuple #[.slice a344 l26.length c345, .int .i64 n22])]) (Ls := []) rfl rfl rfl rfl ((sc rfl (sn _))) (by kernel_rfl) sm (fun H F' L' hF' hL' => v_move rfl) ?_
 refine shM_v (v := .slice a344 l26.length c345) (ek := [(89, .tuple #[.slice a344 l26.length c345, .int .i64 n22])]) (Ls := []) rfl rfl rfl rfl ((sc rfl (sn _))) (by kernel_rfl) sm (fun H F' L' hF' hL' => v_extract rfl rfl) ?_
 refine shM_v (v := .int .i64 n22) (ek := [(89, .tuple #[.slice a344 l26.length c345, .int .i64 n22])]) (Ls := []) rfl rfl rfl rfl ((sc rfl (sn _))) (by kernel_rfl) sm (fun H F' L' hF' hL' => v_extract rfl rfl) ?_
 refine shM_v (v := .slice a344 l26.length c345) (ek := [(95, .slice a344 l26.length c345)]) (Ls := []) rfl rfl rfl rfl ((sc rfl (sn _))) (by kernel_rfl) sm (fun H F' L' hF' hL' => v_assign rfl) ?_
 refine shM_v (v := .int .i64 n22) (ek := [(96, .int .i64 n22)]) (Ls := []) rfl rfl rfl rfl ((sc rfl (sn _))) (by kernel_rfl) sm (fun H F' L' hF' hL' => v_assign rfl) ?_
 refine shM_nil ?_
 refine wsr ?_
 obtain ⟨n23, n24, l27, l28, l29, h347, r348⟩ := b5_ok r339; clear r339
 refine o_call0 rfl Tryz.call65 rfl rfl rfl (oyezlaw07_Bell_w h347) ?_; rintro _ F349 _ hF350 hn351 ⟨a353, n357, c354, Lb355, a359, n363, c360, Lb361, a365, n369, c366, Lb367, rfl, rfl, hz356, hz362, hz368⟩
 replace h346 := h346.mono (iE_ok _) hF350
 replace hz263 := hz263.mono (iE_ok _) hF350
 replace hz356 := hz356.new fun p hp => hn351 p (by simp [hp])
 replace hz362 := hz362.new fun p hp => hn351 p (by simp [hp])
 replace hz368 := hz368.new fun p hp => hn351 p (by simp [hp])
 refine shO_L (lp (lp (lp (ln rfl)))) ?_
 refine o_buildSlice (cs := #[.int .i64 0]) rfl rfl (buildSlice_all slt_24 [.int .i64 0] rfl (by decide) (by simp [Value.cells]) (by decide)) ?_; intro b371 hb371
 obtain rfl := (SlR.caps hz356).1
 refine shO_freezeR (Nat.le_refl _) (slE_ok (slE_ok (iE_ok _))) (fC fP) hz356 ?_; intro F372 hF373 h374
 replace h346 := h346.mono (iE_ok _) hF373
 replace hz263 := hz263.mono (iE_ok _) hF373
 replace hz362 := hz362.mono (iE_ok _) hF373
 replace hz368 := hz368.mono (prE_ok (iE_ok _) (prE_ok (iE_ok _) (iE_ok _))) hF373
 obtain rfl := (SlR.caps hz362).1
 refine shO_freezeR (Nat.le_refl _) (iE_ok _) (fC fP) hz362 ?_; intro F375 hF376 h377
 replace h346 := h346.mono (iE_ok _) hF376
 replace h374 := h374.mono (slE_ok (slE_ok (iE_ok _))) hF376
 replace hz263 := hz263.mono (iE_ok _) hF376
 replace hz368 := hz368.mono (prE_ok (iE_ok _) (prE_ok (iE_ok _) (iE_ok _))) hF376
 obtain rfl := (SlR.caps hz368).1
 refine shO_freezeR (Nat.le_refl _) (prE_ok (iE_ok _) (prE_ok (iE_ok _) (iE_ok _))) (fC fP) hz368 ?_; intro F378 hF379 h380
 replace h346 := h346.mono (iE_ok _) hF379
 replace h374 := h374.mono (slE_ok (slE_ok (iE_ok _))) hF379
 replace h377 := h377.mono (iE_ok _) hF379
 replace hz263 := hz263.mono (iE_ok _) hF379
 refine shO_freeze 0 rfl hb371 ?_; intro F381 hF382 hz383
 refine shO_L (L' := Lb275 ++ (Lb281 ++ (Lb287 ++ (Lb262 ++ (Lb238 ++ (Lb244 ++ (Lb250 ++ (Lb227 ++ [])))))))) rfl ?_
 replace h346 := h346.mono (iE_ok _) hF382
 replace h374 := h374.mono (slE_ok (slE_ok (iE_ok _))) hF382
 replace h377 := h377.mono (iE_ok _) hF382
 replace h380 := h380.mono (prE_ok (iE_ok _) (prE_ok (iE_ok _) (iE_ok _))) hF382
 replace hz263 := hz263.mono (iE_ok _) hF382
 have h384 : RowR 1 (iE .i64) F381 (some ⟨b371, 0, none⟩) 1 [0] := RowR.of_block (iE_ok _) (vss := [[.int .i64 0]]) (xs := [0]) hz383 (.cons rfl .nil) rfl (by simp [maxLen])
 obtain ⟨l30, n25, h385, r386⟩ := b2_ok r348; clear r348
 refine o_call0 rfl Tryz.call71 rfl rfl rfl (book_Again_w h374 h377 h380 h384 h385) ?_; rintro _ F387 _ hF388 hn389 ⟨a391, c392, rfl, rfl, h393⟩
 replace h346 := h346.mono (iE_ok _) hF388
 replace hz263 := hz263.mono (iE_ok _) hF388
 refine shO_L (ln rfl) ?_
 refine om rfl rfl (ox rfl rfl rfl (ox rfl rfl rfl (oa rfl rfl (nsr (om rfl rfl ?_)))))
 refine ov (v_eql rfl rfl) rfl ?_
 refine om rfl rfl ?_
 by_cases c394 : n16 = 0
 · have r395 := ite_t r386 c394; clear r386
   refine shO_on (b := true) 105 rfl (Env.isT rfl c394) (om rfl rfl (shO_on (b := true) 105 rfl (Env.isT rfl c394) ?_))
   refine ov (v_eql rfl rfl) rfl ?_
   refine ov (v_pick_t (evD_true rfl c394) rfl) rfl ?_
   refine om rfl rfl ?_
   by_cases c396 : n19 = 0
   · have r397 := ite_t r395 c396; clear r395
     refine shO_on (b := true) 109 rfl (Env.isT rfl c396) (om rfl rfl (shO_on (b := true) 109 rfl (Env.isT rfl c396) ?_))
     refine ov (v_eql rfl rfl) rfl ?_
     refine ov (v_pick_t (evD_true rfl c396) rfl) rfl ?_
     refine om rfl rfl ?_
     by_cases c398 : n22 = 0
     · have r399 := ite_t r397 c398; clear r397
       refine shO_on (b := true) 113 rfl (Env.isT rfl c398) (om rfl rfl (shO_on (b := true) 113 rfl (Env.isT rfl c398) ?_))
       refine ov (v_eql rfl rfl) rfl ?_
       refine ov (v_pick_t (evD_true rfl c398) rfl) rfl ?_
       refine om rfl rfl ?_
       by_cases c400 : n25 = 6
       · have r401 := ite_t r399 c400; clear r399
         refine shO_on (b := true) 117 rfl (Env.isT rfl c400) (om rfl rfl ?_)
         refine ov (v_pick_t (evD_true rfl c400) rfl) rfl ?_
         refine om rfl rfl ?_
         rcases bool_two ok4 with c402 | c402
         · have r403 := bt r401 c402; clear r401
           refine shO_on (b := true) 120 rfl (EnvB rfl c402) (om rfl rfl (shO_on (b := true) 120 rfl (EnvB rfl c402) ?_))
           refine o_buildSlice (cs := #[.int .i64 0]) rfl rfl (buildSlice_all slt_24 [.int .i64 0] rfl (by decide) (by simp [Value.cells]) (by decide)) ?_; intro b404 hb404
           refine shO_on (b := true) 120 rfl (EnvB rfl c402) ?_
           refine shO_freeze 0 rfl hb404 ?_; intro F405 hF406 hz407
           refine shO_L (L' := Lb275 ++ (Lb281 ++ (Lb287 ++ (Lb262 ++ (Lb238 ++ (Lb244 ++ (Lb250 ++ (Lb227 ++ [])))))))) rfl ?_
           replace h346 := h346.mono (iE_ok _) hF406
           replace hz263 := hz263.mono (iE_ok _) hF406
           have h408 : RowR 1 (iE .i64) F405 (some ⟨b404, 0, none⟩) 1 [0] := RowR.of_block (iE_ok _) (vss := [[.int .i64 0]]) (xs := [0]) hz407 (.cons rfl .nil) rfl (by simp [maxLen])
           obtain ⟨ok5, h409, r410⟩ := b1_ok r403; clear r403
           refine o_callT (Lt := Lb262 ++ []) (Lr := Lb275 ++ (Lb281 ++ (Lb287 ++ (Lb238 ++ (Lb244 ++ (Lb250 ++ (Lb227 ++ []))))))) rfl Tryz.call68 rfl rfl rfl (pT ((fS (fS (fS fP))).trans (pA pR)) (lp (ln rfl))) (fun F2 h2 h3 => by rw [(SlR.caps hz263).1]; exact oyezkit_Like_int_w (hz263.row (iE_ok _) h2 (fun p hp => h3 p (List.mem_append_left _ hp))) (h408.mono (iE_ok _) h2) h409) ?_
           refine ov (v_pick_t (evB rfl c402) rfl) rfl ?_
           refine om rfl rfl ?_
           rcases bool_two ok5 with c411 | c411
           · have r412 := bt r410 c411; clear r410
             refine shO_on (b := true) 125 rfl (EnvB rfl c411) (om rfl rfl (shO_on (b := true) 125 rfl (EnvB rfl c411) ?_))
             refine o_buildSlice (cs := #[.int .i64 1, .int .i64 2, .int .i64 3]) rfl rfl (buildSlice_all slt_24 [.int .i64 1, .int .i64 2, .int .i64 3] rfl (by decide) (by simp [Value.cells]) (by decide)) ?_; intro b413 hb413
             refine shO_on (b := true) 125 rfl (EnvB rfl c411) ?_
             refine shO_freeze 0 rfl hb413 ?_; intro F414 hF415 hz416
             refine shO_L (L' := Lb275 ++ (Lb281 ++ (Lb287 ++ (Lb262 ++ (Lb238 ++ (Lb244 ++ (Lb250 ++ (Lb227 ++ [])))))))) rfl ?_
             replace h346 := h346.mono (iE_ok _) hF415
             have h417 : RowR 1 (iE .i64) F414 (some ⟨b413, 0, none⟩) 3 [1, 2, 3] := RowR.of_block (iE_ok _) (vss := [[.int .i64 1], [.int .i64 2], [.int .i64 3]]) (xs := [1, 2, 3]) hz416 (.cons rfl (.cons rfl (.cons rfl .nil))) rfl (by simp [maxLen])
             obtain ⟨ok6, h418, r419⟩ := b1_ok r412; clear r412
             refine o_callV rfl Tryz.call68 rfl rfl rfl (oyezkit_Like_int_w h346 h417 h418) ?_
             refine ov (v_pick_t (evB rfl c411) rfl) rfl ?_
             refine oa rfl rfl (shO_nil ?_)
             refine kW kn ?_
             refine shW_ret ?_
             refine q_res1 Tryz.results24 (res_tmp rfl) (sr) ?_
             obtain rfl := inj1 r419
             exact rfl
           have r420 := bf r410 c411; clear r410
           refine shO_off (b' := false) 125 rfl (EnvB rfl c411) rfl rfl (shO_off (b' := false) 125 rfl (EnvB rfl c411) rfl rfl (shO_off (b' := false) 125 rfl (EnvB rfl c411) rfl rfl ?_))
           refine ov (v_pick_f (evB rfl c411) rfl) rfl ?_
           refine oa rfl rfl (shO_nil ?_)
           refine kW kn ?_
           refine shW_ret ?_
           refine q_res1 Tryz.results24 (res_tmp rfl) (sr) ?_
           obtain rfl := inj1 r420
           exact rfl
         have r421 := bf r401 c402; clear r401
         refine shO_off (b' := false) 120 rfl (EnvB rfl c402) rfl rfl (shO_off (b' := false) 120 rfl (EnvB rfl c402) rfl rfl (shO_off (b' := false) 120 rfl (EnvB rfl c402) rfl rfl ?_))
         refine ov (v_pick_f (evB rfl c402) rfl) rfl ?_
         refine om rfl rfl (shO_off (b' := false) 125 rfl rfl rfl rfl (shO_off (b' := false) 125 rfl rfl rfl rfl (shO_off (b' := false) 125 rfl rfl rfl rfl ?_)))
         refine ov (v_pick_f rfl rfl) rfl ?_
         refine oa rfl rfl (shO_nil ?_)
         refine kW kn ?_
         refine shW_ret ?_
         refine q_res1 Tryz.results24 (res_tmp rfl) (sr) ?_
         obtain rfl := inj1 r421
         exact rfl
       have r422 := ite_f r399 c400; clear r399
       refine shO_off (b' := false) 117 rfl (Env.isF rfl c400) rfl rfl ?_
       refine ov (v_pick_f (evD_false rfl c400) rfl) rfl ?_
       refine om rfl rfl (shO_off (b' := false) 120 rfl rfl rfl rfl (shO_off (b' := false) 120 rfl rfl rfl rfl (shO_off (b' := false) 120 rfl rfl rfl rfl ?_)))
       refine ov (v_pick_f rfl rfl) rfl ?_
       refine om rfl rfl (shO_off (b' := false) 125 rfl rfl rfl rfl (shO_off (b' := false) 125 rfl rfl rfl rfl (shO_off (b' := false) 125 rfl rfl rfl rfl ?_)))
       refine ov (v_pick_f rfl rfl) rfl ?_
       refine oa rfl rfl (shO_nil ?_)
       refine kW kn ?_
       refine shW_ret ?_
       refine q_res1 Tryz.results24 (res_tmp rfl) (sr) ?_
       obtain rfl := inj1 r422
       exact rfl
     have r423 := ite_f r397 c398; clear r397
     refine shO_off (b' := false) 113 rfl (Env.isF rfl c398) rfl rfl (shO_off (b' := false) 113 rfl (Env.isF rfl c398) rfl rfl ?_)
     refine ov (v_pick_f (evD_false rfl c398) rfl) rfl ?_
     refine om rfl rfl (shO_off (b' := false) 117 rfl rfl rfl rfl ?_)
     refine ov (v_pick_f rfl rfl) rfl ?_
     refine om rfl rfl (shO_off (b' := false) 120 rfl rfl rfl rfl (shO_off (b' := false) 120 rfl rfl rfl rfl (shO_off (b' := false) 120 rfl rfl rfl rfl ?_)))
     refine ov (v_pick_f rfl rfl) rfl ?_
     refine om rfl rfl (shO_off (b' := false) 125 rfl rfl rfl rfl (shO_off (b' := false) 125 rfl rfl rfl rfl (shO_off (b' := false) 125 rfl rfl rfl rfl ?_)))
     refine ov (v_pick_f rfl rfl) rfl ?_
     refine oa rfl rfl (shO_nil ?_)
     refine kW kn ?_
     refine shW_ret ?_
     refine q_res1 Tryz.results24 (res_tmp rfl) (sr) ?_
     obtain rfl := inj1 r423
     exact rfl
   have r424 := ite_f r395 c396; clear r395
   refine shO_off (b' := false) 109 rfl (Env.isF rfl c396) rfl rfl (shO_off (b' := false) 109 rfl (Env.isF rfl c396) rfl rfl ?_)
   refine ov (v_pick_f (evD_false rfl c396) rfl) rfl ?_
   refine om rfl rfl (shO_off (b' := false) 113 rfl rfl rfl rfl (shO_off (b' := false) 113 rfl rfl rfl rfl ?_))
   refine ov (v_pick_f rfl rfl) rfl ?_
   refine om rfl rfl (shO_off (b' := false) 117 rfl rfl rfl rfl ?_)
   refine ov (v_pick_f rfl rfl) rfl ?_
   refine om rfl rfl (shO_off (b' := false) 120 rfl rfl rfl rfl (shO_off (b' := false) 120 rfl rfl rfl rfl (shO_off (b' := false) 120 rfl rfl rfl rfl ?_)))
   refine ov (v_pick_f rfl rfl) rfl ?_
   refine om rfl rfl (shO_off (b' := false) 125 rfl rfl rfl rfl (shO_off (b' := false) 125 rfl rfl rfl rfl (shO_off (b' := false) 125 rfl rfl rfl rfl ?_)))
   refine ov (v_pick_f rfl rfl) rfl ?_
   refine oa rfl rfl (shO_nil ?_)
   refine kW kn ?_
   refine shW_ret ?_
   refine q_res1 Tryz.results24 (res_tmp rfl) (sr) ?_
   obtain rfl := inj1 r424
   exact rfl
 have r425 := ite_f r386 c394; clear r386
 refine shO_off (b' := false) 105 rfl (Env.isF rfl c394) rfl rfl (shO_off (b' := false) 105 rfl (Env.isF rfl c394) rfl rfl ?_)
 refine ov (v_pick_f (evD_false rfl c394) rfl) rfl ?_
 refine om rfl rfl (shO_off (b' := false) 109 rfl rfl rfl rfl (shO_off (b' := false) 109 rfl rfl rfl rfl ?_))
 refine ov (v_pick_f rfl rfl) rfl ?_
 refine om rfl rfl (shO_off (b' := false) 113 rfl rfl rfl rfl (shO_off (b' := false) 113 rfl rfl rfl rfl ?_))
 refine ov (v_pick_f rfl rfl) rfl ?_
 refine om rfl rfl (shO_off (b' := false) 117 rfl rfl rfl rfl ?_)
 refine ov (v_pick_f rfl rfl) rfl ?_
 refine om rfl rfl (shO_off (b' := false) 120 rfl rfl rfl rfl (shO_off (b' := false) 120 rfl rfl rfl rfl (shO_off (b' := false) 120 rfl rfl rfl rfl ?_)))
 refine ov (v_pick_f rfl rfl) rfl ?_
 refine om rfl rfl (shO_off (b' := false) 125 rfl rfl rfl rfl (shO_off (b' := false) 125 rfl rfl rfl rfl (shO_off (b' := false) 125 rfl rfl rfl rfl ?_)))
 refine ov (v_pick_f rfl rfl) rfl ?_
 refine oa rfl rfl (shO_nil ?_)
 refine kW kn ?_
 refine shW_ret ?_
 refine q_res1 Tryz.results24 (res_tmp rfl) (sr) ?_
 obtain rfl := inj1 r425
 exact rfl
set_option maxHeartbeats 1000000 in
theorem oyezlaw01_Made_w {b_b : Nat} {metal_a : Option Addr} {metal_c : Nat} {metal : List Int} {at_ : Int} {turn : Int} {plots : Int} {F : FS} (h_metal : RowR 1 (iE .u8) F metal_a metal_c metal) {r : Int} {r2 : List Int} {r3 : Int} {r4 : Int} (hr : oyezlaw01_Made metal at_ turn plots = some (r, r2, r3, r4)) :
    SH.Spec Tryz.prog 25 #[.pointer (some ⟨b_b, 0, none⟩), .int .i64 plots] F [(b_b, .cells #[.slice metal_a metal.length metal_c, .int .i64 at_, .int .u32 turn] 95 (0, 0))] fun F' L' v => ∃ (r2a : Option Addr) (r2n : Nat) (r2c : Nat) (r2L : LH), v = .agg #[.int .i64 r, .slice r2a r2n r2c] ∧ L' = (b_b, .cells #[.slice metal_a metal.length metal_c, .int .i64 r3, .int .u32 r4] 95 (0, 0)) :: (r2L ++ []) ∧ SlR 0 62 1 (iE .i64) F' r2a r2n r2c r2 r2L := by
 refine spec_of_shW (args := [.pointer (some ⟨b_b, 0, none⟩), .int .i64 plots]) Tryz.func25 rfl Tryz.ntmps25 (Nat.le_of_ble_eq_true rfl) ?_
 intro K _ _; rw [oyezlaw01_Made] at hr
 refine wsr ?_
 refine o_alloc rfl Tryz.zeroValue56 ?_; intro b1 hb1
 refine nsr (om rfl rfl ?_)
 obtain ⟨n, at_2, turn2, h2, r5⟩ := b3_ok hr; clear hr
 refine o_callG (Lb := [(b_b, .cells #[.slice metal_a metal.length metal_c, .int .i64 at_, .int .u32 turn] 95 (0, 0))]) (Lr := [(b1, .cells #[.int .i64 0, .slice none 0 0] 56 (0, 0))]) rfl Tryz.call28 rfl rfl rfl (((fC fO).trans (pC pR))) (oyezkit_Bell_Strike_w h_metal h2) ?_; rintro _ F6 _ hF7 hd9 hn8 ⟨rfl, rfl⟩
 replace h_metal := h_metal.mono (iE_ok _) hF7
 refine shO_L (lb (ln rfl)) ?_
 refine ov (v_build (v := .agg #[.int .i64 n, .slice none 0 0]) rfl (by intro w; kernel_rfl)) rfl ?_
 refine o_alloc rfl Tryz.zeroValue56 ?_; intro b10 hb10
 refine o_storeA (i := 0) Tryz.sizeOf56 rfl rfl rfl (by simp [Value.oneCell']) rfl (Nat.le_of_ble_eq_true rfl) ?_
 refine shO_L (L' := [(b10, .cells #[.int .i64 n, .slice none 0 0] 56 (0, 0)), (b_b, .cells #[.slice metal_a metal.length metal_c, .int .i64 at_2, .int .u32 turn2] 95 (0, 0)), (b1, .cells #[.int .i64 0, .slice none 0 0] 56 (0, 0))]) rfl ?_
 refine nsr (om rfl rfl (om rfl rfl ?_))
 refine ov (v_fieldAddr fa_56_0 rfl) rfl ?_
 refine ov (v_load Tryz.isAgg3 rfl (Has.own 0 rfl) rfl) rfl ?_
 obtain ⟨g11, r12⟩ := gd_ok r5; clear r5
 refine ov (v_quoT rfl rfl g11) rfl ?_
 refine ov (v_max2 rfl rfl) rfl ?_
 obtain ⟨n2, at_3, turn3, h13, r14⟩ := b3_ok r12; clear r12
 refine o_callG (Lb := [(b_b, .cells #[.slice metal_a metal.length metal_c, .int .i64 at_2, .int .u32 turn2] 95 (0, 0))]) (Lr := [(b10, .cells #[.int .i64 n, .slice none 0 0] 56 (0, 0)), (b1, .cells #[.int .i64 0, .slice none 0 0] 56 (0, 0))]) rfl Tryz.call28 rfl rfl rfl (((fC fO).trans (pC pR))) (oyezkit_Bell_Strike_w h_metal h13) ?_; rintro _ F15 _ hF16 hd18 hn17 ⟨rfl, rfl⟩
 replace h_metal := h_metal.mono (iE_ok _) hF16
 refine shO_L (lb (ln rfl)) ?_
 refine oa rfl rfl (nsr (oa rfl rfl (shO_nil ?_)))
 obtain ⟨b_at, b_turn, t_plots, h25, r26⟩ := b3_ok r14; clear r14
 refine shW_join (fun e1 F1 L1 => ∃ (a19 : Option Addr) (n23 : Nat) (c20 : Nat) (Lb21 : LH), FExt F15 F1 ∧ L1 = ((b_b, .cells #[.slice metal_a metal.length metal_c, .int .i64 b_at, .int .u32 b_turn] 95 (0, 0)) :: ((b10, .cells #[.int .i64 n, .slice a19 n23 c20] 56 (0, 0)) :: ((b1, .cells #[.int .i64 0, .slice none 0 0] 56 (0, 0)) :: (Lb21 ++ [])))) ∧ e1.sub [(0, .pointer (some ⟨b_b, 0, none⟩)), (4, .pointer (some ⟨b1, 0, none⟩)), (5, .pointer (some ⟨b10, 0, none⟩))] ∧ SlR K.w0.heap.size 62 1 (iE .i64) F1 a19 n23 c20 t_plots Lb21) ?_ ?_
 · clear r26
   refine wsr (om rfl rfl ?_)
   refine ov (v_fieldAddr fa_56_0 rfl) rfl ?_
   refine ov (v_load Tryz.isAgg3 rfl (Has.own 1 rfl) rfl) rfl ?_
   obtain ⟨g27, r28⟩ := gd_ok h25; clear h25
   refine ov (v_mul rfl rfl g27) rfl ?_
   refine om rfl rfl (shO_nil ?_)
   refine shW_block ?_
   obtain ⟨g35, r36⟩ := gd_ok r28; clear r28
   refine shW_lp (fun fu1 e1 F1 L1 => ∃ (k : Int), Ctr 0 (n2 * n) k fu1 ∧ ∃ (b_at2 : Int) (b_turn2 : Int) (t_plots2 : List Int) (left_ : Int) (a29 : Option Addr) (n33 : Nat) (c30 : Nat) (Lb31 : LH), oyezlaw01_Made_l1 metal fu1 b_at2 b_turn2 t_plots2 left_ = some (b_at, b_turn, t_plots) ∧ FExt F15 F1 ∧ L1 = ((b_b, .cells #[.slice metal_a metal.length metal_c, .int .i64 b_at2, .int .u32 b_turn2] 95 (0, 0)) :: ((b10, .cells #[.int .i64 n, .slice a29 n33 c30] 56 (0, 0)) :: ((b1, .cells #[.int .i64 0, .slice none 0 0] 56 (0, 0)) :: (Lb31 ++ [])))) ∧ e1.sub [(0, .pointer (some ⟨b_b, 0, none⟩)), (4, .pointer (some ⟨b1, 0, none⟩)), (5, .pointer (some ⟨b10, 0, none⟩)), (7, .int .i64 left_), (22, .int .i64 (n2 * n)), (23, .int .i64 k)] ∧ SlR K.w0.heap.size 62 1 (iE .i64) F1 a29 n33 c30 t_plots2 Lb31) _ (m0 (kc (kc (kc (ke kr)))) ⟨_, Ctr.start _ _, at_3, turn3, [], 10, none, 0, 0, [], r36, FExt.refl _, rfl, (sc rfl (sc rfl (sc rfl (sc rfl (sc rfl (sc rfl (sn _))))))), SlR.nil _ _ _ _ _⟩) ?_
   rintro fu1 e1 F41 _ ⟨k, hk37, b_at2, b_turn2, t_plots2, left_, a29, n33, c30, Lb31, r39, hF42, rfl, he40, hz32⟩
   refine shW_env _ he40 ?_; clear he40
   replace h_metal := h_metal.mono (iE_ok _) hF42
   refine wsr ?_
   refine ov (v_lssK rfl rfl) rfl ?_
   refine shO_nil (shW_seq ?_)
   refine shW_condP rfl (fun c44 => ?_) (fun c44 => ?_)
   · obtain ⟨fu1, rfl, hk45⟩ := Ctr.succ hk37 c44
     rw [oyezlaw01_Made_l1] at r39
     refine shW_skip (shW_seq ?_)
     refine shW_block ?_
     refine wsr ?_
     refine o_buildSlice (cs := #[.int .i64 0, .int .i64 0, .int .i64 0, .int .i64 1, .int .i64 1, .int .i64 2]) rfl rfl (buildSlice_all slt_24 [.int .i64 0, .int .i64 0, .int .i64 0, .int .i64 1, .int .i64 1, .int .i64 2] rfl (by decide) (by simp [Value.cells]) (by decide)) ?_; intro b46 hb46
     refine om rfl rfl ?_
     obtain ⟨n3, at_4, turn4, h47, r48⟩ := b3_ok r39; clear r39
     refine o_callG (Lb := [(b_b, .cells #[.slice metal_a metal.length metal_c, .int .i64 b_at2, .int .u32 b_turn2] 95 (0, 0))]) (Lr := (b46, .cells #[.int .i64 0, .int .i64 0, .int .i64 0, .int .i64 1, .int .i64 1, .int .i64 2] 3 (0, 0)) :: ((b10, .cells #[.int .i64 n, .slice a29 n33 c30] 56 (0, 0)) :: ((b1, .cells #[.int .i64 0, .slice none 0 0] 56 (0, 0)) :: (Lb31 ++ [])))) rfl Tryz.call8 rfl rfl rfl (((fC fO).trans (pC pR))) (oyezkit_Bell_Stroke_w h_metal h47) ?_; rintro _ F49 _ hF50 hd52 hn51 ⟨rfl, rfl⟩
     replace hz32 := hz32.mono (iE_ok _) hF50
     refine shO_L (lb (ln rfl)) ?_
     refine shO_freeze 1 rfl hb46 ?_; intro F53 hF54 hz55
     refine shO_L (L' := (b_b, .cells #[.slice metal_a metal.length metal_c, .int .i64 at_4, .int .u32 turn4] 95 (0, 0)) :: ((b10, .cells #[.int .i64 n, .slice a29 n33 c30] 56 (0, 0)) :: ((b1, .cells #[.int .i64 0, .slice none 0 0] 56 (0, 0)) :: (Lb31 ++ [])))) rfl ?_
     replace hz32 := hz32.mono (iE_ok _) hF54
     have h56 : RowR 1 (iE .i64) F53 (some ⟨b46, 0, none⟩) 6 [0, 0, 0, 1, 1, 2] := RowR.of_block (iE_ok _) (vss := [[.int .i64 0], [.int .i64 0], [.int .i64 0], [.int .i64 1], [.int .i64 1], [.int .i64 2]]) (xs := [0, 0, 0, 1, 1, 2]) hz55 (.cons rfl (.cons rfl (.cons rfl (.cons rfl (.cons rfl (.cons rfl .nil)))))) rfl (by simp [maxLen])
     obtain ⟨x, g57, hx58, r59⟩ := ix_ok r48; clear r48
     obtain ⟨b60, o61, c62, vs63, ha64, hs65, hle66, rfl, hl67, hc68⟩ := RowR.at (iE_ok _) h56 ((b_b, .cells #[.slice metal_a metal.length metal_c, .int .i64 at_4, .int .u32 turn4] 95 (0, 0)) :: ((b10, .cells #[.int .i64 n, .slice a29 n33 c30] 56 (0, 0)) :: ((b1, .cells #[.int .i64 0, .slice none 0 0] 56 (0, 0)) :: (Lb31 ++ [])))) g57.1 hx58
     refine ov (v_indexO Tryz.underlying24 Tryz.sizeOf3 rfl ha64 rfl g57) rfl ?_
     refine ov (v_load Tryz.isAgg3 rfl hs65 (hc68 0 (by decide))) rfl ?_
     refine oa rfl rfl (shO_nil ?_)
     obtain ⟨left_2, p, h69, r70⟩ := b2_ok r59; clear r59
     refine shW_join (fun e1 F1 L1 => F53 = F1 ∧ L1 = ((b_b, .cells #[.slice metal_a metal.length metal_c, .int .i64 at_4, .int .u32 turn4] 95 (0, 0)) :: ((b10, .cells #[.int .i64 n, .slice a29 n33 c30] 56 (0, 0)) :: ((b1, .cells #[.int .i64 0, .slice none 0 0] 56 (0, 0)) :: (Lb31 ++ [])))) ∧ e1.sub [(0, .pointer (some ⟨b_b, 0, none⟩)), (4, .pointer (some ⟨b1, 0, none⟩)), (5, .pointer (some ⟨b10, 0, none⟩)), (7, .int .i64 left_2), (8, .int .i64 p), (22, .int .i64 (n2 * n)), (23, .int .i64 k)]) ?_ ?_
     · clear r70
       refine wsr (om rfl rfl ?_)
       refine ov (v_eql rfl rfl) rfl ?_
       refine shO_nil ?_
       refine shW_condP rfl (fun c71 => ?_) (fun c71 => ?_)
       · have r72 := ite_t h69 c71; clear h69
         refine wsr (om rfl rfl ?_)
         obtain ⟨g73, r74⟩ := gd_ok r72; clear r72
         refine ov (v_sub rfl rfl g73) rfl ?_
         refine oa rfl rfl (nsr (om rfl rfl ?_))
         refine ov (v_lssK rfl rfl) rfl ?_
         refine shO_nil ?_
         refine shW_condP rfl (fun c75 => ?_) (fun c75 => ?_)
         · have r76 := ite_t r74 c75; clear r74
           refine shW_region (oa rfl rfl (shO_nil ?_))
           obtain ⟨rfl, rfl⟩ := inj2 r76
           exact mi kr ⟨rfl, rfl, (sc rfl (sc rfl (sc rfl (sc rfl (sc rfl (sc rfl (sc rfl (sn _))))))))⟩
         have r77 := ite_f r74 c75; clear r74
         refine shW_skip ?_
         obtain ⟨rfl, rfl⟩ := inj2 r77
         exact mi kr ⟨rfl, rfl, (sc rfl (sc rfl (sc rfl (sc rfl (sc rfl (sc rfl (sc rfl (sn _))))))))⟩
       have r78 := ite_f h69 c71; clear h69
       refine shW_skip ?_
       obtain ⟨rfl, rfl⟩ := inj2 r78
       exact mi kr ⟨rfl, rfl, (sc rfl (sc rfl (sc rfl (sc rfl (sc rfl (sc rfl (sc rfl (sn _))))))))⟩
     rintro e1 _ _ ⟨rfl, rfl, he79⟩
     refine shW_env _ he79 ?_; clear he79
     refine shW_region ?_
     refine ov (v_fieldAddr fa_56_1 rfl) rfl ?_
     refine ov (v_load Tryz.isAgg54 rfl (Has.own 1 rfl) rfl) rfl ?_
     refine om rfl rfl ?_
     refine o_buildSlice (cs := #[.int .i64 p]) rfl rfl (buildSlice_all slt_54 [.int .i64 p] rfl (by decide) (by simp [Value.cells]) (by decide)) ?_; intro b80 hb80
     obtain ⟨t, h81, g82, r83⟩ := ap_ok r70; clear r70
     refine o_appZ (xs := t_plots2) (ys := [p]) (zs := t) rfl slt_54 rfl rfl (Nat.le_refl _) (fun _ => .c (.c (.c (.c .h)))) hz32 (SrcR.box (vss := [[.int .i64 p]]) (ys := [p]) 0 rfl (iE_ok _) (.cons rfl .nil) rfl rfl) h81 g82 (by decide) ?_; intro a84 n88 c85 Lb86 hz87
     refine kO (kd kr) ?_
     refine ov (v_fieldAddr fa_56_1 rfl) rfl ?_
     refine o_store (i := 1) Tryz.sizeOf54 rfl rfl rfl rfl (Nat.le_of_ble_eq_true rfl) ?_
     refine shO_L (L' := (b_b, .cells #[.slice metal_a metal.length metal_c, .int .i64 at_4, .int .u32 turn4] 95 (0, 0)) :: ((b10, .cells #[.int .i64 n, .slice a84 n88 c85] 56 (0, 0)) :: ((b1, .cells #[.int .i64 0, .slice none 0 0] 56 (0, 0)) :: (Lb86 ++ [])))) rfl ?_
     refine shO_nil (inBlock_n (id := 1) (shW_region ?_))
     refine ov (v_add rfl rfl (Ctr.r64 hk37 c44 g35)) rfl ?_
     refine om rfl rfl (shO_nil ?_)
     exact le kr ⟨_, hk45, at_4, turn4, t, left_2, a84, n88, c85, Lb86, r83, ((hF42.trans hF50).trans hF54), rfl, (sc rfl (sc rfl (sc rfl (sc rfl (sc rfl (sc rfl (sn _))))))), hz87⟩
   obtain rfl := Ctr.zero hk37 c44
   rw [oyezlaw01_Made_l1] at r39
   refine shW_exit (andThen_exit (andThen_exit ?_))
   refine inBlock_exit ?_
   obtain ⟨rfl, rfl, rfl⟩ := inj3 r39
   exact mi kr ⟨a29, n33, c30, Lb31, hF42, rfl, (sc rfl (sc rfl (sc rfl (sn _)))), hz32⟩
 rintro e1 F91 _ ⟨a19, n23, c20, Lb21, hF92, rfl, he90, hz22⟩
 refine shW_env _ he90 ?_; clear he90
 replace h_metal := h_metal.mono (iE_ok _) hF92
 refine shW_seq ?_
 refine shW_drawM [(.still, 0), (.still, 1), (.still, 2), (.still, 3), (.still, 4), (.still, 5), (.still, 6), (.seq, 7), (.still, 8), (.seq, 9)] (by kernel_rfl) (by kernel_rfl) (trivial) (by rfl) (by kernel_rfl) ?_
 refine shM_v (v := .pointer (some ⟨b10, 1, none⟩)) (ek := [(5, .pointer (some ⟨b10, 0, none⟩))]) (Ls := []) rfl rfl rfl rfl ((sc rfl (sn _))) (by kernel_rfl) sm (fun H F' L' hF' hL' => v_fieldAddr fa_56_1 rfl) ?_
 refine shM_v (v := .slice a19 n23 c20) (ek := [(43, .pointer (some ⟨b10, 1, none⟩))]) (Ls := [(b10, .cells #[.int .i64 n, .slice a19 n23 c20] 56 (0, 0))]) rfl rfl rfl rfl ((sc rfl (sn _))) (by kernel_rfl) (s0 (s1 (s2 (s1 (s3 sr))))) (fun H F' L' hF' hL' => v_load Tryz.isAgg54 rfl ((Has.own 0 rfl).ext hF' hL') rfl) ?_
 refine shM_v (v := .pointer (some ⟨b_b, 0, none⟩)) (ek := [(0, .pointer (some ⟨b_b, 0, none⟩))]) (Ls := []) rfl rfl rfl rfl ((sc rfl (sn _))) (by kernel_rfl) sm (fun H F' L' hF' hL' => v_move rfl) ?_
 refine shM_v (v := .pointer (some ⟨b10, 1, none⟩)) (ek := [(5, .pointer (some ⟨b10, 0, none⟩))]) (Ls := []) rfl rfl rfl rfl ((sc rfl (sn _))) (by kernel_rfl) sm (fun H F' L' hF' hL' => v_fieldAddr fa_56_1 rfl) ?_
 refine shM_v (v := .slice a19 n23 c20) (ek := [(46, .pointer (some ⟨b10, 1, none⟩))]) (Ls := [(b10, .cells #[.int .i64 n, .slice a19 n23 c20] 56 (0, 0))]) rfl rfl rfl rfl ((sc rfl (sn _))) (by kernel_rfl) (s0 (s1 (s2 (s1 (s3 sr))))) (fun H F' L' hF' hL' => v_load Tryz.isAgg54 rfl ((Has.own 0 rfl).ext hF' hL') rfl) ?_
 refine shM_v (v := .int .i64 (t_plots.length : Int)) (ek := [(47, .slice a19 n23 c20)]) (Ls := []) rfl rfl rfl rfl ((sc rfl (sn _))) (by kernel_rfl) sm (fun H F' L' hF' hL' => (v_lenS Tryz.underlying54 rfl).i (SlR.lenI hz22)) ?_
 obtain ⟨g93, r94⟩ := gd_ok r26; clear r26
 refine shM_v (v := .int .i64 ((t_plots.length : Int) - 1)) (ek := [(48, .int .i64 (t_plots.length : Int))]) (Ls := []) rfl rfl rfl rfl ((sc rfl (sn _))) (by kernel_rfl) sm (fun H F' L' hF' hL' => v_sub rfl rfl g93) ?_
 refine ⟨_, [(45, .pointer (some ⟨b_b, 0, none⟩)), (49, .int .i64 ((t_plots.length : Int) - 1))], rfl, rfl, (sc rfl (sc rfl (sn _))), by kernel_rfl, ?_⟩; intro H
 obtain ⟨n4, at_5, turn5, h95, r96⟩ := b3_ok r94; clear r94
 refine o_callG (Lb := [(b_b, .cells #[.slice metal_a metal.length metal_c, .int .i64 b_at, .int .u32 b_turn] 95 (0, 0))]) (Lr := (b10, .cells #[.int .i64 n, .slice a19 n23 c20] 56 (0, 0)) :: ((b1, .cells #[.int .i64 0, .slice none 0 0] 56 (0, 0)) :: (Lb21 ++ []))) rfl Tryz.call8 rfl rfl rfl (pR) (oyezkit_Bell_Stroke_w h_metal h95) ?_; rintro _ F97 _ hF98 hd100 hn99 ⟨rfl, rfl⟩
 replace hz22 := hz22.mono (iE_ok _) hF98
 refine shO_L (lb (ln rfl)) ?_
 refine shO_nil ⟨_, rfl, hF98, [1, 0], by kernel_rfl, .inl (.inr (fun d h => by cases h; rfl)), (List.forall_mem_cons.2 ⟨s0 (s1 (s2 (s1 (s3 sr)))), (List.forall_mem_cons.2 ⟨sm, (fun _ h => absurd h List.not_mem_nil)⟩)⟩), ?_⟩
 obtain ⟨x2, g101, hx102, r103⟩ := ix_ok r96; clear r96
 obtain ⟨b104, o105, c106, vs107, ha108, hs109, hle110, rfl, hl111, hc112⟩ := SlR.at (iE_ok _) hz22 (L := Lb21 ++ []) fP g101.1 hx102
 refine shM_v (v := .pointer (some ⟨b104, o105 + (n4 : Int).toNat * 1, none⟩)) (ek := [(44, .slice a19 n23 c20), (50, .int .i64 n4)]) (Ls := []) rfl rfl rfl rfl ((sc rfl (sc rfl (sn _)))) (by kernel_rfl) sm (fun H F' L' hF' hL' => v_indexO Tryz.underlying54 Tryz.sizeOf62 rfl ha108 rfl (SlR.idx hz22 g101)) ?_
 refine ⟨_, [(51, .pointer (some ⟨b104, o105 + (n4 : Int).toNat * 1, none⟩))], rfl, rfl, (sc rfl (sn _)), by kernel_rfl, ?_⟩; intro H
 obtain ⟨l, h113, r114⟩ := bv_ok r103; clear r103
 refine o_storeZ (u := 0) Tryz.sizeOf62 (iE_ok _) rfl ha108 rfl rfl (fun _ => .c (.c (.c .h))) hz22 h113 g101 ?_; intro Lb115 hz116
 refine shO_nil ⟨undef, rfl, FExt.refl _, [], by kernel_rfl, .inl (.inl rfl), (fun _ h => absurd h List.not_mem_nil), ?_⟩
 refine shM_nil ?_
 refine wsr ?_
 refine ov (v_loadA (cs := #[.int .i64 n, .slice a19 n23 c20]) Tryz.isAgg56 Tryz.sizeOf56 rfl (Has.own 1 rfl) (Nat.le_of_ble_eq_true rfl) rfl) rfl ?_
 refine o_storeA (i := 2) Tryz.sizeOf56 rfl rfl rfl (by simp [Value.oneCell']) rfl (Nat.le_of_ble_eq_true rfl) ?_
 refine shO_L (L' := (b_b, .cells #[.slice metal_a metal.length metal_c, .int .i64 at_5, .int .u32 turn5] 95 (0, 0)) :: ((b10, .cells #[.int .i64 n, .slice a19 n23 c20] 56 (0, 0)) :: ((b1, .cells #[.int .i64 n, .slice a19 n23 c20] 56 (0, 0)) :: (Lb115 ++ [])))) rfl ?_
 refine shO_nil ?_
 refine kW (kf (fC (fC fO)) (kc (kd kr))) ?_
 refine shW_ret ?_
 refine q_res1 Tryz.results25 (res_cellA (cs := #[.int .i64 n, .slice a19 n23 c20]) Tryz.isAgg56 Tryz.sizeOf56 rfl (Has.own 0 rfl) (Nat.le_of_ble_eq_true rfl) rfl) (s1 (s2 (s4 sr))) ?_
 obtain ⟨rfl, rfl, rfl, rfl⟩ := inj4 r114
 exact ⟨_, _, _, _, rfl, rfl, hz116.any⟩
set_option maxHeartbeats 1000000 in
theorem oyezlaw01_Aired_w {b_b : Nat} {metal_a : Option Addr} {metal_c : Nat} {metal : List Int} {at_ : Int} {turn : Int} {F : FS} (h_metal : RowR 1 (iE .u8) F metal_a metal_c metal) {r : Int} {r2 : Int} {r3 : Int} {r4 : Int} (hr : oyezlaw01_Aired metal at_ turn = some (r, r2, r3, r4)) :
    SH.Spec Tryz.prog 26 #[.pointer (some ⟨b_b, 0, none⟩)] F [(b_b, .cells #[.slice metal_a metal.length metal_c, .int .i64 at_, .int .u32 turn] 95 (0, 0))] fun _ L' v => v = .agg #[.int .i64 r, .int .i64 r2] ∧ L' = [(b_b, .cells #[.slice metal_a metal.length metal_c, .int .i64 r3, .int .u32 r4] 95 (0, 0))] := by
 refine spec_of_shW (args := [.pointer (some ⟨b_b, 0, none⟩)]) Tryz.func26 rfl Tryz.ntmps26 (Nat.le_of_ble_eq_true rfl) ?_
 intro K _ _; rw [oyezlaw01_Aired] at hr
 refine wsr ?_
 refine o_alloc rfl Tryz.zeroValue60 ?_; intro b1 hb1
 refine nsr (om rfl rfl ?_)
 obtain ⟨n, at_2, turn2, h2, r5⟩ := b3_ok hr; clear hr
 refine o_callG (Lb := [(b_b, .cells #[.slice metal_a metal.length metal_c, .int .i64 at_, .int .u32 turn] 95 (0, 0))]) (Lr := [(b1, .cells #[.int .i64 0, .int .i64 0] 60 (0, 0))]) rfl Tryz.call8 rfl rfl rfl (((fC fO).trans (pC pR))) (oyezkit_Bell_Stroke_w h_metal h2) ?_; rintro _ F6 _ hF7 hd9 hn8 ⟨rfl, rfl⟩
 replace h_metal := h_metal.mono (iE_ok _) hF7
 refine shO_L (lb (ln rfl)) ?_
 refine om rfl rfl ?_
 obtain ⟨n2, at_3, turn3, h10, r11⟩ := b3_ok r5; clear r5
 refine o_callG (Lb := [(b_b, .cells #[.slice metal_a metal.length metal_c, .int .i64 at_2, .int .u32 turn2] 95 (0, 0))]) (Lr := [(b1, .cells #[.int .i64 0, .int .i64 0] 60 (0, 0))]) rfl Tryz.call28 rfl rfl rfl (pR) (oyezkit_Bell_Strike_w h_metal h10) ?_; rintro _ F12 _ hF13 hd15 hn14 ⟨rfl, rfl⟩
 refine shO_L (lb (ln rfl)) ?_
 refine ov (v_build (v := .agg #[.int .i64 n, .int .i64 n2]) rfl (by intro w; kernel_rfl)) rfl ?_
 refine o_storeA (i := 1) Tryz.sizeOf60 rfl rfl rfl (by simp [Value.oneCell']) rfl (Nat.le_of_ble_eq_true rfl) ?_
 refine shO_L (L' := [(b_b, .cells #[.slice metal_a metal.length metal_c, .int .i64 at_3, .int .u32 turn3] 95 (0, 0)), (b1, .cells #[.int .i64 n, .int .i64 n2] 60 (0, 0))]) rfl ?_
 refine shO_nil ?_
 refine kW (kf (fC fO) kr) ?_
 refine shW_ret ?_
 refine q_res1 Tryz.results26 (res_cellA (cs := #[.int .i64 n, .int .i64 n2]) Tryz.isAgg60 Tryz.sizeOf60 rfl (Has.own 0 rfl) (Nat.le_of_ble_eq_true rfl) rfl) (s1 (s2 sr)) ?_
 obtain ⟨rfl, rfl, rfl, rfl⟩ := inj4 r11
 exact ⟨rfl, rfl⟩
set_option maxHeartbeats 1000000 in
theorem hear_in_w {n : Int} {lo : Int} {hi : Int} {F : FS} {r : Bool} (hr : hear_in n lo hi = some r) :
    SpecV Tryz.prog 75 #[.int .i64 n, .int .i64 lo, .int .i64 hi] F (.bool r) := by
 refine spec_of_shW (args := [.int .i64 n, .int .i64 lo, .int .i64 hi]) Tryz.func75 rfl Tryz.ntmps75 (Nat.le_of_ble_eq_true rfl) ?_
 intro K _ _; rw [hear_in] at hr
 refine wsr (oa rfl rfl (nsr (om rfl rfl (om rfl rfl ?_))))
 refine ov (v_geqK rfl rfl) rfl ?_
 refine om rfl rfl ?_
 by_cases c1 : lo ≤ n
 · have r2 := ite_t hr c1; clear hr
   refine shO_on (b := true) 10 rfl (Env.isT rfl c1) (om rfl rfl (shO_on (b := true) 10 rfl (Env.isT rfl c1) (om rfl rfl (shO_on (b := true) 10 rfl (Env.isT rfl c1) ?_))))
   refine ov (v_leqK rfl rfl) rfl ?_
   refine ov (v_pick_t (evD_true rfl c1) rfl) rfl ?_
   refine oa rfl rfl (shO_nil (shW_ret ?_))
   refine q_res1 Tryz.results75 (res_tmp rfl) (sr) ?_
   obtain rfl := inj1 r2
   exact rfl
 have r3 := ite_f hr c1; clear hr
 refine shO_off (b' := false) 10 rfl (Env.isF rfl c1) rfl rfl (shO_off (b' := false) 10 rfl (Env.isF rfl c1) rfl rfl (shO_off (b' := false) 10 rfl (Env.isF rfl c1) rfl rfl ?_))
 refine ov (v_pick_f (evD_false rfl c1) rfl) rfl ?_
 refine oa rfl rfl (shO_nil (shW_ret ?_))
 refine q_res1 Tryz.results75 (res_tmp rfl) (sr) ?_
 obtain rfl := inj1 r3
 exact rfl
set_option maxHeartbeats 1000000 in
theorem slices_IndexFunc_hear_Plot_hear_Plot_w {s__a : Option Addr} {s__c : Nat} {s_ : List Int} {f_f : FuncId} {f_1 : Array Value} {f_2 : Array Value} {f : Int → Option Bool} {F : FS} (h_s_ : RowR 1 (iE .i64) F s__a s__c s_) (h_f : FnR Tryz.prog F f_f f_1 f_2 (iE .i64) Value.bool f) {r : Int} (hr : slices_IndexFunc_hear_Plot_hear_Plot s_ f = some r) :
    SpecV Tryz.prog 163 #[.slice s__a s_.length s__c, .func (.func f_f) f_1 f_2] F (.int .i64 r) := by
 refine spec_of_shW (args := [.slice s__a s_.length s__c, .func (.func f_f) f_1 f_2]) Tryz.func163 rfl Tryz.ntmps163 (Nat.le_of_ble_eq_true rfl) ?_
 intro K _ _; rw [slices_IndexFunc_hear_Plot_hear_Plot] at hr
 refine wsr (oa rfl rfl (shO_nil ?_))
 refine shW_join (fun e1 F1 L1 => slices_IndexFunc_hear_Plot_hear_Plot_j1 = some r ∧ F = F1 ∧ L1 = [] ∧ e1.sub []) ?_ ?_
 · refine wsr (om rfl rfl ?_)
   refine ov (v_lenS Tryz.underlying54 rfl) rfl ?_
   refine om rfl rfl (shO_nil ?_)
   refine shW_block ?_
   refine shW_lp (fun fu2 e1 F1 L1 => ∃ (tl : List Int) (k : Int), tl.length = fu2 ∧ Lst s_ k tl ∧ slices_IndexFunc_hear_Plot_hear_Plot_l2 f tl k = some r ∧ F = F1 ∧ L1 = [] ∧ e1.sub [(0, .slice s__a s_.length s__c), (1, .func (.func f_f) f_1 f_2), (7, .int .i64 (s_.length : Int)), (8, .int .i64 k)]) _ (m0 kr ⟨_, _, rfl, Lst.start _, hr, rfl, rfl, (sc rfl (sc rfl (sc rfl (sc rfl (sn _)))))⟩) ?_
   rintro fu2 e1 _ _ ⟨tl, k, hn2, hk1, r3, rfl, rfl, he4⟩
   refine shW_env _ he4 ?_; clear he4
   refine wsr ?_
   refine ov (v_lssK rfl rfl) rfl ?_
   refine shO_nil (shW_seq ?_)
   refine shW_condP rfl (fun c6 => ?_) (fun c6 => ?_)
   · obtain ⟨x, tl2, rfl, hx8, g9, hk7⟩ := Lst.succ hk1 c6
     rw [slices_IndexFunc_hear_Plot_hear_Plot_l2] at r3
     refine shW_skip (shW_seq ?_)
     refine shW_block ?_
     refine wsr (om rfl rfl (oa rfl rfl (nsr (om rfl rfl (om rfl rfl (om rfl rfl ?_))))))
     obtain ⟨b10, o11, c12, vs13, ha14, hs15, hle16, rfl, hl17, hc18⟩ := RowR.at (iE_ok _) h_s_ ([]) g9.1 hx8
     refine ov (v_indexO Tryz.underlying54 Tryz.sizeOf62 rfl ha14 rfl g9) rfl ?_
     refine ov (v_load Tryz.isAgg62 rfl hs15 (hc18 0 (by decide))) rfl ?_
     obtain ⟨ok, h19, r20⟩ := b1_ok r3; clear r3
     refine o_callV rfl h_f.1 rfl rfl rfl (h_f.2 _ (FExt.refl _) _ _ _ rfl h19) ?_
     refine shO_nil ?_
     refine shW_cond rfl (fun c21 => ?_) (fun c21 => ?_)
     · have r22 := bt r20 c21; clear r20
       refine wsr (om rfl rfl (oa rfl rfl (shO_nil (shW_ret (inBlock_ret (andThen_ret (andThen_ret (inBlock_ret (andThen_ret ?_)))))))))
       refine q_res1 Tryz.results163 (res_tmp rfl) (sr) ?_
       obtain rfl := inj1 r22
       exact rfl
     have r23 := bf r20 c21; clear r20
     refine shW_skip (inBlock_n (id := 1) (shW_region ?_))
     refine ov (v_add rfl rfl (Lst.r64 hk1 c6 (RowR.lt h_s_))) rfl ?_
     refine om rfl rfl (shO_nil ?_)
     subst hn2; exact le kr ⟨_, _, rfl, hk7, r23, rfl, rfl, (sc rfl (sc rfl (sc rfl (sc rfl (sn _)))))⟩
   obtain rfl := Lst.zero hk1 c6
   rw [slices_IndexFunc_hear_Plot_hear_Plot_l2] at r3
   refine shW_exit (andThen_exit (andThen_exit ?_))
   refine inBlock_exit ?_
   exact mi kr ⟨r3, rfl, rfl, (sn _)⟩
 rintro e1 _ _ ⟨r24, rfl, rfl, he25⟩
 refine shW_env _ he25 ?_; clear he25
 rw [slices_IndexFunc_hear_Plot_hear_Plot_j1] at r24
 refine wsr (oa rfl rfl (shO_nil (shW_ret ?_)))
 refine q_res1 Tryz.results163 (res_tmp rfl) (sr) ?_
 obtain rfl := inj1 r24
 exact rfl
set_option maxHeartbeats 1000000 in
theorem slices_ContainsFunc_hear_Plot_hear_Plot_w {s__a : Option Addr} {s__c : Nat} {s_ : List Int} {f_f : FuncId} {f_1 : Array Value} {f_2 : Array Value} {f : Int → Option Bool} {F : FS} (h_s_ : RowR 1 (iE .i64) F s__a s__c s_) (h_f : FnR Tryz.prog F f_f f_1 f_2 (iE .i64) Value.bool f) {r : Bool} (hr : slices_ContainsFunc_hear_Plot_hear_Plot s_ f = some r) :
    SpecV Tryz.prog 143 #[.slice s__a s_.length s__c, .func (.func f_f) f_1 f_2] F (.bool r) := by
 refine spec_of_shW (args := [.slice s__a s_.length s__c, .func (.func f_f) f_1 f_2]) Tryz.func143 rfl Tryz.ntmps143 (Nat.le_of_ble_eq_true rfl) ?_
 intro K _ _; rw [slices_ContainsFunc_hear_Plot_hear_Plot] at hr
 refine wsr (oa rfl rfl (nsr (om rfl rfl (om rfl rfl ?_))))
 obtain ⟨n, h1, r2⟩ := b1_ok hr; clear hr
 refine o_callV rfl Tryz.call163 rfl rfl rfl (slices_IndexFunc_hear_Plot_hear_Plot_w h_s_ h_f h1) ?_
 refine ov (v_geqK rfl rfl) rfl ?_
 refine oa rfl rfl (shO_nil (shW_ret ?_))
 refine q_res1 Tryz.results143 (res_tmp rfl) (sr) ?_
 obtain rfl := inj1 r2
 exact rfl
set_option maxHeartbeats 1000000 in
theorem hear_every_Plot_1_w {x : Int} {b_so : Nat} {so_f : FuncId} {so_1 : Array Value} {so_2 : Array Value} {so : Int → Option Bool} {mb_so : Nat × Nat} {F : FS} (hb_so : F b_so = some (.cells #[.func (.func so_f) so_1 so_2] 175 mb_so)) (h_so : FnR Tryz.prog F so_f so_1 so_2 (iE .i64) Value.bool so) {r : Bool} (hr : hear_every_Plot_1 x so = some r) :
    SpecV Tryz.prog 144 #[.int .i64 x, .pointer (some ⟨b_so, 0, none⟩)] F (.bool r) := by
 refine spec_of_shW (args := [.int .i64 x, .pointer (some ⟨b_so, 0, none⟩)]) Tryz.func144 rfl Tryz.ntmps144 (Nat.le_of_ble_eq_true rfl) ?_
 intro K _ _; rw [hear_every_Plot_1] at hr
 refine wsr (oa rfl rfl (nsr ?_))
 refine ov (v_load Tryz.isAgg175 rfl (Has.frozen hb_so) rfl) rfl ?_
 refine om rfl rfl ?_
 obtain ⟨ok, h1, r2⟩ := b1_ok hr; clear hr
 refine o_callV rfl h_so.1 rfl rfl rfl (h_so.2 _ (FExt.refl _) _ _ _ rfl h1) ?_
 refine ov (v_notB rfl) rfl ?_
 refine oa rfl rfl (shO_nil (shW_ret ?_))
 refine q_res1 Tryz.results144 (res_tmp rfl) (sr) ?_
 obtain rfl := inj1 r2
 exact rfl
set_option maxHeartbeats 1000000 in
theorem hear_every_Plot_w {l_a : Option Addr} {l_c : Nat} {l : List Int} {so_f : FuncId} {so_1 : Array Value} {so_2 : Array Value} {so : Int → Option Bool} {F : FS} (h_l : RowR 1 (iE .i64) F l_a l_c l) (h_so : FnR Tryz.prog F so_f so_1 so_2 (iE .i64) Value.bool so) {r : Bool} (hr : hear_every_Plot l so = some r) :
    SpecV Tryz.prog 112 #[.slice l_a l.length l_c, .func (.func so_f) so_1 so_2] F (.bool r) := by
 refine spec_of_shW (args := [.slice l_a l.length l_c, .func (.func so_f) so_1 so_2]) Tryz.func112 rfl Tryz.ntmps112 (Nat.le_of_ble_eq_true rfl) ?_
 intro K _ _; rw [hear_every_Plot] at hr
 refine wsr ?_
 refine o_box rfl rfl ?_; intro b1 hb1
 refine oa rfl rfl (nsr (om rfl rfl ?_))
 refine ov (v_makeFunc rfl rfl) rfl ?_
 refine shO_freeze 0 rfl hb1 ?_; intro F2 hF3 hz4
 refine shO_L (L' := []) rfl ?_
 replace h_l := h_l.mono (iE_ok _) hF3
 replace h_so := h_so.mono hF3
 have hn5 : FnR Tryz.prog F2 144 #[] #[.pointer (some ⟨b1, 0, none⟩)] (iE .i64) Value.bool (fun xx_ : Int => hear_every_Plot_1 xx_ so) := ⟨Tryz.call144, fun F2 h2 vs xx_ r ha hr => by obtain rfl := ha; exact hear_every_Plot_1_w (h2 _ _ hz4) (h_so.mono h2) hr⟩
 obtain ⟨ok, h6, r7⟩ := b1_ok hr; clear hr
 refine o_callV rfl Tryz.call143 rfl rfl rfl (slices_ContainsFunc_hear_Plot_hear_Plot_w h_l hn5 h6) ?_
 refine ov (v_notB rfl) rfl ?_
 refine oa rfl rfl (shO_nil (shW_ret ?_))
 refine q_res1 Tryz.results112 (res_tmp rfl) (sr) ?_
 obtain rfl := inj1 r7
 exact rfl
set_option maxHeartbeats 1000000 in
theorem hear_Check_1_w {p : Int} {F : FS} {r : Bool} (hr : hear_Check_1 p = some r) :
    SpecV Tryz.prog 113 #[.int .i64 p] F (.bool r) := by
 refine spec_of_shW (args := [.int .i64 p]) Tryz.func113 rfl Tryz.ntmps113 (Nat.le_of_ble_eq_true rfl) ?_
 intro K _ _; rw [hear_Check_1] at hr
 refine wsr (oa rfl rfl (nsr (om rfl rfl ?_)))
 obtain ⟨ok, h1, r2⟩ := b1_ok hr; clear hr
 refine o_callV rfl Tryz.call75 rfl rfl rfl (hear_in_w h1) ?_
 refine oa rfl rfl (shO_nil (shW_ret ?_))
 refine q_res1 Tryz.results113 (res_tmp rfl) (sr) ?_
 obtain rfl := inj1 r2
 exact rfl
set_option maxHeartbeats 1000000 in
theorem hear_Town_houses_w {wide : Int} {plots_a : Option Addr} {plots_c : Nat} {plots : List Int} {F : FS} (h_plots : RowR 1 (iE .i64) F plots_a plots_c plots) {r : Int} (hr : hear_Town_houses wide plots = some r) :
    SpecV Tryz.prog 114 #[.agg #[.int .i64 wide, .slice plots_a plots.length plots_c]] F (.int .i64 r) := by
 refine spec_of_shW (args := [.agg #[.int .i64 wide, .slice plots_a plots.length plots_c]]) Tryz.func114 rfl Tryz.ntmps114 (Nat.le_of_ble_eq_true rfl) ?_
 intro K _ _; rw [hear_Town_houses] at hr
 refine wsr ?_
 refine o_box rfl rfl ?_; intro b1 hb1
 refine oa rfl rfl (nsr (oa rfl rfl (shO_nil ?_)))
 obtain ⟨n, h2, r3⟩ := b1_ok hr; clear hr
 refine shW_join (fun e1 F1 L1 => F = F1 ∧ L1 = [] ∧ e1.sub [(3, .int .i64 n)]) ?_ ?_
 · clear r3
   refine wsr ?_
   refine ov (v_fieldAddr fa_56_1 rfl) rfl ?_
   refine ov (v_load Tryz.isAgg54 rfl (Has.own 0 rfl) rfl) rfl ?_
   refine ov (v_lenS Tryz.underlying54 rfl) rfl ?_
   refine om rfl rfl (shO_nil ?_)
   refine shW_block ?_
   refine kW kn ?_
   refine shW_lp (fun fu1 e1 F1 L1 => ∃ (tl : List Int) (k : Int), tl.length = fu1 ∧ Lst plots k tl ∧ ∃ (n2 : Int), hear_Town_houses_l1 tl n2 = some n ∧ F = F1 ∧ L1 = [] ∧ e1.sub [(3, .int .i64 n2), (7, .slice plots_a plots.length plots_c), (8, .int .i64 (plots.length : Int)), (9, .int .i64 k)]) _ (m0 kr ⟨_, _, rfl, Lst.start _, 0, h2, rfl, rfl, (sc rfl (sc rfl (sc rfl (sc rfl (sn _)))))⟩) ?_
   rintro fu1 e1 _ _ ⟨tl, k, hn5, hk4, n2, r6, rfl, rfl, he7⟩
   refine shW_env _ he7 ?_; clear he7
   refine wsr ?_
   refine ov (v_lssK rfl rfl) rfl ?_
   refine shO_nil (shW_seq ?_)
   refine shW_condP rfl (fun c9 => ?_) (fun c9 => ?_)
   · obtain ⟨x, tl2, rfl, hx11, g12, hk10⟩ := Lst.succ hk4 c9
     rw [hear_Town_houses_l1] at r6
     refine shW_skip (shW_seq ?_)
     refine shW_block ?_
     refine wsr ?_
     obtain ⟨b13, o14, c15, vs16, ha17, hs18, hle19, rfl, hl20, hc21⟩ := RowR.at (iE_ok _) h_plots ([]) g12.1 hx11
     refine ov (v_indexO Tryz.underlying54 Tryz.sizeOf62 rfl ha17 rfl g12) rfl ?_
     refine ov (v_load Tryz.isAgg62 rfl hs18 (hc21 0 (by decide))) rfl ?_
     refine oa rfl rfl (nsr (om rfl rfl ?_))
     refine ov (v_eql rfl rfl) rfl ?_
     refine shO_nil ?_
     refine shW_condP rfl (fun c22 => ?_) (fun c22 => ?_)
     · have r23 := ite_t r6 c22; clear r6
       refine shW_region (om rfl rfl ?_)
       obtain ⟨g24, r25⟩ := gd_ok r23; clear r23
       refine ov (v_add rfl rfl g24) rfl ?_
       refine oa rfl rfl (shO_nil (inBlock_n (id := 1) (shW_region ?_)))
       refine ov (v_add rfl rfl (Lst.r64 hk4 c9 (RowR.lt h_plots))) rfl ?_
       refine om rfl rfl (shO_nil ?_)
       subst hn5; exact le kr ⟨_, _, rfl, hk10, n2 + 1, r25, rfl, rfl, (sc rfl (sc rfl (sc rfl (sc rfl (sn _)))))⟩
     have r26 := ite_f r6 c22; clear r6
     refine shW_skip (inBlock_n (id := 1) (shW_region ?_))
     refine ov (v_add rfl rfl (Lst.r64 hk4 c9 (RowR.lt h_plots))) rfl ?_
     refine om rfl rfl (shO_nil ?_)
     subst hn5; exact le kr ⟨_, _, rfl, hk10, n2, r26, rfl, rfl, (sc rfl (sc rfl (sc rfl (sc rfl (sn _)))))⟩
   obtain rfl := Lst.zero hk4 c9
   rw [hear_Town_houses_l1] at r6
   refine shW_exit (andThen_exit (andThen_exit ?_))
   refine inBlock_exit ?_
   obtain rfl := inj1 r6
   exact mi kr ⟨rfl, rfl, (sc rfl (sn _))⟩
 rintro e1 _ _ ⟨rfl, rfl, he27⟩
 refine shW_env _ he27 ?_; clear he27
 refine wsr (om rfl rfl (oa rfl rfl (shO_nil (shW_ret ?_))))
 refine q_res1 Tryz.results114 (res_tmp rfl) (sr) ?_
 obtain rfl := inj1 r3
 exact rfl
set_option maxHeartbeats 1000000 in
theorem hear_Check_w {wide : Int} {plots_a : Option Addr} {plots_c : Nat} {plots : List Int} {F : FS} (h_plots : RowR 1 (iE .i64) F plots_a plots_c plots) {r : Int} (hr : hear_Check wide plots = some r) :
    SpecV Tryz.prog 72 #[.agg #[.int .i64 wide, .slice plots_a plots.length plots_c]] F (.int .i64 r) := by
 refine spec_of_shW (args := [.agg #[.int .i64 wide, .slice plots_a plots.length plots_c]]) Tryz.func72 rfl Tryz.ntmps72 (Nat.le_of_ble_eq_true rfl) ?_
 intro K _ _; rw [hear_Check] at hr
 refine wsr ?_
 refine o_box rfl rfl ?_; intro b1 hb1
 refine oa rfl rfl (shO_nil (shW_seq ?_))
 refine shW_block ?_
 obtain ⟨k, h2, r3⟩ := b1_ok hr; clear hr
 refine shW_join (fun e1 F1 L1 => F = F1 ∧ L1 = [(b1, .cells #[.int .i64 wide, .slice plots_a plots.length plots_c] 56 (0, 0))] ∧ e1.sub [(1, .pointer (some ⟨b1, 0, none⟩)), (3, .bool k)]) ?_ ?_
 · clear r3
   refine shW_region ?_
   refine ov (v_fieldAddr fa_56_0 rfl) rfl ?_
   refine ov (v_load Tryz.isAgg3 rfl (Has.own 0 rfl) rfl) rfl ?_
   obtain ⟨ok, h4, r5⟩ := b1_ok h2; clear h2
   refine o_callV rfl Tryz.call75 rfl rfl rfl (hear_in_w h4) ?_
   refine ov (v_notB rfl) rfl ?_
   refine om rfl rfl ?_
   rcases bool_two (!ok) with c6 | c6
   · have r7 := bt r5 c6; clear r5
     refine shO_off (b' := true) 8 rfl (EnvB rfl c6) rfl rfl (shO_off (b' := true) 8 rfl (EnvB rfl c6) rfl rfl (shO_off (b' := true) 8 rfl (EnvB rfl c6) rfl rfl (shO_off (b' := true) 8 rfl (EnvB rfl c6) rfl rfl (shO_off (b' := true) 8 rfl (EnvB rfl c6) rfl rfl ?_))))
     refine ov (v_pick_t (evB rfl c6) rfl) rfl ?_
     refine om rfl rfl (shO_off (b' := true) 15 rfl rfl rfl rfl (shO_off (b' := true) 15 rfl rfl rfl rfl (shO_off (b' := true) 15 rfl rfl rfl rfl (shO_off (b' := true) 15 rfl rfl rfl rfl (shO_off (b' := true) 15 rfl rfl rfl rfl (shO_off (b' := true) 15 rfl rfl rfl rfl (shO_off (b' := true) 15 rfl rfl rfl rfl ?_)))))))
     refine ov (v_pick_t rfl rfl) rfl ?_
     refine oa rfl rfl (shO_nil ?_)
     obtain rfl := inj1 r7
     exact mi kr ⟨rfl, rfl, (sc rfl (sc rfl (sn _)))⟩
   have r8 := bf r5 c6; clear r5
   refine shO_on (b := false) 8 rfl (EnvB rfl c6) ?_
   refine ov (v_fieldAddr fa_56_1 rfl) rfl ?_
   refine shO_on (b := false) 8 rfl (EnvB rfl c6) ?_
   refine ov (v_load Tryz.isAgg54 rfl (Has.own 0 rfl) rfl) rfl ?_
   refine shO_on (b := false) 8 rfl (EnvB rfl c6) ?_
   refine ov (v_lenS Tryz.underlying54 rfl) rfl ?_
   refine shO_on (b := false) 8 rfl (EnvB rfl c6) ?_
   obtain ⟨ok2, h9, r10⟩ := b1_ok r8; clear r8
   refine o_callV rfl Tryz.call75 rfl rfl rfl (hear_in_w h9) ?_
   refine shO_on (b := false) 8 rfl (EnvB rfl c6) ?_
   refine ov (v_notB rfl) rfl ?_
   refine ov (v_pick_f (evB rfl c6) rfl) rfl ?_
   refine om rfl rfl ?_
   rcases bool_two (!ok2) with c11 | c11
   · have r12 := bt r10 c11; clear r10
     refine shO_off (b' := true) 15 rfl (EnvB rfl c11) rfl rfl (shO_off (b' := true) 15 rfl (EnvB rfl c11) rfl rfl (shO_off (b' := true) 15 rfl (EnvB rfl c11) rfl rfl (shO_off (b' := true) 15 rfl (EnvB rfl c11) rfl rfl (shO_off (b' := true) 15 rfl (EnvB rfl c11) rfl rfl (shO_off (b' := true) 15 rfl (EnvB rfl c11) rfl rfl (shO_off (b' := true) 15 rfl (EnvB rfl c11) rfl rfl ?_))))))
     refine ov (v_pick_t (evB rfl c11) rfl) rfl ?_
     refine oa rfl rfl (shO_nil ?_)
     obtain rfl := inj1 r12
     exact mi kr ⟨rfl, rfl, (sc rfl (sc rfl (sn _)))⟩
   have r13 := bf r10 c11; clear r10
   refine shO_on (b := false) 15 rfl (EnvB rfl c11) ?_
   refine ov (v_fieldAddr fa_56_1 rfl) rfl ?_
   refine shO_on (b := false) 15 rfl (EnvB rfl c11) ?_
   refine ov (v_load Tryz.isAgg54 rfl (Has.own 0 rfl) rfl) rfl ?_
   refine shO_on (b := false) 15 rfl (EnvB rfl c11) ?_
   refine ov (v_lenS Tryz.underlying54 rfl) rfl ?_
   refine shO_on (b := false) 15 rfl (EnvB rfl c11) ?_
   refine ov (v_fieldAddr fa_56_0 rfl) rfl ?_
   refine shO_on (b := false) 15 rfl (EnvB rfl c11) ?_
   refine ov (v_load Tryz.isAgg3 rfl (Has.own 0 rfl) rfl) rfl ?_
   refine shO_on (b := false) 15 rfl (EnvB rfl c11) ?_
   obtain ⟨g14, r15⟩ := gd_ok r13; clear r13
   refine ov (v_remT rfl rfl g14) rfl ?_
   refine shO_on (b := false) 15 rfl (EnvB rfl c11) ?_
   refine ov (v_neq rfl rfl) rfl ?_
   refine ov (v_pick_f (evB rfl c11) rfl) rfl ?_
   refine oa rfl rfl (shO_nil ?_)
   obtain rfl := inj1 r15
   exact mi kr ⟨rfl, rfl, (sc rfl (sc rfl (sn _)))⟩
 rintro e1 _ _ ⟨rfl, rfl, he16⟩
 refine shW_env _ he16 ?_; clear he16
 refine shW_cond rfl (fun c17 => ?_) (fun c17 => ?_)
 · have r18 := bt r3 c17; clear r3
   refine wsr (oa rfl rfl (shO_nil ?_))
   refine kW kn ?_
   refine shW_ret (inBlock_ret (andThen_ret ?_))
   refine q_res1 Tryz.results72 (res_tmp rfl) (sr) ?_
   obtain rfl := inj1 r18
   exact rfl
 have r19 := bf r3 c17; clear r3
 refine wsr ?_
 refine ov (v_fieldAddr fa_56_1 rfl) rfl ?_
 refine ov (v_load Tryz.isAgg54 rfl (Has.own 0 rfl) rfl) rfl ?_
 have hn20 : FnR Tryz.prog F 113 #[] #[] (iE .i64) Value.bool (fun xx_ : Int => hear_Check_1 xx_) := ⟨Tryz.call113, fun F2 h2 vs xx_ r ha hr => by obtain rfl := ha; exact hear_Check_1_w hr⟩
 obtain ⟨ok3, h21, r22⟩ := b1_ok r19; clear r19
 refine o_callV rfl Tryz.call112 rfl rfl rfl (hear_every_Plot_w h_plots hn20 h21) ?_
 refine ov (v_notB rfl) rfl ?_
 refine oa rfl rfl (shO_nil ?_)
 refine shW_cond rfl (fun c23 => ?_) (fun c23 => ?_)
 · have r24 := bt r22 c23; clear r22
   refine wsr (oa rfl rfl (shO_nil ?_))
   refine kW kn ?_
   refine shW_ret (inBlock_ret (andThen_ret ?_))
   refine q_res1 Tryz.results72 (res_tmp rfl) (sr) ?_
   obtain rfl := inj1 r24
   exact rfl
 have r25 := bf r22 c23; clear r22
 refine wsr ?_
 refine ov (v_loadA (cs := #[.int .i64 wide, .slice plots_a plots.length plots_c]) Tryz.isAgg56 Tryz.sizeOf56 rfl (Has.own 0 rfl) (Nat.le_of_ble_eq_true rfl) rfl) rfl ?_
 obtain ⟨n, h26, r27⟩ := b1_ok r25; clear r25
 refine o_callV rfl Tryz.call114 rfl rfl rfl (hear_Town_houses_w h_plots h26) ?_
 refine ov (v_gtrK rfl rfl) rfl ?_
 refine oa rfl rfl (shO_nil ?_)
 refine shW_condP rfl (fun c28 => ?_) (fun c28 => ?_)
 · have r29 := ite_t r27 c28; clear r27
   refine wsr (oa rfl rfl (shO_nil ?_))
   refine kW kn ?_
   refine shW_ret (inBlock_ret (andThen_ret ?_))
   refine q_res1 Tryz.results72 (res_tmp rfl) (sr) ?_
   obtain rfl := inj1 r29
   exact rfl
 have r30 := ite_f r27 c28; clear r27
 refine shW_skip (inBlock_n (id := 0) (wsr (oa rfl rfl (shO_nil ?_))))
 refine kW kn ?_
 refine shW_ret ?_
 refine q_res1 Tryz.results72 (res_tmp rfl) (sr) ?_
 obtain rfl := inj1 r30
 exact rfl
set_option maxHeartbeats 1000000 in
theorem hear_Dir_there_w {w : Int} {F : FS} {r : Bool} (hr : hear_Dir_there w = some r) :
    SpecV Tryz.prog 115 #[.int .i64 w] F (.bool r) := by
 refine spec_of_shW (args := [.int .i64 w]) Tryz.func115 rfl Tryz.ntmps115 (Nat.le_of_ble_eq_true rfl) ?_
 intro K _ _; rw [hear_Dir_there] at hr
 refine wsr (oa rfl rfl (nsr (om rfl rfl ?_)))
 obtain ⟨ok, h1, r2⟩ := b1_ok hr; clear hr
 refine o_callV rfl Tryz.call75 rfl rfl rfl (hear_in_w h1) ?_
 refine oa rfl rfl (shO_nil (shW_ret ?_))
 refine q_res1 Tryz.results115 (res_tmp rfl) (sr) ?_
 obtain rfl := inj1 r2
 exact rfl
set_option maxHeartbeats 1000000 in
theorem hear_CheckAir_w {wind : Int} {voice : Int} {F : FS} {r : Int} (hr : hear_CheckAir wind voice = some r) :
    SpecV Tryz.prog 73 #[.agg #[.int .i64 wind, .int .i64 voice]] F (.int .i64 r) := by
 refine spec_of_shW (args := [.agg #[.int .i64 wind, .int .i64 voice]]) Tryz.func73 rfl Tryz.ntmps73 (Nat.le_of_ble_eq_true rfl) ?_
 intro K _ _; rw [hear_CheckAir] at hr
 refine wsr ?_
 refine o_box rfl rfl ?_; intro b1 hb1
 refine oa rfl rfl (shO_nil (shW_seq ?_))
 obtain ⟨k, h2, r3⟩ := b1_ok hr; clear hr
 refine shW_join (fun e1 F1 L1 => F = F1 ∧ L1 = [] ∧ e1.sub [(12, .bool k)]) ?_ ?_
 · clear r3
   refine shW_region ?_
   refine ov (v_fieldAddr fa_60_0 rfl) rfl ?_
   refine ov (v_load Tryz.isAgg58 rfl (Has.own 0 rfl) rfl) rfl ?_
   obtain ⟨ok, h4, r5⟩ := b1_ok h2; clear h2
   refine o_callV rfl Tryz.call115 rfl rfl rfl (hear_Dir_there_w h4) ?_
   refine ov (v_notB rfl) rfl ?_
   refine om rfl rfl ?_
   rcases bool_two (!ok) with c6 | c6
   · have r7 := bt r5 c6; clear r5
     refine shO_off (b' := true) 7 rfl (EnvB rfl c6) rfl rfl (shO_off (b' := true) 7 rfl (EnvB rfl c6) rfl rfl (shO_off (b' := true) 7 rfl (EnvB rfl c6) rfl rfl (shO_off (b' := true) 7 rfl (EnvB rfl c6) rfl rfl ?_)))
     refine ov (v_pick_t (evB rfl c6) rfl) rfl ?_
     refine shO_nil ?_
     obtain rfl := inj1 r7
     exact mi kn ⟨rfl, rfl, (sc rfl (sn _))⟩
   have r8 := bf r5 c6; clear r5
   refine shO_on (b := false) 7 rfl (EnvB rfl c6) ?_
   refine ov (v_fieldAddr fa_60_1 rfl) rfl ?_
   refine shO_on (b := false) 7 rfl (EnvB rfl c6) ?_
   refine ov (v_load Tryz.isAgg3 rfl (Has.own 0 rfl) rfl) rfl ?_
   refine shO_on (b := false) 7 rfl (EnvB rfl c6) ?_
   obtain ⟨ok2, h9, r10⟩ := b1_ok r8; clear r8
   refine o_callV rfl Tryz.call75 rfl rfl rfl (hear_in_w h9) ?_
   refine shO_on (b := false) 7 rfl (EnvB rfl c6) ?_
   refine ov (v_notB rfl) rfl ?_
   refine ov (v_pick_f (evB rfl c6) rfl) rfl ?_
   refine shO_nil ?_
   obtain rfl := inj1 r10
   exact mi kn ⟨rfl, rfl, (sc rfl (sn _))⟩
 rintro e1 _ _ ⟨rfl, rfl, he11⟩
 refine shW_env _ he11 ?_; clear he11
 refine shW_cond rfl (fun c12 => ?_) (fun c12 => ?_)
 · have r13 := bt r3 c12; clear r3
   refine wsr (oa rfl rfl (shO_nil (shW_ret (andThen_ret ?_))))
   refine q_res1 Tryz.results73 (res_tmp rfl) (sr) ?_
   obtain rfl := inj1 r13
   exact rfl
 have r14 := bf r3 c12; clear r3
 refine shW_skip (wsr (oa rfl rfl (shO_nil (shW_ret ?_))))
 refine q_res1 Tryz.results73 (res_tmp rfl) (sr) ?_
 obtain rfl := inj1 r14
 exact rfl
set_option maxHeartbeats 1000000 in
theorem hear_Town_plot_w {wide : Int} {plots_a : Option Addr} {plots_c : Nat} {plots : List Int} {p : Int} {F : FS} (_h_plots : RowR 1 (iE .i64) F plots_a plots_c plots) {r : Bool} (hr : hear_Town_plot wide plots p = some r) :
    SpecV Tryz.prog 118 #[.agg #[.int .i64 wide, .slice plots_a plots.length plots_c], .int .i64 p] F (.bool r) := by
 refine spec_of_shW (args := [.agg #[.int .i64 wide, .slice plots_a plots.length plots_c], .int .i64 p]) Tryz.func118 rfl Tryz.ntmps118 (Nat.le_of_ble_eq_true rfl) ?_
 intro K _ _; rw [hear_Town_plot] at hr
 refine wsr ?_
 refine o_box rfl rfl ?_; intro b1 hb1
 refine oa rfl rfl (nsr (om rfl rfl ?_))
 refine ov (v_fieldAddr fa_56_1 rfl) rfl ?_
 refine ov (v_load Tryz.isAgg54 rfl (Has.own 0 rfl) rfl) rfl ?_
 refine ov (v_lenS Tryz.underlying54 rfl) rfl ?_
 obtain ⟨g2, r3⟩ := gd_ok hr; clear hr
 refine ov (v_sub rfl rfl g2) rfl ?_
 obtain ⟨ok, h4, r5⟩ := b1_ok r3; clear r3
 refine o_callV rfl Tryz.call75 rfl rfl rfl (hear_in_w h4) ?_
 refine oa rfl rfl (shO_nil ?_)
 refine kW kn ?_
 refine shW_ret ?_
 refine q_res1 Tryz.results118 (res_tmp rfl) (sr) ?_
 obtain rfl := inj1 r5
 exact rfl
set_option maxHeartbeats 1000000 in
theorem hear_Town_is_w {wide : Int} {plots_a : Option Addr} {plots_c : Nat} {plots : List Int} {p : Int} {kind : Int} {F : FS} (h_plots : RowR 1 (iE .i64) F plots_a plots_c plots) {r : Int} (hr : hear_Town_is wide plots p kind = some r) :
    SpecV Tryz.prog 77 #[.agg #[.int .i64 wide, .slice plots_a plots.length plots_c], .int .i64 p, .int .i64 kind] F (.int .i64 r) := by
 refine spec_of_shW (args := [.agg #[.int .i64 wide, .slice plots_a plots.length plots_c], .int .i64 p, .int .i64 kind]) Tryz.func77 rfl Tryz.ntmps77 (Nat.le_of_ble_eq_true rfl) ?_
 intro K _ _; rw [hear_Town_is] at hr
 refine wsr ?_
 refine o_box rfl rfl ?_; intro b1 hb1
 refine oa rfl rfl (shO_nil (shW_seq ?_))
 refine shW_block ?_
 refine wsr ?_
 refine ov (v_loadA (cs := #[.int .i64 wide, .slice plots_a plots.length plots_c]) Tryz.isAgg56 Tryz.sizeOf56 rfl (Has.own 0 rfl) (Nat.le_of_ble_eq_true rfl) rfl) rfl ?_
 refine om rfl rfl ?_
 obtain ⟨ok, h2, r3⟩ := b1_ok hr; clear hr
 refine o_callV rfl Tryz.call118 rfl rfl rfl (hear_Town_plot_w h_plots h2) ?_
 refine ov (v_notB rfl) rfl ?_
 refine oa rfl rfl (shO_nil ?_)
 refine shW_cond rfl (fun c4 => ?_) (fun c4 => ?_)
 · have r5 := bt r3 c4; clear r3
   refine wsr (oa rfl rfl (shO_nil ?_))
   refine kW kn ?_
   refine shW_ret (inBlock_ret (andThen_ret ?_))
   refine q_res1 Tryz.results77 (res_tmp rfl) (sr) ?_
   obtain rfl := inj1 r5
   exact rfl
 have r6 := bf r3 c4; clear r3
 refine wsr ?_
 refine ov (v_fieldAddr fa_56_1 rfl) rfl ?_
 refine ov (v_load Tryz.isAgg54 rfl (Has.own 0 rfl) rfl) rfl ?_
 refine om rfl rfl ?_
 obtain ⟨x, g7, hx8, r9⟩ := ix_ok r6; clear r6
 obtain ⟨b10, o11, c12, vs13, ha14, hs15, hle16, rfl, hl17, hc18⟩ := RowR.at (iE_ok _) h_plots ([(b1, .cells #[.int .i64 wide, .slice plots_a plots.length plots_c] 56 (0, 0))]) g7.1 hx8
 refine ov (v_indexO Tryz.underlying54 Tryz.sizeOf62 rfl ha14 rfl g7) rfl ?_
 refine ov (v_load Tryz.isAgg62 rfl hs15 (hc18 0 (by decide))) rfl ?_
 refine om rfl rfl ?_
 refine ov (v_neq rfl rfl) rfl ?_
 refine oa rfl rfl (shO_nil ?_)
 refine shW_condP rfl (fun c19 => ?_) (fun c19 => ?_)
 · have r20 := ite_t r9 c19; clear r9
   refine wsr (oa rfl rfl (shO_nil ?_))
   refine kW kn ?_
   refine shW_ret (inBlock_ret (andThen_ret ?_))
   refine q_res1 Tryz.results77 (res_tmp rfl) (sr) ?_
   obtain rfl := inj1 r20
   exact rfl
 have r21 := ite_f r9 c19; clear r9
 refine shW_skip (inBlock_n (id := 0) (wsr (oa rfl rfl (shO_nil ?_))))
 refine kW kn ?_
 refine shW_ret ?_
 refine q_res1 Tryz.results77 (res_tmp rfl) (sr) ?_
 obtain rfl := inj1 r21
 exact rfl
set_option maxHeartbeats 1000000 in
theorem hear_steps_w {F : FS} {r : List (Int × (Int × Int))} (hr : hear_steps = some r) :
    SH.Spec Tryz.prog 164 #[] F [] fun _ L' v => ∃ (rb : Nat) (res : Array MapEntry) (rcl : Nat), v = .map (some rb) ∧ L' = [(rb, .map res rcl)] ∧ MapR (Value.int .i64) (vA (cP (cI .i64) (cI .i64))) res r := by
 refine spec_of_shW (args := []) Tryz.func164 rfl Tryz.ntmps164 (Nat.le_of_ble_eq_true rfl) ?_
 intro K _ _; rw [hear_steps] at hr
 refine wsr (oa rfl rfl (nsr ?_))
 refine o_makeMap rfl ?_; intro b1 hb1
 refine ov (v_build (v := .agg #[.int .i64 (-1), .int .i64 0]) rfl (by intro w; kernel_rfl)) rfl ?_
 refine o_insert (i := 0) (k := 1) (v := (-1, 0)) Tryz.underlying240 (keyOK_int Tryz.underlying58) rfl rfl rfl rfl (show MapR (Value.int .i64) (vA (cP (cI .i64) (cI .i64))) #[] ([] : List (Int × (Int × Int))) from MapR.nil) ?_; intro es2 cl3 hR4
 obtain ⟨met, h5, r6⟩ := bv_ok hr; clear hr
 rw [← h5] at hR4
 refine shO_L (L' := [(b1, .map es2 cl3)]) rfl ?_
 refine ov (v_build (v := .agg #[.int .i64 0, .int .i64 1]) rfl (by intro w; kernel_rfl)) rfl ?_
 refine o_insert (i := 0) (k := 2) (v := (0, 1)) Tryz.underlying240 (keyOK_int Tryz.underlying58) rfl rfl rfl rfl (show MapR (Value.int .i64) (vA (cP (cI .i64) (cI .i64))) es2 (met : List (Int × (Int × Int))) from hR4) ?_; intro es7 cl8 hR9
 obtain ⟨met2, h10, r11⟩ := bv_ok r6; clear r6
 rw [← h10] at hR9
 refine shO_L (L' := [(b1, .map es7 cl8)]) rfl ?_
 refine ov (v_build (v := .agg #[.int .i64 1, .int .i64 0]) rfl (by intro w; kernel_rfl)) rfl ?_
 refine o_insert (i := 0) (k := 3) (v := (1, 0)) Tryz.underlying240 (keyOK_int Tryz.underlying58) rfl rfl rfl rfl (show MapR (Value.int .i64) (vA (cP (cI .i64) (cI .i64))) es7 (met2 : List (Int × (Int × Int))) from hR9) ?_; intro es12 cl13 hR14
 obtain ⟨met3, h15, r16⟩ := bv_ok r11; clear r11
 rw [← h15] at hR14
 refine shO_L (L' := [(b1, .map es12 cl13)]) rfl ?_
 refine ov (v_build (v := .agg #[.int .i64 0, .int .i64 (-1)]) rfl (by intro w; kernel_rfl)) rfl ?_
 refine o_insert (i := 0) (k := 4) (v := (0, -1)) Tryz.underlying240 (keyOK_int Tryz.underlying58) rfl rfl rfl rfl (show MapR (Value.int .i64) (vA (cP (cI .i64) (cI .i64))) es12 (met3 : List (Int × (Int × Int))) from hR14) ?_; intro es17 cl18 hR19
 obtain ⟨met4, h20, r21⟩ := bv_ok r16; clear r16
 rw [← h20] at hR19
 refine shO_L (L' := [(b1, .map es17 cl18)]) rfl ?_
 refine om rfl rfl (oa rfl rfl (shO_nil (shW_ret ?_)))
 refine q_res1 Tryz.results164 (res_tmp rfl) (sr) ?_
 obtain rfl := inj1 r21
 exact ⟨_, _, _, rfl, rfl, hR19⟩
set_option maxHeartbeats 1000000 in
theorem hear_opened_w {wide : Int} {plots_a : Option Addr} {plots_c : Nat} {plots : List Int} {wind : Int} {F : FS} (h_plots : RowR 1 (iE .i64) F plots_a plots_c plots) {r : Option (Int × (List Int) × Int × Int × Bool)} {r2 : Int} (hr : hear_opened wide plots wind = some (r, r2)) :
    SH.Spec Tryz.prog 145 #[.agg #[.int .i64 wide, .slice plots_a plots.length plots_c], .int .i64 wind] F [] fun F' L' v => ∃ (rv : Value), v = .tuple #[rv, .int .i64 r2] ∧ L' = [] ∧ PtrR 229 (prE (iE .i64) (prE (slE 1 (iE .i64)) (prE (iE .i64) (prE (iE .i64) bE)))) F' rv r := by
 refine spec_of_shW (args := [.agg #[.int .i64 wide, .slice plots_a plots.length plots_c], .int .i64 wind]) Tryz.func145 rfl Tryz.ntmps145 (Nat.le_of_ble_eq_true rfl) ?_
 intro K _ _; rw [hear_opened] at hr
 refine wsr ?_
 refine o_box rfl rfl ?_; intro b1 hb1
 refine oa rfl rfl (oa rfl rfl (shO_nil (shW_seq (wsr ?_))))
 refine ov (v_loadA (cs := #[.int .i64 wide, .slice plots_a plots.length plots_c]) Tryz.isAgg56 Tryz.sizeOf56 rfl (Has.own 0 rfl) (Nat.le_of_ble_eq_true rfl) rfl) rfl ?_
 obtain ⟨n, h2, r3⟩ := b1_ok hr; clear hr
 refine o_callV rfl Tryz.call72 rfl rfl rfl (hear_Check_w h_plots h2) ?_
 refine oa rfl rfl (nsr (om rfl rfl ?_))
 refine ov (v_neq rfl rfl) rfl ?_
 refine shO_nil ?_
 refine shW_condP rfl (fun c4 => ?_) (fun c4 => ?_)
 · have r5 := ite_t r3 c4; clear r3
   refine wsr (om rfl rfl (oa rfl rfl (oa rfl rfl (shO_nil ?_))))
   refine kW kn ?_
   refine shW_ret (andThen_ret ?_)
   refine q_res2 Tryz.results145 (res_tmp rfl) (res_tmp rfl) (sr) ?_
   obtain ⟨rfl, rfl⟩ := inj2 r5
   exact ⟨_, rfl, rfl, rfl⟩
 have r6 := ite_f r3 c4; clear r3
 refine shW_skip (shW_seq (wsr (om rfl rfl ?_)))
 obtain ⟨ok, h7, r8⟩ := b1_ok r6; clear r6
 refine o_callV rfl Tryz.call115 rfl rfl rfl (hear_Dir_there_w h7) ?_
 refine ov (v_notB rfl) rfl ?_
 refine shO_nil ?_
 refine shW_cond rfl (fun c9 => ?_) (fun c9 => ?_)
 · have r10 := bt r8 c9; clear r8
   refine wsr (oa rfl rfl (oa rfl rfl (shO_nil ?_)))
   refine kW kn ?_
   refine shW_ret (andThen_ret ?_)
   refine q_res2 Tryz.results145 (res_tmp rfl) (res_tmp rfl) (sr) ?_
   obtain ⟨rfl, rfl⟩ := inj2 r10
   exact ⟨_, rfl, rfl, rfl⟩
 have r11 := bf r8 c9; clear r8
 refine shW_skip (wsr ?_)
 obtain ⟨m, h12, r13⟩ := b1_ok r11; clear r11
 refine o_call0 rfl Tryz.call164 rfl rfl rfl (hear_steps_w h12) ?_; rintro _ F14 _ hF15 hn16 ⟨b18, es19, cl20, rfl, rfl, hR21⟩
 replace h_plots := h_plots.mono (iE_ok _) hF15
 refine shO_L (lb (ln rfl)) ?_
 refine om rfl rfl ?_
 refine ov (OpV.eq (v' := .tuple #[.agg #[.int .i64 (((mget m wind).getD (0, 0)).1), .int .i64 (((mget m wind).getD (0, 0)).2)], .bool ((mget m wind).isSome)]) (v_lookS2 (k := wind) (z0 := (0, 0)) rfl Tryz.underlying240 (keyOK_int Tryz.underlying58) Tryz.zeroValue227 rfl rfl (HasM.own 0 rfl) (show MapR (Value.int .i64) (vA (cP (cI .i64) (cI .i64))) es19 (m : List (Int × (Int × Int))) from hR21)) rfl) rfl ?_
 refine om rfl rfl (ox rfl rfl rfl (ox rfl rfl rfl ?_))
 refine o_alloc rfl Tryz.zeroValue227 ?_; intro b22 hb22
 refine o_storeA (i := 0) Tryz.sizeOf227 rfl rfl rfl (by simp [Value.oneCell']) rfl (Nat.le_of_ble_eq_true rfl) ?_
 refine shO_L (L' := [(b22, .cells #[.int .i64 (((mget m wind).getD (0, 0)).1), .int .i64 (((mget m wind).getD (0, 0)).2)] 227 (0, 0)), (b18, .map es19 cl20), (b1, .cells #[.int .i64 wide, .slice plots_a plots.length plots_c] 56 (0, 0))]) rfl ?_
 refine oa rfl rfl (nsr ?_)
 refine ov (v_loadA (cs := #[.int .i64 wide, .slice plots_a plots.length plots_c]) Tryz.isAgg56 Tryz.sizeOf56 rfl (Has.own 2 rfl) (Nat.le_of_ble_eq_true rfl) rfl) rfl ?_
 refine ov (v_loadA (cs := #[.int .i64 (((mget m wind).getD (0, 0)).1), .int .i64 (((mget m wind).getD (0, 0)).2)]) Tryz.isAgg227 Tryz.sizeOf227 rfl (Has.own 0 rfl) (Nat.le_of_ble_eq_true rfl) rfl) rfl ?_
 refine om rfl rfl ?_
 refine ov (v_build (v := .agg #[.int .i64 wide, .slice plots_a plots.length plots_c, .int .i64 (((mget m wind).getD (0, 0)).1), .int .i64 (((mget m wind).getD (0, 0)).2), .bool ((mget m wind).isSome)]) rfl (by intro w; kernel_rfl)) rfl ?_
 refine o_box rfl rfl ?_; intro b23 hb23
 refine oa rfl rfl (oa rfl rfl (shO_nil ?_))
 refine shW_freeze 0 rfl hb23 ?_; intro F24 hF25 hz26
 refine shW_L (L' := [(b22, .cells #[.int .i64 (((mget m wind).getD (0, 0)).1), .int .i64 (((mget m wind).getD (0, 0)).2)] 227 (0, 0)), (b18, .map es19 cl20), (b1, .cells #[.int .i64 wide, .slice plots_a plots.length plots_c] 56 (0, 0))]) rfl ?_
 replace h_plots := h_plots.mono (iE_ok _) hF25
 refine kW kn ?_
 refine shW_ret ?_
 refine q_res2 Tryz.results145 (res_tmp rfl) (res_tmp rfl) (sr) ?_
 obtain ⟨rfl, rfl⟩ := inj2 r13
 exact ⟨_, rfl, rfl, ⟨_, _, _, rfl, hz26, ⟨_, _, rfl, rfl, ⟨_, _, rfl, ⟨_, _, rfl, h_plots⟩, ⟨_, _, rfl, rfl, ⟨_, _, rfl, rfl, rfl⟩⟩⟩⟩⟩⟩
end Go.Proofs.YtodhcoakjlmcdaaGreat
