/- The walks that this claim needs, printed by a program of mine; part 1. -/
import Derived.Test.YtfmapnhfamoecaaZFTf
import Derived.Test.YtfmapnhfamoecaaZFTd
namespace Go.Proofs.Ytfmapnhfamoecaa
open Go.SH Go.PL
set_option maxHeartbeats 1000000 in
theorem oyezkit_Bell_ring_w {b_b : Nat} {metal_a : Option Addr} {metal_c : Nat} {metal : List Int} {at_ turn : Int} {F : FS} (h_metal : RowR 1 (iE .u8) F metal_a metal_c metal) {r r2 r3 : Int} (hr : oyezkit_Bell_ring metal at_ turn = some (r, r2, r3)) :
    SH.Spec Try.prog 51 #[.pointer (some ⟨b_b, 0, none⟩)] F [(b_b, .cells #[.slice metal_a metal.length metal_c, .int .i64 at_, .int .u32 turn] 66 (0, 0))] fun _ L' v => v = .int .i64 r ∧ L' = [(b_b, .cells #[.slice metal_a metal.length metal_c, .int .i64 r2, .int .u32 r3] 66 (0, 0))] := by
 refine spec_of_shW (args := [.pointer (some ⟨b_b, 0, none⟩)]) Try.func51 rfl Try.ntmps51 (nbL rfl) ?_
 intro K _ _; rw [oyezkit_Bell_ring] at hr
 refine wsr (oa rfl rfl (shO_nil ?_))
 obtain ⟨b_at, b_turn, h1, r4⟩ := b2_ok hr
 refine shW_join (fun e1 F1 L1 => F = F1 ∧ L1 = [(b_b, .cells #[.slice metal_a metal.length metal_c, .int .i64 b_at, .int .u32 b_turn] 66 (0, 0))] ∧ e1.sub [(0, .pointer (some ⟨b_b, 0, none⟩))]) ?_ ?_
 · clear r4
   refine wsd (by kernel_rfl) (by kernel_rfl) (by kernel_rfl) ?_
   refine qm rfl rfl ?_
   refine qv (v_nilCheck rfl) rfl ?_
   refine qv (v_fieldAddr fa_66_1 rfl) rfl ?_
   refine qv (v_load Try.isAgg3 rfl (Has.own 0 rfl) rfl) rfl ?_
   refine qm rfl rfl ?_
   refine qv (v_nilCheck rfl) rfl ?_
   refine qv (v_fieldAddr fa_66_0 rfl) rfl ?_
   refine qv (v_load Try.isAgg22 rfl (Has.own 0 rfl) rfl) rfl ?_
   refine qv (v_lenS Try.underlying22 rfl) rfl ?_
   refine qv (v_eql rfl rfl) rfl ?_
   refine shQ_nil ?_
   refine shW_condP rfl (fun c5 => ?_) (fun c5 => ?_)
   · have r6 := ite_t h1 c5
     refine shW_region (om rfl rfl (om rfl rfl (om rfl rfl ?_)))
     refine ov (v_nilCheck rfl) rfl ?_
     refine ov (v_fieldAddr fa_66_2 rfl) rfl ?_
     refine ov (v_load Try.isAgg64 rfl (Has.own 0 rfl) rfl) rfl ?_
     refine ov (u_add rfl rfl rfl) rfl ?_
     refine ov (v_nilCheck rfl) rfl ?_
     refine ov (v_fieldAddr fa_66_1 rfl) rfl ?_
     refine o_store (i := 0) Try.sizeOf3 rfl rfl rfl rfl (nbL rfl) ?_
     refine shO_L (L' := [(b_b, .cells #[.slice metal_a metal.length metal_c, .int .i64 0, .int .u32 turn] 66 (0, 0))]) rfl ?_
     refine ov (v_nilCheck rfl) rfl ?_
     refine ov (v_fieldAddr fa_66_2 rfl) rfl ?_
     refine o_store (i := 0) Try.sizeOf64 rfl rfl rfl rfl (nbL rfl) ?_
     refine shO_L (L' := [(b_b, .cells #[.slice metal_a metal.length metal_c, .int .i64 0, .int .u32 ((turn + 1) % 4294967296)] 66 (0, 0))]) rfl ?_
     refine shO_nil ?_
     obtain ⟨rfl, rfl⟩ := inj2 r6
     exact mi kr ⟨rfl, rfl, (sc rfl (sn _))⟩
   have r7 := ite_f h1 c5
   refine shW_skip ?_
   obtain ⟨rfl, rfl⟩ := inj2 r7
   exact mi kr ⟨rfl, rfl, (sc rfl (sn _))⟩
 rintro e1 _ _ ⟨rfl, rfl, he8⟩
 refine shW_env _ he8 ?_
 refine wsr (om rfl rfl ?_)
 refine ov (v_nilCheck rfl) rfl ?_
 refine ov (v_fieldAddr fa_66_2 rfl) rfl ?_
 refine ov (v_load Try.isAgg64 rfl (Has.own 0 rfl) rfl) rfl ?_
 refine ov (u_mul rfl rfl rfl) rfl ?_
 obtain ⟨n, h9, r10⟩ := bv_ok r4
 refine ov ((v_assign rfl).i h9) rfl ?_
 refine shO_nil ?_
 obtain ⟨n2, b_at2, h11, r12⟩ := b2_ok r10
 refine shW_join (fun e1 F1 L1 => F = F1 ∧ L1 = [(b_b, .cells #[.slice metal_a metal.length metal_c, .int .i64 b_at2, .int .u32 b_turn] 66 (0, 0))] ∧ e1.sub [(3, .int .u32 n2)]) ?_ ?_
 · clear r12
   refine wsr (om rfl rfl ?_)
   refine ov (v_nilCheck rfl) rfl ?_
   refine ov (v_fieldAddr fa_66_0 rfl) rfl ?_
   refine ov (v_load Try.isAgg22 rfl (Has.own 0 rfl) rfl) rfl ?_
   refine ov (v_lenS Try.underlying22 rfl) rfl ?_
   refine ov (v_gtrK rfl rfl) rfl ?_
   refine shO_nil ?_
   refine shW_condP rfl (fun c13 => ?_) (fun c13 => ?_)
   · have r14 := ite_t h11 c13
     refine wsd (by kernel_rfl) (by kernel_rfl) (by kernel_rfl) ?_
     refine qm rfl rfl (qm rfl rfl ?_)
     refine qv (v_nilCheck rfl) rfl ?_
     refine qv (v_fieldAddr fa_66_0 rfl) rfl ?_
     refine qv (v_load Try.isAgg22 rfl (Has.own 0 rfl) rfl) rfl ?_
     refine qm rfl rfl ?_
     refine qv (v_nilCheck rfl) rfl ?_
     refine qv (v_fieldAddr fa_66_1 rfl) rfl ?_
     refine qv (v_load Try.isAgg3 rfl (Has.own 0 rfl) rfl) rfl ?_
     obtain ⟨x, g15, hx16, r17⟩ := ix_ok r14
     obtain ⟨b18, o19, c20, vs21, ha22, hs23, hle24, rfl, hl25, hc26⟩ := RowR.at (iE_ok _) h_metal ([(b_b, .cells #[.slice metal_a metal.length metal_c, .int .i64 b_at, .int .u32 b_turn] 66 (0, 0))]) g15.1 hx16
     refine qv (v_indexO Try.underlying22 Try.sizeOf5 rfl ha22 rfl g15) rfl ?_
     refine qv (v_load Try.isAgg5 rfl hs23 (hc26 0 (by decide))) rfl ?_
     refine qv (u_conv rfl Try.underlying5 Try.underlying64 rfl) rfl ?_
     refine qv (u_mul rfl rfl rfl) rfl ?_
     refine qv (u_add rfl rfl rfl) rfl ?_
     obtain ⟨n3, h27, r28⟩ := bv_ok r17
     refine qv ((v_assign rfl).i h27) rfl ?_
     refine shQ_nil (shW_region (om rfl rfl ?_))
     refine ov (v_nilCheck rfl) rfl ?_
     refine ov (v_fieldAddr fa_66_1 rfl) rfl ?_
     refine ov (v_load Try.isAgg3 rfl (Has.own 0 rfl) rfl) rfl ?_
     obtain ⟨g29, r30⟩ := gd_ok r28
     refine ov (v_add rfl rfl g29) rfl ?_
     refine ov (v_nilCheck rfl) rfl ?_
     refine ov (v_fieldAddr fa_66_1 rfl) rfl ?_
     refine o_store (i := 0) Try.sizeOf3 rfl rfl rfl rfl (nbL rfl) ?_
     refine shO_L (L' := [(b_b, .cells #[.slice metal_a metal.length metal_c, .int .i64 (b_at + 1), .int .u32 b_turn] 66 (0, 0))]) rfl ?_
     refine shO_nil ?_
     obtain ⟨rfl, rfl⟩ := inj2 r30
     exact mi kr ⟨rfl, rfl, (sc rfl (sn _))⟩
   have r31 := ite_f h11 c13
   refine shW_skip ?_
   obtain ⟨rfl, rfl⟩ := inj2 r31
   exact mi kr ⟨rfl, rfl, (sc rfl (sn _))⟩
 rintro e1 _ _ ⟨rfl, rfl, he32⟩
 refine shW_env _ he32 ?_
 refine wsr (om rfl rfl (om rfl rfl ?_))
 refine ov (v_shr rfl rfl (by decide)) rfl ?_
 refine ov (u_xor rfl rfl rfl) rfl ?_
 refine ov (u_and rfl rfl rfl) rfl ?_
 obtain ⟨g33, r34⟩ := gd_ok r12
 refine ov (i_conv Try.underlying64 Try.underlying3 rfl g33) rfl ?_
 refine oa rfl rfl (shO_nil (shW_ret ?_))
 refine q_res1 Try.results51 (res_tmp rfl) (sr) ?_
 obtain ⟨rfl, rfl, rfl⟩ := inj3 r34
 exact ⟨rfl, rfl⟩
set_option maxHeartbeats 1000000 in
theorem oyezkit_Bell_Stroke_w {b_b : Nat} {metal_a : Option Addr} {metal_c : Nat} {metal : List Int} {at_ turn n : Int} {F : FS} (h_metal : RowR 1 (iE .u8) F metal_a metal_c metal) {r r2 r3 : Int} (hr : oyezkit_Bell_Stroke metal at_ turn n = some (r, r2, r3)) :
    SH.Spec Try.prog 25 #[.pointer (some ⟨b_b, 0, none⟩), .int .i64 n] F [(b_b, .cells #[.slice metal_a metal.length metal_c, .int .i64 at_, .int .u32 turn] 66 (0, 0))] fun _ L' v => v = .int .i64 r ∧ L' = [(b_b, .cells #[.slice metal_a metal.length metal_c, .int .i64 r2, .int .u32 r3] 66 (0, 0))] := by
 refine spec_of_shW (args := [.pointer (some ⟨b_b, 0, none⟩), .int .i64 n]) Try.func25 rfl Try.ntmps25 (nbL rfl) ?_
 intro K _ _; rw [oyezkit_Bell_Stroke] at hr
 refine wsr (oa rfl rfl (nsr (om rfl rfl ?_)))
 obtain ⟨n2, at_2, turn2, h1, r4⟩ := b3_ok hr
 refine o_callG (Lb := [(b_b, .cells #[.slice metal_a metal.length metal_c, .int .i64 at_, .int .u32 turn] 66 (0, 0))]) (Lr := []) rfl Try.call51 rfl rfl rfl (pR) (oyezkit_Bell_ring_w h_metal h1) ?_; rintro _ F5 _ hF6 hd8 hn7 ⟨rfl, rfl⟩
 refine shO_L (lb (ln rfl)) ?_
 refine om rfl rfl ?_
 obtain ⟨g9, r10⟩ := gd_ok r4
 refine ov (v_add rfl rfl g9) rfl ?_
 refine ov (v_max2 rfl rfl) rfl ?_
 obtain ⟨g11, r12⟩ := gd_ok r10
 refine ov (v_remT rfl rfl g11) rfl ?_
 refine oa rfl rfl (shO_nil (shW_ret ?_))
 refine q_res1 Try.results25 (res_tmp rfl) (sr) ?_
 obtain ⟨rfl, rfl, rfl⟩ := inj3 r12
 exact ⟨rfl, rfl⟩
set_option maxHeartbeats 1000000 in
theorem oyezkit_Bell_Rung_w {b_b : Nat} {metal_a : Option Addr} {metal_c : Nat} {metal : List Int} {at_ turn n : Int} {F : FS} (h_metal : RowR 1 (iE .u8) F metal_a metal_c metal) {r : List Int} {r2 r3 : Int} (hr : oyezkit_Bell_Rung metal at_ turn n = some (r, r2, r3)) :
    SH.Spec Try.prog 19 #[.pointer (some ⟨b_b, 0, none⟩), .int .i64 n] F [(b_b, .cells #[.slice metal_a metal.length metal_c, .int .i64 at_, .int .u32 turn] 66 (0, 0))] fun F' L' v => ∃ (ra : Option Addr) (rn : Nat) (rc : Nat) (rL : LH), v = .slice ra rn rc ∧ L' = (b_b, .cells #[.slice metal_a metal.length metal_c, .int .i64 r2, .int .u32 r3] 66 (0, 0)) :: (rL ++ []) ∧ SlR 0 3 1 (iE .i64) F' ra rn rc r rL := by
 refine spec_of_shW (args := [.pointer (some ⟨b_b, 0, none⟩), .int .i64 n]) Try.func19 rfl Try.ntmps19 (nbL rfl) ?_
 intro K _ _; rw [oyezkit_Bell_Rung] at hr
 refine wsr (oa rfl rfl (nsr (oa rfl rfl (shO_nil ?_))))
 obtain ⟨out, b_at, b_turn, h7, r8⟩ := b3_ok hr
 refine shW_join (fun e1 F1 L1 => ∃ (a1 : Option Addr) (n5 : Nat) (c2 : Nat) (Lb3 : LH), FExt F F1 ∧ L1 = ((b_b, .cells #[.slice metal_a metal.length metal_c, .int .i64 b_at, .int .u32 b_turn] 66 (0, 0)) :: (Lb3 ++ [])) ∧ e1.sub [(5, .slice a1 n5 c2)] ∧ SlR K.w0.heap.size 3 1 (iE .i64) F1 a1 n5 c2 out Lb3) ?_ ?_
 · clear r8
   refine wsr (om rfl rfl ?_)
   refine ov (v_max2 rfl rfl) rfl ?_
   refine om rfl rfl (shO_nil ?_)
   refine shW_block ?_
   obtain ⟨g15, r16⟩ := gd_ok h7
   refine shW_lp (fun fu1 e1 F1 L1 => ∃ (k : Int), Ctr 0 (if n > 0 then n else 0) k fu1 ∧ ∃ (b_at2 : Int) (b_turn2 : Int) (out2 : List Int) (a9 : Option Addr) (n13 : Nat) (c10 : Nat) (Lb11 : LH), oyezkit_Bell_Rung_l1 metal fu1 k b_at2 b_turn2 out2 = some (out, b_at, b_turn) ∧ FExt F F1 ∧ L1 = ((b_b, .cells #[.slice metal_a metal.length metal_c, .int .i64 b_at2, .int .u32 b_turn2] 66 (0, 0)) :: (Lb11 ++ [])) ∧ e1.sub [(0, .pointer (some ⟨b_b, 0, none⟩)), (5, .slice a9 n13 c10), (9, .int .i64 (if n > 0 then n else 0)), (10, .int .i64 k)] ∧ SlR K.w0.heap.size 3 1 (iE .i64) F1 a9 n13 c10 out2 Lb11) _ (m0 (kc (ke kr)) ⟨_, Ctr.start _ _, at_, turn, [], none, 0, 0, [], r16, FExt.refl _, rfl, (sc rfl (sc rfl (sc rfl (sc rfl (sn _))))), SlR.nil _ _ _ _ _⟩) ?_
   rintro fu1 e1 F21 _ ⟨k, hk17, b_at2, b_turn2, out2, a9, n13, c10, Lb11, r19, hF22, rfl, he20, hz12⟩
   refine shW_env _ he20 ?_
   replace h_metal := h_metal.mono (iE_ok _) hF22
   refine wsr ?_
   refine ov (v_lssK rfl rfl) rfl ?_
   refine shO_nil (shW_seq ?_)
   refine shW_condP rfl (fun c24 => ?_) (fun c24 => ?_)
   · obtain ⟨fu1, rfl, hk25⟩ := Ctr.succ hk17 c24
     rw [oyezkit_Bell_Rung_l1] at r19
     refine shW_skip (shW_seq ?_)
     refine shW_block ?_
     refine wsr (om rfl rfl (oa rfl rfl (nsr (om rfl rfl (om rfl rfl ?_)))))
     obtain ⟨n2, at_2, turn2, h26, r27⟩ := b3_ok r19
     refine o_callG (Lb := [(b_b, .cells #[.slice metal_a metal.length metal_c, .int .i64 b_at2, .int .u32 b_turn2] 66 (0, 0))]) (Lr := Lb11 ++ []) rfl Try.call25 rfl rfl rfl (pR) (oyezkit_Bell_Stroke_w h_metal h26) ?_; rintro _ F28 _ hF29 hd31 hn30 ⟨rfl, rfl⟩
     replace hz12 := hz12.mono (iE_ok _) hF29
     refine shO_L (lb (ln rfl)) ?_
     refine oa rfl rfl (nsr (om rfl rfl (om rfl rfl ?_)))
     refine o_buildSlice (cs := #[.int .i64 k]) rfl rfl (buildSlice_all slt_30 [.int .i64 k] rfl (by decide) (by simp [Value.cells]) (by decide)) ?_; intro b32 hb32
     obtain ⟨out3, h33, g34, r35⟩ := ap_ok r27
     refine o_appZ (xs := out2) (ys := [k]) (zs := out3) rfl slt_30 rfl rfl (Nat.le_refl _) (fun _ => .c (.c .h)) hz12 (SrcR.box (vss := [[.int .i64 k]]) (ys := [k]) 0 rfl (iE_ok _) (.cons rfl .nil) rfl rfl) h33 g34 (by decide) ?_; intro a36 n40 c37 Lb38 hz39
     refine kO (kd kr) ?_
     refine oa rfl rfl (shO_nil ?_)
     refine shW_drawM [(.still, 0), (.still, 1), (.still, 2), (.still, 3), (.still, 4), (.still, 5), (.still, 6), (.still, 7), (.still, 8), (.still, 9), (.still, 10), (.still, 11), (.still, 12), (.seq, 13), (.still, 14), (.seq, 15)] (by kernel_rfl) (by kernel_rfl) (trivial) (by rfl) (by kernel_rfl) ?_
     refine shM_v (v := .slice a36 n40 c37) (ek := [(5, .slice a36 n40 c37)]) (Ls := []) rfl rfl rfl rfl ((sc rfl (sn _))) (by kernel_rfl) sm (fun H F' L' hF' hL' => v_move rfl) ?_
     refine shM_v (v := .int .i64 n2) (ek := [(7, .int .i64 n2)]) (Ls := []) rfl rfl rfl rfl ((sc rfl (sn _))) (by kernel_rfl) sm (fun H F' L' hF' hL' => v_move rfl) ?_
     refine shM_v (v := .slice a36 n40 c37) (ek := [(5, .slice a36 n40 c37)]) (Ls := []) rfl rfl rfl rfl ((sc rfl (sn _))) (by kernel_rfl) sm (fun H F' L' hF' hL' => v_move rfl) ?_
     refine shM_v (v := .int .i64 k) (ek := [(6, .int .i64 k)]) (Ls := []) rfl rfl rfl rfl ((sc rfl (sn _))) (by kernel_rfl) sm (fun H F' L' hF' hL' => v_move rfl) ?_
     refine shM_v (v := .slice a36 n40 c37) (ek := [(5, .slice a36 n40 c37)]) (Ls := []) rfl rfl rfl rfl ((sc rfl (sn _))) (by kernel_rfl) sm (fun H F' L' hF' hL' => v_move rfl) ?_
     refine shM_v (v := .int .i64 k) (ek := [(6, .int .i64 k)]) (Ls := []) rfl rfl rfl rfl ((sc rfl (sn _))) (by kernel_rfl) sm (fun H F' L' hF' hL' => v_move rfl) ?_
     obtain ⟨x, g42, hx43, r44⟩ := ix_ok r35
     obtain ⟨b45, o46, c47, vs48, ha49, hs50, hle51, rfl, hl52, hc53⟩ := SlR.at (iE_ok _) hz39 (L := Lb38 ++ []) fP g42.1 hx43
     refine shM_v (v := .pointer (some ⟨b45, o46 + (k : Int).toNat * 1, none⟩)) (ek := [(24, .slice a36 n40 c37), (25, .int .i64 k)]) (Ls := []) rfl rfl rfl rfl ((sc rfl (sc rfl (sn _)))) (by kernel_rfl) sm (fun H F' L' hF' hL' => v_indexO Try.underlying30 Try.sizeOf3 rfl ha49 rfl (SlR.idx hz39 g42)) ?_
     refine shM_v (v := .int .i64 x) (ek := [(26, .pointer (some ⟨b45, o46 + (k : Int).toNat * 1, none⟩))]) (Ls := Lb38 ++ []) rfl rfl rfl rfl ((sc rfl (sn _))) (by kernel_rfl) (s0 (s1 (s4 sr))) (fun H F' L' hF' hL' => v_load Try.isAgg3 rfl (hs50.ext hF' hL') (hc53 0 (by decide))) ?_
     refine shM_v (v := .slice a36 n40 c37) (ek := [(5, .slice a36 n40 c37)]) (Ls := []) rfl rfl rfl rfl ((sc rfl (sn _))) (by kernel_rfl) sm (fun H F' L' hF' hL' => v_move rfl) ?_
     refine shM_v (v := .int .i64 n2) (ek := [(7, .int .i64 n2)]) (Ls := []) rfl rfl rfl rfl ((sc rfl (sn _))) (by kernel_rfl) sm (fun H F' L' hF' hL' => v_move rfl) ?_
     obtain ⟨x2, g54, hx55, r56⟩ := ix_ok r44
     obtain ⟨b57, o58, c59, vs60, ha61, hs62, hle63, rfl, hl64, hc65⟩ := SlR.at (iE_ok _) hz39 (L := Lb38 ++ []) fP g54.1 hx55
     refine shM_v (v := .pointer (some ⟨b57, o58 + (n2 : Int).toNat * 1, none⟩)) (ek := [(28, .slice a36 n40 c37), (29, .int .i64 n2)]) (Ls := []) rfl rfl rfl rfl ((sc rfl (sc rfl (sn _)))) (by kernel_rfl) sm (fun H F' L' hF' hL' => v_indexO Try.underlying30 Try.sizeOf3 rfl ha61 rfl (SlR.idx hz39 g54)) ?_
     refine shM_v (v := .int .i64 x2) (ek := [(30, .pointer (some ⟨b57, o58 + (n2 : Int).toNat * 1, none⟩))]) (Ls := Lb38 ++ []) rfl rfl rfl rfl ((sc rfl (sn _))) (by kernel_rfl) (s0 (s1 (s4 sr))) (fun H F' L' hF' hL' => v_load Try.isAgg3 rfl (hs62.ext hF' hL') (hc65 0 (by decide))) ?_
     obtain ⟨b66, o67, c68, vs69, ha70, hs71, hle72, rfl, hl73, hc74⟩ := SlR.at (iE_ok _) hz39 (L := Lb38 ++ []) fP g54.1 hx55
     refine shM_v (v := .pointer (some ⟨b66, o67 + (n2 : Int).toNat * 1, none⟩)) (ek := [(20, .slice a36 n40 c37), (21, .int .i64 n2)]) (Ls := []) rfl rfl rfl rfl ((sc rfl (sc rfl (sn _)))) (by kernel_rfl) sm (fun H F' L' hF' hL' => v_indexO Try.underlying30 Try.sizeOf3 rfl ha70 rfl (SlR.idx hz39 g54)) ?_
     refine ⟨_, [(27, .int .i64 x), (32, .pointer (some ⟨b66, o67 + (n2 : Int).toNat * 1, none⟩))], rfl, rfl, (sc rfl (sc rfl (sn _))), by kernel_rfl, ?_⟩; intro H
     obtain ⟨l, h75, r76⟩ := bv_ok r56
     refine o_storeZ (u := x) Try.sizeOf3 (iE_ok _) rfl ha70 rfl rfl (fun _ => .c .h) hz39 h75 g54 ?_; intro Lb77 hz78
     refine shO_nil ⟨undef, rfl, FExt.refl _, [3, 2], by kernel_rfl, .inl (.inr (fun d h => by cases h)), (List.forall_mem_cons.2 ⟨sm, (List.forall_mem_cons.2 ⟨sm, (fun _ h => absurd h List.not_mem_nil)⟩)⟩), ?_⟩
     obtain ⟨x3, g79, hx80, r81⟩ := ix_ok r76
     obtain ⟨b82, o83, c84, vs85, ha86, hs87, hle88, rfl, hl89, hc90⟩ := SlR.at (iE_ok _) hz78 (L := Lb77 ++ []) fP g79.1 hx80
     refine shM_v (v := .pointer (some ⟨b82, o83 + (k : Int).toNat * 1, none⟩)) (ek := [(22, .slice a36 n40 c37), (23, .int .i64 k)]) (Ls := []) rfl rfl rfl rfl ((sc rfl (sc rfl (sn _)))) (by kernel_rfl) sm (fun H F' L' hF' hL' => v_indexO Try.underlying30 Try.sizeOf3 rfl ha86 rfl (SlR.idx hz78 g79)) ?_
     refine ⟨_, [(31, .int .i64 x2), (33, .pointer (some ⟨b82, o83 + (k : Int).toNat * 1, none⟩))], rfl, rfl, (sc rfl (sc rfl (sn _))), by kernel_rfl, ?_⟩; intro H
     obtain ⟨l2, h91, r92⟩ := bv_ok r81
     refine o_storeZ (u := x2) Try.sizeOf3 (iE_ok _) rfl ha86 rfl rfl (fun _ => .c .h) hz78 h91 g79 ?_; intro Lb93 hz94
     refine shO_nil ⟨undef, rfl, FExt.refl _, [], by kernel_rfl, .inl (.inl rfl), (fun _ h => absurd h List.not_mem_nil), ?_⟩
     refine shM_nil ?_
     refine inBlock_n (id := 1) (shW_region ?_)
     refine ov (v_add rfl rfl (Ctr.r64 hk17 c24 g15)) rfl ?_
     refine om rfl rfl (shO_nil ?_)
     exact le kr ⟨_, hk25, at_2, turn2, l2, a36, n40, c37, Lb93, r92, (hF22.trans hF29), rfl, (sc rfl (sc rfl (sc rfl (sc rfl (sn _))))), hz94⟩
   obtain rfl := Ctr.zero hk17 c24
   rw [oyezkit_Bell_Rung_l1] at r19
   refine shW_exit (andThen_exit (andThen_exit ?_))
   refine inBlock_exit ?_
   obtain ⟨rfl, rfl, rfl⟩ := inj3 r19
   exact mi kr ⟨a9, n13, c10, Lb11, hF22, rfl, (sc rfl (sn _)), hz12⟩
 rintro e1 F96 _ ⟨a1, n5, c2, Lb3, hF97, rfl, he95, hz4⟩
 refine shW_env _ he95 ?_
 refine wsr (om rfl rfl (oa rfl rfl (shO_nil (shW_ret ?_))))
 refine q_res1 Try.results19 (res_tmp rfl) (sr) ?_
 obtain ⟨rfl, rfl, rfl⟩ := inj3 r8
 exact ⟨_, _, _, _, rfl, rfl, hz4.any⟩
set_option maxHeartbeats 1000000 in
theorem oyezkit_Bell_Strike_w {b_b : Nat} {metal_a : Option Addr} {metal_c : Nat} {metal : List Int} {at_ turn : Int} {lo hi : Int} {F : FS} (h_metal : RowR 1 (iE .u8) F metal_a metal_c metal) {r r2 r3 : Int} (hr : oyezkit_Bell_Strike metal at_ turn lo hi = some (r, r2, r3)) :
    SH.Spec Try.prog 23 #[.pointer (some ⟨b_b, 0, none⟩), .int .i64 lo, .int .i64 hi] F [(b_b, .cells #[.slice metal_a metal.length metal_c, .int .i64 at_, .int .u32 turn] 66 (0, 0))] fun _ L' v => v = .int .i64 r ∧ L' = [(b_b, .cells #[.slice metal_a metal.length metal_c, .int .i64 r2, .int .u32 r3] 66 (0, 0))] := by
 refine spec_of_shW (args := [.pointer (some ⟨b_b, 0, none⟩), .int .i64 lo, .int .i64 hi]) Try.func23 rfl Try.ntmps23 (nbL rfl) ?_
 intro K _ _; rw [oyezkit_Bell_Strike] at hr
 refine wsr (oa rfl rfl (nsr (om rfl rfl (om rfl rfl (om rfl rfl (om rfl rfl ?_))))))
 obtain ⟨g1, r4⟩ := gd_ok hr
 refine ov (v_sub rfl rfl g1) rfl ?_
 obtain ⟨n, at_2, turn2, h5, r6⟩ := b3_ok r4
 refine o_callG (Lb := [(b_b, .cells #[.slice metal_a metal.length metal_c, .int .i64 at_, .int .u32 turn] 66 (0, 0))]) (Lr := []) rfl Try.call25 rfl rfl rfl (pR) (oyezkit_Bell_Stroke_w h_metal h5) ?_; rintro _ F7 _ hF8 hd10 hn9 ⟨rfl, rfl⟩
 refine shO_L (lb (ln rfl)) ?_
 obtain ⟨g11, r12⟩ := gd_ok r6
 refine ov (v_add rfl rfl g11) rfl ?_
 refine oa rfl rfl (shO_nil (shW_ret ?_))
 refine q_res1 Try.results23 (res_tmp rfl) (sr) ?_
 obtain ⟨rfl, rfl, rfl⟩ := inj3 r12
 exact ⟨rfl, rfl⟩
set_option maxHeartbeats 1000000 in
theorem oyezkit_Bell_Seldom_w {b_b : Nat} {metal_a : Option Addr} {metal_c : Nat} {metal : List Int} {at_ turn n : Int} {F : FS} (h_metal : RowR 1 (iE .u8) F metal_a metal_c metal) {r : Bool} {r2 r3 : Int} (hr : oyezkit_Bell_Seldom metal at_ turn n = some (r, r2, r3)) :
    SH.Spec Try.prog 24 #[.pointer (some ⟨b_b, 0, none⟩), .int .i64 n] F [(b_b, .cells #[.slice metal_a metal.length metal_c, .int .i64 at_, .int .u32 turn] 66 (0, 0))] fun _ L' v => v = .bool r ∧ L' = [(b_b, .cells #[.slice metal_a metal.length metal_c, .int .i64 r2, .int .u32 r3] 66 (0, 0))] := by
 refine spec_of_shW (args := [.pointer (some ⟨b_b, 0, none⟩), .int .i64 n]) Try.func24 rfl Try.ntmps24 (nbL rfl) ?_
 intro K _ _; rw [oyezkit_Bell_Seldom] at hr
 refine wsr (oa rfl rfl (nsr (om rfl rfl (om rfl rfl ?_))))
 obtain ⟨g1, r4⟩ := gd_ok hr
 refine ov (v_sub rfl rfl g1) rfl ?_
 obtain ⟨n2, at_2, turn2, h5, r6⟩ := b3_ok r4
 refine o_callG (Lb := [(b_b, .cells #[.slice metal_a metal.length metal_c, .int .i64 at_, .int .u32 turn] 66 (0, 0))]) (Lr := []) rfl Try.call25 rfl rfl rfl (pR) (oyezkit_Bell_Stroke_w h_metal h5) ?_; rintro _ F7 _ hF8 hd10 hn9 ⟨rfl, rfl⟩
 refine shO_L (lb (ln rfl)) ?_
 refine ov (v_eql rfl rfl) rfl ?_
 refine oa rfl rfl (shO_nil (shW_ret ?_))
 refine q_res1 Try.results24 (res_tmp rfl) (sr) ?_
 obtain ⟨rfl, rfl, rfl⟩ := inj3 r6
 exact ⟨rfl, rfl⟩
set_option maxHeartbeats 1000000 in
theorem oyezlaw03_Made_w {b_b : Nat} {metal_a : Option Addr} {metal_c : Nat} {metal : List Int} {at_ turn : Int} {stands houses notices : Int} {F : FS} (h_metal : RowR 1 (iE .u8) F metal_a metal_c metal) {r r2 : List (List Int)} {r3 r4 : Int} {r5 : List ((List Int) × Int × Int)} {r6 r7 : Int} (hr : oyezlaw03_Made metal at_ turn stands houses notices = some (r, r2, r3, r4, r5, r6, r7)) :
    SH.Spec Try.prog 6 #[.pointer (some ⟨b_b, 0, none⟩), .int .i64 stands, .int .i64 houses, .int .i64 notices] F [(b_b, .cells #[.slice metal_a metal.length metal_c, .int .i64 at_, .int .u32 turn] 66 (0, 0))] fun F' L' v => ∃ (ra : Option Addr) (rc : Nat) (r2a : Option Addr) (r2c : Nat) (r5a : Option Addr) (r5n : Nat) (r5c : Nat) (r5L : LH), v = .agg #[.slice ra r.length rc, .slice r2a r2.length r2c, .int .i64 r3, .int .i64 r4, .slice r5a r5n r5c] ∧ L' = (b_b, .cells #[.slice metal_a metal.length metal_c, .int .i64 r6, .int .u32 r7] 66 (0, 0)) :: (r5L ++ []) ∧ RowR 1 (slE 1 (iE .i64)) F' ra rc r ∧ RowR 1 (slE 1 (iE .i64)) F' r2a r2c r2 ∧ SlR 0 39 3 (prE (slE 1 (iE .i64)) (prE (iE .i64) (iE .i64))) F' r5a r5n r5c r5 r5L := by
 refine spec_of_shW (args := [.pointer (some ⟨b_b, 0, none⟩), .int .i64 stands, .int .i64 houses, .int .i64 notices]) Try.func6 rfl Try.ntmps6 (nbL rfl) ?_
 intro K _ _; rw [oyezlaw03_Made] at hr
 refine wsr ?_
 refine o_alloc rfl Try.zeroValue26 ?_; intro b1 hb1
 refine nsr (om rfl rfl (om rfl rfl ?_))
 obtain ⟨n, at_2, turn2, h2, r8⟩ := b3_ok hr
 refine o_callG (Lb := [(b_b, .cells #[.slice metal_a metal.length metal_c, .int .i64 at_, .int .u32 turn] 66 (0, 0))]) (Lr := [(b1, .cells #[.slice none 0 0, .slice none 0 0, .int .i64 0, .int .i64 0, .slice none 0 0] 26 (0, 0))]) rfl Try.call23 rfl rfl rfl (((fC fO).trans (pC pR))) (oyezkit_Bell_Strike_w h_metal h2) ?_; rintro _ F9 _ hF10 hd12 hn11 ⟨rfl, rfl⟩
 replace h_metal := h_metal.mono (iE_ok _) hF10
 refine shO_L (lb (ln rfl)) ?_
 refine ov (v_build (v := .agg #[.slice none 0 0, .slice none 0 0, .int .i64 n, .int .i64 0, .slice none 0 0]) rfl (by intro w; kernel_rfl)) rfl ?_
 refine o_alloc rfl Try.zeroValue26 ?_; intro b13 hb13
 refine o_storeA (i := 0) Try.sizeOf26 rfl rfl rfl (by simp [Value.oneCell']) rfl (nbL rfl) ?_
 refine shO_L (L' := [(b13, .cells #[.slice none 0 0, .slice none 0 0, .int .i64 n, .int .i64 0, .slice none 0 0] 26 (0, 0)), (b_b, .cells #[.slice metal_a metal.length metal_c, .int .i64 at_2, .int .u32 turn2] 66 (0, 0)), (b1, .cells #[.slice none 0 0, .slice none 0 0, .int .i64 0, .int .i64 0, .slice none 0 0] 26 (0, 0))]) rfl ?_
 refine nsr (om rfl rfl (om rfl rfl ?_))
 obtain ⟨n2, at_3, turn3, h14, r15⟩ := b3_ok r8
 refine o_callG (Lb := [(b_b, .cells #[.slice metal_a metal.length metal_c, .int .i64 at_2, .int .u32 turn2] 66 (0, 0))]) (Lr := [(b13, .cells #[.slice none 0 0, .slice none 0 0, .int .i64 n, .int .i64 0, .slice none 0 0] 26 (0, 0)), (b1, .cells #[.slice none 0 0, .slice none 0 0, .int .i64 0, .int .i64 0, .slice none 0 0] 26 (0, 0))]) rfl Try.call23 rfl rfl rfl (((fC fO).trans (pC pR))) (oyezkit_Bell_Strike_w h_metal h14) ?_; rintro _ F16 _ hF17 hd19 hn18 ⟨rfl, rfl⟩
 replace h_metal := h_metal.mono (iE_ok _) hF17
 refine shO_L (lb (ln rfl)) ?_
 refine oa rfl rfl (shO_nil ?_)
 obtain ⟨b_at, b_turn, t_walks, t_hears, h32, r33⟩ := b4_ok r15
 refine shW_join (fun e1 F1 L1 => ∃ (a20 : Option Addr) (n24 : Nat) (c21 : Nat) (Lb22 : LH) (a26 : Option Addr) (n30 : Nat) (c27 : Nat) (Lb28 : LH), FExt F16 F1 ∧ L1 = ((b_b, .cells #[.slice metal_a metal.length metal_c, .int .i64 b_at, .int .u32 b_turn] 66 (0, 0)) :: ((b13, .cells #[.slice a20 n24 c21, .slice a26 n30 c27, .int .i64 n, .int .i64 0, .slice none 0 0] 26 (0, 0)) :: ((b1, .cells #[.slice none 0 0, .slice none 0 0, .int .i64 0, .int .i64 0, .slice none 0 0] 26 (0, 0)) :: (Lb22 ++ (Lb28 ++ []))))) ∧ e1.sub [(0, .pointer (some ⟨b_b, 0, none⟩)), (3, .int .i64 notices), (8, .pointer (some ⟨b1, 0, none⟩)), (9, .pointer (some ⟨b13, 0, none⟩)), (10, .int .i64 n2)] ∧ NlR K.w0.heap.size 30 3 1 (iE .i64) F1 a20 n24 c21 t_walks Lb22 ∧ NlR K.w0.heap.size 30 3 1 (iE .i64) F1 a26 n30 c27 t_hears Lb28) ?_ ?_
 · clear r33
   refine wsr (om rfl rfl (om rfl rfl (shO_nil ?_)))
   refine shW_block ?_
   obtain ⟨g46, r47⟩ := gd_ok h32
   refine shW_lp (fun fu1 e1 F1 L1 => ∃ (k : Int), Ctr 0 n2 k fu1 ∧ ∃ (b_at2 : Int) (b_turn2 : Int) (t_walks2 : List (List Int)) (t_hears2 : List (List Int)) (a34 : Option Addr) (n38 : Nat) (c35 : Nat) (Lb36 : LH) (a40 : Option Addr) (n44 : Nat) (c41 : Nat) (Lb42 : LH), oyezlaw03_Made_l1 metal n n2 fu1 k b_at2 b_turn2 t_walks2 t_hears2 = some (b_at, b_turn, t_walks, t_hears) ∧ FExt F16 F1 ∧ L1 = ((b_b, .cells #[.slice metal_a metal.length metal_c, .int .i64 b_at2, .int .u32 b_turn2] 66 (0, 0)) :: ((b13, .cells #[.slice a34 n38 c35, .slice a40 n44 c41, .int .i64 n, .int .i64 0, .slice none 0 0] 26 (0, 0)) :: ((b1, .cells #[.slice none 0 0, .slice none 0 0, .int .i64 0, .int .i64 0, .slice none 0 0] 26 (0, 0)) :: (Lb36 ++ (Lb42 ++ []))))) ∧ e1.sub [(0, .pointer (some ⟨b_b, 0, none⟩)), (3, .int .i64 notices), (8, .pointer (some ⟨b1, 0, none⟩)), (9, .pointer (some ⟨b13, 0, none⟩)), (10, .int .i64 n2), (24, .int .i64 n2), (25, .int .i64 k)] ∧ NlR K.w0.heap.size 30 3 1 (iE .i64) F1 a34 n38 c35 t_walks2 Lb36 ∧ NlR K.w0.heap.size 30 3 1 (iE .i64) F1 a40 n44 c41 t_hears2 Lb42) _ (m0 (kc (kc (kc (ke (ke kr))))) ⟨_, Ctr.start _ _, at_3, turn3, [], [], none, 0, 0, [], none, 0, 0, [], r47, FExt.refl _, rfl, (sc rfl (sc rfl (sc rfl (sc rfl (sc rfl (sc rfl (sc rfl (sn _)))))))), NlR.nil _ _ _ _ _ _, NlR.nil _ _ _ _ _ _⟩) ?_
   rintro fu1 e1 F52 _ ⟨k, hk48, b_at2, b_turn2, t_walks2, t_hears2, a34, n38, c35, Lb36, a40, n44, c41, Lb42, r50, hF53, rfl, he51, hz37, hz43⟩
   refine shW_env _ he51 ?_
   replace h_metal := h_metal.mono (iE_ok _) hF53
   refine wsr ?_
   refine ov (v_lssK rfl rfl) rfl ?_
   refine shO_nil (shW_seq ?_)
   refine shW_condP rfl (fun c55 => ?_) (fun c55 => ?_)
   · obtain ⟨fu1, rfl, hk56⟩ := Ctr.succ hk48 c55
     rw [oyezlaw03_Made_l1] at r50
     refine shW_skip ?_
     obtain ⟨b_at3, b_turn3, t_walks3, t_hears3, h69, r70⟩ := b4_ok r50
     refine shW_join (fun e1 F1 L1 => ∃ (a57 : Option Addr) (n61 : Nat) (c58 : Nat) (Lb59 : LH) (a63 : Option Addr) (n67 : Nat) (c64 : Nat) (Lb65 : LH), FExt F52 F1 ∧ L1 = ((b_b, .cells #[.slice metal_a metal.length metal_c, .int .i64 b_at3, .int .u32 b_turn3] 66 (0, 0)) :: ((b13, .cells #[.slice a57 n61 c58, .slice a63 n67 c64, .int .i64 n, .int .i64 0, .slice none 0 0] 26 (0, 0)) :: ((b1, .cells #[.slice none 0 0, .slice none 0 0, .int .i64 0, .int .i64 0, .slice none 0 0] 26 (0, 0)) :: (Lb59 ++ (Lb65 ++ []))))) ∧ e1.sub [(0, .pointer (some ⟨b_b, 0, none⟩)), (3, .int .i64 notices), (8, .pointer (some ⟨b1, 0, none⟩)), (9, .pointer (some ⟨b13, 0, none⟩)), (10, .int .i64 n2), (24, .int .i64 n2), (25, .int .i64 k)] ∧ NlR K.w0.heap.size 30 3 1 (iE .i64) F1 a57 n61 c58 t_walks3 Lb59 ∧ NlR K.w0.heap.size 30 3 1 (iE .i64) F1 a63 n67 c64 t_hears3 Lb65) ?_ ?_
     · clear r70
       refine shW_block ?_
       refine wsr (om rfl rfl (oa rfl rfl (nsr ?_)))
       refine ov (v_fieldAddr fa_26_0 rfl) rfl ?_
       refine ov (v_load Try.isAgg23 rfl (Has.own 1 rfl) rfl) rfl ?_
       refine o_buildSlice (cs := #[.slice none 0 0]) rfl rfl (buildSlice_all slt_23 [.slice none 0 0] rfl (by decide) (by simp [Value.cells]) (by decide)) ?_; intro b71 hb71
       obtain ⟨t, h72, g73, r74⟩ := ap_ok h69
       refine shO_split (fC (fC (fC (fC fP)))) hz37 ?_; intro hs77 Lo78 Lc79 hO75 hI76
       refine kO (kf (fS (fS fO)) (kf (fS (fS fO)) (kf (fS (fS fO)) (kf (fS (fS fO)) kr)))) ?_
       refine o_appZ (xs := hs77) (ys := [(none, 0, 0)]) (zs := hs77 ++ [(none, 0, 0)]) rfl slt_23 rfl rfl (Nat.le_refl _) (fun _ => .c (.c (.c (.c .h)))) hO75 (SrcR.box (vss := [[.slice none 0 0]]) (ys := [(none, 0, 0)]) 0 rfl hdE_ok (.cons rfl .nil) rfl rfl) rfl (lenH hI76 h72 g73) (by decide) ?_; intro a80 n81 c82 Lo83 hO84
       refine kO (kd kr) ?_
       refine shO_fold (p := fun X => NlR K.w0.heap.size 30 3 1 (iE .i64) F52 a80 n81 c82 t X) (InP.push0 hI76 rfl hO84 h72) (pT ((fC (fC (fC fP))).trans (pA ((fC (fC (fC fP))).trans (pA pR)))) (lp (lp (ln rfl)))) ?_; intro Lb86 hz87
       refine kO (kf (fS fO) (kf (fS fO) (kf (fS fO) kr))) ?_
       refine ov (v_fieldAddr fa_26_0 rfl) rfl ?_
       refine o_store (i := 1) Try.sizeOf23 rfl rfl rfl rfl (nbL rfl) ?_
       refine shO_L (L' := (b_b, .cells #[.slice metal_a metal.length metal_c, .int .i64 b_at2, .int .u32 b_turn2] 66 (0, 0)) :: ((b13, .cells #[.slice a80 n81 c82, .slice a40 n44 c41, .int .i64 n, .int .i64 0, .slice none 0 0] 26 (0, 0)) :: ((b1, .cells #[.slice none 0 0, .slice none 0 0, .int .i64 0, .int .i64 0, .slice none 0 0] 26 (0, 0)) :: (Lb86 ++ (Lb42 ++ []))))) rfl ?_
       refine shO_nil ?_
       obtain ⟨b_at4, b_turn4, t_walks4, h90, r91⟩ := b3_ok r74
       refine shW_join (fun e1 F1 L1 => ∃ (Lb88 : LH), FExt F52 F1 ∧ L1 = ((b_b, .cells #[.slice metal_a metal.length metal_c, .int .i64 b_at4, .int .u32 b_turn4] 66 (0, 0)) :: ((b13, .cells #[.slice a80 n81 c82, .slice a40 n44 c41, .int .i64 n, .int .i64 0, .slice none 0 0] 26 (0, 0)) :: ((b1, .cells #[.slice none 0 0, .slice none 0 0, .int .i64 0, .int .i64 0, .slice none 0 0] 26 (0, 0)) :: (Lb88 ++ (Lb42 ++ []))))) ∧ e1.sub [(0, .pointer (some ⟨b_b, 0, none⟩)), (3, .int .i64 notices), (8, .pointer (some ⟨b1, 0, none⟩)), (9, .pointer (some ⟨b13, 0, none⟩)), (10, .int .i64 n2), (24, .int .i64 n2), (25, .int .i64 k)] ∧ NlR K.w0.heap.size 30 3 1 (iE .i64) F1 a80 n81 c82 t_walks4 Lb88) ?_ ?_
       · clear r91
         refine wsr (om rfl rfl (om rfl rfl (shO_nil ?_)))
         refine shW_block ?_
         obtain ⟨g94, r95⟩ := gd_ok h90
         refine shW_lp (fun fu2 e1 F1 L1 => ∃ (k2 : Int), Ctr 0 n2 k2 fu2 ∧ ∃ (b_at5 : Int) (b_turn5 : Int) (t_walks5 : List (List Int)) (Lb92 : LH), oyezlaw03_Made_l2 metal k fu2 k2 b_at5 b_turn5 t_walks5 = some (b_at4, b_turn4, t_walks4) ∧ FExt F52 F1 ∧ L1 = ((b_b, .cells #[.slice metal_a metal.length metal_c, .int .i64 b_at5, .int .u32 b_turn5] 66 (0, 0)) :: ((b13, .cells #[.slice a80 n81 c82, .slice a40 n44 c41, .int .i64 n, .int .i64 0, .slice none 0 0] 26 (0, 0)) :: ((b1, .cells #[.slice none 0 0, .slice none 0 0, .int .i64 0, .int .i64 0, .slice none 0 0] 26 (0, 0)) :: (Lb92 ++ (Lb42 ++ []))))) ∧ e1.sub [(0, .pointer (some ⟨b_b, 0, none⟩)), (3, .int .i64 notices), (8, .pointer (some ⟨b1, 0, none⟩)), (9, .pointer (some ⟨b13, 0, none⟩)), (10, .int .i64 n2), (11, .int .i64 k), (24, .int .i64 n2), (25, .int .i64 k), (33, .int .i64 n2), (34, .int .i64 k2)] ∧ NlR K.w0.heap.size 30 3 1 (iE .i64) F1 a80 n81 c82 t_walks5 Lb92) _ (m0 kr ⟨_, Ctr.start _ _, b_at2, b_turn2, t, Lb86, r95, FExt.refl _, rfl, (sc rfl (sc rfl (sc rfl (sc rfl (sc rfl (sc rfl (sc rfl (sc rfl (sc rfl (sc rfl (sn _))))))))))), hz87⟩) ?_
         rintro fu2 e1 F100 _ ⟨k2, hk96, b_at5, b_turn5, t_walks5, Lb92, r98, hF101, rfl, he99, hz93⟩
         refine shW_env _ he99 ?_
         replace h_metal := h_metal.mono (iE_ok _) hF101
         refine wsr ?_
         refine ov (v_lssK rfl rfl) rfl ?_
         refine shO_nil (shW_seq ?_)
         refine shW_condP rfl (fun c103 => ?_) (fun c103 => ?_)
         · obtain ⟨fu2, rfl, hk104⟩ := Ctr.succ hk96 c103
           rw [oyezlaw03_Made_l2] at r98
           refine shW_skip (shW_seq ?_)
           refine shW_block ?_
           refine wsr (om rfl rfl (oa rfl rfl (nsr (om rfl rfl ?_))))
           obtain ⟨n3, at_4, turn4, h105, r106⟩ := b3_ok r98
           refine o_callG (Lb := [(b_b, .cells #[.slice metal_a metal.length metal_c, .int .i64 b_at5, .int .u32 b_turn5] 66 (0, 0))]) (Lr := (b13, .cells #[.slice a80 n81 c82, .slice a40 n44 c41, .int .i64 n, .int .i64 0, .slice none 0 0] 26 (0, 0)) :: ((b1, .cells #[.slice none 0 0, .slice none 0 0, .int .i64 0, .int .i64 0, .slice none 0 0] 26 (0, 0)) :: (Lb92 ++ (Lb42 ++ [])))) rfl Try.call23 rfl rfl rfl (pR) (oyezkit_Bell_Strike_w h_metal h105) ?_; rintro _ F107 _ hF108 hd110 hn109 ⟨rfl, rfl⟩
           replace h_metal := h_metal.mono (iE_ok _) hF108
           replace hz93 := hz93.mono (iE_ok _) hF108
           refine shO_L (lb (ln rfl)) ?_
           refine oa rfl rfl (shO_nil ?_)
           obtain ⟨b_at6, b_turn6, w, h111, r112⟩ := b3_ok r106
           refine shW_join (fun e1 F1 L1 => FExt F107 F1 ∧ L1 = ((b_b, .cells #[.slice metal_a metal.length metal_c, .int .i64 b_at6, .int .u32 b_turn6] 66 (0, 0)) :: ((b13, .cells #[.slice a80 n81 c82, .slice a40 n44 c41, .int .i64 n, .int .i64 0, .slice none 0 0] 26 (0, 0)) :: ((b1, .cells #[.slice none 0 0, .slice none 0 0, .int .i64 0, .int .i64 0, .slice none 0 0] 26 (0, 0)) :: (Lb92 ++ (Lb42 ++ []))))) ∧ e1.sub [(0, .pointer (some ⟨b_b, 0, none⟩)), (3, .int .i64 notices), (8, .pointer (some ⟨b1, 0, none⟩)), (9, .pointer (some ⟨b13, 0, none⟩)), (10, .int .i64 n2), (11, .int .i64 k), (13, .int .i64 w), (24, .int .i64 n2), (25, .int .i64 k), (33, .int .i64 n2), (34, .int .i64 k2)]) ?_ ?_
           · clear r112
             refine wsr (om rfl rfl (om rfl rfl ?_))
             refine ov (v_eql rfl rfl) rfl ?_
             refine shO_nil ?_
             refine shW_condP rfl (fun c113 => ?_) (fun c113 => ?_)
             · have r114 := ite_t h111 c113
               refine shW_region (oa rfl rfl (shO_nil ?_))
               obtain ⟨rfl, rfl, rfl⟩ := inj3 r114
               exact mi kr ⟨FExt.refl _, rfl, (sc rfl (sc rfl (sc rfl (sc rfl (sc rfl (sc rfl (sc rfl (sc rfl (sc rfl (sc rfl (sc rfl (sn _))))))))))))⟩
             have r115 := ite_f h111 c113
             refine wsr (om rfl rfl ?_)
             obtain ⟨ok, at_5, turn5, h116, r117⟩ := b3_ok r115
             refine o_callG (Lb := [(b_b, .cells #[.slice metal_a metal.length metal_c, .int .i64 at_4, .int .u32 turn4] 66 (0, 0))]) (Lr := (b13, .cells #[.slice a80 n81 c82, .slice a40 n44 c41, .int .i64 n, .int .i64 0, .slice none 0 0] 26 (0, 0)) :: ((b1, .cells #[.slice none 0 0, .slice none 0 0, .int .i64 0, .int .i64 0, .slice none 0 0] 26 (0, 0)) :: (Lb92 ++ (Lb42 ++ [])))) rfl Try.call24 rfl rfl rfl (pR) (oyezkit_Bell_Seldom_w h_metal h116) ?_; rintro _ F118 _ hF119 hd121 hn120 ⟨rfl, rfl⟩
             refine shO_L (lb (ln rfl)) ?_
             refine shO_nil ?_
             refine shW_cond rfl (fun c122 => ?_) (fun c122 => ?_)
             · have r123 := bt r117 c122
               refine shW_region (oa rfl rfl (shO_nil ?_))
               obtain ⟨rfl, rfl, rfl⟩ := inj3 r123
               exact mi kr ⟨hF119, rfl, (sc rfl (sc rfl (sc rfl (sc rfl (sc rfl (sc rfl (sc rfl (sc rfl (sc rfl (sc rfl (sc rfl (sn _))))))))))))⟩
             have r124 := bf r117 c122
             refine shW_skip ?_
             obtain ⟨rfl, rfl, rfl⟩ := inj3 r124
             exact mi kr ⟨hF119, rfl, (sc rfl (sc rfl (sc rfl (sc rfl (sc rfl (sc rfl (sc rfl (sc rfl (sc rfl (sc rfl (sc rfl (sn _))))))))))))⟩
           rintro e1 F126 _ ⟨hF127, rfl, he125⟩
           refine shW_env _ he125 ?_
           replace hz93 := hz93.mono (iE_ok _) hF127
           obtain ⟨x, g128, hx129, r130⟩ := ix_ok r112
           have hn142 := (NlR.caps hz93).1
           refine shW_open (fC (fC (fC fP))) hz93 hx129 ?_; intro hs131 Lo132 Lc133 a134 n135 c136 Lb137 hh138 hO139 hz140 hI141
           refine kW (kf (fS (fS (fS fO))) (kf (fS (fS (fS fO))) (kf (fS (fS (fS fO))) kr))) ?_
           refine shW_drawM [(.still, 0), (.still, 1), (.still, 2), (.still, 3), (.still, 4), (.still, 5), (.still, 6), (.still, 7), (.still, 8), (.seq, 9), (.seq, 10), (.still, 11), (.seq, 12)] (by kernel_rfl) (by kernel_rfl) (trivial) (by rfl) (by kernel_rfl) ?_
           refine shM_v (v := .pointer (some ⟨b13, 0, none⟩)) (ek := [(9, .pointer (some ⟨b13, 0, none⟩))]) (Ls := []) rfl rfl rfl rfl ((sc rfl (sn _))) (by kernel_rfl) sm (fun H F' L' hF' hL' => v_fieldAddr fa_26_0 rfl) ?_
           refine shM_v (v := .slice a80 n81 c82) (ek := [(44, .pointer (some ⟨b13, 0, none⟩))]) (Ls := [(b13, .cells #[.slice a80 n81 c82, .slice a40 n44 c41, .int .i64 n, .int .i64 0, .slice none 0 0] 26 (0, 0))]) rfl rfl rfl rfl ((sc rfl (sn _))) (by kernel_rfl) (s0 (s1 (s2 (s1 (s3 (s3 (s3 (s3 sr)))))))) (fun H F' L' hF' hL' => v_load Try.isAgg23 rfl ((Has.own 0 rfl).ext hF' hL') rfl) ?_
           refine shM_v (v := .int .i64 k) (ek := [(11, .int .i64 k)]) (Ls := []) rfl rfl rfl rfl ((sc rfl (sn _))) (by kernel_rfl) sm (fun H F' L' hF' hL' => v_move rfl) ?_
           refine shM_v (v := .pointer (some ⟨b13, 0, none⟩)) (ek := [(9, .pointer (some ⟨b13, 0, none⟩))]) (Ls := []) rfl rfl rfl rfl ((sc rfl (sn _))) (by kernel_rfl) sm (fun H F' L' hF' hL' => v_fieldAddr fa_26_0 rfl) ?_
           refine shM_v (v := .slice a80 n81 c82) (ek := [(47, .pointer (some ⟨b13, 0, none⟩))]) (Ls := [(b13, .cells #[.slice a80 n81 c82, .slice a40 n44 c41, .int .i64 n, .int .i64 0, .slice none 0 0] 26 (0, 0))]) rfl rfl rfl rfl ((sc rfl (sn _))) (by kernel_rfl) (s0 (s1 (s2 (s1 (s3 (s3 (s3 (s3 sr)))))))) (fun H F' L' hF' hL' => v_load Try.isAgg23 rfl ((Has.own 0 rfl).ext hF' hL') rfl) ?_
           refine shM_v (v := .int .i64 k) (ek := [(11, .int .i64 k)]) (Ls := []) rfl rfl rfl rfl ((sc rfl (sn _))) (by kernel_rfl) sm (fun H F' L' hF' hL' => v_move rfl) ?_
           obtain ⟨b144, o145, c146, vs147, ha148, hs149, hle150, rfl, hl151, hc152⟩ := SlR.at hdE_ok hO139 (L := Lo132 ++ []) fP g128.1 hh138
           refine shM_v (v := .pointer (some ⟨b144, o145 + (k : Int).toNat * 1, none⟩)) (ek := [(48, .slice a80 n81 c82), (49, .int .i64 k)]) (Ls := []) rfl rfl rfl rfl ((sc rfl (sc rfl (sn _)))) (by kernel_rfl) sm (fun H F' L' hF' hL' => v_indexO Try.underlying23 Try.sizeOf30 rfl ha148 rfl (idxN hn142 g128)) ?_
           refine shM_v (v := .slice a134 n135 c136) (ek := [(50, .pointer (some ⟨b144, o145 + (k : Int).toNat * 1, none⟩))]) (Ls := Lo132 ++ []) rfl rfl rfl rfl ((sc rfl (sn _))) (by kernel_rfl) (s0 (s1 (s1 (s1 (s4 (s3 (s3 (s3 sr)))))))) (fun H F' L' hF' hL' => v_load Try.isAgg30 rfl (hs149.ext hF' hL') (hc152 0 (by decide))) ?_
           refine shM_v (v := .int .i64 w) (ek := [(13, .int .i64 w)]) (Ls := []) rfl rfl rfl rfl ((sc rfl (sn _))) (by kernel_rfl) sm (fun H F' L' hF' hL' => v_move rfl) ?_
           refine ⟨_, [(52, .int .i64 w)], rfl, rfl, (sc rfl (sn _)), by kernel_rfl, ?_⟩; intro H
           refine o_buildSlice (cs := #[.int .i64 w]) rfl rfl (buildSlice_all slt_30 [.int .i64 w] rfl (by decide) (by simp [Value.cells]) (by decide)) ?_; intro b153 hb153
           refine shO_nil ⟨_, rfl, FExt.refl _, [7, 6, 5, 4, 3, 2, 1, 0], by kernel_rfl, .inl (.inr (fun d h => by cases h; rfl)), (List.forall_mem_cons.2 ⟨s0 (s1 (s1 (s1 (s1 (s4 (s3 (s3 (s3 sr)))))))), (List.forall_mem_cons.2 ⟨sm, (List.forall_mem_cons.2 ⟨sm, (List.forall_mem_cons.2 ⟨s0 (s1 (s1 (s2 (s1 (s3 (s3 (s3 (s3 sr)))))))), (List.forall_mem_cons.2 ⟨sm, (List.forall_mem_cons.2 ⟨sm, (List.forall_mem_cons.2 ⟨s0 (s1 (s1 (s2 (s1 (s3 (s3 (s3 (s3 sr)))))))), (List.forall_mem_cons.2 ⟨sm, (fun _ h => absurd h List.not_mem_nil)⟩)⟩)⟩)⟩)⟩)⟩)⟩)⟩), ?_⟩
           refine ⟨_, [(51, .slice a134 n135 c136), (53, .slice (some ⟨b153, 0, none⟩) 1 1)], rfl, rfl, (sc rfl (sc rfl (sn _))), by kernel_rfl, ?_⟩; intro H
           obtain ⟨l, h154, g155, r156⟩ := ap_ok r130
           refine o_appZ (xs := x) (ys := [w]) (zs := l) rfl slt_30 rfl rfl (Nat.le_refl _) (fun _ => .c (.c (.c (.c (.s .h))))) hz140 (SrcR.box (vss := [[.int .i64 w]]) (ys := [w]) 0 rfl (iE_ok _) (.cons rfl .nil) rfl rfl) h154 g155 (by decide) ?_; intro a157 n161 c158 Lb159 hz160
           refine kO (kd kr) ?_
           refine shO_nil ⟨_, rfl, FExt.refl _, [2, 1, 0], by kernel_rfl, .inl (.inr (fun d h => by cases h; rfl)), (List.forall_mem_cons.2 ⟨sm, (List.forall_mem_cons.2 ⟨s0 (s1 (s2 (s1 (s3 (s3 (s3 (s3 sr))))))), (List.forall_mem_cons.2 ⟨sm, (fun _ h => absurd h List.not_mem_nil)⟩)⟩)⟩), ?_⟩
           obtain ⟨b163, o164, c165, vs166, ha167, hs168, hle169, rfl, hl170, hc171⟩ := SlR.at hdE_ok hO139 (L := Lo132 ++ []) fP g128.1 hh138
           refine shM_v (v := .pointer (some ⟨b163, o164 + (k : Int).toNat * 1, none⟩)) (ek := [(45, .slice a80 n81 c82), (46, .int .i64 k)]) (Ls := []) rfl rfl rfl rfl ((sc rfl (sc rfl (sn _)))) (by kernel_rfl) sm (fun H F' L' hF' hL' => v_indexO Try.underlying23 Try.sizeOf30 rfl ha167 rfl (idxN hn142 g128)) ?_
           refine ⟨_, [(54, .slice a157 n161 c158), (55, .pointer (some ⟨b163, o164 + (k : Int).toNat * 1, none⟩))], rfl, rfl, (sc rfl (sc rfl (sn _))), by kernel_rfl, ?_⟩; intro H
           refine o_storeZ (zs := hs131.set (k : Int).toNat (a157, n161, c158)) (u := (a157, n161, c158)) Try.sizeOf30 hdE_ok rfl ha167 rfl rfl (fun _ => .c (.c (.c .h))) hO139 rfl (idxH hn142 hO139 g128) ?_; intro Lo172 hO173
           obtain ⟨l2, h174, r175⟩ := bv_ok r156
           refine shO_fold (p := fun X => NlR K.w0.heap.size 30 3 1 (iE .i64) F126 a80 n81 c82 l2 X) (InH.back hI141 hO173 hz160 h174) (pT ((fC (fC (fC fP))).trans (pA ((fC (fC (fC fP))).trans (pA ((fC (fC (fC fP))).trans (pA pR)))))) (lp (lp (lp (ln rfl))))) ?_; intro Lb176 hz177
           refine kO (kf (fS fO) (kf (fS fO) (kf (fS fO) kr))) ?_
           refine shO_nil ⟨undef, rfl, FExt.refl _, [], by kernel_rfl, .inl (.inl rfl), (fun _ h => absurd h List.not_mem_nil), ?_⟩
           refine shM_nil ?_
           refine inBlock_n (id := 3) (shW_region ?_)
           refine ov (v_add rfl rfl (Ctr.r64 hk96 c103 g94)) rfl ?_
           refine om rfl rfl (shO_nil ?_)
           exact le kr ⟨_, hk104, b_at6, b_turn6, l2, Lb176, r175, ((hF101.trans hF108).trans hF127), rfl, (sc rfl (sc rfl (sc rfl (sc rfl (sc rfl (sc rfl (sc rfl (sc rfl (sc rfl (sc rfl (sn _))))))))))), hz177⟩
         obtain rfl := Ctr.zero hk96 c103
         rw [oyezlaw03_Made_l2] at r98
         refine shW_exit (andThen_exit (andThen_exit ?_))
         refine inBlock_exit ?_
         obtain ⟨rfl, rfl, rfl⟩ := inj3 r98
         exact mi kr ⟨Lb92, hF101, rfl, (sc rfl (sc rfl (sc rfl (sc rfl (sc rfl (sc rfl (sc rfl (sn _)))))))), hz93⟩
       rintro e1 F179 _ ⟨Lb88, hF180, rfl, he178, hz89⟩
       refine shW_env _ he178 ?_
       replace h_metal := h_metal.mono (iE_ok _) hF180
       replace hz43 := hz43.mono (iE_ok _) hF180
       refine wsr (om rfl rfl ?_)
       refine ov (v_fieldAddr fa_26_2 rfl) rfl ?_
       refine ov (v_load Try.isAgg3 rfl (Has.own 1 rfl) rfl) rfl ?_
       obtain ⟨l3, at_6, turn6, h181, r182⟩ := b3_ok r91
       refine o_callG (Lb := [(b_b, .cells #[.slice metal_a metal.length metal_c, .int .i64 b_at4, .int .u32 b_turn4] 66 (0, 0))]) (Lr := (b13, .cells #[.slice a80 n81 c82, .slice a40 n44 c41, .int .i64 n, .int .i64 0, .slice none 0 0] 26 (0, 0)) :: ((b1, .cells #[.slice none 0 0, .slice none 0 0, .int .i64 0, .int .i64 0, .slice none 0 0] 26 (0, 0)) :: (Lb88 ++ (Lb42 ++ [])))) rfl Try.call19 rfl rfl rfl (pR) (oyezkit_Bell_Rung_w h_metal h181) ?_; rintro _ F183 _ hF184 hd186 hn185 ⟨a187, n191, c188, Lb189, rfl, rfl, hz190⟩
       replace h_metal := h_metal.mono (iE_ok _) hF184
       replace hz43 := hz43.mono (iE_ok _) hF184
       replace hz89 := hz89.mono (iE_ok _) hF184
       have hn193 := newp (Lb' := [(b_b, .cells #[.slice metal_a metal.length metal_c, .int .i64 at_6, .int .u32 turn6] 66 (0, 0))]) (by rfl) hd186 hn185
       replace hz190 := hz190.new fun p hp => hn193 p (by simp [hp])
       refine shO_L (lb (lp (ln rfl))) ?_
       refine kO (kc (kf (fS fO) (kf (fS fO) kr))) ?_
       refine oa rfl rfl (shO_nil ?_)
       refine shW_drawM [(.still, 0), (.still, 1), (.still, 2), (.still, 3), (.still, 4), (.still, 5), (.seq, 6), (.seq, 7), (.seq, 8), (.seq, 9), (.still, 10), (.seq, 11)] (by kernel_rfl) (by kernel_rfl) (trivial) (by rfl) (by kernel_rfl) ?_
       refine shM_v (v := .pointer (some ⟨b13, 1, none⟩)) (ek := [(9, .pointer (some ⟨b13, 0, none⟩))]) (Ls := []) rfl rfl rfl rfl ((sc rfl (sn _))) (by kernel_rfl) sm (fun H F' L' hF' hL' => v_fieldAddr fa_26_1 rfl) ?_
       refine shM_v (v := .slice a40 n44 c41) (ek := [(61, .pointer (some ⟨b13, 1, none⟩))]) (Ls := [(b13, .cells #[.slice a80 n81 c82, .slice a40 n44 c41, .int .i64 n, .int .i64 0, .slice none 0 0] 26 (0, 0))]) rfl rfl rfl rfl ((sc rfl (sn _))) (by kernel_rfl) (s0 (s1 (s2 (s1 (s3 (s3 (s3 sr))))))) (fun H F' L' hF' hL' => v_load Try.isAgg23 rfl ((Has.own 0 rfl).ext hF' hL') rfl) ?_
       refine shM_v (v := .slice a187 n191 c188) (ek := [(14, .slice a187 n191 c188)]) (Ls := []) rfl rfl rfl rfl ((sc rfl (sn _))) (by kernel_rfl) sm (fun H F' L' hF' hL' => v_move rfl) ?_
       refine shM_v (v := .pointer (some ⟨b_b, 0, none⟩)) (ek := [(0, .pointer (some ⟨b_b, 0, none⟩))]) (Ls := []) rfl rfl rfl rfl ((sc rfl (sn _))) (by kernel_rfl) sm (fun H F' L' hF' hL' => v_move rfl) ?_
       refine shM_v (v := .slice a187 n191 c188) (ek := [(14, .slice a187 n191 c188)]) (Ls := []) rfl rfl rfl rfl ((sc rfl (sn _))) (by kernel_rfl) sm (fun H F' L' hF' hL' => v_move rfl) ?_
       refine shM_v (v := .int .i64 (l3.length : Int)) (ek := [(65, .slice a187 n191 c188)]) (Ls := []) rfl rfl rfl rfl ((sc rfl (sn _))) (by kernel_rfl) sm (fun H F' L' hF' hL' => (v_lenS Try.underlying30 rfl).i (SlR.lenI hz190)) ?_
       refine ⟨_, [(64, .pointer (some ⟨b_b, 0, none⟩)), (66, .int .i64 (l3.length : Int))], rfl, rfl, (sc rfl (sc rfl (sn _))), by kernel_rfl, ?_⟩; intro H
       obtain ⟨n4, at_7, turn7, h194, r195⟩ := b3_ok r182
       refine o_callG (Lb := [(b_b, .cells #[.slice metal_a metal.length metal_c, .int .i64 at_6, .int .u32 turn6] 66 (0, 0))]) (Lr := (b13, .cells #[.slice a80 n81 c82, .slice a40 n44 c41, .int .i64 n, .int .i64 0, .slice none 0 0] 26 (0, 0)) :: ((b1, .cells #[.slice none 0 0, .slice none 0 0, .int .i64 0, .int .i64 0, .slice none 0 0] 26 (0, 0)) :: (Lb189 ++ (Lb88 ++ (Lb42 ++ []))))) rfl Try.call25 rfl rfl rfl (pR) (oyezkit_Bell_Stroke_w h_metal h194) ?_; rintro _ F196 _ hF197 hd199 hn198 ⟨rfl, rfl⟩
       replace hz43 := hz43.mono (iE_ok _) hF197
       replace hz89 := hz89.mono (iE_ok _) hF197
       replace hz190 := hz190.mono (iE_ok _) hF197
       refine shO_L (lb (ln rfl)) ?_
       refine shO_nil ⟨_, rfl, hF197, [2, 1, 0], by kernel_rfl, .inl (.inr (fun d h => by cases h; rfl)), (List.forall_mem_cons.2 ⟨sm, (List.forall_mem_cons.2 ⟨s0 (s1 (s2 (s1 (s3 (s3 (s3 sr)))))), (List.forall_mem_cons.2 ⟨sm, (fun _ h => absurd h List.not_mem_nil)⟩)⟩)⟩), ?_⟩
       refine ⟨_, [(63, .slice a187 n191 c188), (67, .int .i64 n4)], rfl, rfl, (sc rfl (sc rfl (sn _))), by kernel_rfl, ?_⟩; intro H
       obtain ⟨g200, r201⟩ := gd_ok r195
       obtain ⟨l4, h202, r203⟩ := bv_ok r201
       refine o_sliceZ (l := 0) (h := n4) (zs := l4) rfl slt_30 (iE_ok _) rfl (.inl ⟨rfl, rfl⟩) (.inr ⟨_, rfl, rfl⟩) (fun _ => .c (.c (.c .h))) hz190 g200 h202 ?_; intro a204 n207 c205 Lb208 h206
       refine shO_nil ⟨_, rfl, FExt.refl _, [1, 0], by kernel_rfl, .inl (.inr (fun d h => by cases h; rfl)), (List.forall_mem_cons.2 ⟨s0 (s1 (s2 (s1 (s3 (s3 (s3 sr)))))), (List.forall_mem_cons.2 ⟨sm, (fun _ h => absurd h List.not_mem_nil)⟩)⟩), ?_⟩
       refine ⟨_, [(68, .slice a204 n207 c205)], rfl, rfl, (sc rfl (sn _)), by kernel_rfl, ?_⟩; intro H
       refine o_buildSlice (cs := #[.slice a204 n207 c205]) rfl rfl (buildSlice_all slt_23 [.slice a204 n207 c205] rfl (by decide) (by simp [Value.cells]) (by decide)) ?_; intro b210 hb210
       refine shO_nil ⟨_, rfl, FExt.refl _, [1, 0], by kernel_rfl, .inl (.inr (fun d h => by cases h; rfl)), (List.forall_mem_cons.2 ⟨s0 (s1 (s1 (s2 (s1 (s3 (s3 (s3 sr))))))), (List.forall_mem_cons.2 ⟨sm, (fun _ h => absurd h List.not_mem_nil)⟩)⟩), ?_⟩
       refine ⟨_, [(62, .slice a40 n44 c41), (69, .slice (some ⟨b210, 0, none⟩) 1 1)], rfl, rfl, (sc rfl (sc rfl (sn _))), by kernel_rfl, ?_⟩; intro H
       obtain ⟨l5, h211, g212, r213⟩ := ap_ok r203
       refine shO_split (fC (fC (fC (fC (fS (fS fP)))))) hz43 ?_; intro hs216 Lo217 Lc218 hO214 hI215
       refine kO (kf (fS (fS fO)) (kf (fS (fS fO)) (kf (fS (fS fO)) (kf (fS (fS fO)) kr)))) ?_
       refine o_appZ (xs := hs216) (ys := [(a204, n207, c205)]) (zs := hs216 ++ [(a204, n207, c205)]) rfl slt_23 rfl rfl (Nat.le_refl _) (fun _ => .c (.c (.c (.c .h)))) hO214 (SrcR.box (vss := [[.slice a204 n207 c205]]) (ys := [(a204, n207, c205)]) 0 rfl hdE_ok (.cons rfl .nil) rfl rfl) rfl (lenH hI215 h211 g212) (by decide) ?_; intro a219 n220 c221 Lo222 hO223
       refine kO (kd kr) ?_
       refine shO_fold (p := fun X => NlR K.w0.heap.size 30 3 1 (iE .i64) F196 a219 n220 c221 l5 X) (InP.push hI215 rfl hO223 h206 h211) (pT ((fC (fC (fC fP))).trans (pA ((fC (fC (fC (fS fP)))).trans (pA ((fC (fC (fC fP))).trans (pA pR)))))) (lp (lp (lp (ln rfl))))) ?_; intro Lb225 hz226
       refine kO (kf (fS fO) (kf (fS fO) (kf (fS fO) kr))) ?_
       refine shO_nil ⟨_, rfl, FExt.refl _, [], by kernel_rfl, .inl (.inl rfl), (fun _ h => absurd h List.not_mem_nil), ?_⟩
       refine shM_v (v := .pointer (some ⟨b13, 1, none⟩)) (ek := [(9, .pointer (some ⟨b13, 0, none⟩))]) (Ls := []) rfl rfl rfl rfl ((sc rfl (sn _))) (by kernel_rfl) sm (fun H F' L' hF' hL' => v_fieldAddr fa_26_1 rfl) ?_
       refine ⟨_, [(70, .slice a219 n220 c221), (71, .pointer (some ⟨b13, 1, none⟩))], rfl, rfl, (sc rfl (sc rfl (sn _))), by kernel_rfl, ?_⟩; intro H
       refine o_store (i := 1) Try.sizeOf23 rfl rfl rfl rfl (nbL rfl) ?_
       refine shO_L (L' := (b_b, .cells #[.slice metal_a metal.length metal_c, .int .i64 at_7, .int .u32 turn7] 66 (0, 0)) :: ((b13, .cells #[.slice a80 n81 c82, .slice a219 n220 c221, .int .i64 n, .int .i64 0, .slice none 0 0] 26 (0, 0)) :: ((b1, .cells #[.slice none 0 0, .slice none 0 0, .int .i64 0, .int .i64 0, .slice none 0 0] 26 (0, 0)) :: (Lb225 ++ (Lb88 ++ []))))) rfl ?_
       refine shO_nil ⟨undef, rfl, FExt.refl _, [], by kernel_rfl, .inl (.inl rfl), (fun _ h => absurd h List.not_mem_nil), ?_⟩
       refine shM_nil ?_
       refine inBlock_n (id := 1) ?_
       obtain ⟨rfl, rfl, rfl, rfl⟩ := inj4 r213
       exact mi (kc (kc (kc (kg (fS fP) kr)))) ⟨a80, n81, c82, Lb88, a219, n220, c221, Lb225, ((hF180.trans hF184).trans hF197), rfl, (sc rfl (sc rfl (sc rfl (sc rfl (sc rfl (sc rfl (sc rfl (sn _)))))))), hz89, hz226⟩
     rintro e1 F228 _ ⟨a57, n61, c58, Lb59, a63, n67, c64, Lb65, hF229, rfl, he227, hz60, hz66⟩
     refine shW_env _ he227 ?_
     refine shW_region ?_
     refine ov (v_add rfl rfl (Ctr.r64 hk48 c55 g46)) rfl ?_
     refine om rfl rfl (shO_nil ?_)
     exact le kr ⟨_, hk56, b_at3, b_turn3, t_walks3, t_hears3, a57, n61, c58, Lb59, a63, n67, c64, Lb65, r70, (hF53.trans hF229), rfl, (sc rfl (sc rfl (sc rfl (sc rfl (sc rfl (sc rfl (sc rfl (sn _)))))))), hz60, hz66⟩
   obtain rfl := Ctr.zero hk48 c55
   rw [oyezlaw03_Made_l1] at r50
   refine shW_exit (andThen_exit (andThen_exit ?_))
   refine inBlock_exit ?_
   obtain ⟨rfl, rfl, rfl, rfl⟩ := inj4 r50
   exact mi kr ⟨a34, n38, c35, Lb36, a40, n44, c41, Lb42, hF53, rfl, (sc rfl (sc rfl (sc rfl (sc rfl (sc rfl (sn _)))))), hz37, hz43⟩
 rintro e1 F231 _ ⟨a20, n24, c21, Lb22, a26, n30, c27, Lb28, hF232, rfl, he230, hz23, hz29⟩
 refine shW_env _ he230 ?_
 replace h_metal := h_metal.mono (iE_ok _) hF232
 refine wsr (om rfl rfl (om rfl rfl ?_))
 obtain ⟨g233, r234⟩ := gd_ok r33
 refine ov (v_sub rfl rfl g233) rfl ?_
 obtain ⟨n5, at_8, turn8, h235, r236⟩ := b3_ok r234
 refine o_callG (Lb := [(b_b, .cells #[.slice metal_a metal.length metal_c, .int .i64 b_at, .int .u32 b_turn] 66 (0, 0))]) (Lr := (b13, .cells #[.slice a20 n24 c21, .slice a26 n30 c27, .int .i64 n, .int .i64 0, .slice none 0 0] 26 (0, 0)) :: ((b1, .cells #[.slice none 0 0, .slice none 0 0, .int .i64 0, .int .i64 0, .slice none 0 0] 26 (0, 0)) :: (Lb22 ++ (Lb28 ++ [])))) rfl Try.call25 rfl rfl rfl (pR) (oyezkit_Bell_Stroke_w h_metal h235) ?_; rintro _ F237 _ hF238 hd240 hn239 ⟨rfl, rfl⟩
 replace h_metal := h_metal.mono (iE_ok _) hF238
 replace hz23 := hz23.mono (iE_ok _) hF238
 replace hz29 := hz29.mono (iE_ok _) hF238
 refine shO_L (lb (ln rfl)) ?_
 refine ov (v_fieldAddr fa_26_3 rfl) rfl ?_
 refine o_store (i := 1) Try.sizeOf3 rfl rfl rfl rfl (nbL rfl) ?_
 refine shO_L (L' := (b_b, .cells #[.slice metal_a metal.length metal_c, .int .i64 at_8, .int .u32 turn8] 66 (0, 0)) :: ((b13, .cells #[.slice a20 n24 c21, .slice a26 n30 c27, .int .i64 n, .int .i64 n5, .slice none 0 0] 26 (0, 0)) :: ((b1, .cells #[.slice none 0 0, .slice none 0 0, .int .i64 0, .int .i64 0, .slice none 0 0] 26 (0, 0)) :: (Lb22 ++ (Lb28 ++ []))))) rfl ?_
 refine nsr (oa rfl rfl (shO_nil ?_))
 obtain ⟨t_notices, b_at7, b_turn7, h247, r248⟩ := b3_ok r236
 refine shW_join (fun e1 F1 L1 => ∃ (a241 : Option Addr) (n245 : Nat) (c242 : Nat) (Lb243 : LH), FExt F237 F1 ∧ L1 = ((b_b, .cells #[.slice metal_a metal.length metal_c, .int .i64 b_at7, .int .u32 b_turn7] 66 (0, 0)) :: ((b13, .cells #[.slice a20 n24 c21, .slice a26 n30 c27, .int .i64 n, .int .i64 n5, .slice a241 n245 c242] 26 (0, 0)) :: ((b1, .cells #[.slice none 0 0, .slice none 0 0, .int .i64 0, .int .i64 0, .slice none 0 0] 26 (0, 0)) :: (Lb22 ++ (Lb28 ++ (Lb243 ++ [])))))) ∧ e1.sub [(8, .pointer (some ⟨b1, 0, none⟩)), (9, .pointer (some ⟨b13, 0, none⟩))] ∧ SlR K.w0.heap.size 39 3 (prE (slE 1 (iE .i64)) (prE (iE .i64) (iE .i64))) F1 a241 n245 c242 t_notices Lb243) ?_ ?_
 · clear r248
   refine wsr (om rfl rfl (om rfl rfl ?_))
   obtain ⟨n6, at_9, turn9, h249, r250⟩ := b3_ok h247
   refine o_callG (Lb := [(b_b, .cells #[.slice metal_a metal.length metal_c, .int .i64 at_8, .int .u32 turn8] 66 (0, 0))]) (Lr := (b13, .cells #[.slice a20 n24 c21, .slice a26 n30 c27, .int .i64 n, .int .i64 n5, .slice none 0 0] 26 (0, 0)) :: ((b1, .cells #[.slice none 0 0, .slice none 0 0, .int .i64 0, .int .i64 0, .slice none 0 0] 26 (0, 0)) :: (Lb22 ++ (Lb28 ++ [])))) rfl Try.call25 rfl rfl rfl (pR) (oyezkit_Bell_Stroke_w h_metal h249) ?_; rintro _ F251 _ hF252 hd254 hn253 ⟨rfl, rfl⟩
   replace h_metal := h_metal.mono (iE_ok _) hF252
   refine shO_L (lb (ln rfl)) ?_
   refine om rfl rfl (shO_nil ?_)
   refine shW_block ?_
   obtain ⟨g261, r262⟩ := gd_ok r250
   refine shW_lp (fun fu3 e1 F1 L1 => ∃ (k3 : Int), Ctr 0 n6 k3 fu3 ∧ ∃ (b_at8 : Int) (b_turn8 : Int) (t_notices2 : List ((List Int) × Int × Int)) (left_ : Int) (a255 : Option Addr) (n259 : Nat) (c256 : Nat) (Lb257 : LH), oyezlaw03_Made_l3 metal n fu3 b_at8 b_turn8 t_notices2 left_ = some (t_notices, b_at7, b_turn7) ∧ FExt F251 F1 ∧ L1 = ((b_b, .cells #[.slice metal_a metal.length metal_c, .int .i64 b_at8, .int .u32 b_turn8] 66 (0, 0)) :: ((b13, .cells #[.slice a20 n24 c21, .slice a26 n30 c27, .int .i64 n, .int .i64 n5, .slice a255 n259 c256] 26 (0, 0)) :: ((b1, .cells #[.slice none 0 0, .slice none 0 0, .int .i64 0, .int .i64 0, .slice none 0 0] 26 (0, 0)) :: (Lb22 ++ (Lb28 ++ (Lb257 ++ [])))))) ∧ e1.sub [(0, .pointer (some ⟨b_b, 0, none⟩)), (8, .pointer (some ⟨b1, 0, none⟩)), (9, .pointer (some ⟨b13, 0, none⟩)), (15, .int .i64 left_), (80, .int .i64 n6), (81, .int .i64 k3)] ∧ SlR K.w0.heap.size 39 3 (prE (slE 1 (iE .i64)) (prE (iE .i64) (iE .i64))) F1 a255 n259 c256 t_notices2 Lb257) _ (m0 (kc (kc (kc (ka (ka (ke kr)))))) ⟨_, Ctr.start _ _, at_9, turn9, [], 9, none, 0, 0, [], r262, FExt.refl _, rfl, (sc rfl (sc rfl (sc rfl (sc rfl (sc rfl (sc rfl (sn _))))))), SlR.nil _ _ _ _ _⟩) ?_
   rintro fu3 e1 F267 _ ⟨k3, hk263, b_at8, b_turn8, t_notices2, left_, a255, n259, c256, Lb257, r265, hF268, rfl, he266, hz258⟩
   refine shW_env _ he266 ?_
   replace h_metal := h_metal.mono (iE_ok _) hF268
   refine wsr ?_
   refine ov (v_lssK rfl rfl) rfl ?_
   refine shO_nil (shW_seq ?_)
   refine shW_condP rfl (fun c270 => ?_) (fun c270 => ?_)
   · obtain ⟨fu3, rfl, hk271⟩ := Ctr.succ hk263 c270
     rw [oyezlaw03_Made_l3] at r265
     refine shW_skip (shW_seq ?_)
     refine shW_block ?_
     refine wsr (om rfl rfl ?_)
     refine ov (v_fieldAddr fa_26_2 rfl) rfl ?_
     refine ov (v_load Try.isAgg3 rfl (Has.own 1 rfl) rfl) rfl ?_
     obtain ⟨l6, at_10, turn10, h272, r273⟩ := b3_ok r265
     refine o_callG (Lb := [(b_b, .cells #[.slice metal_a metal.length metal_c, .int .i64 b_at8, .int .u32 b_turn8] 66 (0, 0))]) (Lr := (b13, .cells #[.slice a20 n24 c21, .slice a26 n30 c27, .int .i64 n, .int .i64 n5, .slice a255 n259 c256] 26 (0, 0)) :: ((b1, .cells #[.slice none 0 0, .slice none 0 0, .int .i64 0, .int .i64 0, .slice none 0 0] 26 (0, 0)) :: (Lb22 ++ (Lb28 ++ (Lb257 ++ []))))) rfl Try.call19 rfl rfl rfl (pR) (oyezkit_Bell_Rung_w h_metal h272) ?_; rintro _ F274 _ hF275 hd277 hn276 ⟨a278, n282, c279, Lb280, rfl, rfl, hz281⟩
     replace h_metal := h_metal.mono (iE_ok _) hF275
     replace hz258 := hz258.mono (prE_ok (slE_ok (iE_ok _)) (prE_ok (iE_ok _) (iE_ok _))) hF275
     have hn284 := newp (Lb' := [(b_b, .cells #[.slice metal_a metal.length metal_c, .int .i64 at_10, .int .u32 turn10] 66 (0, 0))]) (by rfl) hd277 hn276
     replace hz281 := hz281.new fun p hp => hn284 p (by simp [hp])
     refine shO_L (lb (lp (ln rfl))) ?_
     refine kO (kc (kf (fS fO) (kf (fS fO) kr))) ?_
     refine oa rfl rfl (nsr (om rfl rfl (om rfl rfl (om rfl rfl (om rfl rfl ?_)))))
     refine ov ((v_lenS Try.underlying30 rfl).i (SlR.lenI hz281)) rfl ?_
     obtain ⟨n7, at_11, turn11, h285, r286⟩ := b3_ok r273
     refine o_callG (Lb := [(b_b, .cells #[.slice metal_a metal.length metal_c, .int .i64 at_10, .int .u32 turn10] 66 (0, 0))]) (Lr := (b13, .cells #[.slice a20 n24 c21, .slice a26 n30 c27, .int .i64 n, .int .i64 n5, .slice a255 n259 c256] 26 (0, 0)) :: ((b1, .cells #[.slice none 0 0, .slice none 0 0, .int .i64 0, .int .i64 0, .slice none 0 0] 26 (0, 0)) :: (Lb280 ++ (Lb22 ++ (Lb28 ++ (Lb257 ++ [])))))) rfl Try.call23 rfl rfl rfl (pR) (oyezkit_Bell_Strike_w h_metal h285) ?_; rintro _ F287 _ hF288 hd290 hn289 ⟨rfl, rfl⟩
     replace h_metal := h_metal.mono (iE_ok _) hF288
     replace hz258 := hz258.mono (prE_ok (slE_ok (iE_ok _)) (prE_ok (iE_ok _) (iE_ok _))) hF288
     replace hz281 := hz281.mono (iE_ok _) hF288
     refine shO_L (lb (ln rfl)) ?_
     refine ov (v_min2 rfl rfl) rfl ?_
     obtain ⟨g291, r292⟩ := gd_ok r286
     obtain ⟨l7, h293, r294⟩ := bv_ok r292
     refine o_sliceZ (l := 0) (h := if n7 < left_ then n7 else left_) (zs := l7) rfl slt_30 (iE_ok _) rfl (.inl ⟨rfl, rfl⟩) (.inr ⟨_, rfl, rfl⟩) (fun _ => .c (.c (.c .h))) hz281 g291 h293 ?_; intro a295 n298 c296 Lb299 h297
     refine oa rfl rfl (nsr (om rfl rfl (om rfl rfl ?_)))
     refine ov ((v_lenS Try.underlying30 rfl).i (SlR.lenI h297)) rfl ?_
     obtain ⟨g301, r302⟩ := gd_ok r294
     refine ov (v_sub rfl rfl g301) rfl ?_
     refine oa rfl rfl (nsr (om rfl rfl ?_))
     refine ov ((v_lenS Try.underlying30 rfl).i (SlR.lenI h297)) rfl ?_
     refine ov (v_gtrK rfl rfl) rfl ?_
     refine shO_nil ?_
     refine shW_condP rfl (fun c303 => ?_) (fun c303 => ?_)
     · have r304 := ite_t r302 c303
       refine shW_drawM [(.still, 0), (.still, 1), (.still, 2), (.still, 3), (.still, 5), (.seq, 4), (.seq, 6), (.still, 7), (.seq, 8), (.seq, 9), (.still, 10), (.seq, 11)] (by kernel_rfl) (by kernel_rfl) (trivial) (by rfl) (by kernel_rfl) ?_
       refine shM_v (v := .pointer (some ⟨b13, 4, none⟩)) (ek := [(9, .pointer (some ⟨b13, 0, none⟩))]) (Ls := []) rfl rfl rfl rfl ((sc rfl (sn _))) (by kernel_rfl) sm (fun H F' L' hF' hL' => v_fieldAddr fa_26_4 rfl) ?_
       refine shM_v (v := .slice a255 n259 c256) (ek := [(102, .pointer (some ⟨b13, 4, none⟩))]) (Ls := [(b13, .cells #[.slice a20 n24 c21, .slice a26 n30 c27, .int .i64 n, .int .i64 n5, .slice a255 n259 c256] 26 (0, 0))]) rfl rfl rfl rfl ((sc rfl (sn _))) (by kernel_rfl) (s0 (s1 (s2 (s1 (s3 (s3 (s3 (s3 sr)))))))) (fun H F' L' hF' hL' => v_load Try.isAgg24 rfl ((Has.own 0 rfl).ext hF' hL') rfl) ?_
       refine shM_v (v := .slice a295 n298 c296) (ek := [(16, .slice a295 n298 c296)]) (Ls := []) rfl rfl rfl rfl ((sc rfl (sn _))) (by kernel_rfl) sm (fun H F' L' hF' hL' => v_move rfl) ?_
       refine shM_v (v := .pointer (some ⟨b_b, 0, none⟩)) (ek := [(0, .pointer (some ⟨b_b, 0, none⟩))]) (Ls := []) rfl rfl rfl rfl ((sc rfl (sn _))) (by kernel_rfl) sm (fun H F' L' hF' hL' => v_move rfl) ?_
       refine shM_v (v := .pointer (some ⟨b_b, 0, none⟩)) (ek := [(0, .pointer (some ⟨b_b, 0, none⟩))]) (Ls := []) rfl rfl rfl rfl ((sc rfl (sn _))) (by kernel_rfl) sm (fun H F' L' hF' hL' => v_move rfl) ?_
       refine ⟨_, [(105, .pointer (some ⟨b_b, 0, none⟩))], rfl, rfl, (sc rfl (sn _)), by kernel_rfl, ?_⟩; intro H
       obtain ⟨n8, at_12, turn12, h305, r306⟩ := b3_ok r304
       refine o_callG (Lb := [(b_b, .cells #[.slice metal_a metal.length metal_c, .int .i64 at_11, .int .u32 turn11] 66 (0, 0))]) (Lr := (b13, .cells #[.slice a20 n24 c21, .slice a26 n30 c27, .int .i64 n, .int .i64 n5, .slice a255 n259 c256] 26 (0, 0)) :: ((b1, .cells #[.slice none 0 0, .slice none 0 0, .int .i64 0, .int .i64 0, .slice none 0 0] 26 (0, 0)) :: (Lb299 ++ (Lb22 ++ (Lb28 ++ (Lb257 ++ [])))))) rfl Try.call23 rfl rfl rfl (pR) (oyezkit_Bell_Strike_w h_metal h305) ?_; rintro _ F307 _ hF308 hd310 hn309 ⟨rfl, rfl⟩
       replace h_metal := h_metal.mono (iE_ok _) hF308
       replace hz258 := hz258.mono (prE_ok (slE_ok (iE_ok _)) (prE_ok (iE_ok _) (iE_ok _))) hF308
       replace h297 := h297.mono (iE_ok _) hF308
       refine shO_L (lb (ln rfl)) ?_
       refine shO_nil ⟨_, rfl, hF308, [5, 2, 1, 0], by kernel_rfl, .inl (.inr (fun d h => by cases h; rfl)), (List.forall_mem_cons.2 ⟨sm, (List.forall_mem_cons.2 ⟨sm, (List.forall_mem_cons.2 ⟨s0 (s1 (s2 (s1 (s3 (s3 (s3 (s3 sr))))))), (List.forall_mem_cons.2 ⟨sm, (fun _ h => absurd h List.not_mem_nil)⟩)⟩)⟩)⟩), ?_⟩
       refine ⟨_, [(107, .pointer (some ⟨b_b, 0, none⟩))], rfl, rfl, (sc rfl (sn _)), by kernel_rfl, ?_⟩; intro H
       obtain ⟨n9, at_13, turn13, h311, r312⟩ := b3_ok r306
       refine o_callG (Lb := [(b_b, .cells #[.slice metal_a metal.length metal_c, .int .i64 at_12, .int .u32 turn12] 66 (0, 0))]) (Lr := (b13, .cells #[.slice a20 n24 c21, .slice a26 n30 c27, .int .i64 n, .int .i64 n5, .slice a255 n259 c256] 26 (0, 0)) :: ((b1, .cells #[.slice none 0 0, .slice none 0 0, .int .i64 0, .int .i64 0, .slice none 0 0] 26 (0, 0)) :: (Lb299 ++ (Lb22 ++ (Lb28 ++ (Lb257 ++ [])))))) rfl Try.call23 rfl rfl rfl (pR) (oyezkit_Bell_Strike_w h_metal h311) ?_; rintro _ F313 _ hF314 hd316 hn315 ⟨rfl, rfl⟩
       replace hz258 := hz258.mono (prE_ok (slE_ok (iE_ok _)) (prE_ok (iE_ok _) (iE_ok _))) hF314
       replace h297 := h297.mono (iE_ok _) hF314
       refine shO_L (lb (ln rfl)) ?_
       refine shO_nil ⟨_, rfl, hF314, [2, 1, 0], by kernel_rfl, .inl (.inr (fun d h => by cases h; rfl)), (List.forall_mem_cons.2 ⟨sm, (List.forall_mem_cons.2 ⟨s0 (s1 (s2 (s1 (s3 (s3 (s3 (s3 sr))))))), (List.forall_mem_cons.2 ⟨sm, (fun _ h => absurd h List.not_mem_nil)⟩)⟩)⟩), ?_⟩
       refine shM_v (v := .agg #[.slice a295 n298 c296, .int .i64 n8, .int .i64 n9]) (ek := [(104, .slice a295 n298 c296), (106, .int .i64 n8), (108, .int .i64 n9)]) (Ls := []) rfl rfl rfl rfl ((sc rfl (sc rfl (sc rfl (sn _))))) (by kernel_rfl) sm (fun H F' L' hF' hL' => v_build (v := .agg #[.slice a295 n298 c296, .int .i64 n8, .int .i64 n9]) rfl (by intro w; kernel_rfl)) ?_
       refine ⟨_, [(109, .agg #[.slice a295 n298 c296, .int .i64 n8, .int .i64 n9])], rfl, rfl, (sc rfl (sn _)), by kernel_rfl, ?_⟩; intro H
       refine o_buildSlice (cs := #[.slice a295 n298 c296, .int .i64 n8, .int .i64 n9]) rfl rfl (buildSlice_all slt_24 [.agg #[.slice a295 n298 c296, .int .i64 n8, .int .i64 n9]] rfl (by decide) (by simp [Value.cells]) (by decide)) ?_; intro b317 hb317
       refine shO_nil ⟨_, rfl, FExt.refl _, [1, 0], by kernel_rfl, .inl (.inr (fun d h => by cases h; rfl)), (List.forall_mem_cons.2 ⟨s0 (s1 (s1 (s2 (s1 (s3 (s3 (s3 (s3 sr)))))))), (List.forall_mem_cons.2 ⟨sm, (fun _ h => absurd h List.not_mem_nil)⟩)⟩), ?_⟩
       refine ⟨_, [(103, .slice a255 n259 c256), (110, .slice (some ⟨b317, 0, none⟩) 1 1)], rfl, rfl, (sc rfl (sc rfl (sn _))), by kernel_rfl, ?_⟩; intro H
       obtain rfl := (SlR.caps h297).1
       refine shO_freezeR (Nat.le_refl _) (iE_ok _) (fC (fC (fC (fC fP)))) h297 ?_; intro F318 hF319 h320
       replace hz258 := hz258.mono (prE_ok (slE_ok (iE_ok _)) (prE_ok (iE_ok _) (iE_ok _))) hF319
       obtain ⟨l8, h321, g322, r323⟩ := ap_ok r312
       refine o_appZ (xs := t_notices2) (ys := [(l7, n8, n9)]) (zs := l8) rfl slt_24 rfl rfl (Nat.le_refl _) (fun _ => .c (.c (.c (.c (.s (.s .h)))))) hz258 (SrcR.box (vss := [[.slice a295 l7.length c296, .int .i64 n8, .int .i64 n9]]) (ys := [(l7, n8, n9)]) 0 rfl (prE_ok (slE_ok (iE_ok _)) (prE_ok (iE_ok _) (iE_ok _))) (.cons ⟨_, _, rfl, ⟨_, _, rfl, h320⟩, ⟨_, _, rfl, rfl, rfl⟩⟩ .nil) rfl rfl) h321 g322 (by decide) ?_; intro a324 n328 c325 Lb326 hz327
       refine kO (kd kr) ?_
       refine shO_nil ⟨_, rfl, hF319, [], by kernel_rfl, .inl (.inl rfl), (fun _ h => absurd h List.not_mem_nil), ?_⟩
       refine shM_v (v := .pointer (some ⟨b13, 4, none⟩)) (ek := [(9, .pointer (some ⟨b13, 0, none⟩))]) (Ls := []) rfl rfl rfl rfl ((sc rfl (sn _))) (by kernel_rfl) sm (fun H F' L' hF' hL' => v_fieldAddr fa_26_4 rfl) ?_
       refine ⟨_, [(111, .slice a324 n328 c325), (112, .pointer (some ⟨b13, 4, none⟩))], rfl, rfl, (sc rfl (sc rfl (sn _))), by kernel_rfl, ?_⟩; intro H
       refine o_store (i := 1) Try.sizeOf24 rfl rfl rfl rfl (nbL rfl) ?_
       refine shO_L (L' := (b_b, .cells #[.slice metal_a metal.length metal_c, .int .i64 at_13, .int .u32 turn13] 66 (0, 0)) :: ((b13, .cells #[.slice a20 n24 c21, .slice a26 n30 c27, .int .i64 n, .int .i64 n5, .slice a324 n328 c325] 26 (0, 0)) :: ((b1, .cells #[.slice none 0 0, .slice none 0 0, .int .i64 0, .int .i64 0, .slice none 0 0] 26 (0, 0)) :: (Lb22 ++ (Lb28 ++ (Lb326 ++ [])))))) rfl ?_
       refine shO_nil ⟨undef, rfl, FExt.refl _, [], by kernel_rfl, .inl (.inl rfl), (fun _ h => absurd h List.not_mem_nil), ?_⟩
       refine shM_nil ?_
       refine inBlock_n (id := 5) (shW_region ?_)
       refine ov (v_add rfl rfl (Ctr.r64 hk263 c270 g261)) rfl ?_
       refine om rfl rfl (shO_nil ?_)
       exact le kr ⟨_, hk271, at_13, turn13, l8, left_ - (l7.length : Int), a324, n328, c325, Lb326, r323, (((((hF268.trans hF275).trans hF288).trans hF308).trans hF314).trans hF319), rfl, (sc rfl (sc rfl (sc rfl (sc rfl (sc rfl (sc rfl (sn _))))))), hz327⟩
     have r330 := ite_f r302 c303
     refine shW_skip (inBlock_n (id := 5) (shW_region ?_))
     refine ov (v_add rfl rfl (Ctr.r64 hk263 c270 g261)) rfl ?_
     refine om rfl rfl (shO_nil ?_)
     exact le (kc (kc (kc (kx kr)))) ⟨_, hk271, at_11, turn11, t_notices2, left_ - (l7.length : Int), a255, n259, c256, Lb257, r330, ((hF268.trans hF275).trans hF288), rfl, (sc rfl (sc rfl (sc rfl (sc rfl (sc rfl (sc rfl (sn _))))))), hz258⟩
   obtain rfl := Ctr.zero hk263 c270
   rw [oyezlaw03_Made_l3] at r265
   refine shW_exit (andThen_exit (andThen_exit ?_))
   refine inBlock_exit ?_
   obtain ⟨rfl, rfl, rfl⟩ := inj3 r265
   exact mi kr ⟨a255, n259, c256, Lb257, (hF252.trans hF268), rfl, (sc rfl (sc rfl (sn _))), hz258⟩
 rintro e1 F332 _ ⟨a241, n245, c242, Lb243, hF333, rfl, he331, hz244⟩
 refine shW_env _ he331 ?_
 replace hz23 := hz23.mono (iE_ok _) hF333
 replace hz29 := hz29.mono (iE_ok _) hF333
 refine wsr ?_
 refine ov (v_loadA (cs := #[.slice a20 n24 c21, .slice a26 n30 c27, .int .i64 n, .int .i64 n5, .slice a241 n245 c242]) Try.isAgg26 Try.sizeOf26 rfl (Has.own 1 rfl) (nbL rfl) rfl) rfl ?_
 refine o_storeA (i := 2) Try.sizeOf26 rfl rfl rfl (by simp [Value.oneCell']) rfl (nbL rfl) ?_
 refine shO_L (L' := (b_b, .cells #[.slice metal_a metal.length metal_c, .int .i64 b_at7, .int .u32 b_turn7] 66 (0, 0)) :: ((b13, .cells #[.slice a20 n24 c21, .slice a26 n30 c27, .int .i64 n, .int .i64 n5, .slice a241 n245 c242] 26 (0, 0)) :: ((b1, .cells #[.slice a20 n24 c21, .slice a26 n30 c27, .int .i64 n, .int .i64 n5, .slice a241 n245 c242] 26 (0, 0)) :: (Lb22 ++ (Lb28 ++ (Lb243 ++ [])))))) rfl ?_
 refine shO_nil ?_
 obtain rfl := (NlR.caps hz23).1
 refine shW_freezeN (Nat.le_refl _) (iE_ok _) (fC (fC (fC fP))) hz23 ?_; intro F334 hF335 h336
 replace hz29 := hz29.mono (iE_ok _) hF335
 replace hz244 := hz244.mono (prE_ok (slE_ok (iE_ok _)) (prE_ok (iE_ok _) (iE_ok _))) hF335
 obtain rfl := (NlR.caps hz29).1
 refine shW_freezeN (Nat.le_refl _) (iE_ok _) (fC (fC (fC fP))) hz29 ?_; intro F337 hF338 h339
 replace h336 := h336.mono (slE_ok (iE_ok _)) hF338
 replace hz244 := hz244.mono (prE_ok (slE_ok (iE_ok _)) (prE_ok (iE_ok _) (iE_ok _))) hF338
 refine kW (kf (fC (fC fO)) (kc (kd kr))) ?_
 refine shW_ret ?_
 refine q_res1 Try.results6 (res_cellA (cs := #[.slice a20 t_walks.length c21, .slice a26 t_hears.length c27, .int .i64 n, .int .i64 n5, .slice a241 n245 c242]) Try.isAgg26 Try.sizeOf26 rfl (Has.own 0 rfl) (nbL rfl) rfl) (s1 (s2 (s4 sr))) ?_
 obtain ⟨rfl, rfl, rfl, rfl, rfl, rfl, rfl⟩ := inj7 r248
 exact ⟨_, _, _, _, _, _, _, _, rfl, rfl, h336, h339, hz244.any⟩
theorem oyezkit_Hang_w {metal_a : Option Addr} {metal_c : Nat} {metal : List Int} {F : FS} (h_metal : RowR 1 (iE .u8) F metal_a metal_c metal) {r : List Int} {r2 r3 : Int} (hr : oyezkit_Hang metal = some (r, r2, r3)) :
    SH.Spec Try.prog 7 #[.slice metal_a metal.length metal_c] F [] fun F' L' v => ∃ (rb : Nat) (ra : Option Addr) (rc : Nat), v = .pointer (some ⟨rb, 0, none⟩) ∧ L' = [(rb, .cells #[.slice ra r.length rc, .int .i64 r2, .int .u32 r3] 66 (0, 0))] ∧ RowR 1 (iE .u8) F' ra rc r := by
 refine spec_of_shW (args := [.slice metal_a metal.length metal_c]) Try.func7 rfl Try.ntmps7 (nbL rfl) ?_
 intro K _ _; rw [oyezkit_Hang] at hr
 refine wsr (oa rfl rfl (nsr (om rfl rfl ?_)))
 refine ov (v_build (v := .agg #[.slice metal_a metal.length metal_c, .int .i64 0, .int .u32 0]) rfl (by intro w; kernel_rfl)) rfl ?_
 refine o_box rfl rfl ?_; intro b1 hb1
 refine oa rfl rfl (shO_nil (shW_ret ?_))
 refine q_res1 Try.results7 (res_tmp rfl) (sr) ?_
 obtain ⟨rfl, rfl, rfl⟩ := inj3 hr
 exact ⟨_, _, _, rfl, rfl, h_metal⟩
set_option maxHeartbeats 1000000 in
theorem round_in_w {n lo hi : Int} {F : FS} {r : Bool} (hr : round_in n lo hi = some r) :
    SpecV Try.prog 60 #[.int .i64 n, .int .i64 lo, .int .i64 hi] F (.bool r) := by
 refine spec_of_shW (args := [.int .i64 n, .int .i64 lo, .int .i64 hi]) Try.func60 rfl Try.ntmps60 (nbL rfl) ?_
 intro K _ _; rw [round_in] at hr
 refine wsr (oa rfl rfl (nsr (om rfl rfl (om rfl rfl ?_))))
 refine ov (v_geqK rfl rfl) rfl ?_
 refine om rfl rfl ?_
 by_cases c1 : lo ≤ n
 · have r2 := ite_t hr c1
   refine shO_on (b := true) 10 rfl (Env.isT rfl c1) (om rfl rfl (shO_on (b := true) 10 rfl (Env.isT rfl c1) (om rfl rfl (shO_on (b := true) 10 rfl (Env.isT rfl c1) ?_))))
   refine ov (v_leqK rfl rfl) rfl ?_
   refine ov (v_pick_t (evD_true rfl c1) rfl) rfl ?_
   refine oa rfl rfl (shO_nil (shW_ret ?_))
   refine q_res1 Try.results60 (res_tmp rfl) (sr) ?_
   obtain rfl := inj1 r2
   exact rfl
 have r3 := ite_f hr c1
 refine shO_off (b' := false) 10 rfl (Env.isF rfl c1) rfl rfl (shO_off (b' := false) 10 rfl (Env.isF rfl c1) rfl rfl (shO_off (b' := false) 10 rfl (Env.isF rfl c1) rfl rfl ?_))
 refine ov (v_pick_f (evD_false rfl c1) rfl) rfl ?_
 refine oa rfl rfl (shO_nil (shW_ret ?_))
 refine q_res1 Try.results60 (res_tmp rfl) (sr) ?_
 obtain rfl := inj1 r3
 exact rfl
set_option maxHeartbeats 1000000 in
theorem slices_IndexFunc_int_int_w {s__a : Option Addr} {s__c : Nat} {s_ : List (List Int)} {f_f : FuncId} {f_1 f_2 : Array Value} {f : (List Int) → Option Bool} {F : FS} (h_s_ : RowR 1 (slE 1 (iE .i64)) F s__a s__c s_) (h_f : FnR Try.prog F f_f f_1 f_2 (slE 1 (iE .i64)) Value.bool f) {r : Int} (hr : slices_IndexFunc_int_int s_ f = some r) :
    SpecV Try.prog 88 #[.slice s__a s_.length s__c, .func (.func f_f) f_1 f_2] F (.int .i64 r) := by
 refine spec_of_shW (args := [.slice s__a s_.length s__c, .func (.func f_f) f_1 f_2]) Try.func88 rfl Try.ntmps88 (nbL rfl) ?_
 intro K _ _; rw [slices_IndexFunc_int_int] at hr
 refine wsr (oa rfl rfl (shO_nil ?_))
 refine shW_join (fun e1 F1 L1 => slices_IndexFunc_int_int_j1 = some r ∧ F = F1 ∧ L1 = [] ∧ e1.sub []) ?_ ?_
 · refine wsr (om rfl rfl ?_)
   refine ov (v_lenS Try.underlying23 rfl) rfl ?_
   refine om rfl rfl (shO_nil ?_)
   refine shW_block ?_
   refine shW_lp (fun fu2 e1 F1 L1 => ∃ (tl : List (List Int)) (k : Int), tl.length = fu2 ∧ Lst s_ k tl ∧ slices_IndexFunc_int_int_l2 f tl k = some r ∧ F = F1 ∧ L1 = [] ∧ e1.sub [(0, .slice s__a s_.length s__c), (1, .func (.func f_f) f_1 f_2), (7, .int .i64 (s_.length : Int)), (8, .int .i64 k)]) _ (m0 kr ⟨_, _, rfl, Lst.start _, hr, rfl, rfl, (sc rfl (sc rfl (sc rfl (sc rfl (sn _)))))⟩) ?_
   rintro fu2 e1 _ _ ⟨tl, k, hn2, hk1, r3, rfl, rfl, he4⟩
   refine shW_env _ he4 ?_
   refine wsr ?_
   refine ov (v_lssK rfl rfl) rfl ?_
   refine shO_nil (shW_seq ?_)
   refine shW_condP rfl (fun c6 => ?_) (fun c6 => ?_)
   · obtain ⟨x, tl2, rfl, hx8, g9, hk7⟩ := Lst.succ hk1 c6
     rw [slices_IndexFunc_int_int_l2] at r3
     refine shW_skip (shW_seq ?_)
     refine shW_block ?_
     refine wsr (om rfl rfl (oa rfl rfl (nsr (om rfl rfl (om rfl rfl (om rfl rfl ?_))))))
     obtain ⟨b10, o11, c12, vs13, ha14, hs15, hle16, ⟨a19, c20, rfl, h21⟩, hl17, hc18⟩ := RowR.at (slE_ok (iE_ok _)) h_s_ ([]) g9.1 hx8
     refine ov (v_indexO Try.underlying23 Try.sizeOf30 rfl ha14 rfl g9) rfl ?_
     refine ov (v_load Try.isAgg30 rfl hs15 (hc18 0 (by decide))) rfl ?_
     obtain ⟨ok, h22, r23⟩ := b1_ok r3
     refine o_callV rfl h_f.1 rfl rfl rfl (h_f.2 _ (FExt.refl _) _ _ _ ⟨_, _, rfl, h21⟩ h22) ?_
     refine shO_nil ?_
     refine shW_cond rfl (fun c24 => ?_) (fun c24 => ?_)
     · have r25 := bt r23 c24
       refine wsr (om rfl rfl (oa rfl rfl (shO_nil (shW_ret (inBlock_ret (andThen_ret (andThen_ret (inBlock_ret (andThen_ret ?_)))))))))
       refine q_res1 Try.results88 (res_tmp rfl) (sr) ?_
       obtain rfl := inj1 r25
       exact rfl
     have r26 := bf r23 c24
     refine shW_skip (inBlock_n (id := 1) (shW_region ?_))
     refine ov (v_add rfl rfl (Lst.r64 hk1 c6 (RowR.lt h_s_))) rfl ?_
     refine om rfl rfl (shO_nil ?_)
     subst hn2; exact le kr ⟨_, _, rfl, hk7, r26, rfl, rfl, (sc rfl (sc rfl (sc rfl (sc rfl (sn _)))))⟩
   obtain rfl := Lst.zero hk1 c6
   rw [slices_IndexFunc_int_int_l2] at r3
   refine shW_exit (andThen_exit (andThen_exit ?_))
   refine inBlock_exit ?_
   exact mi kr ⟨r3, rfl, rfl, (sn _)⟩
 rintro e1 _ _ ⟨r27, rfl, rfl, he28⟩
 refine shW_env _ he28 ?_
 rw [slices_IndexFunc_int_int_j1] at r27
 refine wsr (oa rfl rfl (shO_nil (shW_ret ?_)))
 refine q_res1 Try.results88 (res_tmp rfl) (sr) ?_
 obtain rfl := inj1 r27
 exact rfl
theorem slices_ContainsFunc_int_int_w {s__a : Option Addr} {s__c : Nat} {s_ : List (List Int)} {f_f : FuncId} {f_1 f_2 : Array Value} {f : (List Int) → Option Bool} {F : FS} (h_s_ : RowR 1 (slE 1 (iE .i64)) F s__a s__c s_) (h_f : FnR Try.prog F f_f f_1 f_2 (slE 1 (iE .i64)) Value.bool f) {r : Bool} (hr : slices_ContainsFunc_int_int s_ f = some r) :
    SpecV Try.prog 82 #[.slice s__a s_.length s__c, .func (.func f_f) f_1 f_2] F (.bool r) := by
 refine spec_of_shW (args := [.slice s__a s_.length s__c, .func (.func f_f) f_1 f_2]) Try.func82 rfl Try.ntmps82 (nbL rfl) ?_
 intro K _ _; rw [slices_ContainsFunc_int_int] at hr
 refine wsr (oa rfl rfl (nsr (om rfl rfl (om rfl rfl ?_))))
 obtain ⟨n, h1, r2⟩ := b1_ok hr
 refine o_callV rfl Try.call88 rfl rfl rfl (slices_IndexFunc_int_int_w h_s_ h_f h1) ?_
 refine ov (v_geqK rfl rfl) rfl ?_
 refine oa rfl rfl (shO_nil (shW_ret ?_))
 refine q_res1 Try.results82 (res_tmp rfl) (sr) ?_
 obtain rfl := inj1 r2
 exact rfl
theorem round_every_int_1_w {x_a : Option Addr} {x_c : Nat} {x : List Int} {b_so : Nat} {so_f : FuncId} {so_1 so_2 : Array Value} {so : (List Int) → Option Bool} {mb_so : Nat × Nat} {F : FS} (h_x : RowR 1 (iE .i64) F x_a x_c x) (hb_so : F b_so = some (.cells #[.func (.func so_f) so_1 so_2] 126 mb_so)) (h_so : FnR Try.prog F so_f so_1 so_2 (slE 1 (iE .i64)) Value.bool so) {r : Bool} (hr : round_every_int_1 x so = some r) :
    SpecV Try.prog 83 #[.slice x_a x.length x_c, .pointer (some ⟨b_so, 0, none⟩)] F (.bool r) := by
 refine spec_of_shW (args := [.slice x_a x.length x_c, .pointer (some ⟨b_so, 0, none⟩)]) Try.func83 rfl Try.ntmps83 (nbL rfl) ?_
 intro K _ _; rw [round_every_int_1] at hr
 refine wsr (oa rfl rfl (nsr ?_))
 refine ov (v_load Try.isAgg126 rfl (Has.frozen hb_so) rfl) rfl ?_
 refine om rfl rfl ?_
 obtain ⟨ok, h1, r2⟩ := b1_ok hr
 refine o_callV rfl h_so.1 rfl rfl rfl (h_so.2 _ (FExt.refl _) _ _ _ ⟨_, _, rfl, h_x⟩ h1) ?_
 refine ov (v_notB rfl) rfl ?_
 refine oa rfl rfl (shO_nil (shW_ret ?_))
 refine q_res1 Try.results83 (res_tmp rfl) (sr) ?_
 obtain rfl := inj1 r2
 exact rfl
set_option maxHeartbeats 1000000 in
theorem round_every_int_w {l_a : Option Addr} {l_c : Nat} {l : List (List Int)} {so_f : FuncId} {so_1 so_2 : Array Value} {so : (List Int) → Option Bool} {F : FS} (h_l : RowR 1 (slE 1 (iE .i64)) F l_a l_c l) (h_so : FnR Try.prog F so_f so_1 so_2 (slE 1 (iE .i64)) Value.bool so) {r : Bool} (hr : round_every_int l so = some r) :
    SpecV Try.prog 68 #[.slice l_a l.length l_c, .func (.func so_f) so_1 so_2] F (.bool r) := by
 refine spec_of_shW (args := [.slice l_a l.length l_c, .func (.func so_f) so_1 so_2]) Try.func68 rfl Try.ntmps68 (nbL rfl) ?_
 intro K _ _; rw [round_every_int] at hr
 refine wsr ?_
 refine o_box rfl rfl ?_; intro b1 hb1
 refine oa rfl rfl (nsr (om rfl rfl ?_))
 refine ov (v_makeFunc rfl rfl) rfl ?_
 refine shO_freeze 0 rfl hb1 ?_; intro F2 hF3 hz4
 refine shO_L (L' := []) rfl ?_
 replace h_l := h_l.mono (slE_ok (iE_ok _)) hF3
 replace h_so := h_so.mono hF3
 have hn8 : FnR Try.prog F2 83 #[] #[.pointer (some ⟨b1, 0, none⟩)] (slE 1 (iE .i64)) Value.bool (fun xx_ : (List Int) => round_every_int_1 xx_ so) := ⟨Try.call83, fun F2 h2 vs xx_ r ha hr => by obtain ⟨a5, c6, rfl, h7⟩ := ha; exact round_every_int_1_w h7 (h2 _ _ hz4) (h_so.mono h2) hr⟩
 obtain ⟨ok, h9, r10⟩ := b1_ok hr
 refine o_callV rfl Try.call82 rfl rfl rfl (slices_ContainsFunc_int_int_w h_l hn8 h9) ?_
 refine ov (v_notB rfl) rfl ?_
 refine oa rfl rfl (shO_nil (shW_ret ?_))
 refine q_res1 Try.results68 (res_tmp rfl) (sr) ?_
 obtain rfl := inj1 r10
 exact rfl
theorem round_Beat_counted_1_w {l_a : Option Addr} {l_c : Nat} {l : List Int} {b_n : Nat} {n : Int} {mb_n : Nat × Nat} {F : FS} (_h_l : RowR 1 (iE .i64) F l_a l_c l) (hb_n : F b_n = some (.cells #[.int .i64 n] 3 mb_n)) {r : Bool} (hr : round_Beat_counted_1 l n = some r) :
    SpecV Try.prog 69 #[.slice l_a l.length l_c, .pointer (some ⟨b_n, 0, none⟩)] F (.bool r) := by
 refine spec_of_shW (args := [.slice l_a l.length l_c, .pointer (some ⟨b_n, 0, none⟩)]) Try.func69 rfl Try.ntmps69 (nbL rfl) ?_
 intro K _ _; rw [round_Beat_counted_1] at hr
 refine wsr (oa rfl rfl (nsr (om rfl rfl ?_)))
 refine ov (v_lenS Try.underlying30 rfl) rfl ?_
 refine ov (v_load Try.isAgg3 rfl (Has.frozen hb_n) rfl) rfl ?_
 refine ov (v_eql rfl rfl) rfl ?_
 refine oa rfl rfl (shO_nil (shW_ret ?_))
 refine q_res1 Try.results69 (res_tmp rfl) (sr) ?_
 obtain rfl := inj1 hr
 exact rfl
set_option maxHeartbeats 1000000 in
theorem round_Beat_counted_w {walks_a : Option Addr} {walks_c : Nat} {walks : List (List Int)} {hears_a : Option Addr} {hears_c : Nat} {hears : List (List Int)} {houses start : Int} {notices_a : Option Addr} {notices_c : Nat} {notices : List ((List Int) × Int × Int)} {F : FS} (h_walks : RowR 1 (slE 1 (iE .i64)) F walks_a walks_c walks) (_h_hears : RowR 1 (slE 1 (iE .i64)) F hears_a hears_c hears) (_h_notices : RowR 3 (prE (slE 1 (iE .i64)) (prE (iE .i64) (iE .i64))) F notices_a notices_c notices) {r : Bool} (hr : round_Beat_counted walks hears houses start notices = some r) :
    SpecV Try.prog 41 #[.agg #[.slice walks_a walks.length walks_c, .slice hears_a hears.length hears_c, .int .i64 houses, .int .i64 start, .slice notices_a notices.length notices_c]] F (.bool r) := by
 refine spec_of_shW (args := [.agg #[.slice walks_a walks.length walks_c, .slice hears_a hears.length hears_c, .int .i64 houses, .int .i64 start, .slice notices_a notices.length notices_c]]) Try.func41 rfl Try.ntmps41 (nbL rfl) ?_
 intro K _ _; rw [round_Beat_counted] at hr
 refine wsr ?_
 refine o_box rfl rfl ?_; intro b1 hb1
 refine oa rfl rfl (nsr ?_)
 refine ov (v_fieldAddr fa_26_1 rfl) rfl ?_
 refine ov (v_load Try.isAgg23 rfl (Has.own 0 rfl) rfl) rfl ?_
 refine ov (v_lenS Try.underlying23 rfl) rfl ?_
 refine o_alloc rfl Try.zeroValue3 ?_; intro b2 hb2
 refine o_store (i := 0) Try.sizeOf3 rfl rfl rfl rfl (nbL rfl) ?_
 refine shO_L (L' := [(b2, .cells #[.int .i64 (hears.length : Int)] 3 (0, 0)), (b1, .cells #[.slice walks_a walks.length walks_c, .slice hears_a hears.length hears_c, .int .i64 houses, .int .i64 start, .slice notices_a notices.length notices_c] 26 (0, 0))]) rfl ?_
 refine nsr ?_
 refine ov (v_load Try.isAgg3 rfl (Has.own 0 rfl) rfl) rfl ?_
 obtain ⟨ok, h3, r4⟩ := b1_ok hr
 refine o_callV rfl Try.call60 rfl rfl rfl (round_in_w h3) ?_
 refine om rfl rfl ?_
 rcases bool_two ok with c5 | c5
 · have r6 := bt r4 c5
   refine shO_on (b := true) 9 rfl (EnvB rfl c5) ?_
   refine ov (v_fieldAddr fa_26_2 rfl) rfl ?_
   refine shO_on (b := true) 9 rfl (EnvB rfl c5) ?_
   refine ov (v_load Try.isAgg3 rfl (Has.own 1 rfl) rfl) rfl ?_
   refine shO_on (b := true) 9 rfl (EnvB rfl c5) ?_
   obtain ⟨ok2, h7, r8⟩ := b1_ok r6
   refine o_callV rfl Try.call60 rfl rfl rfl (round_in_w h7) ?_
   refine ov (v_pick_t (evB rfl c5) rfl) rfl ?_
   refine om rfl rfl ?_
   rcases bool_two ok2 with c9 | c9
   · have r10 := bt r8 c9
     refine shO_on (b := true) 14 rfl (EnvB rfl c9) ?_
     refine ov (v_fieldAddr fa_26_4 rfl) rfl ?_
     refine shO_on (b := true) 14 rfl (EnvB rfl c9) ?_
     refine ov (v_load Try.isAgg24 rfl (Has.own 1 rfl) rfl) rfl ?_
     refine shO_on (b := true) 14 rfl (EnvB rfl c9) ?_
     refine ov (v_lenS Try.underlying24 rfl) rfl ?_
     refine shO_on (b := true) 14 rfl (EnvB rfl c9) ?_
     refine ov (v_leqK rfl rfl) rfl ?_
     refine ov (v_pick_t (evB rfl c9) rfl) rfl ?_
     refine om rfl rfl ?_
     by_cases c11 : (notices.length : Int) ≤ 3
     · have r12 := ite_t r10 c11
       refine shO_on (b := true) 20 rfl (Env.isT rfl c11) ?_
       refine ov (v_fieldAddr fa_26_0 rfl) rfl ?_
       refine shO_on (b := true) 20 rfl (Env.isT rfl c11) ?_
       refine ov (v_load Try.isAgg23 rfl (Has.own 1 rfl) rfl) rfl ?_
       refine shO_on (b := true) 20 rfl (Env.isT rfl c11) ?_
       refine ov (v_lenS Try.underlying23 rfl) rfl ?_
       refine shO_on (b := true) 20 rfl (Env.isT rfl c11) ?_
       refine ov (v_load Try.isAgg3 rfl (Has.own 0 rfl) rfl) rfl ?_
       refine shO_on (b := true) 20 rfl (Env.isT rfl c11) ?_
       refine ov (v_eql rfl rfl) rfl ?_
       refine ov (v_pick_t (evD_true rfl c11) rfl) rfl ?_
       refine om rfl rfl ?_
       by_cases c13 : (walks.length : Int) = (hears.length : Int)
       · have r14 := ite_t r12 c13
         refine shO_on (b := true) 27 rfl (Env.isT rfl c13) ?_
         refine ov (v_fieldAddr fa_26_0 rfl) rfl ?_
         refine shO_on (b := true) 27 rfl (Env.isT rfl c13) ?_
         refine ov (v_load Try.isAgg23 rfl (Has.own 1 rfl) rfl) rfl ?_
         refine shO_on (b := true) 27 rfl (Env.isT rfl c13) ?_
         refine ov (v_makeFunc rfl rfl) rfl ?_
         refine shO_on (b := true) 27 rfl (Env.isT rfl c13) ?_
         refine shO_freeze 0 rfl hb2 ?_; intro F15 hF16 hz17
         refine shO_L (L' := [(b1, .cells #[.slice walks_a walks.length walks_c, .slice hears_a hears.length hears_c, .int .i64 houses, .int .i64 start, .slice notices_a notices.length notices_c] 26 (0, 0))]) rfl ?_
         replace h_walks := h_walks.mono (slE_ok (iE_ok _)) hF16
         have hn21 : FnR Try.prog F15 69 #[] #[.pointer (some ⟨b2, 0, none⟩)] (slE 1 (iE .i64)) Value.bool (fun xx_ : (List Int) => round_Beat_counted_1 xx_ (hears.length : Int)) := ⟨Try.call69, fun F2 h2 vs xx_ r ha hr => by obtain ⟨a18, c19, rfl, h20⟩ := ha; exact round_Beat_counted_1_w h20 (h2 _ _ hz17) hr⟩
         obtain ⟨ok3, h22, r23⟩ := b1_ok r14
         refine o_callV rfl Try.call68 rfl rfl rfl (round_every_int_w h_walks hn21 h22) ?_
         refine ov (v_pick_t (evD_true rfl c13) rfl) rfl ?_
         refine oa rfl rfl (shO_nil ?_)
         refine kW kn ?_
         refine shW_ret ?_
         refine q_res1 Try.results41 (res_tmp rfl) (sr) ?_
         obtain rfl := inj1 r23
         exact rfl
       have r24 := ite_f r12 c13
       refine shO_off (b' := false) 27 rfl (Env.isF rfl c13) rfl rfl (shO_off (b' := false) 27 rfl (Env.isF rfl c13) rfl rfl (shO_off (b' := false) 27 rfl (Env.isF rfl c13) rfl rfl (shO_off (b' := false) 27 rfl (Env.isF rfl c13) rfl rfl ?_)))
       refine ov (v_pick_f (evD_false rfl c13) rfl) rfl ?_
       refine oa rfl rfl (shO_nil ?_)
       refine kW kn ?_
       refine shW_ret ?_
       refine q_res1 Try.results41 (res_tmp rfl) (sr) ?_
       obtain rfl := inj1 r24
       exact rfl
     have r25 := ite_f r10 c11
     refine shO_off (b' := false) 20 rfl (Env.isF rfl c11) rfl rfl (shO_off (b' := false) 20 rfl (Env.isF rfl c11) rfl rfl (shO_off (b' := false) 20 rfl (Env.isF rfl c11) rfl rfl (shO_off (b' := false) 20 rfl (Env.isF rfl c11) rfl rfl (shO_off (b' := false) 20 rfl (Env.isF rfl c11) rfl rfl ?_))))
     refine ov (v_pick_f (evD_false rfl c11) rfl) rfl ?_
     refine om rfl rfl (shO_off (b' := false) 27 rfl rfl rfl rfl (shO_off (b' := false) 27 rfl rfl rfl rfl (shO_off (b' := false) 27 rfl rfl rfl rfl (shO_off (b' := false) 27 rfl rfl rfl rfl ?_))))
     refine ov (v_pick_f rfl rfl) rfl ?_
     refine oa rfl rfl (shO_nil ?_)
     refine kW kn ?_
     refine shW_ret ?_
     refine q_res1 Try.results41 (res_tmp rfl) (sr) ?_
     obtain rfl := inj1 r25
     exact rfl
   have r26 := bf r8 c9
   refine shO_off (b' := false) 14 rfl (EnvB rfl c9) rfl rfl (shO_off (b' := false) 14 rfl (EnvB rfl c9) rfl rfl (shO_off (b' := false) 14 rfl (EnvB rfl c9) rfl rfl (shO_off (b' := false) 14 rfl (EnvB rfl c9) rfl rfl ?_)))
   refine ov (v_pick_f (evB rfl c9) rfl) rfl ?_
   refine om rfl rfl (shO_off (b' := false) 20 rfl rfl rfl rfl (shO_off (b' := false) 20 rfl rfl rfl rfl (shO_off (b' := false) 20 rfl rfl rfl rfl (shO_off (b' := false) 20 rfl rfl rfl rfl (shO_off (b' := false) 20 rfl rfl rfl rfl ?_)))))
   refine ov (v_pick_f rfl rfl) rfl ?_
   refine om rfl rfl (shO_off (b' := false) 27 rfl rfl rfl rfl (shO_off (b' := false) 27 rfl rfl rfl rfl (shO_off (b' := false) 27 rfl rfl rfl rfl (shO_off (b' := false) 27 rfl rfl rfl rfl ?_))))
   refine ov (v_pick_f rfl rfl) rfl ?_
   refine oa rfl rfl (shO_nil ?_)
   refine kW kn ?_
   refine shW_ret ?_
   refine q_res1 Try.results41 (res_tmp rfl) (sr) ?_
   obtain rfl := inj1 r26
   exact rfl
 have r27 := bf r4 c5
 refine shO_off (b' := false) 9 rfl (EnvB rfl c5) rfl rfl (shO_off (b' := false) 9 rfl (EnvB rfl c5) rfl rfl (shO_off (b' := false) 9 rfl (EnvB rfl c5) rfl rfl ?_))
 refine ov (v_pick_f (evB rfl c5) rfl) rfl ?_
 refine om rfl rfl (shO_off (b' := false) 14 rfl rfl rfl rfl (shO_off (b' := false) 14 rfl rfl rfl rfl (shO_off (b' := false) 14 rfl rfl rfl rfl (shO_off (b' := false) 14 rfl rfl rfl rfl ?_))))
 refine ov (v_pick_f rfl rfl) rfl ?_
 refine om rfl rfl (shO_off (b' := false) 20 rfl rfl rfl rfl (shO_off (b' := false) 20 rfl rfl rfl rfl (shO_off (b' := false) 20 rfl rfl rfl rfl (shO_off (b' := false) 20 rfl rfl rfl rfl (shO_off (b' := false) 20 rfl rfl rfl rfl ?_)))))
 refine ov (v_pick_f rfl rfl) rfl ?_
 refine om rfl rfl (shO_off (b' := false) 27 rfl rfl rfl rfl (shO_off (b' := false) 27 rfl rfl rfl rfl (shO_off (b' := false) 27 rfl rfl rfl rfl (shO_off (b' := false) 27 rfl rfl rfl rfl ?_))))
 refine ov (v_pick_f rfl rfl) rfl ?_
 refine oa rfl rfl (shO_nil ?_)
 refine kW kn ?_
 refine shW_ret ?_
 refine q_res1 Try.results41 (res_tmp rfl) (sr) ?_
 obtain rfl := inj1 r27
 exact rfl
set_option maxHeartbeats 1000000 in
theorem round_Beat_stand_w {walks_a : Option Addr} {walks_c : Nat} {walks : List (List Int)} {hears_a : Option Addr} {hears_c : Nat} {hears : List (List Int)} {houses start : Int} {notices_a : Option Addr} {notices_c : Nat} {notices : List ((List Int) × Int × Int)} {s_ : Int} {F : FS} (_h_walks : RowR 1 (slE 1 (iE .i64)) F walks_a walks_c walks) (_h_hears : RowR 1 (slE 1 (iE .i64)) F hears_a hears_c hears) (_h_notices : RowR 3 (prE (slE 1 (iE .i64)) (prE (iE .i64) (iE .i64))) F notices_a notices_c notices) {r : Bool} (hr : round_Beat_stand walks hears houses start notices s_ = some r) :
    SpecV Try.prog 42 #[.agg #[.slice walks_a walks.length walks_c, .slice hears_a hears.length hears_c, .int .i64 houses, .int .i64 start, .slice notices_a notices.length notices_c], .int .i64 s_] F (.bool r) := by
 refine spec_of_shW (args := [.agg #[.slice walks_a walks.length walks_c, .slice hears_a hears.length hears_c, .int .i64 houses, .int .i64 start, .slice notices_a notices.length notices_c], .int .i64 s_]) Try.func42 rfl Try.ntmps42 (nbL rfl) ?_
 intro K _ _; rw [round_Beat_stand] at hr
 refine wsr ?_
 refine o_box rfl rfl ?_; intro b1 hb1
 refine oa rfl rfl (nsr (om rfl rfl ?_))
 refine ov (v_fieldAddr fa_26_1 rfl) rfl ?_
 refine ov (v_load Try.isAgg23 rfl (Has.own 0 rfl) rfl) rfl ?_
 refine ov (v_lenS Try.underlying23 rfl) rfl ?_
 obtain ⟨g2, r3⟩ := gd_ok hr
 refine ov (v_sub rfl rfl g2) rfl ?_
 obtain ⟨ok, h4, r5⟩ := b1_ok r3
 refine o_callV rfl Try.call60 rfl rfl rfl (round_in_w h4) ?_
 refine oa rfl rfl (shO_nil ?_)
 refine kW kn ?_
 refine shW_ret ?_
 refine q_res1 Try.results42 (res_tmp rfl) (sr) ?_
 obtain rfl := inj1 r5
 exact rfl
set_option maxHeartbeats 1000000 in
theorem round_Beat_walkable_w {walks_a : Option Addr} {walks_c : Nat} {walks : List (List Int)} {hears_a : Option Addr} {hears_c : Nat} {hears : List (List Int)} {houses start : Int} {notices_a : Option Addr} {notices_c : Nat} {notices : List ((List Int) × Int × Int)} {F : FS} (h_walks : RowR 1 (slE 1 (iE .i64)) F walks_a walks_c walks) (_h_hears : RowR 1 (slE 1 (iE .i64)) F hears_a hears_c hears) (_h_notices : RowR 3 (prE (slE 1 (iE .i64)) (prE (iE .i64) (iE .i64))) F notices_a notices_c notices) {r : Bool} (hr : round_Beat_walkable walks hears houses start notices = some r) :
    SpecV Try.prog 43 #[.agg #[.slice walks_a walks.length walks_c, .slice hears_a hears.length hears_c, .int .i64 houses, .int .i64 start, .slice notices_a notices.length notices_c]] F (.bool r) := by
 refine spec_of_shW (args := [.agg #[.slice walks_a walks.length walks_c, .slice hears_a hears.length hears_c, .int .i64 houses, .int .i64 start, .slice notices_a notices.length notices_c]]) Try.func43 rfl Try.ntmps43 (nbL rfl) ?_
 intro K _ _; rw [round_Beat_walkable] at hr
 refine wsr ?_
 refine o_box rfl rfl ?_; intro b1 hb1
 refine oa rfl rfl (shO_nil ?_)
 refine shW_join (fun e1 F1 L1 => round_Beat_walkable_j1 = some r ∧ F = F1 ∧ L1 = [] ∧ e1.sub []) ?_ ?_
 · refine wsr ?_
   refine ov (v_fieldAddr fa_26_0 rfl) rfl ?_
   refine ov (v_load Try.isAgg23 rfl (Has.own 0 rfl) rfl) rfl ?_
   refine ov (v_lenS Try.underlying23 rfl) rfl ?_
   refine om rfl rfl (shO_nil ?_)
   refine shW_block ?_
   refine kW kn ?_
   refine shW_lp (fun fu2 e1 F1 L1 => ∃ (tl : List (List Int)) (k : Int), tl.length = fu2 ∧ Lst walks k tl ∧ round_Beat_walkable_l2 tl k = some r ∧ F = F1 ∧ L1 = [] ∧ e1.sub [(8, .slice walks_a walks.length walks_c), (9, .int .i64 (walks.length : Int)), (10, .int .i64 k)]) _ (m0 kr ⟨_, _, rfl, Lst.start _, hr, rfl, rfl, (sc rfl (sc rfl (sc rfl (sn _))))⟩) ?_
   rintro fu2 e1 _ _ ⟨tl, k, hn3, hk2, r4, rfl, rfl, he5⟩
   refine shW_env _ he5 ?_
   refine wsr ?_
   refine ov (v_lssK rfl rfl) rfl ?_
   refine shO_nil (shW_seq ?_)
   refine shW_condP rfl (fun c7 => ?_) (fun c7 => ?_)
   · obtain ⟨x, tl2, rfl, hx9, g10, hk8⟩ := Lst.succ hk2 c7
     rw [round_Beat_walkable_l2] at r4
     refine shW_skip ?_
     refine shW_join (fun e1 F1 L1 => round_Beat_walkable_j3 k (round_Beat_walkable_l2 tl2) = some r ∧ F = F1 ∧ L1 = [] ∧ e1.sub [(8, .slice walks_a walks.length walks_c), (9, .int .i64 (walks.length : Int)), (10, .int .i64 k)]) ?_ ?_
     · refine shW_block ?_
       refine wsr (om rfl rfl ?_)
       obtain ⟨b11, o12, c13, vs14, ha15, hs16, hle17, ⟨a20, c21, rfl, h22⟩, hl18, hc19⟩ := RowR.at (slE_ok (iE_ok _)) h_walks ([]) g10.1 hx9
       refine ov (v_indexO Try.underlying23 Try.sizeOf30 rfl ha15 rfl g10) rfl ?_
       refine ov (v_load Try.isAgg30 rfl hs16 (hc19 0 (by decide))) rfl ?_
       refine oa rfl rfl (oa rfl rfl (nsr (om rfl rfl ?_)))
       refine ov (v_lenS Try.underlying30 rfl) rfl ?_
       refine om rfl rfl (shO_nil ?_)
       refine shW_block ?_
       refine shW_lp (fun fu4 e1 F1 L1 => ∃ (tl3 : List Int) (k2 : Int), tl3.length = fu4 ∧ Lst x k2 tl3 ∧ round_Beat_walkable_l4 k (round_Beat_walkable_l2 tl2) tl3 k2 = some r ∧ F = F1 ∧ L1 = [] ∧ e1.sub [(3, .int .i64 k), (8, .slice walks_a walks.length walks_c), (9, .int .i64 (walks.length : Int)), (10, .int .i64 k), (15, .slice a20 x.length c21), (16, .int .i64 (x.length : Int)), (17, .int .i64 k2)]) _ (m0 kr ⟨_, _, rfl, Lst.start _, r4, rfl, rfl, (sc rfl (sc rfl (sc rfl (sc rfl (sc rfl (sc rfl (sc rfl (sn _))))))))⟩) ?_
       rintro fu4 e1 _ _ ⟨tl3, k2, hn24, hk23, r25, rfl, rfl, he26⟩
       refine shW_env _ he26 ?_
       refine wsr ?_
       refine ov (v_lssK rfl rfl) rfl ?_
       refine shO_nil (shW_seq ?_)
       refine shW_condP rfl (fun c28 => ?_) (fun c28 => ?_)
       · obtain ⟨x2, tl4, rfl, hx30, g31, hk29⟩ := Lst.succ hk23 c28
         rw [round_Beat_walkable_l4] at r25
         refine shW_skip (shW_seq ?_)
         refine shW_block ?_
         refine wsr (om rfl rfl ?_)
         obtain ⟨b32, o33, c34, vs35, ha36, hs37, hle38, rfl, hl39, hc40⟩ := RowR.at (iE_ok _) h22 ([]) g31.1 hx30
         refine ov (v_indexO Try.underlying30 Try.sizeOf3 rfl ha36 rfl g31) rfl ?_
         refine ov (v_load Try.isAgg3 rfl hs37 (hc40 0 (by decide))) rfl ?_
         refine oa rfl rfl (oa rfl rfl (shO_nil ?_))
         obtain ⟨k3, h41, r42⟩ := b1_ok r25
         refine shW_join (fun e1 F1 L1 => F = F1 ∧ L1 = [] ∧ e1.sub [(3, .int .i64 k), (8, .slice walks_a walks.length walks_c), (9, .int .i64 (walks.length : Int)), (10, .int .i64 k), (15, .slice a20 x.length c21), (16, .int .i64 (x.length : Int)), (17, .int .i64 k2), (42, .bool k3)]) ?_ ?_
         · clear r42
           refine shW_region (om rfl rfl (om rfl rfl ?_))
           refine ov (v_eql rfl rfl) rfl ?_
           refine om rfl rfl ?_
           by_cases c43 : k = k2
           · have r44 := ite_t h41 c43
             refine shO_on (b := true) 25 rfl (Env.isT rfl c43) (om rfl rfl (shO_on (b := true) 25 rfl (Env.isT rfl c43) ?_))
             refine ov (v_neq rfl rfl) rfl ?_
             refine ov (v_pick_t (evD_true rfl c43) rfl) rfl ?_
             refine om rfl rfl ?_
             by_cases c45 : x2 ≠ 0
             · have r46 := ite_t r44 c45
               refine shO_off (b' := true) 29 rfl (Env.isT rfl c45) rfl rfl (shO_off (b' := true) 29 rfl (Env.isT rfl c45) rfl rfl (shO_off (b' := true) 29 rfl (Env.isT rfl c45) rfl rfl (shO_off (b' := true) 29 rfl (Env.isT rfl c45) rfl rfl (shO_offU 33 rfl rfl rfl (shO_offU 33 rfl rfl rfl (shO_off (b' := true) 29 rfl (Env.isT rfl c45) rfl rfl (shO_off (b' := true) 29 rfl (Env.isT rfl c45) rfl rfl (shO_offU 37 rfl rfl rfl (shO_offU 37 rfl rfl rfl ?_)))))))))
               refine shO_offU 37 rfl rfl rfl (shO_off (b' := true) 29 rfl (Env.isT rfl c45) rfl rfl ?_)
               refine ov (v_pick_t (evD_true rfl c45) rfl) rfl ?_
               refine shO_nil ?_
               obtain rfl := inj1 r46
               exact mi kr ⟨rfl, rfl, (sc rfl (sc rfl (sc rfl (sc rfl (sc rfl (sc rfl (sc rfl (sc rfl (sn _)))))))))⟩
             have r47 := ite_f r44 c45
             refine shO_on (b := false) 29 rfl (Env.isF rfl c45) (om rfl rfl (shO_on (b := false) 29 rfl (Env.isF rfl c45) (om rfl rfl (shO_on (b := false) 29 rfl (Env.isF rfl c45) ?_))))
             refine ov (v_neq rfl rfl) rfl ?_
             refine shO_on (b := false) 29 rfl (Env.isF rfl c45) (om rfl rfl ?_)
             by_cases c48 : k ≠ k2
             · have r49 := ite_t r47 c48
               refine shO_on (b := true) 33 rfl (Env.isT rfl c48) (om rfl rfl (shO_on (b := true) 33 rfl (Env.isT rfl c48) ?_))
               refine ov (v_neq rfl rfl) rfl ?_
               refine shO_on (b := false) 29 rfl (Env.isF rfl c45) ?_
               refine ov (v_pick_t (evD_true rfl c48) rfl) rfl ?_
               refine shO_on (b := false) 29 rfl (Env.isF rfl c45) (om rfl rfl ?_)
               by_cases c50 : x2 ≠ (-1)
               · have r51 := ite_t r49 c50
                 refine shO_on (b := true) 37 rfl (Env.isT rfl c50) (om rfl rfl (shO_on (b := true) 37 rfl (Env.isT rfl c50) ?_))
                 obtain ⟨ok, h52, r53⟩ := b1_ok r51
                 refine o_callV rfl Try.call60 rfl rfl rfl (round_in_w h52) ?_
                 refine shO_on (b := true) 37 rfl (Env.isT rfl c50) ?_
                 refine ov (v_notB rfl) rfl ?_
                 refine shO_on (b := false) 29 rfl (Env.isF rfl c45) ?_
                 refine ov (v_pick_t (evD_true rfl c50) rfl) rfl ?_
                 refine ov (v_pick_f (evD_false rfl c45) rfl) rfl ?_
                 refine shO_nil ?_
                 obtain rfl := inj1 r53
                 exact mi kr ⟨rfl, rfl, (sc rfl (sc rfl (sc rfl (sc rfl (sc rfl (sc rfl (sc rfl (sc rfl (sn _)))))))))⟩
               have r54 := ite_f r49 c50
               refine shO_off (b' := false) 37 rfl (Env.isF rfl c50) rfl rfl (shO_off (b' := false) 37 rfl (Env.isF rfl c50) rfl rfl (shO_off (b' := false) 37 rfl (Env.isF rfl c50) rfl rfl (shO_on (b := false) 29 rfl (Env.isF rfl c45) ?_)))
               refine ov (v_pick_f (evD_false rfl c50) rfl) rfl ?_
               refine ov (v_pick_f (evD_false rfl c45) rfl) rfl ?_
               refine shO_nil ?_
               obtain rfl := inj1 r54
               exact mi kr ⟨rfl, rfl, (sc rfl (sc rfl (sc rfl (sc rfl (sc rfl (sc rfl (sc rfl (sc rfl (sn _)))))))))⟩
             have r55 := ite_f r47 c48
             refine shO_off (b' := false) 33 rfl (Env.isF rfl c48) rfl rfl (shO_off (b' := false) 33 rfl (Env.isF rfl c48) rfl rfl (shO_on (b := false) 29 rfl (Env.isF rfl c45) ?_))
             refine ov (v_pick_f (evD_false rfl c48) rfl) rfl ?_
             refine shO_on (b := false) 29 rfl (Env.isF rfl c45) (om rfl rfl (shO_off (b' := false) 37 rfl rfl rfl rfl (shO_off (b' := false) 37 rfl rfl rfl rfl (shO_off (b' := false) 37 rfl rfl rfl rfl (shO_on (b := false) 29 rfl (Env.isF rfl c45) ?_)))))
             refine ov (v_pick_f rfl rfl) rfl ?_
             refine ov (v_pick_f (evD_false rfl c45) rfl) rfl ?_
             refine shO_nil ?_
             obtain rfl := inj1 r55
             exact mi kr ⟨rfl, rfl, (sc rfl (sc rfl (sc rfl (sc rfl (sc rfl (sc rfl (sc rfl (sc rfl (sn _)))))))))⟩
           have r56 := ite_f h41 c43
           refine shO_off (b' := false) 25 rfl (Env.isF rfl c43) rfl rfl (shO_off (b' := false) 25 rfl (Env.isF rfl c43) rfl rfl ?_)
           refine ov (v_pick_f (evD_false rfl c43) rfl) rfl ?_
           refine om rfl rfl (shO_on (b := false) 29 rfl rfl (om rfl rfl (shO_on (b := false) 29 rfl rfl (om rfl rfl (shO_on (b := false) 29 rfl rfl ?_)))))
           refine ov (v_neq rfl rfl) rfl ?_
           refine shO_on (b := false) 29 rfl rfl (om rfl rfl ?_)
           by_cases c57 : k ≠ k2
           · have r58 := ite_t r56 c57
             refine shO_on (b := true) 33 rfl (Env.isT rfl c57) (om rfl rfl (shO_on (b := true) 33 rfl (Env.isT rfl c57) ?_))
             refine ov (v_neq rfl rfl) rfl ?_
             refine shO_on (b := false) 29 rfl rfl ?_
             refine ov (v_pick_t (evD_true rfl c57) rfl) rfl ?_
             refine shO_on (b := false) 29 rfl rfl (om rfl rfl ?_)
             by_cases c59 : x2 ≠ (-1)
             · have r60 := ite_t r58 c59
               refine shO_on (b := true) 37 rfl (Env.isT rfl c59) (om rfl rfl (shO_on (b := true) 37 rfl (Env.isT rfl c59) ?_))
               obtain ⟨ok2, h61, r62⟩ := b1_ok r60
               refine o_callV rfl Try.call60 rfl rfl rfl (round_in_w h61) ?_
               refine shO_on (b := true) 37 rfl (Env.isT rfl c59) ?_
               refine ov (v_notB rfl) rfl ?_
               refine shO_on (b := false) 29 rfl rfl ?_
               refine ov (v_pick_t (evD_true rfl c59) rfl) rfl ?_
               refine ov (v_pick_f rfl rfl) rfl ?_
               refine shO_nil ?_
               obtain rfl := inj1 r62
               exact mi kr ⟨rfl, rfl, (sc rfl (sc rfl (sc rfl (sc rfl (sc rfl (sc rfl (sc rfl (sc rfl (sn _)))))))))⟩
             have r63 := ite_f r58 c59
             refine shO_off (b' := false) 37 rfl (Env.isF rfl c59) rfl rfl (shO_off (b' := false) 37 rfl (Env.isF rfl c59) rfl rfl (shO_off (b' := false) 37 rfl (Env.isF rfl c59) rfl rfl (shO_on (b := false) 29 rfl rfl ?_)))
             refine ov (v_pick_f (evD_false rfl c59) rfl) rfl ?_
             refine ov (v_pick_f rfl rfl) rfl ?_
             refine shO_nil ?_
             obtain rfl := inj1 r63
             exact mi kr ⟨rfl, rfl, (sc rfl (sc rfl (sc rfl (sc rfl (sc rfl (sc rfl (sc rfl (sc rfl (sn _)))))))))⟩
           have r64 := ite_f r56 c57
           refine shO_off (b' := false) 33 rfl (Env.isF rfl c57) rfl rfl (shO_off (b' := false) 33 rfl (Env.isF rfl c57) rfl rfl (shO_on (b := false) 29 rfl rfl ?_))
           refine ov (v_pick_f (evD_false rfl c57) rfl) rfl ?_
           refine shO_on (b := false) 29 rfl rfl (om rfl rfl (shO_off (b' := false) 37 rfl rfl rfl rfl (shO_off (b' := false) 37 rfl rfl rfl rfl (shO_off (b' := false) 37 rfl rfl rfl rfl (shO_on (b := false) 29 rfl rfl ?_)))))
           refine ov (v_pick_f rfl rfl) rfl ?_
           refine ov (v_pick_f rfl rfl) rfl ?_
           refine shO_nil ?_
           obtain rfl := inj1 r64
           exact mi kr ⟨rfl, rfl, (sc rfl (sc rfl (sc rfl (sc rfl (sc rfl (sc rfl (sc rfl (sc rfl (sn _)))))))))⟩
         rintro e1 _ _ ⟨rfl, rfl, he65⟩
         refine shW_env _ he65 ?_
         refine shW_cond rfl (fun c66 => ?_) (fun c66 => ?_)
         · have r67 := bt r42 c66
           refine wsr (oa rfl rfl (shO_nil (shW_ret (inBlock_ret (andThen_ret (andThen_ret (inBlock_ret (inBlock_ret (andThen_ret ?_)))))))))
           refine andThen_ret (inBlock_ret (andThen_ret ?_))
           refine q_res1 Try.results43 (res_tmp rfl) (sr) ?_
           obtain rfl := inj1 r67
           exact rfl
         have r68 := bf r42 c66
         refine shW_skip (inBlock_n (id := 3) (shW_region ?_))
         refine ov (v_add rfl rfl (Lst.r64 hk23 c28 (RowR.lt h22))) rfl ?_
         refine om rfl rfl (shO_nil ?_)
         subst hn24; exact le kr ⟨_, _, rfl, hk29, r68, rfl, rfl, (sc rfl (sc rfl (sc rfl (sc rfl (sc rfl (sc rfl (sc rfl (sn _))))))))⟩
       obtain rfl := Lst.zero hk23 c28
       rw [round_Beat_walkable_l4] at r25
       refine shW_exit (andThen_exit (andThen_exit ?_))
       refine inBlock_exit ?_
       refine inBlock_n (id := 1) ?_
       exact mi kr ⟨r25, rfl, rfl, (sc rfl (sc rfl (sc rfl (sn _))))⟩
     rintro e1 _ _ ⟨r69, rfl, rfl, he70⟩
     refine shW_env _ he70 ?_
     rw [round_Beat_walkable_j3] at r69
     refine shW_region ?_
     refine ov (v_add rfl rfl (Lst.r64 hk2 c7 (RowR.lt h_walks))) rfl ?_
     refine om rfl rfl (shO_nil ?_)
     subst hn3; exact le kr ⟨_, _, rfl, hk8, r69, rfl, rfl, (sc rfl (sc rfl (sc rfl (sn _))))⟩
   obtain rfl := Lst.zero hk2 c7
   rw [round_Beat_walkable_l2] at r4
   refine shW_exit (andThen_exit (andThen_exit ?_))
   refine inBlock_exit ?_
   exact mi kr ⟨r4, rfl, rfl, (sn _)⟩
 rintro e1 _ _ ⟨r71, rfl, rfl, he72⟩
 refine shW_env _ he72 ?_
 rw [round_Beat_walkable_j1] at r71
 refine wsr (oa rfl rfl (shO_nil (shW_ret ?_)))
 refine q_res1 Try.results43 (res_tmp rfl) (sr) ?_
 obtain rfl := inj1 r71
 exact rfl
set_option maxHeartbeats 1000000 in
theorem slices_Index_int_int_w {s__a : Option Addr} {s__c : Nat} {s_ : List Int} {v : Int} {F : FS} (h_s_ : RowR 1 (iE .i64) F s__a s__c s_) {r : Int} (hr : slices_Index_int_int s_ v = some r) :
    SpecV Try.prog 77 #[.slice s__a s_.length s__c, .int .i64 v] F (.int .i64 r) := by
 refine spec_of_shW (args := [.slice s__a s_.length s__c, .int .i64 v]) Try.func77 rfl Try.ntmps77 (nbL rfl) ?_
 intro K _ _; rw [slices_Index_int_int] at hr
 refine wsr (oa rfl rfl (shO_nil ?_))
 refine shW_join (fun e1 F1 L1 => slices_Index_int_int_j1 = some r ∧ F = F1 ∧ L1 = [] ∧ e1.sub []) ?_ ?_
 · refine wsr (om rfl rfl ?_)
   refine ov (v_lenS Try.underlying30 rfl) rfl ?_
   refine om rfl rfl (shO_nil ?_)
   refine shW_block ?_
   refine shW_lp (fun fu2 e1 F1 L1 => ∃ (tl : List Int) (k : Int), tl.length = fu2 ∧ Lst s_ k tl ∧ slices_Index_int_int_l2 v tl k = some r ∧ F = F1 ∧ L1 = [] ∧ e1.sub [(0, .slice s__a s_.length s__c), (1, .int .i64 v), (7, .int .i64 (s_.length : Int)), (8, .int .i64 k)]) _ (m0 kr ⟨_, _, rfl, Lst.start _, hr, rfl, rfl, (sc rfl (sc rfl (sc rfl (sc rfl (sn _)))))⟩) ?_
   rintro fu2 e1 _ _ ⟨tl, k, hn2, hk1, r3, rfl, rfl, he4⟩
   refine shW_env _ he4 ?_
   refine wsr ?_
   refine ov (v_lssK rfl rfl) rfl ?_
   refine shO_nil (shW_seq ?_)
   refine shW_condP rfl (fun c6 => ?_) (fun c6 => ?_)
   · obtain ⟨x, tl2, rfl, hx8, g9, hk7⟩ := Lst.succ hk1 c6
     rw [slices_Index_int_int_l2] at r3
     refine shW_skip (shW_seq ?_)
     refine shW_block ?_
     refine wsr (om rfl rfl (oa rfl rfl (nsr (om rfl rfl (om rfl rfl (om rfl rfl ?_))))))
     obtain ⟨b10, o11, c12, vs13, ha14, hs15, hle16, rfl, hl17, hc18⟩ := RowR.at (iE_ok _) h_s_ ([]) g9.1 hx8
     refine ov (v_indexO Try.underlying30 Try.sizeOf3 rfl ha14 rfl g9) rfl ?_
     refine ov (v_load Try.isAgg3 rfl hs15 (hc18 0 (by decide))) rfl ?_
     refine ov (v_eql rfl rfl) rfl ?_
     refine shO_nil ?_
     refine shW_condP rfl (fun c19 => ?_) (fun c19 => ?_)
     · have r20 := ite_t r3 c19
       refine wsr (om rfl rfl (oa rfl rfl (shO_nil (shW_ret (inBlock_ret (andThen_ret (andThen_ret (inBlock_ret (andThen_ret ?_)))))))))
       refine q_res1 Try.results77 (res_tmp rfl) (sr) ?_
       obtain rfl := inj1 r20
       exact rfl
     have r21 := ite_f r3 c19
     refine shW_skip (inBlock_n (id := 1) (shW_region ?_))
     refine ov (v_add rfl rfl (Lst.r64 hk1 c6 (RowR.lt h_s_))) rfl ?_
     refine om rfl rfl (shO_nil ?_)
     subst hn2; exact le kr ⟨_, _, rfl, hk7, r21, rfl, rfl, (sc rfl (sc rfl (sc rfl (sc rfl (sn _)))))⟩
   obtain rfl := Lst.zero hk1 c6
   rw [slices_Index_int_int_l2] at r3
   refine shW_exit (andThen_exit (andThen_exit ?_))
   refine inBlock_exit ?_
   exact mi kr ⟨r3, rfl, rfl, (sn _)⟩
 rintro e1 _ _ ⟨r22, rfl, rfl, he23⟩
 refine shW_env _ he23 ?_
 rw [slices_Index_int_int_j1] at r22
 refine wsr (oa rfl rfl (shO_nil (shW_ret ?_)))
 refine q_res1 Try.results77 (res_tmp rfl) (sr) ?_
 obtain rfl := inj1 r22
 exact rfl
theorem slices_Contains_int_int_w {s__a : Option Addr} {s__c : Nat} {s_ : List Int} {v : Int} {F : FS} (h_s_ : RowR 1 (iE .i64) F s__a s__c s_) {r : Bool} (hr : slices_Contains_int_int s_ v = some r) :
    SpecV Try.prog 55 #[.slice s__a s_.length s__c, .int .i64 v] F (.bool r) := by
 refine spec_of_shW (args := [.slice s__a s_.length s__c, .int .i64 v]) Try.func55 rfl Try.ntmps55 (nbL rfl) ?_
 intro K _ _; rw [slices_Contains_int_int] at hr
 refine wsr (oa rfl rfl (nsr (om rfl rfl (om rfl rfl ?_))))
 obtain ⟨n, h1, r2⟩ := b1_ok hr
 refine o_callV rfl Try.call77 rfl rfl rfl (slices_Index_int_int_w h_s_ h1) ?_
 refine ov (v_geqK rfl rfl) rfl ?_
 refine oa rfl rfl (shO_nil (shW_ret ?_))
 refine q_res1 Try.results55 (res_tmp rfl) (sr) ?_
 obtain rfl := inj1 r2
 exact rfl
set_option maxHeartbeats 1000000 in
theorem round_Beat_listed_w {walks_a : Option Addr} {walks_c : Nat} {walks : List (List Int)} {hears_a : Option Addr} {hears_c : Nat} {hears : List (List Int)} {houses start : Int} {notices_a : Option Addr} {notices_c : Nat} {notices : List ((List Int) × Int × Int)} {l_a : Option Addr} {l_c : Nat} {l : List Int} {F : FS} (_h_walks : RowR 1 (slE 1 (iE .i64)) F walks_a walks_c walks) (_h_hears : RowR 1 (slE 1 (iE .i64)) F hears_a hears_c hears) (_h_notices : RowR 3 (prE (slE 1 (iE .i64)) (prE (iE .i64) (iE .i64))) F notices_a notices_c notices) (h_l : RowR 1 (iE .i64) F l_a l_c l) {r : Int} (hr : round_Beat_listed walks hears houses start notices l = some r) :
    SpecV Try.prog 44 #[.agg #[.slice walks_a walks.length walks_c, .slice hears_a hears.length hears_c, .int .i64 houses, .int .i64 start, .slice notices_a notices.length notices_c], .slice l_a l.length l_c] F (.int .i64 r) := by
 refine spec_of_shW (args := [.agg #[.slice walks_a walks.length walks_c, .slice hears_a hears.length hears_c, .int .i64 houses, .int .i64 start, .slice notices_a notices.length notices_c], .slice l_a l.length l_c]) Try.func44 rfl Try.ntmps44 (nbL rfl) ?_
 intro K _ _; rw [round_Beat_listed] at hr
 refine wsr ?_
 refine o_box rfl rfl ?_; intro b1 hb1
 refine oa rfl rfl (shO_nil ?_)
 refine shW_join (fun e1 F1 L1 => round_Beat_listed_j1 = some r ∧ F = F1 ∧ L1 = [] ∧ e1.sub []) ?_ ?_
 · refine wsr (om rfl rfl ?_)
   refine ov (v_lenS Try.underlying30 rfl) rfl ?_
   refine om rfl rfl (shO_nil ?_)
   refine shW_block ?_
   refine shW_lp (fun fu2 e1 F1 L1 => ∃ (tl : List Int) (k : Int), tl.length = fu2 ∧ Lst l k tl ∧ round_Beat_listed_l2 houses l tl k = some r ∧ F = F1 ∧ L1 = [(b1, .cells #[.slice walks_a walks.length walks_c, .slice hears_a hears.length hears_c, .int .i64 houses, .int .i64 start, .slice notices_a notices.length notices_c] 26 (0, 0))] ∧ e1.sub [(1, .slice l_a l.length l_c), (2, .pointer (some ⟨b1, 0, none⟩)), (7, .slice l_a l.length l_c), (8, .int .i64 (l.length : Int)), (9, .int .i64 k)]) _ (m0 kr ⟨_, _, rfl, Lst.start _, hr, rfl, rfl, (sc rfl (sc rfl (sc rfl (sc rfl (sc rfl (sn _))))))⟩) ?_
   rintro fu2 e1 _ _ ⟨tl, k, hn3, hk2, r4, rfl, rfl, he5⟩
   refine shW_env _ he5 ?_
   refine wsr ?_
   refine ov (v_lssK rfl rfl) rfl ?_
   refine shO_nil (shW_seq ?_)
   refine shW_condP rfl (fun c7 => ?_) (fun c7 => ?_)
   · obtain ⟨x, tl2, rfl, hx9, g10, hk8⟩ := Lst.succ hk2 c7
     rw [round_Beat_listed_l2] at r4
     refine shW_skip (shW_seq ?_)
     refine shW_block ?_
     refine wsr (om rfl rfl ?_)
     obtain ⟨b11, o12, c13, vs14, ha15, hs16, hle17, rfl, hl18, hc19⟩ := RowR.at (iE_ok _) h_l ([(b1, .cells #[.slice walks_a walks.length walks_c, .slice hears_a hears.length hears_c, .int .i64 houses, .int .i64 start, .slice notices_a notices.length notices_c] 26 (0, 0))]) g10.1 hx9
     refine ov (v_indexO Try.underlying30 Try.sizeOf3 rfl ha15 rfl g10) rfl ?_
     refine ov (v_load Try.isAgg3 rfl hs16 (hc19 0 (by decide))) rfl ?_
     refine oa rfl rfl (oa rfl rfl (shO_nil (shW_seq (wsr (om rfl rfl ?_)))))
     refine ov (v_fieldAddr fa_26_2 rfl) rfl ?_
     refine ov (v_load Try.isAgg3 rfl (Has.own 0 rfl) rfl) rfl ?_
     obtain ⟨g20, r21⟩ := gd_ok r4
     refine ov (v_sub rfl rfl g20) rfl ?_
     obtain ⟨ok, h22, r23⟩ := b1_ok r21
     refine o_callV rfl Try.call60 rfl rfl rfl (round_in_w h22) ?_
     refine ov (v_notB rfl) rfl ?_
     refine shO_nil ?_
     refine shW_cond rfl (fun c24 => ?_) (fun c24 => ?_)
     · have r25 := bt r23 c24
       refine wsr (oa rfl rfl (shO_nil ?_))
       refine kW kn ?_
       refine shW_ret (andThen_ret (inBlock_ret (andThen_ret (andThen_ret (inBlock_ret (andThen_ret ?_))))))
       refine q_res1 Try.results44 (res_tmp rfl) (sr) ?_
       obtain rfl := inj1 r25
       exact rfl
     have r26 := bf r23 c24
     refine shW_skip (wsr (om rfl rfl (om rfl rfl ?_)))
     obtain ⟨g27, r28⟩ := gd_ok r26
     obtain ⟨l2, h29, r30⟩ := bv_ok r28
     obtain ⟨a31, c32, h33, hvh33⟩ := RowR.slice (iE_ok _) h_l g27 h29
     refine ov ((v_slice (l := 0) (h := k) Try.underlying30 Try.sizeOf3 rfl (.inl ⟨rfl, rfl⟩) (.inr ⟨_, rfl, rfl⟩) hvh33.1).eq hvh33.2) rfl ?_
     refine om rfl rfl ?_
     obtain ⟨ok2, h35, r36⟩ := b1_ok r30
     refine o_callV rfl Try.call55 rfl rfl rfl (slices_Contains_int_int_w h33 h35) ?_
     refine shO_nil ?_
     refine shW_cond rfl (fun c37 => ?_) (fun c37 => ?_)
     · have r38 := bt r36 c37
       refine wsr (oa rfl rfl (shO_nil ?_))
       refine kW kn ?_
       refine shW_ret (inBlock_ret (andThen_ret (andThen_ret (inBlock_ret (andThen_ret ?_)))))
       refine q_res1 Try.results44 (res_tmp rfl) (sr) ?_
       obtain rfl := inj1 r38
       exact rfl
     have r39 := bf r36 c37
     refine shW_skip (inBlock_n (id := 1) (shW_region ?_))
     refine ov (v_add rfl rfl (Lst.r64 hk2 c7 (RowR.lt h_l))) rfl ?_
     refine om rfl rfl (shO_nil ?_)
     subst hn3; exact le kr ⟨_, _, rfl, hk8, r39, rfl, rfl, (sc rfl (sc rfl (sc rfl (sc rfl (sc rfl (sn _))))))⟩
   obtain rfl := Lst.zero hk2 c7
   rw [round_Beat_listed_l2] at r4
   refine shW_exit (andThen_exit (andThen_exit ?_))
   refine inBlock_exit ?_
   exact mi kn ⟨r4, rfl, rfl, (sn _)⟩
 rintro e1 _ _ ⟨r40, rfl, rfl, he41⟩
 refine shW_env _ he41 ?_
 rw [round_Beat_listed_j1] at r40
 refine wsr (oa rfl rfl (shO_nil (shW_ret ?_)))
 refine q_res1 Try.results44 (res_tmp rfl) (sr) ?_
 obtain rfl := inj1 r40
 exact rfl
set_option maxHeartbeats 1000000 in
theorem round_Beat_check_w {walks_a : Option Addr} {walks_c : Nat} {walks : List (List Int)} {hears_a : Option Addr} {hears_c : Nat} {hears : List (List Int)} {houses start : Int} {notices_a : Option Addr} {notices_c : Nat} {notices : List ((List Int) × Int × Int)} {quarter_a : Option Addr} {quarter_c : Nat} {quarter : List Int} {words hour : Int} {F : FS} (h_walks : RowR 1 (slE 1 (iE .i64)) F walks_a walks_c walks) (h_hears : RowR 1 (slE 1 (iE .i64)) F hears_a hears_c hears) (h_notices : RowR 3 (prE (slE 1 (iE .i64)) (prE (iE .i64) (iE .i64))) F notices_a notices_c notices) (h_quarter : RowR 1 (iE .i64) F quarter_a quarter_c quarter) {r : Int} (hr : round_Beat_check walks hears houses start notices quarter words hour = some r) :
    SpecV Try.prog 45 #[.agg #[.slice walks_a walks.length walks_c, .slice hears_a hears.length hears_c, .int .i64 houses, .int .i64 start, .slice notices_a notices.length notices_c], .agg #[.slice quarter_a quarter.length quarter_c, .int .i64 words, .int .i64 hour]] F (.int .i64 r) := by
 refine spec_of_shW (args := [.agg #[.slice walks_a walks.length walks_c, .slice hears_a hears.length hears_c, .int .i64 houses, .int .i64 start, .slice notices_a notices.length notices_c], .agg #[.slice quarter_a quarter.length quarter_c, .int .i64 words, .int .i64 hour]]) Try.func45 rfl Try.ntmps45 (nbL rfl) ?_
 intro K _ _; rw [round_Beat_check] at hr
 refine wsr ?_
 refine o_box rfl rfl ?_; intro b1 hb1
 refine o_box rfl rfl ?_; intro b2 hb2
 refine oa rfl rfl (shO_nil (shW_seq (wsr ?_)))
 refine ov (v_fieldAddr fa_39_0 rfl) rfl ?_
 refine ov (v_load Try.isAgg30 rfl (Has.own 0 rfl) rfl) rfl ?_
 refine ov (v_lenS Try.underlying30 rfl) rfl ?_
 refine ov (v_eql rfl rfl) rfl ?_
 refine shO_nil ?_
 refine shW_condP rfl (fun c3 => ?_) (fun c3 => ?_)
 · have r4 := ite_t hr c3
   refine wsr (oa rfl rfl (shO_nil ?_))
   refine kW kn ?_
   refine shW_ret (andThen_ret ?_)
   refine q_res1 Try.results45 (res_tmp rfl) (sr) ?_
   obtain rfl := inj1 r4
   exact rfl
 have r5 := ite_f hr c3
 refine shW_skip (shW_seq (wsr ?_))
 refine ov (v_loadA (cs := #[.slice walks_a walks.length walks_c, .slice hears_a hears.length hears_c, .int .i64 houses, .int .i64 start, .slice notices_a notices.length notices_c]) Try.isAgg26 Try.sizeOf26 rfl (Has.own 1 rfl) (nbL rfl) rfl) rfl ?_
 refine ov (v_fieldAddr fa_39_0 rfl) rfl ?_
 refine ov (v_load Try.isAgg30 rfl (Has.own 0 rfl) rfl) rfl ?_
 obtain ⟨n, h6, r7⟩ := b1_ok r5
 refine o_callV rfl Try.call44 rfl rfl rfl (round_Beat_listed_w h_walks h_hears h_notices h_quarter h6) ?_
 refine oa rfl rfl (nsr (om rfl rfl ?_))
 refine ov (v_neq rfl rfl) rfl ?_
 refine shO_nil ?_
 refine shW_condP rfl (fun c8 => ?_) (fun c8 => ?_)
 · have r9 := ite_t r7 c8
   refine wsr (om rfl rfl (oa rfl rfl (shO_nil ?_)))
   refine kW kn ?_
   refine shW_ret (andThen_ret ?_)
   refine q_res1 Try.results45 (res_tmp rfl) (sr) ?_
   obtain rfl := inj1 r9
   exact rfl
 have r10 := ite_f r7 c8
 refine shW_skip (shW_seq ?_)
 obtain ⟨k, h11, r12⟩ := b1_ok r10
 refine shW_join (fun e1 F1 L1 => F = F1 ∧ L1 = [] ∧ e1.sub [(26, .bool k)]) ?_ ?_
 · clear r12
   refine shW_region ?_
   refine ov (v_fieldAddr fa_39_1 rfl) rfl ?_
   refine ov (v_load Try.isAgg3 rfl (Has.own 0 rfl) rfl) rfl ?_
   obtain ⟨ok, h13, r14⟩ := b1_ok h11
   refine o_callV rfl Try.call60 rfl rfl rfl (round_in_w h13) ?_
   refine ov (v_notB rfl) rfl ?_
   refine om rfl rfl ?_
   rcases bool_two (!ok) with c15 | c15
   · have r16 := bt r14 c15
     refine shO_off (b' := true) 21 rfl (EnvB rfl c15) rfl rfl (shO_off (b' := true) 21 rfl (EnvB rfl c15) rfl rfl (shO_off (b' := true) 21 rfl (EnvB rfl c15) rfl rfl (shO_off (b' := true) 21 rfl (EnvB rfl c15) rfl rfl ?_)))
     refine ov (v_pick_t (evB rfl c15) rfl) rfl ?_
     refine shO_nil ?_
     obtain rfl := inj1 r16
     exact mi kn ⟨rfl, rfl, (sc rfl (sn _))⟩
   have r17 := bf r14 c15
   refine shO_on (b := false) 21 rfl (EnvB rfl c15) ?_
   refine ov (v_fieldAddr fa_39_2 rfl) rfl ?_
   refine shO_on (b := false) 21 rfl (EnvB rfl c15) ?_
   refine ov (v_load Try.isAgg3 rfl (Has.own 0 rfl) rfl) rfl ?_
   refine shO_on (b := false) 21 rfl (EnvB rfl c15) ?_
   obtain ⟨ok2, h18, r19⟩ := b1_ok r17
   refine o_callV rfl Try.call60 rfl rfl rfl (round_in_w h18) ?_
   refine shO_on (b := false) 21 rfl (EnvB rfl c15) ?_
   refine ov (v_notB rfl) rfl ?_
   refine ov (v_pick_f (evB rfl c15) rfl) rfl ?_
   refine shO_nil ?_
   obtain rfl := inj1 r19
   exact mi kn ⟨rfl, rfl, (sc rfl (sn _))⟩
 rintro e1 _ _ ⟨rfl, rfl, he20⟩
 refine shW_env _ he20 ?_
 refine shW_cond rfl (fun c21 => ?_) (fun c21 => ?_)
 · have r22 := bt r12 c21
   refine wsr (oa rfl rfl (shO_nil (shW_ret (andThen_ret ?_))))
   refine q_res1 Try.results45 (res_tmp rfl) (sr) ?_
   obtain rfl := inj1 r22
   exact rfl
 have r23 := bf r12 c21
 refine shW_skip (wsr (oa rfl rfl (shO_nil (shW_ret ?_))))
 refine q_res1 Try.results45 (res_tmp rfl) (sr) ?_
 obtain rfl := inj1 r23
 exact rfl
set_option maxHeartbeats 1000000 in
theorem round_Check_w {walks_a : Option Addr} {walks_c : Nat} {walks : List (List Int)} {hears_a : Option Addr} {hears_c : Nat} {hears : List (List Int)} {houses start : Int} {notices_a : Option Addr} {notices_c : Nat} {notices : List ((List Int) × Int × Int)} {F : FS} (h_walks : RowR 1 (slE 1 (iE .i64)) F walks_a walks_c walks) (h_hears : RowR 1 (slE 1 (iE .i64)) F hears_a hears_c hears) (h_notices : RowR 3 (prE (slE 1 (iE .i64)) (prE (iE .i64) (iE .i64))) F notices_a notices_c notices) {r : Int} (hr : round_Check walks hears houses start notices = some r) :
    SpecV Try.prog 14 #[.agg #[.slice walks_a walks.length walks_c, .slice hears_a hears.length hears_c, .int .i64 houses, .int .i64 start, .slice notices_a notices.length notices_c]] F (.int .i64 r) := by
 refine spec_of_shW (args := [.agg #[.slice walks_a walks.length walks_c, .slice hears_a hears.length hears_c, .int .i64 houses, .int .i64 start, .slice notices_a notices.length notices_c]]) Try.func14 rfl Try.ntmps14 (nbL rfl) ?_
 intro K _ _; rw [round_Check] at hr
 refine wsr ?_
 refine o_box rfl rfl ?_; intro b1 hb1
 refine oa rfl rfl (shO_nil (shW_seq ?_))
 refine shW_block ?_
 refine wsr ?_
 refine ov (v_loadA (cs := #[.slice walks_a walks.length walks_c, .slice hears_a hears.length hears_c, .int .i64 houses, .int .i64 start, .slice notices_a notices.length notices_c]) Try.isAgg26 Try.sizeOf26 rfl (Has.own 0 rfl) (nbL rfl) rfl) rfl ?_
 obtain ⟨ok, h2, r3⟩ := b1_ok hr
 refine o_callV rfl Try.call41 rfl rfl rfl (round_Beat_counted_w h_walks h_hears h_notices h2) ?_
 refine ov (v_notB rfl) rfl ?_
 refine oa rfl rfl (shO_nil ?_)
 refine shW_cond rfl (fun c4 => ?_) (fun c4 => ?_)
 · have r5 := bt r3 c4
   refine wsr (oa rfl rfl (shO_nil ?_))
   refine kW kn ?_
   refine shW_ret (inBlock_ret (andThen_ret ?_))
   refine q_res1 Try.results14 (res_tmp rfl) (sr) ?_
   obtain rfl := inj1 r5
   exact rfl
 have r6 := bf r3 c4
 refine wsr ?_
 refine ov (v_loadA (cs := #[.slice walks_a walks.length walks_c, .slice hears_a hears.length hears_c, .int .i64 houses, .int .i64 start, .slice notices_a notices.length notices_c]) Try.isAgg26 Try.sizeOf26 rfl (Has.own 0 rfl) (nbL rfl) rfl) rfl ?_
 refine ov (v_fieldAddr fa_26_3 rfl) rfl ?_
 refine ov (v_load Try.isAgg3 rfl (Has.own 0 rfl) rfl) rfl ?_
 obtain ⟨ok2, h7, r8⟩ := b1_ok r6
 refine o_callV rfl Try.call42 rfl rfl rfl (round_Beat_stand_w h_walks h_hears h_notices h7) ?_
 refine ov (v_notB rfl) rfl ?_
 refine oa rfl rfl (shO_nil ?_)
 refine shW_cond rfl (fun c9 => ?_) (fun c9 => ?_)
 · have r10 := bt r8 c9
   refine wsr (oa rfl rfl (shO_nil ?_))
   refine kW kn ?_
   refine shW_ret (inBlock_ret (andThen_ret ?_))
   refine q_res1 Try.results14 (res_tmp rfl) (sr) ?_
   obtain rfl := inj1 r10
   exact rfl
 have r11 := bf r8 c9
 refine wsr ?_
 refine ov (v_loadA (cs := #[.slice walks_a walks.length walks_c, .slice hears_a hears.length hears_c, .int .i64 houses, .int .i64 start, .slice notices_a notices.length notices_c]) Try.isAgg26 Try.sizeOf26 rfl (Has.own 0 rfl) (nbL rfl) rfl) rfl ?_
 obtain ⟨ok3, h12, r13⟩ := b1_ok r11
 refine o_callV rfl Try.call43 rfl rfl rfl (round_Beat_walkable_w h_walks h_hears h_notices h12) ?_
 refine ov (v_notB rfl) rfl ?_
 refine oa rfl rfl (shO_nil ?_)
 refine shW_cond rfl (fun c14 => ?_) (fun c14 => ?_)
 · have r15 := bt r13 c14
   refine wsr (oa rfl rfl (shO_nil ?_))
   refine kW kn ?_
   refine shW_ret (inBlock_ret (andThen_ret ?_))
   refine q_res1 Try.results14 (res_tmp rfl) (sr) ?_
   obtain rfl := inj1 r15
   exact rfl
 have r16 := bf r13 c14
 refine shW_skip (inBlock_n (id := 0) ?_)
 refine shW_join (fun e1 F1 L1 => round_Check_j1 walks hears houses start notices = some r ∧ F = F1 ∧ L1 = [(b1, .cells #[.slice walks_a walks.length walks_c, .slice hears_a hears.length hears_c, .int .i64 houses, .int .i64 start, .slice notices_a notices.length notices_c] 26 (0, 0))] ∧ e1.sub [(1, .pointer (some ⟨b1, 0, none⟩))]) ?_ ?_
 · refine wsr ?_
   refine ov (v_fieldAddr fa_26_1 rfl) rfl ?_
   refine ov (v_load Try.isAgg23 rfl (Has.own 0 rfl) rfl) rfl ?_
   refine ov (v_lenS Try.underlying23 rfl) rfl ?_
   refine om rfl rfl (shO_nil ?_)
   refine shW_block ?_
   refine shW_lp (fun fu2 e1 F1 L1 => ∃ (tl : List (List Int)) (k : Int), tl.length = fu2 ∧ Lst hears k tl ∧ round_Check_l2 walks hears houses start notices tl = some r ∧ F = F1 ∧ L1 = [(b1, .cells #[.slice walks_a walks.length walks_c, .slice hears_a hears.length hears_c, .int .i64 houses, .int .i64 start, .slice notices_a notices.length notices_c] 26 (0, 0))] ∧ e1.sub [(1, .pointer (some ⟨b1, 0, none⟩)), (25, .slice hears_a hears.length hears_c), (26, .int .i64 (hears.length : Int)), (27, .int .i64 k)]) _ (m0 kr ⟨_, _, rfl, Lst.start _, r16, rfl, rfl, (sc rfl (sc rfl (sc rfl (sc rfl (sn _)))))⟩) ?_
   rintro fu2 e1 _ _ ⟨tl, k, hn18, hk17, r19, rfl, rfl, he20⟩
   refine shW_env _ he20 ?_
   refine wsr ?_
   refine ov (v_lssK rfl rfl) rfl ?_
   refine shO_nil (shW_seq ?_)
   refine shW_condP rfl (fun c22 => ?_) (fun c22 => ?_)
   · obtain ⟨x, tl2, rfl, hx24, g25, hk23⟩ := Lst.succ hk17 c22
     rw [round_Check_l2] at r19
     refine shW_skip (shW_seq ?_)
     refine shW_block ?_
     refine wsr ?_
     obtain ⟨b26, o27, c28, vs29, ha30, hs31, hle32, ⟨a35, c36, rfl, h37⟩, hl33, hc34⟩ := RowR.at (slE_ok (iE_ok _)) h_hears ([(b1, .cells #[.slice walks_a walks.length walks_c, .slice hears_a hears.length hears_c, .int .i64 houses, .int .i64 start, .slice notices_a notices.length notices_c] 26 (0, 0))]) g25.1 hx24
     refine ov (v_indexO Try.underlying23 Try.sizeOf30 rfl ha30 rfl g25) rfl ?_
     refine ov (v_load Try.isAgg30 rfl hs31 (hc34 0 (by decide))) rfl ?_
     refine oa rfl rfl (nsr ?_)
     refine ov (v_loadA (cs := #[.slice walks_a walks.length walks_c, .slice hears_a hears.length hears_c, .int .i64 houses, .int .i64 start, .slice notices_a notices.length notices_c]) Try.isAgg26 Try.sizeOf26 rfl (Has.own 0 rfl) (nbL rfl) rfl) rfl ?_
     refine om rfl rfl ?_
     obtain ⟨n, h38, r39⟩ := b1_ok r19
     refine o_callV rfl Try.call44 rfl rfl rfl (round_Beat_listed_w h_walks h_hears h_notices h37 h38) ?_
     refine oa rfl rfl (nsr (om rfl rfl ?_))
     refine ov (v_neq rfl rfl) rfl ?_
     refine shO_nil ?_
     refine shW_condP rfl (fun c40 => ?_) (fun c40 => ?_)
     · have r41 := ite_t r39 c40
       refine wsr (om rfl rfl (oa rfl rfl (shO_nil ?_)))
       refine kW kn ?_
       refine shW_ret (inBlock_ret (andThen_ret (andThen_ret (inBlock_ret (andThen_ret ?_)))))
       refine q_res1 Try.results14 (res_tmp rfl) (sr) ?_
       obtain rfl := inj1 r41
       exact rfl
     have r42 := ite_f r39 c40
     refine shW_skip (inBlock_n (id := 2) (shW_region ?_))
     refine ov (v_add rfl rfl (Lst.r64 hk17 c22 (RowR.lt h_hears))) rfl ?_
     refine om rfl rfl (shO_nil ?_)
     subst hn18; exact le kr ⟨_, _, rfl, hk23, r42, rfl, rfl, (sc rfl (sc rfl (sc rfl (sc rfl (sn _)))))⟩
   obtain rfl := Lst.zero hk17 c22
   rw [round_Check_l2] at r19
   refine shW_exit (andThen_exit (andThen_exit ?_))
   refine inBlock_exit ?_
   exact mi kr ⟨r19, rfl, rfl, (sc rfl (sn _))⟩
 rintro e1 _ _ ⟨r43, rfl, rfl, he44⟩
 refine shW_env _ he44 ?_
 rw [round_Check_j1] at r43
 refine wsr (oa rfl rfl (shO_nil ?_))
 refine shW_join (fun e1 F1 L1 => ∃ (pairs : Int), round_Check_j3 pairs = some r ∧ F = F1 ∧ L1 = [] ∧ e1.sub [(6, .int .i64 pairs)]) ?_ ?_
 · refine wsr ?_
   refine ov (v_fieldAddr fa_26_4 rfl) rfl ?_
   refine ov (v_load Try.isAgg24 rfl (Has.own 0 rfl) rfl) rfl ?_
   refine ov (v_lenS Try.underlying24 rfl) rfl ?_
   refine om rfl rfl (shO_nil ?_)
   refine shW_block ?_
   refine shW_lp (fun fu4 e1 F1 L1 => ∃ (tl3 : List ((List Int) × Int × Int)) (k2 : Int), tl3.length = fu4 ∧ Lst notices k2 tl3 ∧ ∃ (pairs2 : Int), round_Check_l4 walks hears houses start notices tl3 pairs2 = some r ∧ F = F1 ∧ L1 = [(b1, .cells #[.slice walks_a walks.length walks_c, .slice hears_a hears.length hears_c, .int .i64 houses, .int .i64 start, .slice notices_a notices.length notices_c] 26 (0, 0))] ∧ e1.sub [(1, .pointer (some ⟨b1, 0, none⟩)), (6, .int .i64 pairs2), (39, .slice notices_a notices.length notices_c), (40, .int .i64 (notices.length : Int)), (41, .int .i64 k2)]) _ (m0 kr ⟨_, _, rfl, Lst.start _, 0, r43, rfl, rfl, (sc rfl (sc rfl (sc rfl (sc rfl (sc rfl (sn _))))))⟩) ?_
   rintro fu4 e1 _ _ ⟨tl3, k2, hn46, hk45, pairs2, r47, rfl, rfl, he48⟩
   refine shW_env _ he48 ?_
   refine wsr ?_
   refine ov (v_lssK rfl rfl) rfl ?_
   refine shO_nil (shW_seq ?_)
   refine shW_condP rfl (fun c50 => ?_) (fun c50 => ?_)
   · obtain ⟨x2, tl4, rfl, hx52, g53, hk51⟩ := Lst.succ hk45 c50
     rw [round_Check_l4] at r47
     refine shW_skip (shW_seq ?_)
     refine shW_block ?_
     refine wsr ?_
     obtain ⟨b54, o55, c56, vs57, ha58, hs59, hle60, ⟨_, _, rfl, ⟨a63, c64, rfl, h65⟩, ⟨_, _, rfl, rfl, rfl⟩⟩, hl61, hc62⟩ := RowR.at (prE_ok (slE_ok (iE_ok _)) (prE_ok (iE_ok _) (iE_ok _))) h_notices ([(b1, .cells #[.slice walks_a walks.length walks_c, .slice hears_a hears.length hears_c, .int .i64 houses, .int .i64 start, .slice notices_a notices.length notices_c] 26 (0, 0))]) g53.1 hx52
     refine ov (v_indexO Try.underlying24 Try.sizeOf39 rfl ha58 rfl g53) rfl ?_
     refine ov (v_loadA (cs := #[.slice a63 x2.1.length c64, .int .i64 x2.2.1, .int .i64 x2.2.2]) Try.isAgg39 Try.sizeOf39 rfl hs59 hle60 (extract_cells hle60 hl61 hc62)) rfl ?_
     refine o_alloc rfl Try.zeroValue39 ?_; intro b66 hb66
     refine o_storeA (i := 0) Try.sizeOf39 rfl rfl rfl (by simp [Value.oneCell']) rfl (nbL rfl) ?_
     refine shO_L (L' := [(b66, .cells #[.slice a63 x2.1.length c64, .int .i64 x2.2.1, .int .i64 x2.2.2] 39 (0, 0)), (b1, .cells #[.slice walks_a walks.length walks_c, .slice hears_a hears.length hears_c, .int .i64 houses, .int .i64 start, .slice notices_a notices.length notices_c] 26 (0, 0))]) rfl ?_
     refine shO_nil (shW_seq (wsr ?_))
     refine ov (v_loadA (cs := #[.slice walks_a walks.length walks_c, .slice hears_a hears.length hears_c, .int .i64 houses, .int .i64 start, .slice notices_a notices.length notices_c]) Try.isAgg26 Try.sizeOf26 rfl (Has.own 1 rfl) (nbL rfl) rfl) rfl ?_
     refine ov (v_loadA (cs := #[.slice a63 x2.1.length c64, .int .i64 x2.2.1, .int .i64 x2.2.2]) Try.isAgg39 Try.sizeOf39 rfl (Has.own 0 rfl) (nbL rfl) rfl) rfl ?_
     obtain ⟨n2, h67, r68⟩ := b1_ok r47
     refine o_callV rfl Try.call45 rfl rfl rfl (round_Beat_check_w h_walks h_hears h_notices h65 h67) ?_
     refine oa rfl rfl (nsr (om rfl rfl ?_))
     refine ov (v_neq rfl rfl) rfl ?_
     refine shO_nil ?_
     refine shW_condP rfl (fun c69 => ?_) (fun c69 => ?_)
     · have r70 := ite_t r68 c69
       refine wsr (om rfl rfl (oa rfl rfl (shO_nil ?_)))
       refine kW kn ?_
       refine shW_ret (andThen_ret (inBlock_ret (andThen_ret (andThen_ret (inBlock_ret (andThen_ret ?_))))))
       refine q_res1 Try.results14 (res_tmp rfl) (sr) ?_
       obtain rfl := inj1 r70
       exact rfl
     have r71 := ite_f r68 c69
     refine shW_skip (shW_region (om rfl rfl ?_))
     refine ov (v_fieldAddr fa_39_0 rfl) rfl ?_
     refine ov (v_load Try.isAgg30 rfl (Has.own 0 rfl) rfl) rfl ?_
     refine ov (v_lenS Try.underlying30 rfl) rfl ?_
     obtain ⟨g72, r73⟩ := gd_ok r71
     refine ov (v_add rfl rfl g72) rfl ?_
     refine oa rfl rfl (shO_nil (inBlock_n (id := 4) (shW_region ?_)))
     refine ov (v_add rfl rfl (Lst.r64 hk45 c50 (RowR.lt h_notices))) rfl ?_
     refine om rfl rfl (shO_nil ?_)
     subst hn46; exact le (kd kr) ⟨_, _, rfl, hk51, pairs2 + (x2.1.length : Int), r73, rfl, rfl, (sc rfl (sc rfl (sc rfl (sc rfl (sc rfl (sn _))))))⟩
   obtain rfl := Lst.zero hk45 c50
   rw [round_Check_l4] at r47
   refine shW_exit (andThen_exit (andThen_exit ?_))
   refine inBlock_exit ?_
   exact mi kn ⟨pairs2, r47, rfl, rfl, (sc rfl (sn _))⟩
 rintro e1 _ _ ⟨pairs, r74, rfl, rfl, he75⟩
 refine shW_env _ he75 ?_
 rw [round_Check_j3] at r74
 refine shW_seq (wsr (om rfl rfl ?_))
 refine ov (v_gtrK rfl rfl) rfl ?_
 refine shO_nil ?_
 refine shW_condP rfl (fun c76 => ?_) (fun c76 => ?_)
 · have r77 := ite_t r74 c76
   refine wsr (oa rfl rfl (shO_nil (shW_ret (andThen_ret ?_))))
   refine q_res1 Try.results14 (res_tmp rfl) (sr) ?_
   obtain rfl := inj1 r77
   exact rfl
 have r78 := ite_f r74 c76
 refine shW_skip (wsr (oa rfl rfl (shO_nil (shW_ret ?_))))
 refine q_res1 Try.results14 (res_tmp rfl) (sr) ?_
 obtain rfl := inj1 r78
 exact rfl
set_option maxHeartbeats 1000000 in
theorem round_soonest_w {l_a : Option Addr} {l_c : Nat} {l : List Int} {F : FS} (h_l : RowR 1 (iE .i64) F l_a l_c l) {r : Int} (hr : round_soonest l = some r) :
    SpecV Try.prog 73 #[.slice l_a l.length l_c] F (.int .i64 r) := by
 refine spec_of_shW (args := [.slice l_a l.length l_c]) Try.func73 rfl Try.ntmps73 (nbL rfl) ?_
 intro K _ _; rw [round_soonest] at hr
 refine wsr (oa rfl rfl (nsr (oa rfl rfl (shO_nil ?_))))
 obtain ⟨out, h1, r2⟩ := b1_ok hr
 refine shW_join (fun e1 F1 L1 => F = F1 ∧ L1 = [] ∧ e1.sub [(3, .int .i64 out)]) ?_ ?_
 · clear r2
   refine wsr (om rfl rfl ?_)
   refine ov (v_lenS Try.underlying30 rfl) rfl ?_
   refine om rfl rfl (shO_nil ?_)
   refine shW_block ?_
   refine shW_lp (fun fu1 e1 F1 L1 => ∃ (tl : List Int) (k : Int), tl.length = fu1 ∧ Lst l k tl ∧ ∃ (out2 : Int), round_soonest_l1 tl out2 = some out ∧ F = F1 ∧ L1 = [] ∧ e1.sub [(3, .int .i64 out2), (6, .slice l_a l.length l_c), (7, .int .i64 (l.length : Int)), (8, .int .i64 k)]) _ (m0 kr ⟨_, _, rfl, Lst.start _, -1, h1, rfl, rfl, (sc rfl (sc rfl (sc rfl (sc rfl (sn _)))))⟩) ?_
   rintro fu1 e1 _ _ ⟨tl, k, hn4, hk3, out2, r5, rfl, rfl, he6⟩
   refine shW_env _ he6 ?_
   refine wsr ?_
   refine ov (v_lssK rfl rfl) rfl ?_
   refine shO_nil (shW_seq ?_)
   refine shW_condP rfl (fun c8 => ?_) (fun c8 => ?_)
   · obtain ⟨x, tl2, rfl, hx10, g11, hk9⟩ := Lst.succ hk3 c8
     rw [round_soonest_l1] at r5
     refine shW_skip (shW_seq ?_)
     refine shW_block ?_
     refine wsr ?_
     obtain ⟨b12, o13, c14, vs15, ha16, hs17, hle18, rfl, hl19, hc20⟩ := RowR.at (iE_ok _) h_l ([]) g11.1 hx10
     refine ov (v_indexO Try.underlying30 Try.sizeOf3 rfl ha16 rfl g11) rfl ?_
     refine ov (v_load Try.isAgg3 rfl hs17 (hc20 0 (by decide))) rfl ?_
     refine oa rfl rfl (shO_nil ?_)
     obtain ⟨k2, h21, r22⟩ := b1_ok r5
     refine shW_join (fun e1 F1 L1 => F = F1 ∧ L1 = [] ∧ e1.sub [(3, .int .i64 out2), (5, .int .i64 x), (6, .slice l_a l.length l_c), (7, .int .i64 (l.length : Int)), (8, .int .i64 k), (22, .bool k2)]) ?_ ?_
     · clear r22
       refine shW_region (om rfl rfl ?_)
       refine ov (v_neq rfl rfl) rfl ?_
       refine om rfl rfl ?_
       by_cases c23 : x ≠ (-1)
       · have r24 := ite_t h21 c23
         refine shO_on (b := true) 14 rfl (Env.isT rfl c23) (om rfl rfl (shO_on (b := true) 14 rfl (Env.isT rfl c23) ?_))
         refine ov (v_eql rfl rfl) rfl ?_
         refine shO_on (b := true) 14 rfl (Env.isT rfl c23) (om rfl rfl ?_)
         by_cases c25 : out2 = (-1)
         · have r26 := ite_t r24 c25
           refine shO_off (b' := true) 17 rfl (Env.isT rfl c25) rfl rfl (shO_off (b' := true) 17 rfl (Env.isT rfl c25) rfl rfl (shO_off (b' := true) 17 rfl (Env.isT rfl c25) rfl rfl (shO_on (b := true) 14 rfl (Env.isT rfl c23) ?_)))
           refine ov (v_pick_t (evD_true rfl c25) rfl) rfl ?_
           refine ov (v_pick_t (evD_true rfl c23) rfl) rfl ?_
           refine shO_nil ?_
           obtain rfl := inj1 r26
           exact mi kr ⟨rfl, rfl, (sc rfl (sc rfl (sc rfl (sc rfl (sc rfl (sc rfl (sn _)))))))⟩
         have r27 := ite_f r24 c25
         refine shO_on (b := false) 17 rfl (Env.isF rfl c25) (om rfl rfl (shO_on (b := false) 17 rfl (Env.isF rfl c25) (om rfl rfl (shO_on (b := false) 17 rfl (Env.isF rfl c25) ?_))))
         refine ov (v_lssK rfl rfl) rfl ?_
         refine shO_on (b := true) 14 rfl (Env.isT rfl c23) ?_
         refine ov (v_pick_f (evD_false rfl c25) rfl) rfl ?_
         refine ov (v_pick_t (evD_true rfl c23) rfl) rfl ?_
         refine shO_nil ?_
         obtain rfl := inj1 r27
         exact mi kr ⟨rfl, rfl, (sc rfl (sc rfl (sc rfl (sc rfl (sc rfl (sc rfl (sn _)))))))⟩
       have r28 := ite_f h21 c23
       refine shO_off (b' := false) 14 rfl (Env.isF rfl c23) rfl rfl (shO_off (b' := false) 14 rfl (Env.isF rfl c23) rfl rfl (shO_off (b' := false) 14 rfl (Env.isF rfl c23) rfl rfl (shO_offU 17 rfl rfl rfl (shO_offU 17 rfl rfl rfl (shO_offU 17 rfl rfl rfl (shO_off (b' := false) 14 rfl (Env.isF rfl c23) rfl rfl ?_))))))
       refine ov (v_pick_f (evD_false rfl c23) rfl) rfl ?_
       refine shO_nil ?_
       obtain rfl := inj1 r28
       exact mi kr ⟨rfl, rfl, (sc rfl (sc rfl (sc rfl (sc rfl (sc rfl (sc rfl (sn _)))))))⟩
     rintro e1 _ _ ⟨rfl, rfl, he29⟩
     refine shW_env _ he29 ?_
     refine shW_cond rfl (fun c30 => ?_) (fun c30 => ?_)
     · have r31 := bt r22 c30
       refine shW_region (om rfl rfl (oa rfl rfl (shO_nil (inBlock_n (id := 1) (shW_region ?_)))))
       refine ov (v_add rfl rfl (Lst.r64 hk3 c8 (RowR.lt h_l))) rfl ?_
       refine om rfl rfl (shO_nil ?_)
       subst hn4; exact le kr ⟨_, _, rfl, hk9, x, r31, rfl, rfl, (sc rfl (sc rfl (sc rfl (sc rfl (sn _)))))⟩
     have r32 := bf r22 c30
     refine shW_skip (inBlock_n (id := 1) (shW_region ?_))
     refine ov (v_add rfl rfl (Lst.r64 hk3 c8 (RowR.lt h_l))) rfl ?_
     refine om rfl rfl (shO_nil ?_)
     subst hn4; exact le kr ⟨_, _, rfl, hk9, out2, r32, rfl, rfl, (sc rfl (sc rfl (sc rfl (sc rfl (sn _)))))⟩
   obtain rfl := Lst.zero hk3 c8
   rw [round_soonest_l1] at r5
   refine shW_exit (andThen_exit (andThen_exit ?_))
   refine inBlock_exit ?_
   obtain rfl := inj1 r5
   exact mi kr ⟨rfl, rfl, (sc rfl (sn _))⟩
 rintro e1 _ _ ⟨rfl, rfl, he33⟩
 refine shW_env _ he33 ?_
 refine wsr (om rfl rfl (oa rfl rfl (shO_nil (shW_ret ?_))))
 refine q_res1 Try.results73 (res_tmp rfl) (sr) ?_
 obtain rfl := inj1 r2
 exact rfl
set_option maxHeartbeats 1000000 in
theorem round_walks_through_w {w : List Int} {F : FS} (h_w : w.length = 25) {r : List Int} (hr : round_walks_through w = some r) :
    SH.Spec Try.prog 52 #[.agg (arr (cI .i64) w)] F [] fun _ L' v => v = .agg (arr (cI .i64) r) ∧ L' = [] ∧ r.length = 25 := by
 refine spec_of_shW (args := [.agg (arr (cI .i64) w)]) Try.func52 rfl Try.ntmps52 (nbL rfl) ?_
 intro K _ _; rw [round_walks_through] at hr
 refine wsr ?_
 refine o_box rfl rfl ?_; intro b1 hb1
 refine o_alloc rfl Try.zeroValue98 ?_; intro b2 hb2
 refine shO_L (L' := [(b2, .cells (arr (cI .i64) (List.replicate 25 0)) 98 (0, 0)), (b1, .cells (arr (cI .i64) w) 98 (0, 0))]) rfl ?_
 refine nsr ?_
 refine ov (v_loadW Try.isAgg98 Try.sizeOf98 rfl (Has.own 1 rfl) (arr_sz (cI_ok .i64) h_w)) rfl ?_
 refine o_alloc rfl Try.zeroValue98 ?_; intro b3 hb3
 refine shO_L (L' := [(b3, .cells (arr (cI .i64) (List.replicate 25 0)) 98 (0, 0)), (b2, .cells (arr (cI .i64) (List.replicate 25 0)) 98 (0, 0)), (b1, .cells (arr (cI .i64) w) 98 (0, 0))]) rfl ?_
 refine o_storeW (i := 0) Try.sizeOf98 rfl rfl rfl (arr_sz (cI_ok .i64) List.length_replicate) (arr_sz (cI_ok .i64) h_w) (arr_one (cI_ok .i64)) ?_
 refine shO_L (L' := [(b3, .cells (arr (cI .i64) w) 98 (0, 0)), (b2, .cells (arr (cI .i64) (List.replicate 25 0)) 98 (0, 0)), (b1, .cells (arr (cI .i64) w) 98 (0, 0))]) rfl ?_
 refine shO_nil ?_
 obtain ⟨out, h5, r6⟩ := b1_ok hr
 refine shW_join (fun e1 F1 L1 => FExt F F1 ∧ L1 = [(b3, .cells (arr (cI .i64) out) 98 (0, 0)), (b2, .cells (arr (cI .i64) (List.replicate 25 0)) 98 (0, 0))] ∧ e1.sub [(2, .pointer (some ⟨b2, 0, none⟩)), (3, .pointer (some ⟨b3, 0, none⟩))] ∧ out.length = 25) ?_ ?_
 · clear r6
   refine wsr (om rfl rfl (shO_nil ?_))
   refine shW_block ?_
   obtain ⟨g8, r9⟩ := gd_ok h5
   refine shW_lp (fun fu1 e1 F1 L1 => ∃ (k : Int), Ctr 0 5 k fu1 ∧ ∃ (out2 : List Int), round_walks_through_l1 w fu1 k out2 = some out ∧ FExt F F1 ∧ L1 = [(b3, .cells (arr (cI .i64) out2) 98 (0, 0)), (b2, .cells (arr (cI .i64) (List.replicate 25 0)) 98 (0, 0)), (b1, .cells (arr (cI .i64) w) 98 (0, 0))] ∧ e1.sub [(1, .pointer (some ⟨b1, 0, none⟩)), (2, .pointer (some ⟨b2, 0, none⟩)), (3, .pointer (some ⟨b3, 0, none⟩)), (8, .int .i64 k)] ∧ out2.length = 25) _ (m0 kr ⟨_, Ctr.start _ _, w, r9, FExt.refl _, rfl, (sc rfl (sc rfl (sc rfl (sc rfl (sn _))))), h_w⟩) ?_
   rintro fu1 e1 F14 _ ⟨k, hk10, out2, r12, hF15, rfl, he13, h7⟩
   refine shW_env _ he13 ?_
   refine wsr ?_
   refine ov (v_lssK rfl rfl) rfl ?_
   refine shO_nil (shW_seq ?_)
   refine shW_condP rfl (fun c17 => ?_) (fun c17 => ?_)
   · obtain ⟨fu1, rfl, hk18⟩ := Ctr.succ hk10 c17
     rw [round_walks_through_l1] at r12
     refine shW_skip ?_
     obtain ⟨out3, h20, r21⟩ := b1_ok r12
     refine shW_join (fun e1 F1 L1 => FExt F14 F1 ∧ L1 = [(b3, .cells (arr (cI .i64) out3) 98 (0, 0)), (b2, .cells (arr (cI .i64) (List.replicate 25 0)) 98 (0, 0)), (b1, .cells (arr (cI .i64) w) 98 (0, 0))] ∧ e1.sub [(1, .pointer (some ⟨b1, 0, none⟩)), (2, .pointer (some ⟨b2, 0, none⟩)), (3, .pointer (some ⟨b3, 0, none⟩)), (8, .int .i64 k)] ∧ out3.length = 25) ?_ ?_
     · clear r21
       refine shW_block ?_
       refine wsr (om rfl rfl (oa rfl rfl (nsr (om rfl rfl (shO_nil ?_)))))
       refine shW_block ?_
       obtain ⟨g23, r24⟩ := gd_ok h20
       refine shW_lp (fun fu2 e1 F1 L1 => ∃ (k2 : Int), Ctr 0 5 k2 fu2 ∧ ∃ (out4 : List Int), round_walks_through_l2 w k fu2 k2 out4 = some out3 ∧ FExt F14 F1 ∧ L1 = [(b3, .cells (arr (cI .i64) out4) 98 (0, 0)), (b2, .cells (arr (cI .i64) (List.replicate 25 0)) 98 (0, 0)), (b1, .cells (arr (cI .i64) w) 98 (0, 0))] ∧ e1.sub [(1, .pointer (some ⟨b1, 0, none⟩)), (2, .pointer (some ⟨b2, 0, none⟩)), (3, .pointer (some ⟨b3, 0, none⟩)), (4, .int .i64 k), (8, .int .i64 k), (11, .int .i64 k2)] ∧ out4.length = 25) _ (m0 kr ⟨_, Ctr.start _ _, out2, r24, FExt.refl _, rfl, (sc rfl (sc rfl (sc rfl (sc rfl (sc rfl (sc rfl (sn _))))))), h7⟩) ?_
       rintro fu2 e1 F29 _ ⟨k2, hk25, out4, r27, hF30, rfl, he28, h22⟩
       refine shW_env _ he28 ?_
       refine wsr ?_
       refine ov (v_lssK rfl rfl) rfl ?_
       refine shO_nil (shW_seq ?_)
       refine shW_condP rfl (fun c32 => ?_) (fun c32 => ?_)
       · obtain ⟨fu2, rfl, hk33⟩ := Ctr.succ hk25 c32
         rw [round_walks_through_l2] at r27
         refine shW_skip ?_
         obtain ⟨out5, h35, r36⟩ := b1_ok r27
         refine shW_join (fun e1 F1 L1 => FExt F29 F1 ∧ L1 = [(b3, .cells (arr (cI .i64) out5) 98 (0, 0)), (b2, .cells (arr (cI .i64) (List.replicate 25 0)) 98 (0, 0)), (b1, .cells (arr (cI .i64) w) 98 (0, 0))] ∧ e1.sub [(1, .pointer (some ⟨b1, 0, none⟩)), (2, .pointer (some ⟨b2, 0, none⟩)), (3, .pointer (some ⟨b3, 0, none⟩)), (4, .int .i64 k), (8, .int .i64 k), (11, .int .i64 k2)] ∧ out5.length = 25) ?_ ?_
         · clear r36
           refine shW_block ?_
           refine wsr (om rfl rfl (oa rfl rfl (nsr (om rfl rfl (shO_nil ?_)))))
           refine shW_block ?_
           obtain ⟨g38, r39⟩ := gd_ok h35
           refine shW_lp (fun fu3 e1 F1 L1 => ∃ (k3 : Int), Ctr 0 5 k3 fu3 ∧ ∃ (out6 : List Int), round_walks_through_l3 w k k2 fu3 k3 out6 = some out5 ∧ FExt F29 F1 ∧ L1 = [(b3, .cells (arr (cI .i64) out6) 98 (0, 0)), (b2, .cells (arr (cI .i64) (List.replicate 25 0)) 98 (0, 0)), (b1, .cells (arr (cI .i64) w) 98 (0, 0))] ∧ e1.sub [(1, .pointer (some ⟨b1, 0, none⟩)), (2, .pointer (some ⟨b2, 0, none⟩)), (3, .pointer (some ⟨b3, 0, none⟩)), (4, .int .i64 k), (5, .int .i64 k2), (8, .int .i64 k), (11, .int .i64 k2), (14, .int .i64 k3)] ∧ out6.length = 25) _ (m0 kr ⟨_, Ctr.start _ _, out4, r39, FExt.refl _, rfl, (sc rfl (sc rfl (sc rfl (sc rfl (sc rfl (sc rfl (sc rfl (sc rfl (sn _))))))))), h22⟩) ?_
           rintro fu3 e1 F44 _ ⟨k3, hk40, out6, r42, hF45, rfl, he43, h37⟩
           refine shW_env _ he43 ?_
           refine wsr ?_
           refine ov (v_lssK rfl rfl) rfl ?_
           refine shO_nil (shW_seq ?_)
           refine shW_condP rfl (fun c47 => ?_) (fun c47 => ?_)
           · obtain ⟨fu3, rfl, hk48⟩ := Ctr.succ hk40 c47
             rw [round_walks_through_l3] at r42
             refine shW_skip (shW_seq ?_)
             refine shW_block ?_
             refine wsr (om rfl rfl (oa rfl rfl (shO_nil ?_)))
             obtain ⟨k4, h49, r50⟩ := b1_ok r42
             refine shW_join (fun e1 F1 L1 => F44 = F1 ∧ L1 = [(b3, .cells (arr (cI .i64) out6) 98 (0, 0)), (b2, .cells (arr (cI .i64) (List.replicate 25 0)) 98 (0, 0)), (b1, .cells (arr (cI .i64) w) 98 (0, 0))] ∧ e1.sub [(1, .pointer (some ⟨b1, 0, none⟩)), (2, .pointer (some ⟨b2, 0, none⟩)), (3, .pointer (some ⟨b3, 0, none⟩)), (4, .int .i64 k), (5, .int .i64 k2), (6, .int .i64 k3), (8, .int .i64 k), (11, .int .i64 k2), (14, .int .i64 k3), (30, .bool k4)]) ?_ ?_
             · clear r50
               refine shW_region (om rfl rfl (om rfl rfl ?_))
               obtain ⟨g51, r52⟩ := gd_ok h49
               refine ov (v_indexA Try.underlying98 Try.sizeOf96 rfl rfl g51) rfl ?_
               obtain ⟨g53, r54⟩ := gd_ok r52
               obtain ⟨x, g55, hx56, r57⟩ := ix_ok r54
               have hq59 : (k * 5 + k3 : Int).toNat = (k : Int).toNat * 5 + (k3 : Int).toNat := by have := g51; have := g53; omega
               have hc58 := el_at2 (cI_ok .i64) h_w hq59 hx56 (li_arr (li_end (lfl (cI_ok .i64) h_w))) (li_le (li_end (lfl (cI_ok .i64) h_w)))
               refine ov (v_indexA Try.underlying96 Try.sizeOf3 rfl rfl g53) rfl ?_
               refine ov (v_load Try.isAgg3 rfl (Has.own 2 rfl) ((hc58).2.2 0 (by decide))) rfl ?_
               refine ov (v_neq rfl rfl) rfl ?_
               refine om rfl rfl ?_
               by_cases c60 : x ≠ (-1)
               · have r61 := ite_t r57 c60
                 refine shO_on (b := true) 23 rfl (Env.isT rfl c60) (om rfl rfl (shO_on (b := true) 23 rfl (Env.isT rfl c60) (om rfl rfl (shO_on (b := true) 23 rfl (Env.isT rfl c60) ?_))))
                 obtain ⟨g62, r63⟩ := gd_ok r61
                 refine ov (v_indexA Try.underlying98 Try.sizeOf96 rfl rfl g62) rfl ?_
                 refine shO_on (b := true) 23 rfl (Env.isT rfl c60) ?_
                 obtain ⟨g64, r65⟩ := gd_ok r63
                 obtain ⟨x2, g66, hx67, r68⟩ := ix_ok r65
                 have hq70 : (k3 * 5 + k2 : Int).toNat = (k3 : Int).toNat * 5 + (k2 : Int).toNat := by have := g62; have := g64; omega
                 have hc69 := el_at2 (cI_ok .i64) h_w hq70 hx67 (li_arr (li_end (lfl (cI_ok .i64) h_w))) (li_le (li_end (lfl (cI_ok .i64) h_w)))
                 refine ov (v_indexA Try.underlying96 Try.sizeOf3 rfl rfl g64) rfl ?_
                 refine shO_on (b := true) 23 rfl (Env.isT rfl c60) ?_
                 refine ov (v_load Try.isAgg3 rfl (Has.own 2 rfl) ((hc69).2.2 0 (by decide))) rfl ?_
                 refine shO_on (b := true) 23 rfl (Env.isT rfl c60) ?_
                 refine ov (v_neq rfl rfl) rfl ?_
                 refine ov (v_pick_t (evD_true rfl c60) rfl) rfl ?_
                 refine shO_nil ?_
                 obtain rfl := inj1 r68
                 exact mi kr ⟨rfl, rfl, (sc rfl (sc rfl (sc rfl (sc rfl (sc rfl (sc rfl (sc rfl (sc rfl (sc rfl (sc rfl (sn _)))))))))))⟩
               have r71 := ite_f r57 c60
               refine shO_off (b' := false) 23 rfl (Env.isF rfl c60) rfl rfl (shO_off (b' := false) 23 rfl (Env.isF rfl c60) rfl rfl (shO_off (b' := false) 23 rfl (Env.isF rfl c60) rfl rfl (shO_off (b' := false) 23 rfl (Env.isF rfl c60) rfl rfl (shO_off (b' := false) 23 rfl (Env.isF rfl c60) rfl rfl (shO_off (b' := false) 23 rfl (Env.isF rfl c60) rfl rfl ?_)))))
               refine ov (v_pick_f (evD_false rfl c60) rfl) rfl ?_
               refine shO_nil ?_
               obtain rfl := inj1 r71
               exact mi kr ⟨rfl, rfl, (sc rfl (sc rfl (sc rfl (sc rfl (sc rfl (sc rfl (sc rfl (sc rfl (sc rfl (sc rfl (sn _)))))))))))⟩
             rintro e1 _ _ ⟨rfl, rfl, he72⟩
             refine shW_env _ he72 ?_
             refine shW_cond rfl (fun c73 => ?_) (fun c73 => ?_)
             · have r74 := bt r50 c73
               refine shW_drawM [(.still, 0), (.still, 1), (.still, 2), (.still, 3), (.still, 4), (.still, 5), (.still, 6), (.still, 7), (.still, 8), (.still, 9), (.still, 10), (.still, 11), (.still, 12), (.still, 13), (.still, 14), (.still, 15), (.still, 16), (.still, 17), (.still, 20), (.seq, 18), (.seq, 19), (.still, 21), (.seq, 22)] (by kernel_rfl) (by kernel_rfl) (trivial) (by rfl) (by kernel_rfl) ?_
               refine shM_v (v := .int .i64 k) (ek := [(4, .int .i64 k)]) (Ls := []) rfl rfl rfl rfl ((sc rfl (sn _))) (by kernel_rfl) sm (fun H F' L' hF' hL' => v_move rfl) ?_
               refine shM_v (v := .int .i64 k2) (ek := [(5, .int .i64 k2)]) (Ls := []) rfl rfl rfl rfl ((sc rfl (sn _))) (by kernel_rfl) sm (fun H F' L' hF' hL' => v_move rfl) ?_
               refine shM_v (v := .int .i64 k) (ek := [(4, .int .i64 k)]) (Ls := []) rfl rfl rfl rfl ((sc rfl (sn _))) (by kernel_rfl) sm (fun H F' L' hF' hL' => v_move rfl) ?_
               refine shM_v (v := .int .i64 k2) (ek := [(5, .int .i64 k2)]) (Ls := []) rfl rfl rfl rfl ((sc rfl (sn _))) (by kernel_rfl) sm (fun H F' L' hF' hL' => v_move rfl) ?_
               obtain ⟨g75, r76⟩ := gd_ok r74
               refine shM_v (v := .pointer (some ⟨b3, 0 + (k : Int).toNat * 5, none⟩)) (ek := [(3, .pointer (some ⟨b3, 0, none⟩)), (33, .int .i64 k)]) (Ls := []) rfl rfl rfl rfl ((sc rfl (sc rfl (sn _)))) (by kernel_rfl) sm (fun H F' L' hF' hL' => v_indexA Try.underlying98 Try.sizeOf96 rfl rfl g75) ?_
               obtain ⟨g77, r78⟩ := gd_ok r76
               obtain ⟨x3, g79, hx80, r81⟩ := ix_ok r78
               have hq83 : (k * 5 + k2 : Int).toNat = (k : Int).toNat * 5 + (k2 : Int).toNat := by have := g75; have := g77; omega
               have hc82 := el_at2 (cI_ok .i64) h37 hq83 hx80 (li_arr (li_end (lfl (cI_ok .i64) h37))) (li_le (li_end (lfl (cI_ok .i64) h37)))
               refine shM_v (v := .pointer (some ⟨b3, 0 + (k : Int).toNat * 5 + (k2 : Int).toNat * 1, none⟩)) (ek := [(34, .int .i64 k2), (35, .pointer (some ⟨b3, 0 + (k : Int).toNat * 5, none⟩))]) (Ls := []) rfl rfl rfl rfl ((sc rfl (sc rfl (sn _)))) (by kernel_rfl) sm (fun H F' L' hF' hL' => v_indexA Try.underlying96 Try.sizeOf3 rfl rfl g77) ?_
               refine shM_v (v := .int .i64 x3) (ek := [(36, .pointer (some ⟨b3, 0 + (k : Int).toNat * 5 + (k2 : Int).toNat * 1, none⟩))]) (Ls := [(b3, .cells (arr (cI .i64) out6) 98 (0, 0))]) rfl rfl rfl rfl ((sc rfl (sn _))) (by kernel_rfl) (s0 (s2 (s1 (s1 sr)))) (fun H F' L' hF' hL' => v_load Try.isAgg3 rfl ((Has.own 0 rfl).ext hF' hL') ((hc82).2.2 0 (by decide))) ?_
               refine shM_v (v := .int .i64 k) (ek := [(4, .int .i64 k)]) (Ls := []) rfl rfl rfl rfl ((sc rfl (sn _))) (by kernel_rfl) sm (fun H F' L' hF' hL' => v_move rfl) ?_
               refine shM_v (v := .int .i64 k3) (ek := [(6, .int .i64 k3)]) (Ls := []) rfl rfl rfl rfl ((sc rfl (sn _))) (by kernel_rfl) sm (fun H F' L' hF' hL' => v_move rfl) ?_
               obtain ⟨g84, r85⟩ := gd_ok r81
               refine shM_v (v := .pointer (some ⟨b1, 0 + (k : Int).toNat * 5, none⟩)) (ek := [(1, .pointer (some ⟨b1, 0, none⟩)), (38, .int .i64 k)]) (Ls := []) rfl rfl rfl rfl ((sc rfl (sc rfl (sn _)))) (by kernel_rfl) sm (fun H F' L' hF' hL' => v_indexA Try.underlying98 Try.sizeOf96 rfl rfl g84) ?_
               obtain ⟨g86, r87⟩ := gd_ok r85
               obtain ⟨x4, g88, hx89, r90⟩ := ix_ok r87
               have hq92 : (k * 5 + k3 : Int).toNat = (k : Int).toNat * 5 + (k3 : Int).toNat := by have := g84; have := g86; omega
               have hc91 := el_at2 (cI_ok .i64) h_w hq92 hx89 (li_arr (li_end (lfl (cI_ok .i64) h_w))) (li_le (li_end (lfl (cI_ok .i64) h_w)))
               refine shM_v (v := .pointer (some ⟨b1, 0 + (k : Int).toNat * 5 + (k3 : Int).toNat * 1, none⟩)) (ek := [(39, .int .i64 k3), (40, .pointer (some ⟨b1, 0 + (k : Int).toNat * 5, none⟩))]) (Ls := []) rfl rfl rfl rfl ((sc rfl (sc rfl (sn _)))) (by kernel_rfl) sm (fun H F' L' hF' hL' => v_indexA Try.underlying96 Try.sizeOf3 rfl rfl g86) ?_
               refine shM_v (v := .int .i64 x4) (ek := [(41, .pointer (some ⟨b1, 0 + (k : Int).toNat * 5 + (k3 : Int).toNat * 1, none⟩))]) (Ls := [(b1, .cells (arr (cI .i64) w) 98 (0, 0))]) rfl rfl rfl rfl ((sc rfl (sn _))) (by kernel_rfl) (s0 (s1 (s1 (s2 sr)))) (fun H F' L' hF' hL' => v_load Try.isAgg3 rfl ((Has.own 0 rfl).ext hF' hL') ((hc91).2.2 0 (by decide))) ?_
               refine shM_v (v := .int .i64 k3) (ek := [(6, .int .i64 k3)]) (Ls := []) rfl rfl rfl rfl ((sc rfl (sn _))) (by kernel_rfl) sm (fun H F' L' hF' hL' => v_move rfl) ?_
               refine shM_v (v := .int .i64 k2) (ek := [(5, .int .i64 k2)]) (Ls := []) rfl rfl rfl rfl ((sc rfl (sn _))) (by kernel_rfl) sm (fun H F' L' hF' hL' => v_move rfl) ?_
               obtain ⟨g93, r94⟩ := gd_ok r90
               refine shM_v (v := .pointer (some ⟨b1, 0 + (k3 : Int).toNat * 5, none⟩)) (ek := [(1, .pointer (some ⟨b1, 0, none⟩)), (43, .int .i64 k3)]) (Ls := []) rfl rfl rfl rfl ((sc rfl (sc rfl (sn _)))) (by kernel_rfl) sm (fun H F' L' hF' hL' => v_indexA Try.underlying98 Try.sizeOf96 rfl rfl g93) ?_
               obtain ⟨g95, r96⟩ := gd_ok r94
               obtain ⟨x5, g97, hx98, r99⟩ := ix_ok r96
               have hq101 : (k3 * 5 + k2 : Int).toNat = (k3 : Int).toNat * 5 + (k2 : Int).toNat := by have := g93; have := g95; omega
               have hc100 := el_at2 (cI_ok .i64) h_w hq101 hx98 (li_arr (li_end (lfl (cI_ok .i64) h_w))) (li_le (li_end (lfl (cI_ok .i64) h_w)))
               refine shM_v (v := .pointer (some ⟨b1, 0 + (k3 : Int).toNat * 5 + (k2 : Int).toNat * 1, none⟩)) (ek := [(44, .int .i64 k2), (45, .pointer (some ⟨b1, 0 + (k3 : Int).toNat * 5, none⟩))]) (Ls := []) rfl rfl rfl rfl ((sc rfl (sc rfl (sn _)))) (by kernel_rfl) sm (fun H F' L' hF' hL' => v_indexA Try.underlying96 Try.sizeOf3 rfl rfl g95) ?_
               refine shM_v (v := .int .i64 x5) (ek := [(46, .pointer (some ⟨b1, 0 + (k3 : Int).toNat * 5 + (k2 : Int).toNat * 1, none⟩))]) (Ls := [(b1, .cells (arr (cI .i64) w) 98 (0, 0))]) rfl rfl rfl rfl ((sc rfl (sn _))) (by kernel_rfl) (s0 (s1 (s1 (s2 sr)))) (fun H F' L' hF' hL' => v_load Try.isAgg3 rfl ((Has.own 0 rfl).ext hF' hL') ((hc100).2.2 0 (by decide))) ?_
               obtain ⟨g102, r103⟩ := gd_ok r99
               refine shM_v (v := .int .i64 (x4 + x5)) (ek := [(42, .int .i64 x4), (47, .int .i64 x5)]) (Ls := []) rfl rfl rfl rfl ((sc rfl (sc rfl (sn _)))) (by kernel_rfl) sm (fun H F' L' hF' hL' => v_add rfl rfl g102) ?_
               obtain ⟨g104, r105⟩ := gd_ok r103
               refine shM_v (v := .pointer (some ⟨b3, 0 + (k : Int).toNat * 5, none⟩)) (ek := [(3, .pointer (some ⟨b3, 0, none⟩)), (31, .int .i64 k)]) (Ls := []) rfl rfl rfl rfl ((sc rfl (sc rfl (sn _)))) (by kernel_rfl) sm (fun H F' L' hF' hL' => v_indexA Try.underlying98 Try.sizeOf96 rfl rfl g104) ?_
               refine ⟨_, [(37, .int .i64 x3), (48, .int .i64 (x4 + x5))], rfl, rfl, (sc rfl (sc rfl (sn _))), by kernel_rfl, ?_⟩; intro H
               refine o_buildSlice (cs := #[.int .i64 x3, .int .i64 (x4 + x5)]) rfl rfl (buildSlice_all slt_30 [.int .i64 x3, .int .i64 (x4 + x5)] rfl (by decide) (by simp [Value.cells]) (by decide)) ?_; intro b106 hb106
               refine shO_nil ⟨_, rfl, FExt.refl _, [20, 1, 0], by kernel_rfl, .inl (.inr (fun d h => by cases h; rfl)), (List.forall_mem_cons.2 ⟨sm, (List.forall_mem_cons.2 ⟨sm, (List.forall_mem_cons.2 ⟨sm, (fun _ h => absurd h List.not_mem_nil)⟩)⟩)⟩), ?_⟩
               refine ⟨_, [(49, .slice (some ⟨b106, 0, none⟩) 2 2)], rfl, rfl, (sc rfl (sn _)), by kernel_rfl, ?_⟩; intro H
               refine shO_freeze 0 rfl hb106 ?_; intro F107 hF108 hz109
               refine shO_L (L' := [(b3, .cells (arr (cI .i64) out6) 98 (0, 0)), (b2, .cells (arr (cI .i64) (List.replicate 25 0)) 98 (0, 0)), (b1, .cells (arr (cI .i64) w) 98 (0, 0))]) rfl ?_
               have h110 : RowR 1 (iE .i64) F107 (some ⟨b106, 0, none⟩) 2 [x3, x4 + x5] := RowR.of_block (iE_ok _) (vss := [[.int .i64 x3], [.int .i64 (x4 + x5)]]) (xs := [x3, x4 + x5]) hz109 (.cons rfl (.cons rfl .nil)) rfl (by simp [maxLen])
               obtain ⟨n, h111, r112⟩ := b1_ok r105
               refine o_callV rfl Try.call73 rfl rfl rfl (round_soonest_w h110 h111) ?_
               refine shO_nil ⟨_, rfl, hF108, [20, 1, 0], by kernel_rfl, .inl (.inr (fun d h => by cases h; rfl)), (List.forall_mem_cons.2 ⟨sm, (List.forall_mem_cons.2 ⟨sm, (List.forall_mem_cons.2 ⟨sm, (fun _ h => absurd h List.not_mem_nil)⟩)⟩)⟩), ?_⟩
               obtain ⟨g113, r114⟩ := gd_ok r112
               have hq116 : (k * 5 + k2 : Int).toNat = (k : Int).toNat * 5 + (k2 : Int).toNat := by have := g104; have := g113; omega
               refine shM_v (v := .pointer (some ⟨b3, 0 + (k : Int).toNat * 5 + (k2 : Int).toNat * 1, none⟩)) (ek := [(32, .int .i64 k2), (51, .pointer (some ⟨b3, 0 + (k : Int).toNat * 5, none⟩))]) (Ls := []) rfl rfl rfl rfl ((sc rfl (sc rfl (sn _)))) (by kernel_rfl) sm (fun H F' L' hF' hL' => v_indexA Try.underlying96 Try.sizeOf3 rfl rfl g113) ?_
               refine ⟨_, [(50, .int .i64 n), (52, .pointer (some ⟨b3, 0 + (k : Int).toNat * 5 + (k2 : Int).toNat * 1, none⟩))], rfl, rfl, (sc rfl (sc rfl (sn _))), by kernel_rfl, ?_⟩; intro H
               obtain ⟨l, h117, r118⟩ := bv_ok r114
               have h119 : l.length = 25 := by rw [h117, List.length_set]; exact h37
               refine o_storeArr2 (i := 0) Try.sizeOf3 (cI_ok .i64) rfl rfl rfl rfl hq116 (by have := g79; have := h37; omega) h37 ?_
               refine shO_L (L' := [(b3, .cells (arr (cI .i64) l) 98 (0, 0)), (b2, .cells (arr (cI .i64) (List.replicate 25 0)) 98 (0, 0)), (b1, .cells (arr (cI .i64) w) 98 (0, 0))]) (by rw [h117]; rfl) ?_
               refine shO_nil ⟨undef, rfl, FExt.refl _, [], by kernel_rfl, .inl (.inl rfl), (fun _ h => absurd h List.not_mem_nil), ?_⟩
               refine shM_nil ?_
               refine inBlock_n (id := 5) (shW_region ?_)
               refine ov (v_add rfl rfl (Ctr.r64 hk40 c47 g38)) rfl ?_
               refine om rfl rfl (shO_nil ?_)
               exact le kr ⟨_, hk48, l, r118, (hF45.trans hF108), rfl, (sc rfl (sc rfl (sc rfl (sc rfl (sc rfl (sc rfl (sc rfl (sc rfl (sn _))))))))), h119⟩
             have r120 := bf r50 c73
             refine shW_skip (inBlock_n (id := 5) (shW_region ?_))
             refine ov (v_add rfl rfl (Ctr.r64 hk40 c47 g38)) rfl ?_
             refine om rfl rfl (shO_nil ?_)
             exact le kr ⟨_, hk48, out6, r120, hF45, rfl, (sc rfl (sc rfl (sc rfl (sc rfl (sc rfl (sc rfl (sc rfl (sc rfl (sn _))))))))), h37⟩
           obtain rfl := Ctr.zero hk40 c47
           rw [round_walks_through_l3] at r42
           refine shW_exit (andThen_exit (andThen_exit ?_))
           refine inBlock_exit ?_
           refine inBlock_n (id := 3) ?_
           obtain rfl := inj1 r42
           exact mi kr ⟨hF45, rfl, (sc rfl (sc rfl (sc rfl (sc rfl (sc rfl (sc rfl (sn _))))))), h37⟩
         rintro e1 F122 _ ⟨hF123, rfl, he121, h34⟩
         refine shW_env _ he121 ?_
         refine shW_region ?_
         refine ov (v_add rfl rfl (Ctr.r64 hk25 c32 g23)) rfl ?_
         refine om rfl rfl (shO_nil ?_)
         exact le kr ⟨_, hk33, out5, r36, (hF30.trans hF123), rfl, (sc rfl (sc rfl (sc rfl (sc rfl (sc rfl (sc rfl (sn _))))))), h34⟩
       obtain rfl := Ctr.zero hk25 c32
       rw [round_walks_through_l2] at r27
       refine shW_exit (andThen_exit (andThen_exit ?_))
       refine inBlock_exit ?_
       refine inBlock_n (id := 1) ?_
       obtain rfl := inj1 r27
       exact mi kr ⟨hF30, rfl, (sc rfl (sc rfl (sc rfl (sc rfl (sn _))))), h22⟩
     rintro e1 F125 _ ⟨hF126, rfl, he124, h19⟩
     refine shW_env _ he124 ?_
     refine shW_region ?_
     refine ov (v_add rfl rfl (Ctr.r64 hk10 c17 g8)) rfl ?_
     refine om rfl rfl (shO_nil ?_)
     exact le kr ⟨_, hk18, out3, r21, (hF15.trans hF126), rfl, (sc rfl (sc rfl (sc rfl (sc rfl (sn _))))), h19⟩
   obtain rfl := Ctr.zero hk10 c17
   rw [round_walks_through_l1] at r12
   refine shW_exit (andThen_exit (andThen_exit ?_))
   refine inBlock_exit ?_
   obtain rfl := inj1 r12
   exact mi (kc (kc kn)) ⟨hF15, rfl, (sc rfl (sc rfl (sn _))), h7⟩
 rintro e1 F128 _ ⟨hF129, rfl, he127, h4⟩
 refine shW_env _ he127 ?_
 refine wsr ?_
 refine ov (v_loadW Try.isAgg98 Try.sizeOf98 rfl (Has.own 0 rfl) (arr_sz (cI_ok .i64) h4)) rfl ?_
 refine o_storeW (i := 1) Try.sizeOf98 rfl rfl rfl (arr_sz (cI_ok .i64) List.length_replicate) (arr_sz (cI_ok .i64) h4) (arr_one (cI_ok .i64)) ?_
 refine shO_L (L' := [(b3, .cells (arr (cI .i64) out) 98 (0, 0)), (b2, .cells (arr (cI .i64) out) 98 (0, 0))]) rfl ?_
 refine shO_nil ?_
 refine kW (kd kr) ?_
 refine shW_ret ?_
 refine q_res1 Try.results52 (res_cellA (cs := arr (cI .i64) out) Try.isAgg98 Try.sizeOf98 rfl (Has.own 0 rfl) (li_le (li_end (lfl (cI_ok .i64) h4))) (li_ext (lfl (cI_ok .i64) h4) (li_end (lfl (cI_ok .i64) h4)))) (s1 sr) ?_
 obtain rfl := inj1 r6
 exact ⟨rfl, rfl, h4⟩
set_option maxHeartbeats 1000000 in
theorem slices_AppendSeq_int_int_w {s__a : Option Addr} {s__n s__c : Nat} {s__L : LH} {s_ : List Int} {seq_f : FuncId} {seq_1 seq_2 : Array Value} {seq : List Int} {F : FS} (h_s_ : SlR 0 3 1 (iE .i64) F s__a s__n s__c s_ s__L) (hc_seq : ∀ args w, (callFunc seq_f args).run Try.prog w = .ok (.enter seq_f args) w) (h_seq : IterOK Try.prog seq_f seq_1 seq_2 F (fun x : Int => #[.int .i64 x]) seq) {r : List Int} (hr : slices_AppendSeq_int_int s_ seq = some r) :
    SH.Spec Try.prog 84 #[.slice s__a s__n s__c, .func (.func seq_f) seq_1 seq_2] F (s__L ++ []) fun F' L' v => ∃ (ra : Option Addr) (rn : Nat) (rc : Nat) (rL : LH), v = .slice ra rn rc ∧ L' = rL ++ [] ∧ SlR 0 3 1 (iE .i64) F' ra rn rc r rL := by
 refine spec_of_shW (args := [.slice s__a s__n s__c, .func (.func seq_f) seq_1 seq_2]) Try.func84 rfl Try.ntmps84 (nbL rfl) ?_
 intro K _ _; rw [slices_AppendSeq_int_int] at hr
 refine shW_L (L' := s__L ++ []) (by simp) ?_
 refine wsr ?_
 refine o_box rfl rfl ?_; intro b1 hb1
 refine oa rfl rfl (shO_nil ?_)
 obtain ⟨s_2, h8, r9⟩ := b1_ok hr
 refine shW_join (fun e1 F1 L1 => ∃ (a2 : Option Addr) (n6 : Nat) (c3 : Nat) (Lb4 : LH), FExt F F1 ∧ L1 = ((b1, .cells #[.slice a2 n6 c3] 30 (0, 0)) :: (Lb4 ++ [])) ∧ e1.sub [(2, .pointer (some ⟨b1, 0, none⟩))] ∧ SlR 0 3 1 (iE .i64) F1 a2 n6 c3 s_2 Lb4) ?_ ?_
 · clear r9
   refine wsr (om rfl rfl (shO_nil ?_))
   refine shW_block ?_
   refine shW_rangeFunc (encs := (fun x : Int => #[.int .i64 x])) (xs := seq) rfl hc_seq rfl (fun _ => rfl) h_seq (fun pre F1 L1 => ∃ (tl : List Int) (s_3 : List Int) (a10 : Option Addr) (n14 : Nat) (c11 : Nat) (Lb12 : LH), seq = pre ++ tl ∧ slices_AppendSeq_int_int_l1 tl s_3 = some s_2 ∧ L1 = ((b1, .cells #[.slice a10 n14 c11] 30 (0, 0)) :: (Lb12 ++ [])) ∧ SlR 0 3 1 (iE .i64) F1 a10 n14 c11 s_3 Lb12) (fun _ _ _ => False) ?_ ?_ ?_ ?_ ?_ ?_
   · rintro pre F1 F2 L1 ⟨tl, s_3, a10, n14, c11, Lb12, hs16, r17, rfl, hz13⟩ hx; exact ⟨tl, s_3, a10, n14, c11, Lb12, hs16, r17, rfl, hz13.mono (iE_ok _) hx⟩
   · intro c F1 F2 L1 h hx; exact h
   · exact ⟨_, s_, s__a, s__n, s__c, s__L, rfl, h8, rfl, h_s_⟩
   · rintro l18 wr19 Fr20 Xr21 Ha22 Hb23 hnb24 hH28 pre x tl2 hxs27 F25 _ hF26 ⟨tl, s_3, a10, n14, c11, Lb12, hs16, r29, rfl, hz13⟩
     obtain rfl := rest_head hs16 hxs27
     rw [slices_AppendSeq_int_int_l1] at r29
     refine shW_env [(2, .pointer (some ⟨b1, 0, none⟩)), (6, .func (.func seq_f) seq_1 seq_2), (7, .int .i64 x)] (by exact (sc rfl (sc rfl (sc rfl (sn _))))) ?_
     refine shW_region (oa rfl rfl (shO_nil ?_))
     refine ⟨rfl, ?_⟩
     refine shW_block ?_
     refine shW_region ?_
     refine ov (v_load Try.isAgg30 rfl (Has.own 0 rfl) rfl) rfl ?_
     refine om rfl rfl ?_
     refine o_buildSlice (cs := #[.int .i64 x]) rfl rfl (buildSlice_all slt_30 [.int .i64 x] rfl (by decide) (by simp [Value.cells]) (by decide)) ?_; intro b30 hb30
     obtain ⟨s_4, h31, g32, r33⟩ := ap_ok r29
     refine o_appZ (xs := s_3) (ys := [x]) (zs := s_4) rfl slt_30 rfl rfl (Nat.zero_le _) (fun _ => .c (.c .h)) hz13 (SrcR.box (vss := [[.int .i64 x]]) (ys := [x]) 0 rfl (iE_ok _) (.cons rfl .nil) rfl rfl) h31 g32 (by decide) ?_; intro a34 n38 c35 Lb36 hz37
     refine kO (kd kr) ?_
     refine o_store (i := 0) Try.sizeOf30 rfl rfl rfl rfl (nbL rfl) ?_
     refine shO_L (L' := (b1, .cells #[.slice a34 n38 c35] 30 (0, 0)) :: (Lb36 ++ [])) rfl ?_
     refine shO_nil (inBlock_n (id := 1) ?_)
     refine ⟨(b1, .cells #[.slice a34 n38 c35] 30 (0, 0)) :: (Lb36 ++ []), ⟨_, .refl _, sr⟩, ?_⟩; exact ⟨_, s_4, a34, n38, c35, Lb36, (by rw [hxs27]; simp), r33, rfl, hz37⟩
   · rintro F40 _ hF41 ⟨tl, s_3, a10, n14, c11, Lb12, hs16, r42, rfl, hz13⟩
     obtain rfl := rest_nil hs16; rw [slices_AppendSeq_int_int_l1] at r42
     refine inBlock_n (id := 0) ?_
     obtain rfl := inj1 r42
     exact mi kr ⟨a10, n14, c11, Lb12, hF41, rfl, (sc rfl (sn _)), hz13⟩
   intro c F1 L1 hx h; exact h.elim
 rintro e1 F44 _ ⟨a2, n6, c3, Lb4, hF45, rfl, he43, hz5⟩
 refine shW_env _ he43 ?_
 refine wsr ?_
 refine ov (v_load Try.isAgg30 rfl (Has.own 0 rfl) rfl) rfl ?_
 refine oa rfl rfl (shO_nil ?_)
 refine kW (kd kr) ?_
 refine shW_ret ?_
 refine q_res1 Try.results84 (res_tmp rfl) (sr) ?_
 obtain rfl := inj1 r9
 exact ⟨_, _, _, _, rfl, rfl, hz5⟩
theorem slices_Collect_int_w {seq_f : FuncId} {seq_1 seq_2 : Array Value} {seq : List Int} {F : FS} (hc_seq : ∀ args w, (callFunc seq_f args).run Try.prog w = .ok (.enter seq_f args) w) (h_seq : IterOK Try.prog seq_f seq_1 seq_2 F (fun x : Int => #[.int .i64 x]) seq) {r : List Int} (hr : slices_Collect_int seq = some r) :
    SH.Spec Try.prog 74 #[.func (.func seq_f) seq_1 seq_2] F [] fun F' L' v => ∃ (ra : Option Addr) (rn : Nat) (rc : Nat) (rL : LH), v = .slice ra rn rc ∧ L' = rL ++ [] ∧ SlR 0 3 1 (iE .i64) F' ra rn rc r rL := by
 refine spec_of_shW (args := [.func (.func seq_f) seq_1 seq_2]) Try.func74 rfl Try.ntmps74 (nbL rfl) ?_
 intro K _ _; rw [slices_Collect_int] at hr
 refine wsr (oa rfl rfl (nsr (om rfl rfl ?_)))
 obtain ⟨l, h1, r2⟩ := b1_ok hr
 refine o_call0 rfl Try.call84 rfl rfl rfl (slices_AppendSeq_int_int_w (SlR.nil 0 _ _ _ _) hc_seq h_seq h1) ?_; rintro _ F3 _ hF4 hn5 ⟨a7, n11, c8, Lb9, rfl, rfl, hz10⟩
 refine shO_L (lp (ln rfl)) ?_
 refine oa rfl rfl (shO_nil (shW_ret ?_))
 refine q_res1 Try.results74 (res_tmp rfl) (sr) ?_
 obtain rfl := inj1 r2
 exact ⟨_, _, _, _, rfl, rfl, hz10.any⟩
theorem cmp_isNaN_int_w {x : Int} {F : FS} {r : Bool} (hr : cmp_isNaN_int x = some r) :
    SpecV Try.prog 107 #[.int .i64 x] F (.bool r) := by
 refine spec_of_shW (args := [.int .i64 x]) Try.func107 rfl Try.ntmps107 (nbL rfl) ?_
 intro K _ _; rw [cmp_isNaN_int] at hr
 refine wsr (oa rfl rfl (nsr (om rfl rfl (om rfl rfl ?_))))
 refine ov (v_neq rfl rfl) rfl ?_
 refine oa rfl rfl (shO_nil (shW_ret ?_))
 refine q_res1 Try.results107 (res_tmp rfl) (sr) ?_
 obtain rfl := inj1 hr
 exact rfl
set_option maxHeartbeats 1000000 in
theorem cmp_Less_int_w {x y : Int} {F : FS} {r : Bool} (hr : cmp_Less_int x y = some r) :
    SpecV Try.prog 95 #[.int .i64 x, .int .i64 y] F (.bool r) := by
 refine spec_of_shW (args := [.int .i64 x, .int .i64 y]) Try.func95 rfl Try.ntmps95 (nbL rfl) ?_
 intro K _ _; rw [cmp_Less_int] at hr
 refine wsr (oa rfl rfl (nsr (om rfl rfl ?_)))
 obtain ⟨ok, h1, r2⟩ := b1_ok hr
 refine o_callV rfl Try.call107 rfl rfl rfl (cmp_isNaN_int_w h1) ?_
 refine om rfl rfl ?_
 rcases bool_two ok with c3 | c3
 · have r4 := bt r2 c3
   refine shO_on (b := true) 7 rfl (EnvB rfl c3) (om rfl rfl (shO_on (b := true) 7 rfl (EnvB rfl c3) ?_))
   obtain ⟨ok2, h5, r6⟩ := b1_ok r4
   refine o_callV rfl Try.call107 rfl rfl rfl (cmp_isNaN_int_w h5) ?_
   refine shO_on (b := true) 7 rfl (EnvB rfl c3) ?_
   refine ov (v_notB rfl) rfl ?_
   refine ov (v_pick_t (evB rfl c3) rfl) rfl ?_
   refine om rfl rfl ?_
   rcases bool_two (!ok2) with c7 | c7
   · have r8 := bt r6 c7
     refine shO_off (b' := true) 12 rfl (EnvB rfl c7) rfl rfl (shO_off (b' := true) 12 rfl (EnvB rfl c7) rfl rfl (shO_off (b' := true) 12 rfl (EnvB rfl c7) rfl rfl ?_))
     refine ov (v_pick_t (evB rfl c7) rfl) rfl ?_
     refine oa rfl rfl (shO_nil (shW_ret ?_))
     refine q_res1 Try.results95 (res_tmp rfl) (sr) ?_
     obtain rfl := inj1 r8
     exact rfl
   have r9 := bf r6 c7
   refine shO_on (b := false) 12 rfl (EnvB rfl c7) (om rfl rfl (shO_on (b := false) 12 rfl (EnvB rfl c7) (om rfl rfl (shO_on (b := false) 12 rfl (EnvB rfl c7) ?_))))
   refine ov (v_lssK rfl rfl) rfl ?_
   refine ov (v_pick_f (evB rfl c7) rfl) rfl ?_
   refine oa rfl rfl (shO_nil (shW_ret ?_))
   refine q_res1 Try.results95 (res_tmp rfl) (sr) ?_
   obtain rfl := inj1 r9
   exact rfl
 have r10 := bf r2 c3
 refine shO_off (b' := false) 7 rfl (EnvB rfl c3) rfl rfl (shO_off (b' := false) 7 rfl (EnvB rfl c3) rfl rfl (shO_off (b' := false) 7 rfl (EnvB rfl c3) rfl rfl ?_))
 refine ov (v_pick_f (evB rfl c3) rfl) rfl ?_
 refine om rfl rfl (shO_on (b := false) 12 rfl rfl (om rfl rfl (shO_on (b := false) 12 rfl rfl (om rfl rfl (shO_on (b := false) 12 rfl rfl ?_)))))
 refine ov (v_lssK rfl rfl) rfl ?_
 refine ov (v_pick_f rfl rfl) rfl ?_
 refine oa rfl rfl (shO_nil (shW_ret ?_))
 refine q_res1 Try.results95 (res_tmp rfl) (sr) ?_
 obtain rfl := inj1 r10
 exact rfl
set_option maxHeartbeats 1000000 in
theorem slices_insertionSortOrdered_int_w {s__a : Option Addr} {s__n s__c : Nat} {s__L : LH} {s_ : List Int} {s__nb : Nat} {a b : Int} {F : FS} (h_s_ : SlR s__nb 3 1 (iE .i64) F s__a s__n s__c s_ s__L) {r : List Int} (hr : slices_insertionSortOrdered_int s_ a b = some r) :
    SH.Spec Try.prog 89 #[.slice s__a s__n s__c, .int .i64 a, .int .i64 b] F (s__L ++ []) fun F' L' v => ∃ (rL : LH), v = .tuple #[] ∧ L' = rL ++ [] ∧ SlR s__nb 3 1 (iE .i64) F' s__a s__n s__c r rL := by
 refine spec_of_shW (args := [.slice s__a s__n s__c, .int .i64 a, .int .i64 b]) Try.func89 rfl Try.ntmps89 (nbL rfl) ?_
 intro K _ _; rw [slices_insertionSortOrdered_int] at hr
 refine shW_L (L' := s__L ++ []) (by simp) ?_
 refine wsr (om rfl rfl ?_)
 obtain ⟨g1, r2⟩ := gd_ok hr
 refine ov (v_add rfl rfl g1) rfl ?_
 refine oa rfl rfl (shO_nil ?_)
 refine shW_block ?_
 obtain ⟨g5, r6⟩ := gd_ok r2
 refine shW_lp (fun fu1 e1 F1 L1 => ∃ (i : Int), Ctr (a + 1) b i fu1 ∧ ∃ (data : List Int) (Lb3 : LH), slices_insertionSortOrdered_int_l1 a fu1 i data = some r ∧ F = F1 ∧ L1 = (Lb3 ++ []) ∧ e1.sub [(0, .slice s__a s__n s__c), (1, .int .i64 a), (2, .int .i64 b), (6, .int .i64 i)] ∧ SlR s__nb 3 1 (iE .i64) F1 s__a s__n s__c data Lb3) _ (m0 kr ⟨_, Ctr.start _ _, s_, s__L, r6, rfl, rfl, (sc rfl (sc rfl (sc rfl (sc rfl (sn _))))), h_s_⟩) ?_
 rintro fu1 e1 _ _ ⟨i, hk7, data, Lb3, r9, rfl, rfl, he10, hz4⟩
 refine shW_env _ he10 ?_
 refine shW_seq (wsr (om rfl rfl (om rfl rfl ?_)))
 refine ov (v_lssK rfl rfl) rfl ?_
 refine shO_nil ?_
 refine shW_condP rfl (fun c12 => ?_) (fun c12 => ?_)
 · obtain ⟨fu1, rfl, hk13⟩ := Ctr.succ hk7 c12
   rw [slices_insertionSortOrdered_int_l1] at r9
   refine shW_skip ?_
   obtain ⟨data2, h16, r17⟩ := b1_ok r9
   refine shW_join (fun e1 F1 L1 => ∃ (Lb14 : LH), F = F1 ∧ L1 = (Lb14 ++ []) ∧ e1.sub [(0, .slice s__a s__n s__c), (1, .int .i64 a), (2, .int .i64 b), (6, .int .i64 i)] ∧ SlR s__nb 3 1 (iE .i64) F1 s__a s__n s__c data2 Lb14) ?_ ?_
   · clear r17
     refine shW_block ?_
     refine wsr (om rfl rfl (oa rfl rfl (shO_nil ?_)))
     refine shW_block ?_
     refine shW_lp (fun fu2 e1 F1 L1 => ∃ (data3 : List Int) (j : Int) (Lb18 : LH), slices_insertionSortOrdered_int_l2 a fu2 data3 j = some data2 ∧ F = F1 ∧ L1 = (Lb18 ++ []) ∧ e1.sub [(0, .slice s__a s__n s__c), (1, .int .i64 a), (2, .int .i64 b), (6, .int .i64 i), (7, .int .i64 j)] ∧ SlR s__nb 3 1 (iE .i64) F1 s__a s__n s__c data3 Lb18) FU (m0 kr ⟨data, i, Lb3, h16, rfl, rfl, (sc rfl (sc rfl (sc rfl (sc rfl (sc rfl (sn _)))))), hz4⟩) ?_
     rintro fu2 e1 _ _ ⟨data3, j, Lb18, r22, rfl, rfl, he23, hz19⟩
     refine shW_env _ he23 ?_
     rcases fu2 with _ | fu2
     · rw [slices_insertionSortOrdered_int_l2] at r22; cases r22
     rw [slices_insertionSortOrdered_int_l2] at r22
     refine shW_seq ?_
     obtain ⟨k, h24, r25⟩ := b1_ok r22
     refine shW_join (fun e1 F1 L1 => F = F1 ∧ L1 = (Lb18 ++ []) ∧ e1.sub [(0, .slice s__a s__n s__c), (1, .int .i64 a), (2, .int .i64 b), (6, .int .i64 i), (7, .int .i64 j), (30, .bool k)]) ?_ ?_
     · clear r25
       refine shW_draw (by kernel_rfl) (by kernel_rfl) (by kernel_rfl) ?_
       refine qm rfl rfl (qm rfl rfl ?_)
       refine qv (v_gtrK rfl rfl) rfl ?_
       refine qm rfl rfl ?_
       by_cases c26 : a < j
       · have r27 := ite_t h24 c26
         refine shQ_on (b := true) 19 rfl (Env.isT rfl c26) (qm rfl rfl (shQ_on (b := true) 19 rfl (Env.isT rfl c26) (qm rfl rfl (shQ_on (b := true) 19 rfl (Env.isT rfl c26) ?_))))
         obtain ⟨x, g28, hx29, r30⟩ := ix_ok r27
         obtain ⟨b31, o32, c33, vs34, ha35, hs36, hle37, rfl, hl38, hc39⟩ := SlR.at (iE_ok _) hz19 (L := Lb18 ++ []) fP g28.1 hx29
         refine qv (v_indexO Try.underlying30 Try.sizeOf3 rfl ha35 rfl (SlR.idx hz19 g28)) rfl ?_
         refine shQ_on (b := true) 19 rfl (Env.isT rfl c26) ?_
         refine qv (v_load Try.isAgg3 rfl hs36 (hc39 0 (by decide))) rfl ?_
         refine shQ_on (b := true) 19 rfl (Env.isT rfl c26) (qm rfl rfl (shQ_on (b := true) 19 rfl (Env.isT rfl c26) (qm rfl rfl (shQ_on (b := true) 19 rfl (Env.isT rfl c26) ?_))))
         obtain ⟨g40, r41⟩ := gd_ok r30
         refine qv (v_sub rfl rfl g40) rfl ?_
         refine shQ_on (b := true) 19 rfl (Env.isT rfl c26) ?_
         obtain ⟨x2, g42, hx43, r44⟩ := ix_ok r41
         obtain ⟨b45, o46, c47, vs48, ha49, hs50, hle51, rfl, hl52, hc53⟩ := SlR.at (iE_ok _) hz19 (L := Lb18 ++ []) fP g42.1 hx43
         refine qv (v_indexO Try.underlying30 Try.sizeOf3 rfl ha49 rfl (SlR.idx hz19 g42)) rfl ?_
         refine shQ_on (b := true) 19 rfl (Env.isT rfl c26) ?_
         refine qv (v_load Try.isAgg3 rfl hs50 (hc53 0 (by decide))) rfl ?_
         refine shQ_on (b := true) 19 rfl (Env.isT rfl c26) ?_
         obtain ⟨ok, h54, r55⟩ := b1_ok r44
         refine shQ_callV rfl Try.call95 rfl rfl rfl (cmp_Less_int_w h54) ?_
         refine qv (v_pick_t (evD_true rfl c26) rfl) rfl ?_
         refine shQ_nil ?_
         obtain rfl := inj1 r55
         exact mi kr ⟨rfl, rfl, (sc rfl (sc rfl (sc rfl (sc rfl (sc rfl (sc rfl (sn _)))))))⟩
       have r56 := ite_f h24 c26
       refine shQ_off (b' := false) 19 rfl (Env.isF rfl c26) rfl rfl (shQ_off (b' := false) 19 rfl (Env.isF rfl c26) rfl rfl (shQ_off (b' := false) 19 rfl (Env.isF rfl c26) rfl rfl (shQ_off (b' := false) 19 rfl (Env.isF rfl c26) rfl rfl (shQ_off (b' := false) 19 rfl (Env.isF rfl c26) rfl rfl (shQ_off (b' := false) 19 rfl (Env.isF rfl c26) rfl rfl (shQ_off (b' := false) 19 rfl (Env.isF rfl c26) rfl rfl (shQ_off (b' := false) 19 rfl (Env.isF rfl c26) rfl rfl (shQ_off (b' := false) 19 rfl (Env.isF rfl c26) rfl rfl (shQ_off (b' := false) 19 rfl (Env.isF rfl c26) rfl rfl ?_)))))))))
       refine qv (v_pick_f (evD_false rfl c26) rfl) rfl ?_
       refine shQ_nil ?_
       obtain rfl := inj1 r56
       exact mi kr ⟨rfl, rfl, (sc rfl (sc rfl (sc rfl (sc rfl (sc rfl (sc rfl (sn _)))))))⟩
     rintro e1 _ _ ⟨rfl, rfl, he57⟩
     refine shW_env _ he57 ?_
     refine shW_cond rfl (fun c58 => ?_) (fun c58 => ?_)
     · have r59 := bt r25 c58
       refine shW_skip (shW_seq ?_)
       refine shW_block ?_
       refine shW_drawM [(.still, 0), (.still, 1), (.still, 2), (.still, 3), (.still, 4), (.still, 5), (.still, 6), (.still, 7), (.still, 8), (.still, 9), (.still, 10), (.still, 11), (.still, 12), (.still, 13), (.still, 14), (.seq, 15), (.still, 16), (.seq, 17)] (by kernel_rfl) (by kernel_rfl) (trivial) (by rfl) (by kernel_rfl) ?_
       refine shM_v (v := .slice s__a s__n s__c) (ek := [(0, .slice s__a s__n s__c)]) (Ls := []) rfl rfl rfl rfl ((sc rfl (sn _))) (by kernel_rfl) sm (fun H F' L' hF' hL' => v_move rfl) ?_
       refine shM_v (v := .int .i64 j) (ek := [(7, .int .i64 j)]) (Ls := []) rfl rfl rfl rfl ((sc rfl (sn _))) (by kernel_rfl) sm (fun H F' L' hF' hL' => v_move rfl) ?_
       refine shM_v (v := .slice s__a s__n s__c) (ek := [(0, .slice s__a s__n s__c)]) (Ls := []) rfl rfl rfl rfl ((sc rfl (sn _))) (by kernel_rfl) sm (fun H F' L' hF' hL' => v_move rfl) ?_
       refine shM_v (v := .int .i64 j) (ek := [(7, .int .i64 j)]) (Ls := []) rfl rfl rfl rfl ((sc rfl (sn _))) (by kernel_rfl) sm (fun H F' L' hF' hL' => v_move rfl) ?_
       obtain ⟨g60, r61⟩ := gd_ok r59
       refine shM_v (v := .int .i64 (j - 1)) (ek := [(36, .int .i64 j)]) (Ls := []) rfl rfl rfl rfl ((sc rfl (sn _))) (by kernel_rfl) sm (fun H F' L' hF' hL' => v_sub rfl rfl g60) ?_
       refine shM_v (v := .slice s__a s__n s__c) (ek := [(0, .slice s__a s__n s__c)]) (Ls := []) rfl rfl rfl rfl ((sc rfl (sn _))) (by kernel_rfl) sm (fun H F' L' hF' hL' => v_move rfl) ?_
       refine shM_v (v := .int .i64 j) (ek := [(7, .int .i64 j)]) (Ls := []) rfl rfl rfl rfl ((sc rfl (sn _))) (by kernel_rfl) sm (fun H F' L' hF' hL' => v_move rfl) ?_
       obtain ⟨g62, r63⟩ := gd_ok r61
       refine shM_v (v := .int .i64 (j - 1)) (ek := [(39, .int .i64 j)]) (Ls := []) rfl rfl rfl rfl ((sc rfl (sn _))) (by kernel_rfl) sm (fun H F' L' hF' hL' => v_sub rfl rfl g62) ?_
       obtain ⟨x3, g64, hx65, r66⟩ := ix_ok r63
       obtain ⟨b67, o68, c69, vs70, ha71, hs72, hle73, rfl, hl74, hc75⟩ := SlR.at (iE_ok _) hz19 (L := Lb18 ++ []) fP g64.1 hx65
       refine shM_v (v := .pointer (some ⟨b67, o68 + (j - 1 : Int).toNat * 1, none⟩)) (ek := [(38, .slice s__a s__n s__c), (40, .int .i64 (j - 1))]) (Ls := []) rfl rfl rfl rfl ((sc rfl (sc rfl (sn _)))) (by kernel_rfl) sm (fun H F' L' hF' hL' => v_indexO Try.underlying30 Try.sizeOf3 rfl ha71 rfl (SlR.idx hz19 g64)) ?_
       refine shM_v (v := .int .i64 x3) (ek := [(41, .pointer (some ⟨b67, o68 + (j - 1 : Int).toNat * 1, none⟩))]) (Ls := Lb18 ++ []) rfl rfl rfl rfl ((sc rfl (sn _))) (by kernel_rfl) (s0 sr) (fun H F' L' hF' hL' => v_load Try.isAgg3 rfl (hs72.ext hF' hL') (hc75 0 (by decide))) ?_
       refine shM_v (v := .slice s__a s__n s__c) (ek := [(0, .slice s__a s__n s__c)]) (Ls := []) rfl rfl rfl rfl ((sc rfl (sn _))) (by kernel_rfl) sm (fun H F' L' hF' hL' => v_move rfl) ?_
       refine shM_v (v := .int .i64 j) (ek := [(7, .int .i64 j)]) (Ls := []) rfl rfl rfl rfl ((sc rfl (sn _))) (by kernel_rfl) sm (fun H F' L' hF' hL' => v_move rfl) ?_
       obtain ⟨x4, g76, hx77, r78⟩ := ix_ok r66
       obtain ⟨b79, o80, c81, vs82, ha83, hs84, hle85, rfl, hl86, hc87⟩ := SlR.at (iE_ok _) hz19 (L := Lb18 ++ []) fP g76.1 hx77
       refine shM_v (v := .pointer (some ⟨b79, o80 + (j : Int).toNat * 1, none⟩)) (ek := [(43, .slice s__a s__n s__c), (44, .int .i64 j)]) (Ls := []) rfl rfl rfl rfl ((sc rfl (sc rfl (sn _)))) (by kernel_rfl) sm (fun H F' L' hF' hL' => v_indexO Try.underlying30 Try.sizeOf3 rfl ha83 rfl (SlR.idx hz19 g76)) ?_
       refine shM_v (v := .int .i64 x4) (ek := [(45, .pointer (some ⟨b79, o80 + (j : Int).toNat * 1, none⟩))]) (Ls := Lb18 ++ []) rfl rfl rfl rfl ((sc rfl (sn _))) (by kernel_rfl) (s0 sr) (fun H F' L' hF' hL' => v_load Try.isAgg3 rfl (hs84.ext hF' hL') (hc87 0 (by decide))) ?_
       obtain ⟨b88, o89, c90, vs91, ha92, hs93, hle94, rfl, hl95, hc96⟩ := SlR.at (iE_ok _) hz19 (L := Lb18 ++ []) fP g76.1 hx77
       refine shM_v (v := .pointer (some ⟨b88, o89 + (j : Int).toNat * 1, none⟩)) (ek := [(33, .slice s__a s__n s__c), (34, .int .i64 j)]) (Ls := []) rfl rfl rfl rfl ((sc rfl (sc rfl (sn _)))) (by kernel_rfl) sm (fun H F' L' hF' hL' => v_indexO Try.underlying30 Try.sizeOf3 rfl ha92 rfl (SlR.idx hz19 g76)) ?_
       refine ⟨_, [(42, .int .i64 x3), (47, .pointer (some ⟨b88, o89 + (j : Int).toNat * 1, none⟩))], rfl, rfl, (sc rfl (sc rfl (sn _))), by kernel_rfl, ?_⟩; intro H
       obtain ⟨l, h97, r98⟩ := bv_ok r78
       refine o_storeZ (u := x3) Try.sizeOf3 (iE_ok _) rfl ha92 rfl rfl (fun _ => .h) hz19 h97 g76 ?_; intro Lb99 hz100
       refine shO_nil ⟨undef, rfl, FExt.refl _, [4, 3, 2], by kernel_rfl, .inl (.inr (fun d h => by cases h)), (List.forall_mem_cons.2 ⟨sm, (List.forall_mem_cons.2 ⟨sm, (List.forall_mem_cons.2 ⟨sm, (fun _ h => absurd h List.not_mem_nil)⟩)⟩)⟩), ?_⟩
       obtain ⟨x5, g101, hx102, r103⟩ := ix_ok r98
       obtain ⟨b104, o105, c106, vs107, ha108, hs109, hle110, rfl, hl111, hc112⟩ := SlR.at (iE_ok _) hz100 (L := Lb99 ++ []) fP g101.1 hx102
       refine shM_v (v := .pointer (some ⟨b104, o105 + (j - 1 : Int).toNat * 1, none⟩)) (ek := [(35, .slice s__a s__n s__c), (37, .int .i64 (j - 1))]) (Ls := []) rfl rfl rfl rfl ((sc rfl (sc rfl (sn _)))) (by kernel_rfl) sm (fun H F' L' hF' hL' => v_indexO Try.underlying30 Try.sizeOf3 rfl ha108 rfl (SlR.idx hz100 g101)) ?_
       refine ⟨_, [(46, .int .i64 x4), (48, .pointer (some ⟨b104, o105 + (j - 1 : Int).toNat * 1, none⟩))], rfl, rfl, (sc rfl (sc rfl (sn _))), by kernel_rfl, ?_⟩; intro H
       obtain ⟨l2, h113, r114⟩ := bv_ok r103
       refine o_storeZ (u := x4) Try.sizeOf3 (iE_ok _) rfl ha108 rfl rfl (fun _ => .h) hz100 h113 g101 ?_; intro Lb115 hz116
       refine shO_nil ⟨undef, rfl, FExt.refl _, [], by kernel_rfl, .inl (.inl rfl), (fun _ h => absurd h List.not_mem_nil), ?_⟩
       refine shM_nil ?_
       refine inBlock_n (id := 3) (shW_region (om rfl rfl ?_))
       obtain ⟨g117, r118⟩ := gd_ok r114
       refine ov (v_sub rfl rfl g117) rfl ?_
       refine oa rfl rfl (shO_nil ?_)
       exact le kr ⟨l2, j - 1, Lb115, r118, rfl, rfl, (sc rfl (sc rfl (sc rfl (sc rfl (sc rfl (sn _)))))), hz116⟩
     have r119 := bf r25 c58
     refine shW_exit (andThen_exit (andThen_exit ?_))
     refine inBlock_exit ?_
     refine inBlock_n (id := 1) ?_
     obtain rfl := inj1 r119
     exact mi kr ⟨Lb18, rfl, rfl, (sc rfl (sc rfl (sc rfl (sc rfl (sn _))))), hz19⟩
   rintro e1 _ _ ⟨Lb14, rfl, rfl, he120, hz15⟩
   refine shW_env _ he120 ?_
   refine shW_region (om rfl rfl ?_)
   refine ov (v_add rfl rfl (Ctr.r64 hk7 c12 g5)) rfl ?_
   refine oa rfl rfl (shO_nil ?_)
   exact le kr ⟨_, hk13, data2, Lb14, r17, rfl, rfl, (sc rfl (sc rfl (sc rfl (sc rfl (sn _))))), hz15⟩
 obtain rfl := Ctr.zero hk7 c12
 rw [slices_insertionSortOrdered_int_l1] at r9
 refine shW_exit (andThen_exit (andThen_exit ?_))
 refine inBlock_exit ?_
 refine q_end0 (.inr rfl) Try.results89 ?_
 obtain rfl := inj1 r9
 exact ⟨_, rfl, rfl, hz4⟩
set_option maxHeartbeats 1000000 in
theorem math_bits_Len64_w {x : Int} {F : FS} {r : Int} (hr : math_bits_Len64 x = some r) :
    SpecV Try.prog 99 #[.int .u64 x] F (.int .i64 r) := by
 refine spec_of_shW (args := [.int .u64 x]) Try.func99 rfl Try.ntmps99 (nbL rfl) ?_
 intro K _ _; rw [math_bits_Len64] at hr
 refine wsr (oa rfl rfl (shO_nil ?_))
 obtain ⟨x2, n, h1, r2⟩ := b2_ok hr
 refine shW_join (fun e1 F1 L1 => F = F1 ∧ L1 = [] ∧ e1.sub [(0, .int .u64 x2), (2, .int .i64 n)]) ?_ ?_
 · clear r2
   refine wsr (om rfl rfl ?_)
   refine ov (v_geqK rfl rfl) rfl ?_
   refine shO_nil ?_
   refine shW_condP rfl (fun c3 => ?_) (fun c3 => ?_)
   · have r4 := ite_t h1 c3
     refine wsr (om rfl rfl ?_)
     refine ov (v_shr rfl rfl (by decide)) rfl ?_
     refine oa rfl rfl (shO_nil (shW_region (oa rfl rfl (shO_nil ?_))))
     obtain ⟨rfl, rfl⟩ := inj2 r4
     exact mi kr ⟨rfl, rfl, (sc rfl (sc rfl (sn _)))⟩
   have r5 := ite_f h1 c3
   refine shW_skip ?_
   obtain ⟨rfl, rfl⟩ := inj2 r5
   exact mi kr ⟨rfl, rfl, (sc rfl (sc rfl (sn _)))⟩
 rintro e1 _ _ ⟨rfl, rfl, he6⟩
 refine shW_env _ he6 ?_
 obtain ⟨x3, n2, h7, r8⟩ := b2_ok r2
 refine shW_join (fun e1 F1 L1 => F = F1 ∧ L1 = [] ∧ e1.sub [(0, .int .u64 x3), (2, .int .i64 n2)]) ?_ ?_
 · clear r8
   refine wsr (om rfl rfl ?_)
   refine ov (v_geqK rfl rfl) rfl ?_
   refine shO_nil ?_
   refine shW_condP rfl (fun c9 => ?_) (fun c9 => ?_)
   · have r10 := ite_t h7 c9
     refine wsr (om rfl rfl ?_)
     refine ov (v_shr rfl rfl (by decide)) rfl ?_
     refine oa rfl rfl (shO_nil (shW_region (om rfl rfl ?_)))
     obtain ⟨g11, r12⟩ := gd_ok r10
     refine ov (v_add rfl rfl g11) rfl ?_
     refine oa rfl rfl (shO_nil ?_)
     obtain ⟨rfl, rfl⟩ := inj2 r12
     exact mi kr ⟨rfl, rfl, (sc rfl (sc rfl (sn _)))⟩
   have r13 := ite_f h7 c9
   refine shW_skip ?_
   obtain ⟨rfl, rfl⟩ := inj2 r13
   exact mi kr ⟨rfl, rfl, (sc rfl (sc rfl (sn _)))⟩
 rintro e1 _ _ ⟨rfl, rfl, he14⟩
 refine shW_env _ he14 ?_
 obtain ⟨x4, n3, h15, r16⟩ := b2_ok r8
 refine shW_join (fun e1 F1 L1 => F = F1 ∧ L1 = [] ∧ e1.sub [(0, .int .u64 x4), (2, .int .i64 n3)]) ?_ ?_
 · clear r16
   refine wsr (om rfl rfl ?_)
   refine ov (v_geqK rfl rfl) rfl ?_
   refine shO_nil ?_
   refine shW_condP rfl (fun c17 => ?_) (fun c17 => ?_)
   · have r18 := ite_t h15 c17
     refine wsr (om rfl rfl ?_)
     refine ov (v_shr rfl rfl (by decide)) rfl ?_
     refine oa rfl rfl (shO_nil (shW_region (om rfl rfl ?_)))
     obtain ⟨g19, r20⟩ := gd_ok r18
     refine ov (v_add rfl rfl g19) rfl ?_
     refine oa rfl rfl (shO_nil ?_)
     obtain ⟨rfl, rfl⟩ := inj2 r20
     exact mi kr ⟨rfl, rfl, (sc rfl (sc rfl (sn _)))⟩
   have r21 := ite_f h15 c17
   refine shW_skip ?_
   obtain ⟨rfl, rfl⟩ := inj2 r21
   exact mi kr ⟨rfl, rfl, (sc rfl (sc rfl (sn _)))⟩
 rintro e1 _ _ ⟨rfl, rfl, he22⟩
 refine shW_env _ he22 ?_
 refine wsr (om rfl rfl (om rfl rfl ?_))
 refine ov (u_conv rfl Try.underlying152 Try.underlying5 rfl) rfl ?_
 obtain ⟨x5, g23, hx24, r25⟩ := ix_ok r16
 refine ov (v_indexStr Try.underlying9 (congrArg (fun s => some (Value.string s)) strc_strt_0) rfl g23.1 hx24 (strr_strt_0 _ (List.mem_of_getElem? hx24))) rfl ?_
 obtain ⟨g26, r27⟩ := gd_ok r25
 refine ov (i_conv Try.underlying5 Try.underlying3 rfl g26) rfl ?_
 obtain ⟨g28, r29⟩ := gd_ok r27
 refine ov (v_add rfl rfl g28) rfl ?_
 refine oa rfl rfl (shO_nil (shW_ret ?_))
 refine q_res1 Try.results99 (res_tmp rfl) (sr) ?_
 obtain rfl := inj1 r29
 exact rfl
theorem math_bits_Len_w {x : Int} {F : FS} {r : Int} (hr : math_bits_Len x = some r) :
    SpecV Try.prog 86 #[.int .u64 x] F (.int .i64 r) := by
 refine spec_of_shW (args := [.int .u64 x]) Try.func86 rfl Try.ntmps86 (nbL rfl) ?_
 intro K _ _; rw [math_bits_Len] at hr
 refine wsr (oa rfl rfl (shO_nil (shW_seq ?_)))
 refine shW_cond rfl (fun c1 => nomatch c1) (fun c1 => ?_)
 refine shW_skip (wsr (om rfl rfl ?_))
 obtain ⟨n, h2, r3⟩ := b1_ok hr
 refine o_callV rfl Try.call99 rfl rfl rfl (math_bits_Len64_w h2) ?_
 refine oa rfl rfl (shO_nil (shW_ret ?_))
 refine q_res1 Try.results86 (res_tmp rfl) (sr) ?_
 obtain rfl := inj1 r3
 exact rfl
set_option maxHeartbeats 1000000 in
theorem slices_pdqsortOrdered_intB_w {rec_ : (List Int) → Int → Int → Int → Option ((List Int))} (_hrec : ∀ {s__a : Option Addr} {s__n s__c : Nat} {s__L : LH} {s_ : List Int} {s__nb : Nat} {a b limit : Int} {F : FS} (_ : SlR s__nb 3 1 (iE .i64) F s__a s__n s__c s_ s__L) {r : List Int} , rec_ s_ a b limit = some r → SH.Spec Try.prog 85 #[.slice s__a s__n s__c, .int .i64 a, .int .i64 b, .int .i64 limit] F (s__L ++ []) fun F' L' v => ∃ (rL : LH), v = .tuple #[] ∧ L' = rL ++ [] ∧ SlR s__nb 3 1 (iE .i64) F' s__a s__n s__c r rL) {s__a : Option Addr} {s__n s__c : Nat} {s__L : LH} {s_ : List Int} {s__nb : Nat} {a b limit : Int} {F : FS} (h_s_ : SlR s__nb 3 1 (iE .i64) F s__a s__n s__c s_ s__L) {r : List Int} (hr : slices_pdqsortOrdered_intB rec_ s_ a b limit = some r) :
    SH.Spec Try.prog 85 #[.slice s__a s__n s__c, .int .i64 a, .int .i64 b, .int .i64 limit] F (s__L ++ []) fun F' L' v => ∃ (rL : LH), v = .tuple #[] ∧ L' = rL ++ [] ∧ SlR s__nb 3 1 (iE .i64) F' s__a s__n s__c r rL := by
 refine spec_of_shW (args := [.slice s__a s__n s__c, .int .i64 a, .int .i64 b, .int .i64 limit]) Try.func85 rfl Try.ntmps85 (nbL rfl) ?_
 intro K _ _; rw [slices_pdqsortOrdered_intB] at hr
 refine shW_L (L' := s__L ++ []) (by simp) ?_
 refine wsr (oa rfl rfl (nsr (oa rfl rfl (shO_nil ?_))))
 refine shW_block ?_
 refine shW_lp (fun fu1 e1 F1 L1 => slices_pdqsortOrdered_intB_l1 s_ a b fu1 = some r ∧ F = F1 ∧ L1 = (s__L ++ []) ∧ e1.sub [(0, .slice s__a s__n s__c), (1, .int .i64 a), (2, .int .i64 b), (3, .int .i64 limit), (8, .bool true), (9, .bool true)]) FU (m0 kr ⟨hr, rfl, rfl, (sc rfl (sc rfl (sc rfl (sc rfl (sc rfl (sc rfl (sn _)))))))⟩) ?_
 rintro fu1 e1 _ _ ⟨r3, rfl, rfl, he4⟩
 refine shW_env _ he4 ?_
 rcases fu1 with _ | fu1
 · rw [slices_pdqsortOrdered_intB_l1] at r3; cases r3
 rw [slices_pdqsortOrdered_intB_l1] at r3
 refine shW_block ?_
 refine wsr (om rfl rfl (om rfl rfl ?_))
 obtain ⟨g5, r6⟩ := gd_ok r3
 refine ov (v_sub rfl rfl g5) rfl ?_
 refine oa rfl rfl (shO_nil (shW_seq (wsr (om rfl rfl ?_))))
 refine ov (v_leqK rfl rfl) rfl ?_
 refine shO_nil ?_
 obtain ⟨g8, r9⟩ := gd_ok r6
 refine shW_condP rfl (fun c7 => ?_) (fun c7 => absurd g8 c7)
 refine wsr (om rfl rfl (om rfl rfl (om rfl rfl ?_)))
 obtain ⟨s_2, h10, r11⟩ := b1_ok r9
 refine o_callG (Lb := s__L ++ []) (Lr := []) rfl Try.call89 rfl rfl rfl (pT pR (lp (ln rfl))) (slices_insertionSortOrdered_int_w h_s_ h10) ?_; rintro _ F12 _ hF13 hd15 hn14 ⟨Lb16, rfl, rfl, hz17⟩
 refine shO_L (lp (ln rfl)) ?_
 refine shO_nil (shW_ret (andThen_ret (inBlock_ret (andThen_ret (inBlock_ret ?_)))))
 refine q_end0 (.inl rfl) Try.results85 ?_
 obtain rfl := inj1 r11
 exact ⟨_, rfl, rfl, hz17⟩
theorem slices_pdqsortOrdered_int_w : ∀ (fu : Nat) {s__a : Option Addr} {s__n s__c : Nat} {s__L : LH} {s_ : List Int} {s__nb : Nat} {a b limit : Int} {F : FS} (_ : SlR s__nb 3 1 (iE .i64) F s__a s__n s__c s_ s__L) {r : List Int} , slices_pdqsortOrdered_int fu s_ a b limit = some r → SH.Spec Try.prog 85 #[.slice s__a s__n s__c, .int .i64 a, .int .i64 b, .int .i64 limit] F (s__L ++ []) fun F' L' v => ∃ (rL : LH), v = .tuple #[] ∧ L' = rL ++ [] ∧ SlR s__nb 3 1 (iE .i64) F' s__a s__n s__c r rL := by
  intro fu
  induction fu with
  | zero => intros; rename_i hr; rw [slices_pdqsortOrdered_int] at hr; cases hr
  | succ fu ih => intros; rename_i hr; rw [slices_pdqsortOrdered_int] at hr; exact slices_pdqsortOrdered_intB_w ih (by assumption) hr
set_option maxHeartbeats 1000000 in
theorem slices_Sort_int_int_w {s__a : Option Addr} {s__n s__c : Nat} {s__L : LH} {s_ : List Int} {s__nb : Nat} {F : FS} (h_s_ : SlR s__nb 3 1 (iE .i64) F s__a s__n s__c s_ s__L) {r : List Int} (hr : slices_Sort_int_int s_ = some r) :
    SH.Spec Try.prog 75 #[.slice s__a s__n s__c] F (s__L ++ []) fun F' L' v => ∃ (rL : LH), v = .tuple #[] ∧ L' = rL ++ [] ∧ SlR s__nb 3 1 (iE .i64) F' s__a s__n s__c r rL := by
 refine spec_of_shW (args := [.slice s__a s__n s__c]) Try.func75 rfl Try.ntmps75 (nbL rfl) ?_
 intro K _ _; rw [slices_Sort_int_int] at hr
 refine shW_L (L' := s__L ++ []) (by simp) ?_
 refine wsr (om rfl rfl ?_)
 refine ov ((v_lenS Try.underlying30 rfl).i (SlR.lenI h_s_)) rfl ?_
 refine oa rfl rfl (shO_nil (shW_region (om rfl rfl (om rfl rfl (om rfl rfl ?_)))))
 refine ov (u_conv rfl Try.underlying3 Try.underlying131 rfl) rfl ?_
 obtain ⟨n, h1, r2⟩ := b1_ok hr
 refine o_callV rfl Try.call86 rfl rfl rfl (math_bits_Len_w h1) ?_
 obtain ⟨s_2, h3, r4⟩ := b1_ok r2
 refine o_callG (Lb := s__L ++ []) (Lr := []) rfl Try.call85 rfl rfl rfl (pT pR (lp (ln rfl))) ((slices_pdqsortOrdered_int_w FU) h_s_ h3) ?_; rintro _ F5 _ hF6 hd8 hn7 ⟨Lb9, rfl, rfl, hz10⟩
 refine shO_L (lp (ln rfl)) ?_
 refine shO_nil ?_
 refine q_end0 (.inr rfl) Try.results75 ?_
 obtain rfl := inj1 r4
 exact ⟨_, rfl, rfl, hz10⟩
set_option maxHeartbeats 1000000 in
theorem slices_Sorted_int_w {seq_f : FuncId} {seq_1 seq_2 : Array Value} {seq : List Int} {F : FS} (hc_seq : ∀ args w, (callFunc seq_f args).run Try.prog w = .ok (.enter seq_f args) w) (h_seq : IterOK Try.prog seq_f seq_1 seq_2 F (fun x : Int => #[.int .i64 x]) seq) {r : List Int} (hr : slices_Sorted_int seq = some r) :
    SH.Spec Try.prog 53 #[.func (.func seq_f) seq_1 seq_2] F [] fun F' L' v => ∃ (ra : Option Addr) (rn : Nat) (rc : Nat) (rL : LH), v = .slice ra rn rc ∧ L' = rL ++ [] ∧ SlR 0 3 1 (iE .i64) F' ra rn rc r rL := by
 refine spec_of_shW (args := [.func (.func seq_f) seq_1 seq_2]) Try.func53 rfl Try.ntmps53 (nbL rfl) ?_
 intro K _ _; rw [slices_Sorted_int] at hr
 refine wsr (oa rfl rfl (nsr (om rfl rfl ?_)))
 obtain ⟨l, h1, r2⟩ := b1_ok hr
 refine o_call0 rfl Try.call74 rfl rfl rfl (slices_Collect_int_w hc_seq h_seq h1) ?_; rintro _ F3 _ hF4 hn5 ⟨a7, n11, c8, Lb9, rfl, rfl, hz10⟩
 replace hz10 := hz10.new fun p hp => hn5 p (by simp [hp])
 refine shO_L (lp (ln rfl)) ?_
 refine oa rfl rfl (nsr (om rfl rfl ?_))
 obtain ⟨s_, h13, r14⟩ := b1_ok r2
 refine o_callG (Lb := Lb9 ++ []) (Lr := []) rfl Try.call75 rfl rfl rfl (pT pR (lp (ln rfl))) (slices_Sort_int_int_w hz10 h13) ?_; rintro _ F15 _ hF16 hd18 hn17 ⟨Lb19, rfl, rfl, hz20⟩
 refine shO_L (lp (ln rfl)) ?_
 refine nsr (om rfl rfl (oa rfl rfl (shO_nil (shW_ret ?_))))
 refine q_res1 Try.results53 (res_tmp rfl) (sr) ?_
 obtain rfl := inj1 r14
 exact ⟨_, _, _, _, rfl, rfl, hz20.any⟩
set_option maxHeartbeats 1000000 in
theorem slices_Values_int_int_1_w {b_s_ : Nat} {s__a : Option Addr} {s__c : Nat} {s_ : List Int} {mb_s_ : Nat × Nat} {F : FS} (hb_s_ : F b_s_ = some (.cells #[.slice s__a s_.length s__c] 30 mb_s_)) (h_s_ : RowR 1 (iE .i64) F s__a s__c s_) {xs : List Int} (hr : slices_Values_int_int_1 s_ = some xs) :
    IterOK Try.prog 76 #[] #[.pointer (some ⟨b_s_, 0, none⟩)] F (fun x : Int => #[.int .i64 x]) xs := by
 intro G0 hG0 yv J Jx hJm hJxm hy Fc L0 hG hJ0
 replace hb_s_ := (hG0.trans hG) _ _ hb_s_
 replace h_s_ := h_s_.mono (iE_ok _) (hG0.trans hG)
 have hfull0 : xs = [] ++ xs := rfl
 show SH.Spec Try.prog 76 #[yv, .pointer (some ⟨b_s_, 0, none⟩)] Fc L0 _
 refine spec_of_shW (args := [yv, .pointer (some ⟨b_s_, 0, none⟩)]) Try.func76 rfl Try.ntmps76 (nbL rfl) ?_
 intro K _ _; rw [slices_Values_int_int_1] at hr; refine shW_L (L' := L0 ++ []) (by simp) ?_
 refine wsr ?_
 refine ov (v_load Try.isAgg30 rfl (Has.frozen hb_s_) rfl) rfl ?_
 refine ov (v_lenS Try.underlying30 rfl) rfl ?_
 refine om rfl rfl (shO_nil ?_)
 refine shW_block ?_
 refine shW_lp (fun fu1 e1 F1 L1 => ∃ (tl : List Int) (k : Int), tl.length = fu1 ∧ Lst s_ k tl ∧ ∃ (pre1 : List Int) (rem2 : List Int) (Lj3 : LH), slices_Values_int_int_1_l1 tl = some rem2 ∧ FExt Fc F1 ∧ L1 = (Lj3 ++ []) ∧ e1.sub [(0, yv), (5, .slice s__a s_.length s__c), (6, .int .i64 (s_.length : Int)), (7, .int .i64 k)] ∧ xs = pre1 ++ rem2 ∧ J pre1 F1 Lj3 ∧ FExt G0 F1) _ (m0 kr ⟨_, _, rfl, Lst.start _, [], xs, L0, hr, FExt.refl _, rfl, (sc rfl (sc rfl (sc rfl (sc rfl (sn _))))), hfull0, hJ0, hG⟩) ?_
 rintro fu1 e1 F10 _ ⟨tl, k, hn7, hk6, pre1, rem2, Lj3, r8, hF11, rfl, he9, hfull5, hJ4, hG⟩
 refine shW_env _ he9 ?_
 replace h_s_ := h_s_.mono (iE_ok _) hF11
 refine wsr ?_
 refine ov (v_lssK rfl rfl) rfl ?_
 refine shO_nil (shW_seq ?_)
 refine shW_condP rfl (fun c13 => ?_) (fun c13 => ?_)
 · obtain ⟨x, tl2, rfl, hx15, g16, hk14⟩ := Lst.succ hk6 c13
   rw [slices_Values_int_int_1_l1] at r8
   refine shW_skip (shW_seq ?_)
   refine shW_block ?_
   refine wsr ?_
   obtain ⟨b17, o18, c19, vs20, ha21, hs22, hle23, rfl, hl24, hc25⟩ := RowR.at (iE_ok _) h_s_ (Lj3 ++ []) g16.1 hx15
   refine ov (v_indexO Try.underlying30 Try.sizeOf3 rfl ha21 rfl g16) rfl ?_
   refine ov (v_load Try.isAgg3 rfl hs22 (hc25 0 (by decide))) rfl ?_
   refine oa rfl rfl (nsr (om rfl rfl (om rfl rfl ?_)))
   obtain ⟨tl26, r28, hx27⟩ := yl_ok r8
   refine o_callC (Lb := Lj3) (Lr := []) (vs := [.int .i64 x]) rfl rfl rfl fP (hy pre1 x tl26 (by rw [hfull5, hx27]) _ _ hG hJ4) ?_
   rintro v36 F29 Lj30 hF31 hz32; obtain ⟨yb33, rfl, hbt34, hbf35⟩ := yield_bool hz32
   replace h_s_ := h_s_.mono (iE_ok _) hF31
   replace hG := hG.trans hF31
   refine ov (v_notB rfl) rfl ?_
   refine shO_nil ?_
   refine shW_cond rfl (fun c37 => ?_) (fun c37 => ?_)
   · have hJ38 := hbf35 (by simpa using c37)
     refine shW_ret (inBlock_ret (andThen_ret (andThen_ret (inBlock_ret ?_))))
     refine q_end0s (.inl rfl) Try.results76 (sr) ?_
     exact .inr (by rw [List.append_nil]; exact hJ38)
   have hJ39 := hbt34 (by simpa using c37)
   have hfull40 : xs = (pre1 ++ [x]) ++ tl26 := by rw [hfull5, hx27]; simp
   refine shW_skip (inBlock_n (id := 1) (shW_region ?_))
   refine ov (v_add rfl rfl (Lst.r64 hk6 c13 (RowR.lt h_s_))) rfl ?_
   refine om rfl rfl (shO_nil ?_)
   subst hn7; exact le kr ⟨_, _, rfl, hk14, pre1 ++ [x], tl26, Lj30, r28, (hF11.trans hF31), rfl, (sc rfl (sc rfl (sc rfl (sc rfl (sn _))))), hfull40, hJ39, hG⟩
 obtain rfl := Lst.zero hk6 c13
 rw [slices_Values_int_int_1_l1] at r8
 refine shW_exit (andThen_exit (andThen_exit ?_))
 refine inBlock_exit ?_
 refine q_end0s (.inr rfl) Try.results76 (sr) ?_
 obtain rfl := inj1 r8
 exact .inl (by have e1 := hfull5; rw [List.append_nil] at e1; rw [List.append_nil, e1]; exact hJ4)
theorem slices_Values_int_int_w {s__a : Option Addr} {s__c : Nat} {s_ : List Int} {F : FS} (h_s_ : RowR 1 (iE .i64) F s__a s__c s_) {r : List Int} (hr : slices_Values_int_int s_ = some r) :
    SH.Spec Try.prog 54 #[.slice s__a s_.length s__c] F [] fun F' L' v => ∃ (rcp : Array Value), v = .func (.func 76) #[] rcp ∧ L' = [] ∧ IterOK Try.prog 76 #[] rcp F' (fun x : Int => #[.int .i64 x]) r := by
 refine spec_of_shW (args := [.slice s__a s_.length s__c]) Try.func54 rfl Try.ntmps54 (nbL rfl) ?_
 intro K _ _; rw [slices_Values_int_int] at hr
 refine wsr ?_
 refine o_box rfl rfl ?_; intro b1 hb1
 refine oa rfl rfl (nsr ?_)
 refine ov (v_makeFunc rfl rfl) rfl ?_
 refine oa rfl rfl (shO_nil ?_)
 refine shW_freeze 0 rfl hb1 ?_; intro F2 hF3 hz4
 refine shW_L (L' := []) rfl ?_
 replace h_s_ := h_s_.mono (iE_ok _) hF3
 obtain ⟨l, h5, r7⟩ := b1_ok hr
 have hit6 : IterOK Try.prog 76 #[] #[.pointer (some ⟨b1, 0, none⟩)] F2 (fun x : Int => #[.int .i64 x]) l := slices_Values_int_int_1_w hz4 h_s_ h5
 refine shW_ret ?_
 refine q_res1 Try.results54 (res_tmp rfl) (sr) ?_
 obtain rfl := inj1 r7
 exact ⟨_, rfl, rfl, hit6⟩
set_option maxHeartbeats 1000000 in
theorem round_opened_w {walks_a : Option Addr} {walks_c : Nat} {walks : List (List Int)} {hears_a : Option Addr} {hears_c : Nat} {hears : List (List Int)} {houses start : Int} {notices_a : Option Addr} {notices_c : Nat} {notices : List ((List Int) × Int × Int)} {F : FS} (h_walks : RowR 1 (slE 1 (iE .i64)) F walks_a walks_c walks) (h_hears : RowR 1 (slE 1 (iE .i64)) F hears_a hears_c hears) (h_notices : RowR 3 (prE (slE 1 (iE .i64)) (prE (iE .i64) (iE .i64))) F notices_a notices_c notices) {r : Option ((List (List Int)) × (List (List Int)) × Int × Int × (List ((List Int) × Int × Int)) × (List Int) × (List (Int × Int)) × (List Int))} {r2 : Int} (hr : round_opened walks hears houses start notices = some (r, r2)) :
    SH.Spec Try.prog 26 #[.agg #[.slice walks_a walks.length walks_c, .slice hears_a hears.length hears_c, .int .i64 houses, .int .i64 start, .slice notices_a notices.length notices_c]] F [] fun F' L' v => ∃ (rv : Value), v = .tuple #[rv, .int .i64 r2] ∧ L' = [] ∧ PtrR 102 (prE (slE 1 (slE 1 (iE .i64))) (prE (slE 1 (slE 1 (iE .i64))) (prE (iE .i64) (prE (iE .i64) (prE (slE 3 (prE (slE 1 (iE .i64)) (prE (iE .i64) (iE .i64)))) (prE (arE 25 (cI .i64)) (prE (slE 2 (prE (iE .i64) (iE .i64))) (arE 15 (cI .i64))))))))) F' rv r := by
 refine spec_of_shW (args := [.agg #[.slice walks_a walks.length walks_c, .slice hears_a hears.length hears_c, .int .i64 houses, .int .i64 start, .slice notices_a notices.length notices_c]]) Try.func26 rfl Try.ntmps26 (nbL rfl) ?_
 intro K _ _; rw [round_opened] at hr
 refine wsr ?_
 refine o_box rfl rfl ?_; intro b1 hb1
 refine oa rfl rfl (oa rfl rfl (shO_nil (shW_seq (wsr ?_))))
 refine ov (v_loadA (cs := #[.slice walks_a walks.length walks_c, .slice hears_a hears.length hears_c, .int .i64 houses, .int .i64 start, .slice notices_a notices.length notices_c]) Try.isAgg26 Try.sizeOf26 rfl (Has.own 0 rfl) (nbL rfl) rfl) rfl ?_
 obtain ⟨n, h2, r3⟩ := b1_ok hr
 refine o_callV rfl Try.call14 rfl rfl rfl (round_Check_w h_walks h_hears h_notices h2) ?_
 refine oa rfl rfl (nsr (om rfl rfl ?_))
 refine ov (v_neq rfl rfl) rfl ?_
 refine shO_nil ?_
 refine shW_condP rfl (fun c4 => ?_) (fun c4 => ?_)
 · have r5 := ite_t r3 c4
   refine wsr (om rfl rfl (oa rfl rfl (oa rfl rfl (shO_nil ?_))))
   refine kW kn ?_
   refine shW_ret (andThen_ret ?_)
   refine q_res2 Try.results26 (res_tmp rfl) (res_tmp rfl) (sr) ?_
   obtain ⟨rfl, rfl⟩ := inj2 r5
   exact ⟨_, rfl, rfl, rfl⟩
 have r6 := ite_f r3 c4
 refine shW_skip (wsr ?_)
 refine ov (v_loadA (cs := #[.slice walks_a walks.length walks_c, .slice hears_a hears.length hears_c, .int .i64 houses, .int .i64 start, .slice notices_a notices.length notices_c]) Try.isAgg26 Try.sizeOf26 rfl (Has.own 0 rfl) (nbL rfl) rfl) rfl ?_
 refine ov (v_build (v := .agg ((([.slice walks_a walks.length walks_c] : List Value) ++ (([.slice hears_a hears.length hears_c] : List Value) ++ (([.int .i64 houses] : List Value) ++ (([.int .i64 start] : List Value) ++ (([.slice notices_a notices.length notices_c] : List Value) ++ ((List.replicate 25 0).flatMap (cI .i64) ++ (([.slice none 0 0] : List Value) ++ ((List.replicate 15 0).flatMap (cI .i64))))))))).toArray)) rfl (by intro w; kernel_rfl)) rfl ?_
 refine o_box rfl rfl ?_; intro b7 hb7
 refine oa rfl rfl (shO_nil ?_)
 obtain ⟨c_walks, h9, r10⟩ := b1_ok r6
 refine shW_join (fun e1 F1 L1 => F = F1 ∧ L1 = [(b7, .cells ((([.slice walks_a walks.length walks_c] : List Value) ++ (([.slice hears_a hears.length hears_c] : List Value) ++ (([.int .i64 houses] : List Value) ++ (([.int .i64 start] : List Value) ++ (([.slice notices_a notices.length notices_c] : List Value) ++ (c_walks.flatMap (cI .i64) ++ (([.slice none 0 0] : List Value) ++ ((List.replicate 15 0).flatMap (cI .i64))))))))).toArray) 102 (0, 0)), (b1, .cells #[.slice walks_a walks.length walks_c, .slice hears_a hears.length hears_c, .int .i64 houses, .int .i64 start, .slice notices_a notices.length notices_c] 26 (0, 0))] ∧ e1.sub [(1, .pointer (some ⟨b1, 0, none⟩)), (5, .pointer (some ⟨b7, 0, none⟩))] ∧ c_walks.length = 25) ?_ ?_
 · clear r10
   refine wsr (om rfl rfl (shO_nil ?_))
   refine shW_block ?_
   obtain ⟨g12, r13⟩ := gd_ok h9
   refine shW_lp (fun fu1 e1 F1 L1 => ∃ (k : Int), Ctr 0 5 k fu1 ∧ ∃ (c_walks2 : List Int), round_opened_l1 walks fu1 k c_walks2 = some c_walks ∧ F = F1 ∧ L1 = [(b7, .cells ((([.slice walks_a walks.length walks_c] : List Value) ++ (([.slice hears_a hears.length hears_c] : List Value) ++ (([.int .i64 houses] : List Value) ++ (([.int .i64 start] : List Value) ++ (([.slice notices_a notices.length notices_c] : List Value) ++ (c_walks2.flatMap (cI .i64) ++ (([.slice none 0 0] : List Value) ++ ((List.replicate 15 0).flatMap (cI .i64))))))))).toArray) 102 (0, 0)), (b1, .cells #[.slice walks_a walks.length walks_c, .slice hears_a hears.length hears_c, .int .i64 houses, .int .i64 start, .slice notices_a notices.length notices_c] 26 (0, 0))] ∧ e1.sub [(1, .pointer (some ⟨b1, 0, none⟩)), (5, .pointer (some ⟨b7, 0, none⟩)), (23, .int .i64 k)] ∧ c_walks2.length = 25) _ (m0 kr ⟨_, Ctr.start _ _, List.replicate 25 0, r13, rfl, rfl, (sc rfl (sc rfl (sc rfl (sn _)))), List.length_replicate⟩) ?_
   rintro fu1 e1 _ _ ⟨k, hk14, c_walks2, r16, rfl, rfl, he17, h11⟩
   refine shW_env _ he17 ?_
   refine wsr ?_
   refine ov (v_lssK rfl rfl) rfl ?_
   refine shO_nil (shW_seq ?_)
   refine shW_condP rfl (fun c19 => ?_) (fun c19 => ?_)
   · obtain ⟨fu1, rfl, hk20⟩ := Ctr.succ hk14 c19
     rw [round_opened_l1] at r16
     refine shW_skip ?_
     obtain ⟨c_walks3, h22, r23⟩ := b1_ok r16
     refine shW_join (fun e1 F1 L1 => F = F1 ∧ L1 = [(b7, .cells ((([.slice walks_a walks.length walks_c] : List Value) ++ (([.slice hears_a hears.length hears_c] : List Value) ++ (([.int .i64 houses] : List Value) ++ (([.int .i64 start] : List Value) ++ (([.slice notices_a notices.length notices_c] : List Value) ++ (c_walks3.flatMap (cI .i64) ++ (([.slice none 0 0] : List Value) ++ ((List.replicate 15 0).flatMap (cI .i64))))))))).toArray) 102 (0, 0)), (b1, .cells #[.slice walks_a walks.length walks_c, .slice hears_a hears.length hears_c, .int .i64 houses, .int .i64 start, .slice notices_a notices.length notices_c] 26 (0, 0))] ∧ e1.sub [(1, .pointer (some ⟨b1, 0, none⟩)), (5, .pointer (some ⟨b7, 0, none⟩)), (23, .int .i64 k)] ∧ c_walks3.length = 25) ?_ ?_
     · clear r23
       refine shW_block ?_
       refine wsr (om rfl rfl (oa rfl rfl (nsr (om rfl rfl (shO_nil ?_)))))
       refine shW_block ?_
       obtain ⟨g25, r26⟩ := gd_ok h22
       refine shW_lp (fun fu2 e1 F1 L1 => ∃ (k2 : Int), Ctr 0 5 k2 fu2 ∧ ∃ (c_walks4 : List Int), round_opened_l2 walks k fu2 k2 c_walks4 = some c_walks3 ∧ F = F1 ∧ L1 = [(b7, .cells ((([.slice walks_a walks.length walks_c] : List Value) ++ (([.slice hears_a hears.length hears_c] : List Value) ++ (([.int .i64 houses] : List Value) ++ (([.int .i64 start] : List Value) ++ (([.slice notices_a notices.length notices_c] : List Value) ++ (c_walks4.flatMap (cI .i64) ++ (([.slice none 0 0] : List Value) ++ ((List.replicate 15 0).flatMap (cI .i64))))))))).toArray) 102 (0, 0)), (b1, .cells #[.slice walks_a walks.length walks_c, .slice hears_a hears.length hears_c, .int .i64 houses, .int .i64 start, .slice notices_a notices.length notices_c] 26 (0, 0))] ∧ e1.sub [(1, .pointer (some ⟨b1, 0, none⟩)), (5, .pointer (some ⟨b7, 0, none⟩)), (6, .int .i64 k), (23, .int .i64 k), (26, .int .i64 k2)] ∧ c_walks4.length = 25) _ (m0 kr ⟨_, Ctr.start _ _, c_walks2, r26, rfl, rfl, (sc rfl (sc rfl (sc rfl (sc rfl (sc rfl (sn _)))))), h11⟩) ?_
       rintro fu2 e1 _ _ ⟨k2, hk27, c_walks4, r29, rfl, rfl, he30, h24⟩
       refine shW_env _ he30 ?_
       refine wsr ?_
       refine ov (v_lssK rfl rfl) rfl ?_
       refine shO_nil (shW_seq ?_)
       refine shW_condP rfl (fun c32 => ?_) (fun c32 => ?_)
       · obtain ⟨fu2, rfl, hk33⟩ := Ctr.succ hk27 c32
         rw [round_opened_l2] at r29
         refine shW_skip (shW_seq ?_)
         refine shW_block ?_
         refine wsr (om rfl rfl (oa rfl rfl (nsr (om rfl rfl (om rfl rfl (om rfl rfl ?_))))))
         refine ov (v_nilCheck rfl) rfl ?_
         refine ov (v_fieldAddr fa_102_1 rfl) rfl ?_
         obtain ⟨g34, r35⟩ := gd_ok r29
         refine ov (v_indexA Try.underlying98 Try.sizeOf96 rfl rfl g34) rfl ?_
         obtain ⟨g36, r37⟩ := gd_ok r35
         obtain ⟨x, g38, hx39, r40⟩ := ix_ok r37
         have hq42 : (k * 5 + k2 : Int).toNat = (k : Int).toNat * 5 + (k2 : Int).toNat := by have := g34; have := g36; omega
         refine ov (v_indexA Try.underlying96 Try.sizeOf3 rfl rfl g36) rfl ?_
         obtain ⟨ws, h43, r44⟩ := bv_ok r40
         have h45 : ws.length = 25 := by rw [h43, List.length_set]; exact h24
         refine o_storeSeg (i := 0) Try.sizeOf3 rfl (by have := hq42; omega) rfl rfl rfl (st_skip (A := ([.slice walks_a walks.length walks_c] : List Value)) (k := 1) rfl (st_skip (A := ([.slice hears_a hears.length hears_c] : List Value)) (k := 1) rfl (st_skip (A := ([.int .i64 houses] : List Value)) (k := 1) rfl (st_skip (A := ([.int .i64 start] : List Value)) (k := 1) rfl (st_skip (A := ([.slice notices_a notices.length notices_c] : List Value)) (k := 1) rfl (st_here (B := ([.slice none 0 0] : List Value) ++ ((List.replicate 15 0).flatMap (cI .i64))) (st_arr (p := (k * 5 + k2 : Int).toNat) (cI_ok .i64) (u := -1) rfl h24 (by have := g38; have := h24; omega) F))))))) ?_
         refine shO_L (L' := [(b7, .cells ((([.slice walks_a walks.length walks_c] : List Value) ++ (([.slice hears_a hears.length hears_c] : List Value) ++ (([.int .i64 houses] : List Value) ++ (([.int .i64 start] : List Value) ++ (([.slice notices_a notices.length notices_c] : List Value) ++ (ws.flatMap (cI .i64) ++ (([.slice none 0 0] : List Value) ++ ((List.replicate 15 0).flatMap (cI .i64))))))))).toArray) 102 (0, 0)), (b1, .cells #[.slice walks_a walks.length walks_c, .slice hears_a hears.length hears_c, .int .i64 houses, .int .i64 start, .slice notices_a notices.length notices_c] 26 (0, 0))]) (by rw [h43]; rfl) ?_
         refine shO_nil ?_
         obtain ⟨k3, h46, r47⟩ := b1_ok r44
         refine shW_join (fun e1 F1 L1 => F = F1 ∧ L1 = [(b7, .cells ((([.slice walks_a walks.length walks_c] : List Value) ++ (([.slice hears_a hears.length hears_c] : List Value) ++ (([.int .i64 houses] : List Value) ++ (([.int .i64 start] : List Value) ++ (([.slice notices_a notices.length notices_c] : List Value) ++ (ws.flatMap (cI .i64) ++ (([.slice none 0 0] : List Value) ++ ((List.replicate 15 0).flatMap (cI .i64))))))))).toArray) 102 (0, 0)), (b1, .cells #[.slice walks_a walks.length walks_c, .slice hears_a hears.length hears_c, .int .i64 houses, .int .i64 start, .slice notices_a notices.length notices_c] 26 (0, 0))] ∧ e1.sub [(1, .pointer (some ⟨b1, 0, none⟩)), (5, .pointer (some ⟨b7, 0, none⟩)), (6, .int .i64 k), (7, .int .i64 k2), (23, .int .i64 k), (26, .int .i64 k2), (47, .bool k3)]) ?_ ?_
         · clear r47
           refine shW_region (om rfl rfl ?_)
           refine ov (v_fieldAddr fa_26_0 rfl) rfl ?_
           refine ov (v_load Try.isAgg23 rfl (Has.own 1 rfl) rfl) rfl ?_
           refine ov (v_lenS Try.underlying23 rfl) rfl ?_
           refine ov (v_lssK rfl rfl) rfl ?_
           refine om rfl rfl ?_
           by_cases c48 : k < (walks.length : Int)
           · have r49 := ite_t h46 c48
             refine shO_on (b := true) 41 rfl (Env.isT rfl c48) (om rfl rfl (shO_on (b := true) 41 rfl (Env.isT rfl c48) ?_))
             refine ov (v_fieldAddr fa_26_0 rfl) rfl ?_
             refine shO_on (b := true) 41 rfl (Env.isT rfl c48) ?_
             refine ov (v_load Try.isAgg23 rfl (Has.own 1 rfl) rfl) rfl ?_
             refine shO_on (b := true) 41 rfl (Env.isT rfl c48) ?_
             refine ov (v_lenS Try.underlying23 rfl) rfl ?_
             refine shO_on (b := true) 41 rfl (Env.isT rfl c48) ?_
             refine ov (v_lssK rfl rfl) rfl ?_
             refine ov (v_pick_t (evD_true rfl c48) rfl) rfl ?_
             refine shO_nil ?_
             obtain rfl := inj1 r49
             exact mi kr ⟨rfl, rfl, (sc rfl (sc rfl (sc rfl (sc rfl (sc rfl (sc rfl (sc rfl (sn _))))))))⟩
           have r50 := ite_f h46 c48
           refine shO_off (b' := false) 41 rfl (Env.isF rfl c48) rfl rfl (shO_off (b' := false) 41 rfl (Env.isF rfl c48) rfl rfl (shO_off (b' := false) 41 rfl (Env.isF rfl c48) rfl rfl (shO_off (b' := false) 41 rfl (Env.isF rfl c48) rfl rfl (shO_off (b' := false) 41 rfl (Env.isF rfl c48) rfl rfl ?_))))
           refine ov (v_pick_f (evD_false rfl c48) rfl) rfl ?_
           refine shO_nil ?_
           obtain rfl := inj1 r50
           exact mi kr ⟨rfl, rfl, (sc rfl (sc rfl (sc rfl (sc rfl (sc rfl (sc rfl (sc rfl (sn _))))))))⟩
         rintro e1 _ _ ⟨rfl, rfl, he51⟩
         refine shW_env _ he51 ?_
         refine shW_cond rfl (fun c52 => ?_) (fun c52 => ?_)
         · have r53 := bt r47 c52
           refine shW_drawM [(.still, 0), (.still, 1), (.still, 2), (.still, 3), (.still, 4), (.still, 5), (.still, 6), (.still, 7), (.still, 8), (.still, 9), (.still, 10), (.still, 11), (.still, 12), (.still, 13), (.still, 14), (.seq, 15)] (by kernel_rfl) (by kernel_rfl) (trivial) (by rfl) (by kernel_rfl) ?_
           refine shM_v (v := .pointer (some ⟨b7, 0, none⟩)) (ek := [(5, .pointer (some ⟨b7, 0, none⟩))]) (Ls := []) rfl rfl rfl rfl ((sc rfl (sn _))) (by kernel_rfl) sm (fun H F' L' hF' hL' => v_move rfl) ?_
           refine shM_v (v := .int .i64 k) (ek := [(6, .int .i64 k)]) (Ls := []) rfl rfl rfl rfl ((sc rfl (sn _))) (by kernel_rfl) sm (fun H F' L' hF' hL' => v_move rfl) ?_
           refine shM_v (v := .int .i64 k2) (ek := [(7, .int .i64 k2)]) (Ls := []) rfl rfl rfl rfl ((sc rfl (sn _))) (by kernel_rfl) sm (fun H F' L' hF' hL' => v_move rfl) ?_
           refine shM_v (v := .pointer (some ⟨b1, 0, none⟩)) (ek := [(1, .pointer (some ⟨b1, 0, none⟩))]) (Ls := []) rfl rfl rfl rfl ((sc rfl (sn _))) (by kernel_rfl) sm (fun H F' L' hF' hL' => v_fieldAddr fa_26_0 rfl) ?_
           refine shM_v (v := .slice walks_a walks.length walks_c) (ek := [(51, .pointer (some ⟨b1, 0, none⟩))]) (Ls := [(b1, .cells #[.slice walks_a walks.length walks_c, .slice hears_a hears.length hears_c, .int .i64 houses, .int .i64 start, .slice notices_a notices.length notices_c] 26 (0, 0))]) rfl rfl rfl rfl ((sc rfl (sn _))) (by kernel_rfl) (s0 (s1 (s2 sr))) (fun H F' L' hF' hL' => v_load Try.isAgg23 rfl ((Has.own 0 rfl).ext hF' hL') rfl) ?_
           refine shM_v (v := .int .i64 k) (ek := [(6, .int .i64 k)]) (Ls := []) rfl rfl rfl rfl ((sc rfl (sn _))) (by kernel_rfl) sm (fun H F' L' hF' hL' => v_move rfl) ?_
           obtain ⟨x2, g54, hx55, r56⟩ := ix_ok r53
           obtain ⟨b57, o58, c59, vs60, ha61, hs62, hle63, ⟨a66, c67, rfl, h68⟩, hl64, hc65⟩ := RowR.at (slE_ok (iE_ok _)) h_walks ([]) g54.1 hx55
           refine shM_v (v := .pointer (some ⟨b57, o58 + (k : Int).toNat * 1, none⟩)) (ek := [(52, .slice walks_a walks.length walks_c), (53, .int .i64 k)]) (Ls := []) rfl rfl rfl rfl ((sc rfl (sc rfl (sn _)))) (by kernel_rfl) sm (fun H F' L' hF' hL' => v_indexO Try.underlying23 Try.sizeOf30 rfl ha61 rfl g54) ?_
           refine shM_v (v := .slice a66 x2.length c67) (ek := [(54, .pointer (some ⟨b57, o58 + (k : Int).toNat * 1, none⟩))]) (Ls := []) rfl rfl rfl rfl ((sc rfl (sn _))) (by kernel_rfl) sm (fun H F' L' hF' hL' => v_load Try.isAgg30 rfl (hs62.ext hF' hL') (hc65 0 (by decide))) ?_
           refine shM_v (v := .int .i64 k2) (ek := [(7, .int .i64 k2)]) (Ls := []) rfl rfl rfl rfl ((sc rfl (sn _))) (by kernel_rfl) sm (fun H F' L' hF' hL' => v_move rfl) ?_
           obtain ⟨x3, g69, hx70, r71⟩ := ix_ok r56
           obtain ⟨b72, o73, c74, vs75, ha76, hs77, hle78, rfl, hl79, hc80⟩ := RowR.at (iE_ok _) h68 ([]) g69.1 hx70
           refine shM_v (v := .pointer (some ⟨b72, o73 + (k2 : Int).toNat * 1, none⟩)) (ek := [(55, .slice a66 x2.length c67), (56, .int .i64 k2)]) (Ls := []) rfl rfl rfl rfl ((sc rfl (sc rfl (sn _)))) (by kernel_rfl) sm (fun H F' L' hF' hL' => v_indexO Try.underlying30 Try.sizeOf3 rfl ha76 rfl g69) ?_
           refine shM_v (v := .int .i64 x3) (ek := [(57, .pointer (some ⟨b72, o73 + (k2 : Int).toNat * 1, none⟩))]) (Ls := []) rfl rfl rfl rfl ((sc rfl (sn _))) (by kernel_rfl) sm (fun H F' L' hF' hL' => v_load Try.isAgg3 rfl (hs77.ext hF' hL') (hc80 0 (by decide))) ?_
           refine shM_v (v := .pointer (some ⟨b7, 0, none⟩)) (ek := [(48, .pointer (some ⟨b7, 0, none⟩))]) (Ls := []) rfl rfl rfl rfl ((sc rfl (sn _))) (by kernel_rfl) sm (fun H F' L' hF' hL' => v_nilCheck rfl) ?_
           refine shM_v (v := .pointer (some ⟨b7, 5, none⟩)) (ek := [(59, .pointer (some ⟨b7, 0, none⟩))]) (Ls := []) rfl rfl rfl rfl ((sc rfl (sn _))) (by kernel_rfl) sm (fun H F' L' hF' hL' => v_fieldAddr fa_102_1 rfl) ?_
           obtain ⟨g81, r82⟩ := gd_ok r71
           refine shM_v (v := .pointer (some ⟨b7, 5 + (k : Int).toNat * 5, none⟩)) (ek := [(49, .int .i64 k), (60, .pointer (some ⟨b7, 5, none⟩))]) (Ls := []) rfl rfl rfl rfl ((sc rfl (sc rfl (sn _)))) (by kernel_rfl) sm (fun H F' L' hF' hL' => v_indexA Try.underlying98 Try.sizeOf96 rfl rfl g81) ?_
           obtain ⟨g83, r84⟩ := gd_ok r82
           obtain ⟨x4, g85, hx86, r87⟩ := ix_ok r84
           have hq89 : (k * 5 + k2 : Int).toNat = (k : Int).toNat * 5 + (k2 : Int).toNat := by have := g81; have := g83; omega
           refine shM_v (v := .pointer (some ⟨b7, 5 + (k : Int).toNat * 5 + (k2 : Int).toNat * 1, none⟩)) (ek := [(50, .int .i64 k2), (61, .pointer (some ⟨b7, 5 + (k : Int).toNat * 5, none⟩))]) (Ls := []) rfl rfl rfl rfl ((sc rfl (sc rfl (sn _)))) (by kernel_rfl) sm (fun H F' L' hF' hL' => v_indexA Try.underlying96 Try.sizeOf3 rfl rfl g83) ?_
           refine ⟨_, [(58, .int .i64 x3), (62, .pointer (some ⟨b7, 5 + (k : Int).toNat * 5 + (k2 : Int).toNat * 1, none⟩))], rfl, rfl, (sc rfl (sc rfl (sn _))), by kernel_rfl, ?_⟩; intro H
           obtain ⟨ws2, h90, r91⟩ := bv_ok r87
           have h92 : ws2.length = 25 := by rw [h90, List.length_set]; exact h45
           refine o_storeSeg (i := 0) Try.sizeOf3 rfl (by have := hq89; omega) rfl rfl rfl (st_skip (A := ([.slice walks_a walks.length walks_c] : List Value)) (k := 1) rfl (st_skip (A := ([.slice hears_a hears.length hears_c] : List Value)) (k := 1) rfl (st_skip (A := ([.int .i64 houses] : List Value)) (k := 1) rfl (st_skip (A := ([.int .i64 start] : List Value)) (k := 1) rfl (st_skip (A := ([.slice notices_a notices.length notices_c] : List Value)) (k := 1) rfl (st_here (B := ([.slice none 0 0] : List Value) ++ ((List.replicate 15 0).flatMap (cI .i64))) (st_arr (p := (k * 5 + k2 : Int).toNat) (cI_ok .i64) (u := x3) rfl h45 (by have := g85; have := h45; omega) F))))))) ?_
           refine shO_L (L' := [(b7, .cells ((([.slice walks_a walks.length walks_c] : List Value) ++ (([.slice hears_a hears.length hears_c] : List Value) ++ (([.int .i64 houses] : List Value) ++ (([.int .i64 start] : List Value) ++ (([.slice notices_a notices.length notices_c] : List Value) ++ (ws2.flatMap (cI .i64) ++ (([.slice none 0 0] : List Value) ++ ((List.replicate 15 0).flatMap (cI .i64))))))))).toArray) 102 (0, 0)), (b1, .cells #[.slice walks_a walks.length walks_c, .slice hears_a hears.length hears_c, .int .i64 houses, .int .i64 start, .slice notices_a notices.length notices_c] 26 (0, 0))]) (by rw [h90]; rfl) ?_
           refine shO_nil ⟨undef, rfl, FExt.refl _, [], by kernel_rfl, .inl (.inl rfl), (fun _ h => absurd h List.not_mem_nil), ?_⟩
           refine shM_nil ?_
           refine inBlock_n (id := 3) (shW_region ?_)
           refine ov (v_add rfl rfl (Ctr.r64 hk27 c32 g25)) rfl ?_
           refine om rfl rfl (shO_nil ?_)
           exact le kr ⟨_, hk33, ws2, r91, rfl, rfl, (sc rfl (sc rfl (sc rfl (sc rfl (sc rfl (sn _)))))), h92⟩
         have r93 := bf r47 c52
         refine shW_skip (inBlock_n (id := 3) (shW_region ?_))
         refine ov (v_add rfl rfl (Ctr.r64 hk27 c32 g25)) rfl ?_
         refine om rfl rfl (shO_nil ?_)
         exact le kr ⟨_, hk33, ws, r93, rfl, rfl, (sc rfl (sc rfl (sc rfl (sc rfl (sc rfl (sn _)))))), h45⟩
       obtain rfl := Ctr.zero hk27 c32
       rw [round_opened_l2] at r29
       refine shW_exit (andThen_exit (andThen_exit ?_))
       refine inBlock_exit ?_
       refine inBlock_n (id := 1) ?_
       obtain rfl := inj1 r29
       exact mi kr ⟨rfl, rfl, (sc rfl (sc rfl (sc rfl (sn _)))), h24⟩
     rintro e1 _ _ ⟨rfl, rfl, he94, h21⟩
     refine shW_env _ he94 ?_
     refine shW_region ?_
     refine ov (v_add rfl rfl (Ctr.r64 hk14 c19 g12)) rfl ?_
     refine om rfl rfl (shO_nil ?_)
     exact le kr ⟨_, hk20, c_walks3, r23, rfl, rfl, (sc rfl (sc rfl (sc rfl (sn _)))), h21⟩
   obtain rfl := Ctr.zero hk14 c19
   rw [round_opened_l1] at r16
   refine shW_exit (andThen_exit (andThen_exit ?_))
   refine inBlock_exit ?_
   obtain rfl := inj1 r16
   exact mi kr ⟨rfl, rfl, (sc rfl (sc rfl (sn _))), h11⟩
 rintro e1 _ _ ⟨rfl, rfl, he95, h8⟩
 refine shW_env _ he95 ?_
 obtain ⟨c_walks5, h97, r98⟩ := b1_ok r10
 refine shW_join (fun e1 F1 L1 => FExt F F1 ∧ L1 = [(b7, .cells ((([.slice walks_a walks.length walks_c] : List Value) ++ (([.slice hears_a hears.length hears_c] : List Value) ++ (([.int .i64 houses] : List Value) ++ (([.int .i64 start] : List Value) ++ (([.slice notices_a notices.length notices_c] : List Value) ++ (c_walks5.flatMap (cI .i64) ++ (([.slice none 0 0] : List Value) ++ ((List.replicate 15 0).flatMap (cI .i64))))))))).toArray) 102 (0, 0)), (b1, .cells #[.slice walks_a walks.length walks_c, .slice hears_a hears.length hears_c, .int .i64 houses, .int .i64 start, .slice notices_a notices.length notices_c] 26 (0, 0))] ∧ e1.sub [(1, .pointer (some ⟨b1, 0, none⟩)), (5, .pointer (some ⟨b7, 0, none⟩))] ∧ c_walks5.length = 25) ?_ ?_
 · clear r98
   refine wsr (om rfl rfl ?_)
   refine ov (v_nilCheck rfl) rfl ?_
   refine ov (v_fieldAddr fa_102_1 rfl) rfl ?_
   refine ov (v_loadA (cs := arr (cI .i64) c_walks) Try.isAgg98 Try.sizeOf98 rfl (Has.own 0 rfl) (li_le (li_skip (A := ([.slice walks_a walks.length walks_c] : List Value)) (k := 1) (o := 4) rfl (li_skip (A := ([.slice hears_a hears.length hears_c] : List Value)) (k := 1) (o := 3) rfl (li_skip (A := ([.int .i64 houses] : List Value)) (k := 1) (o := 2) rfl (li_skip (A := ([.int .i64 start] : List Value)) (k := 1) (o := 1) rfl (li_skip (A := ([.slice notices_a notices.length notices_c] : List Value)) (k := 1) (o := 0) rfl (li_here (B := ([.slice none 0 0] : List Value) ++ ((List.replicate 15 0).flatMap (cI .i64))) (lfl (cI_ok .i64) h8)))))))) (li_ext (lfl (cI_ok .i64) h8) (li_skip (A := ([.slice walks_a walks.length walks_c] : List Value)) (k := 1) (o := 4) rfl (li_skip (A := ([.slice hears_a hears.length hears_c] : List Value)) (k := 1) (o := 3) rfl (li_skip (A := ([.int .i64 houses] : List Value)) (k := 1) (o := 2) rfl (li_skip (A := ([.int .i64 start] : List Value)) (k := 1) (o := 1) rfl (li_skip (A := ([.slice notices_a notices.length notices_c] : List Value)) (k := 1) (o := 0) rfl (li_here (B := ([.slice none 0 0] : List Value) ++ ((List.replicate 15 0).flatMap (cI .i64))) (lfl (cI_ok .i64) h8))))))))) rfl ?_
   obtain ⟨a, h99, r100⟩ := b1_ok h97
   refine o_call0 rfl Try.call52 rfl rfl rfl (round_walks_through_w h8 h99) ?_; rintro _ F101 _ hF102 hn103 ⟨rfl, rfl, h105⟩
   refine shO_L (ln rfl) ?_
   refine o_alloc rfl Try.zeroValue98 ?_; intro b106 hb106
   refine shO_L (L' := [(b106, .cells (arr (cI .i64) (List.replicate 25 0)) 98 (0, 0)), (b7, .cells ((([.slice walks_a walks.length walks_c] : List Value) ++ (([.slice hears_a hears.length hears_c] : List Value) ++ (([.int .i64 houses] : List Value) ++ (([.int .i64 start] : List Value) ++ (([.slice notices_a notices.length notices_c] : List Value) ++ (c_walks.flatMap (cI .i64) ++ (([.slice none 0 0] : List Value) ++ ((List.replicate 15 0).flatMap (cI .i64))))))))).toArray) 102 (0, 0)), (b1, .cells #[.slice walks_a walks.length walks_c, .slice hears_a hears.length hears_c, .int .i64 houses, .int .i64 start, .slice notices_a notices.length notices_c] 26 (0, 0))]) rfl ?_
   refine o_storeW (i := 0) Try.sizeOf98 rfl rfl rfl (arr_sz (cI_ok .i64) List.length_replicate) (arr_sz (cI_ok .i64) h105) (arr_one (cI_ok .i64)) ?_
   refine shO_L (L' := [(b106, .cells (arr (cI .i64) a) 98 (0, 0)), (b7, .cells ((([.slice walks_a walks.length walks_c] : List Value) ++ (([.slice hears_a hears.length hears_c] : List Value) ++ (([.int .i64 houses] : List Value) ++ (([.int .i64 start] : List Value) ++ (([.slice notices_a notices.length notices_c] : List Value) ++ (c_walks.flatMap (cI .i64) ++ (([.slice none 0 0] : List Value) ++ ((List.replicate 15 0).flatMap (cI .i64))))))))).toArray) 102 (0, 0)), (b1, .cells #[.slice walks_a walks.length walks_c, .slice hears_a hears.length hears_c, .int .i64 houses, .int .i64 start, .slice notices_a notices.length notices_c] 26 (0, 0))]) rfl ?_
   refine shO_nil ?_
   refine shW_block ?_
   refine shW_lp (fun fu3 e1 F1 L1 => ∃ (c_walks6 : List Int) (next_ : List Int) (b108 : Nat), round_opened_l3 fu3 c_walks6 next_ = some c_walks5 ∧ FExt F101 F1 ∧ L1 = [(b108, .cells (arr (cI .i64) next_) 98 (0, 0)), (b7, .cells ((([.slice walks_a walks.length walks_c] : List Value) ++ (([.slice hears_a hears.length hears_c] : List Value) ++ (([.int .i64 houses] : List Value) ++ (([.int .i64 start] : List Value) ++ (([.slice notices_a notices.length notices_c] : List Value) ++ (c_walks6.flatMap (cI .i64) ++ (([.slice none 0 0] : List Value) ++ ((List.replicate 15 0).flatMap (cI .i64))))))))).toArray) 102 (0, 0)), (b1, .cells #[.slice walks_a walks.length walks_c, .slice hears_a hears.length hears_c, .int .i64 houses, .int .i64 start, .slice notices_a notices.length notices_c] 26 (0, 0))] ∧ e1.sub [(1, .pointer (some ⟨b1, 0, none⟩)), (5, .pointer (some ⟨b7, 0, none⟩)), (8, .pointer (some ⟨b108, 0, none⟩))] ∧ c_walks6.length = 25 ∧ K.w0.heap.size ≤ b108 ∧ next_.length = 25) FU (m0 kr ⟨c_walks, a, b106, r100, FExt.refl _, rfl, (sc rfl (sc rfl (sc rfl (sn _)))), h8, hb106, h105⟩) ?_
   rintro fu3 e1 F115 _ ⟨c_walks6, next_, b108, r113, hF116, rfl, he114, h107, hb109, h110⟩
   refine shW_env _ he114 ?_
   rcases fu3 with _ | fu3
   · rw [round_opened_l3] at r113; cases r113
   rw [round_opened_l3] at r113
   refine shW_seq ?_
   refine wsd (by kernel_rfl) (by kernel_rfl) (by kernel_rfl) ?_
   refine qv (v_loadW Try.isAgg98 Try.sizeOf98 rfl (Has.own 0 rfl) (arr_sz (cI_ok .i64) h110)) rfl ?_
   refine qm rfl rfl ?_
   refine qv (v_nilCheck rfl) rfl ?_
   refine qv (v_fieldAddr fa_102_1 rfl) rfl ?_
   refine qv (v_loadA (cs := arr (cI .i64) c_walks6) Try.isAgg98 Try.sizeOf98 rfl (Has.own 1 rfl) (li_le (li_skip (A := ([.slice walks_a walks.length walks_c] : List Value)) (k := 1) (o := 4) rfl (li_skip (A := ([.slice hears_a hears.length hears_c] : List Value)) (k := 1) (o := 3) rfl (li_skip (A := ([.int .i64 houses] : List Value)) (k := 1) (o := 2) rfl (li_skip (A := ([.int .i64 start] : List Value)) (k := 1) (o := 1) rfl (li_skip (A := ([.slice notices_a notices.length notices_c] : List Value)) (k := 1) (o := 0) rfl (li_here (B := ([.slice none 0 0] : List Value) ++ ((List.replicate 15 0).flatMap (cI .i64))) (lfl (cI_ok .i64) h107)))))))) (li_ext (lfl (cI_ok .i64) h107) (li_skip (A := ([.slice walks_a walks.length walks_c] : List Value)) (k := 1) (o := 4) rfl (li_skip (A := ([.slice hears_a hears.length hears_c] : List Value)) (k := 1) (o := 3) rfl (li_skip (A := ([.int .i64 houses] : List Value)) (k := 1) (o := 2) rfl (li_skip (A := ([.int .i64 start] : List Value)) (k := 1) (o := 1) rfl (li_skip (A := ([.slice notices_a notices.length notices_c] : List Value)) (k := 1) (o := 0) rfl (li_here (B := ([.slice none 0 0] : List Value) ++ ((List.replicate 15 0).flatMap (cI .i64))) (lfl (cI_ok .i64) h107))))))))) rfl ?_
   obtain ⟨g117, r118⟩ := gd_ok r113
   obtain ⟨g119, r120⟩ := gd_ok r118
   refine qv (v_neA (eqgn_98 _ _ _ _) (fun w => neb_deep (eqd_98 next_ c_walks6 ⟨h110, g117⟩ ⟨h107, g119⟩ w)) rfl rfl) rfl ?_
   refine shQ_nil ?_
   refine shW_condP rfl (fun c121 => ?_) (fun c121 => ?_)
   · have r122 := ite_t r120 c121
     refine shW_skip (shW_seq ?_)
     refine shW_block ?_
     refine shW_region (om rfl rfl ?_)
     refine ov (v_loadW Try.isAgg98 Try.sizeOf98 rfl (Has.own 0 rfl) (arr_sz (cI_ok .i64) h110)) rfl ?_
     refine ov (v_nilCheck rfl) rfl ?_
     refine ov (v_fieldAddr fa_102_1 rfl) rfl ?_
     refine o_storePart (i := 1) Try.sizeOf98 rfl rfl (lz (lfl (cI_ok .i64) h110)) (flat_one (cI_ok .i64) _) rfl (pt_skip (A := ([.slice walks_a walks.length walks_c] : List Value)) (k := 1) (o := 4) rfl (pt_skip (A := ([.slice hears_a hears.length hears_c] : List Value)) (k := 1) (o := 3) rfl (pt_skip (A := ([.int .i64 houses] : List Value)) (k := 1) (o := 2) rfl (pt_skip (A := ([.int .i64 start] : List Value)) (k := 1) (o := 1) rfl (pt_skip (A := ([.slice notices_a notices.length notices_c] : List Value)) (k := 1) (o := 0) rfl (pt_here (B := ([.slice none 0 0] : List Value) ++ ((List.replicate 15 0).flatMap (cI .i64))) (lfl (cI_ok .i64) h107))))))) ?_
     refine shO_L (L' := [(b108, .cells (arr (cI .i64) next_) 98 (0, 0)), (b7, .cells ((([.slice walks_a walks.length walks_c] : List Value) ++ (([.slice hears_a hears.length hears_c] : List Value) ++ (([.int .i64 houses] : List Value) ++ (([.int .i64 start] : List Value) ++ (([.slice notices_a notices.length notices_c] : List Value) ++ (next_.flatMap (cI .i64) ++ (([.slice none 0 0] : List Value) ++ ((List.replicate 15 0).flatMap (cI .i64))))))))).toArray) 102 (0, 0)), (b1, .cells #[.slice walks_a walks.length walks_c, .slice hears_a hears.length hears_c, .int .i64 houses, .int .i64 start, .slice notices_a notices.length notices_c] 26 (0, 0))]) rfl ?_
     refine shO_nil (inBlock_n (id := 5) (shW_seq (wsr ?_)))
     refine ov (v_loadW Try.isAgg98 Try.sizeOf98 rfl (Has.own 0 rfl) (arr_sz (cI_ok .i64) h110)) rfl ?_
     refine shO_nil (shW_region ?_)
     refine o_alloc rfl Try.zeroValue98 ?_; intro b123 hb123
     refine shO_L (L' := [(b123, .cells (arr (cI .i64) (List.replicate 25 0)) 98 (0, 0)), (b108, .cells (arr (cI .i64) next_) 98 (0, 0)), (b7, .cells ((([.slice walks_a walks.length walks_c] : List Value) ++ (([.slice hears_a hears.length hears_c] : List Value) ++ (([.int .i64 houses] : List Value) ++ (([.int .i64 start] : List Value) ++ (([.slice notices_a notices.length notices_c] : List Value) ++ (next_.flatMap (cI .i64) ++ (([.slice none 0 0] : List Value) ++ ((List.replicate 15 0).flatMap (cI .i64))))))))).toArray) 102 (0, 0)), (b1, .cells #[.slice walks_a walks.length walks_c, .slice hears_a hears.length hears_c, .int .i64 houses, .int .i64 start, .slice notices_a notices.length notices_c] 26 (0, 0))]) rfl ?_
     refine o_storeW (i := 0) Try.sizeOf98 rfl rfl rfl (arr_sz (cI_ok .i64) List.length_replicate) (arr_sz (cI_ok .i64) h110) (arr_one (cI_ok .i64)) ?_
     refine shO_L (L' := [(b123, .cells (arr (cI .i64) next_) 98 (0, 0)), (b108, .cells (arr (cI .i64) next_) 98 (0, 0)), (b7, .cells ((([.slice walks_a walks.length walks_c] : List Value) ++ (([.slice hears_a hears.length hears_c] : List Value) ++ (([.int .i64 houses] : List Value) ++ (([.int .i64 start] : List Value) ++ (([.slice notices_a notices.length notices_c] : List Value) ++ (next_.flatMap (cI .i64) ++ (([.slice none 0 0] : List Value) ++ ((List.replicate 15 0).flatMap (cI .i64))))))))).toArray) 102 (0, 0)), (b1, .cells #[.slice walks_a walks.length walks_c, .slice hears_a hears.length hears_c, .int .i64 houses, .int .i64 start, .slice notices_a notices.length notices_c] 26 (0, 0))]) rfl ?_
     refine shO_nil (shW_region ?_)
     refine ov (v_loadW Try.isAgg98 Try.sizeOf98 rfl (Has.own 0 rfl) (arr_sz (cI_ok .i64) h110)) rfl ?_
     obtain ⟨a2, h124, r125⟩ := b1_ok r122
     refine o_call0 rfl Try.call52 rfl rfl rfl (round_walks_through_w h110 h124) ?_; rintro _ F126 _ hF127 hn128 ⟨rfl, rfl, h130⟩
     refine shO_L (ln rfl) ?_
     refine o_storeW (i := 0) Try.sizeOf98 rfl rfl rfl (arr_sz (cI_ok .i64) h110) (arr_sz (cI_ok .i64) h130) (arr_one (cI_ok .i64)) ?_
     refine shO_L (L' := [(b123, .cells (arr (cI .i64) a2) 98 (0, 0)), (b108, .cells (arr (cI .i64) next_) 98 (0, 0)), (b7, .cells ((([.slice walks_a walks.length walks_c] : List Value) ++ (([.slice hears_a hears.length hears_c] : List Value) ++ (([.int .i64 houses] : List Value) ++ (([.int .i64 start] : List Value) ++ (([.slice notices_a notices.length notices_c] : List Value) ++ (next_.flatMap (cI .i64) ++ (([.slice none 0 0] : List Value) ++ ((List.replicate 15 0).flatMap (cI .i64))))))))).toArray) 102 (0, 0)), (b1, .cells #[.slice walks_a walks.length walks_c, .slice hears_a hears.length hears_c, .int .i64 houses, .int .i64 start, .slice notices_a notices.length notices_c] 26 (0, 0))]) rfl ?_
     refine shO_nil ?_
     exact le (kc (kd kr)) ⟨next_, a2, b123, r125, (hF116.trans hF127), rfl, (sc rfl (sc rfl (sc rfl (sn _)))), h110, hb123, h130⟩
   have r131 := ite_f r120 c121
   refine shW_exit (andThen_exit (andThen_exit ?_))
   refine inBlock_exit ?_
   obtain rfl := inj1 r131
   exact mi (kd kr) ⟨(hF102.trans hF116), rfl, (sc rfl (sc rfl (sn _))), h107⟩
 rintro e1 F133 _ ⟨hF134, rfl, he132, h96⟩
 refine shW_env _ he132 ?_
 replace h_walks := h_walks.mono (slE_ok (iE_ok _)) hF134
 replace h_hears := h_hears.mono (slE_ok (iE_ok _)) hF134
 replace h_notices := h_notices.mono (prE_ok (slE_ok (iE_ok _)) (prE_ok (iE_ok _) (iE_ok _))) hF134
 obtain ⟨c_pairs, c_hit, h142, r143⟩ := b2_ok r98
 refine shW_join (fun e1 F1 L1 => ∃ (a135 : Option Addr) (n139 : Nat) (c136 : Nat) (Lb137 : LH), FExt F133 F1 ∧ L1 = ((b7, .cells ((([.slice walks_a walks.length walks_c] : List Value) ++ (([.slice hears_a hears.length hears_c] : List Value) ++ (([.int .i64 houses] : List Value) ++ (([.int .i64 start] : List Value) ++ (([.slice notices_a notices.length notices_c] : List Value) ++ (c_walks5.flatMap (cI .i64) ++ (([.slice a135 n139 c136] : List Value) ++ (c_hit.flatMap (cI .i64))))))))).toArray) 102 (0, 0)) :: (Lb137 ++ [])) ∧ e1.sub [(5, .pointer (some ⟨b7, 0, none⟩))] ∧ SlR K.w0.heap.size 54 2 (prE (iE .i64) (iE .i64)) F1 a135 n139 c136 c_pairs Lb137 ∧ c_hit.length = 15) ?_ ?_
 · clear r143
   refine wsr ?_
   refine ov (v_fieldAddr fa_26_4 rfl) rfl ?_
   refine ov (v_load Try.isAgg24 rfl (Has.own 1 rfl) rfl) rfl ?_
   refine ov (v_lenS Try.underlying24 rfl) rfl ?_
   refine om rfl rfl (shO_nil ?_)
   refine shW_block ?_
   refine shW_lp (fun fu4 e1 F1 L1 => ∃ (tl : List ((List Int) × Int × Int)) (k4 : Int), tl.length = fu4 ∧ Lst notices k4 tl ∧ ∃ (c_pairs2 : List (Int × Int)) (c_hit2 : List Int) (a144 : Option Addr) (n148 : Nat) (c145 : Nat) (Lb146 : LH), round_opened_l4 hears tl k4 c_pairs2 c_hit2 = some (c_pairs, c_hit) ∧ FExt F133 F1 ∧ L1 = ((b7, .cells ((([.slice walks_a walks.length walks_c] : List Value) ++ (([.slice hears_a hears.length hears_c] : List Value) ++ (([.int .i64 houses] : List Value) ++ (([.int .i64 start] : List Value) ++ (([.slice notices_a notices.length notices_c] : List Value) ++ (c_walks5.flatMap (cI .i64) ++ (([.slice a144 n148 c145] : List Value) ++ (c_hit2.flatMap (cI .i64))))))))).toArray) 102 (0, 0)) :: ((b1, .cells #[.slice walks_a walks.length walks_c, .slice hears_a hears.length hears_c, .int .i64 houses, .int .i64 start, .slice notices_a notices.length notices_c] 26 (0, 0)) :: (Lb146 ++ []))) ∧ e1.sub [(1, .pointer (some ⟨b1, 0, none⟩)), (5, .pointer (some ⟨b7, 0, none⟩)), (84, .slice notices_a notices.length notices_c), (85, .int .i64 (notices.length : Int)), (86, .int .i64 k4)] ∧ SlR K.w0.heap.size 54 2 (prE (iE .i64) (iE .i64)) F1 a144 n148 c145 c_pairs2 Lb146 ∧ c_hit2.length = 15) _ (m0 (kc (kc (ke kr))) ⟨_, _, rfl, Lst.start _, [], List.replicate 15 0, none, 0, 0, [], h142, FExt.refl _, rfl, (sc rfl (sc rfl (sc rfl (sc rfl (sc rfl (sn _)))))), SlR.nil _ _ _ _ _, List.length_replicate⟩) ?_
   rintro fu4 e1 F155 _ ⟨tl, k4, hn152, hk151, c_pairs2, c_hit2, a144, n148, c145, Lb146, r153, hF156, rfl, he154, hz147, h150⟩
   refine shW_env _ he154 ?_
   replace h_hears := h_hears.mono (slE_ok (iE_ok _)) hF156
   replace h_notices := h_notices.mono (prE_ok (slE_ok (iE_ok _)) (prE_ok (iE_ok _) (iE_ok _))) hF156
   refine wsr ?_
   refine ov (v_lssK rfl rfl) rfl ?_
   refine shO_nil (shW_seq ?_)
   refine shW_condP rfl (fun c158 => ?_) (fun c158 => ?_)
   · obtain ⟨x5, tl2, rfl, hx160, g161, hk159⟩ := Lst.succ hk151 c158
     rw [round_opened_l4] at r153
     refine shW_skip ?_
     obtain ⟨c_pairs3, c_hit3, h169, r170⟩ := b2_ok r153
     refine shW_join (fun e1 F1 L1 => ∃ (a162 : Option Addr) (n166 : Nat) (c163 : Nat) (Lb164 : LH), FExt F155 F1 ∧ L1 = ((b7, .cells ((([.slice walks_a walks.length walks_c] : List Value) ++ (([.slice hears_a hears.length hears_c] : List Value) ++ (([.int .i64 houses] : List Value) ++ (([.int .i64 start] : List Value) ++ (([.slice notices_a notices.length notices_c] : List Value) ++ (c_walks5.flatMap (cI .i64) ++ (([.slice a162 n166 c163] : List Value) ++ (c_hit3.flatMap (cI .i64))))))))).toArray) 102 (0, 0)) :: ((b1, .cells #[.slice walks_a walks.length walks_c, .slice hears_a hears.length hears_c, .int .i64 houses, .int .i64 start, .slice notices_a notices.length notices_c] 26 (0, 0)) :: (Lb164 ++ []))) ∧ e1.sub [(1, .pointer (some ⟨b1, 0, none⟩)), (5, .pointer (some ⟨b7, 0, none⟩)), (84, .slice notices_a notices.length notices_c), (85, .int .i64 (notices.length : Int)), (86, .int .i64 k4)] ∧ SlR K.w0.heap.size 54 2 (prE (iE .i64) (iE .i64)) F1 a162 n166 c163 c_pairs3 Lb164 ∧ c_hit3.length = 15) ?_ ?_
     · clear r170
       refine shW_block ?_
       refine wsr (om rfl rfl ?_)
       obtain ⟨b171, o172, c173, vs174, ha175, hs176, hle177, ⟨_, _, rfl, ⟨a180, c181, rfl, h182⟩, ⟨_, _, rfl, rfl, rfl⟩⟩, hl178, hc179⟩ := RowR.at (prE_ok (slE_ok (iE_ok _)) (prE_ok (iE_ok _) (iE_ok _))) h_notices ((b7, .cells ((([.slice walks_a walks.length walks_c] : List Value) ++ (([.slice hears_a hears.length hears_c] : List Value) ++ (([.int .i64 houses] : List Value) ++ (([.int .i64 start] : List Value) ++ (([.slice notices_a notices.length notices_c] : List Value) ++ (c_walks5.flatMap (cI .i64) ++ (([.slice a144 n148 c145] : List Value) ++ (c_hit2.flatMap (cI .i64))))))))).toArray) 102 (0, 0)) :: ((b1, .cells #[.slice walks_a walks.length walks_c, .slice hears_a hears.length hears_c, .int .i64 houses, .int .i64 start, .slice notices_a notices.length notices_c] 26 (0, 0)) :: (Lb146 ++ []))) g161.1 hx160
       refine ov (v_indexO Try.underlying24 Try.sizeOf39 rfl ha175 rfl g161) rfl ?_
       refine ov (v_loadA (cs := #[.slice a180 x5.1.length c181, .int .i64 x5.2.1, .int .i64 x5.2.2]) Try.isAgg39 Try.sizeOf39 rfl hs176 hle177 (extract_cells hle177 hl178 hc179)) rfl ?_
       refine o_alloc rfl Try.zeroValue39 ?_; intro b183 hb183
       refine oa rfl rfl ?_
       refine o_storeA (i := 0) Try.sizeOf39 rfl rfl rfl (by simp [Value.oneCell']) rfl (nbL rfl) ?_
       refine shO_L (L' := (b183, .cells #[.slice a180 x5.1.length c181, .int .i64 x5.2.1, .int .i64 x5.2.2] 39 (0, 0)) :: ((b7, .cells ((([.slice walks_a walks.length walks_c] : List Value) ++ (([.slice hears_a hears.length hears_c] : List Value) ++ (([.int .i64 houses] : List Value) ++ (([.int .i64 start] : List Value) ++ (([.slice notices_a notices.length notices_c] : List Value) ++ (c_walks5.flatMap (cI .i64) ++ (([.slice a144 n148 c145] : List Value) ++ (c_hit2.flatMap (cI .i64))))))))).toArray) 102 (0, 0)) :: ((b1, .cells #[.slice walks_a walks.length walks_c, .slice hears_a hears.length hears_c, .int .i64 houses, .int .i64 start, .slice notices_a notices.length notices_c] 26 (0, 0)) :: (Lb146 ++ [])))) rfl ?_
       refine nsr ?_
       refine ov (v_fieldAddr fa_39_0 rfl) rfl ?_
       refine ov (v_load Try.isAgg30 rfl (Has.own 0 rfl) rfl) rfl ?_
       obtain ⟨y, h184, r185⟩ := b1_ok h169
       refine o_call0 rfl Try.call54 rfl rfl rfl (slices_Values_int_int_w h182 h184) ?_; rintro _ F186 _ hF187 hn188 ⟨cp190, rfl, rfl, hit191⟩
       replace h_hears := h_hears.mono (slE_ok (iE_ok _)) hF187
       replace hz147 := hz147.mono (prE_ok (iE_ok _) (iE_ok _)) hF187
       refine shO_L (ln rfl) ?_
       obtain ⟨l, h192, r193⟩ := b1_ok r185
       refine o_call0 rfl Try.call53 rfl rfl rfl (slices_Sorted_int_w Try.call76 hit191 h192) ?_; rintro _ F194 _ hF195 hn196 ⟨a198, n202, c199, Lb200, rfl, rfl, hz201⟩
       replace h_hears := h_hears.mono (slE_ok (iE_ok _)) hF195
       replace hz147 := hz147.mono (prE_ok (iE_ok _) (iE_ok _)) hF195
       replace hz201 := hz201.new fun p hp => hn196 p (by simp [hp])
       refine shO_L (lp (ln rfl)) ?_
       refine kO (kf (fS fO) (kf (fS fO) (kf (fS fO) kr))) ?_
       refine ov ((v_lenS Try.underlying30 rfl).i (SlR.lenI hz201)) rfl ?_
       refine om rfl rfl (shO_nil ?_)
       refine shW_block ?_
       refine kW (kd kr) ?_
       refine shW_lp (fun fu5 e1 F1 L1 => ∃ (tl3 : List Int) (k5 : Int), tl3.length = fu5 ∧ Lst l k5 tl3 ∧ ∃ (c_pairs4 : List (Int × Int)) (c_hit4 : List Int) (a204 : Option Addr) (n208 : Nat) (c205 : Nat) (Lb206 : LH), round_opened_l5 hears k4 tl3 c_pairs4 c_hit4 = some (c_pairs3, c_hit3) ∧ F194 = F1 ∧ L1 = ((b7, .cells ((([.slice walks_a walks.length walks_c] : List Value) ++ (([.slice hears_a hears.length hears_c] : List Value) ++ (([.int .i64 houses] : List Value) ++ (([.int .i64 start] : List Value) ++ (([.slice notices_a notices.length notices_c] : List Value) ++ (c_walks5.flatMap (cI .i64) ++ (([.slice a204 n208 c205] : List Value) ++ (c_hit4.flatMap (cI .i64))))))))).toArray) 102 (0, 0)) :: ((b1, .cells #[.slice walks_a walks.length walks_c, .slice hears_a hears.length hears_c, .int .i64 houses, .int .i64 start, .slice notices_a notices.length notices_c] 26 (0, 0)) :: (Lb206 ++ (Lb200 ++ [])))) ∧ e1.sub [(1, .pointer (some ⟨b1, 0, none⟩)), (5, .pointer (some ⟨b7, 0, none⟩)), (9, .int .i64 k4), (84, .slice notices_a notices.length notices_c), (85, .int .i64 (notices.length : Int)), (86, .int .i64 k4), (94, .slice a198 n202 c199), (95, .int .i64 (l.length : Int)), (96, .int .i64 k5)] ∧ SlR K.w0.heap.size 54 2 (prE (iE .i64) (iE .i64)) F1 a204 n208 c205 c_pairs4 Lb206 ∧ c_hit4.length = 15) _ (m0 (kc (kc (kg (fS fP) kr))) ⟨_, _, rfl, Lst.start _, c_pairs2, c_hit2, a144, n148, c145, Lb146, r193, rfl, rfl, (sc rfl (sc rfl (sc rfl (sc rfl (sc rfl (sc rfl (sc rfl (sc rfl (sc rfl (sn _)))))))))), hz147, h150⟩) ?_
       rintro fu5 e1 _ _ ⟨tl3, k5, hn212, hk211, c_pairs4, c_hit4, a204, n208, c205, Lb206, r213, rfl, rfl, he214, hz207, h210⟩
       refine shW_env _ he214 ?_
       refine wsr ?_
       refine ov (v_lssK rfl rfl) rfl ?_
       refine shO_nil (shW_seq ?_)
       refine shW_condP rfl (fun c216 => ?_) (fun c216 => ?_)
       · obtain ⟨x6, tl4, rfl, hx218, g219, hk217⟩ := Lst.succ hk211 c216
         rw [round_opened_l5] at r213
         refine shW_skip ?_
         obtain ⟨c_pairs5, c_hit5, h227, r228⟩ := b2_ok r213
         refine shW_join (fun e1 F1 L1 => ∃ (a220 : Option Addr) (n224 : Nat) (c221 : Nat) (Lb222 : LH), F194 = F1 ∧ L1 = ((b7, .cells ((([.slice walks_a walks.length walks_c] : List Value) ++ (([.slice hears_a hears.length hears_c] : List Value) ++ (([.int .i64 houses] : List Value) ++ (([.int .i64 start] : List Value) ++ (([.slice notices_a notices.length notices_c] : List Value) ++ (c_walks5.flatMap (cI .i64) ++ (([.slice a220 n224 c221] : List Value) ++ (c_hit5.flatMap (cI .i64))))))))).toArray) 102 (0, 0)) :: ((b1, .cells #[.slice walks_a walks.length walks_c, .slice hears_a hears.length hears_c, .int .i64 houses, .int .i64 start, .slice notices_a notices.length notices_c] 26 (0, 0)) :: (Lb222 ++ (Lb200 ++ [])))) ∧ e1.sub [(1, .pointer (some ⟨b1, 0, none⟩)), (5, .pointer (some ⟨b7, 0, none⟩)), (9, .int .i64 k4), (84, .slice notices_a notices.length notices_c), (85, .int .i64 (notices.length : Int)), (86, .int .i64 k4), (94, .slice a198 n202 c199), (95, .int .i64 (l.length : Int)), (96, .int .i64 k5)] ∧ SlR K.w0.heap.size 54 2 (prE (iE .i64) (iE .i64)) F1 a220 n224 c221 c_pairs5 Lb222 ∧ c_hit5.length = 15) ?_ ?_
         · clear r228
           refine shW_block ?_
           refine wsr ?_
           obtain ⟨b229, o230, c231, vs232, ha233, hs234, hle235, rfl, hl236, hc237⟩ := SlR.at (iE_ok _) hz201 (L := (b7, .cells ((([.slice walks_a walks.length walks_c] : List Value) ++ (([.slice hears_a hears.length hears_c] : List Value) ++ (([.int .i64 houses] : List Value) ++ (([.int .i64 start] : List Value) ++ (([.slice notices_a notices.length notices_c] : List Value) ++ (c_walks5.flatMap (cI .i64) ++ (([.slice a204 n208 c205] : List Value) ++ (c_hit4.flatMap (cI .i64))))))))).toArray) 102 (0, 0)) :: ((b1, .cells #[.slice walks_a walks.length walks_c, .slice hears_a hears.length hears_c, .int .i64 houses, .int .i64 start, .slice notices_a notices.length notices_c] 26 (0, 0)) :: (Lb206 ++ (Lb200 ++ [])))) (fC (fC (fS fP))) g219.1 hx218
           refine ov (v_indexO Try.underlying30 Try.sizeOf3 rfl ha233 rfl (SlR.idx hz201 g219)) rfl ?_
           refine ov (v_load Try.isAgg3 rfl hs234 (hc237 0 (by decide))) rfl ?_
           refine oa rfl rfl (shO_nil ?_)
           obtain ⟨c_hit6, h239, r240⟩ := b1_ok h227
           refine shW_join (fun e1 F1 L1 => F194 = F1 ∧ L1 = ((b7, .cells ((([.slice walks_a walks.length walks_c] : List Value) ++ (([.slice hears_a hears.length hears_c] : List Value) ++ (([.int .i64 houses] : List Value) ++ (([.int .i64 start] : List Value) ++ (([.slice notices_a notices.length notices_c] : List Value) ++ (c_walks5.flatMap (cI .i64) ++ (([.slice a204 n208 c205] : List Value) ++ (c_hit6.flatMap (cI .i64))))))))).toArray) 102 (0, 0)) :: ((b1, .cells #[.slice walks_a walks.length walks_c, .slice hears_a hears.length hears_c, .int .i64 houses, .int .i64 start, .slice notices_a notices.length notices_c] 26 (0, 0)) :: (Lb206 ++ (Lb200 ++ [])))) ∧ e1.sub [(1, .pointer (some ⟨b1, 0, none⟩)), (5, .pointer (some ⟨b7, 0, none⟩)), (9, .int .i64 k4), (12, .int .i64 x6), (84, .slice notices_a notices.length notices_c), (85, .int .i64 (notices.length : Int)), (86, .int .i64 k4), (94, .slice a198 n202 c199), (95, .int .i64 (l.length : Int)), (96, .int .i64 k5)] ∧ c_hit6.length = 15) ?_ ?_
           · clear r240
             refine wsr ?_
             refine ov (v_fieldAddr fa_26_1 rfl) rfl ?_
             refine ov (v_load Try.isAgg23 rfl (Has.own 1 rfl) rfl) rfl ?_
             refine ov (v_lenS Try.underlying23 rfl) rfl ?_
             refine om rfl rfl (shO_nil ?_)
             refine shW_block ?_
             refine shW_lp (fun fu6 e1 F1 L1 => ∃ (tl5 : List (List Int)) (k6 : Int), tl5.length = fu6 ∧ Lst hears k6 tl5 ∧ ∃ (c_hit7 : List Int), round_opened_l6 k4 c_pairs4 x6 tl5 k6 c_hit7 = some c_hit6 ∧ F194 = F1 ∧ L1 = ((b7, .cells ((([.slice walks_a walks.length walks_c] : List Value) ++ (([.slice hears_a hears.length hears_c] : List Value) ++ (([.int .i64 houses] : List Value) ++ (([.int .i64 start] : List Value) ++ (([.slice notices_a notices.length notices_c] : List Value) ++ (c_walks5.flatMap (cI .i64) ++ (([.slice a204 n208 c205] : List Value) ++ (c_hit7.flatMap (cI .i64))))))))).toArray) 102 (0, 0)) :: ((b1, .cells #[.slice walks_a walks.length walks_c, .slice hears_a hears.length hears_c, .int .i64 houses, .int .i64 start, .slice notices_a notices.length notices_c] 26 (0, 0)) :: (Lb206 ++ (Lb200 ++ [])))) ∧ e1.sub [(1, .pointer (some ⟨b1, 0, none⟩)), (5, .pointer (some ⟨b7, 0, none⟩)), (9, .int .i64 k4), (12, .int .i64 x6), (84, .slice notices_a notices.length notices_c), (85, .int .i64 (notices.length : Int)), (86, .int .i64 k4), (94, .slice a198 n202 c199), (95, .int .i64 (l.length : Int)), (96, .int .i64 k5), (101, .slice hears_a hears.length hears_c), (102, .int .i64 (hears.length : Int)), (103, .int .i64 k6)] ∧ c_hit7.length = 15) _ (m0 kr ⟨_, _, rfl, Lst.start _, c_hit4, h239, rfl, rfl, (sc rfl (sc rfl (sc rfl (sc rfl (sc rfl (sc rfl (sc rfl (sc rfl (sc rfl (sc rfl (sc rfl (sc rfl (sc rfl (sn _)))))))))))))), h210⟩) ?_
             rintro fu6 e1 _ _ ⟨tl5, k6, hn243, hk242, c_hit7, r244, rfl, rfl, he245, h241⟩
             refine shW_env _ he245 ?_
             refine wsr ?_
             refine ov (v_lssK rfl rfl) rfl ?_
             refine shO_nil (shW_seq ?_)
             refine shW_condP rfl (fun c247 => ?_) (fun c247 => ?_)
             · obtain ⟨x7, tl6, rfl, hx249, g250, hk248⟩ := Lst.succ hk242 c247
               rw [round_opened_l6] at r244
               refine shW_skip (shW_seq ?_)
               refine shW_block ?_
               refine wsr (om rfl rfl ?_)
               obtain ⟨b251, o252, c253, vs254, ha255, hs256, hle257, ⟨a260, c261, rfl, h262⟩, hl258, hc259⟩ := RowR.at (slE_ok (iE_ok _)) h_hears ((b7, .cells ((([.slice walks_a walks.length walks_c] : List Value) ++ (([.slice hears_a hears.length hears_c] : List Value) ++ (([.int .i64 houses] : List Value) ++ (([.int .i64 start] : List Value) ++ (([.slice notices_a notices.length notices_c] : List Value) ++ (c_walks5.flatMap (cI .i64) ++ (([.slice a204 n208 c205] : List Value) ++ (c_hit7.flatMap (cI .i64))))))))).toArray) 102 (0, 0)) :: ((b1, .cells #[.slice walks_a walks.length walks_c, .slice hears_a hears.length hears_c, .int .i64 houses, .int .i64 start, .slice notices_a notices.length notices_c] 26 (0, 0)) :: (Lb206 ++ (Lb200 ++ [])))) g250.1 hx249
               refine ov (v_indexO Try.underlying23 Try.sizeOf30 rfl ha255 rfl g250) rfl ?_
               refine ov (v_load Try.isAgg30 rfl hs256 (hc259 0 (by decide))) rfl ?_
               refine oa rfl rfl (oa rfl rfl (nsr (om rfl rfl (om rfl rfl ?_))))
               obtain ⟨ok, h263, r264⟩ := b1_ok r244
               refine o_callV rfl Try.call55 rfl rfl rfl (slices_Contains_int_int_w h262 h263) ?_
               refine shO_nil ?_
               refine shW_cond rfl (fun c265 => ?_) (fun c265 => ?_)
               · have r266 := bt r264 c265
                 refine shW_drawM [(.still, 0), (.still, 1), (.still, 2), (.still, 3), (.still, 4), (.still, 5), (.still, 6), (.still, 7), (.still, 8), (.still, 9), (.still, 10), (.still, 11), (.still, 12), (.still, 13), (.still, 14), (.still, 15), (.still, 16), (.still, 17), (.still, 18), (.seq, 19)] (by kernel_rfl) (by kernel_rfl) (trivial) (by rfl) (by kernel_rfl) ?_
                 refine shM_v (v := .pointer (some ⟨b7, 0, none⟩)) (ek := [(5, .pointer (some ⟨b7, 0, none⟩))]) (Ls := []) rfl rfl rfl rfl ((sc rfl (sn _))) (by kernel_rfl) sm (fun H F' L' hF' hL' => v_move rfl) ?_
                 refine shM_v (v := .int .i64 k6) (ek := [(13, .int .i64 k6)]) (Ls := []) rfl rfl rfl rfl ((sc rfl (sn _))) (by kernel_rfl) sm (fun H F' L' hF' hL' => v_move rfl) ?_
                 refine shM_v (v := .int .i64 k4) (ek := [(9, .int .i64 k4)]) (Ls := []) rfl rfl rfl rfl ((sc rfl (sn _))) (by kernel_rfl) sm (fun H F' L' hF' hL' => v_move rfl) ?_
                 refine shM_v (v := .pointer (some ⟨b7, 0, none⟩)) (ek := [(111, .pointer (some ⟨b7, 0, none⟩))]) (Ls := []) rfl rfl rfl rfl ((sc rfl (sn _))) (by kernel_rfl) sm (fun H F' L' hF' hL' => v_nilCheck rfl) ?_
                 refine shM_v (v := .pointer (some ⟨b7, 31, none⟩)) (ek := [(114, .pointer (some ⟨b7, 0, none⟩))]) (Ls := []) rfl rfl rfl rfl ((sc rfl (sn _))) (by kernel_rfl) sm (fun H F' L' hF' hL' => v_fieldAddr fa_102_3 rfl) ?_
                 obtain ⟨g267, r268⟩ := gd_ok r266
                 refine shM_v (v := .pointer (some ⟨b7, 31 + (k6 : Int).toNat * 3, none⟩)) (ek := [(112, .int .i64 k6), (115, .pointer (some ⟨b7, 31, none⟩))]) (Ls := []) rfl rfl rfl rfl ((sc rfl (sc rfl (sn _)))) (by kernel_rfl) sm (fun H F' L' hF' hL' => v_indexA Try.underlying100 Try.sizeOf99 rfl rfl g267) ?_
                 obtain ⟨g269, r270⟩ := gd_ok r268
                 obtain ⟨x8, g271, hx272, r273⟩ := ix_ok r270
                 have hq275 : (k6 * 3 + k4 : Int).toNat = (k6 : Int).toNat * 3 + (k4 : Int).toNat := by have := g267; have := g269; omega
                 have hc274 := el_at2 (cI_ok .i64) h241 hq275 hx272 (li_arr (li_skip (A := ([.slice walks_a walks.length walks_c] : List Value)) (k := 1) (o := 30) rfl (li_skip (A := ([.slice hears_a hears.length hears_c] : List Value)) (k := 1) (o := 29) rfl (li_skip (A := ([.int .i64 houses] : List Value)) (k := 1) (o := 28) rfl (li_skip (A := ([.int .i64 start] : List Value)) (k := 1) (o := 27) rfl (li_skip (A := ([.slice notices_a notices.length notices_c] : List Value)) (k := 1) (o := 26) rfl (li_skip (A := c_walks5.flatMap (cI .i64)) (k := 25) (o := 1) (lfl (cI_ok .i64) h96) (li_skip (A := ([.slice a204 n208 c205] : List Value)) (k := 1) (o := 0) rfl (li_end (lfl (cI_ok .i64) h241)))))))))) (li_le (li_skip (A := ([.slice walks_a walks.length walks_c] : List Value)) (k := 1) (o := 30) rfl (li_skip (A := ([.slice hears_a hears.length hears_c] : List Value)) (k := 1) (o := 29) rfl (li_skip (A := ([.int .i64 houses] : List Value)) (k := 1) (o := 28) rfl (li_skip (A := ([.int .i64 start] : List Value)) (k := 1) (o := 27) rfl (li_skip (A := ([.slice notices_a notices.length notices_c] : List Value)) (k := 1) (o := 26) rfl (li_skip (A := c_walks5.flatMap (cI .i64)) (k := 25) (o := 1) (lfl (cI_ok .i64) h96) (li_skip (A := ([.slice a204 n208 c205] : List Value)) (k := 1) (o := 0) rfl (li_end (lfl (cI_ok .i64) h241))))))))))
                 refine shM_v (v := .pointer (some ⟨b7, 31 + (k6 : Int).toNat * 3 + (k4 : Int).toNat * 1, none⟩)) (ek := [(113, .int .i64 k4), (116, .pointer (some ⟨b7, 31 + (k6 : Int).toNat * 3, none⟩))]) (Ls := []) rfl rfl rfl rfl ((sc rfl (sc rfl (sn _)))) (by kernel_rfl) sm (fun H F' L' hF' hL' => v_indexA Try.underlying99 Try.sizeOf3 rfl rfl g269) ?_
                 refine shM_v (v := .int .i64 x8) (ek := [(117, .pointer (some ⟨b7, 31 + (k6 : Int).toNat * 3 + (k4 : Int).toNat * 1, none⟩))]) (Ls := [(b7, .cells ((([.slice walks_a walks.length walks_c] : List Value) ++ (([.slice hears_a hears.length hears_c] : List Value) ++ (([.int .i64 houses] : List Value) ++ (([.int .i64 start] : List Value) ++ (([.slice notices_a notices.length notices_c] : List Value) ++ (c_walks5.flatMap (cI .i64) ++ (([.slice a204 n208 c205] : List Value) ++ (c_hit7.flatMap (cI .i64))))))))).toArray) 102 (0, 0))]) rfl rfl rfl rfl ((sc rfl (sn _))) (by kernel_rfl) (s0 (s2 (s1 (s3 (s3 sr))))) (fun H F' L' hF' hL' => v_load Try.isAgg3 rfl ((Has.own 0 rfl).ext hF' hL') ((hc274).2.2 0 (by decide))) ?_
                 refine shM_v (v := .pointer (some ⟨b7, 0, none⟩)) (ek := [(5, .pointer (some ⟨b7, 0, none⟩))]) (Ls := []) rfl rfl rfl rfl ((sc rfl (sn _))) (by kernel_rfl) sm (fun H F' L' hF' hL' => v_move rfl) ?_
                 refine shM_v (v := .pointer (some ⟨b7, 0, none⟩)) (ek := [(119, .pointer (some ⟨b7, 0, none⟩))]) (Ls := []) rfl rfl rfl rfl ((sc rfl (sn _))) (by kernel_rfl) sm (fun H F' L' hF' hL' => v_nilCheck rfl) ?_
                 refine shM_v (v := .pointer (some ⟨b7, 30, none⟩)) (ek := [(120, .pointer (some ⟨b7, 0, none⟩))]) (Ls := []) rfl rfl rfl rfl ((sc rfl (sn _))) (by kernel_rfl) sm (fun H F' L' hF' hL' => v_fieldAddr fa_102_2 rfl) ?_
                 refine shM_v (v := .slice a204 n208 c205) (ek := [(121, .pointer (some ⟨b7, 30, none⟩))]) (Ls := [(b7, .cells ((([.slice walks_a walks.length walks_c] : List Value) ++ (([.slice hears_a hears.length hears_c] : List Value) ++ (([.int .i64 houses] : List Value) ++ (([.int .i64 start] : List Value) ++ (([.slice notices_a notices.length notices_c] : List Value) ++ (c_walks5.flatMap (cI .i64) ++ (([.slice a204 n208 c205] : List Value) ++ (c_hit7.flatMap (cI .i64))))))))).toArray) 102 (0, 0))]) rfl rfl rfl rfl ((sc rfl (sn _))) (by kernel_rfl) (s0 (s2 (s1 (s3 (s3 sr))))) (fun H F' L' hF' hL' => v_load Try.isAgg44 rfl ((Has.own 0 rfl).ext hF' hL') (li_cell (li_skip (A := ([.slice walks_a walks.length walks_c] : List Value)) (k := 1) (o := 29) rfl (li_skip (A := ([.slice hears_a hears.length hears_c] : List Value)) (k := 1) (o := 28) rfl (li_skip (A := ([.int .i64 houses] : List Value)) (k := 1) (o := 27) rfl (li_skip (A := ([.int .i64 start] : List Value)) (k := 1) (o := 26) rfl (li_skip (A := ([.slice notices_a notices.length notices_c] : List Value)) (k := 1) (o := 25) rfl (li_skip (A := c_walks5.flatMap (cI .i64)) (k := 25) (o := 0) (lfl (cI_ok .i64) h96) (li_here (B := c_hit7.flatMap (cI .i64)) rfl))))))))) ?_
                 refine shM_v (v := .int .i64 (c_pairs4.length : Int)) (ek := [(122, .slice a204 n208 c205)]) (Ls := []) rfl rfl rfl rfl ((sc rfl (sn _))) (by kernel_rfl) sm (fun H F' L' hF' hL' => (v_lenS Try.underlying44 rfl).i (SlR.lenI hz207)) ?_
                 obtain ⟨g276, r277⟩ := gd_ok r273
                 refine shM_v (v := .int .i64 (shl 1 (c_pairs4.length : Int))) (ek := [(123, .int .i64 (c_pairs4.length : Int))]) (Ls := []) rfl rfl rfl rfl ((sc rfl (sn _))) (by kernel_rfl) sm (fun H F' L' hF' hL' => v_shl rfl rfl g276) ?_
                 refine shM_v (v := .int .i64 (bor x8 (shl 1 (c_pairs4.length : Int)))) (ek := [(118, .int .i64 x8), (124, .int .i64 (shl 1 (c_pairs4.length : Int)))]) (Ls := []) rfl rfl rfl rfl ((sc rfl (sc rfl (sn _)))) (by kernel_rfl) sm (fun H F' L' hF' hL' => v_or rfl rfl) ?_
                 refine shM_v (v := .pointer (some ⟨b7, 0, none⟩)) (ek := [(111, .pointer (some ⟨b7, 0, none⟩))]) (Ls := []) rfl rfl rfl rfl ((sc rfl (sn _))) (by kernel_rfl) sm (fun H F' L' hF' hL' => v_nilCheck rfl) ?_
                 refine shM_v (v := .pointer (some ⟨b7, 31, none⟩)) (ek := [(126, .pointer (some ⟨b7, 0, none⟩))]) (Ls := []) rfl rfl rfl rfl ((sc rfl (sn _))) (by kernel_rfl) sm (fun H F' L' hF' hL' => v_fieldAddr fa_102_3 rfl) ?_
                 obtain ⟨g278, r279⟩ := gd_ok r277
                 refine shM_v (v := .pointer (some ⟨b7, 31 + (k6 : Int).toNat * 3, none⟩)) (ek := [(112, .int .i64 k6), (127, .pointer (some ⟨b7, 31, none⟩))]) (Ls := []) rfl rfl rfl rfl ((sc rfl (sc rfl (sn _)))) (by kernel_rfl) sm (fun H F' L' hF' hL' => v_indexA Try.underlying100 Try.sizeOf99 rfl rfl g278) ?_
                 obtain ⟨g280, r281⟩ := gd_ok r279
                 have hq283 : (k6 * 3 + k4 : Int).toNat = (k6 : Int).toNat * 3 + (k4 : Int).toNat := by have := g278; have := g280; omega
                 refine shM_v (v := .pointer (some ⟨b7, 31 + (k6 : Int).toNat * 3 + (k4 : Int).toNat * 1, none⟩)) (ek := [(113, .int .i64 k4), (128, .pointer (some ⟨b7, 31 + (k6 : Int).toNat * 3, none⟩))]) (Ls := []) rfl rfl rfl rfl ((sc rfl (sc rfl (sn _)))) (by kernel_rfl) sm (fun H F' L' hF' hL' => v_indexA Try.underlying99 Try.sizeOf3 rfl rfl g280) ?_
                 refine ⟨_, [(125, .int .i64 (bor x8 (shl 1 (c_pairs4.length : Int)))), (129, .pointer (some ⟨b7, 31 + (k6 : Int).toNat * 3 + (k4 : Int).toNat * 1, none⟩))], rfl, rfl, (sc rfl (sc rfl (sn _))), by kernel_rfl, ?_⟩; intro H
                 obtain ⟨ws3, h284, r285⟩ := bv_ok r281
                 have h286 : ws3.length = 15 := by rw [h284, List.length_set]; exact h241
                 refine o_storeSeg (i := 0) Try.sizeOf3 rfl (by have := hq283; omega) rfl rfl rfl (st_skip (A := ([.slice walks_a walks.length walks_c] : List Value)) (k := 1) rfl (st_skip (A := ([.slice hears_a hears.length hears_c] : List Value)) (k := 1) rfl (st_skip (A := ([.int .i64 houses] : List Value)) (k := 1) rfl (st_skip (A := ([.int .i64 start] : List Value)) (k := 1) rfl (st_skip (A := ([.slice notices_a notices.length notices_c] : List Value)) (k := 1) rfl (st_skip (A := c_walks5.flatMap (cI .i64)) (k := 25) (lfl (cI_ok .i64) h96) (st_skip (A := ([.slice a204 n208 c205] : List Value)) (k := 1) rfl (st_arr (p := (k6 * 3 + k4 : Int).toNat) (cI_ok .i64) (u := bor x8 (shl 1 (c_pairs4.length : Int))) rfl h241 (by have := g271; have := h241; omega) F194)))))))) ?_
                 refine shO_L (L' := (b7, .cells ((([.slice walks_a walks.length walks_c] : List Value) ++ (([.slice hears_a hears.length hears_c] : List Value) ++ (([.int .i64 houses] : List Value) ++ (([.int .i64 start] : List Value) ++ (([.slice notices_a notices.length notices_c] : List Value) ++ (c_walks5.flatMap (cI .i64) ++ (([.slice a204 n208 c205] : List Value) ++ (ws3.flatMap (cI .i64))))))))).toArray) 102 (0, 0)) :: ((b1, .cells #[.slice walks_a walks.length walks_c, .slice hears_a hears.length hears_c, .int .i64 houses, .int .i64 start, .slice notices_a notices.length notices_c] 26 (0, 0)) :: (Lb206 ++ (Lb200 ++ [])))) (by rw [h284]; rfl) ?_
                 refine shO_nil ⟨undef, rfl, FExt.refl _, [], by kernel_rfl, .inl (.inl rfl), (fun _ h => absurd h List.not_mem_nil), ?_⟩
                 refine shM_nil ?_
                 refine inBlock_n (id := 11) (shW_region ?_)
                 refine ov (v_add rfl rfl (Lst.r64 hk242 c247 (RowR.lt h_hears))) rfl ?_
                 refine om rfl rfl (shO_nil ?_)
                 subst hn243; exact le kr ⟨_, _, rfl, hk248, ws3, r285, rfl, rfl, (sc rfl (sc rfl (sc rfl (sc rfl (sc rfl (sc rfl (sc rfl (sc rfl (sc rfl (sc rfl (sc rfl (sc rfl (sc rfl (sn _)))))))))))))), h286⟩
               have r287 := bf r264 c265
               refine shW_skip (inBlock_n (id := 11) (shW_region ?_))
               refine ov (v_add rfl rfl (Lst.r64 hk242 c247 (RowR.lt h_hears))) rfl ?_
               refine om rfl rfl (shO_nil ?_)
               subst hn243; exact le kr ⟨_, _, rfl, hk248, c_hit7, r287, rfl, rfl, (sc rfl (sc rfl (sc rfl (sc rfl (sc rfl (sc rfl (sc rfl (sc rfl (sc rfl (sc rfl (sc rfl (sc rfl (sc rfl (sn _)))))))))))))), h241⟩
             obtain rfl := Lst.zero hk242 c247
             rw [round_opened_l6] at r244
             refine shW_exit (andThen_exit (andThen_exit ?_))
             refine inBlock_exit ?_
             obtain rfl := inj1 r244
             exact mi kr ⟨rfl, rfl, (sc rfl (sc rfl (sc rfl (sc rfl (sc rfl (sc rfl (sc rfl (sc rfl (sc rfl (sc rfl (sn _))))))))))), h241⟩
           rintro e1 _ _ ⟨rfl, rfl, he288, h238⟩
           refine shW_env _ he288 ?_
           refine shW_region (om rfl rfl (om rfl rfl ?_))
           refine ov (v_nilCheck rfl) rfl ?_
           refine ov (v_fieldAddr fa_102_2 rfl) rfl ?_
           refine ov (v_load Try.isAgg44 rfl (Has.own 0 rfl) (li_cell (li_skip (A := ([.slice walks_a walks.length walks_c] : List Value)) (k := 1) (o := 29) rfl (li_skip (A := ([.slice hears_a hears.length hears_c] : List Value)) (k := 1) (o := 28) rfl (li_skip (A := ([.int .i64 houses] : List Value)) (k := 1) (o := 27) rfl (li_skip (A := ([.int .i64 start] : List Value)) (k := 1) (o := 26) rfl (li_skip (A := ([.slice notices_a notices.length notices_c] : List Value)) (k := 1) (o := 25) rfl (li_skip (A := c_walks5.flatMap (cI .i64)) (k := 25) (o := 0) (lfl (cI_ok .i64) h96) (li_here (B := c_hit6.flatMap (cI .i64)) rfl))))))))) rfl ?_
           refine om rfl rfl (om rfl rfl ?_)
           refine ov (v_build (v := .agg #[.int .i64 k4, .int .i64 x6]) rfl (by intro w; kernel_rfl)) rfl ?_
           refine o_buildSlice (cs := #[.int .i64 k4, .int .i64 x6]) rfl rfl (buildSlice_all slt_44 [.agg #[.int .i64 k4, .int .i64 x6]] rfl (by decide) (by simp [Value.cells]) (by decide)) ?_; intro b289 hb289
           obtain ⟨c, h290, g291, r292⟩ := ap_ok r240
           refine o_appZ (xs := c_pairs4) (ys := [(k4, x6)]) (zs := c) rfl slt_44 rfl rfl (Nat.le_refl _) (fun _ => .c (.c (.c .h))) hz207 (SrcR.box (vss := [[.int .i64 k4, .int .i64 x6]]) (ys := [(k4, x6)]) 0 rfl (prE_ok (iE_ok _) (iE_ok _)) (.cons ⟨_, _, rfl, rfl, rfl⟩ .nil) rfl rfl) h290 g291 (by decide) ?_; intro a293 n297 c294 Lb295 hz296
           refine kO (kd kr) ?_
           refine ov (v_nilCheck rfl) rfl ?_
           refine ov (v_fieldAddr fa_102_2 rfl) rfl ?_
           refine o_storeSeg (i := 0) Try.sizeOf44 rfl rfl rfl rfl rfl (st_skip (A := ([.slice walks_a walks.length walks_c] : List Value)) (k := 1) (p := 29) rfl (st_skip (A := ([.slice hears_a hears.length hears_c] : List Value)) (k := 1) (p := 28) rfl (st_skip (A := ([.int .i64 houses] : List Value)) (k := 1) (p := 27) rfl (st_skip (A := ([.int .i64 start] : List Value)) (k := 1) (p := 26) rfl (st_skip (A := ([.slice notices_a notices.length notices_c] : List Value)) (k := 1) (p := 25) rfl (st_skip (A := c_walks5.flatMap (cI .i64)) (k := 25) (p := 0) (lfl (cI_ok .i64) h96) (st_here (B := c_hit6.flatMap (cI .i64)) st_one))))))) ?_
           refine shO_L (L' := (b7, .cells ((([.slice walks_a walks.length walks_c] : List Value) ++ (([.slice hears_a hears.length hears_c] : List Value) ++ (([.int .i64 houses] : List Value) ++ (([.int .i64 start] : List Value) ++ (([.slice notices_a notices.length notices_c] : List Value) ++ (c_walks5.flatMap (cI .i64) ++ (([.slice a293 n297 c294] : List Value) ++ (c_hit6.flatMap (cI .i64))))))))).toArray) 102 (0, 0)) :: ((b1, .cells #[.slice walks_a walks.length walks_c, .slice hears_a hears.length hears_c, .int .i64 houses, .int .i64 start, .slice notices_a notices.length notices_c] 26 (0, 0)) :: (Lb295 ++ (Lb200 ++ [])))) rfl ?_
           refine shO_nil (inBlock_n (id := 9) ?_)
           obtain ⟨rfl, rfl⟩ := inj2 r292
           exact mi kr ⟨a293, n297, c294, Lb295, rfl, rfl, (sc rfl (sc rfl (sc rfl (sc rfl (sc rfl (sc rfl (sc rfl (sc rfl (sc rfl (sn _)))))))))), hz296, h238⟩
         rintro e1 _ _ ⟨a220, n224, c221, Lb222, rfl, rfl, he299, hz223, h226⟩
         refine shW_env _ he299 ?_
         refine shW_region ?_
         refine ov (v_add rfl rfl (Lst.r64 hk211 c216 (SlR.llt hz201))) rfl ?_
         refine om rfl rfl (shO_nil ?_)
         subst hn212; exact le kr ⟨_, _, rfl, hk217, c_pairs5, c_hit5, a220, n224, c221, Lb222, r228, rfl, rfl, (sc rfl (sc rfl (sc rfl (sc rfl (sc rfl (sc rfl (sc rfl (sc rfl (sc rfl (sn _)))))))))), hz223, h226⟩
       obtain rfl := Lst.zero hk211 c216
       rw [round_opened_l5] at r213
       refine shW_exit (andThen_exit (andThen_exit ?_))
       refine inBlock_exit ?_
       refine inBlock_n (id := 7) ?_
       obtain ⟨rfl, rfl⟩ := inj2 r213
       exact mi (kc (kc (ka kn))) ⟨a204, n208, c205, Lb206, (hF187.trans hF195), rfl, (sc rfl (sc rfl (sc rfl (sc rfl (sc rfl (sn _)))))), hz207, h210⟩
     rintro e1 F301 _ ⟨a162, n166, c163, Lb164, hF302, rfl, he300, hz165, h168⟩
     refine shW_env _ he300 ?_
     replace h_notices := h_notices.mono (prE_ok (slE_ok (iE_ok _)) (prE_ok (iE_ok _) (iE_ok _))) hF302
     refine shW_region ?_
     refine ov (v_add rfl rfl (Lst.r64 hk151 c158 (RowR.lt h_notices))) rfl ?_
     refine om rfl rfl (shO_nil ?_)
     subst hn152; exact le kr ⟨_, _, rfl, hk159, c_pairs3, c_hit3, a162, n166, c163, Lb164, r170, (hF156.trans hF302), rfl, (sc rfl (sc rfl (sc rfl (sc rfl (sc rfl (sn _)))))), hz165, h168⟩
   obtain rfl := Lst.zero hk151 c158
   rw [round_opened_l4] at r153
   refine shW_exit (andThen_exit (andThen_exit ?_))
   refine inBlock_exit ?_
   obtain ⟨rfl, rfl⟩ := inj2 r153
   exact mi (kc (kd kr)) ⟨a144, n148, c145, Lb146, hF156, rfl, (sc rfl (sn _)), hz147, h150⟩
 rintro e1 F304 _ ⟨a135, n139, c136, Lb137, hF305, rfl, he303, hz138, h141⟩
 refine shW_env _ he303 ?_
 replace h_walks := h_walks.mono (slE_ok (iE_ok _)) hF305
 replace h_hears := h_hears.mono (slE_ok (iE_ok _)) hF305
 replace h_notices := h_notices.mono (prE_ok (slE_ok (iE_ok _)) (prE_ok (iE_ok _) (iE_ok _))) hF305
 refine wsr (om rfl rfl (oa rfl rfl (oa rfl rfl (shO_nil ?_))))
 obtain rfl := (SlR.caps hz138).1
 refine shW_freezeR (Nat.le_refl _) (prE_ok (iE_ok _) (iE_ok _)) (fC fP) hz138 ?_; intro F306 hF307 h308
 replace h_walks := h_walks.mono (slE_ok (iE_ok _)) hF307
 replace h_hears := h_hears.mono (slE_ok (iE_ok _)) hF307
 replace h_notices := h_notices.mono (prE_ok (slE_ok (iE_ok _)) (prE_ok (iE_ok _) (iE_ok _))) hF307
 refine shW_freeze 0 rfl hb7 ?_; intro F309 hF310 hz311
 refine shW_L (L' := []) rfl ?_
 replace h_walks := h_walks.mono (slE_ok (iE_ok _)) hF310
 replace h_hears := h_hears.mono (slE_ok (iE_ok _)) hF310
 replace h_notices := h_notices.mono (prE_ok (slE_ok (iE_ok _)) (prE_ok (iE_ok _) (iE_ok _))) hF310
 replace h308 := h308.mono (prE_ok (iE_ok _) (iE_ok _)) hF310
 refine shW_ret ?_
 refine q_res2 Try.results26 (res_tmp rfl) (res_tmp rfl) (sr) ?_
 obtain ⟨rfl, rfl⟩ := inj2 r143
 exact ⟨_, rfl, rfl, ⟨_, _, _, rfl, hz311, ⟨_, _, rfl, ⟨_, _, rfl, h_walks⟩, ⟨_, _, rfl, ⟨_, _, rfl, h_hears⟩, ⟨_, _, rfl, rfl, ⟨_, _, rfl, rfl, ⟨_, _, rfl, ⟨_, _, rfl, h_notices⟩, ⟨_, _, rfl, ⟨rfl, h96⟩, ⟨_, _, rfl, ⟨_, _, rfl, h308⟩, ⟨rfl, h141⟩⟩⟩⟩⟩⟩⟩⟩⟩⟩
end Go.Proofs.Ytfmapnhfamoecaa
