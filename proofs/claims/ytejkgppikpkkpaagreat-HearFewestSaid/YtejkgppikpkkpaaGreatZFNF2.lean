/- The walks that this claim needs, printed by a program of mine; part 2. -/
import Derived.Test.YtejkgppikpkkpaaGreatZFNF1
namespace Go.Proofs.YtejkgppikpkkpaaGreat
open Go.SH Go.PL
set_option maxHeartbeats 1000000 in
theorem slices_Reverse_int_int_w {s__a : Option Addr} {s__n : Nat} {s__c : Nat} {s__L : LH} {s_ : List Int} {s__nb : Nat} {F : FS} (h_s_ : SlR s__nb 3 1 (iE .i64) F s__a s__n s__c s_ s__L) {r : List Int} (hr : slices_Reverse_int_int s_ = some r) :
    SH.Spec Tryz.prog 85 #[.slice s__a s__n s__c] F (s__L ++ []) fun F' L' v => ∃ (rL : LH), v = .tuple #[] ∧ L' = rL ++ [] ∧ SlR s__nb 3 1 (iE .i64) F' s__a s__n s__c r rL := by
 refine spec_of_shW (args := [.slice s__a s__n s__c]) Tryz.func85 rfl Tryz.ntmps85 (Nat.le_of_ble_eq_true rfl) ?_
 intro K _ _; rw [slices_Reverse_int_int] at hr
 refine shW_L (L' := s__L ++ []) (by simp) ?_
 refine wsr (om rfl rfl ?_)
 refine ov ((v_lenS Tryz.underlying28 rfl).i (SlR.lenI h_s_)) rfl ?_
 obtain ⟨g1, r2⟩ := gd_ok hr; clear hr
 refine ov (v_sub rfl rfl g1) rfl ?_
 refine oa rfl rfl (oa rfl rfl (shO_nil ?_))
 refine shW_block ?_
 refine shW_lp (fun fu1 e1 F1 L1 => ∃ (s_2 : List Int) (i : Int) (j : Int) (Lb3 : LH), slices_Reverse_int_int_l1 fu1 s_2 i j = some r ∧ F = F1 ∧ L1 = (Lb3 ++ []) ∧ e1.sub [(0, .slice s__a s__n s__c), (2, .int .i64 i), (3, .int .i64 j)] ∧ SlR s__nb 3 1 (iE .i64) F1 s__a s__n s__c s_2 Lb3) FU (m0 kr ⟨s_, 0, (s_.length : Int) - 1, s__L, r2, rfl, rfl, (sc rfl (sc rfl (sc rfl (sn _)))), h_s_⟩) ?_
 rintro fu1 e1 _ _ ⟨s_2, i, j, Lb3, r7, rfl, rfl, he8, hz4⟩
 refine shW_env _ he8 ?_; clear he8
 rcases fu1 with _ | fu1
 · rw [slices_Reverse_int_int_l1] at r7; cases r7
 rw [slices_Reverse_int_int_l1] at r7
 refine shW_seq (wsr (om rfl rfl (om rfl rfl ?_)))
 refine ov (v_lssK rfl rfl) rfl ?_
 refine shO_nil ?_
 refine shW_condP rfl (fun c9 => ?_) (fun c9 => ?_)
 · have r10 := ite_t r7 c9; clear r7
   refine shW_skip (shW_seq ?_)
   refine shW_block ?_
   refine shW_drawM [(.still, 0), (.still, 1), (.still, 2), (.still, 3), (.still, 4), (.still, 5), (.still, 6), (.still, 7), (.still, 8), (.still, 9), (.still, 10), (.still, 11), (.still, 12), (.seq, 13), (.still, 14), (.seq, 15)] (by kernel_rfl) (by kernel_rfl) (trivial) (by rfl) (by kernel_rfl) ?_
   refine shM_v (v := .slice s__a s__n s__c) (ek := [(0, .slice s__a s__n s__c)]) (Ls := []) rfl rfl rfl rfl ((sc rfl (sn _))) (by kernel_rfl) sm (fun H F' L' hF' hL' => v_move rfl) ?_
   refine shM_v (v := .int .i64 i) (ek := [(2, .int .i64 i)]) (Ls := []) rfl rfl rfl rfl ((sc rfl (sn _))) (by kernel_rfl) sm (fun H F' L' hF' hL' => v_move rfl) ?_
   refine shM_v (v := .slice s__a s__n s__c) (ek := [(0, .slice s__a s__n s__c)]) (Ls := []) rfl rfl rfl rfl ((sc rfl (sn _))) (by kernel_rfl) sm (fun H F' L' hF' hL' => v_move rfl) ?_
   refine shM_v (v := .int .i64 j) (ek := [(3, .int .i64 j)]) (Ls := []) rfl rfl rfl rfl ((sc rfl (sn _))) (by kernel_rfl) sm (fun H F' L' hF' hL' => v_move rfl) ?_
   refine shM_v (v := .slice s__a s__n s__c) (ek := [(0, .slice s__a s__n s__c)]) (Ls := []) rfl rfl rfl rfl ((sc rfl (sn _))) (by kernel_rfl) sm (fun H F' L' hF' hL' => v_move rfl) ?_
   refine shM_v (v := .int .i64 j) (ek := [(3, .int .i64 j)]) (Ls := []) rfl rfl rfl rfl ((sc rfl (sn _))) (by kernel_rfl) sm (fun H F' L' hF' hL' => v_move rfl) ?_
   obtain ⟨x, g11, hx12, r13⟩ := ix_ok r10; clear r10
   obtain ⟨b14, o15, c16, vs17, ha18, hs19, hle20, rfl, hl21, hc22⟩ := SlR.at (iE_ok _) hz4 (L := Lb3 ++ []) fP g11.1 hx12
   refine shM_v (v := .pointer (some ⟨b14, o15 + (j : Int).toNat * 1, none⟩)) (ek := [(18, .slice s__a s__n s__c), (19, .int .i64 j)]) (Ls := []) rfl rfl rfl rfl ((sc rfl (sc rfl (sn _)))) (by kernel_rfl) sm (fun H F' L' hF' hL' => v_indexO Tryz.underlying28 Tryz.sizeOf3 rfl ha18 rfl (SlR.idx hz4 g11)) ?_
   refine shM_v (v := .int .i64 x) (ek := [(20, .pointer (some ⟨b14, o15 + (j : Int).toNat * 1, none⟩))]) (Ls := Lb3 ++ []) rfl rfl rfl rfl ((sc rfl (sn _))) (by kernel_rfl) (s0 sr) (fun H F' L' hF' hL' => v_load Tryz.isAgg3 rfl (hs19.ext hF' hL') (hc22 0 (by decide))) ?_
   refine shM_v (v := .slice s__a s__n s__c) (ek := [(0, .slice s__a s__n s__c)]) (Ls := []) rfl rfl rfl rfl ((sc rfl (sn _))) (by kernel_rfl) sm (fun H F' L' hF' hL' => v_move rfl) ?_
   refine shM_v (v := .int .i64 i) (ek := [(2, .int .i64 i)]) (Ls := []) rfl rfl rfl rfl ((sc rfl (sn _))) (by kernel_rfl) sm (fun H F' L' hF' hL' => v_move rfl) ?_
   obtain ⟨x2, g23, hx24, r25⟩ := ix_ok r13; clear r13
   obtain ⟨b26, o27, c28, vs29, ha30, hs31, hle32, rfl, hl33, hc34⟩ := SlR.at (iE_ok _) hz4 (L := Lb3 ++ []) fP g23.1 hx24
   refine shM_v (v := .pointer (some ⟨b26, o27 + (i : Int).toNat * 1, none⟩)) (ek := [(22, .slice s__a s__n s__c), (23, .int .i64 i)]) (Ls := []) rfl rfl rfl rfl ((sc rfl (sc rfl (sn _)))) (by kernel_rfl) sm (fun H F' L' hF' hL' => v_indexO Tryz.underlying28 Tryz.sizeOf3 rfl ha30 rfl (SlR.idx hz4 g23)) ?_
   refine shM_v (v := .int .i64 x2) (ek := [(24, .pointer (some ⟨b26, o27 + (i : Int).toNat * 1, none⟩))]) (Ls := Lb3 ++ []) rfl rfl rfl rfl ((sc rfl (sn _))) (by kernel_rfl) (s0 sr) (fun H F' L' hF' hL' => v_load Tryz.isAgg3 rfl (hs31.ext hF' hL') (hc34 0 (by decide))) ?_
   obtain ⟨b35, o36, c37, vs38, ha39, hs40, hle41, rfl, hl42, hc43⟩ := SlR.at (iE_ok _) hz4 (L := Lb3 ++ []) fP g23.1 hx24
   refine shM_v (v := .pointer (some ⟨b35, o36 + (i : Int).toNat * 1, none⟩)) (ek := [(14, .slice s__a s__n s__c), (15, .int .i64 i)]) (Ls := []) rfl rfl rfl rfl ((sc rfl (sc rfl (sn _)))) (by kernel_rfl) sm (fun H F' L' hF' hL' => v_indexO Tryz.underlying28 Tryz.sizeOf3 rfl ha39 rfl (SlR.idx hz4 g23)) ?_
   refine ⟨_, [(21, .int .i64 x), (26, .pointer (some ⟨b35, o36 + (i : Int).toNat * 1, none⟩))], rfl, rfl, (sc rfl (sc rfl (sn _))), by kernel_rfl, ?_⟩; intro H
   obtain ⟨l, h44, r45⟩ := bv_ok r25; clear r25
   refine o_storeZ (u := x) Tryz.sizeOf3 (iE_ok _) rfl ha39 rfl rfl (fun _ => .h) hz4 h44 g23 ?_; intro Lb46 hz47
   refine shO_nil ⟨undef, rfl, FExt.refl _, [3, 2], by kernel_rfl, .inl (.inr (fun d h => by cases h)), (List.forall_mem_cons.2 ⟨sm, (List.forall_mem_cons.2 ⟨sm, (fun _ h => absurd h List.not_mem_nil)⟩)⟩), ?_⟩
   obtain ⟨x3, g48, hx49, r50⟩ := ix_ok r45; clear r45
   obtain ⟨b51, o52, c53, vs54, ha55, hs56, hle57, rfl, hl58, hc59⟩ := SlR.at (iE_ok _) hz47 (L := Lb46 ++ []) fP g48.1 hx49
   refine shM_v (v := .pointer (some ⟨b51, o52 + (j : Int).toNat * 1, none⟩)) (ek := [(16, .slice s__a s__n s__c), (17, .int .i64 j)]) (Ls := []) rfl rfl rfl rfl ((sc rfl (sc rfl (sn _)))) (by kernel_rfl) sm (fun H F' L' hF' hL' => v_indexO Tryz.underlying28 Tryz.sizeOf3 rfl ha55 rfl (SlR.idx hz47 g48)) ?_
   refine ⟨_, [(25, .int .i64 x2), (27, .pointer (some ⟨b51, o52 + (j : Int).toNat * 1, none⟩))], rfl, rfl, (sc rfl (sc rfl (sn _))), by kernel_rfl, ?_⟩; intro H
   obtain ⟨l2, h60, r61⟩ := bv_ok r50; clear r50
   refine o_storeZ (u := x2) Tryz.sizeOf3 (iE_ok _) rfl ha55 rfl rfl (fun _ => .h) hz47 h60 g48 ?_; intro Lb62 hz63
   refine shO_nil ⟨undef, rfl, FExt.refl _, [], by kernel_rfl, .inl (.inl rfl), (fun _ h => absurd h List.not_mem_nil), ?_⟩
   refine shM_nil ?_
   refine inBlock_n (id := 1) (shW_region (om rfl rfl ?_))
   obtain ⟨g64, r65⟩ := gd_ok r61; clear r61
   refine ov (v_add rfl rfl g64) rfl ?_
   refine om rfl rfl ?_
   obtain ⟨g66, r67⟩ := gd_ok r65; clear r65
   refine ov (v_sub rfl rfl g66) rfl ?_
   refine oa rfl rfl (oa rfl rfl (shO_nil ?_))
   exact le kr ⟨l2, i + 1, j - 1, Lb62, r67, rfl, rfl, (sc rfl (sc rfl (sc rfl (sn _)))), hz63⟩
 have r68 := ite_f r7 c9; clear r7
 refine shW_exit (andThen_exit (andThen_exit ?_))
 refine inBlock_exit ?_
 refine q_end0 (.inr rfl) Tryz.results85 ?_
 obtain rfl := inj1 r68
 exact ⟨_, rfl, rfl, hz4⟩
set_option maxHeartbeats 1000000 in
theorem hear_Way_w {wide : Int} {plots_a : Option Addr} {plots_c : Nat} {plots : List Int} {wind : Int} {stand : Int} {plot : Int} {F : FS} (h_plots : RowR 1 (iE .i64) F plots_a plots_c plots) {r : List Int} {r2 : Int} (hr : hear_Way wide plots wind stand plot = some (r, r2)) :
    SH.Spec Tryz.prog 37 #[.agg #[.int .i64 wide, .slice plots_a plots.length plots_c], .int .i64 wind, .int .i64 stand, .int .i64 plot] F [] fun F' L' v => ∃ (ra : Option Addr) (rn : Nat) (rc : Nat) (rL : LH), v = .tuple #[.slice ra rn rc, .int .i64 r2] ∧ L' = rL ++ [] ∧ SlR 0 3 1 (iE .i64) F' ra rn rc r rL := by
 refine spec_of_shW (args := [.agg #[.int .i64 wide, .slice plots_a plots.length plots_c], .int .i64 wind, .int .i64 stand, .int .i64 plot]) Tryz.func37 rfl Tryz.ntmps37 (Nat.le_of_ble_eq_true rfl) ?_
 intro K _ _; rw [hear_Way] at hr
 refine wsr ?_
 refine o_box rfl rfl ?_; intro b1 hb1
 refine oa rfl rfl (oa rfl rfl (shO_nil (shW_seq (wsr ?_))))
 refine ov (v_loadA (cs := #[.int .i64 wide, .slice plots_a plots.length plots_c]) Tryz.isAgg24 Tryz.sizeOf24 rfl (Has.own 0 rfl) (Nat.le_of_ble_eq_true rfl) rfl) rfl ?_
 refine om rfl rfl (om rfl rfl (om rfl rfl ?_))
 obtain ⟨n, n2, h2, r3⟩ := b2_ok hr; clear hr
 refine o_callV rfl Tryz.call38 rfl rfl rfl (hear_Need_w h_plots h2) ?_
 refine om rfl rfl (ox rfl rfl rfl (ox rfl rfl rfl (oa rfl rfl (oa rfl rfl (nsr (om rfl rfl ?_))))))
 refine ov (v_neq rfl rfl) rfl ?_
 refine shO_nil ?_
 refine shW_condP rfl (fun c4 => ?_) (fun c4 => ?_)
 · have r5 := ite_t r3 c4; clear r3
   refine wsr (om rfl rfl (oa rfl rfl (oa rfl rfl (shO_nil ?_))))
   refine kW kn ?_
   refine shW_ret (andThen_ret ?_)
   refine q_res2 Tryz.results37 (res_tmp rfl) (res_tmp rfl) (sr) ?_
   obtain ⟨rfl, rfl⟩ := inj2 r5
   exact ⟨_, _, _, [], rfl, rfl, SlR.nil _ _ _ _ _⟩
 have r6 := ite_f r3 c4; clear r3
 refine shW_skip (wsr ?_)
 refine ov (v_loadA (cs := #[.int .i64 wide, .slice plots_a plots.length plots_c]) Tryz.isAgg24 Tryz.sizeOf24 rfl (Has.own 0 rfl) (Nat.le_of_ble_eq_true rfl) rfl) rfl ?_
 refine om rfl rfl ?_
 obtain ⟨d, n3, h7, r8⟩ := b2_ok r6; clear r6
 refine o_call0 rfl Tryz.call84 rfl rfl rfl (hear_opened_w h_plots h7) ?_; rintro _ F9 _ hF10 hn11 ⟨v13, rfl, rfl, hp14⟩
 replace h_plots := h_plots.mono (iE_ok _) hF10
 refine shO_L (ln rfl) ?_
 refine om rfl rfl (ox rfl rfl rfl (ox rfl rfl rfl (oa rfl rfl (oa rfl rfl (nsr (om rfl rfl (om rfl rfl ?_)))))))
 obtain ⟨wide2, plots2, down, right_, blows, h15, r16⟩ := b5_ok r8; clear r8
 have h25 := hp14; rw [h15] at h25; obtain ⟨b17, c18, m19, hv20, hz21, ⟨_, _, rfl, rfl, ⟨_, _, rfl, ⟨a22, c23, rfl, h24⟩, ⟨_, _, rfl, rfl, ⟨_, _, rfl, rfl, rfl⟩⟩⟩⟩⟩ := h25; subst hv20
 have hz21 : F9 b17 = some (.cells #[.int .i64 wide2, .slice a22 plots2.length c23, .int .i64 down, .int .i64 right_, .bool blows] 142 m19) := hz21
 obtain ⟨l, h26, r27⟩ := b1_ok r16; clear r16
 refine o_call0 rfl Tryz.call81 rfl rfl rfl (hear_desk_from_w hz21 h24 h26) ?_; rintro _ F28 _ hF29 hn30 ⟨a32, n36, c33, Lb34, rfl, rfl, hz35⟩
 replace h_plots := h_plots.mono (iE_ok _) hF29
 replace h24 := h24.mono (iE_ok _) hF29
 replace hz21 := hF29 _ _ hz21
 replace hz35 := hz35.new fun p hp => hn30 p (by simp [hp])
 refine shO_L (lp (ln rfl)) ?_
 refine kO (kf (fS fO) kr) ?_
 refine o_alloc rfl Tryz.zeroValue28 ?_; intro b38 hb38
 refine o_store (i := 0) Tryz.sizeOf28 rfl rfl rfl rfl (Nat.le_of_ble_eq_true rfl) ?_
 refine shO_L (L' := (b38, .cells #[.slice a32 n36 c33] 28 (0, 0)) :: ((b1, .cells #[.int .i64 wide, .slice plots_a plots.length plots_c] 24 (0, 0)) :: (Lb34 ++ []))) rfl ?_
 refine nsr (om rfl rfl ?_)
 refine o_buildSlice (cs := #[.int .i64 plot]) rfl rfl (buildSlice_all slt_28 [.int .i64 plot] rfl (by decide) (by simp [Value.cells]) (by decide)) ?_; intro b39 hb39
 have hz41 : SlR K.w0.heap.size 3 1 (iE .i64) F28 (some ⟨b39, 0, none⟩) 1 1 [plot] [(b39, .cells #[.int .i64 plot] 3 (0, 0))] := SlR.of_block (vss := [[.int .i64 plot]]) (iE_ok _) hb39 (.cons rfl .nil) rfl rfl (by simp [maxLen])
 generalize hLLb40 : ([(b39, .cells #[.int .i64 plot] 3 (0, 0))] : LH) = Lb40 at hz41
 refine shO_perm (L' := Lb40 ++ ((b38, .cells #[.slice a32 n36 c33] 28 (0, 0)) :: ((b1, .cells #[.int .i64 wide, .slice plots_a plots.length plots_c] 24 (0, 0)) :: (Lb34 ++ [])))) (by rw [← hLLb40]; exact fO) ?_
 refine shO_perm (L' := (b38, .cells #[.slice a32 n36 c33] 28 (0, 0)) :: ((b1, .cells #[.int .i64 wide, .slice plots_a plots.length plots_c] 24 (0, 0)) :: (Lb40 ++ (Lb34 ++ [])))) (List.Perm.symm (fC (fC fP))) ?_
 refine oa rfl rfl (shO_nil ?_)
 obtain ⟨out, h49, r50⟩ := b1_ok r27; clear r27
 refine shW_join (fun e1 F1 L1 => ∃ (a43 : Option Addr) (n47 : Nat) (c44 : Nat) (Lb45 : LH), FExt F28 F1 ∧ L1 = (Lb45 ++ []) ∧ e1.sub [(15, .slice a43 n47 c44)] ∧ SlR K.w0.heap.size 3 1 (iE .i64) F1 a43 n47 c44 out Lb45) ?_ ?_
 · clear r50
   refine wsr (om rfl rfl ?_)
   refine o_alloc rfl Tryz.zeroValue3 ?_; intro b51 hb51
   refine o_store (i := 0) Tryz.sizeOf3 rfl rfl rfl rfl (Nat.le_of_ble_eq_true rfl) ?_
   refine shO_L (L' := (b51, .cells #[.int .i64 plot] 3 (0, 0)) :: ((b38, .cells #[.slice a32 n36 c33] 28 (0, 0)) :: ((b1, .cells #[.int .i64 wide, .slice plots_a plots.length plots_c] 24 (0, 0)) :: (Lb40 ++ (Lb34 ++ []))))) rfl ?_
   refine shO_nil ?_
   refine shW_block ?_
   refine shW_lp (fun fu1 e1 F1 L1 => ∃ (out2 : List Int) (p : Int) (a52 : Option Addr) (n56 : Nat) (c53 : Nat) (Lb54 : LH) (b58 : Nat), hear_Way_l1 plots stand wide2 plots2 down right_ blows l fu1 out2 p = some out ∧ FExt F28 F1 ∧ L1 = ((b58, .cells #[.int .i64 p] 3 (0, 0)) :: ((b38, .cells #[.slice a32 n36 c33] 28 (0, 0)) :: ((b1, .cells #[.int .i64 wide, .slice plots_a plots.length plots_c] 24 (0, 0)) :: (Lb34 ++ (Lb54 ++ []))))) ∧ e1.sub [(2, .int .i64 stand), (4, .pointer (some ⟨b1, 0, none⟩)), (12, .pointer (some ⟨b17, 0, none⟩)), (14, .pointer (some ⟨b38, 0, none⟩)), (15, .slice a52 n56 c53), (16, .pointer (some ⟨b58, 0, none⟩))] ∧ SlR K.w0.heap.size 3 1 (iE .i64) F1 a52 n56 c53 out2 Lb54 ∧ K.w0.heap.size ≤ b58) FU (m0 (kc (kc (kc (kg (fS fP) kr)))) ⟨[plot], plot, (some ⟨b39, 0, none⟩), 1, 1, Lb40, b51, h49, FExt.refl _, rfl, (sc rfl (sc rfl (sc rfl (sc rfl (sc rfl (sc rfl (sn _))))))), hz41, hb51⟩) ?_
   rintro fu1 e1 F64 _ ⟨out2, p, a52, n56, c53, Lb54, b58, r62, hF65, rfl, he63, hz55, hb59⟩
   refine shW_env _ he63 ?_; clear he63
   replace h_plots := h_plots.mono (iE_ok _) hF65
   replace h24 := h24.mono (iE_ok _) hF65
   replace hz35 := hz35.mono (iE_ok _) hF65
   replace hz21 := hF65 _ _ hz21
   rcases fu1 with _ | fu1
   · rw [hear_Way_l1] at r62; cases r62
   rw [hear_Way_l1] at r62
   refine shW_seq (wsr ?_)
   refine ov (v_load Tryz.isAgg3 rfl (Has.own 0 rfl) rfl) rfl ?_
   refine om rfl rfl ?_
   refine ov (v_neq rfl rfl) rfl ?_
   refine shO_nil ?_
   refine shW_condP rfl (fun c66 => ?_) (fun c66 => ?_)
   · have r67 := ite_t r62 c66; clear r62
     refine shW_skip ?_
     obtain ⟨out3, p2, h74, r75⟩ := b2_ok r67; clear r67
     refine shW_join (fun e1 F1 L1 => ∃ (a68 : Option Addr) (n72 : Nat) (c69 : Nat) (Lb70 : LH), FExt F64 F1 ∧ L1 = ((b58, .cells #[.int .i64 p2] 3 (0, 0)) :: ((b38, .cells #[.slice a32 n36 c33] 28 (0, 0)) :: ((b1, .cells #[.int .i64 wide, .slice plots_a plots.length plots_c] 24 (0, 0)) :: (Lb34 ++ (Lb70 ++ []))))) ∧ e1.sub [(2, .int .i64 stand), (4, .pointer (some ⟨b1, 0, none⟩)), (12, .pointer (some ⟨b17, 0, none⟩)), (14, .pointer (some ⟨b38, 0, none⟩)), (15, .slice a68 n72 c69), (16, .pointer (some ⟨b58, 0, none⟩))] ∧ SlR K.w0.heap.size 3 1 (iE .i64) F1 a68 n72 c69 out3 Lb70) ?_ ?_
     · clear r75
       refine shW_block ?_
       refine wsr ?_
       refine o_alloc rfl Tryz.zeroValue3 ?_; intro b76 hb76
       refine o_store (i := 0) Tryz.sizeOf3 rfl rfl rfl rfl (Nat.le_of_ble_eq_true rfl) ?_
       refine shO_L (L' := (b76, .cells #[.int .i64 (-1)] 3 (0, 0)) :: ((b58, .cells #[.int .i64 p] 3 (0, 0)) :: ((b38, .cells #[.slice a32 n36 c33] 28 (0, 0)) :: ((b1, .cells #[.int .i64 wide, .slice plots_a plots.length plots_c] 24 (0, 0)) :: (Lb34 ++ (Lb54 ++ [])))))) rfl ?_
       refine shO_nil ?_
       obtain ⟨before, h77, r78⟩ := b1_ok h74; clear h74
       refine shW_join (fun e1 F1 L1 => FExt F64 F1 ∧ L1 = ((b76, .cells #[.int .i64 before] 3 (0, 0)) :: ((b58, .cells #[.int .i64 p] 3 (0, 0)) :: ((b38, .cells #[.slice a32 n36 c33] 28 (0, 0)) :: ((b1, .cells #[.int .i64 wide, .slice plots_a plots.length plots_c] 24 (0, 0)) :: (Lb34 ++ (Lb54 ++ [])))))) ∧ e1.sub [(2, .int .i64 stand), (4, .pointer (some ⟨b1, 0, none⟩)), (12, .pointer (some ⟨b17, 0, none⟩)), (14, .pointer (some ⟨b38, 0, none⟩)), (15, .slice a52 n56 c53), (16, .pointer (some ⟨b58, 0, none⟩)), (17, .pointer (some ⟨b76, 0, none⟩))]) ?_ ?_
       · clear r78
         refine wsr ?_
         refine ov (v_fieldAddr fa_24_1 rfl) rfl ?_
         refine ov (v_load Tryz.isAgg22 rfl (Has.own 3 rfl) rfl) rfl ?_
         refine ov (v_lenS Tryz.underlying22 rfl) rfl ?_
         refine om rfl rfl (shO_nil ?_)
         refine shW_block ?_
         refine shW_lp (fun fu2 e1 F1 L1 => ∃ (tl : List Int) (k : Int), tl.length = fu2 ∧ Lst plots k tl ∧ ∃ (before2 : Int), hear_Way_l2 wide2 plots2 down right_ blows l p tl k before2 = some before ∧ FExt F64 F1 ∧ L1 = ((b76, .cells #[.int .i64 before2] 3 (0, 0)) :: ((b58, .cells #[.int .i64 p] 3 (0, 0)) :: ((b38, .cells #[.slice a32 n36 c33] 28 (0, 0)) :: ((b1, .cells #[.int .i64 wide, .slice plots_a plots.length plots_c] 24 (0, 0)) :: (Lb34 ++ (Lb54 ++ [])))))) ∧ e1.sub [(2, .int .i64 stand), (4, .pointer (some ⟨b1, 0, none⟩)), (12, .pointer (some ⟨b17, 0, none⟩)), (14, .pointer (some ⟨b38, 0, none⟩)), (15, .slice a52 n56 c53), (16, .pointer (some ⟨b58, 0, none⟩)), (17, .pointer (some ⟨b76, 0, none⟩)), (49, .int .i64 (plots.length : Int)), (50, .int .i64 k)]) _ (m0 kr ⟨_, _, rfl, Lst.start _, -1, h77, FExt.refl _, rfl, (sc rfl (sc rfl (sc rfl (sc rfl (sc rfl (sc rfl (sc rfl (sc rfl (sc rfl (sn _))))))))))⟩) ?_
         rintro fu2 e1 F83 _ ⟨tl, k, hn80, hk79, before2, r81, hF84, rfl, he82⟩
         refine shW_env _ he82 ?_; clear he82
         replace h_plots := h_plots.mono (iE_ok _) hF84
         replace h24 := h24.mono (iE_ok _) hF84
         replace hz35 := hz35.mono (iE_ok _) hF84
         replace hz21 := hF84 _ _ hz21
         refine wsr ?_
         refine ov (v_lssK rfl rfl) rfl ?_
         refine shO_nil (shW_seq ?_)
         refine shW_condP rfl (fun c86 => ?_) (fun c86 => ?_)
         · obtain ⟨x, tl2, rfl, hx88, g89, hk87⟩ := Lst.succ hk79 c86
           rw [hear_Way_l2] at r81
           refine shW_skip ?_
           obtain ⟨before3, h90, r91⟩ := b1_ok r81; clear r81
           refine shW_join (fun e1 F1 L1 => FExt F83 F1 ∧ L1 = ((b76, .cells #[.int .i64 before3] 3 (0, 0)) :: ((b58, .cells #[.int .i64 p] 3 (0, 0)) :: ((b38, .cells #[.slice a32 n36 c33] 28 (0, 0)) :: ((b1, .cells #[.int .i64 wide, .slice plots_a plots.length plots_c] 24 (0, 0)) :: (Lb34 ++ (Lb54 ++ [])))))) ∧ e1.sub [(2, .int .i64 stand), (4, .pointer (some ⟨b1, 0, none⟩)), (12, .pointer (some ⟨b17, 0, none⟩)), (14, .pointer (some ⟨b38, 0, none⟩)), (15, .slice a52 n56 c53), (16, .pointer (some ⟨b58, 0, none⟩)), (17, .pointer (some ⟨b76, 0, none⟩)), (49, .int .i64 (plots.length : Int)), (50, .int .i64 k)]) ?_ ?_
           · clear r91
             refine shW_block ?_
             refine wsr (om rfl rfl ?_)
             refine o_alloc rfl Tryz.zeroValue3 ?_; intro b92 hb92
             refine o_store (i := 0) Tryz.sizeOf3 rfl rfl rfl rfl (Nat.le_of_ble_eq_true rfl) ?_
             refine shO_L (L' := (b92, .cells #[.int .i64 k] 3 (0, 0)) :: ((b76, .cells #[.int .i64 before2] 3 (0, 0)) :: ((b58, .cells #[.int .i64 p] 3 (0, 0)) :: ((b38, .cells #[.slice a32 n36 c33] 28 (0, 0)) :: ((b1, .cells #[.int .i64 wide, .slice plots_a plots.length plots_c] 24 (0, 0)) :: (Lb34 ++ (Lb54 ++ []))))))) rfl ?_
             refine nsr (om rfl rfl ?_)
             refine ov (v_load Tryz.isAgg3 rfl (Has.own 0 rfl) rfl) rfl ?_
             obtain ⟨y, h93, r94⟩ := b1_ok h90; clear h90
             refine o_call0 rfl Tryz.call82 rfl rfl rfl (hear_desk_next_w hz21 h24 h93) ?_; rintro _ F95 _ hF96 hn97 ⟨cp99, rfl, rfl, hit100⟩
             replace hz35 := hz35.mono (iE_ok _) hF96
             refine shO_L (ln rfl) ?_
             refine shO_nil ?_
             refine shW_block ?_
             refine shW_rangeFunc (encs := (fun x : Int × Int => #[.int .i64 x.1, .int .i64 x.2])) (xs := y) rfl Tryz.call109 rfl (fun _ => rfl) hit100 (fun pre F1 L1 => ∃ (tl3 : List (Int × Int)) (before4 : Int), y = pre ++ tl3 ∧ hear_Way_l3 l p k tl3 before4 = some before3 ∧ L1 = ((b92, .cells #[.int .i64 k] 3 (0, 0)) :: ((b76, .cells #[.int .i64 before4] 3 (0, 0)) :: ((b58, .cells #[.int .i64 p] 3 (0, 0)) :: ((b38, .cells #[.slice a32 n36 c33] 28 (0, 0)) :: ((b1, .cells #[.int .i64 wide, .slice plots_a plots.length plots_c] 24 (0, 0)) :: (Lb34 ++ (Lb54 ++ [])))))))) (fun _ _ _ => False) ?_ ?_ ?_ ?_ ?_ ?_
             · rintro pre F1 F2 L1 ⟨tl3, before4, hs101, r102, rfl⟩ hx; exact ⟨tl3, before4, hs101, r102, rfl⟩
             · intro c F1 F2 L1 h hx; exact h
             · exact ⟨_, before2, rfl, r94, rfl⟩
             · rintro l103 wr104 Fr105 Xr106 Ha107 Hb108 hnb109 hH113 pre x2 tl4 hxs112 F110 _ hF111 ⟨tl3, before4, hs101, r114, rfl⟩
               obtain rfl := rest_head hs101 hxs112
               rw [hear_Way_l3] at r114
               replace hz35 := hz35.mono (iE_ok _) hF111
               refine shW_env [(2, .int .i64 stand), (4, .pointer (some ⟨b1, 0, none⟩)), (12, .pointer (some ⟨b17, 0, none⟩)), (14, .pointer (some ⟨b38, 0, none⟩)), (15, .slice a52 n56 c53), (16, .pointer (some ⟨b58, 0, none⟩)), (17, .pointer (some ⟨b76, 0, none⟩)), (18, .pointer (some ⟨b92, 0, none⟩)), (49, .int .i64 (plots.length : Int)), (50, .int .i64 k), (56, .int .i64 x2.1), (57, .int .i64 x2.2)] (by exact (sc rfl (sc rfl (sc rfl (sc rfl (sc rfl (sc rfl (sc rfl (sc rfl (sc rfl (sc rfl (sc rfl (sc rfl (sn _)))))))))))))) ?_
               refine wsr (oa rfl rfl (shO_nil (shW_region (oa rfl rfl (shO_nil ?_)))))
               refine ⟨rfl, ?_⟩
               refine shW_block ?_
               obtain ⟨k2, h115, r116⟩ := b1_ok r114; clear r114
               refine shW_join (fun e1 F1 L1 => F110 = F1 ∧ L1 = ((b92, .cells #[.int .i64 k] 3 (0, 0)) :: ((b76, .cells #[.int .i64 before4] 3 (0, 0)) :: ((b58, .cells #[.int .i64 p] 3 (0, 0)) :: ((b38, .cells #[.slice a32 n36 c33] 28 (0, 0)) :: ((b1, .cells #[.int .i64 wide, .slice plots_a plots.length plots_c] 24 (0, 0)) :: (Lb34 ++ (Lb54 ++ []))))))) ∧ e1.sub [(2, .int .i64 stand), (4, .pointer (some ⟨b1, 0, none⟩)), (12, .pointer (some ⟨b17, 0, none⟩)), (14, .pointer (some ⟨b38, 0, none⟩)), (15, .slice a52 n56 c53), (16, .pointer (some ⟨b58, 0, none⟩)), (17, .pointer (some ⟨b76, 0, none⟩)), (18, .pointer (some ⟨b92, 0, none⟩)), (49, .int .i64 (plots.length : Int)), (50, .int .i64 k), (56, .int .i64 x2.1), (57, .int .i64 x2.2), (80, .bool k2)]) ?_ ?_
               · clear r116
                 refine shW_draw (by kernel_rfl) (by kernel_rfl) (by kernel_rfl) ?_
                 refine qm rfl rfl ?_
                 refine qv (v_load Tryz.isAgg3 rfl (Has.own 2 rfl) rfl) rfl ?_
                 refine qv (v_eql rfl rfl) rfl ?_
                 refine qm rfl rfl ?_
                 by_cases c117 : x2.1 = p
                 · have r118 := ite_t h115 c117; clear h115
                   refine shQ_on (b := true) 61 rfl (Env.isT rfl c117) ?_
                   refine qv (v_load Tryz.isAgg28 rfl (Has.own 3 rfl) rfl) rfl ?_
                   refine shQ_on (b := true) 61 rfl (Env.isT rfl c117) ?_
                   refine qv (v_load Tryz.isAgg3 rfl (Has.own 0 rfl) rfl) rfl ?_
                   refine shQ_on (b := true) 61 rfl (Env.isT rfl c117) ?_
                   obtain ⟨x3, g119, hx120, r121⟩ := ix_ok r118; clear r118
                   obtain ⟨b122, o123, c124, vs125, ha126, hs127, hle128, rfl, hl129, hc130⟩ := SlR.at (iE_ok _) hz35 (L := (b92, .cells #[.int .i64 k] 3 (0, 0)) :: ((b76, .cells #[.int .i64 before4] 3 (0, 0)) :: ((b58, .cells #[.int .i64 p] 3 (0, 0)) :: ((b38, .cells #[.slice a32 n36 c33] 28 (0, 0)) :: ((b1, .cells #[.int .i64 wide, .slice plots_a plots.length plots_c] 24 (0, 0)) :: (Lb34 ++ (Lb54 ++ []))))))) (fC (fC (fC (fC (fC fP))))) g119.1 hx120
                   refine qv (v_indexO Tryz.underlying28 Tryz.sizeOf3 rfl ha126 rfl (SlR.idx hz35 g119)) rfl ?_
                   refine shQ_on (b := true) 61 rfl (Env.isT rfl c117) ?_
                   refine qv (v_load Tryz.isAgg3 rfl hs127 (hc130 0 (by decide))) rfl ?_
                   refine shQ_on (b := true) 61 rfl (Env.isT rfl c117) ?_
                   refine qv (v_neq rfl rfl) rfl ?_
                   refine qv (v_pick_t (evD_true rfl c117) rfl) rfl ?_
                   refine qm rfl rfl ?_
                   by_cases c131 : x3 ≠ (-1)
                   · have r132 := ite_t r121 c131; clear r121
                     refine shQ_on (b := true) 68 rfl (Env.isT rfl c131) ?_
                     refine qv (v_load Tryz.isAgg28 rfl (Has.own 3 rfl) rfl) rfl ?_
                     refine shQ_on (b := true) 68 rfl (Env.isT rfl c131) ?_
                     refine qv (v_load Tryz.isAgg3 rfl (Has.own 0 rfl) rfl) rfl ?_
                     refine shQ_on (b := true) 68 rfl (Env.isT rfl c131) ?_
                     obtain ⟨b133, o134, c135, vs136, ha137, hs138, hle139, rfl, hl140, hc141⟩ := SlR.at (iE_ok _) hz35 (L := (b92, .cells #[.int .i64 k] 3 (0, 0)) :: ((b76, .cells #[.int .i64 before4] 3 (0, 0)) :: ((b58, .cells #[.int .i64 p] 3 (0, 0)) :: ((b38, .cells #[.slice a32 n36 c33] 28 (0, 0)) :: ((b1, .cells #[.int .i64 wide, .slice plots_a plots.length plots_c] 24 (0, 0)) :: (Lb34 ++ (Lb54 ++ []))))))) (fC (fC (fC (fC (fC fP))))) g119.1 hx120
                     refine qv (v_indexO Tryz.underlying28 Tryz.sizeOf3 rfl ha137 rfl (SlR.idx hz35 g119)) rfl ?_
                     refine shQ_on (b := true) 68 rfl (Env.isT rfl c131) ?_
                     refine qv (v_load Tryz.isAgg3 rfl hs138 (hc141 0 (by decide))) rfl ?_
                     refine shQ_on (b := true) 68 rfl (Env.isT rfl c131) (qm rfl rfl (shQ_on (b := true) 68 rfl (Env.isT rfl c131) ?_))
                     obtain ⟨g142, r143⟩ := gd_ok r132; clear r132
                     refine qv (v_add rfl rfl g142) rfl ?_
                     refine shQ_on (b := true) 68 rfl (Env.isT rfl c131) ?_
                     refine qv (v_load Tryz.isAgg28 rfl (Has.own 3 rfl) rfl) rfl ?_
                     refine shQ_on (b := true) 68 rfl (Env.isT rfl c131) ?_
                     refine qv (v_load Tryz.isAgg3 rfl (Has.own 2 rfl) rfl) rfl ?_
                     refine shQ_on (b := true) 68 rfl (Env.isT rfl c131) ?_
                     obtain ⟨x4, g144, hx145, r146⟩ := ix_ok r143; clear r143
                     obtain ⟨b147, o148, c149, vs150, ha151, hs152, hle153, rfl, hl154, hc155⟩ := SlR.at (iE_ok _) hz35 (L := (b92, .cells #[.int .i64 k] 3 (0, 0)) :: ((b76, .cells #[.int .i64 before4] 3 (0, 0)) :: ((b58, .cells #[.int .i64 p] 3 (0, 0)) :: ((b38, .cells #[.slice a32 n36 c33] 28 (0, 0)) :: ((b1, .cells #[.int .i64 wide, .slice plots_a plots.length plots_c] 24 (0, 0)) :: (Lb34 ++ (Lb54 ++ []))))))) (fC (fC (fC (fC (fC fP))))) g144.1 hx145
                     refine qv (v_indexO Tryz.underlying28 Tryz.sizeOf3 rfl ha151 rfl (SlR.idx hz35 g144)) rfl ?_
                     refine shQ_on (b := true) 68 rfl (Env.isT rfl c131) ?_
                     refine qv (v_load Tryz.isAgg3 rfl hs152 (hc155 0 (by decide))) rfl ?_
                     refine shQ_on (b := true) 68 rfl (Env.isT rfl c131) ?_
                     refine qv (v_eql rfl rfl) rfl ?_
                     refine qv (v_pick_t (evD_true rfl c131) rfl) rfl ?_
                     refine shQ_nil ?_
                     obtain rfl := inj1 r146
                     exact mi kr ⟨rfl, rfl, (sc rfl (sc rfl (sc rfl (sc rfl (sc rfl (sc rfl (sc rfl (sc rfl (sc rfl (sc rfl (sc rfl (sc rfl (sc rfl (sn _))))))))))))))⟩
                   have r156 := ite_f r121 c131; clear r121
                   refine shQ_off (b' := false) 68 rfl (Env.isF rfl c131) rfl rfl (shQ_off (b' := false) 68 rfl (Env.isF rfl c131) rfl rfl (shQ_off (b' := false) 68 rfl (Env.isF rfl c131) rfl rfl (shQ_off (b' := false) 68 rfl (Env.isF rfl c131) rfl rfl (shQ_off (b' := false) 68 rfl (Env.isF rfl c131) rfl rfl (shQ_off (b' := false) 68 rfl (Env.isF rfl c131) rfl rfl (shQ_off (b' := false) 68 rfl (Env.isF rfl c131) rfl rfl (shQ_off (b' := false) 68 rfl (Env.isF rfl c131) rfl rfl (shQ_off (b' := false) 68 rfl (Env.isF rfl c131) rfl rfl (shQ_off (b' := false) 68 rfl (Env.isF rfl c131) rfl rfl ?_)))))))))
                   refine shQ_off (b' := false) 68 rfl (Env.isF rfl c131) rfl rfl ?_
                   refine qv (v_pick_f (evD_false rfl c131) rfl) rfl ?_
                   refine shQ_nil ?_
                   obtain rfl := inj1 r156
                   exact mi kr ⟨rfl, rfl, (sc rfl (sc rfl (sc rfl (sc rfl (sc rfl (sc rfl (sc rfl (sc rfl (sc rfl (sc rfl (sc rfl (sc rfl (sc rfl (sn _))))))))))))))⟩
                 have r157 := ite_f h115 c117; clear h115
                 refine shQ_off (b' := false) 61 rfl (Env.isF rfl c117) rfl rfl (shQ_off (b' := false) 61 rfl (Env.isF rfl c117) rfl rfl (shQ_off (b' := false) 61 rfl (Env.isF rfl c117) rfl rfl (shQ_off (b' := false) 61 rfl (Env.isF rfl c117) rfl rfl (shQ_off (b' := false) 61 rfl (Env.isF rfl c117) rfl rfl ?_))))
                 refine qv (v_pick_f (evD_false rfl c117) rfl) rfl ?_
                 refine qm rfl rfl (shQ_off (b' := false) 68 rfl rfl rfl rfl (shQ_off (b' := false) 68 rfl rfl rfl rfl (shQ_off (b' := false) 68 rfl rfl rfl rfl (shQ_off (b' := false) 68 rfl rfl rfl rfl (shQ_off (b' := false) 68 rfl rfl rfl rfl (shQ_off (b' := false) 68 rfl rfl rfl rfl (shQ_off (b' := false) 68 rfl rfl rfl rfl (shQ_off (b' := false) 68 rfl rfl rfl rfl (shQ_off (b' := false) 68 rfl rfl rfl rfl ?_)))))))))
                 refine shQ_off (b' := false) 68 rfl rfl rfl rfl (shQ_off (b' := false) 68 rfl rfl rfl rfl ?_)
                 refine qv (v_pick_f rfl rfl) rfl ?_
                 refine shQ_nil ?_
                 obtain rfl := inj1 r157
                 exact mi kr ⟨rfl, rfl, (sc rfl (sc rfl (sc rfl (sc rfl (sc rfl (sc rfl (sc rfl (sc rfl (sc rfl (sc rfl (sc rfl (sc rfl (sc rfl (sn _))))))))))))))⟩
               rintro e1 _ _ ⟨rfl, rfl, he158⟩
               refine shW_env _ he158 ?_; clear he158
               refine shW_cond rfl (fun c159 => ?_) (fun c159 => ?_)
               · have r160 := bt r116 c159; clear r116
                 refine shW_region ?_
                 refine ov (v_load Tryz.isAgg3 rfl (Has.own 0 rfl) rfl) rfl ?_
                 refine o_store (i := 1) Tryz.sizeOf3 rfl rfl rfl rfl (Nat.le_of_ble_eq_true rfl) ?_
                 refine shO_L (L' := (b92, .cells #[.int .i64 k] 3 (0, 0)) :: ((b76, .cells #[.int .i64 k] 3 (0, 0)) :: ((b58, .cells #[.int .i64 p] 3 (0, 0)) :: ((b38, .cells #[.slice a32 n36 c33] 28 (0, 0)) :: ((b1, .cells #[.int .i64 wide, .slice plots_a plots.length plots_c] 24 (0, 0)) :: (Lb34 ++ (Lb54 ++ []))))))) rfl ?_
                 refine shO_nil (inBlock_n (id := 5) ?_)
                 refine ⟨(b92, .cells #[.int .i64 k] 3 (0, 0)) :: ((b76, .cells #[.int .i64 k] 3 (0, 0)) :: ((b58, .cells #[.int .i64 p] 3 (0, 0)) :: ((b38, .cells #[.slice a32 n36 c33] 28 (0, 0)) :: ((b1, .cells #[.int .i64 wide, .slice plots_a plots.length plots_c] 24 (0, 0)) :: (Lb34 ++ (Lb54 ++ [])))))), sr, ?_⟩; exact ⟨_, k, (by rw [hxs112]; simp), r160, rfl⟩
               have r161 := bf r116 c159; clear r116
               refine shW_skip (inBlock_n (id := 5) ?_)
               refine ⟨(b92, .cells #[.int .i64 k] 3 (0, 0)) :: ((b76, .cells #[.int .i64 before4] 3 (0, 0)) :: ((b58, .cells #[.int .i64 p] 3 (0, 0)) :: ((b38, .cells #[.slice a32 n36 c33] 28 (0, 0)) :: ((b1, .cells #[.int .i64 wide, .slice plots_a plots.length plots_c] 24 (0, 0)) :: (Lb34 ++ (Lb54 ++ [])))))), sr, ?_⟩; exact ⟨_, before4, (by rw [hxs112]; simp), r161, rfl⟩
             · rintro F162 _ hF163 ⟨tl3, before4, hs101, r164, rfl⟩
               obtain rfl := rest_nil hs101; rw [hear_Way_l3] at r164
               refine inBlock_n (id := 4) (inBlock_n (id := 3) ?_)
               obtain rfl := inj1 r164
               exact mi (kd kr) ⟨(hF96.trans hF163), rfl, (sc rfl (sc rfl (sc rfl (sc rfl (sc rfl (sc rfl (sc rfl (sc rfl (sc rfl (sn _))))))))))⟩
             intro c F1 L1 hx h; exact h.elim
           rintro e1 F166 _ ⟨hF167, rfl, he165⟩
           refine shW_env _ he165 ?_; clear he165
           replace h_plots := h_plots.mono (iE_ok _) hF167
           refine shW_region ?_
           refine ov (v_add rfl rfl (Lst.r64 hk79 c86 (RowR.lt h_plots))) rfl ?_
           refine om rfl rfl (shO_nil ?_)
           subst hn80; exact le kr ⟨_, _, rfl, hk87, before3, r91, (hF84.trans hF167), rfl, (sc rfl (sc rfl (sc rfl (sc rfl (sc rfl (sc rfl (sc rfl (sc rfl (sc rfl (sn _))))))))))⟩
         obtain rfl := Lst.zero hk79 c86
         rw [hear_Way_l2] at r81
         refine shW_exit (andThen_exit (andThen_exit ?_))
         refine inBlock_exit ?_
         obtain rfl := inj1 r81
         exact mi kr ⟨hF84, rfl, (sc rfl (sc rfl (sc rfl (sc rfl (sc rfl (sc rfl (sc rfl (sn _))))))))⟩
       rintro e1 F169 _ ⟨hF170, rfl, he168⟩
       refine shW_env _ he168 ?_; clear he168
       replace hz55 := hz55.mono (iE_ok _) hF170
       refine wsr ?_
       refine ov (v_load Tryz.isAgg3 rfl (Has.own 0 rfl) rfl) rfl ?_
       refine o_store (i := 1) Tryz.sizeOf3 rfl rfl rfl rfl (Nat.le_of_ble_eq_true rfl) ?_
       refine shO_L (L' := (b76, .cells #[.int .i64 before] 3 (0, 0)) :: ((b58, .cells #[.int .i64 before] 3 (0, 0)) :: ((b38, .cells #[.slice a32 n36 c33] 28 (0, 0)) :: ((b1, .cells #[.int .i64 wide, .slice plots_a plots.length plots_c] 24 (0, 0)) :: (Lb34 ++ (Lb54 ++ [])))))) rfl ?_
       refine shO_nil (shW_region (om rfl rfl ?_))
       refine ov (v_load Tryz.isAgg3 rfl (Has.own 1 rfl) rfl) rfl ?_
       refine o_buildSlice (cs := #[.int .i64 before]) rfl rfl (buildSlice_all slt_28 [.int .i64 before] rfl (by decide) (by simp [Value.cells]) (by decide)) ?_; intro b171 hb171
       obtain ⟨out4, h172, g173, r174⟩ := ap_ok r78; clear r78
       refine o_appZ (xs := out2) (ys := [before]) (zs := out4) rfl slt_28 rfl rfl (Nat.le_refl _) (fun _ => .c (.c (.c (.c (.c (.s .h)))))) hz55 (SrcR.box (vss := [[.int .i64 before]]) (ys := [before]) 0 rfl (iE_ok _) (.cons rfl .nil) rfl rfl) h172 g173 (by decide) ?_; intro a175 n179 c176 Lb177 hz178
       refine kO (kd kr) ?_
       refine oa rfl rfl (shO_nil (inBlock_n (id := 1) ?_))
       obtain ⟨rfl, rfl⟩ := inj2 r174
       exact mi (kd kr) ⟨a175, n179, c176, Lb177, hF170, rfl, (sc rfl (sc rfl (sc rfl (sc rfl (sc rfl (sc rfl (sn _))))))), hz178⟩
     rintro e1 F182 _ ⟨a68, n72, c69, Lb70, hF183, rfl, he181, hz71⟩
     refine shW_env _ he181 ?_; clear he181
     refine wsr ?_
     refine ov (v_load Tryz.isAgg3 rfl (Has.own 0 rfl) rfl) rfl ?_
     refine shO_nil (shW_region ?_)
     refine o_alloc rfl Tryz.zeroValue3 ?_; intro b184 hb184
     refine o_store (i := 0) Tryz.sizeOf3 rfl rfl rfl rfl (Nat.le_of_ble_eq_true rfl) ?_
     refine shO_L (L' := (b184, .cells #[.int .i64 p2] 3 (0, 0)) :: ((b58, .cells #[.int .i64 p2] 3 (0, 0)) :: ((b38, .cells #[.slice a32 n36 c33] 28 (0, 0)) :: ((b1, .cells #[.int .i64 wide, .slice plots_a plots.length plots_c] 24 (0, 0)) :: (Lb34 ++ (Lb70 ++ [])))))) rfl ?_
     refine shO_nil ?_
     exact le (kc (kd kr)) ⟨out3, p2, a68, n72, c69, Lb70, b184, r75, (hF65.trans hF183), rfl, (sc rfl (sc rfl (sc rfl (sc rfl (sc rfl (sc rfl (sn _))))))), hz71, hb184⟩
   have r185 := ite_f r62 c66; clear r62
   refine shW_exit (andThen_exit (andThen_exit ?_))
   refine inBlock_exit ?_
   obtain rfl := inj1 r185
   exact mi (kd (kd (kd (kx kr)))) ⟨a52, n56, c53, Lb54, hF65, rfl, (sc rfl (sn _)), hz55⟩
 rintro e1 F187 _ ⟨a43, n47, c44, Lb45, hF188, rfl, he186, hz46⟩
 refine shW_env _ he186 ?_; clear he186
 refine wsr (om rfl rfl ?_)
 obtain ⟨s_, h189, r190⟩ := b1_ok r50; clear r50
 refine o_callG (Lb := Lb45 ++ []) (Lr := []) rfl Tryz.call85 rfl rfl rfl (pT pR (lp (ln rfl))) (slices_Reverse_int_int_w hz46 h189) ?_; rintro _ F191 _ hF192 hd194 hn193 ⟨Lb195, rfl, rfl, hz196⟩
 refine shO_L (lp (ln rfl)) ?_
 refine nsr (om rfl rfl (oa rfl rfl (oa rfl rfl (shO_nil (shW_ret ?_)))))
 refine q_res2 Tryz.results37 (res_tmp rfl) (res_tmp rfl) (sr) ?_
 obtain ⟨rfl, rfl⟩ := inj2 r190
 exact ⟨_, _, _, _, rfl, rfl, hz196.any⟩
set_option maxHeartbeats 1000000 in
theorem oyezlaw01_awake_w {F : FS} {r : Bool} (hr : oyezlaw01_awake = some r) :
    SpecV Tryz.prog 6 #[] F (.bool r) := by
 refine spec_of_shW (args := []) Tryz.func6 rfl Tryz.ntmps6 (Nat.le_of_ble_eq_true rfl) ?_
 intro K _ _; rw [oyezlaw01_awake] at hr
 refine wsr (oa rfl rfl (nsr ?_))
 refine o_buildSlice (cs := #[.string (sB [115, 104, 115, 104])]) rfl rfl (buildSlice_all slt_115 [.string (sB [115, 104, 115, 104])] rfl (by decide) (by simp [Value.cells]) (by decide)) ?_; intro b1 hb1
 refine shO_freeze 0 rfl hb1 ?_; intro F2 hF3 hz4
 refine shO_L (L' := []) rfl ?_
 have h5 : RowR 1 sE F2 (some ⟨b1, 0, none⟩) 1 [[115, 104, 115, 104]] := RowR.of_block sE_ok (vss := [[.string (sB [115, 104, 115, 104])]]) (xs := [[115, 104, 115, 104]]) hz4 (.cons rfl .nil) rfl (by simp [maxLen])
 obtain ⟨n, l, h6, r7⟩ := b2_ok hr; clear hr
 refine o_call0 rfl Tryz.call33 rfl rfl rfl (oyezlaw01_Drawn_w h5 h6) ?_; rintro _ F8 _ hF9 hn10 ⟨a12, n16, c13, Lb14, rfl, rfl, hz15⟩
 replace hz15 := hz15.new fun p hp => hn10 p (by simp [hp])
 refine shO_L (lp (ln rfl)) ?_
 refine o_buildSlice (cs := #[.string (sB [104, 115, 104]), .string (sB [115, 119, 115])]) rfl rfl (buildSlice_all slt_115 [.string (sB [104, 115, 104]), .string (sB [115, 119, 115])] rfl (by decide) (by simp [Value.cells]) (by decide)) ?_; intro b18 hb18
 refine shO_freeze 0 rfl hb18 ?_; intro F19 hF20 hz21
 refine shO_L (L' := Lb14 ++ []) rfl ?_
 replace hz15 := hz15.mono (iE_ok _) hF20
 have h22 : RowR 1 sE F19 (some ⟨b18, 0, none⟩) 2 [[104, 115, 104], [115, 119, 115]] := RowR.of_block sE_ok (vss := [[.string (sB [104, 115, 104])], [.string (sB [115, 119, 115])]]) (xs := [[104, 115, 104], [115, 119, 115]]) hz21 (.cons rfl (.cons rfl .nil)) rfl (by simp [maxLen])
 obtain ⟨n2, l2, h23, r24⟩ := b2_ok r7; clear r7
 refine o_call0 rfl Tryz.call33 rfl rfl rfl (oyezlaw01_Drawn_w h22 h23) ?_; rintro _ F25 _ hF26 hn27 ⟨a29, n33, c30, Lb31, rfl, rfl, hz32⟩
 replace hz15 := hz15.mono (iE_ok _) hF26
 replace hz32 := hz32.new fun p hp => hn27 p (by simp [hp])
 refine shO_L (lp (ln rfl)) ?_
 refine o_alloc rfl Tryz.zeroValue24 ?_; intro b35 hb35
 refine o_alloc rfl Tryz.zeroValue24 ?_; intro b36 hb36
 refine o_storeA (i := 1) Tryz.sizeOf24 rfl rfl rfl (by simp [Value.oneCell']) rfl (Nat.le_of_ble_eq_true rfl) ?_
 refine shO_L (L' := (b36, .cells #[.int .i64 0, .slice none 0 0] 24 (0, 0)) :: ((b35, .cells #[.int .i64 n, .slice a12 n16 c13] 24 (0, 0)) :: (Lb31 ++ (Lb14 ++ [])))) rfl ?_
 refine o_storeA (i := 0) Tryz.sizeOf24 rfl rfl rfl (by simp [Value.oneCell']) rfl (Nat.le_of_ble_eq_true rfl) ?_
 refine shO_L (L' := (b36, .cells #[.int .i64 n2, .slice a29 n33 c30] 24 (0, 0)) :: ((b35, .cells #[.int .i64 n, .slice a12 n16 c13] 24 (0, 0)) :: (Lb31 ++ (Lb14 ++ [])))) rfl ?_
 refine nsr ?_
 refine ov (v_loadA (cs := #[.int .i64 n, .slice a12 n16 c13]) Tryz.isAgg24 Tryz.sizeOf24 rfl (Has.own 1 rfl) (Nat.le_of_ble_eq_true rfl) rfl) rfl ?_
 obtain ⟨l3, n3, h37, r38⟩ := b2_ok r24; clear r24
 refine o_callTO (Lb := []) (Lt := Lb14 ++ []) (Lr := (b36, .cells #[.int .i64 n2, .slice a29 n33 c30] 24 (0, 0)) :: ((b35, .cells #[.int .i64 n, .slice a12 n16 c13] 24 (0, 0)) :: (Lb31 ++ []))) rfl Tryz.call34 rfl rfl rfl (pT ((fC (fC (fS fP))).trans (pA pR)) (ln (lp (ln rfl)))) (fun F2 h2 h3 => by rw [(SlR.caps hz15).1]; exact hear_Needs_w (hz15.row (iE_ok _) h2 (fun p hp => h3 p (List.mem_append_left _ hp))) h37) (fun _ _ _ _ hq => by obtain ⟨a43, n47, c44, Lb45, rfl, rfl, hz46⟩ := hq; exact ⟨_, _, _, _, rfl, rfl, hz46.flat (fun _ _ h => h)⟩) ?_; rintro _ F39 _ hF40 hd42 hn41 ⟨a43, n47, c44, Lb45, rfl, rfl, hz46⟩
 replace hz15 := hz15.mono (iE_ok _) hF40
 replace hz32 := hz32.mono (iE_ok _) hF40
 have hn49 := newp (Lb' := []) (by rfl) hd42 hn41
 replace hz46 := hz46.new fun p hp => hn49 p (by simp [hp])
 refine shO_L (lp (ln (lp (ln rfl)))) ?_
 refine kO (kf (fS (fS fO)) (kf (fS (fS fO)) kr)) ?_
 refine om rfl rfl (ox rfl rfl rfl (ox rfl rfl rfl (oa rfl rfl (oa rfl rfl (nsr ?_)))))
 refine ov (v_loadA (cs := #[.int .i64 n, .slice a12 n16 c13]) Tryz.isAgg24 Tryz.sizeOf24 rfl (Has.own 1 rfl) (Nat.le_of_ble_eq_true rfl) rfl) rfl ?_
 refine ov (v_build (v := .agg #[.int .i64 0, .int .i64 5]) rfl (by intro w; kernel_rfl)) rfl ?_
 refine o_buildSlice (cs := #[.int .i64 1, .int .i64 3]) rfl rfl (buildSlice_all slt_28 [.int .i64 1, .int .i64 3] rfl (by decide) (by simp [Value.cells]) (by decide)) ?_; intro b50 hb50
 refine shO_freeze 0 rfl hb50 ?_; intro F51 hF52 hz53
 refine shO_L (L' := (b36, .cells #[.int .i64 n2, .slice a29 n33 c30] 24 (0, 0)) :: ((b35, .cells #[.int .i64 n, .slice a12 n16 c13] 24 (0, 0)) :: (Lb45 ++ (Lb14 ++ (Lb31 ++ []))))) rfl ?_
 replace hz15 := hz15.mono (iE_ok _) hF52
 replace hz32 := hz32.mono (iE_ok _) hF52
 replace hz46 := hz46.mono (iE_ok _) hF52
 have h54 : RowR 1 (iE .i64) F51 (some ⟨b50, 0, none⟩) 2 [1, 3] := RowR.of_block (iE_ok _) (vss := [[.int .i64 1], [.int .i64 3]]) (xs := [1, 3]) hz53 (.cons rfl (.cons rfl .nil)) rfl (by simp [maxLen])
 obtain ⟨l4, n4, h55, r56⟩ := b2_ok r38; clear r38
 refine o_callTO (Lb := []) (Lt := Lb14 ++ []) (Lr := (b36, .cells #[.int .i64 n2, .slice a29 n33 c30] 24 (0, 0)) :: ((b35, .cells #[.int .i64 n, .slice a12 n16 c13] 24 (0, 0)) :: (Lb45 ++ (Lb31 ++ [])))) rfl Tryz.call10 rfl rfl rfl (pT ((fC (fC (fS fP))).trans (pA pR)) (ln (lp (ln rfl)))) (fun F2 h2 h3 => by rw [(SlR.caps hz15).1]; exact hear_Fewest_w (hz15.row (iE_ok _) h2 (fun p hp => h3 p (List.mem_append_left _ hp))) (h54.mono (iE_ok _) h2) h55) (fun _ _ _ _ hq => by obtain ⟨a61, n65, c62, Lb63, rfl, rfl, hz64⟩ := hq; exact ⟨_, _, _, _, rfl, rfl, hz64.flat (fun _ _ h => h)⟩) ?_; rintro _ F57 _ hF58 hd60 hn59 ⟨a61, n65, c62, Lb63, rfl, rfl, hz64⟩
 replace hz15 := hz15.mono (iE_ok _) hF58
 replace hz32 := hz32.mono (iE_ok _) hF58
 replace hz46 := hz46.mono (iE_ok _) hF58
 have hn67 := newp (Lb' := []) (by rfl) hd60 hn59
 replace hz64 := hz64.new fun p hp => hn67 p (by simp [hp])
 refine shO_L (lp (ln (lp (ln rfl)))) ?_
 refine kO (kf (fS (fS fO)) (kf (fS (fS fO)) kr)) ?_
 refine om rfl rfl (ox rfl rfl rfl (ox rfl rfl rfl (oa rfl rfl (oa rfl rfl (nsr ?_)))))
 refine ov (v_loadA (cs := #[.int .i64 n2, .slice a29 n33 c30]) Tryz.isAgg24 Tryz.sizeOf24 rfl (Has.own 0 rfl) (Nat.le_of_ble_eq_true rfl) rfl) rfl ?_
 refine ov (v_build (v := .agg #[.int .i64 0, .int .i64 3]) rfl (by intro w; kernel_rfl)) rfl ?_
 refine o_buildSlice (cs := #[.int .i64 0, .int .i64 2]) rfl rfl (buildSlice_all slt_28 [.int .i64 0, .int .i64 2] rfl (by decide) (by simp [Value.cells]) (by decide)) ?_; intro b68 hb68
 refine shO_freeze 0 rfl hb68 ?_; intro F69 hF70 hz71
 refine shO_L (L' := (b36, .cells #[.int .i64 n2, .slice a29 n33 c30] 24 (0, 0)) :: ((b35, .cells #[.int .i64 n, .slice a12 n16 c13] 24 (0, 0)) :: (Lb63 ++ (Lb14 ++ (Lb45 ++ (Lb31 ++ [])))))) rfl ?_
 replace hz15 := hz15.mono (iE_ok _) hF70
 replace hz32 := hz32.mono (iE_ok _) hF70
 replace hz46 := hz46.mono (iE_ok _) hF70
 replace hz64 := hz64.mono (iE_ok _) hF70
 have h72 : RowR 1 (iE .i64) F69 (some ⟨b68, 0, none⟩) 2 [0, 2] := RowR.of_block (iE_ok _) (vss := [[.int .i64 0], [.int .i64 2]]) (xs := [0, 2]) hz71 (.cons rfl (.cons rfl .nil)) rfl (by simp [maxLen])
 obtain ⟨l5, n5, h73, r74⟩ := b2_ok r56; clear r56
 refine o_callTO (Lb := []) (Lt := Lb31 ++ []) (Lr := (b36, .cells #[.int .i64 n2, .slice a29 n33 c30] 24 (0, 0)) :: ((b35, .cells #[.int .i64 n, .slice a12 n16 c13] 24 (0, 0)) :: (Lb63 ++ (Lb14 ++ (Lb45 ++ []))))) rfl Tryz.call10 rfl rfl rfl (pT ((fC (fC (fS (fS (fS fP))))).trans (pA pR)) (ln (lp (ln rfl)))) (fun F2 h2 h3 => by rw [(SlR.caps hz32).1]; exact hear_Fewest_w (hz32.row (iE_ok _) h2 (fun p hp => h3 p (List.mem_append_left _ hp))) (h72.mono (iE_ok _) h2) h73) (fun _ _ _ _ hq => by obtain ⟨a79, n83, c80, Lb81, rfl, rfl, hz82⟩ := hq; exact ⟨_, _, _, _, rfl, rfl, hz82.flat (fun _ _ h => h)⟩) ?_; rintro _ F75 _ hF76 hd78 hn77 ⟨a79, n83, c80, Lb81, rfl, rfl, hz82⟩
 replace hz15 := hz15.mono (iE_ok _) hF76
 replace hz32 := hz32.mono (iE_ok _) hF76
 replace hz46 := hz46.mono (iE_ok _) hF76
 replace hz64 := hz64.mono (iE_ok _) hF76
 have hn85 := newp (Lb' := []) (by rfl) hd78 hn77
 replace hz82 := hz82.new fun p hp => hn85 p (by simp [hp])
 refine shO_L (lp (ln (lp (ln rfl)))) ?_
 refine kO (kf (fS (fS fO)) (kf (fS (fS fO)) kr)) ?_
 refine om rfl rfl (ox rfl rfl rfl (ox rfl rfl rfl (oa rfl rfl (oa rfl rfl (nsr ?_)))))
 refine ov (v_loadA (cs := #[.int .i64 n2, .slice a29 n33 c30]) Tryz.isAgg24 Tryz.sizeOf24 rfl (Has.own 0 rfl) (Nat.le_of_ble_eq_true rfl) rfl) rfl ?_
 refine o_buildSlice (cs := #[.int .i64 3, .int .i64 0, .int .i64 3, .int .i64 5, .int .i64 0, .int .i64 5]) rfl rfl (buildSlice_all slt_28 [.int .i64 3, .int .i64 0, .int .i64 3, .int .i64 5, .int .i64 0, .int .i64 5] rfl (by decide) (by simp [Value.cells]) (by decide)) ?_; intro b86 hb86
 refine shO_freeze 0 rfl hb86 ?_; intro F87 hF88 hz89
 refine shO_L (L' := (b36, .cells #[.int .i64 n2, .slice a29 n33 c30] 24 (0, 0)) :: ((b35, .cells #[.int .i64 n, .slice a12 n16 c13] 24 (0, 0)) :: (Lb81 ++ (Lb31 ++ (Lb63 ++ (Lb14 ++ (Lb45 ++ []))))))) rfl ?_
 replace hz15 := hz15.mono (iE_ok _) hF88
 replace hz32 := hz32.mono (iE_ok _) hF88
 replace hz46 := hz46.mono (iE_ok _) hF88
 replace hz64 := hz64.mono (iE_ok _) hF88
 replace hz82 := hz82.mono (iE_ok _) hF88
 have h90 : RowR 1 (iE .i64) F87 (some ⟨b86, 0, none⟩) 6 [3, 0, 3, 5, 0, 5] := RowR.of_block (iE_ok _) (vss := [[.int .i64 3], [.int .i64 0], [.int .i64 3], [.int .i64 5], [.int .i64 0], [.int .i64 5]]) (xs := [3, 0, 3, 5, 0, 5]) hz89 (.cons rfl (.cons rfl (.cons rfl (.cons rfl (.cons rfl (.cons rfl .nil)))))) rfl (by simp [maxLen])
 obtain ⟨ok, n6, h91, r92⟩ := b2_ok r74; clear r74
 refine o_callT (Lt := Lb31 ++ []) (Lr := (b36, .cells #[.int .i64 n2, .slice a29 n33 c30] 24 (0, 0)) :: ((b35, .cells #[.int .i64 n, .slice a12 n16 c13] 24 (0, 0)) :: (Lb81 ++ (Lb63 ++ (Lb14 ++ (Lb45 ++ [])))))) rfl Tryz.call35 rfl rfl rfl (pT ((fC (fC (fS fP))).trans (pA pR)) (lp (ln rfl))) (fun F2 h2 h3 => by rw [(SlR.caps hz32).1]; exact hear_Holds_w (hz32.row (iE_ok _) h2 (fun p hp => h3 p (List.mem_append_left _ hp))) (h90.mono (iE_ok _) h2) h91) ?_
 refine om rfl rfl (ox rfl rfl rfl (ox rfl rfl rfl (oa rfl rfl (oa rfl rfl (shO_nil (shW_seq ?_))))))
 obtain ⟨k, h93, r94⟩ := b1_ok r92; clear r92
 refine shW_join (fun e1 F1 L1 => FExt F87 F1 ∧ L1 = ((b36, .cells #[.int .i64 n2, .slice a29 n33 c30] 24 (0, 0)) :: ((b35, .cells #[.int .i64 n, .slice a12 n16 c13] 24 (0, 0)) :: (Lb14 ++ (Lb31 ++ [])))) ∧ e1.sub [(1, .pointer (some ⟨b35, 0, none⟩)), (2, .pointer (some ⟨b36, 0, none⟩)), (77, .bool k)]) ?_ ?_
 · clear r94
   refine shW_region (om rfl rfl ?_)
   refine ov (v_neq rfl rfl) rfl ?_
   refine om rfl rfl ?_
   by_cases c95 : n3 ≠ 0
   · have r96 := ite_t h93 c95; clear h93
     refine shO_off (b' := true) 44 rfl (Env.isT rfl c95) rfl rfl (shO_off (b' := true) 44 rfl (Env.isT rfl c95) rfl rfl ?_)
     refine ov (v_pick_t (evD_true rfl c95) rfl) rfl ?_
     refine om rfl rfl (shO_off (b' := true) 48 rfl rfl rfl rfl (shO_off (b' := true) 48 rfl rfl rfl rfl ?_))
     refine ov (v_pick_t rfl rfl) rfl ?_
     refine om rfl rfl (shO_off (b' := true) 52 rfl rfl rfl rfl (shO_off (b' := true) 52 rfl rfl rfl rfl ?_))
     refine ov (v_pick_t rfl rfl) rfl ?_
     refine om rfl rfl (shO_off (b' := true) 56 rfl rfl rfl rfl (shO_off (b' := true) 56 rfl rfl rfl rfl ?_))
     refine ov (v_pick_t rfl rfl) rfl ?_
     refine om rfl rfl (shO_off (b' := true) 60 rfl rfl rfl rfl (shO_off (b' := true) 60 rfl rfl rfl rfl (shO_off (b' := true) 60 rfl rfl rfl rfl (shO_off (b' := true) 60 rfl rfl rfl rfl ?_))))
     refine ov (v_pick_t rfl rfl) rfl ?_
     refine om rfl rfl (shO_off (b' := true) 66 rfl rfl rfl rfl (shO_off (b' := true) 66 rfl rfl rfl rfl (shO_off (b' := true) 66 rfl rfl rfl rfl (shO_off (b' := true) 66 rfl rfl rfl rfl ?_))))
     refine ov (v_pick_t rfl rfl) rfl ?_
     refine om rfl rfl (shO_off (b' := true) 72 rfl rfl rfl rfl (shO_off (b' := true) 72 rfl rfl rfl rfl (shO_off (b' := true) 72 rfl rfl rfl rfl (shO_off (b' := true) 72 rfl rfl rfl rfl ?_))))
     refine ov (v_pick_t rfl rfl) rfl ?_
     refine shO_nil ?_
     obtain rfl := inj1 r96
     exact mi (kc (kc (kx (kg (fS (fS fP)) (ka kn))))) ⟨FExt.refl _, rfl, (sc rfl (sc rfl (sc rfl (sn _))))⟩
   have r97 := ite_f h93 c95; clear h93
   refine shO_on (b := false) 44 rfl (Env.isF rfl c95) (om rfl rfl (shO_on (b := false) 44 rfl (Env.isF rfl c95) ?_))
   refine ov (v_neq rfl rfl) rfl ?_
   refine ov (v_pick_f (evD_false rfl c95) rfl) rfl ?_
   refine om rfl rfl ?_
   by_cases c98 : n4 ≠ 0
   · have r99 := ite_t r97 c98; clear r97
     refine shO_off (b' := true) 48 rfl (Env.isT rfl c98) rfl rfl (shO_off (b' := true) 48 rfl (Env.isT rfl c98) rfl rfl ?_)
     refine ov (v_pick_t (evD_true rfl c98) rfl) rfl ?_
     refine om rfl rfl (shO_off (b' := true) 52 rfl rfl rfl rfl (shO_off (b' := true) 52 rfl rfl rfl rfl ?_))
     refine ov (v_pick_t rfl rfl) rfl ?_
     refine om rfl rfl (shO_off (b' := true) 56 rfl rfl rfl rfl (shO_off (b' := true) 56 rfl rfl rfl rfl ?_))
     refine ov (v_pick_t rfl rfl) rfl ?_
     refine om rfl rfl (shO_off (b' := true) 60 rfl rfl rfl rfl (shO_off (b' := true) 60 rfl rfl rfl rfl (shO_off (b' := true) 60 rfl rfl rfl rfl (shO_off (b' := true) 60 rfl rfl rfl rfl ?_))))
     refine ov (v_pick_t rfl rfl) rfl ?_
     refine om rfl rfl (shO_off (b' := true) 66 rfl rfl rfl rfl (shO_off (b' := true) 66 rfl rfl rfl rfl (shO_off (b' := true) 66 rfl rfl rfl rfl (shO_off (b' := true) 66 rfl rfl rfl rfl ?_))))
     refine ov (v_pick_t rfl rfl) rfl ?_
     refine om rfl rfl (shO_off (b' := true) 72 rfl rfl rfl rfl (shO_off (b' := true) 72 rfl rfl rfl rfl (shO_off (b' := true) 72 rfl rfl rfl rfl (shO_off (b' := true) 72 rfl rfl rfl rfl ?_))))
     refine ov (v_pick_t rfl rfl) rfl ?_
     refine shO_nil ?_
     obtain rfl := inj1 r99
     exact mi (kc (kc (kx (kg (fS (fS fP)) (ka kn))))) ⟨FExt.refl _, rfl, (sc rfl (sc rfl (sc rfl (sn _))))⟩
   have r100 := ite_f r97 c98; clear r97
   refine shO_on (b := false) 48 rfl (Env.isF rfl c98) (om rfl rfl (shO_on (b := false) 48 rfl (Env.isF rfl c98) ?_))
   refine ov (v_neq rfl rfl) rfl ?_
   refine ov (v_pick_f (evD_false rfl c98) rfl) rfl ?_
   refine om rfl rfl ?_
   by_cases c101 : n5 ≠ 0
   · have r102 := ite_t r100 c101; clear r100
     refine shO_off (b' := true) 52 rfl (Env.isT rfl c101) rfl rfl (shO_off (b' := true) 52 rfl (Env.isT rfl c101) rfl rfl ?_)
     refine ov (v_pick_t (evD_true rfl c101) rfl) rfl ?_
     refine om rfl rfl (shO_off (b' := true) 56 rfl rfl rfl rfl (shO_off (b' := true) 56 rfl rfl rfl rfl ?_))
     refine ov (v_pick_t rfl rfl) rfl ?_
     refine om rfl rfl (shO_off (b' := true) 60 rfl rfl rfl rfl (shO_off (b' := true) 60 rfl rfl rfl rfl (shO_off (b' := true) 60 rfl rfl rfl rfl (shO_off (b' := true) 60 rfl rfl rfl rfl ?_))))
     refine ov (v_pick_t rfl rfl) rfl ?_
     refine om rfl rfl (shO_off (b' := true) 66 rfl rfl rfl rfl (shO_off (b' := true) 66 rfl rfl rfl rfl (shO_off (b' := true) 66 rfl rfl rfl rfl (shO_off (b' := true) 66 rfl rfl rfl rfl ?_))))
     refine ov (v_pick_t rfl rfl) rfl ?_
     refine om rfl rfl (shO_off (b' := true) 72 rfl rfl rfl rfl (shO_off (b' := true) 72 rfl rfl rfl rfl (shO_off (b' := true) 72 rfl rfl rfl rfl (shO_off (b' := true) 72 rfl rfl rfl rfl ?_))))
     refine ov (v_pick_t rfl rfl) rfl ?_
     refine shO_nil ?_
     obtain rfl := inj1 r102
     exact mi (kc (kc (kx (kg (fS (fS fP)) (ka kn))))) ⟨FExt.refl _, rfl, (sc rfl (sc rfl (sc rfl (sn _))))⟩
   have r103 := ite_f r100 c101; clear r100
   refine shO_on (b := false) 52 rfl (Env.isF rfl c101) (om rfl rfl (shO_on (b := false) 52 rfl (Env.isF rfl c101) ?_))
   refine ov (v_neq rfl rfl) rfl ?_
   refine ov (v_pick_f (evD_false rfl c101) rfl) rfl ?_
   refine om rfl rfl ?_
   by_cases c104 : n6 ≠ 0
   · have r105 := ite_t r103 c104; clear r103
     refine shO_off (b' := true) 56 rfl (Env.isT rfl c104) rfl rfl (shO_off (b' := true) 56 rfl (Env.isT rfl c104) rfl rfl ?_)
     refine ov (v_pick_t (evD_true rfl c104) rfl) rfl ?_
     refine om rfl rfl (shO_off (b' := true) 60 rfl rfl rfl rfl (shO_off (b' := true) 60 rfl rfl rfl rfl (shO_off (b' := true) 60 rfl rfl rfl rfl (shO_off (b' := true) 60 rfl rfl rfl rfl ?_))))
     refine ov (v_pick_t rfl rfl) rfl ?_
     refine om rfl rfl (shO_off (b' := true) 66 rfl rfl rfl rfl (shO_off (b' := true) 66 rfl rfl rfl rfl (shO_off (b' := true) 66 rfl rfl rfl rfl (shO_off (b' := true) 66 rfl rfl rfl rfl ?_))))
     refine ov (v_pick_t rfl rfl) rfl ?_
     refine om rfl rfl (shO_off (b' := true) 72 rfl rfl rfl rfl (shO_off (b' := true) 72 rfl rfl rfl rfl (shO_off (b' := true) 72 rfl rfl rfl rfl (shO_off (b' := true) 72 rfl rfl rfl rfl ?_))))
     refine ov (v_pick_t rfl rfl) rfl ?_
     refine shO_nil ?_
     obtain rfl := inj1 r105
     exact mi (kc (kc (kx (kg (fS (fS fP)) (ka kn))))) ⟨FExt.refl _, rfl, (sc rfl (sc rfl (sc rfl (sn _))))⟩
   have r106 := ite_f r103 c104; clear r103
   refine shO_on (b := false) 56 rfl (Env.isF rfl c104) (om rfl rfl (shO_on (b := false) 56 rfl (Env.isF rfl c104) ?_))
   refine ov (v_notB rfl) rfl ?_
   refine ov (v_pick_f (evD_false rfl c104) rfl) rfl ?_
   refine om rfl rfl ?_
   rcases bool_two (!ok) with c107 | c107
   · have r108 := bt r106 c107; clear r106
     refine shO_off (b' := true) 60 rfl (EnvB rfl c107) rfl rfl (shO_off (b' := true) 60 rfl (EnvB rfl c107) rfl rfl (shO_off (b' := true) 60 rfl (EnvB rfl c107) rfl rfl (shO_off (b' := true) 60 rfl (EnvB rfl c107) rfl rfl ?_)))
     refine ov (v_pick_t (evB rfl c107) rfl) rfl ?_
     refine om rfl rfl (shO_off (b' := true) 66 rfl rfl rfl rfl (shO_off (b' := true) 66 rfl rfl rfl rfl (shO_off (b' := true) 66 rfl rfl rfl rfl (shO_off (b' := true) 66 rfl rfl rfl rfl ?_))))
     refine ov (v_pick_t rfl rfl) rfl ?_
     refine om rfl rfl (shO_off (b' := true) 72 rfl rfl rfl rfl (shO_off (b' := true) 72 rfl rfl rfl rfl (shO_off (b' := true) 72 rfl rfl rfl rfl (shO_off (b' := true) 72 rfl rfl rfl rfl ?_))))
     refine ov (v_pick_t rfl rfl) rfl ?_
     refine shO_nil ?_
     obtain rfl := inj1 r108
     exact mi (kc (kc (kx (kg (fS (fS fP)) (ka kn))))) ⟨FExt.refl _, rfl, (sc rfl (sc rfl (sc rfl (sn _))))⟩
   have r109 := bf r106 c107; clear r106
   refine shO_on (b := false) 60 rfl (EnvB rfl c107) (om rfl rfl (shO_on (b := false) 60 rfl (EnvB rfl c107) ?_))
   refine o_buildSlice (cs := #[.int .i64 0, .int .i64 5, .int .i64 9, .int .i64 14]) rfl rfl (buildSlice_all slt_28 [.int .i64 0, .int .i64 5, .int .i64 9, .int .i64 14] rfl (by decide) (by simp [Value.cells]) (by decide)) ?_; intro b110 hb110
   refine shO_on (b := false) 60 rfl (EnvB rfl c107) ?_
   refine shO_freeze 0 rfl hb110 ?_; intro F111 hF112 hz113
   refine shO_L (L' := (b36, .cells #[.int .i64 n2, .slice a29 n33 c30] 24 (0, 0)) :: ((b35, .cells #[.int .i64 n, .slice a12 n16 c13] 24 (0, 0)) :: (Lb81 ++ (Lb31 ++ (Lb63 ++ (Lb14 ++ (Lb45 ++ []))))))) rfl ?_
   replace hz46 := hz46.mono (iE_ok _) hF112
   replace hz64 := hz64.mono (iE_ok _) hF112
   replace hz82 := hz82.mono (iE_ok _) hF112
   have h114 : RowR 1 (iE .i64) F111 (some ⟨b110, 0, none⟩) 4 [0, 5, 9, 14] := RowR.of_block (iE_ok _) (vss := [[.int .i64 0], [.int .i64 5], [.int .i64 9], [.int .i64 14]]) (xs := [0, 5, 9, 14]) hz113 (.cons rfl (.cons rfl (.cons rfl (.cons rfl .nil)))) rfl (by simp [maxLen])
   obtain ⟨ok2, h115, r116⟩ := b1_ok r109; clear r109
   refine o_callT (Lt := Lb45 ++ []) (Lr := (b36, .cells #[.int .i64 n2, .slice a29 n33 c30] 24 (0, 0)) :: ((b35, .cells #[.int .i64 n, .slice a12 n16 c13] 24 (0, 0)) :: (Lb81 ++ (Lb31 ++ (Lb63 ++ (Lb14 ++ [])))))) rfl Tryz.call12 rfl rfl rfl (pT ((fC (fC (fS (fS (fS (fS fP)))))).trans (pA pR)) (lp (ln rfl))) (fun F2 h2 h3 => by rw [(SlR.caps hz46).1]; exact oyezkit_Like_int_w (hz46.row (iE_ok _) h2 (fun p hp => h3 p (List.mem_append_left _ hp))) (h114.mono (iE_ok _) h2) h115) ?_
   refine shO_on (b := false) 60 rfl (EnvB rfl c107) ?_
   refine ov (v_notB rfl) rfl ?_
   refine ov (v_pick_f (evB rfl c107) rfl) rfl ?_
   refine om rfl rfl ?_
   rcases bool_two (!ok2) with c117 | c117
   · have r118 := bt r116 c117; clear r116
     refine shO_off (b' := true) 66 rfl (EnvB rfl c117) rfl rfl (shO_off (b' := true) 66 rfl (EnvB rfl c117) rfl rfl (shO_off (b' := true) 66 rfl (EnvB rfl c117) rfl rfl (shO_off (b' := true) 66 rfl (EnvB rfl c117) rfl rfl ?_)))
     refine ov (v_pick_t (evB rfl c117) rfl) rfl ?_
     refine om rfl rfl (shO_off (b' := true) 72 rfl rfl rfl rfl (shO_off (b' := true) 72 rfl rfl rfl rfl (shO_off (b' := true) 72 rfl rfl rfl rfl (shO_off (b' := true) 72 rfl rfl rfl rfl ?_))))
     refine ov (v_pick_t rfl rfl) rfl ?_
     refine shO_nil ?_
     obtain rfl := inj1 r118
     exact mi (kc (kc (kx (kg (fS (fS fP)) (ka kn))))) ⟨hF112, rfl, (sc rfl (sc rfl (sc rfl (sn _))))⟩
   have r119 := bf r116 c117; clear r116
   refine shO_on (b := false) 66 rfl (EnvB rfl c117) (om rfl rfl (shO_on (b := false) 66 rfl (EnvB rfl c117) ?_))
   refine o_buildSlice (cs := #[.int .i64 2]) rfl rfl (buildSlice_all slt_28 [.int .i64 2] rfl (by decide) (by simp [Value.cells]) (by decide)) ?_; intro b120 hb120
   refine shO_on (b := false) 66 rfl (EnvB rfl c117) ?_
   refine shO_freeze 0 rfl hb120 ?_; intro F121 hF122 hz123
   refine shO_L (L' := (b36, .cells #[.int .i64 n2, .slice a29 n33 c30] 24 (0, 0)) :: ((b35, .cells #[.int .i64 n, .slice a12 n16 c13] 24 (0, 0)) :: (Lb81 ++ (Lb31 ++ (Lb63 ++ (Lb14 ++ (Lb45 ++ []))))))) rfl ?_
   replace hz64 := hz64.mono (iE_ok _) hF122
   replace hz82 := hz82.mono (iE_ok _) hF122
   have h124 : RowR 1 (iE .i64) F121 (some ⟨b120, 0, none⟩) 1 [2] := RowR.of_block (iE_ok _) (vss := [[.int .i64 2]]) (xs := [2]) hz123 (.cons rfl .nil) rfl (by simp [maxLen])
   obtain ⟨ok3, h125, r126⟩ := b1_ok r119; clear r119
   refine o_callT (Lt := Lb63 ++ []) (Lr := (b36, .cells #[.int .i64 n2, .slice a29 n33 c30] 24 (0, 0)) :: ((b35, .cells #[.int .i64 n, .slice a12 n16 c13] 24 (0, 0)) :: (Lb81 ++ (Lb31 ++ (Lb14 ++ (Lb45 ++ [])))))) rfl Tryz.call12 rfl rfl rfl (pT ((fC (fC (fS (fS fP)))).trans (pA pR)) (lp (ln rfl))) (fun F2 h2 h3 => by rw [(SlR.caps hz64).1]; exact oyezkit_Like_int_w (hz64.row (iE_ok _) h2 (fun p hp => h3 p (List.mem_append_left _ hp))) (h124.mono (iE_ok _) h2) h125) ?_
   refine shO_on (b := false) 66 rfl (EnvB rfl c117) ?_
   refine ov (v_notB rfl) rfl ?_
   refine ov (v_pick_f (evB rfl c117) rfl) rfl ?_
   refine om rfl rfl ?_
   rcases bool_two (!ok3) with c127 | c127
   · have r128 := bt r126 c127; clear r126
     refine shO_off (b' := true) 72 rfl (EnvB rfl c127) rfl rfl (shO_off (b' := true) 72 rfl (EnvB rfl c127) rfl rfl (shO_off (b' := true) 72 rfl (EnvB rfl c127) rfl rfl (shO_off (b' := true) 72 rfl (EnvB rfl c127) rfl rfl ?_)))
     refine ov (v_pick_t (evB rfl c127) rfl) rfl ?_
     refine shO_nil ?_
     obtain rfl := inj1 r128
     exact mi (kc (kc (kx (kg (fS (fS fP)) (ka kn))))) ⟨(hF112.trans hF122), rfl, (sc rfl (sc rfl (sc rfl (sn _))))⟩
   have r129 := bf r126 c127; clear r126
   refine shO_on (b := false) 72 rfl (EnvB rfl c127) (om rfl rfl (shO_on (b := false) 72 rfl (EnvB rfl c127) ?_))
   refine o_buildSlice (cs := #[.int .i64 1]) rfl rfl (buildSlice_all slt_28 [.int .i64 1] rfl (by decide) (by simp [Value.cells]) (by decide)) ?_; intro b130 hb130
   refine shO_on (b := false) 72 rfl (EnvB rfl c127) ?_
   refine shO_freeze 0 rfl hb130 ?_; intro F131 hF132 hz133
   refine shO_L (L' := (b36, .cells #[.int .i64 n2, .slice a29 n33 c30] 24 (0, 0)) :: ((b35, .cells #[.int .i64 n, .slice a12 n16 c13] 24 (0, 0)) :: (Lb81 ++ (Lb31 ++ (Lb63 ++ (Lb14 ++ (Lb45 ++ []))))))) rfl ?_
   replace hz82 := hz82.mono (iE_ok _) hF132
   have h134 : RowR 1 (iE .i64) F131 (some ⟨b130, 0, none⟩) 1 [1] := RowR.of_block (iE_ok _) (vss := [[.int .i64 1]]) (xs := [1]) hz133 (.cons rfl .nil) rfl (by simp [maxLen])
   obtain ⟨ok4, h135, r136⟩ := b1_ok r129; clear r129
   refine o_callT (Lt := Lb81 ++ []) (Lr := (b36, .cells #[.int .i64 n2, .slice a29 n33 c30] 24 (0, 0)) :: ((b35, .cells #[.int .i64 n, .slice a12 n16 c13] 24 (0, 0)) :: (Lb31 ++ (Lb63 ++ (Lb14 ++ (Lb45 ++ [])))))) rfl Tryz.call12 rfl rfl rfl (pT ((fC (fC fP)).trans (pA pR)) (lp (ln rfl))) (fun F2 h2 h3 => by rw [(SlR.caps hz82).1]; exact oyezkit_Like_int_w (hz82.row (iE_ok _) h2 (fun p hp => h3 p (List.mem_append_left _ hp))) (h134.mono (iE_ok _) h2) h135) ?_
   refine shO_on (b := false) 72 rfl (EnvB rfl c127) ?_
   refine ov (v_notB rfl) rfl ?_
   refine ov (v_pick_f (evB rfl c127) rfl) rfl ?_
   refine shO_nil ?_
   obtain rfl := inj1 r136
   exact mi (kc (kc (kx (kg (fS (fS fP)) (ka kn))))) ⟨((hF112.trans hF122).trans hF132), rfl, (sc rfl (sc rfl (sc rfl (sn _))))⟩
 rintro e1 F138 _ ⟨hF139, rfl, he137⟩
 refine shW_env _ he137 ?_; clear he137
 replace hz15 := hz15.mono (iE_ok _) hF139
 replace hz32 := hz32.mono (iE_ok _) hF139
 refine shW_cond rfl (fun c140 => ?_) (fun c140 => ?_)
 · have r141 := bt r94 c140; clear r94
   refine wsr (oa rfl rfl (shO_nil ?_))
   refine kW kn ?_
   refine shW_ret (andThen_ret ?_)
   refine q_res1 Tryz.results6 (res_tmp rfl) (sr) ?_
   obtain rfl := inj1 r141
   exact rfl
 have r142 := bf r94 c140; clear r94
 refine shW_skip (wsr ?_)
 refine ov (v_loadA (cs := #[.int .i64 n, .slice a12 n16 c13]) Tryz.isAgg24 Tryz.sizeOf24 rfl (Has.own 1 rfl) (Nat.le_of_ble_eq_true rfl) rfl) rfl ?_
 refine o_buildSlice (cs := #[.int .i64 1, .int .i64 3]) rfl rfl (buildSlice_all slt_28 [.int .i64 1, .int .i64 3] rfl (by decide) (by simp [Value.cells]) (by decide)) ?_; intro b143 hb143
 refine shO_freeze 0 rfl hb143 ?_; intro F144 hF145 hz146
 refine shO_L (L' := (b36, .cells #[.int .i64 n2, .slice a29 n33 c30] 24 (0, 0)) :: ((b35, .cells #[.int .i64 n, .slice a12 n16 c13] 24 (0, 0)) :: (Lb14 ++ (Lb31 ++ [])))) rfl ?_
 replace hz15 := hz15.mono (iE_ok _) hF145
 replace hz32 := hz32.mono (iE_ok _) hF145
 have h147 : RowR 1 (iE .i64) F144 (some ⟨b143, 0, none⟩) 2 [1, 3] := RowR.of_block (iE_ok _) (vss := [[.int .i64 1], [.int .i64 3]]) (xs := [1, 3]) hz146 (.cons rfl (.cons rfl .nil)) rfl (by simp [maxLen])
 obtain ⟨n7, n8, h148, r149⟩ := b2_ok r142; clear r142
 refine o_callT (Lt := Lb14 ++ []) (Lr := (b36, .cells #[.int .i64 n2, .slice a29 n33 c30] 24 (0, 0)) :: ((b35, .cells #[.int .i64 n, .slice a12 n16 c13] 24 (0, 0)) :: (Lb31 ++ []))) rfl Tryz.call36 rfl rfl rfl (pT ((fC (fC fP)).trans (pA pR)) (lp (ln rfl))) (fun F2 h2 h3 => by rw [(SlR.caps hz15).1]; exact hear_Louder_w (hz15.row (iE_ok _) h2 (fun p hp => h3 p (List.mem_append_left _ hp))) (h147.mono (iE_ok _) h2) h148) ?_
 refine om rfl rfl (ox rfl rfl rfl (ox rfl rfl rfl (oa rfl rfl (oa rfl rfl (nsr ?_)))))
 refine ov (v_loadA (cs := #[.int .i64 n2, .slice a29 n33 c30]) Tryz.isAgg24 Tryz.sizeOf24 rfl (Has.own 0 rfl) (Nat.le_of_ble_eq_true rfl) rfl) rfl ?_
 obtain ⟨l6, n9, h150, r151⟩ := b2_ok r149; clear r149
 refine o_callTO (Lb := []) (Lt := Lb31 ++ []) (Lr := (b36, .cells #[.int .i64 n2, .slice a29 n33 c30] 24 (0, 0)) :: ((b35, .cells #[.int .i64 n, .slice a12 n16 c13] 24 (0, 0)) :: (Lb14 ++ []))) rfl Tryz.call37 rfl rfl rfl (pT ((fC (fC (fS fP))).trans (pA pR)) (ln (lp (ln rfl)))) (fun F2 h2 h3 => by rw [(SlR.caps hz32).1]; exact hear_Way_w (hz32.row (iE_ok _) h2 (fun p hp => h3 p (List.mem_append_left _ hp))) h150) (fun _ _ _ _ hq => by obtain ⟨a156, n160, c157, Lb158, rfl, rfl, hz159⟩ := hq; exact ⟨_, _, _, _, rfl, rfl, hz159.flat (fun _ _ h => h)⟩) ?_; rintro _ F152 _ hF153 hd155 hn154 ⟨a156, n160, c157, Lb158, rfl, rfl, hz159⟩
 have hn162 := newp (Lb' := []) (by rfl) hd155 hn154
 replace hz159 := hz159.new fun p hp => hn162 p (by simp [hp])
 refine shO_L (lp (ln (lp (ln rfl)))) ?_
 refine kO (kf (fS (fS fO)) (kf (fS (fS fO)) kr)) ?_
 refine om rfl rfl (ox rfl rfl rfl (ox rfl rfl rfl (oa rfl rfl (oa rfl rfl (nsr ?_)))))
 refine o_buildSlice (cs := #[.string (sB [115, 104, 119, 104])]) rfl rfl (buildSlice_all slt_115 [.string (sB [115, 104, 119, 104])] rfl (by decide) (by simp [Value.cells]) (by decide)) ?_; intro b163 hb163
 refine shO_freeze 0 rfl hb163 ?_; intro F164 hF165 hz166
 refine shO_L (L' := (b36, .cells #[.int .i64 n2, .slice a29 n33 c30] 24 (0, 0)) :: ((b35, .cells #[.int .i64 n, .slice a12 n16 c13] 24 (0, 0)) :: (Lb158 ++ (Lb31 ++ (Lb14 ++ []))))) rfl ?_
 replace hz159 := hz159.mono (iE_ok _) hF165
 have h167 : RowR 1 sE F164 (some ⟨b163, 0, none⟩) 1 [[115, 104, 119, 104]] := RowR.of_block sE_ok (vss := [[.string (sB [115, 104, 119, 104])]]) (xs := [[115, 104, 119, 104]]) hz166 (.cons rfl .nil) rfl (by simp [maxLen])
 obtain ⟨n10, l7, h168, r169⟩ := b2_ok r151; clear r151
 refine o_call0 rfl Tryz.call33 rfl rfl rfl (oyezlaw01_Drawn_w h167 h168) ?_; rintro _ F170 _ hF171 hn172 ⟨a174, n178, c175, Lb176, rfl, rfl, hz177⟩
 replace hz159 := hz159.mono (iE_ok _) hF171
 replace hz177 := hz177.new fun p hp => hn172 p (by simp [hp])
 refine shO_L (lp (ln rfl)) ?_
 refine kO (kf (fS fO) (kf (fS fO) kr)) ?_
 obtain ⟨n11, n12, h180, r181⟩ := b2_ok r169; clear r169
 refine o_callT (Lt := Lb176 ++ []) (Lr := (b36, .cells #[.int .i64 n2, .slice a29 n33 c30] 24 (0, 0)) :: ((b35, .cells #[.int .i64 n, .slice a12 n16 c13] 24 (0, 0)) :: (Lb158 ++ (Lb31 ++ (Lb14 ++ []))))) rfl Tryz.call38 rfl rfl rfl (pT ((fC (fC fP)).trans (pA pR)) (lp (ln rfl))) (fun F2 h2 h3 => by rw [(SlR.caps hz177).1]; exact hear_Need_w (hz177.row (iE_ok _) h2 (fun p hp => h3 p (List.mem_append_left _ hp))) h180) ?_
 refine om rfl rfl (ox rfl rfl rfl (ox rfl rfl rfl (oa rfl rfl (nsr (om rfl rfl ?_)))))
 refine ov (v_eql rfl rfl) rfl ?_
 refine om rfl rfl ?_
 by_cases c182 : n8 = 0
 · have r183 := ite_t r181 c182; clear r181
   refine shO_on (b := true) 97 rfl (Env.isT rfl c182) (om rfl rfl (shO_on (b := true) 97 rfl (Env.isT rfl c182) ?_))
   refine ov (v_eql rfl rfl) rfl ?_
   refine ov (v_pick_t (evD_true rfl c182) rfl) rfl ?_
   refine om rfl rfl ?_
   by_cases c184 : n9 = 0
   · have r185 := ite_t r183 c184; clear r183
     refine shO_on (b := true) 101 rfl (Env.isT rfl c184) (om rfl rfl (shO_on (b := true) 101 rfl (Env.isT rfl c184) ?_))
     refine ov (v_eql rfl rfl) rfl ?_
     refine ov (v_pick_t (evD_true rfl c184) rfl) rfl ?_
     refine om rfl rfl ?_
     by_cases c186 : n7 = 5
     · have r187 := ite_t r185 c186; clear r185
       refine shO_on (b := true) 105 rfl (Env.isT rfl c186) (om rfl rfl (shO_on (b := true) 105 rfl (Env.isT rfl c186) ?_))
       refine o_buildSlice (cs := #[.int .i64 3, .int .i64 0, .int .i64 1, .int .i64 2]) rfl rfl (buildSlice_all slt_28 [.int .i64 3, .int .i64 0, .int .i64 1, .int .i64 2] rfl (by decide) (by simp [Value.cells]) (by decide)) ?_; intro b188 hb188
       refine shO_on (b := true) 105 rfl (Env.isT rfl c186) ?_
       refine shO_freeze 0 rfl hb188 ?_; intro F189 hF190 hz191
       refine shO_L (L' := (b36, .cells #[.int .i64 n2, .slice a29 n33 c30] 24 (0, 0)) :: ((b35, .cells #[.int .i64 n, .slice a12 n16 c13] 24 (0, 0)) :: (Lb176 ++ (Lb158 ++ (Lb31 ++ (Lb14 ++ [])))))) rfl ?_
       replace hz159 := hz159.mono (iE_ok _) hF190
       have h192 : RowR 1 (iE .i64) F189 (some ⟨b188, 0, none⟩) 4 [3, 0, 1, 2] := RowR.of_block (iE_ok _) (vss := [[.int .i64 3], [.int .i64 0], [.int .i64 1], [.int .i64 2]]) (xs := [3, 0, 1, 2]) hz191 (.cons rfl (.cons rfl (.cons rfl (.cons rfl .nil)))) rfl (by simp [maxLen])
       obtain ⟨ok5, h193, r194⟩ := b1_ok r187; clear r187
       refine o_callT (Lt := Lb158 ++ []) (Lr := (b36, .cells #[.int .i64 n2, .slice a29 n33 c30] 24 (0, 0)) :: ((b35, .cells #[.int .i64 n, .slice a12 n16 c13] 24 (0, 0)) :: (Lb176 ++ (Lb31 ++ (Lb14 ++ []))))) rfl Tryz.call12 rfl rfl rfl (pT ((fC (fC (fS fP))).trans (pA pR)) (lp (ln rfl))) (fun F2 h2 h3 => by rw [(SlR.caps hz159).1]; exact oyezkit_Like_int_w (hz159.row (iE_ok _) h2 (fun p hp => h3 p (List.mem_append_left _ hp))) (h192.mono (iE_ok _) h2) h193) ?_
       refine ov (v_pick_t (evD_true rfl c186) rfl) rfl ?_
       refine om rfl rfl ?_
       rcases bool_two ok5 with c195 | c195
       · have r196 := bt r194 c195; clear r194
         refine shO_on (b := true) 110 rfl (EnvB rfl c195) (om rfl rfl (shO_on (b := true) 110 rfl (EnvB rfl c195) ?_))
         refine ov (v_eql rfl rfl) rfl ?_
         refine ov (v_pick_t (evB rfl c195) rfl) rfl ?_
         refine oa rfl rfl (shO_nil ?_)
         refine kW kn ?_
         refine shW_ret ?_
         refine q_res1 Tryz.results6 (res_tmp rfl) (sr) ?_
         obtain rfl := inj1 r196
         exact rfl
       have r197 := bf r194 c195; clear r194
       refine shO_off (b' := false) 110 rfl (EnvB rfl c195) rfl rfl (shO_off (b' := false) 110 rfl (EnvB rfl c195) rfl rfl ?_)
       refine ov (v_pick_f (evB rfl c195) rfl) rfl ?_
       refine oa rfl rfl (shO_nil ?_)
       refine kW kn ?_
       refine shW_ret ?_
       refine q_res1 Tryz.results6 (res_tmp rfl) (sr) ?_
       obtain rfl := inj1 r197
       exact rfl
     have r198 := ite_f r185 c186; clear r185
     refine shO_off (b' := false) 105 rfl (Env.isF rfl c186) rfl rfl (shO_off (b' := false) 105 rfl (Env.isF rfl c186) rfl rfl (shO_off (b' := false) 105 rfl (Env.isF rfl c186) rfl rfl ?_))
     refine ov (v_pick_f (evD_false rfl c186) rfl) rfl ?_
     refine om rfl rfl (shO_off (b' := false) 110 rfl rfl rfl rfl (shO_off (b' := false) 110 rfl rfl rfl rfl ?_))
     refine ov (v_pick_f rfl rfl) rfl ?_
     refine oa rfl rfl (shO_nil ?_)
     refine kW kn ?_
     refine shW_ret ?_
     refine q_res1 Tryz.results6 (res_tmp rfl) (sr) ?_
     obtain rfl := inj1 r198
     exact rfl
   have r199 := ite_f r183 c184; clear r183
   refine shO_off (b' := false) 101 rfl (Env.isF rfl c184) rfl rfl (shO_off (b' := false) 101 rfl (Env.isF rfl c184) rfl rfl ?_)
   refine ov (v_pick_f (evD_false rfl c184) rfl) rfl ?_
   refine om rfl rfl (shO_off (b' := false) 105 rfl rfl rfl rfl (shO_off (b' := false) 105 rfl rfl rfl rfl (shO_off (b' := false) 105 rfl rfl rfl rfl ?_)))
   refine ov (v_pick_f rfl rfl) rfl ?_
   refine om rfl rfl (shO_off (b' := false) 110 rfl rfl rfl rfl (shO_off (b' := false) 110 rfl rfl rfl rfl ?_))
   refine ov (v_pick_f rfl rfl) rfl ?_
   refine oa rfl rfl (shO_nil ?_)
   refine kW kn ?_
   refine shW_ret ?_
   refine q_res1 Tryz.results6 (res_tmp rfl) (sr) ?_
   obtain rfl := inj1 r199
   exact rfl
 have r200 := ite_f r181 c182; clear r181
 refine shO_off (b' := false) 97 rfl (Env.isF rfl c182) rfl rfl (shO_off (b' := false) 97 rfl (Env.isF rfl c182) rfl rfl ?_)
 refine ov (v_pick_f (evD_false rfl c182) rfl) rfl ?_
 refine om rfl rfl (shO_off (b' := false) 101 rfl rfl rfl rfl (shO_off (b' := false) 101 rfl rfl rfl rfl ?_))
 refine ov (v_pick_f rfl rfl) rfl ?_
 refine om rfl rfl (shO_off (b' := false) 105 rfl rfl rfl rfl (shO_off (b' := false) 105 rfl rfl rfl rfl (shO_off (b' := false) 105 rfl rfl rfl rfl ?_)))
 refine ov (v_pick_f rfl rfl) rfl ?_
 refine om rfl rfl (shO_off (b' := false) 110 rfl rfl rfl rfl (shO_off (b' := false) 110 rfl rfl rfl rfl ?_))
 refine ov (v_pick_f rfl rfl) rfl ?_
 refine oa rfl rfl (shO_nil ?_)
 refine kW kn ?_
 refine shW_ret ?_
 refine q_res1 Tryz.results6 (res_tmp rfl) (sr) ?_
 obtain rfl := inj1 r200
 exact rfl
set_option maxHeartbeats 1000000 in
theorem oyezkit_Copy_Plot_w {l_a : Option Addr} {l_c : Nat} {l : List Int} {F : FS} (h_l : RowR 1 (iE .i64) F l_a l_c l) {r : List Int} (hr : oyezkit_Copy_Plot l = some r) :
    SH.Spec Tryz.prog 39 #[.slice l_a l.length l_c] F [] fun F' L' v => ∃ (ra : Option Addr) (rn : Nat) (rc : Nat) (rL : LH), v = .slice ra rn rc ∧ L' = rL ++ [] ∧ SlR 0 61 1 (iE .i64) F' ra rn rc r rL := by
 refine spec_of_shW (args := [.slice l_a l.length l_c]) Tryz.func39 rfl Tryz.ntmps39 (Nat.le_of_ble_eq_true rfl) ?_
 intro K _ _; rw [oyezkit_Copy_Plot] at hr
 refine wsr (oa rfl rfl (nsr (om rfl rfl ?_)))
 refine ov (v_lenS Tryz.underlying22 rfl) rfl ?_
 obtain ⟨g1, r2⟩ := gd_ok hr; clear hr
 obtain ⟨l2, h3, r4⟩ := bv_ok r2; clear r2
 refine o_makeZ (R := (iE .i64)) (z0 := 0) (zs := l2) rfl slt_22 (by decide) (iE_ok _) (fun _ => rfl) rfl g1 h3 (fun _ => .n) ?_; intro a5 n8 Lb6 hz7
 refine oa rfl rfl (nsr (om rfl rfl (om rfl rfl ?_)))
 obtain ⟨out, h10, r11⟩ := bv_ok r4; clear r4
 refine o_copyZ (ys := l) (zs := out) rfl slt_22 (iE_ok _) rfl rfl (fun _ => .h) hz7 (RowR.src h_l) h10 ?_; intro Lb12 hz13
 refine nsr (om rfl rfl (oa rfl rfl (shO_nil (shW_ret ?_))))
 refine q_res1 Tryz.results39 (res_tmp rfl) (sr) ?_
 obtain rfl := inj1 r11
 exact ⟨_, _, _, _, rfl, rfl, hz13.any⟩
set_option maxHeartbeats 1000000 in
theorem oyezlaw01_Own_w {wide : Int} {plots_a : Option Addr} {plots_c : Nat} {plots : List Int} {F : FS} (h_plots : RowR 1 (iE .i64) F plots_a plots_c plots) {r : Int} {r2 : List Int} (hr : oyezlaw01_Own wide plots = some (r, r2)) :
    SH.Spec Tryz.prog 7 #[.agg #[.int .i64 wide, .slice plots_a plots.length plots_c]] F [] fun F' L' v => ∃ (r2a : Option Addr) (r2n : Nat) (r2c : Nat) (r2L : LH), v = .agg #[.int .i64 r, .slice r2a r2n r2c] ∧ L' = r2L ++ [] ∧ SlR 0 61 1 (iE .i64) F' r2a r2n r2c r2 r2L := by
 refine spec_of_shW (args := [.agg #[.int .i64 wide, .slice plots_a plots.length plots_c]]) Tryz.func7 rfl Tryz.ntmps7 (Nat.le_of_ble_eq_true rfl) ?_
 intro K _ _; rw [oyezlaw01_Own] at hr
 refine wsr ?_
 refine o_box rfl rfl ?_; intro b1 hb1
 refine o_alloc rfl Tryz.zeroValue24 ?_; intro b2 hb2
 refine shO_nil (shW_seq ?_)
 refine shW_drawM [(.still, 0), (.still, 1), (.still, 2), (.still, 3), (.seq, 4), (.still, 5), (.seq, 6)] (by kernel_rfl) (by kernel_rfl) (trivial) (by rfl) (by kernel_rfl) ?_
 refine shM_v (v := .pointer (some ⟨b1, 0, none⟩)) (ek := [(1, .pointer (some ⟨b1, 0, none⟩))]) (Ls := []) rfl rfl rfl rfl ((sc rfl (sn _))) (by kernel_rfl) sm (fun H F' L' hF' hL' => v_fieldAddr fa_24_0 rfl) ?_
 refine shM_v (v := .int .i64 wide) (ek := [(3, .pointer (some ⟨b1, 0, none⟩))]) (Ls := [(b1, .cells #[.int .i64 wide, .slice plots_a plots.length plots_c] 24 (0, 0))]) rfl rfl rfl rfl ((sc rfl (sn _))) (by kernel_rfl) (s0 (s1 (s2 sr))) (fun H F' L' hF' hL' => v_load Tryz.isAgg3 rfl ((Has.own 0 rfl).ext hF' hL') rfl) ?_
 refine shM_v (v := .pointer (some ⟨b1, 1, none⟩)) (ek := [(1, .pointer (some ⟨b1, 0, none⟩))]) (Ls := []) rfl rfl rfl rfl ((sc rfl (sn _))) (by kernel_rfl) sm (fun H F' L' hF' hL' => v_fieldAddr fa_24_1 rfl) ?_
 refine shM_v (v := .slice plots_a plots.length plots_c) (ek := [(5, .pointer (some ⟨b1, 1, none⟩))]) (Ls := [(b1, .cells #[.int .i64 wide, .slice plots_a plots.length plots_c] 24 (0, 0))]) rfl rfl rfl rfl ((sc rfl (sn _))) (by kernel_rfl) (s0 (s1 (s2 sr))) (fun H F' L' hF' hL' => v_load Tryz.isAgg22 rfl ((Has.own 0 rfl).ext hF' hL') rfl) ?_
 refine ⟨_, [(6, .slice plots_a plots.length plots_c)], rfl, rfl, (sc rfl (sn _)), by kernel_rfl, ?_⟩; intro H
 obtain ⟨l, h3, r4⟩ := b1_ok hr; clear hr
 refine o_call0 rfl Tryz.call39 rfl rfl rfl (oyezkit_Copy_Plot_w h_plots h3) ?_; rintro _ F5 _ hF6 hn7 ⟨a9, n13, c10, Lb11, rfl, rfl, hz12⟩
 replace hz12 := hz12.new fun p hp => hn7 p (by simp [hp])
 refine shO_L (lp (ln rfl)) ?_
 refine kO (kf (fS fO) (kf (fS fO) kr)) ?_
 refine shO_nil ⟨_, rfl, hF6, [1, 0], by kernel_rfl, .inl (.inr (fun d h => by cases h; rfl)), (List.forall_mem_cons.2 ⟨s0 (s1 (s2 (s3 sr))), (List.forall_mem_cons.2 ⟨sm, (fun _ h => absurd h List.not_mem_nil)⟩)⟩), ?_⟩
 refine shM_v (v := .agg #[.int .i64 wide, .slice a9 n13 c10]) (ek := [(4, .int .i64 wide), (7, .slice a9 n13 c10)]) (Ls := []) rfl rfl rfl rfl ((sc rfl (sc rfl (sn _)))) (by kernel_rfl) sm (fun H F' L' hF' hL' => v_build (v := .agg #[.int .i64 wide, .slice a9 n13 c10]) rfl (by intro w; kernel_rfl)) ?_
 refine ⟨_, [(2, .pointer (some ⟨b2, 0, none⟩)), (8, .agg #[.int .i64 wide, .slice a9 n13 c10])], rfl, rfl, (sc rfl (sc rfl (sn _))), by kernel_rfl, ?_⟩; intro H
 refine o_storeA (i := 0) Tryz.sizeOf24 rfl rfl rfl (by simp [Value.oneCell']) rfl (Nat.le_of_ble_eq_true rfl) ?_
 refine shO_L (L' := (b2, .cells #[.int .i64 wide, .slice a9 n13 c10] 24 (0, 0)) :: ((b1, .cells #[.int .i64 wide, .slice plots_a plots.length plots_c] 24 (0, 0)) :: (Lb11 ++ []))) rfl ?_
 refine shO_nil ⟨undef, rfl, FExt.refl _, [], by kernel_rfl, .inl (.inl rfl), (fun _ h => absurd h List.not_mem_nil), ?_⟩
 refine shM_nil ?_
 refine kW (kc (kd kr)) ?_
 refine shW_ret ?_
 refine q_res1 Tryz.results7 (res_cellA (cs := #[.int .i64 wide, .slice a9 n13 c10]) Tryz.isAgg24 Tryz.sizeOf24 rfl (Has.own 0 rfl) (Nat.le_of_ble_eq_true rfl) rfl) (s1 (s4 sr)) ?_
 obtain ⟨rfl, rfl⟩ := inj2 r4
 exact ⟨_, _, _, _, rfl, rfl, hz12.any⟩
set_option maxHeartbeats 1000000 in
theorem oyezkit_Copy_int_w {l_a : Option Addr} {l_c : Nat} {l : List Int} {F : FS} (h_l : RowR 1 (iE .i64) F l_a l_c l) {r : List Int} (hr : oyezkit_Copy_int l = some r) :
    SH.Spec Tryz.prog 8 #[.slice l_a l.length l_c] F [] fun F' L' v => ∃ (ra : Option Addr) (rn : Nat) (rc : Nat) (rL : LH), v = .slice ra rn rc ∧ L' = rL ++ [] ∧ SlR 0 3 1 (iE .i64) F' ra rn rc r rL := by
 refine spec_of_shW (args := [.slice l_a l.length l_c]) Tryz.func8 rfl Tryz.ntmps8 (Nat.le_of_ble_eq_true rfl) ?_
 intro K _ _; rw [oyezkit_Copy_int] at hr
 refine wsr (oa rfl rfl (nsr (om rfl rfl ?_)))
 refine ov (v_lenS Tryz.underlying28 rfl) rfl ?_
 obtain ⟨g1, r2⟩ := gd_ok hr; clear hr
 obtain ⟨l2, h3, r4⟩ := bv_ok r2; clear r2
 refine o_makeZ (R := (iE .i64)) (z0 := 0) (zs := l2) rfl slt_28 (by decide) (iE_ok _) (fun _ => rfl) rfl g1 h3 (fun _ => .n) ?_; intro a5 n8 Lb6 hz7
 refine oa rfl rfl (nsr (om rfl rfl (om rfl rfl ?_)))
 obtain ⟨out, h10, r11⟩ := bv_ok r4; clear r4
 refine o_copyZ (ys := l) (zs := out) rfl slt_28 (iE_ok _) rfl rfl (fun _ => .h) hz7 (RowR.src h_l) h10 ?_; intro Lb12 hz13
 refine nsr (om rfl rfl (oa rfl rfl (shO_nil (shW_ret ?_))))
 refine q_res1 Tryz.results8 (res_tmp rfl) (sr) ?_
 obtain rfl := inj1 r11
 exact ⟨_, _, _, _, rfl, rfl, hz13.any⟩
set_option maxHeartbeats 1000000 in
theorem oyezlaw01_theirs_w {wide : Int} {plots_a : Option Addr} {plots_c : Nat} {plots : List Int} {F : FS} (h_plots : RowR 1 (iE .i64) F plots_a plots_c plots) {r : Int} {r2 : List Int} (hr : oyezlaw01_theirs wide plots = some (r, r2)) :
    SH.Spec Tryz.prog 9 #[.agg #[.int .i64 wide, .slice plots_a plots.length plots_c]] F [] fun F' L' v => ∃ (r2a : Option Addr) (r2n : Nat) (r2c : Nat) (r2L : LH), v = .agg #[.int .i64 r, .slice r2a r2n r2c] ∧ L' = r2L ++ [] ∧ SlR 0 3 1 (iE .i64) F' r2a r2n r2c r2 r2L := by
 refine spec_of_shW (args := [.agg #[.int .i64 wide, .slice plots_a plots.length plots_c]]) Tryz.func9 rfl Tryz.ntmps9 (Nat.le_of_ble_eq_true rfl) ?_
 intro K _ _; rw [oyezlaw01_theirs] at hr
 refine wsr ?_
 refine o_box rfl rfl ?_; intro b1 hb1
 refine o_alloc rfl Tryz.zeroValue34 ?_; intro b2 hb2
 refine nsr ?_
 refine ov (v_fieldAddr fa_24_0 rfl) rfl ?_
 refine ov (v_load Tryz.isAgg3 rfl (Has.own 1 rfl) rfl) rfl ?_
 refine ov (v_build (v := .agg #[.int .i64 wide, .slice none 0 0]) rfl (by intro w; kernel_rfl)) rfl ?_
 refine o_alloc rfl Tryz.zeroValue34 ?_; intro b3 hb3
 refine o_storeA (i := 0) Tryz.sizeOf34 rfl rfl rfl (by simp [Value.oneCell']) rfl (Nat.le_of_ble_eq_true rfl) ?_
 refine shO_L (L' := [(b3, .cells #[.int .i64 wide, .slice none 0 0] 34 (0, 0)), (b2, .cells #[.int .i64 0, .slice none 0 0] 34 (0, 0)), (b1, .cells #[.int .i64 wide, .slice plots_a plots.length plots_c] 24 (0, 0))]) rfl ?_
 refine shO_nil ?_
 obtain ⟨out_plots, h10, r11⟩ := b1_ok hr; clear hr
 refine shW_join (fun e1 F1 L1 => ∃ (a4 : Option Addr) (n8 : Nat) (c5 : Nat) (Lb6 : LH), F = F1 ∧ L1 = ((b3, .cells #[.int .i64 wide, .slice a4 n8 c5] 34 (0, 0)) :: ((b2, .cells #[.int .i64 0, .slice none 0 0] 34 (0, 0)) :: (Lb6 ++ []))) ∧ e1.sub [(2, .pointer (some ⟨b2, 0, none⟩)), (3, .pointer (some ⟨b3, 0, none⟩))] ∧ SlR K.w0.heap.size 3 1 (iE .i64) F1 a4 n8 c5 out_plots Lb6) ?_ ?_
 · clear r11
   refine wsr ?_
   refine ov (v_fieldAddr fa_24_1 rfl) rfl ?_
   refine ov (v_load Tryz.isAgg22 rfl (Has.own 2 rfl) rfl) rfl ?_
   refine ov (v_lenS Tryz.underlying22 rfl) rfl ?_
   refine om rfl rfl (shO_nil ?_)
   refine shW_block ?_
   refine kW (kc (kc kn)) ?_
   refine shW_lp (fun fu1 e1 F1 L1 => ∃ (tl : List Int) (k : Int), tl.length = fu1 ∧ Lst plots k tl ∧ ∃ (out_plots2 : List Int) (a12 : Option Addr) (n16 : Nat) (c13 : Nat) (Lb14 : LH), oyezlaw01_theirs_l1 tl out_plots2 = some out_plots ∧ F = F1 ∧ L1 = ((b3, .cells #[.int .i64 wide, .slice a12 n16 c13] 34 (0, 0)) :: ((b2, .cells #[.int .i64 0, .slice none 0 0] 34 (0, 0)) :: (Lb14 ++ []))) ∧ e1.sub [(2, .pointer (some ⟨b2, 0, none⟩)), (3, .pointer (some ⟨b3, 0, none⟩)), (10, .slice plots_a plots.length plots_c), (11, .int .i64 (plots.length : Int)), (12, .int .i64 k)] ∧ SlR K.w0.heap.size 3 1 (iE .i64) F1 a12 n16 c13 out_plots2 Lb14) _ (m0 (kc (kc (ke kr))) ⟨_, _, rfl, Lst.start _, [], none, 0, 0, [], h10, rfl, rfl, (sc rfl (sc rfl (sc rfl (sc rfl (sc rfl (sn _)))))), SlR.nil _ _ _ _ _⟩) ?_
   rintro fu1 e1 _ _ ⟨tl, k, hn19, hk18, out_plots2, a12, n16, c13, Lb14, r20, rfl, rfl, he21, hz15⟩
   refine shW_env _ he21 ?_; clear he21
   refine wsr ?_
   refine ov (v_lssK rfl rfl) rfl ?_
   refine shO_nil (shW_seq ?_)
   refine shW_condP rfl (fun c23 => ?_) (fun c23 => ?_)
   · obtain ⟨x, tl2, rfl, hx25, g26, hk24⟩ := Lst.succ hk18 c23
     rw [oyezlaw01_theirs_l1] at r20
     refine shW_skip (shW_seq ?_)
     refine shW_block ?_
     refine wsr ?_
     obtain ⟨b27, o28, c29, vs30, ha31, hs32, hle33, rfl, hl34, hc35⟩ := RowR.at (iE_ok _) h_plots ((b3, .cells #[.int .i64 wide, .slice a12 n16 c13] 34 (0, 0)) :: ((b2, .cells #[.int .i64 0, .slice none 0 0] 34 (0, 0)) :: (Lb14 ++ []))) g26.1 hx25
     refine ov (v_indexO Tryz.underlying22 Tryz.sizeOf61 rfl ha31 rfl g26) rfl ?_
     refine ov (v_load Tryz.isAgg61 rfl hs32 (hc35 0 (by decide))) rfl ?_
     refine oa rfl rfl (shO_nil (shW_region ?_))
     refine ov (v_fieldAddr fa_34_1 rfl) rfl ?_
     refine ov (v_load Tryz.isAgg28 rfl (Has.own 0 rfl) rfl) rfl ?_
     refine om rfl rfl ?_
     refine o_buildSlice (cs := #[.int .i64 x]) rfl rfl (buildSlice_all slt_28 [.int .i64 x] rfl (by decide) (by simp [Value.cells]) (by decide)) ?_; intro b36 hb36
     obtain ⟨out, h37, g38, r39⟩ := ap_ok r20; clear r20
     refine o_appZ (xs := out_plots2) (ys := [x]) (zs := out) rfl slt_28 rfl rfl (Nat.le_refl _) (fun _ => .c (.c (.c .h))) hz15 (SrcR.box (vss := [[.int .i64 x]]) (ys := [x]) 0 rfl (iE_ok _) (.cons rfl .nil) rfl rfl) h37 g38 (by decide) ?_; intro a40 n44 c41 Lb42 hz43
     refine kO (kd kr) ?_
     refine ov (v_fieldAddr fa_34_1 rfl) rfl ?_
     refine o_store (i := 0) Tryz.sizeOf28 rfl rfl rfl rfl (Nat.le_of_ble_eq_true rfl) ?_
     refine shO_L (L' := (b3, .cells #[.int .i64 wide, .slice a40 n44 c41] 34 (0, 0)) :: ((b2, .cells #[.int .i64 0, .slice none 0 0] 34 (0, 0)) :: (Lb42 ++ []))) rfl ?_
     refine shO_nil (inBlock_n (id := 1) (shW_region ?_))
     refine ov (v_add rfl rfl (Lst.r64 hk18 c23 (RowR.lt h_plots))) rfl ?_
     refine om rfl rfl (shO_nil ?_)
     subst hn19; exact le kr ⟨_, _, rfl, hk24, out, a40, n44, c41, Lb42, r39, rfl, rfl, (sc rfl (sc rfl (sc rfl (sc rfl (sc rfl (sn _)))))), hz43⟩
   obtain rfl := Lst.zero hk18 c23
   rw [oyezlaw01_theirs_l1] at r20
   refine shW_exit (andThen_exit (andThen_exit ?_))
   refine inBlock_exit ?_
   obtain rfl := inj1 r20
   exact mi kr ⟨a12, n16, c13, Lb14, rfl, rfl, (sc rfl (sc rfl (sn _))), hz15⟩
 rintro e1 _ _ ⟨a4, n8, c5, Lb6, rfl, rfl, he46, hz7⟩
 refine shW_env _ he46 ?_; clear he46
 refine wsr ?_
 refine ov (v_loadA (cs := #[.int .i64 wide, .slice a4 n8 c5]) Tryz.isAgg34 Tryz.sizeOf34 rfl (Has.own 0 rfl) (Nat.le_of_ble_eq_true rfl) rfl) rfl ?_
 refine o_storeA (i := 1) Tryz.sizeOf34 rfl rfl rfl (by simp [Value.oneCell']) rfl (Nat.le_of_ble_eq_true rfl) ?_
 refine shO_L (L' := (b3, .cells #[.int .i64 wide, .slice a4 n8 c5] 34 (0, 0)) :: ((b2, .cells #[.int .i64 wide, .slice a4 n8 c5] 34 (0, 0)) :: (Lb6 ++ []))) rfl ?_
 refine shO_nil ?_
 refine kW (kd kr) ?_
 refine shW_ret ?_
 refine q_res1 Tryz.results9 (res_cellA (cs := #[.int .i64 wide, .slice a4 n8 c5]) Tryz.isAgg34 Tryz.sizeOf34 rfl (Has.own 0 rfl) (Nat.le_of_ble_eq_true rfl) rfl) (s1 (s4 sr)) ?_
 obtain ⟨rfl, rfl⟩ := inj2 r11
 exact ⟨_, _, _, _, rfl, rfl, hz7.any⟩
set_option maxHeartbeats 1000000 in
theorem oyezref01_has_w {l_a : Option Addr} {l_c : Nat} {l : List Int} {n : Int} {F : FS} (h_l : RowR 1 (iE .i64) F l_a l_c l) {r : Bool} (hr : oyezref01_has l n = some r) :
    SpecV Tryz.prog 62 #[.slice l_a l.length l_c, .int .i64 n] F (.bool r) := by
 refine spec_of_shW (args := [.slice l_a l.length l_c, .int .i64 n]) Tryz.func62 rfl Tryz.ntmps62 (Nat.le_of_ble_eq_true rfl) ?_
 intro K _ _; rw [oyezref01_has] at hr
 refine wsr (oa rfl rfl (shO_nil ?_))
 refine shW_join (fun e1 F1 L1 => oyezref01_has_j1 = some r ∧ F = F1 ∧ L1 = [] ∧ e1.sub []) ?_ ?_
 · refine wsr (oa rfl rfl (shO_nil ?_))
   refine shW_block ?_
   refine shW_lp (fun fu2 e1 F1 L1 => ∃ (tl : List Int) (i : Int), tl.length = fu2 ∧ Lst l i tl ∧ oyezref01_has_l2 n tl = some r ∧ F = F1 ∧ L1 = [] ∧ e1.sub [(0, .slice l_a l.length l_c), (1, .int .i64 n), (5, .int .i64 i)]) _ (m0 kr ⟨_, _, rfl, Lst.start _, hr, rfl, rfl, (sc rfl (sc rfl (sc rfl (sn _))))⟩) ?_
   rintro fu2 e1 _ _ ⟨tl, i, hn2, hk1, r3, rfl, rfl, he4⟩
   refine shW_env _ he4 ?_; clear he4
   refine shW_seq (wsr (om rfl rfl (om rfl rfl ?_)))
   refine ov (v_lenS Tryz.underlying28 rfl) rfl ?_
   refine ov (v_lssK rfl rfl) rfl ?_
   refine shO_nil ?_
   refine shW_condP rfl (fun c6 => ?_) (fun c6 => ?_)
   · obtain ⟨x, tl2, rfl, hx8, g9, hk7⟩ := Lst.succ hk1 c6
     rw [oyezref01_has_l2] at r3
     refine shW_skip (shW_seq ?_)
     refine shW_block ?_
     refine wsr (om rfl rfl (om rfl rfl ?_))
     obtain ⟨b10, o11, c12, vs13, ha14, hs15, hle16, rfl, hl17, hc18⟩ := RowR.at (iE_ok _) h_l ([]) g9.1 hx8
     refine ov (v_indexO Tryz.underlying28 Tryz.sizeOf3 rfl ha14 rfl g9) rfl ?_
     refine ov (v_load Tryz.isAgg3 rfl hs15 (hc18 0 (by decide))) rfl ?_
     refine om rfl rfl ?_
     refine ov (v_eql rfl rfl) rfl ?_
     refine shO_nil ?_
     refine shW_condP rfl (fun c19 => ?_) (fun c19 => ?_)
     · have r20 := ite_t r3 c19; clear r3
       refine wsr (oa rfl rfl (shO_nil (shW_ret (inBlock_ret (andThen_ret (andThen_ret (inBlock_ret (andThen_ret ?_))))))))
       refine q_res1 Tryz.results62 (res_tmp rfl) (sr) ?_
       obtain rfl := inj1 r20
       exact rfl
     have r21 := ite_f r3 c19; clear r3
     refine shW_skip (inBlock_n (id := 1) (shW_region (om rfl rfl ?_)))
     refine ov (v_add rfl rfl (Lst.r64 hk1 c6 (RowR.lt h_l))) rfl ?_
     refine oa rfl rfl (shO_nil ?_)
     subst hn2; exact le kr ⟨_, _, rfl, hk7, r21, rfl, rfl, (sc rfl (sc rfl (sc rfl (sn _))))⟩
   obtain rfl := Lst.zero hk1 c6
   rw [oyezref01_has_l2] at r3
   refine shW_exit (andThen_exit (andThen_exit ?_))
   refine inBlock_exit ?_
   exact mi kr ⟨r3, rfl, rfl, (sn _)⟩
 rintro e1 _ _ ⟨r22, rfl, rfl, he23⟩
 refine shW_env _ he23 ?_; clear he23
 rw [oyezref01_has_j1] at r22
 refine wsr (oa rfl rfl (shO_nil (shW_ret ?_)))
 refine q_res1 Tryz.results62 (res_tmp rfl) (sr) ?_
 obtain rfl := inj1 r22
 exact rfl
set_option maxHeartbeats 1000000 in
theorem oyezref01_off_w {n : Int} {lo : Int} {hi : Int} {F : FS} {r : Bool} (hr : oyezref01_off n lo hi = some r) :
    SpecV Tryz.prog 114 #[.int .i64 n, .int .i64 lo, .int .i64 hi] F (.bool r) := by
 refine spec_of_shW (args := [.int .i64 n, .int .i64 lo, .int .i64 hi]) Tryz.func114 rfl Tryz.ntmps114 (Nat.le_of_ble_eq_true rfl) ?_
 intro K _ _; rw [oyezref01_off] at hr
 refine wsr (oa rfl rfl (nsr (om rfl rfl (om rfl rfl ?_))))
 refine ov (v_lssK rfl rfl) rfl ?_
 refine om rfl rfl ?_
 by_cases c1 : n < lo
 · have r2 := ite_t hr c1; clear hr
   refine shO_off (b' := true) 10 rfl (Env.isT rfl c1) rfl rfl (shO_off (b' := true) 10 rfl (Env.isT rfl c1) rfl rfl (shO_off (b' := true) 10 rfl (Env.isT rfl c1) rfl rfl ?_))
   refine ov (v_pick_t (evD_true rfl c1) rfl) rfl ?_
   refine oa rfl rfl (shO_nil (shW_ret ?_))
   refine q_res1 Tryz.results114 (res_tmp rfl) (sr) ?_
   obtain rfl := inj1 r2
   exact rfl
 have r3 := ite_f hr c1; clear hr
 refine shO_on (b := false) 10 rfl (Env.isF rfl c1) (om rfl rfl (shO_on (b := false) 10 rfl (Env.isF rfl c1) (om rfl rfl (shO_on (b := false) 10 rfl (Env.isF rfl c1) ?_))))
 refine ov (v_gtrK rfl rfl) rfl ?_
 refine ov (v_pick_f (evD_false rfl c1) rfl) rfl ?_
 refine oa rfl rfl (shO_nil (shW_ret ?_))
 refine q_res1 Tryz.results114 (res_tmp rfl) (sr) ?_
 obtain rfl := inj1 r3
 exact rfl
set_option maxHeartbeats 1000000 in
theorem oyezref01_Check_w {wide : Int} {plots_a : Option Addr} {plots_c : Nat} {plots : List Int} {F : FS} (h_plots : RowR 1 (iE .i64) F plots_a plots_c plots) {r : Int} (hr : oyezref01_Check wide plots = some r) :
    SpecV Tryz.prog 93 #[.agg #[.int .i64 wide, .slice plots_a plots.length plots_c]] F (.int .i64 r) := by
 refine spec_of_shW (args := [.agg #[.int .i64 wide, .slice plots_a plots.length plots_c]]) Tryz.func93 rfl Tryz.ntmps93 (Nat.le_of_ble_eq_true rfl) ?_
 intro K _ _; rw [oyezref01_Check] at hr
 refine wsr ?_
 refine o_box rfl rfl ?_; intro b1 hb1
 refine oa rfl rfl (shO_nil (shW_seq ?_))
 obtain ⟨k, h2, r3⟩ := b1_ok hr; clear hr
 refine shW_join (fun e1 F1 L1 => F = F1 ∧ L1 = [(b1, .cells #[.int .i64 wide, .slice plots_a plots.length plots_c] 34 (0, 0))] ∧ e1.sub [(1, .pointer (some ⟨b1, 0, none⟩)), (23, .bool k)]) ?_ ?_
 · clear r3
   refine shW_region ?_
   refine ov (v_fieldAddr fa_34_0 rfl) rfl ?_
   refine ov (v_load Tryz.isAgg3 rfl (Has.own 0 rfl) rfl) rfl ?_
   obtain ⟨ok, h4, r5⟩ := b1_ok h2; clear h2
   refine o_callV rfl Tryz.call114 rfl rfl rfl (oyezref01_off_w h4) ?_
   refine om rfl rfl ?_
   rcases bool_two ok with c6 | c6
   · have r7 := bt r5 c6; clear r5
     refine shO_off (b' := true) 9 rfl (EnvB rfl c6) rfl rfl (shO_off (b' := true) 9 rfl (EnvB rfl c6) rfl rfl (shO_off (b' := true) 9 rfl (EnvB rfl c6) rfl rfl (shO_off (b' := true) 9 rfl (EnvB rfl c6) rfl rfl ?_)))
     refine ov (v_pick_t (evB rfl c6) rfl) rfl ?_
     refine om rfl rfl (shO_off (b' := true) 15 rfl rfl rfl rfl (shO_off (b' := true) 15 rfl rfl rfl rfl (shO_off (b' := true) 15 rfl rfl rfl rfl (shO_off (b' := true) 15 rfl rfl rfl rfl (shO_off (b' := true) 15 rfl rfl rfl rfl (shO_off (b' := true) 15 rfl rfl rfl rfl (shO_off (b' := true) 15 rfl rfl rfl rfl ?_)))))))
     refine ov (v_pick_t rfl rfl) rfl ?_
     refine shO_nil ?_
     obtain rfl := inj1 r7
     exact mi kr ⟨rfl, rfl, (sc rfl (sc rfl (sn _)))⟩
   have r8 := bf r5 c6; clear r5
   refine shO_on (b := false) 9 rfl (EnvB rfl c6) ?_
   refine ov (v_fieldAddr fa_34_1 rfl) rfl ?_
   refine shO_on (b := false) 9 rfl (EnvB rfl c6) ?_
   refine ov (v_load Tryz.isAgg28 rfl (Has.own 0 rfl) rfl) rfl ?_
   refine shO_on (b := false) 9 rfl (EnvB rfl c6) ?_
   refine ov (v_lenS Tryz.underlying28 rfl) rfl ?_
   refine shO_on (b := false) 9 rfl (EnvB rfl c6) ?_
   obtain ⟨ok2, h9, r10⟩ := b1_ok r8; clear r8
   refine o_callV rfl Tryz.call114 rfl rfl rfl (oyezref01_off_w h9) ?_
   refine ov (v_pick_f (evB rfl c6) rfl) rfl ?_
   refine om rfl rfl ?_
   rcases bool_two ok2 with c11 | c11
   · have r12 := bt r10 c11; clear r10
     refine shO_off (b' := true) 15 rfl (EnvB rfl c11) rfl rfl (shO_off (b' := true) 15 rfl (EnvB rfl c11) rfl rfl (shO_off (b' := true) 15 rfl (EnvB rfl c11) rfl rfl (shO_off (b' := true) 15 rfl (EnvB rfl c11) rfl rfl (shO_off (b' := true) 15 rfl (EnvB rfl c11) rfl rfl (shO_off (b' := true) 15 rfl (EnvB rfl c11) rfl rfl (shO_off (b' := true) 15 rfl (EnvB rfl c11) rfl rfl ?_))))))
     refine ov (v_pick_t (evB rfl c11) rfl) rfl ?_
     refine shO_nil ?_
     obtain rfl := inj1 r12
     exact mi kr ⟨rfl, rfl, (sc rfl (sc rfl (sn _)))⟩
   have r13 := bf r10 c11; clear r10
   refine shO_on (b := false) 15 rfl (EnvB rfl c11) ?_
   refine ov (v_fieldAddr fa_34_1 rfl) rfl ?_
   refine shO_on (b := false) 15 rfl (EnvB rfl c11) ?_
   refine ov (v_load Tryz.isAgg28 rfl (Has.own 0 rfl) rfl) rfl ?_
   refine shO_on (b := false) 15 rfl (EnvB rfl c11) ?_
   refine ov (v_lenS Tryz.underlying28 rfl) rfl ?_
   refine shO_on (b := false) 15 rfl (EnvB rfl c11) ?_
   refine ov (v_fieldAddr fa_34_0 rfl) rfl ?_
   refine shO_on (b := false) 15 rfl (EnvB rfl c11) ?_
   refine ov (v_load Tryz.isAgg3 rfl (Has.own 0 rfl) rfl) rfl ?_
   refine shO_on (b := false) 15 rfl (EnvB rfl c11) ?_
   obtain ⟨g14, r15⟩ := gd_ok r13; clear r13
   refine ov (v_remT rfl rfl g14) rfl ?_
   refine shO_on (b := false) 15 rfl (EnvB rfl c11) ?_
   refine ov (v_neq rfl rfl) rfl ?_
   refine ov (v_pick_f (evB rfl c11) rfl) rfl ?_
   refine shO_nil ?_
   obtain rfl := inj1 r15
   exact mi kr ⟨rfl, rfl, (sc rfl (sc rfl (sn _)))⟩
 rintro e1 _ _ ⟨rfl, rfl, he16⟩
 refine shW_env _ he16 ?_; clear he16
 refine shW_cond rfl (fun c17 => ?_) (fun c17 => ?_)
 · have r18 := bt r3 c17; clear r3
   refine wsr (oa rfl rfl (shO_nil ?_))
   refine kW kn ?_
   refine shW_ret (andThen_ret ?_)
   refine q_res1 Tryz.results93 (res_tmp rfl) (sr) ?_
   obtain rfl := inj1 r18
   exact rfl
 have r19 := bf r3 c17; clear r3
 refine shW_skip (wsr (oa rfl rfl (shO_nil ?_)))
 refine shW_join (fun e1 F1 L1 => oyezref01_Check_j1 plots = some r ∧ F = F1 ∧ L1 = [(b1, .cells #[.int .i64 wide, .slice plots_a plots.length plots_c] 34 (0, 0))] ∧ e1.sub [(1, .pointer (some ⟨b1, 0, none⟩)), (3, .int .i64 0)]) ?_ ?_
 · refine wsr (oa rfl rfl (shO_nil ?_))
   refine shW_block ?_
   refine shW_lp (fun fu2 e1 F1 L1 => ∃ (tl : List Int) (p : Int), tl.length = fu2 ∧ Lst plots p tl ∧ oyezref01_Check_l2 plots tl = some r ∧ F = F1 ∧ L1 = [(b1, .cells #[.int .i64 wide, .slice plots_a plots.length plots_c] 34 (0, 0))] ∧ e1.sub [(1, .pointer (some ⟨b1, 0, none⟩)), (3, .int .i64 0), (4, .int .i64 p)]) _ (m0 kr ⟨_, _, rfl, Lst.start _, r19, rfl, rfl, (sc rfl (sc rfl (sc rfl (sn _))))⟩) ?_
   rintro fu2 e1 _ _ ⟨tl, p, hn21, hk20, r22, rfl, rfl, he23⟩
   refine shW_env _ he23 ?_; clear he23
   refine shW_seq (wsr (om rfl rfl ?_))
   refine ov (v_fieldAddr fa_34_1 rfl) rfl ?_
   refine ov (v_load Tryz.isAgg28 rfl (Has.own 0 rfl) rfl) rfl ?_
   refine ov (v_lenS Tryz.underlying28 rfl) rfl ?_
   refine ov (v_lssK rfl rfl) rfl ?_
   refine shO_nil ?_
   refine shW_condP rfl (fun c25 => ?_) (fun c25 => ?_)
   · obtain ⟨x, tl2, rfl, hx27, g28, hk26⟩ := Lst.succ hk20 c25
     rw [oyezref01_Check_l2] at r22
     refine shW_skip (shW_seq ?_)
     refine shW_block ?_
     refine wsr ?_
     refine ov (v_fieldAddr fa_34_1 rfl) rfl ?_
     refine ov (v_load Tryz.isAgg28 rfl (Has.own 0 rfl) rfl) rfl ?_
     refine om rfl rfl ?_
     obtain ⟨b29, o30, c31, vs32, ha33, hs34, hle35, rfl, hl36, hc37⟩ := RowR.at (iE_ok _) h_plots ([(b1, .cells #[.int .i64 wide, .slice plots_a plots.length plots_c] 34 (0, 0))]) g28.1 hx27
     refine ov (v_indexO Tryz.underlying28 Tryz.sizeOf3 rfl ha33 rfl g28) rfl ?_
     refine ov (v_load Tryz.isAgg3 rfl hs34 (hc37 0 (by decide))) rfl ?_
     obtain ⟨ok3, h38, r39⟩ := b1_ok r22; clear r22
     refine o_callV rfl Tryz.call114 rfl rfl rfl (oyezref01_off_w h38) ?_
     refine shO_nil ?_
     refine shW_cond rfl (fun c40 => ?_) (fun c40 => ?_)
     · have r41 := bt r39 c40; clear r39
       refine wsr (oa rfl rfl (shO_nil ?_))
       refine kW kn ?_
       refine shW_ret (inBlock_ret (andThen_ret (andThen_ret (inBlock_ret (andThen_ret ?_)))))
       refine q_res1 Tryz.results93 (res_tmp rfl) (sr) ?_
       obtain rfl := inj1 r41
       exact rfl
     have r42 := bf r39 c40; clear r39
     refine shW_skip (inBlock_n (id := 1) (shW_region (om rfl rfl ?_)))
     refine ov (v_add rfl rfl (Lst.r64 hk20 c25 (RowR.lt h_plots))) rfl ?_
     refine oa rfl rfl (shO_nil ?_)
     subst hn21; exact le kr ⟨_, _, rfl, hk26, r42, rfl, rfl, (sc rfl (sc rfl (sc rfl (sn _))))⟩
   obtain rfl := Lst.zero hk20 c25
   rw [oyezref01_Check_l2] at r22
   refine shW_exit (andThen_exit (andThen_exit ?_))
   refine inBlock_exit ?_
   exact mi kr ⟨r22, rfl, rfl, (sc rfl (sc rfl (sn _)))⟩
 rintro e1 _ _ ⟨r43, rfl, rfl, he44⟩
 refine shW_env _ he44 ?_; clear he44
 rw [oyezref01_Check_j1] at r43
 obtain ⟨houses, h45, r46⟩ := b1_ok r43; clear r43
 refine shW_join (fun e1 F1 L1 => F = F1 ∧ L1 = [] ∧ e1.sub [(3, .int .i64 houses)]) ?_ ?_
 · clear r46
   refine wsr (oa rfl rfl (shO_nil ?_))
   refine shW_block ?_
   refine shW_lp (fun fu3 e1 F1 L1 => ∃ (tl3 : List Int) (p2 : Int), tl3.length = fu3 ∧ Lst plots p2 tl3 ∧ ∃ (houses2 : Int), oyezref01_Check_l3 tl3 houses2 = some houses ∧ F = F1 ∧ L1 = [(b1, .cells #[.int .i64 wide, .slice plots_a plots.length plots_c] 34 (0, 0))] ∧ e1.sub [(1, .pointer (some ⟨b1, 0, none⟩)), (3, .int .i64 houses2), (5, .int .i64 p2)]) _ (m0 kr ⟨_, _, rfl, Lst.start _, 0, h45, rfl, rfl, (sc rfl (sc rfl (sc rfl (sn _))))⟩) ?_
   rintro fu3 e1 _ _ ⟨tl3, p2, hn48, hk47, houses2, r49, rfl, rfl, he50⟩
   refine shW_env _ he50 ?_; clear he50
   refine shW_seq (wsr (om rfl rfl ?_))
   refine ov (v_fieldAddr fa_34_1 rfl) rfl ?_
   refine ov (v_load Tryz.isAgg28 rfl (Has.own 0 rfl) rfl) rfl ?_
   refine ov (v_lenS Tryz.underlying28 rfl) rfl ?_
   refine ov (v_lssK rfl rfl) rfl ?_
   refine shO_nil ?_
   refine shW_condP rfl (fun c52 => ?_) (fun c52 => ?_)
   · obtain ⟨x2, tl4, rfl, hx54, g55, hk53⟩ := Lst.succ hk47 c52
     rw [oyezref01_Check_l3] at r49
     refine shW_skip (shW_seq ?_)
     refine shW_block ?_
     refine wsr ?_
     refine ov (v_fieldAddr fa_34_1 rfl) rfl ?_
     refine ov (v_load Tryz.isAgg28 rfl (Has.own 0 rfl) rfl) rfl ?_
     refine om rfl rfl ?_
     obtain ⟨b56, o57, c58, vs59, ha60, hs61, hle62, rfl, hl63, hc64⟩ := RowR.at (iE_ok _) h_plots ([(b1, .cells #[.int .i64 wide, .slice plots_a plots.length plots_c] 34 (0, 0))]) g55.1 hx54
     refine ov (v_indexO Tryz.underlying28 Tryz.sizeOf3 rfl ha60 rfl g55) rfl ?_
     refine ov (v_load Tryz.isAgg3 rfl hs61 (hc64 0 (by decide))) rfl ?_
     refine ov (v_eql rfl rfl) rfl ?_
     refine shO_nil ?_
     refine shW_condP rfl (fun c65 => ?_) (fun c65 => ?_)
     · have r66 := ite_t r49 c65; clear r49
       refine shW_region (om rfl rfl ?_)
       obtain ⟨g67, r68⟩ := gd_ok r66; clear r66
       refine ov (v_add rfl rfl g67) rfl ?_
       refine oa rfl rfl (shO_nil (inBlock_n (id := 3) (shW_region (om rfl rfl ?_))))
       refine ov (v_add rfl rfl (Lst.r64 hk47 c52 (RowR.lt h_plots))) rfl ?_
       refine oa rfl rfl (shO_nil ?_)
       subst hn48; exact le kr ⟨_, _, rfl, hk53, houses2 + 1, r68, rfl, rfl, (sc rfl (sc rfl (sc rfl (sn _))))⟩
     have r69 := ite_f r49 c65; clear r49
     refine shW_skip (inBlock_n (id := 3) (shW_region (om rfl rfl ?_)))
     refine ov (v_add rfl rfl (Lst.r64 hk47 c52 (RowR.lt h_plots))) rfl ?_
     refine oa rfl rfl (shO_nil ?_)
     subst hn48; exact le kr ⟨_, _, rfl, hk53, houses2, r69, rfl, rfl, (sc rfl (sc rfl (sc rfl (sn _))))⟩
   obtain rfl := Lst.zero hk47 c52
   rw [oyezref01_Check_l3] at r49
   refine shW_exit (andThen_exit (andThen_exit ?_))
   refine inBlock_exit ?_
   obtain rfl := inj1 r49
   exact mi kn ⟨rfl, rfl, (sc rfl (sn _))⟩
 rintro e1 _ _ ⟨rfl, rfl, he70⟩
 refine shW_env _ he70 ?_; clear he70
 refine shW_seq (wsr (om rfl rfl ?_))
 refine ov (v_gtrK rfl rfl) rfl ?_
 refine shO_nil ?_
 refine shW_condP rfl (fun c71 => ?_) (fun c71 => ?_)
 · have r72 := ite_t r46 c71; clear r46
   refine wsr (oa rfl rfl (shO_nil (shW_ret (andThen_ret ?_))))
   refine q_res1 Tryz.results93 (res_tmp rfl) (sr) ?_
   obtain rfl := inj1 r72
   exact rfl
 have r73 := ite_f r46 c71; clear r46
 refine shW_skip (wsr (oa rfl rfl (shO_nil (shW_ret ?_))))
 refine q_res1 Tryz.results93 (res_tmp rfl) (sr) ?_
 obtain rfl := inj1 r73
 exact rfl
set_option maxHeartbeats 1000000 in
theorem oyezref01_CheckAir_w {wind : Int} {voice : Int} {F : FS} {r : Int} (hr : oyezref01_CheckAir wind voice = some r) :
    SpecV Tryz.prog 94 #[.int .i64 wind, .int .i64 voice] F (.int .i64 r) := by
 refine spec_of_shW (args := [.int .i64 wind, .int .i64 voice]) Tryz.func94 rfl Tryz.ntmps94 (Nat.le_of_ble_eq_true rfl) ?_
 intro K _ _; rw [oyezref01_CheckAir] at hr
 refine wsr (oa rfl rfl (shO_nil (shW_seq ?_)))
 obtain ⟨k, h1, r2⟩ := b1_ok hr; clear hr
 refine shW_join (fun e1 F1 L1 => F = F1 ∧ L1 = [] ∧ e1.sub [(10, .bool k)]) ?_ ?_
 · clear r2
   refine shW_region (om rfl rfl ?_)
   obtain ⟨ok, h3, r4⟩ := b1_ok h1; clear h1
   refine o_callV rfl Tryz.call114 rfl rfl rfl (oyezref01_off_w h3) ?_
   refine om rfl rfl ?_
   rcases bool_two ok with c5 | c5
   · have r6 := bt r4 c5; clear r4
     refine shO_off (b' := true) 7 rfl (EnvB rfl c5) rfl rfl (shO_off (b' := true) 7 rfl (EnvB rfl c5) rfl rfl ?_)
     refine ov (v_pick_t (evB rfl c5) rfl) rfl ?_
     refine shO_nil ?_
     obtain rfl := inj1 r6
     exact mi kr ⟨rfl, rfl, (sc rfl (sn _))⟩
   have r7 := bf r4 c5; clear r4
   refine shO_on (b := false) 7 rfl (EnvB rfl c5) (om rfl rfl (shO_on (b := false) 7 rfl (EnvB rfl c5) ?_))
   obtain ⟨ok2, h8, r9⟩ := b1_ok r7; clear r7
   refine o_callV rfl Tryz.call114 rfl rfl rfl (oyezref01_off_w h8) ?_
   refine ov (v_pick_f (evB rfl c5) rfl) rfl ?_
   refine shO_nil ?_
   obtain rfl := inj1 r9
   exact mi kr ⟨rfl, rfl, (sc rfl (sn _))⟩
 rintro e1 _ _ ⟨rfl, rfl, he10⟩
 refine shW_env _ he10 ?_; clear he10
 refine shW_cond rfl (fun c11 => ?_) (fun c11 => ?_)
 · have r12 := bt r2 c11; clear r2
   refine wsr (oa rfl rfl (shO_nil (shW_ret (andThen_ret ?_))))
   refine q_res1 Tryz.results94 (res_tmp rfl) (sr) ?_
   obtain rfl := inj1 r12
   exact rfl
 have r13 := bf r2 c11; clear r2
 refine shW_skip (wsr (oa rfl rfl (shO_nil (shW_ret ?_))))
 refine q_res1 Tryz.results94 (res_tmp rfl) (sr) ?_
 obtain rfl := inj1 r13
 exact rfl
set_option maxHeartbeats 1000000 in
theorem oyezref01_Is_w {wide : Int} {plots_a : Option Addr} {plots_c : Nat} {plots : List Int} {p : Int} {kind : Int} {F : FS} (h_plots : RowR 1 (iE .i64) F plots_a plots_c plots) {r : Int} (hr : oyezref01_Is wide plots p kind = some r) :
    SpecV Tryz.prog 95 #[.agg #[.int .i64 wide, .slice plots_a plots.length plots_c], .int .i64 p, .int .i64 kind] F (.int .i64 r) := by
 refine spec_of_shW (args := [.agg #[.int .i64 wide, .slice plots_a plots.length plots_c], .int .i64 p, .int .i64 kind]) Tryz.func95 rfl Tryz.ntmps95 (Nat.le_of_ble_eq_true rfl) ?_
 intro K _ _; rw [oyezref01_Is] at hr
 refine wsr ?_
 refine o_box rfl rfl ?_; intro b1 hb1
 refine oa rfl rfl (shO_nil (shW_seq (wsr (om rfl rfl ?_))))
 refine ov (v_fieldAddr fa_34_1 rfl) rfl ?_
 refine ov (v_load Tryz.isAgg28 rfl (Has.own 0 rfl) rfl) rfl ?_
 refine ov (v_lenS Tryz.underlying28 rfl) rfl ?_
 obtain ⟨g2, r3⟩ := gd_ok hr; clear hr
 refine ov (v_sub rfl rfl g2) rfl ?_
 obtain ⟨ok, h4, r5⟩ := b1_ok r3; clear r3
 refine o_callV rfl Tryz.call114 rfl rfl rfl (oyezref01_off_w h4) ?_
 refine shO_nil ?_
 refine shW_cond rfl (fun c6 => ?_) (fun c6 => ?_)
 · have r7 := bt r5 c6; clear r5
   refine wsr (oa rfl rfl (shO_nil ?_))
   refine kW kn ?_
   refine shW_ret (andThen_ret ?_)
   refine q_res1 Tryz.results95 (res_tmp rfl) (sr) ?_
   obtain rfl := inj1 r7
   exact rfl
 have r8 := bf r5 c6; clear r5
 refine shW_skip (shW_seq (wsr ?_))
 refine ov (v_fieldAddr fa_34_1 rfl) rfl ?_
 refine ov (v_load Tryz.isAgg28 rfl (Has.own 0 rfl) rfl) rfl ?_
 refine om rfl rfl ?_
 obtain ⟨x, g9, hx10, r11⟩ := ix_ok r8; clear r8
 obtain ⟨b12, o13, c14, vs15, ha16, hs17, hle18, rfl, hl19, hc20⟩ := RowR.at (iE_ok _) h_plots ([(b1, .cells #[.int .i64 wide, .slice plots_a plots.length plots_c] 34 (0, 0))]) g9.1 hx10
 refine ov (v_indexO Tryz.underlying28 Tryz.sizeOf3 rfl ha16 rfl g9) rfl ?_
 refine ov (v_load Tryz.isAgg3 rfl hs17 (hc20 0 (by decide))) rfl ?_
 refine om rfl rfl ?_
 refine ov (v_neq rfl rfl) rfl ?_
 refine shO_nil ?_
 refine shW_condP rfl (fun c21 => ?_) (fun c21 => ?_)
 · have r22 := ite_t r11 c21; clear r11
   refine wsr (oa rfl rfl (shO_nil ?_))
   refine kW kn ?_
   refine shW_ret (andThen_ret ?_)
   refine q_res1 Tryz.results95 (res_tmp rfl) (sr) ?_
   obtain rfl := inj1 r22
   exact rfl
 have r23 := ite_f r11 c21; clear r11
 refine shW_skip (wsr (oa rfl rfl (shO_nil ?_)))
 refine kW kn ?_
 refine shW_ret ?_
 refine q_res1 Tryz.results95 (res_tmp rfl) (sr) ?_
 obtain rfl := inj1 r23
 exact rfl
set_option maxHeartbeats 1000000 in
theorem oyezref01_Asked_w {wide : Int} {plots_a : Option Addr} {plots_c : Nat} {plots : List Int} {wind : Int} {voice : Int} {houses_a : Option Addr} {houses_c : Nat} {houses : List Int} {F : FS} (h_plots : RowR 1 (iE .i64) F plots_a plots_c plots) (h_houses : RowR 1 (iE .i64) F houses_a houses_c houses) {r : Int} (hr : oyezref01_Asked wide plots wind voice houses = some r) :
    SpecV Tryz.prog 45 #[.agg #[.int .i64 wide, .slice plots_a plots.length plots_c], .int .i64 wind, .int .i64 voice, .slice houses_a houses.length houses_c] F (.int .i64 r) := by
 refine spec_of_shW (args := [.agg #[.int .i64 wide, .slice plots_a plots.length plots_c], .int .i64 wind, .int .i64 voice, .slice houses_a houses.length houses_c]) Tryz.func45 rfl Tryz.ntmps45 (Nat.le_of_ble_eq_true rfl) ?_
 intro K _ _; rw [oyezref01_Asked] at hr
 refine wsr ?_
 refine o_box rfl rfl ?_; intro b1 hb1
 refine oa rfl rfl (shO_nil (shW_seq (wsr ?_)))
 refine ov (v_loadA (cs := #[.int .i64 wide, .slice plots_a plots.length plots_c]) Tryz.isAgg34 Tryz.sizeOf34 rfl (Has.own 0 rfl) (Nat.le_of_ble_eq_true rfl) rfl) rfl ?_
 obtain ⟨n, h2, r3⟩ := b1_ok hr; clear hr
 refine o_callV rfl Tryz.call93 rfl rfl rfl (oyezref01_Check_w h_plots h2) ?_
 refine oa rfl rfl (nsr (om rfl rfl ?_))
 refine ov (v_neq rfl rfl) rfl ?_
 refine shO_nil ?_
 refine shW_condP rfl (fun c4 => ?_) (fun c4 => ?_)
 · have r5 := ite_t r3 c4; clear r3
   refine wsr (om rfl rfl (oa rfl rfl (shO_nil ?_)))
   refine kW kn ?_
   refine shW_ret (andThen_ret ?_)
   refine q_res1 Tryz.results45 (res_tmp rfl) (sr) ?_
   obtain rfl := inj1 r5
   exact rfl
 have r6 := ite_f r3 c4; clear r3
 refine shW_skip (shW_seq (wsr (om rfl rfl (om rfl rfl ?_))))
 obtain ⟨n2, h7, r8⟩ := b1_ok r6; clear r6
 refine o_callV rfl Tryz.call94 rfl rfl rfl (oyezref01_CheckAir_w h7) ?_
 refine oa rfl rfl (nsr (om rfl rfl ?_))
 refine ov (v_neq rfl rfl) rfl ?_
 refine shO_nil ?_
 refine shW_condP rfl (fun c9 => ?_) (fun c9 => ?_)
 · have r10 := ite_t r8 c9; clear r8
   refine wsr (om rfl rfl (oa rfl rfl (shO_nil ?_)))
   refine kW kn ?_
   refine shW_ret (andThen_ret ?_)
   refine q_res1 Tryz.results45 (res_tmp rfl) (sr) ?_
   obtain rfl := inj1 r10
   exact rfl
 have r11 := ite_f r8 c9; clear r8
 refine shW_skip ?_
 refine shW_join (fun e1 F1 L1 => oyezref01_Asked_j1 = some r ∧ F = F1 ∧ L1 = [] ∧ e1.sub []) ?_ ?_
 · refine wsr (oa rfl rfl (shO_nil ?_))
   refine shW_block ?_
   refine shW_lp (fun fu2 e1 F1 L1 => ∃ (tl : List Int) (i : Int), tl.length = fu2 ∧ Lst houses i tl ∧ oyezref01_Asked_l2 wide plots houses tl i = some r ∧ F = F1 ∧ L1 = [(b1, .cells #[.int .i64 wide, .slice plots_a plots.length plots_c] 34 (0, 0))] ∧ e1.sub [(3, .slice houses_a houses.length houses_c), (4, .pointer (some ⟨b1, 0, none⟩)), (11, .int .i64 i)]) _ (m0 kr ⟨_, _, rfl, Lst.start _, r11, rfl, rfl, (sc rfl (sc rfl (sc rfl (sn _))))⟩) ?_
   rintro fu2 e1 _ _ ⟨tl, i, hn13, hk12, r14, rfl, rfl, he15⟩
   refine shW_env _ he15 ?_; clear he15
   refine shW_seq (wsr (om rfl rfl (om rfl rfl ?_)))
   refine ov (v_lenS Tryz.underlying28 rfl) rfl ?_
   refine ov (v_lssK rfl rfl) rfl ?_
   refine shO_nil ?_
   refine shW_condP rfl (fun c17 => ?_) (fun c17 => ?_)
   · obtain ⟨x, tl2, rfl, hx19, g20, hk18⟩ := Lst.succ hk12 c17
     rw [oyezref01_Asked_l2] at r14
     refine shW_skip (shW_seq ?_)
     refine shW_block ?_
     refine shW_seq ?_
     refine wsd (by kernel_rfl) (by kernel_rfl) (by kernel_rfl) ?_
     refine qv (v_loadA (cs := #[.int .i64 wide, .slice plots_a plots.length plots_c]) Tryz.isAgg34 Tryz.sizeOf34 rfl (Has.own 0 rfl) (Nat.le_of_ble_eq_true rfl) rfl) rfl ?_
     refine qm rfl rfl (qm rfl rfl ?_)
     obtain ⟨b21, o22, c23, vs24, ha25, hs26, hle27, rfl, hl28, hc29⟩ := RowR.at (iE_ok _) h_houses ([(b1, .cells #[.int .i64 wide, .slice plots_a plots.length plots_c] 34 (0, 0))]) g20.1 hx19
     refine qv (v_indexO Tryz.underlying28 Tryz.sizeOf3 rfl ha25 rfl g20) rfl ?_
     refine qv (v_load Tryz.isAgg3 rfl hs26 (hc29 0 (by decide))) rfl ?_
     obtain ⟨n3, h30, r31⟩ := b1_ok r14; clear r14
     refine shQ_callV rfl Tryz.call95 rfl rfl rfl (oyezref01_Is_w h_plots h30) ?_
     refine qa rfl rfl (qsr (om rfl rfl ?_))
     refine ov (v_neq rfl rfl) rfl ?_
     refine shO_nil ?_
     refine shW_condP rfl (fun c32 => ?_) (fun c32 => ?_)
     · have r33 := ite_t r31 c32; clear r31
       refine wsr (om rfl rfl (oa rfl rfl (shO_nil ?_)))
       refine kW kn ?_
       refine shW_ret (andThen_ret (inBlock_ret (andThen_ret (andThen_ret (inBlock_ret (andThen_ret ?_))))))
       refine q_res1 Tryz.results45 (res_tmp rfl) (sr) ?_
       obtain rfl := inj1 r33
       exact rfl
     have r34 := ite_f r31 c32; clear r31
     refine shW_skip ?_
     refine wsd (by kernel_rfl) (by kernel_rfl) (by kernel_rfl) ?_
     refine qm rfl rfl (qm rfl rfl ?_)
     obtain ⟨g35, r36⟩ := gd_ok r34; clear r34
     obtain ⟨houses2, h37, r38⟩ := bv_ok r36; clear r36
     obtain ⟨a39, c40, h41, hvh41⟩ := RowR.slice (iE_ok _) h_houses g35 h37
     refine qv ((v_slice (l := 0) (h := i) Tryz.underlying28 Tryz.sizeOf3 rfl (.inl ⟨rfl, rfl⟩) (.inr ⟨_, rfl, rfl⟩) hvh41.1).eq hvh41.2) rfl ?_
     refine qm rfl rfl (qm rfl rfl ?_)
     obtain ⟨b43, o44, c45, vs46, ha47, hs48, hle49, rfl, hl50, hc51⟩ := RowR.at (iE_ok _) h_houses ([(b1, .cells #[.int .i64 wide, .slice plots_a plots.length plots_c] 34 (0, 0))]) g20.1 hx19
     refine qv (v_indexO Tryz.underlying28 Tryz.sizeOf3 rfl ha47 rfl g20) rfl ?_
     refine qv (v_load Tryz.isAgg3 rfl hs48 (hc51 0 (by decide))) rfl ?_
     obtain ⟨ok, h52, r53⟩ := b1_ok r38; clear r38
     refine shQ_callV rfl Tryz.call62 rfl rfl rfl (oyezref01_has_w h41 h52) ?_
     refine shQ_nil ?_
     refine shW_cond rfl (fun c54 => ?_) (fun c54 => ?_)
     · have r55 := bt r53 c54; clear r53
       refine wsr (oa rfl rfl (shO_nil ?_))
       refine kW kn ?_
       refine shW_ret (inBlock_ret (andThen_ret (andThen_ret (inBlock_ret (andThen_ret ?_)))))
       refine q_res1 Tryz.results45 (res_tmp rfl) (sr) ?_
       obtain rfl := inj1 r55
       exact rfl
     have r56 := bf r53 c54; clear r53
     refine shW_skip (inBlock_n (id := 1) (shW_region (om rfl rfl ?_)))
     refine ov (v_add rfl rfl (Lst.r64 hk12 c17 (RowR.lt h_houses))) rfl ?_
     refine oa rfl rfl (shO_nil ?_)
     subst hn13; exact le kr ⟨_, _, rfl, hk18, r56, rfl, rfl, (sc rfl (sc rfl (sc rfl (sn _))))⟩
   obtain rfl := Lst.zero hk12 c17
   rw [oyezref01_Asked_l2] at r14
   refine shW_exit (andThen_exit (andThen_exit ?_))
   refine inBlock_exit ?_
   exact mi kn ⟨r14, rfl, rfl, (sn _)⟩
 rintro e1 _ _ ⟨r57, rfl, rfl, he58⟩
 refine shW_env _ he58 ?_; clear he58
 rw [oyezref01_Asked_j1] at r57
 refine wsr (oa rfl rfl (shO_nil (shW_ret ?_)))
 refine q_res1 Tryz.results45 (res_tmp rfl) (sr) ?_
 obtain rfl := inj1 r57
 exact rfl
set_option maxHeartbeats 1000000 in
theorem oyezref01_Stand_w {wide : Int} {plots_a : Option Addr} {plots_c : Nat} {plots : List Int} {wind : Int} {stand : Int} {F : FS} (h_plots : RowR 1 (iE .i64) F plots_a plots_c plots) {r : Int} (hr : oyezref01_Stand wide plots wind stand = some r) :
    SpecV Tryz.prog 115 #[.agg #[.int .i64 wide, .slice plots_a plots.length plots_c], .int .i64 wind, .int .i64 stand] F (.int .i64 r) := by
 refine spec_of_shW (args := [.agg #[.int .i64 wide, .slice plots_a plots.length plots_c], .int .i64 wind, .int .i64 stand]) Tryz.func115 rfl Tryz.ntmps115 (Nat.le_of_ble_eq_true rfl) ?_
 intro K _ _; rw [oyezref01_Stand] at hr
 refine wsr ?_
 refine o_box rfl rfl ?_; intro b1 hb1
 refine oa rfl rfl (shO_nil (shW_seq (wsr ?_)))
 refine ov (v_loadA (cs := #[.int .i64 wide, .slice plots_a plots.length plots_c]) Tryz.isAgg34 Tryz.sizeOf34 rfl (Has.own 0 rfl) (Nat.le_of_ble_eq_true rfl) rfl) rfl ?_
 obtain ⟨n, h2, r3⟩ := b1_ok hr; clear hr
 refine o_callV rfl Tryz.call93 rfl rfl rfl (oyezref01_Check_w h_plots h2) ?_
 refine oa rfl rfl (nsr (om rfl rfl ?_))
 refine ov (v_neq rfl rfl) rfl ?_
 refine shO_nil ?_
 refine shW_condP rfl (fun c4 => ?_) (fun c4 => ?_)
 · have r5 := ite_t r3 c4; clear r3
   refine wsr (om rfl rfl (oa rfl rfl (shO_nil ?_)))
   refine kW kn ?_
   refine shW_ret (andThen_ret ?_)
   refine q_res1 Tryz.results115 (res_tmp rfl) (sr) ?_
   obtain rfl := inj1 r5
   exact rfl
 have r6 := ite_f r3 c4; clear r3
 refine shW_skip (shW_seq (wsr (om rfl rfl ?_)))
 obtain ⟨ok, h7, r8⟩ := b1_ok r6; clear r6
 refine o_callV rfl Tryz.call114 rfl rfl rfl (oyezref01_off_w h7) ?_
 refine shO_nil ?_
 refine shW_cond rfl (fun c9 => ?_) (fun c9 => ?_)
 · have r10 := bt r8 c9; clear r8
   refine wsr (oa rfl rfl (shO_nil ?_))
   refine kW kn ?_
   refine shW_ret (andThen_ret ?_)
   refine q_res1 Tryz.results115 (res_tmp rfl) (sr) ?_
   obtain rfl := inj1 r10
   exact rfl
 have r11 := bf r8 c9; clear r8
 refine shW_skip (wsr ?_)
 refine ov (v_loadA (cs := #[.int .i64 wide, .slice plots_a plots.length plots_c]) Tryz.isAgg34 Tryz.sizeOf34 rfl (Has.own 0 rfl) (Nat.le_of_ble_eq_true rfl) rfl) rfl ?_
 refine om rfl rfl ?_
 obtain ⟨n2, h12, r13⟩ := b1_ok r11; clear r11
 refine o_callV rfl Tryz.call95 rfl rfl rfl (oyezref01_Is_w h_plots h12) ?_
 refine oa rfl rfl (shO_nil ?_)
 refine kW kn ?_
 refine shW_ret ?_
 refine q_res1 Tryz.results115 (res_tmp rfl) (sr) ?_
 obtain rfl := inj1 r13
 exact rfl
set_option maxHeartbeats 1000000 in
theorem oyezref01_Step_w {wide : Int} {plots_a : Option Addr} {plots_c : Nat} {plots : List Int} {wind : Int} {p : Int} {q : Int} {F : FS} (h_plots : RowR 1 (iE .i64) F plots_a plots_c plots) {r : Int} (hr : oyezref01_Step wide plots wind p q = some r) :
    SpecV Tryz.prog 116 #[.agg #[.int .i64 wide, .slice plots_a plots.length plots_c], .int .i64 wind, .int .i64 p, .int .i64 q] F (.int .i64 r) := by
 refine spec_of_shW (args := [.agg #[.int .i64 wide, .slice plots_a plots.length plots_c], .int .i64 wind, .int .i64 p, .int .i64 q]) Tryz.func116 rfl Tryz.ntmps116 (Nat.le_of_ble_eq_true rfl) ?_
 intro K _ _; rw [oyezref01_Step] at hr
 refine wsr ?_
 refine o_box rfl rfl ?_; intro b1 hb1
 refine oa rfl rfl (shO_nil (shW_seq ?_))
 obtain ⟨k, h2, r3⟩ := b1_ok hr; clear hr
 refine shW_join (fun e1 F1 L1 => F = F1 ∧ L1 = [(b1, .cells #[.int .i64 wide, .slice plots_a plots.length plots_c] 34 (0, 0))] ∧ e1.sub [(1, .int .i64 wind), (2, .int .i64 p), (3, .int .i64 q), (4, .pointer (some ⟨b1, 0, none⟩)), (42, .bool k)]) ?_ ?_
 · clear r3
   refine shW_region (om rfl rfl ?_)
   refine ov (v_fieldAddr fa_34_1 rfl) rfl ?_
   refine ov (v_load Tryz.isAgg28 rfl (Has.own 0 rfl) rfl) rfl ?_
   refine ov (v_lenS Tryz.underlying28 rfl) rfl ?_
   obtain ⟨g4, r5⟩ := gd_ok h2; clear h2
   refine ov (v_sub rfl rfl g4) rfl ?_
   obtain ⟨ok, h6, r7⟩ := b1_ok r5; clear r5
   refine o_callV rfl Tryz.call114 rfl rfl rfl (oyezref01_off_w h6) ?_
   refine om rfl rfl ?_
   rcases bool_two ok with c8 | c8
   · have r9 := bt r7 c8; clear r7
     refine shO_off (b' := true) 19 rfl (EnvB rfl c8) rfl rfl (shO_off (b' := true) 19 rfl (EnvB rfl c8) rfl rfl (shO_off (b' := true) 19 rfl (EnvB rfl c8) rfl rfl (shO_off (b' := true) 19 rfl (EnvB rfl c8) rfl rfl (shO_off (b' := true) 19 rfl (EnvB rfl c8) rfl rfl (shO_off (b' := true) 19 rfl (EnvB rfl c8) rfl rfl ?_)))))
     refine ov (v_pick_t (evB rfl c8) rfl) rfl ?_
     refine om rfl rfl (shO_off (b' := true) 27 rfl rfl rfl rfl (shO_off (b' := true) 27 rfl rfl rfl rfl (shO_off (b' := true) 27 rfl rfl rfl rfl (shO_off (b' := true) 27 rfl rfl rfl rfl (shO_off (b' := true) 27 rfl rfl rfl rfl (shO_off (b' := true) 27 rfl rfl rfl rfl ?_))))))
     refine ov (v_pick_t rfl rfl) rfl ?_
     refine om rfl rfl (shO_off (b' := true) 35 rfl rfl rfl rfl (shO_off (b' := true) 35 rfl rfl rfl rfl (shO_off (b' := true) 35 rfl rfl rfl rfl (shO_off (b' := true) 35 rfl rfl rfl rfl (shO_off (b' := true) 35 rfl rfl rfl rfl (shO_off (b' := true) 35 rfl rfl rfl rfl ?_))))))
     refine ov (v_pick_t rfl rfl) rfl ?_
     refine shO_nil ?_
     obtain rfl := inj1 r9
     exact mi kr ⟨rfl, rfl, (sc rfl (sc rfl (sc rfl (sc rfl (sc rfl (sn _))))))⟩
   have r10 := bf r7 c8; clear r7
   refine shO_on (b := false) 19 rfl (EnvB rfl c8) (om rfl rfl (shO_on (b := false) 19 rfl (EnvB rfl c8) ?_))
   refine ov (v_fieldAddr fa_34_1 rfl) rfl ?_
   refine shO_on (b := false) 19 rfl (EnvB rfl c8) ?_
   refine ov (v_load Tryz.isAgg28 rfl (Has.own 0 rfl) rfl) rfl ?_
   refine shO_on (b := false) 19 rfl (EnvB rfl c8) ?_
   refine ov (v_lenS Tryz.underlying28 rfl) rfl ?_
   refine shO_on (b := false) 19 rfl (EnvB rfl c8) ?_
   obtain ⟨g11, r12⟩ := gd_ok r10; clear r10
   refine ov (v_sub rfl rfl g11) rfl ?_
   refine shO_on (b := false) 19 rfl (EnvB rfl c8) ?_
   obtain ⟨ok2, h13, r14⟩ := b1_ok r12; clear r12
   refine o_callV rfl Tryz.call114 rfl rfl rfl (oyezref01_off_w h13) ?_
   refine ov (v_pick_f (evB rfl c8) rfl) rfl ?_
   refine om rfl rfl ?_
   rcases bool_two ok2 with c15 | c15
   · have r16 := bt r14 c15; clear r14
     refine shO_off (b' := true) 27 rfl (EnvB rfl c15) rfl rfl (shO_off (b' := true) 27 rfl (EnvB rfl c15) rfl rfl (shO_off (b' := true) 27 rfl (EnvB rfl c15) rfl rfl (shO_off (b' := true) 27 rfl (EnvB rfl c15) rfl rfl (shO_off (b' := true) 27 rfl (EnvB rfl c15) rfl rfl (shO_off (b' := true) 27 rfl (EnvB rfl c15) rfl rfl ?_)))))
     refine ov (v_pick_t (evB rfl c15) rfl) rfl ?_
     refine om rfl rfl (shO_off (b' := true) 35 rfl rfl rfl rfl (shO_off (b' := true) 35 rfl rfl rfl rfl (shO_off (b' := true) 35 rfl rfl rfl rfl (shO_off (b' := true) 35 rfl rfl rfl rfl (shO_off (b' := true) 35 rfl rfl rfl rfl (shO_off (b' := true) 35 rfl rfl rfl rfl ?_))))))
     refine ov (v_pick_t rfl rfl) rfl ?_
     refine shO_nil ?_
     obtain rfl := inj1 r16
     exact mi kr ⟨rfl, rfl, (sc rfl (sc rfl (sc rfl (sc rfl (sc rfl (sn _))))))⟩
   have r17 := bf r14 c15; clear r14
   refine shO_on (b := false) 27 rfl (EnvB rfl c15) ?_
   refine ov (v_fieldAddr fa_34_1 rfl) rfl ?_
   refine shO_on (b := false) 27 rfl (EnvB rfl c15) ?_
   refine ov (v_load Tryz.isAgg28 rfl (Has.own 0 rfl) rfl) rfl ?_
   refine shO_on (b := false) 27 rfl (EnvB rfl c15) (om rfl rfl (shO_on (b := false) 27 rfl (EnvB rfl c15) ?_))
   obtain ⟨x, g18, hx19, r20⟩ := ix_ok r17; clear r17
   obtain ⟨b21, o22, c23, vs24, ha25, hs26, hle27, rfl, hl28, hc29⟩ := RowR.at (iE_ok _) h_plots ([(b1, .cells #[.int .i64 wide, .slice plots_a plots.length plots_c] 34 (0, 0))]) g18.1 hx19
   refine ov (v_indexO Tryz.underlying28 Tryz.sizeOf3 rfl ha25 rfl g18) rfl ?_
   refine shO_on (b := false) 27 rfl (EnvB rfl c15) ?_
   refine ov (v_load Tryz.isAgg3 rfl hs26 (hc29 0 (by decide))) rfl ?_
   refine shO_on (b := false) 27 rfl (EnvB rfl c15) ?_
   refine ov (v_eql rfl rfl) rfl ?_
   refine ov (v_pick_f (evB rfl c15) rfl) rfl ?_
   refine om rfl rfl ?_
   by_cases c30 : x = 2
   · have r31 := ite_t r20 c30; clear r20
     refine shO_off (b' := true) 35 rfl (Env.isT rfl c30) rfl rfl (shO_off (b' := true) 35 rfl (Env.isT rfl c30) rfl rfl (shO_off (b' := true) 35 rfl (Env.isT rfl c30) rfl rfl (shO_off (b' := true) 35 rfl (Env.isT rfl c30) rfl rfl (shO_off (b' := true) 35 rfl (Env.isT rfl c30) rfl rfl (shO_off (b' := true) 35 rfl (Env.isT rfl c30) rfl rfl ?_)))))
     refine ov (v_pick_t (evD_true rfl c30) rfl) rfl ?_
     refine shO_nil ?_
     obtain rfl := inj1 r31
     exact mi kr ⟨rfl, rfl, (sc rfl (sc rfl (sc rfl (sc rfl (sc rfl (sn _))))))⟩
   have r32 := ite_f r20 c30; clear r20
   refine shO_on (b := false) 35 rfl (Env.isF rfl c30) ?_
   refine ov (v_fieldAddr fa_34_1 rfl) rfl ?_
   refine shO_on (b := false) 35 rfl (Env.isF rfl c30) ?_
   refine ov (v_load Tryz.isAgg28 rfl (Has.own 0 rfl) rfl) rfl ?_
   refine shO_on (b := false) 35 rfl (Env.isF rfl c30) (om rfl rfl (shO_on (b := false) 35 rfl (Env.isF rfl c30) ?_))
   obtain ⟨x2, g33, hx34, r35⟩ := ix_ok r32; clear r32
   obtain ⟨b36, o37, c38, vs39, ha40, hs41, hle42, rfl, hl43, hc44⟩ := RowR.at (iE_ok _) h_plots ([(b1, .cells #[.int .i64 wide, .slice plots_a plots.length plots_c] 34 (0, 0))]) g33.1 hx34
   refine ov (v_indexO Tryz.underlying28 Tryz.sizeOf3 rfl ha40 rfl g33) rfl ?_
   refine shO_on (b := false) 35 rfl (Env.isF rfl c30) ?_
   refine ov (v_load Tryz.isAgg3 rfl hs41 (hc44 0 (by decide))) rfl ?_
   refine shO_on (b := false) 35 rfl (Env.isF rfl c30) ?_
   refine ov (v_eql rfl rfl) rfl ?_
   refine ov (v_pick_f (evD_false rfl c30) rfl) rfl ?_
   refine shO_nil ?_
   obtain rfl := inj1 r35
   exact mi kr ⟨rfl, rfl, (sc rfl (sc rfl (sc rfl (sc rfl (sc rfl (sn _))))))⟩
 rintro e1 _ _ ⟨rfl, rfl, he45⟩
 refine shW_env _ he45 ?_; clear he45
 refine shW_cond rfl (fun c46 => ?_) (fun c46 => ?_)
 · have r47 := bt r3 c46; clear r3
   refine wsr (oa rfl rfl (shO_nil ?_))
   refine kW kn ?_
   refine shW_ret (andThen_ret ?_)
   refine q_res1 Tryz.results116 (res_tmp rfl) (sr) ?_
   obtain rfl := inj1 r47
   exact rfl
 have r48 := bf r3 c46; clear r3
 refine shW_skip ?_
 refine wsd (by kernel_rfl) (by kernel_rfl) (by kernel_rfl) ?_
 refine qm rfl rfl ?_
 refine qv (v_fieldAddr fa_34_0 rfl) rfl ?_
 refine qv (v_load Tryz.isAgg3 rfl (Has.own 0 rfl) rfl) rfl ?_
 obtain ⟨g49, r50⟩ := gd_ok r48; clear r48
 refine qv (v_quoT rfl rfl g49) rfl ?_
 refine qm rfl rfl ?_
 refine qv (v_fieldAddr fa_34_0 rfl) rfl ?_
 refine qv (v_load Tryz.isAgg3 rfl (Has.own 0 rfl) rfl) rfl ?_
 obtain ⟨g51, r52⟩ := gd_ok r50; clear r50
 refine qv (v_quoT rfl rfl g51) rfl ?_
 obtain ⟨g53, r54⟩ := gd_ok r52; clear r52
 refine qv (v_sub rfl rfl g53) rfl ?_
 obtain ⟨down, h55, r56⟩ := bv_ok r54; clear r54
 refine qv ((v_assign rfl).i h55) rfl ?_
 refine qsd (by kernel_rfl) (by kernel_rfl) (by kernel_rfl) ?_
 refine qm rfl rfl ?_
 refine qv (v_fieldAddr fa_34_0 rfl) rfl ?_
 refine qv (v_load Tryz.isAgg3 rfl (Has.own 0 rfl) rfl) rfl ?_
 obtain ⟨g57, r58⟩ := gd_ok r56; clear r56
 refine qv (v_remT rfl rfl g57) rfl ?_
 refine qm rfl rfl ?_
 refine qv (v_fieldAddr fa_34_0 rfl) rfl ?_
 refine qv (v_load Tryz.isAgg3 rfl (Has.own 0 rfl) rfl) rfl ?_
 obtain ⟨g59, r60⟩ := gd_ok r58; clear r58
 refine qv (v_remT rfl rfl g59) rfl ?_
 obtain ⟨g61, r62⟩ := gd_ok r60; clear r60
 refine qv (v_sub rfl rfl g61) rfl ?_
 obtain ⟨right_, h63, r64⟩ := bv_ok r62; clear r62
 refine qv ((v_assign rfl).i h63) rfl ?_
 refine shQ_nil (shW_seq (wsr (om rfl rfl (om rfl rfl ?_))))
 obtain ⟨g65, r66⟩ := gd_ok r64; clear r64
 refine ov (v_mul rfl rfl g65) rfl ?_
 refine om rfl rfl (om rfl rfl ?_)
 obtain ⟨g67, r68⟩ := gd_ok r66; clear r66
 refine ov (v_mul rfl rfl g67) rfl ?_
 obtain ⟨g69, r70⟩ := gd_ok r68; clear r68
 refine ov (v_add rfl rfl g69) rfl ?_
 refine ov (v_neq rfl rfl) rfl ?_
 refine shO_nil ?_
 refine shW_condP rfl (fun c71 => ?_) (fun c71 => ?_)
 · have r72 := ite_t r70 c71; clear r70
   refine wsr (oa rfl rfl (shO_nil ?_))
   refine kW kn ?_
   refine shW_ret (andThen_ret ?_)
   refine q_res1 Tryz.results116 (res_tmp rfl) (sr) ?_
   obtain rfl := inj1 r72
   exact rfl
 have r73 := ite_f r70 c71; clear r70
 refine shW_skip (wsr (oa rfl rfl (shO_nil ?_)))
 obtain ⟨along, h74, r75⟩ := b1_ok r73; clear r73
 refine shW_join (fun e1 F1 L1 => F = F1 ∧ L1 = [(b1, .cells #[.int .i64 wide, .slice plots_a plots.length plots_c] 34 (0, 0))] ∧ e1.sub [(3, .int .i64 q), (4, .pointer (some ⟨b1, 0, none⟩)), (11, .int .i64 along)]) ?_ ?_
 · clear r75
   refine wsr (om rfl rfl (shO_nil ?_))
   refine shW_block ?_
   refine wsr ?_
   refine ov (v_eql rfl rfl) rfl ?_
   refine oa rfl rfl (shO_nil ?_)
   refine shW_condP rfl (fun c76 => ?_) (fun c76 => ?_)
   · have r77 := ite_t h74 c76; clear h74
     refine shW_region (om rfl rfl ?_)
     obtain ⟨g78, r79⟩ := gd_ok r77; clear r77
     refine ov (v_negT rfl g78) rfl ?_
     refine oa rfl rfl (shO_nil (inBlock_n (id := 0) ?_))
     obtain rfl := inj1 r79
     exact mi kr ⟨rfl, rfl, (sc rfl (sc rfl (sc rfl (sn _))))⟩
   have r80 := ite_f h74 c76; clear h74
   refine wsr ?_
   refine ov (v_eql rfl rfl) rfl ?_
   refine oa rfl rfl (shO_nil ?_)
   refine shW_condP rfl (fun c81 => ?_) (fun c81 => ?_)
   · have r82 := ite_t r80 c81; clear r80
     refine shW_region (om rfl rfl (oa rfl rfl (shO_nil (inBlock_n (id := 0) ?_))))
     obtain rfl := inj1 r82
     exact mi kr ⟨rfl, rfl, (sc rfl (sc rfl (sc rfl (sn _))))⟩
   have r83 := ite_f r80 c81; clear r80
   refine wsr ?_
   refine ov (v_eql rfl rfl) rfl ?_
   refine oa rfl rfl (shO_nil ?_)
   refine shW_condP rfl (fun c84 => ?_) (fun c84 => ?_)
   · have r85 := ite_t r83 c84; clear r83
     refine shW_region (om rfl rfl (oa rfl rfl (shO_nil (inBlock_n (id := 0) ?_))))
     obtain rfl := inj1 r85
     exact mi kr ⟨rfl, rfl, (sc rfl (sc rfl (sc rfl (sn _))))⟩
   have r86 := ite_f r83 c84; clear r83
   refine wsr ?_
   refine ov (v_eql rfl rfl) rfl ?_
   refine oa rfl rfl (shO_nil ?_)
   refine shW_condP rfl (fun c87 => ?_) (fun c87 => ?_)
   · have r88 := ite_t r86 c87; clear r86
     refine shW_region (om rfl rfl ?_)
     obtain ⟨g89, r90⟩ := gd_ok r88; clear r88
     refine ov (v_negT rfl g89) rfl ?_
     refine oa rfl rfl (shO_nil (inBlock_n (id := 0) ?_))
     obtain rfl := inj1 r90
     exact mi kr ⟨rfl, rfl, (sc rfl (sc rfl (sc rfl (sn _))))⟩
   have r91 := ite_f r86 c87; clear r86
   refine shW_skip (inBlock_n (id := 0) ?_)
   obtain rfl := inj1 r91
   exact mi kr ⟨rfl, rfl, (sc rfl (sc rfl (sc rfl (sn _))))⟩
 rintro e1 _ _ ⟨rfl, rfl, he92⟩
 refine shW_env _ he92 ?_; clear he92
 refine wsr (oa rfl rfl (shO_nil ?_))
 obtain ⟨n, h93, r94⟩ := b1_ok r75; clear r75
 refine shW_join (fun e1 F1 L1 => F = F1 ∧ L1 = [(b1, .cells #[.int .i64 wide, .slice plots_a plots.length plots_c] 34 (0, 0))] ∧ e1.sub [(3, .int .i64 q), (4, .pointer (some ⟨b1, 0, none⟩)), (11, .int .i64 along), (12, .int .i64 n)]) ?_ ?_
 · clear r94
   refine wsr (om rfl rfl ?_)
   refine ov (v_eql rfl rfl) rfl ?_
   refine shO_nil ?_
   refine shW_condP rfl (fun c95 => ?_) (fun c95 => ?_)
   · have r96 := ite_t h93 c95; clear h93
     refine shW_region (oa rfl rfl (shO_nil ?_))
     obtain rfl := inj1 r96
     exact mi kr ⟨rfl, rfl, (sc rfl (sc rfl (sc rfl (sc rfl (sn _)))))⟩
   have r97 := ite_f h93 c95; clear h93
   refine shW_skip ?_
   obtain rfl := inj1 r97
   exact mi kr ⟨rfl, rfl, (sc rfl (sc rfl (sc rfl (sc rfl (sn _)))))⟩
 rintro e1 _ _ ⟨rfl, rfl, he98⟩
 refine shW_env _ he98 ?_; clear he98
 obtain ⟨n2, h99, r100⟩ := b1_ok r94; clear r94
 refine shW_join (fun e1 F1 L1 => F = F1 ∧ L1 = [(b1, .cells #[.int .i64 wide, .slice plots_a plots.length plots_c] 34 (0, 0))] ∧ e1.sub [(3, .int .i64 q), (4, .pointer (some ⟨b1, 0, none⟩)), (12, .int .i64 n2)]) ?_ ?_
 · clear r100
   refine wsr (om rfl rfl ?_)
   refine ov (v_eql rfl rfl) rfl ?_
   refine shO_nil ?_
   refine shW_condP rfl (fun c101 => ?_) (fun c101 => ?_)
   · have r102 := ite_t h99 c101; clear h99
     refine shW_region (oa rfl rfl (shO_nil ?_))
     obtain rfl := inj1 r102
     exact mi kr ⟨rfl, rfl, (sc rfl (sc rfl (sc rfl (sn _))))⟩
   have r103 := ite_f h99 c101; clear h99
   refine shW_skip ?_
   obtain rfl := inj1 r103
   exact mi kr ⟨rfl, rfl, (sc rfl (sc rfl (sc rfl (sn _))))⟩
 rintro e1 _ _ ⟨rfl, rfl, he104⟩
 refine shW_env _ he104 ?_; clear he104
 refine wsr (om rfl rfl ?_)
 refine ov (v_fieldAddr fa_34_1 rfl) rfl ?_
 refine ov (v_load Tryz.isAgg28 rfl (Has.own 0 rfl) rfl) rfl ?_
 refine om rfl rfl ?_
 obtain ⟨x3, g105, hx106, r107⟩ := ix_ok r100; clear r100
 obtain ⟨b108, o109, c110, vs111, ha112, hs113, hle114, rfl, hl115, hc116⟩ := RowR.at (iE_ok _) h_plots ([(b1, .cells #[.int .i64 wide, .slice plots_a plots.length plots_c] 34 (0, 0))]) g105.1 hx106
 refine ov (v_indexO Tryz.underlying28 Tryz.sizeOf3 rfl ha112 rfl g105) rfl ?_
 refine ov (v_load Tryz.isAgg3 rfl hs113 (hc116 0 (by decide))) rfl ?_
 refine ov (v_remT rfl rfl (by decide)) rfl ?_
 obtain ⟨g117, r118⟩ := gd_ok r107; clear r107
 refine ov (v_add rfl rfl g117) rfl ?_
 refine oa rfl rfl (shO_nil ?_)
 refine kW kn ?_
 refine shW_ret ?_
 refine q_res1 Tryz.results116 (res_tmp rfl) (sr) ?_
 obtain rfl := inj1 r118
 exact rfl
set_option maxHeartbeats 1000000 in
theorem oyezref01_Needs_w {wide : Int} {plots_a : Option Addr} {plots_c : Nat} {plots : List Int} {wind : Int} {stand : Int} {F : FS} (h_plots : RowR 1 (iE .i64) F plots_a plots_c plots) {r : List Int} {r2 : Int} (hr : oyezref01_Needs wide plots wind stand = some (r, r2)) :
    SH.Spec Tryz.prog 96 #[.agg #[.int .i64 wide, .slice plots_a plots.length plots_c], .int .i64 wind, .int .i64 stand] F [] fun F' L' v => ∃ (ra : Option Addr) (rn : Nat) (rc : Nat) (rL : LH), v = .tuple #[.slice ra rn rc, .int .i64 r2] ∧ L' = rL ++ [] ∧ SlR 0 3 1 (iE .i64) F' ra rn rc r rL := by
 refine spec_of_shW (args := [.agg #[.int .i64 wide, .slice plots_a plots.length plots_c], .int .i64 wind, .int .i64 stand]) Tryz.func96 rfl Tryz.ntmps96 (Nat.le_of_ble_eq_true rfl) ?_
 intro K _ _; rw [oyezref01_Needs] at hr
 refine wsr ?_
 refine o_box rfl rfl ?_; intro b1 hb1
 refine oa rfl rfl (oa rfl rfl (shO_nil (shW_seq (wsr ?_))))
 refine ov (v_loadA (cs := #[.int .i64 wide, .slice plots_a plots.length plots_c]) Tryz.isAgg34 Tryz.sizeOf34 rfl (Has.own 0 rfl) (Nat.le_of_ble_eq_true rfl) rfl) rfl ?_
 refine om rfl rfl (om rfl rfl ?_)
 obtain ⟨n, h2, r3⟩ := b1_ok hr; clear hr
 refine o_callV rfl Tryz.call115 rfl rfl rfl (oyezref01_Stand_w h_plots h2) ?_
 refine oa rfl rfl (nsr (om rfl rfl ?_))
 refine ov (v_neq rfl rfl) rfl ?_
 refine shO_nil ?_
 refine shW_condP rfl (fun c4 => ?_) (fun c4 => ?_)
 · have r5 := ite_t r3 c4; clear r3
   refine wsr (om rfl rfl (oa rfl rfl (oa rfl rfl (shO_nil ?_))))
   refine kW kn ?_
   refine shW_ret (andThen_ret ?_)
   refine q_res2 Tryz.results96 (res_tmp rfl) (res_tmp rfl) (sr) ?_
   obtain ⟨rfl, rfl⟩ := inj2 r5
   exact ⟨_, _, _, [], rfl, rfl, SlR.nil _ _ _ _ _⟩
 have r6 := ite_f r3 c4; clear r3
 refine shW_skip (wsr ?_)
 refine ov (v_fieldAddr fa_34_1 rfl) rfl ?_
 refine ov (v_load Tryz.isAgg28 rfl (Has.own 0 rfl) rfl) rfl ?_
 refine ov (v_lenS Tryz.underlying28 rfl) rfl ?_
 obtain ⟨g7, r8⟩ := gd_ok r6; clear r6
 obtain ⟨l, h9, r10⟩ := bv_ok r8; clear r8
 refine o_makeZ (R := (iE .i64)) (z0 := 0) (zs := l) rfl slt_28 (by decide) (iE_ok _) (fun _ => rfl) rfl g7 h9 (fun _ => .c .n) ?_; intro a11 n14 Lb12 hz13
 refine oa rfl rfl (shO_nil ?_)
 obtain ⟨out, h18, r19⟩ := b1_ok r10; clear r10
 refine shW_join (fun e1 F1 L1 => ∃ (Lb16 : LH), F = F1 ∧ L1 = ((b1, .cells #[.int .i64 wide, .slice plots_a plots.length plots_c] 34 (0, 0)) :: (Lb16 ++ [])) ∧ e1.sub [(1, .int .i64 wind), (2, .int .i64 stand), (3, .pointer (some ⟨b1, 0, none⟩)), (9, .slice a11 n14 n14)] ∧ SlR K.w0.heap.size 3 1 (iE .i64) F1 a11 n14 n14 out Lb16) ?_ ?_
 · clear r19
   refine wsr (oa rfl rfl (shO_nil ?_))
   refine shW_block ?_
   refine shW_lp (fun fu1 e1 F1 L1 => ∃ (out2 : List Int) (p : Int) (Lb20 : LH), oyezref01_Needs_l1 fu1 out2 p = some out ∧ F = F1 ∧ L1 = ((b1, .cells #[.int .i64 wide, .slice plots_a plots.length plots_c] 34 (0, 0)) :: (Lb20 ++ [])) ∧ e1.sub [(1, .int .i64 wind), (2, .int .i64 stand), (3, .pointer (some ⟨b1, 0, none⟩)), (9, .slice a11 n14 n14), (10, .int .i64 p)] ∧ SlR K.w0.heap.size 3 1 (iE .i64) F1 a11 n14 n14 out2 Lb20) FU (m0 kr ⟨l, 0, Lb12, h18, rfl, rfl, (sc rfl (sc rfl (sc rfl (sc rfl (sc rfl (sn _)))))), hz13⟩) ?_
   rintro fu1 e1 _ _ ⟨out2, p, Lb20, r24, rfl, rfl, he25, hz21⟩
   refine shW_env _ he25 ?_; clear he25
   rcases fu1 with _ | fu1
   · rw [oyezref01_Needs_l1] at r24; cases r24
   rw [oyezref01_Needs_l1] at r24
   refine shW_seq (wsr (om rfl rfl (om rfl rfl ?_)))
   refine ov ((v_lenS Tryz.underlying28 rfl).i (SlR.lenI hz21)) rfl ?_
   refine ov (v_lssK rfl rfl) rfl ?_
   refine shO_nil ?_
   refine shW_condP rfl (fun c26 => ?_) (fun c26 => ?_)
   · have r27 := ite_t r24 c26; clear r24
     refine shW_skip (shW_seq ?_)
     refine shW_block ?_
     refine shW_region (om rfl rfl (om rfl rfl ?_))
     obtain ⟨x, g28, hx29, r30⟩ := ix_ok r27; clear r27
     obtain ⟨b31, o32, c33, vs34, ha35, hs36, hle37, rfl, hl38, hc39⟩ := SlR.at (iE_ok _) hz21 (L := (b1, .cells #[.int .i64 wide, .slice plots_a plots.length plots_c] 34 (0, 0)) :: (Lb20 ++ [])) (fC fP) g28.1 hx29
     refine ov (v_indexO Tryz.underlying28 Tryz.sizeOf3 rfl ha35 rfl (SlR.idx hz21 g28)) rfl ?_
     obtain ⟨out3, h40, r41⟩ := bv_ok r30; clear r30
     refine o_storeZ (u := -1) Tryz.sizeOf3 (iE_ok _) rfl ha35 rfl rfl (fun _ => .c .h) hz21 h40 g28 ?_; intro Lb42 hz43
     refine shO_nil (inBlock_n (id := 1) (shW_region (om rfl rfl ?_)))
     obtain ⟨g44, r45⟩ := gd_ok r41; clear r41
     refine ov (v_add rfl rfl g44) rfl ?_
     refine oa rfl rfl (shO_nil ?_)
     exact le kr ⟨out3, p + 1, Lb42, r45, rfl, rfl, (sc rfl (sc rfl (sc rfl (sc rfl (sc rfl (sn _)))))), hz43⟩
   have r46 := ite_f r24 c26; clear r24
   refine shW_exit (andThen_exit (andThen_exit ?_))
   refine inBlock_exit ?_
   obtain rfl := inj1 r46
   exact mi kr ⟨Lb20, rfl, rfl, (sc rfl (sc rfl (sc rfl (sc rfl (sn _))))), hz21⟩
 rintro e1 _ _ ⟨Lb16, rfl, rfl, he47, hz17⟩
 refine shW_env _ he47 ?_; clear he47
 refine wsr (om rfl rfl (om rfl rfl ?_))
 obtain ⟨x2, g48, hx49, r50⟩ := ix_ok r19; clear r19
 obtain ⟨b51, o52, c53, vs54, ha55, hs56, hle57, rfl, hl58, hc59⟩ := SlR.at (iE_ok _) hz17 (L := (b1, .cells #[.int .i64 wide, .slice plots_a plots.length plots_c] 34 (0, 0)) :: (Lb16 ++ [])) (fC fP) g48.1 hx49
 refine ov (v_indexO Tryz.underlying28 Tryz.sizeOf3 rfl ha55 rfl (SlR.idx hz17 g48)) rfl ?_
 obtain ⟨out4, h60, r61⟩ := bv_ok r50; clear r50
 refine o_storeZ (u := 0) Tryz.sizeOf3 (iE_ok _) rfl ha55 rfl rfl (fun _ => .c .h) hz17 h60 g48 ?_; intro Lb62 hz63
 refine shO_nil ?_
 obtain ⟨out5, h66, r67⟩ := b1_ok r61; clear r61
 refine shW_join (fun e1 F1 L1 => ∃ (Lb64 : LH), F = F1 ∧ L1 = (Lb64 ++ []) ∧ e1.sub [(9, .slice a11 n14 n14)] ∧ SlR K.w0.heap.size 3 1 (iE .i64) F1 a11 n14 n14 out5 Lb64) ?_ ?_
 · clear r67
   refine wsr (oa rfl rfl (shO_nil ?_))
   refine shW_block ?_
   refine shW_lp (fun fu2 e1 F1 L1 => ∃ (out6 : List Int) (changed : Bool) (Lb68 : LH), oyezref01_Needs_l2 wide plots wind fu2 out6 changed = some out5 ∧ F = F1 ∧ L1 = ((b1, .cells #[.int .i64 wide, .slice plots_a plots.length plots_c] 34 (0, 0)) :: (Lb68 ++ [])) ∧ e1.sub [(1, .int .i64 wind), (3, .pointer (some ⟨b1, 0, none⟩)), (9, .slice a11 n14 n14), (11, .bool changed)] ∧ SlR K.w0.heap.size 3 1 (iE .i64) F1 a11 n14 n14 out6 Lb68) FU (m0 kr ⟨out4, true, Lb62, h66, rfl, rfl, (sc rfl (sc rfl (sc rfl (sc rfl (sn _))))), hz63⟩) ?_
   rintro fu2 e1 _ _ ⟨out6, changed, Lb68, r72, rfl, rfl, he73, hz69⟩
   refine shW_env _ he73 ?_; clear he73
   rcases fu2 with _ | fu2
   · rw [oyezref01_Needs_l2] at r72; cases r72
   rw [oyezref01_Needs_l2] at r72
   refine shW_seq (wsr (om rfl rfl (shO_nil ?_)))
   refine shW_cond rfl (fun c74 => ?_) (fun c74 => ?_)
   · have r75 := bt r72 c74; clear r72
     refine shW_skip ?_
     refine shW_block ?_
     refine wsr (oa rfl rfl (nsr (oa rfl rfl (shO_nil ?_))))
     refine shW_block ?_
     refine shW_lp (fun fu3 e1 F1 L1 => ∃ (out7 : List Int) (changed2 : Bool) (p2 : Int) (Lb76 : LH), oyezref01_Needs_l3 wide plots wind (oyezref01_Needs_l2 wide plots wind fu2) fu3 out7 changed2 p2 = some out5 ∧ F = F1 ∧ L1 = ((b1, .cells #[.int .i64 wide, .slice plots_a plots.length plots_c] 34 (0, 0)) :: (Lb76 ++ [])) ∧ e1.sub [(1, .int .i64 wind), (3, .pointer (some ⟨b1, 0, none⟩)), (9, .slice a11 n14 n14), (11, .bool changed2), (12, .int .i64 p2)] ∧ SlR K.w0.heap.size 3 1 (iE .i64) F1 a11 n14 n14 out7 Lb76) FU (m0 kr ⟨out6, false, 0, Lb68, r75, rfl, rfl, (sc rfl (sc rfl (sc rfl (sc rfl (sc rfl (sn _)))))), hz69⟩) ?_
     rintro fu3 e1 _ _ ⟨out7, changed2, p2, Lb76, r80, rfl, rfl, he81, hz77⟩
     refine shW_env _ he81 ?_; clear he81
     rcases fu3 with _ | fu3
     · rw [oyezref01_Needs_l3] at r80; cases r80
     rw [oyezref01_Needs_l3] at r80
     refine shW_seq (wsr (om rfl rfl (om rfl rfl ?_)))
     refine ov ((v_lenS Tryz.underlying28 rfl).i (SlR.lenI hz77)) rfl ?_
     refine ov (v_lssK rfl rfl) rfl ?_
     refine shO_nil ?_
     refine shW_condP rfl (fun c82 => ?_) (fun c82 => ?_)
     · have r83 := ite_t r80 c82; clear r80
       refine shW_skip ?_
       obtain ⟨out8, changed3, h86, r87⟩ := b2_ok r83; clear r83
       refine shW_join (fun e1 F1 L1 => ∃ (Lb84 : LH), F = F1 ∧ L1 = ((b1, .cells #[.int .i64 wide, .slice plots_a plots.length plots_c] 34 (0, 0)) :: (Lb84 ++ [])) ∧ e1.sub [(1, .int .i64 wind), (3, .pointer (some ⟨b1, 0, none⟩)), (9, .slice a11 n14 n14), (11, .bool changed3), (12, .int .i64 p2)] ∧ SlR K.w0.heap.size 3 1 (iE .i64) F1 a11 n14 n14 out8 Lb84) ?_ ?_
       · clear r87
         refine shW_block ?_
         refine wsr (oa rfl rfl (shO_nil ?_))
         refine shW_block ?_
         refine shW_lp (fun fu4 e1 F1 L1 => ∃ (out9 : List Int) (changed4 : Bool) (q : Int) (Lb88 : LH), oyezref01_Needs_l4 wide plots wind p2 fu4 out9 changed4 q = some (out8, changed3) ∧ F = F1 ∧ L1 = ((b1, .cells #[.int .i64 wide, .slice plots_a plots.length plots_c] 34 (0, 0)) :: (Lb88 ++ [])) ∧ e1.sub [(1, .int .i64 wind), (3, .pointer (some ⟨b1, 0, none⟩)), (9, .slice a11 n14 n14), (11, .bool changed4), (12, .int .i64 p2), (13, .int .i64 q)] ∧ SlR K.w0.heap.size 3 1 (iE .i64) F1 a11 n14 n14 out9 Lb88) FU (m0 kr ⟨out7, changed2, 0, Lb76, h86, rfl, rfl, (sc rfl (sc rfl (sc rfl (sc rfl (sc rfl (sc rfl (sn _))))))), hz77⟩) ?_
         rintro fu4 e1 _ _ ⟨out9, changed4, q, Lb88, r92, rfl, rfl, he93, hz89⟩
         refine shW_env _ he93 ?_; clear he93
         rcases fu4 with _ | fu4
         · rw [oyezref01_Needs_l4] at r92; cases r92
         rw [oyezref01_Needs_l4] at r92
         refine shW_seq (wsr (om rfl rfl (om rfl rfl ?_)))
         refine ov ((v_lenS Tryz.underlying28 rfl).i (SlR.lenI hz89)) rfl ?_
         refine ov (v_lssK rfl rfl) rfl ?_
         refine shO_nil ?_
         refine shW_condP rfl (fun c94 => ?_) (fun c94 => ?_)
         · have r95 := ite_t r92 c94; clear r92
           refine shW_skip (shW_seq ?_)
           refine shW_block ?_
           refine wsr ?_
           refine ov (v_loadA (cs := #[.int .i64 wide, .slice plots_a plots.length plots_c]) Tryz.isAgg34 Tryz.sizeOf34 rfl (Has.own 0 rfl) (Nat.le_of_ble_eq_true rfl) rfl) rfl ?_
           refine om rfl rfl (om rfl rfl (om rfl rfl ?_))
           obtain ⟨n2, h96, r97⟩ := b1_ok r95; clear r95
           refine o_callV rfl Tryz.call116 rfl rfl rfl (oyezref01_Step_w h_plots h96) ?_
           refine oa rfl rfl (shO_nil ?_)
           obtain ⟨k, h98, r99⟩ := b1_ok r97; clear r97
           refine shW_join (fun e1 F1 L1 => F = F1 ∧ L1 = ((b1, .cells #[.int .i64 wide, .slice plots_a plots.length plots_c] 34 (0, 0)) :: (Lb88 ++ [])) ∧ e1.sub [(1, .int .i64 wind), (3, .pointer (some ⟨b1, 0, none⟩)), (9, .slice a11 n14 n14), (11, .bool changed4), (12, .int .i64 p2), (13, .int .i64 q), (14, .int .i64 n2), (84, .bool k)]) ?_ ?_
           · clear r99
             refine shW_draw (by kernel_rfl) (by kernel_rfl) (by kernel_rfl) ?_
             refine qm rfl rfl ?_
             refine qv (v_gtrK rfl rfl) rfl ?_
             refine qm rfl rfl ?_
             by_cases c100 : 0 < n2
             · have r101 := ite_t h98 c100; clear h98
               refine shQ_on (b := true) 58 rfl (Env.isT rfl c100) (qm rfl rfl (shQ_on (b := true) 58 rfl (Env.isT rfl c100) (qm rfl rfl (shQ_on (b := true) 58 rfl (Env.isT rfl c100) ?_))))
               obtain ⟨x3, g102, hx103, r104⟩ := ix_ok r101; clear r101
               obtain ⟨b105, o106, c107, vs108, ha109, hs110, hle111, rfl, hl112, hc113⟩ := SlR.at (iE_ok _) hz89 (L := (b1, .cells #[.int .i64 wide, .slice plots_a plots.length plots_c] 34 (0, 0)) :: (Lb88 ++ [])) (fC fP) g102.1 hx103
               refine qv (v_indexO Tryz.underlying28 Tryz.sizeOf3 rfl ha109 rfl (SlR.idx hz89 g102)) rfl ?_
               refine shQ_on (b := true) 58 rfl (Env.isT rfl c100) ?_
               refine qv (v_load Tryz.isAgg3 rfl hs110 (hc113 0 (by decide))) rfl ?_
               refine shQ_on (b := true) 58 rfl (Env.isT rfl c100) ?_
               refine qv (v_geqK rfl rfl) rfl ?_
               refine qv (v_pick_t (evD_true rfl c100) rfl) rfl ?_
               refine qm rfl rfl ?_
               by_cases c114 : 0 ≤ x3
               · have r115 := ite_t r104 c114; clear r104
                 refine shQ_on (b := true) 65 rfl (Env.isT rfl c114) (qm rfl rfl (shQ_on (b := true) 65 rfl (Env.isT rfl c114) (qm rfl rfl (shQ_on (b := true) 65 rfl (Env.isT rfl c114) ?_))))
                 obtain ⟨x4, g116, hx117, r118⟩ := ix_ok r115; clear r115
                 obtain ⟨b119, o120, c121, vs122, ha123, hs124, hle125, rfl, hl126, hc127⟩ := SlR.at (iE_ok _) hz89 (L := (b1, .cells #[.int .i64 wide, .slice plots_a plots.length plots_c] 34 (0, 0)) :: (Lb88 ++ [])) (fC fP) g116.1 hx117
                 refine qv (v_indexO Tryz.underlying28 Tryz.sizeOf3 rfl ha123 rfl (SlR.idx hz89 g116)) rfl ?_
                 refine shQ_on (b := true) 65 rfl (Env.isT rfl c114) ?_
                 refine qv (v_load Tryz.isAgg3 rfl hs124 (hc127 0 (by decide))) rfl ?_
                 refine shQ_on (b := true) 65 rfl (Env.isT rfl c114) ?_
                 refine qv (v_lssK rfl rfl) rfl ?_
                 refine shQ_on (b := true) 65 rfl (Env.isT rfl c114) (qm rfl rfl ?_)
                 by_cases c128 : x4 < 0
                 · have r129 := ite_t r118 c128; clear r118
                   refine shQ_off (b' := true) 71 rfl (Env.isT rfl c128) rfl rfl (shQ_off (b' := true) 71 rfl (Env.isT rfl c128) rfl rfl (shQ_off (b' := true) 71 rfl (Env.isT rfl c128) rfl rfl (shQ_off (b' := true) 71 rfl (Env.isT rfl c128) rfl rfl (shQ_off (b' := true) 71 rfl (Env.isT rfl c128) rfl rfl (shQ_off (b' := true) 71 rfl (Env.isT rfl c128) rfl rfl (shQ_off (b' := true) 71 rfl (Env.isT rfl c128) rfl rfl (shQ_off (b' := true) 71 rfl (Env.isT rfl c128) rfl rfl (shQ_off (b' := true) 71 rfl (Env.isT rfl c128) rfl rfl (shQ_off (b' := true) 71 rfl (Env.isT rfl c128) rfl rfl ?_)))))))))
                   refine shQ_off (b' := true) 71 rfl (Env.isT rfl c128) rfl rfl (shQ_on (b := true) 65 rfl (Env.isT rfl c114) ?_)
                   refine qv (v_pick_t (evD_true rfl c128) rfl) rfl ?_
                   refine qv (v_pick_t (evD_true rfl c114) rfl) rfl ?_
                   refine shQ_nil ?_
                   obtain rfl := inj1 r129
                   exact mi kr ⟨rfl, rfl, (sc rfl (sc rfl (sc rfl (sc rfl (sc rfl (sc rfl (sc rfl (sc rfl (sn _)))))))))⟩
                 have r130 := ite_f r118 c128; clear r118
                 refine shQ_on (b := false) 71 rfl (Env.isF rfl c128) (qm rfl rfl (shQ_on (b := false) 71 rfl (Env.isF rfl c128) (qm rfl rfl (shQ_on (b := false) 71 rfl (Env.isF rfl c128) ?_))))
                 obtain ⟨b131, o132, c133, vs134, ha135, hs136, hle137, rfl, hl138, hc139⟩ := SlR.at (iE_ok _) hz89 (L := (b1, .cells #[.int .i64 wide, .slice plots_a plots.length plots_c] 34 (0, 0)) :: (Lb88 ++ [])) (fC fP) g102.1 hx103
                 refine qv (v_indexO Tryz.underlying28 Tryz.sizeOf3 rfl ha135 rfl (SlR.idx hz89 g102)) rfl ?_
                 refine shQ_on (b := false) 71 rfl (Env.isF rfl c128) ?_
                 refine qv (v_load Tryz.isAgg3 rfl hs136 (hc139 0 (by decide))) rfl ?_
                 refine shQ_on (b := false) 71 rfl (Env.isF rfl c128) (qm rfl rfl (shQ_on (b := false) 71 rfl (Env.isF rfl c128) ?_))
                 obtain ⟨g140, r141⟩ := gd_ok r130; clear r130
                 refine qv (v_add rfl rfl g140) rfl ?_
                 refine shQ_on (b := false) 71 rfl (Env.isF rfl c128) (qm rfl rfl (shQ_on (b := false) 71 rfl (Env.isF rfl c128) (qm rfl rfl (shQ_on (b := false) 71 rfl (Env.isF rfl c128) ?_))))
                 obtain ⟨b142, o143, c144, vs145, ha146, hs147, hle148, rfl, hl149, hc150⟩ := SlR.at (iE_ok _) hz89 (L := (b1, .cells #[.int .i64 wide, .slice plots_a plots.length plots_c] 34 (0, 0)) :: (Lb88 ++ [])) (fC fP) g116.1 hx117
                 refine qv (v_indexO Tryz.underlying28 Tryz.sizeOf3 rfl ha146 rfl (SlR.idx hz89 g116)) rfl ?_
                 refine shQ_on (b := false) 71 rfl (Env.isF rfl c128) ?_
                 refine qv (v_load Tryz.isAgg3 rfl hs147 (hc150 0 (by decide))) rfl ?_
                 refine shQ_on (b := false) 71 rfl (Env.isF rfl c128) ?_
                 refine qv (v_lssK rfl rfl) rfl ?_
                 refine shQ_on (b := true) 65 rfl (Env.isT rfl c114) ?_
                 refine qv (v_pick_f (evD_false rfl c128) rfl) rfl ?_
                 refine qv (v_pick_t (evD_true rfl c114) rfl) rfl ?_
                 refine shQ_nil ?_
                 obtain rfl := inj1 r141
                 exact mi kr ⟨rfl, rfl, (sc rfl (sc rfl (sc rfl (sc rfl (sc rfl (sc rfl (sc rfl (sc rfl (sn _)))))))))⟩
               have r151 := ite_f r104 c114; clear r104
               refine shQ_off (b' := false) 65 rfl (Env.isF rfl c114) rfl rfl (shQ_off (b' := false) 65 rfl (Env.isF rfl c114) rfl rfl (shQ_off (b' := false) 65 rfl (Env.isF rfl c114) rfl rfl (shQ_off (b' := false) 65 rfl (Env.isF rfl c114) rfl rfl (shQ_off (b' := false) 65 rfl (Env.isF rfl c114) rfl rfl (shQ_off (b' := false) 65 rfl (Env.isF rfl c114) rfl rfl (shQ_offU 71 rfl rfl rfl (shQ_offU 71 rfl rfl rfl (shQ_offU 71 rfl rfl rfl (shQ_offU 71 rfl rfl rfl ?_)))))))))
               refine shQ_offU 71 rfl rfl rfl (shQ_offU 71 rfl rfl rfl (shQ_offU 71 rfl rfl rfl (shQ_offU 71 rfl rfl rfl (shQ_offU 71 rfl rfl rfl (shQ_offU 71 rfl rfl rfl (shQ_offU 71 rfl rfl rfl (shQ_off (b' := false) 65 rfl (Env.isF rfl c114) rfl rfl ?_)))))))
               refine qv (v_pick_f (evD_false rfl c114) rfl) rfl ?_
               refine shQ_nil ?_
               obtain rfl := inj1 r151
               exact mi kr ⟨rfl, rfl, (sc rfl (sc rfl (sc rfl (sc rfl (sc rfl (sc rfl (sc rfl (sc rfl (sn _)))))))))⟩
             have r152 := ite_f h98 c100; clear h98
             refine shQ_off (b' := false) 58 rfl (Env.isF rfl c100) rfl rfl (shQ_off (b' := false) 58 rfl (Env.isF rfl c100) rfl rfl (shQ_off (b' := false) 58 rfl (Env.isF rfl c100) rfl rfl (shQ_off (b' := false) 58 rfl (Env.isF rfl c100) rfl rfl (shQ_off (b' := false) 58 rfl (Env.isF rfl c100) rfl rfl ?_))))
             refine qv (v_pick_f (evD_false rfl c100) rfl) rfl ?_
             refine qm rfl rfl (shQ_off (b' := false) 65 rfl rfl rfl rfl (shQ_off (b' := false) 65 rfl rfl rfl rfl (shQ_off (b' := false) 65 rfl rfl rfl rfl (shQ_off (b' := false) 65 rfl rfl rfl rfl (shQ_off (b' := false) 65 rfl rfl rfl rfl (shQ_off (b' := false) 65 rfl rfl rfl rfl (shQ_offU 71 rfl rfl rfl (shQ_offU 71 rfl rfl rfl (shQ_offU 71 rfl rfl rfl ?_)))))))))
             refine shQ_offU 71 rfl rfl rfl (shQ_offU 71 rfl rfl rfl (shQ_offU 71 rfl rfl rfl (shQ_offU 71 rfl rfl rfl (shQ_offU 71 rfl rfl rfl (shQ_offU 71 rfl rfl rfl (shQ_offU 71 rfl rfl rfl (shQ_offU 71 rfl rfl rfl (shQ_off (b' := false) 65 rfl rfl rfl rfl ?_))))))))
             refine qv (v_pick_f rfl rfl) rfl ?_
             refine shQ_nil ?_
             obtain rfl := inj1 r152
             exact mi kr ⟨rfl, rfl, (sc rfl (sc rfl (sc rfl (sc rfl (sc rfl (sc rfl (sc rfl (sc rfl (sn _)))))))))⟩
           rintro e1 _ _ ⟨rfl, rfl, he153⟩
           refine shW_env _ he153 ?_; clear he153
           refine shW_cond rfl (fun c154 => ?_) (fun c154 => ?_)
           · have r155 := bt r99 c154; clear r99
             refine wsr (om rfl rfl (om rfl rfl (om rfl rfl (om rfl rfl ?_))))
             obtain ⟨x5, g156, hx157, r158⟩ := ix_ok r155; clear r155
             obtain ⟨b159, o160, c161, vs162, ha163, hs164, hle165, rfl, hl166, hc167⟩ := SlR.at (iE_ok _) hz89 (L := (b1, .cells #[.int .i64 wide, .slice plots_a plots.length plots_c] 34 (0, 0)) :: (Lb88 ++ [])) (fC fP) g156.1 hx157
             refine ov (v_indexO Tryz.underlying28 Tryz.sizeOf3 rfl ha163 rfl (SlR.idx hz89 g156)) rfl ?_
             refine ov (v_load Tryz.isAgg3 rfl hs164 (hc167 0 (by decide))) rfl ?_
             refine om rfl rfl ?_
             obtain ⟨g168, r169⟩ := gd_ok r158; clear r158
             refine ov (v_add rfl rfl g168) rfl ?_
             obtain ⟨x6, g170, hx171, r172⟩ := ix_ok r169; clear r169
             obtain ⟨b173, o174, c175, vs176, ha177, hs178, hle179, rfl, hl180, hc181⟩ := SlR.at (iE_ok _) hz89 (L := (b1, .cells #[.int .i64 wide, .slice plots_a plots.length plots_c] 34 (0, 0)) :: (Lb88 ++ [])) (fC fP) g170.1 hx171
             refine ov (v_indexO Tryz.underlying28 Tryz.sizeOf3 rfl ha177 rfl (SlR.idx hz89 g170)) rfl ?_
             obtain ⟨out10, h182, r183⟩ := bv_ok r172; clear r172
             refine o_storeZ (u := x5 + n2) Tryz.sizeOf3 (iE_ok _) rfl ha177 rfl rfl (fun _ => .c .h) hz89 h182 g170 ?_; intro Lb184 hz185
             refine shO_nil (shW_region (oa rfl rfl (shO_nil (inBlock_n (id := 7) (shW_region (om rfl rfl ?_))))))
             obtain ⟨g186, r187⟩ := gd_ok r183; clear r183
             refine ov (v_add rfl rfl g186) rfl ?_
             refine oa rfl rfl (shO_nil ?_)
             exact le kr ⟨out10, true, q + 1, Lb184, r187, rfl, rfl, (sc rfl (sc rfl (sc rfl (sc rfl (sc rfl (sc rfl (sn _))))))), hz185⟩
           have r188 := bf r99 c154; clear r99
           refine shW_skip (inBlock_n (id := 7) (shW_region (om rfl rfl ?_)))
           obtain ⟨g189, r190⟩ := gd_ok r188; clear r188
           refine ov (v_add rfl rfl g189) rfl ?_
           refine oa rfl rfl (shO_nil ?_)
           exact le kr ⟨out9, changed4, q + 1, Lb88, r190, rfl, rfl, (sc rfl (sc rfl (sc rfl (sc rfl (sc rfl (sc rfl (sn _))))))), hz89⟩
         have r191 := ite_f r92 c94; clear r92
         refine shW_exit (andThen_exit (andThen_exit ?_))
         refine inBlock_exit ?_
         refine inBlock_n (id := 5) ?_
         obtain ⟨rfl, rfl⟩ := inj2 r191
         exact mi kr ⟨Lb88, rfl, rfl, (sc rfl (sc rfl (sc rfl (sc rfl (sc rfl (sn _)))))), hz89⟩
       rintro e1 _ _ ⟨Lb84, rfl, rfl, he192, hz85⟩
       refine shW_env _ he192 ?_; clear he192
       refine shW_region (om rfl rfl ?_)
       obtain ⟨g193, r194⟩ := gd_ok r87; clear r87
       refine ov (v_add rfl rfl g193) rfl ?_
       refine oa rfl rfl (shO_nil ?_)
       exact le kr ⟨out8, changed3, p2 + 1, Lb84, r194, rfl, rfl, (sc rfl (sc rfl (sc rfl (sc rfl (sc rfl (sn _)))))), hz85⟩
     have r195 := ite_f r80 c82; clear r80
     refine shW_exit (andThen_exit (andThen_exit ?_))
     refine inBlock_exit ?_
     refine inBlock_n (id := 3) ?_
     exact le kr ⟨out7, changed2, Lb76, r195, rfl, rfl, (sc rfl (sc rfl (sc rfl (sc rfl (sn _))))), hz77⟩
   have r196 := bf r72 c74; clear r72
   refine shW_exit (andThen_exit (andThen_exit ?_))
   refine inBlock_exit ?_
   obtain rfl := inj1 r196
   exact mi (kd kr) ⟨Lb68, rfl, rfl, (sc rfl (sn _)), hz69⟩
 rintro e1 _ _ ⟨Lb64, rfl, rfl, he197, hz65⟩
 refine shW_env _ he197 ?_; clear he197
 refine wsr (om rfl rfl (oa rfl rfl (oa rfl rfl (shO_nil (shW_ret ?_)))))
 refine q_res2 Tryz.results96 (res_tmp rfl) (res_tmp rfl) (sr) ?_
 obtain ⟨rfl, rfl⟩ := inj2 r67
 exact ⟨_, _, _, _, rfl, rfl, hz65.any⟩
set_option maxHeartbeats 1000000 in
theorem oyezref01_Ears_w {wide : Int} {plots_a : Option Addr} {plots_c : Nat} {plots : List Int} {wind : Int} {voice : Int} {F : FS} (h_plots : RowR 1 (iE .i64) F plots_a plots_c plots) {r : List (List Int)} (hr : oyezref01_Ears wide plots wind voice = some r) :
    SH.Spec Tryz.prog 46 #[.agg #[.int .i64 wide, .slice plots_a plots.length plots_c], .int .i64 wind, .int .i64 voice] F [] fun F' L' v => ∃ (ra : Option Addr) (rc : Nat), v = .slice ra r.length rc ∧ L' = [] ∧ RowR 1 (slE 1 (iE .i64)) F' ra rc r := by
 refine spec_of_shW (args := [.agg #[.int .i64 wide, .slice plots_a plots.length plots_c], .int .i64 wind, .int .i64 voice]) Tryz.func46 rfl Tryz.ntmps46 (Nat.le_of_ble_eq_true rfl) ?_
 intro K _ _; rw [oyezref01_Ears] at hr
 refine wsr ?_
 refine o_box rfl rfl ?_; intro b1 hb1
 refine oa rfl rfl (nsr ?_)
 refine ov (v_fieldAddr fa_34_1 rfl) rfl ?_
 refine ov (v_load Tryz.isAgg28 rfl (Has.own 0 rfl) rfl) rfl ?_
 refine ov (v_lenS Tryz.underlying28 rfl) rfl ?_
 obtain ⟨g2, r3⟩ := gd_ok hr; clear hr
 obtain ⟨l, h4, r5⟩ := bv_ok r3; clear r3
 refine o_makeZ (R := hdE) (z0 := (none, 0, 0)) (zs := List.replicate ((plots.length : Int) : Int).toNat (none, 0, 0)) rfl slt_84 (by decide) hdE_ok (fun _ => rfl) rfl g2 rfl (fun _ => .c .n) ?_; intro a6 n9 Lb7 hO10
 have hz8 : NlR K.w0.heap.size 28 3 1 (iE .i64) F a6 n9 n9 l Lb7 := NlR.made hO10 h4
 refine oa rfl rfl (shO_nil ?_)
 obtain ⟨out, h14, r15⟩ := b1_ok r5; clear r5
 refine shW_join (fun e1 F1 L1 => ∃ (Lb12 : LH), FExt F F1 ∧ L1 = (Lb12 ++ []) ∧ e1.sub [(7, .slice a6 n9 n9)] ∧ NlR K.w0.heap.size 28 3 1 (iE .i64) F1 a6 n9 n9 out Lb12) ?_ ?_
 · clear r15
   refine wsr (oa rfl rfl (shO_nil ?_))
   refine shW_block ?_
   refine shW_lp (fun fu1 e1 F1 L1 => ∃ (tl : List Int) (s_ : Int), tl.length = fu1 ∧ Lst plots s_ tl ∧ ∃ (out2 : List (List Int)) (Lb16 : LH), oyezref01_Ears_l1 wide plots wind voice tl s_ out2 = some out ∧ FExt F F1 ∧ L1 = ((b1, .cells #[.int .i64 wide, .slice plots_a plots.length plots_c] 34 (0, 0)) :: (Lb16 ++ [])) ∧ e1.sub [(1, .int .i64 wind), (2, .int .i64 voice), (3, .pointer (some ⟨b1, 0, none⟩)), (7, .slice a6 n9 n9), (8, .int .i64 s_)] ∧ NlR K.w0.heap.size 28 3 1 (iE .i64) F1 a6 n9 n9 out2 Lb16) _ (m0 kr ⟨_, _, rfl, Lst.start _, l, Lb7, h14, FExt.refl _, rfl, (sc rfl (sc rfl (sc rfl (sc rfl (sc rfl (sn _)))))), hz8⟩) ?_
   rintro fu1 e1 F22 _ ⟨tl, s_, hn19, hk18, out2, Lb16, r20, hF23, rfl, he21, hz17⟩
   refine shW_env _ he21 ?_; clear he21
   replace h_plots := h_plots.mono (iE_ok _) hF23
   refine shW_seq (wsr (om rfl rfl ?_))
   refine ov (v_fieldAddr fa_34_1 rfl) rfl ?_
   refine ov (v_load Tryz.isAgg28 rfl (Has.own 0 rfl) rfl) rfl ?_
   refine ov (v_lenS Tryz.underlying28 rfl) rfl ?_
   refine ov (v_lssK rfl rfl) rfl ?_
   refine shO_nil ?_
   refine shW_condP rfl (fun c25 => ?_) (fun c25 => ?_)
   · obtain ⟨x, tl2, rfl, hx27, g28, hk26⟩ := Lst.succ hk18 c25
     rw [oyezref01_Ears_l1] at r20
     refine shW_skip ?_
     obtain ⟨out3, h31, r32⟩ := b1_ok r20; clear r20
     refine shW_join (fun e1 F1 L1 => ∃ (Lb29 : LH), FExt F22 F1 ∧ L1 = ((b1, .cells #[.int .i64 wide, .slice plots_a plots.length plots_c] 34 (0, 0)) :: (Lb29 ++ [])) ∧ e1.sub [(1, .int .i64 wind), (2, .int .i64 voice), (3, .pointer (some ⟨b1, 0, none⟩)), (7, .slice a6 n9 n9), (8, .int .i64 s_)] ∧ NlR K.w0.heap.size 28 3 1 (iE .i64) F1 a6 n9 n9 out3 Lb29) ?_ ?_
     · clear r32
       refine shW_block ?_
       refine shW_seq (wsr ?_)
       refine ov (v_fieldAddr fa_34_1 rfl) rfl ?_
       refine ov (v_load Tryz.isAgg28 rfl (Has.own 0 rfl) rfl) rfl ?_
       refine om rfl rfl ?_
       obtain ⟨b33, o34, c35, vs36, ha37, hs38, hle39, rfl, hl40, hc41⟩ := RowR.at (iE_ok _) h_plots ((b1, .cells #[.int .i64 wide, .slice plots_a plots.length plots_c] 34 (0, 0)) :: (Lb16 ++ [])) g28.1 hx27
       refine ov (v_indexO Tryz.underlying28 Tryz.sizeOf3 rfl ha37 rfl g28) rfl ?_
       refine ov (v_load Tryz.isAgg3 rfl hs38 (hc41 0 (by decide))) rfl ?_
       refine ov (v_neq rfl rfl) rfl ?_
       refine shO_nil ?_
       refine shW_condP rfl (fun c42 => ?_) (fun c42 => ?_)
       · have r43 := ite_t h31 c42; clear h31
         refine shW_exit (andThen_exit ?_)
         refine inBlock_exit ?_
         obtain rfl := inj1 r43
         exact mi kr ⟨Lb16, FExt.refl _, rfl, (sc rfl (sc rfl (sc rfl (sc rfl (sc rfl (sn _)))))), hz17⟩
       have r44 := ite_f h31 c42; clear h31
       refine shW_skip (wsr ?_)
       refine ov (v_loadA (cs := #[.int .i64 wide, .slice plots_a plots.length plots_c]) Tryz.isAgg34 Tryz.sizeOf34 rfl (Has.own 0 rfl) (Nat.le_of_ble_eq_true rfl) rfl) rfl ?_
       refine om rfl rfl (om rfl rfl ?_)
       obtain ⟨l2, n, h45, r46⟩ := b2_ok r44; clear r44
       refine o_call0 rfl Tryz.call96 rfl rfl rfl (oyezref01_Needs_w h_plots h45) ?_; rintro _ F47 _ hF48 hn49 ⟨a51, n55, c52, Lb53, rfl, rfl, hz54⟩
       replace h_plots := h_plots.mono (iE_ok _) hF48
       replace hz17 := hz17.mono (iE_ok _) hF48
       replace hz54 := hz54.new fun p hp => hn49 p (by simp [hp])
       refine shO_L (lp (ln rfl)) ?_
       refine kO (kf (fS fO) kr) ?_
       refine om rfl rfl (ox rfl rfl rfl (ox rfl rfl rfl (oa rfl rfl (oa rfl rfl (nsr (oa rfl rfl (shO_nil ?_)))))))
       refine shW_block ?_
       refine shW_lp (fun fu2 e1 F1 L1 => ∃ (tl3 : List Int) (p : Int), tl3.length = fu2 ∧ Lst l2 p tl3 ∧ ∃ (out4 : List (List Int)) (Lb57 : LH), oyezref01_Ears_l2 plots voice s_ tl3 p out4 = some out3 ∧ F47 = F1 ∧ L1 = ((b1, .cells #[.int .i64 wide, .slice plots_a plots.length plots_c] 34 (0, 0)) :: (Lb57 ++ (Lb53 ++ []))) ∧ e1.sub [(1, .int .i64 wind), (2, .int .i64 voice), (3, .pointer (some ⟨b1, 0, none⟩)), (7, .slice a6 n9 n9), (8, .int .i64 s_), (9, .slice a51 n55 c52), (11, .int .i64 p)] ∧ NlR K.w0.heap.size 28 3 1 (iE .i64) F1 a6 n9 n9 out4 Lb57) _ (m0 (kc (kg (fS fP) kr)) ⟨_, _, rfl, Lst.start _, out2, Lb16, r46, rfl, rfl, (sc rfl (sc rfl (sc rfl (sc rfl (sc rfl (sc rfl (sc rfl (sn _)))))))), hz17⟩) ?_
       rintro fu2 e1 _ _ ⟨tl3, p, hn60, hk59, out4, Lb57, r61, rfl, rfl, he62, hz58⟩
       refine shW_env _ he62 ?_; clear he62
       refine shW_seq (wsr (om rfl rfl (om rfl rfl ?_)))
       refine ov ((v_lenS Tryz.underlying28 rfl).i (SlR.lenI hz54)) rfl ?_
       refine ov (v_lssK rfl rfl) rfl ?_
       refine shO_nil ?_
       refine shW_condP rfl (fun c64 => ?_) (fun c64 => ?_)
       · obtain ⟨x2, tl4, rfl, hx66, g67, hk65⟩ := Lst.succ hk59 c64
         rw [oyezref01_Ears_l2] at r61
         refine shW_skip (shW_seq ?_)
         refine shW_block ?_
         obtain ⟨k, h68, r69⟩ := b1_ok r61; clear r61
         refine shW_join (fun e1 F1 L1 => F47 = F1 ∧ L1 = ((b1, .cells #[.int .i64 wide, .slice plots_a plots.length plots_c] 34 (0, 0)) :: (Lb57 ++ (Lb53 ++ []))) ∧ e1.sub [(1, .int .i64 wind), (2, .int .i64 voice), (3, .pointer (some ⟨b1, 0, none⟩)), (7, .slice a6 n9 n9), (8, .int .i64 s_), (9, .slice a51 n55 c52), (11, .int .i64 p), (62, .bool k)]) ?_ ?_
         · clear r69
           refine shW_region ?_
           refine ov (v_fieldAddr fa_34_1 rfl) rfl ?_
           refine ov (v_load Tryz.isAgg28 rfl (Has.own 0 rfl) rfl) rfl ?_
           refine om rfl rfl ?_
           obtain ⟨x3, g70, hx71, r72⟩ := ix_ok h68; clear h68
           obtain ⟨b73, o74, c75, vs76, ha77, hs78, hle79, rfl, hl80, hc81⟩ := RowR.at (iE_ok _) h_plots ((b1, .cells #[.int .i64 wide, .slice plots_a plots.length plots_c] 34 (0, 0)) :: (Lb57 ++ (Lb53 ++ []))) g70.1 hx71
           refine ov (v_indexO Tryz.underlying28 Tryz.sizeOf3 rfl ha77 rfl g70) rfl ?_
           refine ov (v_load Tryz.isAgg3 rfl hs78 (hc81 0 (by decide))) rfl ?_
           refine ov (v_eql rfl rfl) rfl ?_
           refine om rfl rfl ?_
           by_cases c82 : x3 = 1
           · have r83 := ite_t r72 c82; clear r72
             refine shO_on (b := true) 48 rfl (Env.isT rfl c82) (om rfl rfl (shO_on (b := true) 48 rfl (Env.isT rfl c82) (om rfl rfl (shO_on (b := true) 48 rfl (Env.isT rfl c82) ?_))))
             obtain ⟨b84, o85, c86, vs87, ha88, hs89, hle90, rfl, hl91, hc92⟩ := SlR.at (iE_ok _) hz54 (L := (b1, .cells #[.int .i64 wide, .slice plots_a plots.length plots_c] 34 (0, 0)) :: (Lb57 ++ (Lb53 ++ []))) (fC (fS fP)) g67.1 hx66
             refine ov (v_indexO Tryz.underlying28 Tryz.sizeOf3 rfl ha88 rfl (SlR.idx hz54 g67)) rfl ?_
             refine shO_on (b := true) 48 rfl (Env.isT rfl c82) ?_
             refine ov (v_load Tryz.isAgg3 rfl hs89 (hc92 0 (by decide))) rfl ?_
             refine shO_on (b := true) 48 rfl (Env.isT rfl c82) ?_
             refine ov (v_geqK rfl rfl) rfl ?_
             refine ov (v_pick_t (evD_true rfl c82) rfl) rfl ?_
             refine om rfl rfl ?_
             by_cases c93 : 0 ≤ x2
             · have r94 := ite_t r83 c93; clear r83
               refine shO_on (b := true) 55 rfl (Env.isT rfl c93) (om rfl rfl (shO_on (b := true) 55 rfl (Env.isT rfl c93) (om rfl rfl (shO_on (b := true) 55 rfl (Env.isT rfl c93) ?_))))
               obtain ⟨b95, o96, c97, vs98, ha99, hs100, hle101, rfl, hl102, hc103⟩ := SlR.at (iE_ok _) hz54 (L := (b1, .cells #[.int .i64 wide, .slice plots_a plots.length plots_c] 34 (0, 0)) :: (Lb57 ++ (Lb53 ++ []))) (fC (fS fP)) g67.1 hx66
               refine ov (v_indexO Tryz.underlying28 Tryz.sizeOf3 rfl ha99 rfl (SlR.idx hz54 g67)) rfl ?_
               refine shO_on (b := true) 55 rfl (Env.isT rfl c93) ?_
               refine ov (v_load Tryz.isAgg3 rfl hs100 (hc103 0 (by decide))) rfl ?_
               refine shO_on (b := true) 55 rfl (Env.isT rfl c93) (om rfl rfl (shO_on (b := true) 55 rfl (Env.isT rfl c93) ?_))
               refine ov (v_leqK rfl rfl) rfl ?_
               refine ov (v_pick_t (evD_true rfl c93) rfl) rfl ?_
               refine shO_nil ?_
               obtain rfl := inj1 r94
               exact mi kr ⟨rfl, rfl, (sc rfl (sc rfl (sc rfl (sc rfl (sc rfl (sc rfl (sc rfl (sc rfl (sn _)))))))))⟩
             have r104 := ite_f r83 c93; clear r83
             refine shO_off (b' := false) 55 rfl (Env.isF rfl c93) rfl rfl (shO_off (b' := false) 55 rfl (Env.isF rfl c93) rfl rfl (shO_off (b' := false) 55 rfl (Env.isF rfl c93) rfl rfl (shO_off (b' := false) 55 rfl (Env.isF rfl c93) rfl rfl (shO_off (b' := false) 55 rfl (Env.isF rfl c93) rfl rfl (shO_off (b' := false) 55 rfl (Env.isF rfl c93) rfl rfl ?_)))))
             refine ov (v_pick_f (evD_false rfl c93) rfl) rfl ?_
             refine shO_nil ?_
             obtain rfl := inj1 r104
             exact mi kr ⟨rfl, rfl, (sc rfl (sc rfl (sc rfl (sc rfl (sc rfl (sc rfl (sc rfl (sc rfl (sn _)))))))))⟩
           have r105 := ite_f r72 c82; clear r72
           refine shO_off (b' := false) 48 rfl (Env.isF rfl c82) rfl rfl (shO_off (b' := false) 48 rfl (Env.isF rfl c82) rfl rfl (shO_off (b' := false) 48 rfl (Env.isF rfl c82) rfl rfl (shO_off (b' := false) 48 rfl (Env.isF rfl c82) rfl rfl (shO_off (b' := false) 48 rfl (Env.isF rfl c82) rfl rfl ?_))))
           refine ov (v_pick_f (evD_false rfl c82) rfl) rfl ?_
           refine om rfl rfl (shO_off (b' := false) 55 rfl rfl rfl rfl (shO_off (b' := false) 55 rfl rfl rfl rfl (shO_off (b' := false) 55 rfl rfl rfl rfl (shO_off (b' := false) 55 rfl rfl rfl rfl (shO_off (b' := false) 55 rfl rfl rfl rfl (shO_off (b' := false) 55 rfl rfl rfl rfl ?_))))))
           refine ov (v_pick_f rfl rfl) rfl ?_
           refine shO_nil ?_
           obtain rfl := inj1 r105
           exact mi kr ⟨rfl, rfl, (sc rfl (sc rfl (sc rfl (sc rfl (sc rfl (sc rfl (sc rfl (sc rfl (sn _)))))))))⟩
         rintro e1 _ _ ⟨rfl, rfl, he106⟩
         refine shW_env _ he106 ?_; clear he106
         refine shW_cond rfl (fun c107 => ?_) (fun c107 => ?_)
         · have r108 := bt r69 c107; clear r69
           refine shW_region (om rfl rfl (om rfl rfl (om rfl rfl (om rfl rfl ?_))))
           obtain ⟨x4, g109, hx110, r111⟩ := ix_ok r108; clear r108
           have hn123 := (NlR.caps hz58).1
           refine shO_open (fC fP) hz58 hx110 ?_; intro hs112 Lo113 Lc114 a115 n116 c117 Lb118 hh119 hO120 hz121 hI122
           refine kO (kf (fS (fS (fS fO))) kr) ?_
           obtain ⟨b125, o126, c127, vs128, ha129, hs130, hle131, rfl, hl132, hc133⟩ := SlR.at hdE_ok hO120 (L := (b1, .cells #[.int .i64 wide, .slice plots_a plots.length plots_c] 34 (0, 0)) :: (Lo113 ++ (Lb118 ++ (Lc114 ++ (Lb53 ++ []))))) (fC fP) g109.1 hh119
           refine ov (v_indexO Tryz.underlying84 Tryz.sizeOf28 rfl ha129 rfl (idxN hn123 g109)) rfl ?_
           refine ov (v_load Tryz.isAgg28 rfl hs130 (hc133 0 (by decide))) rfl ?_
           refine om rfl rfl ?_
           refine o_buildSlice (cs := #[.int .i64 s_]) rfl rfl (buildSlice_all slt_28 [.int .i64 s_] rfl (by decide) (by simp [Value.cells]) (by decide)) ?_; intro b134 hb134
           obtain ⟨l3, h135, g136, r137⟩ := ap_ok r111; clear r111
           refine o_appZ (xs := x4) (ys := [s_]) (zs := l3) rfl slt_28 rfl rfl (Nat.le_refl _) (fun _ => .c (.c (.s .h))) hz121 (SrcR.box (vss := [[.int .i64 s_]]) (ys := [s_]) 0 rfl (iE_ok _) (.cons rfl .nil) rfl rfl) h135 g136 (by decide) ?_; intro a138 n142 c139 Lb140 hz141
           refine kO (kd kr) ?_
           obtain ⟨b144, o145, c146, vs147, ha148, hs149, hle150, rfl, hl151, hc152⟩ := SlR.at hdE_ok hO120 (L := (b1, .cells #[.int .i64 wide, .slice plots_a plots.length plots_c] 34 (0, 0)) :: (Lo113 ++ (Lb140 ++ (Lc114 ++ (Lb53 ++ []))))) (fC fP) g109.1 hh119
           refine ov (v_indexO Tryz.underlying84 Tryz.sizeOf28 rfl ha148 rfl (idxN hn123 g109)) rfl ?_
           refine o_storeZ (zs := hs112.set (p : Int).toNat (a138, n142, c139)) (u := (a138, n142, c139)) Tryz.sizeOf28 hdE_ok rfl ha148 rfl rfl (fun _ => .c .h) hO120 rfl (idxH hn123 hO120 g109) ?_; intro Lo153 hO154
           obtain ⟨out5, h155, r156⟩ := bv_ok r137; clear r137
           refine shO_fold (p := fun X => NlR K.w0.heap.size 28 3 1 (iE .i64) F47 a6 n9 n9 out5 X) (InH.back hI122 hO154 hz141 h155) (pT ((fC fP).trans (pA ((fC fP).trans (pA ((fC fP).trans (pA pR)))))) (lp (lp (lp (ln rfl))))) ?_; intro Lb157 hz158
           refine kO (kf (fS fO) kr) ?_
           refine shO_nil (inBlock_n (id := 3) (shW_region (om rfl rfl ?_)))
           refine ov (v_add rfl rfl (Lst.r64 hk59 c64 (SlR.llt hz54))) rfl ?_
           refine oa rfl rfl (shO_nil ?_)
           subst hn60; exact le kr ⟨_, _, rfl, hk65, out5, Lb157, r156, rfl, rfl, (sc rfl (sc rfl (sc rfl (sc rfl (sc rfl (sc rfl (sc rfl (sn _)))))))), hz158⟩
         have r159 := bf r69 c107; clear r69
         refine shW_skip (inBlock_n (id := 3) (shW_region (om rfl rfl ?_)))
         refine ov (v_add rfl rfl (Lst.r64 hk59 c64 (SlR.llt hz54))) rfl ?_
         refine oa rfl rfl (shO_nil ?_)
         subst hn60; exact le kr ⟨_, _, rfl, hk65, out4, Lb57, r159, rfl, rfl, (sc rfl (sc rfl (sc rfl (sc rfl (sc rfl (sc rfl (sc rfl (sn _)))))))), hz58⟩
       obtain rfl := Lst.zero hk59 c64
       rw [oyezref01_Ears_l2] at r61
       refine shW_exit (andThen_exit (andThen_exit ?_))
       refine inBlock_exit ?_
       refine inBlock_n (id := 1) ?_
       obtain rfl := inj1 r61
       exact mi (kc (ka kn)) ⟨Lb57, hF48, rfl, (sc rfl (sc rfl (sc rfl (sc rfl (sc rfl (sn _)))))), hz58⟩
     rintro e1 F161 _ ⟨Lb29, hF162, rfl, he160, hz30⟩
     refine shW_env _ he160 ?_; clear he160
     replace h_plots := h_plots.mono (iE_ok _) hF162
     refine shW_region (om rfl rfl ?_)
     refine ov (v_add rfl rfl (Lst.r64 hk18 c25 (RowR.lt h_plots))) rfl ?_
     refine oa rfl rfl (shO_nil ?_)
     subst hn19; exact le kr ⟨_, _, rfl, hk26, out3, Lb29, r32, (hF23.trans hF162), rfl, (sc rfl (sc rfl (sc rfl (sc rfl (sc rfl (sn _)))))), hz30⟩
   obtain rfl := Lst.zero hk18 c25
   rw [oyezref01_Ears_l1] at r20
   refine shW_exit (andThen_exit (andThen_exit ?_))
   refine inBlock_exit ?_
   obtain rfl := inj1 r20
   exact mi (kd kr) ⟨Lb16, hF23, rfl, (sc rfl (sn _)), hz17⟩
 rintro e1 F164 _ ⟨Lb12, hF165, rfl, he163, hz13⟩
 refine shW_env _ he163 ?_; clear he163
 refine wsr (om rfl rfl (oa rfl rfl (shO_nil ?_)))
 obtain rfl := (NlR.caps hz13).1
 refine shW_freezeN (Nat.le_refl _) (iE_ok _) fP hz13 ?_; intro F166 hF167 h168
 refine shW_ret ?_
 refine q_res1 Tryz.results46 (res_tmp rfl) (sr) ?_
 obtain rfl := inj1 r15
 exact ⟨_, _, rfl, rfl, h168⟩
set_option maxHeartbeats 1000000 in
theorem oyezref01_deaf_w {ears_a : Option Addr} {ears_c : Nat} {ears : List (List Int)} {houses_a : Option Addr} {houses_c : Nat} {houses : List Int} {F : FS} (h_ears : RowR 1 (slE 1 (iE .i64)) F ears_a ears_c ears) (h_houses : RowR 1 (iE .i64) F houses_a houses_c houses) {r : Bool} (hr : oyezref01_deaf ears houses = some r) :
    SpecV Tryz.prog 47 #[.slice ears_a ears.length ears_c, .slice houses_a houses.length houses_c] F (.bool r) := by
 refine spec_of_shW (args := [.slice ears_a ears.length ears_c, .slice houses_a houses.length houses_c]) Tryz.func47 rfl Tryz.ntmps47 (Nat.le_of_ble_eq_true rfl) ?_
 intro K _ _; rw [oyezref01_deaf] at hr
 refine wsr (oa rfl rfl (shO_nil ?_))
 refine shW_join (fun e1 F1 L1 => oyezref01_deaf_j1 = some r ∧ F = F1 ∧ L1 = [] ∧ e1.sub []) ?_ ?_
 · refine wsr (oa rfl rfl (shO_nil ?_))
   refine shW_block ?_
   refine shW_lp (fun fu2 e1 F1 L1 => ∃ (tl : List Int) (i : Int), tl.length = fu2 ∧ Lst houses i tl ∧ oyezref01_deaf_l2 ears tl = some r ∧ F = F1 ∧ L1 = [] ∧ e1.sub [(0, .slice ears_a ears.length ears_c), (1, .slice houses_a houses.length houses_c), (5, .int .i64 i)]) _ (m0 kr ⟨_, _, rfl, Lst.start _, hr, rfl, rfl, (sc rfl (sc rfl (sc rfl (sn _))))⟩) ?_
   rintro fu2 e1 _ _ ⟨tl, i, hn2, hk1, r3, rfl, rfl, he4⟩
   refine shW_env _ he4 ?_; clear he4
   refine shW_seq (wsr (om rfl rfl (om rfl rfl ?_)))
   refine ov (v_lenS Tryz.underlying28 rfl) rfl ?_
   refine ov (v_lssK rfl rfl) rfl ?_
   refine shO_nil ?_
   refine shW_condP rfl (fun c6 => ?_) (fun c6 => ?_)
   · obtain ⟨x, tl2, rfl, hx8, g9, hk7⟩ := Lst.succ hk1 c6
     rw [oyezref01_deaf_l2] at r3
     refine shW_skip (shW_seq ?_)
     refine shW_block ?_
     refine wsr (om rfl rfl (om rfl rfl (om rfl rfl ?_)))
     obtain ⟨b10, o11, c12, vs13, ha14, hs15, hle16, rfl, hl17, hc18⟩ := RowR.at (iE_ok _) h_houses ([]) g9.1 hx8
     refine ov (v_indexO Tryz.underlying28 Tryz.sizeOf3 rfl ha14 rfl g9) rfl ?_
     refine ov (v_load Tryz.isAgg3 rfl hs15 (hc18 0 (by decide))) rfl ?_
     obtain ⟨x2, g19, hx20, r21⟩ := ix_ok r3; clear r3
     obtain ⟨b22, o23, c24, vs25, ha26, hs27, hle28, ⟨a31, c32, rfl, h33⟩, hl29, hc30⟩ := RowR.at (slE_ok (iE_ok _)) h_ears ([]) g19.1 hx20
     refine ov (v_indexO Tryz.underlying84 Tryz.sizeOf28 rfl ha26 rfl g19) rfl ?_
     refine ov (v_load Tryz.isAgg28 rfl hs27 (hc30 0 (by decide))) rfl ?_
     refine ov (v_lenS Tryz.underlying28 rfl) rfl ?_
     refine ov (v_eql rfl rfl) rfl ?_
     refine shO_nil ?_
     refine shW_condP rfl (fun c34 => ?_) (fun c34 => ?_)
     · have r35 := ite_t r21 c34; clear r21
       refine wsr (oa rfl rfl (shO_nil (shW_ret (inBlock_ret (andThen_ret (andThen_ret (inBlock_ret (andThen_ret ?_))))))))
       refine q_res1 Tryz.results47 (res_tmp rfl) (sr) ?_
       obtain rfl := inj1 r35
       exact rfl
     have r36 := ite_f r21 c34; clear r21
     refine shW_skip (inBlock_n (id := 1) (shW_region (om rfl rfl ?_)))
     refine ov (v_add rfl rfl (Lst.r64 hk1 c6 (RowR.lt h_houses))) rfl ?_
     refine oa rfl rfl (shO_nil ?_)
     subst hn2; exact le kr ⟨_, _, rfl, hk7, r36, rfl, rfl, (sc rfl (sc rfl (sc rfl (sn _))))⟩
   obtain rfl := Lst.zero hk1 c6
   rw [oyezref01_deaf_l2] at r3
   refine shW_exit (andThen_exit (andThen_exit ?_))
   refine inBlock_exit ?_
   exact mi kr ⟨r3, rfl, rfl, (sn _)⟩
 rintro e1 _ _ ⟨r37, rfl, rfl, he38⟩
 refine shW_env _ he38 ?_; clear he38
 rw [oyezref01_deaf_j1] at r37
 refine wsr (oa rfl rfl (shO_nil (shW_ret ?_)))
 refine q_res1 Tryz.results47 (res_tmp rfl) (sr) ?_
 obtain rfl := inj1 r37
 exact rfl
set_option maxHeartbeats 1000000 in
theorem oyezref01_ListsB_w {rec_ : (List Int) → Int → Option ((List (List Int)))} (hrec : ∀ {of__a : Option Addr} {of__c : Nat} {of_ : List Int} {many : Int} {F : FS} (_ : RowR 1 (iE .i64) F of__a of__c of_) {r : List (List Int)} , rec_ of_ many = some r → SH.Spec Tryz.prog 48 #[.slice of__a of_.length of__c, .int .i64 many] F [] fun F' L' v => ∃ (ra : Option Addr) (rn : Nat) (rc : Nat) (rL : LH), v = .slice ra rn rc ∧ L' = rL ++ [] ∧ SlR 0 28 1 (slE 1 (iE .i64)) F' ra rn rc r rL) {of__a : Option Addr} {of__c : Nat} {of_ : List Int} {many : Int} {F : FS} (h_of_ : RowR 1 (iE .i64) F of__a of__c of_) {r : List (List Int)} (hr : oyezref01_ListsB rec_ of_ many = some r) :
    SH.Spec Tryz.prog 48 #[.slice of__a of_.length of__c, .int .i64 many] F [] fun F' L' v => ∃ (ra : Option Addr) (rn : Nat) (rc : Nat) (rL : LH), v = .slice ra rn rc ∧ L' = rL ++ [] ∧ SlR 0 28 1 (slE 1 (iE .i64)) F' ra rn rc r rL := by
 refine spec_of_shW (args := [.slice of__a of_.length of__c, .int .i64 many]) Tryz.func48 rfl Tryz.ntmps48 (Nat.le_of_ble_eq_true rfl) ?_
 intro K _ _; rw [oyezref01_ListsB] at hr
 refine wsr (oa rfl rfl (shO_nil (shW_seq (wsr (om rfl rfl ?_)))))
 refine ov (v_eql rfl rfl) rfl ?_
 refine shO_nil ?_
 refine shW_condP rfl (fun c1 => ?_) (fun c1 => ?_)
 · have r2 := ite_t hr c1; clear hr
   refine wsr ?_
   refine o_buildSlice (cs := #[.slice none 0 0]) rfl rfl (buildSlice_all slt_84 [.slice none 0 0] rfl (by decide) (by simp [Value.cells]) (by decide)) ?_; intro b3 hb3
   have hz5 : SlR K.w0.heap.size 28 1 (slE 1 (iE .i64)) F (some ⟨b3, 0, none⟩) 1 1 [[]] [(b3, .cells #[.slice none 0 0] 28 (0, 0))] := SlR.of_block (vss := [[.slice none 0 0]]) (slE_ok (iE_ok _)) hb3 (.cons ⟨_, _, rfl, RowR.nil _ _ _⟩ .nil) rfl rfl (by simp [maxLen])
   generalize hLLb4 : ([(b3, .cells #[.slice none 0 0] 28 (0, 0))] : LH) = Lb4 at hz5
   refine shO_perm (L' := Lb4 ++ []) (by rw [← hLLb4]; exact fO) ?_
   refine oa rfl rfl (shO_nil (shW_ret (andThen_ret ?_)))
   refine q_res1 Tryz.results48 (res_tmp rfl) (sr) ?_
   obtain rfl := inj1 r2
   exact ⟨_, _, _, _, rfl, rfl, hz5.any⟩
 have r7 := ite_f hr c1; clear hr
 refine shW_skip (wsr (oa rfl rfl (shO_nil ?_)))
 obtain ⟨out, h14, r15⟩ := b1_ok r7; clear r7
 refine shW_join (fun e1 F1 L1 => ∃ (a8 : Option Addr) (n12 : Nat) (c9 : Nat) (Lb10 : LH), FExt F F1 ∧ L1 = (Lb10 ++ []) ∧ e1.sub [(5, .slice a8 n12 c9)] ∧ SlR K.w0.heap.size 28 1 (slE 1 (iE .i64)) F1 a8 n12 c9 out Lb10) ?_ ?_
 · clear r15
   refine wsr (oa rfl rfl (shO_nil ?_))
   refine shW_block ?_
   refine shW_lp (fun fu1 e1 F1 L1 => ∃ (tl : List Int) (i : Int), tl.length = fu1 ∧ Lst of_ i tl ∧ ∃ (out2 : List (List Int)) (a16 : Option Addr) (n20 : Nat) (c17 : Nat) (Lb18 : LH), oyezref01_ListsB_l1 of_ many rec_ tl i out2 = some out ∧ FExt F F1 ∧ L1 = (Lb18 ++ []) ∧ e1.sub [(0, .slice of__a of_.length of__c), (1, .int .i64 many), (5, .slice a16 n20 c17), (6, .int .i64 i)] ∧ SlR K.w0.heap.size 28 1 (slE 1 (iE .i64)) F1 a16 n20 c17 out2 Lb18) _ (m0 (ke kr) ⟨_, _, rfl, Lst.start _, [], none, 0, 0, [], h14, FExt.refl _, rfl, (sc rfl (sc rfl (sc rfl (sc rfl (sn _))))), SlR.nil _ _ _ _ _⟩) ?_
   rintro fu1 e1 F26 _ ⟨tl, i, hn23, hk22, out2, a16, n20, c17, Lb18, r24, hF27, rfl, he25, hz19⟩
   refine shW_env _ he25 ?_; clear he25
   replace h_of_ := h_of_.mono (iE_ok _) hF27
   refine shW_seq (wsr (om rfl rfl (om rfl rfl ?_)))
   refine ov (v_lenS Tryz.underlying28 rfl) rfl ?_
   refine ov (v_lssK rfl rfl) rfl ?_
   refine shO_nil ?_
   refine shW_condP rfl (fun c29 => ?_) (fun c29 => ?_)
   · obtain ⟨x, tl2, rfl, hx31, g32, hk30⟩ := Lst.succ hk22 c29
     rw [oyezref01_ListsB_l1] at r24
     refine shW_skip ?_
     obtain ⟨out3, h39, r40⟩ := b1_ok r24; clear r24
     refine shW_join (fun e1 F1 L1 => ∃ (a33 : Option Addr) (n37 : Nat) (c34 : Nat) (Lb35 : LH), FExt F26 F1 ∧ L1 = (Lb35 ++ []) ∧ e1.sub [(0, .slice of__a of_.length of__c), (1, .int .i64 many), (5, .slice a33 n37 c34), (6, .int .i64 i)] ∧ SlR K.w0.heap.size 28 1 (slE 1 (iE .i64)) F1 a33 n37 c34 out3 Lb35) ?_ ?_
     · clear r40
       refine shW_block ?_
       refine wsr (om rfl rfl (om rfl rfl ?_))
       refine ov (v_add rfl rfl (Lst.r64 hk22 c29 (RowR.lt h_of_))) rfl ?_
       obtain ⟨g41, r42⟩ := gd_ok h39; clear h39
       obtain ⟨of_2, h43, r44⟩ := bv_ok r42; clear r42
       obtain ⟨a45, c46, h47, hvh47⟩ := RowR.slice (iE_ok _) h_of_ g41 h43
       refine ov ((v_slice (l := i + 1) (h := (of_.length : Int)) Tryz.underlying28 Tryz.sizeOf3 rfl (.inr ⟨_, rfl, rfl⟩) (.inl ⟨rfl, rfl⟩) hvh47.1).eq hvh47.2) rfl ?_
       refine om rfl rfl ?_
       obtain ⟨g49, r50⟩ := gd_ok r44; clear r44
       refine ov (v_sub rfl rfl g49) rfl ?_
       obtain ⟨l, h51, r52⟩ := b1_ok r50; clear r50
       refine o_call0 rfl Tryz.call48 rfl rfl rfl (hrec h47 h51) ?_; rintro _ F53 _ hF54 hn55 ⟨a57, n61, c58, Lb59, rfl, rfl, hz60⟩
       replace h_of_ := h_of_.mono (iE_ok _) hF54
       replace hz19 := hz19.mono (slE_ok (iE_ok _)) hF54
       replace hz60 := hz60.new fun p hp => hn55 p (by simp [hp])
       refine shO_L (lp (ln rfl)) ?_
       refine oa rfl rfl (nsr (oa rfl rfl (shO_nil ?_)))
       refine shW_block ?_
       refine shW_lp (fun fu2 e1 F1 L1 => ∃ (tl3 : List (List Int)) (k : Int), tl3.length = fu2 ∧ Lst l k tl3 ∧ ∃ (out4 : List (List Int)) (a63 : Option Addr) (n67 : Nat) (c64 : Nat) (Lb65 : LH), oyezref01_ListsB_l2 x tl3 out4 = some out3 ∧ FExt F53 F1 ∧ L1 = (Lb65 ++ (Lb59 ++ [])) ∧ e1.sub [(0, .slice of__a of_.length of__c), (1, .int .i64 many), (5, .slice a63 n67 c64), (6, .int .i64 i), (7, .slice a57 n61 c58), (8, .int .i64 k)] ∧ SlR K.w0.heap.size 28 1 (slE 1 (iE .i64)) F1 a63 n67 c64 out4 Lb65) _ (m0 (kg (fS fP) kr) ⟨_, _, rfl, Lst.start _, out2, a16, n20, c17, Lb18, r52, FExt.refl _, rfl, (sc rfl (sc rfl (sc rfl (sc rfl (sc rfl (sc rfl (sn _))))))), hz19⟩) ?_
       rintro fu2 e1 F73 _ ⟨tl3, k, hn70, hk69, out4, a63, n67, c64, Lb65, r71, hF74, rfl, he72, hz66⟩
       refine shW_env _ he72 ?_; clear he72
       replace h_of_ := h_of_.mono (iE_ok _) hF74
       replace hz60 := hz60.mono (slE_ok (iE_ok _)) hF74
       refine shW_seq (wsr (om rfl rfl (om rfl rfl ?_)))
       refine ov ((v_lenS Tryz.underlying84 rfl).i (SlR.lenI hz60)) rfl ?_
       refine ov (v_lssK rfl rfl) rfl ?_
       refine shO_nil ?_
       refine shW_condP rfl (fun c76 => ?_) (fun c76 => ?_)
       · obtain ⟨x2, tl4, rfl, hx78, g79, hk77⟩ := Lst.succ hk69 c76
         rw [oyezref01_ListsB_l2] at r71
         refine shW_skip (shW_seq ?_)
         refine shW_block ?_
         refine shW_drawM [(.still, 0), (.still, 1), (.still, 2), (.still, 3), (.still, 4), (.still, 6), (.still, 7), (.still, 8), (.still, 9), (.seq, 5), (.seq, 10), (.seq, 11), (.seq, 12), (.seq, 13)] (by kernel_rfl) (by kernel_rfl) (trivial) (by rfl) (by kernel_rfl) ?_
         refine shM_v (v := .slice a63 n67 c64) (ek := [(5, .slice a63 n67 c64)]) (Ls := []) rfl rfl rfl rfl ((sc rfl (sn _))) (by kernel_rfl) sm (fun H F' L' hF' hL' => v_move rfl) ?_
         refine shM_v (v := .slice of__a of_.length of__c) (ek := [(0, .slice of__a of_.length of__c)]) (Ls := []) rfl rfl rfl rfl ((sc rfl (sn _))) (by kernel_rfl) sm (fun H F' L' hF' hL' => v_move rfl) ?_
         refine shM_v (v := .int .i64 i) (ek := [(6, .int .i64 i)]) (Ls := []) rfl rfl rfl rfl ((sc rfl (sn _))) (by kernel_rfl) sm (fun H F' L' hF' hL' => v_move rfl) ?_
         obtain ⟨b80, o81, c82, vs83, ha84, hs85, hle86, rfl, hl87, hc88⟩ := RowR.at (iE_ok _) h_of_ ([]) g32.1 hx31
         refine shM_v (v := .pointer (some ⟨b80, o81 + (i : Int).toNat * 1, none⟩)) (ek := [(32, .slice of__a of_.length of__c), (33, .int .i64 i)]) (Ls := []) rfl rfl rfl rfl ((sc rfl (sc rfl (sn _)))) (by kernel_rfl) sm (fun H F' L' hF' hL' => v_indexO Tryz.underlying28 Tryz.sizeOf3 rfl ha84 rfl g32) ?_
         refine shM_v (v := .int .i64 x) (ek := [(34, .pointer (some ⟨b80, o81 + (i : Int).toNat * 1, none⟩))]) (Ls := []) rfl rfl rfl rfl ((sc rfl (sn _))) (by kernel_rfl) sm (fun H F' L' hF' hL' => v_load Tryz.isAgg3 rfl (hs85.ext hF' hL') (hc88 0 (by decide))) ?_
         refine shM_v (v := .slice a57 n61 c58) (ek := [(7, .slice a57 n61 c58)]) (Ls := []) rfl rfl rfl rfl ((sc rfl (sn _))) (by kernel_rfl) sm (fun H F' L' hF' hL' => v_move rfl) ?_
         refine shM_v (v := .int .i64 k) (ek := [(8, .int .i64 k)]) (Ls := []) rfl rfl rfl rfl ((sc rfl (sn _))) (by kernel_rfl) sm (fun H F' L' hF' hL' => v_move rfl) ?_
         obtain ⟨b89, o90, c91, vs92, ha93, hs94, hle95, ⟨a98, c99, rfl, h100⟩, hl96, hc97⟩ := SlR.at (slE_ok (iE_ok _)) hz60 (L := Lb59 ++ []) fP g79.1 hx78
         refine shM_v (v := .pointer (some ⟨b89, o90 + (k : Int).toNat * 1, none⟩)) (ek := [(37, .slice a57 n61 c58), (38, .int .i64 k)]) (Ls := []) rfl rfl rfl rfl ((sc rfl (sc rfl (sn _)))) (by kernel_rfl) sm (fun H F' L' hF' hL' => v_indexO Tryz.underlying84 Tryz.sizeOf28 rfl ha93 rfl (SlR.idx hz60 g79)) ?_
         refine shM_v (v := .slice a98 x2.length c99) (ek := [(39, .pointer (some ⟨b89, o90 + (k : Int).toNat * 1, none⟩))]) (Ls := Lb59 ++ []) rfl rfl rfl rfl ((sc rfl (sn _))) (by kernel_rfl) (s0 (s3 (s4 sr))) (fun H F' L' hF' hL' => v_load Tryz.isAgg28 rfl (hs94.ext hF' hL') (hc97 0 (by decide))) ?_
         refine ⟨_, [(35, .int .i64 x)], rfl, rfl, (sc rfl (sn _)), by kernel_rfl, ?_⟩; intro H
         refine o_buildSlice (cs := #[.int .i64 x]) rfl rfl (buildSlice_all slt_28 [.int .i64 x] rfl (by decide) (by simp [Value.cells]) (by decide)) ?_; intro b101 hb101
         refine shO_nil ⟨_, rfl, FExt.refl _, [9, 8, 7, 6, 0], by kernel_rfl, .inl (.inr (fun d h => by cases h; rfl)), (List.forall_mem_cons.2 ⟨s0 (s1 (s3 (s4 sr))), (List.forall_mem_cons.2 ⟨sm, (List.forall_mem_cons.2 ⟨sm, (List.forall_mem_cons.2 ⟨sm, (List.forall_mem_cons.2 ⟨sm, (fun _ h => absurd h List.not_mem_nil)⟩)⟩)⟩)⟩)⟩), ?_⟩
         refine ⟨_, [(36, .slice (some ⟨b101, 0, none⟩) 1 1), (40, .slice a98 x2.length c99)], rfl, rfl, (sc rfl (sc rfl (sn _))), by kernel_rfl, ?_⟩; intro H
         have hz103 : SlR K.w0.heap.size 3 1 (iE .i64) F73 (some ⟨b101, 0, none⟩) 1 1 [x] [(b101, .cells #[.int .i64 x] 3 (0, 0))] := SlR.of_block (vss := [[.int .i64 x]]) (iE_ok _) hb101 (.cons rfl .nil) rfl rfl (by simp [maxLen])
         generalize hLLb102 : ([(b101, .cells #[.int .i64 x] 3 (0, 0))] : LH) = Lb102 at hz103
         refine shO_perm (L' := Lb102 ++ (Lb65 ++ (Lb59 ++ []))) (by rw [← hLLb102]; exact fO) ?_
         obtain ⟨l2, h105, g106, r107⟩ := ap_ok r71; clear r71
         refine o_appZ (xs := [x]) (ys := x2) (zs := l2) rfl slt_28 rfl rfl (Nat.le_refl _) (fun _ => .h) hz103 (RowR.src h100) h105 g106 (by decide) ?_; intro a108 n112 c109 Lb110 hz111
         refine shO_nil ⟨_, rfl, FExt.refl _, [0], by kernel_rfl, .inl (.inr (fun d h => by cases h; rfl)), (List.forall_mem_cons.2 ⟨sm, (fun _ h => absurd h List.not_mem_nil)⟩), ?_⟩
         refine ⟨_, [(41, .slice a108 n112 c109)], rfl, rfl, (sc rfl (sn _)), by kernel_rfl, ?_⟩; intro H
         refine o_buildSlice (cs := #[.slice a108 n112 c109]) rfl rfl (buildSlice_all slt_84 [.slice a108 n112 c109] rfl (by decide) (by simp [Value.cells]) (by decide)) ?_; intro b114 hb114
         refine shO_nil ⟨_, rfl, FExt.refl _, [0], by kernel_rfl, .inl (.inr (fun d h => by cases h; rfl)), (List.forall_mem_cons.2 ⟨sm, (fun _ h => absurd h List.not_mem_nil)⟩), ?_⟩
         refine ⟨_, [(31, .slice a63 n67 c64), (42, .slice (some ⟨b114, 0, none⟩) 1 1)], rfl, rfl, (sc rfl (sc rfl (sn _))), by kernel_rfl, ?_⟩; intro H
         obtain rfl := (SlR.caps hz111).1
         refine shO_freezeR (Nat.le_refl _) (iE_ok _) (fC fP) hz111 ?_; intro F115 hF116 h117
         replace hz60 := hz60.mono (slE_ok (iE_ok _)) hF116
         replace hz66 := hz66.mono (slE_ok (iE_ok _)) hF116
         obtain ⟨l3, h118, g119, r120⟩ := ap_ok r107; clear r107
         refine o_appZ (xs := out4) (ys := [l2]) (zs := l3) rfl slt_84 rfl rfl (Nat.le_refl _) (fun _ => .c .h) hz66 (SrcR.box (vss := [[.slice a108 l2.length c109]]) (ys := [l2]) 0 rfl (slE_ok (iE_ok _)) (.cons ⟨_, _, rfl, h117⟩ .nil) rfl rfl) h118 g119 (by decide) ?_; intro a121 n125 c122 Lb123 hz124
         refine kO (kd kr) ?_
         refine shO_nil ⟨_, rfl, hF116, [], by kernel_rfl, .inl (.inl rfl), (fun _ h => absurd h List.not_mem_nil), ?_⟩
         refine ⟨_, [(43, .slice a121 n125 c122)], rfl, rfl, (sc rfl (sn _)), by kernel_rfl, ?_⟩; intro H
         refine oa rfl rfl ?_
         refine shO_nil ⟨_, rfl, FExt.refl _, [], by kernel_rfl, .inl (.inl rfl), (fun _ h => absurd h List.not_mem_nil), ?_⟩
         refine shM_nil ?_
         refine inBlock_n (id := 3) (shW_region (om rfl rfl ?_))
         refine ov (v_add rfl rfl (Lst.r64 hk69 c76 (SlR.llt hz60))) rfl ?_
         refine oa rfl rfl (shO_nil ?_)
         subst hn70; exact le kr ⟨_, _, rfl, hk77, l3, a121, n125, c122, Lb123, r120, (hF74.trans hF116), rfl, (sc rfl (sc rfl (sc rfl (sc rfl (sc rfl (sc rfl (sn _))))))), hz124⟩
       obtain rfl := Lst.zero hk69 c76
       rw [oyezref01_ListsB_l2] at r71
       refine shW_exit (andThen_exit (andThen_exit ?_))
       refine inBlock_exit ?_
       refine inBlock_n (id := 1) ?_
       obtain rfl := inj1 r71
       exact mi (ka kn) ⟨a63, n67, c64, Lb65, (hF54.trans hF74), rfl, (sc rfl (sc rfl (sc rfl (sc rfl (sn _))))), hz66⟩
     rintro e1 F128 _ ⟨a33, n37, c34, Lb35, hF129, rfl, he127, hz36⟩
     refine shW_env _ he127 ?_; clear he127
     replace h_of_ := h_of_.mono (iE_ok _) hF129
     refine shW_region (om rfl rfl ?_)
     refine ov (v_add rfl rfl (Lst.r64 hk22 c29 (RowR.lt h_of_))) rfl ?_
     refine oa rfl rfl (shO_nil ?_)
     subst hn23; exact le kr ⟨_, _, rfl, hk30, out3, a33, n37, c34, Lb35, r40, (hF27.trans hF129), rfl, (sc rfl (sc rfl (sc rfl (sc rfl (sn _))))), hz36⟩
   obtain rfl := Lst.zero hk22 c29
   rw [oyezref01_ListsB_l1] at r24
   refine shW_exit (andThen_exit (andThen_exit ?_))
   refine inBlock_exit ?_
   obtain rfl := inj1 r24
   exact mi kr ⟨a16, n20, c17, Lb18, hF27, rfl, (sc rfl (sn _)), hz19⟩
 rintro e1 F131 _ ⟨a8, n12, c9, Lb10, hF132, rfl, he130, hz11⟩
 refine shW_env _ he130 ?_; clear he130
 refine wsr (om rfl rfl (oa rfl rfl (shO_nil (shW_ret ?_))))
 refine q_res1 Tryz.results48 (res_tmp rfl) (sr) ?_
 obtain rfl := inj1 r15
 exact ⟨_, _, _, _, rfl, rfl, hz11.any⟩
set_option maxHeartbeats 1000000 in
theorem oyezref01_Lists_w : ∀ (fu : Nat) {of__a : Option Addr} {of__c : Nat} {of_ : List Int} {many : Int} {F : FS} (_ : RowR 1 (iE .i64) F of__a of__c of_) {r : List (List Int)} , oyezref01_Lists fu of_ many = some r → SH.Spec Tryz.prog 48 #[.slice of__a of_.length of__c, .int .i64 many] F [] fun F' L' v => ∃ (ra : Option Addr) (rn : Nat) (rc : Nat) (rL : LH), v = .slice ra rn rc ∧ L' = rL ++ [] ∧ SlR 0 28 1 (slE 1 (iE .i64)) F' ra rn rc r rL := by
  intro fu
  induction fu with
  | zero => intros; rename_i hr; rw [oyezref01_Lists] at hr; cases hr
  | succ fu ih => intros; rename_i hr; rw [oyezref01_Lists] at hr; exact oyezref01_ListsB_w ih (by assumption) hr
set_option maxHeartbeats 1000000 in
theorem oyezref01_streets_w {wide : Int} {plots_a : Option Addr} {plots_c : Nat} {plots : List Int} {F : FS} (h_plots : RowR 1 (iE .i64) F plots_a plots_c plots) {r : List Int} (hr : oyezref01_streets wide plots = some r) :
    SH.Spec Tryz.prog 49 #[.agg #[.int .i64 wide, .slice plots_a plots.length plots_c]] F [] fun F' L' v => ∃ (ra : Option Addr) (rn : Nat) (rc : Nat) (rL : LH), v = .slice ra rn rc ∧ L' = rL ++ [] ∧ SlR 0 3 1 (iE .i64) F' ra rn rc r rL := by
 refine spec_of_shW (args := [.agg #[.int .i64 wide, .slice plots_a plots.length plots_c]]) Tryz.func49 rfl Tryz.ntmps49 (Nat.le_of_ble_eq_true rfl) ?_
 intro K _ _; rw [oyezref01_streets] at hr
 refine wsr ?_
 refine o_box rfl rfl ?_; intro b1 hb1
 refine oa rfl rfl (nsr (oa rfl rfl (shO_nil ?_)))
 obtain ⟨out, h8, r9⟩ := b1_ok hr; clear hr
 refine shW_join (fun e1 F1 L1 => ∃ (a2 : Option Addr) (n6 : Nat) (c3 : Nat) (Lb4 : LH), F = F1 ∧ L1 = (Lb4 ++ []) ∧ e1.sub [(3, .slice a2 n6 c3)] ∧ SlR K.w0.heap.size 3 1 (iE .i64) F1 a2 n6 c3 out Lb4) ?_ ?_
 · clear r9
   refine wsr (oa rfl rfl (shO_nil ?_))
   refine shW_block ?_
   refine shW_lp (fun fu1 e1 F1 L1 => ∃ (tl : List Int) (p : Int), tl.length = fu1 ∧ Lst plots p tl ∧ ∃ (out2 : List Int) (a10 : Option Addr) (n14 : Nat) (c11 : Nat) (Lb12 : LH), oyezref01_streets_l1 tl p out2 = some out ∧ F = F1 ∧ L1 = ((b1, .cells #[.int .i64 wide, .slice plots_a plots.length plots_c] 34 (0, 0)) :: (Lb12 ++ [])) ∧ e1.sub [(1, .pointer (some ⟨b1, 0, none⟩)), (3, .slice a10 n14 c11), (4, .int .i64 p)] ∧ SlR K.w0.heap.size 3 1 (iE .i64) F1 a10 n14 c11 out2 Lb12) _ (m0 (kc (ke kr)) ⟨_, _, rfl, Lst.start _, [], none, 0, 0, [], h8, rfl, rfl, (sc rfl (sc rfl (sc rfl (sn _)))), SlR.nil _ _ _ _ _⟩) ?_
   rintro fu1 e1 _ _ ⟨tl, p, hn17, hk16, out2, a10, n14, c11, Lb12, r18, rfl, rfl, he19, hz13⟩
   refine shW_env _ he19 ?_; clear he19
   refine shW_seq (wsr (om rfl rfl ?_))
   refine ov (v_fieldAddr fa_34_1 rfl) rfl ?_
   refine ov (v_load Tryz.isAgg28 rfl (Has.own 0 rfl) rfl) rfl ?_
   refine ov (v_lenS Tryz.underlying28 rfl) rfl ?_
   refine ov (v_lssK rfl rfl) rfl ?_
   refine shO_nil ?_
   refine shW_condP rfl (fun c21 => ?_) (fun c21 => ?_)
   · obtain ⟨x, tl2, rfl, hx23, g24, hk22⟩ := Lst.succ hk16 c21
     rw [oyezref01_streets_l1] at r18
     refine shW_skip (shW_seq ?_)
     refine shW_block ?_
     refine wsr ?_
     refine ov (v_fieldAddr fa_34_1 rfl) rfl ?_
     refine ov (v_load Tryz.isAgg28 rfl (Has.own 0 rfl) rfl) rfl ?_
     refine om rfl rfl ?_
     obtain ⟨b25, o26, c27, vs28, ha29, hs30, hle31, rfl, hl32, hc33⟩ := RowR.at (iE_ok _) h_plots ((b1, .cells #[.int .i64 wide, .slice plots_a plots.length plots_c] 34 (0, 0)) :: (Lb12 ++ [])) g24.1 hx23
     refine ov (v_indexO Tryz.underlying28 Tryz.sizeOf3 rfl ha29 rfl g24) rfl ?_
     refine ov (v_load Tryz.isAgg3 rfl hs30 (hc33 0 (by decide))) rfl ?_
     refine ov (v_eql rfl rfl) rfl ?_
     refine shO_nil ?_
     refine shW_condP rfl (fun c34 => ?_) (fun c34 => ?_)
     · have r35 := ite_t r18 c34; clear r18
       refine shW_region (om rfl rfl (om rfl rfl ?_))
       refine o_buildSlice (cs := #[.int .i64 p]) rfl rfl (buildSlice_all slt_28 [.int .i64 p] rfl (by decide) (by simp [Value.cells]) (by decide)) ?_; intro b36 hb36
       obtain ⟨out3, h37, g38, r39⟩ := ap_ok r35; clear r35
       refine o_appZ (xs := out2) (ys := [p]) (zs := out3) rfl slt_28 rfl rfl (Nat.le_refl _) (fun _ => .c (.c .h)) hz13 (SrcR.box (vss := [[.int .i64 p]]) (ys := [p]) 0 rfl (iE_ok _) (.cons rfl .nil) rfl rfl) h37 g38 (by decide) ?_; intro a40 n44 c41 Lb42 hz43
       refine kO (kd kr) ?_
       refine oa rfl rfl (shO_nil (inBlock_n (id := 1) (shW_region (om rfl rfl ?_))))
       refine ov (v_add rfl rfl (Lst.r64 hk16 c21 (RowR.lt h_plots))) rfl ?_
       refine oa rfl rfl (shO_nil ?_)
       subst hn17; exact le kr ⟨_, _, rfl, hk22, out3, a40, n44, c41, Lb42, r39, rfl, rfl, (sc rfl (sc rfl (sc rfl (sn _)))), hz43⟩
     have r46 := ite_f r18 c34; clear r18
     refine shW_skip (inBlock_n (id := 1) (shW_region (om rfl rfl ?_)))
     refine ov (v_add rfl rfl (Lst.r64 hk16 c21 (RowR.lt h_plots))) rfl ?_
     refine oa rfl rfl (shO_nil ?_)
     subst hn17; exact le kr ⟨_, _, rfl, hk22, out2, a10, n14, c11, Lb12, r46, rfl, rfl, (sc rfl (sc rfl (sc rfl (sn _)))), hz13⟩
   obtain rfl := Lst.zero hk16 c21
   rw [oyezref01_streets_l1] at r18
   refine shW_exit (andThen_exit (andThen_exit ?_))
   refine inBlock_exit ?_
   obtain rfl := inj1 r18
   exact mi (kd kr) ⟨a10, n14, c11, Lb12, rfl, rfl, (sc rfl (sn _)), hz13⟩
 rintro e1 _ _ ⟨a2, n6, c3, Lb4, rfl, rfl, he47, hz5⟩
 refine shW_env _ he47 ?_; clear he47
 refine wsr (om rfl rfl (oa rfl rfl (shO_nil (shW_ret ?_))))
 refine q_res1 Tryz.results49 (res_tmp rfl) (sr) ?_
 obtain rfl := inj1 r9
 exact ⟨_, _, _, _, rfl, rfl, hz5.any⟩
set_option maxHeartbeats 1000000 in
theorem oyezref01_served_w {ears_a : Option Addr} {ears_c : Nat} {ears : List (List Int)} {houses_a : Option Addr} {houses_c : Nat} {houses : List Int} {stands_a : Option Addr} {stands_c : Nat} {stands : List Int} {F : FS} (h_ears : RowR 1 (slE 1 (iE .i64)) F ears_a ears_c ears) (h_houses : RowR 1 (iE .i64) F houses_a houses_c houses) (h_stands : RowR 1 (iE .i64) F stands_a stands_c stands) {r : Int} (hr : oyezref01_served ears houses stands = some r) :
    SpecV Tryz.prog 50 #[.slice ears_a ears.length ears_c, .slice houses_a houses.length houses_c, .slice stands_a stands.length stands_c] F (.int .i64 r) := by
 refine spec_of_shW (args := [.slice ears_a ears.length ears_c, .slice houses_a houses.length houses_c, .slice stands_a stands.length stands_c]) Tryz.func50 rfl Tryz.ntmps50 (Nat.le_of_ble_eq_true rfl) ?_
 intro K _ _; rw [oyezref01_served] at hr
 refine wsr (oa rfl rfl (nsr (oa rfl rfl (shO_nil ?_))))
 obtain ⟨n, h1, r2⟩ := b1_ok hr; clear hr
 refine shW_join (fun e1 F1 L1 => F = F1 ∧ L1 = [] ∧ e1.sub [(7, .int .i64 n)]) ?_ ?_
 · clear r2
   refine wsr (oa rfl rfl (shO_nil ?_))
   refine shW_block ?_
   refine shW_lp (fun fu1 e1 F1 L1 => ∃ (tl : List Int) (i : Int), tl.length = fu1 ∧ Lst houses i tl ∧ ∃ (n2 : Int), oyezref01_served_l1 ears stands tl n2 = some n ∧ F = F1 ∧ L1 = [] ∧ e1.sub [(0, .slice ears_a ears.length ears_c), (1, .slice houses_a houses.length houses_c), (2, .slice stands_a stands.length stands_c), (7, .int .i64 n2), (8, .int .i64 i)]) _ (m0 kr ⟨_, _, rfl, Lst.start _, 0, h1, rfl, rfl, (sc rfl (sc rfl (sc rfl (sc rfl (sc rfl (sn _))))))⟩) ?_
   rintro fu1 e1 _ _ ⟨tl, i, hn4, hk3, n2, r5, rfl, rfl, he6⟩
   refine shW_env _ he6 ?_; clear he6
   refine shW_seq (wsr (om rfl rfl (om rfl rfl ?_)))
   refine ov (v_lenS Tryz.underlying28 rfl) rfl ?_
   refine ov (v_lssK rfl rfl) rfl ?_
   refine shO_nil ?_
   refine shW_condP rfl (fun c8 => ?_) (fun c8 => ?_)
   · obtain ⟨x, tl2, rfl, hx10, g11, hk9⟩ := Lst.succ hk3 c8
     rw [oyezref01_served_l1] at r5
     refine shW_skip ?_
     obtain ⟨n3, h12, r13⟩ := b1_ok r5; clear r5
     refine shW_join (fun e1 F1 L1 => F = F1 ∧ L1 = [] ∧ e1.sub [(0, .slice ears_a ears.length ears_c), (1, .slice houses_a houses.length houses_c), (2, .slice stands_a stands.length stands_c), (7, .int .i64 n3), (8, .int .i64 i)]) ?_ ?_
     · clear r13
       refine shW_block ?_
       refine wsr (oa rfl rfl (shO_nil ?_))
       obtain ⟨is_, h14, r15⟩ := b1_ok h12; clear h12
       refine shW_join (fun e1 F1 L1 => F = F1 ∧ L1 = [] ∧ e1.sub [(0, .slice ears_a ears.length ears_c), (1, .slice houses_a houses.length houses_c), (2, .slice stands_a stands.length stands_c), (7, .int .i64 n2), (8, .int .i64 i), (9, .bool is_)]) ?_ ?_
       · clear r15
         refine wsr (oa rfl rfl (shO_nil ?_))
         refine shW_block ?_
         refine shW_lp (fun fu2 e1 F1 L1 => ∃ (tl3 : List Int) (k : Int), tl3.length = fu2 ∧ Lst stands k tl3 ∧ ∃ (is_2 : Bool), oyezref01_served_l2 ears x tl3 is_2 = some is_ ∧ F = F1 ∧ L1 = [] ∧ e1.sub [(0, .slice ears_a ears.length ears_c), (1, .slice houses_a houses.length houses_c), (2, .slice stands_a stands.length stands_c), (7, .int .i64 n2), (8, .int .i64 i), (9, .bool is_2), (10, .int .i64 k)]) _ (m0 kr ⟨_, _, rfl, Lst.start _, false, h14, rfl, rfl, (sc rfl (sc rfl (sc rfl (sc rfl (sc rfl (sc rfl (sc rfl (sn _))))))))⟩) ?_
         rintro fu2 e1 _ _ ⟨tl3, k, hn17, hk16, is_2, r18, rfl, rfl, he19⟩
         refine shW_env _ he19 ?_; clear he19
         refine shW_seq (wsr (om rfl rfl (om rfl rfl ?_)))
         refine ov (v_lenS Tryz.underlying28 rfl) rfl ?_
         refine ov (v_lssK rfl rfl) rfl ?_
         refine shO_nil ?_
         refine shW_condP rfl (fun c21 => ?_) (fun c21 => ?_)
         · obtain ⟨x2, tl4, rfl, hx23, g24, hk22⟩ := Lst.succ hk16 c21
           rw [oyezref01_served_l2] at r18
           refine shW_skip (shW_seq ?_)
           refine shW_block ?_
           refine shW_draw (by kernel_rfl) (by kernel_rfl) (by kernel_rfl) ?_
           refine qm rfl rfl (qm rfl rfl ?_)
           rcases bool_two is_2 with c25 | c25
           · have r26 := bt r18 c25; clear r18
             refine shQ_off (b' := true) 24 rfl (EnvB rfl c25) rfl rfl (shQ_off (b' := true) 24 rfl (EnvB rfl c25) rfl rfl (shQ_off (b' := true) 24 rfl (EnvB rfl c25) rfl rfl (shQ_off (b' := true) 24 rfl (EnvB rfl c25) rfl rfl (shQ_off (b' := true) 24 rfl (EnvB rfl c25) rfl rfl (shQ_off (b' := true) 24 rfl (EnvB rfl c25) rfl rfl (shQ_off (b' := true) 24 rfl (EnvB rfl c25) rfl rfl (shQ_off (b' := true) 24 rfl (EnvB rfl c25) rfl rfl (shQ_off (b' := true) 24 rfl (EnvB rfl c25) rfl rfl (shQ_off (b' := true) 24 rfl (EnvB rfl c25) rfl rfl ?_)))))))))
             refine shQ_off (b' := true) 24 rfl (EnvB rfl c25) rfl rfl (shQ_off (b' := true) 24 rfl (EnvB rfl c25) rfl rfl ?_)
             refine qv (v_pick_t (evB rfl c25) rfl) rfl ?_
             refine qa rfl rfl (shQ_nil (inBlock_n (id := 3) (shW_region (om rfl rfl ?_))))
             refine ov (v_add rfl rfl (Lst.r64 hk16 c21 (RowR.lt h_stands))) rfl ?_
             refine oa rfl rfl (shO_nil ?_)
             subst hn17; exact le kr ⟨_, _, rfl, hk22, true, r26, rfl, rfl, (sc rfl (sc rfl (sc rfl (sc rfl (sc rfl (sc rfl (sc rfl (sn _))))))))⟩
           have r27 := bf r18 c25; clear r18
           refine shQ_on (b := false) 24 rfl (EnvB rfl c25) (qm rfl rfl (shQ_on (b := false) 24 rfl (EnvB rfl c25) (qm rfl rfl (shQ_on (b := false) 24 rfl (EnvB rfl c25) (qm rfl rfl (shQ_on (b := false) 24 rfl (EnvB rfl c25) ?_))))))
           obtain ⟨b28, o29, c30, vs31, ha32, hs33, hle34, rfl, hl35, hc36⟩ := RowR.at (iE_ok _) h_houses ([]) g11.1 hx10
           refine qv (v_indexO Tryz.underlying28 Tryz.sizeOf3 rfl ha32 rfl g11) rfl ?_
           refine shQ_on (b := false) 24 rfl (EnvB rfl c25) ?_
           refine qv (v_load Tryz.isAgg3 rfl hs33 (hc36 0 (by decide))) rfl ?_
           refine shQ_on (b := false) 24 rfl (EnvB rfl c25) ?_
           obtain ⟨x3, g37, hx38, r39⟩ := ix_ok r27; clear r27
           obtain ⟨b40, o41, c42, vs43, ha44, hs45, hle46, ⟨a49, c50, rfl, h51⟩, hl47, hc48⟩ := RowR.at (slE_ok (iE_ok _)) h_ears ([]) g37.1 hx38
           refine qv (v_indexO Tryz.underlying84 Tryz.sizeOf28 rfl ha44 rfl g37) rfl ?_
           refine shQ_on (b := false) 24 rfl (EnvB rfl c25) ?_
           refine qv (v_load Tryz.isAgg28 rfl hs45 (hc48 0 (by decide))) rfl ?_
           refine shQ_on (b := false) 24 rfl (EnvB rfl c25) (qm rfl rfl (shQ_on (b := false) 24 rfl (EnvB rfl c25) (qm rfl rfl (shQ_on (b := false) 24 rfl (EnvB rfl c25) ?_))))
           obtain ⟨b52, o53, c54, vs55, ha56, hs57, hle58, rfl, hl59, hc60⟩ := RowR.at (iE_ok _) h_stands ([]) g24.1 hx23
           refine qv (v_indexO Tryz.underlying28 Tryz.sizeOf3 rfl ha56 rfl g24) rfl ?_
           refine shQ_on (b := false) 24 rfl (EnvB rfl c25) ?_
           refine qv (v_load Tryz.isAgg3 rfl hs57 (hc60 0 (by decide))) rfl ?_
           refine shQ_on (b := false) 24 rfl (EnvB rfl c25) ?_
           obtain ⟨ok, h61, r62⟩ := b1_ok r39; clear r39
           refine shQ_callV rfl Tryz.call62 rfl rfl rfl (oyezref01_has_w h51 h61) ?_
           refine qv (v_pick_f (evB rfl c25) rfl) rfl ?_
           refine qa rfl rfl (shQ_nil (inBlock_n (id := 3) (shW_region (om rfl rfl ?_))))
           refine ov (v_add rfl rfl (Lst.r64 hk16 c21 (RowR.lt h_stands))) rfl ?_
           refine oa rfl rfl (shO_nil ?_)
           subst hn17; exact le kr ⟨_, _, rfl, hk22, ok, r62, rfl, rfl, (sc rfl (sc rfl (sc rfl (sc rfl (sc rfl (sc rfl (sc rfl (sn _))))))))⟩
         obtain rfl := Lst.zero hk16 c21
         rw [oyezref01_served_l2] at r18
         refine shW_exit (andThen_exit (andThen_exit ?_))
         refine inBlock_exit ?_
         obtain rfl := inj1 r18
         exact mi kr ⟨rfl, rfl, (sc rfl (sc rfl (sc rfl (sc rfl (sc rfl (sc rfl (sn _)))))))⟩
       rintro e1 _ _ ⟨rfl, rfl, he63⟩
       refine shW_env _ he63 ?_; clear he63
       refine wsr (om rfl rfl (shO_nil ?_))
       refine shW_cond rfl (fun c64 => ?_) (fun c64 => ?_)
       · have r65 := bt r15 c64; clear r15
         refine shW_region (om rfl rfl ?_)
         obtain ⟨g66, r67⟩ := gd_ok r65; clear r65
         refine ov (v_add rfl rfl g66) rfl ?_
         refine oa rfl rfl (shO_nil (inBlock_n (id := 1) ?_))
         obtain rfl := inj1 r67
         exact mi kr ⟨rfl, rfl, (sc rfl (sc rfl (sc rfl (sc rfl (sc rfl (sn _))))))⟩
       have r68 := bf r15 c64; clear r15
       refine shW_skip (inBlock_n (id := 1) ?_)
       obtain rfl := inj1 r68
       exact mi kr ⟨rfl, rfl, (sc rfl (sc rfl (sc rfl (sc rfl (sc rfl (sn _))))))⟩
     rintro e1 _ _ ⟨rfl, rfl, he69⟩
     refine shW_env _ he69 ?_; clear he69
     refine shW_region (om rfl rfl ?_)
     refine ov (v_add rfl rfl (Lst.r64 hk3 c8 (RowR.lt h_houses))) rfl ?_
     refine oa rfl rfl (shO_nil ?_)
     subst hn4; exact le kr ⟨_, _, rfl, hk9, n3, r13, rfl, rfl, (sc rfl (sc rfl (sc rfl (sc rfl (sc rfl (sn _))))))⟩
   obtain rfl := Lst.zero hk3 c8
   rw [oyezref01_served_l1] at r5
   refine shW_exit (andThen_exit (andThen_exit ?_))
   refine inBlock_exit ?_
   obtain rfl := inj1 r5
   exact mi kr ⟨rfl, rfl, (sc rfl (sn _))⟩
 rintro e1 _ _ ⟨rfl, rfl, he70⟩
 refine shW_env _ he70 ?_; clear he70
 refine wsr (om rfl rfl (oa rfl rfl (shO_nil (shW_ret ?_))))
 refine q_res1 Tryz.results50 (res_tmp rfl) (sr) ?_
 obtain rfl := inj1 r2
 exact rfl
set_option maxHeartbeats 1000000 in
theorem oyezref01_Fewest_w {wide : Int} {plots_a : Option Addr} {plots_c : Nat} {plots : List Int} {wind : Int} {voice : Int} {houses_a : Option Addr} {houses_c : Nat} {houses : List Int} {F : FS} (h_plots : RowR 1 (iE .i64) F plots_a plots_c plots) (h_houses : RowR 1 (iE .i64) F houses_a houses_c houses) {r : List Int} {r2 : Int} (hr : oyezref01_Fewest wide plots wind voice houses = some (r, r2)) :
    SH.Spec Tryz.prog 11 #[.agg #[.int .i64 wide, .slice plots_a plots.length plots_c], .int .i64 wind, .int .i64 voice, .slice houses_a houses.length houses_c] F [] fun F' L' v => ∃ (ra : Option Addr) (rc : Nat), v = .tuple #[.slice ra r.length rc, .int .i64 r2] ∧ L' = [] ∧ RowR 1 (iE .i64) F' ra rc r := by
 refine spec_of_shW (args := [.agg #[.int .i64 wide, .slice plots_a plots.length plots_c], .int .i64 wind, .int .i64 voice, .slice houses_a houses.length houses_c]) Tryz.func11 rfl Tryz.ntmps11 (Nat.le_of_ble_eq_true rfl) ?_
 intro K _ _; rw [oyezref01_Fewest] at hr
 refine wsr ?_
 refine o_box rfl rfl ?_; intro b1 hb1
 refine oa rfl rfl (oa rfl rfl (shO_nil (shW_seq (wsr ?_))))
 refine ov (v_loadA (cs := #[.int .i64 wide, .slice plots_a plots.length plots_c]) Tryz.isAgg34 Tryz.sizeOf34 rfl (Has.own 0 rfl) (Nat.le_of_ble_eq_true rfl) rfl) rfl ?_
 refine om rfl rfl (om rfl rfl (om rfl rfl ?_))
 obtain ⟨n, h2, r3⟩ := b1_ok hr; clear hr
 refine o_callV rfl Tryz.call45 rfl rfl rfl (oyezref01_Asked_w h_plots h_houses h2) ?_
 refine oa rfl rfl (nsr (om rfl rfl ?_))
 refine ov (v_neq rfl rfl) rfl ?_
 refine shO_nil ?_
 refine shW_condP rfl (fun c4 => ?_) (fun c4 => ?_)
 · have r5 := ite_t r3 c4; clear r3
   refine wsr (om rfl rfl (oa rfl rfl (oa rfl rfl (shO_nil ?_))))
   refine kW kn ?_
   refine shW_ret (andThen_ret ?_)
   refine q_res2 Tryz.results11 (res_tmp rfl) (res_tmp rfl) (sr) ?_
   obtain ⟨rfl, rfl⟩ := inj2 r5
   exact ⟨_, _, rfl, rfl, RowR.nil _ _ _⟩
 have r6 := ite_f r3 c4; clear r3
 refine shW_skip (wsr ?_)
 refine ov (v_loadA (cs := #[.int .i64 wide, .slice plots_a plots.length plots_c]) Tryz.isAgg34 Tryz.sizeOf34 rfl (Has.own 0 rfl) (Nat.le_of_ble_eq_true rfl) rfl) rfl ?_
 refine om rfl rfl (om rfl rfl ?_)
 obtain ⟨l, h7, r8⟩ := b1_ok r6; clear r6
 refine o_call0 rfl Tryz.call46 rfl rfl rfl (oyezref01_Ears_w h_plots h7) ?_; rintro _ F9 _ hF10 hn11 ⟨a13, c14, rfl, rfl, h15⟩
 replace h_plots := h_plots.mono (iE_ok _) hF10
 replace h_houses := h_houses.mono (iE_ok _) hF10
 refine shO_L (ln rfl) ?_
 refine oa rfl rfl (shO_nil (shW_seq (wsr (om rfl rfl (om rfl rfl ?_)))))
 obtain ⟨ok, h16, r17⟩ := b1_ok r8; clear r8
 refine o_callV rfl Tryz.call47 rfl rfl rfl (oyezref01_deaf_w h15 h_houses h16) ?_
 refine shO_nil ?_
 refine shW_cond rfl (fun c18 => ?_) (fun c18 => ?_)
 · have r19 := bt r17 c18; clear r17
   refine wsr (oa rfl rfl (oa rfl rfl (shO_nil ?_)))
   refine kW kn ?_
   refine shW_ret (andThen_ret ?_)
   refine q_res2 Tryz.results11 (res_tmp rfl) (res_tmp rfl) (sr) ?_
   obtain ⟨rfl, rfl⟩ := inj2 r19
   exact ⟨_, _, rfl, rfl, RowR.nil _ _ _⟩
 have r20 := bf r17 c18; clear r17
 refine shW_skip (wsr (oa rfl rfl (shO_nil ?_)))
 refine shW_block ?_
 refine shW_lp (fun fu1 e1 F1 L1 => ∃ (many : Int), oyezref01_Fewest_l1 wide plots houses l fu1 many = some (r, r2) ∧ FExt F9 F1 ∧ L1 = [(b1, .cells #[.int .i64 wide, .slice plots_a plots.length plots_c] 34 (0, 0))] ∧ e1.sub [(3, .slice houses_a houses.length houses_c), (4, .pointer (some ⟨b1, 0, none⟩)), (11, .slice a13 l.length c14), (12, .int .i64 many)]) FU (m0 kr ⟨0, r20, FExt.refl _, rfl, (sc rfl (sc rfl (sc rfl (sc rfl (sn _)))))⟩) ?_
 rintro fu1 e1 F25 _ ⟨many, r23, hF26, rfl, he24⟩
 refine shW_env _ he24 ?_; clear he24
 replace h_plots := h_plots.mono (iE_ok _) hF26
 replace h_houses := h_houses.mono (iE_ok _) hF26
 replace h15 := h15.mono (slE_ok (iE_ok _)) hF26
 rcases fu1 with _ | fu1
 · rw [oyezref01_Fewest_l1] at r23; cases r23
 rw [oyezref01_Fewest_l1] at r23
 refine shW_join (fun e1 F1 L1 => oyezref01_Fewest_j2 many (oyezref01_Fewest_l1 wide plots houses l fu1) = some (r, r2) ∧ FExt F25 F1 ∧ L1 = [(b1, .cells #[.int .i64 wide, .slice plots_a plots.length plots_c] 34 (0, 0))] ∧ e1.sub [(3, .slice houses_a houses.length houses_c), (4, .pointer (some ⟨b1, 0, none⟩)), (11, .slice a13 l.length c14), (12, .int .i64 many)]) ?_ ?_
 · refine shW_block ?_
   refine wsr ?_
   refine ov (v_loadA (cs := #[.int .i64 wide, .slice plots_a plots.length plots_c]) Tryz.isAgg34 Tryz.sizeOf34 rfl (Has.own 0 rfl) (Nat.le_of_ble_eq_true rfl) rfl) rfl ?_
   obtain ⟨l2, h27, r28⟩ := b1_ok r23; clear r23
   refine o_call0 rfl Tryz.call49 rfl rfl rfl (oyezref01_streets_w h_plots h27) ?_; rintro _ F29 _ hF30 hn31 ⟨a33, n37, c34, Lb35, rfl, rfl, hz36⟩
   replace h_houses := h_houses.mono (iE_ok _) hF30
   replace h15 := h15.mono (slE_ok (iE_ok _)) hF30
   replace hz36 := hz36.new fun p hp => hn31 p (by simp [hp])
   refine shO_L (lp (ln rfl)) ?_
   refine kO (kf (fS fO) kr) ?_
   refine om rfl rfl ?_
   obtain rfl := (SlR.caps hz36).1
   refine shO_freezeR (Nat.le_refl _) (iE_ok _) (fC fP) hz36 ?_; intro F39 hF40 h41
   replace h_houses := h_houses.mono (iE_ok _) hF40
   replace h15 := h15.mono (slE_ok (iE_ok _)) hF40
   obtain ⟨l3, h42, r43⟩ := b1_ok r28; clear r28
   refine o_call0 rfl Tryz.call48 rfl rfl rfl ((oyezref01_Lists_w FU) h41 h42) ?_; rintro _ F44 _ hF45 hn46 ⟨a48, n52, c49, Lb50, rfl, rfl, hz51⟩
   replace h_houses := h_houses.mono (iE_ok _) hF45
   replace h15 := h15.mono (slE_ok (iE_ok _)) hF45
   replace hz51 := hz51.new fun p hp => hn46 p (by simp [hp])
   refine shO_L (lp (ln rfl)) ?_
   refine kO (kf (fS fO) kr) ?_
   refine oa rfl rfl (nsr (oa rfl rfl (shO_nil ?_)))
   refine shW_block ?_
   refine shW_lp (fun fu3 e1 F1 L1 => ∃ (tl : List (List Int)) (i : Int), tl.length = fu3 ∧ Lst l3 i tl ∧ oyezref01_Fewest_l3 houses l many (oyezref01_Fewest_l1 wide plots houses l fu1) tl = some (r, r2) ∧ F44 = F1 ∧ L1 = ((b1, .cells #[.int .i64 wide, .slice plots_a plots.length plots_c] 34 (0, 0)) :: (Lb50 ++ [])) ∧ e1.sub [(3, .slice houses_a houses.length houses_c), (4, .pointer (some ⟨b1, 0, none⟩)), (11, .slice a13 l.length c14), (12, .int .i64 many), (13, .slice a48 n52 c49), (14, .int .i64 i)]) _ (m0 kr ⟨_, _, rfl, Lst.start _, r43, rfl, rfl, (sc rfl (sc rfl (sc rfl (sc rfl (sc rfl (sc rfl (sn _)))))))⟩) ?_
   rintro fu3 e1 _ _ ⟨tl, i, hn55, hk54, r56, rfl, rfl, he57⟩
   refine shW_env _ he57 ?_; clear he57
   refine shW_seq (wsr (om rfl rfl (om rfl rfl ?_)))
   refine ov ((v_lenS Tryz.underlying84 rfl).i (SlR.lenI hz51)) rfl ?_
   refine ov (v_lssK rfl rfl) rfl ?_
   refine shO_nil ?_
   refine shW_condP rfl (fun c59 => ?_) (fun c59 => ?_)
   · obtain ⟨x, tl2, rfl, hx61, g62, hk60⟩ := Lst.succ hk54 c59
     rw [oyezref01_Fewest_l3] at r56
     refine shW_skip (shW_seq ?_)
     refine shW_block ?_
     refine wsr (om rfl rfl (om rfl rfl (om rfl rfl (om rfl rfl ?_))))
     obtain ⟨b63, o64, c65, vs66, ha67, hs68, hle69, ⟨a72, c73, rfl, h74⟩, hl70, hc71⟩ := SlR.at (slE_ok (iE_ok _)) hz51 (L := (b1, .cells #[.int .i64 wide, .slice plots_a plots.length plots_c] 34 (0, 0)) :: (Lb50 ++ [])) (fC fP) g62.1 hx61
     refine ov (v_indexO Tryz.underlying84 Tryz.sizeOf28 rfl ha67 rfl (SlR.idx hz51 g62)) rfl ?_
     refine ov (v_load Tryz.isAgg28 rfl hs68 (hc71 0 (by decide))) rfl ?_
     obtain ⟨n2, h75, r76⟩ := b1_ok r56; clear r56
     refine o_callV rfl Tryz.call50 rfl rfl rfl (oyezref01_served_w h15 h_houses h74 h75) ?_
     refine om rfl rfl ?_
     refine ov (v_lenS Tryz.underlying28 rfl) rfl ?_
     refine ov (v_eql rfl rfl) rfl ?_
     refine shO_nil ?_
     refine shW_condP rfl (fun c77 => ?_) (fun c77 => ?_)
     · have r78 := ite_t r76 c77; clear r76
       refine wsr (om rfl rfl (om rfl rfl ?_))
       obtain ⟨b79, o80, c81, vs82, ha83, hs84, hle85, ⟨a88, c89, rfl, h90⟩, hl86, hc87⟩ := SlR.at (slE_ok (iE_ok _)) hz51 (L := (b1, .cells #[.int .i64 wide, .slice plots_a plots.length plots_c] 34 (0, 0)) :: (Lb50 ++ [])) (fC fP) g62.1 hx61
       refine ov (v_indexO Tryz.underlying84 Tryz.sizeOf28 rfl ha83 rfl (SlR.idx hz51 g62)) rfl ?_
       refine ov (v_load Tryz.isAgg28 rfl hs84 (hc87 0 (by decide))) rfl ?_
       refine oa rfl rfl (oa rfl rfl (shO_nil ?_))
       refine kW kn ?_
       refine shW_ret (inBlock_ret (andThen_ret (andThen_ret (inBlock_ret (inBlock_ret (andThen_ret (andThen_ret (inBlock_ret ?_))))))))
       refine q_res2 Tryz.results11 (res_tmp rfl) (res_tmp rfl) (sr) ?_
       obtain ⟨rfl, rfl⟩ := inj2 r78
       exact ⟨_, _, rfl, rfl, h90⟩
     have r91 := ite_f r76 c77; clear r76
     refine shW_skip (inBlock_n (id := 3) (shW_region (om rfl rfl ?_)))
     refine ov (v_add rfl rfl (Lst.r64 hk54 c59 (SlR.llt hz51))) rfl ?_
     refine oa rfl rfl (shO_nil ?_)
     subst hn55; exact le kr ⟨_, _, rfl, hk60, r91, rfl, rfl, (sc rfl (sc rfl (sc rfl (sc rfl (sc rfl (sc rfl (sn _)))))))⟩
   obtain rfl := Lst.zero hk54 c59
   rw [oyezref01_Fewest_l3] at r56
   refine shW_exit (andThen_exit (andThen_exit ?_))
   refine inBlock_exit ?_
   refine inBlock_n (id := 1) ?_
   exact mi (kc kn) ⟨r56, ((hF30.trans hF40).trans hF45), rfl, (sc rfl (sc rfl (sc rfl (sc rfl (sn _)))))⟩
 rintro e1 F94 _ ⟨r92, hF95, rfl, he93⟩
 refine shW_env _ he93 ?_; clear he93
 rw [oyezref01_Fewest_j2] at r92
 refine shW_region (om rfl rfl ?_)
 obtain ⟨g96, r97⟩ := gd_ok r92; clear r92
 refine ov (v_add rfl rfl g96) rfl ?_
 refine oa rfl rfl (shO_nil ?_)
 exact le kr ⟨many + 1, r97, (hF26.trans hF95), rfl, (sc rfl (sc rfl (sc rfl (sc rfl (sn _)))))⟩
set_option maxHeartbeats 1000000 in
theorem hear_ears_list_w {x : List Bool} {F : FS} (h_x : x.length = 30) {r : List Int} (hr : hear_ears_list x = some r) :
    SH.Spec Tryz.prog 52 #[.agg (arr cB x)] F [] fun F' L' v => ∃ (ra : Option Addr) (rn : Nat) (rc : Nat) (rL : LH), v = .slice ra rn rc ∧ L' = rL ++ [] ∧ SlR 0 3 1 (iE .i64) F' ra rn rc r rL := by
 refine spec_of_shW (args := [.agg (arr cB x)]) Tryz.func52 rfl Tryz.ntmps52 (Nat.le_of_ble_eq_true rfl) ?_
 intro K _ _; rw [hear_ears_list] at hr
 refine wsr ?_
 refine o_box rfl rfl ?_; intro b1 hb1
 refine oa rfl rfl (nsr (oa rfl rfl (shO_nil ?_)))
 obtain ⟨out, h8, r9⟩ := b1_ok hr; clear hr
 refine shW_join (fun e1 F1 L1 => ∃ (a2 : Option Addr) (n6 : Nat) (c3 : Nat) (Lb4 : LH), F = F1 ∧ L1 = (Lb4 ++ []) ∧ e1.sub [(3, .slice a2 n6 c3)] ∧ SlR K.w0.heap.size 3 1 (iE .i64) F1 a2 n6 c3 out Lb4) ?_ ?_
 · clear r9
   refine wsr ?_
   refine ov (v_loadW Tryz.isAgg80 Tryz.sizeOf80 rfl (Has.own 0 rfl) (arr_sz cB_ok h_x)) rfl ?_
   refine om rfl rfl (shO_nil ?_)
   refine shW_block ?_
   refine kW kn ?_
   obtain ⟨g16, r17⟩ := gd_ok h8; clear h8
   refine shW_lp (fun fu1 e1 F1 L1 => ∃ (k : Int), Ctr 0 30 k fu1 ∧ ∃ (out2 : List Int) (a10 : Option Addr) (n14 : Nat) (c11 : Nat) (Lb12 : LH), hear_ears_list_l1 x fu1 k out2 = some out ∧ F = F1 ∧ L1 = (Lb12 ++ []) ∧ e1.sub [(3, .slice a10 n14 c11), (6, .agg (arr cB x)), (7, .int .i64 k)] ∧ SlR K.w0.heap.size 3 1 (iE .i64) F1 a10 n14 c11 out2 Lb12) _ (m0 (ke kr) ⟨_, Ctr.start _ _, [], none, 0, 0, [], r17, rfl, rfl, (sc rfl (sc rfl (sc rfl (sn _)))), SlR.nil _ _ _ _ _⟩) ?_
   rintro fu1 e1 _ _ ⟨k, hk18, out2, a10, n14, c11, Lb12, r20, rfl, rfl, he21, hz13⟩
   refine shW_env _ he21 ?_; clear he21
   refine wsr ?_
   refine ov (v_lssK rfl rfl) rfl ?_
   refine shO_nil (shW_seq ?_)
   refine shW_condP rfl (fun c23 => ?_) (fun c23 => ?_)
   · obtain ⟨fu1, rfl, hk24⟩ := Ctr.succ hk18 c23
     rw [hear_ears_list_l1] at r20
     refine shW_skip (shW_seq ?_)
     refine shW_block ?_
     refine wsr (om rfl rfl ?_)
     obtain ⟨x2, g25, hx26, r27⟩ := ix_ok r20; clear r20
     refine ov (v_index (ixa_80 h_x g25 hx26) rfl rfl) rfl ?_
     refine oa rfl rfl (oa rfl rfl (nsr (om rfl rfl (shO_nil ?_))))
     refine shW_cond rfl (fun c28 => ?_) (fun c28 => ?_)
     · have r29 := bt r27 c28; clear r27
       refine shW_region (om rfl rfl (om rfl rfl ?_))
       refine o_buildSlice (cs := #[.int .i64 k]) rfl rfl (buildSlice_all slt_28 [.int .i64 k] rfl (by decide) (by simp [Value.cells]) (by decide)) ?_; intro b30 hb30
       obtain ⟨out3, h31, g32, r33⟩ := ap_ok r29; clear r29
       refine o_appZ (xs := out2) (ys := [k]) (zs := out3) rfl slt_28 rfl rfl (Nat.le_refl _) (fun _ => .c .h) hz13 (SrcR.box (vss := [[.int .i64 k]]) (ys := [k]) 0 rfl (iE_ok _) (.cons rfl .nil) rfl rfl) h31 g32 (by decide) ?_; intro a34 n38 c35 Lb36 hz37
       refine kO (kd kr) ?_
       refine oa rfl rfl (shO_nil (inBlock_n (id := 1) (shW_region ?_)))
       refine ov (v_add rfl rfl (Ctr.r64 hk18 c23 g16)) rfl ?_
       refine om rfl rfl (shO_nil ?_)
       exact le kr ⟨_, hk24, out3, a34, n38, c35, Lb36, r33, rfl, rfl, (sc rfl (sc rfl (sc rfl (sn _)))), hz37⟩
     have r40 := bf r27 c28; clear r27
     refine shW_skip (inBlock_n (id := 1) (shW_region ?_))
     refine ov (v_add rfl rfl (Ctr.r64 hk18 c23 g16)) rfl ?_
     refine om rfl rfl (shO_nil ?_)
     exact le kr ⟨_, hk24, out2, a10, n14, c11, Lb12, r40, rfl, rfl, (sc rfl (sc rfl (sc rfl (sn _)))), hz13⟩
   obtain rfl := Ctr.zero hk18 c23
   rw [hear_ears_list_l1] at r20
   refine shW_exit (andThen_exit (andThen_exit ?_))
   refine inBlock_exit ?_
   obtain rfl := inj1 r20
   exact mi kr ⟨a10, n14, c11, Lb12, rfl, rfl, (sc rfl (sn _)), hz13⟩
 rintro e1 _ _ ⟨a2, n6, c3, Lb4, rfl, rfl, he41, hz5⟩
 refine shW_env _ he41 ?_; clear he41
 refine wsr (om rfl rfl (oa rfl rfl (shO_nil (shW_ret ?_))))
 refine q_res1 Tryz.results52 (res_tmp rfl) (sr) ?_
 obtain rfl := inj1 r9
 exact ⟨_, _, _, _, rfl, rfl, hz5.any⟩
set_option maxHeartbeats 1000000 in
theorem cmp_isNaN_int_w {x : Int} {F : FS} {r : Bool} (hr : cmp_isNaN_int x = some r) :
    SpecV Tryz.prog 108 #[.int .i64 x] F (.bool r) := by
 refine spec_of_shW (args := [.int .i64 x]) Tryz.func108 rfl Tryz.ntmps108 (Nat.le_of_ble_eq_true rfl) ?_
 intro K _ _; rw [cmp_isNaN_int] at hr
 refine wsr (oa rfl rfl (nsr (om rfl rfl (om rfl rfl ?_))))
 refine ov (v_neq rfl rfl) rfl ?_
 refine oa rfl rfl (shO_nil (shW_ret ?_))
 refine q_res1 Tryz.results108 (res_tmp rfl) (sr) ?_
 obtain rfl := inj1 hr
 exact rfl
set_option maxHeartbeats 1000000 in
theorem cmp_Less_int_w {x : Int} {y : Int} {F : FS} {r : Bool} (hr : cmp_Less_int x y = some r) :
    SpecV Tryz.prog 74 #[.int .i64 x, .int .i64 y] F (.bool r) := by
 refine spec_of_shW (args := [.int .i64 x, .int .i64 y]) Tryz.func74 rfl Tryz.ntmps74 (Nat.le_of_ble_eq_true rfl) ?_
 intro K _ _; rw [cmp_Less_int] at hr
 refine wsr (oa rfl rfl (nsr (om rfl rfl ?_)))
 obtain ⟨ok, h1, r2⟩ := b1_ok hr; clear hr
 refine o_callV rfl Tryz.call108 rfl rfl rfl (cmp_isNaN_int_w h1) ?_
 refine om rfl rfl ?_
 rcases bool_two ok with c3 | c3
 · have r4 := bt r2 c3; clear r2
   refine shO_on (b := true) 7 rfl (EnvB rfl c3) (om rfl rfl (shO_on (b := true) 7 rfl (EnvB rfl c3) ?_))
   obtain ⟨ok2, h5, r6⟩ := b1_ok r4; clear r4
   refine o_callV rfl Tryz.call108 rfl rfl rfl (cmp_isNaN_int_w h5) ?_
   refine shO_on (b := true) 7 rfl (EnvB rfl c3) ?_
   refine ov (v_notB rfl) rfl ?_
   refine ov (v_pick_t (evB rfl c3) rfl) rfl ?_
   refine om rfl rfl ?_
   rcases bool_two (!ok2) with c7 | c7
   · have r8 := bt r6 c7; clear r6
     refine shO_off (b' := true) 12 rfl (EnvB rfl c7) rfl rfl (shO_off (b' := true) 12 rfl (EnvB rfl c7) rfl rfl (shO_off (b' := true) 12 rfl (EnvB rfl c7) rfl rfl ?_))
     refine ov (v_pick_t (evB rfl c7) rfl) rfl ?_
     refine oa rfl rfl (shO_nil (shW_ret ?_))
     refine q_res1 Tryz.results74 (res_tmp rfl) (sr) ?_
     obtain rfl := inj1 r8
     exact rfl
   have r9 := bf r6 c7; clear r6
   refine shO_on (b := false) 12 rfl (EnvB rfl c7) (om rfl rfl (shO_on (b := false) 12 rfl (EnvB rfl c7) (om rfl rfl (shO_on (b := false) 12 rfl (EnvB rfl c7) ?_))))
   refine ov (v_lssK rfl rfl) rfl ?_
   refine ov (v_pick_f (evB rfl c7) rfl) rfl ?_
   refine oa rfl rfl (shO_nil (shW_ret ?_))
   refine q_res1 Tryz.results74 (res_tmp rfl) (sr) ?_
   obtain rfl := inj1 r9
   exact rfl
 have r10 := bf r2 c3; clear r2
 refine shO_off (b' := false) 7 rfl (EnvB rfl c3) rfl rfl (shO_off (b' := false) 7 rfl (EnvB rfl c3) rfl rfl (shO_off (b' := false) 7 rfl (EnvB rfl c3) rfl rfl ?_))
 refine ov (v_pick_f (evB rfl c3) rfl) rfl ?_
 refine om rfl rfl (shO_on (b := false) 12 rfl rfl (om rfl rfl (shO_on (b := false) 12 rfl rfl (om rfl rfl (shO_on (b := false) 12 rfl rfl ?_)))))
 refine ov (v_lssK rfl rfl) rfl ?_
 refine ov (v_pick_f rfl rfl) rfl ?_
 refine oa rfl rfl (shO_nil (shW_ret ?_))
 refine q_res1 Tryz.results74 (res_tmp rfl) (sr) ?_
 obtain rfl := inj1 r10
 exact rfl
set_option maxHeartbeats 1000000 in
theorem slices_insertionSortOrdered_int_w {s__a : Option Addr} {s__n : Nat} {s__c : Nat} {s__L : LH} {s_ : List Int} {s__nb : Nat} {a : Int} {b : Int} {F : FS} (h_s_ : SlR s__nb 3 1 (iE .i64) F s__a s__n s__c s_ s__L) {r : List Int} (hr : slices_insertionSortOrdered_int s_ a b = some r) :
    SH.Spec Tryz.prog 117 #[.slice s__a s__n s__c, .int .i64 a, .int .i64 b] F (s__L ++ []) fun F' L' v => ∃ (rL : LH), v = .tuple #[] ∧ L' = rL ++ [] ∧ SlR s__nb 3 1 (iE .i64) F' s__a s__n s__c r rL := by
 refine spec_of_shW (args := [.slice s__a s__n s__c, .int .i64 a, .int .i64 b]) Tryz.func117 rfl Tryz.ntmps117 (Nat.le_of_ble_eq_true rfl) ?_
 intro K _ _; rw [slices_insertionSortOrdered_int] at hr
 refine shW_L (L' := s__L ++ []) (by simp) ?_
 refine wsr (om rfl rfl ?_)
 obtain ⟨g1, r2⟩ := gd_ok hr; clear hr
 refine ov (v_add rfl rfl g1) rfl ?_
 refine oa rfl rfl (shO_nil ?_)
 refine shW_block ?_
 obtain ⟨g5, r6⟩ := gd_ok r2; clear r2
 refine shW_lp (fun fu1 e1 F1 L1 => ∃ (i : Int), Ctr (a + 1) b i fu1 ∧ ∃ (data : List Int) (Lb3 : LH), slices_insertionSortOrdered_int_l1 a fu1 i data = some r ∧ F = F1 ∧ L1 = (Lb3 ++ []) ∧ e1.sub [(0, .slice s__a s__n s__c), (1, .int .i64 a), (2, .int .i64 b), (6, .int .i64 i)] ∧ SlR s__nb 3 1 (iE .i64) F1 s__a s__n s__c data Lb3) _ (m0 kr ⟨_, Ctr.start _ _, s_, s__L, r6, rfl, rfl, (sc rfl (sc rfl (sc rfl (sc rfl (sn _))))), h_s_⟩) ?_
 rintro fu1 e1 _ _ ⟨i, hk7, data, Lb3, r9, rfl, rfl, he10, hz4⟩
 refine shW_env _ he10 ?_; clear he10
 refine shW_seq (wsr (om rfl rfl (om rfl rfl ?_)))
 refine ov (v_lssK rfl rfl) rfl ?_
 refine shO_nil ?_
 refine shW_condP rfl (fun c12 => ?_) (fun c12 => ?_)
 · obtain ⟨fu1, rfl, hk13⟩ := Ctr.succ hk7 c12
   rw [slices_insertionSortOrdered_int_l1] at r9
   refine shW_skip ?_
   obtain ⟨data2, h16, r17⟩ := b1_ok r9; clear r9
   refine shW_join (fun e1 F1 L1 => ∃ (Lb14 : LH), F = F1 ∧ L1 = (Lb14 ++ []) ∧ e1.sub [(0, .slice s__a s__n s__c), (1, .int .i64 a), (2, .int .i64 b), (6, .int .i64 i)] ∧ SlR s__nb 3 1 (iE .i64) F1 s__a s__n s__c data2 Lb14) ?_ ?_
   · clear r17
     refine shW_block ?_
     refine wsr (om rfl rfl (oa rfl rfl (shO_nil ?_)))
     refine shW_block ?_
     refine shW_lp (fun fu2 e1 F1 L1 => ∃ (data3 : List Int) (j : Int) (Lb18 : LH), slices_insertionSortOrdered_int_l2 a fu2 data3 j = some data2 ∧ F = F1 ∧ L1 = (Lb18 ++ []) ∧ e1.sub [(0, .slice s__a s__n s__c), (1, .int .i64 a), (2, .int .i64 b), (6, .int .i64 i), (7, .int .i64 j)] ∧ SlR s__nb 3 1 (iE .i64) F1 s__a s__n s__c data3 Lb18) FU (m0 kr ⟨data, i, Lb3, h16, rfl, rfl, (sc rfl (sc rfl (sc rfl (sc rfl (sc rfl (sn _)))))), hz4⟩) ?_
     rintro fu2 e1 _ _ ⟨data3, j, Lb18, r22, rfl, rfl, he23, hz19⟩
     refine shW_env _ he23 ?_; clear he23
     rcases fu2 with _ | fu2
     · rw [slices_insertionSortOrdered_int_l2] at r22; cases r22
     rw [slices_insertionSortOrdered_int_l2] at r22
     refine shW_seq ?_
     obtain ⟨k, h24, r25⟩ := b1_ok r22; clear r22
     refine shW_join (fun e1 F1 L1 => F = F1 ∧ L1 = (Lb18 ++ []) ∧ e1.sub [(0, .slice s__a s__n s__c), (1, .int .i64 a), (2, .int .i64 b), (6, .int .i64 i), (7, .int .i64 j), (30, .bool k)]) ?_ ?_
     · clear r25
       refine shW_draw (by kernel_rfl) (by kernel_rfl) (by kernel_rfl) ?_
       refine qm rfl rfl (qm rfl rfl ?_)
       refine qv (v_gtrK rfl rfl) rfl ?_
       refine qm rfl rfl ?_
       by_cases c26 : a < j
       · have r27 := ite_t h24 c26; clear h24
         refine shQ_on (b := true) 19 rfl (Env.isT rfl c26) (qm rfl rfl (shQ_on (b := true) 19 rfl (Env.isT rfl c26) (qm rfl rfl (shQ_on (b := true) 19 rfl (Env.isT rfl c26) ?_))))
         obtain ⟨x, g28, hx29, r30⟩ := ix_ok r27; clear r27
         obtain ⟨b31, o32, c33, vs34, ha35, hs36, hle37, rfl, hl38, hc39⟩ := SlR.at (iE_ok _) hz19 (L := Lb18 ++ []) fP g28.1 hx29
         refine qv (v_indexO Tryz.underlying28 Tryz.sizeOf3 rfl ha35 rfl (SlR.idx hz19 g28)) rfl ?_
         refine shQ_on (b := true) 19 rfl (Env.isT rfl c26) ?_
         refine qv (v_load Tryz.isAgg3 rfl hs36 (hc39 0 (by decide))) rfl ?_
         refine shQ_on (b := true) 19 rfl (Env.isT rfl c26) (qm rfl rfl (shQ_on (b := true) 19 rfl (Env.isT rfl c26) (qm rfl rfl (shQ_on (b := true) 19 rfl (Env.isT rfl c26) ?_))))
         obtain ⟨g40, r41⟩ := gd_ok r30; clear r30
         refine qv (v_sub rfl rfl g40) rfl ?_
         refine shQ_on (b := true) 19 rfl (Env.isT rfl c26) ?_
         obtain ⟨x2, g42, hx43, r44⟩ := ix_ok r41; clear r41
         obtain ⟨b45, o46, c47, vs48, ha49, hs50, hle51, rfl, hl52, hc53⟩ := SlR.at (iE_ok _) hz19 (L := Lb18 ++ []) fP g42.1 hx43
         refine qv (v_indexO Tryz.underlying28 Tryz.sizeOf3 rfl ha49 rfl (SlR.idx hz19 g42)) rfl ?_
         refine shQ_on (b := true) 19 rfl (Env.isT rfl c26) ?_
         refine qv (v_load Tryz.isAgg3 rfl hs50 (hc53 0 (by decide))) rfl ?_
         refine shQ_on (b := true) 19 rfl (Env.isT rfl c26) ?_
         obtain ⟨ok, h54, r55⟩ := b1_ok r44; clear r44
         refine shQ_callV rfl Tryz.call74 rfl rfl rfl (cmp_Less_int_w h54) ?_
         refine qv (v_pick_t (evD_true rfl c26) rfl) rfl ?_
         refine shQ_nil ?_
         obtain rfl := inj1 r55
         exact mi kr ⟨rfl, rfl, (sc rfl (sc rfl (sc rfl (sc rfl (sc rfl (sc rfl (sn _)))))))⟩
       have r56 := ite_f h24 c26; clear h24
       refine shQ_off (b' := false) 19 rfl (Env.isF rfl c26) rfl rfl (shQ_off (b' := false) 19 rfl (Env.isF rfl c26) rfl rfl (shQ_off (b' := false) 19 rfl (Env.isF rfl c26) rfl rfl (shQ_off (b' := false) 19 rfl (Env.isF rfl c26) rfl rfl (shQ_off (b' := false) 19 rfl (Env.isF rfl c26) rfl rfl (shQ_off (b' := false) 19 rfl (Env.isF rfl c26) rfl rfl (shQ_off (b' := false) 19 rfl (Env.isF rfl c26) rfl rfl (shQ_off (b' := false) 19 rfl (Env.isF rfl c26) rfl rfl (shQ_off (b' := false) 19 rfl (Env.isF rfl c26) rfl rfl (shQ_off (b' := false) 19 rfl (Env.isF rfl c26) rfl rfl ?_)))))))))
       refine qv (v_pick_f (evD_false rfl c26) rfl) rfl ?_
       refine shQ_nil ?_
       obtain rfl := inj1 r56
       exact mi kr ⟨rfl, rfl, (sc rfl (sc rfl (sc rfl (sc rfl (sc rfl (sc rfl (sn _)))))))⟩
     rintro e1 _ _ ⟨rfl, rfl, he57⟩
     refine shW_env _ he57 ?_; clear he57
     refine shW_cond rfl (fun c58 => ?_) (fun c58 => ?_)
     · have r59 := bt r25 c58; clear r25
       refine shW_skip (shW_seq ?_)
       refine shW_block ?_
       refine shW_drawM [(.still, 0), (.still, 1), (.still, 2), (.still, 3), (.still, 4), (.still, 5), (.still, 6), (.still, 7), (.still, 8), (.still, 9), (.still, 10), (.still, 11), (.still, 12), (.still, 13), (.still, 14), (.seq, 15), (.still, 16), (.seq, 17)] (by kernel_rfl) (by kernel_rfl) (trivial) (by rfl) (by kernel_rfl) ?_
       refine shM_v (v := .slice s__a s__n s__c) (ek := [(0, .slice s__a s__n s__c)]) (Ls := []) rfl rfl rfl rfl ((sc rfl (sn _))) (by kernel_rfl) sm (fun H F' L' hF' hL' => v_move rfl) ?_
       refine shM_v (v := .int .i64 j) (ek := [(7, .int .i64 j)]) (Ls := []) rfl rfl rfl rfl ((sc rfl (sn _))) (by kernel_rfl) sm (fun H F' L' hF' hL' => v_move rfl) ?_
       refine shM_v (v := .slice s__a s__n s__c) (ek := [(0, .slice s__a s__n s__c)]) (Ls := []) rfl rfl rfl rfl ((sc rfl (sn _))) (by kernel_rfl) sm (fun H F' L' hF' hL' => v_move rfl) ?_
       refine shM_v (v := .int .i64 j) (ek := [(7, .int .i64 j)]) (Ls := []) rfl rfl rfl rfl ((sc rfl (sn _))) (by kernel_rfl) sm (fun H F' L' hF' hL' => v_move rfl) ?_
       obtain ⟨g60, r61⟩ := gd_ok r59; clear r59
       refine shM_v (v := .int .i64 (j - 1)) (ek := [(36, .int .i64 j)]) (Ls := []) rfl rfl rfl rfl ((sc rfl (sn _))) (by kernel_rfl) sm (fun H F' L' hF' hL' => v_sub rfl rfl g60) ?_
       refine shM_v (v := .slice s__a s__n s__c) (ek := [(0, .slice s__a s__n s__c)]) (Ls := []) rfl rfl rfl rfl ((sc rfl (sn _))) (by kernel_rfl) sm (fun H F' L' hF' hL' => v_move rfl) ?_
       refine shM_v (v := .int .i64 j) (ek := [(7, .int .i64 j)]) (Ls := []) rfl rfl rfl rfl ((sc rfl (sn _))) (by kernel_rfl) sm (fun H F' L' hF' hL' => v_move rfl) ?_
       obtain ⟨g62, r63⟩ := gd_ok r61; clear r61
       refine shM_v (v := .int .i64 (j - 1)) (ek := [(39, .int .i64 j)]) (Ls := []) rfl rfl rfl rfl ((sc rfl (sn _))) (by kernel_rfl) sm (fun H F' L' hF' hL' => v_sub rfl rfl g62) ?_
       obtain ⟨x3, g64, hx65, r66⟩ := ix_ok r63; clear r63
       obtain ⟨b67, o68, c69, vs70, ha71, hs72, hle73, rfl, hl74, hc75⟩ := SlR.at (iE_ok _) hz19 (L := Lb18 ++ []) fP g64.1 hx65
       refine shM_v (v := .pointer (some ⟨b67, o68 + (j - 1 : Int).toNat * 1, none⟩)) (ek := [(38, .slice s__a s__n s__c), (40, .int .i64 (j - 1))]) (Ls := []) rfl rfl rfl rfl ((sc rfl (sc rfl (sn _)))) (by kernel_rfl) sm (fun H F' L' hF' hL' => v_indexO Tryz.underlying28 Tryz.sizeOf3 rfl ha71 rfl (SlR.idx hz19 g64)) ?_
       refine shM_v (v := .int .i64 x3) (ek := [(41, .pointer (some ⟨b67, o68 + (j - 1 : Int).toNat * 1, none⟩))]) (Ls := Lb18 ++ []) rfl rfl rfl rfl ((sc rfl (sn _))) (by kernel_rfl) (s0 sr) (fun H F' L' hF' hL' => v_load Tryz.isAgg3 rfl (hs72.ext hF' hL') (hc75 0 (by decide))) ?_
       refine shM_v (v := .slice s__a s__n s__c) (ek := [(0, .slice s__a s__n s__c)]) (Ls := []) rfl rfl rfl rfl ((sc rfl (sn _))) (by kernel_rfl) sm (fun H F' L' hF' hL' => v_move rfl) ?_
       refine shM_v (v := .int .i64 j) (ek := [(7, .int .i64 j)]) (Ls := []) rfl rfl rfl rfl ((sc rfl (sn _))) (by kernel_rfl) sm (fun H F' L' hF' hL' => v_move rfl) ?_
       obtain ⟨x4, g76, hx77, r78⟩ := ix_ok r66; clear r66
       obtain ⟨b79, o80, c81, vs82, ha83, hs84, hle85, rfl, hl86, hc87⟩ := SlR.at (iE_ok _) hz19 (L := Lb18 ++ []) fP g76.1 hx77
       refine shM_v (v := .pointer (some ⟨b79, o80 + (j : Int).toNat * 1, none⟩)) (ek := [(43, .slice s__a s__n s__c), (44, .int .i64 j)]) (Ls := []) rfl rfl rfl rfl ((sc rfl (sc rfl (sn _)))) (by kernel_rfl) sm (fun H F' L' hF' hL' => v_indexO Tryz.underlying28 Tryz.sizeOf3 rfl ha83 rfl (SlR.idx hz19 g76)) ?_
       refine shM_v (v := .int .i64 x4) (ek := [(45, .pointer (some ⟨b79, o80 + (j : Int).toNat * 1, none⟩))]) (Ls := Lb18 ++ []) rfl rfl rfl rfl ((sc rfl (sn _))) (by kernel_rfl) (s0 sr) (fun H F' L' hF' hL' => v_load Tryz.isAgg3 rfl (hs84.ext hF' hL') (hc87 0 (by decide))) ?_
       obtain ⟨b88, o89, c90, vs91, ha92, hs93, hle94, rfl, hl95, hc96⟩ := SlR.at (iE_ok _) hz19 (L := Lb18 ++ []) fP g76.1 hx77
       refine shM_v (v := .pointer (some ⟨b88, o89 + (j : Int).toNat * 1, none⟩)) (ek := [(33, .slice s__a s__n s__c), (34, .int .i64 j)]) (Ls := []) rfl rfl rfl rfl ((sc rfl (sc rfl (sn _)))) (by kernel_rfl) sm (fun H F' L' hF' hL' => v_indexO Tryz.underlying28 Tryz.sizeOf3 rfl ha92 rfl (SlR.idx hz19 g76)) ?_
       refine ⟨_, [(42, .int .i64 x3), (47, .pointer (some ⟨b88, o89 + (j : Int).toNat * 1, none⟩))], rfl, rfl, (sc rfl (sc rfl (sn _))), by kernel_rfl, ?_⟩; intro H
       obtain ⟨l, h97, r98⟩ := bv_ok r78; clear r78
       refine o_storeZ (u := x3) Tryz.sizeOf3 (iE_ok _) rfl ha92 rfl rfl (fun _ => .h) hz19 h97 g76 ?_; intro Lb99 hz100
       refine shO_nil ⟨undef, rfl, FExt.refl _, [4, 3, 2], by kernel_rfl, .inl (.inr (fun d h => by cases h)), (List.forall_mem_cons.2 ⟨sm, (List.forall_mem_cons.2 ⟨sm, (List.forall_mem_cons.2 ⟨sm, (fun _ h => absurd h List.not_mem_nil)⟩)⟩)⟩), ?_⟩
       obtain ⟨x5, g101, hx102, r103⟩ := ix_ok r98; clear r98
       obtain ⟨b104, o105, c106, vs107, ha108, hs109, hle110, rfl, hl111, hc112⟩ := SlR.at (iE_ok _) hz100 (L := Lb99 ++ []) fP g101.1 hx102
       refine shM_v (v := .pointer (some ⟨b104, o105 + (j - 1 : Int).toNat * 1, none⟩)) (ek := [(35, .slice s__a s__n s__c), (37, .int .i64 (j - 1))]) (Ls := []) rfl rfl rfl rfl ((sc rfl (sc rfl (sn _)))) (by kernel_rfl) sm (fun H F' L' hF' hL' => v_indexO Tryz.underlying28 Tryz.sizeOf3 rfl ha108 rfl (SlR.idx hz100 g101)) ?_
       refine ⟨_, [(46, .int .i64 x4), (48, .pointer (some ⟨b104, o105 + (j - 1 : Int).toNat * 1, none⟩))], rfl, rfl, (sc rfl (sc rfl (sn _))), by kernel_rfl, ?_⟩; intro H
       obtain ⟨l2, h113, r114⟩ := bv_ok r103; clear r103
       refine o_storeZ (u := x4) Tryz.sizeOf3 (iE_ok _) rfl ha108 rfl rfl (fun _ => .h) hz100 h113 g101 ?_; intro Lb115 hz116
       refine shO_nil ⟨undef, rfl, FExt.refl _, [], by kernel_rfl, .inl (.inl rfl), (fun _ h => absurd h List.not_mem_nil), ?_⟩
       refine shM_nil ?_
       refine inBlock_n (id := 3) (shW_region (om rfl rfl ?_))
       obtain ⟨g117, r118⟩ := gd_ok r114; clear r114
       refine ov (v_sub rfl rfl g117) rfl ?_
       refine oa rfl rfl (shO_nil ?_)
       exact le kr ⟨l2, j - 1, Lb115, r118, rfl, rfl, (sc rfl (sc rfl (sc rfl (sc rfl (sc rfl (sn _)))))), hz116⟩
     have r119 := bf r25 c58; clear r25
     refine shW_exit (andThen_exit (andThen_exit ?_))
     refine inBlock_exit ?_
     refine inBlock_n (id := 1) ?_
     obtain rfl := inj1 r119
     exact mi kr ⟨Lb18, rfl, rfl, (sc rfl (sc rfl (sc rfl (sc rfl (sn _))))), hz19⟩
   rintro e1 _ _ ⟨Lb14, rfl, rfl, he120, hz15⟩
   refine shW_env _ he120 ?_; clear he120
   refine shW_region (om rfl rfl ?_)
   refine ov (v_add rfl rfl (Ctr.r64 hk7 c12 g5)) rfl ?_
   refine oa rfl rfl (shO_nil ?_)
   exact le kr ⟨_, hk13, data2, Lb14, r17, rfl, rfl, (sc rfl (sc rfl (sc rfl (sc rfl (sn _))))), hz15⟩
 obtain rfl := Ctr.zero hk7 c12
 rw [slices_insertionSortOrdered_int_l1] at r9
 refine shW_exit (andThen_exit (andThen_exit ?_))
 refine inBlock_exit ?_
 refine q_end0 (.inr rfl) Tryz.results117 ?_
 obtain rfl := inj1 r9
 exact ⟨_, rfl, rfl, hz4⟩
set_option maxHeartbeats 1000000 in
theorem math_bits_Len64_w {x : Int} {F : FS} {r : Int} (hr : math_bits_Len64 x = some r) :
    SpecV Tryz.prog 126 #[.int .u64 x] F (.int .i64 r) := by
 refine spec_of_shW (args := [.int .u64 x]) Tryz.func126 rfl Tryz.ntmps126 (Nat.le_of_ble_eq_true rfl) ?_
 intro K _ _; rw [math_bits_Len64] at hr
 refine wsr (oa rfl rfl (shO_nil ?_))
 obtain ⟨x2, n, h1, r2⟩ := b2_ok hr; clear hr
 refine shW_join (fun e1 F1 L1 => F = F1 ∧ L1 = [] ∧ e1.sub [(0, .int .u64 x2), (2, .int .i64 n)]) ?_ ?_
 · clear r2
   refine wsr (om rfl rfl ?_)
   refine ov (v_geqK rfl rfl) rfl ?_
   refine shO_nil ?_
   refine shW_condP rfl (fun c3 => ?_) (fun c3 => ?_)
   · have r4 := ite_t h1 c3; clear h1
     refine wsr (om rfl rfl ?_)
     refine ov (v_shr rfl rfl (by decide)) rfl ?_
     refine oa rfl rfl (shO_nil (shW_region (oa rfl rfl (shO_nil ?_))))
     obtain ⟨rfl, rfl⟩ := inj2 r4
     exact mi kr ⟨rfl, rfl, (sc rfl (sc rfl (sn _)))⟩
   have r5 := ite_f h1 c3; clear h1
   refine shW_skip ?_
   obtain ⟨rfl, rfl⟩ := inj2 r5
   exact mi kr ⟨rfl, rfl, (sc rfl (sc rfl (sn _)))⟩
 rintro e1 _ _ ⟨rfl, rfl, he6⟩
 refine shW_env _ he6 ?_; clear he6
 obtain ⟨x3, n2, h7, r8⟩ := b2_ok r2; clear r2
 refine shW_join (fun e1 F1 L1 => F = F1 ∧ L1 = [] ∧ e1.sub [(0, .int .u64 x3), (2, .int .i64 n2)]) ?_ ?_
 · clear r8
   refine wsr (om rfl rfl ?_)
   refine ov (v_geqK rfl rfl) rfl ?_
   refine shO_nil ?_
   refine shW_condP rfl (fun c9 => ?_) (fun c9 => ?_)
   · have r10 := ite_t h7 c9; clear h7
     refine wsr (om rfl rfl ?_)
     refine ov (v_shr rfl rfl (by decide)) rfl ?_
     refine oa rfl rfl (shO_nil (shW_region (om rfl rfl ?_)))
     obtain ⟨g11, r12⟩ := gd_ok r10; clear r10
     refine ov (v_add rfl rfl g11) rfl ?_
     refine oa rfl rfl (shO_nil ?_)
     obtain ⟨rfl, rfl⟩ := inj2 r12
     exact mi kr ⟨rfl, rfl, (sc rfl (sc rfl (sn _)))⟩
   have r13 := ite_f h7 c9; clear h7
   refine shW_skip ?_
   obtain ⟨rfl, rfl⟩ := inj2 r13
   exact mi kr ⟨rfl, rfl, (sc rfl (sc rfl (sn _)))⟩
 rintro e1 _ _ ⟨rfl, rfl, he14⟩
 refine shW_env _ he14 ?_; clear he14
 obtain ⟨x4, n3, h15, r16⟩ := b2_ok r8; clear r8
 refine shW_join (fun e1 F1 L1 => F = F1 ∧ L1 = [] ∧ e1.sub [(0, .int .u64 x4), (2, .int .i64 n3)]) ?_ ?_
 · clear r16
   refine wsr (om rfl rfl ?_)
   refine ov (v_geqK rfl rfl) rfl ?_
   refine shO_nil ?_
   refine shW_condP rfl (fun c17 => ?_) (fun c17 => ?_)
   · have r18 := ite_t h15 c17; clear h15
     refine wsr (om rfl rfl ?_)
     refine ov (v_shr rfl rfl (by decide)) rfl ?_
     refine oa rfl rfl (shO_nil (shW_region (om rfl rfl ?_)))
     obtain ⟨g19, r20⟩ := gd_ok r18; clear r18
     refine ov (v_add rfl rfl g19) rfl ?_
     refine oa rfl rfl (shO_nil ?_)
     obtain ⟨rfl, rfl⟩ := inj2 r20
     exact mi kr ⟨rfl, rfl, (sc rfl (sc rfl (sn _)))⟩
   have r21 := ite_f h15 c17; clear h15
   refine shW_skip ?_
   obtain ⟨rfl, rfl⟩ := inj2 r21
   exact mi kr ⟨rfl, rfl, (sc rfl (sc rfl (sn _)))⟩
 rintro e1 _ _ ⟨rfl, rfl, he22⟩
 refine shW_env _ he22 ?_; clear he22
 refine wsr (om rfl rfl (om rfl rfl ?_))
 refine ov (u_conv rfl Tryz.underlying159 Tryz.underlying5 rfl) rfl ?_
 obtain ⟨x5, g23, hx24, r25⟩ := ix_ok r16; clear r16
 refine ov (v_indexStr Tryz.underlying9 (congrArg (fun s => some (Value.string s)) strc_strt_0) rfl g23.1 hx24 (strr_strt_0 _ (List.mem_of_getElem? hx24))) rfl ?_
 obtain ⟨g26, r27⟩ := gd_ok r25; clear r25
 refine ov (i_conv Tryz.underlying5 Tryz.underlying3 rfl g26) rfl ?_
 obtain ⟨g28, r29⟩ := gd_ok r27; clear r27
 refine ov (v_add rfl rfl g28) rfl ?_
 refine oa rfl rfl (shO_nil (shW_ret ?_))
 refine q_res1 Tryz.results126 (res_tmp rfl) (sr) ?_
 obtain rfl := inj1 r29
 exact rfl
set_option maxHeartbeats 1000000 in
theorem math_bits_Len_w {x : Int} {F : FS} {r : Int} (hr : math_bits_Len x = some r) :
    SpecV Tryz.prog 98 #[.int .u64 x] F (.int .i64 r) := by
 refine spec_of_shW (args := [.int .u64 x]) Tryz.func98 rfl Tryz.ntmps98 (Nat.le_of_ble_eq_true rfl) ?_
 intro K _ _; rw [math_bits_Len] at hr
 refine wsr (oa rfl rfl (shO_nil (shW_seq ?_)))
 refine shW_cond rfl (fun c1 => nomatch c1) (fun c1 => ?_)
 refine shW_skip (wsr (om rfl rfl ?_))
 obtain ⟨n, h2, r3⟩ := b1_ok hr; clear hr
 refine o_callV rfl Tryz.call126 rfl rfl rfl (math_bits_Len64_w h2) ?_
 refine oa rfl rfl (shO_nil (shW_ret ?_))
 refine q_res1 Tryz.results98 (res_tmp rfl) (sr) ?_
 obtain rfl := inj1 r3
 exact rfl
set_option maxHeartbeats 1000000 in
theorem slices_pdqsortOrdered_intB_w {rec_ : (List Int) → Int → Int → Int → Option ((List Int))} (_hrec : ∀ {s__a : Option Addr} {s__n : Nat} {s__c : Nat} {s__L : LH} {s_ : List Int} {s__nb : Nat} {a : Int} {b : Int} {limit : Int} {F : FS} (_ : SlR s__nb 3 1 (iE .i64) F s__a s__n s__c s_ s__L) {r : List Int} , rec_ s_ a b limit = some r → SH.Spec Tryz.prog 97 #[.slice s__a s__n s__c, .int .i64 a, .int .i64 b, .int .i64 limit] F (s__L ++ []) fun F' L' v => ∃ (rL : LH), v = .tuple #[] ∧ L' = rL ++ [] ∧ SlR s__nb 3 1 (iE .i64) F' s__a s__n s__c r rL) {s__a : Option Addr} {s__n : Nat} {s__c : Nat} {s__L : LH} {s_ : List Int} {s__nb : Nat} {a : Int} {b : Int} {limit : Int} {F : FS} (h_s_ : SlR s__nb 3 1 (iE .i64) F s__a s__n s__c s_ s__L) {r : List Int} (hr : slices_pdqsortOrdered_intB rec_ s_ a b limit = some r) :
    SH.Spec Tryz.prog 97 #[.slice s__a s__n s__c, .int .i64 a, .int .i64 b, .int .i64 limit] F (s__L ++ []) fun F' L' v => ∃ (rL : LH), v = .tuple #[] ∧ L' = rL ++ [] ∧ SlR s__nb 3 1 (iE .i64) F' s__a s__n s__c r rL := by
 refine spec_of_shW (args := [.slice s__a s__n s__c, .int .i64 a, .int .i64 b, .int .i64 limit]) Tryz.func97 rfl Tryz.ntmps97 (Nat.le_of_ble_eq_true rfl) ?_
 intro K _ _; rw [slices_pdqsortOrdered_intB] at hr
 refine shW_L (L' := s__L ++ []) (by simp) ?_
 refine wsr (oa rfl rfl (nsr (oa rfl rfl (shO_nil ?_))))
 refine shW_block ?_
 refine shW_lp (fun fu1 e1 F1 L1 => slices_pdqsortOrdered_intB_l1 s_ a b fu1 = some r ∧ F = F1 ∧ L1 = (s__L ++ []) ∧ e1.sub [(0, .slice s__a s__n s__c), (1, .int .i64 a), (2, .int .i64 b), (3, .int .i64 limit), (8, .bool true), (9, .bool true)]) FU (m0 kr ⟨hr, rfl, rfl, (sc rfl (sc rfl (sc rfl (sc rfl (sc rfl (sc rfl (sn _)))))))⟩) ?_
 rintro fu1 e1 _ _ ⟨r3, rfl, rfl, he4⟩
 refine shW_env _ he4 ?_; clear he4
 rcases fu1 with _ | fu1
 · rw [slices_pdqsortOrdered_intB_l1] at r3; cases r3
 rw [slices_pdqsortOrdered_intB_l1] at r3
 refine shW_block ?_
 refine wsr (om rfl rfl (om rfl rfl ?_))
 obtain ⟨g5, r6⟩ := gd_ok r3; clear r3
 refine ov (v_sub rfl rfl g5) rfl ?_
 refine oa rfl rfl (shO_nil (shW_seq (wsr (om rfl rfl ?_))))
 refine ov (v_leqK rfl rfl) rfl ?_
 refine shO_nil ?_
 obtain ⟨g8, r9⟩ := gd_ok r6; clear r6
 refine shW_condP rfl (fun c7 => ?_) (fun c7 => absurd g8 c7)
 refine wsr (om rfl rfl (om rfl rfl (om rfl rfl ?_)))
 obtain ⟨s_2, h10, r11⟩ := b1_ok r9; clear r9
 refine o_callG (Lb := s__L ++ []) (Lr := []) rfl Tryz.call117 rfl rfl rfl (pT pR (lp (ln rfl))) (slices_insertionSortOrdered_int_w h_s_ h10) ?_; rintro _ F12 _ hF13 hd15 hn14 ⟨Lb16, rfl, rfl, hz17⟩
 refine shO_L (lp (ln rfl)) ?_
 refine shO_nil (shW_ret (andThen_ret (inBlock_ret (andThen_ret (inBlock_ret ?_)))))
 refine q_end0 (.inl rfl) Tryz.results97 ?_
 obtain rfl := inj1 r11
 exact ⟨_, rfl, rfl, hz17⟩
set_option maxHeartbeats 1000000 in
theorem slices_pdqsortOrdered_int_w : ∀ (fu : Nat) {s__a : Option Addr} {s__n : Nat} {s__c : Nat} {s__L : LH} {s_ : List Int} {s__nb : Nat} {a : Int} {b : Int} {limit : Int} {F : FS} (_ : SlR s__nb 3 1 (iE .i64) F s__a s__n s__c s_ s__L) {r : List Int} , slices_pdqsortOrdered_int fu s_ a b limit = some r → SH.Spec Tryz.prog 97 #[.slice s__a s__n s__c, .int .i64 a, .int .i64 b, .int .i64 limit] F (s__L ++ []) fun F' L' v => ∃ (rL : LH), v = .tuple #[] ∧ L' = rL ++ [] ∧ SlR s__nb 3 1 (iE .i64) F' s__a s__n s__c r rL := by
  intro fu
  induction fu with
  | zero => intros; rename_i hr; rw [slices_pdqsortOrdered_int] at hr; cases hr
  | succ fu ih => intros; rename_i hr; rw [slices_pdqsortOrdered_int] at hr; exact slices_pdqsortOrdered_intB_w ih (by assumption) hr
set_option maxHeartbeats 1000000 in
theorem slices_Sort_int_int_w {s__a : Option Addr} {s__n : Nat} {s__c : Nat} {s__L : LH} {s_ : List Int} {s__nb : Nat} {F : FS} (h_s_ : SlR s__nb 3 1 (iE .i64) F s__a s__n s__c s_ s__L) {r : List Int} (hr : slices_Sort_int_int s_ = some r) :
    SH.Spec Tryz.prog 53 #[.slice s__a s__n s__c] F (s__L ++ []) fun F' L' v => ∃ (rL : LH), v = .tuple #[] ∧ L' = rL ++ [] ∧ SlR s__nb 3 1 (iE .i64) F' s__a s__n s__c r rL := by
 refine spec_of_shW (args := [.slice s__a s__n s__c]) Tryz.func53 rfl Tryz.ntmps53 (Nat.le_of_ble_eq_true rfl) ?_
 intro K _ _; rw [slices_Sort_int_int] at hr
 refine shW_L (L' := s__L ++ []) (by simp) ?_
 refine wsr (om rfl rfl ?_)
 refine ov ((v_lenS Tryz.underlying28 rfl).i (SlR.lenI h_s_)) rfl ?_
 refine oa rfl rfl (shO_nil (shW_region (om rfl rfl (om rfl rfl (om rfl rfl ?_)))))
 refine ov (u_conv rfl Tryz.underlying3 Tryz.underlying122 rfl) rfl ?_
 obtain ⟨n, h1, r2⟩ := b1_ok hr; clear hr
 refine o_callV rfl Tryz.call98 rfl rfl rfl (math_bits_Len_w h1) ?_
 obtain ⟨s_2, h3, r4⟩ := b1_ok r2; clear r2
 refine o_callG (Lb := s__L ++ []) (Lr := []) rfl Tryz.call97 rfl rfl rfl (pT pR (lp (ln rfl))) ((slices_pdqsortOrdered_int_w FU) h_s_ h3) ?_; rintro _ F5 _ hF6 hd8 hn7 ⟨Lb9, rfl, rfl, hz10⟩
 refine shO_L (lp (ln rfl)) ?_
 refine shO_nil ?_
 refine q_end0 (.inr rfl) Tryz.results53 ?_
 obtain rfl := inj1 r4
 exact ⟨_, rfl, rfl, hz10⟩
set_option maxHeartbeats 1000000 in
theorem slices_Compact_int_int_w {s__a : Option Addr} {s__n : Nat} {s__c : Nat} {s__L : LH} {s_ : List Int} {s__nb : Nat} {F : FS} (h_s_ : SlR s__nb 3 1 (iE .i64) F s__a s__n s__c s_ s__L) {r : List Int} (hr : slices_Compact_int_int s_ = some r) :
    SH.Spec Tryz.prog 54 #[.slice s__a s__n s__c] F (s__L ++ []) fun F' L' v => ∃ (ra : Option Addr) (rn : Nat) (rc : Nat) (rL : LH), v = .slice ra rn rc ∧ L' = rL ++ [] ∧ SlR s__nb 3 1 (iE .i64) F' ra rn rc r rL := by
 refine spec_of_shW (args := [.slice s__a s__n s__c]) Tryz.func54 rfl Tryz.ntmps54 (Nat.le_of_ble_eq_true rfl) ?_
 intro K _ _; rw [slices_Compact_int_int] at hr
 refine shW_L (L' := s__L ++ []) (by simp) ?_
 refine wsr (oa rfl rfl (shO_nil (shW_seq (wsr (om rfl rfl ?_)))))
 refine ov ((v_lenS Tryz.underlying28 rfl).i (SlR.lenI h_s_)) rfl ?_
 refine ov (v_lssK rfl rfl) rfl ?_
 refine shO_nil ?_
 refine shW_condP rfl (fun c1 => ?_) (fun c1 => ?_)
 · have r2 := ite_t hr c1; clear hr
   refine wsr (om rfl rfl (oa rfl rfl (shO_nil (shW_ret (andThen_ret ?_)))))
   refine q_res1 Tryz.results54 (res_tmp rfl) (sr) ?_
   obtain rfl := inj1 r2
   exact ⟨_, _, _, _, rfl, rfl, h_s_⟩
 have r3 := ite_f hr c1; clear hr
 refine shW_skip ?_
 refine shW_join (fun e1 F1 L1 => slices_Compact_int_int_j1 s_ = some r ∧ F = F1 ∧ L1 = (s__L ++ []) ∧ e1.sub [(0, .slice s__a s__n s__c)]) ?_ ?_
 · refine wsr (oa rfl rfl (shO_nil ?_))
   refine shW_block ?_
   obtain ⟨g4, r5⟩ := gd_ok r3; clear r3
   refine shW_lp (fun fu2 e1 F1 L1 => ∃ (k : Int), Ctr 1 (s_.length : Int) k fu2 ∧ slices_Compact_int_int_l2 s_ fu2 k = some r ∧ F = F1 ∧ L1 = (s__L ++ []) ∧ e1.sub [(0, .slice s__a s__n s__c), (3, .int .i64 k)]) _ (m0 kr ⟨_, Ctr.start _ _, r5, rfl, rfl, (sc rfl (sc rfl (sn _)))⟩) ?_
   rintro fu2 e1 _ _ ⟨k, hk6, r8, rfl, rfl, he9⟩
   refine shW_env _ he9 ?_; clear he9
   refine shW_seq (wsr (om rfl rfl (om rfl rfl ?_)))
   refine ov ((v_lenS Tryz.underlying28 rfl).i (SlR.lenI h_s_)) rfl ?_
   refine ov (v_lssK rfl rfl) rfl ?_
   refine shO_nil ?_
   refine shW_condP rfl (fun c11 => ?_) (fun c11 => ?_)
   · obtain ⟨fu2, rfl, hk12⟩ := Ctr.succ hk6 c11
     rw [slices_Compact_int_int_l2] at r8
     refine shW_skip ?_
     refine shW_join (fun e1 F1 L1 => slices_Compact_int_int_j3 k (slices_Compact_int_int_l2 s_ fu2) = some r ∧ F = F1 ∧ L1 = (s__L ++ []) ∧ e1.sub [(0, .slice s__a s__n s__c), (3, .int .i64 k)]) ?_ ?_
     · refine shW_block ?_
       refine wsd (by kernel_rfl) (by kernel_rfl) (by kernel_rfl) ?_
       refine qm rfl rfl (qm rfl rfl ?_)
       obtain ⟨x, g13, hx14, r15⟩ := ix_ok r8; clear r8
       obtain ⟨b16, o17, c18, vs19, ha20, hs21, hle22, rfl, hl23, hc24⟩ := SlR.at (iE_ok _) h_s_ (L := s__L ++ []) fP g13.1 hx14
       refine qv (v_indexO Tryz.underlying28 Tryz.sizeOf3 rfl ha20 rfl (SlR.idx h_s_ g13)) rfl ?_
       refine qv (v_load Tryz.isAgg3 rfl hs21 (hc24 0 (by decide))) rfl ?_
       refine qm rfl rfl (qm rfl rfl ?_)
       obtain ⟨g25, r26⟩ := gd_ok r15; clear r15
       refine qv (v_sub rfl rfl g25) rfl ?_
       obtain ⟨x2, g27, hx28, r29⟩ := ix_ok r26; clear r26
       obtain ⟨b30, o31, c32, vs33, ha34, hs35, hle36, rfl, hl37, hc38⟩ := SlR.at (iE_ok _) h_s_ (L := s__L ++ []) fP g27.1 hx28
       refine qv (v_indexO Tryz.underlying28 Tryz.sizeOf3 rfl ha34 rfl (SlR.idx h_s_ g27)) rfl ?_
       refine qv (v_load Tryz.isAgg3 rfl hs35 (hc38 0 (by decide))) rfl ?_
       refine qv (v_eql rfl rfl) rfl ?_
       refine shQ_nil ?_
       refine shW_condP rfl (fun c39 => ?_) (fun c39 => ?_)
       · have r40 := ite_t r29 c39; clear r29
         refine wsr (om rfl rfl (om rfl rfl ?_))
         obtain ⟨g41, r42⟩ := gd_ok r40; clear r40
         have gv43 := SlR.gV h_s_ g41
         refine ov (OpV.eq (v' := .slice (vwA s__a s__c (Int.toNat k) 1) (s__n - Int.toNat k) (s__c - Int.toNat k)) (v_slice (l := k) (h := (s__n : Nat)) Tryz.underlying28 Tryz.sizeOf3 rfl (.inr ⟨_, rfl, rfl⟩) (.inl ⟨rfl, rfl⟩) (SlR.capV h_s_ gv43)) rfl) rfl ?_
         refine oa rfl rfl (shO_nil ?_)
         obtain ⟨s_2, k2, h46, r47⟩ := b2_ok r42; clear r42
         refine shW_join (fun e1 F1 L1 => ∃ (Lb44 : LH), F = F1 ∧ L1 = (Lb44 ++ []) ∧ e1.sub [(0, .slice s__a s__n s__c), (3, .int .i64 k2)] ∧ SlR s__nb 3 1 (iE .i64) F1 s__a s__n s__c s_2 Lb44) ?_ ?_
         · clear r47
           refine wsr (oa rfl rfl (shO_nil ?_))
           refine shW_block ?_
           refine shW_lp (fun fu4 e1 F1 L1 => ∃ (s_3 : List Int) (k3 : Int) (k2_2 : Int) (Lb48 : LH), slices_Compact_int_int_l4 k fu4 s_3 k3 k2_2 = some (s_2, k2) ∧ F = F1 ∧ L1 = (Lb48 ++ []) ∧ e1.sub [(0, .slice s__a s__n s__c), (3, .int .i64 k3), (4, .slice (vwA s__a s__c (Int.toNat k) 1) (s__n - Int.toNat k) (s__c - Int.toNat k)), (5, .int .i64 k2_2)] ∧ SlR s__nb 3 1 (iE .i64) F1 s__a s__n s__c s_3 Lb48) FU (m0 kr ⟨s_, k, 1, s__L, h46, rfl, rfl, (sc rfl (sc rfl (sc rfl (sc rfl (sn _))))), h_s_⟩) ?_
           rintro fu4 e1 _ _ ⟨s_3, k3, k2_2, Lb48, r52, rfl, rfl, he53, hz49⟩
           refine shW_env _ he53 ?_; clear he53
           rcases fu4 with _ | fu4
           · rw [slices_Compact_int_int_l4] at r52; cases r52
           rw [slices_Compact_int_int_l4] at r52
           refine shW_seq (wsr (om rfl rfl (om rfl rfl ?_)))
           refine ov ((v_lenS Tryz.underlying28 rfl).i (SlR.lenV hz49).symm) rfl ?_
           refine ov (v_lssK rfl rfl) rfl ?_
           refine shO_nil ?_
           refine shW_condP rfl (fun c54 => ?_) (fun c54 => ?_)
           · have r55 := ite_t r52 c54; clear r52
             refine shW_skip (shW_seq ?_)
             refine shW_block ?_
             refine wsd (by kernel_rfl) (by kernel_rfl) (by kernel_rfl) ?_
             refine qm rfl rfl (qm rfl rfl ?_)
             obtain ⟨x3, g56, hx57, r58⟩ := ix_ok r55; clear r55
             obtain ⟨b59, o60, c61, vs62, ha63, hs64, hle65, rfl, hl66, hc67⟩ := SlR.atV (iE_ok _) hz49 (L := Lb48 ++ []) fP gv43 g56.1 hx57
             refine qv (v_indexO Tryz.underlying28 Tryz.sizeOf3 rfl ha63 rfl (SlR.idxV hz49 g56)) rfl ?_
             refine qv (v_load Tryz.isAgg3 rfl hs64 (hc67 0 (by decide))) rfl ?_
             refine qm rfl rfl (qm rfl rfl ?_)
             obtain ⟨g68, r69⟩ := gd_ok r58; clear r58
             refine qv (v_sub rfl rfl g68) rfl ?_
             obtain ⟨x4, g70, hx71, r72⟩ := ix_ok r69; clear r69
             obtain ⟨b73, o74, c75, vs76, ha77, hs78, hle79, rfl, hl80, hc81⟩ := SlR.atV (iE_ok _) hz49 (L := Lb48 ++ []) fP gv43 g70.1 hx71
             refine qv (v_indexO Tryz.underlying28 Tryz.sizeOf3 rfl ha77 rfl (SlR.idxV hz49 g70)) rfl ?_
             refine qv (v_load Tryz.isAgg3 rfl hs78 (hc81 0 (by decide))) rfl ?_
             refine qv (v_neq rfl rfl) rfl ?_
             refine shQ_nil ?_
             refine shW_condP rfl (fun c82 => ?_) (fun c82 => ?_)
             · have r83 := ite_t r72 c82; clear r72
               refine wsr (om rfl rfl (om rfl rfl (om rfl rfl (om rfl rfl ?_))))
               obtain ⟨b84, o85, c86, vs87, ha88, hs89, hle90, rfl, hl91, hc92⟩ := SlR.atV (iE_ok _) hz49 (L := Lb48 ++ []) fP gv43 g56.1 hx57
               refine ov (v_indexO Tryz.underlying28 Tryz.sizeOf3 rfl ha88 rfl (SlR.idxV hz49 g56)) rfl ?_
               refine ov (v_load Tryz.isAgg3 rfl hs89 (hc92 0 (by decide))) rfl ?_
               obtain ⟨x5, g93, hx94, r95⟩ := ix_ok r83; clear r83
               obtain ⟨b96, o97, c98, vs99, ha100, hs101, hle102, rfl, hl103, hc104⟩ := SlR.at (iE_ok _) hz49 (L := Lb48 ++ []) fP g93.1 hx94
               refine ov (v_indexO Tryz.underlying28 Tryz.sizeOf3 rfl ha100 rfl (SlR.idx hz49 g93)) rfl ?_
               obtain ⟨s_4, h105, r106⟩ := bv_ok r95; clear r95
               refine o_storeZ (u := x3) Tryz.sizeOf3 (iE_ok _) rfl ha100 rfl rfl (fun _ => .h) hz49 h105 g93 ?_; intro Lb107 hz108
               refine shO_nil (shW_region (om rfl rfl ?_))
               obtain ⟨g109, r110⟩ := gd_ok r106; clear r106
               refine ov (v_add rfl rfl g109) rfl ?_
               refine oa rfl rfl (shO_nil (inBlock_n (id := 3) (shW_region (om rfl rfl ?_))))
               obtain ⟨g111, r112⟩ := gd_ok r110; clear r110
               refine ov (v_add rfl rfl g111) rfl ?_
               refine oa rfl rfl (shO_nil ?_)
               exact le kr ⟨s_4, k3 + 1, k2_2 + 1, Lb107, r112, rfl, rfl, (sc rfl (sc rfl (sc rfl (sc rfl (sn _))))), hz108⟩
             have r113 := ite_f r72 c82; clear r72
             refine shW_skip (inBlock_n (id := 3) (shW_region (om rfl rfl ?_)))
             obtain ⟨g114, r115⟩ := gd_ok r113; clear r113
             refine ov (v_add rfl rfl g114) rfl ?_
             refine oa rfl rfl (shO_nil ?_)
             exact le kr ⟨s_3, k3, k2_2 + 1, Lb48, r115, rfl, rfl, (sc rfl (sc rfl (sc rfl (sc rfl (sn _))))), hz49⟩
           have r116 := ite_f r52 c54; clear r52
           refine shW_exit (andThen_exit (andThen_exit ?_))
           refine inBlock_exit ?_
           obtain ⟨rfl, rfl⟩ := inj2 r116
           exact mi kr ⟨Lb48, rfl, rfl, (sc rfl (sc rfl (sn _))), hz49⟩
         rintro e1 _ _ ⟨Lb44, rfl, rfl, he117, hz45⟩
         refine shW_env _ he117 ?_; clear he117
         refine wsr (om rfl rfl (om rfl rfl ?_))
         obtain ⟨g118, r119⟩ := gd_ok r47; clear r47
         have gv120 := SlR.gV hz45 g118
         refine ov (OpV.eq (v' := .slice (vwA s__a s__c (Int.toNat k2) 1) (s__n - Int.toNat k2) (s__c - Int.toNat k2)) (v_slice (l := k2) (h := (s__n : Nat)) Tryz.underlying28 Tryz.sizeOf3 rfl (.inr ⟨_, rfl, rfl⟩) (.inl ⟨rfl, rfl⟩) (SlR.capV hz45 gv120)) rfl) rfl ?_
         obtain ⟨s_5, h121, r122⟩ := bv_ok r119; clear r119
         refine o_clearV (z0 := 0) (zs := s_5) (l := k2) rfl slt_28 (by decide) (iE_ok _) (fun _ => rfl) rfl (fun _ => .h) hz45 gv120 h121 ?_; intro Lb123 hz124
         refine nsr (om rfl rfl (om rfl rfl ?_))
         obtain ⟨g125, r126⟩ := gd_ok r122; clear r122
         obtain ⟨s_6, h127, r128⟩ := bv_ok r126; clear r126
         refine o_sliceZ (l := 0) (h := k2) (zs := s_6) rfl slt_28 (iE_ok _) rfl (.inl ⟨rfl, rfl⟩) (.inr ⟨_, rfl, rfl⟩) (fun _ => .h) hz124 g125 h127 ?_; intro a129 n132 c130 Lb133 h131
         refine oa rfl rfl (shO_nil (shW_ret (inBlock_ret (andThen_ret (andThen_ret (inBlock_ret (andThen_ret ?_)))))))
         refine q_res1 Tryz.results54 (res_tmp rfl) (sr) ?_
         obtain rfl := inj1 r128
         exact ⟨_, _, _, _, rfl, rfl, h131⟩
       have r135 := ite_f r29 c39; clear r29
       refine shW_skip (inBlock_n (id := 1) ?_)
       exact mi kr ⟨r135, rfl, rfl, (sc rfl (sc rfl (sn _)))⟩
     rintro e1 _ _ ⟨r136, rfl, rfl, he137⟩
     refine shW_env _ he137 ?_; clear he137
     rw [slices_Compact_int_int_j3] at r136
     refine shW_region (om rfl rfl ?_)
     refine ov (v_add rfl rfl (Ctr.r64 hk6 c11 g4)) rfl ?_
     refine oa rfl rfl (shO_nil ?_)
     exact le kr ⟨_, hk12, r136, rfl, rfl, (sc rfl (sc rfl (sn _)))⟩
   obtain rfl := Ctr.zero hk6 c11
   rw [slices_Compact_int_int_l2] at r8
   refine shW_exit (andThen_exit (andThen_exit ?_))
   refine inBlock_exit ?_
   exact mi kr ⟨r8, rfl, rfl, (sc rfl (sn _))⟩
 rintro e1 _ _ ⟨r138, rfl, rfl, he139⟩
 refine shW_env _ he139 ?_; clear he139
 rw [slices_Compact_int_int_j1] at r138
 refine wsr (om rfl rfl (oa rfl rfl (shO_nil (shW_ret ?_))))
 refine q_res1 Tryz.results54 (res_tmp rfl) (sr) ?_
 obtain rfl := inj1 r138
 exact ⟨_, _, _, _, rfl, rfl, h_s_⟩
set_option maxHeartbeats 1000000 in
theorem hear_Must_w {wide : Int} {plots_a : Option Addr} {plots_c : Nat} {plots : List Int} {wind : Int} {voice : Int} {houses_a : Option Addr} {houses_c : Nat} {houses : List Int} {F : FS} (h_plots : RowR 1 (iE .i64) F plots_a plots_c plots) (h_houses : RowR 1 (iE .i64) F houses_a houses_c houses) {r : List Int} {r2 : Int} (hr : hear_Must wide plots wind voice houses = some (r, r2)) :
    SH.Spec Tryz.prog 13 #[.agg #[.int .i64 wide, .slice plots_a plots.length plots_c], .agg #[.int .i64 wind, .int .i64 voice], .slice houses_a houses.length houses_c] F [] fun F' L' v => ∃ (ra : Option Addr) (rn : Nat) (rc : Nat) (rL : LH), v = .tuple #[.slice ra rn rc, .int .i64 r2] ∧ L' = rL ++ [] ∧ SlR 0 3 1 (iE .i64) F' ra rn rc r rL := by
 refine spec_of_shW (args := [.agg #[.int .i64 wide, .slice plots_a plots.length plots_c], .agg #[.int .i64 wind, .int .i64 voice], .slice houses_a houses.length houses_c]) Tryz.func13 rfl Tryz.ntmps13 (Nat.le_of_ble_eq_true rfl) ?_
 intro K _ _; rw [hear_Must] at hr
 refine wsr ?_
 refine o_box rfl rfl ?_; intro b1 hb1
 refine o_box rfl rfl ?_; intro b2 hb2
 refine oa rfl rfl (oa rfl rfl (nsr ?_))
 refine ov (v_loadA (cs := #[.int .i64 wide, .slice plots_a plots.length plots_c]) Tryz.isAgg24 Tryz.sizeOf24 rfl (Has.own 1 rfl) (Nat.le_of_ble_eq_true rfl) rfl) rfl ?_
 refine ov (v_loadA (cs := #[.int .i64 wind, .int .i64 voice]) Tryz.isAgg27 Tryz.sizeOf27 rfl (Has.own 0 rfl) (Nat.le_of_ble_eq_true rfl) rfl) rfl ?_
 refine om rfl rfl ?_
 obtain ⟨l, y, n, h3, r4⟩ := b3_ok hr; clear hr
 refine o_call0 rfl Tryz.call40 rfl rfl rfl (hear_asked_w h_plots h_houses h3) ?_; rintro _ F5 _ hF6 hn7 ⟨a9, n13, c10, Lb11, v15, rfl, rfl, hz12, hp16⟩
 replace hz12 := hz12.new fun p hp => hn7 p (by simp [hp])
 refine shO_L (lp (ln rfl)) ?_
 refine kO (kf (fS fO) (kf (fS fO) kr)) ?_
 refine om rfl rfl (ox rfl rfl rfl (ox rfl rfl rfl ?_))
 refine o_alloc rfl Tryz.zeroValue75 ?_; intro b17 hb17
 refine o_storeA (i := 0) Tryz.sizeOf75 rfl rfl rfl (List.forall_mem_cons.2 ⟨rfl, (List.forall_mem_cons.2 ⟨hp16.1, (fun _ h => absurd h List.not_mem_nil)⟩)⟩) rfl (Nat.le_of_ble_eq_true rfl) ?_
 refine shO_L (L' := (b17, .cells #[.slice a9 n13 c10, v15] 75 (0, 0)) :: ((b2, .cells #[.int .i64 wind, .int .i64 voice] 27 (0, 0)) :: ((b1, .cells #[.int .i64 wide, .slice plots_a plots.length plots_c] 24 (0, 0)) :: (Lb11 ++ [])))) rfl ?_
 refine oa rfl rfl (shO_nil (shW_seq ?_))
 refine shW_block ?_
 refine wsr (om rfl rfl ?_)
 refine ov (v_neq rfl rfl) rfl ?_
 refine oa rfl rfl (shO_nil ?_)
 refine shW_condP rfl (fun c18 => ?_) (fun c18 => ?_)
 · have r19 := ite_t r4 c18; clear r4
   refine wsr (om rfl rfl (oa rfl rfl (oa rfl rfl (shO_nil ?_))))
   refine kW kn ?_
   refine shW_ret (inBlock_ret (andThen_ret ?_))
   refine q_res2 Tryz.results13 (res_tmp rfl) (res_tmp rfl) (sr) ?_
   obtain ⟨rfl, rfl⟩ := inj2 r19
   exact ⟨_, _, _, [], rfl, rfl, SlR.nil _ _ _ _ _⟩
 have r20 := ite_f r4 c18; clear r4
 refine wsr ?_
 refine ov (v_loadA (cs := #[.slice a9 n13 c10, v15]) Tryz.isAgg75 Tryz.sizeOf75 rfl (Has.own 0 rfl) (Nat.le_of_ble_eq_true rfl) rfl) rfl ?_
 obtain ⟨g21, r22⟩ := gd_ok r20; clear r20
 obtain rfl := hp16.2 g21
 have hn23 : FnR Tryz.prog F5 88 #[] #[] (iE .i64) (Value.int .i64) (fun xx_ : Int => hear_ones xx_) := ⟨Tryz.call88, fun F2 h2 vs xx_ r ha hr => by obtain rfl := ha; exact hear_ones_w hr⟩
 obtain ⟨ok, h24, r25⟩ := b1_ok r22; clear r22
 refine o_callT (Lt := Lb11 ++ []) (Lr := [(b17, .cells (#[.slice a9 n13 c10, .func (.func 88) #[] #[]]) 75 (0, 0)), (b2, .cells #[.int .i64 wind, .int .i64 voice] 27 (0, 0)), (b1, .cells #[.int .i64 wide, .slice plots_a plots.length plots_c] 24 (0, 0))]) rfl Tryz.call41 rfl rfl rfl (pT ((fC (fC (fC fP))).trans (pA pR)) (lp (ln rfl))) (fun F2 h2 h3 => by rw [(SlR.caps hz12).1]; exact hear_quarter_deaf_w (hz12.row (arE_ok (n := 30) (sz := 1) cB_ok) h2 (fun p hp => h3 p (List.mem_append_left _ hp))) (hn23.mono h2) h24) ?_
 refine oa rfl rfl (shO_nil ?_)
 refine shW_cond rfl (fun c26 => ?_) (fun c26 => ?_)
 · have r27 := bt r25 c26; clear r25
   refine wsr (oa rfl rfl (oa rfl rfl (shO_nil ?_)))
   refine kW kn ?_
   refine shW_ret (inBlock_ret (andThen_ret ?_))
   refine q_res2 Tryz.results13 (res_tmp rfl) (res_tmp rfl) (sr) ?_
   obtain ⟨rfl, rfl⟩ := inj2 r27
   exact ⟨_, _, _, [], rfl, rfl, SlR.nil _ _ _ _ _⟩
 have r28 := bf r25 c26; clear r25
 refine shW_skip (inBlock_n (id := 0) (wsr (oa rfl rfl (shO_nil ?_))))
 obtain ⟨out, h35, r36⟩ := b1_ok r28; clear r28
 refine shW_join (fun e1 F1 L1 => ∃ (a29 : Option Addr) (n33 : Nat) (c30 : Nat) (Lb31 : LH), FExt F5 F1 ∧ L1 = (Lb31 ++ []) ∧ e1.sub [(10, .slice a29 n33 c30)] ∧ SlR K.w0.heap.size 3 1 (iE .i64) F1 a29 n33 c30 out Lb31) ?_ ?_
 · clear r36
   refine wsr ?_
   refine ov (v_fieldAddr fa_75_0 rfl) rfl ?_
   refine ov (v_load Tryz.isAgg72 rfl (Has.own 0 rfl) rfl) rfl ?_
   refine ov ((v_lenS Tryz.underlying72 rfl).i (SlR.lenI hz12)) rfl ?_
   refine om rfl rfl (shO_nil ?_)
   refine shW_block ?_
   refine kW (kd (kd (kd kr))) ?_
   refine shW_lp (fun fu1 e1 F1 L1 => ∃ (tl : List (List Bool)) (k : Int), tl.length = fu1 ∧ Lst l k tl ∧ ∃ (out2 : List Int) (a37 : Option Addr) (n41 : Nat) (c38 : Nat) (Lb39 : LH), hear_Must_l1 tl out2 = some out ∧ FExt F5 F1 ∧ L1 = (Lb39 ++ (Lb11 ++ [])) ∧ e1.sub [(10, .slice a37 n41 c38), (29, .slice a9 n13 c10), (30, .int .i64 (l.length : Int)), (31, .int .i64 k)] ∧ SlR K.w0.heap.size 3 1 (iE .i64) F1 a37 n41 c38 out2 Lb39) _ (m0 (ke kr) ⟨_, _, rfl, Lst.start _, [], none, 0, 0, [], h35, FExt.refl _, rfl, (sc rfl (sc rfl (sc rfl (sc rfl (sn _))))), SlR.nil _ _ _ _ _⟩) ?_
   rintro fu1 e1 F47 _ ⟨tl, k, hn44, hk43, out2, a37, n41, c38, Lb39, r45, hF48, rfl, he46, hz40⟩
   refine shW_env _ he46 ?_; clear he46
   replace hz12 := hz12.mono (arE_ok (n := 30) (sz := 1) cB_ok) hF48
   refine wsr ?_
   refine ov (v_lssK rfl rfl) rfl ?_
   refine shO_nil (shW_seq ?_)
   refine shW_condP rfl (fun c50 => ?_) (fun c50 => ?_)
   · obtain ⟨x, tl2, rfl, hx52, g53, hk51⟩ := Lst.succ hk43 c50
     rw [hear_Must_l1] at r45
     refine shW_skip (shW_seq ?_)
     refine shW_block ?_
     refine wsr ?_
     obtain ⟨b54, o55, c56, vs57, ha58, hs59, hle60, ⟨rfl, h63⟩, hl61, hc62⟩ := SlR.at (arE_ok (n := 30) (sz := 1) cB_ok) hz12 (L := Lb39 ++ (Lb11 ++ [])) (fS fP) g53.1 hx52
     refine ov (v_indexO Tryz.underlying72 Tryz.sizeOf80 rfl ha58 rfl (SlR.idx hz12 g53)) rfl ?_
     refine ov (v_loadA (cs := arr cB x) Tryz.isAgg80 Tryz.sizeOf80 rfl hs59 hle60 (extract_cells hle60 hl61 hc62)) rfl ?_
     refine o_alloc rfl Tryz.zeroValue80 ?_; intro b64 hb64
     refine shO_L (L' := (b64, .cells (arr cB (List.replicate 30 false)) 80 (0, 0)) :: (Lb39 ++ (Lb11 ++ []))) rfl ?_
     refine o_storeW (i := 0) Tryz.sizeOf80 rfl rfl rfl (arr_sz cB_ok List.length_replicate) (arr_sz cB_ok h63) (arr_one cB_ok) ?_
     refine shO_L (L' := (b64, .cells (arr cB x) 80 (0, 0)) :: (Lb39 ++ (Lb11 ++ []))) rfl ?_
     refine nsr ?_
     refine ov (v_loadW Tryz.isAgg80 Tryz.sizeOf80 rfl (Has.own 0 rfl) (arr_sz cB_ok h63)) rfl ?_
     obtain ⟨l2, h65, r66⟩ := b1_ok r45; clear r45
     refine o_call0 rfl Tryz.call52 rfl rfl rfl (hear_ears_list_w h63 h65) ?_; rintro _ F67 _ hF68 hn69 ⟨a71, n75, c72, Lb73, rfl, rfl, hz74⟩
     replace hz12 := hz12.mono (arE_ok (n := 30) (sz := 1) cB_ok) hF68
     replace hz40 := hz40.mono (iE_ok _) hF68
     replace hz74 := hz74.new fun p hp => hn69 p (by simp [hp])
     refine shO_L (lp (ln rfl)) ?_
     refine kO (kf (fS fO) kr) ?_
     refine oa rfl rfl (nsr (om rfl rfl ?_))
     refine ov ((v_lenS Tryz.underlying28 rfl).i (SlR.lenI hz74)) rfl ?_
     refine ov (v_eql rfl rfl) rfl ?_
     refine shO_nil ?_
     refine shW_condP rfl (fun c77 => ?_) (fun c77 => ?_)
     · have r78 := ite_t r66 c77; clear r66
       refine shW_region (om rfl rfl (om rfl rfl ?_))
       obtain ⟨x2, g79, hx80, r81⟩ := ix_ok r78; clear r78
       obtain ⟨b82, o83, c84, vs85, ha86, hs87, hle88, rfl, hl89, hc90⟩ := SlR.at (iE_ok _) hz74 (L := (b64, .cells (arr cB x) 80 (0, 0)) :: (Lb73 ++ (Lb39 ++ (Lb11 ++ [])))) (fC fP) g79.1 hx80
       refine ov (v_indexO Tryz.underlying28 Tryz.sizeOf3 rfl ha86 rfl (SlR.idx hz74 g79)) rfl ?_
       refine ov (v_load Tryz.isAgg3 rfl hs87 (hc90 0 (by decide))) rfl ?_
       refine o_buildSlice (cs := #[.int .i64 x2]) rfl rfl (buildSlice_all slt_28 [.int .i64 x2] rfl (by decide) (by simp [Value.cells]) (by decide)) ?_; intro b91 hb91
       obtain ⟨out3, h92, g93, r94⟩ := ap_ok r81; clear r81
       refine o_appZ (xs := out2) (ys := [x2]) (zs := out3) rfl slt_28 rfl rfl (Nat.le_refl _) (fun _ => .c (.c (.s .h))) hz40 (SrcR.box (vss := [[.int .i64 x2]]) (ys := [x2]) 0 rfl (iE_ok _) (.cons rfl .nil) rfl rfl) h92 g93 (by decide) ?_; intro a95 n99 c96 Lb97 hz98
       refine kO (kd kr) ?_
       refine oa rfl rfl (shO_nil (inBlock_n (id := 2) (shW_region ?_)))
       refine ov (v_add rfl rfl (Lst.r64 hk43 c50 (SlR.llt hz12))) rfl ?_
       refine om rfl rfl (shO_nil ?_)
       subst hn44; exact le (kd (kx kr)) ⟨_, _, rfl, hk51, out3, a95, n99, c96, Lb97, r94, (hF48.trans hF68), rfl, (sc rfl (sc rfl (sc rfl (sc rfl (sn _))))), hz98⟩
     have r101 := ite_f r66 c77; clear r66
     refine shW_skip (inBlock_n (id := 2) (shW_region ?_))
     refine ov (v_add rfl rfl (Lst.r64 hk43 c50 (SlR.llt hz12))) rfl ?_
     refine om rfl rfl (shO_nil ?_)
     subst hn44; exact le (kd (kx kr)) ⟨_, _, rfl, hk51, out2, a37, n41, c38, Lb39, r101, (hF48.trans hF68), rfl, (sc rfl (sc rfl (sc rfl (sc rfl (sn _))))), hz40⟩
   obtain rfl := Lst.zero hk43 c50
   rw [hear_Must_l1] at r45
   refine shW_exit (andThen_exit (andThen_exit ?_))
   refine inBlock_exit ?_
   obtain rfl := inj1 r45
   exact mi (ka kn) ⟨a37, n41, c38, Lb39, hF48, rfl, (sc rfl (sn _)), hz40⟩
 rintro e1 F103 _ ⟨a29, n33, c30, Lb31, hF104, rfl, he102, hz32⟩
 refine shW_env _ he102 ?_; clear he102
 refine wsr (om rfl rfl ?_)
 obtain ⟨s_, h105, r106⟩ := b1_ok r36; clear r36
 refine o_callG (Lb := Lb31 ++ []) (Lr := []) rfl Tryz.call53 rfl rfl rfl (pT pR (lp (ln rfl))) (slices_Sort_int_int_w hz32 h105) ?_; rintro _ F107 _ hF108 hd110 hn109 ⟨Lb111, rfl, rfl, hz112⟩
 refine shO_L (lp (ln rfl)) ?_
 refine nsr (om rfl rfl ?_)
 obtain ⟨l3, h113, r114⟩ := b1_ok r106; clear r106
 refine o_callG (Lb := Lb111 ++ []) (Lr := []) rfl Tryz.call54 rfl rfl rfl (pT pR (lp (ln rfl))) (slices_Compact_int_int_w hz112 h113) ?_; rintro _ F115 _ hF116 hd118 hn117 ⟨a119, n123, c120, Lb121, rfl, rfl, hz122⟩
 refine shO_L (lp (ln rfl)) ?_
 refine oa rfl rfl (oa rfl rfl (shO_nil (shW_ret ?_)))
 refine q_res2 Tryz.results13 (res_tmp rfl) (res_tmp rfl) (sr) ?_
 obtain ⟨rfl, rfl⟩ := inj2 r114
 exact ⟨_, _, _, _, rfl, rfl, hz122.any⟩
set_option maxHeartbeats 1000000 in
theorem oyezref01_Must_w {wide : Int} {plots_a : Option Addr} {plots_c : Nat} {plots : List Int} {wind : Int} {voice : Int} {houses_a : Option Addr} {houses_c : Nat} {houses : List Int} {F : FS} (h_plots : RowR 1 (iE .i64) F plots_a plots_c plots) (h_houses : RowR 1 (iE .i64) F houses_a houses_c houses) {r : List Int} {r2 : Int} (hr : oyezref01_Must wide plots wind voice houses = some (r, r2)) :
    SH.Spec Tryz.prog 14 #[.agg #[.int .i64 wide, .slice plots_a plots.length plots_c], .int .i64 wind, .int .i64 voice, .slice houses_a houses.length houses_c] F [] fun F' L' v => ∃ (ra : Option Addr) (rn : Nat) (rc : Nat) (rL : LH), v = .tuple #[.slice ra rn rc, .int .i64 r2] ∧ L' = rL ++ [] ∧ SlR 0 3 1 (iE .i64) F' ra rn rc r rL := by
 refine spec_of_shW (args := [.agg #[.int .i64 wide, .slice plots_a plots.length plots_c], .int .i64 wind, .int .i64 voice, .slice houses_a houses.length houses_c]) Tryz.func14 rfl Tryz.ntmps14 (Nat.le_of_ble_eq_true rfl) ?_
 intro K _ _; rw [oyezref01_Must] at hr
 refine wsr ?_
 refine o_box rfl rfl ?_; intro b1 hb1
 refine oa rfl rfl (oa rfl rfl (shO_nil (shW_seq (wsr ?_))))
 refine ov (v_loadA (cs := #[.int .i64 wide, .slice plots_a plots.length plots_c]) Tryz.isAgg34 Tryz.sizeOf34 rfl (Has.own 0 rfl) (Nat.le_of_ble_eq_true rfl) rfl) rfl ?_
 refine om rfl rfl (om rfl rfl (om rfl rfl ?_))
 obtain ⟨n, h2, r3⟩ := b1_ok hr; clear hr
 refine o_callV rfl Tryz.call45 rfl rfl rfl (oyezref01_Asked_w h_plots h_houses h2) ?_
 refine oa rfl rfl (nsr (om rfl rfl ?_))
 refine ov (v_neq rfl rfl) rfl ?_
 refine shO_nil ?_
 refine shW_condP rfl (fun c4 => ?_) (fun c4 => ?_)
 · have r5 := ite_t r3 c4; clear r3
   refine wsr (om rfl rfl (oa rfl rfl (oa rfl rfl (shO_nil ?_))))
   refine kW kn ?_
   refine shW_ret (andThen_ret ?_)
   refine q_res2 Tryz.results14 (res_tmp rfl) (res_tmp rfl) (sr) ?_
   obtain ⟨rfl, rfl⟩ := inj2 r5
   exact ⟨_, _, _, [], rfl, rfl, SlR.nil _ _ _ _ _⟩
 have r6 := ite_f r3 c4; clear r3
 refine shW_skip (wsr ?_)
 refine ov (v_loadA (cs := #[.int .i64 wide, .slice plots_a plots.length plots_c]) Tryz.isAgg34 Tryz.sizeOf34 rfl (Has.own 0 rfl) (Nat.le_of_ble_eq_true rfl) rfl) rfl ?_
 refine om rfl rfl (om rfl rfl ?_)
 obtain ⟨l, h7, r8⟩ := b1_ok r6; clear r6
 refine o_call0 rfl Tryz.call46 rfl rfl rfl (oyezref01_Ears_w h_plots h7) ?_; rintro _ F9 _ hF10 hn11 ⟨a13, c14, rfl, rfl, h15⟩
 replace h_plots := h_plots.mono (iE_ok _) hF10
 replace h_houses := h_houses.mono (iE_ok _) hF10
 refine shO_L (ln rfl) ?_
 refine oa rfl rfl (shO_nil (shW_seq (wsr (om rfl rfl (om rfl rfl ?_)))))
 obtain ⟨ok, h16, r17⟩ := b1_ok r8; clear r8
 refine o_callV rfl Tryz.call47 rfl rfl rfl (oyezref01_deaf_w h15 h_houses h16) ?_
 refine shO_nil ?_
 refine shW_cond rfl (fun c18 => ?_) (fun c18 => ?_)
 · have r19 := bt r17 c18; clear r17
   refine wsr (oa rfl rfl (oa rfl rfl (shO_nil ?_)))
   refine kW kn ?_
   refine shW_ret (andThen_ret ?_)
   refine q_res2 Tryz.results14 (res_tmp rfl) (res_tmp rfl) (sr) ?_
   obtain ⟨rfl, rfl⟩ := inj2 r19
   exact ⟨_, _, _, [], rfl, rfl, SlR.nil _ _ _ _ _⟩
 have r20 := bf r17 c18; clear r17
 refine shW_skip (wsr ?_)
 refine ov (v_loadA (cs := #[.int .i64 wide, .slice plots_a plots.length plots_c]) Tryz.isAgg34 Tryz.sizeOf34 rfl (Has.own 0 rfl) (Nat.le_of_ble_eq_true rfl) rfl) rfl ?_
 obtain ⟨l2, h21, r22⟩ := b1_ok r20; clear r20
 refine o_call0 rfl Tryz.call49 rfl rfl rfl (oyezref01_streets_w h_plots h21) ?_; rintro _ F23 _ hF24 hn25 ⟨a27, n31, c28, Lb29, rfl, rfl, hz30⟩
 replace h_houses := h_houses.mono (iE_ok _) hF24
 replace h15 := h15.mono (slE_ok (iE_ok _)) hF24
 replace hz30 := hz30.new fun p hp => hn25 p (by simp [hp])
 refine shO_L (lp (ln rfl)) ?_
 refine kO (kf (fS fO) kr) ?_
 refine oa rfl rfl (nsr (oa rfl rfl (shO_nil ?_)))
 obtain ⟨out, h39, r40⟩ := b1_ok r22; clear r22
 refine shW_join (fun e1 F1 L1 => ∃ (a33 : Option Addr) (n37 : Nat) (c34 : Nat) (Lb35 : LH), FExt F23 F1 ∧ L1 = (Lb35 ++ []) ∧ e1.sub [(13, .slice a33 n37 c34)] ∧ SlR K.w0.heap.size 3 1 (iE .i64) F1 a33 n37 c34 out Lb35) ?_ ?_
 · clear r40
   refine wsr (oa rfl rfl (shO_nil ?_))
   refine shW_block ?_
   refine kW (kd kr) ?_
   obtain rfl := (SlR.caps hz30).1
   refine shW_freezeR (Nat.le_refl _) (iE_ok _) fP hz30 ?_; intro F41 hF42 h43
   replace h_houses := h_houses.mono (iE_ok _) hF42
   replace h15 := h15.mono (slE_ok (iE_ok _)) hF42
   refine shW_lpF (fun fu1 e1 F1 L1 => ∃ (tl : List Int) (i : Int), tl.length = fu1 ∧ Lst l2 i tl ∧ ∃ (out2 : List Int) (a44 : Option Addr) (n48 : Nat) (c45 : Nat) (Lb46 : LH), oyezref01_Must_l1 houses l l2 tl i out2 = some out ∧ FExt F41 F1 ∧ L1 = (Lb46 ++ []) ∧ e1.sub [(3, .slice houses_a houses.length houses_c), (11, .slice a13 l.length c14), (12, .slice a27 l2.length c28), (13, .slice a44 n48 c45), (14, .int .i64 i)] ∧ SlR K.w0.heap.size 3 1 (iE .i64) F1 a44 n48 c45 out2 Lb46) _ (m0 (ke kr) ⟨_, _, rfl, Lst.start _, [], none, 0, 0, [], h39, FExt.refl _, rfl, (sc rfl (sc rfl (sc rfl (sc rfl (sc rfl (sn _)))))), SlR.nil _ _ _ _ _⟩) ?_
   rintro fu1 e1 F54 _ ⟨tl, i, hn51, hk50, out2, a44, n48, c45, Lb46, r52, hF55, rfl, he53, hz47⟩
   refine shW_env _ he53 ?_; clear he53
   replace h_houses := h_houses.mono (iE_ok _) hF55
   replace h15 := h15.mono (slE_ok (iE_ok _)) hF55
   replace h43 := h43.mono (iE_ok _) hF55
   refine shW_seq (wsr (om rfl rfl (om rfl rfl ?_)))
   refine ov (v_lenS Tryz.underlying28 rfl) rfl ?_
   refine ov (v_lssK rfl rfl) rfl ?_
   refine shO_nil ?_
   refine shW_condP rfl (fun c57 => ?_) (fun c57 => ?_)
   · obtain ⟨x, tl2, rfl, hx59, g60, hk58⟩ := Lst.succ hk50 c57
     rw [oyezref01_Must_l1] at r52
     refine shW_skip (shW_seq ?_)
     refine shW_block ?_
     refine shW_seq ?_
     refine shW_drawM [(.still, 1), (.still, 2), (.still, 3), (.still, 5), (.still, 6), (.still, 7), (.still, 8), (.seq, 0), (.seq, 4), (.seq, 9), (.still, 10)] (by kernel_rfl) (by kernel_rfl) (trivial) (by rfl) (by kernel_rfl) ?_
     refine shM_v (v := .slice a27 l2.length c28) (ek := [(12, .slice a27 l2.length c28)]) (Ls := []) rfl rfl rfl rfl ((sc rfl (sn _))) (by kernel_rfl) sm (fun H F' L' hF' hL' => v_move rfl) ?_
     refine shM_v (v := .int .i64 i) (ek := [(14, .int .i64 i)]) (Ls := []) rfl rfl rfl rfl ((sc rfl (sn _))) (by kernel_rfl) sm (fun H F' L' hF' hL' => v_move rfl) ?_
     obtain ⟨g61, r62⟩ := gd_ok r52; clear r52
     obtain ⟨l2_2, h63, r64⟩ := bv_ok r62; clear r62
     obtain ⟨a65, c66, h67, hvh67⟩ := RowR.slice (iE_ok _) h43 g61 h63
     refine shM_v (v := .slice a65 l2_2.length c66) (ek := [(40, .slice a27 l2.length c28), (41, .int .i64 i)]) (Ls := []) rfl rfl rfl rfl ((sc rfl (sc rfl (sn _)))) (by kernel_rfl) sm (fun H F' L' hF' hL' => (v_slice (l := 0) (h := i) Tryz.underlying28 Tryz.sizeOf3 rfl (.inl ⟨rfl, rfl⟩) (.inr ⟨_, rfl, rfl⟩) hvh67.1).eq hvh67.2) ?_
     refine shM_v (v := .slice a27 l2.length c28) (ek := [(12, .slice a27 l2.length c28)]) (Ls := []) rfl rfl rfl rfl ((sc rfl (sn _))) (by kernel_rfl) sm (fun H F' L' hF' hL' => v_move rfl) ?_
     refine shM_v (v := .int .i64 i) (ek := [(14, .int .i64 i)]) (Ls := []) rfl rfl rfl rfl ((sc rfl (sn _))) (by kernel_rfl) sm (fun H F' L' hF' hL' => v_move rfl) ?_
     refine shM_v (v := .int .i64 (i + 1)) (ek := [(45, .int .i64 i)]) (Ls := []) rfl rfl rfl rfl ((sc rfl (sn _))) (by kernel_rfl) sm (fun H F' L' hF' hL' => v_add rfl rfl (Lst.r64 hk50 c57 (RowR.lt h43))) ?_
     obtain ⟨g69, r70⟩ := gd_ok r64; clear r64
     obtain ⟨l2_3, h71, r72⟩ := bv_ok r70; clear r70
     obtain ⟨a73, c74, h75, hvh75⟩ := RowR.slice (iE_ok _) h43 g69 h71
     refine shM_v (v := .slice a73 l2_3.length c74) (ek := [(44, .slice a27 l2.length c28), (46, .int .i64 (i + 1))]) (Ls := []) rfl rfl rfl rfl ((sc rfl (sc rfl (sn _)))) (by kernel_rfl) sm (fun H F' L' hF' hL' => (v_slice (l := i + 1) (h := (l2.length : Int)) Tryz.underlying28 Tryz.sizeOf3 rfl (.inr ⟨_, rfl, rfl⟩) (.inl ⟨rfl, rfl⟩) hvh75.1).eq hvh75.2) ?_
     refine ⟨_, [], rfl, rfl, (sn _), by kernel_rfl, ?_⟩; intro H
     refine o_buildSlice (cs := #[]) rfl rfl (buildSlice_none slt_28) ?_; intro b77 hb77
     refine shO_nil ⟨_, rfl, FExt.refl _, [8, 7, 6, 5, 3, 2, 1], by kernel_rfl, .inl (.inr (fun d h => by cases h; rfl)), (List.forall_mem_cons.2 ⟨sm, (List.forall_mem_cons.2 ⟨sm, (List.forall_mem_cons.2 ⟨sm, (List.forall_mem_cons.2 ⟨sm, (List.forall_mem_cons.2 ⟨sm, (List.forall_mem_cons.2 ⟨sm, (List.forall_mem_cons.2 ⟨sm, (fun _ h => absurd h List.not_mem_nil)⟩)⟩)⟩)⟩)⟩)⟩)⟩), ?_⟩
     refine ⟨_, [(39, .slice (some ⟨b77, 0, none⟩) 0 0), (42, .slice a65 l2_2.length c66)], rfl, rfl, (sc rfl (sc rfl (sn _))), by kernel_rfl, ?_⟩; intro H
     have hz79 : SlR K.w0.heap.size 3 1 (iE .i64) F54 (some ⟨b77, 0, none⟩) 0 0 ([] : List Int) [(b77, .cells #[] 3 (0, 0))] := SlR.of_block (vss := []) (iE_ok _) hb77 .nil rfl rfl (by simp [maxLen])
     generalize hLLb78 : ([(b77, .cells #[] 3 (0, 0))] : LH) = Lb78 at hz79
     refine shO_perm (L' := Lb78 ++ (Lb46 ++ [])) (by rw [← hLLb78]; exact fO) ?_
     obtain ⟨l3, h81, g82, r83⟩ := ap_ok r72; clear r72
     refine o_appZ (xs := ([] : List Int)) (ys := l2_2) (zs := l3) rfl slt_28 rfl rfl (Nat.le_refl _) (fun _ => .h) hz79 (RowR.src h67) h81 g82 (by decide) ?_; intro a84 n88 c85 Lb86 hz87
     refine shO_nil ⟨_, rfl, FExt.refl _, [8, 7, 6, 5], by kernel_rfl, .inl (.inr (fun d h => by cases h; rfl)), (List.forall_mem_cons.2 ⟨sm, (List.forall_mem_cons.2 ⟨sm, (List.forall_mem_cons.2 ⟨sm, (List.forall_mem_cons.2 ⟨sm, (fun _ h => absurd h List.not_mem_nil)⟩)⟩)⟩)⟩), ?_⟩
     refine ⟨_, [(43, .slice a84 n88 c85), (47, .slice a73 l2_3.length c74)], rfl, rfl, (sc rfl (sc rfl (sn _))), by kernel_rfl, ?_⟩; intro H
     obtain ⟨l4, h90, g91, r92⟩ := ap_ok r83; clear r83
     refine o_appZ (xs := l3) (ys := l2_3) (zs := l4) rfl slt_28 rfl rfl (Nat.le_refl _) (fun _ => .h) hz87 (RowR.src h75) h90 g91 (by decide) ?_; intro a93 n97 c94 Lb95 hz96
     refine shO_nil ⟨_, rfl, FExt.refl _, [], by kernel_rfl, .inl (.inl rfl), (fun _ h => absurd h List.not_mem_nil), ?_⟩
     refine shM_v (v := .slice a93 n97 c94) (ek := [(48, .slice a93 n97 c94)]) (Ls := []) rfl rfl rfl rfl ((sc rfl (sn _))) (by kernel_rfl) sm (fun H F' L' hF' hL' => v_assign rfl) ?_
     refine shM_nil ?_
     refine wsr (om rfl rfl (om rfl rfl (om rfl rfl ?_)))
     obtain ⟨n2, h99, r100⟩ := b1_ok r92; clear r92
     refine o_callT (Lt := Lb95 ++ []) (Lr := Lb46 ++ []) rfl Tryz.call50 rfl rfl rfl (pT pR (lp (ln rfl))) (fun F2 h2 h3 => by rw [(SlR.caps hz96).1]; exact oyezref01_served_w (h15.mono (slE_ok (iE_ok _)) h2) (h_houses.mono (iE_ok _) h2) (hz96.row (iE_ok _) h2 (fun p hp => h3 p (List.mem_append_left _ hp))) h99) ?_
     refine om rfl rfl ?_
     refine ov (v_lenS Tryz.underlying28 rfl) rfl ?_
     refine ov (v_lssK rfl rfl) rfl ?_
     refine shO_nil ?_
     refine shW_condP rfl (fun c101 => ?_) (fun c101 => ?_)
     · have r102 := ite_t r100 c101; clear r100
       refine shW_region (om rfl rfl (om rfl rfl (om rfl rfl ?_)))
       obtain ⟨b103, o104, c105, vs106, ha107, hs108, hle109, rfl, hl110, hc111⟩ := RowR.at (iE_ok _) h43 (Lb95 ++ (Lb46 ++ [])) g60.1 hx59
       refine ov (v_indexO Tryz.underlying28 Tryz.sizeOf3 rfl ha107 rfl g60) rfl ?_
       refine ov (v_load Tryz.isAgg3 rfl hs108 (hc111 0 (by decide))) rfl ?_
       refine o_buildSlice (cs := #[.int .i64 x]) rfl rfl (buildSlice_all slt_28 [.int .i64 x] rfl (by decide) (by simp [Value.cells]) (by decide)) ?_; intro b112 hb112
       obtain ⟨out3, h113, g114, r115⟩ := ap_ok r102; clear r102
       refine o_appZ (xs := out2) (ys := [x]) (zs := out3) rfl slt_28 rfl rfl (Nat.le_refl _) (fun _ => .c (.s .h)) hz47 (SrcR.box (vss := [[.int .i64 x]]) (ys := [x]) 0 rfl (iE_ok _) (.cons rfl .nil) rfl rfl) h113 g114 (by decide) ?_; intro a116 n120 c117 Lb118 hz119
       refine kO (kd kr) ?_
       refine oa rfl rfl (shO_nil (inBlock_n (id := 1) (shW_region (om rfl rfl ?_))))
       refine ov (v_add rfl rfl (Lst.r64 hk50 c57 (RowR.lt h43))) rfl ?_
       refine oa rfl rfl (shO_nil ?_)
       subst hn51; refine lf ?_
       exact mf (kx kr) ⟨_, _, rfl, hk58, out3, a116, n120, c117, Lb118, r115, hF55, rfl, (sc rfl (sc rfl (sc rfl (sc rfl (sc rfl (sn _)))))), hz119⟩
     have r122 := ite_f r100 c101; clear r100
     refine shW_skip (inBlock_n (id := 1) (shW_region (om rfl rfl ?_)))
     refine ov (v_add rfl rfl (Lst.r64 hk50 c57 (RowR.lt h43))) rfl ?_
     refine oa rfl rfl (shO_nil ?_)
     subst hn51; refine lf ?_
     exact mf (kx kr) ⟨_, _, rfl, hk58, out2, a44, n48, c45, Lb46, r122, hF55, rfl, (sc rfl (sc rfl (sc rfl (sc rfl (sc rfl (sn _)))))), hz47⟩
   obtain rfl := Lst.zero hk50 c57
   rw [oyezref01_Must_l1] at r52
   refine shW_exit (andThen_exit (andThen_exit ?_))
   refine inBlock_exit ?_
   obtain rfl := inj1 r52
   exact mi kr ⟨a44, n48, c45, Lb46, (hF42.trans hF55), rfl, (sc rfl (sn _)), hz47⟩
 rintro e1 F124 _ ⟨a33, n37, c34, Lb35, hF125, rfl, he123, hz36⟩
 refine shW_env _ he123 ?_; clear he123
 refine wsr (om rfl rfl (oa rfl rfl (oa rfl rfl (shO_nil (shW_ret ?_)))))
 refine q_res2 Tryz.results14 (res_tmp rfl) (res_tmp rfl) (sr) ?_
 obtain ⟨rfl, rfl⟩ := inj2 r40
 exact ⟨_, _, _, _, rfl, rfl, hz36.any⟩
end Go.Proofs.YtejkgppikpkkpaaGreat
