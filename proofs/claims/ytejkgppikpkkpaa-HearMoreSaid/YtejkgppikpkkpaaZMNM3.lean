/- The walks that this claim needs, printed by a program of mine; part 3. -/
import Derived.Test.YtejkgppikpkkpaaZMNM2
namespace Go.Proofs.Ytejkgppikpkkpaa
open Go.SH Go.PL
set_option maxHeartbeats 1000000 in
theorem oyezlaw01_HearMore_w {numbers_a : Option Addr} {numbers_c : Nat} {numbers : List Int} {order_a : Option Addr} {order_c : Nat} {order : List Int} {F : FS} (h_numbers : RowR 1 (iE .u8) F numbers_a numbers_c numbers) (h_order : RowR 1 (iE .u8) F order_a order_c order) {r : Bool} (hr : oyezlaw01_HearMore numbers order = some r) :
    SpecV Try.prog 6 #[.slice numbers_a numbers.length numbers_c, .slice order_a order.length order_c] F (.bool r) := by
 refine spec_of_shW (args := [.slice numbers_a numbers.length numbers_c, .slice order_a order.length order_c]) Try.func6 rfl Try.ntmps6 (Nat.le_of_ble_eq_true rfl) ?_
 intro K _ _; rw [oyezlaw01_HearMore] at hr
 refine wsr (oa rfl rfl (nsr (om rfl rfl ?_)))
 obtain ⟨metal, at_, turn, h1, r2⟩ := b3_ok hr; clear hr
 refine o_call0 rfl Try.call7 rfl rfl rfl (oyezkit_Hang_w h_numbers h1) ?_; rintro _ F3 _ hF4 hn5 ⟨b7, a8, c9, rfl, rfl, h10⟩
 replace h_order := h_order.mono (iE_ok _) hF4
 refine shO_L (lb (ln rfl)) ?_
 refine om rfl rfl ?_
 obtain ⟨metal2, at_2, turn2, h11, r12⟩ := b3_ok r2; clear r2
 refine o_call0 rfl Try.call7 rfl rfl rfl (oyezkit_Hang_w h_order h11) ?_; rintro _ F13 _ hF14 hn15 ⟨b17, a18, c19, rfl, rfl, h20⟩
 replace h10 := h10.mono (iE_ok _) hF14
 refine shO_L (lb (ln rfl)) ?_
 refine oa rfl rfl (oa rfl rfl (nsr (om rfl rfl ?_)))
 obtain ⟨n, l, at_3, turn3, h21, r22⟩ := b4_ok r12; clear r12
 refine o_callG (Lb := [(b7, .cells #[.slice a8 metal.length c9, .int .i64 at_, .int .u32 turn] 69 (0, 0))]) (Lr := [(b17, .cells #[.slice a18 metal2.length c19, .int .i64 at_2, .int .u32 turn2] 69 (0, 0))]) rfl Try.call8 rfl rfl rfl (((fC fO).trans (pC pR))) (oyezlaw01_Made_w h10 h21) ?_; rintro _ F23 _ hF24 hd26 hn25 ⟨a27, n31, c28, Lb29, rfl, rfl, hz30⟩
 replace h10 := h10.mono (iE_ok _) hF24
 replace h20 := h20.mono (iE_ok _) hF24
 have hn33 := newp (Lb' := [(b7, .cells #[.slice a8 metal.length c9, .int .i64 at_3, .int .u32 turn3] 69 (0, 0))]) (by rfl) hd26 hn25
 replace hz30 := hz30.new fun p hp => hn33 p (by simp [hp])
 refine shO_L (lb (lp (ln rfl))) ?_
 refine kO (kc (kf (fS fO) kr)) ?_
 refine o_alloc rfl Try.zeroValue27 ?_; intro b34 hb34
 refine o_storeA (i := 0) Try.sizeOf27 rfl rfl rfl (by simp [Value.oneCell']) rfl (Nat.le_of_ble_eq_true rfl) ?_
 refine shO_L (L' := (b34, .cells #[.int .i64 n, .slice a27 n31 c28] 27 (0, 0)) :: ((b7, .cells #[.slice a8 metal.length c9, .int .i64 at_3, .int .u32 turn3] 69 (0, 0)) :: ((b17, .cells #[.slice a18 metal2.length c19, .int .i64 at_2, .int .u32 turn2] 69 (0, 0)) :: (Lb29 ++ [])))) rfl ?_
 refine shO_nil (shW_seq ?_)
 refine shW_drawM [(.pre, 4), (.still, 0), (.still, 2), (.seq, 1), (.seq, 3), (.alloc (.cells (.agg #[.int .i64 0, .int .i64 0] : Value).cells 31 (0, 0)) (fun b => .pointer (some ⟨b, 0, none⟩)) [], 4), (.seq, 5), (.still, 6)] (by kernel_rfl) (by kernel_rfl) (⟨⟨_, _, rfl, rfl, rfl, rfl, rfl, mk_alloc Try.zeroValue31⟩, trivial⟩) (by rfl) (by kernel_rfl) ?_
 refine ⟨⟨[], rfl, sn _, by kernel_rfl⟩, ?_⟩
 refine shM_v (v := .pointer (some ⟨b7, 0, none⟩)) (ek := [(5, .pointer (some ⟨b7, 0, none⟩))]) (Ls := []) rfl rfl rfl rfl ((sc rfl (sn _))) (by kernel_rfl) sm (fun H F' L' hF' hL' => v_move rfl) ?_
 refine shM_v (v := .agg #[.int .i64 n, .slice a27 n31 c28]) (ek := [(7, .pointer (some ⟨b34, 0, none⟩))]) (Ls := [(b34, .cells #[.int .i64 n, .slice a27 n31 c28] 27 (0, 0))]) rfl rfl rfl rfl ((sc rfl (sn _))) (by kernel_rfl) (s0 (s2 (s1 (s1 (s3 sr))))) (fun H F' L' hF' hL' => v_loadA (cs := #[.int .i64 n, .slice a27 n31 c28]) Try.isAgg27 Try.sizeOf27 rfl ((Has.own 0 rfl).ext hF' hL') (Nat.le_of_ble_eq_true rfl) rfl) ?_
 refine ⟨_, [(36, .pointer (some ⟨b7, 0, none⟩))], rfl, rfl, (sc rfl (sn _)), by kernel_rfl, ?_⟩; intro H
 obtain ⟨n2, n3, at_4, turn4, h35, r36⟩ := b4_ok r22; clear r22
 refine o_callG (Lb := [(b7, .cells #[.slice a8 metal.length c9, .int .i64 at_3, .int .u32 turn3] 69 (0, 0))]) (Lr := (b34, .cells #[.int .i64 n, .slice a27 n31 c28] 27 (0, 0)) :: ((b17, .cells #[.slice a18 metal2.length c19, .int .i64 at_2, .int .u32 turn2] 69 (0, 0)) :: (Lb29 ++ []))) rfl Try.call9 rfl rfl rfl (((fC fO).trans (pC pR))) (oyezlaw01_Aired_w h10 h35) ?_; rintro _ F37 _ hF38 hd40 hn39 ⟨rfl, rfl⟩
 replace h20 := h20.mono (iE_ok _) hF38
 replace hz30 := hz30.mono (iE_ok _) hF38
 refine shO_L (lb (ln rfl)) ?_
 refine shO_nil ⟨_, rfl, hF38, [2], by kernel_rfl, .inl (.inr (fun d h => by cases h; rfl)), (List.forall_mem_cons.2 ⟨s0 (s1 (s2 (s1 (s3 sr)))), (fun _ h => absurd h List.not_mem_nil)⟩), ?_⟩
 refine ⟨_, [(38, .agg #[.int .i64 n, .slice a27 n31 c28])], rfl, rfl, (sc rfl (sn _)), by kernel_rfl, ?_⟩; intro H
 obtain ⟨l2, h41, r42⟩ := b1_ok r36; clear r36
 refine o_callTO (Lb := []) (Lt := Lb29 ++ []) (Lr := [(b7, .cells #[.slice a8 metal.length c9, .int .i64 at_4, .int .u32 turn4] 69 (0, 0)), (b34, .cells #[.int .i64 n, .slice a27 n31 c28] 27 (0, 0)), (b17, .cells #[.slice a18 metal2.length c19, .int .i64 at_2, .int .u32 turn2] 69 (0, 0))]) rfl Try.call14 rfl rfl rfl (pT ((fC (fC (fC fP))).trans (pA pR)) (ln (lp (ln rfl)))) (fun F2 h2 h3 => by rw [(SlR.caps hz30).1]; exact oyezlaw01_houses_w (hz30.row (iE_ok _) h2 (fun p hp => h3 p (List.mem_append_left _ hp))) h41) (fun _ _ _ _ hq => by obtain ⟨a47, n51, c48, Lb49, rfl, rfl, hz50⟩ := hq; exact ⟨_, _, _, _, rfl, rfl, hz50.flat (fun _ _ h => h)⟩) ?_; rintro _ F43 _ hF44 hd46 hn45 ⟨a47, n51, c48, Lb49, rfl, rfl, hz50⟩
 replace h20 := h20.mono (iE_ok _) hF44
 replace hz30 := hz30.mono (iE_ok _) hF44
 have hn53 := newp (Lb' := []) (by rfl) hd46 hn45
 replace hz50 := hz50.new fun p hp => hn53 p (by simp [hp])
 refine shO_L (lp (ln (lp (ln rfl)))) ?_
 refine kO (kf (fS (fS fO)) (kf (fS (fS fO)) (kf (fS (fS fO)) kr))) ?_
 refine shO_nil ⟨_, rfl, hF44, [], by kernel_rfl, .inl (.inl rfl), (fun _ h => absurd h List.not_mem_nil), ?_⟩
 refine shM_ptr rfl ?_; intro b54 hb54
 refine shM_L (L' := (b54, .cells #[.int .i64 0, .int .i64 0] 31 (0, 0)) :: ((b7, .cells #[.slice a8 metal.length c9, .int .i64 at_4, .int .u32 turn4] 69 (0, 0)) :: ((b34, .cells #[.int .i64 n, .slice a27 n31 c28] 27 (0, 0)) :: ((b17, .cells #[.slice a18 metal2.length c19, .int .i64 at_2, .int .u32 turn2] 69 (0, 0)) :: (Lb49 ++ (Lb29 ++ [])))))) rfl ?_
 refine ⟨_, [(8, .pointer (some ⟨b54, 0, none⟩)), (37, .agg #[.int .i64 n2, .int .i64 n3])], rfl, rfl, (sc rfl (sc rfl (sn _))), by kernel_rfl, ?_⟩; intro H
 refine o_storeA (i := 0) Try.sizeOf31 rfl rfl rfl (by simp [Value.oneCell']) rfl (Nat.le_of_ble_eq_true rfl) ?_
 refine shO_L (L' := (b54, .cells #[.int .i64 n2, .int .i64 n3] 31 (0, 0)) :: ((b7, .cells #[.slice a8 metal.length c9, .int .i64 at_4, .int .u32 turn4] 69 (0, 0)) :: ((b34, .cells #[.int .i64 n, .slice a27 n31 c28] 27 (0, 0)) :: ((b17, .cells #[.slice a18 metal2.length c19, .int .i64 at_2, .int .u32 turn2] 69 (0, 0)) :: (Lb49 ++ (Lb29 ++ [])))))) rfl ?_
 refine shO_nil ⟨undef, rfl, FExt.refl _, [], by kernel_rfl, .inl (.inl rfl), (fun _ h => absurd h List.not_mem_nil), ?_⟩
 refine shM_v (v := .slice a47 n51 c48) (ek := [(39, .slice a47 n51 c48)]) (Ls := []) rfl rfl rfl rfl ((sc rfl (sn _))) (by kernel_rfl) sm (fun H F' L' hF' hL' => v_assign rfl) ?_
 refine shM_nil ?_
 refine wsr ?_
 refine ov (v_loadA (cs := #[.int .i64 n, .slice a27 n31 c28]) Try.isAgg27 Try.sizeOf27 rfl (Has.own 2 rfl) (Nat.le_of_ble_eq_true rfl) rfl) rfl ?_
 refine ov (v_loadA (cs := #[.int .i64 n2, .int .i64 n3]) Try.isAgg31 Try.sizeOf31 rfl (Has.own 0 rfl) (Nat.le_of_ble_eq_true rfl) rfl) rfl ?_
 obtain ⟨l3, n4, h55, r56⟩ := b2_ok r42; clear r42
 refine o_callTO (Lb := []) (Lt := Lb29 ++ []) (Lr := (b54, .cells #[.int .i64 n2, .int .i64 n3] 31 (0, 0)) :: ((b7, .cells #[.slice a8 metal.length c9, .int .i64 at_4, .int .u32 turn4] 69 (0, 0)) :: ((b34, .cells #[.int .i64 n, .slice a27 n31 c28] 27 (0, 0)) :: ((b17, .cells #[.slice a18 metal2.length c19, .int .i64 at_2, .int .u32 turn2] 69 (0, 0)) :: (Lb49 ++ []))))) rfl Try.call31 rfl rfl rfl (pT ((fC (fC (fC (fC (fS fP))))).trans (pA pR)) (ln (lp (ln rfl)))) (fun F2 h2 h3 => by rw [(SlR.caps hz30).1]; exact hear_Deaf_w (hz30.row (iE_ok _) h2 (fun p hp => h3 p (List.mem_append_left _ hp))) h55) (fun _ _ _ _ hq => by obtain ⟨a61, n65, c62, Lb63, rfl, rfl, hz64⟩ := hq; exact ⟨_, _, _, _, rfl, rfl, hz64.flat (fun _ _ h => h)⟩) ?_; rintro _ F57 _ hF58 hd60 hn59 ⟨a61, n65, c62, Lb63, rfl, rfl, hz64⟩
 replace h20 := h20.mono (iE_ok _) hF58
 replace hz30 := hz30.mono (iE_ok _) hF58
 replace hz50 := hz50.mono (iE_ok _) hF58
 have hn67 := newp (Lb' := []) (by rfl) hd60 hn59
 replace hz64 := hz64.new fun p hp => hn67 p (by simp [hp])
 refine shO_L (lp (ln (lp (ln rfl)))) ?_
 refine kO (kf (fS (fS fO)) (kf (fS (fS fO)) (kf (fS (fS fO)) (kf (fS (fS fO)) kr)))) ?_
 refine om rfl rfl (ox rfl rfl rfl (ox rfl rfl rfl ?_))
 refine o_alloc rfl Try.zeroValue36 ?_; intro b68 hb68
 refine o_store (i := 0) Try.sizeOf36 rfl rfl rfl rfl (Nat.le_of_ble_eq_true rfl) ?_
 refine shO_L (L' := (b68, .cells #[.slice a61 n65 c62] 36 (0, 0)) :: ((b54, .cells #[.int .i64 n2, .int .i64 n3] 31 (0, 0)) :: ((b7, .cells #[.slice a8 metal.length c9, .int .i64 at_4, .int .u32 turn4] 69 (0, 0)) :: ((b34, .cells #[.int .i64 n, .slice a27 n31 c28] 27 (0, 0)) :: ((b17, .cells #[.slice a18 metal2.length c19, .int .i64 at_2, .int .u32 turn2] 69 (0, 0)) :: (Lb63 ++ (Lb29 ++ (Lb49 ++ [])))))))) rfl ?_
 refine oa rfl rfl (shO_nil (shW_seq (wsr (om rfl rfl ?_))))
 refine ov (v_neq rfl rfl) rfl ?_
 refine shO_nil ?_
 refine shW_condP rfl (fun c69 => ?_) (fun c69 => ?_)
 · have r70 := ite_t r56 c69; clear r56
   refine wsr (oa rfl rfl (shO_nil ?_))
   refine kW kn ?_
   refine shW_ret (andThen_ret ?_)
   refine q_res1 Try.results6 (res_tmp rfl) (sr) ?_
   obtain rfl := inj1 r70
   exact rfl
 have r71 := ite_f r56 c69; clear r56
 refine shW_skip (wsr (om rfl rfl ?_))
 refine ov (v_makeFunc rfl rfl) rfl ?_
 obtain rfl := (SlR.caps hz64).1
 refine shO_freezeR (Nat.le_refl _) (iE_ok _) (fC (fC (fC (fC (fC fP))))) hz64 ?_; intro F72 hF73 h74
 replace h20 := h20.mono (iE_ok _) hF73
 replace hz30 := hz30.mono (iE_ok _) hF73
 replace hz50 := hz50.mono (iE_ok _) hF73
 refine shO_freeze 0 rfl hb68 ?_; intro F75 hF76 hz77
 refine shO_L (L' := (b54, .cells #[.int .i64 n2, .int .i64 n3] 31 (0, 0)) :: ((b7, .cells #[.slice a8 metal.length c9, .int .i64 at_4, .int .u32 turn4] 69 (0, 0)) :: ((b34, .cells #[.int .i64 n, .slice a27 n31 c28] 27 (0, 0)) :: ((b17, .cells #[.slice a18 metal2.length c19, .int .i64 at_2, .int .u32 turn2] 69 (0, 0)) :: (Lb29 ++ (Lb49 ++ [])))))) rfl ?_
 replace h20 := h20.mono (iE_ok _) hF76
 replace h74 := h74.mono (iE_ok _) hF76
 replace hz30 := hz30.mono (iE_ok _) hF76
 replace hz50 := hz50.mono (iE_ok _) hF76
 have hn78 : FnR Try.prog F75 35 #[] #[.pointer (some ⟨b68, 0, none⟩)] (iE .i64) Value.bool (fun xx_ : Int => oyezlaw01_HearMore_1 xx_ l3) := ⟨Try.call35, fun F2 h2 vs xx_ r ha hr => by obtain rfl := ha; exact oyezlaw01_HearMore_1_w (h2 _ _ hz77) (h74.mono (iE_ok _) h2) hr⟩
 obtain ⟨l4, h79, r80⟩ := b1_ok r71; clear r71
 refine o_callG (Lb := Lb49 ++ []) (Lr := (b54, .cells #[.int .i64 n2, .int .i64 n3] 31 (0, 0)) :: ((b7, .cells #[.slice a8 metal.length c9, .int .i64 at_4, .int .u32 turn4] 69 (0, 0)) :: ((b34, .cells #[.int .i64 n, .slice a27 n31 c28] 27 (0, 0)) :: ((b17, .cells #[.slice a18 metal2.length c19, .int .i64 at_2, .int .u32 turn2] 69 (0, 0)) :: (Lb29 ++ []))))) rfl Try.call32 rfl rfl rfl (pT ((fC (fC (fC (fC (fS fP))))).trans (pA pR)) (lp (ln rfl))) (slices_DeleteFunc_int_int_w hz50 hn78 h79) ?_; rintro _ F81 _ hF82 hd84 hn83 ⟨a85, n89, c86, Lb87, rfl, rfl, hz88⟩
 replace h20 := h20.mono (iE_ok _) hF82
 replace hz30 := hz30.mono (iE_ok _) hF82
 refine shO_L (lp (ln rfl)) ?_
 refine kO (kf (fS fO) (kf (fS fO) (kf (fS fO) (kf (fS fO) kr)))) ?_
 refine oa rfl rfl (nsr (oa rfl rfl (shO_nil ?_)))
 obtain ⟨mixed, h97, r98⟩ := b1_ok r80; clear r80
 refine shW_join (fun e1 F1 L1 => ∃ (a91 : Option Addr) (n95 : Nat) (c92 : Nat) (Lb93 : LH), FExt F81 F1 ∧ L1 = ((b54, .cells #[.int .i64 n2, .int .i64 n3] 31 (0, 0)) :: ((b34, .cells #[.int .i64 n, .slice a27 n31 c28] 27 (0, 0)) :: (Lb29 ++ (Lb87 ++ (Lb93 ++ []))))) ∧ e1.sub [(7, .pointer (some ⟨b34, 0, none⟩)), (8, .pointer (some ⟨b54, 0, none⟩)), (9, .slice a85 n89 c86), (12, .slice a91 n95 c92)] ∧ SlR K.w0.heap.size 3 1 (iE .i64) F1 a91 n95 c92 mixed Lb93) ?_ ?_
 · clear r98
   refine wsr (om rfl rfl (om rfl rfl ?_))
   refine ov ((v_lenS Try.underlying36 rfl).i (SlR.lenI hz88)) rfl ?_
   obtain ⟨l5, at_5, turn5, h99, r100⟩ := b3_ok h97; clear h97
   refine o_callG (Lb := [(b17, .cells #[.slice a18 metal2.length c19, .int .i64 at_2, .int .u32 turn2] 69 (0, 0))]) (Lr := (b54, .cells #[.int .i64 n2, .int .i64 n3] 31 (0, 0)) :: ((b7, .cells #[.slice a8 metal.length c9, .int .i64 at_4, .int .u32 turn4] 69 (0, 0)) :: ((b34, .cells #[.int .i64 n, .slice a27 n31 c28] 27 (0, 0)) :: (Lb87 ++ (Lb29 ++ []))))) rfl Try.call36 rfl rfl rfl (((fC (fC (fC fO))).trans (pC pR))) (oyezkit_Bell_Rung_w h20 h99) ?_; rintro _ F101 _ hF102 hd104 hn103 ⟨a105, n109, c106, Lb107, rfl, rfl, hz108⟩
   replace hz88 := hz88.mono (iE_ok _) hF102
   have hn111 := newp (Lb' := [(b17, .cells #[.slice a18 metal2.length c19, .int .i64 at_5, .int .u32 turn5] 69 (0, 0))]) (by rfl) hd104 hn103
   replace hz108 := hz108.new fun p hp => hn111 p (by simp [hp])
   refine shO_L (lb (lp (ln rfl))) ?_
   refine kO (kc (kf (fS fO) (kf (fS fO) (kf (fS fO) kr)))) ?_
   refine ov ((v_lenS Try.underlying36 rfl).i (SlR.lenI hz108)) rfl ?_
   refine om rfl rfl (shO_nil ?_)
   refine shW_block ?_
   refine kW (kd (kc (kd kr))) ?_
   refine shW_lp (fun fu1 e1 F1 L1 => ∃ (tl : List Int) (k : Int), tl.length = fu1 ∧ Lst l5 k tl ∧ ∃ (mixed2 : List Int) (a112 : Option Addr) (n116 : Nat) (c113 : Nat) (Lb114 : LH), oyezlaw01_HearMore_l1 l4 tl mixed2 = some mixed ∧ F101 = F1 ∧ L1 = ((b54, .cells #[.int .i64 n2, .int .i64 n3] 31 (0, 0)) :: ((b34, .cells #[.int .i64 n, .slice a27 n31 c28] 27 (0, 0)) :: (Lb29 ++ (Lb87 ++ (Lb114 ++ (Lb107 ++ [])))))) ∧ e1.sub [(7, .pointer (some ⟨b34, 0, none⟩)), (8, .pointer (some ⟨b54, 0, none⟩)), (9, .slice a85 n89 c86), (12, .slice a112 n116 c113), (54, .slice a105 n109 c106), (55, .int .i64 (l5.length : Int)), (56, .int .i64 k)] ∧ SlR K.w0.heap.size 3 1 (iE .i64) F1 a112 n116 c113 mixed2 Lb114) _ (m0 (kc (kc (kg (fS (fS fP)) (kg (fS fP) (ke kr))))) ⟨_, _, rfl, Lst.start _, [], none, 0, 0, [], r100, rfl, rfl, (sc rfl (sc rfl (sc rfl (sc rfl (sc rfl (sc rfl (sc rfl (sn _)))))))), SlR.nil _ _ _ _ _⟩) ?_
   rintro fu1 e1 _ _ ⟨tl, k, hn119, hk118, mixed2, a112, n116, c113, Lb114, r120, rfl, rfl, he121, hz115⟩
   refine shW_env _ he121 ?_; clear he121
   refine wsr ?_
   refine ov (v_lssK rfl rfl) rfl ?_
   refine shO_nil (shW_seq ?_)
   refine shW_condP rfl (fun c123 => ?_) (fun c123 => ?_)
   · obtain ⟨x, tl2, rfl, hx125, g126, hk124⟩ := Lst.succ hk118 c123
     rw [oyezlaw01_HearMore_l1] at r120
     refine shW_skip (shW_seq ?_)
     refine shW_block ?_
     refine wsr ?_
     obtain ⟨b127, o128, c129, vs130, ha131, hs132, hle133, rfl, hl134, hc135⟩ := SlR.at (iE_ok _) hz108 (L := (b54, .cells #[.int .i64 n2, .int .i64 n3] 31 (0, 0)) :: ((b34, .cells #[.int .i64 n, .slice a27 n31 c28] 27 (0, 0)) :: (Lb29 ++ (Lb87 ++ (Lb114 ++ (Lb107 ++ [])))))) (fC (fC (fS (fS (fS fP))))) g126.1 hx125
     refine ov (v_indexO Try.underlying36 Try.sizeOf3 rfl ha131 rfl (SlR.idx hz108 g126)) rfl ?_
     refine ov (v_load Try.isAgg3 rfl hs132 (hc135 0 (by decide))) rfl ?_
     refine oa rfl rfl (shO_nil (shW_region (om rfl rfl (om rfl rfl (om rfl rfl ?_)))))
     obtain ⟨x2, g136, hx137, r138⟩ := ix_ok r120; clear r120
     obtain ⟨b139, o140, c141, vs142, ha143, hs144, hle145, rfl, hl146, hc147⟩ := SlR.at (iE_ok _) hz88 (L := (b54, .cells #[.int .i64 n2, .int .i64 n3] 31 (0, 0)) :: ((b34, .cells #[.int .i64 n, .slice a27 n31 c28] 27 (0, 0)) :: (Lb29 ++ (Lb87 ++ (Lb114 ++ (Lb107 ++ [])))))) (fC (fC (fS fP))) g136.1 hx137
     refine ov (v_indexO Try.underlying36 Try.sizeOf3 rfl ha143 rfl (SlR.idx hz88 g136)) rfl ?_
     refine ov (v_load Try.isAgg3 rfl hs144 (hc147 0 (by decide))) rfl ?_
     refine o_buildSlice (cs := #[.int .i64 x2]) rfl rfl (buildSlice_all slt_36 [.int .i64 x2] rfl (by decide) (by simp [Value.cells]) (by decide)) ?_; intro b148 hb148
     obtain ⟨mixed3, h149, g150, r151⟩ := ap_ok r138; clear r138
     refine o_appZ (xs := mixed2) (ys := [x2]) (zs := mixed3) rfl slt_36 rfl rfl (Nat.le_refl _) (fun _ => .c (.c (.c (.s (.s .h))))) hz115 (SrcR.box (vss := [[.int .i64 x2]]) (ys := [x2]) 0 rfl (iE_ok _) (.cons rfl .nil) rfl rfl) h149 g150 (by decide) ?_; intro a152 n156 c153 Lb154 hz155
     refine kO (kd kr) ?_
     refine oa rfl rfl (shO_nil (inBlock_n (id := 1) (shW_region ?_)))
     refine ov (v_add rfl rfl (Lst.r64 hk118 c123 (SlR.llt hz108))) rfl ?_
     refine om rfl rfl (shO_nil ?_)
     subst hn119; exact le kr ⟨_, _, rfl, hk124, mixed3, a152, n156, c153, Lb154, r151, rfl, rfl, (sc rfl (sc rfl (sc rfl (sc rfl (sc rfl (sc rfl (sc rfl (sn _)))))))), hz155⟩
   obtain rfl := Lst.zero hk118 c123
   rw [oyezlaw01_HearMore_l1] at r120
   refine shW_exit (andThen_exit (andThen_exit ?_))
   refine inBlock_exit ?_
   obtain rfl := inj1 r120
   exact mi (kc (kc (ka (ka (ka kn))))) ⟨a112, n116, c113, Lb114, hF102, rfl, (sc rfl (sc rfl (sc rfl (sc rfl (sn _))))), hz115⟩
 rintro e1 F159 _ ⟨a91, n95, c92, Lb93, hF160, rfl, he158, hz94⟩
 refine shW_env _ he158 ?_; clear he158
 replace hz30 := hz30.mono (iE_ok _) hF160
 replace hz88 := hz88.mono (iE_ok _) hF160
 refine wsr ?_
 refine ov (v_loadA (cs := #[.int .i64 n, .slice a27 n31 c28]) Try.isAgg27 Try.sizeOf27 rfl (Has.own 1 rfl) (Nat.le_of_ble_eq_true rfl) rfl) rfl ?_
 refine ov (v_loadA (cs := #[.int .i64 n2, .int .i64 n3]) Try.isAgg31 Try.sizeOf31 rfl (Has.own 0 rfl) (Nat.le_of_ble_eq_true rfl) rfl) rfl ?_
 refine om rfl rfl ?_
 obtain ⟨l6, n5, h161, r162⟩ := b2_ok r98; clear r98
 refine o_callTO (Lb := []) (Lt := Lb29 ++ (Lb87 ++ [])) (Lr := (b54, .cells #[.int .i64 n2, .int .i64 n3] 31 (0, 0)) :: ((b34, .cells #[.int .i64 n, .slice a27 n31 c28] 27 (0, 0)) :: (Lb93 ++ []))) rfl Try.call15 rfl rfl rfl (pT ((fC (fC fP)).trans (pA ((fC (fC fP)).trans (pA pR)))) (ln (lp (lp (ln rfl))))) (fun F2 h2 h3 => by rw [(SlR.caps hz30).1]; rw [(SlR.caps hz88).1]; exact hear_Fewest_w (hz30.row (iE_ok _) h2 (fun p hp => h3 p (List.mem_append_left _ hp))) (hz88.row (iE_ok _) h2 (fun p hp => h3 p (List.mem_append_right _ (List.mem_append_left _ hp)))) h161) (fun _ _ _ _ hq => by obtain ⟨a167, n171, c168, Lb169, rfl, rfl, hz170⟩ := hq; exact ⟨_, _, _, _, rfl, rfl, hz170.flat (fun _ _ h => h)⟩) ?_; rintro _ F163 _ hF164 hd166 hn165 ⟨a167, n171, c168, Lb169, rfl, rfl, hz170⟩
 replace hz30 := hz30.mono (iE_ok _) hF164
 replace hz88 := hz88.mono (iE_ok _) hF164
 replace hz94 := hz94.mono (iE_ok _) hF164
 have hn173 := newp (Lb' := []) (by rfl) hd166 hn165
 replace hz170 := hz170.new fun p hp => hn173 p (by simp [hp])
 refine shO_L (lp (ln (lp (lp (ln rfl))))) ?_
 refine kO (kf (fS (fS (fS fO))) (kf (fS (fS (fS fO))) kr)) ?_
 refine om rfl rfl (ox rfl rfl rfl (ox rfl rfl rfl ?_))
 refine o_alloc rfl Try.zeroValue36 ?_; intro b174 hb174
 refine o_store (i := 0) Try.sizeOf36 rfl rfl rfl rfl (Nat.le_of_ble_eq_true rfl) ?_
 refine shO_L (L' := (b174, .cells #[.slice a167 n171 c168] 36 (0, 0)) :: ((b54, .cells #[.int .i64 n2, .int .i64 n3] 31 (0, 0)) :: ((b34, .cells #[.int .i64 n, .slice a27 n31 c28] 27 (0, 0)) :: (Lb169 ++ (Lb29 ++ (Lb87 ++ (Lb93 ++ []))))))) rfl ?_
 refine oa rfl rfl (nsr ?_)
 refine ov (v_loadA (cs := #[.int .i64 n, .slice a27 n31 c28]) Try.isAgg27 Try.sizeOf27 rfl (Has.own 2 rfl) (Nat.le_of_ble_eq_true rfl) rfl) rfl ?_
 refine ov (v_loadA (cs := #[.int .i64 n2, .int .i64 n3]) Try.isAgg31 Try.sizeOf31 rfl (Has.own 1 rfl) (Nat.le_of_ble_eq_true rfl) rfl) rfl ?_
 refine om rfl rfl ?_
 obtain ⟨l7, n6, h175, r176⟩ := b2_ok r162; clear r162
 refine o_callTO (Lb := []) (Lt := Lb29 ++ (Lb93 ++ [])) (Lr := (b174, .cells #[.slice a167 n171 c168] 36 (0, 0)) :: ((b54, .cells #[.int .i64 n2, .int .i64 n3] 31 (0, 0)) :: ((b34, .cells #[.int .i64 n, .slice a27 n31 c28] 27 (0, 0)) :: (Lb169 ++ (Lb87 ++ []))))) rfl Try.call15 rfl rfl rfl (pT ((fC (fC (fC (fS fP)))).trans (pA ((fC (fC (fC (fS (fS fP))))).trans (pA pR)))) (ln (lp (lp (ln rfl))))) (fun F2 h2 h3 => by rw [(SlR.caps hz30).1]; rw [(SlR.caps hz94).1]; exact hear_Fewest_w (hz30.row (iE_ok _) h2 (fun p hp => h3 p (List.mem_append_left _ hp))) (hz94.row (iE_ok _) h2 (fun p hp => h3 p (List.mem_append_right _ (List.mem_append_left _ hp)))) h175) (fun _ _ _ _ hq => by obtain ⟨a181, n185, c182, Lb183, rfl, rfl, hz184⟩ := hq; exact ⟨_, _, _, _, rfl, rfl, hz184.flat (fun _ _ h => h)⟩) ?_; rintro _ F177 _ hF178 hd180 hn179 ⟨a181, n185, c182, Lb183, rfl, rfl, hz184⟩
 replace hz30 := hz30.mono (iE_ok _) hF178
 replace hz88 := hz88.mono (iE_ok _) hF178
 replace hz94 := hz94.mono (iE_ok _) hF178
 replace hz170 := hz170.mono (iE_ok _) hF178
 have hn187 := newp (Lb' := []) (by rfl) hd180 hn179
 replace hz184 := hz184.new fun p hp => hn187 p (by simp [hp])
 refine shO_L (lp (ln (lp (lp (ln rfl))))) ?_
 refine kO (kf (fS (fS (fS fO))) (kf (fS (fS (fS fO))) (kf (fS (fS (fS fO))) kr))) ?_
 refine om rfl rfl (ox rfl rfl rfl (ox rfl rfl rfl (oa rfl rfl (oa rfl rfl (nsr ?_)))))
 refine ov (v_loadA (cs := #[.int .i64 n, .slice a27 n31 c28]) Try.isAgg27 Try.sizeOf27 rfl (Has.own 2 rfl) (Nat.le_of_ble_eq_true rfl) rfl) rfl ?_
 refine ov (v_loadA (cs := #[.int .i64 n2, .int .i64 n3]) Try.isAgg31 Try.sizeOf31 rfl (Has.own 1 rfl) (Nat.le_of_ble_eq_true rfl) rfl) rfl ?_
 refine om rfl rfl ?_
 obtain ⟨l8, n7, h188, r189⟩ := b2_ok r176; clear r176
 refine o_callTO (Lb := []) (Lt := Lb29 ++ (Lb87 ++ [])) (Lr := (b174, .cells #[.slice a167 n171 c168] 36 (0, 0)) :: ((b54, .cells #[.int .i64 n2, .int .i64 n3] 31 (0, 0)) :: ((b34, .cells #[.int .i64 n, .slice a27 n31 c28] 27 (0, 0)) :: (Lb183 ++ (Lb93 ++ (Lb169 ++ [])))))) rfl Try.call16 rfl rfl rfl (pT ((fC (fC (fC (fS fP)))).trans (pA ((fC (fC (fC (fS (fS (fS fP)))))).trans (pA pR)))) (ln (lp (lp (ln rfl))))) (fun F2 h2 h3 => by rw [(SlR.caps hz30).1]; rw [(SlR.caps hz88).1]; exact hear_Apart_w (hz30.row (iE_ok _) h2 (fun p hp => h3 p (List.mem_append_left _ hp))) (hz88.row (iE_ok _) h2 (fun p hp => h3 p (List.mem_append_right _ (List.mem_append_left _ hp)))) h188) (fun _ _ _ _ hq => by obtain ⟨a194, n198, c195, Lb196, rfl, rfl, hz197⟩ := hq; exact ⟨_, _, _, _, rfl, rfl, hz197.flat (fun _ _ h => h)⟩) ?_; rintro _ F190 _ hF191 hd193 hn192 ⟨a194, n198, c195, Lb196, rfl, rfl, hz197⟩
 replace hz30 := hz30.mono (iE_ok _) hF191
 replace hz88 := hz88.mono (iE_ok _) hF191
 replace hz94 := hz94.mono (iE_ok _) hF191
 replace hz170 := hz170.mono (iE_ok _) hF191
 replace hz184 := hz184.mono (iE_ok _) hF191
 have hn200 := newp (Lb' := []) (by rfl) hd193 hn192
 replace hz197 := hz197.new fun p hp => hn200 p (by simp [hp])
 refine shO_L (lp (ln (lp (lp (ln rfl))))) ?_
 refine kO (kf (fS (fS (fS fO))) (kf (fS (fS (fS fO))) (kf (fS (fS (fS fO))) kr))) ?_
 refine om rfl rfl (ox rfl rfl rfl (ox rfl rfl rfl (oa rfl rfl (oa rfl rfl (nsr ?_)))))
 refine ov (v_loadA (cs := #[.int .i64 n, .slice a27 n31 c28]) Try.isAgg27 Try.sizeOf27 rfl (Has.own 2 rfl) (Nat.le_of_ble_eq_true rfl) rfl) rfl ?_
 refine ov (v_loadA (cs := #[.int .i64 n2, .int .i64 n3]) Try.isAgg31 Try.sizeOf31 rfl (Has.own 1 rfl) (Nat.le_of_ble_eq_true rfl) rfl) rfl ?_
 refine om rfl rfl ?_
 obtain ⟨l9, n8, h201, r202⟩ := b2_ok r189; clear r189
 refine o_callTO (Lb := []) (Lt := Lb29 ++ (Lb93 ++ [])) (Lr := (b174, .cells #[.slice a167 n171 c168] 36 (0, 0)) :: ((b54, .cells #[.int .i64 n2, .int .i64 n3] 31 (0, 0)) :: ((b34, .cells #[.int .i64 n, .slice a27 n31 c28] 27 (0, 0)) :: (Lb196 ++ (Lb87 ++ (Lb183 ++ (Lb169 ++ []))))))) rfl Try.call16 rfl rfl rfl (pT ((fC (fC (fC (fS fP)))).trans (pA ((fC (fC (fC (fS (fS (fS fP)))))).trans (pA pR)))) (ln (lp (lp (ln rfl))))) (fun F2 h2 h3 => by rw [(SlR.caps hz30).1]; rw [(SlR.caps hz94).1]; exact hear_Apart_w (hz30.row (iE_ok _) h2 (fun p hp => h3 p (List.mem_append_left _ hp))) (hz94.row (iE_ok _) h2 (fun p hp => h3 p (List.mem_append_right _ (List.mem_append_left _ hp)))) h201) (fun _ _ _ _ hq => by obtain ⟨a207, n211, c208, Lb209, rfl, rfl, hz210⟩ := hq; exact ⟨_, _, _, _, rfl, rfl, hz210.flat (fun _ _ h => h)⟩) ?_; rintro _ F203 _ hF204 hd206 hn205 ⟨a207, n211, c208, Lb209, rfl, rfl, hz210⟩
 replace hz30 := hz30.mono (iE_ok _) hF204
 replace hz88 := hz88.mono (iE_ok _) hF204
 replace hz94 := hz94.mono (iE_ok _) hF204
 replace hz170 := hz170.mono (iE_ok _) hF204
 replace hz184 := hz184.mono (iE_ok _) hF204
 replace hz197 := hz197.mono (iE_ok _) hF204
 have hn213 := newp (Lb' := []) (by rfl) hd206 hn205
 replace hz210 := hz210.new fun p hp => hn213 p (by simp [hp])
 refine shO_L (lp (ln (lp (lp (ln rfl))))) ?_
 refine kO (kf (fS (fS (fS fO))) (kf (fS (fS (fS fO))) (kf (fS (fS (fS fO))) kr))) ?_
 refine om rfl rfl (ox rfl rfl rfl (ox rfl rfl rfl (oa rfl rfl (oa rfl rfl (nsr ?_)))))
 refine ov (v_loadA (cs := #[.int .i64 n, .slice a27 n31 c28]) Try.isAgg27 Try.sizeOf27 rfl (Has.own 2 rfl) (Nat.le_of_ble_eq_true rfl) rfl) rfl ?_
 refine ov (v_loadA (cs := #[.int .i64 n2, .int .i64 n3]) Try.isAgg31 Try.sizeOf31 rfl (Has.own 1 rfl) (Nat.le_of_ble_eq_true rfl) rfl) rfl ?_
 refine om rfl rfl ?_
 obtain ⟨l10, n9, h214, r215⟩ := b2_ok r202; clear r202
 refine o_callTO (Lb := []) (Lt := Lb29 ++ (Lb93 ++ [])) (Lr := (b174, .cells #[.slice a167 n171 c168] 36 (0, 0)) :: ((b54, .cells #[.int .i64 n2, .int .i64 n3] 31 (0, 0)) :: ((b34, .cells #[.int .i64 n, .slice a27 n31 c28] 27 (0, 0)) :: (Lb209 ++ (Lb196 ++ (Lb87 ++ (Lb183 ++ (Lb169 ++ [])))))))) rfl Try.call30 rfl rfl rfl (pT ((fC (fC (fC (fS fP)))).trans (pA ((fC (fC (fC (fS fP)))).trans (pA pR)))) (ln (lp (lp (ln rfl))))) (fun F2 h2 h3 => by rw [(SlR.caps hz30).1]; rw [(SlR.caps hz94).1]; exact hear_Must_w (hz30.row (iE_ok _) h2 (fun p hp => h3 p (List.mem_append_left _ hp))) (hz94.row (iE_ok _) h2 (fun p hp => h3 p (List.mem_append_right _ (List.mem_append_left _ hp)))) h214) (fun _ _ _ _ hq => by obtain ⟨a220, n224, c221, Lb222, rfl, rfl, hz223⟩ := hq; exact ⟨_, _, _, _, rfl, rfl, hz223.flat (fun _ _ h => h)⟩) ?_; rintro _ F216 _ hF217 hd219 hn218 ⟨a220, n224, c221, Lb222, rfl, rfl, hz223⟩
 replace hz30 := hz30.mono (iE_ok _) hF217
 replace hz88 := hz88.mono (iE_ok _) hF217
 replace hz94 := hz94.mono (iE_ok _) hF217
 replace hz170 := hz170.mono (iE_ok _) hF217
 replace hz184 := hz184.mono (iE_ok _) hF217
 replace hz197 := hz197.mono (iE_ok _) hF217
 replace hz210 := hz210.mono (iE_ok _) hF217
 have hn226 := newp (Lb' := []) (by rfl) hd219 hn218
 replace hz223 := hz223.new fun p hp => hn226 p (by simp [hp])
 refine shO_L (lp (ln (lp (lp (ln rfl))))) ?_
 refine kO (kf (fS (fS (fS fO))) (kf (fS (fS (fS fO))) (kf (fS (fS (fS fO))) kr))) ?_
 refine om rfl rfl (ox rfl rfl rfl (ox rfl rfl rfl ?_))
 refine o_alloc rfl Try.zeroValue36 ?_; intro b227 hb227
 refine o_store (i := 0) Try.sizeOf36 rfl rfl rfl rfl (Nat.le_of_ble_eq_true rfl) ?_
 refine shO_L (L' := (b227, .cells #[.slice a220 n224 c221] 36 (0, 0)) :: ((b174, .cells #[.slice a167 n171 c168] 36 (0, 0)) :: ((b54, .cells #[.int .i64 n2, .int .i64 n3] 31 (0, 0)) :: ((b34, .cells #[.int .i64 n, .slice a27 n31 c28] 27 (0, 0)) :: (Lb222 ++ (Lb29 ++ (Lb93 ++ (Lb209 ++ (Lb196 ++ (Lb87 ++ (Lb183 ++ (Lb169 ++ [])))))))))))) rfl ?_
 refine oa rfl rfl (shO_nil (shW_seq ?_))
 obtain ⟨x3, k2, h274, r275⟩ := b2_ok r215; clear r215
 refine shW_joinF (fun e1 F1 L1 => ∃ (a271 : Option Addr) (c272 : Nat), FExt F216 F1 ∧ L1 = ((b227, .cells #[.slice a220 n224 c221] 36 (0, 0)) :: ((b54, .cells #[.int .i64 n2, .int .i64 n3] 31 (0, 0)) :: ((b34, .cells #[.int .i64 n, .slice a27 n31 c28] 27 (0, 0)) :: (Lb29 ++ (Lb87 ++ (Lb93 ++ (Lb196 ++ (Lb222 ++ [])))))))) ∧ e1.sub [(7, .pointer (some ⟨b34, 0, none⟩)), (8, .pointer (some ⟨b54, 0, none⟩)), (9, .slice a85 n89 c86), (12, .slice a91 n95 c92), (15, .pointer (some ⟨b174, 0, none⟩)), (18, .slice a194 n198 c195), (22, .pointer (some ⟨b227, 0, none⟩)), (137, .bool k2)] ∧ RowR 1 (iE .i64) F1 a271 c272 x3 ∧ F1 b174 = some (.cells #[.slice a271 x3.length c272] 36 (0, 0))) ?_ ?_
 · clear r275
   refine shW_region (om rfl rfl ?_)
   refine ov (v_neq rfl rfl) rfl ?_
   refine om rfl rfl ?_
   by_cases c276 : n5 ≠ 0
   · have r277 := ite_t h274 c276; clear h274
     refine shO_off (b' := true) 105 rfl (Env.isT rfl c276) rfl rfl (shO_off (b' := true) 105 rfl (Env.isT rfl c276) rfl rfl ?_)
     refine ov (v_pick_t (evD_true rfl c276) rfl) rfl ?_
     refine om rfl rfl (shO_off (b' := true) 109 rfl rfl rfl rfl (shO_off (b' := true) 109 rfl rfl rfl rfl ?_))
     refine ov (v_pick_t rfl rfl) rfl ?_
     refine om rfl rfl (shO_off (b' := true) 113 rfl rfl rfl rfl (shO_off (b' := true) 113 rfl rfl rfl rfl ?_))
     refine ov (v_pick_t rfl rfl) rfl ?_
     refine om rfl rfl (shO_off (b' := true) 117 rfl rfl rfl rfl (shO_off (b' := true) 117 rfl rfl rfl rfl ?_))
     refine ov (v_pick_t rfl rfl) rfl ?_
     refine om rfl rfl (shO_off (b' := true) 121 rfl rfl rfl rfl (shO_off (b' := true) 121 rfl rfl rfl rfl (shO_off (b' := true) 121 rfl rfl rfl rfl (shO_off (b' := true) 121 rfl rfl rfl rfl ?_))))
     refine ov (v_pick_t rfl rfl) rfl ?_
     refine om rfl rfl (shO_off (b' := true) 127 rfl rfl rfl rfl (shO_off (b' := true) 127 rfl rfl rfl rfl (shO_off (b' := true) 127 rfl rfl rfl rfl (shO_off (b' := true) 127 rfl rfl rfl rfl ?_))))
     refine ov (v_pick_t rfl rfl) rfl ?_
     refine om rfl rfl (shO_off (b' := true) 133 rfl rfl rfl rfl (shO_off (b' := true) 133 rfl rfl rfl rfl (shO_off (b' := true) 133 rfl rfl rfl rfl ?_)))
     refine ov (v_pick_t rfl rfl) rfl ?_
     refine shO_nil ?_
     obtain rfl := (SlR.caps hz170).1
     refine shmz_freezeR (Nat.le_refl _) (iE_ok _) (fC (fC (fC (fC (fS (fS (fS (fS (fS (fS (fS fP))))))))))) hz170 ?_; intro F278 hF279 h280
     refine shmz_freeze 1 rfl hb174 ?_; intro F281 hF282 hz283
     refine shmz_L (L' := (b227, .cells #[.slice a220 n224 c221] 36 (0, 0)) :: ((b54, .cells #[.int .i64 n2, .int .i64 n3] 31 (0, 0)) :: ((b34, .cells #[.int .i64 n, .slice a27 n31 c28] 27 (0, 0)) :: (Lb222 ++ (Lb29 ++ (Lb93 ++ (Lb209 ++ (Lb196 ++ (Lb87 ++ (Lb183 ++ [])))))))))) rfl ?_
     replace h280 := h280.mono (iE_ok _) hF282
     obtain ⟨rfl, rfl⟩ := inj2 r277
     exact mf (kc (kc (kc (kg (fS fP) (kg (fS (fS (fS (fS fP)))) (kg (fS fP) (kg (fS (fS fP)) (ka kn)))))))) ⟨a167, c168, (hF279.trans hF282), rfl, (sc rfl (sc rfl (sc rfl (sc rfl (sc rfl (sc rfl (sc rfl (sc rfl (sn _))))))))), h280, hz283⟩
   have r284 := ite_f h274 c276; clear h274
   refine shO_on (b := false) 105 rfl (Env.isF rfl c276) (om rfl rfl (shO_on (b := false) 105 rfl (Env.isF rfl c276) ?_))
   refine ov (v_neq rfl rfl) rfl ?_
   refine ov (v_pick_f (evD_false rfl c276) rfl) rfl ?_
   refine om rfl rfl ?_
   by_cases c285 : n6 ≠ 0
   · have r286 := ite_t r284 c285; clear r284
     refine shO_off (b' := true) 109 rfl (Env.isT rfl c285) rfl rfl (shO_off (b' := true) 109 rfl (Env.isT rfl c285) rfl rfl ?_)
     refine ov (v_pick_t (evD_true rfl c285) rfl) rfl ?_
     refine om rfl rfl (shO_off (b' := true) 113 rfl rfl rfl rfl (shO_off (b' := true) 113 rfl rfl rfl rfl ?_))
     refine ov (v_pick_t rfl rfl) rfl ?_
     refine om rfl rfl (shO_off (b' := true) 117 rfl rfl rfl rfl (shO_off (b' := true) 117 rfl rfl rfl rfl ?_))
     refine ov (v_pick_t rfl rfl) rfl ?_
     refine om rfl rfl (shO_off (b' := true) 121 rfl rfl rfl rfl (shO_off (b' := true) 121 rfl rfl rfl rfl (shO_off (b' := true) 121 rfl rfl rfl rfl (shO_off (b' := true) 121 rfl rfl rfl rfl ?_))))
     refine ov (v_pick_t rfl rfl) rfl ?_
     refine om rfl rfl (shO_off (b' := true) 127 rfl rfl rfl rfl (shO_off (b' := true) 127 rfl rfl rfl rfl (shO_off (b' := true) 127 rfl rfl rfl rfl (shO_off (b' := true) 127 rfl rfl rfl rfl ?_))))
     refine ov (v_pick_t rfl rfl) rfl ?_
     refine om rfl rfl (shO_off (b' := true) 133 rfl rfl rfl rfl (shO_off (b' := true) 133 rfl rfl rfl rfl (shO_off (b' := true) 133 rfl rfl rfl rfl ?_)))
     refine ov (v_pick_t rfl rfl) rfl ?_
     refine shO_nil ?_
     obtain rfl := (SlR.caps hz170).1
     refine shmz_freezeR (Nat.le_refl _) (iE_ok _) (fC (fC (fC (fC (fS (fS (fS (fS (fS (fS (fS fP))))))))))) hz170 ?_; intro F287 hF288 h289
     refine shmz_freeze 1 rfl hb174 ?_; intro F290 hF291 hz292
     refine shmz_L (L' := (b227, .cells #[.slice a220 n224 c221] 36 (0, 0)) :: ((b54, .cells #[.int .i64 n2, .int .i64 n3] 31 (0, 0)) :: ((b34, .cells #[.int .i64 n, .slice a27 n31 c28] 27 (0, 0)) :: (Lb222 ++ (Lb29 ++ (Lb93 ++ (Lb209 ++ (Lb196 ++ (Lb87 ++ (Lb183 ++ [])))))))))) rfl ?_
     replace h289 := h289.mono (iE_ok _) hF291
     obtain ⟨rfl, rfl⟩ := inj2 r286
     exact mf (kc (kc (kc (kg (fS fP) (kg (fS (fS (fS (fS fP)))) (kg (fS fP) (kg (fS (fS fP)) (ka kn)))))))) ⟨a167, c168, (hF288.trans hF291), rfl, (sc rfl (sc rfl (sc rfl (sc rfl (sc rfl (sc rfl (sc rfl (sc rfl (sn _))))))))), h289, hz292⟩
   have r293 := ite_f r284 c285; clear r284
   refine shO_on (b := false) 109 rfl (Env.isF rfl c285) (om rfl rfl (shO_on (b := false) 109 rfl (Env.isF rfl c285) ?_))
   refine ov (v_neq rfl rfl) rfl ?_
   refine ov (v_pick_f (evD_false rfl c285) rfl) rfl ?_
   refine om rfl rfl ?_
   by_cases c294 : n7 ≠ 0
   · have r295 := ite_t r293 c294; clear r293
     refine shO_off (b' := true) 113 rfl (Env.isT rfl c294) rfl rfl (shO_off (b' := true) 113 rfl (Env.isT rfl c294) rfl rfl ?_)
     refine ov (v_pick_t (evD_true rfl c294) rfl) rfl ?_
     refine om rfl rfl (shO_off (b' := true) 117 rfl rfl rfl rfl (shO_off (b' := true) 117 rfl rfl rfl rfl ?_))
     refine ov (v_pick_t rfl rfl) rfl ?_
     refine om rfl rfl (shO_off (b' := true) 121 rfl rfl rfl rfl (shO_off (b' := true) 121 rfl rfl rfl rfl (shO_off (b' := true) 121 rfl rfl rfl rfl (shO_off (b' := true) 121 rfl rfl rfl rfl ?_))))
     refine ov (v_pick_t rfl rfl) rfl ?_
     refine om rfl rfl (shO_off (b' := true) 127 rfl rfl rfl rfl (shO_off (b' := true) 127 rfl rfl rfl rfl (shO_off (b' := true) 127 rfl rfl rfl rfl (shO_off (b' := true) 127 rfl rfl rfl rfl ?_))))
     refine ov (v_pick_t rfl rfl) rfl ?_
     refine om rfl rfl (shO_off (b' := true) 133 rfl rfl rfl rfl (shO_off (b' := true) 133 rfl rfl rfl rfl (shO_off (b' := true) 133 rfl rfl rfl rfl ?_)))
     refine ov (v_pick_t rfl rfl) rfl ?_
     refine shO_nil ?_
     obtain rfl := (SlR.caps hz170).1
     refine shmz_freezeR (Nat.le_refl _) (iE_ok _) (fC (fC (fC (fC (fS (fS (fS (fS (fS (fS (fS fP))))))))))) hz170 ?_; intro F296 hF297 h298
     refine shmz_freeze 1 rfl hb174 ?_; intro F299 hF300 hz301
     refine shmz_L (L' := (b227, .cells #[.slice a220 n224 c221] 36 (0, 0)) :: ((b54, .cells #[.int .i64 n2, .int .i64 n3] 31 (0, 0)) :: ((b34, .cells #[.int .i64 n, .slice a27 n31 c28] 27 (0, 0)) :: (Lb222 ++ (Lb29 ++ (Lb93 ++ (Lb209 ++ (Lb196 ++ (Lb87 ++ (Lb183 ++ [])))))))))) rfl ?_
     replace h298 := h298.mono (iE_ok _) hF300
     obtain ⟨rfl, rfl⟩ := inj2 r295
     exact mf (kc (kc (kc (kg (fS fP) (kg (fS (fS (fS (fS fP)))) (kg (fS fP) (kg (fS (fS fP)) (ka kn)))))))) ⟨a167, c168, (hF297.trans hF300), rfl, (sc rfl (sc rfl (sc rfl (sc rfl (sc rfl (sc rfl (sc rfl (sc rfl (sn _))))))))), h298, hz301⟩
   have r302 := ite_f r293 c294; clear r293
   refine shO_on (b := false) 113 rfl (Env.isF rfl c294) (om rfl rfl (shO_on (b := false) 113 rfl (Env.isF rfl c294) ?_))
   refine ov (v_neq rfl rfl) rfl ?_
   refine ov (v_pick_f (evD_false rfl c294) rfl) rfl ?_
   refine om rfl rfl ?_
   by_cases c303 : n8 ≠ 0
   · have r304 := ite_t r302 c303; clear r302
     refine shO_off (b' := true) 117 rfl (Env.isT rfl c303) rfl rfl (shO_off (b' := true) 117 rfl (Env.isT rfl c303) rfl rfl ?_)
     refine ov (v_pick_t (evD_true rfl c303) rfl) rfl ?_
     refine om rfl rfl (shO_off (b' := true) 121 rfl rfl rfl rfl (shO_off (b' := true) 121 rfl rfl rfl rfl (shO_off (b' := true) 121 rfl rfl rfl rfl (shO_off (b' := true) 121 rfl rfl rfl rfl ?_))))
     refine ov (v_pick_t rfl rfl) rfl ?_
     refine om rfl rfl (shO_off (b' := true) 127 rfl rfl rfl rfl (shO_off (b' := true) 127 rfl rfl rfl rfl (shO_off (b' := true) 127 rfl rfl rfl rfl (shO_off (b' := true) 127 rfl rfl rfl rfl ?_))))
     refine ov (v_pick_t rfl rfl) rfl ?_
     refine om rfl rfl (shO_off (b' := true) 133 rfl rfl rfl rfl (shO_off (b' := true) 133 rfl rfl rfl rfl (shO_off (b' := true) 133 rfl rfl rfl rfl ?_)))
     refine ov (v_pick_t rfl rfl) rfl ?_
     refine shO_nil ?_
     obtain rfl := (SlR.caps hz170).1
     refine shmz_freezeR (Nat.le_refl _) (iE_ok _) (fC (fC (fC (fC (fS (fS (fS (fS (fS (fS (fS fP))))))))))) hz170 ?_; intro F305 hF306 h307
     refine shmz_freeze 1 rfl hb174 ?_; intro F308 hF309 hz310
     refine shmz_L (L' := (b227, .cells #[.slice a220 n224 c221] 36 (0, 0)) :: ((b54, .cells #[.int .i64 n2, .int .i64 n3] 31 (0, 0)) :: ((b34, .cells #[.int .i64 n, .slice a27 n31 c28] 27 (0, 0)) :: (Lb222 ++ (Lb29 ++ (Lb93 ++ (Lb209 ++ (Lb196 ++ (Lb87 ++ (Lb183 ++ [])))))))))) rfl ?_
     replace h307 := h307.mono (iE_ok _) hF309
     obtain ⟨rfl, rfl⟩ := inj2 r304
     exact mf (kc (kc (kc (kg (fS fP) (kg (fS (fS (fS (fS fP)))) (kg (fS fP) (kg (fS (fS fP)) (ka kn)))))))) ⟨a167, c168, (hF306.trans hF309), rfl, (sc rfl (sc rfl (sc rfl (sc rfl (sc rfl (sc rfl (sc rfl (sc rfl (sn _))))))))), h307, hz310⟩
   have r311 := ite_f r302 c303; clear r302
   refine shO_on (b := false) 117 rfl (Env.isF rfl c303) (om rfl rfl (shO_on (b := false) 117 rfl (Env.isF rfl c303) ?_))
   refine ov (v_neq rfl rfl) rfl ?_
   refine ov (v_pick_f (evD_false rfl c303) rfl) rfl ?_
   refine om rfl rfl ?_
   by_cases c312 : n9 ≠ 0
   · have r313 := ite_t r311 c312; clear r311
     refine shO_off (b' := true) 121 rfl (Env.isT rfl c312) rfl rfl (shO_off (b' := true) 121 rfl (Env.isT rfl c312) rfl rfl (shO_off (b' := true) 121 rfl (Env.isT rfl c312) rfl rfl (shO_off (b' := true) 121 rfl (Env.isT rfl c312) rfl rfl ?_)))
     refine ov (v_pick_t (evD_true rfl c312) rfl) rfl ?_
     refine om rfl rfl (shO_off (b' := true) 127 rfl rfl rfl rfl (shO_off (b' := true) 127 rfl rfl rfl rfl (shO_off (b' := true) 127 rfl rfl rfl rfl (shO_off (b' := true) 127 rfl rfl rfl rfl ?_))))
     refine ov (v_pick_t rfl rfl) rfl ?_
     refine om rfl rfl (shO_off (b' := true) 133 rfl rfl rfl rfl (shO_off (b' := true) 133 rfl rfl rfl rfl (shO_off (b' := true) 133 rfl rfl rfl rfl ?_)))
     refine ov (v_pick_t rfl rfl) rfl ?_
     refine shO_nil ?_
     obtain rfl := (SlR.caps hz170).1
     refine shmz_freezeR (Nat.le_refl _) (iE_ok _) (fC (fC (fC (fC (fS (fS (fS (fS (fS (fS (fS fP))))))))))) hz170 ?_; intro F314 hF315 h316
     refine shmz_freeze 1 rfl hb174 ?_; intro F317 hF318 hz319
     refine shmz_L (L' := (b227, .cells #[.slice a220 n224 c221] 36 (0, 0)) :: ((b54, .cells #[.int .i64 n2, .int .i64 n3] 31 (0, 0)) :: ((b34, .cells #[.int .i64 n, .slice a27 n31 c28] 27 (0, 0)) :: (Lb222 ++ (Lb29 ++ (Lb93 ++ (Lb209 ++ (Lb196 ++ (Lb87 ++ (Lb183 ++ [])))))))))) rfl ?_
     replace h316 := h316.mono (iE_ok _) hF318
     obtain ⟨rfl, rfl⟩ := inj2 r313
     exact mf (kc (kc (kc (kg (fS fP) (kg (fS (fS (fS (fS fP)))) (kg (fS fP) (kg (fS (fS fP)) (ka kn)))))))) ⟨a167, c168, (hF315.trans hF318), rfl, (sc rfl (sc rfl (sc rfl (sc rfl (sc rfl (sc rfl (sc rfl (sc rfl (sn _))))))))), h316, hz319⟩
   have r320 := ite_f r311 c312; clear r311
   refine shO_on (b := false) 121 rfl (Env.isF rfl c312) ?_
   refine ov (v_load Try.isAgg36 rfl (Has.own 1 rfl) rfl) rfl ?_
   refine shO_on (b := false) 121 rfl (Env.isF rfl c312) (om rfl rfl (shO_on (b := false) 121 rfl (Env.isF rfl c312) ?_))
   obtain ⟨ok, h321, r322⟩ := b1_ok r320; clear r320
   refine o_callT (Lt := Lb169 ++ (Lb183 ++ [])) (Lr := (b227, .cells #[.slice a220 n224 c221] 36 (0, 0)) :: ((b174, .cells #[.slice a167 n171 c168] 36 (0, 0)) :: ((b54, .cells #[.int .i64 n2, .int .i64 n3] 31 (0, 0)) :: ((b34, .cells #[.int .i64 n, .slice a27 n31 c28] 27 (0, 0)) :: (Lb222 ++ (Lb29 ++ (Lb93 ++ (Lb209 ++ (Lb196 ++ (Lb87 ++ [])))))))))) rfl Try.call37 rfl rfl rfl (pT ((fC (fC (fC (fC (fS (fS (fS (fS (fS (fS (fS fP))))))))))).trans (pA ((fC (fC (fC (fC (fS (fS (fS (fS (fS (fS fP)))))))))).trans (pA pR)))) (lp (lp (ln rfl)))) (fun F2 h2 h3 => by rw [(SlR.caps hz170).1]; rw [(SlR.caps hz184).1]; exact oyezkit_Like_int_w (hz170.row (iE_ok _) h2 (fun p hp => h3 p (List.mem_append_left _ hp))) (hz184.row (iE_ok _) h2 (fun p hp => h3 p (List.mem_append_right _ (List.mem_append_left _ hp)))) h321) ?_
   refine shO_on (b := false) 121 rfl (Env.isF rfl c312) ?_
   refine ov (v_notB rfl) rfl ?_
   refine ov (v_pick_f (evD_false rfl c312) rfl) rfl ?_
   refine om rfl rfl ?_
   rcases bool_two (!ok) with c323 | c323
   · have r324 := bt r322 c323; clear r322
     refine shO_off (b' := true) 127 rfl (EnvB rfl c323) rfl rfl (shO_off (b' := true) 127 rfl (EnvB rfl c323) rfl rfl (shO_off (b' := true) 127 rfl (EnvB rfl c323) rfl rfl (shO_off (b' := true) 127 rfl (EnvB rfl c323) rfl rfl ?_)))
     refine ov (v_pick_t (evB rfl c323) rfl) rfl ?_
     refine om rfl rfl (shO_off (b' := true) 133 rfl rfl rfl rfl (shO_off (b' := true) 133 rfl rfl rfl rfl (shO_off (b' := true) 133 rfl rfl rfl rfl ?_)))
     refine ov (v_pick_t rfl rfl) rfl ?_
     refine shO_nil ?_
     obtain rfl := (SlR.caps hz170).1
     refine shmz_freezeR (Nat.le_refl _) (iE_ok _) (fC (fC (fC (fC (fS (fS (fS (fS (fS (fS (fS fP))))))))))) hz170 ?_; intro F325 hF326 h327
     refine shmz_freeze 1 rfl hb174 ?_; intro F328 hF329 hz330
     refine shmz_L (L' := (b227, .cells #[.slice a220 n224 c221] 36 (0, 0)) :: ((b54, .cells #[.int .i64 n2, .int .i64 n3] 31 (0, 0)) :: ((b34, .cells #[.int .i64 n, .slice a27 n31 c28] 27 (0, 0)) :: (Lb222 ++ (Lb29 ++ (Lb93 ++ (Lb209 ++ (Lb196 ++ (Lb87 ++ (Lb183 ++ [])))))))))) rfl ?_
     replace h327 := h327.mono (iE_ok _) hF329
     obtain ⟨rfl, rfl⟩ := inj2 r324
     exact mf (kc (kc (kc (kg (fS fP) (kg (fS (fS (fS (fS fP)))) (kg (fS fP) (kg (fS (fS fP)) (ka kn)))))))) ⟨a167, c168, (hF326.trans hF329), rfl, (sc rfl (sc rfl (sc rfl (sc rfl (sc rfl (sc rfl (sc rfl (sc rfl (sn _))))))))), h327, hz330⟩
   have r331 := bf r322 c323; clear r322
   refine shO_on (b := false) 127 rfl (EnvB rfl c323) (om rfl rfl (shO_on (b := false) 127 rfl (EnvB rfl c323) (om rfl rfl (shO_on (b := false) 127 rfl (EnvB rfl c323) ?_))))
   obtain ⟨ok2, h332, r333⟩ := b1_ok r331; clear r331
   refine o_callT (Lt := Lb196 ++ (Lb209 ++ [])) (Lr := (b227, .cells #[.slice a220 n224 c221] 36 (0, 0)) :: ((b174, .cells #[.slice a167 n171 c168] 36 (0, 0)) :: ((b54, .cells #[.int .i64 n2, .int .i64 n3] 31 (0, 0)) :: ((b34, .cells #[.int .i64 n, .slice a27 n31 c28] 27 (0, 0)) :: (Lb222 ++ (Lb29 ++ (Lb93 ++ (Lb87 ++ (Lb183 ++ (Lb169 ++ [])))))))))) rfl Try.call37 rfl rfl rfl (pT ((fC (fC (fC (fC (fS (fS (fS (fS fP)))))))).trans (pA ((fC (fC (fC (fC (fS (fS (fS fP))))))).trans (pA pR)))) (lp (lp (ln rfl)))) (fun F2 h2 h3 => by rw [(SlR.caps hz197).1]; rw [(SlR.caps hz210).1]; exact oyezkit_Like_int_w (hz197.row (iE_ok _) h2 (fun p hp => h3 p (List.mem_append_left _ hp))) (hz210.row (iE_ok _) h2 (fun p hp => h3 p (List.mem_append_right _ (List.mem_append_left _ hp)))) h332) ?_
   refine shO_on (b := false) 127 rfl (EnvB rfl c323) ?_
   refine ov (v_notB rfl) rfl ?_
   refine ov (v_pick_f (evB rfl c323) rfl) rfl ?_
   refine om rfl rfl ?_
   rcases bool_two (!ok2) with c334 | c334
   · have r335 := bt r333 c334; clear r333
     refine shO_off (b' := true) 133 rfl (EnvB rfl c334) rfl rfl (shO_off (b' := true) 133 rfl (EnvB rfl c334) rfl rfl (shO_off (b' := true) 133 rfl (EnvB rfl c334) rfl rfl ?_))
     refine ov (v_pick_t (evB rfl c334) rfl) rfl ?_
     refine shO_nil ?_
     obtain rfl := (SlR.caps hz170).1
     refine shmz_freezeR (Nat.le_refl _) (iE_ok _) (fC (fC (fC (fC (fS (fS (fS (fS (fS (fS (fS fP))))))))))) hz170 ?_; intro F336 hF337 h338
     refine shmz_freeze 1 rfl hb174 ?_; intro F339 hF340 hz341
     refine shmz_L (L' := (b227, .cells #[.slice a220 n224 c221] 36 (0, 0)) :: ((b54, .cells #[.int .i64 n2, .int .i64 n3] 31 (0, 0)) :: ((b34, .cells #[.int .i64 n, .slice a27 n31 c28] 27 (0, 0)) :: (Lb222 ++ (Lb29 ++ (Lb93 ++ (Lb209 ++ (Lb196 ++ (Lb87 ++ (Lb183 ++ [])))))))))) rfl ?_
     replace h338 := h338.mono (iE_ok _) hF340
     obtain ⟨rfl, rfl⟩ := inj2 r335
     exact mf (kc (kc (kc (kg (fS fP) (kg (fS (fS (fS (fS fP)))) (kg (fS fP) (kg (fS (fS fP)) (ka kn)))))))) ⟨a167, c168, (hF337.trans hF340), rfl, (sc rfl (sc rfl (sc rfl (sc rfl (sc rfl (sc rfl (sc rfl (sc rfl (sn _))))))))), h338, hz341⟩
   have r342 := bf r333 c334; clear r333
   refine shO_on (b := false) 133 rfl (EnvB rfl c334) ?_
   refine ov (v_load Try.isAgg36 rfl (Has.own 0 rfl) rfl) rfl ?_
   refine shO_on (b := false) 133 rfl (EnvB rfl c334) ?_
   refine ov (v_makeFunc rfl rfl) rfl ?_
   refine shO_on (b := false) 133 rfl (EnvB rfl c334) ?_
   obtain rfl := (SlR.caps hz170).1
   refine shO_freezeR (Nat.le_refl _) (iE_ok _) (fC (fC (fC (fC (fS (fS (fS (fS (fS (fS (fS fP))))))))))) hz170 ?_; intro F343 hF344 h345
   replace hz223 := hz223.mono (iE_ok _) hF344
   refine shO_freeze 1 rfl hb174 ?_; intro F346 hF347 hz348
   refine shO_L (L' := (b227, .cells #[.slice a220 n224 c221] 36 (0, 0)) :: ((b54, .cells #[.int .i64 n2, .int .i64 n3] 31 (0, 0)) :: ((b34, .cells #[.int .i64 n, .slice a27 n31 c28] 27 (0, 0)) :: (Lb222 ++ (Lb29 ++ (Lb93 ++ (Lb209 ++ (Lb196 ++ (Lb87 ++ (Lb183 ++ [])))))))))) rfl ?_
   replace h345 := h345.mono (iE_ok _) hF347
   replace hz223 := hz223.mono (iE_ok _) hF347
   have hn349 : FnR Try.prog F346 38 #[] #[.pointer (some ⟨b174, 0, none⟩)] (iE .i64) Value.bool (fun xx_ : Int => oyezlaw01_HearMore_2 xx_ l6) := ⟨Try.call38, fun F2 h2 vs xx_ r ha hr => by obtain rfl := ha; exact oyezlaw01_HearMore_2_w (h2 _ _ hz348) (h345.mono (iE_ok _) h2) hr⟩
   obtain ⟨ok3, h350, r351⟩ := b1_ok r342; clear r342
   refine o_callT (Lt := Lb222 ++ []) (Lr := (b227, .cells #[.slice a220 n224 c221] 36 (0, 0)) :: ((b54, .cells #[.int .i64 n2, .int .i64 n3] 31 (0, 0)) :: ((b34, .cells #[.int .i64 n, .slice a27 n31 c28] 27 (0, 0)) :: (Lb29 ++ (Lb93 ++ (Lb209 ++ (Lb196 ++ (Lb87 ++ (Lb183 ++ []))))))))) rfl Try.call20 rfl rfl rfl (pT ((fC (fC (fC fP))).trans (pA pR)) (lp (ln rfl))) (fun F2 h2 h3 => by rw [(SlR.caps hz223).1]; exact slices_ContainsFunc_int_int_w (hz223.row (iE_ok _) h2 (fun p hp => h3 p (List.mem_append_left _ hp))) (hn349.mono h2) h350) ?_
   refine ov (v_pick_f (evB rfl c334) rfl) rfl ?_
   refine shO_nil ?_
   obtain ⟨rfl, rfl⟩ := inj2 r351
   exact mf (kc (kc (kc (kg (fS fP) (kg (fS (fS (fS (fS fP)))) (kg (fS fP) (kg (fS (fS fP)) (ka kn)))))))) ⟨a167, c168, (hF344.trans hF347), rfl, (sc rfl (sc rfl (sc rfl (sc rfl (sc rfl (sc rfl (sc rfl (sc rfl (sn _))))))))), h345, hz348⟩
 rintro e1 F353 _ ⟨a271, c272, hF354, rfl, he352, h273, hz270⟩
 refine shW_env _ he352 ?_; clear he352
 replace hz30 := hz30.mono (iE_ok _) hF354
 replace hz88 := hz88.mono (iE_ok _) hF354
 replace hz94 := hz94.mono (iE_ok _) hF354
 replace hz197 := hz197.mono (iE_ok _) hF354
 replace hz223 := hz223.mono (iE_ok _) hF354
 refine shW_cond rfl (fun c355 => ?_) (fun c355 => ?_)
 · have r356 := bt r275 c355; clear r275
   refine wsr (oa rfl rfl (shO_nil ?_))
   refine kW kn ?_
   refine shW_ret (andThen_ret ?_)
   refine q_res1 Try.results6 (res_tmp rfl) (sr) ?_
   obtain rfl := inj1 r356
   exact rfl
 have r357 := bf r275 c355; clear r275
 refine shW_skip (shW_seq (wsr (om rfl rfl ?_)))
 refine ov ((v_lenS Try.underlying36 rfl).i (SlR.lenI hz94)) rfl ?_
 refine ov (v_eql rfl rfl) rfl ?_
 refine shO_nil ?_
 refine shW_condP rfl (fun c358 => ?_) (fun c358 => ?_)
 · have r359 := ite_t r357 c358; clear r357
   refine wsr ?_
   refine ov (v_load Try.isAgg36 rfl (Has.frozen hz270) rfl) rfl ?_
   refine ov (v_lenS Try.underlying36 rfl) rfl ?_
   refine ov (v_eql rfl rfl) rfl ?_
   refine om rfl rfl ?_
   by_cases c360 : (x3.length : Int) = 0
   · have r361 := ite_t r359 c360; clear r359
     refine shO_on (b := true) 144 rfl (Env.isT rfl c360) ?_
     obtain ⟨ok4, h362, r363⟩ := b1_ok r361; clear r361
     refine o_callV rfl Try.call18 rfl rfl rfl (oyezlaw01_awake_w h362) ?_
     refine ov (v_pick_t (evD_true rfl c360) rfl) rfl ?_
     refine oa rfl rfl (shO_nil ?_)
     refine kW kn ?_
     refine shW_ret (andThen_ret ?_)
     refine q_res1 Try.results6 (res_tmp rfl) (sr) ?_
     obtain rfl := inj1 r363
     exact rfl
   have r364 := ite_f r359 c360; clear r359
   refine shO_off (b' := false) 144 rfl (Env.isF rfl c360) rfl rfl ?_
   refine ov (v_pick_f (evD_false rfl c360) rfl) rfl ?_
   refine oa rfl rfl (shO_nil ?_)
   refine kW kn ?_
   refine shW_ret (andThen_ret ?_)
   refine q_res1 Try.results6 (res_tmp rfl) (sr) ?_
   obtain rfl := inj1 r364
   exact rfl
 have r365 := ite_f r357 c358; clear r357
 refine shW_skip (wsr (om rfl rfl ?_))
 obtain rfl := (SlR.caps hz94).1
 refine shO_freezeR (Nat.le_refl _) (iE_ok _) (fC (fC (fC (fS (fS fP))))) hz94 ?_; intro F366 hF367 h368
 replace hz30 := hz30.mono (iE_ok _) hF367
 replace hz88 := hz88.mono (iE_ok _) hF367
 replace hz197 := hz197.mono (iE_ok _) hF367
 replace hz223 := hz223.mono (iE_ok _) hF367
 replace hz270 := hF367 _ _ hz270
 obtain ⟨g369, r370⟩ := gd_ok r365; clear r365
 obtain ⟨mixed4, h371, r372⟩ := bv_ok r370; clear r370
 obtain ⟨a373, c374, h375, hvh375⟩ := RowR.slice (iE_ok _) h368 g369 h371
 refine ov ((v_slice (l := 1) (h := (mixed.length : Int)) Try.underlying36 Try.sizeOf3 rfl (.inr ⟨_, rfl, rfl⟩) (.inl ⟨rfl, rfl⟩) hvh375.1).eq hvh375.2) rfl ?_
 refine oa rfl rfl (nsr ?_)
 refine ov (v_loadA (cs := #[.int .i64 n, .slice a27 n31 c28]) Try.isAgg27 Try.sizeOf27 rfl (Has.own 2 rfl) (Nat.le_of_ble_eq_true rfl) rfl) rfl ?_
 refine ov (v_loadA (cs := #[.int .i64 n2, .int .i64 n3]) Try.isAgg31 Try.sizeOf31 rfl (Has.own 1 rfl) (Nat.le_of_ble_eq_true rfl) rfl) rfl ?_
 refine om rfl rfl ?_
 obtain ⟨l11, n10, h377, r378⟩ := b2_ok r372; clear r372
 refine o_callTO (Lb := []) (Lt := Lb29 ++ []) (Lr := (b227, .cells #[.slice a220 n224 c221] 36 (0, 0)) :: ((b54, .cells #[.int .i64 n2, .int .i64 n3] 31 (0, 0)) :: ((b34, .cells #[.int .i64 n, .slice a27 n31 c28] 27 (0, 0)) :: (Lb87 ++ (Lb196 ++ (Lb222 ++ [])))))) rfl Try.call15 rfl rfl rfl (pT ((fC (fC (fC fP))).trans (pA pR)) (ln (lp (ln rfl)))) (fun F2 h2 h3 => by rw [(SlR.caps hz30).1]; exact hear_Fewest_w (hz30.row (iE_ok _) h2 (fun p hp => h3 p (List.mem_append_left _ hp))) (h375.mono (iE_ok _) h2) h377) (fun _ _ _ _ hq => by obtain ⟨a383, n387, c384, Lb385, rfl, rfl, hz386⟩ := hq; exact ⟨_, _, _, _, rfl, rfl, hz386.flat (fun _ _ h => h)⟩) ?_; rintro _ F379 _ hF380 hd382 hn381 ⟨a383, n387, c384, Lb385, rfl, rfl, hz386⟩
 replace h368 := h368.mono (iE_ok _) hF380
 replace h375 := h375.mono (iE_ok _) hF380
 replace hz30 := hz30.mono (iE_ok _) hF380
 replace hz88 := hz88.mono (iE_ok _) hF380
 replace hz197 := hz197.mono (iE_ok _) hF380
 replace hz223 := hz223.mono (iE_ok _) hF380
 replace hz270 := hF380 _ _ hz270
 have hn389 := newp (Lb' := []) (by rfl) hd382 hn381
 replace hz386 := hz386.new fun p hp => hn389 p (by simp [hp])
 refine shO_L (lp (ln (lp (ln rfl)))) ?_
 refine kO (kf (fS (fS fO)) (kf (fS (fS fO)) (kf (fS (fS fO)) kr))) ?_
 refine om rfl rfl (ox rfl rfl rfl (ox rfl rfl rfl (oa rfl rfl (oa rfl rfl (nsr ?_)))))
 refine ov (v_loadA (cs := #[.int .i64 n, .slice a27 n31 c28]) Try.isAgg27 Try.sizeOf27 rfl (Has.own 2 rfl) (Nat.le_of_ble_eq_true rfl) rfl) rfl ?_
 refine ov (v_loadA (cs := #[.int .i64 n2, .int .i64 n3]) Try.isAgg31 Try.sizeOf31 rfl (Has.own 1 rfl) (Nat.le_of_ble_eq_true rfl) rfl) rfl ?_
 refine om rfl rfl ?_
 obtain ⟨l12, n11, h390, r391⟩ := b2_ok r378; clear r378
 refine o_callTO (Lb := []) (Lt := Lb29 ++ []) (Lr := (b227, .cells #[.slice a220 n224 c221] 36 (0, 0)) :: ((b54, .cells #[.int .i64 n2, .int .i64 n3] 31 (0, 0)) :: ((b34, .cells #[.int .i64 n, .slice a27 n31 c28] 27 (0, 0)) :: (Lb385 ++ (Lb87 ++ (Lb196 ++ (Lb222 ++ []))))))) rfl Try.call16 rfl rfl rfl (pT ((fC (fC (fC (fS fP)))).trans (pA pR)) (ln (lp (ln rfl)))) (fun F2 h2 h3 => by rw [(SlR.caps hz30).1]; exact hear_Apart_w (hz30.row (iE_ok _) h2 (fun p hp => h3 p (List.mem_append_left _ hp))) (h375.mono (iE_ok _) h2) h390) (fun _ _ _ _ hq => by obtain ⟨a396, n400, c397, Lb398, rfl, rfl, hz399⟩ := hq; exact ⟨_, _, _, _, rfl, rfl, hz399.flat (fun _ _ h => h)⟩) ?_; rintro _ F392 _ hF393 hd395 hn394 ⟨a396, n400, c397, Lb398, rfl, rfl, hz399⟩
 replace h368 := h368.mono (iE_ok _) hF393
 replace h375 := h375.mono (iE_ok _) hF393
 replace hz30 := hz30.mono (iE_ok _) hF393
 replace hz88 := hz88.mono (iE_ok _) hF393
 replace hz197 := hz197.mono (iE_ok _) hF393
 replace hz223 := hz223.mono (iE_ok _) hF393
 replace hz386 := hz386.mono (iE_ok _) hF393
 replace hz270 := hF393 _ _ hz270
 have hn402 := newp (Lb' := []) (by rfl) hd395 hn394
 replace hz399 := hz399.new fun p hp => hn402 p (by simp [hp])
 refine shO_L (lp (ln (lp (ln rfl)))) ?_
 refine kO (kf (fS (fS fO)) (kf (fS (fS fO)) (kf (fS (fS fO)) kr))) ?_
 refine om rfl rfl (ox rfl rfl rfl (ox rfl rfl rfl (oa rfl rfl (oa rfl rfl (nsr ?_)))))
 refine ov (v_loadA (cs := #[.int .i64 n, .slice a27 n31 c28]) Try.isAgg27 Try.sizeOf27 rfl (Has.own 2 rfl) (Nat.le_of_ble_eq_true rfl) rfl) rfl ?_
 refine ov (v_loadA (cs := #[.int .i64 n2, .int .i64 n3]) Try.isAgg31 Try.sizeOf31 rfl (Has.own 1 rfl) (Nat.le_of_ble_eq_true rfl) rfl) rfl ?_
 refine om rfl rfl ?_
 obtain ⟨l13, n12, h403, r404⟩ := b2_ok r391; clear r391
 refine o_callTO (Lb := []) (Lt := Lb29 ++ []) (Lr := (b227, .cells #[.slice a220 n224 c221] 36 (0, 0)) :: ((b54, .cells #[.int .i64 n2, .int .i64 n3] 31 (0, 0)) :: ((b34, .cells #[.int .i64 n, .slice a27 n31 c28] 27 (0, 0)) :: (Lb398 ++ (Lb385 ++ (Lb87 ++ (Lb196 ++ (Lb222 ++ [])))))))) rfl Try.call30 rfl rfl rfl (pT ((fC (fC (fC (fS fP)))).trans (pA pR)) (ln (lp (ln rfl)))) (fun F2 h2 h3 => by rw [(SlR.caps hz30).1]; exact hear_Must_w (hz30.row (iE_ok _) h2 (fun p hp => h3 p (List.mem_append_left _ hp))) (h375.mono (iE_ok _) h2) h403) (fun _ _ _ _ hq => by obtain ⟨a409, n413, c410, Lb411, rfl, rfl, hz412⟩ := hq; exact ⟨_, _, _, _, rfl, rfl, hz412.flat (fun _ _ h => h)⟩) ?_; rintro _ F405 _ hF406 hd408 hn407 ⟨a409, n413, c410, Lb411, rfl, rfl, hz412⟩
 replace h368 := h368.mono (iE_ok _) hF406
 replace hz30 := hz30.mono (iE_ok _) hF406
 replace hz88 := hz88.mono (iE_ok _) hF406
 replace hz197 := hz197.mono (iE_ok _) hF406
 replace hz223 := hz223.mono (iE_ok _) hF406
 replace hz386 := hz386.mono (iE_ok _) hF406
 replace hz399 := hz399.mono (iE_ok _) hF406
 replace hz270 := hF406 _ _ hz270
 have hn415 := newp (Lb' := []) (by rfl) hd408 hn407
 replace hz412 := hz412.new fun p hp => hn415 p (by simp [hp])
 refine shO_L (lp (ln (lp (ln rfl)))) ?_
 refine kO (kf (fS (fS fO)) (kf (fS (fS fO)) (kf (fS (fS fO)) kr))) ?_
 refine om rfl rfl (ox rfl rfl rfl (ox rfl rfl rfl (oa rfl rfl (oa rfl rfl (nsr ?_)))))
 refine ov (v_loadA (cs := #[.int .i64 n, .slice a27 n31 c28]) Try.isAgg27 Try.sizeOf27 rfl (Has.own 2 rfl) (Nat.le_of_ble_eq_true rfl) rfl) rfl ?_
 refine ov (v_loadA (cs := #[.int .i64 n2, .int .i64 n3]) Try.isAgg31 Try.sizeOf31 rfl (Has.own 1 rfl) (Nat.le_of_ble_eq_true rfl) rfl) rfl ?_
 refine om rfl rfl ?_
 refine ov (v_load Try.isAgg36 rfl (Has.frozen hz270) rfl) rfl ?_
 refine ov (v_lenS Try.underlying36 rfl) rfl ?_
 obtain ⟨l14, n13, n14, h416, r417⟩ := b3_ok r404; clear r404
 refine o_callTO (Lb := []) (Lt := Lb29 ++ []) (Lr := (b227, .cells #[.slice a220 n224 c221] 36 (0, 0)) :: ((b54, .cells #[.int .i64 n2, .int .i64 n3] 31 (0, 0)) :: ((b34, .cells #[.int .i64 n, .slice a27 n31 c28] 27 (0, 0)) :: (Lb411 ++ (Lb398 ++ (Lb385 ++ (Lb87 ++ (Lb196 ++ (Lb222 ++ []))))))))) rfl Try.call24 rfl rfl rfl (pT ((fC (fC (fC (fS fP)))).trans (pA pR)) (ln (lp (ln rfl)))) (fun F2 h2 h3 => by rw [(SlR.caps hz30).1]; exact hear_Best_w (hz30.row (iE_ok _) h2 (fun p hp => h3 p (List.mem_append_left _ hp))) (h368.mono (iE_ok _) h2) h416) (fun _ _ _ _ hq => by obtain ⟨a422, n426, c423, Lb424, rfl, rfl, hz425⟩ := hq; exact ⟨_, _, _, _, rfl, rfl, hz425.flat (fun _ _ h => h)⟩) ?_; rintro _ F418 _ hF419 hd421 hn420 ⟨a422, n426, c423, Lb424, rfl, rfl, hz425⟩
 replace hz88 := hz88.mono (iE_ok _) hF419
 replace hz197 := hz197.mono (iE_ok _) hF419
 replace hz223 := hz223.mono (iE_ok _) hF419
 replace hz386 := hz386.mono (iE_ok _) hF419
 replace hz399 := hz399.mono (iE_ok _) hF419
 replace hz412 := hz412.mono (iE_ok _) hF419
 replace hz270 := hF419 _ _ hz270
 refine shO_L (lp (ln (lp (ln rfl)))) ?_
 refine kO (kf (fS (fS fO)) (kf (fS (fS fO)) (kf (fS (fS fO)) kr))) ?_
 refine om rfl rfl (ox rfl rfl rfl (ox rfl rfl rfl (ox rfl rfl rfl (oa rfl rfl (oa rfl rfl (oa rfl rfl (nsr (om rfl rfl ?_))))))))
 refine ov (v_eql rfl rfl) rfl ?_
 refine om rfl rfl ?_
 by_cases c429 : n10 = 0
 · have r430 := ite_t r417 c429; clear r417
   refine shO_on (b := true) 182 rfl (Env.isT rfl c429) (om rfl rfl (shO_on (b := true) 182 rfl (Env.isT rfl c429) ?_))
   refine ov (v_eql rfl rfl) rfl ?_
   refine ov (v_pick_t (evD_true rfl c429) rfl) rfl ?_
   refine om rfl rfl ?_
   by_cases c431 : n11 = 0
   · have r432 := ite_t r430 c431; clear r430
     refine shO_on (b := true) 186 rfl (Env.isT rfl c431) (om rfl rfl (shO_on (b := true) 186 rfl (Env.isT rfl c431) ?_))
     refine ov (v_eql rfl rfl) rfl ?_
     refine ov (v_pick_t (evD_true rfl c431) rfl) rfl ?_
     refine om rfl rfl ?_
     by_cases c433 : n12 = 0
     · have r434 := ite_t r432 c433; clear r432
       refine shO_on (b := true) 190 rfl (Env.isT rfl c433) (om rfl rfl (shO_on (b := true) 190 rfl (Env.isT rfl c433) ?_))
       refine ov (v_eql rfl rfl) rfl ?_
       refine ov (v_pick_t (evD_true rfl c433) rfl) rfl ?_
       refine om rfl rfl ?_
       by_cases c435 : n14 = 0
       · have r436 := ite_t r434 c435; clear r434
         refine shO_on (b := true) 194 rfl (Env.isT rfl c435) (om rfl rfl (shO_on (b := true) 194 rfl (Env.isT rfl c435) (om rfl rfl (shO_on (b := true) 194 rfl (Env.isT rfl c435) ?_))))
         refine ov ((v_lenS Try.underlying36 rfl).i (SlR.lenI hz88)) rfl ?_
         refine shO_on (b := true) 194 rfl (Env.isT rfl c435) ?_
         refine ov (v_eql rfl rfl) rfl ?_
         refine ov (v_pick_t (evD_true rfl c435) rfl) rfl ?_
         refine om rfl rfl ?_
         by_cases c437 : n13 = (l4.length : Int)
         · have r438 := ite_t r436 c437; clear r436
           refine shO_on (b := true) 200 rfl (Env.isT rfl c437) (om rfl rfl (shO_on (b := true) 200 rfl (Env.isT rfl c437) ?_))
           refine ov ((v_lenS Try.underlying36 rfl).i (SlR.lenI hz386)) rfl ?_
           refine shO_on (b := true) 200 rfl (Env.isT rfl c437) ?_
           refine ov (v_load Try.isAgg36 rfl (Has.frozen hz270) rfl) rfl ?_
           refine shO_on (b := true) 200 rfl (Env.isT rfl c437) ?_
           refine ov (v_lenS Try.underlying36 rfl) rfl ?_
           refine shO_on (b := true) 200 rfl (Env.isT rfl c437) ?_
           refine ov (v_leqK rfl rfl) rfl ?_
           refine ov (v_pick_t (evD_true rfl c437) rfl) rfl ?_
           refine om rfl rfl ?_
           by_cases c439 : (l11.length : Int) ≤ (x3.length : Int)
           · have r440 := ite_t r438 c439; clear r438
             refine shO_on (b := true) 207 rfl (Env.isT rfl c439) ?_
             refine ov (v_load Try.isAgg36 rfl (Has.frozen hz270) rfl) rfl ?_
             refine shO_on (b := true) 207 rfl (Env.isT rfl c439) ?_
             refine ov (v_lenS Try.underlying36 rfl) rfl ?_
             refine shO_on (b := true) 207 rfl (Env.isT rfl c439) (om rfl rfl (shO_on (b := true) 207 rfl (Env.isT rfl c439) ?_))
             refine ov ((v_lenS Try.underlying36 rfl).i (SlR.lenI hz386)) rfl ?_
             refine shO_on (b := true) 207 rfl (Env.isT rfl c439) ?_
             obtain ⟨g441, r442⟩ := gd_ok r440; clear r440
             refine ov (v_add rfl rfl g441) rfl ?_
             refine shO_on (b := true) 207 rfl (Env.isT rfl c439) ?_
             refine ov (v_leqK rfl rfl) rfl ?_
             refine ov (v_pick_t (evD_true rfl c439) rfl) rfl ?_
             refine om rfl rfl ?_
             by_cases c443 : (x3.length : Int) ≤ ((l11.length : Int) + 1)
             · have r444 := ite_t r442 c443; clear r442
               refine shO_on (b := true) 215 rfl (Env.isT rfl c443) (om rfl rfl (shO_on (b := true) 215 rfl (Env.isT rfl c443) ?_))
               refine ov ((v_lenS Try.underlying36 rfl).i (SlR.lenI hz399)) rfl ?_
               refine shO_on (b := true) 215 rfl (Env.isT rfl c443) (om rfl rfl (shO_on (b := true) 215 rfl (Env.isT rfl c443) ?_))
               refine ov ((v_lenS Try.underlying36 rfl).i (SlR.lenI hz197)) rfl ?_
               refine shO_on (b := true) 215 rfl (Env.isT rfl c443) ?_
               refine ov (v_leqK rfl rfl) rfl ?_
               refine ov (v_pick_t (evD_true rfl c443) rfl) rfl ?_
               refine om rfl rfl ?_
               by_cases c445 : (l12.length : Int) ≤ (l8.length : Int)
               · have r446 := ite_t r444 c445; clear r444
                 refine shO_on (b := true) 222 rfl (Env.isT rfl c445) (om rfl rfl (shO_on (b := true) 222 rfl (Env.isT rfl c445) ?_))
                 refine ov ((v_lenS Try.underlying36 rfl).i (SlR.lenI hz197)) rfl ?_
                 refine shO_on (b := true) 222 rfl (Env.isT rfl c445) (om rfl rfl (shO_on (b := true) 222 rfl (Env.isT rfl c445) ?_))
                 refine ov ((v_lenS Try.underlying36 rfl).i (SlR.lenI hz399)) rfl ?_
                 refine shO_on (b := true) 222 rfl (Env.isT rfl c445) ?_
                 obtain ⟨g447, r448⟩ := gd_ok r446; clear r446
                 refine ov (v_add rfl rfl g447) rfl ?_
                 refine shO_on (b := true) 222 rfl (Env.isT rfl c445) ?_
                 refine ov (v_leqK rfl rfl) rfl ?_
                 refine ov (v_pick_t (evD_true rfl c445) rfl) rfl ?_
                 refine om rfl rfl ?_
                 by_cases c449 : (l8.length : Int) ≤ ((l12.length : Int) + 1)
                 · have r450 := ite_t r448 c449; clear r448
                   refine shO_on (b := true) 230 rfl (Env.isT rfl c449) (om rfl rfl (shO_on (b := true) 230 rfl (Env.isT rfl c449) ?_))
                   refine ov (v_makeFunc rfl rfl) rfl ?_
                   refine shO_on (b := true) 230 rfl (Env.isT rfl c449) ?_
                   obtain rfl := (SlR.caps hz223).1
                   refine shO_freezeR (Nat.le_refl _) (iE_ok _) (fC (fC (fC (fS (fS (fS (fS (fS (fS (fS fP)))))))))) hz223 ?_; intro F451 hF452 h453
                   replace hz412 := hz412.mono (iE_ok _) hF452
                   refine shO_freeze 0 rfl hb227 ?_; intro F454 hF455 hz456
                   refine shO_L (L' := (b54, .cells #[.int .i64 n2, .int .i64 n3] 31 (0, 0)) :: ((b34, .cells #[.int .i64 n, .slice a27 n31 c28] 27 (0, 0)) :: (Lb424 ++ (Lb29 ++ (Lb411 ++ (Lb398 ++ (Lb385 ++ (Lb87 ++ (Lb196 ++ []))))))))) rfl ?_
                   replace h453 := h453.mono (iE_ok _) hF455
                   replace hz412 := hz412.mono (iE_ok _) hF455
                   have hn457 : FnR Try.prog F454 39 #[] #[.pointer (some ⟨b227, 0, none⟩)] (iE .i64) Value.bool (fun xx_ : Int => oyezlaw01_HearMore_3 xx_ l10) := ⟨Try.call39, fun F2 h2 vs xx_ r ha hr => by obtain rfl := ha; exact oyezlaw01_HearMore_3_w (h2 _ _ hz456) (h453.mono (iE_ok _) h2) hr⟩
                   obtain ⟨ok5, h458, r459⟩ := b1_ok r450; clear r450
                   refine o_callT (Lt := Lb411 ++ []) (Lr := (b54, .cells #[.int .i64 n2, .int .i64 n3] 31 (0, 0)) :: ((b34, .cells #[.int .i64 n, .slice a27 n31 c28] 27 (0, 0)) :: (Lb424 ++ (Lb29 ++ (Lb398 ++ (Lb385 ++ (Lb87 ++ (Lb196 ++ [])))))))) rfl Try.call20 rfl rfl rfl (pT ((fC (fC (fS (fS fP)))).trans (pA pR)) (lp (ln rfl))) (fun F2 h2 h3 => by rw [(SlR.caps hz412).1]; exact slices_ContainsFunc_int_int_w (hz412.row (iE_ok _) h2 (fun p hp => h3 p (List.mem_append_left _ hp))) (hn457.mono h2) h458) ?_
                   refine shO_on (b := true) 230 rfl (Env.isT rfl c449) ?_
                   refine ov (v_notB rfl) rfl ?_
                   refine ov (v_pick_t (evD_true rfl c449) rfl) rfl ?_
                   refine om rfl rfl ?_
                   rcases bool_two (!ok5) with c460 | c460
                   · have r461 := bt r459 c460; clear r459
                     refine shO_on (b := true) 236 rfl (EnvB rfl c460) ?_
                     obtain ⟨ok6, h462, r463⟩ := b1_ok r461; clear r461
                     refine o_callV rfl Try.call18 rfl rfl rfl (oyezlaw01_awake_w h462) ?_
                     refine ov (v_pick_t (evB rfl c460) rfl) rfl ?_
                     refine oa rfl rfl (shO_nil ?_)
                     refine kW kn ?_
                     refine shW_ret ?_
                     refine q_res1 Try.results6 (res_tmp rfl) (sr) ?_
                     obtain rfl := inj1 r463
                     exact rfl
                   have r464 := bf r459 c460; clear r459
                   refine shO_off (b' := false) 236 rfl (EnvB rfl c460) rfl rfl ?_
                   refine ov (v_pick_f (evB rfl c460) rfl) rfl ?_
                   refine oa rfl rfl (shO_nil ?_)
                   refine kW kn ?_
                   refine shW_ret ?_
                   refine q_res1 Try.results6 (res_tmp rfl) (sr) ?_
                   obtain rfl := inj1 r464
                   exact rfl
                 have r465 := ite_f r448 c449; clear r448
                 refine shO_off (b' := false) 230 rfl (Env.isF rfl c449) rfl rfl (shO_off (b' := false) 230 rfl (Env.isF rfl c449) rfl rfl (shO_off (b' := false) 230 rfl (Env.isF rfl c449) rfl rfl (shO_off (b' := false) 230 rfl (Env.isF rfl c449) rfl rfl ?_)))
                 refine ov (v_pick_f (evD_false rfl c449) rfl) rfl ?_
                 refine om rfl rfl (shO_off (b' := false) 236 rfl rfl rfl rfl ?_)
                 refine ov (v_pick_f rfl rfl) rfl ?_
                 refine oa rfl rfl (shO_nil ?_)
                 refine kW kn ?_
                 refine shW_ret ?_
                 refine q_res1 Try.results6 (res_tmp rfl) (sr) ?_
                 obtain rfl := inj1 r465
                 exact rfl
               have r466 := ite_f r444 c445; clear r444
               refine shO_off (b' := false) 222 rfl (Env.isF rfl c445) rfl rfl (shO_off (b' := false) 222 rfl (Env.isF rfl c445) rfl rfl (shO_off (b' := false) 222 rfl (Env.isF rfl c445) rfl rfl (shO_off (b' := false) 222 rfl (Env.isF rfl c445) rfl rfl (shO_off (b' := false) 222 rfl (Env.isF rfl c445) rfl rfl (shO_off (b' := false) 222 rfl (Env.isF rfl c445) rfl rfl ?_)))))
               refine ov (v_pick_f (evD_false rfl c445) rfl) rfl ?_
               refine om rfl rfl (shO_off (b' := false) 230 rfl rfl rfl rfl (shO_off (b' := false) 230 rfl rfl rfl rfl (shO_off (b' := false) 230 rfl rfl rfl rfl (shO_off (b' := false) 230 rfl rfl rfl rfl ?_))))
               refine ov (v_pick_f rfl rfl) rfl ?_
               refine om rfl rfl (shO_off (b' := false) 236 rfl rfl rfl rfl ?_)
               refine ov (v_pick_f rfl rfl) rfl ?_
               refine oa rfl rfl (shO_nil ?_)
               refine kW kn ?_
               refine shW_ret ?_
               refine q_res1 Try.results6 (res_tmp rfl) (sr) ?_
               obtain rfl := inj1 r466
               exact rfl
             have r467 := ite_f r442 c443; clear r442
             refine shO_off (b' := false) 215 rfl (Env.isF rfl c443) rfl rfl (shO_off (b' := false) 215 rfl (Env.isF rfl c443) rfl rfl (shO_off (b' := false) 215 rfl (Env.isF rfl c443) rfl rfl (shO_off (b' := false) 215 rfl (Env.isF rfl c443) rfl rfl (shO_off (b' := false) 215 rfl (Env.isF rfl c443) rfl rfl ?_))))
             refine ov (v_pick_f (evD_false rfl c443) rfl) rfl ?_
             refine om rfl rfl (shO_off (b' := false) 222 rfl rfl rfl rfl (shO_off (b' := false) 222 rfl rfl rfl rfl (shO_off (b' := false) 222 rfl rfl rfl rfl (shO_off (b' := false) 222 rfl rfl rfl rfl (shO_off (b' := false) 222 rfl rfl rfl rfl (shO_off (b' := false) 222 rfl rfl rfl rfl ?_))))))
             refine ov (v_pick_f rfl rfl) rfl ?_
             refine om rfl rfl (shO_off (b' := false) 230 rfl rfl rfl rfl (shO_off (b' := false) 230 rfl rfl rfl rfl (shO_off (b' := false) 230 rfl rfl rfl rfl (shO_off (b' := false) 230 rfl rfl rfl rfl ?_))))
             refine ov (v_pick_f rfl rfl) rfl ?_
             refine om rfl rfl (shO_off (b' := false) 236 rfl rfl rfl rfl ?_)
             refine ov (v_pick_f rfl rfl) rfl ?_
             refine oa rfl rfl (shO_nil ?_)
             refine kW kn ?_
             refine shW_ret ?_
             refine q_res1 Try.results6 (res_tmp rfl) (sr) ?_
             obtain rfl := inj1 r467
             exact rfl
           have r468 := ite_f r438 c439; clear r438
           refine shO_off (b' := false) 207 rfl (Env.isF rfl c439) rfl rfl (shO_off (b' := false) 207 rfl (Env.isF rfl c439) rfl rfl (shO_off (b' := false) 207 rfl (Env.isF rfl c439) rfl rfl (shO_off (b' := false) 207 rfl (Env.isF rfl c439) rfl rfl (shO_off (b' := false) 207 rfl (Env.isF rfl c439) rfl rfl (shO_off (b' := false) 207 rfl (Env.isF rfl c439) rfl rfl ?_)))))
           refine ov (v_pick_f (evD_false rfl c439) rfl) rfl ?_
           refine om rfl rfl (shO_off (b' := false) 215 rfl rfl rfl rfl (shO_off (b' := false) 215 rfl rfl rfl rfl (shO_off (b' := false) 215 rfl rfl rfl rfl (shO_off (b' := false) 215 rfl rfl rfl rfl (shO_off (b' := false) 215 rfl rfl rfl rfl ?_)))))
           refine ov (v_pick_f rfl rfl) rfl ?_
           refine om rfl rfl (shO_off (b' := false) 222 rfl rfl rfl rfl (shO_off (b' := false) 222 rfl rfl rfl rfl (shO_off (b' := false) 222 rfl rfl rfl rfl (shO_off (b' := false) 222 rfl rfl rfl rfl (shO_off (b' := false) 222 rfl rfl rfl rfl (shO_off (b' := false) 222 rfl rfl rfl rfl ?_))))))
           refine ov (v_pick_f rfl rfl) rfl ?_
           refine om rfl rfl (shO_off (b' := false) 230 rfl rfl rfl rfl (shO_off (b' := false) 230 rfl rfl rfl rfl (shO_off (b' := false) 230 rfl rfl rfl rfl (shO_off (b' := false) 230 rfl rfl rfl rfl ?_))))
           refine ov (v_pick_f rfl rfl) rfl ?_
           refine om rfl rfl (shO_off (b' := false) 236 rfl rfl rfl rfl ?_)
           refine ov (v_pick_f rfl rfl) rfl ?_
           refine oa rfl rfl (shO_nil ?_)
           refine kW kn ?_
           refine shW_ret ?_
           refine q_res1 Try.results6 (res_tmp rfl) (sr) ?_
           obtain rfl := inj1 r468
           exact rfl
         have r469 := ite_f r436 c437; clear r436
         refine shO_off (b' := false) 200 rfl (Env.isF rfl c437) rfl rfl (shO_off (b' := false) 200 rfl (Env.isF rfl c437) rfl rfl (shO_off (b' := false) 200 rfl (Env.isF rfl c437) rfl rfl (shO_off (b' := false) 200 rfl (Env.isF rfl c437) rfl rfl (shO_off (b' := false) 200 rfl (Env.isF rfl c437) rfl rfl ?_))))
         refine ov (v_pick_f (evD_false rfl c437) rfl) rfl ?_
         refine om rfl rfl (shO_off (b' := false) 207 rfl rfl rfl rfl (shO_off (b' := false) 207 rfl rfl rfl rfl (shO_off (b' := false) 207 rfl rfl rfl rfl (shO_off (b' := false) 207 rfl rfl rfl rfl (shO_off (b' := false) 207 rfl rfl rfl rfl (shO_off (b' := false) 207 rfl rfl rfl rfl ?_))))))
         refine ov (v_pick_f rfl rfl) rfl ?_
         refine om rfl rfl (shO_off (b' := false) 215 rfl rfl rfl rfl (shO_off (b' := false) 215 rfl rfl rfl rfl (shO_off (b' := false) 215 rfl rfl rfl rfl (shO_off (b' := false) 215 rfl rfl rfl rfl (shO_off (b' := false) 215 rfl rfl rfl rfl ?_)))))
         refine ov (v_pick_f rfl rfl) rfl ?_
         refine om rfl rfl (shO_off (b' := false) 222 rfl rfl rfl rfl (shO_off (b' := false) 222 rfl rfl rfl rfl (shO_off (b' := false) 222 rfl rfl rfl rfl (shO_off (b' := false) 222 rfl rfl rfl rfl (shO_off (b' := false) 222 rfl rfl rfl rfl (shO_off (b' := false) 222 rfl rfl rfl rfl ?_))))))
         refine ov (v_pick_f rfl rfl) rfl ?_
         refine om rfl rfl (shO_off (b' := false) 230 rfl rfl rfl rfl (shO_off (b' := false) 230 rfl rfl rfl rfl (shO_off (b' := false) 230 rfl rfl rfl rfl (shO_off (b' := false) 230 rfl rfl rfl rfl ?_))))
         refine ov (v_pick_f rfl rfl) rfl ?_
         refine om rfl rfl (shO_off (b' := false) 236 rfl rfl rfl rfl ?_)
         refine ov (v_pick_f rfl rfl) rfl ?_
         refine oa rfl rfl (shO_nil ?_)
         refine kW kn ?_
         refine shW_ret ?_
         refine q_res1 Try.results6 (res_tmp rfl) (sr) ?_
         obtain rfl := inj1 r469
         exact rfl
       have r470 := ite_f r434 c435; clear r434
       refine shO_off (b' := false) 194 rfl (Env.isF rfl c435) rfl rfl (shO_off (b' := false) 194 rfl (Env.isF rfl c435) rfl rfl (shO_off (b' := false) 194 rfl (Env.isF rfl c435) rfl rfl (shO_off (b' := false) 194 rfl (Env.isF rfl c435) rfl rfl ?_)))
       refine ov (v_pick_f (evD_false rfl c435) rfl) rfl ?_
       refine om rfl rfl (shO_off (b' := false) 200 rfl rfl rfl rfl (shO_off (b' := false) 200 rfl rfl rfl rfl (shO_off (b' := false) 200 rfl rfl rfl rfl (shO_off (b' := false) 200 rfl rfl rfl rfl (shO_off (b' := false) 200 rfl rfl rfl rfl ?_)))))
       refine ov (v_pick_f rfl rfl) rfl ?_
       refine om rfl rfl (shO_off (b' := false) 207 rfl rfl rfl rfl (shO_off (b' := false) 207 rfl rfl rfl rfl (shO_off (b' := false) 207 rfl rfl rfl rfl (shO_off (b' := false) 207 rfl rfl rfl rfl (shO_off (b' := false) 207 rfl rfl rfl rfl (shO_off (b' := false) 207 rfl rfl rfl rfl ?_))))))
       refine ov (v_pick_f rfl rfl) rfl ?_
       refine om rfl rfl (shO_off (b' := false) 215 rfl rfl rfl rfl (shO_off (b' := false) 215 rfl rfl rfl rfl (shO_off (b' := false) 215 rfl rfl rfl rfl (shO_off (b' := false) 215 rfl rfl rfl rfl (shO_off (b' := false) 215 rfl rfl rfl rfl ?_)))))
       refine ov (v_pick_f rfl rfl) rfl ?_
       refine om rfl rfl (shO_off (b' := false) 222 rfl rfl rfl rfl (shO_off (b' := false) 222 rfl rfl rfl rfl (shO_off (b' := false) 222 rfl rfl rfl rfl (shO_off (b' := false) 222 rfl rfl rfl rfl (shO_off (b' := false) 222 rfl rfl rfl rfl (shO_off (b' := false) 222 rfl rfl rfl rfl ?_))))))
       refine ov (v_pick_f rfl rfl) rfl ?_
       refine om rfl rfl (shO_off (b' := false) 230 rfl rfl rfl rfl (shO_off (b' := false) 230 rfl rfl rfl rfl (shO_off (b' := false) 230 rfl rfl rfl rfl (shO_off (b' := false) 230 rfl rfl rfl rfl ?_))))
       refine ov (v_pick_f rfl rfl) rfl ?_
       refine om rfl rfl (shO_off (b' := false) 236 rfl rfl rfl rfl ?_)
       refine ov (v_pick_f rfl rfl) rfl ?_
       refine oa rfl rfl (shO_nil ?_)
       refine kW kn ?_
       refine shW_ret ?_
       refine q_res1 Try.results6 (res_tmp rfl) (sr) ?_
       obtain rfl := inj1 r470
       exact rfl
     have r471 := ite_f r432 c433; clear r432
     refine shO_off (b' := false) 190 rfl (Env.isF rfl c433) rfl rfl (shO_off (b' := false) 190 rfl (Env.isF rfl c433) rfl rfl ?_)
     refine ov (v_pick_f (evD_false rfl c433) rfl) rfl ?_
     refine om rfl rfl (shO_off (b' := false) 194 rfl rfl rfl rfl (shO_off (b' := false) 194 rfl rfl rfl rfl (shO_off (b' := false) 194 rfl rfl rfl rfl (shO_off (b' := false) 194 rfl rfl rfl rfl ?_))))
     refine ov (v_pick_f rfl rfl) rfl ?_
     refine om rfl rfl (shO_off (b' := false) 200 rfl rfl rfl rfl (shO_off (b' := false) 200 rfl rfl rfl rfl (shO_off (b' := false) 200 rfl rfl rfl rfl (shO_off (b' := false) 200 rfl rfl rfl rfl (shO_off (b' := false) 200 rfl rfl rfl rfl ?_)))))
     refine ov (v_pick_f rfl rfl) rfl ?_
     refine om rfl rfl (shO_off (b' := false) 207 rfl rfl rfl rfl (shO_off (b' := false) 207 rfl rfl rfl rfl (shO_off (b' := false) 207 rfl rfl rfl rfl (shO_off (b' := false) 207 rfl rfl rfl rfl (shO_off (b' := false) 207 rfl rfl rfl rfl (shO_off (b' := false) 207 rfl rfl rfl rfl ?_))))))
     refine ov (v_pick_f rfl rfl) rfl ?_
     refine om rfl rfl (shO_off (b' := false) 215 rfl rfl rfl rfl (shO_off (b' := false) 215 rfl rfl rfl rfl (shO_off (b' := false) 215 rfl rfl rfl rfl (shO_off (b' := false) 215 rfl rfl rfl rfl (shO_off (b' := false) 215 rfl rfl rfl rfl ?_)))))
     refine ov (v_pick_f rfl rfl) rfl ?_
     refine om rfl rfl (shO_off (b' := false) 222 rfl rfl rfl rfl (shO_off (b' := false) 222 rfl rfl rfl rfl (shO_off (b' := false) 222 rfl rfl rfl rfl (shO_off (b' := false) 222 rfl rfl rfl rfl (shO_off (b' := false) 222 rfl rfl rfl rfl (shO_off (b' := false) 222 rfl rfl rfl rfl ?_))))))
     refine ov (v_pick_f rfl rfl) rfl ?_
     refine om rfl rfl (shO_off (b' := false) 230 rfl rfl rfl rfl (shO_off (b' := false) 230 rfl rfl rfl rfl (shO_off (b' := false) 230 rfl rfl rfl rfl (shO_off (b' := false) 230 rfl rfl rfl rfl ?_))))
     refine ov (v_pick_f rfl rfl) rfl ?_
     refine om rfl rfl (shO_off (b' := false) 236 rfl rfl rfl rfl ?_)
     refine ov (v_pick_f rfl rfl) rfl ?_
     refine oa rfl rfl (shO_nil ?_)
     refine kW kn ?_
     refine shW_ret ?_
     refine q_res1 Try.results6 (res_tmp rfl) (sr) ?_
     obtain rfl := inj1 r471
     exact rfl
   have r472 := ite_f r430 c431; clear r430
   refine shO_off (b' := false) 186 rfl (Env.isF rfl c431) rfl rfl (shO_off (b' := false) 186 rfl (Env.isF rfl c431) rfl rfl ?_)
   refine ov (v_pick_f (evD_false rfl c431) rfl) rfl ?_
   refine om rfl rfl (shO_off (b' := false) 190 rfl rfl rfl rfl (shO_off (b' := false) 190 rfl rfl rfl rfl ?_))
   refine ov (v_pick_f rfl rfl) rfl ?_
   refine om rfl rfl (shO_off (b' := false) 194 rfl rfl rfl rfl (shO_off (b' := false) 194 rfl rfl rfl rfl (shO_off (b' := false) 194 rfl rfl rfl rfl (shO_off (b' := false) 194 rfl rfl rfl rfl ?_))))
   refine ov (v_pick_f rfl rfl) rfl ?_
   refine om rfl rfl (shO_off (b' := false) 200 rfl rfl rfl rfl (shO_off (b' := false) 200 rfl rfl rfl rfl (shO_off (b' := false) 200 rfl rfl rfl rfl (shO_off (b' := false) 200 rfl rfl rfl rfl (shO_off (b' := false) 200 rfl rfl rfl rfl ?_)))))
   refine ov (v_pick_f rfl rfl) rfl ?_
   refine om rfl rfl (shO_off (b' := false) 207 rfl rfl rfl rfl (shO_off (b' := false) 207 rfl rfl rfl rfl (shO_off (b' := false) 207 rfl rfl rfl rfl (shO_off (b' := false) 207 rfl rfl rfl rfl (shO_off (b' := false) 207 rfl rfl rfl rfl (shO_off (b' := false) 207 rfl rfl rfl rfl ?_))))))
   refine ov (v_pick_f rfl rfl) rfl ?_
   refine om rfl rfl (shO_off (b' := false) 215 rfl rfl rfl rfl (shO_off (b' := false) 215 rfl rfl rfl rfl (shO_off (b' := false) 215 rfl rfl rfl rfl (shO_off (b' := false) 215 rfl rfl rfl rfl (shO_off (b' := false) 215 rfl rfl rfl rfl ?_)))))
   refine ov (v_pick_f rfl rfl) rfl ?_
   refine om rfl rfl (shO_off (b' := false) 222 rfl rfl rfl rfl (shO_off (b' := false) 222 rfl rfl rfl rfl (shO_off (b' := false) 222 rfl rfl rfl rfl (shO_off (b' := false) 222 rfl rfl rfl rfl (shO_off (b' := false) 222 rfl rfl rfl rfl (shO_off (b' := false) 222 rfl rfl rfl rfl ?_))))))
   refine ov (v_pick_f rfl rfl) rfl ?_
   refine om rfl rfl (shO_off (b' := false) 230 rfl rfl rfl rfl (shO_off (b' := false) 230 rfl rfl rfl rfl (shO_off (b' := false) 230 rfl rfl rfl rfl (shO_off (b' := false) 230 rfl rfl rfl rfl ?_))))
   refine ov (v_pick_f rfl rfl) rfl ?_
   refine om rfl rfl (shO_off (b' := false) 236 rfl rfl rfl rfl ?_)
   refine ov (v_pick_f rfl rfl) rfl ?_
   refine oa rfl rfl (shO_nil ?_)
   refine kW kn ?_
   refine shW_ret ?_
   refine q_res1 Try.results6 (res_tmp rfl) (sr) ?_
   obtain rfl := inj1 r472
   exact rfl
 have r473 := ite_f r417 c429; clear r417
 refine shO_off (b' := false) 182 rfl (Env.isF rfl c429) rfl rfl (shO_off (b' := false) 182 rfl (Env.isF rfl c429) rfl rfl ?_)
 refine ov (v_pick_f (evD_false rfl c429) rfl) rfl ?_
 refine om rfl rfl (shO_off (b' := false) 186 rfl rfl rfl rfl (shO_off (b' := false) 186 rfl rfl rfl rfl ?_))
 refine ov (v_pick_f rfl rfl) rfl ?_
 refine om rfl rfl (shO_off (b' := false) 190 rfl rfl rfl rfl (shO_off (b' := false) 190 rfl rfl rfl rfl ?_))
 refine ov (v_pick_f rfl rfl) rfl ?_
 refine om rfl rfl (shO_off (b' := false) 194 rfl rfl rfl rfl (shO_off (b' := false) 194 rfl rfl rfl rfl (shO_off (b' := false) 194 rfl rfl rfl rfl (shO_off (b' := false) 194 rfl rfl rfl rfl ?_))))
 refine ov (v_pick_f rfl rfl) rfl ?_
 refine om rfl rfl (shO_off (b' := false) 200 rfl rfl rfl rfl (shO_off (b' := false) 200 rfl rfl rfl rfl (shO_off (b' := false) 200 rfl rfl rfl rfl (shO_off (b' := false) 200 rfl rfl rfl rfl (shO_off (b' := false) 200 rfl rfl rfl rfl ?_)))))
 refine ov (v_pick_f rfl rfl) rfl ?_
 refine om rfl rfl (shO_off (b' := false) 207 rfl rfl rfl rfl (shO_off (b' := false) 207 rfl rfl rfl rfl (shO_off (b' := false) 207 rfl rfl rfl rfl (shO_off (b' := false) 207 rfl rfl rfl rfl (shO_off (b' := false) 207 rfl rfl rfl rfl (shO_off (b' := false) 207 rfl rfl rfl rfl ?_))))))
 refine ov (v_pick_f rfl rfl) rfl ?_
 refine om rfl rfl (shO_off (b' := false) 215 rfl rfl rfl rfl (shO_off (b' := false) 215 rfl rfl rfl rfl (shO_off (b' := false) 215 rfl rfl rfl rfl (shO_off (b' := false) 215 rfl rfl rfl rfl (shO_off (b' := false) 215 rfl rfl rfl rfl ?_)))))
 refine ov (v_pick_f rfl rfl) rfl ?_
 refine om rfl rfl (shO_off (b' := false) 222 rfl rfl rfl rfl (shO_off (b' := false) 222 rfl rfl rfl rfl (shO_off (b' := false) 222 rfl rfl rfl rfl (shO_off (b' := false) 222 rfl rfl rfl rfl (shO_off (b' := false) 222 rfl rfl rfl rfl (shO_off (b' := false) 222 rfl rfl rfl rfl ?_))))))
 refine ov (v_pick_f rfl rfl) rfl ?_
 refine om rfl rfl (shO_off (b' := false) 230 rfl rfl rfl rfl (shO_off (b' := false) 230 rfl rfl rfl rfl (shO_off (b' := false) 230 rfl rfl rfl rfl (shO_off (b' := false) 230 rfl rfl rfl rfl ?_))))
 refine ov (v_pick_f rfl rfl) rfl ?_
 refine om rfl rfl (shO_off (b' := false) 236 rfl rfl rfl rfl ?_)
 refine ov (v_pick_f rfl rfl) rfl ?_
 refine oa rfl rfl (shO_nil ?_)
 refine kW kn ?_
 refine shW_ret ?_
 refine q_res1 Try.results6 (res_tmp rfl) (sr) ?_
 obtain rfl := inj1 r473
 exact rfl
end Go.Proofs.Ytejkgppikpkkpaa
