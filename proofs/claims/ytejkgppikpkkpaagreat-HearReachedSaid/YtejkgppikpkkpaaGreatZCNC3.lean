/- The walks that this claim needs, printed by a program of mine; part 3. -/
import Derived.Test.YtejkgppikpkkpaaGreatZCNC2
namespace Go.Proofs.YtejkgppikpkkpaaGreat
open Go.SH Go.PL
set_option maxHeartbeats 1000000 in
theorem oyezlaw01_HearReached_w {numbers_a : Option Addr} {numbers_c : Nat} {numbers : List Int} {tries_a : Option Addr} {tries_c : Nat} {tries : List Int} {F : FS} (h_numbers : RowR 1 (iE .u8) F numbers_a numbers_c numbers) (h_tries : RowR 1 (iE .u8) F tries_a tries_c tries) {r : Bool} (hr : oyezlaw01_HearReached numbers tries = some r) :
    SpecV Tryz.prog 4 #[.slice numbers_a numbers.length numbers_c, .slice tries_a tries.length tries_c] F (.bool r) := by
 refine spec_of_shW (args := [.slice numbers_a numbers.length numbers_c, .slice tries_a tries.length tries_c]) Tryz.func4 rfl Tryz.ntmps4 (Nat.le_of_ble_eq_true rfl) ?_
 intro K _ _; rw [oyezlaw01_HearReached] at hr
 refine wsr (oa rfl rfl (nsr (om rfl rfl ?_)))
 obtain ⟨metal, at_, turn, h1, r2⟩ := b3_ok hr; clear hr
 refine o_call0 rfl Tryz.call18 rfl rfl rfl (oyezkit_Hang_w h_numbers h1) ?_; rintro _ F3 _ hF4 hn5 ⟨b7, a8, c9, rfl, rfl, h10⟩
 replace h_tries := h_tries.mono (iE_ok _) hF4
 refine shO_L (lb (ln rfl)) ?_
 refine om rfl rfl ?_
 obtain ⟨metal2, at_2, turn2, h11, r12⟩ := b3_ok r2; clear r2
 refine o_call0 rfl Tryz.call18 rfl rfl rfl (oyezkit_Hang_w h_tries h11) ?_; rintro _ F13 _ hF14 hn15 ⟨b17, a18, c19, rfl, rfl, h20⟩
 replace h10 := h10.mono (iE_ok _) hF14
 refine shO_L (lb (ln rfl)) ?_
 refine oa rfl rfl (oa rfl rfl (nsr (om rfl rfl ?_)))
 obtain ⟨n, l, at_3, turn3, h21, r22⟩ := b4_ok r12; clear r12
 refine o_callG (Lb := [(b7, .cells #[.slice a8 metal.length c9, .int .i64 at_, .int .u32 turn] 101 (0, 0))]) (Lr := [(b17, .cells #[.slice a18 metal2.length c19, .int .i64 at_2, .int .u32 turn2] 101 (0, 0))]) rfl Tryz.call19 rfl rfl rfl (((fC fO).trans (pC pR))) (oyezlaw01_Made_w h10 h21) ?_; rintro _ F23 _ hF24 hd26 hn25 ⟨a27, n31, c28, Lb29, rfl, rfl, hz30⟩
 replace h10 := h10.mono (iE_ok _) hF24
 replace h20 := h20.mono (iE_ok _) hF24
 have hn33 := newp (Lb' := [(b7, .cells #[.slice a8 metal.length c9, .int .i64 at_3, .int .u32 turn3] 101 (0, 0))]) (by rfl) hd26 hn25
 replace hz30 := hz30.new fun p hp => hn33 p (by simp [hp])
 refine shO_L (lb (lp (ln rfl))) ?_
 refine kO (kc (kf (fS fO) kr)) ?_
 refine o_alloc rfl Tryz.zeroValue24 ?_; intro b34 hb34
 refine o_storeA (i := 0) Tryz.sizeOf24 rfl rfl rfl (by simp [Value.oneCell']) rfl (Nat.le_of_ble_eq_true rfl) ?_
 refine shO_L (L' := (b34, .cells #[.int .i64 n, .slice a27 n31 c28] 24 (0, 0)) :: ((b7, .cells #[.slice a8 metal.length c9, .int .i64 at_3, .int .u32 turn3] 101 (0, 0)) :: ((b17, .cells #[.slice a18 metal2.length c19, .int .i64 at_2, .int .u32 turn2] 101 (0, 0)) :: (Lb29 ++ [])))) rfl ?_
 refine shO_nil (shW_seq ?_)
 refine shW_drawM [(.pre, 4), (.still, 0), (.still, 2), (.seq, 1), (.seq, 3), (.alloc (.cells (.agg #[.int .i64 0, .int .i64 0] : Value).cells 27 (0, 0)) (fun b => .pointer (some ⟨b, 0, none⟩)) [], 4), (.seq, 5), (.still, 6)] (by kernel_rfl) (by kernel_rfl) (⟨⟨_, _, rfl, rfl, rfl, rfl, rfl, mk_alloc Tryz.zeroValue27⟩, trivial⟩) (by rfl) (by kernel_rfl) ?_
 refine ⟨⟨[], rfl, sn _, by kernel_rfl⟩, ?_⟩
 refine shM_v (v := .pointer (some ⟨b7, 0, none⟩)) (ek := [(5, .pointer (some ⟨b7, 0, none⟩))]) (Ls := []) rfl rfl rfl rfl ((sc rfl (sn _))) (by kernel_rfl) sm (fun H F' L' hF' hL' => v_move rfl) ?_
 refine shM_v (v := .agg #[.int .i64 n, .slice a27 n31 c28]) (ek := [(7, .pointer (some ⟨b34, 0, none⟩))]) (Ls := [(b34, .cells #[.int .i64 n, .slice a27 n31 c28] 24 (0, 0))]) rfl rfl rfl rfl ((sc rfl (sn _))) (by kernel_rfl) (s0 (s2 (s1 (s1 (s3 sr))))) (fun H F' L' hF' hL' => v_loadA (cs := #[.int .i64 n, .slice a27 n31 c28]) Tryz.isAgg24 Tryz.sizeOf24 rfl ((Has.own 0 rfl).ext hF' hL') (Nat.le_of_ble_eq_true rfl) rfl) ?_
 refine ⟨_, [(39, .pointer (some ⟨b7, 0, none⟩))], rfl, rfl, (sc rfl (sn _)), by kernel_rfl, ?_⟩; intro H
 obtain ⟨n2, n3, at_4, turn4, h35, r36⟩ := b4_ok r22; clear r22
 refine o_callG (Lb := [(b7, .cells #[.slice a8 metal.length c9, .int .i64 at_3, .int .u32 turn3] 101 (0, 0))]) (Lr := (b34, .cells #[.int .i64 n, .slice a27 n31 c28] 24 (0, 0)) :: ((b17, .cells #[.slice a18 metal2.length c19, .int .i64 at_2, .int .u32 turn2] 101 (0, 0)) :: (Lb29 ++ []))) rfl Tryz.call20 rfl rfl rfl (((fC fO).trans (pC pR))) (oyezlaw01_Aired_w h10 h35) ?_; rintro _ F37 _ hF38 hd40 hn39 ⟨rfl, rfl⟩
 replace h20 := h20.mono (iE_ok _) hF38
 replace hz30 := hz30.mono (iE_ok _) hF38
 refine shO_L (lb (ln rfl)) ?_
 refine shO_nil ⟨_, rfl, hF38, [2], by kernel_rfl, .inl (.inr (fun d h => by cases h; rfl)), (List.forall_mem_cons.2 ⟨s0 (s1 (s2 (s1 (s3 sr)))), (fun _ h => absurd h List.not_mem_nil)⟩), ?_⟩
 refine ⟨_, [(41, .agg #[.int .i64 n, .slice a27 n31 c28])], rfl, rfl, (sc rfl (sn _)), by kernel_rfl, ?_⟩; intro H
 obtain ⟨l2, h41, r42⟩ := b1_ok r36; clear r36
 refine o_callTO (Lb := []) (Lt := Lb29 ++ []) (Lr := [(b7, .cells #[.slice a8 metal.length c9, .int .i64 at_4, .int .u32 turn4] 101 (0, 0)), (b34, .cells #[.int .i64 n, .slice a27 n31 c28] 24 (0, 0)), (b17, .cells #[.slice a18 metal2.length c19, .int .i64 at_2, .int .u32 turn2] 101 (0, 0))]) rfl Tryz.call21 rfl rfl rfl (pT ((fC (fC (fC fP))).trans (pA pR)) (ln (lp (ln rfl)))) (fun F2 h2 h3 => by rw [(SlR.caps hz30).1]; exact oyezlaw01_houses_w (hz30.row (iE_ok _) h2 (fun p hp => h3 p (List.mem_append_left _ hp))) h41) (fun _ _ _ _ hq => by obtain ⟨a47, n51, c48, Lb49, rfl, rfl, hz50⟩ := hq; exact ⟨_, _, _, _, rfl, rfl, hz50.flat (fun _ _ h => h)⟩) ?_; rintro _ F43 _ hF44 hd46 hn45 ⟨a47, n51, c48, Lb49, rfl, rfl, hz50⟩
 replace h20 := h20.mono (iE_ok _) hF44
 replace hz30 := hz30.mono (iE_ok _) hF44
 have hn53 := newp (Lb' := []) (by rfl) hd46 hn45
 replace hz50 := hz50.new fun p hp => hn53 p (by simp [hp])
 refine shO_L (lp (ln (lp (ln rfl)))) ?_
 refine kO (kf (fS (fS fO)) (kf (fS (fS fO)) (kf (fS (fS fO)) kr))) ?_
 refine shO_nil ⟨_, rfl, hF44, [], by kernel_rfl, .inl (.inl rfl), (fun _ h => absurd h List.not_mem_nil), ?_⟩
 refine shM_ptr rfl ?_; intro b54 hb54
 refine shM_L (L' := (b54, .cells #[.int .i64 0, .int .i64 0] 27 (0, 0)) :: ((b7, .cells #[.slice a8 metal.length c9, .int .i64 at_4, .int .u32 turn4] 101 (0, 0)) :: ((b34, .cells #[.int .i64 n, .slice a27 n31 c28] 24 (0, 0)) :: ((b17, .cells #[.slice a18 metal2.length c19, .int .i64 at_2, .int .u32 turn2] 101 (0, 0)) :: (Lb49 ++ (Lb29 ++ [])))))) rfl ?_
 refine ⟨_, [(8, .pointer (some ⟨b54, 0, none⟩)), (40, .agg #[.int .i64 n2, .int .i64 n3])], rfl, rfl, (sc rfl (sc rfl (sn _))), by kernel_rfl, ?_⟩; intro H
 refine o_storeA (i := 0) Tryz.sizeOf27 rfl rfl rfl (by simp [Value.oneCell']) rfl (Nat.le_of_ble_eq_true rfl) ?_
 refine shO_L (L' := (b54, .cells #[.int .i64 n2, .int .i64 n3] 27 (0, 0)) :: ((b7, .cells #[.slice a8 metal.length c9, .int .i64 at_4, .int .u32 turn4] 101 (0, 0)) :: ((b34, .cells #[.int .i64 n, .slice a27 n31 c28] 24 (0, 0)) :: ((b17, .cells #[.slice a18 metal2.length c19, .int .i64 at_2, .int .u32 turn2] 101 (0, 0)) :: (Lb49 ++ (Lb29 ++ [])))))) rfl ?_
 refine shO_nil ⟨undef, rfl, FExt.refl _, [], by kernel_rfl, .inl (.inl rfl), (fun _ h => absurd h List.not_mem_nil), ?_⟩
 refine shM_v (v := .slice a47 n51 c48) (ek := [(42, .slice a47 n51 c48)]) (Ls := []) rfl rfl rfl rfl ((sc rfl (sn _))) (by kernel_rfl) sm (fun H F' L' hF' hL' => v_assign rfl) ?_
 refine shM_nil ?_
 refine wsr ?_
 refine ov (v_loadA (cs := #[.int .i64 n, .slice a27 n31 c28]) Tryz.isAgg24 Tryz.sizeOf24 rfl (Has.own 2 rfl) (Nat.le_of_ble_eq_true rfl) rfl) rfl ?_
 refine ov (v_loadA (cs := #[.int .i64 n2, .int .i64 n3]) Tryz.isAgg27 Tryz.sizeOf27 rfl (Has.own 0 rfl) (Nat.le_of_ble_eq_true rfl) rfl) rfl ?_
 refine om rfl rfl ?_
 obtain ⟨l3, n4, h55, r56⟩ := b2_ok r42; clear r42
 refine o_callTO (Lb := []) (Lt := Lb29 ++ (Lb49 ++ [])) (Lr := [(b54, .cells #[.int .i64 n2, .int .i64 n3] 27 (0, 0)), (b7, .cells #[.slice a8 metal.length c9, .int .i64 at_4, .int .u32 turn4] 101 (0, 0)), (b34, .cells #[.int .i64 n, .slice a27 n31 c28] 24 (0, 0)), (b17, .cells #[.slice a18 metal2.length c19, .int .i64 at_2, .int .u32 turn2] 101 (0, 0))]) rfl Tryz.call10 rfl rfl rfl (pT ((fC (fC (fC (fC (fS fP))))).trans (pA ((fC (fC (fC (fC fP)))).trans (pA pR)))) (ln (lp (lp (ln rfl))))) (fun F2 h2 h3 => by rw [(SlR.caps hz30).1]; rw [(SlR.caps hz50).1]; exact hear_Fewest_w (hz30.row (iE_ok _) h2 (fun p hp => h3 p (List.mem_append_left _ hp))) (hz50.row (iE_ok _) h2 (fun p hp => h3 p (List.mem_append_right _ (List.mem_append_left _ hp)))) h55) (fun _ _ _ _ hq => by obtain ⟨a61, n65, c62, Lb63, rfl, rfl, hz64⟩ := hq; exact ⟨_, _, _, _, rfl, rfl, hz64.flat (fun _ _ h => h)⟩) ?_; rintro _ F57 _ hF58 hd60 hn59 ⟨a61, n65, c62, Lb63, rfl, rfl, hz64⟩
 replace h20 := h20.mono (iE_ok _) hF58
 replace hz30 := hz30.mono (iE_ok _) hF58
 replace hz50 := hz50.mono (iE_ok _) hF58
 have hn67 := newp (Lb' := []) (by rfl) hd60 hn59
 replace hz64 := hz64.new fun p hp => hn67 p (by simp [hp])
 refine shO_L (lp (ln (lp (lp (ln rfl))))) ?_
 refine kO (kf (fS (fS (fS fO))) (kf (fS (fS (fS fO))) (kf (fS (fS (fS fO))) (kf (fS (fS (fS fO))) kr)))) ?_
 refine om rfl rfl (ox rfl rfl rfl (ox rfl rfl rfl (oa rfl rfl (oa rfl rfl (nsr ?_)))))
 refine ov (v_loadA (cs := #[.int .i64 n, .slice a27 n31 c28]) Tryz.isAgg24 Tryz.sizeOf24 rfl (Has.own 2 rfl) (Nat.le_of_ble_eq_true rfl) rfl) rfl ?_
 refine ov (v_loadA (cs := #[.int .i64 n2, .int .i64 n3]) Tryz.isAgg27 Tryz.sizeOf27 rfl (Has.own 0 rfl) (Nat.le_of_ble_eq_true rfl) rfl) rfl ?_
 obtain ⟨l4, n5, h68, r69⟩ := b2_ok r56; clear r56
 refine o_callTO (Lb := []) (Lt := Lb29 ++ []) (Lr := (b54, .cells #[.int .i64 n2, .int .i64 n3] 27 (0, 0)) :: ((b7, .cells #[.slice a8 metal.length c9, .int .i64 at_4, .int .u32 turn4] 101 (0, 0)) :: ((b34, .cells #[.int .i64 n, .slice a27 n31 c28] 24 (0, 0)) :: ((b17, .cells #[.slice a18 metal2.length c19, .int .i64 at_2, .int .u32 turn2] 101 (0, 0)) :: (Lb63 ++ (Lb49 ++ [])))))) rfl Tryz.call22 rfl rfl rfl (pT ((fC (fC (fC (fC (fS fP))))).trans (pA pR)) (ln (lp (ln rfl)))) (fun F2 h2 h3 => by rw [(SlR.caps hz30).1]; exact hear_Deaf_w (hz30.row (iE_ok _) h2 (fun p hp => h3 p (List.mem_append_left _ hp))) h68) (fun _ _ _ _ hq => by obtain ⟨a74, n78, c75, Lb76, rfl, rfl, hz77⟩ := hq; exact ⟨_, _, _, _, rfl, rfl, hz77.flat (fun _ _ h => h)⟩) ?_; rintro _ F70 _ hF71 hd73 hn72 ⟨a74, n78, c75, Lb76, rfl, rfl, hz77⟩
 replace h20 := h20.mono (iE_ok _) hF71
 replace hz30 := hz30.mono (iE_ok _) hF71
 replace hz50 := hz50.mono (iE_ok _) hF71
 replace hz64 := hz64.mono (iE_ok _) hF71
 have hn80 := newp (Lb' := []) (by rfl) hd73 hn72
 replace hz77 := hz77.new fun p hp => hn80 p (by simp [hp])
 refine shO_L (lp (ln (lp (ln rfl)))) ?_
 refine kO (kf (fS (fS fO)) (kf (fS (fS fO)) (kf (fS (fS fO)) (kf (fS (fS fO)) kr)))) ?_
 refine om rfl rfl (ox rfl rfl rfl (ox rfl rfl rfl (oa rfl rfl (oa rfl rfl (nsr ?_)))))
 refine ov (v_loadA (cs := #[.int .i64 n, .slice a27 n31 c28]) Tryz.isAgg24 Tryz.sizeOf24 rfl (Has.own 2 rfl) (Nat.le_of_ble_eq_true rfl) rfl) rfl ?_
 refine ov (v_loadA (cs := #[.int .i64 n2, .int .i64 n3]) Tryz.isAgg27 Tryz.sizeOf27 rfl (Has.own 0 rfl) (Nat.le_of_ble_eq_true rfl) rfl) rfl ?_
 refine om rfl rfl ?_
 obtain ⟨l5, n6, h81, r82⟩ := b2_ok r69; clear r69
 refine o_callTO (Lb := []) (Lt := Lb29 ++ (Lb49 ++ [])) (Lr := (b54, .cells #[.int .i64 n2, .int .i64 n3] 27 (0, 0)) :: ((b7, .cells #[.slice a8 metal.length c9, .int .i64 at_4, .int .u32 turn4] 101 (0, 0)) :: ((b34, .cells #[.int .i64 n, .slice a27 n31 c28] 24 (0, 0)) :: ((b17, .cells #[.slice a18 metal2.length c19, .int .i64 at_2, .int .u32 turn2] 101 (0, 0)) :: (Lb76 ++ (Lb63 ++ [])))))) rfl Tryz.call15 rfl rfl rfl (pT ((fC (fC (fC (fC (fS fP))))).trans (pA ((fC (fC (fC (fC (fS (fS fP)))))).trans (pA pR)))) (ln (lp (lp (ln rfl))))) (fun F2 h2 h3 => by rw [(SlR.caps hz30).1]; rw [(SlR.caps hz50).1]; exact hear_Apart_w (hz30.row (iE_ok _) h2 (fun p hp => h3 p (List.mem_append_left _ hp))) (hz50.row (iE_ok _) h2 (fun p hp => h3 p (List.mem_append_right _ (List.mem_append_left _ hp)))) h81) (fun _ _ _ _ hq => by obtain ⟨a87, n91, c88, Lb89, rfl, rfl, hz90⟩ := hq; exact ⟨_, _, _, _, rfl, rfl, hz90.flat (fun _ _ h => h)⟩) ?_; rintro _ F83 _ hF84 hd86 hn85 ⟨a87, n91, c88, Lb89, rfl, rfl, hz90⟩
 replace h20 := h20.mono (iE_ok _) hF84
 replace hz30 := hz30.mono (iE_ok _) hF84
 replace hz50 := hz50.mono (iE_ok _) hF84
 replace hz64 := hz64.mono (iE_ok _) hF84
 replace hz77 := hz77.mono (iE_ok _) hF84
 have hn93 := newp (Lb' := []) (by rfl) hd86 hn85
 replace hz90 := hz90.new fun p hp => hn93 p (by simp [hp])
 refine shO_L (lp (ln (lp (lp (ln rfl))))) ?_
 refine kO (kf (fS (fS (fS fO))) (kf (fS (fS (fS fO))) (kf (fS (fS (fS fO))) (kf (fS (fS (fS fO))) kr)))) ?_
 refine om rfl rfl (ox rfl rfl rfl (ox rfl rfl rfl (oa rfl rfl (oa rfl rfl (shO_nil (shW_seq ?_))))))
 obtain ⟨k, h94, r95⟩ := b1_ok r82; clear r82
 refine shW_join (fun e1 F1 L1 => F83 = F1 ∧ L1 = ((b54, .cells #[.int .i64 n2, .int .i64 n3] 27 (0, 0)) :: ((b34, .cells #[.int .i64 n, .slice a27 n31 c28] 24 (0, 0)) :: ((b17, .cells #[.slice a18 metal2.length c19, .int .i64 at_2, .int .u32 turn2] 101 (0, 0)) :: (Lb29 ++ (Lb49 ++ (Lb63 ++ (Lb76 ++ (Lb89 ++ [])))))))) ∧ e1.sub [(6, .pointer (some ⟨b17, 0, none⟩)), (7, .pointer (some ⟨b34, 0, none⟩)), (8, .pointer (some ⟨b54, 0, none⟩)), (9, .slice a47 n51 c48), (10, .slice a61 n65 c62), (11, .int .i64 n4), (12, .slice a74 n78 c75), (14, .slice a87 n91 c88), (73, .bool k)]) ?_ ?_
 · clear r95
   refine shW_region (om rfl rfl ?_)
   refine ov (v_neq rfl rfl) rfl ?_
   refine om rfl rfl ?_
   by_cases c96 : n5 ≠ 0
   · have r97 := ite_t h94 c96; clear h94
     refine shO_off (b' := true) 65 rfl (Env.isT rfl c96) rfl rfl (shO_off (b' := true) 65 rfl (Env.isT rfl c96) rfl rfl ?_)
     refine ov (v_pick_t (evD_true rfl c96) rfl) rfl ?_
     refine om rfl rfl (shO_off (b' := true) 69 rfl rfl rfl rfl (shO_off (b' := true) 69 rfl rfl rfl rfl (shO_off (b' := true) 69 rfl rfl rfl rfl ?_)))
     refine ov (v_pick_t rfl rfl) rfl ?_
     refine shO_nil ?_
     obtain rfl := inj1 r97
     exact mi (kc (kd (kc (kc (kg (fS fP) (kg (fS fP) (kg (fS (fS fP)) (kg (fS fP) kr)))))))) ⟨rfl, rfl, (sc rfl (sc rfl (sc rfl (sc rfl (sc rfl (sc rfl (sc rfl (sc rfl (sc rfl (sn _))))))))))⟩
   have r98 := ite_f h94 c96; clear h94
   refine shO_on (b := false) 65 rfl (Env.isF rfl c96) (om rfl rfl (shO_on (b := false) 65 rfl (Env.isF rfl c96) ?_))
   refine ov (v_neq rfl rfl) rfl ?_
   refine ov (v_pick_f (evD_false rfl c96) rfl) rfl ?_
   refine om rfl rfl ?_
   by_cases c99 : n6 ≠ 0
   · have r100 := ite_t r98 c99; clear r98
     refine shO_off (b' := true) 69 rfl (Env.isT rfl c99) rfl rfl (shO_off (b' := true) 69 rfl (Env.isT rfl c99) rfl rfl (shO_off (b' := true) 69 rfl (Env.isT rfl c99) rfl rfl ?_))
     refine ov (v_pick_t (evD_true rfl c99) rfl) rfl ?_
     refine shO_nil ?_
     obtain rfl := inj1 r100
     exact mi (kc (kd (kc (kc (kg (fS fP) (kg (fS fP) (kg (fS (fS fP)) (kg (fS fP) kr)))))))) ⟨rfl, rfl, (sc rfl (sc rfl (sc rfl (sc rfl (sc rfl (sc rfl (sc rfl (sc rfl (sc rfl (sn _))))))))))⟩
   have r101 := ite_f r98 c99; clear r98
   refine shO_on (b := false) 69 rfl (Env.isF rfl c99) ?_
   refine ov (v_loadA (cs := #[.int .i64 n, .slice a27 n31 c28]) Tryz.isAgg24 Tryz.sizeOf24 rfl (Has.own 2 rfl) (Nat.le_of_ble_eq_true rfl) rfl) rfl ?_
   refine shO_on (b := false) 69 rfl (Env.isF rfl c99) ?_
   obtain ⟨n7, h102, r103⟩ := b1_ok r101; clear r101
   refine o_callT (Lt := Lb29 ++ []) (Lr := (b54, .cells #[.int .i64 n2, .int .i64 n3] 27 (0, 0)) :: ((b7, .cells #[.slice a8 metal.length c9, .int .i64 at_4, .int .u32 turn4] 101 (0, 0)) :: ((b34, .cells #[.int .i64 n, .slice a27 n31 c28] 24 (0, 0)) :: ((b17, .cells #[.slice a18 metal2.length c19, .int .i64 at_2, .int .u32 turn2] 101 (0, 0)) :: (Lb89 ++ (Lb49 ++ (Lb76 ++ (Lb63 ++ [])))))))) rfl Tryz.call23 rfl rfl rfl (pT ((fC (fC (fC (fC (fS fP))))).trans (pA pR)) (lp (ln rfl))) (fun F2 h2 h3 => by rw [(SlR.caps hz30).1]; exact hear_Check_w (hz30.row (iE_ok _) h2 (fun p hp => h3 p (List.mem_append_left _ hp))) h102) ?_
   refine shO_on (b := false) 69 rfl (Env.isF rfl c99) ?_
   refine ov (v_neq rfl rfl) rfl ?_
   refine ov (v_pick_f (evD_false rfl c99) rfl) rfl ?_
   refine shO_nil ?_
   obtain rfl := inj1 r103
   exact mi (kc (kd (kc (kc (kg (fS fP) (kg (fS fP) (kg (fS (fS fP)) (kg (fS fP) kr)))))))) ⟨rfl, rfl, (sc rfl (sc rfl (sc rfl (sc rfl (sc rfl (sc rfl (sc rfl (sc rfl (sc rfl (sn _))))))))))⟩
 rintro e1 _ _ ⟨rfl, rfl, he104⟩
 refine shW_env _ he104 ?_; clear he104
 refine shW_cond rfl (fun c105 => ?_) (fun c105 => ?_)
 · have r106 := bt r95 c105; clear r95
   refine wsr (oa rfl rfl (shO_nil ?_))
   refine kW kn ?_
   refine shW_ret (andThen_ret ?_)
   refine q_res1 Tryz.results4 (res_tmp rfl) (sr) ?_
   obtain rfl := inj1 r106
   exact rfl
 have r107 := bf r95 c105; clear r95
 refine shW_skip ?_
 refine shW_join (fun e1 F1 L1 => oyezlaw01_HearReached_j1 metal2 at_2 turn2 n l n2 n3 l2 l3 n4 l4 l5 = some r ∧ FExt F83 F1 ∧ L1 = ((b54, .cells #[.int .i64 n2, .int .i64 n3] 27 (0, 0)) :: ((b34, .cells #[.int .i64 n, .slice a27 n31 c28] 24 (0, 0)) :: ((b17, .cells #[.slice a18 metal2.length c19, .int .i64 at_2, .int .u32 turn2] 101 (0, 0)) :: (Lb29 ++ (Lb49 ++ (Lb63 ++ (Lb76 ++ (Lb89 ++ [])))))))) ∧ e1.sub [(6, .pointer (some ⟨b17, 0, none⟩)), (7, .pointer (some ⟨b34, 0, none⟩)), (8, .pointer (some ⟨b54, 0, none⟩)), (9, .slice a47 n51 c48), (10, .slice a61 n65 c62), (11, .int .i64 n4), (12, .slice a74 n78 c75), (14, .slice a87 n91 c88)]) ?_ ?_
 · refine wsr (om rfl rfl ?_)
   refine ov ((v_lenS Tryz.underlying28 rfl).i (SlR.lenI hz77)) rfl ?_
   refine om rfl rfl (shO_nil ?_)
   refine shW_block ?_
   refine shW_lp (fun fu2 e1 F1 L1 => ∃ (tl : List Int) (k2 : Int), tl.length = fu2 ∧ Lst l4 k2 tl ∧ oyezlaw01_HearReached_l2 metal2 at_2 turn2 n l n2 n3 l2 l3 n4 l4 l5 tl = some r ∧ FExt F83 F1 ∧ L1 = ((b54, .cells #[.int .i64 n2, .int .i64 n3] 27 (0, 0)) :: ((b34, .cells #[.int .i64 n, .slice a27 n31 c28] 24 (0, 0)) :: ((b17, .cells #[.slice a18 metal2.length c19, .int .i64 at_2, .int .u32 turn2] 101 (0, 0)) :: (Lb29 ++ (Lb49 ++ (Lb63 ++ (Lb76 ++ (Lb89 ++ [])))))))) ∧ e1.sub [(6, .pointer (some ⟨b17, 0, none⟩)), (7, .pointer (some ⟨b34, 0, none⟩)), (8, .pointer (some ⟨b54, 0, none⟩)), (9, .slice a47 n51 c48), (10, .slice a61 n65 c62), (11, .int .i64 n4), (12, .slice a74 n78 c75), (14, .slice a87 n91 c88), (74, .slice a74 n78 c75), (75, .int .i64 (l4.length : Int)), (76, .int .i64 k2)]) _ (m0 kr ⟨_, _, rfl, Lst.start _, r107, FExt.refl _, rfl, (sc rfl (sc rfl (sc rfl (sc rfl (sc rfl (sc rfl (sc rfl (sc rfl (sc rfl (sc rfl (sc rfl (sn _))))))))))))⟩) ?_
   rintro fu2 e1 F112 _ ⟨tl, k2, hn109, hk108, r110, hF113, rfl, he111⟩
   refine shW_env _ he111 ?_; clear he111
   replace hz30 := hz30.mono (iE_ok _) hF113
   replace hz77 := hz77.mono (iE_ok _) hF113
   refine wsr ?_
   refine ov (v_lssK rfl rfl) rfl ?_
   refine shO_nil (shW_seq ?_)
   refine shW_condP rfl (fun c115 => ?_) (fun c115 => ?_)
   · obtain ⟨x, tl2, rfl, hx117, g118, hk116⟩ := Lst.succ hk108 c115
     rw [oyezlaw01_HearReached_l2] at r110
     refine shW_skip (shW_seq ?_)
     refine shW_block ?_
     refine wsr ?_
     obtain ⟨b119, o120, c121, vs122, ha123, hs124, hle125, rfl, hl126, hc127⟩ := SlR.at (iE_ok _) hz77 (L := (b54, .cells #[.int .i64 n2, .int .i64 n3] 27 (0, 0)) :: ((b34, .cells #[.int .i64 n, .slice a27 n31 c28] 24 (0, 0)) :: ((b17, .cells #[.slice a18 metal2.length c19, .int .i64 at_2, .int .u32 turn2] 101 (0, 0)) :: (Lb29 ++ (Lb49 ++ (Lb63 ++ (Lb76 ++ (Lb89 ++ [])))))))) (fC (fC (fC (fS (fS (fS fP)))))) g118.1 hx117
     refine ov (v_indexO Tryz.underlying28 Tryz.sizeOf3 rfl ha123 rfl (SlR.idx hz77 g118)) rfl ?_
     refine ov (v_load Tryz.isAgg3 rfl hs124 (hc127 0 (by decide))) rfl ?_
     refine oa rfl rfl (nsr ?_)
     refine ov (v_loadA (cs := #[.int .i64 n, .slice a27 n31 c28]) Tryz.isAgg24 Tryz.sizeOf24 rfl (Has.own 1 rfl) (Nat.le_of_ble_eq_true rfl) rfl) rfl ?_
     refine ov (v_loadA (cs := #[.int .i64 n2, .int .i64 n3]) Tryz.isAgg27 Tryz.sizeOf27 rfl (Has.own 0 rfl) (Nat.le_of_ble_eq_true rfl) rfl) rfl ?_
     refine om rfl rfl ?_
     obtain ⟨l6, n8, h128, r129⟩ := b2_ok r110; clear r110
     refine o_callTO (Lb := []) (Lt := Lb29 ++ []) (Lr := (b54, .cells #[.int .i64 n2, .int .i64 n3] 27 (0, 0)) :: ((b34, .cells #[.int .i64 n, .slice a27 n31 c28] 24 (0, 0)) :: ((b17, .cells #[.slice a18 metal2.length c19, .int .i64 at_2, .int .u32 turn2] 101 (0, 0)) :: (Lb49 ++ (Lb63 ++ (Lb76 ++ (Lb89 ++ []))))))) rfl Tryz.call24 rfl rfl rfl (pT ((fC (fC (fC fP))).trans (pA pR)) (ln (lp (ln rfl)))) (fun F2 h2 h3 => by rw [(SlR.caps hz30).1]; exact hear_Stands_w (hz30.row (iE_ok _) h2 (fun p hp => h3 p (List.mem_append_left _ hp))) h128) (fun _ _ _ _ hq => by obtain ⟨a134, n138, c135, Lb136, rfl, rfl, hz137⟩ := hq; exact ⟨_, _, _, _, rfl, rfl, hz137.flat (fun _ _ h => h)⟩) ?_; rintro _ F130 _ hF131 hd133 hn132 ⟨a134, n138, c135, Lb136, rfl, rfl, hz137⟩
     replace hz77 := hz77.mono (iE_ok _) hF131
     have hn140 := newp (Lb' := []) (by rfl) hd133 hn132
     replace hz137 := hz137.new fun p hp => hn140 p (by simp [hp])
     refine shO_L (lp (ln (lp (ln rfl)))) ?_
     refine kO (kf (fS (fS fO)) (kf (fS (fS fO)) (kf (fS (fS fO)) kr))) ?_
     refine om rfl rfl (ox rfl rfl rfl (ox rfl rfl rfl (oa rfl rfl (oa rfl rfl (shO_nil ?_)))))
     obtain ⟨k3, h141, r142⟩ := b1_ok r129; clear r129
     refine shW_join (fun e1 F1 L1 => F130 = F1 ∧ L1 = ((b54, .cells #[.int .i64 n2, .int .i64 n3] 27 (0, 0)) :: ((b34, .cells #[.int .i64 n, .slice a27 n31 c28] 24 (0, 0)) :: ((b17, .cells #[.slice a18 metal2.length c19, .int .i64 at_2, .int .u32 turn2] 101 (0, 0)) :: (Lb29 ++ (Lb49 ++ (Lb63 ++ (Lb76 ++ (Lb89 ++ [])))))))) ∧ e1.sub [(6, .pointer (some ⟨b17, 0, none⟩)), (7, .pointer (some ⟨b34, 0, none⟩)), (8, .pointer (some ⟨b54, 0, none⟩)), (9, .slice a47 n51 c48), (10, .slice a61 n65 c62), (11, .int .i64 n4), (12, .slice a74 n78 c75), (14, .slice a87 n91 c88), (74, .slice a74 n78 c75), (75, .int .i64 (l4.length : Int)), (76, .int .i64 k2), (93, .bool k3)]) ?_ ?_
     · clear r142
       refine shW_region (om rfl rfl ?_)
       refine ov (v_neq rfl rfl) rfl ?_
       refine om rfl rfl ?_
       by_cases c143 : n8 ≠ 0
       · have r144 := ite_t h141 c143; clear h141
         refine shO_off (b' := true) 89 rfl (Env.isT rfl c143) rfl rfl (shO_off (b' := true) 89 rfl (Env.isT rfl c143) rfl rfl (shO_off (b' := true) 89 rfl (Env.isT rfl c143) rfl rfl ?_))
         refine ov (v_pick_t (evD_true rfl c143) rfl) rfl ?_
         refine shO_nil ?_
         obtain rfl := inj1 r144
         exact mi (kc (kc (kc (kx kr)))) ⟨rfl, rfl, (sc rfl (sc rfl (sc rfl (sc rfl (sc rfl (sc rfl (sc rfl (sc rfl (sc rfl (sc rfl (sc rfl (sc rfl (sn _)))))))))))))⟩
       have r145 := ite_f h141 c143; clear h141
       refine shO_on (b := false) 89 rfl (Env.isF rfl c143) (om rfl rfl (shO_on (b := false) 89 rfl (Env.isF rfl c143) ?_))
       refine ov ((v_lenS Tryz.underlying28 rfl).i (SlR.lenI hz137)) rfl ?_
       refine shO_on (b := false) 89 rfl (Env.isF rfl c143) ?_
       refine ov (v_gtrK rfl rfl) rfl ?_
       refine ov (v_pick_f (evD_false rfl c143) rfl) rfl ?_
       refine shO_nil ?_
       obtain rfl := inj1 r145
       exact mi (kc (kc (kc (kx kr)))) ⟨rfl, rfl, (sc rfl (sc rfl (sc rfl (sc rfl (sc rfl (sc rfl (sc rfl (sc rfl (sc rfl (sc rfl (sc rfl (sc rfl (sn _)))))))))))))⟩
     rintro e1 _ _ ⟨rfl, rfl, he146⟩
     refine shW_env _ he146 ?_; clear he146
     refine shW_cond rfl (fun c147 => ?_) (fun c147 => ?_)
     · have r148 := bt r142 c147; clear r142
       refine wsr (oa rfl rfl (shO_nil ?_))
       refine kW kn ?_
       refine shW_ret (inBlock_ret (andThen_ret (andThen_ret (inBlock_ret (andThen_ret ?_)))))
       refine q_res1 Tryz.results4 (res_tmp rfl) (sr) ?_
       obtain rfl := inj1 r148
       exact rfl
     have r149 := bf r142 c147; clear r142
     refine shW_skip (inBlock_n (id := 1) (shW_region ?_))
     refine ov (v_add rfl rfl (Lst.r64 hk108 c115 (SlR.llt hz77))) rfl ?_
     refine om rfl rfl (shO_nil ?_)
     subst hn109; exact le kr ⟨_, _, rfl, hk116, r149, (hF113.trans hF131), rfl, (sc rfl (sc rfl (sc rfl (sc rfl (sc rfl (sc rfl (sc rfl (sc rfl (sc rfl (sc rfl (sc rfl (sn _))))))))))))⟩
   obtain rfl := Lst.zero hk108 c115
   rw [oyezlaw01_HearReached_l2] at r110
   refine shW_exit (andThen_exit (andThen_exit ?_))
   refine inBlock_exit ?_
   exact mi kr ⟨r110, hF113, rfl, (sc rfl (sc rfl (sc rfl (sc rfl (sc rfl (sc rfl (sc rfl (sc rfl (sn _)))))))))⟩
 rintro e1 F152 _ ⟨r150, hF153, rfl, he151⟩
 refine shW_env _ he151 ?_; clear he151
 replace h20 := h20.mono (iE_ok _) hF153
 replace hz30 := hz30.mono (iE_ok _) hF153
 replace hz50 := hz50.mono (iE_ok _) hF153
 replace hz64 := hz64.mono (iE_ok _) hF153
 replace hz77 := hz77.mono (iE_ok _) hF153
 replace hz90 := hz90.mono (iE_ok _) hF153
 rw [oyezlaw01_HearReached_j1] at r150
 refine shW_seq (wsr (om rfl rfl ?_))
 refine ov ((v_lenS Tryz.underlying28 rfl).i (SlR.lenI hz77)) rfl ?_
 refine ov (v_gtrK rfl rfl) rfl ?_
 refine shO_nil ?_
 refine shW_condP rfl (fun c154 => ?_) (fun c154 => ?_)
 · have r155 := ite_t r150 c154; clear r150
   refine wsr (om rfl rfl ?_)
   refine ov (v_eql rfl rfl) rfl ?_
   refine om rfl rfl ?_
   by_cases c156 : n4 = 6
   · have r157 := ite_t r155 c156; clear r155
     refine shO_on (b := true) 100 rfl (Env.isT rfl c156) (om rfl rfl (shO_on (b := true) 100 rfl (Env.isT rfl c156) ?_))
     refine ov ((v_lenS Tryz.underlying28 rfl).i (SlR.lenI hz64)) rfl ?_
     refine shO_on (b := true) 100 rfl (Env.isT rfl c156) ?_
     refine ov (v_eql rfl rfl) rfl ?_
     refine ov (v_pick_t (evD_true rfl c156) rfl) rfl ?_
     refine om rfl rfl ?_
     by_cases c158 : (l3.length : Int) = 0
     · have r159 := ite_t r157 c158; clear r157
       refine shO_on (b := true) 105 rfl (Env.isT rfl c158) ?_
       obtain ⟨ok, h160, r161⟩ := b1_ok r159; clear r159
       refine o_callV rfl Tryz.call6 rfl rfl rfl (oyezlaw01_awake_w h160) ?_
       refine ov (v_pick_t (evD_true rfl c158) rfl) rfl ?_
       refine oa rfl rfl (shO_nil ?_)
       refine kW kn ?_
       refine shW_ret (andThen_ret ?_)
       refine q_res1 Tryz.results4 (res_tmp rfl) (sr) ?_
       obtain rfl := inj1 r161
       exact rfl
     have r162 := ite_f r157 c158; clear r157
     refine shO_off (b' := false) 105 rfl (Env.isF rfl c158) rfl rfl ?_
     refine ov (v_pick_f (evD_false rfl c158) rfl) rfl ?_
     refine oa rfl rfl (shO_nil ?_)
     refine kW kn ?_
     refine shW_ret (andThen_ret ?_)
     refine q_res1 Tryz.results4 (res_tmp rfl) (sr) ?_
     obtain rfl := inj1 r162
     exact rfl
   have r163 := ite_f r155 c156; clear r155
   refine shO_off (b' := false) 100 rfl (Env.isF rfl c156) rfl rfl (shO_off (b' := false) 100 rfl (Env.isF rfl c156) rfl rfl (shO_off (b' := false) 100 rfl (Env.isF rfl c156) rfl rfl ?_))
   refine ov (v_pick_f (evD_false rfl c156) rfl) rfl ?_
   refine om rfl rfl (shO_off (b' := false) 105 rfl rfl rfl rfl ?_)
   refine ov (v_pick_f rfl rfl) rfl ?_
   refine oa rfl rfl (shO_nil ?_)
   refine kW kn ?_
   refine shW_ret (andThen_ret ?_)
   refine q_res1 Tryz.results4 (res_tmp rfl) (sr) ?_
   obtain rfl := inj1 r163
   exact rfl
 have r164 := ite_f r150 c154; clear r150
 refine shW_skip (wsr ?_)
 refine ov (v_loadA (cs := #[.int .i64 n, .slice a27 n31 c28]) Tryz.isAgg24 Tryz.sizeOf24 rfl (Has.own 1 rfl) (Nat.le_of_ble_eq_true rfl) rfl) rfl ?_
 refine ov (v_loadA (cs := #[.int .i64 n2, .int .i64 n3]) Tryz.isAgg27 Tryz.sizeOf27 rfl (Has.own 0 rfl) (Nat.le_of_ble_eq_true rfl) rfl) rfl ?_
 refine om rfl rfl (om rfl rfl ?_)
 obtain ⟨n9, ok2, h165, r166⟩ := b2_ok r164; clear r164
 refine o_callT (Lt := Lb29 ++ (Lb49 ++ (Lb63 ++ []))) (Lr := (b54, .cells #[.int .i64 n2, .int .i64 n3] 27 (0, 0)) :: ((b34, .cells #[.int .i64 n, .slice a27 n31 c28] 24 (0, 0)) :: ((b17, .cells #[.slice a18 metal2.length c19, .int .i64 at_2, .int .u32 turn2] 101 (0, 0)) :: (Lb76 ++ (Lb89 ++ []))))) rfl Tryz.call25 rfl rfl rfl (pT ((fC (fC (fC fP))).trans (pA ((fC (fC (fC fP))).trans (pA ((fC (fC (fC fP))).trans (pA pR)))))) (lp (lp (lp (ln rfl))))) (fun F2 h2 h3 => by rw [(SlR.caps hz30).1]; rw [(SlR.caps hz50).1]; rw [(SlR.caps hz64).1]; exact oyezlaw01_served_w (hz30.row (iE_ok _) h2 (fun p hp => h3 p (List.mem_append_left _ hp))) (hz50.row (iE_ok _) h2 (fun p hp => h3 p (List.mem_append_right _ (List.mem_append_left _ hp)))) (hz64.row (iE_ok _) h2 (fun p hp => h3 p (List.mem_append_right _ (List.mem_append_right _ (List.mem_append_left _ hp))))) h165) ?_
 refine om rfl rfl (ox rfl rfl rfl (ox rfl rfl rfl (oa rfl rfl (oa rfl rfl (shO_nil (shW_seq ?_))))))
 obtain ⟨k4, h167, r168⟩ := b1_ok r166; clear r166
 refine shW_join (fun e1 F1 L1 => F152 = F1 ∧ L1 = ((b54, .cells #[.int .i64 n2, .int .i64 n3] 27 (0, 0)) :: ((b34, .cells #[.int .i64 n, .slice a27 n31 c28] 24 (0, 0)) :: ((b17, .cells #[.slice a18 metal2.length c19, .int .i64 at_2, .int .u32 turn2] 101 (0, 0)) :: (Lb29 ++ (Lb49 ++ (Lb63 ++ (Lb89 ++ []))))))) ∧ e1.sub [(6, .pointer (some ⟨b17, 0, none⟩)), (7, .pointer (some ⟨b34, 0, none⟩)), (8, .pointer (some ⟨b54, 0, none⟩)), (9, .slice a47 n51 c48), (10, .slice a61 n65 c62), (14, .slice a87 n91 c88), (139, .bool k4)]) ?_ ?_
 · clear r168
   refine shW_region (om rfl rfl ?_)
   refine ov (v_neq rfl rfl) rfl ?_
   refine om rfl rfl ?_
   by_cases c169 : n4 ≠ 0
   · have r170 := ite_t h167 c169; clear h167
     refine shO_off (b' := true) 118 rfl (Env.isT rfl c169) rfl rfl (shO_off (b' := true) 118 rfl (Env.isT rfl c169) rfl rfl ?_)
     refine ov (v_pick_t (evD_true rfl c169) rfl) rfl ?_
     refine om rfl rfl (shO_off (b' := true) 122 rfl rfl rfl rfl (shO_off (b' := true) 122 rfl rfl rfl rfl (shO_off (b' := true) 122 rfl rfl rfl rfl (shO_off (b' := true) 122 rfl rfl rfl rfl ?_))))
     refine ov (v_pick_t rfl rfl) rfl ?_
     refine om rfl rfl (shO_off (b' := true) 128 rfl rfl rfl rfl (shO_off (b' := true) 128 rfl rfl rfl rfl (shO_off (b' := true) 128 rfl rfl rfl rfl (shO_off (b' := true) 128 rfl rfl rfl rfl (shO_off (b' := true) 128 rfl rfl rfl rfl ?_)))))
     refine ov (v_pick_t rfl rfl) rfl ?_
     refine om rfl rfl (shO_off (b' := true) 135 rfl rfl rfl rfl (shO_off (b' := true) 135 rfl rfl rfl rfl (shO_off (b' := true) 135 rfl rfl rfl rfl ?_)))
     refine ov (v_pick_t rfl rfl) rfl ?_
     refine shO_nil ?_
     obtain rfl := inj1 r170
     exact mi (kc (kc (kc (ka (ka (ka (kx kr))))))) ⟨rfl, rfl, (sc rfl (sc rfl (sc rfl (sc rfl (sc rfl (sc rfl (sc rfl (sn _))))))))⟩
   have r171 := ite_f h167 c169; clear h167
   refine shO_on (b := false) 118 rfl (Env.isF rfl c169) (om rfl rfl (shO_on (b := false) 118 rfl (Env.isF rfl c169) ?_))
   refine ov (v_notB rfl) rfl ?_
   refine ov (v_pick_f (evD_false rfl c169) rfl) rfl ?_
   refine om rfl rfl ?_
   rcases bool_two (!ok2) with c172 | c172
   · have r173 := bt r171 c172; clear r171
     refine shO_off (b' := true) 122 rfl (EnvB rfl c172) rfl rfl (shO_off (b' := true) 122 rfl (EnvB rfl c172) rfl rfl (shO_off (b' := true) 122 rfl (EnvB rfl c172) rfl rfl (shO_off (b' := true) 122 rfl (EnvB rfl c172) rfl rfl ?_)))
     refine ov (v_pick_t (evB rfl c172) rfl) rfl ?_
     refine om rfl rfl (shO_off (b' := true) 128 rfl rfl rfl rfl (shO_off (b' := true) 128 rfl rfl rfl rfl (shO_off (b' := true) 128 rfl rfl rfl rfl (shO_off (b' := true) 128 rfl rfl rfl rfl (shO_off (b' := true) 128 rfl rfl rfl rfl ?_)))))
     refine ov (v_pick_t rfl rfl) rfl ?_
     refine om rfl rfl (shO_off (b' := true) 135 rfl rfl rfl rfl (shO_off (b' := true) 135 rfl rfl rfl rfl (shO_off (b' := true) 135 rfl rfl rfl rfl ?_)))
     refine ov (v_pick_t rfl rfl) rfl ?_
     refine shO_nil ?_
     obtain rfl := inj1 r173
     exact mi (kc (kc (kc (ka (ka (ka (kx kr))))))) ⟨rfl, rfl, (sc rfl (sc rfl (sc rfl (sc rfl (sc rfl (sc rfl (sc rfl (sn _))))))))⟩
   have r174 := bf r171 c172; clear r171
   refine shO_on (b := false) 122 rfl (EnvB rfl c172) (om rfl rfl (shO_on (b := false) 122 rfl (EnvB rfl c172) (om rfl rfl (shO_on (b := false) 122 rfl (EnvB rfl c172) ?_))))
   refine ov ((v_lenS Tryz.underlying28 rfl).i (SlR.lenI hz50)) rfl ?_
   refine shO_on (b := false) 122 rfl (EnvB rfl c172) ?_
   refine ov (v_neq rfl rfl) rfl ?_
   refine ov (v_pick_f (evB rfl c172) rfl) rfl ?_
   refine om rfl rfl ?_
   by_cases c175 : n9 ≠ (l2.length : Int)
   · have r176 := ite_t r174 c175; clear r174
     refine shO_off (b' := true) 128 rfl (Env.isT rfl c175) rfl rfl (shO_off (b' := true) 128 rfl (Env.isT rfl c175) rfl rfl (shO_off (b' := true) 128 rfl (Env.isT rfl c175) rfl rfl (shO_off (b' := true) 128 rfl (Env.isT rfl c175) rfl rfl (shO_off (b' := true) 128 rfl (Env.isT rfl c175) rfl rfl ?_))))
     refine ov (v_pick_t (evD_true rfl c175) rfl) rfl ?_
     refine om rfl rfl (shO_off (b' := true) 135 rfl rfl rfl rfl (shO_off (b' := true) 135 rfl rfl rfl rfl (shO_off (b' := true) 135 rfl rfl rfl rfl ?_)))
     refine ov (v_pick_t rfl rfl) rfl ?_
     refine shO_nil ?_
     obtain rfl := inj1 r176
     exact mi (kc (kc (kc (ka (ka (ka (kx kr))))))) ⟨rfl, rfl, (sc rfl (sc rfl (sc rfl (sc rfl (sc rfl (sc rfl (sc rfl (sn _))))))))⟩
   have r177 := ite_f r174 c175; clear r174
   refine shO_on (b := false) 128 rfl (Env.isF rfl c175) (om rfl rfl (shO_on (b := false) 128 rfl (Env.isF rfl c175) ?_))
   refine ov ((v_lenS Tryz.underlying28 rfl).i (SlR.lenI hz64)) rfl ?_
   refine shO_on (b := false) 128 rfl (Env.isF rfl c175) (om rfl rfl (shO_on (b := false) 128 rfl (Env.isF rfl c175) ?_))
   refine ov ((v_lenS Tryz.underlying28 rfl).i (SlR.lenI hz90)) rfl ?_
   refine shO_on (b := false) 128 rfl (Env.isF rfl c175) ?_
   refine ov (v_lssK rfl rfl) rfl ?_
   refine ov (v_pick_f (evD_false rfl c175) rfl) rfl ?_
   refine om rfl rfl ?_
   by_cases c178 : (l3.length : Int) < (l5.length : Int)
   · have r179 := ite_t r177 c178; clear r177
     refine shO_off (b' := true) 135 rfl (Env.isT rfl c178) rfl rfl (shO_off (b' := true) 135 rfl (Env.isT rfl c178) rfl rfl (shO_off (b' := true) 135 rfl (Env.isT rfl c178) rfl rfl ?_))
     refine ov (v_pick_t (evD_true rfl c178) rfl) rfl ?_
     refine shO_nil ?_
     obtain rfl := inj1 r179
     exact mi (kc (kc (kc (ka (ka (ka (kx kr))))))) ⟨rfl, rfl, (sc rfl (sc rfl (sc rfl (sc rfl (sc rfl (sc rfl (sc rfl (sn _))))))))⟩
   have r180 := ite_f r177 c178; clear r177
   refine shO_on (b := false) 135 rfl (Env.isF rfl c178) (om rfl rfl (shO_on (b := false) 135 rfl (Env.isF rfl c178) ?_))
   obtain ⟨ok3, h181, r182⟩ := b1_ok r180; clear r180
   refine o_callT (Lt := Lb63 ++ []) (Lr := (b54, .cells #[.int .i64 n2, .int .i64 n3] 27 (0, 0)) :: ((b34, .cells #[.int .i64 n, .slice a27 n31 c28] 24 (0, 0)) :: ((b17, .cells #[.slice a18 metal2.length c19, .int .i64 at_2, .int .u32 turn2] 101 (0, 0)) :: (Lb29 ++ (Lb49 ++ (Lb76 ++ (Lb89 ++ []))))))) rfl Tryz.call26 rfl rfl rfl (pT ((fC (fC (fC (fS (fS fP))))).trans (pA pR)) (lp (ln rfl))) (fun F2 h2 h3 => by rw [(SlR.caps hz64).1]; exact slices_IsSorted_int_int_w (hz64.row (iE_ok _) h2 (fun p hp => h3 p (List.mem_append_left _ hp))) h181) ?_
   refine shO_on (b := false) 135 rfl (Env.isF rfl c178) ?_
   refine ov (v_notB rfl) rfl ?_
   refine ov (v_pick_f (evD_false rfl c178) rfl) rfl ?_
   refine shO_nil ?_
   obtain rfl := inj1 r182
   exact mi (kc (kc (kc (ka (ka (ka (kx kr))))))) ⟨rfl, rfl, (sc rfl (sc rfl (sc rfl (sc rfl (sc rfl (sc rfl (sc rfl (sn _))))))))⟩
 rintro e1 _ _ ⟨rfl, rfl, he183⟩
 refine shW_env _ he183 ?_; clear he183
 refine shW_cond rfl (fun c184 => ?_) (fun c184 => ?_)
 · have r185 := bt r168 c184; clear r168
   refine wsr (oa rfl rfl (shO_nil ?_))
   refine kW kn ?_
   refine shW_ret (andThen_ret ?_)
   refine q_res1 Tryz.results4 (res_tmp rfl) (sr) ?_
   obtain rfl := inj1 r185
   exact rfl
 have r186 := bf r168 c184; clear r168
 refine shW_skip ?_
 refine shW_join (fun e1 F1 L1 => oyezlaw01_HearReached_j3 n l n2 n3 l5 = some r ∧ FExt F152 F1 ∧ L1 = ((b54, .cells #[.int .i64 n2, .int .i64 n3] 27 (0, 0)) :: ((b34, .cells #[.int .i64 n, .slice a27 n31 c28] 24 (0, 0)) :: (Lb29 ++ (Lb89 ++ [])))) ∧ e1.sub [(7, .pointer (some ⟨b34, 0, none⟩)), (8, .pointer (some ⟨b54, 0, none⟩)), (14, .slice a87 n91 c88)]) ?_ ?_
 · refine wsr (om rfl rfl (shO_nil ?_))
   refine shW_block ?_
   obtain ⟨g187, r188⟩ := gd_ok r186; clear r186
   refine shW_lp (fun fu4 e1 F1 L1 => ∃ (k5 : Int), Ctr 0 8 k5 fu4 ∧ ∃ (q_at : Int) (q_turn : Int), oyezlaw01_HearReached_l4 metal2 n l n2 n3 l2 l3 l5 fu4 q_at q_turn = some r ∧ FExt F152 F1 ∧ L1 = ((b54, .cells #[.int .i64 n2, .int .i64 n3] 27 (0, 0)) :: ((b34, .cells #[.int .i64 n, .slice a27 n31 c28] 24 (0, 0)) :: ((b17, .cells #[.slice a18 metal2.length c19, .int .i64 q_at, .int .u32 q_turn] 101 (0, 0)) :: (Lb29 ++ (Lb49 ++ (Lb63 ++ (Lb89 ++ []))))))) ∧ e1.sub [(6, .pointer (some ⟨b17, 0, none⟩)), (7, .pointer (some ⟨b34, 0, none⟩)), (8, .pointer (some ⟨b54, 0, none⟩)), (9, .slice a47 n51 c48), (10, .slice a61 n65 c62), (14, .slice a87 n91 c88), (140, .int .i64 k5)]) _ (m0 kr ⟨_, Ctr.start _ _, at_2, turn2, r188, FExt.refl _, rfl, (sc rfl (sc rfl (sc rfl (sc rfl (sc rfl (sc rfl (sc rfl (sn _))))))))⟩) ?_
   rintro fu4 e1 F193 _ ⟨k5, hk189, q_at, q_turn, r191, hF194, rfl, he192⟩
   refine shW_env _ he192 ?_; clear he192
   replace h20 := h20.mono (iE_ok _) hF194
   replace hz30 := hz30.mono (iE_ok _) hF194
   replace hz50 := hz50.mono (iE_ok _) hF194
   replace hz64 := hz64.mono (iE_ok _) hF194
   refine wsr ?_
   refine ov (v_lssK rfl rfl) rfl ?_
   refine shO_nil (shW_seq ?_)
   refine shW_condP rfl (fun c196 => ?_) (fun c196 => ?_)
   · obtain ⟨fu4, rfl, hk197⟩ := Ctr.succ hk189 c196
     rw [oyezlaw01_HearReached_l4] at r191
     refine shW_skip (shW_seq ?_)
     refine shW_block ?_
     refine wsr (om rfl rfl ?_)
     refine ov (v_loadA (cs := #[.int .i64 n, .slice a27 n31 c28]) Tryz.isAgg24 Tryz.sizeOf24 rfl (Has.own 1 rfl) (Nat.le_of_ble_eq_true rfl) rfl) rfl ?_
     refine om rfl rfl ?_
     refine ov ((v_lenS Tryz.underlying28 rfl).i (SlR.lenI hz64)) rfl ?_
     obtain ⟨l7, at_5, turn5, h198, r199⟩ := b3_ok r191; clear r191
     refine o_callTO (Lb := [(b17, .cells #[.slice a18 metal2.length c19, .int .i64 q_at, .int .u32 q_turn] 101 (0, 0))]) (Lt := Lb29 ++ []) (Lr := (b54, .cells #[.int .i64 n2, .int .i64 n3] 27 (0, 0)) :: ((b34, .cells #[.int .i64 n, .slice a27 n31 c28] 24 (0, 0)) :: (Lb49 ++ (Lb63 ++ (Lb89 ++ []))))) rfl Tryz.call27 rfl rfl rfl (pT ((fC (fC fO)).trans (pC ((fC (fC fP)).trans (pA pR)))) (lb (ln (lp (ln rfl))))) (fun F2 h2 h3 => by rw [(SlR.caps hz30).1]; exact oyezlaw01_some_w (h20.mono (iE_ok _) h2) (hz30.row (iE_ok _) h2 (fun p hp => h3 p (List.mem_append_left _ hp))) h198) (fun _ _ _ _ hq => by obtain ⟨a204, n208, c205, Lb206, rfl, rfl, hz207⟩ := hq; exact ⟨_, _, _, _, rfl, rfl, hz207.flat (fun _ _ h => h)⟩) ?_; rintro _ F200 _ hF201 hd203 hn202 ⟨a204, n208, c205, Lb206, rfl, rfl, hz207⟩
     replace hz30 := hz30.mono (iE_ok _) hF201
     replace hz50 := hz50.mono (iE_ok _) hF201
     replace hz64 := hz64.mono (iE_ok _) hF201
     have hn210 := newp (Lb' := [(b17, .cells #[.slice a18 metal2.length c19, .int .i64 at_5, .int .u32 turn5] 101 (0, 0))]) (by rfl) hd203 hn202
     replace hz207 := hz207.new fun p hp => hn210 p (by simp [hp])
     refine shO_L (lb (lp (ln (lp (ln rfl))))) ?_
     refine kO (kc (kf (fS (fS fO)) (kf (fS (fS fO)) kr))) ?_
     refine oa rfl rfl (nsr ?_)
     refine ov (v_loadA (cs := #[.int .i64 n, .slice a27 n31 c28]) Tryz.isAgg24 Tryz.sizeOf24 rfl (Has.own 2 rfl) (Nat.le_of_ble_eq_true rfl) rfl) rfl ?_
     refine ov (v_loadA (cs := #[.int .i64 n2, .int .i64 n3]) Tryz.isAgg27 Tryz.sizeOf27 rfl (Has.own 1 rfl) (Nat.le_of_ble_eq_true rfl) rfl) rfl ?_
     refine om rfl rfl (om rfl rfl ?_)
     obtain ⟨n10, ok4, h211, r212⟩ := b2_ok r199; clear r199
     refine o_callT (Lt := Lb29 ++ (Lb49 ++ (Lb206 ++ []))) (Lr := (b17, .cells #[.slice a18 metal2.length c19, .int .i64 at_5, .int .u32 turn5] 101 (0, 0)) :: ((b54, .cells #[.int .i64 n2, .int .i64 n3] 27 (0, 0)) :: ((b34, .cells #[.int .i64 n, .slice a27 n31 c28] 24 (0, 0)) :: (Lb63 ++ (Lb89 ++ []))))) rfl Tryz.call25 rfl rfl rfl (pT ((fC (fC (fC (fS fP)))).trans (pA ((fC (fC (fC (fS fP)))).trans (pA ((fC (fC (fC fP))).trans (pA pR)))))) (lp (lp (lp (ln rfl))))) (fun F2 h2 h3 => by rw [(SlR.caps hz30).1]; rw [(SlR.caps hz50).1]; rw [(SlR.caps hz207).1]; exact oyezlaw01_served_w (hz30.row (iE_ok _) h2 (fun p hp => h3 p (List.mem_append_left _ hp))) (hz50.row (iE_ok _) h2 (fun p hp => h3 p (List.mem_append_right _ (List.mem_append_left _ hp)))) (hz207.row (iE_ok _) h2 (fun p hp => h3 p (List.mem_append_right _ (List.mem_append_right _ (List.mem_append_left _ hp))))) h211) ?_
     refine om rfl rfl (ox rfl rfl rfl (ox rfl rfl rfl (oa rfl rfl (oa rfl rfl (shO_nil ?_)))))
     obtain ⟨k6, h213, r214⟩ := b1_ok r212; clear r212
     refine shW_join (fun e1 F1 L1 => F200 = F1 ∧ L1 = ((b17, .cells #[.slice a18 metal2.length c19, .int .i64 at_5, .int .u32 turn5] 101 (0, 0)) :: ((b54, .cells #[.int .i64 n2, .int .i64 n3] 27 (0, 0)) :: ((b34, .cells #[.int .i64 n, .slice a27 n31 c28] 24 (0, 0)) :: (Lb29 ++ (Lb49 ++ (Lb63 ++ (Lb89 ++ []))))))) ∧ e1.sub [(6, .pointer (some ⟨b17, 0, none⟩)), (7, .pointer (some ⟨b34, 0, none⟩)), (8, .pointer (some ⟨b54, 0, none⟩)), (9, .slice a47 n51 c48), (10, .slice a61 n65 c62), (14, .slice a87 n91 c88), (140, .int .i64 k5), (182, .bool k6)]) ?_ ?_
     · clear r214
       refine shW_region (om rfl rfl ?_)
       refine ov (v_notB rfl) rfl ?_
       refine om rfl rfl ?_
       rcases bool_two (!ok4) with c215 | c215
       · have r216 := bt h213 c215; clear h213
         refine shO_off (b' := true) 157 rfl (EnvB rfl c215) rfl rfl (shO_off (b' := true) 157 rfl (EnvB rfl c215) rfl rfl (shO_off (b' := true) 157 rfl (EnvB rfl c215) rfl rfl (shO_off (b' := true) 157 rfl (EnvB rfl c215) rfl rfl (shO_off (b' := true) 157 rfl (EnvB rfl c215) rfl rfl (shO_offU 162 rfl rfl rfl (shO_offU 162 rfl rfl rfl (shO_offU 162 rfl rfl rfl (shO_offU 162 rfl rfl rfl (shO_offU 162 rfl rfl rfl ?_)))))))))
         refine shO_offU 162 rfl rfl rfl (shO_offU 168 rfl rfl rfl (shO_offU 168 rfl rfl rfl (shO_offU 168 rfl rfl rfl (shO_offU 168 rfl rfl rfl (shO_offU 168 rfl rfl rfl (shO_offU 168 rfl rfl rfl (shO_offU 174 rfl rfl rfl (shO_offU 174 rfl rfl rfl (shO_offU 174 rfl rfl rfl ?_)))))))))
         refine shO_offU 174 rfl rfl rfl (shO_offU 168 rfl rfl rfl (shO_offU 162 rfl rfl rfl (shO_off (b' := true) 157 rfl (EnvB rfl c215) rfl rfl ?_)))
         refine ov (v_pick_t (evB rfl c215) rfl) rfl ?_
         refine shO_nil ?_
         obtain rfl := inj1 r216
         exact mi (kc (kc (kc (kx kr)))) ⟨rfl, rfl, (sc rfl (sc rfl (sc rfl (sc rfl (sc rfl (sc rfl (sc rfl (sc rfl (sn _)))))))))⟩
       have r217 := bf h213 c215; clear h213
       refine shO_on (b := false) 157 rfl (EnvB rfl c215) (om rfl rfl (shO_on (b := false) 157 rfl (EnvB rfl c215) (om rfl rfl (shO_on (b := false) 157 rfl (EnvB rfl c215) ?_))))
       refine ov ((v_lenS Tryz.underlying28 rfl).i (SlR.lenI hz50)) rfl ?_
       refine shO_on (b := false) 157 rfl (EnvB rfl c215) ?_
       refine ov (v_eql rfl rfl) rfl ?_
       refine shO_on (b := false) 157 rfl (EnvB rfl c215) (om rfl rfl ?_)
       by_cases c218 : n10 = (l2.length : Int)
       · have r219 := ite_t r217 c218; clear r217
         refine shO_on (b := true) 162 rfl (Env.isT rfl c218) (om rfl rfl (shO_on (b := true) 162 rfl (Env.isT rfl c218) ?_))
         refine ov ((v_lenS Tryz.underlying28 rfl).i (SlR.lenI hz207)) rfl ?_
         refine shO_on (b := true) 162 rfl (Env.isT rfl c218) (om rfl rfl (shO_on (b := true) 162 rfl (Env.isT rfl c218) ?_))
         refine ov ((v_lenS Tryz.underlying28 rfl).i (SlR.lenI hz64)) rfl ?_
         refine shO_on (b := true) 162 rfl (Env.isT rfl c218) ?_
         refine ov (v_lssK rfl rfl) rfl ?_
         refine shO_on (b := true) 162 rfl (Env.isT rfl c218) (om rfl rfl ?_)
         by_cases c220 : (l7.length : Int) < (l3.length : Int)
         · have r221 := ite_t r219 c220; clear r219
           refine shO_off (b' := true) 168 rfl (Env.isT rfl c220) rfl rfl (shO_off (b' := true) 168 rfl (Env.isT rfl c220) rfl rfl (shO_off (b' := true) 168 rfl (Env.isT rfl c220) rfl rfl (shO_off (b' := true) 168 rfl (Env.isT rfl c220) rfl rfl (shO_off (b' := true) 168 rfl (Env.isT rfl c220) rfl rfl (shO_off (b' := true) 168 rfl (Env.isT rfl c220) rfl rfl (shO_offU 174 rfl rfl rfl (shO_offU 174 rfl rfl rfl (shO_offU 174 rfl rfl rfl (shO_offU 174 rfl rfl rfl ?_)))))))))
           refine shO_off (b' := true) 168 rfl (Env.isT rfl c220) rfl rfl (shO_on (b := true) 162 rfl (Env.isT rfl c218) ?_)
           refine ov (v_pick_t (evD_true rfl c220) rfl) rfl ?_
           refine shO_on (b := false) 157 rfl (EnvB rfl c215) ?_
           refine ov (v_pick_t (evD_true rfl c218) rfl) rfl ?_
           refine ov (v_pick_f (evB rfl c215) rfl) rfl ?_
           refine shO_nil ?_
           obtain rfl := inj1 r221
           exact mi (kc (kc (kc (kx kr)))) ⟨rfl, rfl, (sc rfl (sc rfl (sc rfl (sc rfl (sc rfl (sc rfl (sc rfl (sc rfl (sn _)))))))))⟩
         have r222 := ite_f r219 c220; clear r219
         refine shO_on (b := false) 168 rfl (Env.isF rfl c220) (om rfl rfl (shO_on (b := false) 168 rfl (Env.isF rfl c220) ?_))
         refine ov ((v_lenS Tryz.underlying28 rfl).i (SlR.lenI hz207)) rfl ?_
         refine shO_on (b := false) 168 rfl (Env.isF rfl c220) (om rfl rfl (shO_on (b := false) 168 rfl (Env.isF rfl c220) ?_))
         refine ov ((v_lenS Tryz.underlying28 rfl).i (SlR.lenI hz64)) rfl ?_
         refine shO_on (b := false) 168 rfl (Env.isF rfl c220) ?_
         refine ov (v_eql rfl rfl) rfl ?_
         refine shO_on (b := false) 168 rfl (Env.isF rfl c220) (om rfl rfl ?_)
         by_cases c223 : (l7.length : Int) = (l3.length : Int)
         · have r224 := ite_t r222 c223; clear r222
           refine shO_on (b := true) 174 rfl (Env.isT rfl c223) (om rfl rfl (shO_on (b := true) 174 rfl (Env.isT rfl c223) (om rfl rfl (shO_on (b := true) 174 rfl (Env.isT rfl c223) ?_))))
           obtain ⟨n11, h225, r226⟩ := b1_ok r224; clear r224
           refine o_callT (Lt := Lb206 ++ (Lb63 ++ [])) (Lr := (b17, .cells #[.slice a18 metal2.length c19, .int .i64 at_5, .int .u32 turn5] 101 (0, 0)) :: ((b54, .cells #[.int .i64 n2, .int .i64 n3] 27 (0, 0)) :: ((b34, .cells #[.int .i64 n, .slice a27 n31 c28] 24 (0, 0)) :: (Lb29 ++ (Lb49 ++ (Lb89 ++ [])))))) rfl Tryz.call28 rfl rfl rfl (pT ((fC (fC (fC fP))).trans (pA ((fC (fC (fC (fS (fS fP))))).trans (pA pR)))) (lp (lp (ln rfl)))) (fun F2 h2 h3 => by rw [(SlR.caps hz207).1]; rw [(SlR.caps hz64).1]; exact slices_Compare_int_int_w (hz207.row (iE_ok _) h2 (fun p hp => h3 p (List.mem_append_left _ hp))) (hz64.row (iE_ok _) h2 (fun p hp => h3 p (List.mem_append_right _ (List.mem_append_left _ hp)))) h225) ?_
           refine shO_on (b := true) 174 rfl (Env.isT rfl c223) ?_
           refine ov (v_lssK rfl rfl) rfl ?_
           refine shO_on (b := false) 168 rfl (Env.isF rfl c220) ?_
           refine ov (v_pick_t (evD_true rfl c223) rfl) rfl ?_
           refine shO_on (b := true) 162 rfl (Env.isT rfl c218) ?_
           refine ov (v_pick_f (evD_false rfl c220) rfl) rfl ?_
           refine shO_on (b := false) 157 rfl (EnvB rfl c215) ?_
           refine ov (v_pick_t (evD_true rfl c218) rfl) rfl ?_
           refine ov (v_pick_f (evB rfl c215) rfl) rfl ?_
           refine shO_nil ?_
           obtain rfl := inj1 r226
           exact mi (kc (kc (kc (kx kr)))) ⟨rfl, rfl, (sc rfl (sc rfl (sc rfl (sc rfl (sc rfl (sc rfl (sc rfl (sc rfl (sn _)))))))))⟩
         have r227 := ite_f r222 c223; clear r222
         refine shO_off (b' := false) 174 rfl (Env.isF rfl c223) rfl rfl (shO_off (b' := false) 174 rfl (Env.isF rfl c223) rfl rfl (shO_off (b' := false) 174 rfl (Env.isF rfl c223) rfl rfl (shO_off (b' := false) 174 rfl (Env.isF rfl c223) rfl rfl (shO_on (b := false) 168 rfl (Env.isF rfl c220) ?_))))
         refine ov (v_pick_f (evD_false rfl c223) rfl) rfl ?_
         refine shO_on (b := true) 162 rfl (Env.isT rfl c218) ?_
         refine ov (v_pick_f (evD_false rfl c220) rfl) rfl ?_
         refine shO_on (b := false) 157 rfl (EnvB rfl c215) ?_
         refine ov (v_pick_t (evD_true rfl c218) rfl) rfl ?_
         refine ov (v_pick_f (evB rfl c215) rfl) rfl ?_
         refine shO_nil ?_
         obtain rfl := inj1 r227
         exact mi (kc (kc (kc (kx kr)))) ⟨rfl, rfl, (sc rfl (sc rfl (sc rfl (sc rfl (sc rfl (sc rfl (sc rfl (sc rfl (sn _)))))))))⟩
       have r228 := ite_f r217 c218; clear r217
       refine shO_off (b' := false) 162 rfl (Env.isF rfl c218) rfl rfl (shO_off (b' := false) 162 rfl (Env.isF rfl c218) rfl rfl (shO_off (b' := false) 162 rfl (Env.isF rfl c218) rfl rfl (shO_off (b' := false) 162 rfl (Env.isF rfl c218) rfl rfl (shO_off (b' := false) 162 rfl (Env.isF rfl c218) rfl rfl (shO_off (b' := false) 162 rfl (Env.isF rfl c218) rfl rfl (shO_offU 168 rfl rfl rfl (shO_offU 168 rfl rfl rfl (shO_offU 168 rfl rfl rfl (shO_offU 168 rfl rfl rfl ?_)))))))))
       refine shO_offU 168 rfl rfl rfl (shO_offU 168 rfl rfl rfl (shO_offU 174 rfl rfl rfl (shO_offU 174 rfl rfl rfl (shO_offU 174 rfl rfl rfl (shO_offU 174 rfl rfl rfl (shO_offU 168 rfl rfl rfl (shO_off (b' := false) 162 rfl (Env.isF rfl c218) rfl rfl (shO_on (b := false) 157 rfl (EnvB rfl c215) ?_))))))))
       refine ov (v_pick_f (evD_false rfl c218) rfl) rfl ?_
       refine ov (v_pick_f (evB rfl c215) rfl) rfl ?_
       refine shO_nil ?_
       obtain rfl := inj1 r228
       exact mi (kc (kc (kc (kx kr)))) ⟨rfl, rfl, (sc rfl (sc rfl (sc rfl (sc rfl (sc rfl (sc rfl (sc rfl (sc rfl (sn _)))))))))⟩
     rintro e1 _ _ ⟨rfl, rfl, he229⟩
     refine shW_env _ he229 ?_; clear he229
     refine shW_cond rfl (fun c230 => ?_) (fun c230 => ?_)
     · have r231 := bt r214 c230; clear r214
       refine wsr (oa rfl rfl (shO_nil ?_))
       refine kW kn ?_
       refine shW_ret (inBlock_ret (andThen_ret (andThen_ret (inBlock_ret (andThen_ret ?_)))))
       refine q_res1 Tryz.results4 (res_tmp rfl) (sr) ?_
       obtain rfl := inj1 r231
       exact rfl
     have r232 := bf r214 c230; clear r214
     refine shW_skip (inBlock_n (id := 3) (shW_region ?_))
     refine ov (v_add rfl rfl (Ctr.r64 hk189 c196 g187)) rfl ?_
     refine om rfl rfl (shO_nil ?_)
     exact le (kf (fC fO) (kf (fC fO) kr)) ⟨_, hk197, at_5, turn5, r232, (hF194.trans hF201), rfl, (sc rfl (sc rfl (sc rfl (sc rfl (sc rfl (sc rfl (sc rfl (sn _))))))))⟩
   obtain rfl := Ctr.zero hk189 c196
   rw [oyezlaw01_HearReached_l4] at r191
   refine shW_exit (andThen_exit (andThen_exit ?_))
   refine inBlock_exit ?_
   exact mi (kc (kc (kd (ka (kx (kx kr)))))) ⟨r191, hF194, rfl, (sc rfl (sc rfl (sc rfl (sn _))))⟩
 rintro e1 F235 _ ⟨r233, hF236, rfl, he234⟩
 refine shW_env _ he234 ?_; clear he234
 replace hz30 := hz30.mono (iE_ok _) hF236
 replace hz90 := hz90.mono (iE_ok _) hF236
 rw [oyezlaw01_HearReached_j3] at r233
 refine shW_join (fun e1 F1 L1 => oyezlaw01_HearReached_j5 = some r ∧ FExt F235 F1 ∧ L1 = [] ∧ e1.sub []) ?_ ?_
 · refine wsr (om rfl rfl ?_)
   refine ov ((v_lenS Tryz.underlying28 rfl).i (SlR.lenI hz90)) rfl ?_
   refine om rfl rfl (shO_nil ?_)
   refine shW_block ?_
   obtain rfl := (SlR.caps hz90).1
   refine shW_freezeR (Nat.le_refl _) (iE_ok _) (fC (fC (fS fP))) hz90 ?_; intro F237 hF238 h239
   replace hz30 := hz30.mono (iE_ok _) hF238
   refine shW_lpF (fun fu6 e1 F1 L1 => ∃ (tl3 : List Int) (k7 : Int), tl3.length = fu6 ∧ Lst l5 k7 tl3 ∧ oyezlaw01_HearReached_l6 n l n2 n3 l5 tl3 k7 = some r ∧ FExt F237 F1 ∧ L1 = ((b54, .cells #[.int .i64 n2, .int .i64 n3] 27 (0, 0)) :: ((b34, .cells #[.int .i64 n, .slice a27 n31 c28] 24 (0, 0)) :: (Lb29 ++ []))) ∧ e1.sub [(7, .pointer (some ⟨b34, 0, none⟩)), (8, .pointer (some ⟨b54, 0, none⟩)), (14, .slice a87 l5.length c88), (184, .slice a87 l5.length c88), (185, .int .i64 (l5.length : Int)), (186, .int .i64 k7)]) _ (m0 kr ⟨_, _, rfl, Lst.start _, r233, FExt.refl _, rfl, (sc rfl (sc rfl (sc rfl (sc rfl (sc rfl (sc rfl (sn _)))))))⟩) ?_
   rintro fu6 e1 F244 _ ⟨tl3, k7, hn241, hk240, r242, hF245, rfl, he243⟩
   refine shW_env _ he243 ?_; clear he243
   replace h239 := h239.mono (iE_ok _) hF245
   replace hz30 := hz30.mono (iE_ok _) hF245
   refine wsr ?_
   refine ov (v_lssK rfl rfl) rfl ?_
   refine shO_nil (shW_seq ?_)
   refine shW_condP rfl (fun c247 => ?_) (fun c247 => ?_)
   · obtain ⟨x2, tl4, rfl, hx249, g250, hk248⟩ := Lst.succ hk240 c247
     rw [oyezlaw01_HearReached_l6] at r242
     refine shW_skip ?_
     refine shW_join (fun e1 F1 L1 => oyezlaw01_HearReached_j7 k7 (oyezlaw01_HearReached_l6 n l n2 n3 l5 tl4) = some r ∧ FExt F244 F1 ∧ L1 = ((b54, .cells #[.int .i64 n2, .int .i64 n3] 27 (0, 0)) :: ((b34, .cells #[.int .i64 n, .slice a27 n31 c28] 24 (0, 0)) :: (Lb29 ++ []))) ∧ e1.sub [(7, .pointer (some ⟨b34, 0, none⟩)), (8, .pointer (some ⟨b54, 0, none⟩)), (14, .slice a87 l5.length c88), (184, .slice a87 l5.length c88), (185, .int .i64 (l5.length : Int)), (186, .int .i64 k7)]) ?_ ?_
     · refine shW_block ?_
       refine wsr (om rfl rfl ?_)
       obtain ⟨b251, o252, c253, vs254, ha255, hs256, hle257, rfl, hl258, hc259⟩ := RowR.at (iE_ok _) h239 ((b54, .cells #[.int .i64 n2, .int .i64 n3] 27 (0, 0)) :: ((b34, .cells #[.int .i64 n, .slice a27 n31 c28] 24 (0, 0)) :: (Lb29 ++ []))) g250.1 hx249
       refine ov (v_indexO Tryz.underlying28 Tryz.sizeOf3 rfl ha255 rfl g250) rfl ?_
       refine ov (v_load Tryz.isAgg3 rfl hs256 (hc259 0 (by decide))) rfl ?_
       refine oa rfl rfl (oa rfl rfl (nsr ?_))
       refine ov (v_loadA (cs := #[.int .i64 n, .slice a27 n31 c28]) Tryz.isAgg24 Tryz.sizeOf24 rfl (Has.own 1 rfl) (Nat.le_of_ble_eq_true rfl) rfl) rfl ?_
       refine ov (v_loadA (cs := #[.int .i64 n2, .int .i64 n3]) Tryz.isAgg27 Tryz.sizeOf27 rfl (Has.own 0 rfl) (Nat.le_of_ble_eq_true rfl) rfl) rfl ?_
       refine om rfl rfl ?_
       obtain ⟨l8, n12, h260, r261⟩ := b2_ok r242; clear r242
       refine o_callTO (Lb := []) (Lt := Lb29 ++ []) (Lr := [(b54, .cells #[.int .i64 n2, .int .i64 n3] 27 (0, 0)), (b34, .cells #[.int .i64 n, .slice a27 n31 c28] 24 (0, 0))]) rfl Tryz.call24 rfl rfl rfl (pT ((fC (fC fP)).trans (pA pR)) (ln (lp (ln rfl)))) (fun F2 h2 h3 => by rw [(SlR.caps hz30).1]; exact hear_Stands_w (hz30.row (iE_ok _) h2 (fun p hp => h3 p (List.mem_append_left _ hp))) h260) (fun _ _ _ _ hq => by obtain ⟨a266, n270, c267, Lb268, rfl, rfl, hz269⟩ := hq; exact ⟨_, _, _, _, rfl, rfl, hz269.flat (fun _ _ h => h)⟩) ?_; rintro _ F262 _ hF263 hd265 hn264 ⟨a266, n270, c267, Lb268, rfl, rfl, hz269⟩
       replace h239 := h239.mono (iE_ok _) hF263
       replace hz30 := hz30.mono (iE_ok _) hF263
       have hn272 := newp (Lb' := []) (by rfl) hd265 hn264
       replace hz269 := hz269.new fun p hp => hn272 p (by simp [hp])
       refine shO_L (lp (ln (lp (ln rfl)))) ?_
       refine kO (kf (fS (fS fO)) (kf (fS (fS fO)) kr)) ?_
       refine om rfl rfl (ox rfl rfl rfl (ox rfl rfl rfl (oa rfl rfl (oa rfl rfl (shO_nil (shW_seq (wsr (om rfl rfl ?_))))))))
       refine ov (v_neq rfl rfl) rfl ?_
       refine shO_nil ?_
       refine shW_condP rfl (fun c273 => ?_) (fun c273 => ?_)
       · have r274 := ite_t r261 c273; clear r261
         refine wsr (oa rfl rfl (shO_nil ?_))
         refine kW kn ?_
         refine shW_ret (andThen_ret (inBlock_ret (andThen_ret (andThen_ret (inBlock_ret (andThen_ret ?_))))))
         refine q_res1 Tryz.results4 (res_tmp rfl) (sr) ?_
         obtain rfl := inj1 r274
         exact rfl
       have r275 := ite_f r261 c273; clear r261
       refine shW_skip (wsr (om rfl rfl (om rfl rfl ?_)))
       obtain ⟨g276, r277⟩ := gd_ok r275; clear r275
       obtain ⟨l5_2, h278, r279⟩ := bv_ok r277; clear r277
       obtain ⟨a280, c281, h282, hvh282⟩ := RowR.slice (iE_ok _) h239 g276 h278
       refine ov ((v_slice (l := 0) (h := k7) Tryz.underlying28 Tryz.sizeOf3 rfl (.inl ⟨rfl, rfl⟩) (.inr ⟨_, rfl, rfl⟩) hvh282.1).eq hvh282.2) rfl ?_
       refine ov (v_lenS Tryz.underlying28 rfl) rfl ?_
       refine om rfl rfl (shO_nil ?_)
       refine shW_block ?_
       refine shW_lp (fun fu8 e1 F1 L1 => ∃ (tl5 : List Int) (k8 : Int), tl5.length = fu8 ∧ Lst l5_2 k8 tl5 ∧ oyezlaw01_HearReached_l8 n l n2 n3 k7 l8 (oyezlaw01_HearReached_l6 n l n2 n3 l5 tl4) tl5 = some r ∧ FExt F262 F1 ∧ L1 = ((b54, .cells #[.int .i64 n2, .int .i64 n3] 27 (0, 0)) :: ((b34, .cells #[.int .i64 n, .slice a27 n31 c28] 24 (0, 0)) :: (Lb29 ++ (Lb268 ++ [])))) ∧ e1.sub [(7, .pointer (some ⟨b34, 0, none⟩)), (8, .pointer (some ⟨b54, 0, none⟩)), (14, .slice a87 l5.length c88), (27, .slice a266 n270 c267), (184, .slice a87 l5.length c88), (185, .int .i64 (l5.length : Int)), (186, .int .i64 k7), (202, .slice a280 l5_2.length c281), (203, .int .i64 (l5_2.length : Int)), (204, .int .i64 k8)]) _ (m0 (kc (kc (kg (fS fP) kr))) ⟨_, _, rfl, Lst.start _, r279, FExt.refl _, rfl, (sc rfl (sc rfl (sc rfl (sc rfl (sc rfl (sc rfl (sc rfl (sc rfl (sc rfl (sc rfl (sn _)))))))))))⟩) ?_
       rintro fu8 e1 F288 _ ⟨tl5, k8, hn285, hk284, r286, hF289, rfl, he287⟩
       refine shW_env _ he287 ?_; clear he287
       replace h282 := h282.mono (iE_ok _) hF289
       replace hz30 := hz30.mono (iE_ok _) hF289
       replace hz269 := hz269.mono (iE_ok _) hF289
       refine wsr ?_
       refine ov (v_lssK rfl rfl) rfl ?_
       refine shO_nil (shW_seq ?_)
       refine shW_condP rfl (fun c291 => ?_) (fun c291 => ?_)
       · obtain ⟨x3, tl6, rfl, hx293, g294, hk292⟩ := Lst.succ hk284 c291
         rw [oyezlaw01_HearReached_l8] at r286
         refine shW_skip (shW_seq ?_)
         refine shW_block ?_
         refine wsr ?_
         obtain ⟨b295, o296, c297, vs298, ha299, hs300, hle301, rfl, hl302, hc303⟩ := RowR.at (iE_ok _) h282 ((b54, .cells #[.int .i64 n2, .int .i64 n3] 27 (0, 0)) :: ((b34, .cells #[.int .i64 n, .slice a27 n31 c28] 24 (0, 0)) :: (Lb29 ++ (Lb268 ++ [])))) g294.1 hx293
         refine ov (v_indexO Tryz.underlying28 Tryz.sizeOf3 rfl ha299 rfl g294) rfl ?_
         refine ov (v_load Tryz.isAgg3 rfl hs300 (hc303 0 (by decide))) rfl ?_
         refine oa rfl rfl (nsr ?_)
         refine ov (v_loadA (cs := #[.int .i64 n, .slice a27 n31 c28]) Tryz.isAgg24 Tryz.sizeOf24 rfl (Has.own 1 rfl) (Nat.le_of_ble_eq_true rfl) rfl) rfl ?_
         refine ov (v_loadA (cs := #[.int .i64 n2, .int .i64 n3]) Tryz.isAgg27 Tryz.sizeOf27 rfl (Has.own 0 rfl) (Nat.le_of_ble_eq_true rfl) rfl) rfl ?_
         refine om rfl rfl ?_
         obtain ⟨l9, n13, h304, r305⟩ := b2_ok r286; clear r286
         refine o_callTO (Lb := []) (Lt := Lb29 ++ []) (Lr := (b54, .cells #[.int .i64 n2, .int .i64 n3] 27 (0, 0)) :: ((b34, .cells #[.int .i64 n, .slice a27 n31 c28] 24 (0, 0)) :: (Lb268 ++ []))) rfl Tryz.call24 rfl rfl rfl (pT ((fC (fC fP)).trans (pA pR)) (ln (lp (ln rfl)))) (fun F2 h2 h3 => by rw [(SlR.caps hz30).1]; exact hear_Stands_w (hz30.row (iE_ok _) h2 (fun p hp => h3 p (List.mem_append_left _ hp))) h304) (fun _ _ _ _ hq => by obtain ⟨a310, n314, c311, Lb312, rfl, rfl, hz313⟩ := hq; exact ⟨_, _, _, _, rfl, rfl, hz313.flat (fun _ _ h => h)⟩) ?_; rintro _ F306 _ hF307 hd309 hn308 ⟨a310, n314, c311, Lb312, rfl, rfl, hz313⟩
         replace h282 := h282.mono (iE_ok _) hF307
         replace hz269 := hz269.mono (iE_ok _) hF307
         have hn316 := newp (Lb' := []) (by rfl) hd309 hn308
         replace hz313 := hz313.new fun p hp => hn316 p (by simp [hp])
         refine shO_L (lp (ln (lp (ln rfl)))) ?_
         refine kO (kf (fS (fS fO)) (kf (fS (fS fO)) kr)) ?_
         refine om rfl rfl (ox rfl rfl rfl (ox rfl rfl rfl ?_))
         refine o_alloc rfl Tryz.zeroValue28 ?_; intro b317 hb317
         refine o_store (i := 0) Tryz.sizeOf28 rfl rfl rfl rfl (Nat.le_of_ble_eq_true rfl) ?_
         refine shO_L (L' := (b317, .cells #[.slice a310 n314 c311] 28 (0, 0)) :: ((b54, .cells #[.int .i64 n2, .int .i64 n3] 27 (0, 0)) :: ((b34, .cells #[.int .i64 n, .slice a27 n31 c28] 24 (0, 0)) :: (Lb312 ++ (Lb29 ++ (Lb268 ++ [])))))) rfl ?_
         refine oa rfl rfl (shO_nil ?_)
         obtain ⟨k9, h318, r319⟩ := b1_ok r305; clear r305
         refine shW_join (fun e1 F1 L1 => FExt F306 F1 ∧ L1 = ((b54, .cells #[.int .i64 n2, .int .i64 n3] 27 (0, 0)) :: ((b34, .cells #[.int .i64 n, .slice a27 n31 c28] 24 (0, 0)) :: (Lb29 ++ (Lb268 ++ [])))) ∧ e1.sub [(7, .pointer (some ⟨b34, 0, none⟩)), (8, .pointer (some ⟨b54, 0, none⟩)), (14, .slice a87 l5.length c88), (27, .slice a266 n270 c267), (184, .slice a87 l5.length c88), (185, .int .i64 (l5.length : Int)), (186, .int .i64 k7), (202, .slice a280 l5_2.length c281), (203, .int .i64 (l5_2.length : Int)), (204, .int .i64 k8), (221, .bool k9)]) ?_ ?_
         · clear r319
           refine shW_region (om rfl rfl ?_)
           refine ov (v_neq rfl rfl) rfl ?_
           refine om rfl rfl ?_
           by_cases c320 : n13 ≠ 0
           · have r321 := ite_t h318 c320; clear h318
             refine shO_off (b' := true) 217 rfl (Env.isT rfl c320) rfl rfl (shO_off (b' := true) 217 rfl (Env.isT rfl c320) rfl rfl (shO_off (b' := true) 217 rfl (Env.isT rfl c320) rfl rfl ?_))
             refine ov (v_pick_t (evD_true rfl c320) rfl) rfl ?_
             refine shO_nil ?_
             obtain rfl := inj1 r321
             exact mi (kd (kc (kc (kx kr)))) ⟨FExt.refl _, rfl, (sc rfl (sc rfl (sc rfl (sc rfl (sc rfl (sc rfl (sc rfl (sc rfl (sc rfl (sc rfl (sc rfl (sn _))))))))))))⟩
           have r322 := ite_f h318 c320; clear h318
           refine shO_on (b := false) 217 rfl (Env.isF rfl c320) (om rfl rfl (shO_on (b := false) 217 rfl (Env.isF rfl c320) ?_))
           refine ov (v_makeFunc rfl rfl) rfl ?_
           refine shO_on (b := false) 217 rfl (Env.isF rfl c320) ?_
           obtain rfl := (SlR.caps hz313).1
           refine shO_freezeR (Nat.le_refl _) (iE_ok _) (fC (fC (fC fP))) hz313 ?_; intro F323 hF324 h325
           replace hz269 := hz269.mono (iE_ok _) hF324
           refine shO_freeze 0 rfl hb317 ?_; intro F326 hF327 hz328
           refine shO_L (L' := (b54, .cells #[.int .i64 n2, .int .i64 n3] 27 (0, 0)) :: ((b34, .cells #[.int .i64 n, .slice a27 n31 c28] 24 (0, 0)) :: (Lb29 ++ (Lb268 ++ [])))) rfl ?_
           replace h325 := h325.mono (iE_ok _) hF327
           replace hz269 := hz269.mono (iE_ok _) hF327
           have hn329 : FnR Tryz.prog F326 30 #[] #[.pointer (some ⟨b317, 0, none⟩)] (iE .i64) Value.bool (fun xx_ : Int => oyezlaw01_HearReached_1 xx_ l9) := ⟨Tryz.call30, fun F2 h2 vs xx_ r ha hr => by obtain rfl := ha; exact oyezlaw01_HearReached_1_w (h2 _ _ hz328) (h325.mono (iE_ok _) h2) hr⟩
           obtain ⟨ok5, h330, r331⟩ := b1_ok r322; clear r322
           refine o_callT (Lt := Lb268 ++ []) (Lr := (b54, .cells #[.int .i64 n2, .int .i64 n3] 27 (0, 0)) :: ((b34, .cells #[.int .i64 n, .slice a27 n31 c28] 24 (0, 0)) :: (Lb29 ++ []))) rfl Tryz.call29 rfl rfl rfl (pT ((fC (fC (fS fP))).trans (pA pR)) (lp (ln rfl))) (fun F2 h2 h3 => by rw [(SlR.caps hz269).1]; exact slices_ContainsFunc_int_int_w (hz269.row (iE_ok _) h2 (fun p hp => h3 p (List.mem_append_left _ hp))) (hn329.mono h2) h330) ?_
           refine ov (v_pick_f (evD_false rfl c320) rfl) rfl ?_
           refine shO_nil ?_
           obtain rfl := inj1 r331
           exact mi kr ⟨(hF324.trans hF327), rfl, (sc rfl (sc rfl (sc rfl (sc rfl (sc rfl (sc rfl (sc rfl (sc rfl (sc rfl (sc rfl (sc rfl (sn _))))))))))))⟩
         rintro e1 F333 _ ⟨hF334, rfl, he332⟩
         refine shW_env _ he332 ?_; clear he332
         replace h282 := h282.mono (iE_ok _) hF334
         refine shW_cond rfl (fun c335 => ?_) (fun c335 => ?_)
         · have r336 := bt r319 c335; clear r319
           refine wsr (oa rfl rfl (shO_nil ?_))
           refine kW kn ?_
           refine shW_ret (inBlock_ret (andThen_ret (andThen_ret (inBlock_ret (inBlock_ret (andThen_ret (andThen_ret (inBlock_ret (andThen_ret ?_)))))))))
           refine q_res1 Tryz.results4 (res_tmp rfl) (sr) ?_
           obtain rfl := inj1 r336
           exact rfl
         have r337 := bf r319 c335; clear r319
         refine shW_skip (inBlock_n (id := 7) (shW_region ?_))
         refine ov (v_add rfl rfl (Lst.r64 hk284 c291 (RowR.lt h282))) rfl ?_
         refine om rfl rfl (shO_nil ?_)
         subst hn285; exact le kr ⟨_, _, rfl, hk292, r337, ((hF289.trans hF307).trans hF334), rfl, (sc rfl (sc rfl (sc rfl (sc rfl (sc rfl (sc rfl (sc rfl (sc rfl (sc rfl (sc rfl (sn _)))))))))))⟩
       obtain rfl := Lst.zero hk284 c291
       rw [oyezlaw01_HearReached_l8] at r286
       refine shW_exit (andThen_exit (andThen_exit ?_))
       refine inBlock_exit ?_
       refine inBlock_n (id := 5) ?_
       exact mi (kc (kc (ka kn))) ⟨r286, (hF263.trans hF289), rfl, (sc rfl (sc rfl (sc rfl (sc rfl (sc rfl (sc rfl (sn _)))))))⟩
     rintro e1 F340 _ ⟨r338, hF341, rfl, he339⟩
     refine shW_env _ he339 ?_; clear he339
     replace h239 := h239.mono (iE_ok _) hF341
     rw [oyezlaw01_HearReached_j7] at r338
     refine shW_region ?_
     refine ov (v_add rfl rfl (Lst.r64 hk240 c247 (RowR.lt h239))) rfl ?_
     refine om rfl rfl (shO_nil ?_)
     subst hn241; refine lf ?_
     exact mf kr ⟨_, _, rfl, hk248, r338, (hF245.trans hF341), rfl, (sc rfl (sc rfl (sc rfl (sc rfl (sc rfl (sc rfl (sn _)))))))⟩
   obtain rfl := Lst.zero hk240 c247
   rw [oyezlaw01_HearReached_l6] at r242
   refine shW_exit (andThen_exit (andThen_exit ?_))
   refine inBlock_exit ?_
   exact mi kn ⟨r242, (hF238.trans hF245), rfl, (sn _)⟩
 rintro e1 F344 _ ⟨r342, hF345, rfl, he343⟩
 refine shW_env _ he343 ?_; clear he343
 rw [oyezlaw01_HearReached_j5] at r342
 refine wsr ?_
 obtain ⟨ok6, h346, r347⟩ := b1_ok r342; clear r342
 refine o_callV rfl Tryz.call6 rfl rfl rfl (oyezlaw01_awake_w h346) ?_
 refine oa rfl rfl (shO_nil (shW_ret ?_))
 refine q_res1 Tryz.results4 (res_tmp rfl) (sr) ?_
 obtain rfl := inj1 r347
 exact rfl
end Go.Proofs.YtejkgppikpkkpaaGreat
