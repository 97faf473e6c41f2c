/- The walks that this claim needs, printed by a program of mine; part 3. -/
import Derived.Test.YtejkgppikpkkpaaZWNW2
namespace Go.Proofs.Ytejkgppikpkkpaa
open Go.SH Go.PL
set_option maxHeartbeats 1000000 in
theorem oyezlaw01_HearWalled_w {numbers_a : Option Addr} {numbers_c : Nat} {numbers : List Int} {which : Int} {F : FS} (h_numbers : RowR 1 (iE .u8) F numbers_a numbers_c numbers) {r : Bool} (hr : oyezlaw01_HearWalled numbers which = some r) :
    SpecV Try.prog 5 #[.slice numbers_a numbers.length numbers_c, .int .u8 which] F (.bool r) := by
 refine spec_of_shW (args := [.slice numbers_a numbers.length numbers_c, .int .u8 which]) Try.func5 rfl Try.ntmps5 (Nat.le_of_ble_eq_true rfl) ?_
 intro K _ _; rw [oyezlaw01_HearWalled] at hr
 refine wsr (oa rfl rfl (nsr (om rfl rfl ?_)))
 obtain ⟨metal, at_, turn, h1, r2⟩ := b3_ok hr; clear hr
 refine o_call0 rfl Try.call7 rfl rfl rfl (oyezkit_Hang_w h_numbers h1) ?_; rintro _ F3 _ hF4 hn5 ⟨b7, a8, c9, rfl, rfl, h10⟩
 refine shO_L (lb (ln rfl)) ?_
 refine oa rfl rfl (nsr (om rfl rfl ?_))
 obtain ⟨n, l, at_2, turn2, h11, r12⟩ := b4_ok r2; clear r2
 refine o_callG (Lb := [(b7, .cells #[.slice a8 metal.length c9, .int .i64 at_, .int .u32 turn] 69 (0, 0))]) (Lr := []) rfl Try.call8 rfl rfl rfl (pR) (oyezlaw01_Made_w h10 h11) ?_; rintro _ F13 _ hF14 hd16 hn15 ⟨a17, n21, c18, Lb19, rfl, rfl, hz20⟩
 replace h10 := h10.mono (iE_ok _) hF14
 have hn23 := newp (Lb' := [(b7, .cells #[.slice a8 metal.length c9, .int .i64 at_2, .int .u32 turn2] 69 (0, 0))]) (by rfl) hd16 hn15
 replace hz20 := hz20.new fun p hp => hn23 p (by simp [hp])
 refine shO_L (lb (lp (ln rfl))) ?_
 refine o_alloc rfl Try.zeroValue27 ?_; intro b24 hb24
 refine o_storeA (i := 0) Try.sizeOf27 rfl rfl rfl (by simp [Value.oneCell']) rfl (Nat.le_of_ble_eq_true rfl) ?_
 refine shO_L (L' := (b24, .cells #[.int .i64 n, .slice a17 n21 c18] 27 (0, 0)) :: ((b7, .cells #[.slice a8 metal.length c9, .int .i64 at_2, .int .u32 turn2] 69 (0, 0)) :: (Lb19 ++ []))) rfl ?_
 refine shO_nil (shW_seq ?_)
 refine shW_drawM [(.pre, 4), (.still, 0), (.still, 2), (.seq, 1), (.seq, 3), (.alloc (.cells (.agg #[.int .i64 0, .int .i64 0] : Value).cells 31 (0, 0)) (fun b => .pointer (some ⟨b, 0, none⟩)) [], 4), (.seq, 5), (.still, 6)] (by kernel_rfl) (by kernel_rfl) (⟨⟨_, _, rfl, rfl, rfl, rfl, rfl, mk_alloc Try.zeroValue31⟩, trivial⟩) (by rfl) (by kernel_rfl) ?_
 refine ⟨⟨[], rfl, sn _, by kernel_rfl⟩, ?_⟩
 refine shM_v (v := .pointer (some ⟨b7, 0, none⟩)) (ek := [(5, .pointer (some ⟨b7, 0, none⟩))]) (Ls := []) rfl rfl rfl rfl ((sc rfl (sn _))) (by kernel_rfl) sm (fun H F' L' hF' hL' => v_move rfl) ?_
 refine shM_v (v := .agg #[.int .i64 n, .slice a17 n21 c18]) (ek := [(6, .pointer (some ⟨b24, 0, none⟩))]) (Ls := [(b24, .cells #[.int .i64 n, .slice a17 n21 c18] 27 (0, 0))]) rfl rfl rfl rfl ((sc rfl (sn _))) (by kernel_rfl) (s0 (s2 (s1 (s3 sr)))) (fun H F' L' hF' hL' => v_loadA (cs := #[.int .i64 n, .slice a17 n21 c18]) Try.isAgg27 Try.sizeOf27 rfl ((Has.own 0 rfl).ext hF' hL') (Nat.le_of_ble_eq_true rfl) rfl) ?_
 refine ⟨_, [(30, .pointer (some ⟨b7, 0, none⟩))], rfl, rfl, (sc rfl (sn _)), by kernel_rfl, ?_⟩; intro H
 obtain ⟨n2, n3, at_3, turn3, h25, r26⟩ := b4_ok r12; clear r12
 refine o_callG (Lb := [(b7, .cells #[.slice a8 metal.length c9, .int .i64 at_2, .int .u32 turn2] 69 (0, 0))]) (Lr := (b24, .cells #[.int .i64 n, .slice a17 n21 c18] 27 (0, 0)) :: (Lb19 ++ [])) rfl Try.call9 rfl rfl rfl (((fC fO).trans (pC pR))) (oyezlaw01_Aired_w h10 h25) ?_; rintro _ F27 _ hF28 hd30 hn29 ⟨rfl, rfl⟩
 replace hz20 := hz20.mono (iE_ok _) hF28
 refine shO_L (lb (ln rfl)) ?_
 refine shO_nil ⟨_, rfl, hF28, [2], by kernel_rfl, .inl (.inr (fun d h => by cases h; rfl)), (List.forall_mem_cons.2 ⟨s0 (s1 (s2 (s3 sr))), (fun _ h => absurd h List.not_mem_nil)⟩), ?_⟩
 refine ⟨_, [(32, .agg #[.int .i64 n, .slice a17 n21 c18])], rfl, rfl, (sc rfl (sn _)), by kernel_rfl, ?_⟩; intro H
 obtain ⟨l2, h31, r32⟩ := b1_ok r26; clear r26
 refine o_callTO (Lb := []) (Lt := Lb19 ++ []) (Lr := [(b7, .cells #[.slice a8 metal.length c9, .int .i64 at_3, .int .u32 turn3] 69 (0, 0)), (b24, .cells #[.int .i64 n, .slice a17 n21 c18] 27 (0, 0))]) rfl Try.call12 rfl rfl rfl (pT ((fC (fC fP)).trans (pA pR)) (ln (lp (ln rfl)))) (fun F2 h2 h3 => by rw [(SlR.caps hz20).1]; exact oyezlaw01_streets_w (hz20.row (iE_ok _) h2 (fun p hp => h3 p (List.mem_append_left _ hp))) h31) (fun _ _ _ _ hq => by obtain ⟨a37, n41, c38, Lb39, rfl, rfl, hz40⟩ := hq; exact ⟨_, _, _, _, rfl, rfl, hz40.flat (fun _ _ h => h)⟩) ?_; rintro _ F33 _ hF34 hd36 hn35 ⟨a37, n41, c38, Lb39, rfl, rfl, hz40⟩
 replace hz20 := hz20.mono (iE_ok _) hF34
 have hn43 := newp (Lb' := []) (by rfl) hd36 hn35
 replace hz40 := hz40.new fun p hp => hn43 p (by simp [hp])
 refine shO_L (lp (ln (lp (ln rfl)))) ?_
 refine kO (kf (fS (fS fO)) (kf (fS (fS fO)) kr)) ?_
 refine shO_nil ⟨_, rfl, hF34, [], by kernel_rfl, .inl (.inl rfl), (fun _ h => absurd h List.not_mem_nil), ?_⟩
 refine shM_ptr rfl ?_; intro b44 hb44
 refine shM_L (L' := (b44, .cells #[.int .i64 0, .int .i64 0] 31 (0, 0)) :: ((b7, .cells #[.slice a8 metal.length c9, .int .i64 at_3, .int .u32 turn3] 69 (0, 0)) :: ((b24, .cells #[.int .i64 n, .slice a17 n21 c18] 27 (0, 0)) :: (Lb39 ++ (Lb19 ++ []))))) rfl ?_
 refine ⟨_, [(7, .pointer (some ⟨b44, 0, none⟩)), (31, .agg #[.int .i64 n2, .int .i64 n3])], rfl, rfl, (sc rfl (sc rfl (sn _))), by kernel_rfl, ?_⟩; intro H
 refine o_storeA (i := 0) Try.sizeOf31 rfl rfl rfl (by simp [Value.oneCell']) rfl (Nat.le_of_ble_eq_true rfl) ?_
 refine shO_L (L' := (b44, .cells #[.int .i64 n2, .int .i64 n3] 31 (0, 0)) :: ((b7, .cells #[.slice a8 metal.length c9, .int .i64 at_3, .int .u32 turn3] 69 (0, 0)) :: ((b24, .cells #[.int .i64 n, .slice a17 n21 c18] 27 (0, 0)) :: (Lb39 ++ (Lb19 ++ []))))) rfl ?_
 refine shO_nil ⟨undef, rfl, FExt.refl _, [], by kernel_rfl, .inl (.inl rfl), (fun _ h => absurd h List.not_mem_nil), ?_⟩
 refine shM_v (v := .slice a37 n41 c38) (ek := [(33, .slice a37 n41 c38)]) (Ls := []) rfl rfl rfl rfl ((sc rfl (sn _))) (by kernel_rfl) sm (fun H F' L' hF' hL' => v_assign rfl) ?_
 refine shM_nil ?_
 refine wsr (om rfl rfl (om rfl rfl ?_))
 obtain ⟨g45, r46⟩ := gd_ok r32; clear r32
 refine ov (i_conv Try.underlying5 Try.underlying3 rfl g45) rfl ?_
 refine om rfl rfl ?_
 refine ov ((v_lenS Try.underlying36 rfl).i (SlR.lenI hz40)) rfl ?_
 obtain ⟨g47, r48⟩ := gd_ok r46; clear r46
 refine ov (v_remT rfl rfl g47) rfl ?_
 obtain ⟨x, g49, hx50, r51⟩ := ix_ok r48; clear r48
 obtain ⟨b52, o53, c54, vs55, ha56, hs57, hle58, rfl, hl59, hc60⟩ := SlR.at (iE_ok _) hz40 (L := (b44, .cells #[.int .i64 n2, .int .i64 n3] 31 (0, 0)) :: ((b7, .cells #[.slice a8 metal.length c9, .int .i64 at_3, .int .u32 turn3] 69 (0, 0)) :: ((b24, .cells #[.int .i64 n, .slice a17 n21 c18] 27 (0, 0)) :: (Lb39 ++ (Lb19 ++ []))))) (fC (fC (fC fP))) g49.1 hx50
 refine ov (v_indexO Try.underlying36 Try.sizeOf3 rfl ha56 rfl (SlR.idx hz40 g49)) rfl ?_
 refine ov (v_load Try.isAgg3 rfl hs57 (hc60 0 (by decide))) rfl ?_
 refine o_alloc rfl Try.zeroValue3 ?_; intro b61 hb61
 refine o_store (i := 0) Try.sizeOf3 rfl rfl rfl rfl (Nat.le_of_ble_eq_true rfl) ?_
 refine shO_L (L' := (b61, .cells #[.int .i64 x] 3 (0, 0)) :: ((b44, .cells #[.int .i64 n2, .int .i64 n3] 31 (0, 0)) :: ((b7, .cells #[.slice a8 metal.length c9, .int .i64 at_3, .int .u32 turn3] 69 (0, 0)) :: ((b24, .cells #[.int .i64 n, .slice a17 n21 c18] 27 (0, 0)) :: (Lb39 ++ (Lb19 ++ [])))))) rfl ?_
 refine nsr ?_
 refine ov (v_loadA (cs := #[.int .i64 n, .slice a17 n21 c18]) Try.isAgg27 Try.sizeOf27 rfl (Has.own 3 rfl) (Nat.le_of_ble_eq_true rfl) rfl) rfl ?_
 refine ov (v_load Try.isAgg3 rfl (Has.own 0 rfl) rfl) rfl ?_
 obtain ⟨n4, l3, n5, h62, r63⟩ := b3_ok r51; clear r51
 refine o_callTO (Lb := []) (Lt := Lb19 ++ []) (Lr := (b61, .cells #[.int .i64 x] 3 (0, 0)) :: ((b44, .cells #[.int .i64 n2, .int .i64 n3] 31 (0, 0)) :: ((b7, .cells #[.slice a8 metal.length c9, .int .i64 at_3, .int .u32 turn3] 69 (0, 0)) :: ((b24, .cells #[.int .i64 n, .slice a17 n21 c18] 27 (0, 0)) :: (Lb39 ++ []))))) rfl Try.call29 rfl rfl rfl (pT ((fC (fC (fC (fC (fS fP))))).trans (pA pR)) (ln (lp (ln rfl)))) (fun F2 h2 h3 => by rw [(SlR.caps hz20).1]; exact hear_Walled_w (hz20.row (iE_ok _) h2 (fun p hp => h3 p (List.mem_append_left _ hp))) h62) (fun _ _ _ _ hq => by obtain ⟨a68, n72, c69, Lb70, rfl, rfl, hz71⟩ := hq; exact ⟨_, _, _, _, rfl, rfl, hz71.flat (fun _ _ h => h)⟩) ?_; rintro _ F64 _ hF65 hd67 hn66 ⟨a68, n72, c69, Lb70, rfl, rfl, hz71⟩
 replace hz20 := hz20.mono (iE_ok _) hF65
 replace hz40 := hz40.mono (iE_ok _) hF65
 have hn74 := newp (Lb' := []) (by rfl) hd67 hn66
 replace hz71 := hz71.new fun p hp => hn74 p (by simp [hp])
 refine shO_L (lp (ln (lp (ln rfl)))) ?_
 refine kO (kf (fS (fS fO)) (kf (fS (fS fO)) (kf (fS (fS fO)) (kf (fS (fS fO)) kr)))) ?_
 refine om rfl rfl (ox rfl rfl rfl (ox rfl rfl rfl ?_))
 refine o_alloc rfl Try.zeroValue27 ?_; intro b75 hb75
 refine o_storeA (i := 0) Try.sizeOf27 rfl rfl rfl (by simp [Value.oneCell']) rfl (Nat.le_of_ble_eq_true rfl) ?_
 refine shO_L (L' := (b75, .cells #[.int .i64 n4, .slice a68 n72 c69] 27 (0, 0)) :: ((b61, .cells #[.int .i64 x] 3 (0, 0)) :: ((b44, .cells #[.int .i64 n2, .int .i64 n3] 31 (0, 0)) :: ((b7, .cells #[.slice a8 metal.length c9, .int .i64 at_3, .int .u32 turn3] 69 (0, 0)) :: ((b24, .cells #[.int .i64 n, .slice a17 n21 c18] 27 (0, 0)) :: (Lb70 ++ (Lb19 ++ (Lb39 ++ [])))))))) rfl ?_
 refine oa rfl rfl (shO_nil (shW_seq ?_))
 obtain ⟨k, h76, r77⟩ := b1_ok r63; clear r63
 refine shW_join (fun e1 F1 L1 => F64 = F1 ∧ L1 = ((b75, .cells #[.int .i64 n4, .slice a68 n72 c69] 27 (0, 0)) :: ((b61, .cells #[.int .i64 x] 3 (0, 0)) :: ((b44, .cells #[.int .i64 n2, .int .i64 n3] 31 (0, 0)) :: ((b24, .cells #[.int .i64 n, .slice a17 n21 c18] 27 (0, 0)) :: (Lb19 ++ (Lb39 ++ (Lb70 ++ []))))))) ∧ e1.sub [(6, .pointer (some ⟨b24, 0, none⟩)), (7, .pointer (some ⟨b44, 0, none⟩)), (8, .slice a37 n41 c38), (9, .pointer (some ⟨b61, 0, none⟩)), (10, .pointer (some ⟨b75, 0, none⟩)), (66, .bool k)]) ?_ ?_
 · clear r77
   refine shW_region (om rfl rfl ?_)
   refine ov (v_neq rfl rfl) rfl ?_
   refine om rfl rfl ?_
   by_cases c78 : n5 ≠ 0
   · have r79 := ite_t h76 c78; clear h76
     refine shO_off (b' := true) 50 rfl (Env.isT rfl c78) rfl rfl (shO_off (b' := true) 50 rfl (Env.isT rfl c78) rfl rfl (shO_off (b' := true) 50 rfl (Env.isT rfl c78) rfl rfl (shO_off (b' := true) 50 rfl (Env.isT rfl c78) rfl rfl (shO_off (b' := true) 50 rfl (Env.isT rfl c78) rfl rfl (shO_off (b' := true) 50 rfl (Env.isT rfl c78) rfl rfl (shO_off (b' := true) 50 rfl (Env.isT rfl c78) rfl rfl ?_))))))
     refine ov (v_pick_t (evD_true rfl c78) rfl) rfl ?_
     refine om rfl rfl (shO_off (b' := true) 59 rfl rfl rfl rfl (shO_off (b' := true) 59 rfl rfl rfl rfl (shO_off (b' := true) 59 rfl rfl rfl rfl (shO_off (b' := true) 59 rfl rfl rfl rfl (shO_off (b' := true) 59 rfl rfl rfl rfl (shO_off (b' := true) 59 rfl rfl rfl rfl ?_))))))
     refine ov (v_pick_t rfl rfl) rfl ?_
     refine shO_nil ?_
     obtain rfl := inj1 r79
     exact mi (kc (kc (kc (kd (kc (kg (fS fP) (kg (fS fP) kr))))))) ⟨rfl, rfl, (sc rfl (sc rfl (sc rfl (sc rfl (sc rfl (sc rfl (sn _)))))))⟩
   have r80 := ite_f h76 c78; clear h76
   refine shO_on (b := false) 50 rfl (Env.isF rfl c78) ?_
   refine ov (v_fieldAddr fa_27_1 rfl) rfl ?_
   refine shO_on (b := false) 50 rfl (Env.isF rfl c78) ?_
   refine ov (v_load Try.isAgg25 rfl (Has.own 0 rfl) rfl) rfl ?_
   refine shO_on (b := false) 50 rfl (Env.isF rfl c78) ?_
   refine ov ((v_lenS Try.underlying25 rfl).i (SlR.lenI hz71)) rfl ?_
   refine shO_on (b := false) 50 rfl (Env.isF rfl c78) ?_
   refine ov (v_fieldAddr fa_27_1 rfl) rfl ?_
   refine shO_on (b := false) 50 rfl (Env.isF rfl c78) ?_
   refine ov (v_load Try.isAgg25 rfl (Has.own 4 rfl) rfl) rfl ?_
   refine shO_on (b := false) 50 rfl (Env.isF rfl c78) ?_
   refine ov ((v_lenS Try.underlying25 rfl).i (SlR.lenI hz20)) rfl ?_
   refine shO_on (b := false) 50 rfl (Env.isF rfl c78) ?_
   refine ov (v_neq rfl rfl) rfl ?_
   refine ov (v_pick_f (evD_false rfl c78) rfl) rfl ?_
   refine om rfl rfl ?_
   by_cases c81 : (l3.length : Int) ≠ (l.length : Int)
   · have r82 := ite_t r80 c81; clear r80
     refine shO_off (b' := true) 59 rfl (Env.isT rfl c81) rfl rfl (shO_off (b' := true) 59 rfl (Env.isT rfl c81) rfl rfl (shO_off (b' := true) 59 rfl (Env.isT rfl c81) rfl rfl (shO_off (b' := true) 59 rfl (Env.isT rfl c81) rfl rfl (shO_off (b' := true) 59 rfl (Env.isT rfl c81) rfl rfl (shO_off (b' := true) 59 rfl (Env.isT rfl c81) rfl rfl ?_)))))
     refine ov (v_pick_t (evD_true rfl c81) rfl) rfl ?_
     refine shO_nil ?_
     obtain rfl := inj1 r82
     exact mi (kc (kc (kc (kd (kc (kg (fS fP) (kg (fS fP) kr))))))) ⟨rfl, rfl, (sc rfl (sc rfl (sc rfl (sc rfl (sc rfl (sc rfl (sn _)))))))⟩
   have r83 := ite_f r80 c81; clear r80
   refine shO_on (b := false) 59 rfl (Env.isF rfl c81) ?_
   refine ov (v_fieldAddr fa_27_1 rfl) rfl ?_
   refine shO_on (b := false) 59 rfl (Env.isF rfl c81) ?_
   refine ov (v_load Try.isAgg25 rfl (Has.own 0 rfl) rfl) rfl ?_
   refine shO_on (b := false) 59 rfl (Env.isF rfl c81) ?_
   refine ov (v_load Try.isAgg3 rfl (Has.own 1 rfl) rfl) rfl ?_
   refine shO_on (b := false) 59 rfl (Env.isF rfl c81) ?_
   obtain ⟨x2, g84, hx85, r86⟩ := ix_ok r83; clear r83
   obtain ⟨b87, o88, c89, vs90, ha91, hs92, hle93, rfl, hl94, hc95⟩ := SlR.at (iE_ok _) hz71 (L := (b75, .cells #[.int .i64 n4, .slice a68 n72 c69] 27 (0, 0)) :: ((b61, .cells #[.int .i64 x] 3 (0, 0)) :: ((b44, .cells #[.int .i64 n2, .int .i64 n3] 31 (0, 0)) :: ((b7, .cells #[.slice a8 metal.length c9, .int .i64 at_3, .int .u32 turn3] 69 (0, 0)) :: ((b24, .cells #[.int .i64 n, .slice a17 n21 c18] 27 (0, 0)) :: (Lb70 ++ (Lb19 ++ (Lb39 ++ [])))))))) (fC (fC (fC (fC (fC fP))))) g84.1 hx85
   refine ov (v_indexO Try.underlying25 Try.sizeOf35 rfl ha91 rfl (SlR.idx hz71 g84)) rfl ?_
   refine shO_on (b := false) 59 rfl (Env.isF rfl c81) ?_
   refine ov (v_load Try.isAgg35 rfl hs92 (hc95 0 (by decide))) rfl ?_
   refine shO_on (b := false) 59 rfl (Env.isF rfl c81) ?_
   refine ov (v_neq rfl rfl) rfl ?_
   refine ov (v_pick_f (evD_false rfl c81) rfl) rfl ?_
   refine shO_nil ?_
   obtain rfl := inj1 r86
   exact mi (kc (kc (kc (kd (kc (kg (fS fP) (kg (fS fP) kr))))))) ⟨rfl, rfl, (sc rfl (sc rfl (sc rfl (sc rfl (sc rfl (sc rfl (sn _)))))))⟩
 rintro e1 _ _ ⟨rfl, rfl, he96⟩
 refine shW_env _ he96 ?_; clear he96
 refine shW_cond rfl (fun c97 => ?_) (fun c97 => ?_)
 · have r98 := bt r77 c97; clear r77
   refine wsr (oa rfl rfl (shO_nil ?_))
   refine kW kn ?_
   refine shW_ret (andThen_ret ?_)
   refine q_res1 Try.results5 (res_tmp rfl) (sr) ?_
   obtain rfl := inj1 r98
   exact rfl
 have r99 := bf r77 c97; clear r77
 refine shW_skip ?_
 refine shW_join (fun e1 F1 L1 => oyezlaw01_HearWalled_j1 n l n2 n3 l2 x = some r ∧ FExt F64 F1 ∧ L1 = ((b61, .cells #[.int .i64 x] 3 (0, 0)) :: ((b44, .cells #[.int .i64 n2, .int .i64 n3] 31 (0, 0)) :: ((b24, .cells #[.int .i64 n, .slice a17 n21 c18] 27 (0, 0)) :: (Lb19 ++ (Lb39 ++ []))))) ∧ e1.sub [(6, .pointer (some ⟨b24, 0, none⟩)), (7, .pointer (some ⟨b44, 0, none⟩)), (8, .slice a37 n41 c38), (9, .pointer (some ⟨b61, 0, none⟩))]) ?_ ?_
 · refine wsr (om rfl rfl ?_)
   refine ov ((v_lenS Try.underlying36 rfl).i (SlR.lenI hz40)) rfl ?_
   refine om rfl rfl (shO_nil ?_)
   refine shW_block ?_
   refine shW_lp (fun fu2 e1 F1 L1 => ∃ (tl : List Int) (k2 : Int), tl.length = fu2 ∧ Lst l2 k2 tl ∧ oyezlaw01_HearWalled_l2 n l n2 n3 l2 x n4 l3 tl = some r ∧ FExt F64 F1 ∧ L1 = ((b75, .cells #[.int .i64 n4, .slice a68 n72 c69] 27 (0, 0)) :: ((b61, .cells #[.int .i64 x] 3 (0, 0)) :: ((b44, .cells #[.int .i64 n2, .int .i64 n3] 31 (0, 0)) :: ((b24, .cells #[.int .i64 n, .slice a17 n21 c18] 27 (0, 0)) :: (Lb19 ++ (Lb39 ++ (Lb70 ++ []))))))) ∧ e1.sub [(6, .pointer (some ⟨b24, 0, none⟩)), (7, .pointer (some ⟨b44, 0, none⟩)), (8, .slice a37 n41 c38), (9, .pointer (some ⟨b61, 0, none⟩)), (10, .pointer (some ⟨b75, 0, none⟩)), (67, .slice a37 n41 c38), (68, .int .i64 (l2.length : Int)), (69, .int .i64 k2)]) _ (m0 kr ⟨_, _, rfl, Lst.start _, r99, FExt.refl _, rfl, (sc rfl (sc rfl (sc rfl (sc rfl (sc rfl (sc rfl (sc rfl (sc rfl (sn _)))))))))⟩) ?_
   rintro fu2 e1 F104 _ ⟨tl, k2, hn101, hk100, r102, hF105, rfl, he103⟩
   refine shW_env _ he103 ?_; clear he103
   replace hz20 := hz20.mono (iE_ok _) hF105
   replace hz40 := hz40.mono (iE_ok _) hF105
   replace hz71 := hz71.mono (iE_ok _) hF105
   refine wsr ?_
   refine ov (v_lssK rfl rfl) rfl ?_
   refine shO_nil (shW_seq ?_)
   refine shW_condP rfl (fun c107 => ?_) (fun c107 => ?_)
   · obtain ⟨x3, tl2, rfl, hx109, g110, hk108⟩ := Lst.succ hk100 c107
     rw [oyezlaw01_HearWalled_l2] at r102
     refine shW_skip ?_
     refine shW_join (fun e1 F1 L1 => oyezlaw01_HearWalled_j3 (oyezlaw01_HearWalled_l2 n l n2 n3 l2 x n4 l3 tl2) = some r ∧ FExt F104 F1 ∧ L1 = ((b75, .cells #[.int .i64 n4, .slice a68 n72 c69] 27 (0, 0)) :: ((b61, .cells #[.int .i64 x] 3 (0, 0)) :: ((b44, .cells #[.int .i64 n2, .int .i64 n3] 31 (0, 0)) :: ((b24, .cells #[.int .i64 n, .slice a17 n21 c18] 27 (0, 0)) :: (Lb19 ++ (Lb39 ++ (Lb70 ++ []))))))) ∧ e1.sub [(6, .pointer (some ⟨b24, 0, none⟩)), (7, .pointer (some ⟨b44, 0, none⟩)), (8, .slice a37 n41 c38), (9, .pointer (some ⟨b61, 0, none⟩)), (10, .pointer (some ⟨b75, 0, none⟩)), (67, .slice a37 n41 c38), (68, .int .i64 (l2.length : Int)), (69, .int .i64 k2)]) ?_ ?_
     · refine shW_block ?_
       refine wsr ?_
       obtain ⟨b111, o112, c113, vs114, ha115, hs116, hle117, rfl, hl118, hc119⟩ := SlR.at (iE_ok _) hz40 (L := (b75, .cells #[.int .i64 n4, .slice a68 n72 c69] 27 (0, 0)) :: ((b61, .cells #[.int .i64 x] 3 (0, 0)) :: ((b44, .cells #[.int .i64 n2, .int .i64 n3] 31 (0, 0)) :: ((b24, .cells #[.int .i64 n, .slice a17 n21 c18] 27 (0, 0)) :: (Lb19 ++ (Lb39 ++ (Lb70 ++ []))))))) (fC (fC (fC (fC (fS fP))))) g110.1 hx109
       refine ov (v_indexO Try.underlying36 Try.sizeOf3 rfl ha115 rfl (SlR.idx hz40 g110)) rfl ?_
       refine ov (v_load Try.isAgg3 rfl hs116 (hc119 0 (by decide))) rfl ?_
       refine oa rfl rfl (shO_nil (shW_seq (wsr (om rfl rfl ?_))))
       refine ov (v_load Try.isAgg3 rfl (Has.own 1 rfl) rfl) rfl ?_
       refine ov (v_eql rfl rfl) rfl ?_
       refine shO_nil ?_
       refine shW_condP rfl (fun c120 => ?_) (fun c120 => ?_)
       · have r121 := ite_t r102 c120; clear r102
         refine wsr ?_
         refine ov (v_loadA (cs := #[.int .i64 n4, .slice a68 n72 c69]) Try.isAgg27 Try.sizeOf27 rfl (Has.own 0 rfl) (Nat.le_of_ble_eq_true rfl) rfl) rfl ?_
         refine ov (v_fieldAddr fa_31_0 rfl) rfl ?_
         refine ov (v_load Try.isAgg29 rfl (Has.own 2 rfl) rfl) rfl ?_
         refine om rfl rfl ?_
         obtain ⟨l4, n6, h122, r123⟩ := b2_ok r121; clear r121
         refine o_callTO (Lb := []) (Lt := Lb70 ++ []) (Lr := (b75, .cells #[.int .i64 n4, .slice a68 n72 c69] 27 (0, 0)) :: ((b61, .cells #[.int .i64 x] 3 (0, 0)) :: ((b44, .cells #[.int .i64 n2, .int .i64 n3] 31 (0, 0)) :: ((b24, .cells #[.int .i64 n, .slice a17 n21 c18] 27 (0, 0)) :: (Lb19 ++ (Lb39 ++ [])))))) rfl Try.call13 rfl rfl rfl (pT ((fC (fC (fC (fC (fS (fS fP)))))).trans (pA pR)) (ln (lp (ln rfl)))) (fun F2 h2 h3 => by rw [(SlR.caps hz71).1]; exact hear_Needs_w (hz71.row (iE_ok _) h2 (fun p hp => h3 p (List.mem_append_left _ hp))) h122) (fun _ _ _ _ hq => by obtain ⟨a128, n132, c129, Lb130, rfl, rfl, hz131⟩ := hq; exact ⟨_, _, _, _, rfl, rfl, hz131.flat (fun _ _ h => h)⟩) ?_; rintro _ F124 _ hF125 hd127 hn126 ⟨a128, n132, c129, Lb130, rfl, rfl, hz131⟩
         refine shO_L (lp (ln (lp (ln rfl)))) ?_
         refine kO (kf (fS (fS fO)) (kf (fS (fS fO)) (kf (fS (fS fO)) (kf (fS (fS fO)) kr)))) ?_
         refine om rfl rfl (ox rfl rfl rfl (ox rfl rfl rfl (oa rfl rfl (oa rfl rfl (shO_nil (shW_seq (wsr (om rfl rfl ?_))))))))
         refine ov (v_neq rfl rfl) rfl ?_
         refine shO_nil ?_
         refine shW_condP rfl (fun c135 => ?_) (fun c135 => ?_)
         · have r136 := ite_t r123 c135; clear r123
           refine wsr (oa rfl rfl (shO_nil ?_))
           refine kW kn ?_
           refine shW_ret (andThen_ret (andThen_ret (inBlock_ret (andThen_ret (andThen_ret (inBlock_ret (andThen_ret ?_)))))))
           refine q_res1 Try.results5 (res_tmp rfl) (sr) ?_
           obtain rfl := inj1 r136
           exact rfl
         have r137 := ite_f r123 c135; clear r123
         refine shW_skip (shW_exit (andThen_exit ?_))
         refine inBlock_exit ?_
         exact mi (kc (kc (kc (kc (kx (kg (fS fP) (kg (fS fP) kr))))))) ⟨r137, hF125, rfl, (sc rfl (sc rfl (sc rfl (sc rfl (sc rfl (sc rfl (sc rfl (sc rfl (sn _)))))))))⟩
       have r138 := ite_f r102 c120; clear r102
       refine shW_skip (wsr ?_)
       refine ov (v_loadA (cs := #[.int .i64 n, .slice a17 n21 c18]) Try.isAgg27 Try.sizeOf27 rfl (Has.own 3 rfl) (Nat.le_of_ble_eq_true rfl) rfl) rfl ?_
       refine ov (v_fieldAddr fa_31_0 rfl) rfl ?_
       refine ov (v_load Try.isAgg29 rfl (Has.own 2 rfl) rfl) rfl ?_
       refine om rfl rfl ?_
       obtain ⟨l5, n7, h139, r140⟩ := b2_ok r138; clear r138
       refine o_callTO (Lb := []) (Lt := Lb19 ++ []) (Lr := (b75, .cells #[.int .i64 n4, .slice a68 n72 c69] 27 (0, 0)) :: ((b61, .cells #[.int .i64 x] 3 (0, 0)) :: ((b44, .cells #[.int .i64 n2, .int .i64 n3] 31 (0, 0)) :: ((b24, .cells #[.int .i64 n, .slice a17 n21 c18] 27 (0, 0)) :: (Lb39 ++ (Lb70 ++ [])))))) rfl Try.call13 rfl rfl rfl (pT ((fC (fC (fC (fC fP)))).trans (pA pR)) (ln (lp (ln rfl)))) (fun F2 h2 h3 => by rw [(SlR.caps hz20).1]; exact hear_Needs_w (hz20.row (iE_ok _) h2 (fun p hp => h3 p (List.mem_append_left _ hp))) h139) (fun _ _ _ _ hq => by obtain ⟨a145, n149, c146, Lb147, rfl, rfl, hz148⟩ := hq; exact ⟨_, _, _, _, rfl, rfl, hz148.flat (fun _ _ h => h)⟩) ?_; rintro _ F141 _ hF142 hd144 hn143 ⟨a145, n149, c146, Lb147, rfl, rfl, hz148⟩
       replace hz20 := hz20.mono (iE_ok _) hF142
       replace hz71 := hz71.mono (iE_ok _) hF142
       have hn151 := newp (Lb' := []) (by rfl) hd144 hn143
       replace hz148 := hz148.new fun p hp => hn151 p (by simp [hp])
       refine shO_L (lp (ln (lp (ln rfl)))) ?_
       refine kO (kf (fS (fS fO)) (kf (fS (fS fO)) (kf (fS (fS fO)) (kf (fS (fS fO)) kr)))) ?_
       refine om rfl rfl (ox rfl rfl rfl (ox rfl rfl rfl (oa rfl rfl (oa rfl rfl (nsr ?_)))))
       refine ov (v_loadA (cs := #[.int .i64 n4, .slice a68 n72 c69]) Try.isAgg27 Try.sizeOf27 rfl (Has.own 0 rfl) (Nat.le_of_ble_eq_true rfl) rfl) rfl ?_
       refine ov (v_fieldAddr fa_31_0 rfl) rfl ?_
       refine ov (v_load Try.isAgg29 rfl (Has.own 2 rfl) rfl) rfl ?_
       refine om rfl rfl ?_
       obtain ⟨l6, n8, h152, r153⟩ := b2_ok r140; clear r140
       refine o_callTO (Lb := []) (Lt := Lb70 ++ []) (Lr := (b75, .cells #[.int .i64 n4, .slice a68 n72 c69] 27 (0, 0)) :: ((b61, .cells #[.int .i64 x] 3 (0, 0)) :: ((b44, .cells #[.int .i64 n2, .int .i64 n3] 31 (0, 0)) :: ((b24, .cells #[.int .i64 n, .slice a17 n21 c18] 27 (0, 0)) :: (Lb147 ++ (Lb19 ++ (Lb39 ++ []))))))) rfl Try.call13 rfl rfl rfl (pT ((fC (fC (fC (fC (fS (fS (fS fP))))))).trans (pA pR)) (ln (lp (ln rfl)))) (fun F2 h2 h3 => by rw [(SlR.caps hz71).1]; exact hear_Needs_w (hz71.row (iE_ok _) h2 (fun p hp => h3 p (List.mem_append_left _ hp))) h152) (fun _ _ _ _ hq => by obtain ⟨a158, n162, c159, Lb160, rfl, rfl, hz161⟩ := hq; exact ⟨_, _, _, _, rfl, rfl, hz161.flat (fun _ _ h => h)⟩) ?_; rintro _ F154 _ hF155 hd157 hn156 ⟨a158, n162, c159, Lb160, rfl, rfl, hz161⟩
       replace hz20 := hz20.mono (iE_ok _) hF155
       replace hz148 := hz148.mono (iE_ok _) hF155
       have hn164 := newp (Lb' := []) (by rfl) hd157 hn156
       replace hz161 := hz161.new fun p hp => hn164 p (by simp [hp])
       refine shO_L (lp (ln (lp (ln rfl)))) ?_
       refine kO (kf (fS (fS fO)) (kf (fS (fS fO)) (kf (fS (fS fO)) (kf (fS (fS fO)) kr)))) ?_
       refine om rfl rfl (ox rfl rfl rfl (ox rfl rfl rfl (oa rfl rfl (oa rfl rfl (shO_nil (shW_seq ?_))))))
       obtain ⟨k3, h165, r166⟩ := b1_ok r153; clear r153
       refine shW_join (fun e1 F1 L1 => F154 = F1 ∧ L1 = ((b75, .cells #[.int .i64 n4, .slice a68 n72 c69] 27 (0, 0)) :: ((b61, .cells #[.int .i64 x] 3 (0, 0)) :: ((b44, .cells #[.int .i64 n2, .int .i64 n3] 31 (0, 0)) :: ((b24, .cells #[.int .i64 n, .slice a17 n21 c18] 27 (0, 0)) :: (Lb19 ++ (Lb39 ++ (Lb70 ++ (Lb147 ++ (Lb160 ++ []))))))))) ∧ e1.sub [(6, .pointer (some ⟨b24, 0, none⟩)), (7, .pointer (some ⟨b44, 0, none⟩)), (8, .slice a37 n41 c38), (9, .pointer (some ⟨b61, 0, none⟩)), (10, .pointer (some ⟨b75, 0, none⟩)), (16, .slice a145 n149 c146), (18, .slice a158 n162 c159), (67, .slice a37 n41 c38), (68, .int .i64 (l2.length : Int)), (69, .int .i64 k2), (123, .bool k3)]) ?_ ?_
       · clear r166
         refine shW_region (om rfl rfl ?_)
         refine ov (v_neq rfl rfl) rfl ?_
         refine om rfl rfl ?_
         by_cases c167 : n7 ≠ 0
         · have r168 := ite_t h165 c167; clear h165
           refine shO_off (b' := true) 104 rfl (Env.isT rfl c167) rfl rfl (shO_off (b' := true) 104 rfl (Env.isT rfl c167) rfl rfl ?_)
           refine ov (v_pick_t (evD_true rfl c167) rfl) rfl ?_
           refine om rfl rfl (shO_off (b' := true) 108 rfl rfl rfl rfl (shO_off (b' := true) 108 rfl rfl rfl rfl (shO_off (b' := true) 108 rfl rfl rfl rfl (shO_off (b' := true) 108 rfl rfl rfl rfl (shO_off (b' := true) 108 rfl rfl rfl rfl (shO_off (b' := true) 108 rfl rfl rfl rfl ?_))))))
           refine ov (v_pick_t rfl rfl) rfl ?_
           refine om rfl rfl (shO_off (b' := true) 116 rfl rfl rfl rfl (shO_off (b' := true) 116 rfl rfl rfl rfl (shO_off (b' := true) 116 rfl rfl rfl rfl (shO_off (b' := true) 116 rfl rfl rfl rfl (shO_off (b' := true) 116 rfl rfl rfl rfl (shO_off (b' := true) 116 rfl rfl rfl rfl ?_))))))
           refine ov (v_pick_t rfl rfl) rfl ?_
           refine shO_nil ?_
           obtain rfl := inj1 r168
           exact mi (kc (kc (kc (kc (kg (fS (fS (fS fP))) (kg (fS (fS (fS fP))) (kg (fS fP) (kg (fS fP) kr)))))))) ⟨rfl, rfl, (sc rfl (sc rfl (sc rfl (sc rfl (sc rfl (sc rfl (sc rfl (sc rfl (sc rfl (sc rfl (sc rfl (sn _))))))))))))⟩
         have r169 := ite_f h165 c167; clear h165
         refine shO_on (b := false) 104 rfl (Env.isF rfl c167) (om rfl rfl (shO_on (b := false) 104 rfl (Env.isF rfl c167) ?_))
         refine ov (v_neq rfl rfl) rfl ?_
         refine ov (v_pick_f (evD_false rfl c167) rfl) rfl ?_
         refine om rfl rfl ?_
         by_cases c170 : n8 ≠ 0
         · have r171 := ite_t r169 c170; clear r169
           refine shO_off (b' := true) 108 rfl (Env.isT rfl c170) rfl rfl (shO_off (b' := true) 108 rfl (Env.isT rfl c170) rfl rfl (shO_off (b' := true) 108 rfl (Env.isT rfl c170) rfl rfl (shO_off (b' := true) 108 rfl (Env.isT rfl c170) rfl rfl (shO_off (b' := true) 108 rfl (Env.isT rfl c170) rfl rfl (shO_off (b' := true) 108 rfl (Env.isT rfl c170) rfl rfl ?_)))))
           refine ov (v_pick_t (evD_true rfl c170) rfl) rfl ?_
           refine om rfl rfl (shO_off (b' := true) 116 rfl rfl rfl rfl (shO_off (b' := true) 116 rfl rfl rfl rfl (shO_off (b' := true) 116 rfl rfl rfl rfl (shO_off (b' := true) 116 rfl rfl rfl rfl (shO_off (b' := true) 116 rfl rfl rfl rfl (shO_off (b' := true) 116 rfl rfl rfl rfl ?_))))))
           refine ov (v_pick_t rfl rfl) rfl ?_
           refine shO_nil ?_
           obtain rfl := inj1 r171
           exact mi (kc (kc (kc (kc (kg (fS (fS (fS fP))) (kg (fS (fS (fS fP))) (kg (fS fP) (kg (fS fP) kr)))))))) ⟨rfl, rfl, (sc rfl (sc rfl (sc rfl (sc rfl (sc rfl (sc rfl (sc rfl (sc rfl (sc rfl (sc rfl (sc rfl (sn _))))))))))))⟩
         have r172 := ite_f r169 c170; clear r169
         refine shO_on (b := false) 108 rfl (Env.isF rfl c170) (om rfl rfl (shO_on (b := false) 108 rfl (Env.isF rfl c170) ?_))
         refine ov ((v_lenS Try.underlying36 rfl).i (SlR.lenI hz148)) rfl ?_
         refine shO_on (b := false) 108 rfl (Env.isF rfl c170) ?_
         refine ov (v_fieldAddr fa_27_1 rfl) rfl ?_
         refine shO_on (b := false) 108 rfl (Env.isF rfl c170) ?_
         refine ov (v_load Try.isAgg25 rfl (Has.own 3 rfl) rfl) rfl ?_
         refine shO_on (b := false) 108 rfl (Env.isF rfl c170) ?_
         refine ov ((v_lenS Try.underlying25 rfl).i (SlR.lenI hz20)) rfl ?_
         refine shO_on (b := false) 108 rfl (Env.isF rfl c170) ?_
         refine ov (v_neq rfl rfl) rfl ?_
         refine ov (v_pick_f (evD_false rfl c170) rfl) rfl ?_
         refine om rfl rfl ?_
         by_cases c173 : (l5.length : Int) ≠ (l.length : Int)
         · have r174 := ite_t r172 c173; clear r172
           refine shO_off (b' := true) 116 rfl (Env.isT rfl c173) rfl rfl (shO_off (b' := true) 116 rfl (Env.isT rfl c173) rfl rfl (shO_off (b' := true) 116 rfl (Env.isT rfl c173) rfl rfl (shO_off (b' := true) 116 rfl (Env.isT rfl c173) rfl rfl (shO_off (b' := true) 116 rfl (Env.isT rfl c173) rfl rfl (shO_off (b' := true) 116 rfl (Env.isT rfl c173) rfl rfl ?_)))))
           refine ov (v_pick_t (evD_true rfl c173) rfl) rfl ?_
           refine shO_nil ?_
           obtain rfl := inj1 r174
           exact mi (kc (kc (kc (kc (kg (fS (fS (fS fP))) (kg (fS (fS (fS fP))) (kg (fS fP) (kg (fS fP) kr)))))))) ⟨rfl, rfl, (sc rfl (sc rfl (sc rfl (sc rfl (sc rfl (sc rfl (sc rfl (sc rfl (sc rfl (sc rfl (sc rfl (sn _))))))))))))⟩
         have r175 := ite_f r172 c173; clear r172
         refine shO_on (b := false) 116 rfl (Env.isF rfl c173) (om rfl rfl (shO_on (b := false) 116 rfl (Env.isF rfl c173) ?_))
         refine ov ((v_lenS Try.underlying36 rfl).i (SlR.lenI hz161)) rfl ?_
         refine shO_on (b := false) 116 rfl (Env.isF rfl c173) ?_
         refine ov (v_fieldAddr fa_27_1 rfl) rfl ?_
         refine shO_on (b := false) 116 rfl (Env.isF rfl c173) ?_
         refine ov (v_load Try.isAgg25 rfl (Has.own 3 rfl) rfl) rfl ?_
         refine shO_on (b := false) 116 rfl (Env.isF rfl c173) ?_
         refine ov ((v_lenS Try.underlying25 rfl).i (SlR.lenI hz20)) rfl ?_
         refine shO_on (b := false) 116 rfl (Env.isF rfl c173) ?_
         refine ov (v_neq rfl rfl) rfl ?_
         refine ov (v_pick_f (evD_false rfl c173) rfl) rfl ?_
         refine shO_nil ?_
         obtain rfl := inj1 r175
         exact mi (kc (kc (kc (kc (kg (fS (fS (fS fP))) (kg (fS (fS (fS fP))) (kg (fS fP) (kg (fS fP) kr)))))))) ⟨rfl, rfl, (sc rfl (sc rfl (sc rfl (sc rfl (sc rfl (sc rfl (sc rfl (sc rfl (sc rfl (sc rfl (sc rfl (sn _))))))))))))⟩
       rintro e1 _ _ ⟨rfl, rfl, he176⟩
       refine shW_env _ he176 ?_; clear he176
       refine shW_cond rfl (fun c177 => ?_) (fun c177 => ?_)
       · have r178 := bt r166 c177; clear r166
         refine wsr (oa rfl rfl (shO_nil ?_))
         refine kW kn ?_
         refine shW_ret (andThen_ret (inBlock_ret (andThen_ret (andThen_ret (inBlock_ret (andThen_ret ?_))))))
         refine q_res1 Try.results5 (res_tmp rfl) (sr) ?_
         obtain rfl := inj1 r178
         exact rfl
       have r179 := bf r166 c177; clear r166
       refine shW_skip (wsr (om rfl rfl ?_))
       refine ov ((v_lenS Try.underlying36 rfl).i (SlR.lenI hz148)) rfl ?_
       refine om rfl rfl (shO_nil ?_)
       refine shW_block ?_
       refine shW_lp (fun fu4 e1 F1 L1 => ∃ (tl3 : List Int) (k4 : Int), tl3.length = fu4 ∧ Lst l5 k4 tl3 ∧ oyezlaw01_HearWalled_l4 l6 (oyezlaw01_HearWalled_l2 n l n2 n3 l2 x n4 l3 tl2) tl3 k4 = some r ∧ F154 = F1 ∧ L1 = ((b75, .cells #[.int .i64 n4, .slice a68 n72 c69] 27 (0, 0)) :: ((b61, .cells #[.int .i64 x] 3 (0, 0)) :: ((b44, .cells #[.int .i64 n2, .int .i64 n3] 31 (0, 0)) :: ((b24, .cells #[.int .i64 n, .slice a17 n21 c18] 27 (0, 0)) :: (Lb19 ++ (Lb39 ++ (Lb70 ++ (Lb147 ++ (Lb160 ++ []))))))))) ∧ e1.sub [(6, .pointer (some ⟨b24, 0, none⟩)), (7, .pointer (some ⟨b44, 0, none⟩)), (8, .slice a37 n41 c38), (9, .pointer (some ⟨b61, 0, none⟩)), (10, .pointer (some ⟨b75, 0, none⟩)), (16, .slice a145 n149 c146), (18, .slice a158 n162 c159), (67, .slice a37 n41 c38), (68, .int .i64 (l2.length : Int)), (69, .int .i64 k2), (125, .int .i64 (l5.length : Int)), (126, .int .i64 k4)]) _ (m0 kr ⟨_, _, rfl, Lst.start _, r179, rfl, rfl, (sc rfl (sc rfl (sc rfl (sc rfl (sc rfl (sc rfl (sc rfl (sc rfl (sc rfl (sc rfl (sc rfl (sc rfl (sn _)))))))))))))⟩) ?_
       rintro fu4 e1 _ _ ⟨tl3, k4, hn181, hk180, r182, rfl, rfl, he183⟩
       refine shW_env _ he183 ?_; clear he183
       refine wsr ?_
       refine ov (v_lssK rfl rfl) rfl ?_
       refine shO_nil (shW_seq ?_)
       refine shW_condP rfl (fun c185 => ?_) (fun c185 => ?_)
       · obtain ⟨x4, tl4, rfl, hx187, g188, hk186⟩ := Lst.succ hk180 c185
         rw [oyezlaw01_HearWalled_l4] at r182
         refine shW_skip (shW_seq ?_)
         refine shW_block ?_
         refine wsr (om rfl rfl (oa rfl rfl (shO_nil ?_)))
         obtain ⟨k5, h189, r190⟩ := b1_ok r182; clear r182
         refine shW_join (fun e1 F1 L1 => F154 = F1 ∧ L1 = ((b75, .cells #[.int .i64 n4, .slice a68 n72 c69] 27 (0, 0)) :: ((b61, .cells #[.int .i64 x] 3 (0, 0)) :: ((b44, .cells #[.int .i64 n2, .int .i64 n3] 31 (0, 0)) :: ((b24, .cells #[.int .i64 n, .slice a17 n21 c18] 27 (0, 0)) :: (Lb19 ++ (Lb39 ++ (Lb70 ++ (Lb147 ++ (Lb160 ++ []))))))))) ∧ e1.sub [(6, .pointer (some ⟨b24, 0, none⟩)), (7, .pointer (some ⟨b44, 0, none⟩)), (8, .slice a37 n41 c38), (9, .pointer (some ⟨b61, 0, none⟩)), (10, .pointer (some ⟨b75, 0, none⟩)), (16, .slice a145 n149 c146), (18, .slice a158 n162 c159), (67, .slice a37 n41 c38), (68, .int .i64 (l2.length : Int)), (69, .int .i64 k2), (125, .int .i64 (l5.length : Int)), (126, .int .i64 k4), (151, .bool k5)]) ?_ ?_
         · clear r190
           refine shW_draw (by kernel_rfl) (by kernel_rfl) (by kernel_rfl) ?_
           refine qm rfl rfl (qm rfl rfl ?_)
           obtain ⟨x5, g191, hx192, r193⟩ := ix_ok h189; clear h189
           obtain ⟨b194, o195, c196, vs197, ha198, hs199, hle200, rfl, hl201, hc202⟩ := SlR.at (iE_ok _) hz161 (L := (b75, .cells #[.int .i64 n4, .slice a68 n72 c69] 27 (0, 0)) :: ((b61, .cells #[.int .i64 x] 3 (0, 0)) :: ((b44, .cells #[.int .i64 n2, .int .i64 n3] 31 (0, 0)) :: ((b24, .cells #[.int .i64 n, .slice a17 n21 c18] 27 (0, 0)) :: (Lb19 ++ (Lb39 ++ (Lb70 ++ (Lb147 ++ (Lb160 ++ []))))))))) (fC (fC (fC (fC (fS (fS (fS (fS fP)))))))) g191.1 hx192
           refine qv (v_indexO Try.underlying36 Try.sizeOf3 rfl ha198 rfl (SlR.idx hz161 g191)) rfl ?_
           refine qv (v_load Try.isAgg3 rfl hs199 (hc202 0 (by decide))) rfl ?_
           refine qv (v_neq rfl rfl) rfl ?_
           refine qm rfl rfl ?_
           by_cases c203 : x5 ≠ (-1)
           · have r204 := ite_t r193 c203; clear r193
             refine shQ_on (b := true) 134 rfl (Env.isT rfl c203) (qm rfl rfl (shQ_on (b := true) 134 rfl (Env.isT rfl c203) (qm rfl rfl (shQ_on (b := true) 134 rfl (Env.isT rfl c203) ?_))))
             obtain ⟨b205, o206, c207, vs208, ha209, hs210, hle211, rfl, hl212, hc213⟩ := SlR.at (iE_ok _) hz148 (L := (b75, .cells #[.int .i64 n4, .slice a68 n72 c69] 27 (0, 0)) :: ((b61, .cells #[.int .i64 x] 3 (0, 0)) :: ((b44, .cells #[.int .i64 n2, .int .i64 n3] 31 (0, 0)) :: ((b24, .cells #[.int .i64 n, .slice a17 n21 c18] 27 (0, 0)) :: (Lb19 ++ (Lb39 ++ (Lb70 ++ (Lb147 ++ (Lb160 ++ []))))))))) (fC (fC (fC (fC (fS (fS (fS fP))))))) g188.1 hx187
             refine qv (v_indexO Try.underlying36 Try.sizeOf3 rfl ha209 rfl (SlR.idx hz148 g188)) rfl ?_
             refine shQ_on (b := true) 134 rfl (Env.isT rfl c203) ?_
             refine qv (v_load Try.isAgg3 rfl hs210 (hc213 0 (by decide))) rfl ?_
             refine shQ_on (b := true) 134 rfl (Env.isT rfl c203) ?_
             refine qv (v_eql rfl rfl) rfl ?_
             refine shQ_on (b := true) 134 rfl (Env.isT rfl c203) (qm rfl rfl ?_)
             by_cases c214 : x4 = (-1)
             · have r215 := ite_t r204 c214; clear r204
               refine shQ_off (b' := true) 140 rfl (Env.isT rfl c214) rfl rfl (shQ_off (b' := true) 140 rfl (Env.isT rfl c214) rfl rfl (shQ_off (b' := true) 140 rfl (Env.isT rfl c214) rfl rfl (shQ_off (b' := true) 140 rfl (Env.isT rfl c214) rfl rfl (shQ_off (b' := true) 140 rfl (Env.isT rfl c214) rfl rfl (shQ_off (b' := true) 140 rfl (Env.isT rfl c214) rfl rfl (shQ_off (b' := true) 140 rfl (Env.isT rfl c214) rfl rfl (shQ_off (b' := true) 140 rfl (Env.isT rfl c214) rfl rfl (shQ_off (b' := true) 140 rfl (Env.isT rfl c214) rfl rfl (shQ_on (b := true) 134 rfl (Env.isT rfl c203) ?_)))))))))
               refine qv (v_pick_t (evD_true rfl c214) rfl) rfl ?_
               refine qv (v_pick_t (evD_true rfl c203) rfl) rfl ?_
               refine shQ_nil ?_
               obtain rfl := inj1 r215
               exact mi kr ⟨rfl, rfl, (sc rfl (sc rfl (sc rfl (sc rfl (sc rfl (sc rfl (sc rfl (sc rfl (sc rfl (sc rfl (sc rfl (sc rfl (sc rfl (sn _))))))))))))))⟩
             have r216 := ite_f r204 c214; clear r204
             refine shQ_on (b := false) 140 rfl (Env.isF rfl c214) (qm rfl rfl (shQ_on (b := false) 140 rfl (Env.isF rfl c214) (qm rfl rfl (shQ_on (b := false) 140 rfl (Env.isF rfl c214) ?_))))
             obtain ⟨b217, o218, c219, vs220, ha221, hs222, hle223, rfl, hl224, hc225⟩ := SlR.at (iE_ok _) hz161 (L := (b75, .cells #[.int .i64 n4, .slice a68 n72 c69] 27 (0, 0)) :: ((b61, .cells #[.int .i64 x] 3 (0, 0)) :: ((b44, .cells #[.int .i64 n2, .int .i64 n3] 31 (0, 0)) :: ((b24, .cells #[.int .i64 n, .slice a17 n21 c18] 27 (0, 0)) :: (Lb19 ++ (Lb39 ++ (Lb70 ++ (Lb147 ++ (Lb160 ++ []))))))))) (fC (fC (fC (fC (fS (fS (fS (fS fP)))))))) g191.1 hx192
             refine qv (v_indexO Try.underlying36 Try.sizeOf3 rfl ha221 rfl (SlR.idx hz161 g191)) rfl ?_
             refine shQ_on (b := false) 140 rfl (Env.isF rfl c214) ?_
             refine qv (v_load Try.isAgg3 rfl hs222 (hc225 0 (by decide))) rfl ?_
             refine shQ_on (b := false) 140 rfl (Env.isF rfl c214) (qm rfl rfl (shQ_on (b := false) 140 rfl (Env.isF rfl c214) (qm rfl rfl (shQ_on (b := false) 140 rfl (Env.isF rfl c214) ?_))))
             obtain ⟨b226, o227, c228, vs229, ha230, hs231, hle232, rfl, hl233, hc234⟩ := SlR.at (iE_ok _) hz148 (L := (b75, .cells #[.int .i64 n4, .slice a68 n72 c69] 27 (0, 0)) :: ((b61, .cells #[.int .i64 x] 3 (0, 0)) :: ((b44, .cells #[.int .i64 n2, .int .i64 n3] 31 (0, 0)) :: ((b24, .cells #[.int .i64 n, .slice a17 n21 c18] 27 (0, 0)) :: (Lb19 ++ (Lb39 ++ (Lb70 ++ (Lb147 ++ (Lb160 ++ []))))))))) (fC (fC (fC (fC (fS (fS (fS fP))))))) g188.1 hx187
             refine qv (v_indexO Try.underlying36 Try.sizeOf3 rfl ha230 rfl (SlR.idx hz148 g188)) rfl ?_
             refine shQ_on (b := false) 140 rfl (Env.isF rfl c214) ?_
             refine qv (v_load Try.isAgg3 rfl hs231 (hc234 0 (by decide))) rfl ?_
             refine shQ_on (b := false) 140 rfl (Env.isF rfl c214) ?_
             refine qv (v_lssK rfl rfl) rfl ?_
             refine shQ_on (b := true) 134 rfl (Env.isT rfl c203) ?_
             refine qv (v_pick_f (evD_false rfl c214) rfl) rfl ?_
             refine qv (v_pick_t (evD_true rfl c203) rfl) rfl ?_
             refine shQ_nil ?_
             obtain rfl := inj1 r216
             exact mi kr ⟨rfl, rfl, (sc rfl (sc rfl (sc rfl (sc rfl (sc rfl (sc rfl (sc rfl (sc rfl (sc rfl (sc rfl (sc rfl (sc rfl (sc rfl (sn _))))))))))))))⟩
           have r235 := ite_f r193 c203; clear r193
           refine shQ_off (b' := false) 134 rfl (Env.isF rfl c203) rfl rfl (shQ_off (b' := false) 134 rfl (Env.isF rfl c203) rfl rfl (shQ_off (b' := false) 134 rfl (Env.isF rfl c203) rfl rfl (shQ_off (b' := false) 134 rfl (Env.isF rfl c203) rfl rfl (shQ_off (b' := false) 134 rfl (Env.isF rfl c203) rfl rfl (shQ_off (b' := false) 134 rfl (Env.isF rfl c203) rfl rfl (shQ_offU 140 rfl rfl rfl (shQ_offU 140 rfl rfl rfl (shQ_offU 140 rfl rfl rfl (shQ_offU 140 rfl rfl rfl ?_)))))))))
           refine shQ_offU 140 rfl rfl rfl (shQ_offU 140 rfl rfl rfl (shQ_offU 140 rfl rfl rfl (shQ_offU 140 rfl rfl rfl (shQ_offU 140 rfl rfl rfl (shQ_off (b' := false) 134 rfl (Env.isF rfl c203) rfl rfl ?_)))))
           refine qv (v_pick_f (evD_false rfl c203) rfl) rfl ?_
           refine shQ_nil ?_
           obtain rfl := inj1 r235
           exact mi kr ⟨rfl, rfl, (sc rfl (sc rfl (sc rfl (sc rfl (sc rfl (sc rfl (sc rfl (sc rfl (sc rfl (sc rfl (sc rfl (sc rfl (sc rfl (sn _))))))))))))))⟩
         rintro e1 _ _ ⟨rfl, rfl, he236⟩
         refine shW_env _ he236 ?_; clear he236
         refine shW_cond rfl (fun c237 => ?_) (fun c237 => ?_)
         · have r238 := bt r190 c237; clear r190
           refine wsr (oa rfl rfl (shO_nil ?_))
           refine kW kn ?_
           refine shW_ret (inBlock_ret (andThen_ret (andThen_ret (inBlock_ret (inBlock_ret (andThen_ret (andThen_ret (inBlock_ret (andThen_ret ?_)))))))))
           refine q_res1 Try.results5 (res_tmp rfl) (sr) ?_
           obtain rfl := inj1 r238
           exact rfl
         have r239 := bf r190 c237; clear r190
         refine shW_skip (inBlock_n (id := 3) (shW_region ?_))
         refine ov (v_add rfl rfl (Lst.r64 hk180 c185 (SlR.llt hz148))) rfl ?_
         refine om rfl rfl (shO_nil ?_)
         subst hn181; exact le kr ⟨_, _, rfl, hk186, r239, rfl, rfl, (sc rfl (sc rfl (sc rfl (sc rfl (sc rfl (sc rfl (sc rfl (sc rfl (sc rfl (sc rfl (sc rfl (sc rfl (sn _)))))))))))))⟩
       obtain rfl := Lst.zero hk180 c185
       rw [oyezlaw01_HearWalled_l4] at r182
       refine shW_exit (andThen_exit (andThen_exit ?_))
       refine inBlock_exit ?_
       refine inBlock_n (id := 1) ?_
       exact mi (kc (kc (kc (kc (ka (ka (ka kn))))))) ⟨r182, (hF142.trans hF155), rfl, (sc rfl (sc rfl (sc rfl (sc rfl (sc rfl (sc rfl (sc rfl (sc rfl (sn _)))))))))⟩
     rintro e1 F242 _ ⟨r240, hF243, rfl, he241⟩
     refine shW_env _ he241 ?_; clear he241
     replace hz40 := hz40.mono (iE_ok _) hF243
     rw [oyezlaw01_HearWalled_j3] at r240
     refine shW_region ?_
     refine ov (v_add rfl rfl (Lst.r64 hk100 c107 (SlR.llt hz40))) rfl ?_
     refine om rfl rfl (shO_nil ?_)
     subst hn101; exact le kr ⟨_, _, rfl, hk108, r240, (hF105.trans hF243), rfl, (sc rfl (sc rfl (sc rfl (sc rfl (sc rfl (sc rfl (sc rfl (sc rfl (sn _)))))))))⟩
   obtain rfl := Lst.zero hk100 c107
   rw [oyezlaw01_HearWalled_l2] at r102
   refine shW_exit (andThen_exit (andThen_exit ?_))
   refine inBlock_exit ?_
   exact mi (kd (kc (kc (kc (ka (ka kn)))))) ⟨r102, hF105, rfl, (sc rfl (sc rfl (sc rfl (sc rfl (sn _)))))⟩
 rintro e1 F246 _ ⟨r244, hF247, rfl, he245⟩
 refine shW_env _ he245 ?_; clear he245
 replace hz20 := hz20.mono (iE_ok _) hF247
 replace hz40 := hz40.mono (iE_ok _) hF247
 rw [oyezlaw01_HearWalled_j1] at r244
 refine shW_seq ?_
 refine shW_drawM [(.still, 0), (.still, 1), (.still, 2), (.seq, 3), (.seq, 4), (.still, 5), (.still, 6), (.still, 7), (.still, 8), (.still, 9)] (by kernel_rfl) (by kernel_rfl) (trivial) (by rfl) (by kernel_rfl) ?_
 refine shM_v (v := .agg #[.int .i64 n, .slice a17 n21 c18]) (ek := [(6, .pointer (some ⟨b24, 0, none⟩))]) (Ls := [(b24, .cells #[.int .i64 n, .slice a17 n21 c18] 27 (0, 0))]) rfl rfl rfl rfl ((sc rfl (sn _))) (by kernel_rfl) (s0 (s1 (s1 (s2 (s3 (s3 sr)))))) (fun H F' L' hF' hL' => v_loadA (cs := #[.int .i64 n, .slice a17 n21 c18]) Try.isAgg27 Try.sizeOf27 rfl ((Has.own 0 rfl).ext hF' hL') (Nat.le_of_ble_eq_true rfl) rfl) ?_
 refine shM_v (v := .agg #[.int .i64 n2, .int .i64 n3]) (ek := [(7, .pointer (some ⟨b44, 0, none⟩))]) (Ls := [(b44, .cells #[.int .i64 n2, .int .i64 n3] 31 (0, 0))]) rfl rfl rfl rfl ((sc rfl (sn _))) (by kernel_rfl) (s0 (s1 (s2 (s1 (s3 (s3 sr)))))) (fun H F' L' hF' hL' => v_loadA (cs := #[.int .i64 n2, .int .i64 n3]) Try.isAgg31 Try.sizeOf31 rfl ((Has.own 0 rfl).ext hF' hL') (Nat.le_of_ble_eq_true rfl) rfl) ?_
 refine shM_v (v := .agg #[.int .i64 n, .slice a17 n21 c18]) (ek := [(6, .pointer (some ⟨b24, 0, none⟩))]) (Ls := [(b24, .cells #[.int .i64 n, .slice a17 n21 c18] 27 (0, 0))]) rfl rfl rfl rfl ((sc rfl (sn _))) (by kernel_rfl) (s0 (s1 (s1 (s2 (s3 (s3 sr)))))) (fun H F' L' hF' hL' => v_loadA (cs := #[.int .i64 n, .slice a17 n21 c18]) Try.isAgg27 Try.sizeOf27 rfl ((Has.own 0 rfl).ext hF' hL') (Nat.le_of_ble_eq_true rfl) rfl) ?_
 refine ⟨_, [(157, .agg #[.int .i64 n, .slice a17 n21 c18])], rfl, rfl, (sc rfl (sn _)), by kernel_rfl, ?_⟩; intro H
 obtain ⟨l7, h248, r249⟩ := b1_ok r244; clear r244
 refine o_callTO (Lb := []) (Lt := Lb19 ++ []) (Lr := (b61, .cells #[.int .i64 x] 3 (0, 0)) :: ((b44, .cells #[.int .i64 n2, .int .i64 n3] 31 (0, 0)) :: ((b24, .cells #[.int .i64 n, .slice a17 n21 c18] 27 (0, 0)) :: (Lb39 ++ [])))) rfl Try.call14 rfl rfl rfl (pT ((fC (fC (fC fP))).trans (pA pR)) (ln (lp (ln rfl)))) (fun F2 h2 h3 => by rw [(SlR.caps hz20).1]; exact oyezlaw01_houses_w (hz20.row (iE_ok _) h2 (fun p hp => h3 p (List.mem_append_left _ hp))) h248) (fun _ _ _ _ hq => by obtain ⟨a254, n258, c255, Lb256, rfl, rfl, hz257⟩ := hq; exact ⟨_, _, _, _, rfl, rfl, hz257.flat (fun _ _ h => h)⟩) ?_; rintro _ F250 _ hF251 hd253 hn252 ⟨a254, n258, c255, Lb256, rfl, rfl, hz257⟩
 replace hz20 := hz20.mono (iE_ok _) hF251
 replace hz40 := hz40.mono (iE_ok _) hF251
 have hn260 := newp (Lb' := []) (by rfl) hd253 hn252
 replace hz257 := hz257.new fun p hp => hn260 p (by simp [hp])
 refine shO_L (lp (ln (lp (ln rfl)))) ?_
 refine kO (kf (fS (fS fO)) (kf (fS (fS fO)) (kf (fS (fS fO)) kr))) ?_
 refine shO_nil ⟨_, rfl, hF251, [1, 0], by kernel_rfl, .inl (.inr (fun d h => by cases h; rfl)), (List.forall_mem_cons.2 ⟨s0 (s1 (s2 (s1 (s3 (s3 (s3 sr)))))), (List.forall_mem_cons.2 ⟨s0 (s1 (s1 (s2 (s3 (s3 (s3 sr)))))), (fun _ h => absurd h List.not_mem_nil)⟩)⟩), ?_⟩
 refine ⟨_, [(155, .agg #[.int .i64 n, .slice a17 n21 c18]), (156, .agg #[.int .i64 n2, .int .i64 n3]), (158, .slice a254 n258 c255)], rfl, rfl, (sc rfl (sc rfl (sc rfl (sn _)))), by kernel_rfl, ?_⟩; intro H
 obtain ⟨l8, n9, h261, r262⟩ := b2_ok r249; clear r249
 refine o_callTO (Lb := []) (Lt := Lb19 ++ (Lb256 ++ [])) (Lr := (b61, .cells #[.int .i64 x] 3 (0, 0)) :: ((b44, .cells #[.int .i64 n2, .int .i64 n3] 31 (0, 0)) :: ((b24, .cells #[.int .i64 n, .slice a17 n21 c18] 27 (0, 0)) :: (Lb39 ++ [])))) rfl Try.call30 rfl rfl rfl (pT ((fC (fC (fC (fS fP)))).trans (pA ((fC (fC (fC fP))).trans (pA pR)))) (ln (lp (lp (ln rfl))))) (fun F2 h2 h3 => by rw [(SlR.caps hz20).1]; rw [(SlR.caps hz257).1]; exact hear_Must_w (hz20.row (iE_ok _) h2 (fun p hp => h3 p (List.mem_append_left _ hp))) (hz257.row (iE_ok _) h2 (fun p hp => h3 p (List.mem_append_right _ (List.mem_append_left _ hp)))) h261) (fun _ _ _ _ hq => by obtain ⟨a267, n271, c268, Lb269, rfl, rfl, hz270⟩ := hq; exact ⟨_, _, _, _, rfl, rfl, hz270.flat (fun _ _ h => h)⟩) ?_; rintro _ F263 _ hF264 hd266 hn265 ⟨a267, n271, c268, Lb269, rfl, rfl, hz270⟩
 replace hz20 := hz20.mono (iE_ok _) hF264
 replace hz40 := hz40.mono (iE_ok _) hF264
 have hn273 := newp (Lb' := []) (by rfl) hd266 hn265
 replace hz270 := hz270.new fun p hp => hn273 p (by simp [hp])
 refine shO_L (lp (ln (lp (lp (ln rfl))))) ?_
 refine kO (kf (fS (fS (fS fO))) (kf (fS (fS (fS fO))) (kf (fS (fS (fS fO))) kr))) ?_
 refine shO_nil ⟨_, rfl, hF264, [], by kernel_rfl, .inl (.inl rfl), (fun _ h => absurd h List.not_mem_nil), ?_⟩
 refine shM_v (v := .tuple #[.slice a267 n271 c268, .int .i64 n9]) (ek := [(159, .tuple #[.slice a267 n271 c268, .int .i64 n9])]) (Ls := []) rfl rfl rfl rfl ((sc rfl (sn _))) (by kernel_rfl) sm (fun H F' L' hF' hL' => v_move rfl) ?_
 refine shM_v (v := .slice a267 n271 c268) (ek := [(154, .tuple #[.slice a267 n271 c268, .int .i64 n9])]) (Ls := []) rfl rfl rfl rfl ((sc rfl (sn _))) (by kernel_rfl) sm (fun H F' L' hF' hL' => v_extract rfl rfl) ?_
 refine shM_v (v := .int .i64 n9) (ek := [(154, .tuple #[.slice a267 n271 c268, .int .i64 n9])]) (Ls := []) rfl rfl rfl rfl ((sc rfl (sn _))) (by kernel_rfl) sm (fun H F' L' hF' hL' => v_extract rfl rfl) ?_
 refine shM_v (v := .slice a267 n271 c268) (ek := [(160, .slice a267 n271 c268)]) (Ls := []) rfl rfl rfl rfl ((sc rfl (sn _))) (by kernel_rfl) sm (fun H F' L' hF' hL' => v_assign rfl) ?_
 refine shM_v (v := .int .i64 n9) (ek := [(161, .int .i64 n9)]) (Ls := []) rfl rfl rfl rfl ((sc rfl (sn _))) (by kernel_rfl) sm (fun H F' L' hF' hL' => v_assign rfl) ?_
 refine shM_nil ?_
 refine wsr ?_
 refine ov (v_loadA (cs := #[.int .i64 n, .slice a17 n21 c18]) Try.isAgg27 Try.sizeOf27 rfl (Has.own 2 rfl) (Nat.le_of_ble_eq_true rfl) rfl) rfl ?_
 refine ov (v_loadA (cs := #[.int .i64 n2, .int .i64 n3]) Try.isAgg31 Try.sizeOf31 rfl (Has.own 1 rfl) (Nat.le_of_ble_eq_true rfl) rfl) rfl ?_
 obtain ⟨l9, n10, h274, r275⟩ := b2_ok r262; clear r262
 refine o_callTO (Lb := []) (Lt := Lb19 ++ []) (Lr := (b61, .cells #[.int .i64 x] 3 (0, 0)) :: ((b44, .cells #[.int .i64 n2, .int .i64 n3] 31 (0, 0)) :: ((b24, .cells #[.int .i64 n, .slice a17 n21 c18] 27 (0, 0)) :: (Lb269 ++ (Lb256 ++ (Lb39 ++ [])))))) rfl Try.call31 rfl rfl rfl (pT ((fC (fC (fC (fS fP)))).trans (pA pR)) (ln (lp (ln rfl)))) (fun F2 h2 h3 => by rw [(SlR.caps hz20).1]; exact hear_Deaf_w (hz20.row (iE_ok _) h2 (fun p hp => h3 p (List.mem_append_left _ hp))) h274) (fun _ _ _ _ hq => by obtain ⟨a280, n284, c281, Lb282, rfl, rfl, hz283⟩ := hq; exact ⟨_, _, _, _, rfl, rfl, hz283.flat (fun _ _ h => h)⟩) ?_; rintro _ F276 _ hF277 hd279 hn278 ⟨a280, n284, c281, Lb282, rfl, rfl, hz283⟩
 replace hz20 := hz20.mono (iE_ok _) hF277
 replace hz40 := hz40.mono (iE_ok _) hF277
 replace hz270 := hz270.mono (iE_ok _) hF277
 have hn286 := newp (Lb' := []) (by rfl) hd279 hn278
 replace hz283 := hz283.new fun p hp => hn286 p (by simp [hp])
 refine shO_L (lp (ln (lp (ln rfl)))) ?_
 refine kO (kf (fS (fS fO)) (kf (fS (fS fO)) (kf (fS (fS fO)) kr))) ?_
 refine om rfl rfl (ox rfl rfl rfl (ox rfl rfl rfl (oa rfl rfl (oa rfl rfl (shO_nil (shW_seq ?_))))))
 obtain ⟨k6, h287, r288⟩ := b1_ok r275; clear r275
 refine shW_join (fun e1 F1 L1 => F276 = F1 ∧ L1 = ((b61, .cells #[.int .i64 x] 3 (0, 0)) :: ((b44, .cells #[.int .i64 n2, .int .i64 n3] 31 (0, 0)) :: ((b24, .cells #[.int .i64 n, .slice a17 n21 c18] 27 (0, 0)) :: (Lb19 ++ (Lb39 ++ (Lb269 ++ [])))))) ∧ e1.sub [(6, .pointer (some ⟨b24, 0, none⟩)), (7, .pointer (some ⟨b44, 0, none⟩)), (8, .slice a37 n41 c38), (9, .pointer (some ⟨b61, 0, none⟩)), (11, .int .i64 n9), (21, .slice a267 n271 c268), (177, .bool k6)]) ?_ ?_
 · clear r288
   refine shW_region (om rfl rfl ?_)
   refine ov (v_neq rfl rfl) rfl ?_
   refine om rfl rfl ?_
   by_cases c289 : n10 ≠ 0
   · have r290 := ite_t h287 c289; clear h287
     refine shO_off (b' := true) 170 rfl (Env.isT rfl c289) rfl rfl (shO_off (b' := true) 170 rfl (Env.isT rfl c289) rfl rfl (shO_off (b' := true) 170 rfl (Env.isT rfl c289) rfl rfl (shO_off (b' := true) 170 rfl (Env.isT rfl c289) rfl rfl (shO_off (b' := true) 170 rfl (Env.isT rfl c289) rfl rfl (shO_off (b' := true) 170 rfl (Env.isT rfl c289) rfl rfl ?_)))))
     refine ov (v_pick_t (evD_true rfl c289) rfl) rfl ?_
     refine shO_nil ?_
     obtain rfl := inj1 r290
     exact mi (kc (kc (kc (kx (ka (kg (fS (fS fP)) (ka kn))))))) ⟨rfl, rfl, (sc rfl (sc rfl (sc rfl (sc rfl (sc rfl (sc rfl (sc rfl (sn _))))))))⟩
   have r291 := ite_f h287 c289; clear h287
   refine shO_on (b := false) 170 rfl (Env.isF rfl c289) (om rfl rfl (shO_on (b := false) 170 rfl (Env.isF rfl c289) ?_))
   refine ov (v_eql rfl rfl) rfl ?_
   refine shO_on (b := false) 170 rfl (Env.isF rfl c289) (om rfl rfl (shO_on (b := false) 170 rfl (Env.isF rfl c289) ?_))
   refine ov ((v_lenS Try.underlying36 rfl).i (SlR.lenI hz283)) rfl ?_
   refine shO_on (b := false) 170 rfl (Env.isF rfl c289) ?_
   refine ov (v_eql rfl rfl) rfl ?_
   refine shO_on (b := false) 170 rfl (Env.isF rfl c289) ?_
   refine ov (v_neqB Try.underlying4 rfl rfl) rfl ?_
   refine ov (v_pick_f (evD_false rfl c289) rfl) rfl ?_
   refine shO_nil ?_
   obtain rfl := inj1 r291
   exact mi (kc (kc (kc (kx (ka (kg (fS (fS fP)) (ka kn))))))) ⟨rfl, rfl, (sc rfl (sc rfl (sc rfl (sc rfl (sc rfl (sc rfl (sc rfl (sn _))))))))⟩
 rintro e1 _ _ ⟨rfl, rfl, he292⟩
 refine shW_env _ he292 ?_; clear he292
 refine shW_cond rfl (fun c293 => ?_) (fun c293 => ?_)
 · have r294 := bt r288 c293; clear r288
   refine wsr (oa rfl rfl (shO_nil ?_))
   refine kW kn ?_
   refine shW_ret (andThen_ret ?_)
   refine q_res1 Try.results5 (res_tmp rfl) (sr) ?_
   obtain rfl := inj1 r294
   exact rfl
 have r295 := bf r288 c293; clear r288
 refine shW_skip (shW_seq (wsr (om rfl rfl ?_)))
 refine ov (v_neq rfl rfl) rfl ?_
 refine shO_nil ?_
 refine shW_condP rfl (fun c296 => ?_) (fun c296 => ?_)
 · have r297 := ite_t r295 c296; clear r295
   refine wsr (om rfl rfl ?_)
   refine ov (v_eql rfl rfl) rfl ?_
   refine om rfl rfl ?_
   by_cases c298 : n9 = 6
   · have r299 := ite_t r297 c298; clear r297
     refine shO_on (b := true) 182 rfl (Env.isT rfl c298) ?_
     obtain ⟨ok, h300, r301⟩ := b1_ok r299; clear r299
     refine o_callV rfl Try.call18 rfl rfl rfl (oyezlaw01_awake_w h300) ?_
     refine ov (v_pick_t (evD_true rfl c298) rfl) rfl ?_
     refine oa rfl rfl (shO_nil ?_)
     refine kW kn ?_
     refine shW_ret (andThen_ret ?_)
     refine q_res1 Try.results5 (res_tmp rfl) (sr) ?_
     obtain rfl := inj1 r301
     exact rfl
   have r302 := ite_f r297 c298; clear r297
   refine shO_off (b' := false) 182 rfl (Env.isF rfl c298) rfl rfl ?_
   refine ov (v_pick_f (evD_false rfl c298) rfl) rfl ?_
   refine oa rfl rfl (shO_nil ?_)
   refine kW kn ?_
   refine shW_ret (andThen_ret ?_)
   refine q_res1 Try.results5 (res_tmp rfl) (sr) ?_
   obtain rfl := inj1 r302
   exact rfl
 have r303 := ite_f r295 c296; clear r295
 refine shW_skip (shW_seq ?_)
 refine shW_drawM [(.still, 0), (.still, 1), (.still, 2), (.still, 4), (.still, 6), (.seq, 3), (.seq, 5), (.seq, 7), (.seq, 8), (.still, 9), (.still, 10), (.still, 11), (.still, 12), (.still, 13)] (by kernel_rfl) (by kernel_rfl) (trivial) (by rfl) (by kernel_rfl) ?_
 refine shM_v (v := .agg #[.int .i64 n, .slice a17 n21 c18]) (ek := [(6, .pointer (some ⟨b24, 0, none⟩))]) (Ls := [(b24, .cells #[.int .i64 n, .slice a17 n21 c18] 27 (0, 0))]) rfl rfl rfl rfl ((sc rfl (sn _))) (by kernel_rfl) (s0 (s1 (s1 (s2 (s3 (s3 (s3 sr))))))) (fun H F' L' hF' hL' => v_loadA (cs := #[.int .i64 n, .slice a17 n21 c18]) Try.isAgg27 Try.sizeOf27 rfl ((Has.own 0 rfl).ext hF' hL') (Nat.le_of_ble_eq_true rfl) rfl) ?_
 refine shM_v (v := .agg #[.int .i64 n2, .int .i64 n3]) (ek := [(7, .pointer (some ⟨b44, 0, none⟩))]) (Ls := [(b44, .cells #[.int .i64 n2, .int .i64 n3] 31 (0, 0))]) rfl rfl rfl rfl ((sc rfl (sn _))) (by kernel_rfl) (s0 (s1 (s2 (s1 (s3 (s3 (s3 sr))))))) (fun H F' L' hF' hL' => v_loadA (cs := #[.int .i64 n2, .int .i64 n3]) Try.isAgg31 Try.sizeOf31 rfl ((Has.own 0 rfl).ext hF' hL') (Nat.le_of_ble_eq_true rfl) rfl) ?_
 refine shM_v (v := .agg #[.int .i64 n, .slice a17 n21 c18]) (ek := [(6, .pointer (some ⟨b24, 0, none⟩))]) (Ls := [(b24, .cells #[.int .i64 n, .slice a17 n21 c18] 27 (0, 0))]) rfl rfl rfl rfl ((sc rfl (sn _))) (by kernel_rfl) (s0 (s1 (s1 (s2 (s3 (s3 (s3 sr))))))) (fun H F' L' hF' hL' => v_loadA (cs := #[.int .i64 n, .slice a17 n21 c18]) Try.isAgg27 Try.sizeOf27 rfl ((Has.own 0 rfl).ext hF' hL') (Nat.le_of_ble_eq_true rfl) rfl) ?_
 refine shM_v (v := .slice a37 n41 c38) (ek := [(8, .slice a37 n41 c38)]) (Ls := []) rfl rfl rfl rfl ((sc rfl (sn _))) (by kernel_rfl) sm (fun H F' L' hF' hL' => v_move rfl) ?_
 refine shM_v (v := .func (.func 34) #[] #[.pointer (some ⟨b61, 0, none⟩)]) (ek := [(9, .pointer (some ⟨b61, 0, none⟩))]) (Ls := []) rfl rfl rfl rfl ((sc rfl (sn _))) (by kernel_rfl) sm (fun H F' L' hF' hL' => v_makeFunc rfl rfl) ?_
 refine ⟨_, [(188, .agg #[.int .i64 n, .slice a17 n21 c18])], rfl, rfl, (sc rfl (sn _)), by kernel_rfl, ?_⟩; intro H
 obtain ⟨l10, h304, r305⟩ := b1_ok r303; clear r303
 refine o_callTO (Lb := []) (Lt := Lb19 ++ []) (Lr := (b61, .cells #[.int .i64 x] 3 (0, 0)) :: ((b44, .cells #[.int .i64 n2, .int .i64 n3] 31 (0, 0)) :: ((b24, .cells #[.int .i64 n, .slice a17 n21 c18] 27 (0, 0)) :: (Lb39 ++ (Lb269 ++ []))))) rfl Try.call14 rfl rfl rfl (pT ((fC (fC (fC fP))).trans (pA pR)) (ln (lp (ln rfl)))) (fun F2 h2 h3 => by rw [(SlR.caps hz20).1]; exact oyezlaw01_houses_w (hz20.row (iE_ok _) h2 (fun p hp => h3 p (List.mem_append_left _ hp))) h304) (fun _ _ _ _ hq => by obtain ⟨a310, n314, c311, Lb312, rfl, rfl, hz313⟩ := hq; exact ⟨_, _, _, _, rfl, rfl, hz313.flat (fun _ _ h => h)⟩) ?_; rintro _ F306 _ hF307 hd309 hn308 ⟨a310, n314, c311, Lb312, rfl, rfl, hz313⟩
 replace hz20 := hz20.mono (iE_ok _) hF307
 replace hz40 := hz40.mono (iE_ok _) hF307
 replace hz270 := hz270.mono (iE_ok _) hF307
 have hn316 := newp (Lb' := []) (by rfl) hd309 hn308
 replace hz313 := hz313.new fun p hp => hn316 p (by simp [hp])
 refine shO_L (lp (ln (lp (ln rfl)))) ?_
 refine kO (kf (fS (fS fO)) (kf (fS (fS fO)) (kf (fS (fS fO)) kr))) ?_
 refine shO_nil ⟨_, rfl, hF307, [6, 4, 1, 0], by kernel_rfl, .inl (.inr (fun d h => by cases h; rfl)), (List.forall_mem_cons.2 ⟨sm, (List.forall_mem_cons.2 ⟨sm, (List.forall_mem_cons.2 ⟨s0 (s1 (s2 (s1 (s3 (s3 (s3 (s3 sr))))))), (List.forall_mem_cons.2 ⟨s0 (s1 (s1 (s2 (s3 (s3 (s3 (s3 sr))))))), (fun _ h => absurd h List.not_mem_nil)⟩)⟩)⟩)⟩), ?_⟩
 refine ⟨_, [(190, .slice a37 n41 c38)], rfl, rfl, (sc rfl (sn _)), by kernel_rfl, ?_⟩; intro H
 obtain ⟨l11, h317, r318⟩ := b1_ok r305; clear r305
 refine o_callTO (Lb := []) (Lt := Lb39 ++ []) (Lr := (b61, .cells #[.int .i64 x] 3 (0, 0)) :: ((b44, .cells #[.int .i64 n2, .int .i64 n3] 31 (0, 0)) :: ((b24, .cells #[.int .i64 n, .slice a17 n21 c18] 27 (0, 0)) :: (Lb312 ++ (Lb19 ++ (Lb269 ++ [])))))) rfl Try.call33 rfl rfl rfl (pT ((fC (fC (fC (fS (fS fP))))).trans (pA pR)) (ln (lp (ln rfl)))) (fun F2 h2 h3 => by rw [(SlR.caps hz40).1]; exact oyezkit_Copy_int_w (hz40.row (iE_ok _) h2 (fun p hp => h3 p (List.mem_append_left _ hp))) h317) (fun _ _ _ _ hq => by obtain ⟨a323, n327, c324, Lb325, rfl, rfl, hz326⟩ := hq; exact ⟨_, _, _, _, rfl, rfl, hz326.flat (fun _ _ h => h)⟩) ?_; rintro _ F319 _ hF320 hd322 hn321 ⟨a323, n327, c324, Lb325, rfl, rfl, hz326⟩
 replace hz20 := hz20.mono (iE_ok _) hF320
 replace hz270 := hz270.mono (iE_ok _) hF320
 replace hz313 := hz313.mono (iE_ok _) hF320
 have hn329 := newp (Lb' := []) (by rfl) hd322 hn321
 replace hz326 := hz326.new fun p hp => hn329 p (by simp [hp])
 refine shO_L (lp (ln (lp (ln rfl)))) ?_
 refine kO (kf (fS (fS fO)) (kf (fS (fS fO)) (kf (fS (fS fO)) kr))) ?_
 refine shO_nil ⟨_, rfl, hF320, [6, 1, 0], by kernel_rfl, .inl (.inr (fun d h => by cases h; rfl)), (List.forall_mem_cons.2 ⟨sm, (List.forall_mem_cons.2 ⟨s0 (s1 (s2 (s1 (s3 (s3 (s3 (s3 (s3 sr)))))))), (List.forall_mem_cons.2 ⟨s0 (s1 (s1 (s2 (s3 (s3 (s3 (s3 (s3 sr)))))))), (fun _ h => absurd h List.not_mem_nil)⟩)⟩)⟩), ?_⟩
 refine ⟨_, [(191, .slice a323 n327 c324), (192, .func (.func 34) #[] #[.pointer (some ⟨b61, 0, none⟩)])], rfl, rfl, (sc rfl (sc rfl (sn _))), by kernel_rfl, ?_⟩; intro H
 refine shO_freeze 0 rfl hb61 ?_; intro F330 hF331 hz332
 refine shO_L (L' := (b44, .cells #[.int .i64 n2, .int .i64 n3] 31 (0, 0)) :: ((b24, .cells #[.int .i64 n, .slice a17 n21 c18] 27 (0, 0)) :: (Lb325 ++ (Lb39 ++ (Lb312 ++ (Lb19 ++ (Lb269 ++ []))))))) rfl ?_
 replace hz20 := hz20.mono (iE_ok _) hF331
 replace hz270 := hz270.mono (iE_ok _) hF331
 replace hz313 := hz313.mono (iE_ok _) hF331
 replace hz326 := hz326.mono (iE_ok _) hF331
 have hn333 : FnR Try.prog F330 34 #[] #[.pointer (some ⟨b61, 0, none⟩)] (iE .i64) Value.bool (fun xx_ : Int => oyezlaw01_HearWalled_1 xx_ x) := ⟨Try.call34, fun F2 h2 vs xx_ r ha hr => by obtain rfl := ha; exact oyezlaw01_HearWalled_1_w (h2 _ _ hz332) hr⟩
 obtain ⟨l12, h334, r335⟩ := b1_ok r318; clear r318
 refine o_callG (Lb := Lb325 ++ []) (Lr := (b44, .cells #[.int .i64 n2, .int .i64 n3] 31 (0, 0)) :: ((b24, .cells #[.int .i64 n, .slice a17 n21 c18] 27 (0, 0)) :: (Lb39 ++ (Lb312 ++ (Lb19 ++ (Lb269 ++ [])))))) rfl Try.call32 rfl rfl rfl (pT ((fC (fC fP)).trans (pA pR)) (lp (ln rfl))) (slices_DeleteFunc_int_int_w hz326 hn333 h334) ?_; rintro _ F336 _ hF337 hd339 hn338 ⟨a340, n344, c341, Lb342, rfl, rfl, hz343⟩
 replace hz20 := hz20.mono (iE_ok _) hF337
 replace hz270 := hz270.mono (iE_ok _) hF337
 replace hz313 := hz313.mono (iE_ok _) hF337
 replace hz332 := hF337 _ _ hz332
 refine shO_L (lp (ln rfl)) ?_
 refine kO (kf (fS fO) (kf (fS fO) kr)) ?_
 refine shO_nil ⟨_, rfl, (hF331.trans hF337), [1, 0], by kernel_rfl, .inl (.inr (fun d h => by cases h; rfl)), (List.forall_mem_cons.2 ⟨s0 (s2 (s1 (s3 (s3 (s3 (s3 (s3 sr))))))), (List.forall_mem_cons.2 ⟨s0 (s1 (s2 (s3 (s3 (s3 (s3 (s3 sr))))))), (fun _ h => absurd h List.not_mem_nil)⟩)⟩), ?_⟩
 refine ⟨_, [(186, .agg #[.int .i64 n, .slice a17 n21 c18]), (187, .agg #[.int .i64 n2, .int .i64 n3]), (189, .slice a310 n314 c311), (193, .slice a340 n344 c341)], rfl, rfl, (sc rfl (sc rfl (sc rfl (sc rfl (sn _))))), by kernel_rfl, ?_⟩; intro H
 obtain ⟨n11, ok2, h346, r347⟩ := b2_ok r335; clear r335
 refine o_callT (Lt := Lb19 ++ (Lb312 ++ (Lb342 ++ []))) (Lr := (b44, .cells #[.int .i64 n2, .int .i64 n3] 31 (0, 0)) :: ((b24, .cells #[.int .i64 n, .slice a17 n21 c18] 27 (0, 0)) :: (Lb39 ++ (Lb269 ++ [])))) rfl Try.call25 rfl rfl rfl (pT ((fC (fC (fS (fS (fS fP))))).trans (pA ((fC (fC (fS (fS fP)))).trans (pA ((fC (fC fP)).trans (pA pR)))))) (lp (lp (lp (ln rfl))))) (fun F2 h2 h3 => by rw [(SlR.caps hz20).1]; rw [(SlR.caps hz313).1]; rw [(SlR.caps hz343).1]; exact oyezlaw01_served_w (hz20.row (iE_ok _) h2 (fun p hp => h3 p (List.mem_append_left _ hp))) (hz313.row (iE_ok _) h2 (fun p hp => h3 p (List.mem_append_right _ (List.mem_append_left _ hp)))) (hz343.row (iE_ok _) h2 (fun p hp => h3 p (List.mem_append_right _ (List.mem_append_right _ (List.mem_append_left _ hp))))) h346) ?_
 refine shO_nil ⟨_, rfl, FExt.refl _, [], by kernel_rfl, .inl (.inl rfl), (fun _ h => absurd h List.not_mem_nil), ?_⟩
 refine shM_v (v := .tuple #[.int .i64 n11, .bool ok2]) (ek := [(194, .tuple #[.int .i64 n11, .bool ok2])]) (Ls := []) rfl rfl rfl rfl ((sc rfl (sn _))) (by kernel_rfl) sm (fun H F' L' hF' hL' => v_move rfl) ?_
 refine shM_v (v := .int .i64 n11) (ek := [(185, .tuple #[.int .i64 n11, .bool ok2])]) (Ls := []) rfl rfl rfl rfl ((sc rfl (sn _))) (by kernel_rfl) sm (fun H F' L' hF' hL' => v_extract rfl rfl) ?_
 refine shM_v (v := .bool ok2) (ek := [(185, .tuple #[.int .i64 n11, .bool ok2])]) (Ls := []) rfl rfl rfl rfl ((sc rfl (sn _))) (by kernel_rfl) sm (fun H F' L' hF' hL' => v_extract rfl rfl) ?_
 refine shM_v (v := .int .i64 n11) (ek := [(195, .int .i64 n11)]) (Ls := []) rfl rfl rfl rfl ((sc rfl (sn _))) (by kernel_rfl) sm (fun H F' L' hF' hL' => v_assign rfl) ?_
 refine shM_v (v := .bool ok2) (ek := [(196, .bool ok2)]) (Ls := []) rfl rfl rfl rfl ((sc rfl (sn _))) (by kernel_rfl) sm (fun H F' L' hF' hL' => v_assign rfl) ?_
 refine shM_nil ?_
 refine shW_seq ?_
 refine shW_drawM [(.still, 0), (.still, 1), (.still, 2), (.still, 3), (.still, 7), (.still, 8), (.seq, 4), (.still, 5), (.still, 6), (.seq, 9), (.still, 10), (.still, 11), (.still, 12), (.seq, 13), (.still, 14), (.still, 15)] (by kernel_rfl) (by kernel_rfl) (trivial) (by rfl) (by kernel_rfl) ?_
 refine shM_v (v := .bool ok2) (ek := [(25, .bool ok2)]) (Ls := []) rfl rfl rfl rfl ((sc rfl (sn _))) (by kernel_rfl) sm (fun H F' L' hF' hL' => v_move rfl) ?_
 refine shM_v (v := .bool ok2) (ek := [(197, .bool ok2)]) (Ls := []) rfl rfl rfl rfl ((sc rfl (sn _))) (by kernel_rfl) sm (fun H F' L' hF' hL' => v_move rfl) ?_
 rcases bool_two ok2 with c348 | c348
 · have r349 := bt r347 c348; clear r347
   refine shM_vg 198 (v := .int .i64 n11) (ek := [(24, .int .i64 n11), (198, .bool ok2)]) (Ls := []) rfl rfl (EnvB rfl c348) rfl rfl rfl ((sc rfl (sc rfl (sn _)))) (by kernel_rfl) sm (fun H F' L' hF' hL' => v_move rfl) ?_
   refine shM_vg 198 (v := .agg #[.int .i64 n, .slice a17 n21 c18]) (ek := [(6, .pointer (some ⟨b24, 0, none⟩)), (198, .bool ok2)]) (Ls := [(b24, .cells #[.int .i64 n, .slice a17 n21 c18] 27 (0, 0))]) rfl rfl (EnvB rfl c348) rfl rfl rfl ((sc rfl (sc rfl (sn _)))) (by kernel_rfl) (s0 (s1 (s2 (s3 (s3 (s3 (s3 (s3 sr)))))))) (fun H F' L' hF' hL' => v_loadA (cs := #[.int .i64 n, .slice a17 n21 c18]) Try.isAgg27 Try.sizeOf27 rfl ((Has.own 0 rfl).ext hF' hL') (Nat.le_of_ble_eq_true rfl) rfl) ?_
   refine shM_vg 198 (v := .slice a267 n271 c268) (ek := [(21, .slice a267 n271 c268), (198, .bool ok2)]) (Ls := []) rfl rfl (EnvB rfl c348) rfl rfl rfl ((sc rfl (sc rfl (sn _)))) (by kernel_rfl) sm (fun H F' L' hF' hL' => v_move rfl) ?_
   refine shM_vg 198 (v := .int .i64 x) (ek := [(9, .pointer (some ⟨b61, 0, none⟩)), (198, .bool ok2)]) (Ls := []) rfl rfl (EnvB rfl c348) rfl rfl rfl ((sc rfl (sc rfl (sn _)))) (by kernel_rfl) sm (fun H F' L' hF' hL' => v_load Try.isAgg3 rfl ((Has.frozen hz332).ext hF' hL') rfl) ?_
   refine ⟨_, [(198, .bool ok2), (200, .agg #[.int .i64 n, .slice a17 n21 c18])], rfl, rfl, (sc rfl (sc rfl (sn _))), by kernel_rfl, ?_⟩; intro H
   refine shO_on (b := true) 198 rfl (EnvB rfl c348) ?_
   obtain ⟨l13, h350, r351⟩ := b1_ok r349; clear r349
   refine o_callTO (Lb := []) (Lt := Lb19 ++ []) (Lr := (b44, .cells #[.int .i64 n2, .int .i64 n3] 31 (0, 0)) :: ((b24, .cells #[.int .i64 n, .slice a17 n21 c18] 27 (0, 0)) :: (Lb342 ++ (Lb39 ++ (Lb312 ++ (Lb269 ++ [])))))) rfl Try.call14 rfl rfl rfl (pT ((fC (fC (fS (fS (fS fP))))).trans (pA pR)) (ln (lp (ln rfl)))) (fun F2 h2 h3 => by rw [(SlR.caps hz20).1]; exact oyezlaw01_houses_w (hz20.row (iE_ok _) h2 (fun p hp => h3 p (List.mem_append_left _ hp))) h350) (fun _ _ _ _ hq => by obtain ⟨a356, n360, c357, Lb358, rfl, rfl, hz359⟩ := hq; exact ⟨_, _, _, _, rfl, rfl, hz359.flat (fun _ _ h => h)⟩) ?_; rintro _ F352 _ hF353 hd355 hn354 ⟨a356, n360, c357, Lb358, rfl, rfl, hz359⟩
   replace hz270 := hz270.mono (iE_ok _) hF353
   have hn362 := newp (Lb' := []) (by rfl) hd355 hn354
   replace hz359 := hz359.new fun p hp => hn362 p (by simp [hp])
   refine shO_L (lp (ln (lp (ln rfl)))) ?_
   refine kO (kf (fS (fS fO)) (kf (fS (fS fO)) kr)) ?_
   refine shO_nil ⟨_, rfl, hF353, [8, 7, 2], by kernel_rfl, .inl (.inr (fun d h => by cases h; rfl)), (List.forall_mem_cons.2 ⟨sm, (List.forall_mem_cons.2 ⟨sm, (List.forall_mem_cons.2 ⟨sm, (fun _ h => absurd h List.not_mem_nil)⟩)⟩)⟩), ?_⟩
   refine shM_vg 198 (v := .int .i64 (l13.length : Int)) (ek := [(198, .bool ok2), (201, .slice a356 n360 c357)]) (Ls := []) rfl rfl (EnvB rfl c348) rfl rfl rfl ((sc rfl (sc rfl (sn _)))) (by kernel_rfl) sm (fun H F' L' hF' hL' => (v_lenS Try.underlying36 rfl).i (SlR.lenI hz359)) ?_
   refine shM_vg 198 (v := .bool (decide (n11 < (l13.length : Int)))) (ek := [(198, .bool ok2), (199, .int .i64 n11), (202, .int .i64 (l13.length : Int))]) (Ls := []) rfl rfl (EnvB rfl c348) rfl rfl rfl ((sc rfl (sc rfl (sc rfl (sn _))))) (by kernel_rfl) sm (fun H F' L' hF' hL' => v_lssK rfl rfl) ?_
   refine ⟨_, [(198, .bool ok2), (204, .slice a267 n271 c268), (205, .int .i64 x)], rfl, rfl, (sc rfl (sc rfl (sc rfl (sn _)))), by kernel_rfl, ?_⟩; intro H
   refine shO_on (b := true) 198 rfl (EnvB rfl c348) ?_
   obtain ⟨ok3, h363, r364⟩ := b1_ok r351; clear r351
   refine o_callT (Lt := Lb269 ++ []) (Lr := (b44, .cells #[.int .i64 n2, .int .i64 n3] 31 (0, 0)) :: ((b24, .cells #[.int .i64 n, .slice a17 n21 c18] 27 (0, 0)) :: (Lb358 ++ (Lb19 ++ (Lb342 ++ (Lb39 ++ (Lb312 ++ []))))))) rfl Try.call22 rfl rfl rfl (pT ((fC (fC (fS (fS (fS (fS (fS fP))))))).trans (pA pR)) (lp (ln rfl))) (fun F2 h2 h3 => by rw [(SlR.caps hz270).1]; exact slices_Contains_int_int_w (hz270.row (iE_ok _) h2 (fun p hp => h3 p (List.mem_append_left _ hp))) h363) ?_
   refine shO_nil ⟨_, rfl, FExt.refl _, [6, 5, 2], by kernel_rfl, .inl (.inr (fun d h => by cases h; rfl)), (List.forall_mem_cons.2 ⟨sm, (List.forall_mem_cons.2 ⟨sm, (List.forall_mem_cons.2 ⟨sm, (fun _ h => absurd h List.not_mem_nil)⟩)⟩)⟩), ?_⟩
   refine shM_vg 198 (v := .bool (decide ((decide (n11 < (l13.length : Int))) = ok3))) (ek := [(198, .bool ok2), (203, .bool (decide (n11 < (l13.length : Int)))), (206, .bool ok3)]) (Ls := []) rfl rfl (EnvB rfl c348) rfl rfl rfl ((sc rfl (sc rfl (sc rfl (sn _))))) (by kernel_rfl) sm (fun H F' L' hF' hL' => v_eqlB Try.underlying4 rfl rfl) ?_
   refine shM_v (v := .bool (decide ((decide (n11 < (l13.length : Int))) = ok3))) (ek := [(198, .bool ok2), (207, .bool (decide ((decide (n11 < (l13.length : Int))) = ok3)))]) (Ls := []) rfl rfl rfl rfl ((sc rfl (sc rfl (sn _)))) (by kernel_rfl) sm (fun H F' L' hF' hL' => v_pick_t (evB rfl c348) rfl) ?_
   refine shM_v (v := .bool (decide ((decide (n11 < (l13.length : Int))) = ok3))) (ek := [(208, .bool (decide ((decide (n11 < (l13.length : Int))) = ok3)))]) (Ls := []) rfl rfl rfl rfl ((sc rfl (sn _))) (by kernel_rfl) sm (fun H F' L' hF' hL' => v_move rfl) ?_
   by_cases c365 : (decide (n11 < (l13.length : Int))) = ok3
   · have r366 := ite_t r364 c365; clear r364
     refine ⟨_, [(209, .bool (decide ((decide (n11 < (l13.length : Int))) = ok3)))], rfl, rfl, (sc rfl (sn _)), by kernel_rfl, ?_⟩; intro H
     refine shO_on (b := true) 209 rfl (Env.isT rfl c365) ?_
     obtain ⟨ok4, h367, r368⟩ := b1_ok r366; clear r366
     refine o_callV rfl Try.call18 rfl rfl rfl (oyezlaw01_awake_w h367) ?_
     refine shO_nil ⟨_, rfl, FExt.refl _, [], by kernel_rfl, .inl (.inl rfl), (fun _ h => absurd h List.not_mem_nil), ?_⟩
     refine shM_v (v := .bool ok4) (ek := [(209, .bool (decide ((decide (n11 < (l13.length : Int))) = ok3))), (210, .bool ok4)]) (Ls := []) rfl rfl rfl rfl ((sc rfl (sc rfl (sn _)))) (by kernel_rfl) sm (fun H F' L' hF' hL' => v_pick_t (evD_true rfl c365) rfl) ?_
     refine shM_v (v := .bool ok4) (ek := [(211, .bool ok4)]) (Ls := []) rfl rfl rfl rfl ((sc rfl (sn _))) (by kernel_rfl) sm (fun H F' L' hF' hL' => v_assign rfl) ?_
     refine shM_nil ?_
     refine kW kn ?_
     refine shW_ret ?_
     refine q_res1 Try.results5 (res_tmp rfl) (sr) ?_
     obtain rfl := inj1 r368
     exact rfl
   have r369 := ite_f r364 c365; clear r364
   refine ⟨_, [(209, .bool (decide ((decide (n11 < (l13.length : Int))) = ok3)))], rfl, rfl, (sc rfl (sn _)), by kernel_rfl, ?_⟩; intro H
   refine shO_off (b' := false) 209 rfl (Env.isF rfl c365) rfl rfl ?_
   refine shO_nil ⟨_, rfl, FExt.refl _, [], by kernel_rfl, .inl (.inl rfl), (fun _ h => absurd h List.not_mem_nil), ?_⟩
   refine shM_v (v := .bool false) (ek := [(209, .bool (decide ((decide (n11 < (l13.length : Int))) = ok3))), (210, undef)]) (Ls := []) rfl rfl rfl rfl ((sc rfl (sc rfl (sn _)))) (by kernel_rfl) sm (fun H F' L' hF' hL' => v_pick_f (evD_false rfl c365) rfl) ?_
   refine shM_v (v := .bool false) (ek := [(211, .bool false)]) (Ls := []) rfl rfl rfl rfl ((sc rfl (sn _))) (by kernel_rfl) sm (fun H F' L' hF' hL' => v_assign rfl) ?_
   refine shM_nil ?_
   refine kW kn ?_
   refine shW_ret ?_
   refine q_res1 Try.results5 (res_tmp rfl) (sr) ?_
   obtain rfl := inj1 r369
   exact rfl
 have r370 := bf r347 c348; clear r347
 refine shM_off (ek := [(198, .bool ok2)]) (b' := false) 198 rfl rfl (EnvB rfl c348) rfl rfl rfl rfl (sc rfl (sn _)) (by kernel_rfl) ?_
 refine shM_off (ek := [(198, .bool ok2)]) (b' := false) 198 rfl rfl (EnvB rfl c348) rfl rfl rfl rfl (sc rfl (sn _)) (by kernel_rfl) ?_
 refine shM_off (ek := [(198, .bool ok2)]) (b' := false) 198 rfl rfl (EnvB rfl c348) rfl rfl rfl rfl (sc rfl (sn _)) (by kernel_rfl) ?_
 refine shM_off (ek := [(198, .bool ok2)]) (b' := false) 198 rfl rfl (EnvB rfl c348) rfl rfl rfl rfl (sc rfl (sn _)) (by kernel_rfl) ?_
 refine ⟨_, [(198, .bool ok2), (200, undef)], rfl, rfl, (sc rfl (sc rfl (sn _))), by kernel_rfl, ?_⟩; intro H
 refine shO_off (b' := false) 198 rfl (EnvB rfl c348) rfl rfl ?_
 refine shO_nil ⟨_, rfl, FExt.refl _, [8, 7, 2], by kernel_rfl, .inl (.inr (fun d h => by cases h; rfl)), (List.forall_mem_cons.2 ⟨sm, (List.forall_mem_cons.2 ⟨sm, (List.forall_mem_cons.2 ⟨sm, (fun _ h => absurd h List.not_mem_nil)⟩)⟩)⟩), ?_⟩
 refine shM_off (ek := [(198, .bool ok2)]) (b' := false) 198 rfl rfl (EnvB rfl c348) rfl rfl rfl rfl (sc rfl (sn _)) (by kernel_rfl) ?_
 refine shM_off (ek := [(198, .bool ok2)]) (b' := false) 198 rfl rfl (EnvB rfl c348) rfl rfl rfl rfl (sc rfl (sn _)) (by kernel_rfl) ?_
 refine ⟨_, [(198, .bool ok2), (204, undef), (205, undef)], rfl, rfl, (sc rfl (sc rfl (sc rfl (sn _)))), by kernel_rfl, ?_⟩; intro H
 refine shO_off (b' := false) 198 rfl (EnvB rfl c348) rfl rfl ?_
 refine shO_nil ⟨_, rfl, FExt.refl _, [6, 5, 2], by kernel_rfl, .inl (.inr (fun d h => by cases h; rfl)), (List.forall_mem_cons.2 ⟨sm, (List.forall_mem_cons.2 ⟨sm, (List.forall_mem_cons.2 ⟨sm, (fun _ h => absurd h List.not_mem_nil)⟩)⟩)⟩), ?_⟩
 refine shM_off (ek := [(198, .bool ok2)]) (b' := false) 198 rfl rfl (EnvB rfl c348) rfl rfl rfl rfl (sc rfl (sn _)) (by kernel_rfl) ?_
 refine shM_v (v := .bool false) (ek := [(198, .bool ok2), (207, undef)]) (Ls := []) rfl rfl rfl rfl ((sc rfl (sc rfl (sn _)))) (by kernel_rfl) sm (fun H F' L' hF' hL' => v_pick_f (evB rfl c348) rfl) ?_
 refine shM_v (v := .bool false) (ek := [(208, .bool false)]) (Ls := []) rfl rfl rfl rfl ((sc rfl (sn _))) (by kernel_rfl) sm (fun H F' L' hF' hL' => v_move rfl) ?_
 refine ⟨_, [(209, .bool false)], rfl, rfl, (sc rfl (sn _)), by kernel_rfl, ?_⟩; intro H
 refine shO_off (b' := false) 209 rfl rfl rfl rfl ?_
 refine shO_nil ⟨_, rfl, FExt.refl _, [], by kernel_rfl, .inl (.inl rfl), (fun _ h => absurd h List.not_mem_nil), ?_⟩
 refine shM_v (v := .bool false) (ek := [(209, .bool false), (210, undef)]) (Ls := []) rfl rfl rfl rfl ((sc rfl (sc rfl (sn _)))) (by kernel_rfl) sm (fun H F' L' hF' hL' => v_pick_f rfl rfl) ?_
 refine shM_v (v := .bool false) (ek := [(211, .bool false)]) (Ls := []) rfl rfl rfl rfl ((sc rfl (sn _))) (by kernel_rfl) sm (fun H F' L' hF' hL' => v_assign rfl) ?_
 refine shM_nil ?_
 refine kW kn ?_
 refine shW_ret ?_
 refine q_res1 Try.results5 (res_tmp rfl) (sr) ?_
 obtain rfl := inj1 r370
 exact rfl
end Go.Proofs.Ytejkgppikpkkpaa
