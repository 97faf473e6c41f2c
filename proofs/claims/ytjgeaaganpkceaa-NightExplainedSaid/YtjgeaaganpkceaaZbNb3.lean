/- The walks that this claim needs, printed by a program of mine; part 3. -/
import Derived.Test.YtjgeaaganpkceaaZbNb2
namespace Go.Proofs.Ytjgeaaganpkceaa
open Go.SH Go.PL
set_option maxHeartbeats 1000000 in
theorem oyezlaw05_awake_w {F : FS} {r : Bool} (hr : oyezlaw05_awake = some r) :
    SpecV Try.prog 18 #[] F (.bool r) := by
 refine spec_of_shW (args := []) Try.func18 rfl Try.ntmps18 (Nat.le_of_ble_eq_true rfl) ?_
 intro K _ _; rw [oyezlaw05_awake] at hr
 refine wsr (oa rfl rfl (nsr ?_))
 obtain ⟨l, l2, h1, r2⟩ := b2_ok hr; clear hr
 refine o_call0 rfl Try.call69 rfl rfl rfl (oyezlaw05_Four_w h1) ?_; rintro _ F3 _ hF4 hn5 ⟨a7, n11, c8, Lb9, a13, n17, c14, Lb15, rfl, rfl, hz10, hz16⟩
 replace hz10 := hz10.new fun p hp => hn5 p (by simp [hp])
 replace hz16 := hz16.new fun p hp => hn5 p (by simp [hp])
 refine shO_L (lp (lp (ln rfl))) ?_
 obtain ⟨n, n2, h19, r20⟩ := b2_ok r2; clear r2
 refine o_callT (Lt := Lb9 ++ (Lb15 ++ [])) (Lr := []) rfl Try.call20 rfl rfl rfl (pT pR (lp (lp (ln rfl)))) (fun F2 h2 h3 => by rw [(SlR.caps hz10).1]; rw [(SlR.caps hz16).1]; exact night_Cries_w (hz10.row (slE_ok (iE_ok _)) h2 (fun p hp => h3 p (List.mem_append_left _ hp))) (hz16.row (slE_ok (iE_ok _)) h2 (fun p hp => h3 p (List.mem_append_right _ (List.mem_append_left _ hp)))) h19) ?_
 refine om rfl rfl (ox rfl rfl rfl (ox rfl rfl rfl (oa rfl rfl (oa rfl rfl (nsr ?_)))))
 obtain ⟨l3, l4, h21, r22⟩ := b2_ok r20; clear r20
 refine o_call0 rfl Try.call69 rfl rfl rfl (oyezlaw05_Four_w h21) ?_; rintro _ F23 _ hF24 hn25 ⟨a27, n31, c28, Lb29, a33, n37, c34, Lb35, rfl, rfl, hz30, hz36⟩
 replace hz30 := hz30.new fun p hp => hn25 p (by simp [hp])
 replace hz36 := hz36.new fun p hp => hn25 p (by simp [hp])
 refine shO_L (lp (lp (ln rfl))) ?_
 obtain ⟨l5, n3, n4, h39, r40⟩ := b3_ok r22; clear r22
 refine o_callTO (Lb := []) (Lt := Lb29 ++ (Lb35 ++ [])) (Lr := Lb9 ++ (Lb15 ++ [])) rfl Try.call14 rfl rfl rfl (pT pR (ln (lp (lp (ln rfl))))) (fun F2 h2 h3 => by rw [(SlR.caps hz30).1]; rw [(SlR.caps hz36).1]; exact night_Fewest_w (hz30.row (slE_ok (iE_ok _)) h2 (fun p hp => h3 p (List.mem_append_left _ hp))) (hz36.row (slE_ok (iE_ok _)) h2 (fun p hp => h3 p (List.mem_append_right _ (List.mem_append_left _ hp)))) h39) (fun _ _ _ _ hq => by obtain ⟨a45, n49, c46, Lb47, rfl, rfl, hz48⟩ := hq; exact ⟨_, _, _, _, rfl, rfl, hz48.flat (fun _ _ h => h)⟩) ?_; rintro _ F41 _ hF42 hd44 hn43 ⟨a45, n49, c46, Lb47, rfl, rfl, hz48⟩
 have hn51 := newp (Lb' := []) (by rfl) hd44 hn43
 replace hz48 := hz48.new fun p hp => hn51 p (by simp [hp])
 refine shO_L (lp (ln (lp (lp (ln rfl))))) ?_
 refine om rfl rfl (ox rfl rfl rfl (ox rfl rfl rfl (ox rfl rfl rfl (oa rfl rfl (oa rfl rfl (oa rfl rfl (nsr ?_)))))))
 obtain ⟨l6, l7, h52, r53⟩ := b2_ok r40; clear r40
 refine o_call0 rfl Try.call69 rfl rfl rfl (oyezlaw05_Four_w h52) ?_; rintro _ F54 _ hF55 hn56 ⟨a58, n62, c59, Lb60, a64, n68, c65, Lb66, rfl, rfl, hz61, hz67⟩
 replace hz48 := hz48.mono (iE_ok _) hF55
 replace hz61 := hz61.new fun p hp => hn56 p (by simp [hp])
 replace hz67 := hz67.new fun p hp => hn56 p (by simp [hp])
 refine shO_L (lp (lp (ln rfl))) ?_
 obtain ⟨n5, n6, h70, r71⟩ := b2_ok r53; clear r53
 refine o_callT (Lt := Lb60 ++ (Lb66 ++ [])) (Lr := Lb47 ++ (Lb29 ++ (Lb35 ++ (Lb9 ++ (Lb15 ++ []))))) rfl Try.call25 rfl rfl rfl (pT pR (lp (lp (ln rfl)))) (fun F2 h2 h3 => by rw [(SlR.caps hz61).1]; rw [(SlR.caps hz67).1]; exact night_Count_w (hz61.row (slE_ok (iE_ok _)) h2 (fun p hp => h3 p (List.mem_append_left _ hp))) (hz67.row (slE_ok (iE_ok _)) h2 (fun p hp => h3 p (List.mem_append_right _ (List.mem_append_left _ hp)))) h70) ?_
 refine om rfl rfl (ox rfl rfl rfl (ox rfl rfl rfl (oa rfl rfl (oa rfl rfl (nsr ?_)))))
 obtain ⟨l8, l9, h72, r73⟩ := b2_ok r71; clear r71
 refine o_call0 rfl Try.call69 rfl rfl rfl (oyezlaw05_Four_w h72) ?_; rintro _ F74 _ hF75 hn76 ⟨a78, n82, c79, Lb80, a84, n88, c85, Lb86, rfl, rfl, hz81, hz87⟩
 replace hz48 := hz48.mono (iE_ok _) hF75
 replace hz81 := hz81.new fun p hp => hn76 p (by simp [hp])
 replace hz87 := hz87.new fun p hp => hn76 p (by simp [hp])
 refine shO_L (lp (lp (ln rfl))) ?_
 obtain ⟨n7, n8, h90, r91⟩ := b2_ok r73; clear r73
 refine o_callT (Lt := Lb80 ++ (Lb86 ++ [])) (Lr := Lb60 ++ (Lb66 ++ (Lb47 ++ (Lb29 ++ (Lb35 ++ (Lb9 ++ (Lb15 ++ []))))))) rfl Try.call26 rfl rfl rfl (pT pR (lp (lp (ln rfl)))) (fun F2 h2 h3 => by rw [(SlR.caps hz81).1]; rw [(SlR.caps hz87).1]; exact night_Ways_w (hz81.row (slE_ok (iE_ok _)) h2 (fun p hp => h3 p (List.mem_append_left _ hp))) (hz87.row (slE_ok (iE_ok _)) h2 (fun p hp => h3 p (List.mem_append_right _ (List.mem_append_left _ hp)))) h90) ?_
 refine om rfl rfl (ox rfl rfl rfl (ox rfl rfl rfl (oa rfl rfl (oa rfl rfl (shO_nil (shW_seq ?_))))))
 obtain ⟨k, h92, r93⟩ := b1_ok r91; clear r91
 refine shW_join (fun e1 F1 L1 => FExt F74 F1 ∧ L1 = [] ∧ e1.sub [(71, .bool k)]) ?_ ?_
 · clear r93
   refine shW_region (om rfl rfl ?_)
   refine ov (v_neq rfl rfl) rfl ?_
   refine om rfl rfl ?_
   by_cases c94 : n2 ≠ 0
   · have r95 := ite_t h92 c94; clear h92
     refine shO_off (b' := true) 38 rfl (Env.isT rfl c94) rfl rfl (shO_off (b' := true) 38 rfl (Env.isT rfl c94) rfl rfl ?_)
     refine ov (v_pick_t (evD_true rfl c94) rfl) rfl ?_
     refine om rfl rfl (shO_off (b' := true) 42 rfl rfl rfl rfl (shO_off (b' := true) 42 rfl rfl rfl rfl ?_))
     refine ov (v_pick_t rfl rfl) rfl ?_
     refine om rfl rfl (shO_off (b' := true) 46 rfl rfl rfl rfl (shO_off (b' := true) 46 rfl rfl rfl rfl ?_))
     refine ov (v_pick_t rfl rfl) rfl ?_
     refine om rfl rfl (shO_off (b' := true) 50 rfl rfl rfl rfl (shO_off (b' := true) 50 rfl rfl rfl rfl ?_))
     refine ov (v_pick_t rfl rfl) rfl ?_
     refine om rfl rfl (shO_off (b' := true) 54 rfl rfl rfl rfl (shO_off (b' := true) 54 rfl rfl rfl rfl ?_))
     refine ov (v_pick_t rfl rfl) rfl ?_
     refine om rfl rfl (shO_off (b' := true) 58 rfl rfl rfl rfl (shO_off (b' := true) 58 rfl rfl rfl rfl (shO_off (b' := true) 58 rfl rfl rfl rfl (shO_off (b' := true) 58 rfl rfl rfl rfl ?_))))
     refine ov (v_pick_t rfl rfl) rfl ?_
     refine om rfl rfl (shO_off (b' := true) 64 rfl rfl rfl rfl (shO_off (b' := true) 64 rfl rfl rfl rfl ?_))
     refine ov (v_pick_t rfl rfl) rfl ?_
     refine om rfl rfl (shO_off (b' := true) 68 rfl rfl rfl rfl (shO_off (b' := true) 68 rfl rfl rfl rfl ?_))
     refine ov (v_pick_t rfl rfl) rfl ?_
     refine shO_nil ?_
     obtain rfl := inj1 r95
     exact mi kn ⟨FExt.refl _, rfl, (sc rfl (sn _))⟩
   have r96 := ite_f h92 c94; clear h92
   refine shO_on (b := false) 38 rfl (Env.isF rfl c94) (om rfl rfl (shO_on (b := false) 38 rfl (Env.isF rfl c94) ?_))
   refine ov (v_neq rfl rfl) rfl ?_
   refine ov (v_pick_f (evD_false rfl c94) rfl) rfl ?_
   refine om rfl rfl ?_
   by_cases c97 : n4 ≠ 0
   · have r98 := ite_t r96 c97; clear r96
     refine shO_off (b' := true) 42 rfl (Env.isT rfl c97) rfl rfl (shO_off (b' := true) 42 rfl (Env.isT rfl c97) rfl rfl ?_)
     refine ov (v_pick_t (evD_true rfl c97) rfl) rfl ?_
     refine om rfl rfl (shO_off (b' := true) 46 rfl rfl rfl rfl (shO_off (b' := true) 46 rfl rfl rfl rfl ?_))
     refine ov (v_pick_t rfl rfl) rfl ?_
     refine om rfl rfl (shO_off (b' := true) 50 rfl rfl rfl rfl (shO_off (b' := true) 50 rfl rfl rfl rfl ?_))
     refine ov (v_pick_t rfl rfl) rfl ?_
     refine om rfl rfl (shO_off (b' := true) 54 rfl rfl rfl rfl (shO_off (b' := true) 54 rfl rfl rfl rfl ?_))
     refine ov (v_pick_t rfl rfl) rfl ?_
     refine om rfl rfl (shO_off (b' := true) 58 rfl rfl rfl rfl (shO_off (b' := true) 58 rfl rfl rfl rfl (shO_off (b' := true) 58 rfl rfl rfl rfl (shO_off (b' := true) 58 rfl rfl rfl rfl ?_))))
     refine ov (v_pick_t rfl rfl) rfl ?_
     refine om rfl rfl (shO_off (b' := true) 64 rfl rfl rfl rfl (shO_off (b' := true) 64 rfl rfl rfl rfl ?_))
     refine ov (v_pick_t rfl rfl) rfl ?_
     refine om rfl rfl (shO_off (b' := true) 68 rfl rfl rfl rfl (shO_off (b' := true) 68 rfl rfl rfl rfl ?_))
     refine ov (v_pick_t rfl rfl) rfl ?_
     refine shO_nil ?_
     obtain rfl := inj1 r98
     exact mi kn ⟨FExt.refl _, rfl, (sc rfl (sn _))⟩
   have r99 := ite_f r96 c97; clear r96
   refine shO_on (b := false) 42 rfl (Env.isF rfl c97) (om rfl rfl (shO_on (b := false) 42 rfl (Env.isF rfl c97) ?_))
   refine ov (v_neq rfl rfl) rfl ?_
   refine ov (v_pick_f (evD_false rfl c97) rfl) rfl ?_
   refine om rfl rfl ?_
   by_cases c100 : n6 ≠ 0
   · have r101 := ite_t r99 c100; clear r99
     refine shO_off (b' := true) 46 rfl (Env.isT rfl c100) rfl rfl (shO_off (b' := true) 46 rfl (Env.isT rfl c100) rfl rfl ?_)
     refine ov (v_pick_t (evD_true rfl c100) rfl) rfl ?_
     refine om rfl rfl (shO_off (b' := true) 50 rfl rfl rfl rfl (shO_off (b' := true) 50 rfl rfl rfl rfl ?_))
     refine ov (v_pick_t rfl rfl) rfl ?_
     refine om rfl rfl (shO_off (b' := true) 54 rfl rfl rfl rfl (shO_off (b' := true) 54 rfl rfl rfl rfl ?_))
     refine ov (v_pick_t rfl rfl) rfl ?_
     refine om rfl rfl (shO_off (b' := true) 58 rfl rfl rfl rfl (shO_off (b' := true) 58 rfl rfl rfl rfl (shO_off (b' := true) 58 rfl rfl rfl rfl (shO_off (b' := true) 58 rfl rfl rfl rfl ?_))))
     refine ov (v_pick_t rfl rfl) rfl ?_
     refine om rfl rfl (shO_off (b' := true) 64 rfl rfl rfl rfl (shO_off (b' := true) 64 rfl rfl rfl rfl ?_))
     refine ov (v_pick_t rfl rfl) rfl ?_
     refine om rfl rfl (shO_off (b' := true) 68 rfl rfl rfl rfl (shO_off (b' := true) 68 rfl rfl rfl rfl ?_))
     refine ov (v_pick_t rfl rfl) rfl ?_
     refine shO_nil ?_
     obtain rfl := inj1 r101
     exact mi kn ⟨FExt.refl _, rfl, (sc rfl (sn _))⟩
   have r102 := ite_f r99 c100; clear r99
   refine shO_on (b := false) 46 rfl (Env.isF rfl c100) (om rfl rfl (shO_on (b := false) 46 rfl (Env.isF rfl c100) ?_))
   refine ov (v_neq rfl rfl) rfl ?_
   refine ov (v_pick_f (evD_false rfl c100) rfl) rfl ?_
   refine om rfl rfl ?_
   by_cases c103 : n8 ≠ 0
   · have r104 := ite_t r102 c103; clear r102
     refine shO_off (b' := true) 50 rfl (Env.isT rfl c103) rfl rfl (shO_off (b' := true) 50 rfl (Env.isT rfl c103) rfl rfl ?_)
     refine ov (v_pick_t (evD_true rfl c103) rfl) rfl ?_
     refine om rfl rfl (shO_off (b' := true) 54 rfl rfl rfl rfl (shO_off (b' := true) 54 rfl rfl rfl rfl ?_))
     refine ov (v_pick_t rfl rfl) rfl ?_
     refine om rfl rfl (shO_off (b' := true) 58 rfl rfl rfl rfl (shO_off (b' := true) 58 rfl rfl rfl rfl (shO_off (b' := true) 58 rfl rfl rfl rfl (shO_off (b' := true) 58 rfl rfl rfl rfl ?_))))
     refine ov (v_pick_t rfl rfl) rfl ?_
     refine om rfl rfl (shO_off (b' := true) 64 rfl rfl rfl rfl (shO_off (b' := true) 64 rfl rfl rfl rfl ?_))
     refine ov (v_pick_t rfl rfl) rfl ?_
     refine om rfl rfl (shO_off (b' := true) 68 rfl rfl rfl rfl (shO_off (b' := true) 68 rfl rfl rfl rfl ?_))
     refine ov (v_pick_t rfl rfl) rfl ?_
     refine shO_nil ?_
     obtain rfl := inj1 r104
     exact mi kn ⟨FExt.refl _, rfl, (sc rfl (sn _))⟩
   have r105 := ite_f r102 c103; clear r102
   refine shO_on (b := false) 50 rfl (Env.isF rfl c103) (om rfl rfl (shO_on (b := false) 50 rfl (Env.isF rfl c103) ?_))
   refine ov (v_neq rfl rfl) rfl ?_
   refine ov (v_pick_f (evD_false rfl c103) rfl) rfl ?_
   refine om rfl rfl ?_
   by_cases c106 : n ≠ 9
   · have r107 := ite_t r105 c106; clear r105
     refine shO_off (b' := true) 54 rfl (Env.isT rfl c106) rfl rfl (shO_off (b' := true) 54 rfl (Env.isT rfl c106) rfl rfl ?_)
     refine ov (v_pick_t (evD_true rfl c106) rfl) rfl ?_
     refine om rfl rfl (shO_off (b' := true) 58 rfl rfl rfl rfl (shO_off (b' := true) 58 rfl rfl rfl rfl (shO_off (b' := true) 58 rfl rfl rfl rfl (shO_off (b' := true) 58 rfl rfl rfl rfl ?_))))
     refine ov (v_pick_t rfl rfl) rfl ?_
     refine om rfl rfl (shO_off (b' := true) 64 rfl rfl rfl rfl (shO_off (b' := true) 64 rfl rfl rfl rfl ?_))
     refine ov (v_pick_t rfl rfl) rfl ?_
     refine om rfl rfl (shO_off (b' := true) 68 rfl rfl rfl rfl (shO_off (b' := true) 68 rfl rfl rfl rfl ?_))
     refine ov (v_pick_t rfl rfl) rfl ?_
     refine shO_nil ?_
     obtain rfl := inj1 r107
     exact mi kn ⟨FExt.refl _, rfl, (sc rfl (sn _))⟩
   have r108 := ite_f r105 c106; clear r105
   refine shO_on (b := false) 54 rfl (Env.isF rfl c106) (om rfl rfl (shO_on (b := false) 54 rfl (Env.isF rfl c106) ?_))
   refine ov (v_neq rfl rfl) rfl ?_
   refine ov (v_pick_f (evD_false rfl c106) rfl) rfl ?_
   refine om rfl rfl ?_
   by_cases c109 : n3 ≠ 1
   · have r110 := ite_t r108 c109; clear r108
     refine shO_off (b' := true) 58 rfl (Env.isT rfl c109) rfl rfl (shO_off (b' := true) 58 rfl (Env.isT rfl c109) rfl rfl (shO_off (b' := true) 58 rfl (Env.isT rfl c109) rfl rfl (shO_off (b' := true) 58 rfl (Env.isT rfl c109) rfl rfl ?_)))
     refine ov (v_pick_t (evD_true rfl c109) rfl) rfl ?_
     refine om rfl rfl (shO_off (b' := true) 64 rfl rfl rfl rfl (shO_off (b' := true) 64 rfl rfl rfl rfl ?_))
     refine ov (v_pick_t rfl rfl) rfl ?_
     refine om rfl rfl (shO_off (b' := true) 68 rfl rfl rfl rfl (shO_off (b' := true) 68 rfl rfl rfl rfl ?_))
     refine ov (v_pick_t rfl rfl) rfl ?_
     refine shO_nil ?_
     obtain rfl := inj1 r110
     exact mi kn ⟨FExt.refl _, rfl, (sc rfl (sn _))⟩
   have r111 := ite_f r108 c109; clear r108
   refine shO_on (b := false) 58 rfl (Env.isF rfl c109) (om rfl rfl (shO_on (b := false) 58 rfl (Env.isF rfl c109) ?_))
   refine o_buildSlice (cs := #[.int .i64 2, .int .i64 2]) rfl rfl (buildSlice_all slt_27 [.int .i64 2, .int .i64 2] rfl (by decide) (by simp [Value.cells]) (by decide)) ?_; intro b112 hb112
   refine shO_on (b := false) 58 rfl (Env.isF rfl c109) ?_
   refine shO_freeze 0 rfl hb112 ?_; intro F113 hF114 hz115
   refine shO_L (L' := Lb80 ++ (Lb86 ++ (Lb60 ++ (Lb66 ++ (Lb47 ++ (Lb29 ++ (Lb35 ++ (Lb9 ++ (Lb15 ++ []))))))))) rfl ?_
   replace hz48 := hz48.mono (iE_ok _) hF114
   have h116 : RowR 1 (iE .i64) F113 (some ⟨b112, 0, none⟩) 2 [2, 2] := RowR.of_block (iE_ok _) (vss := [[.int .i64 2], [.int .i64 2]]) (xs := [2, 2]) hz115 (.cons rfl (.cons rfl .nil)) rfl (by simp [maxLen])
   obtain ⟨ok, h117, r118⟩ := b1_ok r111; clear r111
   refine o_callT (Lt := Lb47 ++ []) (Lr := Lb80 ++ (Lb86 ++ (Lb60 ++ (Lb66 ++ (Lb29 ++ (Lb35 ++ (Lb9 ++ (Lb15 ++ [])))))))) rfl Try.call28 rfl rfl rfl (pT ((fS (fS (fS (fS fP)))).trans (pA pR)) (lp (ln rfl))) (fun F2 h2 h3 => by rw [(SlR.caps hz48).1]; exact oyezkit_Like_int_w (hz48.row (iE_ok _) h2 (fun p hp => h3 p (List.mem_append_left _ hp))) (h116.mono (iE_ok _) h2) h117) ?_
   refine shO_on (b := false) 58 rfl (Env.isF rfl c109) ?_
   refine ov (v_notB rfl) rfl ?_
   refine ov (v_pick_f (evD_false rfl c109) rfl) rfl ?_
   refine om rfl rfl ?_
   rcases bool_two (!ok) with c119 | c119
   · have r120 := bt r118 c119; clear r118
     refine shO_off (b' := true) 64 rfl (EnvB rfl c119) rfl rfl (shO_off (b' := true) 64 rfl (EnvB rfl c119) rfl rfl ?_)
     refine ov (v_pick_t (evB rfl c119) rfl) rfl ?_
     refine om rfl rfl (shO_off (b' := true) 68 rfl rfl rfl rfl (shO_off (b' := true) 68 rfl rfl rfl rfl ?_))
     refine ov (v_pick_t rfl rfl) rfl ?_
     refine shO_nil ?_
     obtain rfl := inj1 r120
     exact mi kn ⟨hF114, rfl, (sc rfl (sn _))⟩
   have r121 := bf r118 c119; clear r118
   refine shO_on (b := false) 64 rfl (EnvB rfl c119) (om rfl rfl (shO_on (b := false) 64 rfl (EnvB rfl c119) ?_))
   refine ov (v_neq rfl rfl) rfl ?_
   refine ov (v_pick_f (evB rfl c119) rfl) rfl ?_
   refine om rfl rfl ?_
   by_cases c122 : n5 ≠ 42
   · have r123 := ite_t r121 c122; clear r121
     refine shO_off (b' := true) 68 rfl (Env.isT rfl c122) rfl rfl (shO_off (b' := true) 68 rfl (Env.isT rfl c122) rfl rfl ?_)
     refine ov (v_pick_t (evD_true rfl c122) rfl) rfl ?_
     refine shO_nil ?_
     obtain rfl := inj1 r123
     exact mi kn ⟨hF114, rfl, (sc rfl (sn _))⟩
   have r124 := ite_f r121 c122; clear r121
   refine shO_on (b := false) 68 rfl (Env.isF rfl c122) (om rfl rfl (shO_on (b := false) 68 rfl (Env.isF rfl c122) ?_))
   refine ov (v_neq rfl rfl) rfl ?_
   refine ov (v_pick_f (evD_false rfl c122) rfl) rfl ?_
   refine shO_nil ?_
   obtain rfl := inj1 r124
   exact mi kn ⟨hF114, rfl, (sc rfl (sn _))⟩
 rintro e1 F126 _ ⟨hF127, rfl, he125⟩
 refine shW_env _ he125 ?_; clear he125
 refine shW_cond rfl (fun c128 => ?_) (fun c128 => ?_)
 · have r129 := bt r93 c128; clear r93
   refine wsr (oa rfl rfl (shO_nil (shW_ret (andThen_ret ?_))))
   refine q_res1 Try.results18 (res_tmp rfl) (sr) ?_
   obtain rfl := inj1 r129
   exact rfl
 have r130 := bf r93 c128; clear r93
 refine shW_skip (wsr ?_)
 obtain ⟨l10, l11, h131, r132⟩ := b2_ok r130; clear r130
 refine o_call0 rfl Try.call69 rfl rfl rfl (oyezlaw05_Four_w h131) ?_; rintro _ F133 _ hF134 hn135 ⟨a137, n141, c138, Lb139, a143, n147, c144, Lb145, rfl, rfl, hz140, hz146⟩
 replace hz140 := hz140.new fun p hp => hn135 p (by simp [hp])
 replace hz146 := hz146.new fun p hp => hn135 p (by simp [hp])
 refine shO_L (lp (lp (ln rfl))) ?_
 obtain rfl := (SlR.caps hz140).1
 refine shO_freezeR (Nat.le_refl _) (slE_ok (iE_ok _)) fP hz140 ?_; intro F149 hF150 h151
 replace hz146 := hz146.mono (slE_ok (iE_ok _)) hF150
 obtain rfl := (SlR.caps hz146).1
 refine shO_freezeR (Nat.le_refl _) (slE_ok (iE_ok _)) fP hz146 ?_; intro F152 hF153 h154
 replace h151 := h151.mono (slE_ok (iE_ok _)) hF153
 obtain ⟨l12, n9, h155, r156⟩ := b2_ok r132; clear r132
 refine o_call0 rfl Try.call36 rfl rfl rfl (night_Verdicts_w h151 h154 h155) ?_; rintro _ F157 _ hF158 hn159 ⟨a161, n165, c162, Lb163, rfl, rfl, hz164⟩
 replace hz164 := hz164.new fun p hp => hn159 p (by simp [hp])
 refine shO_L (lp (ln rfl)) ?_
 refine om rfl rfl (ox rfl rfl rfl (ox rfl rfl rfl (oa rfl rfl (oa rfl rfl (nsr ?_)))))
 obtain ⟨l13, l14, h167, r168⟩ := b2_ok r156; clear r156
 refine o_call0 rfl Try.call69 rfl rfl rfl (oyezlaw05_Four_w h167) ?_; rintro _ F169 _ hF170 hn171 ⟨a173, n177, c174, Lb175, a179, n183, c180, Lb181, rfl, rfl, hz176, hz182⟩
 replace hz164 := hz164.mono (slE_ok (iE_ok _)) hF170
 replace hz176 := hz176.new fun p hp => hn171 p (by simp [hp])
 replace hz182 := hz182.new fun p hp => hn171 p (by simp [hp])
 refine shO_L (lp (lp (ln rfl))) ?_
 obtain rfl := (SlR.caps hz176).1
 refine shO_freezeR (Nat.le_refl _) (slE_ok (iE_ok _)) fP hz176 ?_; intro F185 hF186 h187
 replace hz164 := hz164.mono (slE_ok (iE_ok _)) hF186
 replace hz182 := hz182.mono (slE_ok (iE_ok _)) hF186
 obtain rfl := (SlR.caps hz182).1
 refine shO_freezeR (Nat.le_refl _) (slE_ok (iE_ok _)) fP hz182 ?_; intro F188 hF189 h190
 replace h187 := h187.mono (slE_ok (iE_ok _)) hF189
 replace hz164 := hz164.mono (slE_ok (iE_ok _)) hF189
 obtain ⟨l15, n10, h191, r192⟩ := b2_ok r168; clear r168
 refine o_call0 rfl Try.call17 rfl rfl rfl (night_Men_w h187 h190 h191) ?_; rintro _ F193 _ hF194 hn195 ⟨a197, c198, rfl, rfl, h199⟩
 replace hz164 := hz164.mono (slE_ok (iE_ok _)) hF194
 refine shO_L (ln rfl) ?_
 refine om rfl rfl (ox rfl rfl rfl (ox rfl rfl rfl (oa rfl rfl (oa rfl rfl (nsr ?_)))))
 obtain ⟨l16, l17, h200, r201⟩ := b2_ok r192; clear r192
 refine o_call0 rfl Try.call69 rfl rfl rfl (oyezlaw05_Four_w h200) ?_; rintro _ F202 _ hF203 hn204 ⟨a206, n210, c207, Lb208, a212, n216, c213, Lb214, rfl, rfl, hz209, hz215⟩
 replace h199 := h199.mono (iE_ok _) hF203
 replace hz164 := hz164.mono (slE_ok (iE_ok _)) hF203
 replace hz209 := hz209.new fun p hp => hn204 p (by simp [hp])
 replace hz215 := hz215.new fun p hp => hn204 p (by simp [hp])
 refine shO_L (lp (lp (ln rfl))) ?_
 refine ov (v_build (v := .agg #[.int .i64 0, .int .i64 1]) rfl (by intro w; kernel_rfl)) rfl ?_
 obtain ⟨n11, n12, n13, h218, r219⟩ := b3_ok r201; clear r201
 refine o_callT (Lt := Lb208 ++ (Lb214 ++ [])) (Lr := Lb163 ++ []) rfl Try.call30 rfl rfl rfl (pT pR (lp (lp (ln rfl)))) (fun F2 h2 h3 => by rw [(SlR.caps hz209).1]; rw [(SlR.caps hz215).1]; exact night_Split_w (hz209.row (slE_ok (iE_ok _)) h2 (fun p hp => h3 p (List.mem_append_left _ hp))) (hz215.row (slE_ok (iE_ok _)) h2 (fun p hp => h3 p (List.mem_append_right _ (List.mem_append_left _ hp)))) h218) ?_
 refine om rfl rfl (ox rfl rfl rfl (ox rfl rfl rfl (ox rfl rfl rfl (oa rfl rfl (oa rfl rfl (oa rfl rfl (nsr ?_)))))))
 obtain ⟨l18, l19, h220, r221⟩ := b2_ok r219; clear r219
 refine o_call0 rfl Try.call69 rfl rfl rfl (oyezlaw05_Four_w h220) ?_; rintro _ F222 _ hF223 hn224 ⟨a226, n230, c227, Lb228, a232, n236, c233, Lb234, rfl, rfl, hz229, hz235⟩
 replace h199 := h199.mono (iE_ok _) hF223
 replace hz164 := hz164.mono (slE_ok (iE_ok _)) hF223
 replace hz229 := hz229.new fun p hp => hn224 p (by simp [hp])
 replace hz235 := hz235.new fun p hp => hn224 p (by simp [hp])
 refine shO_L (lp (lp (ln rfl))) ?_
 obtain ⟨n14, n15, n16, h238, r239⟩ := b3_ok r221; clear r221
 refine o_callT (Lt := Lb228 ++ (Lb234 ++ [])) (Lr := Lb208 ++ (Lb214 ++ (Lb163 ++ []))) rfl Try.call15 rfl rfl rfl (pT pR (lp (lp (ln rfl)))) (fun F2 h2 h3 => by rw [(SlR.caps hz229).1]; rw [(SlR.caps hz235).1]; exact night_Most_w (hz229.row (slE_ok (iE_ok _)) h2 (fun p hp => h3 p (List.mem_append_left _ hp))) (hz235.row (slE_ok (iE_ok _)) h2 (fun p hp => h3 p (List.mem_append_right _ (List.mem_append_left _ hp)))) h238) ?_
 refine om rfl rfl (ox rfl rfl rfl (ox rfl rfl rfl ?_))
 refine o_alloc rfl Try.zeroValue36 ?_; intro b240 hb240
 refine o_storeA (i := 0) Try.sizeOf36 rfl rfl rfl (by simp [Value.oneCell']) rfl (Nat.le_of_ble_eq_true rfl) ?_
 refine shO_L (L' := (b240, .cells #[.int .i64 n14, .int .i64 n15] 36 (0, 0)) :: (Lb228 ++ (Lb234 ++ (Lb208 ++ (Lb214 ++ (Lb163 ++ [])))))) rfl ?_
 refine oa rfl rfl (nsr (om rfl rfl ?_))
 refine ov (v_eql rfl rfl) rfl ?_
 refine om rfl rfl ?_
 by_cases c241 : n9 = 0
 · have r242 := ite_t r239 c241; clear r239
   refine shO_on (b := true) 96 rfl (Env.isT rfl c241) (om rfl rfl (shO_on (b := true) 96 rfl (Env.isT rfl c241) ?_))
   refine ov (v_eql rfl rfl) rfl ?_
   refine ov (v_pick_t (evD_true rfl c241) rfl) rfl ?_
   refine om rfl rfl ?_
   by_cases c243 : n10 = 0
   · have r244 := ite_t r242 c243; clear r242
     refine shO_on (b := true) 100 rfl (Env.isT rfl c243) (om rfl rfl (shO_on (b := true) 100 rfl (Env.isT rfl c243) ?_))
     refine ov (v_eql rfl rfl) rfl ?_
     refine ov (v_pick_t (evD_true rfl c243) rfl) rfl ?_
     refine om rfl rfl ?_
     by_cases c245 : n13 = 0
     · have r246 := ite_t r244 c245; clear r244
       refine shO_on (b := true) 104 rfl (Env.isT rfl c245) (om rfl rfl (shO_on (b := true) 104 rfl (Env.isT rfl c245) ?_))
       refine ov (v_eql rfl rfl) rfl ?_
       refine ov (v_pick_t (evD_true rfl c245) rfl) rfl ?_
       refine om rfl rfl ?_
       by_cases c247 : n16 = 0
       · have r248 := ite_t r246 c247; clear r246
         refine shO_on (b := true) 108 rfl (Env.isT rfl c247) (om rfl rfl (shO_on (b := true) 108 rfl (Env.isT rfl c247) ?_))
         refine ov ((v_lenS Try.underlying71 rfl).i (SlR.lenI hz164)) rfl ?_
         refine shO_on (b := true) 108 rfl (Env.isT rfl c247) ?_
         refine ov (v_eql rfl rfl) rfl ?_
         refine ov (v_pick_t (evD_true rfl c247) rfl) rfl ?_
         refine om rfl rfl ?_
         by_cases c249 : (l12.length : Int) = 2
         · have r250 := ite_t r248 c249; clear r248
           refine shO_on (b := true) 113 rfl (Env.isT rfl c249) (om rfl rfl (shO_on (b := true) 113 rfl (Env.isT rfl c249) ?_))
           obtain ⟨x, g251, hx252, r253⟩ := ix_ok r250; clear r250
           obtain ⟨b254, o255, c256, vs257, ha258, hs259, hle260, ⟨a263, c264, rfl, h265⟩, hl261, hc262⟩ := SlR.at (slE_ok (iE_ok _)) hz164 (L := (b240, .cells #[.int .i64 n14, .int .i64 n15] 36 (0, 0)) :: (Lb228 ++ (Lb234 ++ (Lb208 ++ (Lb214 ++ (Lb163 ++ [])))))) (fC (fS (fS (fS (fS fP))))) g251.1 hx252
           refine ov (v_indexO Try.underlying71 Try.sizeOf80 rfl ha258 rfl (SlR.idx hz164 g251)) rfl ?_
           refine shO_on (b := true) 113 rfl (Env.isT rfl c249) ?_
           refine ov (v_load Try.isAgg80 rfl hs259 (hc262 0 (by decide))) rfl ?_
           refine shO_on (b := true) 113 rfl (Env.isT rfl c249) ?_
           refine o_buildSlice (cs := #[.int .i64 2, .int .i64 0, .int .i64 0, .int .i64 2]) rfl rfl (buildSlice_all slt_80 [.int .i64 2, .int .i64 0, .int .i64 0, .int .i64 2] rfl (by decide) (by simp [Value.cells]) (by decide)) ?_; intro b266 hb266
           refine shO_on (b := true) 113 rfl (Env.isT rfl c249) ?_
           refine shO_freeze 0 rfl hb266 ?_; intro F267 hF268 hz269
           refine shO_L (L' := (b240, .cells #[.int .i64 n14, .int .i64 n15] 36 (0, 0)) :: (Lb228 ++ (Lb234 ++ (Lb208 ++ (Lb214 ++ (Lb163 ++ [])))))) rfl ?_
           replace h199 := h199.mono (iE_ok _) hF268
           replace h265 := h265.mono (iE_ok _) hF268
           have h270 : RowR 1 (iE .i64) F267 (some ⟨b266, 0, none⟩) 4 [2, 0, 0, 2] := RowR.of_block (iE_ok _) (vss := [[.int .i64 2], [.int .i64 0], [.int .i64 0], [.int .i64 2]]) (xs := [2, 0, 0, 2]) hz269 (.cons rfl (.cons rfl (.cons rfl (.cons rfl .nil)))) rfl (by simp [maxLen])
           obtain ⟨ok2, h271, r272⟩ := b1_ok r253; clear r253
           refine o_callV rfl Try.call70 rfl rfl rfl (oyezkit_Like_Verdict_w h265 h270 h271) ?_
           refine ov (v_pick_t (evD_true rfl c249) rfl) rfl ?_
           refine om rfl rfl ?_
           rcases bool_two ok2 with c273 | c273
           · have r274 := bt r272 c273; clear r272
             refine shO_on (b := true) 120 rfl (EnvB rfl c273) (om rfl rfl (shO_on (b := true) 120 rfl (EnvB rfl c273) ?_))
             refine o_buildSlice (cs := #[.int .i64 1]) rfl rfl (buildSlice_all slt_27 [.int .i64 1] rfl (by decide) (by simp [Value.cells]) (by decide)) ?_; intro b275 hb275
             refine shO_on (b := true) 120 rfl (EnvB rfl c273) ?_
             refine shO_freeze 0 rfl hb275 ?_; intro F276 hF277 hz278
             refine shO_L (L' := (b240, .cells #[.int .i64 n14, .int .i64 n15] 36 (0, 0)) :: (Lb228 ++ (Lb234 ++ (Lb208 ++ (Lb214 ++ (Lb163 ++ [])))))) rfl ?_
             replace h199 := h199.mono (iE_ok _) hF277
             have h279 : RowR 1 (iE .i64) F276 (some ⟨b275, 0, none⟩) 1 [1] := RowR.of_block (iE_ok _) (vss := [[.int .i64 1]]) (xs := [1]) hz278 (.cons rfl .nil) rfl (by simp [maxLen])
             obtain ⟨ok3, h280, r281⟩ := b1_ok r274; clear r274
             refine o_callV rfl Try.call28 rfl rfl rfl (oyezkit_Like_int_w h199 h279 h280) ?_
             refine ov (v_pick_t (evB rfl c273) rfl) rfl ?_
             refine om rfl rfl ?_
             rcases bool_two ok3 with c282 | c282
             · have r283 := bt r281 c282; clear r281
               refine shO_on (b := true) 125 rfl (EnvB rfl c282) (om rfl rfl (shO_on (b := true) 125 rfl (EnvB rfl c282) ?_))
               refine ov (v_eql rfl rfl) rfl ?_
               refine ov (v_pick_t (evB rfl c282) rfl) rfl ?_
               refine om rfl rfl ?_
               by_cases c284 : n11 = 14
               · have r285 := ite_t r283 c284; clear r283
                 refine shO_on (b := true) 129 rfl (Env.isT rfl c284) (om rfl rfl (shO_on (b := true) 129 rfl (Env.isT rfl c284) ?_))
                 refine ov (v_eql rfl rfl) rfl ?_
                 refine ov (v_pick_t (evD_true rfl c284) rfl) rfl ?_
                 refine om rfl rfl ?_
                 by_cases c286 : n12 = 28
                 · have r287 := ite_t r285 c286; clear r285
                   refine shO_on (b := true) 133 rfl (Env.isT rfl c286) ?_
                   refine ov (v_loadA (cs := #[.int .i64 n14, .int .i64 n15]) Try.isAgg36 Try.sizeOf36 rfl (Has.own 0 rfl) (Nat.le_of_ble_eq_true rfl) rfl) rfl ?_
                   refine shO_on (b := true) 133 rfl (Env.isT rfl c286) ?_
                   refine ov (v_build (v := .agg #[.int .i64 0, .int .i64 1]) rfl (by intro w; kernel_rfl)) rfl ?_
                   refine shO_on (b := true) 133 rfl (Env.isT rfl c286) ?_
                   refine ov (v_eqA (eqg_36 _ _ _ _) (eq_36 _ _ _ _) rfl rfl) rfl ?_
                   refine ov (v_pick_t (evD_true rfl c286) rfl) rfl ?_
                   refine oa rfl rfl (shO_nil ?_)
                   refine kW kn ?_
                   refine shW_ret ?_
                   refine q_res1 Try.results18 (res_tmp rfl) (sr) ?_
                   obtain rfl := inj1 r287
                   exact rfl
                 have r288 := ite_f r285 c286; clear r285
                 refine shO_off (b' := false) 133 rfl (Env.isF rfl c286) rfl rfl (shO_off (b' := false) 133 rfl (Env.isF rfl c286) rfl rfl (shO_off (b' := false) 133 rfl (Env.isF rfl c286) rfl rfl ?_))
                 refine ov (v_pick_f (evD_false rfl c286) rfl) rfl ?_
                 refine oa rfl rfl (shO_nil ?_)
                 refine kW kn ?_
                 refine shW_ret ?_
                 refine q_res1 Try.results18 (res_tmp rfl) (sr) ?_
                 obtain rfl := inj1 r288
                 exact rfl
               have r289 := ite_f r283 c284; clear r283
               refine shO_off (b' := false) 129 rfl (Env.isF rfl c284) rfl rfl (shO_off (b' := false) 129 rfl (Env.isF rfl c284) rfl rfl ?_)
               refine ov (v_pick_f (evD_false rfl c284) rfl) rfl ?_
               refine om rfl rfl (shO_off (b' := false) 133 rfl rfl rfl rfl (shO_off (b' := false) 133 rfl rfl rfl rfl (shO_off (b' := false) 133 rfl rfl rfl rfl ?_)))
               refine ov (v_pick_f rfl rfl) rfl ?_
               refine oa rfl rfl (shO_nil ?_)
               refine kW kn ?_
               refine shW_ret ?_
               refine q_res1 Try.results18 (res_tmp rfl) (sr) ?_
               obtain rfl := inj1 r289
               exact rfl
             have r290 := bf r281 c282; clear r281
             refine shO_off (b' := false) 125 rfl (EnvB rfl c282) rfl rfl (shO_off (b' := false) 125 rfl (EnvB rfl c282) rfl rfl ?_)
             refine ov (v_pick_f (evB rfl c282) rfl) rfl ?_
             refine om rfl rfl (shO_off (b' := false) 129 rfl rfl rfl rfl (shO_off (b' := false) 129 rfl rfl rfl rfl ?_))
             refine ov (v_pick_f rfl rfl) rfl ?_
             refine om rfl rfl (shO_off (b' := false) 133 rfl rfl rfl rfl (shO_off (b' := false) 133 rfl rfl rfl rfl (shO_off (b' := false) 133 rfl rfl rfl rfl ?_)))
             refine ov (v_pick_f rfl rfl) rfl ?_
             refine oa rfl rfl (shO_nil ?_)
             refine kW kn ?_
             refine shW_ret ?_
             refine q_res1 Try.results18 (res_tmp rfl) (sr) ?_
             obtain rfl := inj1 r290
             exact rfl
           have r291 := bf r272 c273; clear r272
           refine shO_off (b' := false) 120 rfl (EnvB rfl c273) rfl rfl (shO_off (b' := false) 120 rfl (EnvB rfl c273) rfl rfl (shO_off (b' := false) 120 rfl (EnvB rfl c273) rfl rfl ?_))
           refine ov (v_pick_f (evB rfl c273) rfl) rfl ?_
           refine om rfl rfl (shO_off (b' := false) 125 rfl rfl rfl rfl (shO_off (b' := false) 125 rfl rfl rfl rfl ?_))
           refine ov (v_pick_f rfl rfl) rfl ?_
           refine om rfl rfl (shO_off (b' := false) 129 rfl rfl rfl rfl (shO_off (b' := false) 129 rfl rfl rfl rfl ?_))
           refine ov (v_pick_f rfl rfl) rfl ?_
           refine om rfl rfl (shO_off (b' := false) 133 rfl rfl rfl rfl (shO_off (b' := false) 133 rfl rfl rfl rfl (shO_off (b' := false) 133 rfl rfl rfl rfl ?_)))
           refine ov (v_pick_f rfl rfl) rfl ?_
           refine oa rfl rfl (shO_nil ?_)
           refine kW kn ?_
           refine shW_ret ?_
           refine q_res1 Try.results18 (res_tmp rfl) (sr) ?_
           obtain rfl := inj1 r291
           exact rfl
         have r292 := ite_f r248 c249; clear r248
         refine shO_off (b' := false) 113 rfl (Env.isF rfl c249) rfl rfl (shO_off (b' := false) 113 rfl (Env.isF rfl c249) rfl rfl (shO_off (b' := false) 113 rfl (Env.isF rfl c249) rfl rfl (shO_off (b' := false) 113 rfl (Env.isF rfl c249) rfl rfl (shO_off (b' := false) 113 rfl (Env.isF rfl c249) rfl rfl ?_))))
         refine ov (v_pick_f (evD_false rfl c249) rfl) rfl ?_
         refine om rfl rfl (shO_off (b' := false) 120 rfl rfl rfl rfl (shO_off (b' := false) 120 rfl rfl rfl rfl (shO_off (b' := false) 120 rfl rfl rfl rfl ?_)))
         refine ov (v_pick_f rfl rfl) rfl ?_
         refine om rfl rfl (shO_off (b' := false) 125 rfl rfl rfl rfl (shO_off (b' := false) 125 rfl rfl rfl rfl ?_))
         refine ov (v_pick_f rfl rfl) rfl ?_
         refine om rfl rfl (shO_off (b' := false) 129 rfl rfl rfl rfl (shO_off (b' := false) 129 rfl rfl rfl rfl ?_))
         refine ov (v_pick_f rfl rfl) rfl ?_
         refine om rfl rfl (shO_off (b' := false) 133 rfl rfl rfl rfl (shO_off (b' := false) 133 rfl rfl rfl rfl (shO_off (b' := false) 133 rfl rfl rfl rfl ?_)))
         refine ov (v_pick_f rfl rfl) rfl ?_
         refine oa rfl rfl (shO_nil ?_)
         refine kW kn ?_
         refine shW_ret ?_
         refine q_res1 Try.results18 (res_tmp rfl) (sr) ?_
         obtain rfl := inj1 r292
         exact rfl
       have r293 := ite_f r246 c247; clear r246
       refine shO_off (b' := false) 108 rfl (Env.isF rfl c247) rfl rfl (shO_off (b' := false) 108 rfl (Env.isF rfl c247) rfl rfl (shO_off (b' := false) 108 rfl (Env.isF rfl c247) rfl rfl ?_))
       refine ov (v_pick_f (evD_false rfl c247) rfl) rfl ?_
       refine om rfl rfl (shO_off (b' := false) 113 rfl rfl rfl rfl (shO_off (b' := false) 113 rfl rfl rfl rfl (shO_off (b' := false) 113 rfl rfl rfl rfl (shO_off (b' := false) 113 rfl rfl rfl rfl (shO_off (b' := false) 113 rfl rfl rfl rfl ?_)))))
       refine ov (v_pick_f rfl rfl) rfl ?_
       refine om rfl rfl (shO_off (b' := false) 120 rfl rfl rfl rfl (shO_off (b' := false) 120 rfl rfl rfl rfl (shO_off (b' := false) 120 rfl rfl rfl rfl ?_)))
       refine ov (v_pick_f rfl rfl) rfl ?_
       refine om rfl rfl (shO_off (b' := false) 125 rfl rfl rfl rfl (shO_off (b' := false) 125 rfl rfl rfl rfl ?_))
       refine ov (v_pick_f rfl rfl) rfl ?_
       refine om rfl rfl (shO_off (b' := false) 129 rfl rfl rfl rfl (shO_off (b' := false) 129 rfl rfl rfl rfl ?_))
       refine ov (v_pick_f rfl rfl) rfl ?_
       refine om rfl rfl (shO_off (b' := false) 133 rfl rfl rfl rfl (shO_off (b' := false) 133 rfl rfl rfl rfl (shO_off (b' := false) 133 rfl rfl rfl rfl ?_)))
       refine ov (v_pick_f rfl rfl) rfl ?_
       refine oa rfl rfl (shO_nil ?_)
       refine kW kn ?_
       refine shW_ret ?_
       refine q_res1 Try.results18 (res_tmp rfl) (sr) ?_
       obtain rfl := inj1 r293
       exact rfl
     have r294 := ite_f r244 c245; clear r244
     refine shO_off (b' := false) 104 rfl (Env.isF rfl c245) rfl rfl (shO_off (b' := false) 104 rfl (Env.isF rfl c245) rfl rfl ?_)
     refine ov (v_pick_f (evD_false rfl c245) rfl) rfl ?_
     refine om rfl rfl (shO_off (b' := false) 108 rfl rfl rfl rfl (shO_off (b' := false) 108 rfl rfl rfl rfl (shO_off (b' := false) 108 rfl rfl rfl rfl ?_)))
     refine ov (v_pick_f rfl rfl) rfl ?_
     refine om rfl rfl (shO_off (b' := false) 113 rfl rfl rfl rfl (shO_off (b' := false) 113 rfl rfl rfl rfl (shO_off (b' := false) 113 rfl rfl rfl rfl (shO_off (b' := false) 113 rfl rfl rfl rfl (shO_off (b' := false) 113 rfl rfl rfl rfl ?_)))))
     refine ov (v_pick_f rfl rfl) rfl ?_
     refine om rfl rfl (shO_off (b' := false) 120 rfl rfl rfl rfl (shO_off (b' := false) 120 rfl rfl rfl rfl (shO_off (b' := false) 120 rfl rfl rfl rfl ?_)))
     refine ov (v_pick_f rfl rfl) rfl ?_
     refine om rfl rfl (shO_off (b' := false) 125 rfl rfl rfl rfl (shO_off (b' := false) 125 rfl rfl rfl rfl ?_))
     refine ov (v_pick_f rfl rfl) rfl ?_
     refine om rfl rfl (shO_off (b' := false) 129 rfl rfl rfl rfl (shO_off (b' := false) 129 rfl rfl rfl rfl ?_))
     refine ov (v_pick_f rfl rfl) rfl ?_
     refine om rfl rfl (shO_off (b' := false) 133 rfl rfl rfl rfl (shO_off (b' := false) 133 rfl rfl rfl rfl (shO_off (b' := false) 133 rfl rfl rfl rfl ?_)))
     refine ov (v_pick_f rfl rfl) rfl ?_
     refine oa rfl rfl (shO_nil ?_)
     refine kW kn ?_
     refine shW_ret ?_
     refine q_res1 Try.results18 (res_tmp rfl) (sr) ?_
     obtain rfl := inj1 r294
     exact rfl
   have r295 := ite_f r242 c243; clear r242
   refine shO_off (b' := false) 100 rfl (Env.isF rfl c243) rfl rfl (shO_off (b' := false) 100 rfl (Env.isF rfl c243) rfl rfl ?_)
   refine ov (v_pick_f (evD_false rfl c243) rfl) rfl ?_
   refine om rfl rfl (shO_off (b' := false) 104 rfl rfl rfl rfl (shO_off (b' := false) 104 rfl rfl rfl rfl ?_))
   refine ov (v_pick_f rfl rfl) rfl ?_
   refine om rfl rfl (shO_off (b' := false) 108 rfl rfl rfl rfl (shO_off (b' := false) 108 rfl rfl rfl rfl (shO_off (b' := false) 108 rfl rfl rfl rfl ?_)))
   refine ov (v_pick_f rfl rfl) rfl ?_
   refine om rfl rfl (shO_off (b' := false) 113 rfl rfl rfl rfl (shO_off (b' := false) 113 rfl rfl rfl rfl (shO_off (b' := false) 113 rfl rfl rfl rfl (shO_off (b' := false) 113 rfl rfl rfl rfl (shO_off (b' := false) 113 rfl rfl rfl rfl ?_)))))
   refine ov (v_pick_f rfl rfl) rfl ?_
   refine om rfl rfl (shO_off (b' := false) 120 rfl rfl rfl rfl (shO_off (b' := false) 120 rfl rfl rfl rfl (shO_off (b' := false) 120 rfl rfl rfl rfl ?_)))
   refine ov (v_pick_f rfl rfl) rfl ?_
   refine om rfl rfl (shO_off (b' := false) 125 rfl rfl rfl rfl (shO_off (b' := false) 125 rfl rfl rfl rfl ?_))
   refine ov (v_pick_f rfl rfl) rfl ?_
   refine om rfl rfl (shO_off (b' := false) 129 rfl rfl rfl rfl (shO_off (b' := false) 129 rfl rfl rfl rfl ?_))
   refine ov (v_pick_f rfl rfl) rfl ?_
   refine om rfl rfl (shO_off (b' := false) 133 rfl rfl rfl rfl (shO_off (b' := false) 133 rfl rfl rfl rfl (shO_off (b' := false) 133 rfl rfl rfl rfl ?_)))
   refine ov (v_pick_f rfl rfl) rfl ?_
   refine oa rfl rfl (shO_nil ?_)
   refine kW kn ?_
   refine shW_ret ?_
   refine q_res1 Try.results18 (res_tmp rfl) (sr) ?_
   obtain rfl := inj1 r295
   exact rfl
 have r296 := ite_f r239 c241; clear r239
 refine shO_off (b' := false) 96 rfl (Env.isF rfl c241) rfl rfl (shO_off (b' := false) 96 rfl (Env.isF rfl c241) rfl rfl ?_)
 refine ov (v_pick_f (evD_false rfl c241) rfl) rfl ?_
 refine om rfl rfl (shO_off (b' := false) 100 rfl rfl rfl rfl (shO_off (b' := false) 100 rfl rfl rfl rfl ?_))
 refine ov (v_pick_f rfl rfl) rfl ?_
 refine om rfl rfl (shO_off (b' := false) 104 rfl rfl rfl rfl (shO_off (b' := false) 104 rfl rfl rfl rfl ?_))
 refine ov (v_pick_f rfl rfl) rfl ?_
 refine om rfl rfl (shO_off (b' := false) 108 rfl rfl rfl rfl (shO_off (b' := false) 108 rfl rfl rfl rfl (shO_off (b' := false) 108 rfl rfl rfl rfl ?_)))
 refine ov (v_pick_f rfl rfl) rfl ?_
 refine om rfl rfl (shO_off (b' := false) 113 rfl rfl rfl rfl (shO_off (b' := false) 113 rfl rfl rfl rfl (shO_off (b' := false) 113 rfl rfl rfl rfl (shO_off (b' := false) 113 rfl rfl rfl rfl (shO_off (b' := false) 113 rfl rfl rfl rfl ?_)))))
 refine ov (v_pick_f rfl rfl) rfl ?_
 refine om rfl rfl (shO_off (b' := false) 120 rfl rfl rfl rfl (shO_off (b' := false) 120 rfl rfl rfl rfl (shO_off (b' := false) 120 rfl rfl rfl rfl ?_)))
 refine ov (v_pick_f rfl rfl) rfl ?_
 refine om rfl rfl (shO_off (b' := false) 125 rfl rfl rfl rfl (shO_off (b' := false) 125 rfl rfl rfl rfl ?_))
 refine ov (v_pick_f rfl rfl) rfl ?_
 refine om rfl rfl (shO_off (b' := false) 129 rfl rfl rfl rfl (shO_off (b' := false) 129 rfl rfl rfl rfl ?_))
 refine ov (v_pick_f rfl rfl) rfl ?_
 refine om rfl rfl (shO_off (b' := false) 133 rfl rfl rfl rfl (shO_off (b' := false) 133 rfl rfl rfl rfl (shO_off (b' := false) 133 rfl rfl rfl rfl ?_)))
 refine ov (v_pick_f rfl rfl) rfl ?_
 refine oa rfl rfl (shO_nil ?_)
 refine kW kn ?_
 refine shW_ret ?_
 refine q_res1 Try.results18 (res_tmp rfl) (sr) ?_
 obtain rfl := inj1 r296
 exact rfl
set_option maxHeartbeats 1000000 in
theorem night_desk_fits_w {b_d : Nat} {listens_a : Option Addr} {listens_c : Nat} {listens : List (List Int)} {hours_a : Option Addr} {hours_c : Nat} {hours : List (List Int)} {v1 : Value} {rows_a : Option Addr} {rows_c : Nat} {rows : List (List Bool)} {mb_d : Nat × Nat} {hour : Int} {set_ : Int} {F : FS} (hb_d : F b_d = some (.cells #[.slice listens_a listens.length listens_c, .slice hours_a hours.length hours_c, v1, .slice rows_a rows.length rows_c] 139 mb_d)) (_h_listens : RowR 1 (slE 1 (iE .i64)) F listens_a listens_c listens) (_h_hours : RowR 1 (slE 1 (iE .i64)) F hours_a hours_c hours) (h_rows : RowR 64 (arE 64 cB) F rows_a rows_c rows) {r : Bool} (hr : night_desk_fits listens hours rows hour set_ = some r) :
    SpecV Try.prog 74 #[.pointer (some ⟨b_d, 0, none⟩), .int .i64 hour, .int .i64 set_] F (.bool r) := by
 refine spec_of_shW (args := [.pointer (some ⟨b_d, 0, none⟩), .int .i64 hour, .int .i64 set_]) Try.func74 rfl Try.ntmps74 (Nat.le_of_ble_eq_true rfl) ?_
 intro K _ _; rw [night_desk_fits] at hr
 refine wsr (oa rfl rfl (nsr (om rfl rfl ?_)))
 refine ov (v_nilCheck rfl) rfl ?_
 refine ov (v_fieldAddr fa_139_2 rfl) rfl ?_
 refine ov (v_load Try.isAgg137 rfl (Has.frozen hb_d) rfl) rfl ?_
 refine om rfl rfl (om rfl rfl ?_)
 obtain ⟨x, g2, hx3, r4⟩ := ix_ok hr; clear hr
 obtain ⟨b5, o6, c7, vs8, ha9, hs10, hle11, ⟨rfl, h14⟩, hl12, hc13⟩ := RowR.at (arE_ok (n := 64) (sz := 1) cB_ok) h_rows ([]) g2.1 hx3
 refine ov (v_indexO Try.underlying137 Try.sizeOf135 rfl ha9 rfl g2) rfl ?_
 obtain ⟨x2, g15, hx16, r17⟩ := ix_ok r4; clear r4
 have hc18 := el_at cB_ok h14 hx16 hc13 hle11 hl12
 refine ov (v_indexA Try.underlying135 Try.sizeOf4 rfl rfl (arr_lt h14 g15)) rfl ?_
 refine ov (v_load Try.isAgg4 rfl hs10 ((hc18).2.2 0 (by decide))) rfl ?_
 refine oa rfl rfl (shO_nil (shW_ret ?_))
 refine q_res1 Try.results74 (res_tmp rfl) (sr) ?_
 obtain rfl := inj1 r17
 exact rfl
set_option maxHeartbeats 1000000 in
theorem oyezlaw05_fits_w {listens_a : Option Addr} {listens_c : Nat} {listens : List (List Int)} {hours_a : Option Addr} {hours_c : Nat} {hours : List (List Int)} {marks_a : Option Addr} {marks_c : Nat} {marks : List Int} {asleep : Int} {F : FS} (h_listens : RowR 1 (slE 1 (iE .i64)) F listens_a listens_c listens) (_h_hours : RowR 1 (slE 1 (iE .i64)) F hours_a hours_c hours) (h_marks : RowR 1 (iE .i64) F marks_a marks_c marks) {r : Bool} (hr : oyezlaw05_fits listens hours marks asleep = some r) :
    SpecV Try.prog 23 #[.agg #[.slice listens_a listens.length listens_c, .slice hours_a hours.length hours_c], .slice marks_a marks.length marks_c, .int .i64 asleep] F (.bool r) := by
 refine spec_of_shW (args := [.agg #[.slice listens_a listens.length listens_c, .slice hours_a hours.length hours_c], .slice marks_a marks.length marks_c, .int .i64 asleep]) Try.func23 rfl Try.ntmps23 (Nat.le_of_ble_eq_true rfl) ?_
 intro K _ _; rw [oyezlaw05_fits] at hr
 refine wsr ?_
 refine o_box rfl rfl ?_; intro b1 hb1
 refine oa rfl rfl (nsr ?_)
 refine ov (v_fieldAddr fa_26_0 rfl) rfl ?_
 refine ov (v_load Try.isAgg23 rfl (Has.own 0 rfl) rfl) rfl ?_
 refine om rfl rfl ?_
 obtain ⟨n, h2, r3⟩ := b1_ok hr; clear hr
 refine o_callV rfl Try.call21 rfl rfl rfl (oyezlaw05_cry_w h_listens h2) ?_
 refine oa rfl rfl (shO_nil ?_)
 refine shW_join (fun e1 F1 L1 => oyezlaw05_fits_j1 = some r ∧ F = F1 ∧ L1 = [] ∧ e1.sub []) ?_ ?_
 · refine wsr (om rfl rfl ?_)
   refine ov (v_lenS Try.underlying40 rfl) rfl ?_
   refine om rfl rfl (shO_nil ?_)
   refine shW_block ?_
   refine kW kn ?_
   refine shW_lp (fun fu2 e1 F1 L1 => ∃ (tl : List Int) (k : Int), tl.length = fu2 ∧ Lst marks k tl ∧ oyezlaw05_fits_l2 n tl k = some r ∧ F = F1 ∧ L1 = [] ∧ e1.sub [(7, .int .i64 n), (14, .slice marks_a marks.length marks_c), (15, .int .i64 (marks.length : Int)), (16, .int .i64 k)]) _ (m0 kr ⟨_, _, rfl, Lst.start _, r3, rfl, rfl, (sc rfl (sc rfl (sc rfl (sc rfl (sn _)))))⟩) ?_
   rintro fu2 e1 _ _ ⟨tl, k, hn5, hk4, r6, rfl, rfl, he7⟩
   refine shW_env _ he7 ?_; clear he7
   refine wsr ?_
   refine ov (v_lssK rfl rfl) rfl ?_
   refine shO_nil (shW_seq ?_)
   refine shW_condP rfl (fun c9 => ?_) (fun c9 => ?_)
   · obtain ⟨x, tl2, rfl, hx11, g12, hk10⟩ := Lst.succ hk4 c9
     rw [oyezlaw05_fits_l2] at r6
     refine shW_skip (shW_seq ?_)
     refine shW_block ?_
     refine wsr (om rfl rfl ?_)
     obtain ⟨b13, o14, c15, vs16, ha17, hs18, hle19, rfl, hl20, hc21⟩ := RowR.at (iE_ok _) h_marks ([]) g12.1 hx11
     refine ov (v_indexO Try.underlying40 Try.sizeOf41 rfl ha17 rfl g12) rfl ?_
     refine ov (v_load Try.isAgg41 rfl hs18 (hc21 0 (by decide))) rfl ?_
     refine oa rfl rfl (oa rfl rfl (shO_nil ?_))
     obtain ⟨k2, h22, r23⟩ := b1_ok r6; clear r6
     refine shW_join (fun e1 F1 L1 => F = F1 ∧ L1 = [] ∧ e1.sub [(7, .int .i64 n), (14, .slice marks_a marks.length marks_c), (15, .int .i64 (marks.length : Int)), (16, .int .i64 k), (40, .bool k2)]) ?_ ?_
     · clear r23
       refine shW_region (om rfl rfl ?_)
       refine ov (v_eql rfl rfl) rfl ?_
       refine om rfl rfl ?_
       by_cases c24 : x = 1
       · have r25 := ite_t h22 c24; clear h22
         refine shO_on (b := true) 23 rfl (Env.isT rfl c24) (om rfl rfl (shO_on (b := true) 23 rfl (Env.isT rfl c24) (om rfl rfl (shO_on (b := true) 23 rfl (Env.isT rfl c24) ?_))))
         obtain ⟨g26, r27⟩ := gd_ok r25; clear r25
         refine ov (v_shr rfl rfl g26) rfl ?_
         refine shO_on (b := true) 23 rfl (Env.isT rfl c24) ?_
         refine ov (v_and rfl rfl) rfl ?_
         refine shO_on (b := true) 23 rfl (Env.isT rfl c24) ?_
         refine ov (v_eql rfl rfl) rfl ?_
         refine ov (v_pick_t (evD_true rfl c24) rfl) rfl ?_
         refine om rfl rfl ?_
         by_cases c28 : (band (shr n k) 1) = 0
         · have r29 := ite_t r27 c28; clear r27
           refine shO_off (b' := true) 30 rfl (Env.isT rfl c28) rfl rfl (shO_off (b' := true) 30 rfl (Env.isT rfl c28) rfl rfl (shO_off (b' := true) 30 rfl (Env.isT rfl c28) rfl rfl (shO_offU 33 rfl rfl rfl (shO_offU 33 rfl rfl rfl (shO_offU 33 rfl rfl rfl (shO_offU 33 rfl rfl rfl (shO_offU 33 rfl rfl rfl (shO_off (b' := true) 30 rfl (Env.isT rfl c28) rfl rfl ?_))))))))
           refine ov (v_pick_t (evD_true rfl c28) rfl) rfl ?_
           refine shO_nil ?_
           obtain rfl := inj1 r29
           exact mi kr ⟨rfl, rfl, (sc rfl (sc rfl (sc rfl (sc rfl (sc rfl (sn _))))))⟩
         have r30 := ite_f r27 c28; clear r27
         refine shO_on (b := false) 30 rfl (Env.isF rfl c28) (om rfl rfl (shO_on (b := false) 30 rfl (Env.isF rfl c28) ?_))
         refine ov (v_eql rfl rfl) rfl ?_
         refine shO_on (b := false) 30 rfl (Env.isF rfl c28) (om rfl rfl ?_)
         by_cases c31 : x = 2
         · have r32 := ite_t r30 c31; clear r30
           refine shO_on (b := true) 33 rfl (Env.isT rfl c31) (om rfl rfl (shO_on (b := true) 33 rfl (Env.isT rfl c31) (om rfl rfl (shO_on (b := true) 33 rfl (Env.isT rfl c31) ?_))))
           obtain ⟨g33, r34⟩ := gd_ok r32; clear r32
           refine ov (v_shr rfl rfl g33) rfl ?_
           refine shO_on (b := true) 33 rfl (Env.isT rfl c31) ?_
           refine ov (v_and rfl rfl) rfl ?_
           refine shO_on (b := true) 33 rfl (Env.isT rfl c31) ?_
           refine ov (v_eql rfl rfl) rfl ?_
           refine shO_on (b := false) 30 rfl (Env.isF rfl c28) ?_
           refine ov (v_pick_t (evD_true rfl c31) rfl) rfl ?_
           refine ov (v_pick_f (evD_false rfl c28) rfl) rfl ?_
           refine shO_nil ?_
           obtain rfl := inj1 r34
           exact mi kr ⟨rfl, rfl, (sc rfl (sc rfl (sc rfl (sc rfl (sc rfl (sn _))))))⟩
         have r35 := ite_f r30 c31; clear r30
         refine shO_off (b' := false) 33 rfl (Env.isF rfl c31) rfl rfl (shO_off (b' := false) 33 rfl (Env.isF rfl c31) rfl rfl (shO_off (b' := false) 33 rfl (Env.isF rfl c31) rfl rfl (shO_off (b' := false) 33 rfl (Env.isF rfl c31) rfl rfl (shO_off (b' := false) 33 rfl (Env.isF rfl c31) rfl rfl (shO_on (b := false) 30 rfl (Env.isF rfl c28) ?_)))))
         refine ov (v_pick_f (evD_false rfl c31) rfl) rfl ?_
         refine ov (v_pick_f (evD_false rfl c28) rfl) rfl ?_
         refine shO_nil ?_
         obtain rfl := inj1 r35
         exact mi kr ⟨rfl, rfl, (sc rfl (sc rfl (sc rfl (sc rfl (sc rfl (sn _))))))⟩
       have r36 := ite_f h22 c24; clear h22
       refine shO_off (b' := false) 23 rfl (Env.isF rfl c24) rfl rfl (shO_off (b' := false) 23 rfl (Env.isF rfl c24) rfl rfl (shO_off (b' := false) 23 rfl (Env.isF rfl c24) rfl rfl (shO_off (b' := false) 23 rfl (Env.isF rfl c24) rfl rfl (shO_off (b' := false) 23 rfl (Env.isF rfl c24) rfl rfl ?_))))
       refine ov (v_pick_f (evD_false rfl c24) rfl) rfl ?_
       refine om rfl rfl (shO_on (b := false) 30 rfl rfl (om rfl rfl (shO_on (b := false) 30 rfl rfl ?_)))
       refine ov (v_eql rfl rfl) rfl ?_
       refine shO_on (b := false) 30 rfl rfl (om rfl rfl ?_)
       by_cases c37 : x = 2
       · have r38 := ite_t r36 c37; clear r36
         refine shO_on (b := true) 33 rfl (Env.isT rfl c37) (om rfl rfl (shO_on (b := true) 33 rfl (Env.isT rfl c37) (om rfl rfl (shO_on (b := true) 33 rfl (Env.isT rfl c37) ?_))))
         obtain ⟨g39, r40⟩ := gd_ok r38; clear r38
         refine ov (v_shr rfl rfl g39) rfl ?_
         refine shO_on (b := true) 33 rfl (Env.isT rfl c37) ?_
         refine ov (v_and rfl rfl) rfl ?_
         refine shO_on (b := true) 33 rfl (Env.isT rfl c37) ?_
         refine ov (v_eql rfl rfl) rfl ?_
         refine shO_on (b := false) 30 rfl rfl ?_
         refine ov (v_pick_t (evD_true rfl c37) rfl) rfl ?_
         refine ov (v_pick_f rfl rfl) rfl ?_
         refine shO_nil ?_
         obtain rfl := inj1 r40
         exact mi kr ⟨rfl, rfl, (sc rfl (sc rfl (sc rfl (sc rfl (sc rfl (sn _))))))⟩
       have r41 := ite_f r36 c37; clear r36
       refine shO_off (b' := false) 33 rfl (Env.isF rfl c37) rfl rfl (shO_off (b' := false) 33 rfl (Env.isF rfl c37) rfl rfl (shO_off (b' := false) 33 rfl (Env.isF rfl c37) rfl rfl (shO_off (b' := false) 33 rfl (Env.isF rfl c37) rfl rfl (shO_off (b' := false) 33 rfl (Env.isF rfl c37) rfl rfl (shO_on (b := false) 30 rfl rfl ?_)))))
       refine ov (v_pick_f (evD_false rfl c37) rfl) rfl ?_
       refine ov (v_pick_f rfl rfl) rfl ?_
       refine shO_nil ?_
       obtain rfl := inj1 r41
       exact mi kr ⟨rfl, rfl, (sc rfl (sc rfl (sc rfl (sc rfl (sc rfl (sn _))))))⟩
     rintro e1 _ _ ⟨rfl, rfl, he42⟩
     refine shW_env _ he42 ?_; clear he42
     refine shW_cond rfl (fun c43 => ?_) (fun c43 => ?_)
     · have r44 := bt r23 c43; clear r23
       refine wsr (oa rfl rfl (shO_nil (shW_ret (inBlock_ret (andThen_ret (andThen_ret (inBlock_ret (andThen_ret ?_))))))))
       refine q_res1 Try.results23 (res_tmp rfl) (sr) ?_
       obtain rfl := inj1 r44
       exact rfl
     have r45 := bf r23 c43; clear r23
     refine shW_skip (inBlock_n (id := 1) (shW_region ?_))
     refine ov (v_add rfl rfl (Lst.r64 hk4 c9 (RowR.lt h_marks))) rfl ?_
     refine om rfl rfl (shO_nil ?_)
     subst hn5; exact le kr ⟨_, _, rfl, hk10, r45, rfl, rfl, (sc rfl (sc rfl (sc rfl (sc rfl (sn _)))))⟩
   obtain rfl := Lst.zero hk4 c9
   rw [oyezlaw05_fits_l2] at r6
   refine shW_exit (andThen_exit (andThen_exit ?_))
   refine inBlock_exit ?_
   exact mi kr ⟨r6, rfl, rfl, (sn _)⟩
 rintro e1 _ _ ⟨r46, rfl, rfl, he47⟩
 refine shW_env _ he47 ?_; clear he47
 rw [oyezlaw05_fits_j1] at r46
 refine wsr (oa rfl rfl (shO_nil (shW_ret ?_)))
 refine q_res1 Try.results23 (res_tmp rfl) (sr) ?_
 obtain rfl := inj1 r46
 exact rfl
set_option maxHeartbeats 1000000 in
theorem night_Table_w {listens_a : Option Addr} {listens_c : Nat} {listens : List (List Int)} {hours_a : Option Addr} {hours_c : Nat} {hours : List (List Int)} {F : FS} (h_listens : RowR 1 (slE 1 (iE .i64)) F listens_a listens_c listens) (h_hours : RowR 1 (slE 1 (iE .i64)) F hours_a hours_c hours) {r : List (List Int)} {r2 : Int} (hr : night_Table listens hours = some (r, r2)) :
    SH.Spec Try.prog 32 #[.agg #[.slice listens_a listens.length listens_c, .slice hours_a hours.length hours_c]] F [] fun F' L' v => ∃ (ra : Option Addr) (rn : Nat) (rc : Nat) (rL : LH), v = .tuple #[.slice ra rn rc, .int .i64 r2] ∧ L' = rL ++ [] ∧ SlR 0 27 1 (slE 1 (iE .i64)) F' ra rn rc r rL := by
 refine spec_of_shW (args := [.agg #[.slice listens_a listens.length listens_c, .slice hours_a hours.length hours_c]]) Try.func32 rfl Try.ntmps32 (Nat.le_of_ble_eq_true rfl) ?_
 intro K _ _; rw [night_Table] at hr
 refine wsr ?_
 refine o_box rfl rfl ?_; intro b1 hb1
 refine oa rfl rfl (oa rfl rfl (nsr ?_))
 refine ov (v_loadA (cs := #[.slice listens_a listens.length listens_c, .slice hours_a hours.length hours_c]) Try.isAgg26 Try.sizeOf26 rfl (Has.own 0 rfl) (Nat.le_of_ble_eq_true rfl) rfl) rfl ?_
 obtain ⟨d, n, h2, r3⟩ := b2_ok hr; clear hr
 refine o_call0 rfl Try.call55 rfl rfl rfl (night_told_w h_listens h_hours h2) ?_; rintro _ F4 _ hF5 hn6 ⟨v8, Lb10, rfl, rfl, hp9⟩
 refine shO_L (lp (ln rfl)) ?_
 refine kO (kf (fS fO) kr) ?_
 refine om rfl rfl (ox rfl rfl rfl (ox rfl rfl rfl (oa rfl rfl (oa rfl rfl (shO_nil (shW_seq (wsr (om rfl rfl ?_))))))))
 refine ov (v_neq rfl rfl) rfl ?_
 refine shO_nil ?_
 refine shW_condP rfl (fun c11 => ?_) (fun c11 => ?_)
 · have r12 := ite_t r3 c11; clear r3
   refine wsr (om rfl rfl (oa rfl rfl (oa rfl rfl (shO_nil ?_))))
   refine kW kn ?_
   refine shW_ret (andThen_ret ?_)
   refine q_res2 Try.results32 (res_tmp rfl) (res_tmp rfl) (sr) ?_
   obtain ⟨rfl, rfl⟩ := inj2 r12
   exact ⟨_, _, _, [], rfl, rfl, SlR.nil _ _ _ _ _⟩
 have r13 := ite_f r3 c11; clear r3
 refine shW_skip (shW_seq ?_)
 obtain ⟨listens2, hours2, cried, rows, h14, r15⟩ := b4_ok r13; clear r13
 have h21 := hp9; rw [h14] at h21; obtain ⟨b16, m17, a22, c23, a25, c26, b28, es29, cl30, a32, c33, hv18, hz19, h24, h27, hR31, h34, hL20⟩ := ob_139_of h21; subst hv18; subst hL20
 refine shW_L (L' := [(b1, .cells #[.slice listens_a listens.length listens_c, .slice hours_a hours.length hours_c] 26 (0, 0)), (b28, .map es29 cl30)]) rfl ?_
 refine shW_region (om rfl rfl ?_)
 obtain ⟨l, h35, r36⟩ := b1_ok r15; clear r15
 refine o_call0 rfl Try.call61 rfl rfl rfl (night_desk_table_w hz19 h24 h27 h34 h35) ?_; rintro _ F37 _ hF38 hn39 ⟨a41, n45, c42, Lb43, rfl, rfl, hz44⟩
 replace hz44 := hz44.new fun p hp => hn39 p (by simp [hp])
 refine shO_L (lp (ln rfl)) ?_
 refine kO (kf (fS fO) (kf (fS fO) kr)) ?_
 refine oa rfl rfl (oa rfl rfl (shO_nil ?_))
 refine kW (kd (kd kr)) ?_
 refine shW_ret ?_
 refine q_res2 Try.results32 (res_tmp rfl) (res_tmp rfl) (sr) ?_
 obtain ⟨rfl, rfl⟩ := inj2 r36
 exact ⟨_, _, _, _, rfl, rfl, hz44.any⟩
set_option maxHeartbeats 1000000 in
theorem slices_IndexFunc_int_int__w {s__a : Option Addr} {s__c : Nat} {s_ : List (List Int)} {f_f : FuncId} {f_1 : Array Value} {f_2 : Array Value} {f : (List Int) → Option Bool} {F : FS} (h_s_ : RowR 1 (slE 1 (iE .i64)) F s__a s__c s_) (h_f : FnR Try.prog F f_f f_1 f_2 (slE 1 (iE .i64)) Value.bool f) {r : Int} (hr : slices_IndexFunc_int_int_ s_ f = some r) :
    SpecV Try.prog 122 #[.slice s__a s_.length s__c, .func (.func f_f) f_1 f_2] F (.int .i64 r) := by
 refine spec_of_shW (args := [.slice s__a s_.length s__c, .func (.func f_f) f_1 f_2]) Try.func122 rfl Try.ntmps122 (Nat.le_of_ble_eq_true rfl) ?_
 intro K _ _; rw [slices_IndexFunc_int_int_] at hr
 refine wsr (oa rfl rfl (shO_nil ?_))
 refine shW_join (fun e1 F1 L1 => slices_IndexFunc_int_int__j1 = some r ∧ F = F1 ∧ L1 = [] ∧ e1.sub []) ?_ ?_
 · refine wsr (om rfl rfl ?_)
   refine ov (v_lenS Try.underlying23 rfl) rfl ?_
   refine om rfl rfl (shO_nil ?_)
   refine shW_block ?_
   refine shW_lp (fun fu2 e1 F1 L1 => ∃ (tl : List (List Int)) (k : Int), tl.length = fu2 ∧ Lst s_ k tl ∧ slices_IndexFunc_int_int__l2 f tl k = some r ∧ F = F1 ∧ L1 = [] ∧ e1.sub [(0, .slice s__a s_.length s__c), (1, .func (.func f_f) f_1 f_2), (7, .int .i64 (s_.length : Int)), (8, .int .i64 k)]) _ (m0 kr ⟨_, _, rfl, Lst.start _, hr, rfl, rfl, (sc rfl (sc rfl (sc rfl (sc rfl (sn _)))))⟩) ?_
   rintro fu2 e1 _ _ ⟨tl, k, hn2, hk1, r3, rfl, rfl, he4⟩
   refine shW_env _ he4 ?_; clear he4
   refine wsr ?_
   refine ov (v_lssK rfl rfl) rfl ?_
   refine shO_nil (shW_seq ?_)
   refine shW_condP rfl (fun c6 => ?_) (fun c6 => ?_)
   · obtain ⟨x, tl2, rfl, hx8, g9, hk7⟩ := Lst.succ hk1 c6
     rw [slices_IndexFunc_int_int__l2] at r3
     refine shW_skip (shW_seq ?_)
     refine shW_block ?_
     refine wsr (om rfl rfl (oa rfl rfl (nsr (om rfl rfl (om rfl rfl (om rfl rfl ?_))))))
     obtain ⟨b10, o11, c12, vs13, ha14, hs15, hle16, ⟨a19, c20, rfl, h21⟩, hl17, hc18⟩ := RowR.at (slE_ok (iE_ok _)) h_s_ ([]) g9.1 hx8
     refine ov (v_indexO Try.underlying23 Try.sizeOf27 rfl ha14 rfl g9) rfl ?_
     refine ov (v_load Try.isAgg27 rfl hs15 (hc18 0 (by decide))) rfl ?_
     obtain ⟨ok, h22, r23⟩ := b1_ok r3; clear r3
     refine o_callV rfl h_f.1 rfl rfl rfl (h_f.2 _ (FExt.refl _) _ _ _ ⟨_, _, rfl, h21⟩ h22) ?_
     refine shO_nil ?_
     refine shW_cond rfl (fun c24 => ?_) (fun c24 => ?_)
     · have r25 := bt r23 c24; clear r23
       refine wsr (om rfl rfl (oa rfl rfl (shO_nil (shW_ret (inBlock_ret (andThen_ret (andThen_ret (inBlock_ret (andThen_ret ?_)))))))))
       refine q_res1 Try.results122 (res_tmp rfl) (sr) ?_
       obtain rfl := inj1 r25
       exact rfl
     have r26 := bf r23 c24; clear r23
     refine shW_skip (inBlock_n (id := 1) (shW_region ?_))
     refine ov (v_add rfl rfl (Lst.r64 hk1 c6 (RowR.lt h_s_))) rfl ?_
     refine om rfl rfl (shO_nil ?_)
     subst hn2; exact le kr ⟨_, _, rfl, hk7, r26, rfl, rfl, (sc rfl (sc rfl (sc rfl (sc rfl (sn _)))))⟩
   obtain rfl := Lst.zero hk1 c6
   rw [slices_IndexFunc_int_int__l2] at r3
   refine shW_exit (andThen_exit (andThen_exit ?_))
   refine inBlock_exit ?_
   exact mi kr ⟨r3, rfl, rfl, (sn _)⟩
 rintro e1 _ _ ⟨r27, rfl, rfl, he28⟩
 refine shW_env _ he28 ?_; clear he28
 rw [slices_IndexFunc_int_int__j1] at r27
 refine wsr (oa rfl rfl (shO_nil (shW_ret ?_)))
 refine q_res1 Try.results122 (res_tmp rfl) (sr) ?_
 obtain rfl := inj1 r27
 exact rfl
set_option maxHeartbeats 1000000 in
theorem slices_ContainsFunc_int_int__w {s__a : Option Addr} {s__c : Nat} {s_ : List (List Int)} {f_f : FuncId} {f_1 : Array Value} {f_2 : Array Value} {f : (List Int) → Option Bool} {F : FS} (h_s_ : RowR 1 (slE 1 (iE .i64)) F s__a s__c s_) (h_f : FnR Try.prog F f_f f_1 f_2 (slE 1 (iE .i64)) Value.bool f) {r : Bool} (hr : slices_ContainsFunc_int_int_ s_ f = some r) :
    SpecV Try.prog 110 #[.slice s__a s_.length s__c, .func (.func f_f) f_1 f_2] F (.bool r) := by
 refine spec_of_shW (args := [.slice s__a s_.length s__c, .func (.func f_f) f_1 f_2]) Try.func110 rfl Try.ntmps110 (Nat.le_of_ble_eq_true rfl) ?_
 intro K _ _; rw [slices_ContainsFunc_int_int_] at hr
 refine wsr (oa rfl rfl (nsr (om rfl rfl (om rfl rfl ?_))))
 obtain ⟨n, h1, r2⟩ := b1_ok hr; clear hr
 refine o_callV rfl Try.call122 rfl rfl rfl (slices_IndexFunc_int_int__w h_s_ h_f h1) ?_
 refine ov (v_geqK rfl rfl) rfl ?_
 refine oa rfl rfl (shO_nil (shW_ret ?_))
 refine q_res1 Try.results110 (res_tmp rfl) (sr) ?_
 obtain rfl := inj1 r2
 exact rfl
set_option maxHeartbeats 1000000 in
theorem night_every_int_1_w {x_a : Option Addr} {x_c : Nat} {x : List Int} {b_so : Nat} {so_f : FuncId} {so_1 : Array Value} {so_2 : Array Value} {so : (List Int) → Option Bool} {mb_so : Nat × Nat} {F : FS} (h_x : RowR 1 (iE .i64) F x_a x_c x) (hb_so : F b_so = some (.cells #[.func (.func so_f) so_1 so_2] 74 mb_so)) (h_so : FnR Try.prog F so_f so_1 so_2 (slE 1 (iE .i64)) Value.bool so) {r : Bool} (hr : night_every_int_1 x so = some r) :
    SpecV Try.prog 111 #[.slice x_a x.length x_c, .pointer (some ⟨b_so, 0, none⟩)] F (.bool r) := by
 refine spec_of_shW (args := [.slice x_a x.length x_c, .pointer (some ⟨b_so, 0, none⟩)]) Try.func111 rfl Try.ntmps111 (Nat.le_of_ble_eq_true rfl) ?_
 intro K _ _; rw [night_every_int_1] at hr
 refine wsr (oa rfl rfl (nsr ?_))
 refine ov (v_load Try.isAgg74 rfl (Has.frozen hb_so) rfl) rfl ?_
 refine om rfl rfl ?_
 obtain ⟨ok, h1, r2⟩ := b1_ok hr; clear hr
 refine o_callV rfl h_so.1 rfl rfl rfl (h_so.2 _ (FExt.refl _) _ _ _ ⟨_, _, rfl, h_x⟩ h1) ?_
 refine ov (v_notB rfl) rfl ?_
 refine oa rfl rfl (shO_nil (shW_ret ?_))
 refine q_res1 Try.results111 (res_tmp rfl) (sr) ?_
 obtain rfl := inj1 r2
 exact rfl
set_option maxHeartbeats 1000000 in
theorem night_every_int_w {l_a : Option Addr} {l_c : Nat} {l : List (List Int)} {so_f : FuncId} {so_1 : Array Value} {so_2 : Array Value} {so : (List Int) → Option Bool} {F : FS} (h_l : RowR 1 (slE 1 (iE .i64)) F l_a l_c l) (h_so : FnR Try.prog F so_f so_1 so_2 (slE 1 (iE .i64)) Value.bool so) {r : Bool} (hr : night_every_int l so = some r) :
    SpecV Try.prog 84 #[.slice l_a l.length l_c, .func (.func so_f) so_1 so_2] F (.bool r) := by
 refine spec_of_shW (args := [.slice l_a l.length l_c, .func (.func so_f) so_1 so_2]) Try.func84 rfl Try.ntmps84 (Nat.le_of_ble_eq_true rfl) ?_
 intro K _ _; rw [night_every_int] at hr
 refine wsr ?_
 refine o_box rfl rfl ?_; intro b1 hb1
 refine oa rfl rfl (nsr (om rfl rfl ?_))
 refine ov (v_makeFunc rfl rfl) rfl ?_
 refine shO_freeze 0 rfl hb1 ?_; intro F2 hF3 hz4
 refine shO_L (L' := []) rfl ?_
 replace h_l := h_l.mono (slE_ok (iE_ok _)) hF3
 replace h_so := h_so.mono hF3
 have hn8 : FnR Try.prog F2 111 #[] #[.pointer (some ⟨b1, 0, none⟩)] (slE 1 (iE .i64)) Value.bool (fun xx_ : (List Int) => night_every_int_1 xx_ so) := ⟨Try.call111, fun F2 h2 vs xx_ r ha hr => by obtain ⟨a5, c6, rfl, h7⟩ := ha; exact night_every_int_1_w h7 (h2 _ _ hz4) (h_so.mono h2) hr⟩
 obtain ⟨ok, h9, r10⟩ := b1_ok hr; clear hr
 refine o_callV rfl Try.call110 rfl rfl rfl (slices_ContainsFunc_int_int__w h_l hn8 h9) ?_
 refine ov (v_notB rfl) rfl ?_
 refine oa rfl rfl (shO_nil (shW_ret ?_))
 refine q_res1 Try.results84 (res_tmp rfl) (sr) ?_
 obtain rfl := inj1 r10
 exact rfl
set_option maxHeartbeats 1000000 in
theorem night_every_int_1__w {x : Int} {b_so : Nat} {so_f : FuncId} {so_1 : Array Value} {so_2 : Array Value} {so : Int → Option Bool} {mb_so : Nat × Nat} {F : FS} (hb_so : F b_so = some (.cells #[.func (.func so_f) so_1 so_2] 77 mb_so)) (h_so : FnR Try.prog F so_f so_1 so_2 (iE .i64) Value.bool so) {r : Bool} (hr : night_every_int_1_ x so = some r) :
    SpecV Try.prog 112 #[.int .i64 x, .pointer (some ⟨b_so, 0, none⟩)] F (.bool r) := by
 refine spec_of_shW (args := [.int .i64 x, .pointer (some ⟨b_so, 0, none⟩)]) Try.func112 rfl Try.ntmps112 (Nat.le_of_ble_eq_true rfl) ?_
 intro K _ _; rw [night_every_int_1_] at hr
 refine wsr (oa rfl rfl (nsr ?_))
 refine ov (v_load Try.isAgg77 rfl (Has.frozen hb_so) rfl) rfl ?_
 refine om rfl rfl ?_
 obtain ⟨ok, h1, r2⟩ := b1_ok hr; clear hr
 refine o_callV rfl h_so.1 rfl rfl rfl (h_so.2 _ (FExt.refl _) _ _ _ rfl h1) ?_
 refine ov (v_notB rfl) rfl ?_
 refine oa rfl rfl (shO_nil (shW_ret ?_))
 refine q_res1 Try.results112 (res_tmp rfl) (sr) ?_
 obtain rfl := inj1 r2
 exact rfl
set_option maxHeartbeats 1000000 in
theorem night_every_int__w {l_a : Option Addr} {l_c : Nat} {l : List Int} {so_f : FuncId} {so_1 : Array Value} {so_2 : Array Value} {so : Int → Option Bool} {F : FS} (h_l : RowR 1 (iE .i64) F l_a l_c l) (h_so : FnR Try.prog F so_f so_1 so_2 (iE .i64) Value.bool so) {r : Bool} (hr : night_every_int_ l so = some r) :
    SpecV Try.prog 87 #[.slice l_a l.length l_c, .func (.func so_f) so_1 so_2] F (.bool r) := by
 refine spec_of_shW (args := [.slice l_a l.length l_c, .func (.func so_f) so_1 so_2]) Try.func87 rfl Try.ntmps87 (Nat.le_of_ble_eq_true rfl) ?_
 intro K _ _; rw [night_every_int_] at hr
 refine wsr ?_
 refine o_box rfl rfl ?_; intro b1 hb1
 refine oa rfl rfl (nsr (om rfl rfl ?_))
 refine ov (v_makeFunc rfl rfl) rfl ?_
 refine shO_freeze 0 rfl hb1 ?_; intro F2 hF3 hz4
 refine shO_L (L' := []) rfl ?_
 replace h_l := h_l.mono (iE_ok _) hF3
 replace h_so := h_so.mono hF3
 have hn5 : FnR Try.prog F2 112 #[] #[.pointer (some ⟨b1, 0, none⟩)] (iE .i64) Value.bool (fun xx_ : Int => night_every_int_1_ xx_ so) := ⟨Try.call112, fun F2 h2 vs xx_ r ha hr => by obtain rfl := ha; exact night_every_int_1__w (h2 _ _ hz4) (h_so.mono h2) hr⟩
 obtain ⟨ok, h6, r7⟩ := b1_ok hr; clear hr
 refine o_callV rfl Try.call38 rfl rfl rfl (slices_ContainsFunc_int_int_w h_l hn5 h6) ?_
 refine ov (v_notB rfl) rfl ?_
 refine oa rfl rfl (shO_nil (shW_ret ?_))
 refine q_res1 Try.results87 (res_tmp rfl) (sr) ?_
 obtain rfl := inj1 r7
 exact rfl
set_option maxHeartbeats 1000000 in
theorem night_Shows_2_1_w {n : Int} {F : FS} {r : Bool} (hr : night_Shows_2_1 n = some r) :
    SpecV Try.prog 88 #[.int .i64 n] F (.bool r) := by
 refine spec_of_shW (args := [.int .i64 n]) Try.func88 rfl Try.ntmps88 (Nat.le_of_ble_eq_true rfl) ?_
 intro K _ _; rw [night_Shows_2_1] at hr
 refine wsr (oa rfl rfl (nsr (om rfl rfl ?_)))
 obtain ⟨ok, h1, r2⟩ := b1_ok hr; clear hr
 refine o_callV rfl Try.call59 rfl rfl rfl (night_in_w h1) ?_
 refine oa rfl rfl (shO_nil (shW_ret ?_))
 refine q_res1 Try.results88 (res_tmp rfl) (sr) ?_
 obtain rfl := inj1 r2
 exact rfl
set_option maxHeartbeats 1000000 in
theorem night_Shows_2_w {l_a : Option Addr} {l_c : Nat} {l : List Int} {F : FS} (h_l : RowR 1 (iE .i64) F l_a l_c l) {r : Bool} (hr : night_Shows_2 l = some r) :
    SpecV Try.prog 86 #[.slice l_a l.length l_c] F (.bool r) := by
 refine spec_of_shW (args := [.slice l_a l.length l_c]) Try.func86 rfl Try.ntmps86 (Nat.le_of_ble_eq_true rfl) ?_
 intro K _ _; rw [night_Shows_2] at hr
 refine wsr (oa rfl rfl (nsr (om rfl rfl ?_)))
 have hn1 : FnR Try.prog F 88 #[] #[] (iE .i64) Value.bool (fun xx_ : Int => night_Shows_2_1 xx_) := ⟨Try.call88, fun F2 h2 vs xx_ r ha hr => by obtain rfl := ha; exact night_Shows_2_1_w hr⟩
 obtain ⟨ok, h2, r3⟩ := b1_ok hr; clear hr
 refine o_callV rfl Try.call87 rfl rfl rfl (night_every_int__w h_l hn1 h2) ?_
 refine oa rfl rfl (shO_nil (shW_ret ?_))
 refine q_res1 Try.results86 (res_tmp rfl) (sr) ?_
 obtain rfl := inj1 r3
 exact rfl
set_option maxHeartbeats 1000000 in
theorem night_Shows_1_w {l_a : Option Addr} {l_c : Nat} {l : List Int} {b_d : Nat} {b_d_ : Nat} {listens_a : Option Addr} {listens_c : Nat} {listens : List (List Int)} {hours_a : Option Addr} {hours_c : Nat} {hours : List (List Int)} {v1 : Value} {rows_a : Option Addr} {rows_c : Nat} {rows : List (List Bool)} {mb_d_ : Nat × Nat} {mb_d : Nat × Nat} {F : FS} (_h_l : RowR 1 (iE .i64) F l_a l_c l) (hb_d : F b_d = some (.cells #[.pointer (some ⟨b_d_, 0, none⟩)] 105 mb_d)) (hb_d_ : F b_d_ = some (.cells #[.slice listens_a listens.length listens_c, .slice hours_a hours.length hours_c, v1, .slice rows_a rows.length rows_c] 139 mb_d_)) (h_listens : RowR 1 (slE 1 (iE .i64)) F listens_a listens_c listens) (h_hours : RowR 1 (slE 1 (iE .i64)) F hours_a hours_c hours) (_h_rows : RowR 64 (arE 64 cB) F rows_a rows_c rows) {r : Bool} (hr : night_Shows_1 l listens hours rows = some r) :
    SpecV Try.prog 85 #[.slice l_a l.length l_c, .pointer (some ⟨b_d, 0, none⟩)] F (.bool r) := by
 refine spec_of_shW (args := [.slice l_a l.length l_c, .pointer (some ⟨b_d, 0, none⟩)]) Try.func85 rfl Try.ntmps85 (Nat.le_of_ble_eq_true rfl) ?_
 intro K _ _; rw [night_Shows_1] at hr
 refine wsr (oa rfl rfl (nsr (om rfl rfl ?_)))
 refine ov (v_lenS Try.underlying27 rfl) rfl ?_
 refine ov (v_load Try.isAgg105 rfl (Has.frozen hb_d) rfl) rfl ?_
 obtain ⟨n, h2, r3⟩ := b1_ok hr; clear hr
 refine o_callV rfl Try.call72 rfl rfl rfl (night_desk_sets_w hb_d_ h_listens h_hours h2) ?_
 refine ov (v_eql rfl rfl) rfl ?_
 refine oa rfl rfl (shO_nil (shW_ret ?_))
 refine q_res1 Try.results85 (res_tmp rfl) (sr) ?_
 obtain rfl := inj1 r3
 exact rfl
set_option maxHeartbeats 1000000 in
theorem night_Shows_w {listens_a : Option Addr} {listens_c : Nat} {listens : List (List Int)} {hours_a : Option Addr} {hours_c : Nat} {hours : List (List Int)} {table_a : Option Addr} {table_c : Nat} {table : List (List Int)} {F : FS} (h_listens : RowR 1 (slE 1 (iE .i64)) F listens_a listens_c listens) (h_hours : RowR 1 (slE 1 (iE .i64)) F hours_a hours_c hours) (h_table : RowR 1 (slE 1 (iE .i64)) F table_a table_c table) {r : Int} {r2 : Int} (hr : night_Shows listens hours table = some (r, r2)) :
    SpecV Try.prog 35 #[.agg #[.slice listens_a listens.length listens_c, .slice hours_a hours.length hours_c], .slice table_a table.length table_c] F (.tuple #[.int .i64 r, .int .i64 r2]) := by
 refine spec_of_shW (args := [.agg #[.slice listens_a listens.length listens_c, .slice hours_a hours.length hours_c], .slice table_a table.length table_c]) Try.func35 rfl Try.ntmps35 (Nat.le_of_ble_eq_true rfl) ?_
 intro K _ _; rw [night_Shows] at hr
 refine wsr ?_
 refine o_box rfl rfl ?_; intro b1 hb1
 refine o_box rfl rfl ?_; intro b2 hb2
 refine o_alloc rfl Try.zeroValue3 ?_; intro b3 hb3
 refine o_alloc rfl Try.zeroValue32 ?_; intro b4 hb4
 refine nsr ?_
 refine ov (v_loadA (cs := #[.slice listens_a listens.length listens_c, .slice hours_a hours.length hours_c]) Try.isAgg26 Try.sizeOf26 rfl (Has.own 3 rfl) (Nat.le_of_ble_eq_true rfl) rfl) rfl ?_
 obtain ⟨d, n, h5, r6⟩ := b2_ok hr; clear hr
 refine o_call0 rfl Try.call55 rfl rfl rfl (night_told_w h_listens h_hours h5) ?_; rintro _ F7 _ hF8 hn9 ⟨v11, Lb13, rfl, rfl, hp12⟩
 replace h_table := h_table.mono (slE_ok (iE_ok _)) hF8
 refine shO_L (lp (ln rfl)) ?_
 refine kO (kf (fS fO) (kf (fS fO) (kf (fS fO) (kf (fS fO) kr)))) ?_
 refine om rfl rfl (ox rfl rfl rfl (ox rfl rfl rfl ?_))
 refine o_alloc rfl Try.zeroValue105 ?_; intro b14 hb14
 refine o_store (i := 0) Try.sizeOf105 rfl rfl hp12.one rfl (Nat.le_of_ble_eq_true rfl) ?_
 refine shO_L (L' := (b14, .cells #[v11] 105 (0, 0)) :: ((b4, .cells #[.int .i64 0] 32 (0, 0)) :: ((b3, .cells #[.int .i64 0] 3 (0, 0)) :: ((b2, .cells #[.slice table_a table.length table_c] 23 (0, 0)) :: ((b1, .cells #[.slice listens_a listens.length listens_c, .slice hours_a hours.length hours_c] 26 (0, 0)) :: (Lb13 ++ [])))))) rfl ?_
 refine oa rfl rfl (shO_nil (shW_seq ?_))
 refine shW_block ?_
 refine wsr (om rfl rfl ?_)
 refine ov (v_neq rfl rfl) rfl ?_
 refine oa rfl rfl (shO_nil ?_)
 refine shW_condP rfl (fun c15 => ?_) (fun c15 => ?_)
 · have r16 := ite_t r6 c15; clear r6
   refine wsr (om rfl rfl ?_)
   refine o_store (i := 2) Try.sizeOf3 rfl rfl rfl rfl (Nat.le_of_ble_eq_true rfl) ?_
   refine shO_L (L' := (b14, .cells #[v11] 105 (0, 0)) :: ((b4, .cells #[.int .i64 0] 32 (0, 0)) :: ((b3, .cells #[.int .i64 0] 3 (0, 0)) :: ((b2, .cells #[.slice table_a table.length table_c] 23 (0, 0)) :: ((b1, .cells #[.slice listens_a listens.length listens_c, .slice hours_a hours.length hours_c] 26 (0, 0)) :: (Lb13 ++ [])))))) rfl ?_
   refine o_store (i := 1) Try.sizeOf32 rfl rfl rfl rfl (Nat.le_of_ble_eq_true rfl) ?_
   refine shO_L (L' := (b14, .cells #[v11] 105 (0, 0)) :: ((b4, .cells #[.int .i64 n] 32 (0, 0)) :: ((b3, .cells #[.int .i64 0] 3 (0, 0)) :: ((b2, .cells #[.slice table_a table.length table_c] 23 (0, 0)) :: ((b1, .cells #[.slice listens_a listens.length listens_c, .slice hours_a hours.length hours_c] 26 (0, 0)) :: (Lb13 ++ [])))))) rfl ?_
   refine shO_nil ?_
   refine kW (kd (kc (kc kn))) ?_
   refine shW_ret (inBlock_ret (andThen_ret ?_))
   refine q_res2 Try.results35 (res_cell Try.isAgg3 rfl (Has.own 1 rfl) rfl) (res_cell Try.isAgg32 rfl (Has.own 0 rfl) rfl) (s1 (s1 sr)) ?_
   obtain ⟨rfl, rfl⟩ := inj2 r16
   exact rfl
 have r17 := ite_f r6 c15; clear r6
 obtain ⟨listens2, hours2, cried, rows, h18, r19⟩ := b4_ok r17; clear r17
 have h25 := hp12; rw [h18] at h25; obtain ⟨b20, m21, a26, c27, a29, c30, b32, es33, cl34, a36, c37, hv22, hz23, h28, h31, hR35, h38, hL24⟩ := ob_139_of h25; subst hv22; subst hL24
 refine shW_L (L' := [(b14, .cells #[.pointer (some ⟨b20, 0, none⟩)] 105 (0, 0)), (b4, .cells #[.int .i64 0] 32 (0, 0)), (b3, .cells #[.int .i64 0] 3 (0, 0)), (b2, .cells #[.slice table_a table.length table_c] 23 (0, 0)), (b1, .cells #[.slice listens_a listens.length listens_c, .slice hours_a hours.length hours_c] 26 (0, 0)), (b32, .map es33 cl34)]) rfl ?_
 obtain ⟨k, h43, r44⟩ := b1_ok r19; clear r19
 refine shW_joinF (fun e1 F1 L1 => FExt F7 F1 ∧ L1 = [(b4, .cells #[.int .i64 0] 32 (0, 0)), (b3, .cells #[.int .i64 0] 3 (0, 0)), (b2, .cells #[.slice table_a table.length table_c] 23 (0, 0)), (b32, .map es33 cl34)] ∧ e1.sub [(3, .pointer (some ⟨b2, 0, none⟩)), (4, .pointer (some ⟨b3, 0, none⟩)), (5, .pointer (some ⟨b4, 0, none⟩)), (6, .pointer (some ⟨b14, 0, none⟩)), (23, .bool k)] ∧ F1 b14 = some (.cells #[.pointer (some ⟨b20, 0, none⟩)] 105 (0, 0))) ?_ ?_
 · clear r44
   refine shW_region ?_
   refine ov (v_load Try.isAgg23 rfl (Has.own 3 rfl) rfl) rfl ?_
   refine ov (v_lenS Try.underlying23 rfl) rfl ?_
   refine ov (v_fieldAddr fa_26_1 rfl) rfl ?_
   refine ov (v_load Try.isAgg24 rfl (Has.own 4 rfl) rfl) rfl ?_
   refine ov (v_lenS Try.underlying24 rfl) rfl ?_
   refine ov (v_neq rfl rfl) rfl ?_
   refine om rfl rfl ?_
   by_cases c45 : (table.length : Int) ≠ (hours.length : Int)
   · have r46 := ite_t h43 c45; clear h43
     refine shO_off (b' := true) 30 rfl (Env.isT rfl c45) rfl rfl (shO_off (b' := true) 30 rfl (Env.isT rfl c45) rfl rfl (shO_off (b' := true) 30 rfl (Env.isT rfl c45) rfl rfl (shO_off (b' := true) 30 rfl (Env.isT rfl c45) rfl rfl ?_)))
     refine ov (v_pick_t (evD_true rfl c45) rfl) rfl ?_
     refine oa rfl rfl (shO_nil ?_)
     refine shmz_freeze 0 rfl hb14 ?_; intro F47 hF48 hz49
     refine shmz_L (L' := [(b4, .cells #[.int .i64 0] 32 (0, 0)), (b3, .cells #[.int .i64 0] 3 (0, 0)), (b2, .cells #[.slice table_a table.length table_c] 23 (0, 0)), (b1, .cells #[.slice listens_a listens.length listens_c, .slice hours_a hours.length hours_c] 26 (0, 0)), (b32, .map es33 cl34)]) rfl ?_
     obtain rfl := inj1 r46
     exact mf (kc (kc (kc (kd kr)))) ⟨hF48, rfl, (sc rfl (sc rfl (sc rfl (sc rfl (sc rfl (sn _)))))), hz49⟩
   have r50 := ite_f h43 c45; clear h43
   refine shO_on (b := false) 30 rfl (Env.isF rfl c45) ?_
   refine ov (v_load Try.isAgg23 rfl (Has.own 3 rfl) rfl) rfl ?_
   refine shO_on (b := false) 30 rfl (Env.isF rfl c45) ?_
   refine ov (v_makeFunc rfl rfl) rfl ?_
   refine shO_on (b := false) 30 rfl (Env.isF rfl c45) ?_
   refine shO_freeze 0 rfl hb14 ?_; intro F51 hF52 hz53
   refine shO_L (L' := [(b4, .cells #[.int .i64 0] 32 (0, 0)), (b3, .cells #[.int .i64 0] 3 (0, 0)), (b2, .cells #[.slice table_a table.length table_c] 23 (0, 0)), (b1, .cells #[.slice listens_a listens.length listens_c, .slice hours_a hours.length hours_c] 26 (0, 0)), (b32, .map es33 cl34)]) rfl ?_
   replace h_table := h_table.mono (slE_ok (iE_ok _)) hF52
   replace h28 := h28.mono (slE_ok (iE_ok _)) hF52
   replace h31 := h31.mono (slE_ok (iE_ok _)) hF52
   replace h38 := h38.mono (arE_ok (n := 64) (sz := 1) cB_ok) hF52
   replace hz23 := hF52 _ _ hz23
   have hn57 : FnR Try.prog F51 85 #[] #[.pointer (some ⟨b14, 0, none⟩)] (slE 1 (iE .i64)) Value.bool (fun xx_ : (List Int) => night_Shows_1 xx_ listens2 hours2 rows) := ⟨Try.call85, fun F2 h2 vs xx_ r ha hr => by obtain ⟨a54, c55, rfl, h56⟩ := ha; exact night_Shows_1_w h56 (h2 _ _ hz53) (h2 _ _ hz23) (h28.mono (slE_ok (iE_ok _)) h2) (h31.mono (slE_ok (iE_ok _)) h2) (h38.mono (arE_ok (n := 64) (sz := 1) cB_ok) h2) hr⟩
   obtain ⟨ok, h58, r59⟩ := b1_ok r50; clear r50
   refine o_callV rfl Try.call84 rfl rfl rfl (night_every_int_w h_table hn57 h58) ?_
   refine shO_on (b := false) 30 rfl (Env.isF rfl c45) ?_
   refine ov (v_notB rfl) rfl ?_
   refine ov (v_pick_f (evD_false rfl c45) rfl) rfl ?_
   refine oa rfl rfl (shO_nil ?_)
   obtain rfl := inj1 r59
   exact mf (kc (kc (kc (kd kr)))) ⟨hF52, rfl, (sc rfl (sc rfl (sc rfl (sc rfl (sc rfl (sn _)))))), hz53⟩
 rintro e1 F61 _ ⟨hF62, rfl, he60, hz42⟩
 refine shW_env _ he60 ?_; clear he60
 replace h_table := h_table.mono (slE_ok (iE_ok _)) hF62
 replace h28 := h28.mono (slE_ok (iE_ok _)) hF62
 replace h31 := h31.mono (slE_ok (iE_ok _)) hF62
 replace h38 := h38.mono (arE_ok (n := 64) (sz := 1) cB_ok) hF62
 replace hz23 := hF62 _ _ hz23
 refine shW_cond rfl (fun c63 => ?_) (fun c63 => ?_)
 · have r64 := bt r44 c63; clear r44
   refine wsr ?_
   refine o_store (i := 1) Try.sizeOf3 rfl rfl rfl rfl (Nat.le_of_ble_eq_true rfl) ?_
   refine shO_L (L' := [(b4, .cells #[.int .i64 0] 32 (0, 0)), (b3, .cells #[.int .i64 0] 3 (0, 0)), (b2, .cells #[.slice table_a table.length table_c] 23 (0, 0)), (b32, .map es33 cl34)]) rfl ?_
   refine o_store (i := 0) Try.sizeOf32 rfl rfl rfl rfl (Nat.le_of_ble_eq_true rfl) ?_
   refine shO_L (L' := [(b4, .cells #[.int .i64 2] 32 (0, 0)), (b3, .cells #[.int .i64 0] 3 (0, 0)), (b2, .cells #[.slice table_a table.length table_c] 23 (0, 0)), (b32, .map es33 cl34)]) rfl ?_
   refine shO_nil ?_
   refine kW (kc (kc kn)) ?_
   refine shW_ret (inBlock_ret (andThen_ret ?_))
   refine q_res2 Try.results35 (res_cell Try.isAgg3 rfl (Has.own 1 rfl) rfl) (res_cell Try.isAgg32 rfl (Has.own 0 rfl) rfl) (s1 (s1 sr)) ?_
   obtain ⟨rfl, rfl⟩ := inj2 r64
   exact rfl
 have r65 := bf r44 c63; clear r44
 refine wsr ?_
 refine ov (v_load Try.isAgg23 rfl (Has.own 2 rfl) rfl) rfl ?_
 have hn69 : FnR Try.prog F61 86 #[] #[] (slE 1 (iE .i64)) Value.bool (fun xx_ : (List Int) => night_Shows_2 xx_) := ⟨Try.call86, fun F2 h2 vs xx_ r ha hr => by obtain ⟨a66, c67, rfl, h68⟩ := ha; exact night_Shows_2_w h68 hr⟩
 obtain ⟨ok2, h70, r71⟩ := b1_ok r65; clear r65
 refine o_callV rfl Try.call84 rfl rfl rfl (night_every_int_w h_table hn69 h70) ?_
 refine ov (v_notB rfl) rfl ?_
 refine oa rfl rfl (shO_nil ?_)
 refine shW_cond rfl (fun c72 => ?_) (fun c72 => ?_)
 · have r73 := bt r71 c72; clear r71
   refine wsr ?_
   refine o_store (i := 1) Try.sizeOf3 rfl rfl rfl rfl (Nat.le_of_ble_eq_true rfl) ?_
   refine shO_L (L' := [(b4, .cells #[.int .i64 0] 32 (0, 0)), (b3, .cells #[.int .i64 0] 3 (0, 0)), (b2, .cells #[.slice table_a table.length table_c] 23 (0, 0)), (b32, .map es33 cl34)]) rfl ?_
   refine o_store (i := 0) Try.sizeOf32 rfl rfl rfl rfl (Nat.le_of_ble_eq_true rfl) ?_
   refine shO_L (L' := [(b4, .cells #[.int .i64 3] 32 (0, 0)), (b3, .cells #[.int .i64 0] 3 (0, 0)), (b2, .cells #[.slice table_a table.length table_c] 23 (0, 0)), (b32, .map es33 cl34)]) rfl ?_
   refine shO_nil ?_
   refine kW (kc (kc kn)) ?_
   refine shW_ret (inBlock_ret (andThen_ret ?_))
   refine q_res2 Try.results35 (res_cell Try.isAgg3 rfl (Has.own 1 rfl) rfl) (res_cell Try.isAgg32 rfl (Has.own 0 rfl) rfl) (s1 (s1 sr)) ?_
   obtain ⟨rfl, rfl⟩ := inj2 r73
   exact rfl
 have r74 := bf r71 c72; clear r71
 refine shW_skip (inBlock_n (id := 0) ?_)
 refine shW_join (fun e1 F1 L1 => night_Shows_j1 table listens2 hours2 rows = some (r, r2) ∧ FExt F61 F1 ∧ L1 = [(b4, .cells #[.int .i64 0] 32 (0, 0)), (b3, .cells #[.int .i64 0] 3 (0, 0)), (b2, .cells #[.slice table_a table.length table_c] 23 (0, 0)), (b32, .map es33 cl34)] ∧ e1.sub [(3, .pointer (some ⟨b2, 0, none⟩)), (4, .pointer (some ⟨b3, 0, none⟩)), (5, .pointer (some ⟨b4, 0, none⟩)), (6, .pointer (some ⟨b14, 0, none⟩))]) ?_ ?_
 · refine wsr ?_
   refine ov (v_load Try.isAgg23 rfl (Has.own 2 rfl) rfl) rfl ?_
   refine ov (v_lenS Try.underlying23 rfl) rfl ?_
   refine om rfl rfl (shO_nil ?_)
   refine shW_block ?_
   refine shW_lp (fun fu2 e1 F1 L1 => ∃ (tl : List (List Int)) (k2 : Int), tl.length = fu2 ∧ Lst table k2 tl ∧ night_Shows_l2 table listens2 hours2 rows tl k2 = some (r, r2) ∧ FExt F61 F1 ∧ L1 = [(b4, .cells #[.int .i64 0] 32 (0, 0)), (b3, .cells #[.int .i64 0] 3 (0, 0)), (b2, .cells #[.slice table_a table.length table_c] 23 (0, 0)), (b32, .map es33 cl34)] ∧ e1.sub [(3, .pointer (some ⟨b2, 0, none⟩)), (4, .pointer (some ⟨b3, 0, none⟩)), (5, .pointer (some ⟨b4, 0, none⟩)), (6, .pointer (some ⟨b14, 0, none⟩)), (40, .slice table_a table.length table_c), (41, .int .i64 (table.length : Int)), (42, .int .i64 k2)]) _ (m0 kr ⟨_, _, rfl, Lst.start _, r74, FExt.refl _, rfl, (sc rfl (sc rfl (sc rfl (sc rfl (sc rfl (sc rfl (sc rfl (sn _))))))))⟩) ?_
   rintro fu2 e1 F79 _ ⟨tl, k2, hn76, hk75, r77, hF80, rfl, he78⟩
   refine shW_env _ he78 ?_; clear he78
   replace h_table := h_table.mono (slE_ok (iE_ok _)) hF80
   replace h28 := h28.mono (slE_ok (iE_ok _)) hF80
   replace h31 := h31.mono (slE_ok (iE_ok _)) hF80
   replace h38 := h38.mono (arE_ok (n := 64) (sz := 1) cB_ok) hF80
   replace hz23 := hF80 _ _ hz23
   replace hz42 := hF80 _ _ hz42
   refine wsr ?_
   refine ov (v_lssK rfl rfl) rfl ?_
   refine shO_nil (shW_seq ?_)
   refine shW_condP rfl (fun c82 => ?_) (fun c82 => ?_)
   · obtain ⟨x, tl2, rfl, hx84, g85, hk83⟩ := Lst.succ hk75 c82
     rw [night_Shows_l2] at r77
     refine shW_skip ?_
     refine shW_join (fun e1 F1 L1 => night_Shows_j3 k2 (night_Shows_l2 table listens2 hours2 rows tl2) = some (r, r2) ∧ FExt F79 F1 ∧ L1 = [(b4, .cells #[.int .i64 0] 32 (0, 0)), (b3, .cells #[.int .i64 0] 3 (0, 0)), (b2, .cells #[.slice table_a table.length table_c] 23 (0, 0)), (b32, .map es33 cl34)] ∧ e1.sub [(3, .pointer (some ⟨b2, 0, none⟩)), (4, .pointer (some ⟨b3, 0, none⟩)), (5, .pointer (some ⟨b4, 0, none⟩)), (6, .pointer (some ⟨b14, 0, none⟩)), (40, .slice table_a table.length table_c), (41, .int .i64 (table.length : Int)), (42, .int .i64 k2)]) ?_ ?_
     · refine shW_block ?_
       refine wsr (om rfl rfl ?_)
       obtain ⟨b86, o87, c88, vs89, ha90, hs91, hle92, ⟨a95, c96, rfl, h97⟩, hl93, hc94⟩ := RowR.at (slE_ok (iE_ok _)) h_table ([(b4, .cells #[.int .i64 0] 32 (0, 0)), (b3, .cells #[.int .i64 0] 3 (0, 0)), (b2, .cells #[.slice table_a table.length table_c] 23 (0, 0)), (b32, .map es33 cl34)]) g85.1 hx84
       refine ov (v_indexO Try.underlying23 Try.sizeOf27 rfl ha90 rfl g85) rfl ?_
       refine ov (v_load Try.isAgg27 rfl hs91 (hc94 0 (by decide))) rfl ?_
       refine o_alloc rfl Try.zeroValue3 ?_; intro b98 hb98
       refine o_alloc rfl Try.zeroValue27 ?_; intro b99 hb99
       refine o_store (i := 1) Try.sizeOf3 rfl rfl rfl rfl (Nat.le_of_ble_eq_true rfl) ?_
       refine shO_L (L' := [(b99, .cells #[.slice none 0 0] 27 (0, 0)), (b98, .cells #[.int .i64 k2] 3 (0, 0)), (b4, .cells #[.int .i64 0] 32 (0, 0)), (b3, .cells #[.int .i64 0] 3 (0, 0)), (b2, .cells #[.slice table_a table.length table_c] 23 (0, 0)), (b32, .map es33 cl34)]) rfl ?_
       refine o_store (i := 0) Try.sizeOf27 rfl rfl rfl rfl (Nat.le_of_ble_eq_true rfl) ?_
       refine shO_L (L' := [(b99, .cells #[.slice a95 x.length c96] 27 (0, 0)), (b98, .cells #[.int .i64 k2] 3 (0, 0)), (b4, .cells #[.int .i64 0] 32 (0, 0)), (b3, .cells #[.int .i64 0] 3 (0, 0)), (b2, .cells #[.slice table_a table.length table_c] 23 (0, 0)), (b32, .map es33 cl34)]) rfl ?_
       refine nsr ?_
       refine ov (v_load Try.isAgg105 rfl (Has.frozen hz42) rfl) rfl ?_
       refine ov (v_load Try.isAgg3 rfl (Has.own 1 rfl) rfl) rfl ?_
       obtain ⟨y, h100, r101⟩ := b1_ok r77; clear r77
       refine o_call0 rfl Try.call62 rfl rfl rfl (night_desk_fit_w hz23 h28 h31 h38 h100) ?_; rintro _ F102 _ hF103 hn104 ⟨cp106, rfl, rfl, hit107⟩
       replace h_table := h_table.mono (slE_ok (iE_ok _)) hF103
       replace h28 := h28.mono (slE_ok (iE_ok _)) hF103
       replace h31 := h31.mono (slE_ok (iE_ok _)) hF103
       replace h38 := h38.mono (arE_ok (n := 64) (sz := 1) cB_ok) hF103
       replace h97 := h97.mono (iE_ok _) hF103
       replace hz23 := hF103 _ _ hz23
       replace hz42 := hF103 _ _ hz42
       refine shO_L (ln rfl) ?_
       refine shO_nil ?_
       refine shW_block ?_
       refine shW_rangeFunc (encs := (fun x : Int => #[.int .i64 x])) (xs := y) rfl Try.call102 rfl (fun _ => rfl) hit107 (fun pre F1 L1 => ∃ (tl3 : List Int), y = pre ++ tl3 ∧ night_Shows_l4 table listens2 hours2 rows k2 x (night_Shows_l2 table listens2 hours2 rows tl2) tl3 = some (r, r2) ∧ L1 = [(b99, .cells #[.slice a95 x.length c96] 27 (0, 0)), (b98, .cells #[.int .i64 k2] 3 (0, 0)), (b4, .cells #[.int .i64 0] 32 (0, 0)), (b3, .cells #[.int .i64 0] 3 (0, 0)), (b2, .cells #[.slice table_a table.length table_c] 23 (0, 0)), (b32, .map es33 cl34)]) (fun c F1 L1 => c = .ret ∧ night_Shows_j5 = some (r, r2) ∧ L1 = [(b4, .cells #[.int .i64 8] 32 (0, 0)), (b3, .cells #[.int .i64 0] 3 (0, 0))]) ?_ ?_ ?_ ?_ ?_ ?_
       · rintro pre F1 F2 L1 ⟨tl3, hs108, r109, rfl⟩ hx; exact ⟨tl3, hs108, r109, rfl⟩
       · rintro c F1 F2 L1 ⟨rfl, hq, rfl⟩ hx; exact ⟨rfl, hq, rfl⟩
       · exact ⟨_, rfl, r101, rfl⟩
       · rintro l110 wr111 Fr112 Xr113 Ha114 Hb115 hnb116 hH120 pre x2 tl4 hxs119 F117 _ hF118 ⟨tl3, hs108, r121, rfl⟩
         obtain rfl := rest_head hs108 hxs119
         rw [night_Shows_l4] at r121
         replace h_table := h_table.mono (slE_ok (iE_ok _)) hF118
         replace h28 := h28.mono (slE_ok (iE_ok _)) hF118
         replace h31 := h31.mono (slE_ok (iE_ok _)) hF118
         replace h38 := h38.mono (arE_ok (n := 64) (sz := 1) cB_ok) hF118
         replace h97 := h97.mono (iE_ok _) hF118
         replace hz23 := hF118 _ _ hz23
         replace hz42 := hF118 _ _ hz42
         refine shW_env [(3, .pointer (some ⟨b2, 0, none⟩)), (4, .pointer (some ⟨b3, 0, none⟩)), (5, .pointer (some ⟨b4, 0, none⟩)), (6, .pointer (some ⟨b14, 0, none⟩)), (8, .pointer (some ⟨b98, 0, none⟩)), (9, .pointer (some ⟨b99, 0, none⟩)), (40, .slice table_a table.length table_c), (41, .int .i64 (table.length : Int)), (42, .int .i64 k2), (50, .int .i64 x2)] (by exact (sc rfl (sc rfl (sc rfl (sc rfl (sc rfl (sc rfl (sc rfl (sc rfl (sc rfl (sc rfl (sn _)))))))))))) ?_
         refine shW_region ?_
         refine o_alloc rfl Try.zeroValue3 ?_; intro b122 hb122
         refine o_store (i := 0) Try.sizeOf3 rfl rfl rfl rfl (Nat.le_of_ble_eq_true rfl) ?_
         refine shO_L (L' := [(b122, .cells #[.int .i64 x2] 3 (0, 0)), (b99, .cells #[.slice a95 x.length c96] 27 (0, 0)), (b98, .cells #[.int .i64 k2] 3 (0, 0)), (b4, .cells #[.int .i64 0] 32 (0, 0)), (b3, .cells #[.int .i64 0] 3 (0, 0)), (b2, .cells #[.slice table_a table.length table_c] 23 (0, 0)), (b32, .map es33 cl34)]) rfl ?_
         refine shO_nil ?_
         refine ⟨rfl, ?_⟩
         refine shW_block ?_
         refine shW_seq ?_
         obtain ⟨k3, h123, r124⟩ := b1_ok r121; clear r121
         refine shW_join (fun e1 F1 L1 => F117 = F1 ∧ L1 = [(b122, .cells #[.int .i64 x2] 3 (0, 0)), (b99, .cells #[.slice a95 x.length c96] 27 (0, 0)), (b98, .cells #[.int .i64 k2] 3 (0, 0)), (b4, .cells #[.int .i64 0] 32 (0, 0)), (b3, .cells #[.int .i64 0] 3 (0, 0)), (b2, .cells #[.slice table_a table.length table_c] 23 (0, 0)), (b32, .map es33 cl34)] ∧ e1.sub [(3, .pointer (some ⟨b2, 0, none⟩)), (4, .pointer (some ⟨b3, 0, none⟩)), (5, .pointer (some ⟨b4, 0, none⟩)), (6, .pointer (some ⟨b14, 0, none⟩)), (8, .pointer (some ⟨b98, 0, none⟩)), (9, .pointer (some ⟨b99, 0, none⟩)), (10, .pointer (some ⟨b122, 0, none⟩)), (40, .slice table_a table.length table_c), (41, .int .i64 (table.length : Int)), (42, .int .i64 k2), (50, .int .i64 x2), (61, .bool k3)]) ?_ ?_
         · clear r124
           refine shW_draw (by kernel_rfl) (by kernel_rfl) (by kernel_rfl) ?_
           refine qv (v_load Try.isAgg3 rfl (Has.own 2 rfl) rfl) rfl ?_
           refine qv (v_eql rfl rfl) rfl ?_
           refine qm rfl rfl ?_
           by_cases c125 : k2 = 0
           · have r126 := ite_t h123 c125; clear h123
             refine shQ_on (b := true) 53 rfl (Env.isT rfl c125) ?_
             refine qv (v_load Try.isAgg27 rfl (Has.own 1 rfl) rfl) rfl ?_
             refine shQ_on (b := true) 53 rfl (Env.isT rfl c125) ?_
             refine qv (v_load Try.isAgg3 rfl (Has.own 0 rfl) rfl) rfl ?_
             refine shQ_on (b := true) 53 rfl (Env.isT rfl c125) ?_
             obtain ⟨x3, g127, hx128, r129⟩ := ix_ok r126; clear r126
             obtain ⟨b130, o131, c132, vs133, ha134, hs135, hle136, rfl, hl137, hc138⟩ := RowR.at (iE_ok _) h97 ([(b122, .cells #[.int .i64 x2] 3 (0, 0)), (b99, .cells #[.slice a95 x.length c96] 27 (0, 0)), (b98, .cells #[.int .i64 k2] 3 (0, 0)), (b4, .cells #[.int .i64 0] 32 (0, 0)), (b3, .cells #[.int .i64 0] 3 (0, 0)), (b2, .cells #[.slice table_a table.length table_c] 23 (0, 0)), (b32, .map es33 cl34)]) g127.1 hx128
             refine qv (v_indexO Try.underlying27 Try.sizeOf3 rfl ha134 rfl g127) rfl ?_
             refine shQ_on (b := true) 53 rfl (Env.isT rfl c125) ?_
             refine qv (v_load Try.isAgg3 rfl hs135 (hc138 0 (by decide))) rfl ?_
             refine shQ_on (b := true) 53 rfl (Env.isT rfl c125) ?_
             refine qv (v_load Try.isAgg3 rfl (Has.own 0 rfl) rfl) rfl ?_
             refine shQ_on (b := true) 53 rfl (Env.isT rfl c125) ?_
             obtain ⟨n2, h139, r140⟩ := b1_ok r129; clear r129
             refine shQ_callV rfl Try.call89 rfl rfl rfl (night_ones_w h139) ?_
             refine shQ_on (b := true) 53 rfl (Env.isT rfl c125) ?_
             refine qv (v_gtrK rfl rfl) rfl ?_
             refine qv (v_pick_t (evD_true rfl c125) rfl) rfl ?_
             refine shQ_nil ?_
             obtain rfl := inj1 r140
             exact mi kr ⟨rfl, rfl, (sc rfl (sc rfl (sc rfl (sc rfl (sc rfl (sc rfl (sc rfl (sc rfl (sc rfl (sc rfl (sc rfl (sc rfl (sn _)))))))))))))⟩
           have r141 := ite_f h123 c125; clear h123
           refine shQ_off (b' := false) 53 rfl (Env.isF rfl c125) rfl rfl (shQ_off (b' := false) 53 rfl (Env.isF rfl c125) rfl rfl (shQ_off (b' := false) 53 rfl (Env.isF rfl c125) rfl rfl (shQ_off (b' := false) 53 rfl (Env.isF rfl c125) rfl rfl (shQ_off (b' := false) 53 rfl (Env.isF rfl c125) rfl rfl (shQ_off (b' := false) 53 rfl (Env.isF rfl c125) rfl rfl (shQ_off (b' := false) 53 rfl (Env.isF rfl c125) rfl rfl ?_))))))
           refine qv (v_pick_f (evD_false rfl c125) rfl) rfl ?_
           refine shQ_nil ?_
           obtain rfl := inj1 r141
           exact mi kr ⟨rfl, rfl, (sc rfl (sc rfl (sc rfl (sc rfl (sc rfl (sc rfl (sc rfl (sc rfl (sc rfl (sc rfl (sc rfl (sc rfl (sn _)))))))))))))⟩
         rintro e1 _ _ ⟨rfl, rfl, he142⟩
         refine shW_env _ he142 ?_; clear he142
         refine shW_cond rfl (fun c143 => ?_) (fun c143 => ?_)
         · have r144 := bt r124 c143; clear r124
           refine wsr ?_
           refine o_store (i := 4) Try.sizeOf3 rfl rfl rfl rfl (Nat.le_of_ble_eq_true rfl) ?_
           refine shO_L (L' := [(b122, .cells #[.int .i64 x2] 3 (0, 0)), (b99, .cells #[.slice a95 x.length c96] 27 (0, 0)), (b98, .cells #[.int .i64 k2] 3 (0, 0)), (b4, .cells #[.int .i64 0] 32 (0, 0)), (b3, .cells #[.int .i64 0] 3 (0, 0)), (b2, .cells #[.slice table_a table.length table_c] 23 (0, 0)), (b32, .map es33 cl34)]) rfl ?_
           refine o_store (i := 3) Try.sizeOf32 rfl rfl rfl rfl (Nat.le_of_ble_eq_true rfl) ?_
           refine shO_L (L' := [(b122, .cells #[.int .i64 x2] 3 (0, 0)), (b99, .cells #[.slice a95 x.length c96] 27 (0, 0)), (b98, .cells #[.int .i64 k2] 3 (0, 0)), (b4, .cells #[.int .i64 8] 32 (0, 0)), (b3, .cells #[.int .i64 0] 3 (0, 0)), (b2, .cells #[.slice table_a table.length table_c] 23 (0, 0)), (b32, .map es33 cl34)]) rfl ?_
           refine shO_nil (shW_ret (andThen_ret (inBlock_ret ?_)))
           refine ⟨[(b4, .cells #[.int .i64 8] 32 (0, 0)), (b3, .cells #[.int .i64 0] 3 (0, 0))], s1 (s1 (s1 (s2 (s2 (s1 (s1 sr)))))), ?_⟩; exact ⟨rfl, r144, rfl⟩
         have r145 := bf r124 c143; clear r124
         refine shW_skip (shW_seq (wsr ?_))
         refine ov (v_load Try.isAgg3 rfl (Has.own 2 rfl) rfl) rfl ?_
         refine ov (v_eql rfl rfl) rfl ?_
         refine shO_nil ?_
         refine shW_condP rfl (fun c146 => ?_) (fun c146 => ?_)
         · have r147 := ite_t r145 c146; clear r145
           refine shW_exit (andThen_exit ?_)
           refine inBlock_exit ?_
           refine ⟨[(b99, .cells #[.slice a95 x.length c96] 27 (0, 0)), (b98, .cells #[.int .i64 k2] 3 (0, 0)), (b4, .cells #[.int .i64 0] 32 (0, 0)), (b3, .cells #[.int .i64 0] 3 (0, 0)), (b2, .cells #[.slice table_a table.length table_c] 23 (0, 0)), (b32, .map es33 cl34)], s1 (s2 (s2 (s2 (s2 (s2 (s2 sr)))))), ?_⟩; exact ⟨_, (by rw [hxs119]; simp), r147, rfl⟩
         have r148 := ite_f r145 c146; clear r145
         refine shW_skip (wsr ?_)
         refine ov (v_load Try.isAgg105 rfl (Has.frozen hz42) rfl) rfl ?_
         refine ov (v_load Try.isAgg3 rfl (Has.own 2 rfl) rfl) rfl ?_
         obtain ⟨g149, r150⟩ := gd_ok r148; clear r148
         refine ov (v_sub rfl rfl g149) rfl ?_
         obtain ⟨y2, h151, r152⟩ := b1_ok r150; clear r150
         refine o_call0 rfl Try.call62 rfl rfl rfl (night_desk_fit_w hz23 h28 h31 h38 h151) ?_; rintro _ F153 _ hF154 hn155 ⟨cp157, rfl, rfl, hit158⟩
         replace h_table := h_table.mono (slE_ok (iE_ok _)) hF154
         replace h97 := h97.mono (iE_ok _) hF154
         refine shO_L (ln rfl) ?_
         refine shO_nil ?_
         refine shW_block ?_
         refine shW_rangeFuncIn hH120 (encs := (fun x : Int => #[.int .i64 x])) (xs := y2) rfl Try.call102 rfl (fun _ => rfl) hit158 (fun pre F1 L1 => ∃ (tl5 : List Int), y2 = pre ++ tl5 ∧ night_Shows_l6 table k2 x x2 (night_Shows_l4 table listens2 hours2 rows k2 x (night_Shows_l2 table listens2 hours2 rows tl2) tl4) tl5 = some (r, r2) ∧ L1 = [(b122, .cells #[.int .i64 x2] 3 (0, 0)), (b99, .cells #[.slice a95 x.length c96] 27 (0, 0)), (b98, .cells #[.int .i64 k2] 3 (0, 0)), (b4, .cells #[.int .i64 0] 32 (0, 0)), (b3, .cells #[.int .i64 0] 3 (0, 0)), (b2, .cells #[.slice table_a table.length table_c] 23 (0, 0)), (b32, .map es33 cl34)]) (fun c F1 L1 => c = .ret ∧ night_Shows_j7 = some (r, r2) ∧ L1 = [(b4, .cells #[.int .i64 8] 32 (0, 0)), (b3, .cells #[.int .i64 0] 3 (0, 0))]) ?_ ?_ ?_ ?_ ?_ ?_
         · rintro pre F1 F2 L1 ⟨tl5, hs159, r160, rfl⟩ hx; exact ⟨tl5, hs159, r160, rfl⟩
         · rintro c F1 F2 L1 ⟨rfl, hq, rfl⟩ hx; exact ⟨rfl, hq, rfl⟩
         · exact ⟨_, rfl, r152, rfl⟩
         · rintro l161 wr162 Fr163 Xr164 Ha165 Hb166 hnb167 hH171 pre x4 tl6 hxs170 F168 _ hF169 ⟨tl5, hs159, r172, rfl⟩
           obtain rfl := rest_head hs159 hxs170
           rw [night_Shows_l6] at r172
           replace h_table := h_table.mono (slE_ok (iE_ok _)) hF169
           replace h97 := h97.mono (iE_ok _) hF169
           refine shW_env [(3, .pointer (some ⟨b2, 0, none⟩)), (4, .pointer (some ⟨b3, 0, none⟩)), (5, .pointer (some ⟨b4, 0, none⟩)), (6, .pointer (some ⟨b14, 0, none⟩)), (8, .pointer (some ⟨b98, 0, none⟩)), (9, .pointer (some ⟨b99, 0, none⟩)), (10, .pointer (some ⟨b122, 0, none⟩)), (40, .slice table_a table.length table_c), (41, .int .i64 (table.length : Int)), (42, .int .i64 k2), (50, .int .i64 x2), (67, .func (.func 102) #[] cp157), (68, .int .i64 x4)] (by exact (sc rfl (sc rfl (sc rfl (sc rfl (sc rfl (sc rfl (sc rfl (sc rfl (sc rfl (sc rfl (sc rfl (sc rfl (sc rfl (sn _))))))))))))))) ?_
           refine shW_region (oa rfl rfl (shO_nil ?_))
           refine ⟨rfl, ?_⟩
           refine shW_block ?_
           refine wsd (by kernel_rfl) (by kernel_rfl) (by kernel_rfl) ?_
           refine qv (v_load Try.isAgg27 rfl (Has.own 1 rfl) rfl) rfl ?_
           refine qv (v_load Try.isAgg3 rfl (Has.own 0 rfl) rfl) rfl ?_
           obtain ⟨x5, g173, hx174, r175⟩ := ix_ok r172; clear r172
           obtain ⟨b176, o177, c178, vs179, ha180, hs181, hle182, rfl, hl183, hc184⟩ := RowR.at (iE_ok _) h97 ([(b122, .cells #[.int .i64 x2] 3 (0, 0)), (b99, .cells #[.slice a95 x.length c96] 27 (0, 0)), (b98, .cells #[.int .i64 k2] 3 (0, 0)), (b4, .cells #[.int .i64 0] 32 (0, 0)), (b3, .cells #[.int .i64 0] 3 (0, 0)), (b2, .cells #[.slice table_a table.length table_c] 23 (0, 0)), (b32, .map es33 cl34)]) g173.1 hx174
           refine qv (v_indexO Try.underlying27 Try.sizeOf3 rfl ha180 rfl g173) rfl ?_
           refine qv (v_load Try.isAgg3 rfl hs181 (hc184 0 (by decide))) rfl ?_
           refine qv (v_load Try.isAgg23 rfl (Has.own 5 rfl) rfl) rfl ?_
           refine qv (v_load Try.isAgg3 rfl (Has.own 2 rfl) rfl) rfl ?_
           obtain ⟨g185, r186⟩ := gd_ok r175; clear r175
           refine qv (v_sub rfl rfl g185) rfl ?_
           obtain ⟨x6, g187, hx188, r189⟩ := ix_ok r186; clear r186
           obtain ⟨b190, o191, c192, vs193, ha194, hs195, hle196, ⟨a199, c200, rfl, h201⟩, hl197, hc198⟩ := RowR.at (slE_ok (iE_ok _)) h_table ([(b122, .cells #[.int .i64 x2] 3 (0, 0)), (b99, .cells #[.slice a95 x.length c96] 27 (0, 0)), (b98, .cells #[.int .i64 k2] 3 (0, 0)), (b4, .cells #[.int .i64 0] 32 (0, 0)), (b3, .cells #[.int .i64 0] 3 (0, 0)), (b2, .cells #[.slice table_a table.length table_c] 23 (0, 0)), (b32, .map es33 cl34)]) g187.1 hx188
           refine qv (v_indexO Try.underlying23 Try.sizeOf27 rfl ha194 rfl g187) rfl ?_
           refine qv (v_load Try.isAgg27 rfl hs195 (hc198 0 (by decide))) rfl ?_
           refine qm rfl rfl ?_
           obtain ⟨x7, g202, hx203, r204⟩ := ix_ok r189; clear r189
           obtain ⟨b205, o206, c207, vs208, ha209, hs210, hle211, rfl, hl212, hc213⟩ := RowR.at (iE_ok _) h201 ([(b122, .cells #[.int .i64 x2] 3 (0, 0)), (b99, .cells #[.slice a95 x.length c96] 27 (0, 0)), (b98, .cells #[.int .i64 k2] 3 (0, 0)), (b4, .cells #[.int .i64 0] 32 (0, 0)), (b3, .cells #[.int .i64 0] 3 (0, 0)), (b2, .cells #[.slice table_a table.length table_c] 23 (0, 0)), (b32, .map es33 cl34)]) g202.1 hx203
           refine qv (v_indexO Try.underlying27 Try.sizeOf3 rfl ha209 rfl g202) rfl ?_
           refine qv (v_load Try.isAgg3 rfl hs210 (hc213 0 (by decide))) rfl ?_
           refine qm rfl rfl ?_
           refine qv (v_load Try.isAgg3 rfl (Has.own 0 rfl) rfl) rfl ?_
           obtain ⟨n3, h214, r215⟩ := b1_ok r204; clear r204
           refine shQ_callV rfl Try.call63 rfl rfl rfl (night_fallen_w h214) ?_
           obtain ⟨g216, r217⟩ := gd_ok r215; clear r215
           refine qv (v_add rfl rfl g216) rfl ?_
           refine qv (v_gtrK rfl rfl) rfl ?_
           refine shQ_nil ?_
           refine shW_condP rfl (fun c218 => ?_) (fun c218 => ?_)
           · have r219 := ite_t r217 c218; clear r217
             refine wsr ?_
             refine o_store (i := 4) Try.sizeOf3 rfl rfl rfl rfl (Nat.le_of_ble_eq_true rfl) ?_
             refine shO_L (L' := [(b122, .cells #[.int .i64 x2] 3 (0, 0)), (b99, .cells #[.slice a95 x.length c96] 27 (0, 0)), (b98, .cells #[.int .i64 k2] 3 (0, 0)), (b4, .cells #[.int .i64 0] 32 (0, 0)), (b3, .cells #[.int .i64 0] 3 (0, 0)), (b2, .cells #[.slice table_a table.length table_c] 23 (0, 0)), (b32, .map es33 cl34)]) rfl ?_
             refine o_store (i := 3) Try.sizeOf32 rfl rfl rfl rfl (Nat.le_of_ble_eq_true rfl) ?_
             refine shO_L (L' := [(b122, .cells #[.int .i64 x2] 3 (0, 0)), (b99, .cells #[.slice a95 x.length c96] 27 (0, 0)), (b98, .cells #[.int .i64 k2] 3 (0, 0)), (b4, .cells #[.int .i64 8] 32 (0, 0)), (b3, .cells #[.int .i64 0] 3 (0, 0)), (b2, .cells #[.slice table_a table.length table_c] 23 (0, 0)), (b32, .map es33 cl34)]) rfl ?_
             refine shO_nil (shW_ret (inBlock_ret ?_))
             refine ⟨[(b4, .cells #[.int .i64 8] 32 (0, 0)), (b3, .cells #[.int .i64 0] 3 (0, 0))], s1 (s1 (s1 (s2 (s2 (s1 (s1 sr)))))), ?_⟩; exact ⟨rfl, r219, rfl⟩
           have r220 := ite_f r217 c218; clear r217
           refine shW_skip (inBlock_n (id := 6) ?_)
           refine ⟨[(b122, .cells #[.int .i64 x2] 3 (0, 0)), (b99, .cells #[.slice a95 x.length c96] 27 (0, 0)), (b98, .cells #[.int .i64 k2] 3 (0, 0)), (b4, .cells #[.int .i64 0] 32 (0, 0)), (b3, .cells #[.int .i64 0] 3 (0, 0)), (b2, .cells #[.slice table_a table.length table_c] 23 (0, 0)), (b32, .map es33 cl34)], sr, ?_⟩; exact ⟨_, (by rw [hxs170]; simp), r220, rfl⟩
         · rintro F221 _ hF222 ⟨tl5, hs159, r223, rfl⟩
           obtain rfl := rest_nil hs159; rw [night_Shows_l6] at r223
           refine inBlock_n (id := 5) (inBlock_n (id := 4) ?_)
           refine ⟨[(b99, .cells #[.slice a95 x.length c96] 27 (0, 0)), (b98, .cells #[.int .i64 k2] 3 (0, 0)), (b4, .cells #[.int .i64 0] 32 (0, 0)), (b3, .cells #[.int .i64 0] 3 (0, 0)), (b2, .cells #[.slice table_a table.length table_c] 23 (0, 0)), (b32, .map es33 cl34)], s1 (s2 (s2 (s2 (s2 (s2 (s2 sr)))))), ?_⟩; exact ⟨_, (by rw [hxs119]; simp), r223, rfl⟩
         rintro _ F224 _ hF225 ⟨rfl, r226, rfl⟩
         rw [night_Shows_j7] at r226
         refine shW_ret (inBlock_ret (inBlock_ret ?_))
         refine ⟨[(b4, .cells #[.int .i64 8] 32 (0, 0)), (b3, .cells #[.int .i64 0] 3 (0, 0))], sr, ?_⟩; exact ⟨rfl, r226, rfl⟩
       · rintro F227 _ hF228 ⟨tl3, hs108, r229, rfl⟩
         obtain rfl := rest_nil hs108; rw [night_Shows_l4] at r229
         refine inBlock_n (id := 3) (inBlock_n (id := 2) ?_)
         exact mi (kd (kd kr)) ⟨r229, (hF103.trans hF228), rfl, (sc rfl (sc rfl (sc rfl (sc rfl (sc rfl (sc rfl (sc rfl (sn _))))))))⟩
       rintro _ F230 _ hF231 ⟨rfl, r232, rfl⟩
       rw [night_Shows_j5] at r232
       refine shW_ret (inBlock_ret (inBlock_ret (andThen_ret (andThen_ret (inBlock_ret (andThen_ret ?_))))))
       refine q_res2 Try.results35 (res_cell Try.isAgg3 rfl (Has.own 1 rfl) rfl) (res_cell Try.isAgg32 rfl (Has.own 0 rfl) rfl) (s1 (s1 sr)) ?_
       obtain ⟨rfl, rfl⟩ := inj2 r232
       exact rfl
     rintro e1 F235 _ ⟨r233, hF236, rfl, he234⟩
     refine shW_env _ he234 ?_; clear he234
     replace h_table := h_table.mono (slE_ok (iE_ok _)) hF236
     rw [night_Shows_j3] at r233
     refine shW_region ?_
     refine ov (v_add rfl rfl (Lst.r64 hk75 c82 (RowR.lt h_table))) rfl ?_
     refine om rfl rfl (shO_nil ?_)
     subst hn76; exact le kr ⟨_, _, rfl, hk83, r233, (hF80.trans hF236), rfl, (sc rfl (sc rfl (sc rfl (sc rfl (sc rfl (sc rfl (sc rfl (sn _))))))))⟩
   obtain rfl := Lst.zero hk75 c82
   rw [night_Shows_l2] at r77
   refine shW_exit (andThen_exit (andThen_exit ?_))
   refine inBlock_exit ?_
   exact mi kr ⟨r77, hF80, rfl, (sc rfl (sc rfl (sc rfl (sc rfl (sn _)))))⟩
 rintro e1 F239 _ ⟨r237, hF240, rfl, he238⟩
 refine shW_env _ he238 ?_; clear he238
 replace h_table := h_table.mono (slE_ok (iE_ok _)) hF240
 replace h28 := h28.mono (slE_ok (iE_ok _)) hF240
 replace h31 := h31.mono (slE_ok (iE_ok _)) hF240
 replace h38 := h38.mono (arE_ok (n := 64) (sz := 1) cB_ok) hF240
 replace hz23 := hF240 _ _ hz23
 replace hz42 := hF240 _ _ hz42
 rw [night_Shows_j1] at r237
 refine wsr ?_
 refine o_alloc rfl Try.zeroValue3 ?_; intro b241 hb241
 refine o_store (i := 0) Try.sizeOf3 rfl rfl rfl rfl (Nat.le_of_ble_eq_true rfl) ?_
 refine shO_L (L' := [(b241, .cells #[.int .i64 100] 3 (0, 0)), (b4, .cells #[.int .i64 0] 32 (0, 0)), (b3, .cells #[.int .i64 0] 3 (0, 0)), (b2, .cells #[.slice table_a table.length table_c] 23 (0, 0)), (b32, .map es33 cl34)]) rfl ?_
 refine shO_nil ?_
 obtain ⟨out, h242, r243⟩ := b1_ok r237; clear r237
 refine shW_join (fun e1 F1 L1 => FExt F239 F1 ∧ L1 = [(b241, .cells #[.int .i64 out] 3 (0, 0)), (b4, .cells #[.int .i64 0] 32 (0, 0)), (b3, .cells #[.int .i64 0] 3 (0, 0))] ∧ e1.sub [(4, .pointer (some ⟨b3, 0, none⟩)), (5, .pointer (some ⟨b4, 0, none⟩)), (12, .pointer (some ⟨b241, 0, none⟩))]) ?_ ?_
 · clear r243
   refine wsr ?_
   refine ov (v_load Try.isAgg105 rfl (Has.frozen hz42) rfl) rfl ?_
   refine ov (v_load Try.isAgg23 rfl (Has.own 3 rfl) rfl) rfl ?_
   refine ov (v_lenS Try.underlying23 rfl) rfl ?_
   obtain ⟨g244, r245⟩ := gd_ok h242; clear h242
   refine ov (v_sub rfl rfl g244) rfl ?_
   obtain ⟨y3, h246, r247⟩ := b1_ok r245; clear r245
   refine o_call0 rfl Try.call62 rfl rfl rfl (night_desk_fit_w hz23 h28 h31 h38 h246) ?_; rintro _ F248 _ hF249 hn250 ⟨cp252, rfl, rfl, hit253⟩
   replace h_table := h_table.mono (slE_ok (iE_ok _)) hF249
   refine shO_L (ln rfl) ?_
   refine shO_nil ?_
   refine shW_block ?_
   refine kW (kc (kc (kc (kc kn)))) ?_
   refine shW_rangeFunc (encs := (fun x : Int => #[.int .i64 x])) (xs := y3) rfl Try.call102 rfl (fun _ => rfl) hit253 (fun pre F1 L1 => ∃ (tl7 : List Int) (out2 : Int), y3 = pre ++ tl7 ∧ night_Shows_l8 table tl7 out2 = some out ∧ L1 = [(b241, .cells #[.int .i64 out2] 3 (0, 0)), (b4, .cells #[.int .i64 0] 32 (0, 0)), (b3, .cells #[.int .i64 0] 3 (0, 0)), (b2, .cells #[.slice table_a table.length table_c] 23 (0, 0))]) (fun _ _ _ => False) ?_ ?_ ?_ ?_ ?_ ?_
   · rintro pre F1 F2 L1 ⟨tl7, out2, hs254, r255, rfl⟩ hx; exact ⟨tl7, out2, hs254, r255, rfl⟩
   · intro c F1 F2 L1 h hx; exact h
   · exact ⟨_, 100, rfl, r247, rfl⟩
   · rintro l256 wr257 Fr258 Xr259 Ha260 Hb261 hnb262 hH266 pre x8 tl8 hxs265 F263 _ hF264 ⟨tl7, out2, hs254, r267, rfl⟩
     obtain rfl := rest_head hs254 hxs265
     rw [night_Shows_l8] at r267
     replace h_table := h_table.mono (slE_ok (iE_ok _)) hF264
     refine shW_env [(3, .pointer (some ⟨b2, 0, none⟩)), (4, .pointer (some ⟨b3, 0, none⟩)), (5, .pointer (some ⟨b4, 0, none⟩)), (12, .pointer (some ⟨b241, 0, none⟩)), (91, .func (.func 102) #[] cp252), (92, .int .i64 x8)] (by exact (sc rfl (sc rfl (sc rfl (sc rfl (sc rfl (sc rfl (sn _)))))))) ?_
     refine shW_region (oa rfl rfl (shO_nil ?_))
     refine ⟨rfl, ?_⟩
     refine shW_block ?_
     refine shW_drawM [(.still, 0), (.still, 1), (.still, 2), (.still, 3), (.still, 4), (.still, 5), (.still, 6), (.still, 7), (.still, 8), (.still, 9), (.seq, 10), (.seq, 11), (.seq, 12)] (by kernel_rfl) (by kernel_rfl) (trivial) (by rfl) (by kernel_rfl) ?_
     refine shM_v (v := .int .i64 out2) (ek := [(12, .pointer (some ⟨b241, 0, none⟩))]) (Ls := [(b241, .cells #[.int .i64 out2] 3 (0, 0))]) rfl rfl rfl rfl ((sc rfl (sn _))) (by kernel_rfl) (s0 (s2 (s1 (s1 (s1 sr))))) (fun H F' L' hF' hL' => v_load Try.isAgg3 rfl ((Has.own 0 rfl).ext hF' hL') rfl) ?_
     refine shM_v (v := .slice table_a table.length table_c) (ek := [(3, .pointer (some ⟨b2, 0, none⟩))]) (Ls := [(b2, .cells #[.slice table_a table.length table_c] 23 (0, 0))]) rfl rfl rfl rfl ((sc rfl (sn _))) (by kernel_rfl) (s0 (s1 (s1 (s1 (s2 sr))))) (fun H F' L' hF' hL' => v_load Try.isAgg23 rfl ((Has.own 0 rfl).ext hF' hL') rfl) ?_
     refine shM_v (v := .slice table_a table.length table_c) (ek := [(3, .pointer (some ⟨b2, 0, none⟩))]) (Ls := [(b2, .cells #[.slice table_a table.length table_c] 23 (0, 0))]) rfl rfl rfl rfl ((sc rfl (sn _))) (by kernel_rfl) (s0 (s1 (s1 (s1 (s2 sr))))) (fun H F' L' hF' hL' => v_load Try.isAgg23 rfl ((Has.own 0 rfl).ext hF' hL') rfl) ?_
     refine shM_v (v := .int .i64 (table.length : Int)) (ek := [(95, .slice table_a table.length table_c)]) (Ls := []) rfl rfl rfl rfl ((sc rfl (sn _))) (by kernel_rfl) sm (fun H F' L' hF' hL' => v_lenS Try.underlying23 rfl) ?_
     obtain ⟨g268, r269⟩ := gd_ok r267; clear r267
     refine shM_v (v := .int .i64 ((table.length : Int) - 1)) (ek := [(96, .int .i64 (table.length : Int))]) (Ls := []) rfl rfl rfl rfl ((sc rfl (sn _))) (by kernel_rfl) sm (fun H F' L' hF' hL' => v_sub rfl rfl g268) ?_
     obtain ⟨x9, g270, hx271, r272⟩ := ix_ok r269; clear r269
     obtain ⟨b273, o274, c275, vs276, ha277, hs278, hle279, ⟨a282, c283, rfl, h284⟩, hl280, hc281⟩ := RowR.at (slE_ok (iE_ok _)) h_table ([]) g270.1 hx271
     refine shM_v (v := .pointer (some ⟨b273, o274 + ((table.length : Int) - 1 : Int).toNat * 1, none⟩)) (ek := [(94, .slice table_a table.length table_c), (97, .int .i64 ((table.length : Int) - 1))]) (Ls := []) rfl rfl rfl rfl ((sc rfl (sc rfl (sn _)))) (by kernel_rfl) sm (fun H F' L' hF' hL' => v_indexO Try.underlying23 Try.sizeOf27 rfl ha277 rfl g270) ?_
     refine shM_v (v := .slice a282 x9.length c283) (ek := [(98, .pointer (some ⟨b273, o274 + ((table.length : Int) - 1 : Int).toNat * 1, none⟩))]) (Ls := []) rfl rfl rfl rfl ((sc rfl (sn _))) (by kernel_rfl) sm (fun H F' L' hF' hL' => v_load Try.isAgg27 rfl (hs278.ext hF' hL') (hc281 0 (by decide))) ?_
     refine shM_v (v := .int .i64 x8) (ek := [(13, .int .i64 x8)]) (Ls := []) rfl rfl rfl rfl ((sc rfl (sn _))) (by kernel_rfl) sm (fun H F' L' hF' hL' => v_move rfl) ?_
     obtain ⟨x10, g285, hx286, r287⟩ := ix_ok r272; clear r272
     obtain ⟨b288, o289, c290, vs291, ha292, hs293, hle294, rfl, hl295, hc296⟩ := RowR.at (iE_ok _) h284 ([]) g285.1 hx286
     refine shM_v (v := .pointer (some ⟨b288, o289 + (x8 : Int).toNat * 1, none⟩)) (ek := [(99, .slice a282 x9.length c283), (100, .int .i64 x8)]) (Ls := []) rfl rfl rfl rfl ((sc rfl (sc rfl (sn _)))) (by kernel_rfl) sm (fun H F' L' hF' hL' => v_indexO Try.underlying27 Try.sizeOf3 rfl ha292 rfl g285) ?_
     refine shM_v (v := .int .i64 x10) (ek := [(101, .pointer (some ⟨b288, o289 + (x8 : Int).toNat * 1, none⟩))]) (Ls := []) rfl rfl rfl rfl ((sc rfl (sn _))) (by kernel_rfl) sm (fun H F' L' hF' hL' => v_load Try.isAgg3 rfl (hs293.ext hF' hL') (hc296 0 (by decide))) ?_
     refine ⟨_, [(102, .int .i64 x10)], rfl, rfl, (sc rfl (sn _)), by kernel_rfl, ?_⟩; intro H
     refine o_buildSlice (cs := #[.int .i64 x10]) rfl rfl (buildSlice_all slt_27 [.int .i64 x10] rfl (by decide) (by simp [Value.cells]) (by decide)) ?_; intro b297 hb297
     refine shO_nil ⟨_, rfl, FExt.refl _, [3, 2, 0], by kernel_rfl, .inl (.inr (fun d h => by cases h; rfl)), (List.forall_mem_cons.2 ⟨sm, (List.forall_mem_cons.2 ⟨s0 (s1 (s1 (s1 (s1 (s2 sr))))), (List.forall_mem_cons.2 ⟨s0 (s1 (s2 (s1 (s1 (s1 sr))))), (fun _ h => absurd h List.not_mem_nil)⟩)⟩)⟩), ?_⟩
     refine ⟨_, [(93, .int .i64 out2), (103, .slice (some ⟨b297, 0, none⟩) 1 1)], rfl, rfl, (sc rfl (sc rfl (sn _))), by kernel_rfl, ?_⟩; intro H
     refine shO_freeze 0 rfl hb297 ?_; intro F298 hF299 hz300
     refine shO_L (L' := [(b241, .cells #[.int .i64 out2] 3 (0, 0)), (b4, .cells #[.int .i64 0] 32 (0, 0)), (b3, .cells #[.int .i64 0] 3 (0, 0)), (b2, .cells #[.slice table_a table.length table_c] 23 (0, 0))]) rfl ?_
     have h301 : RowR 1 (iE .i64) F298 (some ⟨b297, 0, none⟩) 1 [x10] := RowR.of_block (iE_ok _) (vss := [[.int .i64 x10]]) (xs := [x10]) hz300 (.cons rfl .nil) rfl (by simp [maxLen])
     obtain ⟨n4, h302, r303⟩ := b1_ok r287; clear r287
     refine o_callV rfl Try.call64 rfl rfl rfl (night_least_w h301 h302) ?_
     refine shO_nil ⟨_, rfl, hF299, [3, 2], by kernel_rfl, .inl (.inr (fun d h => by cases h; rfl)), (List.forall_mem_cons.2 ⟨sm, (List.forall_mem_cons.2 ⟨s0 (s1 (s1 (s1 (s2 sr)))), (fun _ h => absurd h List.not_mem_nil)⟩)⟩), ?_⟩
     refine ⟨_, [(12, .pointer (some ⟨b241, 0, none⟩)), (104, .int .i64 n4)], rfl, rfl, (sc rfl (sc rfl (sn _))), by kernel_rfl, ?_⟩; intro H
     refine o_store (i := 0) Try.sizeOf3 rfl rfl rfl rfl (Nat.le_of_ble_eq_true rfl) ?_
     refine shO_L (L' := [(b241, .cells #[.int .i64 n4] 3 (0, 0)), (b4, .cells #[.int .i64 0] 32 (0, 0)), (b3, .cells #[.int .i64 0] 3 (0, 0)), (b2, .cells #[.slice table_a table.length table_c] 23 (0, 0))]) rfl ?_
     refine shO_nil ⟨undef, rfl, FExt.refl _, [], by kernel_rfl, .inl (.inl rfl), (fun _ h => absurd h List.not_mem_nil), ?_⟩
     refine shM_nil ?_
     refine inBlock_n (id := 8) ?_
     refine ⟨[(b241, .cells #[.int .i64 n4] 3 (0, 0)), (b4, .cells #[.int .i64 0] 32 (0, 0)), (b3, .cells #[.int .i64 0] 3 (0, 0)), (b2, .cells #[.slice table_a table.length table_c] 23 (0, 0))], sr, ?_⟩; exact ⟨_, n4, (by rw [hxs265]; simp), r303, rfl⟩
   · rintro F304 _ hF305 ⟨tl7, out2, hs254, r306, rfl⟩
     obtain rfl := rest_nil hs254; rw [night_Shows_l8] at r306
     refine inBlock_n (id := 7) ?_
     obtain rfl := inj1 r306
     exact mi (kc (kc (kc kn))) ⟨(hF249.trans hF305), rfl, (sc rfl (sc rfl (sc rfl (sn _))))⟩
   intro c F1 L1 hx h; exact h.elim
 rintro e1 F308 _ ⟨hF309, rfl, he307⟩
 refine shW_env _ he307 ?_; clear he307
 refine wsr ?_
 refine ov (v_load Try.isAgg3 rfl (Has.own 0 rfl) rfl) rfl ?_
 refine o_store (i := 2) Try.sizeOf3 rfl rfl rfl rfl (Nat.le_of_ble_eq_true rfl) ?_
 refine shO_L (L' := [(b241, .cells #[.int .i64 out] 3 (0, 0)), (b4, .cells #[.int .i64 0] 32 (0, 0)), (b3, .cells #[.int .i64 out] 3 (0, 0))]) rfl ?_
 refine o_store (i := 1) Try.sizeOf32 rfl rfl rfl rfl (Nat.le_of_ble_eq_true rfl) ?_
 refine shO_L (L' := [(b241, .cells #[.int .i64 out] 3 (0, 0)), (b4, .cells #[.int .i64 0] 32 (0, 0)), (b3, .cells #[.int .i64 out] 3 (0, 0))]) rfl ?_
 refine shO_nil ?_
 refine kW (kd kr) ?_
 refine shW_ret ?_
 refine q_res2 Try.results35 (res_cell Try.isAgg3 rfl (Has.own 1 rfl) rfl) (res_cell Try.isAgg32 rfl (Has.own 0 rfl) rfl) (s1 (s1 sr)) ?_
 obtain ⟨rfl, rfl⟩ := inj2 r243
 exact rfl
set_option maxHeartbeats 1000000 in
theorem cmp_isNaN_int_w {x : Int} {F : FS} {r : Bool} (hr : cmp_isNaN_int x = some r) :
    SpecV Try.prog 113 #[.int .i64 x] F (.bool r) := by
 refine spec_of_shW (args := [.int .i64 x]) Try.func113 rfl Try.ntmps113 (Nat.le_of_ble_eq_true rfl) ?_
 intro K _ _; rw [cmp_isNaN_int] at hr
 refine wsr (oa rfl rfl (nsr (om rfl rfl (om rfl rfl ?_))))
 refine ov (v_neq rfl rfl) rfl ?_
 refine oa rfl rfl (shO_nil (shW_ret ?_))
 refine q_res1 Try.results113 (res_tmp rfl) (sr) ?_
 obtain rfl := inj1 hr
 exact rfl
set_option maxHeartbeats 1000000 in
theorem oyezlaw05_tried_w {b_b : Nat} {metal_a : Option Addr} {metal_c : Nat} {metal : List Int} {at_ : Int} {turn : Int} {listens_a : Option Addr} {listens_c : Nat} {listens : List (List Int)} {hours_a : Option Addr} {hours_c : Nat} {hours : List (List Int)} {F : FS} (h_metal : RowR 1 (iE .u8) F metal_a metal_c metal) (h_listens : RowR 1 (slE 1 (iE .i64)) F listens_a listens_c listens) (h_hours : RowR 1 (slE 1 (iE .i64)) F hours_a hours_c hours) {r : List Int} {r2 : Bool} {r3 : Int} {r4 : Int} (hr : oyezlaw05_tried metal at_ turn listens hours = some (r, r2, r3, r4)) :
    SH.Spec Try.prog 41 #[.pointer (some ⟨b_b, 0, none⟩), .agg #[.slice listens_a listens.length listens_c, .slice hours_a hours.length hours_c]] F [(b_b, .cells #[.slice metal_a metal.length metal_c, .int .i64 at_, .int .u32 turn] 104 (0, 0))] fun F' L' v => ∃ (ra : Option Addr) (rn : Nat) (rc : Nat) (rL : LH), v = .tuple #[.slice ra rn rc, .bool r2] ∧ L' = (b_b, .cells #[.slice metal_a metal.length metal_c, .int .i64 r3, .int .u32 r4] 104 (0, 0)) :: (rL ++ []) ∧ SlR 0 3 1 (iE .i64) F' ra rn rc r rL := by
 refine spec_of_shW (args := [.pointer (some ⟨b_b, 0, none⟩), .agg #[.slice listens_a listens.length listens_c, .slice hours_a hours.length hours_c]]) Try.func41 rfl Try.ntmps41 (Nat.le_of_ble_eq_true rfl) ?_
 intro K _ _; rw [oyezlaw05_tried] at hr
 refine wsr ?_
 refine o_box rfl rfl ?_; intro b1 hb1
 refine oa rfl rfl (oa rfl rfl (nsr (oa rfl rfl (nsr (oa rfl rfl (shO_nil ?_))))))
 refine shW_join (fun e1 F1 L1 => ∃ (out : List Int) (b_at : Int) (b_turn : Int) (a2 : Option Addr) (n6 : Nat) (c3 : Nat) (Lb4 : LH), oyezlaw05_tried_j1 out b_at b_turn = some (r, r2, r3, r4) ∧ FExt F F1 ∧ L1 = ((b_b, .cells #[.slice metal_a metal.length metal_c, .int .i64 b_at, .int .u32 b_turn] 104 (0, 0)) :: (Lb4 ++ [])) ∧ e1.sub [(6, .slice a2 n6 c3)] ∧ SlR K.w0.heap.size 3 1 (iE .i64) F1 a2 n6 c3 out Lb4) ?_ ?_
 · refine wsr ?_
   refine ov (v_fieldAddr fa_26_1 rfl) rfl ?_
   refine ov (v_load Try.isAgg24 rfl (Has.own 0 rfl) rfl) rfl ?_
   refine ov (v_lenS Try.underlying24 rfl) rfl ?_
   refine om rfl rfl (shO_nil ?_)
   refine shW_block ?_
   refine shW_lp (fun fu2 e1 F1 L1 => ∃ (tl : List (List Int)) (k : Int), tl.length = fu2 ∧ Lst hours k tl ∧ ∃ (b_at2 : Int) (b_turn2 : Int) (out2 : List Int) (before : Int) (a8 : Option Addr) (n12 : Nat) (c9 : Nat) (Lb10 : LH), oyezlaw05_tried_l2 metal listens hours tl b_at2 b_turn2 out2 before = some (r, r2, r3, r4) ∧ FExt F F1 ∧ L1 = ((b1, .cells #[.slice listens_a listens.length listens_c, .slice hours_a hours.length hours_c] 26 (0, 0)) :: ((b_b, .cells #[.slice metal_a metal.length metal_c, .int .i64 b_at2, .int .u32 b_turn2] 104 (0, 0)) :: (Lb10 ++ []))) ∧ e1.sub [(0, .pointer (some ⟨b_b, 0, none⟩)), (3, .pointer (some ⟨b1, 0, none⟩)), (6, .slice a8 n12 c9), (7, .int .i64 before), (12, .slice hours_a hours.length hours_c), (13, .int .i64 (hours.length : Int)), (14, .int .i64 k)] ∧ SlR K.w0.heap.size 3 1 (iE .i64) F1 a8 n12 c9 out2 Lb10) _ (m0 (kc (kc (ke kr))) ⟨_, _, rfl, Lst.start _, at_, turn, [], 0, none, 0, 0, [], hr, FExt.refl _, rfl, (sc rfl (sc rfl (sc rfl (sc rfl (sc rfl (sc rfl (sc rfl (sn _)))))))), SlR.nil _ _ _ _ _⟩) ?_
   rintro fu2 e1 F18 _ ⟨tl, k, hn15, hk14, b_at2, b_turn2, out2, before, a8, n12, c9, Lb10, r16, hF19, rfl, he17, hz11⟩
   refine shW_env _ he17 ?_; clear he17
   replace h_metal := h_metal.mono (iE_ok _) hF19
   replace h_listens := h_listens.mono (slE_ok (iE_ok _)) hF19
   replace h_hours := h_hours.mono (slE_ok (iE_ok _)) hF19
   refine wsr ?_
   refine ov (v_lssK rfl rfl) rfl ?_
   refine shO_nil (shW_seq ?_)
   refine shW_condP rfl (fun c21 => ?_) (fun c21 => ?_)
   · obtain ⟨x, tl2, rfl, hx23, g24, hk22⟩ := Lst.succ hk14 c21
     rw [oyezlaw05_tried_l2] at r16
     refine shW_skip ?_
     refine shW_join (fun e1 F1 L1 => ∃ (b_at3 : Int) (b_turn3 : Int) (out3 : List Int) (before2 : Int) (a25 : Option Addr) (n29 : Nat) (c26 : Nat) (Lb27 : LH), oyezlaw05_tried_j3 (oyezlaw05_tried_l2 metal listens hours tl2) b_at3 b_turn3 out3 before2 = some (r, r2, r3, r4) ∧ FExt F18 F1 ∧ L1 = ((b_b, .cells #[.slice metal_a metal.length metal_c, .int .i64 b_at3, .int .u32 b_turn3] 104 (0, 0)) :: ((b1, .cells #[.slice listens_a listens.length listens_c, .slice hours_a hours.length hours_c] 26 (0, 0)) :: (Lb27 ++ []))) ∧ e1.sub [(0, .pointer (some ⟨b_b, 0, none⟩)), (3, .pointer (some ⟨b1, 0, none⟩)), (6, .slice a25 n29 c26), (7, .int .i64 before2), (12, .slice hours_a hours.length hours_c), (13, .int .i64 (hours.length : Int)), (14, .int .i64 k)] ∧ SlR K.w0.heap.size 3 1 (iE .i64) F1 a25 n29 c26 out3 Lb27) ?_ ?_
     · refine shW_block ?_
       refine wsr ?_
       obtain ⟨b31, o32, c33, vs34, ha35, hs36, hle37, ⟨a40, c41, rfl, h42⟩, hl38, hc39⟩ := RowR.at (slE_ok (iE_ok _)) h_hours ((b1, .cells #[.slice listens_a listens.length listens_c, .slice hours_a hours.length hours_c] 26 (0, 0)) :: ((b_b, .cells #[.slice metal_a metal.length metal_c, .int .i64 b_at2, .int .u32 b_turn2] 104 (0, 0)) :: (Lb10 ++ []))) g24.1 hx23
       refine ov (v_indexO Try.underlying24 Try.sizeOf40 rfl ha35 rfl g24) rfl ?_
       refine ov (v_load Try.isAgg40 rfl hs36 (hc39 0 (by decide))) rfl ?_
       refine oa rfl rfl (nsr (om rfl rfl (oa rfl rfl (shO_nil ?_))))
       obtain ⟨b_at4, b_turn4, set_, h43, r44⟩ := b3_ok r16; clear r16
       refine shW_join (fun e1 F1 L1 => FExt F18 F1 ∧ L1 = ((b_b, .cells #[.slice metal_a metal.length metal_c, .int .i64 b_at4, .int .u32 b_turn4] 104 (0, 0)) :: ((b1, .cells #[.slice listens_a listens.length listens_c, .slice hours_a hours.length hours_c] 26 (0, 0)) :: (Lb10 ++ []))) ∧ e1.sub [(0, .pointer (some ⟨b_b, 0, none⟩)), (3, .pointer (some ⟨b1, 0, none⟩)), (6, .slice a8 n12 c9), (9, .slice a40 x.length c41), (10, .int .i64 set_), (12, .slice hours_a hours.length hours_c), (13, .int .i64 (hours.length : Int)), (14, .int .i64 k)]) ?_ ?_
       · clear r44
         refine wsr (om rfl rfl ?_)
         obtain ⟨ok, at_2, turn2, h45, r46⟩ := b3_ok h43; clear h43
         refine o_callG (Lb := [(b_b, .cells #[.slice metal_a metal.length metal_c, .int .i64 b_at2, .int .u32 b_turn2] 104 (0, 0))]) (Lr := (b1, .cells #[.slice listens_a listens.length listens_c, .slice hours_a hours.length hours_c] 26 (0, 0)) :: (Lb10 ++ [])) rfl Try.call44 rfl rfl rfl (((fC fO).trans (pC pR))) (oyezkit_Bell_Seldom_w h_metal h45) ?_; rintro _ F47 _ hF48 hd50 hn49 ⟨rfl, rfl⟩
         replace h_metal := h_metal.mono (iE_ok _) hF48
         refine shO_L (lb (ln rfl)) ?_
         refine shO_nil ?_
         refine shW_cond rfl (fun c51 => ?_) (fun c51 => ?_)
         · have r52 := bt r46 c51; clear r46
           refine shW_region (om rfl rfl ?_)
           refine ov (v_fieldAddr fa_26_0 rfl) rfl ?_
           refine ov (v_load Try.isAgg23 rfl (Has.own 1 rfl) rfl) rfl ?_
           refine ov (v_lenS Try.underlying23 rfl) rfl ?_
           obtain ⟨g53, r54⟩ := gd_ok r52; clear r52
           refine ov (v_shl rfl rfl g53) rfl ?_
           obtain ⟨g55, r56⟩ := gd_ok r54; clear r54
           refine ov (v_sub rfl rfl g55) rfl ?_
           obtain ⟨n, at_3, turn3, h57, r58⟩ := b3_ok r56; clear r56
           refine o_callG (Lb := [(b_b, .cells #[.slice metal_a metal.length metal_c, .int .i64 at_2, .int .u32 turn2] 104 (0, 0))]) (Lr := (b1, .cells #[.slice listens_a listens.length listens_c, .slice hours_a hours.length hours_c] 26 (0, 0)) :: (Lb10 ++ [])) rfl Try.call19 rfl rfl rfl (pR) (oyezkit_Bell_Stroke_w h_metal h57) ?_; rintro _ F59 _ hF60 hd62 hn61 ⟨rfl, rfl⟩
           refine shO_L (lb (ln rfl)) ?_
           refine oa rfl rfl (shO_nil ?_)
           obtain ⟨rfl, rfl, rfl⟩ := inj3 r58
           exact mi kr ⟨(hF48.trans hF60), rfl, (sc rfl (sc rfl (sc rfl (sc rfl (sc rfl (sc rfl (sc rfl (sc rfl (sn _)))))))))⟩
         have r63 := bf r46 c51; clear r46
         refine shW_skip ?_
         obtain ⟨rfl, rfl, rfl⟩ := inj3 r63
         exact mi kr ⟨hF48, rfl, (sc rfl (sc rfl (sc rfl (sc rfl (sc rfl (sc rfl (sc rfl (sc rfl (sn _)))))))))⟩
       rintro e1 F65 _ ⟨hF66, rfl, he64⟩
       refine shW_env _ he64 ?_; clear he64
       replace h_listens := h_listens.mono (slE_ok (iE_ok _)) hF66
       replace h_hours := h_hours.mono (slE_ok (iE_ok _)) hF66
       replace h42 := h42.mono (iE_ok _) hF66
       replace hz11 := hz11.mono (iE_ok _) hF66
       obtain ⟨set_2, h67, r68⟩ := b1_ok r44; clear r44
       refine shW_join (fun e1 F1 L1 => F65 = F1 ∧ L1 = ((b_b, .cells #[.slice metal_a metal.length metal_c, .int .i64 b_at4, .int .u32 b_turn4] 104 (0, 0)) :: ((b1, .cells #[.slice listens_a listens.length listens_c, .slice hours_a hours.length hours_c] 26 (0, 0)) :: (Lb10 ++ []))) ∧ e1.sub [(0, .pointer (some ⟨b_b, 0, none⟩)), (3, .pointer (some ⟨b1, 0, none⟩)), (6, .slice a8 n12 c9), (9, .slice a40 x.length c41), (10, .int .i64 set_2), (12, .slice hours_a hours.length hours_c), (13, .int .i64 (hours.length : Int)), (14, .int .i64 k)]) ?_ ?_
       · clear r68
         refine wsr ?_
         refine ov (v_fieldAddr fa_26_0 rfl) rfl ?_
         refine ov (v_load Try.isAgg23 rfl (Has.own 1 rfl) rfl) rfl ?_
         refine ov (v_lenS Try.underlying23 rfl) rfl ?_
         obtain ⟨g69, r70⟩ := gd_ok h67; clear h67
         refine ov (v_shl rfl rfl g69) rfl ?_
         refine om rfl rfl (shO_nil ?_)
         refine shW_block ?_
         obtain ⟨g71, r72⟩ := gd_ok r70; clear r70
         refine shW_lp (fun fu4 e1 F1 L1 => ∃ (k2 : Int), Ctr 0 (shl 1 (listens.length : Int)) k2 fu4 ∧ ∃ (set_3 : Int), oyezlaw05_tried_l4 listens hours x fu4 set_3 = some set_2 ∧ F65 = F1 ∧ L1 = ((b_b, .cells #[.slice metal_a metal.length metal_c, .int .i64 b_at4, .int .u32 b_turn4] 104 (0, 0)) :: ((b1, .cells #[.slice listens_a listens.length listens_c, .slice hours_a hours.length hours_c] 26 (0, 0)) :: (Lb10 ++ []))) ∧ e1.sub [(0, .pointer (some ⟨b_b, 0, none⟩)), (3, .pointer (some ⟨b1, 0, none⟩)), (6, .slice a8 n12 c9), (9, .slice a40 x.length c41), (10, .int .i64 set_3), (12, .slice hours_a hours.length hours_c), (13, .int .i64 (hours.length : Int)), (14, .int .i64 k), (31, .int .i64 (shl 1 (listens.length : Int))), (32, .int .i64 k2)]) _ (m0 kr ⟨_, Ctr.start _ _, set_, r72, rfl, rfl, (sc rfl (sc rfl (sc rfl (sc rfl (sc rfl (sc rfl (sc rfl (sc rfl (sc rfl (sc rfl (sn _)))))))))))⟩) ?_
         rintro fu4 e1 _ _ ⟨k2, hk73, set_3, r75, rfl, rfl, he76⟩
         refine shW_env _ he76 ?_; clear he76
         refine wsr ?_
         refine ov (v_lssK rfl rfl) rfl ?_
         refine shO_nil (shW_seq ?_)
         refine shW_condP rfl (fun c78 => ?_) (fun c78 => ?_)
         · obtain ⟨fu4, rfl, hk79⟩ := Ctr.succ hk73 c78
           rw [oyezlaw05_tried_l4] at r75
           refine shW_skip (shW_seq ?_)
           refine shW_block ?_
           refine shW_seq (wsr ?_)
           refine ov (v_loadA (cs := #[.slice listens_a listens.length listens_c, .slice hours_a hours.length hours_c]) Try.isAgg26 Try.sizeOf26 rfl (Has.own 1 rfl) (Nat.le_of_ble_eq_true rfl) rfl) rfl ?_
           refine om rfl rfl (om rfl rfl ?_)
           obtain ⟨ok2, h80, r81⟩ := b1_ok r75; clear r75
           refine o_callV rfl Try.call23 rfl rfl rfl (oyezlaw05_fits_w h_listens h_hours h42 h80) ?_
           refine shO_nil ?_
           refine shW_cond rfl (fun c82 => ?_) (fun c82 => ?_)
           · have r83 := bt r81 c82; clear r81
             refine shW_exit (andThen_exit ?_)
             refine inBlock_other rfl ?_
             refine andThen_exit (andThen_exit ?_)
             refine inBlock_exit ?_
             obtain rfl := inj1 r83
             exact mi kr ⟨rfl, rfl, (sc rfl (sc rfl (sc rfl (sc rfl (sc rfl (sc rfl (sc rfl (sc rfl (sn _)))))))))⟩
           have r84 := bf r81 c82; clear r81
           refine shW_skip (shW_region (om rfl rfl ?_))
           obtain ⟨g85, r86⟩ := gd_ok r84; clear r84
           refine ov (v_add rfl rfl g85) rfl ?_
           refine ov (v_fieldAddr fa_26_0 rfl) rfl ?_
           refine ov (v_load Try.isAgg23 rfl (Has.own 1 rfl) rfl) rfl ?_
           refine ov (v_lenS Try.underlying23 rfl) rfl ?_
           obtain ⟨g87, r88⟩ := gd_ok r86; clear r86
           refine ov (v_shl rfl rfl g87) rfl ?_
           obtain ⟨g89, r90⟩ := gd_ok r88; clear r88
           refine ov (v_remT rfl rfl g89) rfl ?_
           obtain ⟨set_4, h91, r92⟩ := bv_ok r90; clear r90
           refine ov ((v_assign rfl).i h91) rfl ?_
           refine shO_nil (inBlock_n (id := 3) (shW_region ?_))
           refine ov (v_add rfl rfl (Ctr.r64 hk73 c78 g71)) rfl ?_
           refine om rfl rfl (shO_nil ?_)
           exact le kr ⟨_, hk79, set_4, r92, rfl, rfl, (sc rfl (sc rfl (sc rfl (sc rfl (sc rfl (sc rfl (sc rfl (sc rfl (sc rfl (sc rfl (sn _)))))))))))⟩
         obtain rfl := Ctr.zero hk73 c78
         rw [oyezlaw05_tried_l4] at r75
         refine shW_exit (andThen_exit (andThen_exit ?_))
         refine inBlock_exit ?_
         obtain rfl := inj1 r75
         exact mi kr ⟨rfl, rfl, (sc rfl (sc rfl (sc rfl (sc rfl (sc rfl (sc rfl (sc rfl (sc rfl (sn _)))))))))⟩
       rintro e1 _ _ ⟨rfl, rfl, he93⟩
       refine shW_env _ he93 ?_; clear he93
       refine shW_seq (wsr ?_)
       refine ov (v_loadA (cs := #[.slice listens_a listens.length listens_c, .slice hours_a hours.length hours_c]) Try.isAgg26 Try.sizeOf26 rfl (Has.own 1 rfl) (Nat.le_of_ble_eq_true rfl) rfl) rfl ?_
       refine om rfl rfl (om rfl rfl ?_)
       obtain ⟨ok3, h94, r95⟩ := b1_ok r68; clear r68
       refine o_callV rfl Try.call23 rfl rfl rfl (oyezlaw05_fits_w h_listens h_hours h42 h94) ?_
       refine ov (v_notB rfl) rfl ?_
       refine shO_nil ?_
       refine shW_cond rfl (fun c96 => ?_) (fun c96 => ?_)
       · have r97 := bt r95 c96; clear r95
         refine wsr (oa rfl rfl (oa rfl rfl (shO_nil ?_)))
         refine kW (kc kn) ?_
         refine shW_ret (andThen_ret (inBlock_ret (andThen_ret (andThen_ret (inBlock_ret (andThen_ret ?_))))))
         refine q_res2 Try.results41 (res_tmp rfl) (res_tmp rfl) (sr) ?_
         obtain ⟨rfl, rfl, rfl, rfl⟩ := inj4 r97
         exact ⟨_, _, _, [], rfl, rfl, SlR.nil _ _ _ _ _⟩
       have r98 := bf r95 c96; clear r95
       refine shW_skip (shW_region (om rfl rfl (om rfl rfl ?_)))
       refine o_buildSlice (cs := #[.int .i64 set_2]) rfl rfl (buildSlice_all slt_27 [.int .i64 set_2] rfl (by decide) (by simp [Value.cells]) (by decide)) ?_; intro b99 hb99
       obtain ⟨out4, h100, g101, r102⟩ := ap_ok r98; clear r98
       refine o_appZ (xs := out2) (ys := [set_2]) (zs := out4) rfl slt_27 rfl rfl (Nat.le_refl _) (fun _ => .c (.c (.c .h))) hz11 (SrcR.box (vss := [[.int .i64 set_2]]) (ys := [set_2]) 0 rfl (iE_ok _) (.cons rfl .nil) rfl rfl) h100 g101 (by decide) ?_; intro a103 n107 c104 Lb105 hz106
       refine kO (kd kr) ?_
       refine om rfl rfl (oa rfl rfl (oa rfl rfl (shO_nil (inBlock_n (id := 1) ?_))))
       exact mi kr ⟨b_at4, b_turn4, out4, set_2, a103, n107, c104, Lb105, r102, hF66, rfl, (sc rfl (sc rfl (sc rfl (sc rfl (sc rfl (sc rfl (sc rfl (sn _)))))))), hz106⟩
     rintro e1 F111 _ ⟨b_at3, b_turn3, out3, before2, a25, n29, c26, Lb27, r109, hF112, rfl, he110, hz28⟩
     refine shW_env _ he110 ?_; clear he110
     replace h_hours := h_hours.mono (slE_ok (iE_ok _)) hF112
     rw [oyezlaw05_tried_j3] at r109
     refine shW_region ?_
     refine ov (v_add rfl rfl (Lst.r64 hk14 c21 (RowR.lt h_hours))) rfl ?_
     refine om rfl rfl (shO_nil ?_)
     subst hn15; exact le (kf (fC fO) kr) ⟨_, _, rfl, hk22, b_at3, b_turn3, out3, before2, a25, n29, c26, Lb27, r109, (hF19.trans hF112), rfl, (sc rfl (sc rfl (sc rfl (sc rfl (sc rfl (sc rfl (sc rfl (sn _)))))))), hz28⟩
   obtain rfl := Lst.zero hk14 c21
   rw [oyezlaw05_tried_l2] at r16
   refine shW_exit (andThen_exit (andThen_exit ?_))
   refine inBlock_exit ?_
   exact mi (kd kr) ⟨out2, b_at2, b_turn2, a8, n12, c9, Lb10, r16, hF19, rfl, (sc rfl (sn _)), hz11⟩
 rintro e1 F115 _ ⟨out, b_at, b_turn, a2, n6, c3, Lb4, r113, hF116, rfl, he114, hz5⟩
 refine shW_env _ he114 ?_; clear he114
 rw [oyezlaw05_tried_j1] at r113
 refine wsr (om rfl rfl (oa rfl rfl (oa rfl rfl (shO_nil (shW_ret ?_)))))
 refine q_res2 Try.results41 (res_tmp rfl) (res_tmp rfl) (sr) ?_
 obtain ⟨rfl, rfl, rfl, rfl⟩ := inj4 r113
 exact ⟨_, _, _, _, rfl, rfl, hz5.any⟩
set_option maxHeartbeats 1000000 in
theorem cmp_Compare_int_w {x : Int} {y : Int} {F : FS} {r : Int} (hr : cmp_Compare_int x y = some r) :
    SpecV Try.prog 94 #[.int .i64 x, .int .i64 y] F (.int .i64 r) := by
 refine spec_of_shW (args := [.int .i64 x, .int .i64 y]) Try.func94 rfl Try.ntmps94 (Nat.le_of_ble_eq_true rfl) ?_
 intro K _ _; rw [cmp_Compare_int] at hr
 refine wsr (oa rfl rfl (nsr (om rfl rfl ?_)))
 obtain ⟨ok, h1, r2⟩ := b1_ok hr; clear hr
 refine o_callV rfl Try.call113 rfl rfl rfl (cmp_isNaN_int_w h1) ?_
 refine oa rfl rfl (nsr (om rfl rfl ?_))
 obtain ⟨ok2, h3, r4⟩ := b1_ok r2; clear r2
 refine o_callV rfl Try.call113 rfl rfl rfl (cmp_isNaN_int_w h3) ?_
 refine oa rfl rfl (shO_nil (shW_seq (wsr (om rfl rfl (shO_nil ?_)))))
 refine shW_cond rfl (fun c5 => ?_) (fun c5 => ?_)
 · have r6 := bt r4 c5; clear r4
   refine shW_seq (wsr (om rfl rfl (shO_nil ?_)))
   refine shW_cond rfl (fun c7 => ?_) (fun c7 => ?_)
   · have r8 := bt r6 c7; clear r6
     refine wsr (oa rfl rfl (shO_nil (shW_ret (andThen_ret (andThen_ret ?_)))))
     refine q_res1 Try.results94 (res_tmp rfl) (sr) ?_
     obtain rfl := inj1 r8
     exact rfl
   have r9 := bf r6 c7; clear r6
   refine shW_skip (wsr (oa rfl rfl (shO_nil (shW_ret (andThen_ret ?_)))))
   refine q_res1 Try.results94 (res_tmp rfl) (sr) ?_
   obtain rfl := inj1 r9
   exact rfl
 have r10 := bf r4 c5; clear r4
 refine shW_skip (shW_seq (wsr (om rfl rfl (shO_nil ?_))))
 refine shW_cond rfl (fun c11 => ?_) (fun c11 => ?_)
 · have r12 := bt r10 c11; clear r10
   refine wsr (oa rfl rfl (shO_nil (shW_ret (andThen_ret ?_))))
   refine q_res1 Try.results94 (res_tmp rfl) (sr) ?_
   obtain rfl := inj1 r12
   exact rfl
 have r13 := bf r10 c11; clear r10
 refine shW_skip (shW_seq (wsr (om rfl rfl (om rfl rfl ?_))))
 refine ov (v_lssK rfl rfl) rfl ?_
 refine shO_nil ?_
 refine shW_condP rfl (fun c14 => ?_) (fun c14 => ?_)
 · have r15 := ite_t r13 c14; clear r13
   refine wsr (oa rfl rfl (shO_nil (shW_ret (andThen_ret ?_))))
   refine q_res1 Try.results94 (res_tmp rfl) (sr) ?_
   obtain rfl := inj1 r15
   exact rfl
 have r16 := ite_f r13 c14; clear r13
 refine shW_skip (shW_seq (wsr (om rfl rfl (om rfl rfl ?_))))
 refine ov (v_gtrK rfl rfl) rfl ?_
 refine shO_nil ?_
 refine shW_condP rfl (fun c17 => ?_) (fun c17 => ?_)
 · have r18 := ite_t r16 c17; clear r16
   refine wsr (oa rfl rfl (shO_nil (shW_ret (andThen_ret ?_))))
   refine q_res1 Try.results94 (res_tmp rfl) (sr) ?_
   obtain rfl := inj1 r18
   exact rfl
 have r19 := ite_f r16 c17; clear r16
 refine shW_skip (wsr (oa rfl rfl (shO_nil (shW_ret ?_))))
 refine q_res1 Try.results94 (res_tmp rfl) (sr) ?_
 obtain rfl := inj1 r19
 exact rfl
set_option maxHeartbeats 1000000 in
theorem slices_Compare_int_int_w {s1_a : Option Addr} {s1_c : Nat} {s1 : List Int} {s2_a : Option Addr} {s2_c : Nat} {s2 : List Int} {F : FS} (h_s1 : RowR 1 (iE .i64) F s1_a s1_c s1) (h_s2 : RowR 1 (iE .i64) F s2_a s2_c s2) {r : Int} (hr : slices_Compare_int_int s1 s2 = some r) :
    SpecV Try.prog 42 #[.slice s1_a s1.length s1_c, .slice s2_a s2.length s2_c] F (.int .i64 r) := by
 refine spec_of_shW (args := [.slice s1_a s1.length s1_c, .slice s2_a s2.length s2_c]) Try.func42 rfl Try.ntmps42 (Nat.le_of_ble_eq_true rfl) ?_
 intro K _ _; rw [slices_Compare_int_int] at hr
 refine wsr (oa rfl rfl (shO_nil ?_))
 refine shW_join (fun e1 F1 L1 => slices_Compare_int_int_j1 s1 s2 = some r ∧ F = F1 ∧ L1 = [] ∧ e1.sub [(0, .slice s1_a s1.length s1_c), (1, .slice s2_a s2.length s2_c)]) ?_ ?_
 · refine wsr (om rfl rfl ?_)
   refine ov (v_lenS Try.underlying27 rfl) rfl ?_
   refine om rfl rfl (shO_nil ?_)
   refine shW_block ?_
   refine shW_lp (fun fu2 e1 F1 L1 => ∃ (tl : List Int) (k : Int), tl.length = fu2 ∧ Lst s1 k tl ∧ slices_Compare_int_int_l2 s1 s2 tl k = some r ∧ F = F1 ∧ L1 = [] ∧ e1.sub [(0, .slice s1_a s1.length s1_c), (1, .slice s2_a s2.length s2_c), (9, .slice s1_a s1.length s1_c), (10, .int .i64 (s1.length : Int)), (11, .int .i64 k)]) _ (m0 kr ⟨_, _, rfl, Lst.start _, hr, rfl, rfl, (sc rfl (sc rfl (sc rfl (sc rfl (sc rfl (sn _))))))⟩) ?_
   rintro fu2 e1 _ _ ⟨tl, k, hn2, hk1, r3, rfl, rfl, he4⟩
   refine shW_env _ he4 ?_; clear he4
   refine wsr ?_
   refine ov (v_lssK rfl rfl) rfl ?_
   refine shO_nil (shW_seq ?_)
   refine shW_condP rfl (fun c6 => ?_) (fun c6 => ?_)
   · obtain ⟨x, tl2, rfl, hx8, g9, hk7⟩ := Lst.succ hk1 c6
     rw [slices_Compare_int_int_l2] at r3
     refine shW_skip (shW_seq ?_)
     refine shW_block ?_
     refine wsr (om rfl rfl ?_)
     obtain ⟨b10, o11, c12, vs13, ha14, hs15, hle16, rfl, hl17, hc18⟩ := RowR.at (iE_ok _) h_s1 ([]) g9.1 hx8
     refine ov (v_indexO Try.underlying27 Try.sizeOf3 rfl ha14 rfl g9) rfl ?_
     refine ov (v_load Try.isAgg3 rfl hs15 (hc18 0 (by decide))) rfl ?_
     refine oa rfl rfl (oa rfl rfl (shO_nil (shW_seq (wsr (om rfl rfl (om rfl rfl ?_))))))
     refine ov (v_lenS Try.underlying27 rfl) rfl ?_
     refine ov (v_geqK rfl rfl) rfl ?_
     refine shO_nil ?_
     refine shW_condP rfl (fun c19 => ?_) (fun c19 => ?_)
     · have r20 := ite_t r3 c19; clear r3
       refine wsr (oa rfl rfl (shO_nil (shW_ret (andThen_ret (inBlock_ret (andThen_ret (andThen_ret (inBlock_ret (andThen_ret ?_)))))))))
       refine q_res1 Try.results42 (res_tmp rfl) (sr) ?_
       obtain rfl := inj1 r20
       exact rfl
     have r21 := ite_f r3 c19; clear r3
     refine shW_skip (wsr (om rfl rfl (om rfl rfl ?_)))
     obtain ⟨x2, g22, hx23, r24⟩ := ix_ok r21; clear r21
     obtain ⟨b25, o26, c27, vs28, ha29, hs30, hle31, rfl, hl32, hc33⟩ := RowR.at (iE_ok _) h_s2 ([]) g22.1 hx23
     refine ov (v_indexO Try.underlying27 Try.sizeOf3 rfl ha29 rfl g22) rfl ?_
     refine ov (v_load Try.isAgg3 rfl hs30 (hc33 0 (by decide))) rfl ?_
     refine oa rfl rfl (nsr (om rfl rfl (om rfl rfl ?_)))
     obtain ⟨n, h34, r35⟩ := b1_ok r24; clear r24
     refine o_callV rfl Try.call94 rfl rfl rfl (cmp_Compare_int_w h34) ?_
     refine oa rfl rfl (nsr (om rfl rfl ?_))
     refine ov (v_neq rfl rfl) rfl ?_
     refine shO_nil ?_
     refine shW_condP rfl (fun c36 => ?_) (fun c36 => ?_)
     · have r37 := ite_t r35 c36; clear r35
       refine wsr (om rfl rfl (oa rfl rfl (shO_nil (shW_ret (inBlock_ret (andThen_ret (andThen_ret (inBlock_ret (andThen_ret ?_)))))))))
       refine q_res1 Try.results42 (res_tmp rfl) (sr) ?_
       obtain rfl := inj1 r37
       exact rfl
     have r38 := ite_f r35 c36; clear r35
     refine shW_skip (inBlock_n (id := 1) (shW_region ?_))
     refine ov (v_add rfl rfl (Lst.r64 hk1 c6 (RowR.lt h_s1))) rfl ?_
     refine om rfl rfl (shO_nil ?_)
     subst hn2; exact le kr ⟨_, _, rfl, hk7, r38, rfl, rfl, (sc rfl (sc rfl (sc rfl (sc rfl (sc rfl (sn _))))))⟩
   obtain rfl := Lst.zero hk1 c6
   rw [slices_Compare_int_int_l2] at r3
   refine shW_exit (andThen_exit (andThen_exit ?_))
   refine inBlock_exit ?_
   exact mi kr ⟨r3, rfl, rfl, (sc rfl (sc rfl (sn _)))⟩
 rintro e1 _ _ ⟨r39, rfl, rfl, he40⟩
 refine shW_env _ he40 ?_; clear he40
 rw [slices_Compare_int_int_j1] at r39
 refine shW_seq (wsr (om rfl rfl ?_))
 refine ov (v_lenS Try.underlying27 rfl) rfl ?_
 refine om rfl rfl ?_
 refine ov (v_lenS Try.underlying27 rfl) rfl ?_
 refine ov (v_lssK rfl rfl) rfl ?_
 refine shO_nil ?_
 refine shW_condP rfl (fun c41 => ?_) (fun c41 => ?_)
 · have r42 := ite_t r39 c41; clear r39
   refine wsr (oa rfl rfl (shO_nil (shW_ret (andThen_ret ?_))))
   refine q_res1 Try.results42 (res_tmp rfl) (sr) ?_
   obtain rfl := inj1 r42
   exact rfl
 have r43 := ite_f r39 c41; clear r39
 refine shW_skip (wsr (oa rfl rfl (shO_nil (shW_ret ?_))))
 refine q_res1 Try.results42 (res_tmp rfl) (sr) ?_
 obtain rfl := inj1 r43
 exact rfl
set_option maxHeartbeats 1000000 in
theorem oyezlaw05_ones_w {set_ : Int} {F : FS} {r : Int} (hr : oyezlaw05_ones set_ = some r) :
    SpecV Try.prog 96 #[.int .i64 set_] F (.int .i64 r) := by
 refine spec_of_shW (args := [.int .i64 set_]) Try.func96 rfl Try.ntmps96 (Nat.le_of_ble_eq_true rfl) ?_
 intro K _ _; rw [oyezlaw05_ones] at hr
 refine wsr (oa rfl rfl (nsr (oa rfl rfl (shO_nil ?_))))
 obtain ⟨n, h1, r2⟩ := b1_ok hr; clear hr
 refine shW_join (fun e1 F1 L1 => F = F1 ∧ L1 = [] ∧ e1.sub [(3, .int .i64 n)]) ?_ ?_
 · clear r2
   refine wsr (om rfl rfl (shO_nil ?_))
   refine shW_block ?_
   obtain ⟨g3, r4⟩ := gd_ok h1; clear h1
   refine shW_lp (fun fu1 e1 F1 L1 => ∃ (k : Int), Ctr 0 16 k fu1 ∧ ∃ (n2 : Int), oyezlaw05_ones_l1 set_ fu1 k n2 = some n ∧ F = F1 ∧ L1 = [] ∧ e1.sub [(0, .int .i64 set_), (3, .int .i64 n2), (5, .int .i64 k)]) _ (m0 kr ⟨_, Ctr.start _ _, 0, r4, rfl, rfl, (sc rfl (sc rfl (sc rfl (sn _))))⟩) ?_
   rintro fu1 e1 _ _ ⟨k, hk5, n2, r7, rfl, rfl, he8⟩
   refine shW_env _ he8 ?_; clear he8
   refine wsr ?_
   refine ov (v_lssK rfl rfl) rfl ?_
   refine shO_nil (shW_seq ?_)
   refine shW_condP rfl (fun c10 => ?_) (fun c10 => ?_)
   · obtain ⟨fu1, rfl, hk11⟩ := Ctr.succ hk5 c10
     rw [oyezlaw05_ones_l1] at r7
     refine shW_skip (shW_seq ?_)
     refine shW_block ?_
     refine wsr (om rfl rfl (oa rfl rfl (shO_nil (shW_region (om rfl rfl (om rfl rfl (om rfl rfl ?_)))))))
     obtain ⟨g12, r13⟩ := gd_ok r7; clear r7
     refine ov (v_shr rfl rfl g12) rfl ?_
     refine ov (v_and rfl rfl) rfl ?_
     obtain ⟨g14, r15⟩ := gd_ok r13; clear r13
     refine ov (v_add rfl rfl g14) rfl ?_
     refine oa rfl rfl (shO_nil (inBlock_n (id := 1) (shW_region ?_)))
     refine ov (v_add rfl rfl (Ctr.r64 hk5 c10 g3)) rfl ?_
     refine om rfl rfl (shO_nil ?_)
     exact le kr ⟨_, hk11, n2 + (band (shr set_ k) 1), r15, rfl, rfl, (sc rfl (sc rfl (sc rfl (sn _))))⟩
   obtain rfl := Ctr.zero hk5 c10
   rw [oyezlaw05_ones_l1] at r7
   refine shW_exit (andThen_exit (andThen_exit ?_))
   refine inBlock_exit ?_
   obtain rfl := inj1 r7
   exact mi kr ⟨rfl, rfl, (sc rfl (sn _))⟩
 rintro e1 _ _ ⟨rfl, rfl, he16⟩
 refine shW_env _ he16 ?_; clear he16
 refine wsr (om rfl rfl (oa rfl rfl (shO_nil (shW_ret ?_))))
 refine q_res1 Try.results96 (res_tmp rfl) (sr) ?_
 obtain rfl := inj1 r2
 exact rfl
set_option maxHeartbeats 1000000 in
theorem oyezlaw05_naps_w {nights_a : Option Addr} {nights_c : Nat} {nights : List Int} {F : FS} (h_nights : RowR 1 (iE .i64) F nights_a nights_c nights) {r : Int} (hr : oyezlaw05_naps nights = some r) :
    SpecV Try.prog 49 #[.slice nights_a nights.length nights_c] F (.int .i64 r) := by
 refine spec_of_shW (args := [.slice nights_a nights.length nights_c]) Try.func49 rfl Try.ntmps49 (Nat.le_of_ble_eq_true rfl) ?_
 intro K _ _; rw [oyezlaw05_naps] at hr
 refine wsr (oa rfl rfl (nsr (oa rfl rfl (oa rfl rfl (shO_nil ?_)))))
 obtain ⟨n, h1, r2⟩ := b1_ok hr; clear hr
 refine shW_join (fun e1 F1 L1 => F = F1 ∧ L1 = [] ∧ e1.sub [(3, .int .i64 n)]) ?_ ?_
 · clear r2
   refine wsr (om rfl rfl ?_)
   refine ov (v_lenS Try.underlying27 rfl) rfl ?_
   refine om rfl rfl (shO_nil ?_)
   refine shW_block ?_
   refine shW_lp (fun fu1 e1 F1 L1 => ∃ (tl : List Int) (k : Int), tl.length = fu1 ∧ Lst nights k tl ∧ ∃ (n2 : Int) (before : Int), oyezlaw05_naps_l1 tl n2 before = some n ∧ F = F1 ∧ L1 = [] ∧ e1.sub [(3, .int .i64 n2), (4, .int .i64 before), (7, .slice nights_a nights.length nights_c), (8, .int .i64 (nights.length : Int)), (9, .int .i64 k)]) _ (m0 kr ⟨_, _, rfl, Lst.start _, 0, 0, h1, rfl, rfl, (sc rfl (sc rfl (sc rfl (sc rfl (sc rfl (sn _))))))⟩) ?_
   rintro fu1 e1 _ _ ⟨tl, k, hn4, hk3, n2, before, r5, rfl, rfl, he6⟩
   refine shW_env _ he6 ?_; clear he6
   refine wsr ?_
   refine ov (v_lssK rfl rfl) rfl ?_
   refine shO_nil (shW_seq ?_)
   refine shW_condP rfl (fun c8 => ?_) (fun c8 => ?_)
   · obtain ⟨x, tl2, rfl, hx10, g11, hk9⟩ := Lst.succ hk3 c8
     rw [oyezlaw05_naps_l1] at r5
     refine shW_skip (shW_seq ?_)
     refine shW_block ?_
     refine wsr ?_
     obtain ⟨b12, o13, c14, vs15, ha16, hs17, hle18, rfl, hl19, hc20⟩ := RowR.at (iE_ok _) h_nights ([]) g11.1 hx10
     refine ov (v_indexO Try.underlying27 Try.sizeOf3 rfl ha16 rfl g11) rfl ?_
     refine ov (v_load Try.isAgg3 rfl hs17 (hc20 0 (by decide))) rfl ?_
     refine oa rfl rfl (shO_nil (shW_region (om rfl rfl (om rfl rfl (om rfl rfl ?_)))))
     refine ov (v_andNot rfl rfl) rfl ?_
     obtain ⟨n3, h21, r22⟩ := b1_ok r5; clear r5
     refine o_callV rfl Try.call96 rfl rfl rfl (oyezlaw05_ones_w h21) ?_
     obtain ⟨g23, r24⟩ := gd_ok r22; clear r22
     refine ov (v_add rfl rfl g23) rfl ?_
     refine om rfl rfl (oa rfl rfl (oa rfl rfl (shO_nil (inBlock_n (id := 1) (shW_region ?_)))))
     refine ov (v_add rfl rfl (Lst.r64 hk3 c8 (RowR.lt h_nights))) rfl ?_
     refine om rfl rfl (shO_nil ?_)
     subst hn4; exact le kr ⟨_, _, rfl, hk9, n2 + n3, x, r24, rfl, rfl, (sc rfl (sc rfl (sc rfl (sc rfl (sc rfl (sn _))))))⟩
   obtain rfl := Lst.zero hk3 c8
   rw [oyezlaw05_naps_l1] at r5
   refine shW_exit (andThen_exit (andThen_exit ?_))
   refine inBlock_exit ?_
   obtain rfl := inj1 r5
   exact mi kr ⟨rfl, rfl, (sc rfl (sn _))⟩
 rintro e1 _ _ ⟨rfl, rfl, he25⟩
 refine shW_env _ he25 ?_; clear he25
 refine wsr (om rfl rfl (oa rfl rfl (shO_nil (shW_ret ?_))))
 refine q_res1 Try.results49 (res_tmp rfl) (sr) ?_
 obtain rfl := inj1 r2
 exact rfl
set_option maxHeartbeats 1000000 in
theorem night_Naps_w {listens_a : Option Addr} {listens_c : Nat} {listens : List (List Int)} {hours_a : Option Addr} {hours_c : Nat} {hours : List (List Int)} {nights_a : Option Addr} {nights_c : Nat} {nights : List Int} {F : FS} (h_listens : RowR 1 (slE 1 (iE .i64)) F listens_a listens_c listens) (h_hours : RowR 1 (slE 1 (iE .i64)) F hours_a hours_c hours) (h_nights : RowR 1 (iE .i64) F nights_a nights_c nights) {r : Int} {r2 : Int} (hr : night_Naps listens hours nights = some (r, r2)) :
    SpecV Try.prog 50 #[.agg #[.slice listens_a listens.length listens_c, .slice hours_a hours.length hours_c], .slice nights_a nights.length nights_c] F (.tuple #[.int .i64 r, .int .i64 r2]) := by
 refine spec_of_shW (args := [.agg #[.slice listens_a listens.length listens_c, .slice hours_a hours.length hours_c], .slice nights_a nights.length nights_c]) Try.func50 rfl Try.ntmps50 (Nat.le_of_ble_eq_true rfl) ?_
 intro K _ _; rw [night_Naps] at hr
 refine wsr ?_
 refine o_box rfl rfl ?_; intro b1 hb1
 refine oa rfl rfl (oa rfl rfl (nsr ?_))
 refine ov (v_loadA (cs := #[.slice listens_a listens.length listens_c, .slice hours_a hours.length hours_c]) Try.isAgg26 Try.sizeOf26 rfl (Has.own 0 rfl) (Nat.le_of_ble_eq_true rfl) rfl) rfl ?_
 obtain ⟨d, n, h2, r3⟩ := b2_ok hr; clear hr
 refine o_call0 rfl Try.call58 rfl rfl rfl (night_opened_w h_listens h_hours h2) ?_; rintro _ F4 _ hF5 hn6 ⟨v8, Lb10, rfl, rfl, hp9⟩
 replace h_nights := h_nights.mono (iE_ok _) hF5
 refine shO_L (lp (ln rfl)) ?_
 refine kO (kf (fS fO) kr) ?_
 refine om rfl rfl (ox rfl rfl rfl (ox rfl rfl rfl (oa rfl rfl (oa rfl rfl (shO_nil (shW_seq ?_))))))
 refine shW_block ?_
 refine wsr (om rfl rfl ?_)
 refine ov (v_neq rfl rfl) rfl ?_
 refine oa rfl rfl (shO_nil ?_)
 refine shW_condP rfl (fun c11 => ?_) (fun c11 => ?_)
 · have r12 := ite_t r3 c11; clear r3
   refine wsr (om rfl rfl (oa rfl rfl (oa rfl rfl (shO_nil ?_))))
   refine kW kn ?_
   refine shW_ret (inBlock_ret (andThen_ret ?_))
   refine q_res2 Try.results50 (res_tmp rfl) (res_tmp rfl) (sr) ?_
   obtain ⟨rfl, rfl⟩ := inj2 r12
   exact rfl
 have r13 := ite_f r3 c11; clear r3
 refine wsr (om rfl rfl ?_)
 refine ov (v_lenS Try.underlying27 rfl) rfl ?_
 refine ov (v_fieldAddr fa_26_1 rfl) rfl ?_
 refine ov (v_load Try.isAgg24 rfl (Has.own 0 rfl) rfl) rfl ?_
 refine ov (v_lenS Try.underlying24 rfl) rfl ?_
 refine ov (v_neq rfl rfl) rfl ?_
 refine oa rfl rfl (shO_nil ?_)
 refine shW_condP rfl (fun c14 => ?_) (fun c14 => ?_)
 · have r15 := ite_t r13 c14; clear r13
   refine wsr (oa rfl rfl (oa rfl rfl (shO_nil ?_)))
   refine kW kn ?_
   refine shW_ret (inBlock_ret (andThen_ret ?_))
   refine q_res2 Try.results50 (res_tmp rfl) (res_tmp rfl) (sr) ?_
   obtain ⟨rfl, rfl⟩ := inj2 r15
   exact rfl
 have r16 := ite_f r13 c14; clear r13
 refine shW_skip (inBlock_n (id := 0) (wsr (oa rfl rfl (oa rfl rfl (nsr (om rfl rfl ?_))))))
 refine ov (v_makeFunc rfl rfl) rfl ?_
 refine oa rfl rfl (shO_nil ?_)
 refine shW_join (fun e1 F1 L1 => ∃ (n2 : Int), night_Naps_j1 n2 = some (r, r2) ∧ F4 = F1 ∧ L1 = [] ∧ e1.sub [(8, .int .i64 n2)]) ?_ ?_
 · refine wsr (om rfl rfl ?_)
   refine ov (v_lenS Try.underlying27 rfl) rfl ?_
   refine om rfl rfl (shO_nil ?_)
   refine shW_block ?_
   obtain ⟨listens2, hours2, cried, rows, h17, r18⟩ := b4_ok r16; clear r16
   have h24 := hp9; rw [h17] at h24; obtain ⟨b19, m20, a25, c26, a28, c29, b31, es32, cl33, a35, c36, hv21, hz22, h27, h30, hR34, h37, hL23⟩ := ob_139_of h24; subst hv21; subst hL23
   refine shW_L (L' := [(b1, .cells #[.slice listens_a listens.length listens_c, .slice hours_a hours.length hours_c] 26 (0, 0)), (b31, .map es32 cl33)]) rfl ?_
   refine kW (kd kr) ?_
   refine shW_lp (fun fu2 e1 F1 L1 => ∃ (tl : List Int) (k : Int), tl.length = fu2 ∧ Lst nights k tl ∧ ∃ (n3 : Int) (before : Int), night_Naps_l2 listens2 hours2 rows tl k n3 before = some (r, r2) ∧ F4 = F1 ∧ L1 = [(b31, .map es32 cl33)] ∧ e1.sub [(6, .pointer (some ⟨b19, 0, none⟩)), (8, .int .i64 n3), (9, .int .i64 before), (10, .func (.func 74) #[.pointer (some ⟨b19, 0, none⟩)] #[]), (31, .slice nights_a nights.length nights_c), (32, .int .i64 (nights.length : Int)), (33, .int .i64 k)]) _ (m0 kr ⟨_, _, rfl, Lst.start _, 0, 0, r18, rfl, rfl, (sc rfl (sc rfl (sc rfl (sc rfl (sc rfl (sc rfl (sc rfl (sn _))))))))⟩) ?_
   rintro fu2 e1 _ _ ⟨tl, k, hn39, hk38, n3, before, r40, rfl, rfl, he41⟩
   refine shW_env _ he41 ?_; clear he41
   refine wsr ?_
   refine ov (v_lssK rfl rfl) rfl ?_
   refine shO_nil (shW_seq ?_)
   refine shW_condP rfl (fun c43 => ?_) (fun c43 => ?_)
   · obtain ⟨x, tl2, rfl, hx45, g46, hk44⟩ := Lst.succ hk38 c43
     rw [night_Naps_l2] at r40
     refine shW_skip (shW_seq ?_)
     refine shW_block ?_
     refine wsr (om rfl rfl ?_)
     obtain ⟨b47, o48, c49, vs50, ha51, hs52, hle53, rfl, hl54, hc55⟩ := RowR.at (iE_ok _) h_nights ([(b31, .map es32 cl33)]) g46.1 hx45
     refine ov (v_indexO Try.underlying27 Try.sizeOf3 rfl ha51 rfl g46) rfl ?_
     refine ov (v_load Try.isAgg3 rfl hs52 (hc55 0 (by decide))) rfl ?_
     refine oa rfl rfl (oa rfl rfl (shO_nil (shW_seq (wsr (om rfl rfl (om rfl rfl ?_))))))
     obtain ⟨n4, h56, r57⟩ := b1_ok r40; clear r40
     refine o_callV rfl Try.call72 rfl rfl rfl (night_desk_sets_w hz22 h27 h30 h56) ?_
     obtain ⟨g58, r59⟩ := gd_ok r57; clear r57
     refine ov (v_sub rfl rfl g58) rfl ?_
     obtain ⟨ok, h60, r61⟩ := b1_ok r59; clear r59
     refine o_callV rfl Try.call59 rfl rfl rfl (night_in_w h60) ?_
     refine ov (v_notB rfl) rfl ?_
     refine shO_nil ?_
     refine shW_cond rfl (fun c62 => ?_) (fun c62 => ?_)
     · have r63 := bt r61 c62; clear r61
       refine wsr (oa rfl rfl (oa rfl rfl (shO_nil ?_)))
       refine kW kn ?_
       refine shW_ret (andThen_ret (inBlock_ret (andThen_ret (andThen_ret (inBlock_ret (andThen_ret ?_))))))
       refine q_res2 Try.results50 (res_tmp rfl) (res_tmp rfl) (sr) ?_
       obtain ⟨rfl, rfl⟩ := inj2 r63
       exact rfl
     have r64 := bf r61 c62; clear r61
     refine shW_skip (shW_seq (wsr (om rfl rfl (om rfl rfl (om rfl rfl ?_)))))
     obtain ⟨ok2, h65, r66⟩ := b1_ok r64; clear r64
     refine o_callV rfl Try.call74 rfl rfl rfl (night_desk_fits_w hz22 h27 h30 h37 h65) ?_
     refine ov (v_notB rfl) rfl ?_
     refine shO_nil ?_
     refine shW_cond rfl (fun c67 => ?_) (fun c67 => ?_)
     · have r68 := bt r66 c67; clear r66
       refine wsr (oa rfl rfl (oa rfl rfl (shO_nil ?_)))
       refine kW kn ?_
       refine shW_ret (andThen_ret (inBlock_ret (andThen_ret (andThen_ret (inBlock_ret (andThen_ret ?_))))))
       refine q_res2 Try.results50 (res_tmp rfl) (res_tmp rfl) (sr) ?_
       obtain ⟨rfl, rfl⟩ := inj2 r68
       exact rfl
     have r69 := bf r66 c67; clear r66
     refine shW_skip (wsr (om rfl rfl (om rfl rfl (om rfl rfl ?_))))
     obtain ⟨n5, h70, r71⟩ := b1_ok r69; clear r69
     refine o_callV rfl Try.call63 rfl rfl rfl (night_fallen_w h70) ?_
     obtain ⟨g72, r73⟩ := gd_ok r71; clear r71
     refine ov (v_add rfl rfl g72) rfl ?_
     refine oa rfl rfl (shO_nil (shW_region (om rfl rfl (oa rfl rfl (shO_nil (inBlock_n (id := 2) (shW_region ?_)))))))
     refine ov (v_add rfl rfl (Lst.r64 hk38 c43 (RowR.lt h_nights))) rfl ?_
     refine om rfl rfl (shO_nil ?_)
     subst hn39; exact le kr ⟨_, _, rfl, hk44, n3 + n5, x, r73, rfl, rfl, (sc rfl (sc rfl (sc rfl (sc rfl (sc rfl (sc rfl (sc rfl (sn _))))))))⟩
   obtain rfl := Lst.zero hk38 c43
   rw [night_Naps_l2] at r40
   refine shW_exit (andThen_exit (andThen_exit ?_))
   refine inBlock_exit ?_
   exact mi kn ⟨n3, r40, rfl, rfl, (sc rfl (sn _))⟩
 rintro e1 _ _ ⟨n2, r74, rfl, rfl, he75⟩
 refine shW_env _ he75 ?_; clear he75
 rw [night_Naps_j1] at r74
 refine wsr (om rfl rfl (oa rfl rfl (oa rfl rfl (shO_nil (shW_ret ?_)))))
 refine q_res2 Try.results50 (res_tmp rfl) (res_tmp rfl) (sr) ?_
 obtain ⟨rfl, rfl⟩ := inj2 r74
 exact rfl
set_option maxHeartbeats 1000000 in
theorem oyezlaw05_NightExplained_w {numbers_a : Option Addr} {numbers_c : Nat} {numbers : List Int} {tries_a : Option Addr} {tries_c : Nat} {tries : List Int} {F : FS} (h_numbers : RowR 1 (iE .u8) F numbers_a numbers_c numbers) (h_tries : RowR 1 (iE .u8) F tries_a tries_c tries) {r : Bool} (hr : oyezlaw05_NightExplained numbers tries = some r) :
    SpecV Try.prog 10 #[.slice numbers_a numbers.length numbers_c, .slice tries_a tries.length tries_c] F (.bool r) := by
 refine spec_of_shW (args := [.slice numbers_a numbers.length numbers_c, .slice tries_a tries.length tries_c]) Try.func10 rfl Try.ntmps10 (Nat.le_of_ble_eq_true rfl) ?_
 intro K _ _; rw [oyezlaw05_NightExplained] at hr
 refine wsr (oa rfl rfl (nsr (om rfl rfl ?_)))
 obtain ⟨metal, at_, turn, h1, r2⟩ := b3_ok hr; clear hr
 refine o_call0 rfl Try.call13 rfl rfl rfl (oyezkit_Hang_w h_numbers h1) ?_; rintro _ F3 _ hF4 hn5 ⟨b7, a8, c9, rfl, rfl, h10⟩
 replace h_tries := h_tries.mono (iE_ok _) hF4
 refine shO_L (lb (ln rfl)) ?_
 obtain ⟨l, l2, l3, at_2, turn2, h11, r12⟩ := b5_ok r2; clear r2
 refine o_callG (Lb := [(b7, .cells #[.slice a8 metal.length c9, .int .i64 at_, .int .u32 turn] 104 (0, 0))]) (Lr := []) rfl Try.call12 rfl rfl rfl (pR) (oyezlaw05_Made_w h10 h11) ?_; rintro _ F13 _ hF14 hd16 hn15 ⟨a17, n21, c18, Lb19, a23, n27, c24, Lb25, a29, n33, c30, Lb31, rfl, rfl, hz20, hz26, hz32⟩
 replace h_tries := h_tries.mono (iE_ok _) hF14
 have hn35 := newp (Lb' := [(b7, .cells #[.slice a8 metal.length c9, .int .i64 at_2, .int .u32 turn2] 104 (0, 0))]) (by rfl) hd16 hn15
 replace hz20 := hz20.new fun p hp => hn35 p (by simp [hp])
 replace hz26 := hz26.new fun p hp => hn35 p (by simp [hp])
 replace hz32 := hz32.new fun p hp => hn35 p (by simp [hp])
 refine shO_L (lb (lp (lp (lp (ln rfl))))) ?_
 refine om rfl rfl (ox rfl rfl rfl (ox rfl rfl rfl ?_))
 refine o_alloc rfl Try.zeroValue26 ?_; intro b36 hb36
 refine o_storeA (i := 0) Try.sizeOf26 rfl rfl rfl (by simp [Value.oneCell']) rfl (Nat.le_of_ble_eq_true rfl) ?_
 refine shO_L (L' := (b36, .cells #[.slice a17 n21 c18, .slice a23 n27 c24] 26 (0, 0)) :: ((b7, .cells #[.slice a8 metal.length c9, .int .i64 at_2, .int .u32 turn2] 104 (0, 0)) :: (Lb19 ++ (Lb25 ++ (Lb31 ++ []))))) rfl ?_
 refine oa rfl rfl (nsr (om rfl rfl ?_))
 obtain ⟨metal2, at_3, turn3, h37, r38⟩ := b3_ok r12; clear r12
 refine o_call0 rfl Try.call13 rfl rfl rfl (oyezkit_Hang_w h_tries h37) ?_; rintro _ F39 _ hF40 hn41 ⟨b43, a44, c45, rfl, rfl, h46⟩
 replace hz20 := hz20.mono (slE_ok (iE_ok _)) hF40
 replace hz26 := hz26.mono (slE_ok (iE_ok _)) hF40
 replace hz32 := hz32.mono (iE_ok _) hF40
 refine shO_L (lb (ln rfl)) ?_
 refine oa rfl rfl (nsr ?_)
 refine ov (v_loadA (cs := #[.slice a17 n21 c18, .slice a23 n27 c24]) Try.isAgg26 Try.sizeOf26 rfl (Has.own 1 rfl) (Nat.le_of_ble_eq_true rfl) rfl) rfl ?_
 obtain ⟨l4, n, n2, h47, r48⟩ := b3_ok r38; clear r38
 refine o_callTO (Lb := []) (Lt := Lb19 ++ (Lb25 ++ [])) (Lr := (b43, .cells #[.slice a44 metal2.length c45, .int .i64 at_3, .int .u32 turn3] 104 (0, 0)) :: ((b36, .cells #[.slice a17 n21 c18, .slice a23 n27 c24] 26 (0, 0)) :: ((b7, .cells #[.slice a8 metal.length c9, .int .i64 at_2, .int .u32 turn2] 104 (0, 0)) :: (Lb31 ++ [])))) rfl Try.call14 rfl rfl rfl (pT ((fC (fC (fC fP))).trans (pA ((fC (fC (fC fP))).trans (pA pR)))) (ln (lp (lp (ln rfl))))) (fun F2 h2 h3 => by rw [(SlR.caps hz20).1]; rw [(SlR.caps hz26).1]; exact night_Fewest_w (hz20.row (slE_ok (iE_ok _)) h2 (fun p hp => h3 p (List.mem_append_left _ hp))) (hz26.row (slE_ok (iE_ok _)) h2 (fun p hp => h3 p (List.mem_append_right _ (List.mem_append_left _ hp)))) h47) (fun _ _ _ _ hq => by obtain ⟨a53, n57, c54, Lb55, rfl, rfl, hz56⟩ := hq; exact ⟨_, _, _, _, rfl, rfl, hz56.flat (fun _ _ h => h)⟩) ?_; rintro _ F49 _ hF50 hd52 hn51 ⟨a53, n57, c54, Lb55, rfl, rfl, hz56⟩
 replace h46 := h46.mono (iE_ok _) hF50
 replace hz20 := hz20.mono (slE_ok (iE_ok _)) hF50
 replace hz26 := hz26.mono (slE_ok (iE_ok _)) hF50
 replace hz32 := hz32.mono (iE_ok _) hF50
 have hn59 := newp (Lb' := []) (by rfl) hd52 hn51
 replace hz56 := hz56.new fun p hp => hn59 p (by simp [hp])
 refine shO_L (lp (ln (lp (lp (ln rfl))))) ?_
 refine kO (kf (fS (fS (fS fO))) (kf (fS (fS (fS fO))) (kf (fS (fS (fS fO))) kr))) ?_
 refine om rfl rfl (ox rfl rfl rfl (ox rfl rfl rfl (ox rfl rfl rfl (oa rfl rfl (oa rfl rfl (oa rfl rfl (nsr ?_)))))))
 refine ov (v_loadA (cs := #[.slice a17 n21 c18, .slice a23 n27 c24]) Try.isAgg26 Try.sizeOf26 rfl (Has.own 1 rfl) (Nat.le_of_ble_eq_true rfl) rfl) rfl ?_
 obtain rfl := (SlR.caps hz20).1
 refine shO_freezeR (Nat.le_refl _) (slE_ok (iE_ok _)) (fC (fC (fC (fS fP)))) hz20 ?_; intro F60 hF61 h62
 replace h46 := h46.mono (iE_ok _) hF61
 replace hz26 := hz26.mono (slE_ok (iE_ok _)) hF61
 replace hz32 := hz32.mono (iE_ok _) hF61
 replace hz56 := hz56.mono (iE_ok _) hF61
 obtain rfl := (SlR.caps hz26).1
 refine shO_freezeR (Nat.le_refl _) (slE_ok (iE_ok _)) (fC (fC (fC (fS fP)))) hz26 ?_; intro F63 hF64 h65
 replace h46 := h46.mono (iE_ok _) hF64
 replace h62 := h62.mono (slE_ok (iE_ok _)) hF64
 replace hz32 := hz32.mono (iE_ok _) hF64
 replace hz56 := hz56.mono (iE_ok _) hF64
 obtain ⟨l5, n3, h66, r67⟩ := b2_ok r48; clear r48
 refine o_call0 rfl Try.call32 rfl rfl rfl (night_Table_w h62 h65 h66) ?_; rintro _ F68 _ hF69 hn70 ⟨a72, n76, c73, Lb74, rfl, rfl, hz75⟩
 replace h46 := h46.mono (iE_ok _) hF69
 replace h62 := h62.mono (slE_ok (iE_ok _)) hF69
 replace h65 := h65.mono (slE_ok (iE_ok _)) hF69
 replace hz32 := hz32.mono (iE_ok _) hF69
 replace hz56 := hz56.mono (iE_ok _) hF69
 replace hz75 := hz75.new fun p hp => hn70 p (by simp [hp])
 refine shO_L (lp (ln rfl)) ?_
 refine kO (kf (fS fO) (kf (fS fO) (kf (fS fO) kr))) ?_
 refine om rfl rfl (ox rfl rfl rfl (ox rfl rfl rfl (oa rfl rfl (oa rfl rfl (shO_nil (shW_seq ?_))))))
 obtain ⟨k, h78, r79⟩ := b1_ok r67; clear r67
 refine shW_join (fun e1 F1 L1 => F68 = F1 ∧ L1 = ((b43, .cells #[.slice a44 metal2.length c45, .int .i64 at_3, .int .u32 turn3] 104 (0, 0)) :: ((b36, .cells #[.slice a17 l.length c18, .slice a23 l2.length c24] 26 (0, 0)) :: (Lb31 ++ (Lb55 ++ (Lb74 ++ []))))) ∧ e1.sub [(5, .pointer (some ⟨b36, 0, none⟩)), (6, .slice a29 n33 c30), (7, .pointer (some ⟨b43, 0, none⟩)), (8, .slice a53 n57 c54), (9, .int .i64 n), (11, .slice a72 n76 c73), (62, .bool k)]) ?_ ?_
 · clear r79
   refine shW_region (om rfl rfl ?_)
   refine ov (v_neq rfl rfl) rfl ?_
   refine om rfl rfl ?_
   by_cases c80 : n2 ≠ 0
   · have r81 := ite_t h78 c80; clear h78
     refine shO_off (b' := true) 45 rfl (Env.isT rfl c80) rfl rfl (shO_off (b' := true) 45 rfl (Env.isT rfl c80) rfl rfl ?_)
     refine ov (v_pick_t (evD_true rfl c80) rfl) rfl ?_
     refine om rfl rfl (shO_off (b' := true) 49 rfl rfl rfl rfl (shO_off (b' := true) 49 rfl rfl rfl rfl (shO_off (b' := true) 49 rfl rfl rfl rfl (shO_off (b' := true) 49 rfl rfl rfl rfl (shO_off (b' := true) 49 rfl rfl rfl rfl (shO_off (b' := true) 49 rfl rfl rfl rfl ?_))))))
     refine ov (v_pick_t rfl rfl) rfl ?_
     refine om rfl rfl (shO_off (b' := true) 57 rfl rfl rfl rfl (shO_off (b' := true) 57 rfl rfl rfl rfl (shO_off (b' := true) 57 rfl rfl rfl rfl (shO_off (b' := true) 57 rfl rfl rfl rfl ?_))))
     refine ov (v_pick_t rfl rfl) rfl ?_
     refine shO_nil ?_
     obtain rfl := inj1 r81
     exact mi (kc (kc (kd (kg (fS (fS fP)) (kg (fS fP) kr))))) ⟨rfl, rfl, (sc rfl (sc rfl (sc rfl (sc rfl (sc rfl (sc rfl (sc rfl (sn _))))))))⟩
   have r82 := ite_f h78 c80; clear h78
   refine shO_on (b := false) 45 rfl (Env.isF rfl c80) (om rfl rfl (shO_on (b := false) 45 rfl (Env.isF rfl c80) ?_))
   refine ov (v_neq rfl rfl) rfl ?_
   refine ov (v_pick_f (evD_false rfl c80) rfl) rfl ?_
   refine om rfl rfl ?_
   by_cases c83 : n3 ≠ 0
   · have r84 := ite_t r82 c83; clear r82
     refine shO_off (b' := true) 49 rfl (Env.isT rfl c83) rfl rfl (shO_off (b' := true) 49 rfl (Env.isT rfl c83) rfl rfl (shO_off (b' := true) 49 rfl (Env.isT rfl c83) rfl rfl (shO_off (b' := true) 49 rfl (Env.isT rfl c83) rfl rfl (shO_off (b' := true) 49 rfl (Env.isT rfl c83) rfl rfl (shO_off (b' := true) 49 rfl (Env.isT rfl c83) rfl rfl ?_)))))
     refine ov (v_pick_t (evD_true rfl c83) rfl) rfl ?_
     refine om rfl rfl (shO_off (b' := true) 57 rfl rfl rfl rfl (shO_off (b' := true) 57 rfl rfl rfl rfl (shO_off (b' := true) 57 rfl rfl rfl rfl (shO_off (b' := true) 57 rfl rfl rfl rfl ?_))))
     refine ov (v_pick_t rfl rfl) rfl ?_
     refine shO_nil ?_
     obtain rfl := inj1 r84
     exact mi (kc (kc (kd (kg (fS (fS fP)) (kg (fS fP) kr))))) ⟨rfl, rfl, (sc rfl (sc rfl (sc rfl (sc rfl (sc rfl (sc rfl (sc rfl (sn _))))))))⟩
   have r85 := ite_f r82 c83; clear r82
   refine shO_on (b := false) 49 rfl (Env.isF rfl c83) (om rfl rfl (shO_on (b := false) 49 rfl (Env.isF rfl c83) ?_))
   refine ov ((v_lenS Try.underlying27 rfl).i (SlR.lenI hz56)) rfl ?_
   refine shO_on (b := false) 49 rfl (Env.isF rfl c83) ?_
   refine ov (v_fieldAddr fa_26_1 rfl) rfl ?_
   refine shO_on (b := false) 49 rfl (Env.isF rfl c83) ?_
   refine ov (v_load Try.isAgg24 rfl (Has.own 1 rfl) rfl) rfl ?_
   refine shO_on (b := false) 49 rfl (Env.isF rfl c83) ?_
   refine ov (v_lenS Try.underlying24 rfl) rfl ?_
   refine shO_on (b := false) 49 rfl (Env.isF rfl c83) ?_
   refine ov (v_neq rfl rfl) rfl ?_
   refine ov (v_pick_f (evD_false rfl c83) rfl) rfl ?_
   refine om rfl rfl ?_
   by_cases c86 : (l4.length : Int) ≠ (l2.length : Int)
   · have r87 := ite_t r85 c86; clear r85
     refine shO_off (b' := true) 57 rfl (Env.isT rfl c86) rfl rfl (shO_off (b' := true) 57 rfl (Env.isT rfl c86) rfl rfl (shO_off (b' := true) 57 rfl (Env.isT rfl c86) rfl rfl (shO_off (b' := true) 57 rfl (Env.isT rfl c86) rfl rfl ?_)))
     refine ov (v_pick_t (evD_true rfl c86) rfl) rfl ?_
     refine shO_nil ?_
     obtain rfl := inj1 r87
     exact mi (kc (kc (kd (kg (fS (fS fP)) (kg (fS fP) kr))))) ⟨rfl, rfl, (sc rfl (sc rfl (sc rfl (sc rfl (sc rfl (sc rfl (sc rfl (sn _))))))))⟩
   have r88 := ite_f r85 c86; clear r85
   refine shO_on (b := false) 57 rfl (Env.isF rfl c86) (om rfl rfl (shO_on (b := false) 57 rfl (Env.isF rfl c86) ?_))
   obtain ⟨n4, h89, r90⟩ := b1_ok r88; clear r88
   refine o_callT (Lt := Lb55 ++ []) (Lr := (b43, .cells #[.slice a44 metal2.length c45, .int .i64 at_3, .int .u32 turn3] 104 (0, 0)) :: ((b36, .cells #[.slice a17 l.length c18, .slice a23 l2.length c24] 26 (0, 0)) :: ((b7, .cells #[.slice a8 metal.length c9, .int .i64 at_2, .int .u32 turn2] 104 (0, 0)) :: (Lb74 ++ (Lb31 ++ []))))) rfl Try.call49 rfl rfl rfl (pT ((fC (fC (fC (fS fP)))).trans (pA pR)) (lp (ln rfl))) (fun F2 h2 h3 => by rw [(SlR.caps hz56).1]; exact oyezlaw05_naps_w (hz56.row (iE_ok _) h2 (fun p hp => h3 p (List.mem_append_left _ hp))) h89) ?_
   refine shO_on (b := false) 57 rfl (Env.isF rfl c86) (om rfl rfl (shO_on (b := false) 57 rfl (Env.isF rfl c86) ?_))
   refine ov (v_neq rfl rfl) rfl ?_
   refine ov (v_pick_f (evD_false rfl c86) rfl) rfl ?_
   refine shO_nil ?_
   obtain rfl := inj1 r90
   exact mi (kc (kc (kd (kg (fS (fS fP)) (kg (fS fP) kr))))) ⟨rfl, rfl, (sc rfl (sc rfl (sc rfl (sc rfl (sc rfl (sc rfl (sc rfl (sn _))))))))⟩
 rintro e1 _ _ ⟨rfl, rfl, he91⟩
 refine shW_env _ he91 ?_; clear he91
 refine shW_cond rfl (fun c92 => ?_) (fun c92 => ?_)
 · have r93 := bt r79 c92; clear r79
   refine wsr (oa rfl rfl (shO_nil ?_))
   refine kW kn ?_
   refine shW_ret (andThen_ret ?_)
   refine q_res1 Try.results10 (res_tmp rfl) (sr) ?_
   obtain rfl := inj1 r93
   exact rfl
 have r94 := bf r79 c92; clear r79
 refine shW_skip ?_
 refine shW_join (fun e1 F1 L1 => oyezlaw05_NightExplained_j1 l l2 l3 metal2 at_3 turn3 l4 n l5 = some r ∧ F68 = F1 ∧ L1 = ((b43, .cells #[.slice a44 metal2.length c45, .int .i64 at_3, .int .u32 turn3] 104 (0, 0)) :: ((b36, .cells #[.slice a17 l.length c18, .slice a23 l2.length c24] 26 (0, 0)) :: (Lb31 ++ (Lb55 ++ (Lb74 ++ []))))) ∧ e1.sub [(5, .pointer (some ⟨b36, 0, none⟩)), (6, .slice a29 n33 c30), (7, .pointer (some ⟨b43, 0, none⟩)), (8, .slice a53 n57 c54), (9, .int .i64 n), (11, .slice a72 n76 c73)]) ?_ ?_
 · refine wsr (om rfl rfl ?_)
   refine ov ((v_lenS Try.underlying27 rfl).i (SlR.lenI hz56)) rfl ?_
   refine om rfl rfl (shO_nil ?_)
   refine shW_block ?_
   refine shW_lp (fun fu2 e1 F1 L1 => ∃ (tl : List Int) (k2 : Int), tl.length = fu2 ∧ Lst l4 k2 tl ∧ oyezlaw05_NightExplained_l2 l l2 l3 metal2 at_3 turn3 l4 n l5 tl k2 = some r ∧ F68 = F1 ∧ L1 = ((b43, .cells #[.slice a44 metal2.length c45, .int .i64 at_3, .int .u32 turn3] 104 (0, 0)) :: ((b36, .cells #[.slice a17 l.length c18, .slice a23 l2.length c24] 26 (0, 0)) :: (Lb31 ++ (Lb55 ++ (Lb74 ++ []))))) ∧ e1.sub [(5, .pointer (some ⟨b36, 0, none⟩)), (6, .slice a29 n33 c30), (7, .pointer (some ⟨b43, 0, none⟩)), (8, .slice a53 n57 c54), (9, .int .i64 n), (11, .slice a72 n76 c73), (63, .slice a53 n57 c54), (64, .int .i64 (l4.length : Int)), (65, .int .i64 k2)]) _ (m0 kr ⟨_, _, rfl, Lst.start _, r94, rfl, rfl, (sc rfl (sc rfl (sc rfl (sc rfl (sc rfl (sc rfl (sc rfl (sc rfl (sc rfl (sn _))))))))))⟩) ?_
   rintro fu2 e1 _ _ ⟨tl, k2, hn96, hk95, r97, rfl, rfl, he98⟩
   refine shW_env _ he98 ?_; clear he98
   refine wsr ?_
   refine ov (v_lssK rfl rfl) rfl ?_
   refine shO_nil (shW_seq ?_)
   refine shW_condP rfl (fun c100 => ?_) (fun c100 => ?_)
   · obtain ⟨x, tl2, rfl, hx102, g103, hk101⟩ := Lst.succ hk95 c100
     rw [oyezlaw05_NightExplained_l2] at r97
     refine shW_skip (shW_seq ?_)
     refine shW_block ?_
     refine wsr (om rfl rfl ?_)
     obtain ⟨b104, o105, c106, vs107, ha108, hs109, hle110, rfl, hl111, hc112⟩ := SlR.at (iE_ok _) hz56 (L := (b43, .cells #[.slice a44 metal2.length c45, .int .i64 at_3, .int .u32 turn3] 104 (0, 0)) :: ((b36, .cells #[.slice a17 l.length c18, .slice a23 l2.length c24] 26 (0, 0)) :: (Lb31 ++ (Lb55 ++ (Lb74 ++ []))))) (fC (fC (fS fP))) g103.1 hx102
     refine ov (v_indexO Try.underlying27 Try.sizeOf3 rfl ha108 rfl (SlR.idx hz56 g103)) rfl ?_
     refine ov (v_load Try.isAgg3 rfl hs109 (hc112 0 (by decide))) rfl ?_
     refine oa rfl rfl (oa rfl rfl (shO_nil ?_))
     obtain ⟨k3, h113, r114⟩ := b1_ok r97; clear r97
     refine shW_join (fun e1 F1 L1 => F68 = F1 ∧ L1 = ((b43, .cells #[.slice a44 metal2.length c45, .int .i64 at_3, .int .u32 turn3] 104 (0, 0)) :: ((b36, .cells #[.slice a17 l.length c18, .slice a23 l2.length c24] 26 (0, 0)) :: (Lb31 ++ (Lb55 ++ (Lb74 ++ []))))) ∧ e1.sub [(5, .pointer (some ⟨b36, 0, none⟩)), (6, .slice a29 n33 c30), (7, .pointer (some ⟨b43, 0, none⟩)), (8, .slice a53 n57 c54), (9, .int .i64 n), (11, .slice a72 n76 c73), (63, .slice a53 n57 c54), (64, .int .i64 (l4.length : Int)), (65, .int .i64 k2), (90, .bool k3)]) ?_ ?_
     · clear r114
       refine shW_draw (by kernel_rfl) (by kernel_rfl) (by kernel_rfl) ?_
       refine qm rfl rfl ?_
       refine qv (v_lssK rfl rfl) rfl ?_
       refine qm rfl rfl ?_
       by_cases c115 : x < 0
       · have r116 := ite_t h113 c115; clear h113
         refine shQ_off (b' := true) 72 rfl (Env.isT rfl c115) rfl rfl (shQ_off (b' := true) 72 rfl (Env.isT rfl c115) rfl rfl (shQ_off (b' := true) 72 rfl (Env.isT rfl c115) rfl rfl (shQ_off (b' := true) 72 rfl (Env.isT rfl c115) rfl rfl (shQ_off (b' := true) 72 rfl (Env.isT rfl c115) rfl rfl (shQ_off (b' := true) 72 rfl (Env.isT rfl c115) rfl rfl ?_)))))
         refine qv (v_pick_t (evD_true rfl c115) rfl) rfl ?_
         refine qm rfl rfl (shQ_off (b' := true) 80 rfl rfl rfl rfl (shQ_off (b' := true) 80 rfl rfl rfl rfl (shQ_off (b' := true) 80 rfl rfl rfl rfl (shQ_off (b' := true) 80 rfl rfl rfl rfl (shQ_off (b' := true) 80 rfl rfl rfl rfl (shQ_off (b' := true) 80 rfl rfl rfl rfl (shQ_off (b' := true) 80 rfl rfl rfl rfl (shQ_off (b' := true) 80 rfl rfl rfl rfl (shQ_off (b' := true) 80 rfl rfl rfl rfl ?_)))))))))
         refine qv (v_pick_t rfl rfl) rfl ?_
         refine shQ_nil ?_
         obtain rfl := inj1 r116
         exact mi kr ⟨rfl, rfl, (sc rfl (sc rfl (sc rfl (sc rfl (sc rfl (sc rfl (sc rfl (sc rfl (sc rfl (sc rfl (sn _)))))))))))⟩
       have r117 := ite_f h113 c115; clear h113
       refine shQ_on (b := false) 72 rfl (Env.isF rfl c115) (qm rfl rfl (shQ_on (b := false) 72 rfl (Env.isF rfl c115) ?_))
       refine qv (v_fieldAddr fa_26_0 rfl) rfl ?_
       refine shQ_on (b := false) 72 rfl (Env.isF rfl c115) ?_
       refine qv (v_load Try.isAgg23 rfl (Has.own 1 rfl) rfl) rfl ?_
       refine shQ_on (b := false) 72 rfl (Env.isF rfl c115) ?_
       refine qv (v_lenS Try.underlying23 rfl) rfl ?_
       refine shQ_on (b := false) 72 rfl (Env.isF rfl c115) ?_
       obtain ⟨g118, r119⟩ := gd_ok r117; clear r117
       refine qv (v_shl rfl rfl g118) rfl ?_
       refine shQ_on (b := false) 72 rfl (Env.isF rfl c115) ?_
       refine qv (v_geqK rfl rfl) rfl ?_
       refine qv (v_pick_f (evD_false rfl c115) rfl) rfl ?_
       refine qm rfl rfl ?_
       by_cases c120 : (shl 1 (l.length : Int)) ≤ x
       · have r121 := ite_t r119 c120; clear r119
         refine shQ_off (b' := true) 80 rfl (Env.isT rfl c120) rfl rfl (shQ_off (b' := true) 80 rfl (Env.isT rfl c120) rfl rfl (shQ_off (b' := true) 80 rfl (Env.isT rfl c120) rfl rfl (shQ_off (b' := true) 80 rfl (Env.isT rfl c120) rfl rfl (shQ_off (b' := true) 80 rfl (Env.isT rfl c120) rfl rfl (shQ_off (b' := true) 80 rfl (Env.isT rfl c120) rfl rfl (shQ_off (b' := true) 80 rfl (Env.isT rfl c120) rfl rfl (shQ_off (b' := true) 80 rfl (Env.isT rfl c120) rfl rfl (shQ_off (b' := true) 80 rfl (Env.isT rfl c120) rfl rfl ?_))))))))
         refine qv (v_pick_t (evD_true rfl c120) rfl) rfl ?_
         refine shQ_nil ?_
         obtain rfl := inj1 r121
         exact mi kr ⟨rfl, rfl, (sc rfl (sc rfl (sc rfl (sc rfl (sc rfl (sc rfl (sc rfl (sc rfl (sc rfl (sc rfl (sn _)))))))))))⟩
       have r122 := ite_f r119 c120; clear r119
       refine shQ_on (b := false) 80 rfl (Env.isF rfl c120) ?_
       refine qv (v_loadA (cs := #[.slice a17 l.length c18, .slice a23 l2.length c24]) Try.isAgg26 Try.sizeOf26 rfl (Has.own 1 rfl) (Nat.le_of_ble_eq_true rfl) rfl) rfl ?_
       refine shQ_on (b := false) 80 rfl (Env.isF rfl c120) ?_
       refine qv (v_fieldAddr fa_26_1 rfl) rfl ?_
       refine shQ_on (b := false) 80 rfl (Env.isF rfl c120) ?_
       refine qv (v_load Try.isAgg24 rfl (Has.own 1 rfl) rfl) rfl ?_
       refine shQ_on (b := false) 80 rfl (Env.isF rfl c120) (qm rfl rfl (shQ_on (b := false) 80 rfl (Env.isF rfl c120) ?_))
       obtain ⟨x2, g123, hx124, r125⟩ := ix_ok r122; clear r122
       obtain ⟨b126, o127, c128, vs129, ha130, hs131, hle132, ⟨a135, c136, rfl, h137⟩, hl133, hc134⟩ := RowR.at (slE_ok (iE_ok _)) h65 ((b43, .cells #[.slice a44 metal2.length c45, .int .i64 at_3, .int .u32 turn3] 104 (0, 0)) :: ((b36, .cells #[.slice a17 l.length c18, .slice a23 l2.length c24] 26 (0, 0)) :: (Lb31 ++ (Lb55 ++ (Lb74 ++ []))))) g123.1 hx124
       refine qv (v_indexO Try.underlying24 Try.sizeOf40 rfl ha130 rfl g123) rfl ?_
       refine shQ_on (b := false) 80 rfl (Env.isF rfl c120) ?_
       refine qv (v_load Try.isAgg40 rfl hs131 (hc134 0 (by decide))) rfl ?_
       refine shQ_on (b := false) 80 rfl (Env.isF rfl c120) (qm rfl rfl (shQ_on (b := false) 80 rfl (Env.isF rfl c120) ?_))
       obtain ⟨ok, h138, r139⟩ := b1_ok r125; clear r125
       refine shQ_callV rfl Try.call23 rfl rfl rfl (oyezlaw05_fits_w h62 h65 h137 h138) ?_
       refine shQ_on (b := false) 80 rfl (Env.isF rfl c120) ?_
       refine qv (v_notB rfl) rfl ?_
       refine qv (v_pick_f (evD_false rfl c120) rfl) rfl ?_
       refine shQ_nil ?_
       obtain rfl := inj1 r139
       exact mi kr ⟨rfl, rfl, (sc rfl (sc rfl (sc rfl (sc rfl (sc rfl (sc rfl (sc rfl (sc rfl (sc rfl (sc rfl (sn _)))))))))))⟩
     rintro e1 _ _ ⟨rfl, rfl, he140⟩
     refine shW_env _ he140 ?_; clear he140
     refine shW_cond rfl (fun c141 => ?_) (fun c141 => ?_)
     · have r142 := bt r114 c141; clear r114
       refine wsr (oa rfl rfl (shO_nil ?_))
       refine kW kn ?_
       refine shW_ret (inBlock_ret (andThen_ret (andThen_ret (inBlock_ret (andThen_ret ?_)))))
       refine q_res1 Try.results10 (res_tmp rfl) (sr) ?_
       obtain rfl := inj1 r142
       exact rfl
     have r143 := bf r114 c141; clear r114
     refine shW_skip (inBlock_n (id := 1) (shW_region ?_))
     refine ov (v_add rfl rfl (Lst.r64 hk95 c100 (SlR.llt hz56))) rfl ?_
     refine om rfl rfl (shO_nil ?_)
     subst hn96; exact le kr ⟨_, _, rfl, hk101, r143, rfl, rfl, (sc rfl (sc rfl (sc rfl (sc rfl (sc rfl (sc rfl (sc rfl (sc rfl (sc rfl (sn _))))))))))⟩
   obtain rfl := Lst.zero hk95 c100
   rw [oyezlaw05_NightExplained_l2] at r97
   refine shW_exit (andThen_exit (andThen_exit ?_))
   refine inBlock_exit ?_
   exact mi kr ⟨r97, rfl, rfl, (sc rfl (sc rfl (sc rfl (sc rfl (sc rfl (sc rfl (sn _)))))))⟩
 rintro e1 _ _ ⟨r144, rfl, rfl, he145⟩
 refine shW_env _ he145 ?_; clear he145
 rw [oyezlaw05_NightExplained_j1] at r144
 refine shW_seq (wsr ?_)
 refine ov (v_loadA (cs := #[.slice a17 l.length c18, .slice a23 l2.length c24]) Try.isAgg26 Try.sizeOf26 rfl (Has.own 1 rfl) (Nat.le_of_ble_eq_true rfl) rfl) rfl ?_
 refine om rfl rfl ?_
 obtain ⟨n5, n6, h146, r147⟩ := b2_ok r144; clear r144
 refine o_callT (Lt := Lb74 ++ []) (Lr := (b43, .cells #[.slice a44 metal2.length c45, .int .i64 at_3, .int .u32 turn3] 104 (0, 0)) :: ((b36, .cells #[.slice a17 l.length c18, .slice a23 l2.length c24] 26 (0, 0)) :: (Lb31 ++ (Lb55 ++ [])))) rfl Try.call35 rfl rfl rfl (pT ((fC (fC (fS (fS fP)))).trans (pA pR)) (lp (ln rfl))) (fun F2 h2 h3 => by rw [(SlR.caps hz75).1]; exact night_Shows_w (h62.mono (slE_ok (iE_ok _)) h2) (h65.mono (slE_ok (iE_ok _)) h2) (hz75.row (slE_ok (iE_ok _)) h2 (fun p hp => h3 p (List.mem_append_left _ hp))) h146) ?_
 refine om rfl rfl (ox rfl rfl rfl (ox rfl rfl rfl (oa rfl rfl (oa rfl rfl (shO_nil ?_)))))
 obtain ⟨k4, h148, r149⟩ := b1_ok r147; clear r147
 refine shW_join (fun e1 F1 L1 => F68 = F1 ∧ L1 = ((b43, .cells #[.slice a44 metal2.length c45, .int .i64 at_3, .int .u32 turn3] 104 (0, 0)) :: ((b36, .cells #[.slice a17 l.length c18, .slice a23 l2.length c24] 26 (0, 0)) :: (Lb31 ++ (Lb55 ++ [])))) ∧ e1.sub [(5, .pointer (some ⟨b36, 0, none⟩)), (6, .slice a29 n33 c30), (7, .pointer (some ⟨b43, 0, none⟩)), (8, .slice a53 n57 c54), (9, .int .i64 n), (104, .bool k4)]) ?_ ?_
 · clear r149
   refine shW_region (om rfl rfl ?_)
   refine ov (v_neq rfl rfl) rfl ?_
   refine om rfl rfl ?_
   by_cases c150 : n6 ≠ 0
   · have r151 := ite_t h148 c150; clear h148
     refine shO_off (b' := true) 100 rfl (Env.isT rfl c150) rfl rfl (shO_off (b' := true) 100 rfl (Env.isT rfl c150) rfl rfl (shO_off (b' := true) 100 rfl (Env.isT rfl c150) rfl rfl ?_))
     refine ov (v_pick_t (evD_true rfl c150) rfl) rfl ?_
     refine shO_nil ?_
     obtain rfl := inj1 r151
     exact mi (kc (kc (ka (ka kn)))) ⟨rfl, rfl, (sc rfl (sc rfl (sc rfl (sc rfl (sc rfl (sc rfl (sn _)))))))⟩
   have r152 := ite_f h148 c150; clear h148
   refine shO_on (b := false) 100 rfl (Env.isF rfl c150) (om rfl rfl (shO_on (b := false) 100 rfl (Env.isF rfl c150) (om rfl rfl (shO_on (b := false) 100 rfl (Env.isF rfl c150) ?_))))
   refine ov (v_neq rfl rfl) rfl ?_
   refine ov (v_pick_f (evD_false rfl c150) rfl) rfl ?_
   refine shO_nil ?_
   obtain rfl := inj1 r152
   exact mi (kc (kc (ka (ka kn)))) ⟨rfl, rfl, (sc rfl (sc rfl (sc rfl (sc rfl (sc rfl (sc rfl (sn _)))))))⟩
 rintro e1 _ _ ⟨rfl, rfl, he153⟩
 refine shW_env _ he153 ?_; clear he153
 refine shW_cond rfl (fun c154 => ?_) (fun c154 => ?_)
 · have r155 := bt r149 c154; clear r149
   refine wsr (oa rfl rfl (shO_nil ?_))
   refine kW kn ?_
   refine shW_ret (andThen_ret ?_)
   refine q_res1 Try.results10 (res_tmp rfl) (sr) ?_
   obtain rfl := inj1 r155
   exact rfl
 have r156 := bf r149 c154; clear r149
 refine shW_skip (wsr (om rfl rfl ?_))
 refine o_buildSlice (cs := #[.slice a29 n33 c30]) rfl rfl (buildSlice_all slt_23 [.slice a29 n33 c30] rfl (by decide) (by simp [Value.cells]) (by decide)) ?_; intro b157 hb157
 obtain rfl := (SlR.caps hz32).1
 refine shO_freezeR (Nat.le_refl _) (iE_ok _) (fC (fC (fC fP))) hz32 ?_; intro F158 hF159 h160
 replace h46 := h46.mono (iE_ok _) hF159
 replace h62 := h62.mono (slE_ok (iE_ok _)) hF159
 replace h65 := h65.mono (slE_ok (iE_ok _)) hF159
 replace hz56 := hz56.mono (iE_ok _) hF159
 have hz162 : SlR K.w0.heap.size 27 1 (slE 1 (iE .i64)) F158 (some ⟨b157, 0, none⟩) 1 1 [l3] [(b157, .cells #[.slice a29 l3.length c30] 27 (0, 0))] := SlR.of_block (vss := [[.slice a29 l3.length c30]]) (slE_ok (iE_ok _)) hb157 (.cons ⟨_, _, rfl, h160⟩ .nil) rfl rfl (by simp [maxLen])
 generalize hLLb161 : ([(b157, .cells #[.slice a29 l3.length c30] 27 (0, 0))] : LH) = Lb161 at hz162
 refine shO_perm (L' := Lb161 ++ ((b43, .cells #[.slice a44 metal2.length c45, .int .i64 at_3, .int .u32 turn3] 104 (0, 0)) :: ((b36, .cells #[.slice a17 l.length c18, .slice a23 l2.length c24] 26 (0, 0)) :: (Lb55 ++ [])))) (by rw [← hLLb161]; exact fO) ?_
 refine shO_perm (L' := (b43, .cells #[.slice a44 metal2.length c45, .int .i64 at_3, .int .u32 turn3] 104 (0, 0)) :: ((b36, .cells #[.slice a17 l.length c18, .slice a23 l2.length c24] 26 (0, 0)) :: (Lb161 ++ (Lb55 ++ [])))) (List.Perm.symm (fC (fC fP))) ?_
 refine oa rfl rfl (shO_nil ?_)
 obtain ⟨all_, h170, r171⟩ := b1_ok r156; clear r156
 refine shW_join (fun e1 F1 L1 => ∃ (a164 : Option Addr) (n168 : Nat) (c165 : Nat) (Lb166 : LH), FExt F158 F1 ∧ L1 = ((b36, .cells #[.slice a17 l.length c18, .slice a23 l2.length c24] 26 (0, 0)) :: (Lb55 ++ (Lb166 ++ []))) ∧ e1.sub [(5, .pointer (some ⟨b36, 0, none⟩)), (8, .slice a53 n57 c54), (9, .int .i64 n), (17, .slice a164 n168 c165)] ∧ SlR K.w0.heap.size 27 1 (slE 1 (iE .i64)) F1 a164 n168 c165 all_ Lb166) ?_ ?_
 · clear r171
   refine wsr (om rfl rfl (shO_nil ?_))
   refine shW_block ?_
   obtain ⟨g178, r179⟩ := gd_ok h170; clear h170
   refine shW_lp (fun fu3 e1 F1 L1 => ∃ (k5 : Int), Ctr 0 6 k5 fu3 ∧ ∃ (q_at : Int) (q_turn : Int) (all_2 : List (List Int)) (a172 : Option Addr) (n176 : Nat) (c173 : Nat) (Lb174 : LH), oyezlaw05_NightExplained_l3 l l2 metal2 fu3 q_at q_turn all_2 = some all_ ∧ FExt F158 F1 ∧ L1 = ((b43, .cells #[.slice a44 metal2.length c45, .int .i64 q_at, .int .u32 q_turn] 104 (0, 0)) :: ((b36, .cells #[.slice a17 l.length c18, .slice a23 l2.length c24] 26 (0, 0)) :: (Lb55 ++ (Lb174 ++ [])))) ∧ e1.sub [(5, .pointer (some ⟨b36, 0, none⟩)), (7, .pointer (some ⟨b43, 0, none⟩)), (8, .slice a53 n57 c54), (9, .int .i64 n), (17, .slice a172 n176 c173), (107, .int .i64 k5)] ∧ SlR K.w0.heap.size 27 1 (slE 1 (iE .i64)) F1 a172 n176 c173 all_2 Lb174) _ (m0 (kc (kc (kg (fS fP) kr))) ⟨_, Ctr.start _ _, at_3, turn3, [l3], (some ⟨b157, 0, none⟩), 1, 1, Lb161, r179, FExt.refl _, rfl, (sc rfl (sc rfl (sc rfl (sc rfl (sc rfl (sc rfl (sn _))))))), hz162⟩) ?_
   rintro fu3 e1 F184 _ ⟨k5, hk180, q_at, q_turn, all_2, a172, n176, c173, Lb174, r182, hF185, rfl, he183, hz175⟩
   refine shW_env _ he183 ?_; clear he183
   replace h46 := h46.mono (iE_ok _) hF185
   replace h62 := h62.mono (slE_ok (iE_ok _)) hF185
   replace h65 := h65.mono (slE_ok (iE_ok _)) hF185
   refine wsr ?_
   refine ov (v_lssK rfl rfl) rfl ?_
   refine shO_nil (shW_seq ?_)
   refine shW_condP rfl (fun c187 => ?_) (fun c187 => ?_)
   · obtain ⟨fu3, rfl, hk188⟩ := Ctr.succ hk180 c187
     rw [oyezlaw05_NightExplained_l3] at r182
     refine shW_skip (shW_seq ?_)
     refine shW_block ?_
     refine wsr (om rfl rfl ?_)
     refine ov (v_loadA (cs := #[.slice a17 l.length c18, .slice a23 l2.length c24]) Try.isAgg26 Try.sizeOf26 rfl (Has.own 1 rfl) (Nat.le_of_ble_eq_true rfl) rfl) rfl ?_
     obtain ⟨l6, ok2, at_4, turn4, h189, r190⟩ := b4_ok r182; clear r182
     refine o_callG (Lb := [(b43, .cells #[.slice a44 metal2.length c45, .int .i64 q_at, .int .u32 q_turn] 104 (0, 0))]) (Lr := (b36, .cells #[.slice a17 l.length c18, .slice a23 l2.length c24] 26 (0, 0)) :: (Lb55 ++ (Lb174 ++ []))) rfl Try.call41 rfl rfl rfl (pR) (oyezlaw05_tried_w h46 h62 h65 h189) ?_; rintro _ F191 _ hF192 hd194 hn193 ⟨a195, n199, c196, Lb197, rfl, rfl, hz198⟩
     replace hz175 := hz175.mono (slE_ok (iE_ok _)) hF192
     have hn201 := newp (Lb' := [(b43, .cells #[.slice a44 metal2.length c45, .int .i64 at_4, .int .u32 turn4] 104 (0, 0))]) (by rfl) hd194 hn193
     replace hz198 := hz198.new fun p hp => hn201 p (by simp [hp])
     refine shO_L (lb (lp (ln rfl))) ?_
     refine kO (kc (kf (fS fO) kr)) ?_
     refine om rfl rfl (ox rfl rfl rfl (ox rfl rfl rfl (oa rfl rfl (oa rfl rfl (nsr (om rfl rfl (shO_nil ?_)))))))
     refine shW_cond rfl (fun c202 => ?_) (fun c202 => ?_)
     · have r203 := bt r190 c202; clear r190
       refine shW_region (om rfl rfl (om rfl rfl ?_))
       refine o_buildSlice (cs := #[.slice a195 n199 c196]) rfl rfl (buildSlice_all slt_23 [.slice a195 n199 c196] rfl (by decide) (by simp [Value.cells]) (by decide)) ?_; intro b204 hb204
       obtain rfl := (SlR.caps hz198).1
       refine shO_freezeR (Nat.le_refl _) (iE_ok _) (fC (fC (fC fP))) hz198 ?_; intro F205 hF206 h207
       replace hz175 := hz175.mono (slE_ok (iE_ok _)) hF206
       obtain ⟨all_3, h208, g209, r210⟩ := ap_ok r203; clear r203
       refine o_appZ (xs := all_2) (ys := [l6]) (zs := all_3) rfl slt_23 rfl rfl (Nat.le_refl _) (fun _ => .c (.c (.c (.s .h)))) hz175 (SrcR.box (vss := [[.slice a195 l6.length c196]]) (ys := [l6]) 0 rfl (slE_ok (iE_ok _)) (.cons ⟨_, _, rfl, h207⟩ .nil) rfl rfl) h208 g209 (by decide) ?_; intro a211 n215 c212 Lb213 hz214
       refine kO (kd kr) ?_
       refine oa rfl rfl (shO_nil (inBlock_n (id := 3) (shW_region ?_)))
       refine ov (v_add rfl rfl (Ctr.r64 hk180 c187 g178)) rfl ?_
       refine om rfl rfl (shO_nil ?_)
       exact le kr ⟨_, hk188, at_4, turn4, all_3, a211, n215, c212, Lb213, r210, ((hF185.trans hF192).trans hF206), rfl, (sc rfl (sc rfl (sc rfl (sc rfl (sc rfl (sc rfl (sn _))))))), hz214⟩
     have r217 := bf r190 c202; clear r190
     refine shW_skip (inBlock_n (id := 3) (shW_region ?_))
     refine ov (v_add rfl rfl (Ctr.r64 hk180 c187 g178)) rfl ?_
     refine om rfl rfl (shO_nil ?_)
     exact le (kc (kc (kx kr))) ⟨_, hk188, at_4, turn4, all_2, a172, n176, c173, Lb174, r217, (hF185.trans hF192), rfl, (sc rfl (sc rfl (sc rfl (sc rfl (sc rfl (sc rfl (sn _))))))), hz175⟩
   obtain rfl := Ctr.zero hk180 c187
   rw [oyezlaw05_NightExplained_l3] at r182
   refine shW_exit (andThen_exit (andThen_exit ?_))
   refine inBlock_exit ?_
   obtain rfl := inj1 r182
   exact mi (kd kr) ⟨a172, n176, c173, Lb174, hF185, rfl, (sc rfl (sc rfl (sc rfl (sc rfl (sn _))))), hz175⟩
 rintro e1 F219 _ ⟨a164, n168, c165, Lb166, hF220, rfl, he218, hz167⟩
 refine shW_env _ he218 ?_; clear he218
 replace h62 := h62.mono (slE_ok (iE_ok _)) hF220
 replace h65 := h65.mono (slE_ok (iE_ok _)) hF220
 replace hz56 := hz56.mono (iE_ok _) hF220
 refine shW_join (fun e1 F1 L1 => oyezlaw05_NightExplained_j4 = some r ∧ F219 = F1 ∧ L1 = [] ∧ e1.sub []) ?_ ?_
 · refine wsr (om rfl rfl ?_)
   refine ov ((v_lenS Try.underlying23 rfl).i (SlR.lenI hz167)) rfl ?_
   refine om rfl rfl (shO_nil ?_)
   refine shW_block ?_
   refine shW_lp (fun fu5 e1 F1 L1 => ∃ (tl3 : List (List Int)) (k6 : Int), tl3.length = fu5 ∧ Lst all_ k6 tl3 ∧ oyezlaw05_NightExplained_l5 l l2 l4 n tl3 = some r ∧ F219 = F1 ∧ L1 = ((b36, .cells #[.slice a17 l.length c18, .slice a23 l2.length c24] 26 (0, 0)) :: (Lb55 ++ (Lb166 ++ []))) ∧ e1.sub [(5, .pointer (some ⟨b36, 0, none⟩)), (8, .slice a53 n57 c54), (9, .int .i64 n), (121, .slice a164 n168 c165), (122, .int .i64 (all_.length : Int)), (123, .int .i64 k6)]) _ (m0 kr ⟨_, _, rfl, Lst.start _, r171, rfl, rfl, (sc rfl (sc rfl (sc rfl (sc rfl (sc rfl (sc rfl (sn _)))))))⟩) ?_
   rintro fu5 e1 _ _ ⟨tl3, k6, hn222, hk221, r223, rfl, rfl, he224⟩
   refine shW_env _ he224 ?_; clear he224
   refine wsr ?_
   refine ov (v_lssK rfl rfl) rfl ?_
   refine shO_nil (shW_seq ?_)
   refine shW_condP rfl (fun c226 => ?_) (fun c226 => ?_)
   · obtain ⟨x3, tl4, rfl, hx228, g229, hk227⟩ := Lst.succ hk221 c226
     rw [oyezlaw05_NightExplained_l5] at r223
     refine shW_skip (shW_seq ?_)
     refine shW_block ?_
     refine wsr ?_
     obtain ⟨b230, o231, c232, vs233, ha234, hs235, hle236, ⟨a239, c240, rfl, h241⟩, hl237, hc238⟩ := SlR.at (slE_ok (iE_ok _)) hz167 (L := (b36, .cells #[.slice a17 l.length c18, .slice a23 l2.length c24] 26 (0, 0)) :: (Lb55 ++ (Lb166 ++ []))) (fC (fS fP)) g229.1 hx228
     refine ov (v_indexO Try.underlying23 Try.sizeOf27 rfl ha234 rfl (SlR.idx hz167 g229)) rfl ?_
     refine ov (v_load Try.isAgg27 rfl hs235 (hc238 0 (by decide))) rfl ?_
     refine oa rfl rfl (nsr ?_)
     refine ov (v_loadA (cs := #[.slice a17 l.length c18, .slice a23 l2.length c24]) Try.isAgg26 Try.sizeOf26 rfl (Has.own 0 rfl) (Nat.le_of_ble_eq_true rfl) rfl) rfl ?_
     refine om rfl rfl ?_
     obtain ⟨n7, n8, h242, r243⟩ := b2_ok r223; clear r223
     refine o_callV rfl Try.call50 rfl rfl rfl (night_Naps_w h62 h65 h241 h242) ?_
     refine om rfl rfl (ox rfl rfl rfl (ox rfl rfl rfl (oa rfl rfl (oa rfl rfl (shO_nil ?_)))))
     obtain ⟨k7, h244, r245⟩ := b1_ok r243; clear r243
     refine shW_join (fun e1 F1 L1 => F219 = F1 ∧ L1 = ((b36, .cells #[.slice a17 l.length c18, .slice a23 l2.length c24] 26 (0, 0)) :: (Lb55 ++ (Lb166 ++ []))) ∧ e1.sub [(5, .pointer (some ⟨b36, 0, none⟩)), (8, .slice a53 n57 c54), (9, .int .i64 n), (121, .slice a164 n168 c165), (122, .int .i64 (all_.length : Int)), (123, .int .i64 k6), (156, .bool k7)]) ?_ ?_
     · clear r245
       refine shW_region (om rfl rfl ?_)
       refine ov (v_neq rfl rfl) rfl ?_
       refine om rfl rfl ?_
       by_cases c246 : n8 ≠ 0
       · have r247 := ite_t h244 c246; clear h244
         refine shO_off (b' := true) 135 rfl (Env.isT rfl c246) rfl rfl (shO_off (b' := true) 135 rfl (Env.isT rfl c246) rfl rfl (shO_off (b' := true) 135 rfl (Env.isT rfl c246) rfl rfl (shO_off (b' := true) 135 rfl (Env.isT rfl c246) rfl rfl ?_)))
         refine ov (v_pick_t (evD_true rfl c246) rfl) rfl ?_
         refine om rfl rfl (shO_off (b' := true) 141 rfl rfl rfl rfl (shO_off (b' := true) 141 rfl rfl rfl rfl (shO_off (b' := true) 141 rfl rfl rfl rfl ?_)))
         refine ov (v_pick_t rfl rfl) rfl ?_
         refine om rfl rfl (shO_off (b' := true) 146 rfl rfl rfl rfl (shO_off (b' := true) 146 rfl rfl rfl rfl (shO_off (b' := true) 146 rfl rfl rfl rfl (shO_off (b' := true) 146 rfl rfl rfl rfl (shO_offU 150 rfl rfl rfl (shO_offU 150 rfl rfl rfl (shO_offU 150 rfl rfl rfl (shO_offU 150 rfl rfl rfl (shO_off (b' := true) 146 rfl rfl rfl rfl ?_)))))))))
         refine ov (v_pick_t rfl rfl) rfl ?_
         refine shO_nil ?_
         obtain rfl := inj1 r247
         exact mi kr ⟨rfl, rfl, (sc rfl (sc rfl (sc rfl (sc rfl (sc rfl (sc rfl (sc rfl (sn _))))))))⟩
       have r248 := ite_f h244 c246; clear h244
       refine shO_on (b := false) 135 rfl (Env.isF rfl c246) (om rfl rfl (shO_on (b := false) 135 rfl (Env.isF rfl c246) (om rfl rfl (shO_on (b := false) 135 rfl (Env.isF rfl c246) ?_))))
       obtain ⟨n9, h249, r250⟩ := b1_ok r248; clear r248
       refine o_callV rfl Try.call49 rfl rfl rfl (oyezlaw05_naps_w h241 h249) ?_
       refine shO_on (b := false) 135 rfl (Env.isF rfl c246) ?_
       refine ov (v_neq rfl rfl) rfl ?_
       refine ov (v_pick_f (evD_false rfl c246) rfl) rfl ?_
       refine om rfl rfl ?_
       by_cases c251 : n7 ≠ n9
       · have r252 := ite_t r250 c251; clear r250
         refine shO_off (b' := true) 141 rfl (Env.isT rfl c251) rfl rfl (shO_off (b' := true) 141 rfl (Env.isT rfl c251) rfl rfl (shO_off (b' := true) 141 rfl (Env.isT rfl c251) rfl rfl ?_))
         refine ov (v_pick_t (evD_true rfl c251) rfl) rfl ?_
         refine om rfl rfl (shO_off (b' := true) 146 rfl rfl rfl rfl (shO_off (b' := true) 146 rfl rfl rfl rfl (shO_off (b' := true) 146 rfl rfl rfl rfl (shO_off (b' := true) 146 rfl rfl rfl rfl (shO_offU 150 rfl rfl rfl (shO_offU 150 rfl rfl rfl (shO_offU 150 rfl rfl rfl (shO_offU 150 rfl rfl rfl (shO_off (b' := true) 146 rfl rfl rfl rfl ?_)))))))))
         refine ov (v_pick_t rfl rfl) rfl ?_
         refine shO_nil ?_
         obtain rfl := inj1 r252
         exact mi kr ⟨rfl, rfl, (sc rfl (sc rfl (sc rfl (sc rfl (sc rfl (sc rfl (sc rfl (sn _))))))))⟩
       have r253 := ite_f r250 c251; clear r250
       refine shO_on (b := false) 141 rfl (Env.isF rfl c251) (om rfl rfl (shO_on (b := false) 141 rfl (Env.isF rfl c251) (om rfl rfl (shO_on (b := false) 141 rfl (Env.isF rfl c251) ?_))))
       refine ov (v_lssK rfl rfl) rfl ?_
       refine ov (v_pick_f (evD_false rfl c251) rfl) rfl ?_
       refine om rfl rfl ?_
       by_cases c254 : n7 < n
       · have r255 := ite_t r253 c254; clear r253
         refine shO_off (b' := true) 146 rfl (Env.isT rfl c254) rfl rfl (shO_off (b' := true) 146 rfl (Env.isT rfl c254) rfl rfl (shO_off (b' := true) 146 rfl (Env.isT rfl c254) rfl rfl (shO_off (b' := true) 146 rfl (Env.isT rfl c254) rfl rfl (shO_offU 150 rfl rfl rfl (shO_offU 150 rfl rfl rfl (shO_offU 150 rfl rfl rfl (shO_offU 150 rfl rfl rfl (shO_off (b' := true) 146 rfl (Env.isT rfl c254) rfl rfl ?_))))))))
         refine ov (v_pick_t (evD_true rfl c254) rfl) rfl ?_
         refine shO_nil ?_
         obtain rfl := inj1 r255
         exact mi kr ⟨rfl, rfl, (sc rfl (sc rfl (sc rfl (sc rfl (sc rfl (sc rfl (sc rfl (sn _))))))))⟩
       have r256 := ite_f r253 c254; clear r253
       refine shO_on (b := false) 146 rfl (Env.isF rfl c254) (om rfl rfl (shO_on (b := false) 146 rfl (Env.isF rfl c254) (om rfl rfl (shO_on (b := false) 146 rfl (Env.isF rfl c254) ?_))))
       refine ov (v_eql rfl rfl) rfl ?_
       refine shO_on (b := false) 146 rfl (Env.isF rfl c254) (om rfl rfl ?_)
       by_cases c257 : n7 = n
       · have r258 := ite_t r256 c257; clear r256
         refine shO_on (b := true) 150 rfl (Env.isT rfl c257) (om rfl rfl (shO_on (b := true) 150 rfl (Env.isT rfl c257) (om rfl rfl (shO_on (b := true) 150 rfl (Env.isT rfl c257) ?_))))
         obtain ⟨n10, h259, r260⟩ := b1_ok r258; clear r258
         refine o_callT (Lt := Lb55 ++ []) (Lr := (b36, .cells #[.slice a17 l.length c18, .slice a23 l2.length c24] 26 (0, 0)) :: (Lb166 ++ [])) rfl Try.call42 rfl rfl rfl (pT ((fC fP).trans (pA pR)) (lp (ln rfl))) (fun F2 h2 h3 => by rw [(SlR.caps hz56).1]; exact slices_Compare_int_int_w (h241.mono (iE_ok _) h2) (hz56.row (iE_ok _) h2 (fun p hp => h3 p (List.mem_append_left _ hp))) h259) ?_
         refine shO_on (b := true) 150 rfl (Env.isT rfl c257) ?_
         refine ov (v_lssK rfl rfl) rfl ?_
         refine shO_on (b := false) 146 rfl (Env.isF rfl c254) ?_
         refine ov (v_pick_t (evD_true rfl c257) rfl) rfl ?_
         refine ov (v_pick_f (evD_false rfl c254) rfl) rfl ?_
         refine shO_nil ?_
         obtain rfl := inj1 r260
         exact mi kr ⟨rfl, rfl, (sc rfl (sc rfl (sc rfl (sc rfl (sc rfl (sc rfl (sc rfl (sn _))))))))⟩
       have r261 := ite_f r256 c257; clear r256
       refine shO_off (b' := false) 150 rfl (Env.isF rfl c257) rfl rfl (shO_off (b' := false) 150 rfl (Env.isF rfl c257) rfl rfl (shO_off (b' := false) 150 rfl (Env.isF rfl c257) rfl rfl (shO_off (b' := false) 150 rfl (Env.isF rfl c257) rfl rfl (shO_on (b := false) 146 rfl (Env.isF rfl c254) ?_))))
       refine ov (v_pick_f (evD_false rfl c257) rfl) rfl ?_
       refine ov (v_pick_f (evD_false rfl c254) rfl) rfl ?_
       refine shO_nil ?_
       obtain rfl := inj1 r261
       exact mi kr ⟨rfl, rfl, (sc rfl (sc rfl (sc rfl (sc rfl (sc rfl (sc rfl (sc rfl (sn _))))))))⟩
     rintro e1 _ _ ⟨rfl, rfl, he262⟩
     refine shW_env _ he262 ?_; clear he262
     refine shW_cond rfl (fun c263 => ?_) (fun c263 => ?_)
     · have r264 := bt r245 c263; clear r245
       refine wsr (oa rfl rfl (shO_nil ?_))
       refine kW kn ?_
       refine shW_ret (inBlock_ret (andThen_ret (andThen_ret (inBlock_ret (andThen_ret ?_)))))
       refine q_res1 Try.results10 (res_tmp rfl) (sr) ?_
       obtain rfl := inj1 r264
       exact rfl
     have r265 := bf r245 c263; clear r245
     refine shW_skip (inBlock_n (id := 5) (shW_region ?_))
     refine ov (v_add rfl rfl (Lst.r64 hk221 c226 (SlR.llt hz167))) rfl ?_
     refine om rfl rfl (shO_nil ?_)
     subst hn222; exact le kr ⟨_, _, rfl, hk227, r265, rfl, rfl, (sc rfl (sc rfl (sc rfl (sc rfl (sc rfl (sc rfl (sn _)))))))⟩
   obtain rfl := Lst.zero hk221 c226
   rw [oyezlaw05_NightExplained_l5] at r223
   refine shW_exit (andThen_exit (andThen_exit ?_))
   refine inBlock_exit ?_
   exact mi kn ⟨r223, rfl, rfl, (sn _)⟩
 rintro e1 _ _ ⟨r266, rfl, rfl, he267⟩
 refine shW_env _ he267 ?_; clear he267
 rw [oyezlaw05_NightExplained_j4] at r266
 refine wsr ?_
 obtain ⟨ok3, h268, r269⟩ := b1_ok r266; clear r266
 refine o_callV rfl Try.call18 rfl rfl rfl (oyezlaw05_awake_w h268) ?_
 refine oa rfl rfl (shO_nil (shW_ret ?_))
 refine q_res1 Try.results10 (res_tmp rfl) (sr) ?_
 obtain rfl := inj1 r269
 exact rfl
end Go.Proofs.Ytjgeaaganpkceaa
