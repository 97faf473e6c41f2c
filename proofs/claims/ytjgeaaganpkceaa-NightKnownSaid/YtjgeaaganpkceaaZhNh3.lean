/- The walks that this claim needs, printed by a program of mine; part 3. -/
import Derived.Test.YtjgeaaganpkceaaZhNh2
namespace Go.Proofs.Ytjgeaaganpkceaa
open Go.SH Go.PL
set_option maxHeartbeats 1000000 in
theorem oyezlaw05_awake_w {F : FS} {r : Bool} (hr : oyezlaw05_awake = some r) :
    SpecV Try.prog 18 #[] F (.bool r) := by
 refine spec_of_shW (args := []) Try.func18 rfl Try.ntmps18 (Nat.le_of_ble_eq_true rfl) ?_
 intro K _ _; rw [oyezlaw05_awake] at hr
 refine wsr (oa rfl rfl (nsr ?_))
 obtain ⟨l, l2, h1, r2⟩ := b2_ok hr; clear hr
 refine o_call0 rfl Try.call69 rfl rfl rfl (oyezlaw05_Four_w h1) ?_; rintro _ F3 _ hF4 hn5 ⟨a7, n11, c8, Lb9, a13, n17, c14, Lb15, rfl, rfl, hz10, hz16⟩
 replace hz10 := hz10.new fun p hp => hn5 p (by simp [hp])
 replace hz16 := hz16.new fun p hp => hn5 p (by simp [hp])
 refine shO_L (lp (lp (ln rfl))) ?_
 obtain ⟨n, n2, h19, r20⟩ := b2_ok r2; clear r2
 refine o_callT (Lt := Lb9 ++ (Lb15 ++ [])) (Lr := []) rfl Try.call20 rfl rfl rfl (pT pR (lp (lp (ln rfl)))) (fun F2 h2 h3 => by rw [(SlR.caps hz10).1]; rw [(SlR.caps hz16).1]; exact night_Cries_w (hz10.row (slE_ok (iE_ok _)) h2 (fun p hp => h3 p (List.mem_append_left _ hp))) (hz16.row (slE_ok (iE_ok _)) h2 (fun p hp => h3 p (List.mem_append_right _ (List.mem_append_left _ hp)))) h19) ?_
 refine om rfl rfl (ox rfl rfl rfl (ox rfl rfl rfl (oa rfl rfl (oa rfl rfl (nsr ?_)))))
 obtain ⟨l3, l4, h21, r22⟩ := b2_ok r20; clear r20
 refine o_call0 rfl Try.call69 rfl rfl rfl (oyezlaw05_Four_w h21) ?_; rintro _ F23 _ hF24 hn25 ⟨a27, n31, c28, Lb29, a33, n37, c34, Lb35, rfl, rfl, hz30, hz36⟩
 replace hz30 := hz30.new fun p hp => hn25 p (by simp [hp])
 replace hz36 := hz36.new fun p hp => hn25 p (by simp [hp])
 refine shO_L (lp (lp (ln rfl))) ?_
 obtain ⟨l5, n3, n4, h39, r40⟩ := b3_ok r22; clear r22
 refine o_callTO (Lb := []) (Lt := Lb29 ++ (Lb35 ++ [])) (Lr := Lb9 ++ (Lb15 ++ [])) rfl Try.call14 rfl rfl rfl (pT pR (ln (lp (lp (ln rfl))))) (fun F2 h2 h3 => by rw [(SlR.caps hz30).1]; rw [(SlR.caps hz36).1]; exact night_Fewest_w (hz30.row (slE_ok (iE_ok _)) h2 (fun p hp => h3 p (List.mem_append_left _ hp))) (hz36.row (slE_ok (iE_ok _)) h2 (fun p hp => h3 p (List.mem_append_right _ (List.mem_append_left _ hp)))) h39) (fun _ _ _ _ hq => by obtain ⟨a45, n49, c46, Lb47, rfl, rfl, hz48⟩ := hq; exact ⟨_, _, _, _, rfl, rfl, hz48.flat (fun _ _ h => h)⟩) ?_; rintro _ F41 _ hF42 hd44 hn43 ⟨a45, n49, c46, Lb47, rfl, rfl, hz48⟩
 have hn51 := newp (Lb' := []) (by rfl) hd44 hn43
 replace hz48 := hz48.new fun p hp => hn51 p (by simp [hp])
 refine shO_L (lp (ln (lp (lp (ln rfl))))) ?_
 refine om rfl rfl (ox rfl rfl rfl (ox rfl rfl rfl (ox rfl rfl rfl (oa rfl rfl (oa rfl rfl (oa rfl rfl (nsr ?_)))))))
 obtain ⟨l6, l7, h52, r53⟩ := b2_ok r40; clear r40
 refine o_call0 rfl Try.call69 rfl rfl rfl (oyezlaw05_Four_w h52) ?_; rintro _ F54 _ hF55 hn56 ⟨a58, n62, c59, Lb60, a64, n68, c65, Lb66, rfl, rfl, hz61, hz67⟩
 replace hz48 := hz48.mono (iE_ok _) hF55
 replace hz61 := hz61.new fun p hp => hn56 p (by simp [hp])
 replace hz67 := hz67.new fun p hp => hn56 p (by simp [hp])
 refine shO_L (lp (lp (ln rfl))) ?_
 obtain ⟨n5, n6, h70, r71⟩ := b2_ok r53; clear r53
 refine o_callT (Lt := Lb60 ++ (Lb66 ++ [])) (Lr := Lb47 ++ (Lb29 ++ (Lb35 ++ (Lb9 ++ (Lb15 ++ []))))) rfl Try.call25 rfl rfl rfl (pT pR (lp (lp (ln rfl)))) (fun F2 h2 h3 => by rw [(SlR.caps hz61).1]; rw [(SlR.caps hz67).1]; exact night_Count_w (hz61.row (slE_ok (iE_ok _)) h2 (fun p hp => h3 p (List.mem_append_left _ hp))) (hz67.row (slE_ok (iE_ok _)) h2 (fun p hp => h3 p (List.mem_append_right _ (List.mem_append_left _ hp)))) h70) ?_
 refine om rfl rfl (ox rfl rfl rfl (ox rfl rfl rfl (oa rfl rfl (oa rfl rfl (nsr ?_)))))
 obtain ⟨l8, l9, h72, r73⟩ := b2_ok r71; clear r71
 refine o_call0 rfl Try.call69 rfl rfl rfl (oyezlaw05_Four_w h72) ?_; rintro _ F74 _ hF75 hn76 ⟨a78, n82, c79, Lb80, a84, n88, c85, Lb86, rfl, rfl, hz81, hz87⟩
 replace hz48 := hz48.mono (iE_ok _) hF75
 replace hz81 := hz81.new fun p hp => hn76 p (by simp [hp])
 replace hz87 := hz87.new fun p hp => hn76 p (by simp [hp])
 refine shO_L (lp (lp (ln rfl))) ?_
 obtain ⟨n7, n8, h90, r91⟩ := b2_ok r73; clear r73
 refine o_callT (Lt := Lb80 ++ (Lb86 ++ [])) (Lr := Lb60 ++ (Lb66 ++ (Lb47 ++ (Lb29 ++ (Lb35 ++ (Lb9 ++ (Lb15 ++ []))))))) rfl Try.call26 rfl rfl rfl (pT pR (lp (lp (ln rfl)))) (fun F2 h2 h3 => by rw [(SlR.caps hz81).1]; rw [(SlR.caps hz87).1]; exact night_Ways_w (hz81.row (slE_ok (iE_ok _)) h2 (fun p hp => h3 p (List.mem_append_left _ hp))) (hz87.row (slE_ok (iE_ok _)) h2 (fun p hp => h3 p (List.mem_append_right _ (List.mem_append_left _ hp)))) h90) ?_
 refine om rfl rfl (ox rfl rfl rfl (ox rfl rfl rfl (oa rfl rfl (oa rfl rfl (shO_nil (shW_seq ?_))))))
 obtain ⟨k, h92, r93⟩ := b1_ok r91; clear r91
 refine shW_join (fun e1 F1 L1 => FExt F74 F1 ∧ L1 = [] ∧ e1.sub [(71, .bool k)]) ?_ ?_
 · clear r93
   refine shW_region (om rfl rfl ?_)
   refine ov (v_neq rfl rfl) rfl ?_
   refine om rfl rfl ?_
   by_cases c94 : n2 ≠ 0
   · have r95 := ite_t h92 c94; clear h92
     refine shO_off (b' := true) 38 rfl (Env.isT rfl c94) rfl rfl (shO_off (b' := true) 38 rfl (Env.isT rfl c94) rfl rfl ?_)
     refine ov (v_pick_t (evD_true rfl c94) rfl) rfl ?_
     refine om rfl rfl (shO_off (b' := true) 42 rfl rfl rfl rfl (shO_off (b' := true) 42 rfl rfl rfl rfl ?_))
     refine ov (v_pick_t rfl rfl) rfl ?_
     refine om rfl rfl (shO_off (b' := true) 46 rfl rfl rfl rfl (shO_off (b' := true) 46 rfl rfl rfl rfl ?_))
     refine ov (v_pick_t rfl rfl) rfl ?_
     refine om rfl rfl (shO_off (b' := true) 50 rfl rfl rfl rfl (shO_off (b' := true) 50 rfl rfl rfl rfl ?_))
     refine ov (v_pick_t rfl rfl) rfl ?_
     refine om rfl rfl (shO_off (b' := true) 54 rfl rfl rfl rfl (shO_off (b' := true) 54 rfl rfl rfl rfl ?_))
     refine ov (v_pick_t rfl rfl) rfl ?_
     refine om rfl rfl (shO_off (b' := true) 58 rfl rfl rfl rfl (shO_off (b' := true) 58 rfl rfl rfl rfl (shO_off (b' := true) 58 rfl rfl rfl rfl (shO_off (b' := true) 58 rfl rfl rfl rfl ?_))))
     refine ov (v_pick_t rfl rfl) rfl ?_
     refine om rfl rfl (shO_off (b' := true) 64 rfl rfl rfl rfl (shO_off (b' := true) 64 rfl rfl rfl rfl ?_))
     refine ov (v_pick_t rfl rfl) rfl ?_
     refine om rfl rfl (shO_off (b' := true) 68 rfl rfl rfl rfl (shO_off (b' := true) 68 rfl rfl rfl rfl ?_))
     refine ov (v_pick_t rfl rfl) rfl ?_
     refine shO_nil ?_
     obtain rfl := inj1 r95
     exact mi kn ⟨FExt.refl _, rfl, (sc rfl (sn _))⟩
   have r96 := ite_f h92 c94; clear h92
   refine shO_on (b := false) 38 rfl (Env.isF rfl c94) (om rfl rfl (shO_on (b := false) 38 rfl (Env.isF rfl c94) ?_))
   refine ov (v_neq rfl rfl) rfl ?_
   refine ov (v_pick_f (evD_false rfl c94) rfl) rfl ?_
   refine om rfl rfl ?_
   by_cases c97 : n4 ≠ 0
   · have r98 := ite_t r96 c97; clear r96
     refine shO_off (b' := true) 42 rfl (Env.isT rfl c97) rfl rfl (shO_off (b' := true) 42 rfl (Env.isT rfl c97) rfl rfl ?_)
     refine ov (v_pick_t (evD_true rfl c97) rfl) rfl ?_
     refine om rfl rfl (shO_off (b' := true) 46 rfl rfl rfl rfl (shO_off (b' := true) 46 rfl rfl rfl rfl ?_))
     refine ov (v_pick_t rfl rfl) rfl ?_
     refine om rfl rfl (shO_off (b' := true) 50 rfl rfl rfl rfl (shO_off (b' := true) 50 rfl rfl rfl rfl ?_))
     refine ov (v_pick_t rfl rfl) rfl ?_
     refine om rfl rfl (shO_off (b' := true) 54 rfl rfl rfl rfl (shO_off (b' := true) 54 rfl rfl rfl rfl ?_))
     refine ov (v_pick_t rfl rfl) rfl ?_
     refine om rfl rfl (shO_off (b' := true) 58 rfl rfl rfl rfl (shO_off (b' := true) 58 rfl rfl rfl rfl (shO_off (b' := true) 58 rfl rfl rfl rfl (shO_off (b' := true) 58 rfl rfl rfl rfl ?_))))
     refine ov (v_pick_t rfl rfl) rfl ?_
     refine om rfl rfl (shO_off (b' := true) 64 rfl rfl rfl rfl (shO_off (b' := true) 64 rfl rfl rfl rfl ?_))
     refine ov (v_pick_t rfl rfl) rfl ?_
     refine om rfl rfl (shO_off (b' := true) 68 rfl rfl rfl rfl (shO_off (b' := true) 68 rfl rfl rfl rfl ?_))
     refine ov (v_pick_t rfl rfl) rfl ?_
     refine shO_nil ?_
     obtain rfl := inj1 r98
     exact mi kn ⟨FExt.refl _, rfl, (sc rfl (sn _))⟩
   have r99 := ite_f r96 c97; clear r96
   refine shO_on (b := false) 42 rfl (Env.isF rfl c97) (om rfl rfl (shO_on (b := false) 42 rfl (Env.isF rfl c97) ?_))
   refine ov (v_neq rfl rfl) rfl ?_
   refine ov (v_pick_f (evD_false rfl c97) rfl) rfl ?_
   refine om rfl rfl ?_
   by_cases c100 : n6 ≠ 0
   · have r101 := ite_t r99 c100; clear r99
     refine shO_off (b' := true) 46 rfl (Env.isT rfl c100) rfl rfl (shO_off (b' := true) 46 rfl (Env.isT rfl c100) rfl rfl ?_)
     refine ov (v_pick_t (evD_true rfl c100) rfl) rfl ?_
     refine om rfl rfl (shO_off (b' := true) 50 rfl rfl rfl rfl (shO_off (b' := true) 50 rfl rfl rfl rfl ?_))
     refine ov (v_pick_t rfl rfl) rfl ?_
     refine om rfl rfl (shO_off (b' := true) 54 rfl rfl rfl rfl (shO_off (b' := true) 54 rfl rfl rfl rfl ?_))
     refine ov (v_pick_t rfl rfl) rfl ?_
     refine om rfl rfl (shO_off (b' := true) 58 rfl rfl rfl rfl (shO_off (b' := true) 58 rfl rfl rfl rfl (shO_off (b' := true) 58 rfl rfl rfl rfl (shO_off (b' := true) 58 rfl rfl rfl rfl ?_))))
     refine ov (v_pick_t rfl rfl) rfl ?_
     refine om rfl rfl (shO_off (b' := true) 64 rfl rfl rfl rfl (shO_off (b' := true) 64 rfl rfl rfl rfl ?_))
     refine ov (v_pick_t rfl rfl) rfl ?_
     refine om rfl rfl (shO_off (b' := true) 68 rfl rfl rfl rfl (shO_off (b' := true) 68 rfl rfl rfl rfl ?_))
     refine ov (v_pick_t rfl rfl) rfl ?_
     refine shO_nil ?_
     obtain rfl := inj1 r101
     exact mi kn ⟨FExt.refl _, rfl, (sc rfl (sn _))⟩
   have r102 := ite_f r99 c100; clear r99
   refine shO_on (b := false) 46 rfl (Env.isF rfl c100) (om rfl rfl (shO_on (b := false) 46 rfl (Env.isF rfl c100) ?_))
   refine ov (v_neq rfl rfl) rfl ?_
   refine ov (v_pick_f (evD_false rfl c100) rfl) rfl ?_
   refine om rfl rfl ?_
   by_cases c103 : n8 ≠ 0
   · have r104 := ite_t r102 c103; clear r102
     refine shO_off (b' := true) 50 rfl (Env.isT rfl c103) rfl rfl (shO_off (b' := true) 50 rfl (Env.isT rfl c103) rfl rfl ?_)
     refine ov (v_pick_t (evD_true rfl c103) rfl) rfl ?_
     refine om rfl rfl (shO_off (b' := true) 54 rfl rfl rfl rfl (shO_off (b' := true) 54 rfl rfl rfl rfl ?_))
     refine ov (v_pick_t rfl rfl) rfl ?_
     refine om rfl rfl (shO_off (b' := true) 58 rfl rfl rfl rfl (shO_off (b' := true) 58 rfl rfl rfl rfl (shO_off (b' := true) 58 rfl rfl rfl rfl (shO_off (b' := true) 58 rfl rfl rfl rfl ?_))))
     refine ov (v_pick_t rfl rfl) rfl ?_
     refine om rfl rfl (shO_off (b' := true) 64 rfl rfl rfl rfl (shO_off (b' := true) 64 rfl rfl rfl rfl ?_))
     refine ov (v_pick_t rfl rfl) rfl ?_
     refine om rfl rfl (shO_off (b' := true) 68 rfl rfl rfl rfl (shO_off (b' := true) 68 rfl rfl rfl rfl ?_))
     refine ov (v_pick_t rfl rfl) rfl ?_
     refine shO_nil ?_
     obtain rfl := inj1 r104
     exact mi kn ⟨FExt.refl _, rfl, (sc rfl (sn _))⟩
   have r105 := ite_f r102 c103; clear r102
   refine shO_on (b := false) 50 rfl (Env.isF rfl c103) (om rfl rfl (shO_on (b := false) 50 rfl (Env.isF rfl c103) ?_))
   refine ov (v_neq rfl rfl) rfl ?_
   refine ov (v_pick_f (evD_false rfl c103) rfl) rfl ?_
   refine om rfl rfl ?_
   by_cases c106 : n ≠ 9
   · have r107 := ite_t r105 c106; clear r105
     refine shO_off (b' := true) 54 rfl (Env.isT rfl c106) rfl rfl (shO_off (b' := true) 54 rfl (Env.isT rfl c106) rfl rfl ?_)
     refine ov (v_pick_t (evD_true rfl c106) rfl) rfl ?_
     refine om rfl rfl (shO_off (b' := true) 58 rfl rfl rfl rfl (shO_off (b' := true) 58 rfl rfl rfl rfl (shO_off (b' := true) 58 rfl rfl rfl rfl (shO_off (b' := true) 58 rfl rfl rfl rfl ?_))))
     refine ov (v_pick_t rfl rfl) rfl ?_
     refine om rfl rfl (shO_off (b' := true) 64 rfl rfl rfl rfl (shO_off (b' := true) 64 rfl rfl rfl rfl ?_))
     refine ov (v_pick_t rfl rfl) rfl ?_
     refine om rfl rfl (shO_off (b' := true) 68 rfl rfl rfl rfl (shO_off (b' := true) 68 rfl rfl rfl rfl ?_))
     refine ov (v_pick_t rfl rfl) rfl ?_
     refine shO_nil ?_
     obtain rfl := inj1 r107
     exact mi kn ⟨FExt.refl _, rfl, (sc rfl (sn _))⟩
   have r108 := ite_f r105 c106; clear r105
   refine shO_on (b := false) 54 rfl (Env.isF rfl c106) (om rfl rfl (shO_on (b := false) 54 rfl (Env.isF rfl c106) ?_))
   refine ov (v_neq rfl rfl) rfl ?_
   refine ov (v_pick_f (evD_false rfl c106) rfl) rfl ?_
   refine om rfl rfl ?_
   by_cases c109 : n3 ≠ 1
   · have r110 := ite_t r108 c109; clear r108
     refine shO_off (b' := true) 58 rfl (Env.isT rfl c109) rfl rfl (shO_off (b' := true) 58 rfl (Env.isT rfl c109) rfl rfl (shO_off (b' := true) 58 rfl (Env.isT rfl c109) rfl rfl (shO_off (b' := true) 58 rfl (Env.isT rfl c109) rfl rfl ?_)))
     refine ov (v_pick_t (evD_true rfl c109) rfl) rfl ?_
     refine om rfl rfl (shO_off (b' := true) 64 rfl rfl rfl rfl (shO_off (b' := true) 64 rfl rfl rfl rfl ?_))
     refine ov (v_pick_t rfl rfl) rfl ?_
     refine om rfl rfl (shO_off (b' := true) 68 rfl rfl rfl rfl (shO_off (b' := true) 68 rfl rfl rfl rfl ?_))
     refine ov (v_pick_t rfl rfl) rfl ?_
     refine shO_nil ?_
     obtain rfl := inj1 r110
     exact mi kn ⟨FExt.refl _, rfl, (sc rfl (sn _))⟩
   have r111 := ite_f r108 c109; clear r108
   refine shO_on (b := false) 58 rfl (Env.isF rfl c109) (om rfl rfl (shO_on (b := false) 58 rfl (Env.isF rfl c109) ?_))
   refine o_buildSlice (cs := #[.int .i64 2, .int .i64 2]) rfl rfl (buildSlice_all slt_27 [.int .i64 2, .int .i64 2] rfl (by decide) (by simp [Value.cells]) (by decide)) ?_; intro b112 hb112
   refine shO_on (b := false) 58 rfl (Env.isF rfl c109) ?_
   refine shO_freeze 0 rfl hb112 ?_; intro F113 hF114 hz115
   refine shO_L (L' := Lb80 ++ (Lb86 ++ (Lb60 ++ (Lb66 ++ (Lb47 ++ (Lb29 ++ (Lb35 ++ (Lb9 ++ (Lb15 ++ []))))))))) rfl ?_
   replace hz48 := hz48.mono (iE_ok _) hF114
   have h116 : RowR 1 (iE .i64) F113 (some ⟨b112, 0, none⟩) 2 [2, 2] := RowR.of_block (iE_ok _) (vss := [[.int .i64 2], [.int .i64 2]]) (xs := [2, 2]) hz115 (.cons rfl (.cons rfl .nil)) rfl (by simp [maxLen])
   obtain ⟨ok, h117, r118⟩ := b1_ok r111; clear r111
   refine o_callT (Lt := Lb47 ++ []) (Lr := Lb80 ++ (Lb86 ++ (Lb60 ++ (Lb66 ++ (Lb29 ++ (Lb35 ++ (Lb9 ++ (Lb15 ++ [])))))))) rfl Try.call28 rfl rfl rfl (pT ((fS (fS (fS (fS fP)))).trans (pA pR)) (lp (ln rfl))) (fun F2 h2 h3 => by rw [(SlR.caps hz48).1]; exact oyezkit_Like_int_w (hz48.row (iE_ok _) h2 (fun p hp => h3 p (List.mem_append_left _ hp))) (h116.mono (iE_ok _) h2) h117) ?_
   refine shO_on (b := false) 58 rfl (Env.isF rfl c109) ?_
   refine ov (v_notB rfl) rfl ?_
   refine ov (v_pick_f (evD_false rfl c109) rfl) rfl ?_
   refine om rfl rfl ?_
   rcases bool_two (!ok) with c119 | c119
   · have r120 := bt r118 c119; clear r118
     refine shO_off (b' := true) 64 rfl (EnvB rfl c119) rfl rfl (shO_off (b' := true) 64 rfl (EnvB rfl c119) rfl rfl ?_)
     refine ov (v_pick_t (evB rfl c119) rfl) rfl ?_
     refine om rfl rfl (shO_off (b' := true) 68 rfl rfl rfl rfl (shO_off (b' := true) 68 rfl rfl rfl rfl ?_))
     refine ov (v_pick_t rfl rfl) rfl ?_
     refine shO_nil ?_
     obtain rfl := inj1 r120
     exact mi kn ⟨hF114, rfl, (sc rfl (sn _))⟩
   have r121 := bf r118 c119; clear r118
   refine shO_on (b := false) 64 rfl (EnvB rfl c119) (om rfl rfl (shO_on (b := false) 64 rfl (EnvB rfl c119) ?_))
   refine ov (v_neq rfl rfl) rfl ?_
   refine ov (v_pick_f (evB rfl c119) rfl) rfl ?_
   refine om rfl rfl ?_
   by_cases c122 : n5 ≠ 42
   · have r123 := ite_t r121 c122; clear r121
     refine shO_off (b' := true) 68 rfl (Env.isT rfl c122) rfl rfl (shO_off (b' := true) 68 rfl (Env.isT rfl c122) rfl rfl ?_)
     refine ov (v_pick_t (evD_true rfl c122) rfl) rfl ?_
     refine shO_nil ?_
     obtain rfl := inj1 r123
     exact mi kn ⟨hF114, rfl, (sc rfl (sn _))⟩
   have r124 := ite_f r121 c122; clear r121
   refine shO_on (b := false) 68 rfl (Env.isF rfl c122) (om rfl rfl (shO_on (b := false) 68 rfl (Env.isF rfl c122) ?_))
   refine ov (v_neq rfl rfl) rfl ?_
   refine ov (v_pick_f (evD_false rfl c122) rfl) rfl ?_
   refine shO_nil ?_
   obtain rfl := inj1 r124
   exact mi kn ⟨hF114, rfl, (sc rfl (sn _))⟩
 rintro e1 F126 _ ⟨hF127, rfl, he125⟩
 refine shW_env _ he125 ?_; clear he125
 refine shW_cond rfl (fun c128 => ?_) (fun c128 => ?_)
 · have r129 := bt r93 c128; clear r93
   refine wsr (oa rfl rfl (shO_nil (shW_ret (andThen_ret ?_))))
   refine q_res1 Try.results18 (res_tmp rfl) (sr) ?_
   obtain rfl := inj1 r129
   exact rfl
 have r130 := bf r93 c128; clear r93
 refine shW_skip (wsr ?_)
 obtain ⟨l10, l11, h131, r132⟩ := b2_ok r130; clear r130
 refine o_call0 rfl Try.call69 rfl rfl rfl (oyezlaw05_Four_w h131) ?_; rintro _ F133 _ hF134 hn135 ⟨a137, n141, c138, Lb139, a143, n147, c144, Lb145, rfl, rfl, hz140, hz146⟩
 replace hz140 := hz140.new fun p hp => hn135 p (by simp [hp])
 replace hz146 := hz146.new fun p hp => hn135 p (by simp [hp])
 refine shO_L (lp (lp (ln rfl))) ?_
 obtain rfl := (SlR.caps hz140).1
 refine shO_freezeR (Nat.le_refl _) (slE_ok (iE_ok _)) fP hz140 ?_; intro F149 hF150 h151
 replace hz146 := hz146.mono (slE_ok (iE_ok _)) hF150
 obtain rfl := (SlR.caps hz146).1
 refine shO_freezeR (Nat.le_refl _) (slE_ok (iE_ok _)) fP hz146 ?_; intro F152 hF153 h154
 replace h151 := h151.mono (slE_ok (iE_ok _)) hF153
 obtain ⟨l12, n9, h155, r156⟩ := b2_ok r132; clear r132
 refine o_call0 rfl Try.call36 rfl rfl rfl (night_Verdicts_w h151 h154 h155) ?_; rintro _ F157 _ hF158 hn159 ⟨a161, n165, c162, Lb163, rfl, rfl, hz164⟩
 replace hz164 := hz164.new fun p hp => hn159 p (by simp [hp])
 refine shO_L (lp (ln rfl)) ?_
 refine om rfl rfl (ox rfl rfl rfl (ox rfl rfl rfl (oa rfl rfl (oa rfl rfl (nsr ?_)))))
 obtain ⟨l13, l14, h167, r168⟩ := b2_ok r156; clear r156
 refine o_call0 rfl Try.call69 rfl rfl rfl (oyezlaw05_Four_w h167) ?_; rintro _ F169 _ hF170 hn171 ⟨a173, n177, c174, Lb175, a179, n183, c180, Lb181, rfl, rfl, hz176, hz182⟩
 replace hz164 := hz164.mono (slE_ok (iE_ok _)) hF170
 replace hz176 := hz176.new fun p hp => hn171 p (by simp [hp])
 replace hz182 := hz182.new fun p hp => hn171 p (by simp [hp])
 refine shO_L (lp (lp (ln rfl))) ?_
 obtain rfl := (SlR.caps hz176).1
 refine shO_freezeR (Nat.le_refl _) (slE_ok (iE_ok _)) fP hz176 ?_; intro F185 hF186 h187
 replace hz164 := hz164.mono (slE_ok (iE_ok _)) hF186
 replace hz182 := hz182.mono (slE_ok (iE_ok _)) hF186
 obtain rfl := (SlR.caps hz182).1
 refine shO_freezeR (Nat.le_refl _) (slE_ok (iE_ok _)) fP hz182 ?_; intro F188 hF189 h190
 replace h187 := h187.mono (slE_ok (iE_ok _)) hF189
 replace hz164 := hz164.mono (slE_ok (iE_ok _)) hF189
 obtain ⟨l15, n10, h191, r192⟩ := b2_ok r168; clear r168
 refine o_call0 rfl Try.call17 rfl rfl rfl (night_Men_w h187 h190 h191) ?_; rintro _ F193 _ hF194 hn195 ⟨a197, c198, rfl, rfl, h199⟩
 replace hz164 := hz164.mono (slE_ok (iE_ok _)) hF194
 refine shO_L (ln rfl) ?_
 refine om rfl rfl (ox rfl rfl rfl (ox rfl rfl rfl (oa rfl rfl (oa rfl rfl (nsr ?_)))))
 obtain ⟨l16, l17, h200, r201⟩ := b2_ok r192; clear r192
 refine o_call0 rfl Try.call69 rfl rfl rfl (oyezlaw05_Four_w h200) ?_; rintro _ F202 _ hF203 hn204 ⟨a206, n210, c207, Lb208, a212, n216, c213, Lb214, rfl, rfl, hz209, hz215⟩
 replace h199 := h199.mono (iE_ok _) hF203
 replace hz164 := hz164.mono (slE_ok (iE_ok _)) hF203
 replace hz209 := hz209.new fun p hp => hn204 p (by simp [hp])
 replace hz215 := hz215.new fun p hp => hn204 p (by simp [hp])
 refine shO_L (lp (lp (ln rfl))) ?_
 refine ov (v_build (v := .agg #[.int .i64 0, .int .i64 1]) rfl (by intro w; kernel_rfl)) rfl ?_
 obtain ⟨n11, n12, n13, h218, r219⟩ := b3_ok r201; clear r201
 refine o_callT (Lt := Lb208 ++ (Lb214 ++ [])) (Lr := Lb163 ++ []) rfl Try.call30 rfl rfl rfl (pT pR (lp (lp (ln rfl)))) (fun F2 h2 h3 => by rw [(SlR.caps hz209).1]; rw [(SlR.caps hz215).1]; exact night_Split_w (hz209.row (slE_ok (iE_ok _)) h2 (fun p hp => h3 p (List.mem_append_left _ hp))) (hz215.row (slE_ok (iE_ok _)) h2 (fun p hp => h3 p (List.mem_append_right _ (List.mem_append_left _ hp)))) h218) ?_
 refine om rfl rfl (ox rfl rfl rfl (ox rfl rfl rfl (ox rfl rfl rfl (oa rfl rfl (oa rfl rfl (oa rfl rfl (nsr ?_)))))))
 obtain ⟨l18, l19, h220, r221⟩ := b2_ok r219; clear r219
 refine o_call0 rfl Try.call69 rfl rfl rfl (oyezlaw05_Four_w h220) ?_; rintro _ F222 _ hF223 hn224 ⟨a226, n230, c227, Lb228, a232, n236, c233, Lb234, rfl, rfl, hz229, hz235⟩
 replace h199 := h199.mono (iE_ok _) hF223
 replace hz164 := hz164.mono (slE_ok (iE_ok _)) hF223
 replace hz229 := hz229.new fun p hp => hn224 p (by simp [hp])
 replace hz235 := hz235.new fun p hp => hn224 p (by simp [hp])
 refine shO_L (lp (lp (ln rfl))) ?_
 obtain ⟨n14, n15, n16, h238, r239⟩ := b3_ok r221; clear r221
 refine o_callT (Lt := Lb228 ++ (Lb234 ++ [])) (Lr := Lb208 ++ (Lb214 ++ (Lb163 ++ []))) rfl Try.call15 rfl rfl rfl (pT pR (lp (lp (ln rfl)))) (fun F2 h2 h3 => by rw [(SlR.caps hz229).1]; rw [(SlR.caps hz235).1]; exact night_Most_w (hz229.row (slE_ok (iE_ok _)) h2 (fun p hp => h3 p (List.mem_append_left _ hp))) (hz235.row (slE_ok (iE_ok _)) h2 (fun p hp => h3 p (List.mem_append_right _ (List.mem_append_left _ hp)))) h238) ?_
 refine om rfl rfl (ox rfl rfl rfl (ox rfl rfl rfl ?_))
 refine o_alloc rfl Try.zeroValue36 ?_; intro b240 hb240
 refine o_storeA (i := 0) Try.sizeOf36 rfl rfl rfl (by simp [Value.oneCell']) rfl (Nat.le_of_ble_eq_true rfl) ?_
 refine shO_L (L' := (b240, .cells #[.int .i64 n14, .int .i64 n15] 36 (0, 0)) :: (Lb228 ++ (Lb234 ++ (Lb208 ++ (Lb214 ++ (Lb163 ++ [])))))) rfl ?_
 refine oa rfl rfl (nsr (om rfl rfl ?_))
 refine ov (v_eql rfl rfl) rfl ?_
 refine om rfl rfl ?_
 by_cases c241 : n9 = 0
 · have r242 := ite_t r239 c241; clear r239
   refine shO_on (b := true) 96 rfl (Env.isT rfl c241) (om rfl rfl (shO_on (b := true) 96 rfl (Env.isT rfl c241) ?_))
   refine ov (v_eql rfl rfl) rfl ?_
   refine ov (v_pick_t (evD_true rfl c241) rfl) rfl ?_
   refine om rfl rfl ?_
   by_cases c243 : n10 = 0
   · have r244 := ite_t r242 c243; clear r242
     refine shO_on (b := true) 100 rfl (Env.isT rfl c243) (om rfl rfl (shO_on (b := true) 100 rfl (Env.isT rfl c243) ?_))
     refine ov (v_eql rfl rfl) rfl ?_
     refine ov (v_pick_t (evD_true rfl c243) rfl) rfl ?_
     refine om rfl rfl ?_
     by_cases c245 : n13 = 0
     · have r246 := ite_t r244 c245; clear r244
       refine shO_on (b := true) 104 rfl (Env.isT rfl c245) (om rfl rfl (shO_on (b := true) 104 rfl (Env.isT rfl c245) ?_))
       refine ov (v_eql rfl rfl) rfl ?_
       refine ov (v_pick_t (evD_true rfl c245) rfl) rfl ?_
       refine om rfl rfl ?_
       by_cases c247 : n16 = 0
       · have r248 := ite_t r246 c247; clear r246
         refine shO_on (b := true) 108 rfl (Env.isT rfl c247) (om rfl rfl (shO_on (b := true) 108 rfl (Env.isT rfl c247) ?_))
         refine ov ((v_lenS Try.underlying71 rfl).i (SlR.lenI hz164)) rfl ?_
         refine shO_on (b := true) 108 rfl (Env.isT rfl c247) ?_
         refine ov (v_eql rfl rfl) rfl ?_
         refine ov (v_pick_t (evD_true rfl c247) rfl) rfl ?_
         refine om rfl rfl ?_
         by_cases c249 : (l12.length : Int) = 2
         · have r250 := ite_t r248 c249; clear r248
           refine shO_on (b := true) 113 rfl (Env.isT rfl c249) (om rfl rfl (shO_on (b := true) 113 rfl (Env.isT rfl c249) ?_))
           obtain ⟨x, g251, hx252, r253⟩ := ix_ok r250; clear r250
           obtain ⟨b254, o255, c256, vs257, ha258, hs259, hle260, ⟨a263, c264, rfl, h265⟩, hl261, hc262⟩ := SlR.at (slE_ok (iE_ok _)) hz164 (L := (b240, .cells #[.int .i64 n14, .int .i64 n15] 36 (0, 0)) :: (Lb228 ++ (Lb234 ++ (Lb208 ++ (Lb214 ++ (Lb163 ++ [])))))) (fC (fS (fS (fS (fS fP))))) g251.1 hx252
           refine ov (v_indexO Try.underlying71 Try.sizeOf80 rfl ha258 rfl (SlR.idx hz164 g251)) rfl ?_
           refine shO_on (b := true) 113 rfl (Env.isT rfl c249) ?_
           refine ov (v_load Try.isAgg80 rfl hs259 (hc262 0 (by decide))) rfl ?_
           refine shO_on (b := true) 113 rfl (Env.isT rfl c249) ?_
           refine o_buildSlice (cs := #[.int .i64 2, .int .i64 0, .int .i64 0, .int .i64 2]) rfl rfl (buildSlice_all slt_80 [.int .i64 2, .int .i64 0, .int .i64 0, .int .i64 2] rfl (by decide) (by simp [Value.cells]) (by decide)) ?_; intro b266 hb266
           refine shO_on (b := true) 113 rfl (Env.isT rfl c249) ?_
           refine shO_freeze 0 rfl hb266 ?_; intro F267 hF268 hz269
           refine shO_L (L' := (b240, .cells #[.int .i64 n14, .int .i64 n15] 36 (0, 0)) :: (Lb228 ++ (Lb234 ++ (Lb208 ++ (Lb214 ++ (Lb163 ++ [])))))) rfl ?_
           replace h199 := h199.mono (iE_ok _) hF268
           replace h265 := h265.mono (iE_ok _) hF268
           have h270 : RowR 1 (iE .i64) F267 (some ⟨b266, 0, none⟩) 4 [2, 0, 0, 2] := RowR.of_block (iE_ok _) (vss := [[.int .i64 2], [.int .i64 0], [.int .i64 0], [.int .i64 2]]) (xs := [2, 0, 0, 2]) hz269 (.cons rfl (.cons rfl (.cons rfl (.cons rfl .nil)))) rfl (by simp [maxLen])
           obtain ⟨ok2, h271, r272⟩ := b1_ok r253; clear r253
           refine o_callV rfl Try.call70 rfl rfl rfl (oyezkit_Like_Verdict_w h265 h270 h271) ?_
           refine ov (v_pick_t (evD_true rfl c249) rfl) rfl ?_
           refine om rfl rfl ?_
           rcases bool_two ok2 with c273 | c273
           · have r274 := bt r272 c273; clear r272
             refine shO_on (b := true) 120 rfl (EnvB rfl c273) (om rfl rfl (shO_on (b := true) 120 rfl (EnvB rfl c273) ?_))
             refine o_buildSlice (cs := #[.int .i64 1]) rfl rfl (buildSlice_all slt_27 [.int .i64 1] rfl (by decide) (by simp [Value.cells]) (by decide)) ?_; intro b275 hb275
             refine shO_on (b := true) 120 rfl (EnvB rfl c273) ?_
             refine shO_freeze 0 rfl hb275 ?_; intro F276 hF277 hz278
             refine shO_L (L' := (b240, .cells #[.int .i64 n14, .int .i64 n15] 36 (0, 0)) :: (Lb228 ++ (Lb234 ++ (Lb208 ++ (Lb214 ++ (Lb163 ++ [])))))) rfl ?_
             replace h199 := h199.mono (iE_ok _) hF277
             have h279 : RowR 1 (iE .i64) F276 (some ⟨b275, 0, none⟩) 1 [1] := RowR.of_block (iE_ok _) (vss := [[.int .i64 1]]) (xs := [1]) hz278 (.cons rfl .nil) rfl (by simp [maxLen])
             obtain ⟨ok3, h280, r281⟩ := b1_ok r274; clear r274
             refine o_callV rfl Try.call28 rfl rfl rfl (oyezkit_Like_int_w h199 h279 h280) ?_
             refine ov (v_pick_t (evB rfl c273) rfl) rfl ?_
             refine om rfl rfl ?_
             rcases bool_two ok3 with c282 | c282
             · have r283 := bt r281 c282; clear r281
               refine shO_on (b := true) 125 rfl (EnvB rfl c282) (om rfl rfl (shO_on (b := true) 125 rfl (EnvB rfl c282) ?_))
               refine ov (v_eql rfl rfl) rfl ?_
               refine ov (v_pick_t (evB rfl c282) rfl) rfl ?_
               refine om rfl rfl ?_
               by_cases c284 : n11 = 14
               · have r285 := ite_t r283 c284; clear r283
                 refine shO_on (b := true) 129 rfl (Env.isT rfl c284) (om rfl rfl (shO_on (b := true) 129 rfl (Env.isT rfl c284) ?_))
                 refine ov (v_eql rfl rfl) rfl ?_
                 refine ov (v_pick_t (evD_true rfl c284) rfl) rfl ?_
                 refine om rfl rfl ?_
                 by_cases c286 : n12 = 28
                 · have r287 := ite_t r285 c286; clear r285
                   refine shO_on (b := true) 133 rfl (Env.isT rfl c286) ?_
                   refine ov (v_loadA (cs := #[.int .i64 n14, .int .i64 n15]) Try.isAgg36 Try.sizeOf36 rfl (Has.own 0 rfl) (Nat.le_of_ble_eq_true rfl) rfl) rfl ?_
                   refine shO_on (b := true) 133 rfl (Env.isT rfl c286) ?_
                   refine ov (v_build (v := .agg #[.int .i64 0, .int .i64 1]) rfl (by intro w; kernel_rfl)) rfl ?_
                   refine shO_on (b := true) 133 rfl (Env.isT rfl c286) ?_
                   refine ov (v_eqA (eqg_36 _ _ _ _) (eq_36 _ _ _ _) rfl rfl) rfl ?_
                   refine ov (v_pick_t (evD_true rfl c286) rfl) rfl ?_
                   refine oa rfl rfl (shO_nil ?_)
                   refine kW kn ?_
                   refine shW_ret ?_
                   refine q_res1 Try.results18 (res_tmp rfl) (sr) ?_
                   obtain rfl := inj1 r287
                   exact rfl
                 have r288 := ite_f r285 c286; clear r285
                 refine shO_off (b' := false) 133 rfl (Env.isF rfl c286) rfl rfl (shO_off (b' := false) 133 rfl (Env.isF rfl c286) rfl rfl (shO_off (b' := false) 133 rfl (Env.isF rfl c286) rfl rfl ?_))
                 refine ov (v_pick_f (evD_false rfl c286) rfl) rfl ?_
                 refine oa rfl rfl (shO_nil ?_)
                 refine kW kn ?_
                 refine shW_ret ?_
                 refine q_res1 Try.results18 (res_tmp rfl) (sr) ?_
                 obtain rfl := inj1 r288
                 exact rfl
               have r289 := ite_f r283 c284; clear r283
               refine shO_off (b' := false) 129 rfl (Env.isF rfl c284) rfl rfl (shO_off (b' := false) 129 rfl (Env.isF rfl c284) rfl rfl ?_)
               refine ov (v_pick_f (evD_false rfl c284) rfl) rfl ?_
               refine om rfl rfl (shO_off (b' := false) 133 rfl rfl rfl rfl (shO_off (b' := false) 133 rfl rfl rfl rfl (shO_off (b' := false) 133 rfl rfl rfl rfl ?_)))
               refine ov (v_pick_f rfl rfl) rfl ?_
               refine oa rfl rfl (shO_nil ?_)
               refine kW kn ?_
               refine shW_ret ?_
               refine q_res1 Try.results18 (res_tmp rfl) (sr) ?_
               obtain rfl := inj1 r289
               exact rfl
             have r290 := bf r281 c282; clear r281
             refine shO_off (b' := false) 125 rfl (EnvB rfl c282) rfl rfl (shO_off (b' := false) 125 rfl (EnvB rfl c282) rfl rfl ?_)
             refine ov (v_pick_f (evB rfl c282) rfl) rfl ?_
             refine om rfl rfl (shO_off (b' := false) 129 rfl rfl rfl rfl (shO_off (b' := false) 129 rfl rfl rfl rfl ?_))
             refine ov (v_pick_f rfl rfl) rfl ?_
             refine om rfl rfl (shO_off (b' := false) 133 rfl rfl rfl rfl (shO_off (b' := false) 133 rfl rfl rfl rfl (shO_off (b' := false) 133 rfl rfl rfl rfl ?_)))
             refine ov (v_pick_f rfl rfl) rfl ?_
             refine oa rfl rfl (shO_nil ?_)
             refine kW kn ?_
             refine shW_ret ?_
             refine q_res1 Try.results18 (res_tmp rfl) (sr) ?_
             obtain rfl := inj1 r290
             exact rfl
           have r291 := bf r272 c273; clear r272
           refine shO_off (b' := false) 120 rfl (EnvB rfl c273) rfl rfl (shO_off (b' := false) 120 rfl (EnvB rfl c273) rfl rfl (shO_off (b' := false) 120 rfl (EnvB rfl c273) rfl rfl ?_))
           refine ov (v_pick_f (evB rfl c273) rfl) rfl ?_
           refine om rfl rfl (shO_off (b' := false) 125 rfl rfl rfl rfl (shO_off (b' := false) 125 rfl rfl rfl rfl ?_))
           refine ov (v_pick_f rfl rfl) rfl ?_
           refine om rfl rfl (shO_off (b' := false) 129 rfl rfl rfl rfl (shO_off (b' := false) 129 rfl rfl rfl rfl ?_))
           refine ov (v_pick_f rfl rfl) rfl ?_
           refine om rfl rfl (shO_off (b' := false) 133 rfl rfl rfl rfl (shO_off (b' := false) 133 rfl rfl rfl rfl (shO_off (b' := false) 133 rfl rfl rfl rfl ?_)))
           refine ov (v_pick_f rfl rfl) rfl ?_
           refine oa rfl rfl (shO_nil ?_)
           refine kW kn ?_
           refine shW_ret ?_
           refine q_res1 Try.results18 (res_tmp rfl) (sr) ?_
           obtain rfl := inj1 r291
           exact rfl
         have r292 := ite_f r248 c249; clear r248
         refine shO_off (b' := false) 113 rfl (Env.isF rfl c249) rfl rfl (shO_off (b' := false) 113 rfl (Env.isF rfl c249) rfl rfl (shO_off (b' := false) 113 rfl (Env.isF rfl c249) rfl rfl (shO_off (b' := false) 113 rfl (Env.isF rfl c249) rfl rfl (shO_off (b' := false) 113 rfl (Env.isF rfl c249) rfl rfl ?_))))
         refine ov (v_pick_f (evD_false rfl c249) rfl) rfl ?_
         refine om rfl rfl (shO_off (b' := false) 120 rfl rfl rfl rfl (shO_off (b' := false) 120 rfl rfl rfl rfl (shO_off (b' := false) 120 rfl rfl rfl rfl ?_)))
         refine ov (v_pick_f rfl rfl) rfl ?_
         refine om rfl rfl (shO_off (b' := false) 125 rfl rfl rfl rfl (shO_off (b' := false) 125 rfl rfl rfl rfl ?_))
         refine ov (v_pick_f rfl rfl) rfl ?_
         refine om rfl rfl (shO_off (b' := false) 129 rfl rfl rfl rfl (shO_off (b' := false) 129 rfl rfl rfl rfl ?_))
         refine ov (v_pick_f rfl rfl) rfl ?_
         refine om rfl rfl (shO_off (b' := false) 133 rfl rfl rfl rfl (shO_off (b' := false) 133 rfl rfl rfl rfl (shO_off (b' := false) 133 rfl rfl rfl rfl ?_)))
         refine ov (v_pick_f rfl rfl) rfl ?_
         refine oa rfl rfl (shO_nil ?_)
         refine kW kn ?_
         refine shW_ret ?_
         refine q_res1 Try.results18 (res_tmp rfl) (sr) ?_
         obtain rfl := inj1 r292
         exact rfl
       have r293 := ite_f r246 c247; clear r246
       refine shO_off (b' := false) 108 rfl (Env.isF rfl c247) rfl rfl (shO_off (b' := false) 108 rfl (Env.isF rfl c247) rfl rfl (shO_off (b' := false) 108 rfl (Env.isF rfl c247) rfl rfl ?_))
       refine ov (v_pick_f (evD_false rfl c247) rfl) rfl ?_
       refine om rfl rfl (shO_off (b' := false) 113 rfl rfl rfl rfl (shO_off (b' := false) 113 rfl rfl rfl rfl (shO_off (b' := false) 113 rfl rfl rfl rfl (shO_off (b' := false) 113 rfl rfl rfl rfl (shO_off (b' := false) 113 rfl rfl rfl rfl ?_)))))
       refine ov (v_pick_f rfl rfl) rfl ?_
       refine om rfl rfl (shO_off (b' := false) 120 rfl rfl rfl rfl (shO_off (b' := false) 120 rfl rfl rfl rfl (shO_off (b' := false) 120 rfl rfl rfl rfl ?_)))
       refine ov (v_pick_f rfl rfl) rfl ?_
       refine om rfl rfl (shO_off (b' := false) 125 rfl rfl rfl rfl (shO_off (b' := false) 125 rfl rfl rfl rfl ?_))
       refine ov (v_pick_f rfl rfl) rfl ?_
       refine om rfl rfl (shO_off (b' := false) 129 rfl rfl rfl rfl (shO_off (b' := false) 129 rfl rfl rfl rfl ?_))
       refine ov (v_pick_f rfl rfl) rfl ?_
       refine om rfl rfl (shO_off (b' := false) 133 rfl rfl rfl rfl (shO_off (b' := false) 133 rfl rfl rfl rfl (shO_off (b' := false) 133 rfl rfl rfl rfl ?_)))
       refine ov (v_pick_f rfl rfl) rfl ?_
       refine oa rfl rfl (shO_nil ?_)
       refine kW kn ?_
       refine shW_ret ?_
       refine q_res1 Try.results18 (res_tmp rfl) (sr) ?_
       obtain rfl := inj1 r293
       exact rfl
     have r294 := ite_f r244 c245; clear r244
     refine shO_off (b' := false) 104 rfl (Env.isF rfl c245) rfl rfl (shO_off (b' := false) 104 rfl (Env.isF rfl c245) rfl rfl ?_)
     refine ov (v_pick_f (evD_false rfl c245) rfl) rfl ?_
     refine om rfl rfl (shO_off (b' := false) 108 rfl rfl rfl rfl (shO_off (b' := false) 108 rfl rfl rfl rfl (shO_off (b' := false) 108 rfl rfl rfl rfl ?_)))
     refine ov (v_pick_f rfl rfl) rfl ?_
     refine om rfl rfl (shO_off (b' := false) 113 rfl rfl rfl rfl (shO_off (b' := false) 113 rfl rfl rfl rfl (shO_off (b' := false) 113 rfl rfl rfl rfl (shO_off (b' := false) 113 rfl rfl rfl rfl (shO_off (b' := false) 113 rfl rfl rfl rfl ?_)))))
     refine ov (v_pick_f rfl rfl) rfl ?_
     refine om rfl rfl (shO_off (b' := false) 120 rfl rfl rfl rfl (shO_off (b' := false) 120 rfl rfl rfl rfl (shO_off (b' := false) 120 rfl rfl rfl rfl ?_)))
     refine ov (v_pick_f rfl rfl) rfl ?_
     refine om rfl rfl (shO_off (b' := false) 125 rfl rfl rfl rfl (shO_off (b' := false) 125 rfl rfl rfl rfl ?_))
     refine ov (v_pick_f rfl rfl) rfl ?_
     refine om rfl rfl (shO_off (b' := false) 129 rfl rfl rfl rfl (shO_off (b' := false) 129 rfl rfl rfl rfl ?_))
     refine ov (v_pick_f rfl rfl) rfl ?_
     refine om rfl rfl (shO_off (b' := false) 133 rfl rfl rfl rfl (shO_off (b' := false) 133 rfl rfl rfl rfl (shO_off (b' := false) 133 rfl rfl rfl rfl ?_)))
     refine ov (v_pick_f rfl rfl) rfl ?_
     refine oa rfl rfl (shO_nil ?_)
     refine kW kn ?_
     refine shW_ret ?_
     refine q_res1 Try.results18 (res_tmp rfl) (sr) ?_
     obtain rfl := inj1 r294
     exact rfl
   have r295 := ite_f r242 c243; clear r242
   refine shO_off (b' := false) 100 rfl (Env.isF rfl c243) rfl rfl (shO_off (b' := false) 100 rfl (Env.isF rfl c243) rfl rfl ?_)
   refine ov (v_pick_f (evD_false rfl c243) rfl) rfl ?_
   refine om rfl rfl (shO_off (b' := false) 104 rfl rfl rfl rfl (shO_off (b' := false) 104 rfl rfl rfl rfl ?_))
   refine ov (v_pick_f rfl rfl) rfl ?_
   refine om rfl rfl (shO_off (b' := false) 108 rfl rfl rfl rfl (shO_off (b' := false) 108 rfl rfl rfl rfl (shO_off (b' := false) 108 rfl rfl rfl rfl ?_)))
   refine ov (v_pick_f rfl rfl) rfl ?_
   refine om rfl rfl (shO_off (b' := false) 113 rfl rfl rfl rfl (shO_off (b' := false) 113 rfl rfl rfl rfl (shO_off (b' := false) 113 rfl rfl rfl rfl (shO_off (b' := false) 113 rfl rfl rfl rfl (shO_off (b' := false) 113 rfl rfl rfl rfl ?_)))))
   refine ov (v_pick_f rfl rfl) rfl ?_
   refine om rfl rfl (shO_off (b' := false) 120 rfl rfl rfl rfl (shO_off (b' := false) 120 rfl rfl rfl rfl (shO_off (b' := false) 120 rfl rfl rfl rfl ?_)))
   refine ov (v_pick_f rfl rfl) rfl ?_
   refine om rfl rfl (shO_off (b' := false) 125 rfl rfl rfl rfl (shO_off (b' := false) 125 rfl rfl rfl rfl ?_))
   refine ov (v_pick_f rfl rfl) rfl ?_
   refine om rfl rfl (shO_off (b' := false) 129 rfl rfl rfl rfl (shO_off (b' := false) 129 rfl rfl rfl rfl ?_))
   refine ov (v_pick_f rfl rfl) rfl ?_
   refine om rfl rfl (shO_off (b' := false) 133 rfl rfl rfl rfl (shO_off (b' := false) 133 rfl rfl rfl rfl (shO_off (b' := false) 133 rfl rfl rfl rfl ?_)))
   refine ov (v_pick_f rfl rfl) rfl ?_
   refine oa rfl rfl (shO_nil ?_)
   refine kW kn ?_
   refine shW_ret ?_
   refine q_res1 Try.results18 (res_tmp rfl) (sr) ?_
   obtain rfl := inj1 r295
   exact rfl
 have r296 := ite_f r239 c241; clear r239
 refine shO_off (b' := false) 96 rfl (Env.isF rfl c241) rfl rfl (shO_off (b' := false) 96 rfl (Env.isF rfl c241) rfl rfl ?_)
 refine ov (v_pick_f (evD_false rfl c241) rfl) rfl ?_
 refine om rfl rfl (shO_off (b' := false) 100 rfl rfl rfl rfl (shO_off (b' := false) 100 rfl rfl rfl rfl ?_))
 refine ov (v_pick_f rfl rfl) rfl ?_
 refine om rfl rfl (shO_off (b' := false) 104 rfl rfl rfl rfl (shO_off (b' := false) 104 rfl rfl rfl rfl ?_))
 refine ov (v_pick_f rfl rfl) rfl ?_
 refine om rfl rfl (shO_off (b' := false) 108 rfl rfl rfl rfl (shO_off (b' := false) 108 rfl rfl rfl rfl (shO_off (b' := false) 108 rfl rfl rfl rfl ?_)))
 refine ov (v_pick_f rfl rfl) rfl ?_
 refine om rfl rfl (shO_off (b' := false) 113 rfl rfl rfl rfl (shO_off (b' := false) 113 rfl rfl rfl rfl (shO_off (b' := false) 113 rfl rfl rfl rfl (shO_off (b' := false) 113 rfl rfl rfl rfl (shO_off (b' := false) 113 rfl rfl rfl rfl ?_)))))
 refine ov (v_pick_f rfl rfl) rfl ?_
 refine om rfl rfl (shO_off (b' := false) 120 rfl rfl rfl rfl (shO_off (b' := false) 120 rfl rfl rfl rfl (shO_off (b' := false) 120 rfl rfl rfl rfl ?_)))
 refine ov (v_pick_f rfl rfl) rfl ?_
 refine om rfl rfl (shO_off (b' := false) 125 rfl rfl rfl rfl (shO_off (b' := false) 125 rfl rfl rfl rfl ?_))
 refine ov (v_pick_f rfl rfl) rfl ?_
 refine om rfl rfl (shO_off (b' := false) 129 rfl rfl rfl rfl (shO_off (b' := false) 129 rfl rfl rfl rfl ?_))
 refine ov (v_pick_f rfl rfl) rfl ?_
 refine om rfl rfl (shO_off (b' := false) 133 rfl rfl rfl rfl (shO_off (b' := false) 133 rfl rfl rfl rfl (shO_off (b' := false) 133 rfl rfl rfl rfl ?_)))
 refine ov (v_pick_f rfl rfl) rfl ?_
 refine oa rfl rfl (shO_nil ?_)
 refine kW kn ?_
 refine shW_ret ?_
 refine q_res1 Try.results18 (res_tmp rfl) (sr) ?_
 obtain rfl := inj1 r296
 exact rfl
set_option maxHeartbeats 1000000 in
theorem night_Ask_w {listens_a : Option Addr} {listens_c : Nat} {listens : List (List Int)} {hours_a : Option Addr} {hours_c : Nat} {hours : List (List Int)} {F : FS} (h_listens : RowR 1 (slE 1 (iE .i64)) F listens_a listens_c listens) (h_hours : RowR 1 (slE 1 (iE .i64)) F hours_a hours_c hours) {r : Int} {r2 : Int} {r3 : Int} {r4 : Int} (hr : night_Ask listens hours = some (r, r2, r3, r4)) :
    SpecV Try.prog 29 #[.agg #[.slice listens_a listens.length listens_c, .slice hours_a hours.length hours_c]] F (.tuple #[.agg #[.int .i64 r, .int .i64 r2], .int .i64 r3, .int .i64 r4]) := by
 refine spec_of_shW (args := [.agg #[.slice listens_a listens.length listens_c, .slice hours_a hours.length hours_c]]) Try.func29 rfl Try.ntmps29 (Nat.le_of_ble_eq_true rfl) ?_
 intro K _ _; rw [night_Ask] at hr
 refine wsr ?_
 refine o_box rfl rfl ?_; intro b1 hb1
 refine o_alloc rfl Try.zeroValue59 ?_; intro b2 hb2
 refine oa rfl rfl (oa rfl rfl (nsr ?_))
 refine ov (v_loadA (cs := #[.slice listens_a listens.length listens_c, .slice hours_a hours.length hours_c]) Try.isAgg26 Try.sizeOf26 rfl (Has.own 1 rfl) (Nat.le_of_ble_eq_true rfl) rfl) rfl ?_
 obtain ⟨d, n, h3, r5⟩ := b2_ok hr; clear hr
 refine o_call0 rfl Try.call55 rfl rfl rfl (night_told_w h_listens h_hours h3) ?_; rintro _ F6 _ hF7 hn8 ⟨v10, Lb12, rfl, rfl, hp11⟩
 replace h_hours := h_hours.mono (slE_ok (iE_ok _)) hF7
 refine shO_L (lp (ln rfl)) ?_
 refine kO (kf (fS fO) (kf (fS fO) kr)) ?_
 refine om rfl rfl (ox rfl rfl rfl (ox rfl rfl rfl (oa rfl rfl (oa rfl rfl (shO_nil (shW_seq (wsr (om rfl rfl ?_))))))))
 refine ov (v_neq rfl rfl) rfl ?_
 refine shO_nil ?_
 refine shW_condP rfl (fun c13 => ?_) (fun c13 => ?_)
 · have r14 := ite_t r5 c13; clear r5
   refine wsr ?_
   refine ov (v_build (v := .agg #[.int .i64 0, .int .i64 0]) rfl (by intro w; kernel_rfl)) rfl ?_
   refine om rfl rfl ?_
   refine o_storeA (i := 0) Try.sizeOf59 rfl rfl rfl (by simp [Value.oneCell']) rfl (Nat.le_of_ble_eq_true rfl) ?_
   refine shO_L (L' := (b2, .cells #[.int .i64 0, .int .i64 0] 59 (0, 0)) :: ((b1, .cells #[.slice listens_a listens.length listens_c, .slice hours_a hours.length hours_c] 26 (0, 0)) :: (Lb12 ++ []))) rfl ?_
   refine oa rfl rfl (oa rfl rfl (shO_nil ?_))
   refine kW (kc kn) ?_
   refine shW_ret (andThen_ret ?_)
   refine q_res3 Try.results29 (res_cellA (cs := #[.int .i64 0, .int .i64 0]) Try.isAgg59 Try.sizeOf59 rfl (Has.own 0 rfl) (Nat.le_of_ble_eq_true rfl) rfl) (res_tmp rfl) (res_tmp rfl) (s1 sr) ?_
   obtain ⟨rfl, rfl, rfl, rfl⟩ := inj4 r14
   exact rfl
 have r15 := ite_f r5 c13; clear r5
 refine shW_skip (wsr ?_)
 refine ov (v_build (v := .agg #[.int .i64 (-1), .int .i64 (-1)]) rfl (by intro w; kernel_rfl)) rfl ?_
 refine o_alloc rfl Try.zeroValue59 ?_; intro b16 hb16
 refine o_storeA (i := 0) Try.sizeOf59 rfl rfl rfl (by simp [Value.oneCell']) rfl (Nat.le_of_ble_eq_true rfl) ?_
 refine shO_L (L' := (b16, .cells #[.int .i64 (-1), .int .i64 (-1)] 59 (0, 0)) :: ((b2, .cells #[.int .i64 0, .int .i64 0] 59 (0, 0)) :: ((b1, .cells #[.slice listens_a listens.length listens_c, .slice hours_a hours.length hours_c] 26 (0, 0)) :: (Lb12 ++ [])))) rfl ?_
 refine nsr ?_
 refine ov (v_loadA (cs := #[.int .i64 (-1), .int .i64 (-1)]) Try.isAgg59 Try.sizeOf59 rfl (Has.own 0 rfl) (Nat.le_of_ble_eq_true rfl) rfl) rfl ?_
 refine o_alloc rfl Try.zeroValue59 ?_; intro b17 hb17
 refine o_storeA (i := 0) Try.sizeOf59 rfl rfl rfl (by simp [Value.oneCell']) rfl (Nat.le_of_ble_eq_true rfl) ?_
 refine shO_L (L' := (b17, .cells #[.int .i64 (-1), .int .i64 (-1)] 59 (0, 0)) :: ((b16, .cells #[.int .i64 (-1), .int .i64 (-1)] 59 (0, 0)) :: ((b2, .cells #[.int .i64 0, .int .i64 0] 59 (0, 0)) :: ((b1, .cells #[.slice listens_a listens.length listens_c, .slice hours_a hours.length hours_c] 26 (0, 0)) :: (Lb12 ++ []))))) rfl ?_
 refine oa rfl rfl (shO_nil ?_)
 obtain ⟨best_hour, best_man, n2, h18, r19⟩ := b3_ok r15; clear r15
 refine shW_join (fun e1 F1 L1 => F6 = F1 ∧ L1 = [(b17, .cells #[.int .i64 best_hour, .int .i64 best_man] 59 (0, 0)), (b16, .cells #[.int .i64 (-1), .int .i64 (-1)] 59 (0, 0)), (b2, .cells #[.int .i64 0, .int .i64 0] 59 (0, 0))] ∧ e1.sub [(2, .pointer (some ⟨b2, 0, none⟩)), (7, .pointer (some ⟨b16, 0, none⟩)), (8, .pointer (some ⟨b17, 0, none⟩)), (9, .int .i64 n2)]) ?_ ?_
 · clear r19
   refine wsr ?_
   refine ov (v_fieldAddr fa_26_1 rfl) rfl ?_
   refine ov (v_load Try.isAgg24 rfl (Has.own 3 rfl) rfl) rfl ?_
   refine ov (v_lenS Try.underlying24 rfl) rfl ?_
   refine om rfl rfl (shO_nil ?_)
   refine shW_block ?_
   obtain ⟨listens2, hours2, cried, rows, h20, r21⟩ := b4_ok h18; clear h18
   have h27 := hp11; rw [h20] at h27; obtain ⟨b22, m23, a28, c29, a31, c32, b34, es35, cl36, a38, c39, hv24, hz25, h30, h33, hR37, h40, hL26⟩ := ob_139_of h27; subst hv24; subst hL26
   refine shW_L (L' := [(b17, .cells #[.int .i64 (-1), .int .i64 (-1)] 59 (0, 0)), (b16, .cells #[.int .i64 (-1), .int .i64 (-1)] 59 (0, 0)), (b2, .cells #[.int .i64 0, .int .i64 0] 59 (0, 0)), (b1, .cells #[.slice listens_a listens.length listens_c, .slice hours_a hours.length hours_c] 26 (0, 0)), (b34, .map es35 cl36)]) rfl ?_
   refine kW (kc (kc (kc (kd kr)))) ?_
   refine shW_lp (fun fu1 e1 F1 L1 => ∃ (tl : List (List Int)) (k : Int), tl.length = fu1 ∧ Lst hours k tl ∧ ∃ (best_hour2 : Int) (best_man2 : Int) (n3 : Int), night_Ask_l1 listens2 hours2 rows tl k best_hour2 best_man2 n3 = some (best_hour, best_man, n2) ∧ F6 = F1 ∧ L1 = [(b17, .cells #[.int .i64 best_hour2, .int .i64 best_man2] 59 (0, 0)), (b16, .cells #[.int .i64 (-1), .int .i64 (-1)] 59 (0, 0)), (b2, .cells #[.int .i64 0, .int .i64 0] 59 (0, 0)), (b34, .map es35 cl36)] ∧ e1.sub [(2, .pointer (some ⟨b2, 0, none⟩)), (5, .pointer (some ⟨b22, 0, none⟩)), (7, .pointer (some ⟨b16, 0, none⟩)), (8, .pointer (some ⟨b17, 0, none⟩)), (9, .int .i64 n3), (28, .slice hours_a hours.length hours_c), (29, .int .i64 (hours.length : Int)), (30, .int .i64 k)]) _ (m0 kr ⟨_, _, rfl, Lst.start _, -1, -1, 0, r21, rfl, rfl, (sc rfl (sc rfl (sc rfl (sc rfl (sc rfl (sc rfl (sc rfl (sc rfl (sn _)))))))))⟩) ?_
   rintro fu1 e1 _ _ ⟨tl, k, hn42, hk41, best_hour2, best_man2, n3, r43, rfl, rfl, he44⟩
   refine shW_env _ he44 ?_; clear he44
   refine wsr ?_
   refine ov (v_lssK rfl rfl) rfl ?_
   refine shO_nil (shW_seq ?_)
   refine shW_condP rfl (fun c46 => ?_) (fun c46 => ?_)
   · obtain ⟨x, tl2, rfl, hx48, g49, hk47⟩ := Lst.succ hk41 c46
     rw [night_Ask_l1] at r43
     refine shW_skip ?_
     obtain ⟨best_hour3, best_man3, n4, h50, r51⟩ := b3_ok r43; clear r43
     refine shW_join (fun e1 F1 L1 => F6 = F1 ∧ L1 = [(b17, .cells #[.int .i64 best_hour3, .int .i64 best_man3] 59 (0, 0)), (b16, .cells #[.int .i64 (-1), .int .i64 (-1)] 59 (0, 0)), (b2, .cells #[.int .i64 0, .int .i64 0] 59 (0, 0)), (b34, .map es35 cl36)] ∧ e1.sub [(2, .pointer (some ⟨b2, 0, none⟩)), (5, .pointer (some ⟨b22, 0, none⟩)), (7, .pointer (some ⟨b16, 0, none⟩)), (8, .pointer (some ⟨b17, 0, none⟩)), (9, .int .i64 n4), (28, .slice hours_a hours.length hours_c), (29, .int .i64 (hours.length : Int)), (30, .int .i64 k)]) ?_ ?_
     · clear r51
       refine shW_block ?_
       refine wsr (om rfl rfl ?_)
       obtain ⟨b52, o53, c54, vs55, ha56, hs57, hle58, ⟨a61, c62, rfl, h63⟩, hl59, hc60⟩ := RowR.at (slE_ok (iE_ok _)) h_hours ([(b17, .cells #[.int .i64 best_hour2, .int .i64 best_man2] 59 (0, 0)), (b16, .cells #[.int .i64 (-1), .int .i64 (-1)] 59 (0, 0)), (b2, .cells #[.int .i64 0, .int .i64 0] 59 (0, 0)), (b34, .map es35 cl36)]) g49.1 hx48
       refine ov (v_indexO Try.underlying24 Try.sizeOf40 rfl ha56 rfl g49) rfl ?_
       refine ov (v_load Try.isAgg40 rfl hs57 (hc60 0 (by decide))) rfl ?_
       refine oa rfl rfl (oa rfl rfl (nsr (om rfl rfl ?_)))
       refine ov (v_lenS Try.underlying40 rfl) rfl ?_
       refine om rfl rfl (shO_nil ?_)
       refine shW_block ?_
       refine shW_lp (fun fu2 e1 F1 L1 => ∃ (tl3 : List Int) (k2 : Int), tl3.length = fu2 ∧ Lst x k2 tl3 ∧ ∃ (best_hour4 : Int) (best_man4 : Int) (n5 : Int), night_Ask_l2 listens2 hours2 rows k tl3 k2 best_hour4 best_man4 n5 = some (best_hour3, best_man3, n4) ∧ F6 = F1 ∧ L1 = [(b17, .cells #[.int .i64 best_hour4, .int .i64 best_man4] 59 (0, 0)), (b16, .cells #[.int .i64 (-1), .int .i64 (-1)] 59 (0, 0)), (b2, .cells #[.int .i64 0, .int .i64 0] 59 (0, 0)), (b34, .map es35 cl36)] ∧ e1.sub [(2, .pointer (some ⟨b2, 0, none⟩)), (5, .pointer (some ⟨b22, 0, none⟩)), (7, .pointer (some ⟨b16, 0, none⟩)), (8, .pointer (some ⟨b17, 0, none⟩)), (9, .int .i64 n5), (10, .int .i64 k), (28, .slice hours_a hours.length hours_c), (29, .int .i64 (hours.length : Int)), (30, .int .i64 k), (35, .slice a61 x.length c62), (36, .int .i64 (x.length : Int)), (37, .int .i64 k2)]) _ (m0 kr ⟨_, _, rfl, Lst.start _, best_hour2, best_man2, n3, h50, rfl, rfl, (sc rfl (sc rfl (sc rfl (sc rfl (sc rfl (sc rfl (sc rfl (sc rfl (sc rfl (sc rfl (sc rfl (sc rfl (sn _)))))))))))))⟩) ?_
       rintro fu2 e1 _ _ ⟨tl3, k2, hn65, hk64, best_hour4, best_man4, n5, r66, rfl, rfl, he67⟩
       refine shW_env _ he67 ?_; clear he67
       refine wsr ?_
       refine ov (v_lssK rfl rfl) rfl ?_
       refine shO_nil (shW_seq ?_)
       refine shW_condP rfl (fun c69 => ?_) (fun c69 => ?_)
       · obtain ⟨x2, tl4, rfl, hx71, g72, hk70⟩ := Lst.succ hk64 c69
         rw [night_Ask_l2] at r66
         refine shW_skip (shW_seq ?_)
         refine shW_block ?_
         refine wsr (om rfl rfl ?_)
         obtain ⟨b73, o74, c75, vs76, ha77, hs78, hle79, rfl, hl80, hc81⟩ := RowR.at (iE_ok _) h63 ([(b17, .cells #[.int .i64 best_hour4, .int .i64 best_man4] 59 (0, 0)), (b16, .cells #[.int .i64 (-1), .int .i64 (-1)] 59 (0, 0)), (b2, .cells #[.int .i64 0, .int .i64 0] 59 (0, 0)), (b34, .map es35 cl36)]) g72.1 hx71
         refine ov (v_indexO Try.underlying40 Try.sizeOf41 rfl ha77 rfl g72) rfl ?_
         refine ov (v_load Try.isAgg41 rfl hs78 (hc81 0 (by decide))) rfl ?_
         refine oa rfl rfl (oa rfl rfl (shO_nil (shW_seq (wsr (om rfl rfl ?_)))))
         refine ov (v_neq rfl rfl) rfl ?_
         refine shO_nil ?_
         refine shW_condP rfl (fun c82 => ?_) (fun c82 => ?_)
         · have r83 := ite_t r66 c82; clear r66
           refine shW_exit (andThen_exit ?_)
           refine inBlock_exit ?_
           refine shW_region ?_
           refine ov (v_add rfl rfl (Lst.r64 hk64 c69 (RowR.lt h63))) rfl ?_
           refine om rfl rfl (shO_nil ?_)
           subst hn65; exact le kr ⟨_, _, rfl, hk70, best_hour4, best_man4, n5, r83, rfl, rfl, (sc rfl (sc rfl (sc rfl (sc rfl (sc rfl (sc rfl (sc rfl (sc rfl (sc rfl (sc rfl (sc rfl (sc rfl (sn _)))))))))))))⟩
         have r84 := ite_f r66 c82; clear r66
         refine shW_skip (wsr (om rfl rfl (om rfl rfl ?_)))
         refine ov (v_build (v := .agg #[.int .i64 k, .int .i64 k2]) rfl (by intro w; kernel_rfl)) rfl ?_
         refine o_alloc rfl Try.zeroValue59 ?_; intro b85 hb85
         refine o_storeA (i := 0) Try.sizeOf59 rfl rfl rfl (by simp [Value.oneCell']) rfl (Nat.le_of_ble_eq_true rfl) ?_
         refine shO_L (L' := [(b85, .cells #[.int .i64 k, .int .i64 k2] 59 (0, 0)), (b17, .cells #[.int .i64 best_hour4, .int .i64 best_man4] 59 (0, 0)), (b16, .cells #[.int .i64 (-1), .int .i64 (-1)] 59 (0, 0)), (b2, .cells #[.int .i64 0, .int .i64 0] 59 (0, 0)), (b34, .map es35 cl36)]) rfl ?_
         refine nsr (om rfl rfl ?_)
         refine ov (v_loadA (cs := #[.int .i64 k, .int .i64 k2]) Try.isAgg59 Try.sizeOf59 rfl (Has.own 0 rfl) (Nat.le_of_ble_eq_true rfl) rfl) rfl ?_
         obtain ⟨n6, n7, h86, r87⟩ := b2_ok r84; clear r84
         refine o_callV rfl Try.call78 rfl rfl rfl (night_desk_split_w hz25 h30 h33 h40 h86) ?_
         refine ox rfl rfl rfl (ox rfl rfl rfl ?_)
         refine ov (v_max2 rfl rfl) rfl ?_
         refine oa rfl rfl (shO_nil ?_)
         obtain ⟨k3, h88, r89⟩ := b1_ok r87; clear r87
         refine shW_join (fun e1 F1 L1 => F6 = F1 ∧ L1 = [(b85, .cells #[.int .i64 k, .int .i64 k2] 59 (0, 0)), (b17, .cells #[.int .i64 best_hour4, .int .i64 best_man4] 59 (0, 0)), (b16, .cells #[.int .i64 (-1), .int .i64 (-1)] 59 (0, 0)), (b2, .cells #[.int .i64 0, .int .i64 0] 59 (0, 0)), (b34, .map es35 cl36)] ∧ e1.sub [(2, .pointer (some ⟨b2, 0, none⟩)), (5, .pointer (some ⟨b22, 0, none⟩)), (7, .pointer (some ⟨b16, 0, none⟩)), (8, .pointer (some ⟨b17, 0, none⟩)), (9, .int .i64 n5), (10, .int .i64 k), (14, .pointer (some ⟨b85, 0, none⟩)), (15, .int .i64 (if n7 > n6 then n7 else n6)), (28, .slice hours_a hours.length hours_c), (29, .int .i64 (hours.length : Int)), (30, .int .i64 k), (35, .slice a61 x.length c62), (36, .int .i64 (x.length : Int)), (37, .int .i64 k2), (60, .bool k3)]) ?_ ?_
         · clear r89
           refine shW_region ?_
           refine ov (v_loadA (cs := #[.int .i64 best_hour4, .int .i64 best_man4]) Try.isAgg59 Try.sizeOf59 rfl (Has.own 1 rfl) (Nat.le_of_ble_eq_true rfl) rfl) rfl ?_
           refine ov (v_loadA (cs := #[.int .i64 (-1), .int .i64 (-1)]) Try.isAgg59 Try.sizeOf59 rfl (Has.own 2 rfl) (Nat.le_of_ble_eq_true rfl) rfl) rfl ?_
           refine ov (v_eqA (eqg_59 _ _ _ _) (eq_59 _ _ _ _) rfl rfl) rfl ?_
           refine om rfl rfl ?_
           by_cases c90 : best_hour4 = (-1) ∧ best_man4 = (-1)
           · have r91 := ite_t h88 c90; clear h88
             refine shO_off (b' := true) 56 rfl (Env.isT rfl c90) rfl rfl (shO_off (b' := true) 56 rfl (Env.isT rfl c90) rfl rfl (shO_off (b' := true) 56 rfl (Env.isT rfl c90) rfl rfl ?_))
             refine ov (v_pick_t (evD_true rfl c90) rfl) rfl ?_
             refine shO_nil ?_
             obtain rfl := inj1 r91
             exact mi kr ⟨rfl, rfl, (sc rfl (sc rfl (sc rfl (sc rfl (sc rfl (sc rfl (sc rfl (sc rfl (sc rfl (sc rfl (sc rfl (sc rfl (sc rfl (sc rfl (sc rfl (sn _))))))))))))))))⟩
           have r92 := ite_f h88 c90; clear h88
           refine shO_on (b := false) 56 rfl (Env.isF rfl c90) (om rfl rfl (shO_on (b := false) 56 rfl (Env.isF rfl c90) (om rfl rfl (shO_on (b := false) 56 rfl (Env.isF rfl c90) ?_))))
           refine ov (v_lssK rfl rfl) rfl ?_
           refine ov (v_pick_f (evD_false rfl c90) rfl) rfl ?_
           refine shO_nil ?_
           obtain rfl := inj1 r92
           exact mi kr ⟨rfl, rfl, (sc rfl (sc rfl (sc rfl (sc rfl (sc rfl (sc rfl (sc rfl (sc rfl (sc rfl (sc rfl (sc rfl (sc rfl (sc rfl (sc rfl (sc rfl (sn _))))))))))))))))⟩
         rintro e1 _ _ ⟨rfl, rfl, he93⟩
         refine shW_env _ he93 ?_; clear he93
         refine shW_cond rfl (fun c94 => ?_) (fun c94 => ?_)
         · have r95 := bt r89 c94; clear r89
           refine shW_region ?_
           refine ov (v_loadA (cs := #[.int .i64 k, .int .i64 k2]) Try.isAgg59 Try.sizeOf59 rfl (Has.own 0 rfl) (Nat.le_of_ble_eq_true rfl) rfl) rfl ?_
           refine om rfl rfl ?_
           refine o_storeA (i := 1) Try.sizeOf59 rfl rfl rfl (by simp [Value.oneCell']) rfl (Nat.le_of_ble_eq_true rfl) ?_
           refine shO_L (L' := [(b85, .cells #[.int .i64 k, .int .i64 k2] 59 (0, 0)), (b17, .cells #[.int .i64 k, .int .i64 k2] 59 (0, 0)), (b16, .cells #[.int .i64 (-1), .int .i64 (-1)] 59 (0, 0)), (b2, .cells #[.int .i64 0, .int .i64 0] 59 (0, 0)), (b34, .map es35 cl36)]) rfl ?_
           refine oa rfl rfl (shO_nil (inBlock_n (id := 3) (shW_region ?_)))
           refine ov (v_add rfl rfl (Lst.r64 hk64 c69 (RowR.lt h63))) rfl ?_
           refine om rfl rfl (shO_nil ?_)
           subst hn65; exact le (kd kr) ⟨_, _, rfl, hk70, k, k2, if n7 > n6 then n7 else n6, r95, rfl, rfl, (sc rfl (sc rfl (sc rfl (sc rfl (sc rfl (sc rfl (sc rfl (sc rfl (sc rfl (sc rfl (sc rfl (sc rfl (sn _)))))))))))))⟩
         have r96 := bf r89 c94; clear r89
         refine shW_skip (inBlock_n (id := 3) (shW_region ?_))
         refine ov (v_add rfl rfl (Lst.r64 hk64 c69 (RowR.lt h63))) rfl ?_
         refine om rfl rfl (shO_nil ?_)
         subst hn65; exact le (kd kr) ⟨_, _, rfl, hk70, best_hour4, best_man4, n5, r96, rfl, rfl, (sc rfl (sc rfl (sc rfl (sc rfl (sc rfl (sc rfl (sc rfl (sc rfl (sc rfl (sc rfl (sc rfl (sc rfl (sn _)))))))))))))⟩
       obtain rfl := Lst.zero hk64 c69
       rw [night_Ask_l2] at r66
       refine shW_exit (andThen_exit (andThen_exit ?_))
       refine inBlock_exit ?_
       refine inBlock_n (id := 1) ?_
       obtain ⟨rfl, rfl, rfl⟩ := inj3 r66
       exact mi kr ⟨rfl, rfl, (sc rfl (sc rfl (sc rfl (sc rfl (sc rfl (sc rfl (sc rfl (sc rfl (sn _)))))))))⟩
     rintro e1 _ _ ⟨rfl, rfl, he97⟩
     refine shW_env _ he97 ?_; clear he97
     refine shW_region ?_
     refine ov (v_add rfl rfl (Lst.r64 hk41 c46 (RowR.lt h_hours))) rfl ?_
     refine om rfl rfl (shO_nil ?_)
     subst hn42; exact le kr ⟨_, _, rfl, hk47, best_hour3, best_man3, n4, r51, rfl, rfl, (sc rfl (sc rfl (sc rfl (sc rfl (sc rfl (sc rfl (sc rfl (sc rfl (sn _)))))))))⟩
   obtain rfl := Lst.zero hk41 c46
   rw [night_Ask_l1] at r43
   refine shW_exit (andThen_exit (andThen_exit ?_))
   refine inBlock_exit ?_
   obtain ⟨rfl, rfl, rfl⟩ := inj3 r43
   exact mi (kc (kc (kc kn))) ⟨rfl, rfl, (sc rfl (sc rfl (sc rfl (sc rfl (sn _)))))⟩
 rintro e1 _ _ ⟨rfl, rfl, he98⟩
 refine shW_env _ he98 ?_; clear he98
 refine shW_seq (wsr ?_)
 refine ov (v_loadA (cs := #[.int .i64 best_hour, .int .i64 best_man]) Try.isAgg59 Try.sizeOf59 rfl (Has.own 0 rfl) (Nat.le_of_ble_eq_true rfl) rfl) rfl ?_
 refine ov (v_loadA (cs := #[.int .i64 (-1), .int .i64 (-1)]) Try.isAgg59 Try.sizeOf59 rfl (Has.own 1 rfl) (Nat.le_of_ble_eq_true rfl) rfl) rfl ?_
 refine ov (v_eqA (eqg_59 _ _ _ _) (eq_59 _ _ _ _) rfl rfl) rfl ?_
 refine shO_nil ?_
 refine shW_condP rfl (fun c99 => ?_) (fun c99 => ?_)
 · have r100 := ite_t r19 c99; clear r19
   refine wsr ?_
   refine ov (v_build (v := .agg #[.int .i64 0, .int .i64 0]) rfl (by intro w; kernel_rfl)) rfl ?_
   refine o_storeA (i := 2) Try.sizeOf59 rfl rfl rfl (by simp [Value.oneCell']) rfl (Nat.le_of_ble_eq_true rfl) ?_
   refine shO_L (L' := [(b17, .cells #[.int .i64 best_hour, .int .i64 best_man] 59 (0, 0)), (b16, .cells #[.int .i64 (-1), .int .i64 (-1)] 59 (0, 0)), (b2, .cells #[.int .i64 0, .int .i64 0] 59 (0, 0))]) rfl ?_
   refine oa rfl rfl (oa rfl rfl (shO_nil ?_))
   refine kW (kd (kd kr)) ?_
   refine shW_ret (andThen_ret ?_)
   refine q_res3 Try.results29 (res_cellA (cs := #[.int .i64 0, .int .i64 0]) Try.isAgg59 Try.sizeOf59 rfl (Has.own 0 rfl) (Nat.le_of_ble_eq_true rfl) rfl) (res_tmp rfl) (res_tmp rfl) (s1 sr) ?_
   obtain ⟨rfl, rfl, rfl, rfl⟩ := inj4 r100
   exact rfl
 have r101 := ite_f r19 c99; clear r19
 refine shW_skip (wsr ?_)
 refine ov (v_loadA (cs := #[.int .i64 best_hour, .int .i64 best_man]) Try.isAgg59 Try.sizeOf59 rfl (Has.own 0 rfl) (Nat.le_of_ble_eq_true rfl) rfl) rfl ?_
 refine om rfl rfl ?_
 refine o_storeA (i := 2) Try.sizeOf59 rfl rfl rfl (by simp [Value.oneCell']) rfl (Nat.le_of_ble_eq_true rfl) ?_
 refine shO_L (L' := [(b17, .cells #[.int .i64 best_hour, .int .i64 best_man] 59 (0, 0)), (b16, .cells #[.int .i64 (-1), .int .i64 (-1)] 59 (0, 0)), (b2, .cells #[.int .i64 best_hour, .int .i64 best_man] 59 (0, 0))]) rfl ?_
 refine oa rfl rfl (oa rfl rfl (shO_nil ?_))
 refine kW (kd (kd kr)) ?_
 refine shW_ret ?_
 refine q_res3 Try.results29 (res_cellA (cs := #[.int .i64 best_hour, .int .i64 best_man]) Try.isAgg59 Try.sizeOf59 rfl (Has.own 0 rfl) (Nat.le_of_ble_eq_true rfl) rfl) (res_tmp rfl) (res_tmp rfl) (s1 sr) ?_
 obtain ⟨rfl, rfl, rfl, rfl⟩ := inj4 r101
 exact rfl
set_option maxHeartbeats 1000000 in
theorem night_With_w {listens_a : Option Addr} {listens_c : Nat} {listens : List (List Int)} {hours_a : Option Addr} {hours_c : Nat} {hours : List (List Int)} {hour : Int} {man : Int} {m : Int} {F : FS} (h_listens : RowR 1 (slE 1 (iE .i64)) F listens_a listens_c listens) (h_hours : RowR 1 (slE 1 (iE .i64)) F hours_a hours_c hours) {r : List (List Int)} {r2 : List (List Int)} {r3 : Int} (hr : night_With listens hours hour man m = some (r, r2, r3)) :
    SH.Spec Try.prog 31 #[.agg #[.slice listens_a listens.length listens_c, .slice hours_a hours.length hours_c], .agg #[.int .i64 hour, .int .i64 man], .int .i64 m] F [] fun F' L' v => ∃ (ra : Option Addr) (rn : Nat) (rc : Nat) (rL : LH) (r2a : Option Addr) (r2c : Nat), v = .tuple #[.agg #[.slice ra rn rc, .slice r2a r2.length r2c], .int .i64 r3] ∧ L' = rL ++ [] ∧ SlR 0 27 1 (slE 1 (iE .i64)) F' ra rn rc r rL ∧ RowR 1 (slE 1 (iE .i64)) F' r2a r2c r2 := by
 refine spec_of_shW (args := [.agg #[.slice listens_a listens.length listens_c, .slice hours_a hours.length hours_c], .agg #[.int .i64 hour, .int .i64 man], .int .i64 m]) Try.func31 rfl Try.ntmps31 (Nat.le_of_ble_eq_true rfl) ?_
 intro K _ _; rw [night_With] at hr
 refine wsr ?_
 refine o_box rfl rfl ?_; intro b1 hb1
 refine o_box rfl rfl ?_; intro b2 hb2
 refine o_alloc rfl Try.zeroValue26 ?_; intro b3 hb3
 refine oa rfl rfl (nsr ?_)
 refine ov (v_loadA (cs := #[.slice listens_a listens.length listens_c, .slice hours_a hours.length hours_c]) Try.isAgg26 Try.sizeOf26 rfl (Has.own 2 rfl) (Nat.le_of_ble_eq_true rfl) rfl) rfl ?_
 obtain ⟨n, h4, r5⟩ := b1_ok hr; clear hr
 refine o_callV rfl Try.call80 rfl rfl rfl (night_Check_w h_listens h_hours h4) ?_
 refine oa rfl rfl (shO_nil (shW_seq ?_))
 refine shW_block ?_
 refine wsr (om rfl rfl ?_)
 refine ov (v_neq rfl rfl) rfl ?_
 refine oa rfl rfl (shO_nil ?_)
 refine shW_condP rfl (fun c6 => ?_) (fun c6 => ?_)
 · have r7 := ite_t r5 c6; clear r5
   refine wsr ?_
   refine ov (v_build (v := .agg #[.slice none 0 0, .slice none 0 0]) rfl (by intro w; kernel_rfl)) rfl ?_
   refine om rfl rfl ?_
   refine o_storeA (i := 0) Try.sizeOf26 rfl rfl rfl (by simp [Value.oneCell']) rfl (Nat.le_of_ble_eq_true rfl) ?_
   refine shO_L (L' := [(b3, .cells #[.slice none 0 0, .slice none 0 0] 26 (0, 0)), (b2, .cells #[.int .i64 hour, .int .i64 man] 59 (0, 0)), (b1, .cells #[.slice listens_a listens.length listens_c, .slice hours_a hours.length hours_c] 26 (0, 0))]) rfl ?_
   refine oa rfl rfl (shO_nil ?_)
   refine kW (kc kn) ?_
   refine shW_ret (inBlock_ret (andThen_ret ?_))
   refine q_res2 Try.results31 (res_cellA (cs := #[.slice none 0 0, .slice none 0 0]) Try.isAgg26 Try.sizeOf26 rfl (Has.own 0 rfl) (Nat.le_of_ble_eq_true rfl) rfl) (res_tmp rfl) (s1 sr) ?_
   obtain ⟨rfl, rfl, rfl⟩ := inj3 r7
   exact ⟨_, _, _, [], _, _, rfl, rfl, SlR.nil _ _ _ _ _, RowR.nil _ _ _⟩
 have r8 := ite_f r5 c6; clear r5
 refine wsr ?_
 refine ov (v_loadA (cs := #[.slice listens_a listens.length listens_c, .slice hours_a hours.length hours_c]) Try.isAgg26 Try.sizeOf26 rfl (Has.own 2 rfl) (Nat.le_of_ble_eq_true rfl) rfl) rfl ?_
 refine ov (v_loadA (cs := #[.int .i64 hour, .int .i64 man]) Try.isAgg59 Try.sizeOf59 rfl (Has.own 1 rfl) (Nat.le_of_ble_eq_true rfl) rfl) rfl ?_
 obtain ⟨ok, h9, r10⟩ := b1_ok r8; clear r8
 refine o_callV rfl Try.call79 rfl rfl rfl (night_Watch_place_w h_listens h_hours h9) ?_
 refine ov (v_notB rfl) rfl ?_
 refine oa rfl rfl (shO_nil ?_)
 refine shW_cond rfl (fun c11 => ?_) (fun c11 => ?_)
 · have r12 := bt r10 c11; clear r10
   refine wsr ?_
   refine ov (v_build (v := .agg #[.slice none 0 0, .slice none 0 0]) rfl (by intro w; kernel_rfl)) rfl ?_
   refine o_storeA (i := 0) Try.sizeOf26 rfl rfl rfl (by simp [Value.oneCell']) rfl (Nat.le_of_ble_eq_true rfl) ?_
   refine shO_L (L' := [(b3, .cells #[.slice none 0 0, .slice none 0 0] 26 (0, 0)), (b2, .cells #[.int .i64 hour, .int .i64 man] 59 (0, 0)), (b1, .cells #[.slice listens_a listens.length listens_c, .slice hours_a hours.length hours_c] 26 (0, 0))]) rfl ?_
   refine oa rfl rfl (shO_nil ?_)
   refine kW (kc kn) ?_
   refine shW_ret (inBlock_ret (andThen_ret ?_))
   refine q_res2 Try.results31 (res_cellA (cs := #[.slice none 0 0, .slice none 0 0]) Try.isAgg26 Try.sizeOf26 rfl (Has.own 0 rfl) (Nat.le_of_ble_eq_true rfl) rfl) (res_tmp rfl) (s1 sr) ?_
   obtain ⟨rfl, rfl, rfl⟩ := inj3 r12
   exact ⟨_, _, _, [], _, _, rfl, rfl, SlR.nil _ _ _ _ _, RowR.nil _ _ _⟩
 have r13 := bf r10 c11; clear r10
 refine wsr (om rfl rfl ?_)
 obtain ⟨ok2, h14, r15⟩ := b1_ok r13; clear r13
 refine o_callV rfl Try.call81 rfl rfl rfl (night_Mark_there_w h14) ?_
 refine ov (v_notB rfl) rfl ?_
 refine oa rfl rfl (shO_nil ?_)
 refine shW_cond rfl (fun c16 => ?_) (fun c16 => ?_)
 · have r17 := bt r15 c16; clear r15
   refine wsr ?_
   refine ov (v_build (v := .agg #[.slice none 0 0, .slice none 0 0]) rfl (by intro w; kernel_rfl)) rfl ?_
   refine o_storeA (i := 0) Try.sizeOf26 rfl rfl rfl (by simp [Value.oneCell']) rfl (Nat.le_of_ble_eq_true rfl) ?_
   refine shO_L (L' := [(b3, .cells #[.slice none 0 0, .slice none 0 0] 26 (0, 0)), (b2, .cells #[.int .i64 hour, .int .i64 man] 59 (0, 0)), (b1, .cells #[.slice listens_a listens.length listens_c, .slice hours_a hours.length hours_c] 26 (0, 0))]) rfl ?_
   refine oa rfl rfl (shO_nil ?_)
   refine kW (kc kn) ?_
   refine shW_ret (inBlock_ret (andThen_ret ?_))
   refine q_res2 Try.results31 (res_cellA (cs := #[.slice none 0 0, .slice none 0 0]) Try.isAgg26 Try.sizeOf26 rfl (Has.own 0 rfl) (Nat.le_of_ble_eq_true rfl) rfl) (res_tmp rfl) (s1 sr) ?_
   obtain ⟨rfl, rfl, rfl⟩ := inj3 r17
   exact ⟨_, _, _, [], _, _, rfl, rfl, SlR.nil _ _ _ _ _, RowR.nil _ _ _⟩
 have r18 := bf r15 c16; clear r15
 refine shW_skip (inBlock_n (id := 0) (wsr ?_))
 refine ov (v_loadA (cs := #[.slice listens_a listens.length listens_c, .slice hours_a hours.length hours_c]) Try.isAgg26 Try.sizeOf26 rfl (Has.own 2 rfl) (Nat.le_of_ble_eq_true rfl) rfl) rfl ?_
 refine ov (v_loadA (cs := #[.int .i64 hour, .int .i64 man]) Try.isAgg59 Try.sizeOf59 rfl (Has.own 1 rfl) (Nat.le_of_ble_eq_true rfl) rfl) rfl ?_
 refine om rfl rfl ?_
 obtain ⟨l, l2, h19, r20⟩ := b2_ok r18; clear r18
 refine o_call0 rfl Try.call82 rfl rfl rfl (night_Watch_with_w h_listens h_hours h19) ?_; rintro _ F21 _ hF22 hn23 ⟨a25, n29, c26, Lb27, a31, c32, rfl, rfl, hz28, h33⟩
 replace hz28 := hz28.new fun p hp => hn23 p (by simp [hp])
 refine shO_L (lp (ln rfl)) ?_
 refine kO (kf (fS fO) (kf (fS fO) (kf (fS fO) kr))) ?_
 refine o_storeA (i := 0) Try.sizeOf26 rfl rfl rfl (by simp [Value.oneCell']) rfl (Nat.le_of_ble_eq_true rfl) ?_
 refine shO_L (L' := (b3, .cells #[.slice a25 n29 c26, .slice a31 l2.length c32] 26 (0, 0)) :: ((b2, .cells #[.int .i64 hour, .int .i64 man] 59 (0, 0)) :: ((b1, .cells #[.slice listens_a listens.length listens_c, .slice hours_a hours.length hours_c] 26 (0, 0)) :: (Lb27 ++ [])))) rfl ?_
 refine oa rfl rfl (shO_nil ?_)
 refine kW (kc (kd (kd kr))) ?_
 refine shW_ret ?_
 refine q_res2 Try.results31 (res_cellA (cs := #[.slice a25 n29 c26, .slice a31 l2.length c32]) Try.isAgg26 Try.sizeOf26 rfl (Has.own 0 rfl) (Nat.le_of_ble_eq_true rfl) rfl) (res_tmp rfl) (s1 (s4 sr)) ?_
 obtain ⟨rfl, rfl, rfl⟩ := inj3 r20
 exact ⟨_, _, _, _, _, _, rfl, rfl, hz28.any, h33⟩
set_option maxHeartbeats 1000000 in
theorem oyezlaw05_NightKnown_w {numbers_a : Option Addr} {numbers_c : Nat} {numbers : List Int} {places_a : Option Addr} {places_c : Nat} {places : List Int} {F : FS} (h_numbers : RowR 1 (iE .u8) F numbers_a numbers_c numbers) (h_places : RowR 1 (iE .u8) F places_a places_c places) {r : Bool} (hr : oyezlaw05_NightKnown numbers places = some r) :
    SpecV Try.prog 6 #[.slice numbers_a numbers.length numbers_c, .slice places_a places.length places_c] F (.bool r) := by
 refine spec_of_shW (args := [.slice numbers_a numbers.length numbers_c, .slice places_a places.length places_c]) Try.func6 rfl Try.ntmps6 (Nat.le_of_ble_eq_true rfl) ?_
 intro K _ _; rw [oyezlaw05_NightKnown] at hr
 refine wsr (oa rfl rfl (nsr (om rfl rfl ?_)))
 obtain ⟨metal, at_, turn, h1, r2⟩ := b3_ok hr; clear hr
 refine o_call0 rfl Try.call13 rfl rfl rfl (oyezkit_Hang_w h_numbers h1) ?_; rintro _ F3 _ hF4 hn5 ⟨b7, a8, c9, rfl, rfl, h10⟩
 replace h_places := h_places.mono (iE_ok _) hF4
 refine shO_L (lb (ln rfl)) ?_
 obtain ⟨l, l2, l3, at_2, turn2, h11, r12⟩ := b5_ok r2; clear r2
 refine o_callG (Lb := [(b7, .cells #[.slice a8 metal.length c9, .int .i64 at_, .int .u32 turn] 104 (0, 0))]) (Lr := []) rfl Try.call12 rfl rfl rfl (pR) (oyezlaw05_Made_w h10 h11) ?_; rintro _ F13 _ hF14 hd16 hn15 ⟨a17, n21, c18, Lb19, a23, n27, c24, Lb25, a29, n33, c30, Lb31, rfl, rfl, hz20, hz26, hz32⟩
 replace h_places := h_places.mono (iE_ok _) hF14
 have hn35 := newp (Lb' := [(b7, .cells #[.slice a8 metal.length c9, .int .i64 at_2, .int .u32 turn2] 104 (0, 0))]) (by rfl) hd16 hn15
 replace hz20 := hz20.new fun p hp => hn35 p (by simp [hp])
 replace hz26 := hz26.new fun p hp => hn35 p (by simp [hp])
 refine shO_L (lb (lp (lp (lp (ln rfl))))) ?_
 refine om rfl rfl (ox rfl rfl rfl (ox rfl rfl rfl ?_))
 refine o_alloc rfl Try.zeroValue26 ?_; intro b36 hb36
 refine o_storeA (i := 0) Try.sizeOf26 rfl rfl rfl (by simp [Value.oneCell']) rfl (Nat.le_of_ble_eq_true rfl) ?_
 refine shO_L (L' := (b36, .cells #[.slice a17 n21 c18, .slice a23 n27 c24] 26 (0, 0)) :: ((b7, .cells #[.slice a8 metal.length c9, .int .i64 at_2, .int .u32 turn2] 104 (0, 0)) :: (Lb19 ++ (Lb25 ++ (Lb31 ++ []))))) rfl ?_
 refine oa rfl rfl (nsr (om rfl rfl ?_))
 obtain ⟨metal2, at_3, turn3, h37, r38⟩ := b3_ok r12; clear r12
 refine o_call0 rfl Try.call13 rfl rfl rfl (oyezkit_Hang_w h_places h37) ?_; rintro _ F39 _ hF40 hn41 ⟨b43, a44, c45, rfl, rfl, h46⟩
 replace hz20 := hz20.mono (slE_ok (iE_ok _)) hF40
 replace hz26 := hz26.mono (slE_ok (iE_ok _)) hF40
 refine shO_L (lb (ln rfl)) ?_
 refine oa rfl rfl (nsr ?_)
 refine ov (v_loadA (cs := #[.slice a17 n21 c18, .slice a23 n27 c24]) Try.isAgg26 Try.sizeOf26 rfl (Has.own 1 rfl) (Nat.le_of_ble_eq_true rfl) rfl) rfl ?_
 obtain ⟨n, n2, h47, r48⟩ := b2_ok r38; clear r38
 refine o_callT (Lt := Lb19 ++ (Lb25 ++ [])) (Lr := (b43, .cells #[.slice a44 metal2.length c45, .int .i64 at_3, .int .u32 turn3] 104 (0, 0)) :: ((b36, .cells #[.slice a17 n21 c18, .slice a23 n27 c24] 26 (0, 0)) :: ((b7, .cells #[.slice a8 metal.length c9, .int .i64 at_2, .int .u32 turn2] 104 (0, 0)) :: (Lb31 ++ [])))) rfl Try.call25 rfl rfl rfl (pT ((fC (fC (fC fP))).trans (pA ((fC (fC (fC fP))).trans (pA pR)))) (lp (lp (ln rfl)))) (fun F2 h2 h3 => by rw [(SlR.caps hz20).1]; rw [(SlR.caps hz26).1]; exact night_Count_w (hz20.row (slE_ok (iE_ok _)) h2 (fun p hp => h3 p (List.mem_append_left _ hp))) (hz26.row (slE_ok (iE_ok _)) h2 (fun p hp => h3 p (List.mem_append_right _ (List.mem_append_left _ hp)))) h47) ?_
 refine om rfl rfl (ox rfl rfl rfl (ox rfl rfl rfl (oa rfl rfl (oa rfl rfl (nsr ?_)))))
 refine ov (v_loadA (cs := #[.slice a17 n21 c18, .slice a23 n27 c24]) Try.isAgg26 Try.sizeOf26 rfl (Has.own 1 rfl) (Nat.le_of_ble_eq_true rfl) rfl) rfl ?_
 obtain ⟨n3, n4, n5, n6, h49, r50⟩ := b4_ok r48; clear r48
 refine o_callT (Lt := Lb19 ++ (Lb25 ++ [])) (Lr := (b43, .cells #[.slice a44 metal2.length c45, .int .i64 at_3, .int .u32 turn3] 104 (0, 0)) :: ((b36, .cells #[.slice a17 n21 c18, .slice a23 n27 c24] 26 (0, 0)) :: ((b7, .cells #[.slice a8 metal.length c9, .int .i64 at_2, .int .u32 turn2] 104 (0, 0)) :: (Lb31 ++ [])))) rfl Try.call29 rfl rfl rfl (pT ((fC (fC (fC fP))).trans (pA ((fC (fC (fC fP))).trans (pA pR)))) (lp (lp (ln rfl)))) (fun F2 h2 h3 => by rw [(SlR.caps hz20).1]; rw [(SlR.caps hz26).1]; exact night_Ask_w (hz20.row (slE_ok (iE_ok _)) h2 (fun p hp => h3 p (List.mem_append_left _ hp))) (hz26.row (slE_ok (iE_ok _)) h2 (fun p hp => h3 p (List.mem_append_right _ (List.mem_append_left _ hp)))) h49) ?_
 refine om rfl rfl (ox rfl rfl rfl (ox rfl rfl rfl (ox rfl rfl rfl ?_)))
 refine o_alloc rfl Try.zeroValue59 ?_; intro b51 hb51
 refine o_storeA (i := 0) Try.sizeOf59 rfl rfl rfl (by simp [Value.oneCell']) rfl (Nat.le_of_ble_eq_true rfl) ?_
 refine shO_L (L' := (b51, .cells #[.int .i64 n3, .int .i64 n4] 59 (0, 0)) :: ((b43, .cells #[.slice a44 metal2.length c45, .int .i64 at_3, .int .u32 turn3] 104 (0, 0)) :: ((b36, .cells #[.slice a17 n21 c18, .slice a23 n27 c24] 26 (0, 0)) :: ((b7, .cells #[.slice a8 metal.length c9, .int .i64 at_2, .int .u32 turn2] 104 (0, 0)) :: (Lb19 ++ (Lb25 ++ (Lb31 ++ []))))))) rfl ?_
 refine oa rfl rfl (oa rfl rfl (nsr ?_))
 refine ov (v_loadA (cs := #[.slice a17 n21 c18, .slice a23 n27 c24]) Try.isAgg26 Try.sizeOf26 rfl (Has.own 2 rfl) (Nat.le_of_ble_eq_true rfl) rfl) rfl ?_
 obtain ⟨l4, n7, n8, h52, r53⟩ := b3_ok r50; clear r50
 refine o_callTO (Lb := []) (Lt := Lb19 ++ (Lb25 ++ [])) (Lr := (b51, .cells #[.int .i64 n3, .int .i64 n4] 59 (0, 0)) :: ((b43, .cells #[.slice a44 metal2.length c45, .int .i64 at_3, .int .u32 turn3] 104 (0, 0)) :: ((b36, .cells #[.slice a17 n21 c18, .slice a23 n27 c24] 26 (0, 0)) :: ((b7, .cells #[.slice a8 metal.length c9, .int .i64 at_2, .int .u32 turn2] 104 (0, 0)) :: (Lb31 ++ []))))) rfl Try.call14 rfl rfl rfl (pT ((fC (fC (fC (fC fP)))).trans (pA ((fC (fC (fC (fC fP)))).trans (pA pR)))) (ln (lp (lp (ln rfl))))) (fun F2 h2 h3 => by rw [(SlR.caps hz20).1]; rw [(SlR.caps hz26).1]; exact night_Fewest_w (hz20.row (slE_ok (iE_ok _)) h2 (fun p hp => h3 p (List.mem_append_left _ hp))) (hz26.row (slE_ok (iE_ok _)) h2 (fun p hp => h3 p (List.mem_append_right _ (List.mem_append_left _ hp)))) h52) (fun _ _ _ _ hq => by obtain ⟨a58, n62, c59, Lb60, rfl, rfl, hz61⟩ := hq; exact ⟨_, _, _, _, rfl, rfl, hz61.flat (fun _ _ h => h)⟩) ?_; rintro _ F54 _ hF55 hd57 hn56 ⟨a58, n62, c59, Lb60, rfl, rfl, hz61⟩
 replace h46 := h46.mono (iE_ok _) hF55
 replace hz20 := hz20.mono (slE_ok (iE_ok _)) hF55
 replace hz26 := hz26.mono (slE_ok (iE_ok _)) hF55
 refine shO_L (lp (ln (lp (lp (ln rfl))))) ?_
 refine kO (kf (fS (fS (fS fO))) (kf (fS (fS (fS fO))) (kf (fS (fS (fS fO))) (kf (fS (fS (fS fO))) kr)))) ?_
 refine om rfl rfl (ox rfl rfl rfl (ox rfl rfl rfl (ox rfl rfl rfl (oa rfl rfl (oa rfl rfl (oa rfl rfl (shO_nil (shW_seq ?_))))))))
 obtain ⟨k, h65, r66⟩ := b1_ok r53; clear r53
 refine shW_join (fun e1 F1 L1 => F54 = F1 ∧ L1 = ((b51, .cells #[.int .i64 n3, .int .i64 n4] 59 (0, 0)) :: ((b43, .cells #[.slice a44 metal2.length c45, .int .i64 at_3, .int .u32 turn3] 104 (0, 0)) :: ((b36, .cells #[.slice a17 n21 c18, .slice a23 n27 c24] 26 (0, 0)) :: (Lb19 ++ (Lb25 ++ []))))) ∧ e1.sub [(5, .pointer (some ⟨b36, 0, none⟩)), (7, .pointer (some ⟨b43, 0, none⟩)), (8, .int .i64 n), (10, .pointer (some ⟨b51, 0, none⟩)), (11, .int .i64 n5), (12, .int .i64 n6), (14, .int .i64 n7), (68, .bool k)]) ?_ ?_
 · clear r66
   refine shW_region (om rfl rfl ?_)
   refine ov (v_neq rfl rfl) rfl ?_
   refine om rfl rfl ?_
   by_cases c67 : n2 ≠ 0
   · have r68 := ite_t h65 c67; clear h65
     refine shO_off (b' := true) 57 rfl (Env.isT rfl c67) rfl rfl (shO_off (b' := true) 57 rfl (Env.isT rfl c67) rfl rfl ?_)
     refine ov (v_pick_t (evD_true rfl c67) rfl) rfl ?_
     refine om rfl rfl (shO_off (b' := true) 61 rfl rfl rfl rfl (shO_off (b' := true) 61 rfl rfl rfl rfl (shO_off (b' := true) 61 rfl rfl rfl rfl (shO_offU 64 rfl rfl rfl (shO_offU 64 rfl rfl rfl (shO_off (b' := true) 61 rfl rfl rfl rfl ?_))))))
     refine ov (v_pick_t rfl rfl) rfl ?_
     refine shO_nil ?_
     obtain rfl := inj1 r68
     exact mi (kc (kc (kc (kd (kx (ka (ka kn))))))) ⟨rfl, rfl, (sc rfl (sc rfl (sc rfl (sc rfl (sc rfl (sc rfl (sc rfl (sc rfl (sn _)))))))))⟩
   have r69 := ite_f h65 c67; clear h65
   refine shO_on (b := false) 57 rfl (Env.isF rfl c67) (om rfl rfl (shO_on (b := false) 57 rfl (Env.isF rfl c67) ?_))
   refine ov (v_neq rfl rfl) rfl ?_
   refine ov (v_pick_f (evD_false rfl c67) rfl) rfl ?_
   refine om rfl rfl ?_
   by_cases c70 : n8 ≠ 0
   · have r71 := ite_t r69 c70; clear r69
     refine shO_off (b' := true) 61 rfl (Env.isT rfl c70) rfl rfl (shO_off (b' := true) 61 rfl (Env.isT rfl c70) rfl rfl (shO_off (b' := true) 61 rfl (Env.isT rfl c70) rfl rfl (shO_offU 64 rfl rfl rfl (shO_offU 64 rfl rfl rfl (shO_off (b' := true) 61 rfl (Env.isT rfl c70) rfl rfl ?_)))))
     refine ov (v_pick_t (evD_true rfl c70) rfl) rfl ?_
     refine shO_nil ?_
     obtain rfl := inj1 r71
     exact mi (kc (kc (kc (kd (kx (ka (ka kn))))))) ⟨rfl, rfl, (sc rfl (sc rfl (sc rfl (sc rfl (sc rfl (sc rfl (sc rfl (sc rfl (sn _)))))))))⟩
   have r72 := ite_f r69 c70; clear r69
   refine shO_on (b := false) 61 rfl (Env.isF rfl c70) (om rfl rfl (shO_on (b := false) 61 rfl (Env.isF rfl c70) ?_))
   refine ov (v_neq rfl rfl) rfl ?_
   refine shO_on (b := false) 61 rfl (Env.isF rfl c70) (om rfl rfl ?_)
   by_cases c73 : n6 ≠ 0
   · have r74 := ite_t r72 c73; clear r72
     refine shO_on (b := true) 64 rfl (Env.isT rfl c73) (om rfl rfl (shO_on (b := true) 64 rfl (Env.isT rfl c73) ?_))
     refine ov (v_neq rfl rfl) rfl ?_
     refine shO_on (b := false) 61 rfl (Env.isF rfl c70) ?_
     refine ov (v_pick_t (evD_true rfl c73) rfl) rfl ?_
     refine ov (v_pick_f (evD_false rfl c70) rfl) rfl ?_
     refine shO_nil ?_
     obtain rfl := inj1 r74
     exact mi (kc (kc (kc (kd (kx (ka (ka kn))))))) ⟨rfl, rfl, (sc rfl (sc rfl (sc rfl (sc rfl (sc rfl (sc rfl (sc rfl (sc rfl (sn _)))))))))⟩
   have r75 := ite_f r72 c73; clear r72
   refine shO_off (b' := false) 64 rfl (Env.isF rfl c73) rfl rfl (shO_off (b' := false) 64 rfl (Env.isF rfl c73) rfl rfl (shO_on (b := false) 61 rfl (Env.isF rfl c70) ?_))
   refine ov (v_pick_f (evD_false rfl c73) rfl) rfl ?_
   refine ov (v_pick_f (evD_false rfl c70) rfl) rfl ?_
   refine shO_nil ?_
   obtain rfl := inj1 r75
   exact mi (kc (kc (kc (kd (kx (ka (ka kn))))))) ⟨rfl, rfl, (sc rfl (sc rfl (sc rfl (sc rfl (sc rfl (sc rfl (sc rfl (sc rfl (sn _)))))))))⟩
 rintro e1 _ _ ⟨rfl, rfl, he76⟩
 refine shW_env _ he76 ?_; clear he76
 refine shW_cond rfl (fun c77 => ?_) (fun c77 => ?_)
 · have r78 := bt r66 c77; clear r66
   refine wsr (oa rfl rfl (shO_nil ?_))
   refine kW kn ?_
   refine shW_ret (andThen_ret ?_)
   refine q_res1 Try.results6 (res_tmp rfl) (sr) ?_
   obtain rfl := inj1 r78
   exact rfl
 have r79 := bf r66 c77; clear r66
 refine shW_skip ?_
 refine shW_join (fun e1 F1 L1 => oyezlaw05_NightKnown_j1 = some r ∧ FExt F54 F1 ∧ L1 = [] ∧ e1.sub []) ?_ ?_
 · refine wsr (om rfl rfl (shO_nil ?_))
   refine shW_block ?_
   obtain rfl := (SlR.caps hz20).1
   refine shW_freezeR (Nat.le_refl _) (slE_ok (iE_ok _)) (fC (fC (fC fP))) hz20 ?_; intro F80 hF81 h82
   replace h46 := h46.mono (iE_ok _) hF81
   replace hz26 := hz26.mono (slE_ok (iE_ok _)) hF81
   obtain rfl := (SlR.caps hz26).1
   refine shW_freezeR (Nat.le_refl _) (slE_ok (iE_ok _)) (fC (fC (fC fP))) hz26 ?_; intro F83 hF84 h85
   replace h46 := h46.mono (iE_ok _) hF84
   replace h82 := h82.mono (slE_ok (iE_ok _)) hF84
   obtain ⟨g86, r87⟩ := gd_ok r79; clear r79
   refine shW_lpF (fun fu2 e1 F1 L1 => ∃ (k2 : Int), Ctr 0 6 k2 fu2 ∧ ∃ (q_at : Int) (q_turn : Int), oyezlaw05_NightKnown_l2 l l2 metal2 n n3 n4 n5 n6 n7 fu2 k2 q_at q_turn = some r ∧ FExt F83 F1 ∧ L1 = [(b51, .cells #[.int .i64 n3, .int .i64 n4] 59 (0, 0)), (b43, .cells #[.slice a44 metal2.length c45, .int .i64 q_at, .int .u32 q_turn] 104 (0, 0)), (b36, .cells #[.slice a17 l.length c18, .slice a23 l2.length c24] 26 (0, 0))] ∧ e1.sub [(5, .pointer (some ⟨b36, 0, none⟩)), (7, .pointer (some ⟨b43, 0, none⟩)), (8, .int .i64 n), (10, .pointer (some ⟨b51, 0, none⟩)), (11, .int .i64 n5), (12, .int .i64 n6), (14, .int .i64 n7), (69, .int .i64 k2)]) _ (m0 kr ⟨_, Ctr.start _ _, at_3, turn3, r87, FExt.refl _, rfl, (sc rfl (sc rfl (sc rfl (sc rfl (sc rfl (sc rfl (sc rfl (sc rfl (sn _)))))))))⟩) ?_
   rintro fu2 e1 F92 _ ⟨k2, hk88, q_at, q_turn, r90, hF93, rfl, he91⟩
   refine shW_env _ he91 ?_; clear he91
   replace h46 := h46.mono (iE_ok _) hF93
   replace h82 := h82.mono (slE_ok (iE_ok _)) hF93
   replace h85 := h85.mono (slE_ok (iE_ok _)) hF93
   refine wsr ?_
   refine ov (v_lssK rfl rfl) rfl ?_
   refine shO_nil (shW_seq ?_)
   refine shW_condP rfl (fun c95 => ?_) (fun c95 => ?_)
   · obtain ⟨fu2, rfl, hk96⟩ := Ctr.succ hk88 c95
     rw [oyezlaw05_NightKnown_l2] at r90
     refine shW_skip ?_
     refine shW_join (fun e1 F1 L1 => ∃ (q_at2 : Int) (q_turn2 : Int), oyezlaw05_NightKnown_j3 k2 (oyezlaw05_NightKnown_l2 l l2 metal2 n n3 n4 n5 n6 n7 fu2) q_at2 q_turn2 = some r ∧ FExt F92 F1 ∧ L1 = [(b43, .cells #[.slice a44 metal2.length c45, .int .i64 q_at2, .int .u32 q_turn2] 104 (0, 0)), (b51, .cells #[.int .i64 n3, .int .i64 n4] 59 (0, 0)), (b36, .cells #[.slice a17 l.length c18, .slice a23 l2.length c24] 26 (0, 0))] ∧ e1.sub [(5, .pointer (some ⟨b36, 0, none⟩)), (7, .pointer (some ⟨b43, 0, none⟩)), (8, .int .i64 n), (10, .pointer (some ⟨b51, 0, none⟩)), (11, .int .i64 n5), (12, .int .i64 n6), (14, .int .i64 n7), (69, .int .i64 k2)]) ?_ ?_
     · refine shW_block ?_
       refine wsr (om rfl rfl (oa rfl rfl (nsr ?_)))
       refine ov (v_loadA (cs := #[.int .i64 n3, .int .i64 n4]) Try.isAgg59 Try.sizeOf59 rfl (Has.own 0 rfl) (Nat.le_of_ble_eq_true rfl) rfl) rfl ?_
       refine o_alloc rfl Try.zeroValue59 ?_; intro b97 hb97
       refine o_storeA (i := 0) Try.sizeOf59 rfl rfl rfl (by simp [Value.oneCell']) rfl (Nat.le_of_ble_eq_true rfl) ?_
       refine shO_L (L' := [(b97, .cells #[.int .i64 n3, .int .i64 n4] 59 (0, 0)), (b51, .cells #[.int .i64 n3, .int .i64 n4] 59 (0, 0)), (b43, .cells #[.slice a44 metal2.length c45, .int .i64 q_at, .int .u32 q_turn] 104 (0, 0)), (b36, .cells #[.slice a17 l.length c18, .slice a23 l2.length c24] 26 (0, 0))]) rfl ?_
       refine shO_nil ?_
       obtain ⟨q_at3, q_turn3, p_hour, p_man, h98, r99⟩ := b4_ok r90; clear r90
       refine shW_join (fun e1 F1 L1 => FExt F92 F1 ∧ L1 = [(b43, .cells #[.slice a44 metal2.length c45, .int .i64 q_at3, .int .u32 q_turn3] 104 (0, 0)), (b97, .cells #[.int .i64 p_hour, .int .i64 p_man] 59 (0, 0)), (b51, .cells #[.int .i64 n3, .int .i64 n4] 59 (0, 0)), (b36, .cells #[.slice a17 l.length c18, .slice a23 l2.length c24] 26 (0, 0))] ∧ e1.sub [(5, .pointer (some ⟨b36, 0, none⟩)), (7, .pointer (some ⟨b43, 0, none⟩)), (8, .int .i64 n), (10, .pointer (some ⟨b51, 0, none⟩)), (11, .int .i64 n5), (12, .int .i64 n6), (14, .int .i64 n7), (17, .pointer (some ⟨b97, 0, none⟩)), (69, .int .i64 k2)]) ?_ ?_
       · clear r99
         obtain ⟨k3, h100, r101⟩ := b1_ok h98; clear h98
         refine shW_join (fun e1 F1 L1 => F92 = F1 ∧ L1 = [(b97, .cells #[.int .i64 n3, .int .i64 n4] 59 (0, 0)), (b51, .cells #[.int .i64 n3, .int .i64 n4] 59 (0, 0)), (b43, .cells #[.slice a44 metal2.length c45, .int .i64 q_at, .int .u32 q_turn] 104 (0, 0)), (b36, .cells #[.slice a17 l.length c18, .slice a23 l2.length c24] 26 (0, 0))] ∧ e1.sub [(5, .pointer (some ⟨b36, 0, none⟩)), (7, .pointer (some ⟨b43, 0, none⟩)), (8, .int .i64 n), (10, .pointer (some ⟨b51, 0, none⟩)), (11, .int .i64 n5), (12, .int .i64 n6), (14, .int .i64 n7), (17, .pointer (some ⟨b97, 0, none⟩)), (69, .int .i64 k2), (78, .bool k3)]) ?_ ?_
         · clear r101
           refine shW_region (om rfl rfl ?_)
           refine ov (v_gtrK rfl rfl) rfl ?_
           refine om rfl rfl ?_
           by_cases c102 : 0 < k2
           · have r103 := ite_t h100 c102; clear h100
             refine shO_off (b' := true) 75 rfl (Env.isT rfl c102) rfl rfl (shO_off (b' := true) 75 rfl (Env.isT rfl c102) rfl rfl ?_)
             refine ov (v_pick_t (evD_true rfl c102) rfl) rfl ?_
             refine shO_nil ?_
             obtain rfl := inj1 r103
             exact mi kr ⟨rfl, rfl, (sc rfl (sc rfl (sc rfl (sc rfl (sc rfl (sc rfl (sc rfl (sc rfl (sc rfl (sc rfl (sn _)))))))))))⟩
           have r104 := ite_f h100 c102; clear h100
           refine shO_on (b := false) 75 rfl (Env.isF rfl c102) (om rfl rfl (shO_on (b := false) 75 rfl (Env.isF rfl c102) ?_))
           refine ov (v_neq rfl rfl) rfl ?_
           refine ov (v_pick_f (evD_false rfl c102) rfl) rfl ?_
           refine shO_nil ?_
           obtain rfl := inj1 r104
           exact mi kr ⟨rfl, rfl, (sc rfl (sc rfl (sc rfl (sc rfl (sc rfl (sc rfl (sc rfl (sc rfl (sc rfl (sc rfl (sn _)))))))))))⟩
         rintro e1 _ _ ⟨rfl, rfl, he105⟩
         refine shW_env _ he105 ?_; clear he105
         refine shW_cond rfl (fun c106 => ?_) (fun c106 => ?_)
         · have r107 := bt r101 c106; clear r101
           refine shW_drawM [(.still, 0), (.still, 1), (.still, 2), (.still, 3), (.still, 4), (.still, 6), (.still, 7), (.still, 8), (.still, 9), (.still, 10), (.seq, 5), (.seq, 11), (.still, 12), (.seq, 13)] (by kernel_rfl) (by kernel_rfl) (trivial) (by rfl) (by kernel_rfl) ?_
           refine shM_v (v := .pointer (some ⟨b43, 0, none⟩)) (ek := [(7, .pointer (some ⟨b43, 0, none⟩))]) (Ls := []) rfl rfl rfl rfl ((sc rfl (sn _))) (by kernel_rfl) sm (fun H F' L' hF' hL' => v_move rfl) ?_
           refine shM_v (v := .pointer (some ⟨b36, 1, none⟩)) (ek := [(5, .pointer (some ⟨b36, 0, none⟩))]) (Ls := []) rfl rfl rfl rfl ((sc rfl (sn _))) (by kernel_rfl) sm (fun H F' L' hF' hL' => v_fieldAddr fa_26_1 rfl) ?_
           refine shM_v (v := .slice a23 l2.length c24) (ek := [(80, .pointer (some ⟨b36, 1, none⟩))]) (Ls := [(b36, .cells #[.slice a17 l.length c18, .slice a23 l2.length c24] 26 (0, 0))]) rfl rfl rfl rfl ((sc rfl (sn _))) (by kernel_rfl) (s0 (s1 (s1 (s1 (s2 sr))))) (fun H F' L' hF' hL' => v_load Try.isAgg24 rfl ((Has.own 0 rfl).ext hF' hL') rfl) ?_
           refine shM_v (v := .int .i64 (l2.length : Int)) (ek := [(81, .slice a23 l2.length c24)]) (Ls := []) rfl rfl rfl rfl ((sc rfl (sn _))) (by kernel_rfl) sm (fun H F' L' hF' hL' => v_lenS Try.underlying24 rfl) ?_
           obtain ⟨g108, r109⟩ := gd_ok r107; clear r107
           refine shM_v (v := .int .i64 ((l2.length : Int) - 1)) (ek := [(82, .int .i64 (l2.length : Int))]) (Ls := []) rfl rfl rfl rfl ((sc rfl (sn _))) (by kernel_rfl) sm (fun H F' L' hF' hL' => v_sub rfl rfl g108) ?_
           refine shM_v (v := .pointer (some ⟨b43, 0, none⟩)) (ek := [(7, .pointer (some ⟨b43, 0, none⟩))]) (Ls := []) rfl rfl rfl rfl ((sc rfl (sn _))) (by kernel_rfl) sm (fun H F' L' hF' hL' => v_move rfl) ?_
           refine shM_v (v := .pointer (some ⟨b36, 0, none⟩)) (ek := [(5, .pointer (some ⟨b36, 0, none⟩))]) (Ls := []) rfl rfl rfl rfl ((sc rfl (sn _))) (by kernel_rfl) sm (fun H F' L' hF' hL' => v_fieldAddr fa_26_0 rfl) ?_
           refine shM_v (v := .slice a17 l.length c18) (ek := [(86, .pointer (some ⟨b36, 0, none⟩))]) (Ls := [(b36, .cells #[.slice a17 l.length c18, .slice a23 l2.length c24] 26 (0, 0))]) rfl rfl rfl rfl ((sc rfl (sn _))) (by kernel_rfl) (s0 (s1 (s1 (s1 (s2 sr))))) (fun H F' L' hF' hL' => v_load Try.isAgg23 rfl ((Has.own 0 rfl).ext hF' hL') rfl) ?_
           refine shM_v (v := .int .i64 (l.length : Int)) (ek := [(87, .slice a17 l.length c18)]) (Ls := []) rfl rfl rfl rfl ((sc rfl (sn _))) (by kernel_rfl) sm (fun H F' L' hF' hL' => v_lenS Try.underlying23 rfl) ?_
           obtain ⟨g110, r111⟩ := gd_ok r109; clear r109
           refine shM_v (v := .int .i64 ((l.length : Int) - 1)) (ek := [(88, .int .i64 (l.length : Int))]) (Ls := []) rfl rfl rfl rfl ((sc rfl (sn _))) (by kernel_rfl) sm (fun H F' L' hF' hL' => v_sub rfl rfl g110) ?_
           refine ⟨_, [(79, .pointer (some ⟨b43, 0, none⟩)), (83, .int .i64 ((l2.length : Int) - 1))], rfl, rfl, (sc rfl (sc rfl (sn _))), by kernel_rfl, ?_⟩; intro H
           obtain ⟨n9, at_4, turn4, h112, r113⟩ := b3_ok r111; clear r111
           refine o_callG (Lb := [(b43, .cells #[.slice a44 metal2.length c45, .int .i64 q_at, .int .u32 q_turn] 104 (0, 0))]) (Lr := [(b97, .cells #[.int .i64 n3, .int .i64 n4] 59 (0, 0)), (b51, .cells #[.int .i64 n3, .int .i64 n4] 59 (0, 0)), (b36, .cells #[.slice a17 l.length c18, .slice a23 l2.length c24] 26 (0, 0))]) rfl Try.call19 rfl rfl rfl (((fC (fC fO)).trans (pC pR))) (oyezkit_Bell_Stroke_w h46 h112) ?_; rintro _ F114 _ hF115 hd117 hn116 ⟨rfl, rfl⟩
           replace h46 := h46.mono (iE_ok _) hF115
           refine shO_L (lb (ln rfl)) ?_
           refine shO_nil ⟨_, rfl, hF115, [10, 9, 8, 7, 6], by kernel_rfl, .inl (.inr (fun d h => by cases h; rfl)), (List.forall_mem_cons.2 ⟨sm, (List.forall_mem_cons.2 ⟨sm, (List.forall_mem_cons.2 ⟨s0 (s1 (s1 (s1 (s2 sr)))), (List.forall_mem_cons.2 ⟨sm, (List.forall_mem_cons.2 ⟨sm, (fun _ h => absurd h List.not_mem_nil)⟩)⟩)⟩)⟩)⟩), ?_⟩
           refine ⟨_, [(85, .pointer (some ⟨b43, 0, none⟩)), (89, .int .i64 ((l.length : Int) - 1))], rfl, rfl, (sc rfl (sc rfl (sn _))), by kernel_rfl, ?_⟩; intro H
           obtain ⟨n10, at_5, turn5, h118, r119⟩ := b3_ok r113; clear r113
           refine o_callG (Lb := [(b43, .cells #[.slice a44 metal2.length c45, .int .i64 at_4, .int .u32 turn4] 104 (0, 0))]) (Lr := [(b97, .cells #[.int .i64 n3, .int .i64 n4] 59 (0, 0)), (b51, .cells #[.int .i64 n3, .int .i64 n4] 59 (0, 0)), (b36, .cells #[.slice a17 l.length c18, .slice a23 l2.length c24] 26 (0, 0))]) rfl Try.call19 rfl rfl rfl (pR) (oyezkit_Bell_Stroke_w h46 h118) ?_; rintro _ F120 _ hF121 hd123 hn122 ⟨rfl, rfl⟩
           refine shO_L (lb (ln rfl)) ?_
           refine shO_nil ⟨_, rfl, hF121, [], by kernel_rfl, .inl (.inl rfl), (fun _ h => absurd h List.not_mem_nil), ?_⟩
           refine shM_v (v := .agg #[.int .i64 n9, .int .i64 n10]) (ek := [(84, .int .i64 n9), (90, .int .i64 n10)]) (Ls := []) rfl rfl rfl rfl ((sc rfl (sc rfl (sn _)))) (by kernel_rfl) sm (fun H F' L' hF' hL' => v_build (v := .agg #[.int .i64 n9, .int .i64 n10]) rfl (by intro w; kernel_rfl)) ?_
           refine ⟨_, [(17, .pointer (some ⟨b97, 0, none⟩)), (91, .agg #[.int .i64 n9, .int .i64 n10])], rfl, rfl, (sc rfl (sc rfl (sn _))), by kernel_rfl, ?_⟩; intro H
           refine o_storeA (i := 1) Try.sizeOf59 rfl rfl rfl (by simp [Value.oneCell']) rfl (Nat.le_of_ble_eq_true rfl) ?_
           refine shO_L (L' := [(b43, .cells #[.slice a44 metal2.length c45, .int .i64 at_5, .int .u32 turn5] 104 (0, 0)), (b97, .cells #[.int .i64 n9, .int .i64 n10] 59 (0, 0)), (b51, .cells #[.int .i64 n3, .int .i64 n4] 59 (0, 0)), (b36, .cells #[.slice a17 l.length c18, .slice a23 l2.length c24] 26 (0, 0))]) rfl ?_
           refine shO_nil ⟨undef, rfl, FExt.refl _, [], by kernel_rfl, .inl (.inl rfl), (fun _ h => absurd h List.not_mem_nil), ?_⟩
           refine shM_nil ?_
           obtain ⟨rfl, rfl, rfl, rfl⟩ := inj4 r119
           exact mi kr ⟨(hF115.trans hF121), rfl, (sc rfl (sc rfl (sc rfl (sc rfl (sc rfl (sc rfl (sc rfl (sc rfl (sc rfl (sn _))))))))))⟩
         have r124 := bf r101 c106; clear r101
         refine shW_skip ?_
         obtain ⟨rfl, rfl, rfl, rfl⟩ := inj4 r124
         exact mi (kf (fC (fC fO)) kr) ⟨FExt.refl _, rfl, (sc rfl (sc rfl (sc rfl (sc rfl (sc rfl (sc rfl (sc rfl (sc rfl (sc rfl (sn _))))))))))⟩
       rintro e1 F126 _ ⟨hF127, rfl, he125⟩
       refine shW_env _ he125 ?_; clear he125
       replace h82 := h82.mono (slE_ok (iE_ok _)) hF127
       replace h85 := h85.mono (slE_ok (iE_ok _)) hF127
       refine shW_seq ?_
       obtain ⟨k4, h128, r129⟩ := b1_ok r99; clear r99
       refine shW_join (fun e1 F1 L1 => F126 = F1 ∧ L1 = [(b43, .cells #[.slice a44 metal2.length c45, .int .i64 q_at3, .int .u32 q_turn3] 104 (0, 0)), (b97, .cells #[.int .i64 p_hour, .int .i64 p_man] 59 (0, 0)), (b51, .cells #[.int .i64 n3, .int .i64 n4] 59 (0, 0)), (b36, .cells #[.slice a17 l.length c18, .slice a23 l2.length c24] 26 (0, 0))] ∧ e1.sub [(5, .pointer (some ⟨b36, 0, none⟩)), (7, .pointer (some ⟨b43, 0, none⟩)), (8, .int .i64 n), (10, .pointer (some ⟨b51, 0, none⟩)), (11, .int .i64 n5), (12, .int .i64 n6), (14, .int .i64 n7), (17, .pointer (some ⟨b97, 0, none⟩)), (69, .int .i64 k2), (115, .bool k4)]) ?_ ?_
       · clear r129
         refine shW_region ?_
         refine ov (v_fieldAddr fa_59_0 rfl) rfl ?_
         refine ov (v_load Try.isAgg3 rfl (Has.own 1 rfl) rfl) rfl ?_
         refine ov (v_lssK rfl rfl) rfl ?_
         refine om rfl rfl ?_
         by_cases c130 : p_hour < 0
         · have r131 := ite_t h128 c130; clear h128
           refine shO_off (b' := true) 95 rfl (Env.isT rfl c130) rfl rfl (shO_off (b' := true) 95 rfl (Env.isT rfl c130) rfl rfl (shO_off (b' := true) 95 rfl (Env.isT rfl c130) rfl rfl (shO_off (b' := true) 95 rfl (Env.isT rfl c130) rfl rfl (shO_off (b' := true) 95 rfl (Env.isT rfl c130) rfl rfl (shO_off (b' := true) 95 rfl (Env.isT rfl c130) rfl rfl ?_)))))
           refine ov (v_pick_t (evD_true rfl c130) rfl) rfl ?_
           refine om rfl rfl (shO_off (b' := true) 103 rfl rfl rfl rfl (shO_off (b' := true) 103 rfl rfl rfl rfl (shO_off (b' := true) 103 rfl rfl rfl rfl ?_)))
           refine ov (v_pick_t rfl rfl) rfl ?_
           refine om rfl rfl (shO_off (b' := true) 108 rfl rfl rfl rfl (shO_off (b' := true) 108 rfl rfl rfl rfl (shO_off (b' := true) 108 rfl rfl rfl rfl (shO_off (b' := true) 108 rfl rfl rfl rfl (shO_off (b' := true) 108 rfl rfl rfl rfl (shO_off (b' := true) 108 rfl rfl rfl rfl ?_))))))
           refine ov (v_pick_t rfl rfl) rfl ?_
           refine shO_nil ?_
           obtain rfl := inj1 r131
           exact mi kr ⟨rfl, rfl, (sc rfl (sc rfl (sc rfl (sc rfl (sc rfl (sc rfl (sc rfl (sc rfl (sc rfl (sc rfl (sn _)))))))))))⟩
         have r132 := ite_f h128 c130; clear h128
         refine shO_on (b := false) 95 rfl (Env.isF rfl c130) ?_
         refine ov (v_fieldAddr fa_59_0 rfl) rfl ?_
         refine shO_on (b := false) 95 rfl (Env.isF rfl c130) ?_
         refine ov (v_load Try.isAgg3 rfl (Has.own 1 rfl) rfl) rfl ?_
         refine shO_on (b := false) 95 rfl (Env.isF rfl c130) ?_
         refine ov (v_fieldAddr fa_26_1 rfl) rfl ?_
         refine shO_on (b := false) 95 rfl (Env.isF rfl c130) ?_
         refine ov (v_load Try.isAgg24 rfl (Has.own 3 rfl) rfl) rfl ?_
         refine shO_on (b := false) 95 rfl (Env.isF rfl c130) ?_
         refine ov (v_lenS Try.underlying24 rfl) rfl ?_
         refine shO_on (b := false) 95 rfl (Env.isF rfl c130) ?_
         refine ov (v_geqK rfl rfl) rfl ?_
         refine ov (v_pick_f (evD_false rfl c130) rfl) rfl ?_
         refine om rfl rfl ?_
         by_cases c133 : (l2.length : Int) ≤ p_hour
         · have r134 := ite_t r132 c133; clear r132
           refine shO_off (b' := true) 103 rfl (Env.isT rfl c133) rfl rfl (shO_off (b' := true) 103 rfl (Env.isT rfl c133) rfl rfl (shO_off (b' := true) 103 rfl (Env.isT rfl c133) rfl rfl ?_))
           refine ov (v_pick_t (evD_true rfl c133) rfl) rfl ?_
           refine om rfl rfl (shO_off (b' := true) 108 rfl rfl rfl rfl (shO_off (b' := true) 108 rfl rfl rfl rfl (shO_off (b' := true) 108 rfl rfl rfl rfl (shO_off (b' := true) 108 rfl rfl rfl rfl (shO_off (b' := true) 108 rfl rfl rfl rfl (shO_off (b' := true) 108 rfl rfl rfl rfl ?_))))))
           refine ov (v_pick_t rfl rfl) rfl ?_
           refine shO_nil ?_
           obtain rfl := inj1 r134
           exact mi kr ⟨rfl, rfl, (sc rfl (sc rfl (sc rfl (sc rfl (sc rfl (sc rfl (sc rfl (sc rfl (sc rfl (sc rfl (sn _)))))))))))⟩
         have r135 := ite_f r132 c133; clear r132
         refine shO_on (b := false) 103 rfl (Env.isF rfl c133) ?_
         refine ov (v_fieldAddr fa_59_1 rfl) rfl ?_
         refine shO_on (b := false) 103 rfl (Env.isF rfl c133) ?_
         refine ov (v_load Try.isAgg3 rfl (Has.own 1 rfl) rfl) rfl ?_
         refine shO_on (b := false) 103 rfl (Env.isF rfl c133) ?_
         refine ov (v_lssK rfl rfl) rfl ?_
         refine ov (v_pick_f (evD_false rfl c133) rfl) rfl ?_
         refine om rfl rfl ?_
         by_cases c136 : p_man < 0
         · have r137 := ite_t r135 c136; clear r135
           refine shO_off (b' := true) 108 rfl (Env.isT rfl c136) rfl rfl (shO_off (b' := true) 108 rfl (Env.isT rfl c136) rfl rfl (shO_off (b' := true) 108 rfl (Env.isT rfl c136) rfl rfl (shO_off (b' := true) 108 rfl (Env.isT rfl c136) rfl rfl (shO_off (b' := true) 108 rfl (Env.isT rfl c136) rfl rfl (shO_off (b' := true) 108 rfl (Env.isT rfl c136) rfl rfl ?_)))))
           refine ov (v_pick_t (evD_true rfl c136) rfl) rfl ?_
           refine shO_nil ?_
           obtain rfl := inj1 r137
           exact mi kr ⟨rfl, rfl, (sc rfl (sc rfl (sc rfl (sc rfl (sc rfl (sc rfl (sc rfl (sc rfl (sc rfl (sc rfl (sn _)))))))))))⟩
         have r138 := ite_f r135 c136; clear r135
         refine shO_on (b := false) 108 rfl (Env.isF rfl c136) ?_
         refine ov (v_fieldAddr fa_59_1 rfl) rfl ?_
         refine shO_on (b := false) 108 rfl (Env.isF rfl c136) ?_
         refine ov (v_load Try.isAgg3 rfl (Has.own 1 rfl) rfl) rfl ?_
         refine shO_on (b := false) 108 rfl (Env.isF rfl c136) ?_
         refine ov (v_fieldAddr fa_26_0 rfl) rfl ?_
         refine shO_on (b := false) 108 rfl (Env.isF rfl c136) ?_
         refine ov (v_load Try.isAgg23 rfl (Has.own 3 rfl) rfl) rfl ?_
         refine shO_on (b := false) 108 rfl (Env.isF rfl c136) ?_
         refine ov (v_lenS Try.underlying23 rfl) rfl ?_
         refine shO_on (b := false) 108 rfl (Env.isF rfl c136) ?_
         refine ov (v_geqK rfl rfl) rfl ?_
         refine ov (v_pick_f (evD_false rfl c136) rfl) rfl ?_
         refine shO_nil ?_
         obtain rfl := inj1 r138
         exact mi kr ⟨rfl, rfl, (sc rfl (sc rfl (sc rfl (sc rfl (sc rfl (sc rfl (sc rfl (sc rfl (sc rfl (sc rfl (sn _)))))))))))⟩
       rintro e1 _ _ ⟨rfl, rfl, he139⟩
       refine shW_env _ he139 ?_; clear he139
       refine shW_cond rfl (fun c140 => ?_) (fun c140 => ?_)
       · have r141 := bt r129 c140; clear r129
         refine wsr (oa rfl rfl (shO_nil ?_))
         refine kW kn ?_
         refine shW_ret (andThen_ret (inBlock_ret (andThen_ret (andThen_ret (inBlock_ret (andThen_ret ?_))))))
         refine q_res1 Try.results6 (res_tmp rfl) (sr) ?_
         obtain rfl := inj1 r141
         exact rfl
       have r142 := bf r129 c140; clear r129
       refine shW_skip (wsr ?_)
       refine ov (v_loadA (cs := #[.slice a17 l.length c18, .slice a23 l2.length c24]) Try.isAgg26 Try.sizeOf26 rfl (Has.own 3 rfl) (Nat.le_of_ble_eq_true rfl) rfl) rfl ?_
       refine ov (v_loadA (cs := #[.int .i64 p_hour, .int .i64 p_man]) Try.isAgg59 Try.sizeOf59 rfl (Has.own 1 rfl) (Nat.le_of_ble_eq_true rfl) rfl) rfl ?_
       obtain ⟨n11, n12, n13, h143, r144⟩ := b3_ok r142; clear r142
       refine o_callV rfl Try.call30 rfl rfl rfl (night_Split_w h82 h85 h143) ?_
       refine om rfl rfl (ox rfl rfl rfl (ox rfl rfl rfl (ox rfl rfl rfl (oa rfl rfl (oa rfl rfl (oa rfl rfl (shO_nil (shW_seq ?_))))))))
       obtain ⟨k5, h145, r146⟩ := b1_ok r144; clear r144
       refine shW_join (fun e1 F1 L1 => F126 = F1 ∧ L1 = [(b43, .cells #[.slice a44 metal2.length c45, .int .i64 q_at3, .int .u32 q_turn3] 104 (0, 0)), (b97, .cells #[.int .i64 p_hour, .int .i64 p_man] 59 (0, 0)), (b51, .cells #[.int .i64 n3, .int .i64 n4] 59 (0, 0)), (b36, .cells #[.slice a17 l.length c18, .slice a23 l2.length c24] 26 (0, 0))] ∧ e1.sub [(5, .pointer (some ⟨b36, 0, none⟩)), (7, .pointer (some ⟨b43, 0, none⟩)), (8, .int .i64 n), (10, .pointer (some ⟨b51, 0, none⟩)), (11, .int .i64 n5), (12, .int .i64 n6), (14, .int .i64 n7), (17, .pointer (some ⟨b97, 0, none⟩)), (18, .int .i64 n11), (19, .int .i64 n12), (20, .int .i64 n13), (69, .int .i64 k2), (153, .bool k5)]) ?_ ?_
       · clear r146
         refine shW_draw (by kernel_rfl) (by kernel_rfl) (by kernel_rfl) ?_
         refine qv (v_fieldAddr fa_26_1 rfl) rfl ?_
         refine qv (v_load Try.isAgg24 rfl (Has.own 3 rfl) rfl) rfl ?_
         refine qv (v_fieldAddr fa_59_0 rfl) rfl ?_
         refine qv (v_load Try.isAgg3 rfl (Has.own 1 rfl) rfl) rfl ?_
         obtain ⟨x, g147, hx148, r149⟩ := ix_ok h145; clear h145
         obtain ⟨b150, o151, c152, vs153, ha154, hs155, hle156, ⟨a159, c160, rfl, h161⟩, hl157, hc158⟩ := RowR.at (slE_ok (iE_ok _)) h85 ([(b43, .cells #[.slice a44 metal2.length c45, .int .i64 q_at3, .int .u32 q_turn3] 104 (0, 0)), (b97, .cells #[.int .i64 p_hour, .int .i64 p_man] 59 (0, 0)), (b51, .cells #[.int .i64 n3, .int .i64 n4] 59 (0, 0)), (b36, .cells #[.slice a17 l.length c18, .slice a23 l2.length c24] 26 (0, 0))]) g147.1 hx148
         refine qv (v_indexO Try.underlying24 Try.sizeOf40 rfl ha154 rfl g147) rfl ?_
         refine qv (v_load Try.isAgg40 rfl hs155 (hc158 0 (by decide))) rfl ?_
         refine qv (v_fieldAddr fa_59_1 rfl) rfl ?_
         refine qv (v_load Try.isAgg3 rfl (Has.own 1 rfl) rfl) rfl ?_
         obtain ⟨x2, g162, hx163, r164⟩ := ix_ok r149; clear r149
         obtain ⟨b165, o166, c167, vs168, ha169, hs170, hle171, rfl, hl172, hc173⟩ := RowR.at (iE_ok _) h161 ([(b43, .cells #[.slice a44 metal2.length c45, .int .i64 q_at3, .int .u32 q_turn3] 104 (0, 0)), (b97, .cells #[.int .i64 p_hour, .int .i64 p_man] 59 (0, 0)), (b51, .cells #[.int .i64 n3, .int .i64 n4] 59 (0, 0)), (b36, .cells #[.slice a17 l.length c18, .slice a23 l2.length c24] 26 (0, 0))]) g162.1 hx163
         refine qv (v_indexO Try.underlying40 Try.sizeOf41 rfl ha169 rfl g162) rfl ?_
         refine qv (v_load Try.isAgg41 rfl hs170 (hc173 0 (by decide))) rfl ?_
         refine qv (v_eql rfl rfl) rfl ?_
         refine qm rfl rfl ?_
         refine qv (v_eql rfl rfl) rfl ?_
         refine qv (v_neqB Try.underlying4 rfl rfl) rfl ?_
         refine qm rfl rfl ?_
         by_cases c174 : (decide (x2 = 0)) ≠ (decide (n13 = 0))
         · have r175 := ite_t r164 c174; clear r164
           refine shQ_off (b' := true) 137 rfl (Env.isT rfl c174) rfl rfl (shQ_off (b' := true) 137 rfl (Env.isT rfl c174) rfl rfl (shQ_off (b' := true) 137 rfl (Env.isT rfl c174) rfl rfl (shQ_offU 140 rfl rfl rfl (shQ_offU 140 rfl rfl rfl (shQ_offU 140 rfl rfl rfl (shQ_offU 143 rfl rfl rfl (shQ_offU 143 rfl rfl rfl (shQ_offU 143 rfl rfl rfl (shQ_offU 143 rfl rfl rfl ?_)))))))))
           refine shQ_offU 147 rfl rfl rfl (shQ_offU 147 rfl rfl rfl (shQ_offU 143 rfl rfl rfl (shQ_offU 140 rfl rfl rfl (shQ_off (b' := true) 137 rfl (Env.isT rfl c174) rfl rfl ?_))))
           refine qv (v_pick_t (evD_true rfl c174) rfl) rfl ?_
           refine shQ_nil ?_
           obtain rfl := inj1 r175
           exact mi kr ⟨rfl, rfl, (sc rfl (sc rfl (sc rfl (sc rfl (sc rfl (sc rfl (sc rfl (sc rfl (sc rfl (sc rfl (sc rfl (sc rfl (sc rfl (sn _))))))))))))))⟩
         have r176 := ite_f r164 c174; clear r164
         refine shQ_on (b := false) 137 rfl (Env.isF rfl c174) (qm rfl rfl (shQ_on (b := false) 137 rfl (Env.isF rfl c174) ?_))
         refine qv (v_neq rfl rfl) rfl ?_
         refine shQ_on (b := false) 137 rfl (Env.isF rfl c174) (qm rfl rfl ?_)
         by_cases c177 : n13 ≠ 0
         · have r178 := ite_t r176 c177; clear r176
           refine shQ_on (b := true) 140 rfl (Env.isT rfl c177) (qm rfl rfl (shQ_on (b := true) 140 rfl (Env.isT rfl c177) ?_))
           refine qv (v_neq rfl rfl) rfl ?_
           refine shQ_on (b := true) 140 rfl (Env.isT rfl c177) (qm rfl rfl ?_)
           by_cases c179 : n13 ≠ 5
           · have r180 := ite_t r178 c179; clear r178
             refine shQ_off (b' := true) 143 rfl (Env.isT rfl c179) rfl rfl (shQ_off (b' := true) 143 rfl (Env.isT rfl c179) rfl rfl (shQ_off (b' := true) 143 rfl (Env.isT rfl c179) rfl rfl (shQ_off (b' := true) 143 rfl (Env.isT rfl c179) rfl rfl (shQ_offU 147 rfl rfl rfl (shQ_offU 147 rfl rfl rfl (shQ_off (b' := true) 143 rfl (Env.isT rfl c179) rfl rfl (shQ_on (b := true) 140 rfl (Env.isT rfl c177) ?_)))))))
             refine qv (v_pick_t (evD_true rfl c179) rfl) rfl ?_
             refine shQ_on (b := false) 137 rfl (Env.isF rfl c174) ?_
             refine qv (v_pick_t (evD_true rfl c177) rfl) rfl ?_
             refine qv (v_pick_f (evD_false rfl c174) rfl) rfl ?_
             refine shQ_nil ?_
             obtain rfl := inj1 r180
             exact mi kr ⟨rfl, rfl, (sc rfl (sc rfl (sc rfl (sc rfl (sc rfl (sc rfl (sc rfl (sc rfl (sc rfl (sc rfl (sc rfl (sc rfl (sc rfl (sn _))))))))))))))⟩
           have r181 := ite_f r178 c179; clear r178
           refine shQ_on (b := false) 143 rfl (Env.isF rfl c179) ?_
           refine qv (v_loadA (cs := #[.int .i64 p_hour, .int .i64 p_man]) Try.isAgg59 Try.sizeOf59 rfl (Has.own 1 rfl) (Nat.le_of_ble_eq_true rfl) rfl) rfl ?_
           refine shQ_on (b := false) 143 rfl (Env.isF rfl c179) ?_
           refine qv (v_loadA (cs := #[.int .i64 n3, .int .i64 n4]) Try.isAgg59 Try.sizeOf59 rfl (Has.own 2 rfl) (Nat.le_of_ble_eq_true rfl) rfl) rfl ?_
           refine shQ_on (b := false) 143 rfl (Env.isF rfl c179) ?_
           refine qv (v_eqA (eqg_59 _ _ _ _) (eq_59 _ _ _ _) rfl rfl) rfl ?_
           refine shQ_on (b := false) 143 rfl (Env.isF rfl c179) (qm rfl rfl ?_)
           by_cases c182 : p_hour = n3 ∧ p_man = n4
           · have r183 := ite_t r181 c182; clear r181
             refine shQ_on (b := true) 147 rfl (Env.isT rfl c182) (qm rfl rfl (shQ_on (b := true) 147 rfl (Env.isT rfl c182) ?_))
             refine qv (v_eql rfl rfl) rfl ?_
             refine shQ_on (b := false) 143 rfl (Env.isF rfl c179) ?_
             refine qv (v_pick_t (evD_true rfl c182) rfl) rfl ?_
             refine shQ_on (b := true) 140 rfl (Env.isT rfl c177) ?_
             refine qv (v_pick_f (evD_false rfl c179) rfl) rfl ?_
             refine shQ_on (b := false) 137 rfl (Env.isF rfl c174) ?_
             refine qv (v_pick_t (evD_true rfl c177) rfl) rfl ?_
             refine qv (v_pick_f (evD_false rfl c174) rfl) rfl ?_
             refine shQ_nil ?_
             obtain rfl := inj1 r183
             exact mi kr ⟨rfl, rfl, (sc rfl (sc rfl (sc rfl (sc rfl (sc rfl (sc rfl (sc rfl (sc rfl (sc rfl (sc rfl (sc rfl (sc rfl (sc rfl (sn _))))))))))))))⟩
           have r184 := ite_f r181 c182; clear r181
           refine shQ_off (b' := false) 147 rfl (Env.isF rfl c182) rfl rfl (shQ_off (b' := false) 147 rfl (Env.isF rfl c182) rfl rfl (shQ_on (b := false) 143 rfl (Env.isF rfl c179) ?_))
           refine qv (v_pick_f (evD_false rfl c182) rfl) rfl ?_
           refine shQ_on (b := true) 140 rfl (Env.isT rfl c177) ?_
           refine qv (v_pick_f (evD_false rfl c179) rfl) rfl ?_
           refine shQ_on (b := false) 137 rfl (Env.isF rfl c174) ?_
           refine qv (v_pick_t (evD_true rfl c177) rfl) rfl ?_
           refine qv (v_pick_f (evD_false rfl c174) rfl) rfl ?_
           refine shQ_nil ?_
           obtain rfl := inj1 r184
           exact mi kr ⟨rfl, rfl, (sc rfl (sc rfl (sc rfl (sc rfl (sc rfl (sc rfl (sc rfl (sc rfl (sc rfl (sc rfl (sc rfl (sc rfl (sc rfl (sn _))))))))))))))⟩
         have r185 := ite_f r176 c177; clear r176
         refine shQ_off (b' := false) 140 rfl (Env.isF rfl c177) rfl rfl (shQ_off (b' := false) 140 rfl (Env.isF rfl c177) rfl rfl (shQ_off (b' := false) 140 rfl (Env.isF rfl c177) rfl rfl (shQ_offU 143 rfl rfl rfl (shQ_offU 143 rfl rfl rfl (shQ_offU 143 rfl rfl rfl (shQ_offU 143 rfl rfl rfl (shQ_offU 147 rfl rfl rfl (shQ_offU 147 rfl rfl rfl (shQ_offU 143 rfl rfl rfl ?_)))))))))
         refine shQ_off (b' := false) 140 rfl (Env.isF rfl c177) rfl rfl (shQ_on (b := false) 137 rfl (Env.isF rfl c174) ?_)
         refine qv (v_pick_f (evD_false rfl c177) rfl) rfl ?_
         refine qv (v_pick_f (evD_false rfl c174) rfl) rfl ?_
         refine shQ_nil ?_
         obtain rfl := inj1 r185
         exact mi kr ⟨rfl, rfl, (sc rfl (sc rfl (sc rfl (sc rfl (sc rfl (sc rfl (sc rfl (sc rfl (sc rfl (sc rfl (sc rfl (sc rfl (sc rfl (sn _))))))))))))))⟩
       rintro e1 _ _ ⟨rfl, rfl, he186⟩
       refine shW_env _ he186 ?_; clear he186
       refine shW_cond rfl (fun c187 => ?_) (fun c187 => ?_)
       · have r188 := bt r146 c187; clear r146
         refine wsr (oa rfl rfl (shO_nil ?_))
         refine kW kn ?_
         refine shW_ret (andThen_ret (inBlock_ret (andThen_ret (andThen_ret (inBlock_ret (andThen_ret ?_))))))
         refine q_res1 Try.results6 (res_tmp rfl) (sr) ?_
         obtain rfl := inj1 r188
         exact rfl
       have r189 := bf r146 c187; clear r146
       refine shW_skip (shW_seq (wsr (om rfl rfl ?_)))
       refine ov (v_neq rfl rfl) rfl ?_
       refine shO_nil ?_
       refine shW_condP rfl (fun c190 => ?_) (fun c190 => ?_)
       · have r191 := ite_t r189 c190; clear r189
         refine shW_exit (andThen_exit ?_)
         refine inBlock_exit ?_
         exact mi (kc (kd kr)) ⟨q_at3, q_turn3, r191, hF127, rfl, (sc rfl (sc rfl (sc rfl (sc rfl (sc rfl (sc rfl (sc rfl (sc rfl (sn _)))))))))⟩
       have r192 := ite_f r189 c190; clear r189
       refine shW_skip (shW_seq ?_)
       obtain ⟨k6, h193, r194⟩ := b1_ok r192; clear r192
       refine shW_join (fun e1 F1 L1 => F126 = F1 ∧ L1 = [(b43, .cells #[.slice a44 metal2.length c45, .int .i64 q_at3, .int .u32 q_turn3] 104 (0, 0)), (b97, .cells #[.int .i64 p_hour, .int .i64 p_man] 59 (0, 0)), (b51, .cells #[.int .i64 n3, .int .i64 n4] 59 (0, 0)), (b36, .cells #[.slice a17 l.length c18, .slice a23 l2.length c24] 26 (0, 0))] ∧ e1.sub [(5, .pointer (some ⟨b36, 0, none⟩)), (7, .pointer (some ⟨b43, 0, none⟩)), (8, .int .i64 n), (10, .pointer (some ⟨b51, 0, none⟩)), (11, .int .i64 n5), (12, .int .i64 n6), (14, .int .i64 n7), (17, .pointer (some ⟨b97, 0, none⟩)), (18, .int .i64 n11), (19, .int .i64 n12), (69, .int .i64 k2), (191, .bool k6)]) ?_ ?_
       · clear r194
         refine shW_region (om rfl rfl ?_)
         refine ov (v_neq rfl rfl) rfl ?_
         refine om rfl rfl ?_
         by_cases c195 : n6 ≠ 0
         · have r196 := ite_t h193 c195; clear h193
           refine shO_off (b' := true) 158 rfl (Env.isT rfl c195) rfl rfl (shO_off (b' := true) 158 rfl (Env.isT rfl c195) rfl rfl ?_)
           refine ov (v_pick_t (evD_true rfl c195) rfl) rfl ?_
           refine om rfl rfl (shO_off (b' := true) 162 rfl rfl rfl rfl (shO_off (b' := true) 162 rfl rfl rfl rfl ?_))
           refine ov (v_pick_t rfl rfl) rfl ?_
           refine om rfl rfl (shO_off (b' := true) 166 rfl rfl rfl rfl (shO_off (b' := true) 166 rfl rfl rfl rfl (shO_off (b' := true) 166 rfl rfl rfl rfl (shO_off (b' := true) 166 rfl rfl rfl rfl (shO_off (b' := true) 166 rfl rfl rfl rfl ?_)))))
           refine ov (v_pick_t rfl rfl) rfl ?_
           refine om rfl rfl (shO_off (b' := true) 173 rfl rfl rfl rfl (shO_off (b' := true) 173 rfl rfl rfl rfl (shO_off (b' := true) 173 rfl rfl rfl rfl (shO_off (b' := true) 173 rfl rfl rfl rfl (shO_off (b' := true) 173 rfl rfl rfl rfl ?_)))))
           refine ov (v_pick_t rfl rfl) rfl ?_
           refine om rfl rfl (shO_off (b' := true) 180 rfl rfl rfl rfl (shO_off (b' := true) 180 rfl rfl rfl rfl (shO_off (b' := true) 180 rfl rfl rfl rfl (shO_off (b' := true) 180 rfl rfl rfl rfl (shO_offU 184 rfl rfl rfl (shO_offU 184 rfl rfl rfl (shO_offU 184 rfl rfl rfl (shO_offU 184 rfl rfl rfl (shO_offU 184 rfl rfl rfl ?_)))))))))
           refine shO_off (b' := true) 180 rfl rfl rfl rfl ?_
           refine ov (v_pick_t rfl rfl) rfl ?_
           refine shO_nil ?_
           obtain rfl := inj1 r196
           exact mi kr ⟨rfl, rfl, (sc rfl (sc rfl (sc rfl (sc rfl (sc rfl (sc rfl (sc rfl (sc rfl (sc rfl (sc rfl (sc rfl (sc rfl (sn _)))))))))))))⟩
         have r197 := ite_f h193 c195; clear h193
         refine shO_on (b := false) 158 rfl (Env.isF rfl c195) (om rfl rfl (shO_on (b := false) 158 rfl (Env.isF rfl c195) ?_))
         refine ov (v_lssK rfl rfl) rfl ?_
         refine ov (v_pick_f (evD_false rfl c195) rfl) rfl ?_
         refine om rfl rfl ?_
         by_cases c198 : n11 < 0
         · have r199 := ite_t r197 c198; clear r197
           refine shO_off (b' := true) 162 rfl (Env.isT rfl c198) rfl rfl (shO_off (b' := true) 162 rfl (Env.isT rfl c198) rfl rfl ?_)
           refine ov (v_pick_t (evD_true rfl c198) rfl) rfl ?_
           refine om rfl rfl (shO_off (b' := true) 166 rfl rfl rfl rfl (shO_off (b' := true) 166 rfl rfl rfl rfl (shO_off (b' := true) 166 rfl rfl rfl rfl (shO_off (b' := true) 166 rfl rfl rfl rfl (shO_off (b' := true) 166 rfl rfl rfl rfl ?_)))))
           refine ov (v_pick_t rfl rfl) rfl ?_
           refine om rfl rfl (shO_off (b' := true) 173 rfl rfl rfl rfl (shO_off (b' := true) 173 rfl rfl rfl rfl (shO_off (b' := true) 173 rfl rfl rfl rfl (shO_off (b' := true) 173 rfl rfl rfl rfl (shO_off (b' := true) 173 rfl rfl rfl rfl ?_)))))
           refine ov (v_pick_t rfl rfl) rfl ?_
           refine om rfl rfl (shO_off (b' := true) 180 rfl rfl rfl rfl (shO_off (b' := true) 180 rfl rfl rfl rfl (shO_off (b' := true) 180 rfl rfl rfl rfl (shO_off (b' := true) 180 rfl rfl rfl rfl (shO_offU 184 rfl rfl rfl (shO_offU 184 rfl rfl rfl (shO_offU 184 rfl rfl rfl (shO_offU 184 rfl rfl rfl (shO_offU 184 rfl rfl rfl ?_)))))))))
           refine shO_off (b' := true) 180 rfl rfl rfl rfl ?_
           refine ov (v_pick_t rfl rfl) rfl ?_
           refine shO_nil ?_
           obtain rfl := inj1 r199
           exact mi kr ⟨rfl, rfl, (sc rfl (sc rfl (sc rfl (sc rfl (sc rfl (sc rfl (sc rfl (sc rfl (sc rfl (sc rfl (sc rfl (sc rfl (sn _)))))))))))))⟩
         have r200 := ite_f r197 c198; clear r197
         refine shO_on (b := false) 162 rfl (Env.isF rfl c198) (om rfl rfl (shO_on (b := false) 162 rfl (Env.isF rfl c198) ?_))
         refine ov (v_lssK rfl rfl) rfl ?_
         refine ov (v_pick_f (evD_false rfl c198) rfl) rfl ?_
         refine om rfl rfl ?_
         by_cases c201 : n12 < 0
         · have r202 := ite_t r200 c201; clear r200
           refine shO_off (b' := true) 166 rfl (Env.isT rfl c201) rfl rfl (shO_off (b' := true) 166 rfl (Env.isT rfl c201) rfl rfl (shO_off (b' := true) 166 rfl (Env.isT rfl c201) rfl rfl (shO_off (b' := true) 166 rfl (Env.isT rfl c201) rfl rfl (shO_off (b' := true) 166 rfl (Env.isT rfl c201) rfl rfl ?_))))
           refine ov (v_pick_t (evD_true rfl c201) rfl) rfl ?_
           refine om rfl rfl (shO_off (b' := true) 173 rfl rfl rfl rfl (shO_off (b' := true) 173 rfl rfl rfl rfl (shO_off (b' := true) 173 rfl rfl rfl rfl (shO_off (b' := true) 173 rfl rfl rfl rfl (shO_off (b' := true) 173 rfl rfl rfl rfl ?_)))))
           refine ov (v_pick_t rfl rfl) rfl ?_
           refine om rfl rfl (shO_off (b' := true) 180 rfl rfl rfl rfl (shO_off (b' := true) 180 rfl rfl rfl rfl (shO_off (b' := true) 180 rfl rfl rfl rfl (shO_off (b' := true) 180 rfl rfl rfl rfl (shO_offU 184 rfl rfl rfl (shO_offU 184 rfl rfl rfl (shO_offU 184 rfl rfl rfl (shO_offU 184 rfl rfl rfl (shO_offU 184 rfl rfl rfl ?_)))))))))
           refine shO_off (b' := true) 180 rfl rfl rfl rfl ?_
           refine ov (v_pick_t rfl rfl) rfl ?_
           refine shO_nil ?_
           obtain rfl := inj1 r202
           exact mi kr ⟨rfl, rfl, (sc rfl (sc rfl (sc rfl (sc rfl (sc rfl (sc rfl (sc rfl (sc rfl (sc rfl (sc rfl (sc rfl (sc rfl (sn _)))))))))))))⟩
         have r203 := ite_f r200 c201; clear r200
         refine shO_on (b := false) 166 rfl (Env.isF rfl c201) (om rfl rfl (shO_on (b := false) 166 rfl (Env.isF rfl c201) (om rfl rfl (shO_on (b := false) 166 rfl (Env.isF rfl c201) ?_))))
         obtain ⟨g204, r205⟩ := gd_ok r203; clear r203
         refine ov (v_add rfl rfl g204) rfl ?_
         refine shO_on (b := false) 166 rfl (Env.isF rfl c201) (om rfl rfl (shO_on (b := false) 166 rfl (Env.isF rfl c201) ?_))
         refine ov (v_neq rfl rfl) rfl ?_
         refine ov (v_pick_f (evD_false rfl c201) rfl) rfl ?_
         refine om rfl rfl ?_
         by_cases c206 : (n11 + n12) ≠ n
         · have r207 := ite_t r205 c206; clear r205
           refine shO_off (b' := true) 173 rfl (Env.isT rfl c206) rfl rfl (shO_off (b' := true) 173 rfl (Env.isT rfl c206) rfl rfl (shO_off (b' := true) 173 rfl (Env.isT rfl c206) rfl rfl (shO_off (b' := true) 173 rfl (Env.isT rfl c206) rfl rfl (shO_off (b' := true) 173 rfl (Env.isT rfl c206) rfl rfl ?_))))
           refine ov (v_pick_t (evD_true rfl c206) rfl) rfl ?_
           refine om rfl rfl (shO_off (b' := true) 180 rfl rfl rfl rfl (shO_off (b' := true) 180 rfl rfl rfl rfl (shO_off (b' := true) 180 rfl rfl rfl rfl (shO_off (b' := true) 180 rfl rfl rfl rfl (shO_offU 184 rfl rfl rfl (shO_offU 184 rfl rfl rfl (shO_offU 184 rfl rfl rfl (shO_offU 184 rfl rfl rfl (shO_offU 184 rfl rfl rfl ?_)))))))))
           refine shO_off (b' := true) 180 rfl rfl rfl rfl ?_
           refine ov (v_pick_t rfl rfl) rfl ?_
           refine shO_nil ?_
           obtain rfl := inj1 r207
           exact mi kr ⟨rfl, rfl, (sc rfl (sc rfl (sc rfl (sc rfl (sc rfl (sc rfl (sc rfl (sc rfl (sc rfl (sc rfl (sc rfl (sc rfl (sn _)))))))))))))⟩
         have r208 := ite_f r205 c206; clear r205
         refine shO_on (b := false) 173 rfl (Env.isF rfl c206) (om rfl rfl (shO_on (b := false) 173 rfl (Env.isF rfl c206) (om rfl rfl (shO_on (b := false) 173 rfl (Env.isF rfl c206) ?_))))
         refine ov (v_max2 rfl rfl) rfl ?_
         refine shO_on (b := false) 173 rfl (Env.isF rfl c206) (om rfl rfl (shO_on (b := false) 173 rfl (Env.isF rfl c206) ?_))
         refine ov (v_lssK rfl rfl) rfl ?_
         refine ov (v_pick_f (evD_false rfl c206) rfl) rfl ?_
         refine om rfl rfl ?_
         by_cases c209 : (if n12 > n11 then n12 else n11) < n5
         · have r210 := ite_t r208 c209; clear r208
           refine shO_off (b' := true) 180 rfl (Env.isT rfl c209) rfl rfl (shO_off (b' := true) 180 rfl (Env.isT rfl c209) rfl rfl (shO_off (b' := true) 180 rfl (Env.isT rfl c209) rfl rfl (shO_off (b' := true) 180 rfl (Env.isT rfl c209) rfl rfl (shO_offU 184 rfl rfl rfl (shO_offU 184 rfl rfl rfl (shO_offU 184 rfl rfl rfl (shO_offU 184 rfl rfl rfl (shO_offU 184 rfl rfl rfl (shO_off (b' := true) 180 rfl (Env.isT rfl c209) rfl rfl ?_)))))))))
           refine ov (v_pick_t (evD_true rfl c209) rfl) rfl ?_
           refine shO_nil ?_
           obtain rfl := inj1 r210
           exact mi kr ⟨rfl, rfl, (sc rfl (sc rfl (sc rfl (sc rfl (sc rfl (sc rfl (sc rfl (sc rfl (sc rfl (sc rfl (sc rfl (sc rfl (sn _)))))))))))))⟩
         have r211 := ite_f r208 c209; clear r208
         refine shO_on (b := false) 180 rfl (Env.isF rfl c209) ?_
         refine ov (v_loadA (cs := #[.int .i64 p_hour, .int .i64 p_man]) Try.isAgg59 Try.sizeOf59 rfl (Has.own 1 rfl) (Nat.le_of_ble_eq_true rfl) rfl) rfl ?_
         refine shO_on (b := false) 180 rfl (Env.isF rfl c209) ?_
         refine ov (v_loadA (cs := #[.int .i64 n3, .int .i64 n4]) Try.isAgg59 Try.sizeOf59 rfl (Has.own 2 rfl) (Nat.le_of_ble_eq_true rfl) rfl) rfl ?_
         refine shO_on (b := false) 180 rfl (Env.isF rfl c209) ?_
         refine ov (v_eqA (eqg_59 _ _ _ _) (eq_59 _ _ _ _) rfl rfl) rfl ?_
         refine shO_on (b := false) 180 rfl (Env.isF rfl c209) (om rfl rfl ?_)
         by_cases c212 : p_hour = n3 ∧ p_man = n4
         · have r213 := ite_t r211 c212; clear r211
           refine shO_on (b := true) 184 rfl (Env.isT rfl c212) (om rfl rfl (shO_on (b := true) 184 rfl (Env.isT rfl c212) (om rfl rfl (shO_on (b := true) 184 rfl (Env.isT rfl c212) ?_))))
           refine ov (v_max2 rfl rfl) rfl ?_
           refine shO_on (b := true) 184 rfl (Env.isT rfl c212) (om rfl rfl (shO_on (b := true) 184 rfl (Env.isT rfl c212) ?_))
           refine ov (v_neq rfl rfl) rfl ?_
           refine shO_on (b := false) 180 rfl (Env.isF rfl c209) ?_
           refine ov (v_pick_t (evD_true rfl c212) rfl) rfl ?_
           refine ov (v_pick_f (evD_false rfl c209) rfl) rfl ?_
           refine shO_nil ?_
           obtain rfl := inj1 r213
           exact mi kr ⟨rfl, rfl, (sc rfl (sc rfl (sc rfl (sc rfl (sc rfl (sc rfl (sc rfl (sc rfl (sc rfl (sc rfl (sc rfl (sc rfl (sn _)))))))))))))⟩
         have r214 := ite_f r211 c212; clear r211
         refine shO_off (b' := false) 184 rfl (Env.isF rfl c212) rfl rfl (shO_off (b' := false) 184 rfl (Env.isF rfl c212) rfl rfl (shO_off (b' := false) 184 rfl (Env.isF rfl c212) rfl rfl (shO_off (b' := false) 184 rfl (Env.isF rfl c212) rfl rfl (shO_off (b' := false) 184 rfl (Env.isF rfl c212) rfl rfl (shO_on (b := false) 180 rfl (Env.isF rfl c209) ?_)))))
         refine ov (v_pick_f (evD_false rfl c212) rfl) rfl ?_
         refine ov (v_pick_f (evD_false rfl c209) rfl) rfl ?_
         refine shO_nil ?_
         obtain rfl := inj1 r214
         exact mi kr ⟨rfl, rfl, (sc rfl (sc rfl (sc rfl (sc rfl (sc rfl (sc rfl (sc rfl (sc rfl (sc rfl (sc rfl (sc rfl (sc rfl (sn _)))))))))))))⟩
       rintro e1 _ _ ⟨rfl, rfl, he215⟩
       refine shW_env _ he215 ?_; clear he215
       refine shW_cond rfl (fun c216 => ?_) (fun c216 => ?_)
       · have r217 := bt r194 c216; clear r194
         refine wsr (oa rfl rfl (shO_nil ?_))
         refine kW kn ?_
         refine shW_ret (andThen_ret (inBlock_ret (andThen_ret (andThen_ret (inBlock_ret (andThen_ret ?_))))))
         refine q_res1 Try.results6 (res_tmp rfl) (sr) ?_
         obtain rfl := inj1 r217
         exact rfl
       have r218 := bf r194 c216; clear r194
       refine shW_skip (wsr ?_)
       refine o_buildSlice (cs := #[.int .i64 1, .int .i64 2]) rfl rfl (buildSlice_all slt_40 [.int .i64 1, .int .i64 2] rfl (by decide) (by simp [Value.cells]) (by decide)) ?_; intro b219 hb219
       refine ov (v_lenS Try.underlying40 rfl) rfl ?_
       refine om rfl rfl (shO_nil ?_)
       refine shW_block ?_
       refine shW_freeze 0 rfl hb219 ?_; intro F220 hF221 hz222
       refine shW_L (L' := [(b43, .cells #[.slice a44 metal2.length c45, .int .i64 q_at3, .int .u32 q_turn3] 104 (0, 0)), (b97, .cells #[.int .i64 p_hour, .int .i64 p_man] 59 (0, 0)), (b51, .cells #[.int .i64 n3, .int .i64 n4] 59 (0, 0)), (b36, .cells #[.slice a17 l.length c18, .slice a23 l2.length c24] 26 (0, 0))]) rfl ?_
       replace h82 := h82.mono (slE_ok (iE_ok _)) hF221
       replace h85 := h85.mono (slE_ok (iE_ok _)) hF221
       have h223 : RowR 1 (iE .i64) F220 (some ⟨b219, 0, none⟩) 2 [1, 2] := RowR.of_block (iE_ok _) (vss := [[.int .i64 1], [.int .i64 2]]) (xs := [1, 2]) hz222 (.cons rfl (.cons rfl .nil)) rfl (by simp [maxLen])
       obtain ⟨g224, r225⟩ := gd_ok r218; clear r218
       refine shW_lp (fun fu4 e1 F1 L1 => ∃ (k7 : Int), Ctr 0 2 k7 fu4 ∧ oyezlaw05_NightKnown_l4 l l2 n7 k2 q_at3 q_turn3 p_hour p_man n11 n12 (oyezlaw05_NightKnown_l2 l l2 metal2 n n3 n4 n5 n6 n7 fu2) fu4 k7 = some r ∧ FExt F220 F1 ∧ L1 = [(b43, .cells #[.slice a44 metal2.length c45, .int .i64 q_at3, .int .u32 q_turn3] 104 (0, 0)), (b97, .cells #[.int .i64 p_hour, .int .i64 p_man] 59 (0, 0)), (b51, .cells #[.int .i64 n3, .int .i64 n4] 59 (0, 0)), (b36, .cells #[.slice a17 l.length c18, .slice a23 l2.length c24] 26 (0, 0))] ∧ e1.sub [(5, .pointer (some ⟨b36, 0, none⟩)), (7, .pointer (some ⟨b43, 0, none⟩)), (8, .int .i64 n), (10, .pointer (some ⟨b51, 0, none⟩)), (11, .int .i64 n5), (12, .int .i64 n6), (14, .int .i64 n7), (17, .pointer (some ⟨b97, 0, none⟩)), (18, .int .i64 n11), (19, .int .i64 n12), (69, .int .i64 k2), (192, .slice (some ⟨b219, 0, none⟩) [1, 2].length 2), (193, .int .i64 2), (194, .int .i64 k7)]) _ (m0 kr ⟨_, Ctr.start _ _, r225, FExt.refl _, rfl, (sc rfl (sc rfl (sc rfl (sc rfl (sc rfl (sc rfl (sc rfl (sc rfl (sc rfl (sc rfl (sc rfl (sc rfl (sc rfl (sc rfl (sn _)))))))))))))))⟩) ?_
       rintro fu4 e1 F230 _ ⟨k7, hk226, r228, hF231, rfl, he229⟩
       refine shW_env _ he229 ?_; clear he229
       replace h82 := h82.mono (slE_ok (iE_ok _)) hF231
       replace h85 := h85.mono (slE_ok (iE_ok _)) hF231
       replace h223 := h223.mono (iE_ok _) hF231
       refine wsr ?_
       refine ov (v_lssK rfl rfl) rfl ?_
       refine shO_nil (shW_seq ?_)
       refine shW_condP rfl (fun c233 => ?_) (fun c233 => ?_)
       · obtain ⟨fu4, rfl, hk234⟩ := Ctr.succ hk226 c233
         rw [oyezlaw05_NightKnown_l4] at r228
         refine shW_skip (shW_seq ?_)
         refine shW_block ?_
         refine wsr (om rfl rfl ?_)
         obtain ⟨x3, g235, hx236, r237⟩ := ix_ok r228; clear r228
         obtain ⟨b238, o239, c240, vs241, ha242, hs243, hle244, rfl, hl245, hc246⟩ := RowR.at (iE_ok _) h223 ([(b43, .cells #[.slice a44 metal2.length c45, .int .i64 q_at3, .int .u32 q_turn3] 104 (0, 0)), (b97, .cells #[.int .i64 p_hour, .int .i64 p_man] 59 (0, 0)), (b51, .cells #[.int .i64 n3, .int .i64 n4] 59 (0, 0)), (b36, .cells #[.slice a17 l.length c18, .slice a23 l2.length c24] 26 (0, 0))]) g235.1 hx236
         refine ov (v_indexO Try.underlying40 Try.sizeOf41 rfl ha242 rfl g235) rfl ?_
         refine ov (v_load Try.isAgg41 rfl hs243 (hc246 0 (by decide))) rfl ?_
         refine oa rfl rfl (oa rfl rfl (nsr ?_))
         refine ov (v_loadA (cs := #[.slice a17 l.length c18, .slice a23 l2.length c24]) Try.isAgg26 Try.sizeOf26 rfl (Has.own 3 rfl) (Nat.le_of_ble_eq_true rfl) rfl) rfl ?_
         refine ov (v_loadA (cs := #[.int .i64 p_hour, .int .i64 p_man]) Try.isAgg59 Try.sizeOf59 rfl (Has.own 1 rfl) (Nat.le_of_ble_eq_true rfl) rfl) rfl ?_
         refine om rfl rfl ?_
         obtain ⟨l5, l6, n14, h247, r248⟩ := b3_ok r237; clear r237
         refine o_call0 rfl Try.call31 rfl rfl rfl (night_With_w h82 h85 h247) ?_; rintro _ F249 _ hF250 hn251 ⟨a253, n257, c254, Lb255, a259, c260, rfl, rfl, hz256, h261⟩
         replace hz256 := hz256.new fun p hp => hn251 p (by simp [hp])
         refine shO_L (lp (ln rfl)) ?_
         refine kO (kf (fS fO) (kf (fS fO) (kf (fS fO) (kf (fS fO) kr)))) ?_
         refine om rfl rfl (ox rfl rfl rfl (ox rfl rfl rfl ?_))
         refine o_alloc rfl Try.zeroValue26 ?_; intro b262 hb262
         refine o_storeA (i := 0) Try.sizeOf26 rfl rfl rfl (by simp [Value.oneCell']) rfl (Nat.le_of_ble_eq_true rfl) ?_
         refine shO_L (L' := (b262, .cells #[.slice a253 n257 c254, .slice a259 l6.length c260] 26 (0, 0)) :: ((b43, .cells #[.slice a44 metal2.length c45, .int .i64 q_at3, .int .u32 q_turn3] 104 (0, 0)) :: ((b97, .cells #[.int .i64 p_hour, .int .i64 p_man] 59 (0, 0)) :: ((b51, .cells #[.int .i64 n3, .int .i64 n4] 59 (0, 0)) :: ((b36, .cells #[.slice a17 l.length c18, .slice a23 l2.length c24] 26 (0, 0)) :: (Lb255 ++ [])))))) rfl ?_
         refine oa rfl rfl (nsr ?_)
         refine ov (v_loadA (cs := #[.slice a253 n257 c254, .slice a259 l6.length c260]) Try.isAgg26 Try.sizeOf26 rfl (Has.own 0 rfl) (Nat.le_of_ble_eq_true rfl) rfl) rfl ?_
         obtain ⟨n15, n16, h263, r264⟩ := b2_ok r248; clear r248
         refine o_callT (Lt := Lb255 ++ []) (Lr := [(b262, .cells #[.slice a253 n257 c254, .slice a259 l6.length c260] 26 (0, 0)), (b43, .cells #[.slice a44 metal2.length c45, .int .i64 q_at3, .int .u32 q_turn3] 104 (0, 0)), (b97, .cells #[.int .i64 p_hour, .int .i64 p_man] 59 (0, 0)), (b51, .cells #[.int .i64 n3, .int .i64 n4] 59 (0, 0)), (b36, .cells #[.slice a17 l.length c18, .slice a23 l2.length c24] 26 (0, 0))]) rfl Try.call25 rfl rfl rfl (pT ((fC (fC (fC (fC (fC fP))))).trans (pA pR)) (lp (ln rfl))) (fun F2 h2 h3 => by rw [(SlR.caps hz256).1]; exact night_Count_w (hz256.row (slE_ok (iE_ok _)) h2 (fun p hp => h3 p (List.mem_append_left _ hp))) (h261.mono (slE_ok (iE_ok _)) h2) h263) ?_
         refine om rfl rfl (ox rfl rfl rfl (ox rfl rfl rfl (oa rfl rfl (oa rfl rfl (nsr ?_)))))
         refine ov (v_loadA (cs := #[.slice a253 n257 c254, .slice a259 l6.length c260]) Try.isAgg26 Try.sizeOf26 rfl (Has.own 0 rfl) (Nat.le_of_ble_eq_true rfl) rfl) rfl ?_
         obtain ⟨l7, n17, n18, h265, r266⟩ := b3_ok r264; clear r264
         refine o_callTO (Lb := []) (Lt := Lb255 ++ []) (Lr := [(b262, .cells #[.slice a253 n257 c254, .slice a259 l6.length c260] 26 (0, 0)), (b43, .cells #[.slice a44 metal2.length c45, .int .i64 q_at3, .int .u32 q_turn3] 104 (0, 0)), (b97, .cells #[.int .i64 p_hour, .int .i64 p_man] 59 (0, 0)), (b51, .cells #[.int .i64 n3, .int .i64 n4] 59 (0, 0)), (b36, .cells #[.slice a17 l.length c18, .slice a23 l2.length c24] 26 (0, 0))]) rfl Try.call14 rfl rfl rfl (pT ((fC (fC (fC (fC (fC fP))))).trans (pA pR)) (ln (lp (ln rfl)))) (fun F2 h2 h3 => by rw [(SlR.caps hz256).1]; exact night_Fewest_w (hz256.row (slE_ok (iE_ok _)) h2 (fun p hp => h3 p (List.mem_append_left _ hp))) (h261.mono (slE_ok (iE_ok _)) h2) h265) (fun _ _ _ _ hq => by obtain ⟨a271, n275, c272, Lb273, rfl, rfl, hz274⟩ := hq; exact ⟨_, _, _, _, rfl, rfl, hz274.flat (fun _ _ h => h)⟩) ?_; rintro _ F267 _ hF268 hd270 hn269 ⟨a271, n275, c272, Lb273, rfl, rfl, hz274⟩
         refine shO_L (lp (ln (lp (ln rfl)))) ?_
         refine kO (kf (fS (fS fO)) (kf (fS (fS fO)) (kf (fS (fS fO)) (kf (fS (fS fO)) (kf (fS (fS fO)) kr))))) ?_
         refine om rfl rfl (ox rfl rfl rfl (ox rfl rfl rfl (ox rfl rfl rfl (oa rfl rfl (oa rfl rfl (oa rfl rfl (shO_nil ?_)))))))
         obtain ⟨k8, h278, r279⟩ := b1_ok r266; clear r266
         refine shW_join (fun e1 F1 L1 => FExt F267 F1 ∧ L1 = [(b43, .cells #[.slice a44 metal2.length c45, .int .i64 q_at3, .int .u32 q_turn3] 104 (0, 0)), (b97, .cells #[.int .i64 p_hour, .int .i64 p_man] 59 (0, 0)), (b51, .cells #[.int .i64 n3, .int .i64 n4] 59 (0, 0)), (b36, .cells #[.slice a17 l.length c18, .slice a23 l2.length c24] 26 (0, 0))] ∧ e1.sub [(5, .pointer (some ⟨b36, 0, none⟩)), (7, .pointer (some ⟨b43, 0, none⟩)), (8, .int .i64 n), (10, .pointer (some ⟨b51, 0, none⟩)), (11, .int .i64 n5), (12, .int .i64 n6), (14, .int .i64 n7), (17, .pointer (some ⟨b97, 0, none⟩)), (18, .int .i64 n11), (19, .int .i64 n12), (69, .int .i64 k2), (192, .slice (some ⟨b219, 0, none⟩) [1, 2].length 2), (193, .int .i64 2), (194, .int .i64 k7), (248, .bool k8)]) ?_ ?_
         · clear r279
           refine shW_region (om rfl rfl ?_)
           refine ov (v_neq rfl rfl) rfl ?_
           refine om rfl rfl ?_
           by_cases c280 : n14 ≠ 0
           · have r281 := ite_t h278 c280; clear h278
             refine shO_off (b' := true) 219 rfl (Env.isT rfl c280) rfl rfl (shO_off (b' := true) 219 rfl (Env.isT rfl c280) rfl rfl ?_)
             refine ov (v_pick_t (evD_true rfl c280) rfl) rfl ?_
             refine om rfl rfl (shO_off (b' := true) 223 rfl rfl rfl rfl (shO_off (b' := true) 223 rfl rfl rfl rfl (shO_off (b' := true) 223 rfl rfl rfl rfl (shO_off (b' := true) 223 rfl rfl rfl rfl (shO_off (b' := true) 223 rfl rfl rfl rfl (shO_off (b' := true) 223 rfl rfl rfl rfl (shO_off (b' := true) 223 rfl rfl rfl rfl (shO_off (b' := true) 223 rfl rfl rfl rfl ?_))))))))
             refine ov (v_pick_t rfl rfl) rfl ?_
             refine om rfl rfl (shO_off (b' := true) 233 rfl rfl rfl rfl (shO_off (b' := true) 233 rfl rfl rfl rfl (shO_off (b' := true) 233 rfl rfl rfl rfl (shO_off (b' := true) 233 rfl rfl rfl rfl (shO_off (b' := true) 233 rfl rfl rfl rfl ?_)))))
             refine ov (v_pick_t rfl rfl) rfl ?_
             refine om rfl rfl (shO_off (b' := true) 240 rfl rfl rfl rfl (shO_off (b' := true) 240 rfl rfl rfl rfl (shO_off (b' := true) 240 rfl rfl rfl rfl (shO_offU 243 rfl rfl rfl (shO_offU 243 rfl rfl rfl (shO_offU 243 rfl rfl rfl (shO_off (b' := true) 240 rfl rfl rfl rfl ?_)))))))
             refine ov (v_pick_t rfl rfl) rfl ?_
             refine shO_nil ?_
             obtain rfl := inj1 r281
             exact mi (kd (kc (kc (kc (kc kn))))) ⟨FExt.refl _, rfl, (sc rfl (sc rfl (sc rfl (sc rfl (sc rfl (sc rfl (sc rfl (sc rfl (sc rfl (sc rfl (sc rfl (sc rfl (sc rfl (sc rfl (sc rfl (sn _))))))))))))))))⟩
           have r282 := ite_f h278 c280; clear h278
           refine shO_on (b := false) 219 rfl (Env.isF rfl c280) (om rfl rfl (shO_on (b := false) 219 rfl (Env.isF rfl c280) ?_))
           refine ov (v_neq rfl rfl) rfl ?_
           refine ov (v_pick_f (evD_false rfl c280) rfl) rfl ?_
           refine om rfl rfl ?_
           by_cases c283 : n16 ≠ 0
           · have r284 := ite_t r282 c283; clear r282
             refine shO_off (b' := true) 223 rfl (Env.isT rfl c283) rfl rfl (shO_off (b' := true) 223 rfl (Env.isT rfl c283) rfl rfl (shO_off (b' := true) 223 rfl (Env.isT rfl c283) rfl rfl (shO_off (b' := true) 223 rfl (Env.isT rfl c283) rfl rfl (shO_off (b' := true) 223 rfl (Env.isT rfl c283) rfl rfl (shO_off (b' := true) 223 rfl (Env.isT rfl c283) rfl rfl (shO_off (b' := true) 223 rfl (Env.isT rfl c283) rfl rfl (shO_off (b' := true) 223 rfl (Env.isT rfl c283) rfl rfl ?_)))))))
             refine ov (v_pick_t (evD_true rfl c283) rfl) rfl ?_
             refine om rfl rfl (shO_off (b' := true) 233 rfl rfl rfl rfl (shO_off (b' := true) 233 rfl rfl rfl rfl (shO_off (b' := true) 233 rfl rfl rfl rfl (shO_off (b' := true) 233 rfl rfl rfl rfl (shO_off (b' := true) 233 rfl rfl rfl rfl ?_)))))
             refine ov (v_pick_t rfl rfl) rfl ?_
             refine om rfl rfl (shO_off (b' := true) 240 rfl rfl rfl rfl (shO_off (b' := true) 240 rfl rfl rfl rfl (shO_off (b' := true) 240 rfl rfl rfl rfl (shO_offU 243 rfl rfl rfl (shO_offU 243 rfl rfl rfl (shO_offU 243 rfl rfl rfl (shO_off (b' := true) 240 rfl rfl rfl rfl ?_)))))))
             refine ov (v_pick_t rfl rfl) rfl ?_
             refine shO_nil ?_
             obtain rfl := inj1 r284
             exact mi (kd (kc (kc (kc (kc kn))))) ⟨FExt.refl _, rfl, (sc rfl (sc rfl (sc rfl (sc rfl (sc rfl (sc rfl (sc rfl (sc rfl (sc rfl (sc rfl (sc rfl (sc rfl (sc rfl (sc rfl (sc rfl (sn _))))))))))))))))⟩
           have r285 := ite_f r282 c283; clear r282
           refine shO_on (b := false) 223 rfl (Env.isF rfl c283) (om rfl rfl (shO_on (b := false) 223 rfl (Env.isF rfl c283) (om rfl rfl (shO_on (b := false) 223 rfl (Env.isF rfl c283) (om rfl rfl (shO_on (b := false) 223 rfl (Env.isF rfl c283) ?_))))))
           refine o_buildSlice (cs := #[.int .i64 n11, .int .i64 n12]) rfl rfl (buildSlice_all slt_27 [.int .i64 n11, .int .i64 n12] rfl (by decide) (by simp [Value.cells]) (by decide)) ?_; intro b286 hb286
           refine shO_on (b := false) 223 rfl (Env.isF rfl c283) (om rfl rfl (shO_on (b := false) 223 rfl (Env.isF rfl c283) ?_))
           refine shO_freeze 0 rfl hb286 ?_; intro F287 hF288 hz289
           refine shO_L (L' := (b262, .cells #[.slice a253 n257 c254, .slice a259 l6.length c260] 26 (0, 0)) :: ((b43, .cells #[.slice a44 metal2.length c45, .int .i64 q_at3, .int .u32 q_turn3] 104 (0, 0)) :: ((b97, .cells #[.int .i64 p_hour, .int .i64 p_man] 59 (0, 0)) :: ((b51, .cells #[.int .i64 n3, .int .i64 n4] 59 (0, 0)) :: ((b36, .cells #[.slice a17 l.length c18, .slice a23 l2.length c24] 26 (0, 0)) :: (Lb273 ++ (Lb255 ++ []))))))) rfl ?_
           have h290 : RowR 1 (iE .i64) F287 (some ⟨b286, 0, none⟩) 2 [n11, n12] := RowR.of_block (iE_ok _) (vss := [[.int .i64 n11], [.int .i64 n12]]) (xs := [n11, n12]) hz289 (.cons rfl (.cons rfl .nil)) rfl (by simp [maxLen])
           obtain ⟨x4, g291, hx292, r293⟩ := ix_ok r285; clear r285
           obtain ⟨b294, o295, c296, vs297, ha298, hs299, hle300, rfl, hl301, hc302⟩ := RowR.at (iE_ok _) h290 ((b262, .cells #[.slice a253 n257 c254, .slice a259 l6.length c260] 26 (0, 0)) :: ((b43, .cells #[.slice a44 metal2.length c45, .int .i64 q_at3, .int .u32 q_turn3] 104 (0, 0)) :: ((b97, .cells #[.int .i64 p_hour, .int .i64 p_man] 59 (0, 0)) :: ((b51, .cells #[.int .i64 n3, .int .i64 n4] 59 (0, 0)) :: ((b36, .cells #[.slice a17 l.length c18, .slice a23 l2.length c24] 26 (0, 0)) :: (Lb273 ++ (Lb255 ++ []))))))) g291.1 hx292
           refine ov (v_indexO Try.underlying27 Try.sizeOf3 rfl ha298 rfl g291) rfl ?_
           refine shO_on (b := false) 223 rfl (Env.isF rfl c283) ?_
           refine ov (v_load Try.isAgg3 rfl hs299 (hc302 0 (by decide))) rfl ?_
           refine shO_on (b := false) 223 rfl (Env.isF rfl c283) ?_
           refine ov (v_neq rfl rfl) rfl ?_
           refine ov (v_pick_f (evD_false rfl c283) rfl) rfl ?_
           refine om rfl rfl ?_
           by_cases c303 : n15 ≠ x4
           · have r304 := ite_t r293 c303; clear r293
             refine shO_off (b' := true) 233 rfl (Env.isT rfl c303) rfl rfl (shO_off (b' := true) 233 rfl (Env.isT rfl c303) rfl rfl (shO_off (b' := true) 233 rfl (Env.isT rfl c303) rfl rfl (shO_off (b' := true) 233 rfl (Env.isT rfl c303) rfl rfl (shO_off (b' := true) 233 rfl (Env.isT rfl c303) rfl rfl ?_))))
             refine ov (v_pick_t (evD_true rfl c303) rfl) rfl ?_
             refine om rfl rfl (shO_off (b' := true) 240 rfl rfl rfl rfl (shO_off (b' := true) 240 rfl rfl rfl rfl (shO_off (b' := true) 240 rfl rfl rfl rfl (shO_offU 243 rfl rfl rfl (shO_offU 243 rfl rfl rfl (shO_offU 243 rfl rfl rfl (shO_off (b' := true) 240 rfl rfl rfl rfl ?_)))))))
             refine ov (v_pick_t rfl rfl) rfl ?_
             refine shO_nil ?_
             obtain rfl := inj1 r304
             exact mi (kd (kc (kc (kc (kc kn))))) ⟨hF288, rfl, (sc rfl (sc rfl (sc rfl (sc rfl (sc rfl (sc rfl (sc rfl (sc rfl (sc rfl (sc rfl (sc rfl (sc rfl (sc rfl (sc rfl (sc rfl (sn _))))))))))))))))⟩
           have r305 := ite_f r293 c303; clear r293
           refine shO_on (b := false) 233 rfl (Env.isF rfl c303) (om rfl rfl (shO_on (b := false) 233 rfl (Env.isF rfl c303) ?_))
           refine ov (v_gtrK rfl rfl) rfl ?_
           refine shO_on (b := false) 233 rfl (Env.isF rfl c303) (om rfl rfl (shO_on (b := false) 233 rfl (Env.isF rfl c303) ?_))
           refine ov (v_eql rfl rfl) rfl ?_
           refine shO_on (b := false) 233 rfl (Env.isF rfl c303) ?_
           refine ov (v_neqB Try.underlying4 rfl rfl) rfl ?_
           refine ov (v_pick_f (evD_false rfl c303) rfl) rfl ?_
           refine om rfl rfl ?_
           by_cases c306 : (decide (0 < n15)) ≠ (decide (n18 = 0))
           · have r307 := ite_t r305 c306; clear r305
             refine shO_off (b' := true) 240 rfl (Env.isT rfl c306) rfl rfl (shO_off (b' := true) 240 rfl (Env.isT rfl c306) rfl rfl (shO_off (b' := true) 240 rfl (Env.isT rfl c306) rfl rfl (shO_offU 243 rfl rfl rfl (shO_offU 243 rfl rfl rfl (shO_offU 243 rfl rfl rfl (shO_off (b' := true) 240 rfl (Env.isT rfl c306) rfl rfl ?_))))))
             refine ov (v_pick_t (evD_true rfl c306) rfl) rfl ?_
             refine shO_nil ?_
             obtain rfl := inj1 r307
             exact mi (kd (kc (kc (kc (kc kn))))) ⟨hF288, rfl, (sc rfl (sc rfl (sc rfl (sc rfl (sc rfl (sc rfl (sc rfl (sc rfl (sc rfl (sc rfl (sc rfl (sc rfl (sc rfl (sc rfl (sc rfl (sn _))))))))))))))))⟩
           have r308 := ite_f r305 c306; clear r305
           refine shO_on (b := false) 240 rfl (Env.isF rfl c306) (om rfl rfl (shO_on (b := false) 240 rfl (Env.isF rfl c306) ?_))
           refine ov (v_eql rfl rfl) rfl ?_
           refine shO_on (b := false) 240 rfl (Env.isF rfl c306) (om rfl rfl ?_)
           by_cases c309 : n18 = 0
           · have r310 := ite_t r308 c309; clear r308
             refine shO_on (b := true) 243 rfl (Env.isT rfl c309) (om rfl rfl (shO_on (b := true) 243 rfl (Env.isT rfl c309) (om rfl rfl (shO_on (b := true) 243 rfl (Env.isT rfl c309) ?_))))
             refine ov (v_lssK rfl rfl) rfl ?_
             refine shO_on (b := false) 240 rfl (Env.isF rfl c306) ?_
             refine ov (v_pick_t (evD_true rfl c309) rfl) rfl ?_
             refine ov (v_pick_f (evD_false rfl c306) rfl) rfl ?_
             refine shO_nil ?_
             obtain rfl := inj1 r310
             exact mi (kd (kc (kc (kc (kc kn))))) ⟨hF288, rfl, (sc rfl (sc rfl (sc rfl (sc rfl (sc rfl (sc rfl (sc rfl (sc rfl (sc rfl (sc rfl (sc rfl (sc rfl (sc rfl (sc rfl (sc rfl (sn _))))))))))))))))⟩
           have r311 := ite_f r308 c309; clear r308
           refine shO_off (b' := false) 243 rfl (Env.isF rfl c309) rfl rfl (shO_off (b' := false) 243 rfl (Env.isF rfl c309) rfl rfl (shO_off (b' := false) 243 rfl (Env.isF rfl c309) rfl rfl (shO_on (b := false) 240 rfl (Env.isF rfl c306) ?_)))
           refine ov (v_pick_f (evD_false rfl c309) rfl) rfl ?_
           refine ov (v_pick_f (evD_false rfl c306) rfl) rfl ?_
           refine shO_nil ?_
           obtain rfl := inj1 r311
           exact mi (kd (kc (kc (kc (kc kn))))) ⟨hF288, rfl, (sc rfl (sc rfl (sc rfl (sc rfl (sc rfl (sc rfl (sc rfl (sc rfl (sc rfl (sc rfl (sc rfl (sc rfl (sc rfl (sc rfl (sc rfl (sn _))))))))))))))))⟩
         rintro e1 F313 _ ⟨hF314, rfl, he312⟩
         refine shW_env _ he312 ?_; clear he312
         refine shW_cond rfl (fun c315 => ?_) (fun c315 => ?_)
         · have r316 := bt r279 c315; clear r279
           refine wsr (oa rfl rfl (shO_nil ?_))
           refine kW kn ?_
           refine shW_ret (inBlock_ret (andThen_ret (andThen_ret (inBlock_ret (inBlock_ret (andThen_ret (andThen_ret (inBlock_ret (andThen_ret ?_)))))))))
           refine q_res1 Try.results6 (res_tmp rfl) (sr) ?_
           obtain rfl := inj1 r316
           exact rfl
         have r317 := bf r279 c315; clear r279
         refine shW_skip (inBlock_n (id := 3) (shW_region ?_))
         refine ov (v_add rfl rfl (Ctr.r64 hk226 c233 g224)) rfl ?_
         refine om rfl rfl (shO_nil ?_)
         exact le kr ⟨_, hk234, r317, (((hF231.trans hF250).trans hF268).trans hF314), rfl, (sc rfl (sc rfl (sc rfl (sc rfl (sc rfl (sc rfl (sc rfl (sc rfl (sc rfl (sc rfl (sc rfl (sc rfl (sc rfl (sc rfl (sn _)))))))))))))))⟩
       obtain rfl := Ctr.zero hk226 c233
       rw [oyezlaw05_NightKnown_l4] at r228
       refine shW_exit (andThen_exit (andThen_exit ?_))
       refine inBlock_exit ?_
       refine inBlock_n (id := 1) ?_
       exact mi (kc (kd kr)) ⟨q_at3, q_turn3, r228, ((hF127.trans hF221).trans hF231), rfl, (sc rfl (sc rfl (sc rfl (sc rfl (sc rfl (sc rfl (sc rfl (sc rfl (sn _)))))))))⟩
     rintro e1 F320 _ ⟨q_at2, q_turn2, r318, hF321, rfl, he319⟩
     refine shW_env _ he319 ?_; clear he319
     rw [oyezlaw05_NightKnown_j3] at r318
     refine shW_region ?_
     refine ov (v_add rfl rfl (Ctr.r64 hk88 c95 g86)) rfl ?_
     refine om rfl rfl (shO_nil ?_)
     refine lf ?_
     exact mf (kf (fC fO) kr) ⟨_, hk96, q_at2, q_turn2, r318, (hF93.trans hF321), rfl, (sc rfl (sc rfl (sc rfl (sc rfl (sc rfl (sc rfl (sc rfl (sc rfl (sn _)))))))))⟩
   obtain rfl := Ctr.zero hk88 c95
   rw [oyezlaw05_NightKnown_l2] at r90
   refine shW_exit (andThen_exit (andThen_exit ?_))
   refine inBlock_exit ?_
   exact mi kn ⟨r90, ((hF81.trans hF84).trans hF93), rfl, (sn _)⟩
 rintro e1 F324 _ ⟨r322, hF325, rfl, he323⟩
 refine shW_env _ he323 ?_; clear he323
 rw [oyezlaw05_NightKnown_j1] at r322
 refine wsr ?_
 obtain ⟨ok, h326, r327⟩ := b1_ok r322; clear r322
 refine o_callV rfl Try.call18 rfl rfl rfl (oyezlaw05_awake_w h326) ?_
 refine oa rfl rfl (shO_nil (shW_ret ?_))
 refine q_res1 Try.results6 (res_tmp rfl) (sr) ?_
 obtain rfl := inj1 r327
 exact rfl
end Go.Proofs.Ytjgeaaganpkceaa
