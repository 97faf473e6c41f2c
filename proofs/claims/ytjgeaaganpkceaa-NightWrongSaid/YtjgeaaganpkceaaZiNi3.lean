/- The walks that this claim needs, printed by a program of mine; part 3. -/
import Derived.Test.YtjgeaaganpkceaaZiNi2
namespace Go.Proofs.Ytjgeaaganpkceaa
open Go.SH Go.PL
set_option maxHeartbeats 1000000 in
theorem oyezlaw05_awake_w {F : FS} {r : Bool} (hr : oyezlaw05_awake = some r) :
    SpecV Try.prog 18 #[] F (.bool r) := by
 refine spec_of_shW (args := []) Try.func18 rfl Try.ntmps18 (Nat.le_of_ble_eq_true rfl) ?_
 intro K _ _; rw [oyezlaw05_awake] at hr
 refine wsr (oa rfl rfl (nsr ?_))
 obtain ⟨l, l2, h1, r2⟩ := b2_ok hr; clear hr
 refine o_call0 rfl Try.call69 rfl rfl rfl (oyezlaw05_Four_w h1) ?_; rintro _ F3 _ hF4 hn5 ⟨a7, n11, c8, Lb9, a13, n17, c14, Lb15, rfl, rfl, hz10, hz16⟩
 replace hz10 := hz10.new fun p hp => hn5 p (by simp [hp])
 replace hz16 := hz16.new fun p hp => hn5 p (by simp [hp])
 refine shO_L (lp (lp (ln rfl))) ?_
 obtain ⟨n, n2, h19, r20⟩ := b2_ok r2; clear r2
 refine o_callT (Lt := Lb9 ++ (Lb15 ++ [])) (Lr := []) rfl Try.call20 rfl rfl rfl (pT pR (lp (lp (ln rfl)))) (fun F2 h2 h3 => by rw [(SlR.caps hz10).1]; rw [(SlR.caps hz16).1]; exact night_Cries_w (hz10.row (slE_ok (iE_ok _)) h2 (fun p hp => h3 p (List.mem_append_left _ hp))) (hz16.row (slE_ok (iE_ok _)) h2 (fun p hp => h3 p (List.mem_append_right _ (List.mem_append_left _ hp)))) h19) ?_
 refine om rfl rfl (ox rfl rfl rfl (ox rfl rfl rfl (oa rfl rfl (oa rfl rfl (nsr ?_)))))
 obtain ⟨l3, l4, h21, r22⟩ := b2_ok r20; clear r20
 refine o_call0 rfl Try.call69 rfl rfl rfl (oyezlaw05_Four_w h21) ?_; rintro _ F23 _ hF24 hn25 ⟨a27, n31, c28, Lb29, a33, n37, c34, Lb35, rfl, rfl, hz30, hz36⟩
 replace hz30 := hz30.new fun p hp => hn25 p (by simp [hp])
 replace hz36 := hz36.new fun p hp => hn25 p (by simp [hp])
 refine shO_L (lp (lp (ln rfl))) ?_
 obtain ⟨l5, n3, n4, h39, r40⟩ := b3_ok r22; clear r22
 refine o_callTO (Lb := []) (Lt := Lb29 ++ (Lb35 ++ [])) (Lr := Lb9 ++ (Lb15 ++ [])) rfl Try.call14 rfl rfl rfl (pT pR (ln (lp (lp (ln rfl))))) (fun F2 h2 h3 => by rw [(SlR.caps hz30).1]; rw [(SlR.caps hz36).1]; exact night_Fewest_w (hz30.row (slE_ok (iE_ok _)) h2 (fun p hp => h3 p (List.mem_append_left _ hp))) (hz36.row (slE_ok (iE_ok _)) h2 (fun p hp => h3 p (List.mem_append_right _ (List.mem_append_left _ hp)))) h39) (fun _ _ _ _ hq => by obtain ⟨a45, n49, c46, Lb47, rfl, rfl, hz48⟩ := hq; exact ⟨_, _, _, _, rfl, rfl, hz48.flat (fun _ _ h => h)⟩) ?_; rintro _ F41 _ hF42 hd44 hn43 ⟨a45, n49, c46, Lb47, rfl, rfl, hz48⟩
 have hn51 := newp (Lb' := []) (by rfl) hd44 hn43
 replace hz48 := hz48.new fun p hp => hn51 p (by simp [hp])
 refine shO_L (lp (ln (lp (lp (ln rfl))))) ?_
 refine om rfl rfl (ox rfl rfl rfl (ox rfl rfl rfl (ox rfl rfl rfl (oa rfl rfl (oa rfl rfl (oa rfl rfl (nsr ?_)))))))
 obtain ⟨l6, l7, h52, r53⟩ := b2_ok r40; clear r40
 refine o_call0 rfl Try.call69 rfl rfl rfl (oyezlaw05_Four_w h52) ?_; rintro _ F54 _ hF55 hn56 ⟨a58, n62, c59, Lb60, a64, n68, c65, Lb66, rfl, rfl, hz61, hz67⟩
 replace hz48 := hz48.mono (iE_ok _) hF55
 replace hz61 := hz61.new fun p hp => hn56 p (by simp [hp])
 replace hz67 := hz67.new fun p hp => hn56 p (by simp [hp])
 refine shO_L (lp (lp (ln rfl))) ?_
 obtain ⟨n5, n6, h70, r71⟩ := b2_ok r53; clear r53
 refine o_callT (Lt := Lb60 ++ (Lb66 ++ [])) (Lr := Lb47 ++ (Lb29 ++ (Lb35 ++ (Lb9 ++ (Lb15 ++ []))))) rfl Try.call25 rfl rfl rfl (pT pR (lp (lp (ln rfl)))) (fun F2 h2 h3 => by rw [(SlR.caps hz61).1]; rw [(SlR.caps hz67).1]; exact night_Count_w (hz61.row (slE_ok (iE_ok _)) h2 (fun p hp => h3 p (List.mem_append_left _ hp))) (hz67.row (slE_ok (iE_ok _)) h2 (fun p hp => h3 p (List.mem_append_right _ (List.mem_append_left _ hp)))) h70) ?_
 refine om rfl rfl (ox rfl rfl rfl (ox rfl rfl rfl (oa rfl rfl (oa rfl rfl (nsr ?_)))))
 obtain ⟨l8, l9, h72, r73⟩ := b2_ok r71; clear r71
 refine o_call0 rfl Try.call69 rfl rfl rfl (oyezlaw05_Four_w h72) ?_; rintro _ F74 _ hF75 hn76 ⟨a78, n82, c79, Lb80, a84, n88, c85, Lb86, rfl, rfl, hz81, hz87⟩
 replace hz48 := hz48.mono (iE_ok _) hF75
 replace hz81 := hz81.new fun p hp => hn76 p (by simp [hp])
 replace hz87 := hz87.new fun p hp => hn76 p (by simp [hp])
 refine shO_L (lp (lp (ln rfl))) ?_
 obtain ⟨n7, n8, h90, r91⟩ := b2_ok r73; clear r73
 refine o_callT (Lt := Lb80 ++ (Lb86 ++ [])) (Lr := Lb60 ++ (Lb66 ++ (Lb47 ++ (Lb29 ++ (Lb35 ++ (Lb9 ++ (Lb15 ++ []))))))) rfl Try.call26 rfl rfl rfl (pT pR (lp (lp (ln rfl)))) (fun F2 h2 h3 => by rw [(SlR.caps hz81).1]; rw [(SlR.caps hz87).1]; exact night_Ways_w (hz81.row (slE_ok (iE_ok _)) h2 (fun p hp => h3 p (List.mem_append_left _ hp))) (hz87.row (slE_ok (iE_ok _)) h2 (fun p hp => h3 p (List.mem_append_right _ (List.mem_append_left _ hp)))) h90) ?_
 refine om rfl rfl (ox rfl rfl rfl (ox rfl rfl rfl (oa rfl rfl (oa rfl rfl (shO_nil (shW_seq ?_))))))
 obtain ⟨k, h92, r93⟩ := b1_ok r91; clear r91
 refine shW_join (fun e1 F1 L1 => FExt F74 F1 ∧ L1 = [] ∧ e1.sub [(71, .bool k)]) ?_ ?_
 · clear r93
   refine shW_region (om rfl rfl ?_)
   refine ov (v_neq rfl rfl) rfl ?_
   refine om rfl rfl ?_
   by_cases c94 : n2 ≠ 0
   · have r95 := ite_t h92 c94; clear h92
     refine shO_off (b' := true) 38 rfl (Env.isT rfl c94) rfl rfl (shO_off (b' := true) 38 rfl (Env.isT rfl c94) rfl rfl ?_)
     refine ov (v_pick_t (evD_true rfl c94) rfl) rfl ?_
     refine om rfl rfl (shO_off (b' := true) 42 rfl rfl rfl rfl (shO_off (b' := true) 42 rfl rfl rfl rfl ?_))
     refine ov (v_pick_t rfl rfl) rfl ?_
     refine om rfl rfl (shO_off (b' := true) 46 rfl rfl rfl rfl (shO_off (b' := true) 46 rfl rfl rfl rfl ?_))
     refine ov (v_pick_t rfl rfl) rfl ?_
     refine om rfl rfl (shO_off (b' := true) 50 rfl rfl rfl rfl (shO_off (b' := true) 50 rfl rfl rfl rfl ?_))
     refine ov (v_pick_t rfl rfl) rfl ?_
     refine om rfl rfl (shO_off (b' := true) 54 rfl rfl rfl rfl (shO_off (b' := true) 54 rfl rfl rfl rfl ?_))
     refine ov (v_pick_t rfl rfl) rfl ?_
     refine om rfl rfl (shO_off (b' := true) 58 rfl rfl rfl rfl (shO_off (b' := true) 58 rfl rfl rfl rfl (shO_off (b' := true) 58 rfl rfl rfl rfl (shO_off (b' := true) 58 rfl rfl rfl rfl ?_))))
     refine ov (v_pick_t rfl rfl) rfl ?_
     refine om rfl rfl (shO_off (b' := true) 64 rfl rfl rfl rfl (shO_off (b' := true) 64 rfl rfl rfl rfl ?_))
     refine ov (v_pick_t rfl rfl) rfl ?_
     refine om rfl rfl (shO_off (b' := true) 68 rfl rfl rfl rfl (shO_off (b' := true) 68 rfl rfl rfl rfl ?_))
     refine ov (v_pick_t rfl rfl) rfl ?_
     refine shO_nil ?_
     obtain rfl := inj1 r95
     exact mi kn ⟨FExt.refl _, rfl, (sc rfl (sn _))⟩
   have r96 := ite_f h92 c94; clear h92
   refine shO_on (b := false) 38 rfl (Env.isF rfl c94) (om rfl rfl (shO_on (b := false) 38 rfl (Env.isF rfl c94) ?_))
   refine ov (v_neq rfl rfl) rfl ?_
   refine ov (v_pick_f (evD_false rfl c94) rfl) rfl ?_
   refine om rfl rfl ?_
   by_cases c97 : n4 ≠ 0
   · have r98 := ite_t r96 c97; clear r96
     refine shO_off (b' := true) 42 rfl (Env.isT rfl c97) rfl rfl (shO_off (b' := true) 42 rfl (Env.isT rfl c97) rfl rfl ?_)
     refine ov (v_pick_t (evD_true rfl c97) rfl) rfl ?_
     refine om rfl rfl (shO_off (b' := true) 46 rfl rfl rfl rfl (shO_off (b' := true) 46 rfl rfl rfl rfl ?_))
     refine ov (v_pick_t rfl rfl) rfl ?_
     refine om rfl rfl (shO_off (b' := true) 50 rfl rfl rfl rfl (shO_off (b' := true) 50 rfl rfl rfl rfl ?_))
     refine ov (v_pick_t rfl rfl) rfl ?_
     refine om rfl rfl (shO_off (b' := true) 54 rfl rfl rfl rfl (shO_off (b' := true) 54 rfl rfl rfl rfl ?_))
     refine ov (v_pick_t rfl rfl) rfl ?_
     refine om rfl rfl (shO_off (b' := true) 58 rfl rfl rfl rfl (shO_off (b' := true) 58 rfl rfl rfl rfl (shO_off (b' := true) 58 rfl rfl rfl rfl (shO_off (b' := true) 58 rfl rfl rfl rfl ?_))))
     refine ov (v_pick_t rfl rfl) rfl ?_
     refine om rfl rfl (shO_off (b' := true) 64 rfl rfl rfl rfl (shO_off (b' := true) 64 rfl rfl rfl rfl ?_))
     refine ov (v_pick_t rfl rfl) rfl ?_
     refine om rfl rfl (shO_off (b' := true) 68 rfl rfl rfl rfl (shO_off (b' := true) 68 rfl rfl rfl rfl ?_))
     refine ov (v_pick_t rfl rfl) rfl ?_
     refine shO_nil ?_
     obtain rfl := inj1 r98
     exact mi kn ⟨FExt.refl _, rfl, (sc rfl (sn _))⟩
   have r99 := ite_f r96 c97; clear r96
   refine shO_on (b := false) 42 rfl (Env.isF rfl c97) (om rfl rfl (shO_on (b := false) 42 rfl (Env.isF rfl c97) ?_))
   refine ov (v_neq rfl rfl) rfl ?_
   refine ov (v_pick_f (evD_false rfl c97) rfl) rfl ?_
   refine om rfl rfl ?_
   by_cases c100 : n6 ≠ 0
   · have r101 := ite_t r99 c100; clear r99
     refine shO_off (b' := true) 46 rfl (Env.isT rfl c100) rfl rfl (shO_off (b' := true) 46 rfl (Env.isT rfl c100) rfl rfl ?_)
     refine ov (v_pick_t (evD_true rfl c100) rfl) rfl ?_
     refine om rfl rfl (shO_off (b' := true) 50 rfl rfl rfl rfl (shO_off (b' := true) 50 rfl rfl rfl rfl ?_))
     refine ov (v_pick_t rfl rfl) rfl ?_
     refine om rfl rfl (shO_off (b' := true) 54 rfl rfl rfl rfl (shO_off (b' := true) 54 rfl rfl rfl rfl ?_))
     refine ov (v_pick_t rfl rfl) rfl ?_
     refine om rfl rfl (shO_off (b' := true) 58 rfl rfl rfl rfl (shO_off (b' := true) 58 rfl rfl rfl rfl (shO_off (b' := true) 58 rfl rfl rfl rfl (shO_off (b' := true) 58 rfl rfl rfl rfl ?_))))
     refine ov (v_pick_t rfl rfl) rfl ?_
     refine om rfl rfl (shO_off (b' := true) 64 rfl rfl rfl rfl (shO_off (b' := true) 64 rfl rfl rfl rfl ?_))
     refine ov (v_pick_t rfl rfl) rfl ?_
     refine om rfl rfl (shO_off (b' := true) 68 rfl rfl rfl rfl (shO_off (b' := true) 68 rfl rfl rfl rfl ?_))
     refine ov (v_pick_t rfl rfl) rfl ?_
     refine shO_nil ?_
     obtain rfl := inj1 r101
     exact mi kn ⟨FExt.refl _, rfl, (sc rfl (sn _))⟩
   have r102 := ite_f r99 c100; clear r99
   refine shO_on (b := false) 46 rfl (Env.isF rfl c100) (om rfl rfl (shO_on (b := false) 46 rfl (Env.isF rfl c100) ?_))
   refine ov (v_neq rfl rfl) rfl ?_
   refine ov (v_pick_f (evD_false rfl c100) rfl) rfl ?_
   refine om rfl rfl ?_
   by_cases c103 : n8 ≠ 0
   · have r104 := ite_t r102 c103; clear r102
     refine shO_off (b' := true) 50 rfl (Env.isT rfl c103) rfl rfl (shO_off (b' := true) 50 rfl (Env.isT rfl c103) rfl rfl ?_)
     refine ov (v_pick_t (evD_true rfl c103) rfl) rfl ?_
     refine om rfl rfl (shO_off (b' := true) 54 rfl rfl rfl rfl (shO_off (b' := true) 54 rfl rfl rfl rfl ?_))
     refine ov (v_pick_t rfl rfl) rfl ?_
     refine om rfl rfl (shO_off (b' := true) 58 rfl rfl rfl rfl (shO_off (b' := true) 58 rfl rfl rfl rfl (shO_off (b' := true) 58 rfl rfl rfl rfl (shO_off (b' := true) 58 rfl rfl rfl rfl ?_))))
     refine ov (v_pick_t rfl rfl) rfl ?_
     refine om rfl rfl (shO_off (b' := true) 64 rfl rfl rfl rfl (shO_off (b' := true) 64 rfl rfl rfl rfl ?_))
     refine ov (v_pick_t rfl rfl) rfl ?_
     refine om rfl rfl (shO_off (b' := true) 68 rfl rfl rfl rfl (shO_off (b' := true) 68 rfl rfl rfl rfl ?_))
     refine ov (v_pick_t rfl rfl) rfl ?_
     refine shO_nil ?_
     obtain rfl := inj1 r104
     exact mi kn ⟨FExt.refl _, rfl, (sc rfl (sn _))⟩
   have r105 := ite_f r102 c103; clear r102
   refine shO_on (b := false) 50 rfl (Env.isF rfl c103) (om rfl rfl (shO_on (b := false) 50 rfl (Env.isF rfl c103) ?_))
   refine ov (v_neq rfl rfl) rfl ?_
   refine ov (v_pick_f (evD_false rfl c103) rfl) rfl ?_
   refine om rfl rfl ?_
   by_cases c106 : n ≠ 9
   · have r107 := ite_t r105 c106; clear r105
     refine shO_off (b' := true) 54 rfl (Env.isT rfl c106) rfl rfl (shO_off (b' := true) 54 rfl (Env.isT rfl c106) rfl rfl ?_)
     refine ov (v_pick_t (evD_true rfl c106) rfl) rfl ?_
     refine om rfl rfl (shO_off (b' := true) 58 rfl rfl rfl rfl (shO_off (b' := true) 58 rfl rfl rfl rfl (shO_off (b' := true) 58 rfl rfl rfl rfl (shO_off (b' := true) 58 rfl rfl rfl rfl ?_))))
     refine ov (v_pick_t rfl rfl) rfl ?_
     refine om rfl rfl (shO_off (b' := true) 64 rfl rfl rfl rfl (shO_off (b' := true) 64 rfl rfl rfl rfl ?_))
     refine ov (v_pick_t rfl rfl) rfl ?_
     refine om rfl rfl (shO_off (b' := true) 68 rfl rfl rfl rfl (shO_off (b' := true) 68 rfl rfl rfl rfl ?_))
     refine ov (v_pick_t rfl rfl) rfl ?_
     refine shO_nil ?_
     obtain rfl := inj1 r107
     exact mi kn ⟨FExt.refl _, rfl, (sc rfl (sn _))⟩
   have r108 := ite_f r105 c106; clear r105
   refine shO_on (b := false) 54 rfl (Env.isF rfl c106) (om rfl rfl (shO_on (b := false) 54 rfl (Env.isF rfl c106) ?_))
   refine ov (v_neq rfl rfl) rfl ?_
   refine ov (v_pick_f (evD_false rfl c106) rfl) rfl ?_
   refine om rfl rfl ?_
   by_cases c109 : n3 ≠ 1
   · have r110 := ite_t r108 c109; clear r108
     refine shO_off (b' := true) 58 rfl (Env.isT rfl c109) rfl rfl (shO_off (b' := true) 58 rfl (Env.isT rfl c109) rfl rfl (shO_off (b' := true) 58 rfl (Env.isT rfl c109) rfl rfl (shO_off (b' := true) 58 rfl (Env.isT rfl c109) rfl rfl ?_)))
     refine ov (v_pick_t (evD_true rfl c109) rfl) rfl ?_
     refine om rfl rfl (shO_off (b' := true) 64 rfl rfl rfl rfl (shO_off (b' := true) 64 rfl rfl rfl rfl ?_))
     refine ov (v_pick_t rfl rfl) rfl ?_
     refine om rfl rfl (shO_off (b' := true) 68 rfl rfl rfl rfl (shO_off (b' := true) 68 rfl rfl rfl rfl ?_))
     refine ov (v_pick_t rfl rfl) rfl ?_
     refine shO_nil ?_
     obtain rfl := inj1 r110
     exact mi kn ⟨FExt.refl _, rfl, (sc rfl (sn _))⟩
   have r111 := ite_f r108 c109; clear r108
   refine shO_on (b := false) 58 rfl (Env.isF rfl c109) (om rfl rfl (shO_on (b := false) 58 rfl (Env.isF rfl c109) ?_))
   refine o_buildSlice (cs := #[.int .i64 2, .int .i64 2]) rfl rfl (buildSlice_all slt_27 [.int .i64 2, .int .i64 2] rfl (by decide) (by simp [Value.cells]) (by decide)) ?_; intro b112 hb112
   refine shO_on (b := false) 58 rfl (Env.isF rfl c109) ?_
   refine shO_freeze 0 rfl hb112 ?_; intro F113 hF114 hz115
   refine shO_L (L' := Lb80 ++ (Lb86 ++ (Lb60 ++ (Lb66 ++ (Lb47 ++ (Lb29 ++ (Lb35 ++ (Lb9 ++ (Lb15 ++ []))))))))) rfl ?_
   replace hz48 := hz48.mono (iE_ok _) hF114
   have h116 : RowR 1 (iE .i64) F113 (some ⟨b112, 0, none⟩) 2 [2, 2] := RowR.of_block (iE_ok _) (vss := [[.int .i64 2], [.int .i64 2]]) (xs := [2, 2]) hz115 (.cons rfl (.cons rfl .nil)) rfl (by simp [maxLen])
   obtain ⟨ok, h117, r118⟩ := b1_ok r111; clear r111
   refine o_callT (Lt := Lb47 ++ []) (Lr := Lb80 ++ (Lb86 ++ (Lb60 ++ (Lb66 ++ (Lb29 ++ (Lb35 ++ (Lb9 ++ (Lb15 ++ [])))))))) rfl Try.call28 rfl rfl rfl (pT ((fS (fS (fS (fS fP)))).trans (pA pR)) (lp (ln rfl))) (fun F2 h2 h3 => by rw [(SlR.caps hz48).1]; exact oyezkit_Like_int_w (hz48.row (iE_ok _) h2 (fun p hp => h3 p (List.mem_append_left _ hp))) (h116.mono (iE_ok _) h2) h117) ?_
   refine shO_on (b := false) 58 rfl (Env.isF rfl c109) ?_
   refine ov (v_notB rfl) rfl ?_
   refine ov (v_pick_f (evD_false rfl c109) rfl) rfl ?_
   refine om rfl rfl ?_
   rcases bool_two (!ok) with c119 | c119
   · have r120 := bt r118 c119; clear r118
     refine shO_off (b' := true) 64 rfl (EnvB rfl c119) rfl rfl (shO_off (b' := true) 64 rfl (EnvB rfl c119) rfl rfl ?_)
     refine ov (v_pick_t (evB rfl c119) rfl) rfl ?_
     refine om rfl rfl (shO_off (b' := true) 68 rfl rfl rfl rfl (shO_off (b' := true) 68 rfl rfl rfl rfl ?_))
     refine ov (v_pick_t rfl rfl) rfl ?_
     refine shO_nil ?_
     obtain rfl := inj1 r120
     exact mi kn ⟨hF114, rfl, (sc rfl (sn _))⟩
   have r121 := bf r118 c119; clear r118
   refine shO_on (b := false) 64 rfl (EnvB rfl c119) (om rfl rfl (shO_on (b := false) 64 rfl (EnvB rfl c119) ?_))
   refine ov (v_neq rfl rfl) rfl ?_
   refine ov (v_pick_f (evB rfl c119) rfl) rfl ?_
   refine om rfl rfl ?_
   by_cases c122 : n5 ≠ 42
   · have r123 := ite_t r121 c122; clear r121
     refine shO_off (b' := true) 68 rfl (Env.isT rfl c122) rfl rfl (shO_off (b' := true) 68 rfl (Env.isT rfl c122) rfl rfl ?_)
     refine ov (v_pick_t (evD_true rfl c122) rfl) rfl ?_
     refine shO_nil ?_
     obtain rfl := inj1 r123
     exact mi kn ⟨hF114, rfl, (sc rfl (sn _))⟩
   have r124 := ite_f r121 c122; clear r121
   refine shO_on (b := false) 68 rfl (Env.isF rfl c122) (om rfl rfl (shO_on (b := false) 68 rfl (Env.isF rfl c122) ?_))
   refine ov (v_neq rfl rfl) rfl ?_
   refine ov (v_pick_f (evD_false rfl c122) rfl) rfl ?_
   refine shO_nil ?_
   obtain rfl := inj1 r124
   exact mi kn ⟨hF114, rfl, (sc rfl (sn _))⟩
 rintro e1 F126 _ ⟨hF127, rfl, he125⟩
 refine shW_env _ he125 ?_; clear he125
 refine shW_cond rfl (fun c128 => ?_) (fun c128 => ?_)
 · have r129 := bt r93 c128; clear r93
   refine wsr (oa rfl rfl (shO_nil (shW_ret (andThen_ret ?_))))
   refine q_res1 Try.results18 (res_tmp rfl) (sr) ?_
   obtain rfl := inj1 r129
   exact rfl
 have r130 := bf r93 c128; clear r93
 refine shW_skip (wsr ?_)
 obtain ⟨l10, l11, h131, r132⟩ := b2_ok r130; clear r130
 refine o_call0 rfl Try.call69 rfl rfl rfl (oyezlaw05_Four_w h131) ?_; rintro _ F133 _ hF134 hn135 ⟨a137, n141, c138, Lb139, a143, n147, c144, Lb145, rfl, rfl, hz140, hz146⟩
 replace hz140 := hz140.new fun p hp => hn135 p (by simp [hp])
 replace hz146 := hz146.new fun p hp => hn135 p (by simp [hp])
 refine shO_L (lp (lp (ln rfl))) ?_
 obtain rfl := (SlR.caps hz140).1
 refine shO_freezeR (Nat.le_refl _) (slE_ok (iE_ok _)) fP hz140 ?_; intro F149 hF150 h151
 replace hz146 := hz146.mono (slE_ok (iE_ok _)) hF150
 obtain rfl := (SlR.caps hz146).1
 refine shO_freezeR (Nat.le_refl _) (slE_ok (iE_ok _)) fP hz146 ?_; intro F152 hF153 h154
 replace h151 := h151.mono (slE_ok (iE_ok _)) hF153
 obtain ⟨l12, n9, h155, r156⟩ := b2_ok r132; clear r132
 refine o_call0 rfl Try.call36 rfl rfl rfl (night_Verdicts_w h151 h154 h155) ?_; rintro _ F157 _ hF158 hn159 ⟨a161, n165, c162, Lb163, rfl, rfl, hz164⟩
 replace hz164 := hz164.new fun p hp => hn159 p (by simp [hp])
 refine shO_L (lp (ln rfl)) ?_
 refine om rfl rfl (ox rfl rfl rfl (ox rfl rfl rfl (oa rfl rfl (oa rfl rfl (nsr ?_)))))
 obtain ⟨l13, l14, h167, r168⟩ := b2_ok r156; clear r156
 refine o_call0 rfl Try.call69 rfl rfl rfl (oyezlaw05_Four_w h167) ?_; rintro _ F169 _ hF170 hn171 ⟨a173, n177, c174, Lb175, a179, n183, c180, Lb181, rfl, rfl, hz176, hz182⟩
 replace hz164 := hz164.mono (slE_ok (iE_ok _)) hF170
 replace hz176 := hz176.new fun p hp => hn171 p (by simp [hp])
 replace hz182 := hz182.new fun p hp => hn171 p (by simp [hp])
 refine shO_L (lp (lp (ln rfl))) ?_
 obtain rfl := (SlR.caps hz176).1
 refine shO_freezeR (Nat.le_refl _) (slE_ok (iE_ok _)) fP hz176 ?_; intro F185 hF186 h187
 replace hz164 := hz164.mono (slE_ok (iE_ok _)) hF186
 replace hz182 := hz182.mono (slE_ok (iE_ok _)) hF186
 obtain rfl := (SlR.caps hz182).1
 refine shO_freezeR (Nat.le_refl _) (slE_ok (iE_ok _)) fP hz182 ?_; intro F188 hF189 h190
 replace h187 := h187.mono (slE_ok (iE_ok _)) hF189
 replace hz164 := hz164.mono (slE_ok (iE_ok _)) hF189
 obtain ⟨l15, n10, h191, r192⟩ := b2_ok r168; clear r168
 refine o_call0 rfl Try.call17 rfl rfl rfl (night_Men_w h187 h190 h191) ?_; rintro _ F193 _ hF194 hn195 ⟨a197, c198, rfl, rfl, h199⟩
 replace hz164 := hz164.mono (slE_ok (iE_ok _)) hF194
 refine shO_L (ln rfl) ?_
 refine om rfl rfl (ox rfl rfl rfl (ox rfl rfl rfl (oa rfl rfl (oa rfl rfl (nsr ?_)))))
 obtain ⟨l16, l17, h200, r201⟩ := b2_ok r192; clear r192
 refine o_call0 rfl Try.call69 rfl rfl rfl (oyezlaw05_Four_w h200) ?_; rintro _ F202 _ hF203 hn204 ⟨a206, n210, c207, Lb208, a212, n216, c213, Lb214, rfl, rfl, hz209, hz215⟩
 replace h199 := h199.mono (iE_ok _) hF203
 replace hz164 := hz164.mono (slE_ok (iE_ok _)) hF203
 replace hz209 := hz209.new fun p hp => hn204 p (by simp [hp])
 replace hz215 := hz215.new fun p hp => hn204 p (by simp [hp])
 refine shO_L (lp (lp (ln rfl))) ?_
 refine ov (v_build (v := .agg #[.int .i64 0, .int .i64 1]) rfl (by intro w; kernel_rfl)) rfl ?_
 obtain ⟨n11, n12, n13, h218, r219⟩ := b3_ok r201; clear r201
 refine o_callT (Lt := Lb208 ++ (Lb214 ++ [])) (Lr := Lb163 ++ []) rfl Try.call30 rfl rfl rfl (pT pR (lp (lp (ln rfl)))) (fun F2 h2 h3 => by rw [(SlR.caps hz209).1]; rw [(SlR.caps hz215).1]; exact night_Split_w (hz209.row (slE_ok (iE_ok _)) h2 (fun p hp => h3 p (List.mem_append_left _ hp))) (hz215.row (slE_ok (iE_ok _)) h2 (fun p hp => h3 p (List.mem_append_right _ (List.mem_append_left _ hp)))) h218) ?_
 refine om rfl rfl (ox rfl rfl rfl (ox rfl rfl rfl (ox rfl rfl rfl (oa rfl rfl (oa rfl rfl (oa rfl rfl (nsr ?_)))))))
 obtain ⟨l18, l19, h220, r221⟩ := b2_ok r219; clear r219
 refine o_call0 rfl Try.call69 rfl rfl rfl (oyezlaw05_Four_w h220) ?_; rintro _ F222 _ hF223 hn224 ⟨a226, n230, c227, Lb228, a232, n236, c233, Lb234, rfl, rfl, hz229, hz235⟩
 replace h199 := h199.mono (iE_ok _) hF223
 replace hz164 := hz164.mono (slE_ok (iE_ok _)) hF223
 replace hz229 := hz229.new fun p hp => hn224 p (by simp [hp])
 replace hz235 := hz235.new fun p hp => hn224 p (by simp [hp])
 refine shO_L (lp (lp (ln rfl))) ?_
 obtain ⟨n14, n15, n16, h238, r239⟩ := b3_ok r221; clear r221
 refine o_callT (Lt := Lb228 ++ (Lb234 ++ [])) (Lr := Lb208 ++ (Lb214 ++ (Lb163 ++ []))) rfl Try.call15 rfl rfl rfl (pT pR (lp (lp (ln rfl)))) (fun F2 h2 h3 => by rw [(SlR.caps hz229).1]; rw [(SlR.caps hz235).1]; exact night_Most_w (hz229.row (slE_ok (iE_ok _)) h2 (fun p hp => h3 p (List.mem_append_left _ hp))) (hz235.row (slE_ok (iE_ok _)) h2 (fun p hp => h3 p (List.mem_append_right _ (List.mem_append_left _ hp)))) h238) ?_
 refine om rfl rfl (ox rfl rfl rfl (ox rfl rfl rfl ?_))
 refine o_alloc rfl Try.zeroValue36 ?_; intro b240 hb240
 refine o_storeA (i := 0) Try.sizeOf36 rfl rfl rfl (by simp [Value.oneCell']) rfl (Nat.le_of_ble_eq_true rfl) ?_
 refine shO_L (L' := (b240, .cells #[.int .i64 n14, .int .i64 n15] 36 (0, 0)) :: (Lb228 ++ (Lb234 ++ (Lb208 ++ (Lb214 ++ (Lb163 ++ [])))))) rfl ?_
 refine oa rfl rfl (nsr (om rfl rfl ?_))
 refine ov (v_eql rfl rfl) rfl ?_
 refine om rfl rfl ?_
 by_cases c241 : n9 = 0
 · have r242 := ite_t r239 c241; clear r239
   refine shO_on (b := true) 96 rfl (Env.isT rfl c241) (om rfl rfl (shO_on (b := true) 96 rfl (Env.isT rfl c241) ?_))
   refine ov (v_eql rfl rfl) rfl ?_
   refine ov (v_pick_t (evD_true rfl c241) rfl) rfl ?_
   refine om rfl rfl ?_
   by_cases c243 : n10 = 0
   · have r244 := ite_t r242 c243; clear r242
     refine shO_on (b := true) 100 rfl (Env.isT rfl c243) (om rfl rfl (shO_on (b := true) 100 rfl (Env.isT rfl c243) ?_))
     refine ov (v_eql rfl rfl) rfl ?_
     refine ov (v_pick_t (evD_true rfl c243) rfl) rfl ?_
     refine om rfl rfl ?_
     by_cases c245 : n13 = 0
     · have r246 := ite_t r244 c245; clear r244
       refine shO_on (b := true) 104 rfl (Env.isT rfl c245) (om rfl rfl (shO_on (b := true) 104 rfl (Env.isT rfl c245) ?_))
       refine ov (v_eql rfl rfl) rfl ?_
       refine ov (v_pick_t (evD_true rfl c245) rfl) rfl ?_
       refine om rfl rfl ?_
       by_cases c247 : n16 = 0
       · have r248 := ite_t r246 c247; clear r246
         refine shO_on (b := true) 108 rfl (Env.isT rfl c247) (om rfl rfl (shO_on (b := true) 108 rfl (Env.isT rfl c247) ?_))
         refine ov ((v_lenS Try.underlying71 rfl).i (SlR.lenI hz164)) rfl ?_
         refine shO_on (b := true) 108 rfl (Env.isT rfl c247) ?_
         refine ov (v_eql rfl rfl) rfl ?_
         refine ov (v_pick_t (evD_true rfl c247) rfl) rfl ?_
         refine om rfl rfl ?_
         by_cases c249 : (l12.length : Int) = 2
         · have r250 := ite_t r248 c249; clear r248
           refine shO_on (b := true) 113 rfl (Env.isT rfl c249) (om rfl rfl (shO_on (b := true) 113 rfl (Env.isT rfl c249) ?_))
           obtain ⟨x, g251, hx252, r253⟩ := ix_ok r250; clear r250
           obtain ⟨b254, o255, c256, vs257, ha258, hs259, hle260, ⟨a263, c264, rfl, h265⟩, hl261, hc262⟩ := SlR.at (slE_ok (iE_ok _)) hz164 (L := (b240, .cells #[.int .i64 n14, .int .i64 n15] 36 (0, 0)) :: (Lb228 ++ (Lb234 ++ (Lb208 ++ (Lb214 ++ (Lb163 ++ [])))))) (fC (fS (fS (fS (fS fP))))) g251.1 hx252
           refine ov (v_indexO Try.underlying71 Try.sizeOf80 rfl ha258 rfl (SlR.idx hz164 g251)) rfl ?_
           refine shO_on (b := true) 113 rfl (Env.isT rfl c249) ?_
           refine ov (v_load Try.isAgg80 rfl hs259 (hc262 0 (by decide))) rfl ?_
           refine shO_on (b := true) 113 rfl (Env.isT rfl c249) ?_
           refine o_buildSlice (cs := #[.int .i64 2, .int .i64 0, .int .i64 0, .int .i64 2]) rfl rfl (buildSlice_all slt_80 [.int .i64 2, .int .i64 0, .int .i64 0, .int .i64 2] rfl (by decide) (by simp [Value.cells]) (by decide)) ?_; intro b266 hb266
           refine shO_on (b := true) 113 rfl (Env.isT rfl c249) ?_
           refine shO_freeze 0 rfl hb266 ?_; intro F267 hF268 hz269
           refine shO_L (L' := (b240, .cells #[.int .i64 n14, .int .i64 n15] 36 (0, 0)) :: (Lb228 ++ (Lb234 ++ (Lb208 ++ (Lb214 ++ (Lb163 ++ [])))))) rfl ?_
           replace h199 := h199.mono (iE_ok _) hF268
           replace h265 := h265.mono (iE_ok _) hF268
           have h270 : RowR 1 (iE .i64) F267 (some ⟨b266, 0, none⟩) 4 [2, 0, 0, 2] := RowR.of_block (iE_ok _) (vss := [[.int .i64 2], [.int .i64 0], [.int .i64 0], [.int .i64 2]]) (xs := [2, 0, 0, 2]) hz269 (.cons rfl (.cons rfl (.cons rfl (.cons rfl .nil)))) rfl (by simp [maxLen])
           obtain ⟨ok2, h271, r272⟩ := b1_ok r253; clear r253
           refine o_callV rfl Try.call70 rfl rfl rfl (oyezkit_Like_Verdict_w h265 h270 h271) ?_
           refine ov (v_pick_t (evD_true rfl c249) rfl) rfl ?_
           refine om rfl rfl ?_
           rcases bool_two ok2 with c273 | c273
           · have r274 := bt r272 c273; clear r272
             refine shO_on (b := true) 120 rfl (EnvB rfl c273) (om rfl rfl (shO_on (b := true) 120 rfl (EnvB rfl c273) ?_))
             refine o_buildSlice (cs := #[.int .i64 1]) rfl rfl (buildSlice_all slt_27 [.int .i64 1] rfl (by decide) (by simp [Value.cells]) (by decide)) ?_; intro b275 hb275
             refine shO_on (b := true) 120 rfl (EnvB rfl c273) ?_
             refine shO_freeze 0 rfl hb275 ?_; intro F276 hF277 hz278
             refine shO_L (L' := (b240, .cells #[.int .i64 n14, .int .i64 n15] 36 (0, 0)) :: (Lb228 ++ (Lb234 ++ (Lb208 ++ (Lb214 ++ (Lb163 ++ [])))))) rfl ?_
             replace h199 := h199.mono (iE_ok _) hF277
             have h279 : RowR 1 (iE .i64) F276 (some ⟨b275, 0, none⟩) 1 [1] := RowR.of_block (iE_ok _) (vss := [[.int .i64 1]]) (xs := [1]) hz278 (.cons rfl .nil) rfl (by simp [maxLen])
             obtain ⟨ok3, h280, r281⟩ := b1_ok r274; clear r274
             refine o_callV rfl Try.call28 rfl rfl rfl (oyezkit_Like_int_w h199 h279 h280) ?_
             refine ov (v_pick_t (evB rfl c273) rfl) rfl ?_
             refine om rfl rfl ?_
             rcases bool_two ok3 with c282 | c282
             · have r283 := bt r281 c282; clear r281
               refine shO_on (b := true) 125 rfl (EnvB rfl c282) (om rfl rfl (shO_on (b := true) 125 rfl (EnvB rfl c282) ?_))
               refine ov (v_eql rfl rfl) rfl ?_
               refine ov (v_pick_t (evB rfl c282) rfl) rfl ?_
               refine om rfl rfl ?_
               by_cases c284 : n11 = 14
               · have r285 := ite_t r283 c284; clear r283
                 refine shO_on (b := true) 129 rfl (Env.isT rfl c284) (om rfl rfl (shO_on (b := true) 129 rfl (Env.isT rfl c284) ?_))
                 refine ov (v_eql rfl rfl) rfl ?_
                 refine ov (v_pick_t (evD_true rfl c284) rfl) rfl ?_
                 refine om rfl rfl ?_
                 by_cases c286 : n12 = 28
                 · have r287 := ite_t r285 c286; clear r285
                   refine shO_on (b := true) 133 rfl (Env.isT rfl c286) ?_
                   refine ov (v_loadA (cs := #[.int .i64 n14, .int .i64 n15]) Try.isAgg36 Try.sizeOf36 rfl (Has.own 0 rfl) (Nat.le_of_ble_eq_true rfl) rfl) rfl ?_
                   refine shO_on (b := true) 133 rfl (Env.isT rfl c286) ?_
                   refine ov (v_build (v := .agg #[.int .i64 0, .int .i64 1]) rfl (by intro w; kernel_rfl)) rfl ?_
                   refine shO_on (b := true) 133 rfl (Env.isT rfl c286) ?_
                   refine ov (v_eqA (eqg_36 _ _ _ _) (eq_36 _ _ _ _) rfl rfl) rfl ?_
                   refine ov (v_pick_t (evD_true rfl c286) rfl) rfl ?_
                   refine oa rfl rfl (shO_nil ?_)
                   refine kW kn ?_
                   refine shW_ret ?_
                   refine q_res1 Try.results18 (res_tmp rfl) (sr) ?_
                   obtain rfl := inj1 r287
                   exact rfl
                 have r288 := ite_f r285 c286; clear r285
                 refine shO_off (b' := false) 133 rfl (Env.isF rfl c286) rfl rfl (shO_off (b' := false) 133 rfl (Env.isF rfl c286) rfl rfl (shO_off (b' := false) 133 rfl (Env.isF rfl c286) rfl rfl ?_))
                 refine ov (v_pick_f (evD_false rfl c286) rfl) rfl ?_
                 refine oa rfl rfl (shO_nil ?_)
                 refine kW kn ?_
                 refine shW_ret ?_
                 refine q_res1 Try.results18 (res_tmp rfl) (sr) ?_
                 obtain rfl := inj1 r288
                 exact rfl
               have r289 := ite_f r283 c284; clear r283
               refine shO_off (b' := false) 129 rfl (Env.isF rfl c284) rfl rfl (shO_off (b' := false) 129 rfl (Env.isF rfl c284) rfl rfl ?_)
               refine ov (v_pick_f (evD_false rfl c284) rfl) rfl ?_
               refine om rfl rfl (shO_off (b' := false) 133 rfl rfl rfl rfl (shO_off (b' := false) 133 rfl rfl rfl rfl (shO_off (b' := false) 133 rfl rfl rfl rfl ?_)))
               refine ov (v_pick_f rfl rfl) rfl ?_
               refine oa rfl rfl (shO_nil ?_)
               refine kW kn ?_
               refine shW_ret ?_
               refine q_res1 Try.results18 (res_tmp rfl) (sr) ?_
               obtain rfl := inj1 r289
               exact rfl
             have r290 := bf r281 c282; clear r281
             refine shO_off (b' := false) 125 rfl (EnvB rfl c282) rfl rfl (shO_off (b' := false) 125 rfl (EnvB rfl c282) rfl rfl ?_)
             refine ov (v_pick_f (evB rfl c282) rfl) rfl ?_
             refine om rfl rfl (shO_off (b' := false) 129 rfl rfl rfl rfl (shO_off (b' := false) 129 rfl rfl rfl rfl ?_))
             refine ov (v_pick_f rfl rfl) rfl ?_
             refine om rfl rfl (shO_off (b' := false) 133 rfl rfl rfl rfl (shO_off (b' := false) 133 rfl rfl rfl rfl (shO_off (b' := false) 133 rfl rfl rfl rfl ?_)))
             refine ov (v_pick_f rfl rfl) rfl ?_
             refine oa rfl rfl (shO_nil ?_)
             refine kW kn ?_
             refine shW_ret ?_
             refine q_res1 Try.results18 (res_tmp rfl) (sr) ?_
             obtain rfl := inj1 r290
             exact rfl
           have r291 := bf r272 c273; clear r272
           refine shO_off (b' := false) 120 rfl (EnvB rfl c273) rfl rfl (shO_off (b' := false) 120 rfl (EnvB rfl c273) rfl rfl (shO_off (b' := false) 120 rfl (EnvB rfl c273) rfl rfl ?_))
           refine ov (v_pick_f (evB rfl c273) rfl) rfl ?_
           refine om rfl rfl (shO_off (b' := false) 125 rfl rfl rfl rfl (shO_off (b' := false) 125 rfl rfl rfl rfl ?_))
           refine ov (v_pick_f rfl rfl) rfl ?_
           refine om rfl rfl (shO_off (b' := false) 129 rfl rfl rfl rfl (shO_off (b' := false) 129 rfl rfl rfl rfl ?_))
           refine ov (v_pick_f rfl rfl) rfl ?_
           refine om rfl rfl (shO_off (b' := false) 133 rfl rfl rfl rfl (shO_off (b' := false) 133 rfl rfl rfl rfl (shO_off (b' := false) 133 rfl rfl rfl rfl ?_)))
           refine ov (v_pick_f rfl rfl) rfl ?_
           refine oa rfl rfl (shO_nil ?_)
           refine kW kn ?_
           refine shW_ret ?_
           refine q_res1 Try.results18 (res_tmp rfl) (sr) ?_
           obtain rfl := inj1 r291
           exact rfl
         have r292 := ite_f r248 c249; clear r248
         refine shO_off (b' := false) 113 rfl (Env.isF rfl c249) rfl rfl (shO_off (b' := false) 113 rfl (Env.isF rfl c249) rfl rfl (shO_off (b' := false) 113 rfl (Env.isF rfl c249) rfl rfl (shO_off (b' := false) 113 rfl (Env.isF rfl c249) rfl rfl (shO_off (b' := false) 113 rfl (Env.isF rfl c249) rfl rfl ?_))))
         refine ov (v_pick_f (evD_false rfl c249) rfl) rfl ?_
         refine om rfl rfl (shO_off (b' := false) 120 rfl rfl rfl rfl (shO_off (b' := false) 120 rfl rfl rfl rfl (shO_off (b' := false) 120 rfl rfl rfl rfl ?_)))
         refine ov (v_pick_f rfl rfl) rfl ?_
         refine om rfl rfl (shO_off (b' := false) 125 rfl rfl rfl rfl (shO_off (b' := false) 125 rfl rfl rfl rfl ?_))
         refine ov (v_pick_f rfl rfl) rfl ?_
         refine om rfl rfl (shO_off (b' := false) 129 rfl rfl rfl rfl (shO_off (b' := false) 129 rfl rfl rfl rfl ?_))
         refine ov (v_pick_f rfl rfl) rfl ?_
         refine om rfl rfl (shO_off (b' := false) 133 rfl rfl rfl rfl (shO_off (b' := false) 133 rfl rfl rfl rfl (shO_off (b' := false) 133 rfl rfl rfl rfl ?_)))
         refine ov (v_pick_f rfl rfl) rfl ?_
         refine oa rfl rfl (shO_nil ?_)
         refine kW kn ?_
         refine shW_ret ?_
         refine q_res1 Try.results18 (res_tmp rfl) (sr) ?_
         obtain rfl := inj1 r292
         exact rfl
       have r293 := ite_f r246 c247; clear r246
       refine shO_off (b' := false) 108 rfl (Env.isF rfl c247) rfl rfl (shO_off (b' := false) 108 rfl (Env.isF rfl c247) rfl rfl (shO_off (b' := false) 108 rfl (Env.isF rfl c247) rfl rfl ?_))
       refine ov (v_pick_f (evD_false rfl c247) rfl) rfl ?_
       refine om rfl rfl (shO_off (b' := false) 113 rfl rfl rfl rfl (shO_off (b' := false) 113 rfl rfl rfl rfl (shO_off (b' := false) 113 rfl rfl rfl rfl (shO_off (b' := false) 113 rfl rfl rfl rfl (shO_off (b' := false) 113 rfl rfl rfl rfl ?_)))))
       refine ov (v_pick_f rfl rfl) rfl ?_
       refine om rfl rfl (shO_off (b' := false) 120 rfl rfl rfl rfl (shO_off (b' := false) 120 rfl rfl rfl rfl (shO_off (b' := false) 120 rfl rfl rfl rfl ?_)))
       refine ov (v_pick_f rfl rfl) rfl ?_
       refine om rfl rfl (shO_off (b' := false) 125 rfl rfl rfl rfl (shO_off (b' := false) 125 rfl rfl rfl rfl ?_))
       refine ov (v_pick_f rfl rfl) rfl ?_
       refine om rfl rfl (shO_off (b' := false) 129 rfl rfl rfl rfl (shO_off (b' := false) 129 rfl rfl rfl rfl ?_))
       refine ov (v_pick_f rfl rfl) rfl ?_
       refine om rfl rfl (shO_off (b' := false) 133 rfl rfl rfl rfl (shO_off (b' := false) 133 rfl rfl rfl rfl (shO_off (b' := false) 133 rfl rfl rfl rfl ?_)))
       refine ov (v_pick_f rfl rfl) rfl ?_
       refine oa rfl rfl (shO_nil ?_)
       refine kW kn ?_
       refine shW_ret ?_
       refine q_res1 Try.results18 (res_tmp rfl) (sr) ?_
       obtain rfl := inj1 r293
       exact rfl
     have r294 := ite_f r244 c245; clear r244
     refine shO_off (b' := false) 104 rfl (Env.isF rfl c245) rfl rfl (shO_off (b' := false) 104 rfl (Env.isF rfl c245) rfl rfl ?_)
     refine ov (v_pick_f (evD_false rfl c245) rfl) rfl ?_
     refine om rfl rfl (shO_off (b' := false) 108 rfl rfl rfl rfl (shO_off (b' := false) 108 rfl rfl rfl rfl (shO_off (b' := false) 108 rfl rfl rfl rfl ?_)))
     refine ov (v_pick_f rfl rfl) rfl ?_
     refine om rfl rfl (shO_off (b' := false) 113 rfl rfl rfl rfl (shO_off (b' := false) 113 rfl rfl rfl rfl (shO_off (b' := false) 113 rfl rfl rfl rfl (shO_off (b' := false) 113 rfl rfl rfl rfl (shO_off (b' := false) 113 rfl rfl rfl rfl ?_)))))
     refine ov (v_pick_f rfl rfl) rfl ?_
     refine om rfl rfl (shO_off (b' := false) 120 rfl rfl rfl rfl (shO_off (b' := false) 120 rfl rfl rfl rfl (shO_off (b' := false) 120 rfl rfl rfl rfl ?_)))
     refine ov (v_pick_f rfl rfl) rfl ?_
     refine om rfl rfl (shO_off (b' := false) 125 rfl rfl rfl rfl (shO_off (b' := false) 125 rfl rfl rfl rfl ?_))
     refine ov (v_pick_f rfl rfl) rfl ?_
     refine om rfl rfl (shO_off (b' := false) 129 rfl rfl rfl rfl (shO_off (b' := false) 129 rfl rfl rfl rfl ?_))
     refine ov (v_pick_f rfl rfl) rfl ?_
     refine om rfl rfl (shO_off (b' := false) 133 rfl rfl rfl rfl (shO_off (b' := false) 133 rfl rfl rfl rfl (shO_off (b' := false) 133 rfl rfl rfl rfl ?_)))
     refine ov (v_pick_f rfl rfl) rfl ?_
     refine oa rfl rfl (shO_nil ?_)
     refine kW kn ?_
     refine shW_ret ?_
     refine q_res1 Try.results18 (res_tmp rfl) (sr) ?_
     obtain rfl := inj1 r294
     exact rfl
   have r295 := ite_f r242 c243; clear r242
   refine shO_off (b' := false) 100 rfl (Env.isF rfl c243) rfl rfl (shO_off (b' := false) 100 rfl (Env.isF rfl c243) rfl rfl ?_)
   refine ov (v_pick_f (evD_false rfl c243) rfl) rfl ?_
   refine om rfl rfl (shO_off (b' := false) 104 rfl rfl rfl rfl (shO_off (b' := false) 104 rfl rfl rfl rfl ?_))
   refine ov (v_pick_f rfl rfl) rfl ?_
   refine om rfl rfl (shO_off (b' := false) 108 rfl rfl rfl rfl (shO_off (b' := false) 108 rfl rfl rfl rfl (shO_off (b' := false) 108 rfl rfl rfl rfl ?_)))
   refine ov (v_pick_f rfl rfl) rfl ?_
   refine om rfl rfl (shO_off (b' := false) 113 rfl rfl rfl rfl (shO_off (b' := false) 113 rfl rfl rfl rfl (shO_off (b' := false) 113 rfl rfl rfl rfl (shO_off (b' := false) 113 rfl rfl rfl rfl (shO_off (b' := false) 113 rfl rfl rfl rfl ?_)))))
   refine ov (v_pick_f rfl rfl) rfl ?_
   refine om rfl rfl (shO_off (b' := false) 120 rfl rfl rfl rfl (shO_off (b' := false) 120 rfl rfl rfl rfl (shO_off (b' := false) 120 rfl rfl rfl rfl ?_)))
   refine ov (v_pick_f rfl rfl) rfl ?_
   refine om rfl rfl (shO_off (b' := false) 125 rfl rfl rfl rfl (shO_off (b' := false) 125 rfl rfl rfl rfl ?_))
   refine ov (v_pick_f rfl rfl) rfl ?_
   refine om rfl rfl (shO_off (b' := false) 129 rfl rfl rfl rfl (shO_off (b' := false) 129 rfl rfl rfl rfl ?_))
   refine ov (v_pick_f rfl rfl) rfl ?_
   refine om rfl rfl (shO_off (b' := false) 133 rfl rfl rfl rfl (shO_off (b' := false) 133 rfl rfl rfl rfl (shO_off (b' := false) 133 rfl rfl rfl rfl ?_)))
   refine ov (v_pick_f rfl rfl) rfl ?_
   refine oa rfl rfl (shO_nil ?_)
   refine kW kn ?_
   refine shW_ret ?_
   refine q_res1 Try.results18 (res_tmp rfl) (sr) ?_
   obtain rfl := inj1 r295
   exact rfl
 have r296 := ite_f r239 c241; clear r239
 refine shO_off (b' := false) 96 rfl (Env.isF rfl c241) rfl rfl (shO_off (b' := false) 96 rfl (Env.isF rfl c241) rfl rfl ?_)
 refine ov (v_pick_f (evD_false rfl c241) rfl) rfl ?_
 refine om rfl rfl (shO_off (b' := false) 100 rfl rfl rfl rfl (shO_off (b' := false) 100 rfl rfl rfl rfl ?_))
 refine ov (v_pick_f rfl rfl) rfl ?_
 refine om rfl rfl (shO_off (b' := false) 104 rfl rfl rfl rfl (shO_off (b' := false) 104 rfl rfl rfl rfl ?_))
 refine ov (v_pick_f rfl rfl) rfl ?_
 refine om rfl rfl (shO_off (b' := false) 108 rfl rfl rfl rfl (shO_off (b' := false) 108 rfl rfl rfl rfl (shO_off (b' := false) 108 rfl rfl rfl rfl ?_)))
 refine ov (v_pick_f rfl rfl) rfl ?_
 refine om rfl rfl (shO_off (b' := false) 113 rfl rfl rfl rfl (shO_off (b' := false) 113 rfl rfl rfl rfl (shO_off (b' := false) 113 rfl rfl rfl rfl (shO_off (b' := false) 113 rfl rfl rfl rfl (shO_off (b' := false) 113 rfl rfl rfl rfl ?_)))))
 refine ov (v_pick_f rfl rfl) rfl ?_
 refine om rfl rfl (shO_off (b' := false) 120 rfl rfl rfl rfl (shO_off (b' := false) 120 rfl rfl rfl rfl (shO_off (b' := false) 120 rfl rfl rfl rfl ?_)))
 refine ov (v_pick_f rfl rfl) rfl ?_
 refine om rfl rfl (shO_off (b' := false) 125 rfl rfl rfl rfl (shO_off (b' := false) 125 rfl rfl rfl rfl ?_))
 refine ov (v_pick_f rfl rfl) rfl ?_
 refine om rfl rfl (shO_off (b' := false) 129 rfl rfl rfl rfl (shO_off (b' := false) 129 rfl rfl rfl rfl ?_))
 refine ov (v_pick_f rfl rfl) rfl ?_
 refine om rfl rfl (shO_off (b' := false) 133 rfl rfl rfl rfl (shO_off (b' := false) 133 rfl rfl rfl rfl (shO_off (b' := false) 133 rfl rfl rfl rfl ?_)))
 refine ov (v_pick_f rfl rfl) rfl ?_
 refine oa rfl rfl (shO_nil ?_)
 refine kW kn ?_
 refine shW_ret ?_
 refine q_res1 Try.results18 (res_tmp rfl) (sr) ?_
 obtain rfl := inj1 r296
 exact rfl
set_option maxHeartbeats 1000000 in
theorem night_With_w {listens_a : Option Addr} {listens_c : Nat} {listens : List (List Int)} {hours_a : Option Addr} {hours_c : Nat} {hours : List (List Int)} {hour : Int} {man : Int} {m : Int} {F : FS} (h_listens : RowR 1 (slE 1 (iE .i64)) F listens_a listens_c listens) (h_hours : RowR 1 (slE 1 (iE .i64)) F hours_a hours_c hours) {r : List (List Int)} {r2 : List (List Int)} {r3 : Int} (hr : night_With listens hours hour man m = some (r, r2, r3)) :
    SH.Spec Try.prog 31 #[.agg #[.slice listens_a listens.length listens_c, .slice hours_a hours.length hours_c], .agg #[.int .i64 hour, .int .i64 man], .int .i64 m] F [] fun F' L' v => ∃ (ra : Option Addr) (rn : Nat) (rc : Nat) (rL : LH) (r2a : Option Addr) (r2c : Nat), v = .tuple #[.agg #[.slice ra rn rc, .slice r2a r2.length r2c], .int .i64 r3] ∧ L' = rL ++ [] ∧ SlR 0 27 1 (slE 1 (iE .i64)) F' ra rn rc r rL ∧ RowR 1 (slE 1 (iE .i64)) F' r2a r2c r2 := by
 refine spec_of_shW (args := [.agg #[.slice listens_a listens.length listens_c, .slice hours_a hours.length hours_c], .agg #[.int .i64 hour, .int .i64 man], .int .i64 m]) Try.func31 rfl Try.ntmps31 (Nat.le_of_ble_eq_true rfl) ?_
 intro K _ _; rw [night_With] at hr
 refine wsr ?_
 refine o_box rfl rfl ?_; intro b1 hb1
 refine o_box rfl rfl ?_; intro b2 hb2
 refine o_alloc rfl Try.zeroValue26 ?_; intro b3 hb3
 refine oa rfl rfl (nsr ?_)
 refine ov (v_loadA (cs := #[.slice listens_a listens.length listens_c, .slice hours_a hours.length hours_c]) Try.isAgg26 Try.sizeOf26 rfl (Has.own 2 rfl) (Nat.le_of_ble_eq_true rfl) rfl) rfl ?_
 obtain ⟨n, h4, r5⟩ := b1_ok hr; clear hr
 refine o_callV rfl Try.call80 rfl rfl rfl (night_Check_w h_listens h_hours h4) ?_
 refine oa rfl rfl (shO_nil (shW_seq ?_))
 refine shW_block ?_
 refine wsr (om rfl rfl ?_)
 refine ov (v_neq rfl rfl) rfl ?_
 refine oa rfl rfl (shO_nil ?_)
 refine shW_condP rfl (fun c6 => ?_) (fun c6 => ?_)
 · have r7 := ite_t r5 c6; clear r5
   refine wsr ?_
   refine ov (v_build (v := .agg #[.slice none 0 0, .slice none 0 0]) rfl (by intro w; kernel_rfl)) rfl ?_
   refine om rfl rfl ?_
   refine o_storeA (i := 0) Try.sizeOf26 rfl rfl rfl (by simp [Value.oneCell']) rfl (Nat.le_of_ble_eq_true rfl) ?_
   refine shO_L (L' := [(b3, .cells #[.slice none 0 0, .slice none 0 0] 26 (0, 0)), (b2, .cells #[.int .i64 hour, .int .i64 man] 59 (0, 0)), (b1, .cells #[.slice listens_a listens.length listens_c, .slice hours_a hours.length hours_c] 26 (0, 0))]) rfl ?_
   refine oa rfl rfl (shO_nil ?_)
   refine kW (kc kn) ?_
   refine shW_ret (inBlock_ret (andThen_ret ?_))
   refine q_res2 Try.results31 (res_cellA (cs := #[.slice none 0 0, .slice none 0 0]) Try.isAgg26 Try.sizeOf26 rfl (Has.own 0 rfl) (Nat.le_of_ble_eq_true rfl) rfl) (res_tmp rfl) (s1 sr) ?_
   obtain ⟨rfl, rfl, rfl⟩ := inj3 r7
   exact ⟨_, _, _, [], _, _, rfl, rfl, SlR.nil _ _ _ _ _, RowR.nil _ _ _⟩
 have r8 := ite_f r5 c6; clear r5
 refine wsr ?_
 refine ov (v_loadA (cs := #[.slice listens_a listens.length listens_c, .slice hours_a hours.length hours_c]) Try.isAgg26 Try.sizeOf26 rfl (Has.own 2 rfl) (Nat.le_of_ble_eq_true rfl) rfl) rfl ?_
 refine ov (v_loadA (cs := #[.int .i64 hour, .int .i64 man]) Try.isAgg59 Try.sizeOf59 rfl (Has.own 1 rfl) (Nat.le_of_ble_eq_true rfl) rfl) rfl ?_
 obtain ⟨ok, h9, r10⟩ := b1_ok r8; clear r8
 refine o_callV rfl Try.call79 rfl rfl rfl (night_Watch_place_w h_listens h_hours h9) ?_
 refine ov (v_notB rfl) rfl ?_
 refine oa rfl rfl (shO_nil ?_)
 refine shW_cond rfl (fun c11 => ?_) (fun c11 => ?_)
 · have r12 := bt r10 c11; clear r10
   refine wsr ?_
   refine ov (v_build (v := .agg #[.slice none 0 0, .slice none 0 0]) rfl (by intro w; kernel_rfl)) rfl ?_
   refine o_storeA (i := 0) Try.sizeOf26 rfl rfl rfl (by simp [Value.oneCell']) rfl (Nat.le_of_ble_eq_true rfl) ?_
   refine shO_L (L' := [(b3, .cells #[.slice none 0 0, .slice none 0 0] 26 (0, 0)), (b2, .cells #[.int .i64 hour, .int .i64 man] 59 (0, 0)), (b1, .cells #[.slice listens_a listens.length listens_c, .slice hours_a hours.length hours_c] 26 (0, 0))]) rfl ?_
   refine oa rfl rfl (shO_nil ?_)
   refine kW (kc kn) ?_
   refine shW_ret (inBlock_ret (andThen_ret ?_))
   refine q_res2 Try.results31 (res_cellA (cs := #[.slice none 0 0, .slice none 0 0]) Try.isAgg26 Try.sizeOf26 rfl (Has.own 0 rfl) (Nat.le_of_ble_eq_true rfl) rfl) (res_tmp rfl) (s1 sr) ?_
   obtain ⟨rfl, rfl, rfl⟩ := inj3 r12
   exact ⟨_, _, _, [], _, _, rfl, rfl, SlR.nil _ _ _ _ _, RowR.nil _ _ _⟩
 have r13 := bf r10 c11; clear r10
 refine wsr (om rfl rfl ?_)
 obtain ⟨ok2, h14, r15⟩ := b1_ok r13; clear r13
 refine o_callV rfl Try.call81 rfl rfl rfl (night_Mark_there_w h14) ?_
 refine ov (v_notB rfl) rfl ?_
 refine oa rfl rfl (shO_nil ?_)
 refine shW_cond rfl (fun c16 => ?_) (fun c16 => ?_)
 · have r17 := bt r15 c16; clear r15
   refine wsr ?_
   refine ov (v_build (v := .agg #[.slice none 0 0, .slice none 0 0]) rfl (by intro w; kernel_rfl)) rfl ?_
   refine o_storeA (i := 0) Try.sizeOf26 rfl rfl rfl (by simp [Value.oneCell']) rfl (Nat.le_of_ble_eq_true rfl) ?_
   refine shO_L (L' := [(b3, .cells #[.slice none 0 0, .slice none 0 0] 26 (0, 0)), (b2, .cells #[.int .i64 hour, .int .i64 man] 59 (0, 0)), (b1, .cells #[.slice listens_a listens.length listens_c, .slice hours_a hours.length hours_c] 26 (0, 0))]) rfl ?_
   refine oa rfl rfl (shO_nil ?_)
   refine kW (kc kn) ?_
   refine shW_ret (inBlock_ret (andThen_ret ?_))
   refine q_res2 Try.results31 (res_cellA (cs := #[.slice none 0 0, .slice none 0 0]) Try.isAgg26 Try.sizeOf26 rfl (Has.own 0 rfl) (Nat.le_of_ble_eq_true rfl) rfl) (res_tmp rfl) (s1 sr) ?_
   obtain ⟨rfl, rfl, rfl⟩ := inj3 r17
   exact ⟨_, _, _, [], _, _, rfl, rfl, SlR.nil _ _ _ _ _, RowR.nil _ _ _⟩
 have r18 := bf r15 c16; clear r15
 refine shW_skip (inBlock_n (id := 0) (wsr ?_))
 refine ov (v_loadA (cs := #[.slice listens_a listens.length listens_c, .slice hours_a hours.length hours_c]) Try.isAgg26 Try.sizeOf26 rfl (Has.own 2 rfl) (Nat.le_of_ble_eq_true rfl) rfl) rfl ?_
 refine ov (v_loadA (cs := #[.int .i64 hour, .int .i64 man]) Try.isAgg59 Try.sizeOf59 rfl (Has.own 1 rfl) (Nat.le_of_ble_eq_true rfl) rfl) rfl ?_
 refine om rfl rfl ?_
 obtain ⟨l, l2, h19, r20⟩ := b2_ok r18; clear r18
 refine o_call0 rfl Try.call82 rfl rfl rfl (night_Watch_with_w h_listens h_hours h19) ?_; rintro _ F21 _ hF22 hn23 ⟨a25, n29, c26, Lb27, a31, c32, rfl, rfl, hz28, h33⟩
 replace hz28 := hz28.new fun p hp => hn23 p (by simp [hp])
 refine shO_L (lp (ln rfl)) ?_
 refine kO (kf (fS fO) (kf (fS fO) (kf (fS fO) kr))) ?_
 refine o_storeA (i := 0) Try.sizeOf26 rfl rfl rfl (by simp [Value.oneCell']) rfl (Nat.le_of_ble_eq_true rfl) ?_
 refine shO_L (L' := (b3, .cells #[.slice a25 n29 c26, .slice a31 l2.length c32] 26 (0, 0)) :: ((b2, .cells #[.int .i64 hour, .int .i64 man] 59 (0, 0)) :: ((b1, .cells #[.slice listens_a listens.length listens_c, .slice hours_a hours.length hours_c] 26 (0, 0)) :: (Lb27 ++ [])))) rfl ?_
 refine oa rfl rfl (shO_nil ?_)
 refine kW (kc (kd (kd kr))) ?_
 refine shW_ret ?_
 refine q_res2 Try.results31 (res_cellA (cs := #[.slice a25 n29 c26, .slice a31 l2.length c32]) Try.isAgg26 Try.sizeOf26 rfl (Has.own 0 rfl) (Nat.le_of_ble_eq_true rfl) rfl) (res_tmp rfl) (s1 (s4 sr)) ?_
 obtain ⟨rfl, rfl, rfl⟩ := inj3 r20
 exact ⟨_, _, _, _, _, _, rfl, rfl, hz28.any, h33⟩
set_option maxHeartbeats 1000000 in
theorem cmp_isNaN_int_w {x : Int} {F : FS} {r : Bool} (hr : cmp_isNaN_int x = some r) :
    SpecV Try.prog 113 #[.int .i64 x] F (.bool r) := by
 refine spec_of_shW (args := [.int .i64 x]) Try.func113 rfl Try.ntmps113 (Nat.le_of_ble_eq_true rfl) ?_
 intro K _ _; rw [cmp_isNaN_int] at hr
 refine wsr (oa rfl rfl (nsr (om rfl rfl (om rfl rfl ?_))))
 refine ov (v_neq rfl rfl) rfl ?_
 refine oa rfl rfl (shO_nil (shW_ret ?_))
 refine q_res1 Try.results113 (res_tmp rfl) (sr) ?_
 obtain rfl := inj1 hr
 exact rfl
set_option maxHeartbeats 1000000 in
theorem cmp_Compare_int_w {x : Int} {y : Int} {F : FS} {r : Int} (hr : cmp_Compare_int x y = some r) :
    SpecV Try.prog 94 #[.int .i64 x, .int .i64 y] F (.int .i64 r) := by
 refine spec_of_shW (args := [.int .i64 x, .int .i64 y]) Try.func94 rfl Try.ntmps94 (Nat.le_of_ble_eq_true rfl) ?_
 intro K _ _; rw [cmp_Compare_int] at hr
 refine wsr (oa rfl rfl (nsr (om rfl rfl ?_)))
 obtain ⟨ok, h1, r2⟩ := b1_ok hr; clear hr
 refine o_callV rfl Try.call113 rfl rfl rfl (cmp_isNaN_int_w h1) ?_
 refine oa rfl rfl (nsr (om rfl rfl ?_))
 obtain ⟨ok2, h3, r4⟩ := b1_ok r2; clear r2
 refine o_callV rfl Try.call113 rfl rfl rfl (cmp_isNaN_int_w h3) ?_
 refine oa rfl rfl (shO_nil (shW_seq (wsr (om rfl rfl (shO_nil ?_)))))
 refine shW_cond rfl (fun c5 => ?_) (fun c5 => ?_)
 · have r6 := bt r4 c5; clear r4
   refine shW_seq (wsr (om rfl rfl (shO_nil ?_)))
   refine shW_cond rfl (fun c7 => ?_) (fun c7 => ?_)
   · have r8 := bt r6 c7; clear r6
     refine wsr (oa rfl rfl (shO_nil (shW_ret (andThen_ret (andThen_ret ?_)))))
     refine q_res1 Try.results94 (res_tmp rfl) (sr) ?_
     obtain rfl := inj1 r8
     exact rfl
   have r9 := bf r6 c7; clear r6
   refine shW_skip (wsr (oa rfl rfl (shO_nil (shW_ret (andThen_ret ?_)))))
   refine q_res1 Try.results94 (res_tmp rfl) (sr) ?_
   obtain rfl := inj1 r9
   exact rfl
 have r10 := bf r4 c5; clear r4
 refine shW_skip (shW_seq (wsr (om rfl rfl (shO_nil ?_))))
 refine shW_cond rfl (fun c11 => ?_) (fun c11 => ?_)
 · have r12 := bt r10 c11; clear r10
   refine wsr (oa rfl rfl (shO_nil (shW_ret (andThen_ret ?_))))
   refine q_res1 Try.results94 (res_tmp rfl) (sr) ?_
   obtain rfl := inj1 r12
   exact rfl
 have r13 := bf r10 c11; clear r10
 refine shW_skip (shW_seq (wsr (om rfl rfl (om rfl rfl ?_))))
 refine ov (v_lssK rfl rfl) rfl ?_
 refine shO_nil ?_
 refine shW_condP rfl (fun c14 => ?_) (fun c14 => ?_)
 · have r15 := ite_t r13 c14; clear r13
   refine wsr (oa rfl rfl (shO_nil (shW_ret (andThen_ret ?_))))
   refine q_res1 Try.results94 (res_tmp rfl) (sr) ?_
   obtain rfl := inj1 r15
   exact rfl
 have r16 := ite_f r13 c14; clear r13
 refine shW_skip (shW_seq (wsr (om rfl rfl (om rfl rfl ?_))))
 refine ov (v_gtrK rfl rfl) rfl ?_
 refine shO_nil ?_
 refine shW_condP rfl (fun c17 => ?_) (fun c17 => ?_)
 · have r18 := ite_t r16 c17; clear r16
   refine wsr (oa rfl rfl (shO_nil (shW_ret (andThen_ret ?_))))
   refine q_res1 Try.results94 (res_tmp rfl) (sr) ?_
   obtain rfl := inj1 r18
   exact rfl
 have r19 := ite_f r16 c17; clear r16
 refine shW_skip (wsr (oa rfl rfl (shO_nil (shW_ret ?_))))
 refine q_res1 Try.results94 (res_tmp rfl) (sr) ?_
 obtain rfl := inj1 r19
 exact rfl
set_option maxHeartbeats 1000000 in
theorem slices_Compare_int_int_w {s1_a : Option Addr} {s1_c : Nat} {s1 : List Int} {s2_a : Option Addr} {s2_c : Nat} {s2 : List Int} {F : FS} (h_s1 : RowR 1 (iE .i64) F s1_a s1_c s1) (h_s2 : RowR 1 (iE .i64) F s2_a s2_c s2) {r : Int} (hr : slices_Compare_int_int s1 s2 = some r) :
    SpecV Try.prog 42 #[.slice s1_a s1.length s1_c, .slice s2_a s2.length s2_c] F (.int .i64 r) := by
 refine spec_of_shW (args := [.slice s1_a s1.length s1_c, .slice s2_a s2.length s2_c]) Try.func42 rfl Try.ntmps42 (Nat.le_of_ble_eq_true rfl) ?_
 intro K _ _; rw [slices_Compare_int_int] at hr
 refine wsr (oa rfl rfl (shO_nil ?_))
 refine shW_join (fun e1 F1 L1 => slices_Compare_int_int_j1 s1 s2 = some r ∧ F = F1 ∧ L1 = [] ∧ e1.sub [(0, .slice s1_a s1.length s1_c), (1, .slice s2_a s2.length s2_c)]) ?_ ?_
 · refine wsr (om rfl rfl ?_)
   refine ov (v_lenS Try.underlying27 rfl) rfl ?_
   refine om rfl rfl (shO_nil ?_)
   refine shW_block ?_
   refine shW_lp (fun fu2 e1 F1 L1 => ∃ (tl : List Int) (k : Int), tl.length = fu2 ∧ Lst s1 k tl ∧ slices_Compare_int_int_l2 s1 s2 tl k = some r ∧ F = F1 ∧ L1 = [] ∧ e1.sub [(0, .slice s1_a s1.length s1_c), (1, .slice s2_a s2.length s2_c), (9, .slice s1_a s1.length s1_c), (10, .int .i64 (s1.length : Int)), (11, .int .i64 k)]) _ (m0 kr ⟨_, _, rfl, Lst.start _, hr, rfl, rfl, (sc rfl (sc rfl (sc rfl (sc rfl (sc rfl (sn _))))))⟩) ?_
   rintro fu2 e1 _ _ ⟨tl, k, hn2, hk1, r3, rfl, rfl, he4⟩
   refine shW_env _ he4 ?_; clear he4
   refine wsr ?_
   refine ov (v_lssK rfl rfl) rfl ?_
   refine shO_nil (shW_seq ?_)
   refine shW_condP rfl (fun c6 => ?_) (fun c6 => ?_)
   · obtain ⟨x, tl2, rfl, hx8, g9, hk7⟩ := Lst.succ hk1 c6
     rw [slices_Compare_int_int_l2] at r3
     refine shW_skip (shW_seq ?_)
     refine shW_block ?_
     refine wsr (om rfl rfl ?_)
     obtain ⟨b10, o11, c12, vs13, ha14, hs15, hle16, rfl, hl17, hc18⟩ := RowR.at (iE_ok _) h_s1 ([]) g9.1 hx8
     refine ov (v_indexO Try.underlying27 Try.sizeOf3 rfl ha14 rfl g9) rfl ?_
     refine ov (v_load Try.isAgg3 rfl hs15 (hc18 0 (by decide))) rfl ?_
     refine oa rfl rfl (oa rfl rfl (shO_nil (shW_seq (wsr (om rfl rfl (om rfl rfl ?_))))))
     refine ov (v_lenS Try.underlying27 rfl) rfl ?_
     refine ov (v_geqK rfl rfl) rfl ?_
     refine shO_nil ?_
     refine shW_condP rfl (fun c19 => ?_) (fun c19 => ?_)
     · have r20 := ite_t r3 c19; clear r3
       refine wsr (oa rfl rfl (shO_nil (shW_ret (andThen_ret (inBlock_ret (andThen_ret (andThen_ret (inBlock_ret (andThen_ret ?_)))))))))
       refine q_res1 Try.results42 (res_tmp rfl) (sr) ?_
       obtain rfl := inj1 r20
       exact rfl
     have r21 := ite_f r3 c19; clear r3
     refine shW_skip (wsr (om rfl rfl (om rfl rfl ?_)))
     obtain ⟨x2, g22, hx23, r24⟩ := ix_ok r21; clear r21
     obtain ⟨b25, o26, c27, vs28, ha29, hs30, hle31, rfl, hl32, hc33⟩ := RowR.at (iE_ok _) h_s2 ([]) g22.1 hx23
     refine ov (v_indexO Try.underlying27 Try.sizeOf3 rfl ha29 rfl g22) rfl ?_
     refine ov (v_load Try.isAgg3 rfl hs30 (hc33 0 (by decide))) rfl ?_
     refine oa rfl rfl (nsr (om rfl rfl (om rfl rfl ?_)))
     obtain ⟨n, h34, r35⟩ := b1_ok r24; clear r24
     refine o_callV rfl Try.call94 rfl rfl rfl (cmp_Compare_int_w h34) ?_
     refine oa rfl rfl (nsr (om rfl rfl ?_))
     refine ov (v_neq rfl rfl) rfl ?_
     refine shO_nil ?_
     refine shW_condP rfl (fun c36 => ?_) (fun c36 => ?_)
     · have r37 := ite_t r35 c36; clear r35
       refine wsr (om rfl rfl (oa rfl rfl (shO_nil (shW_ret (inBlock_ret (andThen_ret (andThen_ret (inBlock_ret (andThen_ret ?_)))))))))
       refine q_res1 Try.results42 (res_tmp rfl) (sr) ?_
       obtain rfl := inj1 r37
       exact rfl
     have r38 := ite_f r35 c36; clear r35
     refine shW_skip (inBlock_n (id := 1) (shW_region ?_))
     refine ov (v_add rfl rfl (Lst.r64 hk1 c6 (RowR.lt h_s1))) rfl ?_
     refine om rfl rfl (shO_nil ?_)
     subst hn2; exact le kr ⟨_, _, rfl, hk7, r38, rfl, rfl, (sc rfl (sc rfl (sc rfl (sc rfl (sc rfl (sn _))))))⟩
   obtain rfl := Lst.zero hk1 c6
   rw [slices_Compare_int_int_l2] at r3
   refine shW_exit (andThen_exit (andThen_exit ?_))
   refine inBlock_exit ?_
   exact mi kr ⟨r3, rfl, rfl, (sc rfl (sc rfl (sn _)))⟩
 rintro e1 _ _ ⟨r39, rfl, rfl, he40⟩
 refine shW_env _ he40 ?_; clear he40
 rw [slices_Compare_int_int_j1] at r39
 refine shW_seq (wsr (om rfl rfl ?_))
 refine ov (v_lenS Try.underlying27 rfl) rfl ?_
 refine om rfl rfl ?_
 refine ov (v_lenS Try.underlying27 rfl) rfl ?_
 refine ov (v_lssK rfl rfl) rfl ?_
 refine shO_nil ?_
 refine shW_condP rfl (fun c41 => ?_) (fun c41 => ?_)
 · have r42 := ite_t r39 c41; clear r39
   refine wsr (oa rfl rfl (shO_nil (shW_ret (andThen_ret ?_))))
   refine q_res1 Try.results42 (res_tmp rfl) (sr) ?_
   obtain rfl := inj1 r42
   exact rfl
 have r43 := ite_f r39 c41; clear r39
 refine shW_skip (wsr (oa rfl rfl (shO_nil (shW_ret ?_))))
 refine q_res1 Try.results42 (res_tmp rfl) (sr) ?_
 obtain rfl := inj1 r43
 exact rfl
set_option maxHeartbeats 1000000 in
theorem night_Wrong_w {listens_a : Option Addr} {listens_c : Nat} {listens : List (List Int)} {hours_a : Option Addr} {hours_c : Nat} {hours : List (List Int)} {F : FS} (h_listens : RowR 1 (slE 1 (iE .i64)) F listens_a listens_c listens) (h_hours : RowR 1 (slE 1 (iE .i64)) F hours_a hours_c hours) {r : List (Int × Int)} {r2 : Int} (hr : night_Wrong listens hours = some (r, r2)) :
    SH.Spec Try.prog 45 #[.agg #[.slice listens_a listens.length listens_c, .slice hours_a hours.length hours_c]] F [] fun F' L' v => ∃ (ra : Option Addr) (rn : Nat) (rc : Nat) (rL : LH), v = .tuple #[.slice ra rn rc, .int .i64 r2] ∧ L' = rL ++ [] ∧ SlR 0 59 2 (prE (iE .i64) (iE .i64)) F' ra rn rc r rL := by
 refine spec_of_shW (args := [.agg #[.slice listens_a listens.length listens_c, .slice hours_a hours.length hours_c]]) Try.func45 rfl Try.ntmps45 (Nat.le_of_ble_eq_true rfl) ?_
 intro K _ _; rw [night_Wrong] at hr
 refine wsr ?_
 refine o_box rfl rfl ?_; intro b1 hb1
 refine oa rfl rfl (oa rfl rfl (nsr ?_))
 refine ov (v_loadA (cs := #[.slice listens_a listens.length listens_c, .slice hours_a hours.length hours_c]) Try.isAgg26 Try.sizeOf26 rfl (Has.own 0 rfl) (Nat.le_of_ble_eq_true rfl) rfl) rfl ?_
 obtain ⟨d, n, h2, r3⟩ := b2_ok hr; clear hr
 refine o_call0 rfl Try.call58 rfl rfl rfl (night_opened_w h_listens h_hours h2) ?_; rintro _ F4 _ hF5 hn6 ⟨v8, Lb10, rfl, rfl, hp9⟩
 refine shO_L (lp (ln rfl)) ?_
 refine kO (kf (fS fO) kr) ?_
 refine om rfl rfl (ox rfl rfl rfl (ox rfl rfl rfl (oa rfl rfl (oa rfl rfl (shO_nil (shW_seq (wsr (om rfl rfl ?_))))))))
 refine ov (v_neq rfl rfl) rfl ?_
 refine shO_nil ?_
 refine shW_condP rfl (fun c11 => ?_) (fun c11 => ?_)
 · have r12 := ite_t r3 c11; clear r3
   refine wsr (om rfl rfl (oa rfl rfl (oa rfl rfl (shO_nil ?_))))
   refine kW kn ?_
   refine shW_ret (andThen_ret ?_)
   refine q_res2 Try.results45 (res_tmp rfl) (res_tmp rfl) (sr) ?_
   obtain ⟨rfl, rfl⟩ := inj2 r12
   exact ⟨_, _, _, [], rfl, rfl, SlR.nil _ _ _ _ _⟩
 have r13 := ite_f r3 c11; clear r3
 refine shW_skip (wsr (oa rfl rfl (shO_nil ?_)))
 obtain ⟨out, h20, r21⟩ := b1_ok r13; clear r13
 refine shW_join (fun e1 F1 L1 => ∃ (a14 : Option Addr) (n18 : Nat) (c15 : Nat) (Lb16 : LH), FExt F4 F1 ∧ L1 = (Lb16 ++ []) ∧ e1.sub [(6, .slice a14 n18 c15)] ∧ SlR K.w0.heap.size 59 2 (prE (iE .i64) (iE .i64)) F1 a14 n18 c15 out Lb16) ?_ ?_
 · clear r21
   refine wsr ?_
   refine ov (v_fieldAddr fa_26_1 rfl) rfl ?_
   refine ov (v_load Try.isAgg24 rfl (Has.own 0 rfl) rfl) rfl ?_
   refine ov (v_lenS Try.underlying24 rfl) rfl ?_
   refine om rfl rfl (shO_nil ?_)
   refine shW_block ?_
   obtain ⟨listens2, hours2, cried, rows, h22, r23⟩ := b4_ok h20; clear h20
   have h29 := hp9; rw [h22] at h29; obtain ⟨b24, m25, a30, c31, a33, c34, b36, es37, cl38, a40, c41, hv26, hz27, h32, h35, hR39, h42, hL28⟩ := ob_139_of h29; subst hv26; subst hL28
   refine shW_L (L' := [(b1, .cells #[.slice listens_a listens.length listens_c, .slice hours_a hours.length hours_c] 26 (0, 0)), (b36, .map es37 cl38)]) rfl ?_
   refine kW (kd kr) ?_
   obtain ⟨g52, r53⟩ := gd_ok r23; clear r23
   refine shW_lp (fun fu1 e1 F1 L1 => ∃ (k : Int), Ctr 0 (hours.length : Int) k fu1 ∧ ∃ (m : List (Int × Int)) (out2 : List (Int × Int)) (es43 : Array MapEntry) (cl44 : Nat) (a46 : Option Addr) (n50 : Nat) (c47 : Nat) (Lb48 : LH), night_Wrong_l1 listens2 hours2 fu1 k m out2 = some out ∧ FExt F4 F1 ∧ L1 = ((b36, .map es43 cl44) :: (Lb48 ++ [])) ∧ e1.sub [(4, .pointer (some ⟨b24, 0, none⟩)), (6, .slice a46 n50 c47), (26, .int .i64 (hours.length : Int)), (27, .int .i64 k)] ∧ MapR (Value.int .i64) (Value.int .i64) es43 m ∧ SlR K.w0.heap.size 59 2 (prE (iE .i64) (iE .i64)) F1 a46 n50 c47 out2 Lb48) _ (m0 (kc (ke kr)) ⟨_, Ctr.start _ _, cried, [], es37, cl38, none, 0, 0, [], r53, FExt.refl _, rfl, (sc rfl (sc rfl (sc rfl (sc rfl (sn _))))), hR39, SlR.nil _ _ _ _ _⟩) ?_
   rintro fu1 e1 F58 _ ⟨k, hk54, m, out2, es43, cl44, a46, n50, c47, Lb48, r56, hF59, rfl, he57, hR45, hz49⟩
   refine shW_env _ he57 ?_; clear he57
   replace h32 := h32.mono (slE_ok (iE_ok _)) hF59
   replace h35 := h35.mono (slE_ok (iE_ok _)) hF59
   replace hz27 := hF59 _ _ hz27
   refine wsr ?_
   refine ov (v_lssK rfl rfl) rfl ?_
   refine shO_nil (shW_seq ?_)
   refine shW_condP rfl (fun c61 => ?_) (fun c61 => ?_)
   · obtain ⟨fu1, rfl, hk62⟩ := Ctr.succ hk54 c61
     rw [night_Wrong_l1] at r56
     refine shW_skip ?_
     obtain ⟨m2, out3, h72, r73⟩ := b2_ok r56; clear r56
     refine shW_join (fun e1 F1 L1 => ∃ (es63 : Array MapEntry) (cl64 : Nat) (a66 : Option Addr) (n70 : Nat) (c67 : Nat) (Lb68 : LH), FExt F58 F1 ∧ L1 = ((b36, .map es63 cl64) :: (Lb68 ++ [])) ∧ e1.sub [(4, .pointer (some ⟨b24, 0, none⟩)), (6, .slice a66 n70 c67), (26, .int .i64 (hours.length : Int)), (27, .int .i64 k)] ∧ MapR (Value.int .i64) (Value.int .i64) es63 m2 ∧ SlR K.w0.heap.size 59 2 (prE (iE .i64) (iE .i64)) F1 a66 n70 c67 out3 Lb68) ?_ ?_
     · clear r73
       refine shW_block ?_
       refine wsr (om rfl rfl (oa rfl rfl (nsr (oa rfl rfl (nsr (oa rfl rfl (shO_nil ?_)))))))
       obtain ⟨m3, best, h83, r84⟩ := b2_ok h72; clear h72
       refine shW_join (fun e1 F1 L1 => ∃ (es74 : Array MapEntry) (cl75 : Nat) (a77 : Option Addr) (n81 : Nat) (c78 : Nat) (Lb79 : LH), FExt F58 F1 ∧ L1 = ((b36, .map es74 cl75) :: (Lb48 ++ (Lb79 ++ []))) ∧ e1.sub [(4, .pointer (some ⟨b24, 0, none⟩)), (6, .slice a46 n50 c47), (7, .int .i64 k), (8, .slice a77 n81 c78), (26, .int .i64 (hours.length : Int)), (27, .int .i64 k)] ∧ MapR (Value.int .i64) (Value.int .i64) es74 m3 ∧ SlR K.w0.heap.size 3 1 (iE .i64) F1 a77 n81 c78 best Lb79) ?_ ?_
       · clear r84
         refine wsr (om rfl rfl ?_)
         obtain ⟨n2, h85, r86⟩ := b1_ok h83; clear h83
         refine o_callV rfl Try.call72 rfl rfl rfl (night_desk_sets_w hz27 h32 h35 h85) ?_
         refine om rfl rfl (shO_nil ?_)
         refine shW_block ?_
         obtain ⟨g96, r97⟩ := gd_ok r86; clear r86
         refine shW_lp (fun fu2 e1 F1 L1 => ∃ (k2 : Int), Ctr 0 n2 k2 fu2 ∧ ∃ (m4 : List (Int × Int)) (best2 : List Int) (found : Bool) (es87 : Array MapEntry) (cl88 : Nat) (a90 : Option Addr) (n94 : Nat) (c91 : Nat) (Lb92 : LH), night_Wrong_l2 listens2 hours2 k fu2 k2 m4 best2 found = some (m3, best) ∧ FExt F58 F1 ∧ L1 = ((b36, .map es87 cl88) :: (Lb48 ++ (Lb92 ++ []))) ∧ e1.sub [(4, .pointer (some ⟨b24, 0, none⟩)), (6, .slice a46 n50 c47), (7, .int .i64 k), (8, .slice a90 n94 c91), (9, .bool found), (26, .int .i64 (hours.length : Int)), (27, .int .i64 k), (31, .int .i64 n2), (32, .int .i64 k2)] ∧ MapR (Value.int .i64) (Value.int .i64) es87 m4 ∧ SlR K.w0.heap.size 3 1 (iE .i64) F1 a90 n94 c91 best2 Lb92) _ (m0 (kc (ka (ke kr))) ⟨_, Ctr.start _ _, m, [], false, es43, cl44, none, 0, 0, [], r97, FExt.refl _, rfl, (sc rfl (sc rfl (sc rfl (sc rfl (sc rfl (sc rfl (sc rfl (sc rfl (sc rfl (sn _)))))))))), hR45, SlR.nil _ _ _ _ _⟩) ?_
         rintro fu2 e1 F102 _ ⟨k2, hk98, m4, best2, found, es87, cl88, a90, n94, c91, Lb92, r100, hF103, rfl, he101, hR89, hz93⟩
         refine shW_env _ he101 ?_; clear he101
         replace h32 := h32.mono (slE_ok (iE_ok _)) hF103
         replace h35 := h35.mono (slE_ok (iE_ok _)) hF103
         replace hz27 := hF103 _ _ hz27
         refine wsr ?_
         refine ov (v_lssK rfl rfl) rfl ?_
         refine shO_nil (shW_seq ?_)
         refine shW_condP rfl (fun c105 => ?_) (fun c105 => ?_)
         · obtain ⟨fu2, rfl, hk106⟩ := Ctr.succ hk98 c105
           rw [night_Wrong_l2] at r100
           refine shW_skip ?_
           obtain ⟨m5, best3, found2, h116, r117⟩ := b3_ok r100; clear r100
           refine shW_join (fun e1 F1 L1 => ∃ (es107 : Array MapEntry) (cl108 : Nat) (a110 : Option Addr) (n114 : Nat) (c111 : Nat) (Lb112 : LH), FExt F102 F1 ∧ L1 = ((b36, .map es107 cl108) :: (Lb48 ++ (Lb112 ++ []))) ∧ e1.sub [(4, .pointer (some ⟨b24, 0, none⟩)), (6, .slice a46 n50 c47), (7, .int .i64 k), (8, .slice a110 n114 c111), (9, .bool found2), (26, .int .i64 (hours.length : Int)), (27, .int .i64 k), (31, .int .i64 n2), (32, .int .i64 k2)] ∧ MapR (Value.int .i64) (Value.int .i64) es107 m5 ∧ SlR K.w0.heap.size 3 1 (iE .i64) F1 a110 n114 c111 best3 Lb112) ?_ ?_
           · clear r117
             refine shW_block ?_
             refine wsr (om rfl rfl (oa rfl rfl (nsr (oa rfl rfl (shO_nil ?_)))))
             obtain ⟨m6, l, h127, r128⟩ := b2_ok h116; clear h116
             refine shW_join (fun e1 F1 L1 => ∃ (es118 : Array MapEntry) (cl119 : Nat) (a121 : Option Addr) (n125 : Nat) (c122 : Nat) (Lb123 : LH), FExt F102 F1 ∧ L1 = ((b36, .map es118 cl119) :: (Lb48 ++ (Lb92 ++ (Lb123 ++ [])))) ∧ e1.sub [(4, .pointer (some ⟨b24, 0, none⟩)), (6, .slice a46 n50 c47), (7, .int .i64 k), (8, .slice a90 n94 c91), (9, .bool found), (11, .slice a121 n125 c122), (26, .int .i64 (hours.length : Int)), (27, .int .i64 k), (31, .int .i64 n2), (32, .int .i64 k2)] ∧ MapR (Value.int .i64) (Value.int .i64) es118 m6 ∧ SlR K.w0.heap.size 3 1 (iE .i64) F1 a121 n125 c122 l Lb123) ?_ ?_
             · clear r128
               refine wsr (om rfl rfl (om rfl rfl (om rfl rfl ?_)))
               obtain ⟨n3, cried2, h129, r130⟩ := b2_ok h127; clear h127
               refine o_callG (Lb := [(b36, .map es87 cl88)]) (Lr := Lb48 ++ (Lb92 ++ [])) rfl Try.call95 rfl rfl rfl (pR) (night_desk_wrong_w hz27 h32 h35 hR89 h129) ?_; rintro _ F131 _ hF132 hd134 hn133 ⟨es135, cl136, rfl, rfl, hR137⟩
               refine shO_L (lb (ln rfl)) ?_
               refine oa rfl rfl (oa rfl rfl (shO_nil ?_))
               refine shW_block ?_
               refine shW_lp (fun fu3 e1 F1 L1 => ∃ (l2 : List Int) (i : Int) (wrong : Int) (a138 : Option Addr) (n142 : Nat) (c139 : Nat) (Lb140 : LH), night_Wrong_l3 cried2 fu3 l2 i wrong = some (m6, l) ∧ F131 = F1 ∧ L1 = ((b36, .map es135 cl136) :: (Lb48 ++ (Lb92 ++ (Lb140 ++ [])))) ∧ e1.sub [(4, .pointer (some ⟨b24, 0, none⟩)), (6, .slice a46 n50 c47), (7, .int .i64 k), (8, .slice a90 n94 c91), (9, .bool found), (11, .slice a138 n142 c139), (12, .int .i64 i), (13, .int .i64 wrong), (26, .int .i64 (hours.length : Int)), (27, .int .i64 k), (31, .int .i64 n2), (32, .int .i64 k2)] ∧ SlR K.w0.heap.size 3 1 (iE .i64) F1 a138 n142 c139 l2 Lb140) FU (m0 (kc (ka (ka (ke kr)))) ⟨[], 0, n3, none, 0, 0, [], r130, rfl, rfl, (sc rfl (sc rfl (sc rfl (sc rfl (sc rfl (sc rfl (sc rfl (sc rfl (sc rfl (sc rfl (sc rfl (sc rfl (sn _))))))))))))), SlR.nil _ _ _ _ _⟩) ?_
               rintro fu3 e1 _ _ ⟨l2, i, wrong, a138, n142, c139, Lb140, r146, rfl, rfl, he147, hz141⟩
               refine shW_env _ he147 ?_; clear he147
               rcases fu3 with _ | fu3
               · rw [night_Wrong_l3] at r146; cases r146
               rw [night_Wrong_l3] at r146
               refine shW_seq (wsr (om rfl rfl ?_))
               refine ov (v_gtrK rfl rfl) rfl ?_
               refine shO_nil ?_
               refine shW_condP rfl (fun c148 => ?_) (fun c148 => ?_)
               · have r149 := ite_t r146 c148; clear r146
                 refine shW_skip ?_
                 obtain ⟨l3, h156, r157⟩ := b1_ok r149; clear r149
                 refine shW_join (fun e1 F1 L1 => ∃ (a150 : Option Addr) (n154 : Nat) (c151 : Nat) (Lb152 : LH), F131 = F1 ∧ L1 = ((b36, .map es135 cl136) :: (Lb48 ++ (Lb92 ++ (Lb152 ++ [])))) ∧ e1.sub [(4, .pointer (some ⟨b24, 0, none⟩)), (6, .slice a46 n50 c47), (7, .int .i64 k), (8, .slice a90 n94 c91), (9, .bool found), (11, .slice a150 n154 c151), (12, .int .i64 i), (13, .int .i64 wrong), (26, .int .i64 (hours.length : Int)), (27, .int .i64 k), (31, .int .i64 n2), (32, .int .i64 k2)] ∧ SlR K.w0.heap.size 3 1 (iE .i64) F1 a150 n154 c151 l3 Lb152) ?_ ?_
                 · clear r157
                   refine shW_block ?_
                   refine wsr (om rfl rfl ?_)
                   refine ov (v_and rfl rfl) rfl ?_
                   refine ov (v_eql rfl rfl) rfl ?_
                   refine shO_nil ?_
                   refine shW_condP rfl (fun c158 => ?_) (fun c158 => ?_)
                   · have r159 := ite_t h156 c158; clear h156
                     refine shW_region (om rfl rfl (om rfl rfl ?_))
                     refine o_buildSlice (cs := #[.int .i64 i]) rfl rfl (buildSlice_all slt_27 [.int .i64 i] rfl (by decide) (by simp [Value.cells]) (by decide)) ?_; intro b160 hb160
                     obtain ⟨l4, h161, g162, r163⟩ := ap_ok r159; clear r159
                     refine o_appZ (xs := l2) (ys := [i]) (zs := l4) rfl slt_27 rfl rfl (Nat.le_refl _) (fun _ => .c (.c (.s (.s .h)))) hz141 (SrcR.box (vss := [[.int .i64 i]]) (ys := [i]) 0 rfl (iE_ok _) (.cons rfl .nil) rfl rfl) h161 g162 (by decide) ?_; intro a164 n168 c165 Lb166 hz167
                     refine kO (kd kr) ?_
                     refine oa rfl rfl (shO_nil (inBlock_n (id := 5) ?_))
                     obtain rfl := inj1 r163
                     exact mi kr ⟨a164, n168, c165, Lb166, rfl, rfl, (sc rfl (sc rfl (sc rfl (sc rfl (sc rfl (sc rfl (sc rfl (sc rfl (sc rfl (sc rfl (sc rfl (sc rfl (sn _))))))))))))), hz167⟩
                   have r170 := ite_f h156 c158; clear h156
                   refine shW_skip (inBlock_n (id := 5) ?_)
                   obtain rfl := inj1 r170
                   exact mi kr ⟨a138, n142, c139, Lb140, rfl, rfl, (sc rfl (sc rfl (sc rfl (sc rfl (sc rfl (sc rfl (sc rfl (sc rfl (sc rfl (sc rfl (sc rfl (sc rfl (sn _))))))))))))), hz141⟩
                 rintro e1 _ _ ⟨a150, n154, c151, Lb152, rfl, rfl, he171, hz153⟩
                 refine shW_env _ he171 ?_; clear he171
                 refine shW_region (om rfl rfl ?_)
                 obtain ⟨g172, r173⟩ := gd_ok r157; clear r157
                 refine ov (v_add rfl rfl g172) rfl ?_
                 refine om rfl rfl ?_
                 refine ov (v_shr rfl rfl (by decide)) rfl ?_
                 refine oa rfl rfl (oa rfl rfl (shO_nil ?_))
                 exact le kr ⟨l3, i + 1, shr wrong 1, a150, n154, c151, Lb152, r173, rfl, rfl, (sc rfl (sc rfl (sc rfl (sc rfl (sc rfl (sc rfl (sc rfl (sc rfl (sc rfl (sc rfl (sc rfl (sc rfl (sn _))))))))))))), hz153⟩
               have r174 := ite_f r146 c148; clear r146
               refine shW_exit (andThen_exit (andThen_exit ?_))
               refine inBlock_exit ?_
               obtain ⟨rfl, rfl⟩ := inj2 r174
               exact mi kr ⟨es135, cl136, a138, n142, c139, Lb140, hF132, rfl, (sc rfl (sc rfl (sc rfl (sc rfl (sc rfl (sc rfl (sc rfl (sc rfl (sc rfl (sc rfl (sn _))))))))))), hR137, hz141⟩
             rintro e1 F176 _ ⟨es118, cl119, a121, n125, c122, Lb123, hF177, rfl, he175, hR120, hz124⟩
             refine shW_env _ he175 ?_; clear he175
             replace hz93 := hz93.mono (iE_ok _) hF177
             obtain ⟨k3, h178, r179⟩ := b1_ok r128; clear r128
             refine shW_join (fun e1 F1 L1 => F176 = F1 ∧ L1 = ((b36, .map es118 cl119) :: (Lb48 ++ (Lb92 ++ (Lb123 ++ [])))) ∧ e1.sub [(4, .pointer (some ⟨b24, 0, none⟩)), (6, .slice a46 n50 c47), (7, .int .i64 k), (8, .slice a90 n94 c91), (9, .bool found), (11, .slice a121 n125 c122), (26, .int .i64 (hours.length : Int)), (27, .int .i64 k), (31, .int .i64 n2), (32, .int .i64 k2), (73, .bool k3)]) ?_ ?_
             · clear r179
               refine shW_region (om rfl rfl ?_)
               refine ov (v_notB rfl) rfl ?_
               refine om rfl rfl ?_
               rcases bool_two (!found) with c180 | c180
               · have r181 := bt h178 c180; clear h178
                 refine shO_off (b' := true) 54 rfl (EnvB rfl c180) rfl rfl (shO_off (b' := true) 54 rfl (EnvB rfl c180) rfl rfl (shO_off (b' := true) 54 rfl (EnvB rfl c180) rfl rfl (shO_off (b' := true) 54 rfl (EnvB rfl c180) rfl rfl (shO_off (b' := true) 54 rfl (EnvB rfl c180) rfl rfl ?_))))
                 refine ov (v_pick_t (evB rfl c180) rfl) rfl ?_
                 refine om rfl rfl (shO_off (b' := true) 61 rfl rfl rfl rfl (shO_off (b' := true) 61 rfl rfl rfl rfl (shO_off (b' := true) 61 rfl rfl rfl rfl (shO_off (b' := true) 61 rfl rfl rfl rfl (shO_off (b' := true) 61 rfl rfl rfl rfl (shO_off (b' := true) 61 rfl rfl rfl rfl (shO_offU 67 rfl rfl rfl (shO_offU 67 rfl rfl rfl (shO_offU 67 rfl rfl rfl ?_)))))))))
                 refine shO_offU 67 rfl rfl rfl (shO_off (b' := true) 61 rfl rfl rfl rfl ?_)
                 refine ov (v_pick_t rfl rfl) rfl ?_
                 refine shO_nil ?_
                 obtain rfl := inj1 r181
                 exact mi kr ⟨rfl, rfl, (sc rfl (sc rfl (sc rfl (sc rfl (sc rfl (sc rfl (sc rfl (sc rfl (sc rfl (sc rfl (sc rfl (sn _))))))))))))⟩
               have r182 := bf h178 c180; clear h178
               refine shO_on (b := false) 54 rfl (EnvB rfl c180) (om rfl rfl (shO_on (b := false) 54 rfl (EnvB rfl c180) ?_))
               refine ov ((v_lenS Try.underlying27 rfl).i (SlR.lenI hz124)) rfl ?_
               refine shO_on (b := false) 54 rfl (EnvB rfl c180) (om rfl rfl (shO_on (b := false) 54 rfl (EnvB rfl c180) ?_))
               refine ov ((v_lenS Try.underlying27 rfl).i (SlR.lenI hz93)) rfl ?_
               refine shO_on (b := false) 54 rfl (EnvB rfl c180) ?_
               refine ov (v_lssK rfl rfl) rfl ?_
               refine ov (v_pick_f (evB rfl c180) rfl) rfl ?_
               refine om rfl rfl ?_
               by_cases c183 : (l.length : Int) < (best2.length : Int)
               · have r184 := ite_t r182 c183; clear r182
                 refine shO_off (b' := true) 61 rfl (Env.isT rfl c183) rfl rfl (shO_off (b' := true) 61 rfl (Env.isT rfl c183) rfl rfl (shO_off (b' := true) 61 rfl (Env.isT rfl c183) rfl rfl (shO_off (b' := true) 61 rfl (Env.isT rfl c183) rfl rfl (shO_off (b' := true) 61 rfl (Env.isT rfl c183) rfl rfl (shO_off (b' := true) 61 rfl (Env.isT rfl c183) rfl rfl (shO_offU 67 rfl rfl rfl (shO_offU 67 rfl rfl rfl (shO_offU 67 rfl rfl rfl (shO_offU 67 rfl rfl rfl ?_)))))))))
                 refine shO_off (b' := true) 61 rfl (Env.isT rfl c183) rfl rfl ?_
                 refine ov (v_pick_t (evD_true rfl c183) rfl) rfl ?_
                 refine shO_nil ?_
                 obtain rfl := inj1 r184
                 exact mi kr ⟨rfl, rfl, (sc rfl (sc rfl (sc rfl (sc rfl (sc rfl (sc rfl (sc rfl (sc rfl (sc rfl (sc rfl (sc rfl (sn _))))))))))))⟩
               have r185 := ite_f r182 c183; clear r182
               refine shO_on (b := false) 61 rfl (Env.isF rfl c183) (om rfl rfl (shO_on (b := false) 61 rfl (Env.isF rfl c183) ?_))
               refine ov ((v_lenS Try.underlying27 rfl).i (SlR.lenI hz124)) rfl ?_
               refine shO_on (b := false) 61 rfl (Env.isF rfl c183) (om rfl rfl (shO_on (b := false) 61 rfl (Env.isF rfl c183) ?_))
               refine ov ((v_lenS Try.underlying27 rfl).i (SlR.lenI hz93)) rfl ?_
               refine shO_on (b := false) 61 rfl (Env.isF rfl c183) ?_
               refine ov (v_eql rfl rfl) rfl ?_
               refine shO_on (b := false) 61 rfl (Env.isF rfl c183) (om rfl rfl ?_)
               by_cases c186 : (l.length : Int) = (best2.length : Int)
               · have r187 := ite_t r185 c186; clear r185
                 refine shO_on (b := true) 67 rfl (Env.isT rfl c186) (om rfl rfl (shO_on (b := true) 67 rfl (Env.isT rfl c186) (om rfl rfl (shO_on (b := true) 67 rfl (Env.isT rfl c186) ?_))))
                 obtain ⟨n4, h188, r189⟩ := b1_ok r187; clear r187
                 refine o_callT (Lt := Lb123 ++ (Lb92 ++ [])) (Lr := (b36, .map es118 cl119) :: (Lb48 ++ [])) rfl Try.call42 rfl rfl rfl (pT ((fC (fS (fS fP))).trans (pA ((fC (fS fP)).trans (pA pR)))) (lp (lp (ln rfl)))) (fun F2 h2 h3 => by rw [(SlR.caps hz124).1]; rw [(SlR.caps hz93).1]; exact slices_Compare_int_int_w (hz124.row (iE_ok _) h2 (fun p hp => h3 p (List.mem_append_left _ hp))) (hz93.row (iE_ok _) h2 (fun p hp => h3 p (List.mem_append_right _ (List.mem_append_left _ hp)))) h188) ?_
                 refine shO_on (b := true) 67 rfl (Env.isT rfl c186) ?_
                 refine ov (v_lssK rfl rfl) rfl ?_
                 refine shO_on (b := false) 61 rfl (Env.isF rfl c183) ?_
                 refine ov (v_pick_t (evD_true rfl c186) rfl) rfl ?_
                 refine ov (v_pick_f (evD_false rfl c183) rfl) rfl ?_
                 refine shO_nil ?_
                 obtain rfl := inj1 r189
                 exact mi kr ⟨rfl, rfl, (sc rfl (sc rfl (sc rfl (sc rfl (sc rfl (sc rfl (sc rfl (sc rfl (sc rfl (sc rfl (sc rfl (sn _))))))))))))⟩
               have r190 := ite_f r185 c186; clear r185
               refine shO_off (b' := false) 67 rfl (Env.isF rfl c186) rfl rfl (shO_off (b' := false) 67 rfl (Env.isF rfl c186) rfl rfl (shO_off (b' := false) 67 rfl (Env.isF rfl c186) rfl rfl (shO_off (b' := false) 67 rfl (Env.isF rfl c186) rfl rfl (shO_on (b := false) 61 rfl (Env.isF rfl c183) ?_))))
               refine ov (v_pick_f (evD_false rfl c186) rfl) rfl ?_
               refine ov (v_pick_f (evD_false rfl c183) rfl) rfl ?_
               refine shO_nil ?_
               obtain rfl := inj1 r190
               exact mi kr ⟨rfl, rfl, (sc rfl (sc rfl (sc rfl (sc rfl (sc rfl (sc rfl (sc rfl (sc rfl (sc rfl (sc rfl (sc rfl (sn _))))))))))))⟩
             rintro e1 _ _ ⟨rfl, rfl, he191⟩
             refine shW_env _ he191 ?_; clear he191
             refine shW_cond rfl (fun c192 => ?_) (fun c192 => ?_)
             · have r193 := bt r179 c192; clear r179
               refine shW_region (om rfl rfl (oa rfl rfl (oa rfl rfl (shO_nil (inBlock_n (id := 3) ?_)))))
               obtain ⟨rfl, rfl, rfl⟩ := inj3 r193
               exact mi (kc (ka (kx kr))) ⟨es118, cl119, a121, n125, c122, Lb123, hF177, rfl, (sc rfl (sc rfl (sc rfl (sc rfl (sc rfl (sc rfl (sc rfl (sc rfl (sc rfl (sn _)))))))))), hR120, hz124⟩
             have r194 := bf r179 c192; clear r179
             refine shW_skip (inBlock_n (id := 3) ?_)
             obtain ⟨rfl, rfl, rfl⟩ := inj3 r194
             exact mi (kc (ka (ka kn))) ⟨es118, cl119, a90, n94, c91, Lb92, hF177, rfl, (sc rfl (sc rfl (sc rfl (sc rfl (sc rfl (sc rfl (sc rfl (sc rfl (sc rfl (sn _)))))))))), hR120, hz93⟩
           rintro e1 F196 _ ⟨es107, cl108, a110, n114, c111, Lb112, hF197, rfl, he195, hR109, hz113⟩
           refine shW_env _ he195 ?_; clear he195
           refine shW_region ?_
           refine ov (v_add rfl rfl (Ctr.r64 hk98 c105 g96)) rfl ?_
           refine om rfl rfl (shO_nil ?_)
           exact le kr ⟨_, hk106, m5, best3, found2, es107, cl108, a110, n114, c111, Lb112, r117, (hF103.trans hF197), rfl, (sc rfl (sc rfl (sc rfl (sc rfl (sc rfl (sc rfl (sc rfl (sc rfl (sc rfl (sn _)))))))))), hR109, hz113⟩
         obtain rfl := Ctr.zero hk98 c105
         rw [night_Wrong_l2] at r100
         refine shW_exit (andThen_exit (andThen_exit ?_))
         refine inBlock_exit ?_
         obtain ⟨rfl, rfl⟩ := inj2 r100
         exact mi kr ⟨es87, cl88, a90, n94, c91, Lb92, hF103, rfl, (sc rfl (sc rfl (sc rfl (sc rfl (sc rfl (sc rfl (sn _))))))), hR89, hz93⟩
       rintro e1 F199 _ ⟨es74, cl75, a77, n81, c78, Lb79, hF200, rfl, he198, hR76, hz80⟩
       refine shW_env _ he198 ?_; clear he198
       replace hz49 := hz49.mono (prE_ok (iE_ok _) (iE_ok _)) hF200
       refine wsr (om rfl rfl ?_)
       refine ov ((v_lenS Try.underlying27 rfl).i (SlR.lenI hz80)) rfl ?_
       refine om rfl rfl (shO_nil ?_)
       refine shW_block ?_
       refine shW_lp (fun fu4 e1 F1 L1 => ∃ (tl : List Int) (k4 : Int), tl.length = fu4 ∧ Lst best k4 tl ∧ ∃ (out4 : List (Int × Int)) (a201 : Option Addr) (n205 : Nat) (c202 : Nat) (Lb203 : LH), night_Wrong_l4 k m3 tl out4 = some (m2, out3) ∧ F199 = F1 ∧ L1 = ((b36, .map es74 cl75) :: (Lb203 ++ (Lb79 ++ []))) ∧ e1.sub [(4, .pointer (some ⟨b24, 0, none⟩)), (6, .slice a201 n205 c202), (7, .int .i64 k), (26, .int .i64 (hours.length : Int)), (27, .int .i64 k), (76, .slice a77 n81 c78), (77, .int .i64 (best.length : Int)), (78, .int .i64 k4)] ∧ SlR K.w0.heap.size 59 2 (prE (iE .i64) (iE .i64)) F1 a201 n205 c202 out4 Lb203) _ (m0 kr ⟨_, _, rfl, Lst.start _, out2, a46, n50, c47, Lb48, r84, rfl, rfl, (sc rfl (sc rfl (sc rfl (sc rfl (sc rfl (sc rfl (sc rfl (sc rfl (sn _))))))))), hz49⟩) ?_
       rintro fu4 e1 _ _ ⟨tl, k4, hn208, hk207, out4, a201, n205, c202, Lb203, r209, rfl, rfl, he210, hz204⟩
       refine shW_env _ he210 ?_; clear he210
       refine wsr ?_
       refine ov (v_lssK rfl rfl) rfl ?_
       refine shO_nil (shW_seq ?_)
       refine shW_condP rfl (fun c212 => ?_) (fun c212 => ?_)
       · obtain ⟨x, tl2, rfl, hx214, g215, hk213⟩ := Lst.succ hk207 c212
         rw [night_Wrong_l4] at r209
         refine shW_skip (shW_seq ?_)
         refine shW_block ?_
         refine wsr ?_
         obtain ⟨b216, o217, c218, vs219, ha220, hs221, hle222, rfl, hl223, hc224⟩ := SlR.at (iE_ok _) hz80 (L := (b36, .map es74 cl75) :: (Lb203 ++ (Lb79 ++ []))) (fC (fS fP)) g215.1 hx214
         refine ov (v_indexO Try.underlying27 Try.sizeOf3 rfl ha220 rfl (SlR.idx hz80 g215)) rfl ?_
         refine ov (v_load Try.isAgg3 rfl hs221 (hc224 0 (by decide))) rfl ?_
         refine oa rfl rfl (shO_nil (shW_region (om rfl rfl (om rfl rfl (om rfl rfl ?_)))))
         refine ov (v_build (v := .agg #[.int .i64 k, .int .i64 x]) rfl (by intro w; kernel_rfl)) rfl ?_
         refine o_buildSlice (cs := #[.int .i64 k, .int .i64 x]) rfl rfl (buildSlice_all slt_83 [.agg #[.int .i64 k, .int .i64 x]] rfl (by decide) (by simp [Value.cells]) (by decide)) ?_; intro b225 hb225
         obtain ⟨out5, h226, g227, r228⟩ := ap_ok r209; clear r209
         refine o_appZ (xs := out4) (ys := [(k, x)]) (zs := out5) rfl slt_83 rfl rfl (Nat.le_refl _) (fun _ => .c (.c .h)) hz204 (SrcR.box (vss := [[.int .i64 k, .int .i64 x]]) (ys := [(k, x)]) 0 rfl (prE_ok (iE_ok _) (iE_ok _)) (.cons ⟨_, _, rfl, rfl, rfl⟩ .nil) rfl rfl) h226 g227 (by decide) ?_; intro a229 n233 c230 Lb231 hz232
         refine kO (kd kr) ?_
         refine oa rfl rfl (shO_nil (inBlock_n (id := 7) (shW_region ?_)))
         refine ov (v_add rfl rfl (Lst.r64 hk207 c212 (SlR.llt hz80))) rfl ?_
         refine om rfl rfl (shO_nil ?_)
         subst hn208; exact le kr ⟨_, _, rfl, hk213, out5, a229, n233, c230, Lb231, r228, rfl, rfl, (sc rfl (sc rfl (sc rfl (sc rfl (sc rfl (sc rfl (sc rfl (sc rfl (sn _))))))))), hz232⟩
       obtain rfl := Lst.zero hk207 c212
       rw [night_Wrong_l4] at r209
       refine shW_exit (andThen_exit (andThen_exit ?_))
       refine inBlock_exit ?_
       refine inBlock_n (id := 1) ?_
       obtain ⟨rfl, rfl⟩ := inj2 r209
       exact mi (kc (ka kn)) ⟨es74, cl75, a201, n205, c202, Lb203, hF200, rfl, (sc rfl (sc rfl (sc rfl (sc rfl (sn _))))), hR76, hz204⟩
     rintro e1 F236 _ ⟨es63, cl64, a66, n70, c67, Lb68, hF237, rfl, he235, hR65, hz69⟩
     refine shW_env _ he235 ?_; clear he235
     refine shW_region ?_
     refine ov (v_add rfl rfl (Ctr.r64 hk54 c61 g52)) rfl ?_
     refine om rfl rfl (shO_nil ?_)
     exact le kr ⟨_, hk62, m2, out3, es63, cl64, a66, n70, c67, Lb68, r73, (hF59.trans hF237), rfl, (sc rfl (sc rfl (sc rfl (sc rfl (sn _))))), hR65, hz69⟩
   obtain rfl := Ctr.zero hk54 c61
   rw [night_Wrong_l1] at r56
   refine shW_exit (andThen_exit (andThen_exit ?_))
   refine inBlock_exit ?_
   obtain rfl := inj1 r56
   exact mi (kd kr) ⟨a46, n50, c47, Lb48, hF59, rfl, (sc rfl (sn _)), hz49⟩
 rintro e1 F239 _ ⟨a14, n18, c15, Lb16, hF240, rfl, he238, hz17⟩
 refine shW_env _ he238 ?_; clear he238
 refine wsr (om rfl rfl (oa rfl rfl (oa rfl rfl (shO_nil (shW_ret ?_)))))
 refine q_res2 Try.results45 (res_tmp rfl) (res_tmp rfl) (sr) ?_
 obtain ⟨rfl, rfl⟩ := inj2 r21
 exact ⟨_, _, _, _, rfl, rfl, hz17.any⟩
set_option maxHeartbeats 1000000 in
theorem oyezlaw05_NightWrong_2_w {hour : Int} {man : Int} {hour2 : Int} {man2 : Int} {F : FS} {r : Int} (hr : oyezlaw05_NightWrong_2 hour man hour2 man2 = some r) :
    SpecV Try.prog 47 #[.agg #[.int .i64 hour, .int .i64 man], .agg #[.int .i64 hour2, .int .i64 man2]] F (.int .i64 r) := by
 refine spec_of_shW (args := [.agg #[.int .i64 hour, .int .i64 man], .agg #[.int .i64 hour2, .int .i64 man2]]) Try.func47 rfl Try.ntmps47 (Nat.le_of_ble_eq_true rfl) ?_
 intro K _ _; rw [oyezlaw05_NightWrong_2] at hr
 refine wsr ?_
 refine o_box rfl rfl ?_; intro b1 hb1
 refine o_box rfl rfl ?_; intro b2 hb2
 refine oa rfl rfl (shO_nil (shW_seq (wsr ?_)))
 refine ov (v_fieldAddr fa_59_0 rfl) rfl ?_
 refine ov (v_load Try.isAgg3 rfl (Has.own 1 rfl) rfl) rfl ?_
 refine ov (v_fieldAddr fa_59_0 rfl) rfl ?_
 refine ov (v_load Try.isAgg3 rfl (Has.own 0 rfl) rfl) rfl ?_
 refine ov (v_neq rfl rfl) rfl ?_
 refine shO_nil ?_
 refine shW_condP rfl (fun c3 => ?_) (fun c3 => ?_)
 · have r4 := ite_t hr c3; clear hr
   refine wsr ?_
   refine ov (v_fieldAddr fa_59_0 rfl) rfl ?_
   refine ov (v_load Try.isAgg3 rfl (Has.own 1 rfl) rfl) rfl ?_
   refine ov (v_fieldAddr fa_59_0 rfl) rfl ?_
   refine ov (v_load Try.isAgg3 rfl (Has.own 0 rfl) rfl) rfl ?_
   obtain ⟨g5, r6⟩ := gd_ok r4; clear r4
   refine ov (v_sub rfl rfl g5) rfl ?_
   refine oa rfl rfl (shO_nil ?_)
   refine kW kn ?_
   refine shW_ret (andThen_ret ?_)
   refine q_res1 Try.results47 (res_tmp rfl) (sr) ?_
   obtain rfl := inj1 r6
   exact rfl
 have r7 := ite_f hr c3; clear hr
 refine shW_skip (wsr ?_)
 refine ov (v_fieldAddr fa_59_1 rfl) rfl ?_
 refine ov (v_load Try.isAgg3 rfl (Has.own 1 rfl) rfl) rfl ?_
 refine ov (v_fieldAddr fa_59_1 rfl) rfl ?_
 refine ov (v_load Try.isAgg3 rfl (Has.own 0 rfl) rfl) rfl ?_
 obtain ⟨g8, r9⟩ := gd_ok r7; clear r7
 refine ov (v_sub rfl rfl g8) rfl ?_
 refine oa rfl rfl (shO_nil ?_)
 refine kW kn ?_
 refine shW_ret ?_
 refine q_res1 Try.results47 (res_tmp rfl) (sr) ?_
 obtain rfl := inj1 r9
 exact rfl
set_option maxHeartbeats 1000000 in
theorem slices_CompareFunc_night_Place_night_Place_night_Place_night_Place_w {s1_a : Option Addr} {s1_c : Nat} {s1 : List (Int × Int)} {s2_a : Option Addr} {s2_c : Nat} {s2 : List (Int × Int)} {cmp_f : FuncId} {cmp_1 : Array Value} {cmp_2 : Array Value} {cmp : ((Int × Int) × (Int × Int)) → Option Int} {F : FS} (h_s1 : RowR 2 (prE (iE .i64) (iE .i64)) F s1_a s1_c s1) (h_s2 : RowR 2 (prE (iE .i64) (iE .i64)) F s2_a s2_c s2) (h_cmp : FnR Try.prog F cmp_f cmp_1 cmp_2 (prE (agE (prE (iE .i64) (iE .i64))) (agE (prE (iE .i64) (iE .i64)))) (Value.int .i64) cmp) {r : Int} (hr : slices_CompareFunc_night_Place_night_Place_night_Place_night_Place s1 s2 cmp = some r) :
    SpecV Try.prog 48 #[.slice s1_a s1.length s1_c, .slice s2_a s2.length s2_c, .func (.func cmp_f) cmp_1 cmp_2] F (.int .i64 r) := by
 refine spec_of_shW (args := [.slice s1_a s1.length s1_c, .slice s2_a s2.length s2_c, .func (.func cmp_f) cmp_1 cmp_2]) Try.func48 rfl Try.ntmps48 (Nat.le_of_ble_eq_true rfl) ?_
 intro K _ _; rw [slices_CompareFunc_night_Place_night_Place_night_Place_night_Place] at hr
 refine wsr (oa rfl rfl (shO_nil ?_))
 refine shW_join (fun e1 F1 L1 => slices_CompareFunc_night_Place_night_Place_night_Place_night_Place_j1 s1 s2 = some r ∧ F = F1 ∧ L1 = [] ∧ e1.sub [(0, .slice s1_a s1.length s1_c), (1, .slice s2_a s2.length s2_c)]) ?_ ?_
 · refine wsr (om rfl rfl ?_)
   refine ov (v_lenS Try.underlying83 rfl) rfl ?_
   refine om rfl rfl (shO_nil ?_)
   refine shW_block ?_
   refine shW_lp (fun fu2 e1 F1 L1 => ∃ (tl : List (Int × Int)) (k : Int), tl.length = fu2 ∧ Lst s1 k tl ∧ slices_CompareFunc_night_Place_night_Place_night_Place_night_Place_l2 s1 s2 cmp tl k = some r ∧ F = F1 ∧ L1 = [] ∧ e1.sub [(0, .slice s1_a s1.length s1_c), (1, .slice s2_a s2.length s2_c), (2, .func (.func cmp_f) cmp_1 cmp_2), (11, .slice s1_a s1.length s1_c), (12, .int .i64 (s1.length : Int)), (13, .int .i64 k)]) _ (m0 kr ⟨_, _, rfl, Lst.start _, hr, rfl, rfl, (sc rfl (sc rfl (sc rfl (sc rfl (sc rfl (sc rfl (sn _)))))))⟩) ?_
   rintro fu2 e1 _ _ ⟨tl, k, hn2, hk1, r3, rfl, rfl, he4⟩
   refine shW_env _ he4 ?_; clear he4
   refine wsr ?_
   refine ov (v_lssK rfl rfl) rfl ?_
   refine shO_nil (shW_seq ?_)
   refine shW_condP rfl (fun c6 => ?_) (fun c6 => ?_)
   · obtain ⟨x, tl2, rfl, hx8, g9, hk7⟩ := Lst.succ hk1 c6
     rw [slices_CompareFunc_night_Place_night_Place_night_Place_night_Place_l2] at r3
     refine shW_skip (shW_seq ?_)
     refine shW_block ?_
     refine wsr (om rfl rfl ?_)
     obtain ⟨b10, o11, c12, vs13, ha14, hs15, hle16, ⟨_, _, rfl, rfl, rfl⟩, hl17, hc18⟩ := RowR.at (prE_ok (iE_ok _) (iE_ok _)) h_s1 ([]) g9.1 hx8
     refine ov (v_indexO Try.underlying83 Try.sizeOf59 rfl ha14 rfl g9) rfl ?_
     refine ov (v_loadA (cs := #[.int .i64 x.1, .int .i64 x.2]) Try.isAgg59 Try.sizeOf59 rfl hs15 hle16 (extract_cells hle16 hl17 hc18)) rfl ?_
     refine o_alloc rfl Try.zeroValue59 ?_; intro b19 hb19
     refine oa rfl rfl ?_
     refine o_storeA (i := 0) Try.sizeOf59 rfl rfl rfl (by simp [Value.oneCell']) rfl (Nat.le_of_ble_eq_true rfl) ?_
     refine shO_L (L' := [(b19, .cells #[.int .i64 x.1, .int .i64 x.2] 59 (0, 0))]) rfl ?_
     refine shO_nil (shW_seq (wsr (om rfl rfl (om rfl rfl ?_))))
     refine ov (v_lenS Try.underlying83 rfl) rfl ?_
     refine ov (v_geqK rfl rfl) rfl ?_
     refine shO_nil ?_
     refine shW_condP rfl (fun c20 => ?_) (fun c20 => ?_)
     · have r21 := ite_t r3 c20; clear r3
       refine wsr (oa rfl rfl (shO_nil ?_))
       refine kW kn ?_
       refine shW_ret (andThen_ret (inBlock_ret (andThen_ret (andThen_ret (inBlock_ret (andThen_ret ?_))))))
       refine q_res1 Try.results48 (res_tmp rfl) (sr) ?_
       obtain rfl := inj1 r21
       exact rfl
     have r22 := ite_f r3 c20; clear r3
     refine shW_skip (wsr (om rfl rfl (om rfl rfl ?_)))
     obtain ⟨x2, g23, hx24, r25⟩ := ix_ok r22; clear r22
     obtain ⟨b26, o27, c28, vs29, ha30, hs31, hle32, ⟨_, _, rfl, rfl, rfl⟩, hl33, hc34⟩ := RowR.at (prE_ok (iE_ok _) (iE_ok _)) h_s2 ([(b19, .cells #[.int .i64 x.1, .int .i64 x.2] 59 (0, 0))]) g23.1 hx24
     refine ov (v_indexO Try.underlying83 Try.sizeOf59 rfl ha30 rfl g23) rfl ?_
     refine ov (v_loadA (cs := #[.int .i64 x2.1, .int .i64 x2.2]) Try.isAgg59 Try.sizeOf59 rfl hs31 hle32 (extract_cells hle32 hl33 hc34)) rfl ?_
     refine o_alloc rfl Try.zeroValue59 ?_; intro b35 hb35
     refine o_storeA (i := 0) Try.sizeOf59 rfl rfl rfl (by simp [Value.oneCell']) rfl (Nat.le_of_ble_eq_true rfl) ?_
     refine shO_L (L' := [(b35, .cells #[.int .i64 x2.1, .int .i64 x2.2] 59 (0, 0)), (b19, .cells #[.int .i64 x.1, .int .i64 x.2] 59 (0, 0))]) rfl ?_
     refine nsr (om rfl rfl ?_)
     refine ov (v_loadA (cs := #[.int .i64 x.1, .int .i64 x.2]) Try.isAgg59 Try.sizeOf59 rfl (Has.own 1 rfl) (Nat.le_of_ble_eq_true rfl) rfl) rfl ?_
     refine ov (v_loadA (cs := #[.int .i64 x2.1, .int .i64 x2.2]) Try.isAgg59 Try.sizeOf59 rfl (Has.own 0 rfl) (Nat.le_of_ble_eq_true rfl) rfl) rfl ?_
     obtain ⟨n, h36, r37⟩ := b1_ok r25; clear r25
     refine o_callV rfl h_cmp.1 rfl rfl rfl (h_cmp.2 _ (FExt.refl _) _ _ _ ⟨_, _, rfl, ⟨_, rfl, ⟨_, _, rfl, rfl, rfl⟩⟩, ⟨_, rfl, ⟨_, _, rfl, rfl, rfl⟩⟩⟩ h36) ?_
     refine oa rfl rfl (nsr (om rfl rfl ?_))
     refine ov (v_neq rfl rfl) rfl ?_
     refine shO_nil ?_
     refine shW_condP rfl (fun c38 => ?_) (fun c38 => ?_)
     · have r39 := ite_t r37 c38; clear r37
       refine wsr (om rfl rfl (oa rfl rfl (shO_nil ?_)))
       refine kW kn ?_
       refine shW_ret (inBlock_ret (andThen_ret (andThen_ret (inBlock_ret (andThen_ret ?_)))))
       refine q_res1 Try.results48 (res_tmp rfl) (sr) ?_
       obtain rfl := inj1 r39
       exact rfl
     have r40 := ite_f r37 c38; clear r37
     refine shW_skip (inBlock_n (id := 1) (shW_region ?_))
     refine ov (v_add rfl rfl (Lst.r64 hk1 c6 (RowR.lt h_s1))) rfl ?_
     refine om rfl rfl (shO_nil ?_)
     subst hn2; exact le kn ⟨_, _, rfl, hk7, r40, rfl, rfl, (sc rfl (sc rfl (sc rfl (sc rfl (sc rfl (sc rfl (sn _)))))))⟩
   obtain rfl := Lst.zero hk1 c6
   rw [slices_CompareFunc_night_Place_night_Place_night_Place_night_Place_l2] at r3
   refine shW_exit (andThen_exit (andThen_exit ?_))
   refine inBlock_exit ?_
   exact mi kr ⟨r3, rfl, rfl, (sc rfl (sc rfl (sn _)))⟩
 rintro e1 _ _ ⟨r41, rfl, rfl, he42⟩
 refine shW_env _ he42 ?_; clear he42
 rw [slices_CompareFunc_night_Place_night_Place_night_Place_night_Place_j1] at r41
 refine shW_seq (wsr (om rfl rfl ?_))
 refine ov (v_lenS Try.underlying83 rfl) rfl ?_
 refine om rfl rfl ?_
 refine ov (v_lenS Try.underlying83 rfl) rfl ?_
 refine ov (v_lssK rfl rfl) rfl ?_
 refine shO_nil ?_
 refine shW_condP rfl (fun c43 => ?_) (fun c43 => ?_)
 · have r44 := ite_t r41 c43; clear r41
   refine wsr (oa rfl rfl (shO_nil (shW_ret (andThen_ret ?_))))
   refine q_res1 Try.results48 (res_tmp rfl) (sr) ?_
   obtain rfl := inj1 r44
   exact rfl
 have r45 := ite_f r41 c43; clear r41
 refine shW_skip (wsr (oa rfl rfl (shO_nil (shW_ret ?_))))
 refine q_res1 Try.results48 (res_tmp rfl) (sr) ?_
 obtain rfl := inj1 r45
 exact rfl
set_option maxHeartbeats 1000000 in
theorem oyezlaw05_NightWrong_1_w {l_a : Option Addr} {l_c : Nat} {l : List (Int × Int)} {b_w : Nat} {listens_a : Option Addr} {listens_c : Nat} {listens : List (List Int)} {hours_a : Option Addr} {hours_c : Nat} {hours : List (List Int)} {mb_w : Nat × Nat} {F : FS} (h_l : RowR 2 (prE (iE .i64) (iE .i64)) F l_a l_c l) (hb_w : F b_w = some (.cells #[.slice listens_a listens.length listens_c, .slice hours_a hours.length hours_c] 26 mb_w)) (h_listens : RowR 1 (slE 1 (iE .i64)) F listens_a listens_c listens) (h_hours : RowR 1 (slE 1 (iE .i64)) F hours_a hours_c hours) {r : Bool} {r2 : Bool} (hr : oyezlaw05_NightWrong_1 l listens hours = some (r, r2)) :
    SpecV Try.prog 46 #[.slice l_a l.length l_c, .pointer (some ⟨b_w, 0, none⟩)] F (.tuple #[.bool r, .bool r2]) := by
 refine spec_of_shW (args := [.slice l_a l.length l_c, .pointer (some ⟨b_w, 0, none⟩)]) Try.func46 rfl Try.ntmps46 (Nat.le_of_ble_eq_true rfl) ?_
 intro K _ _; rw [oyezlaw05_NightWrong_1] at hr
 refine wsr (oa rfl rfl (oa rfl rfl (nsr ?_)))
 refine ov (v_loadA (cs := #[.slice listens_a listens.length listens_c, .slice hours_a hours.length hours_c]) Try.isAgg26 Try.sizeOf26 rfl (Has.frozen hb_w) (Nat.le_of_ble_eq_true rfl) rfl) rfl ?_
 refine o_alloc rfl Try.zeroValue26 ?_; intro b1 hb1
 refine o_storeA (i := 0) Try.sizeOf26 rfl rfl rfl (by simp [Value.oneCell']) rfl (Nat.le_of_ble_eq_true rfl) ?_
 refine shO_L (L' := [(b1, .cells #[.slice listens_a listens.length listens_c, .slice hours_a hours.length hours_c] 26 (0, 0))]) rfl ?_
 refine shO_nil ?_
 refine shW_join (fun e1 F1 L1 => ∃ (u_listens : List (List Int)) (u_hours : List (List Int)) (a2 : Option Addr) (c3 : Nat) (a5 : Option Addr) (c6 : Nat), oyezlaw05_NightWrong_1_j1 u_listens u_hours = some (r, r2) ∧ FExt F F1 ∧ L1 = [(b1, .cells #[.slice a2 u_listens.length c3, .slice a5 u_hours.length c6] 26 (0, 0))] ∧ e1.sub [(5, .pointer (some ⟨b1, 0, none⟩))] ∧ RowR 1 (slE 1 (iE .i64)) F1 a2 c3 u_listens ∧ RowR 1 (slE 1 (iE .i64)) F1 a5 c6 u_hours) ?_ ?_
 · refine wsr (om rfl rfl ?_)
   refine ov (v_lenS Try.underlying83 rfl) rfl ?_
   refine om rfl rfl (shO_nil ?_)
   refine shW_block ?_
   refine shW_lpF (fun fu2 e1 F1 L1 => ∃ (tl : List (Int × Int)) (k : Int), tl.length = fu2 ∧ Lst l k tl ∧ ∃ (u_listens2 : List (List Int)) (u_hours2 : List (List Int)) (a8 : Option Addr) (c9 : Nat) (a11 : Option Addr) (c12 : Nat), oyezlaw05_NightWrong_1_l2 tl u_listens2 u_hours2 = some (r, r2) ∧ FExt F F1 ∧ L1 = [(b1, .cells #[.slice a8 u_listens2.length c9, .slice a11 u_hours2.length c12] 26 (0, 0))] ∧ e1.sub [(5, .pointer (some ⟨b1, 0, none⟩)), (13, .slice l_a l.length l_c), (14, .int .i64 (l.length : Int)), (15, .int .i64 k)] ∧ RowR 1 (slE 1 (iE .i64)) F1 a8 c9 u_listens2 ∧ RowR 1 (slE 1 (iE .i64)) F1 a11 c12 u_hours2) _ (m0 kr ⟨_, _, rfl, Lst.start _, listens, hours, listens_a, listens_c, hours_a, hours_c, hr, FExt.refl _, rfl, (sc rfl (sc rfl (sc rfl (sc rfl (sn _))))), h_listens, h_hours⟩) ?_
   rintro fu2 e1 F18 _ ⟨tl, k, hn15, hk14, u_listens2, u_hours2, a8, c9, a11, c12, r16, hF19, rfl, he17, h10, h13⟩
   refine shW_env _ he17 ?_; clear he17
   replace h_l := h_l.mono (prE_ok (iE_ok _) (iE_ok _)) hF19
   refine wsr ?_
   refine ov (v_lssK rfl rfl) rfl ?_
   refine shO_nil (shW_seq ?_)
   refine shW_condP rfl (fun c21 => ?_) (fun c21 => ?_)
   · obtain ⟨x, tl2, rfl, hx23, g24, hk22⟩ := Lst.succ hk14 c21
     rw [oyezlaw05_NightWrong_1_l2] at r16
     refine shW_skip (shW_seq ?_)
     refine shW_block ?_
     refine wsr ?_
     obtain ⟨b25, o26, c27, vs28, ha29, hs30, hle31, ⟨_, _, rfl, rfl, rfl⟩, hl32, hc33⟩ := RowR.at (prE_ok (iE_ok _) (iE_ok _)) h_l ([(b1, .cells #[.slice a8 u_listens2.length c9, .slice a11 u_hours2.length c12] 26 (0, 0))]) g24.1 hx23
     refine ov (v_indexO Try.underlying83 Try.sizeOf59 rfl ha29 rfl g24) rfl ?_
     refine ov (v_loadA (cs := #[.int .i64 x.1, .int .i64 x.2]) Try.isAgg59 Try.sizeOf59 rfl hs30 hle31 (extract_cells hle31 hl32 hc33)) rfl ?_
     refine o_alloc rfl Try.zeroValue59 ?_; intro b34 hb34
     refine o_storeA (i := 0) Try.sizeOf59 rfl rfl rfl (by simp [Value.oneCell']) rfl (Nat.le_of_ble_eq_true rfl) ?_
     refine shO_L (L' := [(b34, .cells #[.int .i64 x.1, .int .i64 x.2] 59 (0, 0)), (b1, .cells #[.slice a8 u_listens2.length c9, .slice a11 u_hours2.length c12] 26 (0, 0))]) rfl ?_
     refine nsr ?_
     refine ov (v_loadA (cs := #[.slice a8 u_listens2.length c9, .slice a11 u_hours2.length c12]) Try.isAgg26 Try.sizeOf26 rfl (Has.own 1 rfl) (Nat.le_of_ble_eq_true rfl) rfl) rfl ?_
     refine ov (v_loadA (cs := #[.int .i64 x.1, .int .i64 x.2]) Try.isAgg59 Try.sizeOf59 rfl (Has.own 0 rfl) (Nat.le_of_ble_eq_true rfl) rfl) rfl ?_
     obtain ⟨l2, l3, n, h35, r36⟩ := b3_ok r16; clear r16
     refine o_call0 rfl Try.call31 rfl rfl rfl (night_With_w h10 h13 h35) ?_; rintro _ F37 _ hF38 hn39 ⟨a41, n45, c42, Lb43, a47, c48, rfl, rfl, hz44, h49⟩
     replace h_l := h_l.mono (prE_ok (iE_ok _) (iE_ok _)) hF38
     replace hz44 := hz44.new fun p hp => hn39 p (by simp [hp])
     refine shO_L (lp (ln rfl)) ?_
     refine kO (kf (fS fO) (kf (fS fO) kr)) ?_
     refine om rfl rfl (ox rfl rfl rfl (ox rfl rfl rfl ?_))
     refine o_alloc rfl Try.zeroValue26 ?_; intro b50 hb50
     refine o_storeA (i := 0) Try.sizeOf26 rfl rfl rfl (by simp [Value.oneCell']) rfl (Nat.le_of_ble_eq_true rfl) ?_
     refine shO_L (L' := (b50, .cells #[.slice a41 n45 c42, .slice a47 l3.length c48] 26 (0, 0)) :: ((b34, .cells #[.int .i64 x.1, .int .i64 x.2] 59 (0, 0)) :: ((b1, .cells #[.slice a8 u_listens2.length c9, .slice a11 u_hours2.length c12] 26 (0, 0)) :: (Lb43 ++ [])))) rfl ?_
     refine oa rfl rfl (shO_nil (shW_seq (wsr (om rfl rfl ?_))))
     refine ov (v_neq rfl rfl) rfl ?_
     refine shO_nil ?_
     refine shW_condP rfl (fun c51 => ?_) (fun c51 => ?_)
     · have r52 := ite_t r36 c51; clear r36
       refine wsr (oa rfl rfl (oa rfl rfl (shO_nil ?_)))
       refine kW kn ?_
       refine shW_ret (andThen_ret (inBlock_ret (andThen_ret (andThen_ret (inBlock_ret (andThen_ret ?_))))))
       refine q_res2 Try.results46 (res_tmp rfl) (res_tmp rfl) (sr) ?_
       obtain ⟨rfl, rfl⟩ := inj2 r52
       exact rfl
     have r53 := ite_f r36 c51; clear r36
     refine shW_skip (shW_region ?_)
     refine ov (v_loadA (cs := #[.slice a41 n45 c42, .slice a47 l3.length c48]) Try.isAgg26 Try.sizeOf26 rfl (Has.own 0 rfl) (Nat.le_of_ble_eq_true rfl) rfl) rfl ?_
     refine o_storeA (i := 2) Try.sizeOf26 rfl rfl rfl (by simp [Value.oneCell']) rfl (Nat.le_of_ble_eq_true rfl) ?_
     refine shO_L (L' := (b50, .cells #[.slice a41 n45 c42, .slice a47 l3.length c48] 26 (0, 0)) :: ((b34, .cells #[.int .i64 x.1, .int .i64 x.2] 59 (0, 0)) :: ((b1, .cells #[.slice a41 n45 c42, .slice a47 l3.length c48] 26 (0, 0)) :: (Lb43 ++ [])))) rfl ?_
     refine shO_nil (inBlock_n (id := 1) (shW_region ?_))
     refine ov (v_add rfl rfl (Lst.r64 hk14 c21 (RowR.lt h_l))) rfl ?_
     refine om rfl rfl (shO_nil ?_)
     subst hn15; refine lf ?_
     obtain rfl := (SlR.caps hz44).1
     refine shmz_freezeR (Nat.le_refl _) (slE_ok (iE_ok _)) (fC (fC (fC fP))) hz44 ?_; intro F54 hF55 h56
     replace h49 := h49.mono (slE_ok (iE_ok _)) hF55
     exact mf (kd (kd kr)) ⟨_, _, rfl, hk22, l2, l3, a41, c42, a47, c48, r53, ((hF19.trans hF38).trans hF55), rfl, (sc rfl (sc rfl (sc rfl (sc rfl (sn _))))), h56, h49⟩
   obtain rfl := Lst.zero hk14 c21
   rw [oyezlaw05_NightWrong_1_l2] at r16
   refine shW_exit (andThen_exit (andThen_exit ?_))
   refine inBlock_exit ?_
   exact mi kr ⟨u_listens2, u_hours2, a8, c9, a11, c12, r16, hF19, rfl, (sc rfl (sn _)), h10, h13⟩
 rintro e1 F59 _ ⟨u_listens, u_hours, a2, c3, a5, c6, r57, hF60, rfl, he58, h4, h7⟩
 refine shW_env _ he58 ?_; clear he58
 rw [oyezlaw05_NightWrong_1_j1] at r57
 refine wsr ?_
 refine ov (v_loadA (cs := #[.slice a2 u_listens.length c3, .slice a5 u_hours.length c6]) Try.isAgg26 Try.sizeOf26 rfl (Has.own 0 rfl) (Nat.le_of_ble_eq_true rfl) rfl) rfl ?_
 obtain ⟨n2, n3, h61, r62⟩ := b2_ok r57; clear r57
 refine o_callV rfl Try.call25 rfl rfl rfl (night_Count_w h4 h7 h61) ?_
 refine om rfl rfl (ox rfl rfl rfl (ox rfl rfl rfl (oa rfl rfl (oa rfl rfl (nsr (om rfl rfl ?_))))))
 refine ov (v_gtrK rfl rfl) rfl ?_
 refine om rfl rfl ?_
 refine ov (v_eql rfl rfl) rfl ?_
 refine oa rfl rfl (oa rfl rfl (shO_nil ?_))
 refine kW kn ?_
 refine shW_ret ?_
 refine q_res2 Try.results46 (res_tmp rfl) (res_tmp rfl) (sr) ?_
 obtain ⟨rfl, rfl⟩ := inj2 r62
 exact rfl
set_option maxHeartbeats 1000000 in
theorem oyezlaw05_NightWrong_w {numbers_a : Option Addr} {numbers_c : Nat} {numbers : List Int} {tries_a : Option Addr} {tries_c : Nat} {tries : List Int} {F : FS} (h_numbers : RowR 1 (iE .u8) F numbers_a numbers_c numbers) (h_tries : RowR 1 (iE .u8) F tries_a tries_c tries) {r : Bool} (hr : oyezlaw05_NightWrong numbers tries = some r) :
    SpecV Try.prog 9 #[.slice numbers_a numbers.length numbers_c, .slice tries_a tries.length tries_c] F (.bool r) := by
 refine spec_of_shW (args := [.slice numbers_a numbers.length numbers_c, .slice tries_a tries.length tries_c]) Try.func9 rfl Try.ntmps9 (Nat.le_of_ble_eq_true rfl) ?_
 intro K _ _; rw [oyezlaw05_NightWrong] at hr
 refine wsr (oa rfl rfl (nsr (om rfl rfl ?_)))
 obtain ⟨metal, at_, turn, h1, r2⟩ := b3_ok hr; clear hr
 refine o_call0 rfl Try.call13 rfl rfl rfl (oyezkit_Hang_w h_numbers h1) ?_; rintro _ F3 _ hF4 hn5 ⟨b7, a8, c9, rfl, rfl, h10⟩
 replace h_tries := h_tries.mono (iE_ok _) hF4
 refine shO_L (lb (ln rfl)) ?_
 obtain ⟨l, l2, l3, at_2, turn2, h11, r12⟩ := b5_ok r2; clear r2
 refine o_callG (Lb := [(b7, .cells #[.slice a8 metal.length c9, .int .i64 at_, .int .u32 turn] 104 (0, 0))]) (Lr := []) rfl Try.call12 rfl rfl rfl (pR) (oyezlaw05_Made_w h10 h11) ?_; rintro _ F13 _ hF14 hd16 hn15 ⟨a17, n21, c18, Lb19, a23, n27, c24, Lb25, a29, n33, c30, Lb31, rfl, rfl, hz20, hz26, hz32⟩
 replace h_tries := h_tries.mono (iE_ok _) hF14
 have hn35 := newp (Lb' := [(b7, .cells #[.slice a8 metal.length c9, .int .i64 at_2, .int .u32 turn2] 104 (0, 0))]) (by rfl) hd16 hn15
 replace hz20 := hz20.new fun p hp => hn35 p (by simp [hp])
 replace hz26 := hz26.new fun p hp => hn35 p (by simp [hp])
 refine shO_L (lb (lp (lp (lp (ln rfl))))) ?_
 refine om rfl rfl (ox rfl rfl rfl (ox rfl rfl rfl ?_))
 refine o_alloc rfl Try.zeroValue26 ?_; intro b36 hb36
 refine o_storeA (i := 0) Try.sizeOf26 rfl rfl rfl (by simp [Value.oneCell']) rfl (Nat.le_of_ble_eq_true rfl) ?_
 refine shO_L (L' := (b36, .cells #[.slice a17 n21 c18, .slice a23 n27 c24] 26 (0, 0)) :: ((b7, .cells #[.slice a8 metal.length c9, .int .i64 at_2, .int .u32 turn2] 104 (0, 0)) :: (Lb19 ++ (Lb25 ++ (Lb31 ++ []))))) rfl ?_
 refine oa rfl rfl (nsr (om rfl rfl ?_))
 obtain ⟨metal2, at_3, turn3, h37, r38⟩ := b3_ok r12; clear r12
 refine o_call0 rfl Try.call13 rfl rfl rfl (oyezkit_Hang_w h_tries h37) ?_; rintro _ F39 _ hF40 hn41 ⟨b43, a44, c45, rfl, rfl, h46⟩
 replace hz20 := hz20.mono (iE_ok _) hF40
 replace hz26 := hz26.mono (iE_ok _) hF40
 refine shO_L (lb (ln rfl)) ?_
 refine oa rfl rfl (shO_nil ?_)
 obtain ⟨w_hours, q_at, q_turn, h49, r50⟩ := b3_ok r38; clear r38
 refine shW_join (fun e1 F1 L1 => ∃ (Lb47 : LH), FExt F39 F1 ∧ L1 = ((b43, .cells #[.slice a44 metal2.length c45, .int .i64 q_at, .int .u32 q_turn] 104 (0, 0)) :: ((b36, .cells #[.slice a17 n21 c18, .slice a23 n27 c24] 26 (0, 0)) :: (Lb19 ++ (Lb47 ++ [])))) ∧ e1.sub [(5, .pointer (some ⟨b36, 0, none⟩)), (7, .pointer (some ⟨b43, 0, none⟩))] ∧ NlR K.w0.heap.size 40 41 1 (iE .i64) F1 a23 n27 c24 w_hours Lb47) ?_ ?_
 · clear r50
   refine wsr ?_
   refine ov (v_fieldAddr fa_26_1 rfl) rfl ?_
   refine ov (v_load Try.isAgg24 rfl (Has.own 1 rfl) rfl) rfl ?_
   refine ov ((v_lenS Try.underlying24 rfl).i (NlR.lenI hz26)) rfl ?_
   refine om rfl rfl (shO_nil ?_)
   refine shW_block ?_
   refine kW (kc (kc (kd (ka (ka kn))))) ?_
   obtain ⟨g53, r54⟩ := gd_ok h49; clear h49
   refine shW_lp (fun fu1 e1 F1 L1 => ∃ (k : Int), Ctr 0 (l2.length : Int) k fu1 ∧ ∃ (w_hours2 : List (List Int)) (q_at2 : Int) (q_turn2 : Int) (Lb51 : LH), oyezlaw05_NightWrong_l1 metal2 fu1 k w_hours2 q_at2 q_turn2 = some (w_hours, q_at, q_turn) ∧ FExt F39 F1 ∧ L1 = ((b43, .cells #[.slice a44 metal2.length c45, .int .i64 q_at2, .int .u32 q_turn2] 104 (0, 0)) :: ((b36, .cells #[.slice a17 n21 c18, .slice a23 n27 c24] 26 (0, 0)) :: (Lb19 ++ (Lb51 ++ [])))) ∧ e1.sub [(5, .pointer (some ⟨b36, 0, none⟩)), (7, .pointer (some ⟨b43, 0, none⟩)), (38, .slice a23 n27 c24), (39, .int .i64 (l2.length : Int)), (40, .int .i64 k)] ∧ NlR K.w0.heap.size 40 41 1 (iE .i64) F1 a23 n27 c24 w_hours2 Lb51) _ (m0 kr ⟨_, Ctr.start _ _, l2, at_3, turn3, Lb25, r54, FExt.refl _, rfl, (sc rfl (sc rfl (sc rfl (sc rfl (sc rfl (sn _)))))), hz26⟩) ?_
   rintro fu1 e1 F59 _ ⟨k, hk55, w_hours2, q_at2, q_turn2, Lb51, r57, hF60, rfl, he58, hz52⟩
   refine shW_env _ he58 ?_; clear he58
   replace h46 := h46.mono (iE_ok _) hF60
   refine wsr ?_
   refine ov (v_lssK rfl rfl) rfl ?_
   refine shO_nil (shW_seq ?_)
   refine shW_condP rfl (fun c62 => ?_) (fun c62 => ?_)
   · obtain ⟨fu1, rfl, hk63⟩ := Ctr.succ hk55 c62
     rw [oyezlaw05_NightWrong_l1] at r57
     refine shW_skip ?_
     obtain ⟨w_hours3, q_at3, q_turn3, h70, r71⟩ := b3_ok r57; clear r57
     refine shW_joinF (fun e1 F1 L1 => ∃ (Lb68 : LH), FExt F59 F1 ∧ L1 = ((b43, .cells #[.slice a44 metal2.length c45, .int .i64 q_at3, .int .u32 q_turn3] 104 (0, 0)) :: ((b36, .cells #[.slice a17 n21 c18, .slice a23 n27 c24] 26 (0, 0)) :: (Lb19 ++ (Lb68 ++ [])))) ∧ e1.sub [(5, .pointer (some ⟨b36, 0, none⟩)), (7, .pointer (some ⟨b43, 0, none⟩)), (38, .slice a23 n27 c24), (39, .int .i64 (l2.length : Int)), (40, .int .i64 k)] ∧ NlR K.w0.heap.size 40 41 1 (iE .i64) F1 a23 n27 c24 w_hours3 Lb68) ?_ ?_
     · clear r71
       refine shW_block ?_
       refine wsr ?_
       obtain ⟨x, g72, hx73, r74⟩ := ix_ok h70; clear h70
       have hn86 := (NlR.caps hz52).1
       refine shO_open (fC (fC (fS fP))) hz52 hx73 ?_; intro hs75 Lo76 Lc77 a78 n79 c80 Lb81 hh82 hO83 hz84 hI85
       refine kO (kf (fS (fS (fS fO))) (kf (fS (fS (fS fO))) kr)) ?_
       obtain ⟨b88, o89, c90, vs91, ha92, hs93, hle94, rfl, hl95, hc96⟩ := SlR.at hdE_ok hO83 (L := (b43, .cells #[.slice a44 metal2.length c45, .int .i64 q_at2, .int .u32 q_turn2] 104 (0, 0)) :: ((b36, .cells #[.slice a17 n21 c18, .slice a23 n27 c24] 26 (0, 0)) :: (Lo76 ++ (Lb81 ++ (Lc77 ++ (Lb19 ++ [])))))) (fC (fC fP)) g72.1 hh82
       refine ov (v_indexO Try.underlying24 Try.sizeOf40 rfl ha92 rfl (idxN hn86 g72)) rfl ?_
       refine ov (v_load Try.isAgg40 rfl hs93 (hc96 0 (by decide))) rfl ?_
       refine oa rfl rfl (nsr (om rfl rfl ?_))
       refine ov ((v_lenS Try.underlying40 rfl).i (SlR.lenI hz84)) rfl ?_
       refine om rfl rfl (shO_nil ?_)
       refine shW_block ?_
       obtain ⟨g99, r100⟩ := gd_ok r74; clear r74
       refine shW_lp (fun fu2 e1 F1 L1 => ∃ (k2 : Int), Ctr 0 (x.length : Int) k2 fu2 ∧ ∃ (l4 : List Int) (q_at4 : Int) (q_turn4 : Int) (Lb97 : LH), oyezlaw05_NightWrong_l2 metal2 w_hours2 k fu2 k2 l4 q_at4 q_turn4 = some (w_hours3, q_at3, q_turn3) ∧ FExt F59 F1 ∧ L1 = ((b43, .cells #[.slice a44 metal2.length c45, .int .i64 q_at4, .int .u32 q_turn4] 104 (0, 0)) :: ((b36, .cells #[.slice a17 n21 c18, .slice a23 n27 c24] 26 (0, 0)) :: (Lb19 ++ (Lo76 ++ (Lb97 ++ (Lc77 ++ [])))))) ∧ e1.sub [(5, .pointer (some ⟨b36, 0, none⟩)), (7, .pointer (some ⟨b43, 0, none⟩)), (9, .slice a78 n79 c80), (38, .slice a23 n27 c24), (39, .int .i64 (l2.length : Int)), (40, .int .i64 k), (44, .slice a78 n79 c80), (45, .int .i64 (x.length : Int)), (46, .int .i64 k2)] ∧ SlR K.w0.heap.size 41 1 (iE .i64) F1 a78 n79 c80 l4 Lb97) _ (m0 (kc (kc (kg (fS (fS (fS fP))) kr))) ⟨_, Ctr.start _ _, x, q_at2, q_turn2, Lb81, r100, FExt.refl _, rfl, (sc rfl (sc rfl (sc rfl (sc rfl (sc rfl (sc rfl (sc rfl (sc rfl (sc rfl (sn _)))))))))), hz84⟩) ?_
       rintro fu2 e1 F105 _ ⟨k2, hk101, l4, q_at4, q_turn4, Lb97, r103, hF106, rfl, he104, hz98⟩
       refine shW_env _ he104 ?_; clear he104
       replace h46 := h46.mono (iE_ok _) hF106
       replace hO83 := hO83.mono hdE_ok hF106
       replace hI85 := hI85.mono (iE_ok _) hF106
       refine wsr ?_
       refine ov (v_lssK rfl rfl) rfl ?_
       refine shO_nil (shW_seq ?_)
       refine shW_condP rfl (fun c108 => ?_) (fun c108 => ?_)
       · obtain ⟨fu2, rfl, hk109⟩ := Ctr.succ hk101 c108
         rw [oyezlaw05_NightWrong_l2] at r103
         refine shW_skip (shW_seq ?_)
         refine shW_block ?_
         refine wsr (om rfl rfl ?_)
         obtain ⟨x2, g110, hx111, r112⟩ := ix_ok r103; clear r103
         obtain ⟨b113, o114, c115, vs116, ha117, hs118, hle119, rfl, hl120, hc121⟩ := SlR.at (iE_ok _) hz98 (L := (b43, .cells #[.slice a44 metal2.length c45, .int .i64 q_at4, .int .u32 q_turn4] 104 (0, 0)) :: ((b36, .cells #[.slice a17 n21 c18, .slice a23 n27 c24] 26 (0, 0)) :: (Lb19 ++ (Lo76 ++ (Lb97 ++ (Lc77 ++ [])))))) (fC (fC (fS (fS fP)))) g110.1 hx111
         refine ov (v_indexO Try.underlying40 Try.sizeOf41 rfl ha117 rfl (SlR.idx hz98 g110)) rfl ?_
         refine ov (v_load Try.isAgg41 rfl hs118 (hc121 0 (by decide))) rfl ?_
         refine oa rfl rfl (oa rfl rfl (shO_nil ?_))
         obtain ⟨q_at5, q_turn5, k3, h122, r123⟩ := b3_ok r112; clear r112
         refine shW_join (fun e1 F1 L1 => FExt F105 F1 ∧ L1 = ((b43, .cells #[.slice a44 metal2.length c45, .int .i64 q_at5, .int .u32 q_turn5] 104 (0, 0)) :: ((b36, .cells #[.slice a17 n21 c18, .slice a23 n27 c24] 26 (0, 0)) :: (Lb19 ++ (Lo76 ++ (Lb97 ++ (Lc77 ++ [])))))) ∧ e1.sub [(5, .pointer (some ⟨b36, 0, none⟩)), (7, .pointer (some ⟨b43, 0, none⟩)), (9, .slice a78 n79 c80), (10, .int .i64 k2), (11, .int .i64 x2), (38, .slice a23 n27 c24), (39, .int .i64 (l2.length : Int)), (40, .int .i64 k), (44, .slice a78 n79 c80), (45, .int .i64 (x.length : Int)), (46, .int .i64 k2), (56, .bool k3)]) ?_ ?_
         · clear r123
           refine shW_region (om rfl rfl ?_)
           refine ov (v_neq rfl rfl) rfl ?_
           refine om rfl rfl ?_
           by_cases c124 : x2 ≠ 0
           · have r125 := ite_t h122 c124; clear h122
             refine shO_on (b := true) 53 rfl (Env.isT rfl c124) (om rfl rfl (shO_on (b := true) 53 rfl (Env.isT rfl c124) ?_))
             obtain ⟨ok, at_4, turn4, h126, r127⟩ := b3_ok r125; clear r125
             refine o_callG (Lb := [(b43, .cells #[.slice a44 metal2.length c45, .int .i64 q_at4, .int .u32 q_turn4] 104 (0, 0))]) (Lr := (b36, .cells #[.slice a17 n21 c18, .slice a23 n27 c24] 26 (0, 0)) :: (Lb19 ++ (Lo76 ++ (Lb97 ++ (Lc77 ++ []))))) rfl Try.call44 rfl rfl rfl (pR) (oyezkit_Bell_Seldom_w h46 h126) ?_; rintro _ F128 _ hF129 hd131 hn130 ⟨rfl, rfl⟩
             refine shO_L (lb (ln rfl)) ?_
             refine ov (v_pick_t (evD_true rfl c124) rfl) rfl ?_
             refine shO_nil ?_
             obtain ⟨rfl, rfl, rfl⟩ := inj3 r127
             exact mi kr ⟨hF129, rfl, (sc rfl (sc rfl (sc rfl (sc rfl (sc rfl (sc rfl (sc rfl (sc rfl (sc rfl (sc rfl (sc rfl (sc rfl (sn _)))))))))))))⟩
           have r132 := ite_f h122 c124; clear h122
           refine shO_off (b' := false) 53 rfl (Env.isF rfl c124) rfl rfl (shO_off (b' := false) 53 rfl (Env.isF rfl c124) rfl rfl ?_)
           refine ov (v_pick_f (evD_false rfl c124) rfl) rfl ?_
           refine shO_nil ?_
           obtain ⟨rfl, rfl, rfl⟩ := inj3 r132
           exact mi kr ⟨FExt.refl _, rfl, (sc rfl (sc rfl (sc rfl (sc rfl (sc rfl (sc rfl (sc rfl (sc rfl (sc rfl (sc rfl (sc rfl (sc rfl (sn _)))))))))))))⟩
         rintro e1 F134 _ ⟨hF135, rfl, he133⟩
         refine shW_env _ he133 ?_; clear he133
         replace hz98 := hz98.mono (iE_ok _) hF135
         refine shW_cond rfl (fun c136 => ?_) (fun c136 => ?_)
         · have r137 := bt r123 c136; clear r123
           refine shW_region (om rfl rfl (om rfl rfl (om rfl rfl ?_)))
           obtain ⟨g138, r139⟩ := gd_ok r137; clear r137
           refine ov (v_sub rfl rfl g138) rfl ?_
           obtain ⟨b140, o141, c142, vs143, ha144, hs145, hle146, rfl, hl147, hc148⟩ := SlR.at (iE_ok _) hz98 (L := (b43, .cells #[.slice a44 metal2.length c45, .int .i64 q_at5, .int .u32 q_turn5] 104 (0, 0)) :: ((b36, .cells #[.slice a17 n21 c18, .slice a23 n27 c24] 26 (0, 0)) :: (Lb19 ++ (Lo76 ++ (Lb97 ++ (Lc77 ++ [])))))) (fC (fC (fS (fS fP)))) g110.1 hx111
           refine ov (v_indexO Try.underlying40 Try.sizeOf41 rfl ha144 rfl (SlR.idx hz98 g110)) rfl ?_
           obtain ⟨l5, h149, r150⟩ := bv_ok r139; clear r139
           refine o_storeZ (u := 3 - x2) Try.sizeOf41 (iE_ok _) rfl ha144 rfl rfl (fun _ => .c (.c (.s (.s .h)))) hz98 h149 g110 ?_; intro Lb151 hz152
           refine shO_nil (inBlock_n (id := 3) (shW_region ?_))
           refine ov (v_add rfl rfl (Ctr.r64 hk101 c108 g99)) rfl ?_
           refine om rfl rfl (shO_nil ?_)
           exact le kr ⟨_, hk109, l5, q_at5, q_turn5, Lb151, r150, (hF106.trans hF135), rfl, (sc rfl (sc rfl (sc rfl (sc rfl (sc rfl (sc rfl (sc rfl (sc rfl (sc rfl (sn _)))))))))), hz152⟩
         have r153 := bf r123 c136; clear r123
         refine shW_skip (inBlock_n (id := 3) (shW_region ?_))
         refine ov (v_add rfl rfl (Ctr.r64 hk101 c108 g99)) rfl ?_
         refine om rfl rfl (shO_nil ?_)
         exact le kr ⟨_, hk109, l4, q_at5, q_turn5, Lb97, r153, (hF106.trans hF135), rfl, (sc rfl (sc rfl (sc rfl (sc rfl (sc rfl (sc rfl (sc rfl (sc rfl (sc rfl (sn _)))))))))), hz98⟩
       obtain rfl := Ctr.zero hk101 c108
       rw [oyezlaw05_NightWrong_l2] at r103
       refine shW_exit (andThen_exit (andThen_exit ?_))
       refine inBlock_exit ?_
       refine inBlock_n (id := 1) ?_
       obtain ⟨w2, h154, r155⟩ := bv_ok r103; clear r103
       refine shmz_fold (p := fun X => NlR K.w0.heap.size 40 41 1 (iE .i64) F105 a23 n27 c24 w2 X) (InH.back0 hI85 hO83 hh82 hz98 h154) (pT ((fC (fC (fS fP))).trans (pA ((fC (fC (fS fP))).trans (pA ((fC (fC (fS fP))).trans (pA pR)))))) (lp (lp (lp (ln rfl))))) ?_; intro Lb156 hz157
       obtain ⟨rfl, rfl, rfl⟩ := inj3 r155
       exact mf (kf (fS fO) (kf (fS fO) (kg (fS fP) kr))) ⟨Lb156, hF106, rfl, (sc rfl (sc rfl (sc rfl (sc rfl (sc rfl (sn _)))))), hz157⟩
     rintro e1 F159 _ ⟨Lb68, hF160, rfl, he158, hz69⟩
     refine shW_env _ he158 ?_; clear he158
     refine shW_region ?_
     refine ov (v_add rfl rfl (Ctr.r64 hk55 c62 g53)) rfl ?_
     refine om rfl rfl (shO_nil ?_)
     exact le kr ⟨_, hk63, w_hours3, q_at3, q_turn3, Lb68, r71, (hF60.trans hF160), rfl, (sc rfl (sc rfl (sc rfl (sc rfl (sc rfl (sn _)))))), hz69⟩
   obtain rfl := Ctr.zero hk55 c62
   rw [oyezlaw05_NightWrong_l1] at r57
   refine shW_exit (andThen_exit (andThen_exit ?_))
   refine inBlock_exit ?_
   obtain ⟨rfl, rfl, rfl⟩ := inj3 r57
   exact mi kr ⟨Lb51, hF60, rfl, (sc rfl (sc rfl (sn _))), hz52⟩
 rintro e1 F162 _ ⟨Lb47, hF163, rfl, he161, hz48⟩
 refine shW_env _ he161 ?_; clear he161
 replace h46 := h46.mono (iE_ok _) hF163
 replace hz20 := hz20.mono (iE_ok _) hF163
 refine wsr ?_
 refine ov (v_loadA (cs := #[.slice a17 n21 c18, .slice a23 n27 c24]) Try.isAgg26 Try.sizeOf26 rfl (Has.own 1 rfl) (Nat.le_of_ble_eq_true rfl) rfl) rfl ?_
 obtain ⟨l6, n, h164, r165⟩ := b2_ok r50; clear r50
 refine o_callTO (Lb := []) (Lt := Lb19 ++ (Lb47 ++ [])) (Lr := [(b43, .cells #[.slice a44 metal2.length c45, .int .i64 q_at, .int .u32 q_turn] 104 (0, 0)), (b36, .cells #[.slice a17 n21 c18, .slice a23 n27 c24] 26 (0, 0))]) rfl Try.call45 rfl rfl rfl (pT ((fC (fC fP)).trans (pA ((fC (fC fP)).trans (pA pR)))) (ln (lp (lp (ln rfl))))) (fun F2 h2 h3 => by rw [(NlR.caps hz20).1]; rw [(NlR.caps hz48).1]; exact night_Wrong_w (hz20.row (iE_ok _) h2 (fun p hp => h3 p (List.mem_append_left _ hp))) (hz48.row (iE_ok _) h2 (fun p hp => h3 p (List.mem_append_right _ (List.mem_append_left _ hp)))) h164) (fun _ _ _ _ hq => by obtain ⟨a170, n174, c171, Lb172, rfl, rfl, hz173⟩ := hq; exact ⟨_, _, _, _, rfl, rfl, hz173.flat (fun _ _ h => h)⟩) ?_; rintro _ F166 _ hF167 hd169 hn168 ⟨a170, n174, c171, Lb172, rfl, rfl, hz173⟩
 replace h46 := h46.mono (iE_ok _) hF167
 replace hz20 := hz20.mono (iE_ok _) hF167
 replace hz48 := hz48.mono (iE_ok _) hF167
 have hn176 := newp (Lb' := []) (by rfl) hd169 hn168
 replace hz173 := hz173.new fun p hp => hn176 p (by simp [hp])
 refine shO_L (lp (ln (lp (lp (ln rfl))))) ?_
 refine kO (kf (fS (fS (fS fO))) (kf (fS (fS (fS fO))) kr)) ?_
 refine om rfl rfl (ox rfl rfl rfl (ox rfl rfl rfl (oa rfl rfl (oa rfl rfl (nsr ?_)))))
 refine ov (v_loadA (cs := #[.slice a17 n21 c18, .slice a23 n27 c24]) Try.isAgg26 Try.sizeOf26 rfl (Has.own 1 rfl) (Nat.le_of_ble_eq_true rfl) rfl) rfl ?_
 obtain ⟨n2, n3, h177, r178⟩ := b2_ok r165; clear r165
 refine o_callT (Lt := Lb19 ++ (Lb47 ++ [])) (Lr := (b43, .cells #[.slice a44 metal2.length c45, .int .i64 q_at, .int .u32 q_turn] 104 (0, 0)) :: ((b36, .cells #[.slice a17 n21 c18, .slice a23 n27 c24] 26 (0, 0)) :: (Lb172 ++ []))) rfl Try.call25 rfl rfl rfl (pT ((fC (fC (fS fP))).trans (pA ((fC (fC (fS fP))).trans (pA pR)))) (lp (lp (ln rfl)))) (fun F2 h2 h3 => by rw [(NlR.caps hz20).1]; rw [(NlR.caps hz48).1]; exact night_Count_w (hz20.row (iE_ok _) h2 (fun p hp => h3 p (List.mem_append_left _ hp))) (hz48.row (iE_ok _) h2 (fun p hp => h3 p (List.mem_append_right _ (List.mem_append_left _ hp)))) h177) ?_
 refine om rfl rfl (ox rfl rfl rfl (ox rfl rfl rfl (oa rfl rfl (oa rfl rfl (nsr ?_)))))
 refine ov (v_loadA (cs := #[.slice a17 n21 c18, .slice a23 n27 c24]) Try.isAgg26 Try.sizeOf26 rfl (Has.own 1 rfl) (Nat.le_of_ble_eq_true rfl) rfl) rfl ?_
 obtain ⟨l7, n4, n5, h179, r180⟩ := b3_ok r178; clear r178
 refine o_callTO (Lb := []) (Lt := Lb19 ++ (Lb47 ++ [])) (Lr := (b43, .cells #[.slice a44 metal2.length c45, .int .i64 q_at, .int .u32 q_turn] 104 (0, 0)) :: ((b36, .cells #[.slice a17 n21 c18, .slice a23 n27 c24] 26 (0, 0)) :: (Lb172 ++ []))) rfl Try.call14 rfl rfl rfl (pT ((fC (fC (fS fP))).trans (pA ((fC (fC (fS fP))).trans (pA pR)))) (ln (lp (lp (ln rfl))))) (fun F2 h2 h3 => by rw [(NlR.caps hz20).1]; rw [(NlR.caps hz48).1]; exact night_Fewest_w (hz20.row (iE_ok _) h2 (fun p hp => h3 p (List.mem_append_left _ hp))) (hz48.row (iE_ok _) h2 (fun p hp => h3 p (List.mem_append_right _ (List.mem_append_left _ hp)))) h179) (fun _ _ _ _ hq => by obtain ⟨a185, n189, c186, Lb187, rfl, rfl, hz188⟩ := hq; exact ⟨_, _, _, _, rfl, rfl, hz188.flat (fun _ _ h => h)⟩) ?_; rintro _ F181 _ hF182 hd184 hn183 ⟨a185, n189, c186, Lb187, rfl, rfl, hz188⟩
 replace h46 := h46.mono (iE_ok _) hF182
 replace hz20 := hz20.mono (iE_ok _) hF182
 replace hz48 := hz48.mono (iE_ok _) hF182
 replace hz173 := hz173.mono (prE_ok (iE_ok _) (iE_ok _)) hF182
 refine shO_L (lp (ln (lp (lp (ln rfl))))) ?_
 refine kO (kf (fS (fS (fS fO))) (kf (fS (fS (fS fO))) kr)) ?_
 refine om rfl rfl (ox rfl rfl rfl (ox rfl rfl rfl (ox rfl rfl rfl (oa rfl rfl (oa rfl rfl (oa rfl rfl (shO_nil (shW_seq ?_))))))))
 obtain ⟨k4, h192, r193⟩ := b1_ok r180; clear r180
 refine shW_join (fun e1 F1 L1 => F181 = F1 ∧ L1 = ((b43, .cells #[.slice a44 metal2.length c45, .int .i64 q_at, .int .u32 q_turn] 104 (0, 0)) :: ((b36, .cells #[.slice a17 n21 c18, .slice a23 n27 c24] 26 (0, 0)) :: (Lb19 ++ (Lb47 ++ (Lb172 ++ []))))) ∧ e1.sub [(5, .pointer (some ⟨b36, 0, none⟩)), (7, .pointer (some ⟨b43, 0, none⟩)), (12, .slice a170 n174 c171), (108, .bool k4)]) ?_ ?_
 · clear r193
   refine shW_region (om rfl rfl ?_)
   refine ov (v_neq rfl rfl) rfl ?_
   refine om rfl rfl ?_
   by_cases c194 : n ≠ 0
   · have r195 := ite_t h192 c194; clear h192
     refine shO_off (b' := true) 82 rfl (Env.isT rfl c194) rfl rfl (shO_off (b' := true) 82 rfl (Env.isT rfl c194) rfl rfl ?_)
     refine ov (v_pick_t (evD_true rfl c194) rfl) rfl ?_
     refine om rfl rfl (shO_off (b' := true) 86 rfl rfl rfl rfl (shO_off (b' := true) 86 rfl rfl rfl rfl (shO_off (b' := true) 86 rfl rfl rfl rfl (shO_off (b' := true) 86 rfl rfl rfl rfl (shO_off (b' := true) 86 rfl rfl rfl rfl (shO_off (b' := true) 86 rfl rfl rfl rfl ?_))))))
     refine ov (v_pick_t rfl rfl) rfl ?_
     refine om rfl rfl (shO_off (b' := true) 94 rfl rfl rfl rfl (shO_off (b' := true) 94 rfl rfl rfl rfl (shO_off (b' := true) 94 rfl rfl rfl rfl (shO_off (b' := true) 94 rfl rfl rfl rfl (shO_off (b' := true) 94 rfl rfl rfl rfl ?_)))))
     refine ov (v_pick_t rfl rfl) rfl ?_
     refine om rfl rfl (shO_off (b' := true) 101 rfl rfl rfl rfl (shO_off (b' := true) 101 rfl rfl rfl rfl (shO_off (b' := true) 101 rfl rfl rfl rfl (shO_offU 104 rfl rfl rfl (shO_offU 104 rfl rfl rfl (shO_off (b' := true) 101 rfl rfl rfl rfl ?_))))))
     refine ov (v_pick_t rfl rfl) rfl ?_
     refine shO_nil ?_
     obtain rfl := inj1 r195
     exact mi (kc (kc (kx kr))) ⟨rfl, rfl, (sc rfl (sc rfl (sc rfl (sc rfl (sn _)))))⟩
   have r196 := ite_f h192 c194; clear h192
   refine shO_on (b := false) 82 rfl (Env.isF rfl c194) (om rfl rfl (shO_on (b := false) 82 rfl (Env.isF rfl c194) ?_))
   refine ov (v_neq rfl rfl) rfl ?_
   refine ov (v_pick_f (evD_false rfl c194) rfl) rfl ?_
   refine om rfl rfl ?_
   by_cases c197 : n3 ≠ 0
   · have r198 := ite_t r196 c197; clear r196
     refine shO_off (b' := true) 86 rfl (Env.isT rfl c197) rfl rfl (shO_off (b' := true) 86 rfl (Env.isT rfl c197) rfl rfl (shO_off (b' := true) 86 rfl (Env.isT rfl c197) rfl rfl (shO_off (b' := true) 86 rfl (Env.isT rfl c197) rfl rfl (shO_off (b' := true) 86 rfl (Env.isT rfl c197) rfl rfl (shO_off (b' := true) 86 rfl (Env.isT rfl c197) rfl rfl ?_)))))
     refine ov (v_pick_t (evD_true rfl c197) rfl) rfl ?_
     refine om rfl rfl (shO_off (b' := true) 94 rfl rfl rfl rfl (shO_off (b' := true) 94 rfl rfl rfl rfl (shO_off (b' := true) 94 rfl rfl rfl rfl (shO_off (b' := true) 94 rfl rfl rfl rfl (shO_off (b' := true) 94 rfl rfl rfl rfl ?_)))))
     refine ov (v_pick_t rfl rfl) rfl ?_
     refine om rfl rfl (shO_off (b' := true) 101 rfl rfl rfl rfl (shO_off (b' := true) 101 rfl rfl rfl rfl (shO_off (b' := true) 101 rfl rfl rfl rfl (shO_offU 104 rfl rfl rfl (shO_offU 104 rfl rfl rfl (shO_off (b' := true) 101 rfl rfl rfl rfl ?_))))))
     refine ov (v_pick_t rfl rfl) rfl ?_
     refine shO_nil ?_
     obtain rfl := inj1 r198
     exact mi (kc (kc (kx kr))) ⟨rfl, rfl, (sc rfl (sc rfl (sc rfl (sc rfl (sn _)))))⟩
   have r199 := ite_f r196 c197; clear r196
   refine shO_on (b := false) 86 rfl (Env.isF rfl c197) (om rfl rfl (shO_on (b := false) 86 rfl (Env.isF rfl c197) ?_))
   refine ov (v_gtrK rfl rfl) rfl ?_
   refine shO_on (b := false) 86 rfl (Env.isF rfl c197) (om rfl rfl (shO_on (b := false) 86 rfl (Env.isF rfl c197) ?_))
   refine ov ((v_lenS Try.underlying83 rfl).i (SlR.lenI hz173)) rfl ?_
   refine shO_on (b := false) 86 rfl (Env.isF rfl c197) ?_
   refine ov (v_eql rfl rfl) rfl ?_
   refine shO_on (b := false) 86 rfl (Env.isF rfl c197) ?_
   refine ov (v_neqB Try.underlying4 rfl rfl) rfl ?_
   refine ov (v_pick_f (evD_false rfl c197) rfl) rfl ?_
   refine om rfl rfl ?_
   by_cases c200 : (decide (0 < n2)) ≠ (decide ((l6.length : Int) = 0))
   · have r201 := ite_t r199 c200; clear r199
     refine shO_off (b' := true) 94 rfl (Env.isT rfl c200) rfl rfl (shO_off (b' := true) 94 rfl (Env.isT rfl c200) rfl rfl (shO_off (b' := true) 94 rfl (Env.isT rfl c200) rfl rfl (shO_off (b' := true) 94 rfl (Env.isT rfl c200) rfl rfl (shO_off (b' := true) 94 rfl (Env.isT rfl c200) rfl rfl ?_))))
     refine ov (v_pick_t (evD_true rfl c200) rfl) rfl ?_
     refine om rfl rfl (shO_off (b' := true) 101 rfl rfl rfl rfl (shO_off (b' := true) 101 rfl rfl rfl rfl (shO_off (b' := true) 101 rfl rfl rfl rfl (shO_offU 104 rfl rfl rfl (shO_offU 104 rfl rfl rfl (shO_off (b' := true) 101 rfl rfl rfl rfl ?_))))))
     refine ov (v_pick_t rfl rfl) rfl ?_
     refine shO_nil ?_
     obtain rfl := inj1 r201
     exact mi (kc (kc (kx kr))) ⟨rfl, rfl, (sc rfl (sc rfl (sc rfl (sc rfl (sn _)))))⟩
   have r202 := ite_f r199 c200; clear r199
   refine shO_on (b := false) 94 rfl (Env.isF rfl c200) (om rfl rfl (shO_on (b := false) 94 rfl (Env.isF rfl c200) ?_))
   refine ov (v_gtrK rfl rfl) rfl ?_
   refine shO_on (b := false) 94 rfl (Env.isF rfl c200) (om rfl rfl (shO_on (b := false) 94 rfl (Env.isF rfl c200) ?_))
   refine ov (v_eql rfl rfl) rfl ?_
   refine shO_on (b := false) 94 rfl (Env.isF rfl c200) ?_
   refine ov (v_neqB Try.underlying4 rfl rfl) rfl ?_
   refine ov (v_pick_f (evD_false rfl c200) rfl) rfl ?_
   refine om rfl rfl ?_
   by_cases c203 : (decide (0 < n2)) ≠ (decide (n5 = 0))
   · have r204 := ite_t r202 c203; clear r202
     refine shO_off (b' := true) 101 rfl (Env.isT rfl c203) rfl rfl (shO_off (b' := true) 101 rfl (Env.isT rfl c203) rfl rfl (shO_off (b' := true) 101 rfl (Env.isT rfl c203) rfl rfl (shO_offU 104 rfl rfl rfl (shO_offU 104 rfl rfl rfl (shO_off (b' := true) 101 rfl (Env.isT rfl c203) rfl rfl ?_)))))
     refine ov (v_pick_t (evD_true rfl c203) rfl) rfl ?_
     refine shO_nil ?_
     obtain rfl := inj1 r204
     exact mi (kc (kc (kx kr))) ⟨rfl, rfl, (sc rfl (sc rfl (sc rfl (sc rfl (sn _)))))⟩
   have r205 := ite_f r202 c203; clear r202
   refine shO_on (b := false) 101 rfl (Env.isF rfl c203) (om rfl rfl (shO_on (b := false) 101 rfl (Env.isF rfl c203) ?_))
   refine ov (v_neq rfl rfl) rfl ?_
   refine shO_on (b := false) 101 rfl (Env.isF rfl c203) (om rfl rfl ?_)
   by_cases c206 : n5 ≠ 0
   · have r207 := ite_t r205 c206; clear r205
     refine shO_on (b := true) 104 rfl (Env.isT rfl c206) (om rfl rfl (shO_on (b := true) 104 rfl (Env.isT rfl c206) ?_))
     refine ov (v_neq rfl rfl) rfl ?_
     refine shO_on (b := false) 101 rfl (Env.isF rfl c203) ?_
     refine ov (v_pick_t (evD_true rfl c206) rfl) rfl ?_
     refine ov (v_pick_f (evD_false rfl c203) rfl) rfl ?_
     refine shO_nil ?_
     obtain rfl := inj1 r207
     exact mi (kc (kc (kx kr))) ⟨rfl, rfl, (sc rfl (sc rfl (sc rfl (sc rfl (sn _)))))⟩
   have r208 := ite_f r205 c206; clear r205
   refine shO_off (b' := false) 104 rfl (Env.isF rfl c206) rfl rfl (shO_off (b' := false) 104 rfl (Env.isF rfl c206) rfl rfl (shO_on (b := false) 101 rfl (Env.isF rfl c203) ?_))
   refine ov (v_pick_f (evD_false rfl c206) rfl) rfl ?_
   refine ov (v_pick_f (evD_false rfl c203) rfl) rfl ?_
   refine shO_nil ?_
   obtain rfl := inj1 r208
   exact mi (kc (kc (kx kr))) ⟨rfl, rfl, (sc rfl (sc rfl (sc rfl (sc rfl (sn _)))))⟩
 rintro e1 _ _ ⟨rfl, rfl, he209⟩
 refine shW_env _ he209 ?_; clear he209
 refine shW_cond rfl (fun c210 => ?_) (fun c210 => ?_)
 · have r211 := bt r193 c210; clear r193
   refine wsr (oa rfl rfl (shO_nil ?_))
   refine kW kn ?_
   refine shW_ret (andThen_ret ?_)
   refine q_res1 Try.results9 (res_tmp rfl) (sr) ?_
   obtain rfl := inj1 r211
   exact rfl
 have r212 := bf r193 c210; clear r193
 refine shW_skip (wsr ?_)
 refine ov (v_makeFunc rfl rfl) rfl ?_
 refine oa rfl rfl (shO_nil (shW_seq (wsr (om rfl rfl (om rfl rfl ?_)))))
 obtain rfl := (NlR.caps hz20).1
 refine shO_freezeN (Nat.le_refl _) (iE_ok _) (fC (fC fP)) hz20 ?_; intro F213 hF214 h215
 replace h46 := h46.mono (iE_ok _) hF214
 replace hz48 := hz48.mono (iE_ok _) hF214
 replace hz173 := hz173.mono (prE_ok (iE_ok _) (iE_ok _)) hF214
 obtain rfl := (NlR.caps hz48).1
 refine shO_freezeN (Nat.le_refl _) (iE_ok _) (fC (fC fP)) hz48 ?_; intro F216 hF217 h218
 replace h46 := h46.mono (iE_ok _) hF217
 replace h215 := h215.mono (slE_ok (iE_ok _)) hF217
 replace hz173 := hz173.mono (prE_ok (iE_ok _) (iE_ok _)) hF217
 refine shO_freeze 1 rfl hb36 ?_; intro F219 hF220 hz221
 refine shO_L (L' := (b43, .cells #[.slice a44 metal2.length c45, .int .i64 q_at, .int .u32 q_turn] 104 (0, 0)) :: (Lb172 ++ [])) rfl ?_
 replace h46 := h46.mono (iE_ok _) hF220
 replace h215 := h215.mono (slE_ok (iE_ok _)) hF220
 replace h218 := h218.mono (slE_ok (iE_ok _)) hF220
 replace hz173 := hz173.mono (prE_ok (iE_ok _) (iE_ok _)) hF220
 obtain ⟨ok2, ok3, h222, r223⟩ := b2_ok r212; clear r212
 refine o_callT (Lt := Lb172 ++ []) (Lr := [(b43, .cells #[.slice a44 metal2.length c45, .int .i64 q_at, .int .u32 q_turn] 104 (0, 0))]) rfl Try.call46 rfl rfl rfl (pT ((fC fP).trans (pA pR)) (lp (ln rfl))) (fun F2 h2 h3 => by rw [(SlR.caps hz173).1]; exact oyezlaw05_NightWrong_1_w (hz173.row (prE_ok (iE_ok _) (iE_ok _)) h2 (fun p hp => h3 p (List.mem_append_left _ hp))) (h2 _ _ hz221) (h215.mono (slE_ok (iE_ok _)) h2) (h218.mono (slE_ok (iE_ok _)) h2) h222) ?_
 refine om rfl rfl (ox rfl rfl rfl (ox rfl rfl rfl (oa rfl rfl (oa rfl rfl (shO_nil ?_)))))
 obtain ⟨k5, h224, r225⟩ := b1_ok r223; clear r223
 refine shW_join (fun e1 F1 L1 => F219 = F1 ∧ L1 = ((b43, .cells #[.slice a44 metal2.length c45, .int .i64 q_at, .int .u32 q_turn] 104 (0, 0)) :: (Lb172 ++ [])) ∧ e1.sub [(5, .pointer (some ⟨b36, 0, none⟩)), (7, .pointer (some ⟨b43, 0, none⟩)), (12, .slice a170 n174 c171), (19, .func (.func 46) #[] #[.pointer (some ⟨b36, 0, none⟩)]), (121, .bool k5)]) ?_ ?_
 · clear r225
   refine shW_region (om rfl rfl ?_)
   refine ov (v_notB rfl) rfl ?_
   refine om rfl rfl ?_
   rcases bool_two (!ok2) with c226 | c226
   · have r227 := bt h224 c226; clear h224
     refine shO_off (b' := true) 118 rfl (EnvB rfl c226) rfl rfl (shO_off (b' := true) 118 rfl (EnvB rfl c226) rfl rfl ?_)
     refine ov (v_pick_t (evB rfl c226) rfl) rfl ?_
     refine shO_nil ?_
     obtain rfl := inj1 r227
     exact mi kr ⟨rfl, rfl, (sc rfl (sc rfl (sc rfl (sc rfl (sc rfl (sn _))))))⟩
   have r228 := bf h224 c226; clear h224
   refine shO_on (b := false) 118 rfl (EnvB rfl c226) (om rfl rfl (shO_on (b := false) 118 rfl (EnvB rfl c226) ?_))
   refine ov (v_notB rfl) rfl ?_
   refine ov (v_pick_f (evB rfl c226) rfl) rfl ?_
   refine shO_nil ?_
   obtain rfl := inj1 r228
   exact mi kr ⟨rfl, rfl, (sc rfl (sc rfl (sc rfl (sc rfl (sc rfl (sn _))))))⟩
 rintro e1 _ _ ⟨rfl, rfl, he229⟩
 refine shW_env _ he229 ?_; clear he229
 refine shW_cond rfl (fun c230 => ?_) (fun c230 => ?_)
 · have r231 := bt r225 c230; clear r225
   refine wsr (oa rfl rfl (shO_nil ?_))
   refine kW kn ?_
   refine shW_ret (andThen_ret ?_)
   refine q_res1 Try.results9 (res_tmp rfl) (sr) ?_
   obtain rfl := inj1 r231
   exact rfl
 have r232 := bf r225 c230; clear r225
 refine shW_skip (wsr (oa rfl rfl (shO_nil ?_)))
 refine shW_join (fun e1 F1 L1 => oyezlaw05_NightWrong_j3 = some r ∧ FExt F219 F1 ∧ L1 = [] ∧ e1.sub []) ?_ ?_
 · refine wsr (om rfl rfl (shO_nil ?_))
   refine shW_block ?_
   obtain ⟨g233, r234⟩ := gd_ok r232; clear r232
   refine shW_lp (fun fu4 e1 F1 L1 => ∃ (k6 : Int), Ctr 0 5 k6 fu4 ∧ ∃ (q_at6 : Int) (q_turn6 : Int), oyezlaw05_NightWrong_l4 l metal2 w_hours l6 fu4 q_at6 q_turn6 = some r ∧ FExt F219 F1 ∧ L1 = ((b43, .cells #[.slice a44 metal2.length c45, .int .i64 q_at6, .int .u32 q_turn6] 104 (0, 0)) :: (Lb172 ++ [])) ∧ e1.sub [(5, .pointer (some ⟨b36, 0, none⟩)), (7, .pointer (some ⟨b43, 0, none⟩)), (12, .slice a170 n174 c171), (19, .func (.func 46) #[] #[.pointer (some ⟨b36, 0, none⟩)]), (22, .func (.func 47) #[] #[]), (122, .int .i64 k6)]) _ (m0 kr ⟨_, Ctr.start _ _, q_at, q_turn, r234, FExt.refl _, rfl, (sc rfl (sc rfl (sc rfl (sc rfl (sc rfl (sc rfl (sn _)))))))⟩) ?_
   rintro fu4 e1 F239 _ ⟨k6, hk235, q_at6, q_turn6, r237, hF240, rfl, he238⟩
   refine shW_env _ he238 ?_; clear he238
   replace h46 := h46.mono (iE_ok _) hF240
   replace h215 := h215.mono (slE_ok (iE_ok _)) hF240
   replace h218 := h218.mono (slE_ok (iE_ok _)) hF240
   replace hz173 := hz173.mono (prE_ok (iE_ok _) (iE_ok _)) hF240
   replace hz221 := hF240 _ _ hz221
   refine wsr ?_
   refine ov (v_lssK rfl rfl) rfl ?_
   refine shO_nil (shW_seq ?_)
   refine shW_condP rfl (fun c242 => ?_) (fun c242 => ?_)
   · obtain ⟨fu4, rfl, hk243⟩ := Ctr.succ hk235 c242
     rw [oyezlaw05_NightWrong_l4] at r237
     refine shW_skip ?_
     refine shW_join (fun e1 F1 L1 => ∃ (q_at7 : Int) (q_turn7 : Int), oyezlaw05_NightWrong_j5 (oyezlaw05_NightWrong_l4 l metal2 w_hours l6 fu4) q_at7 q_turn7 = some r ∧ FExt F239 F1 ∧ L1 = ((b43, .cells #[.slice a44 metal2.length c45, .int .i64 q_at7, .int .u32 q_turn7] 104 (0, 0)) :: (Lb172 ++ [])) ∧ e1.sub [(5, .pointer (some ⟨b36, 0, none⟩)), (7, .pointer (some ⟨b43, 0, none⟩)), (12, .slice a170 n174 c171), (19, .func (.func 46) #[] #[.pointer (some ⟨b36, 0, none⟩)]), (22, .func (.func 47) #[] #[]), (122, .int .i64 k6)]) ?_ ?_
     · refine shW_block ?_
       refine wsr (oa rfl rfl (shO_nil ?_))
       obtain ⟨q_at8, q_turn8, other, h250, r251⟩ := b3_ok r237; clear r237
       refine shW_join (fun e1 F1 L1 => ∃ (a244 : Option Addr) (n248 : Nat) (c245 : Nat) (Lb246 : LH), FExt F239 F1 ∧ L1 = ((b43, .cells #[.slice a44 metal2.length c45, .int .i64 q_at8, .int .u32 q_turn8] 104 (0, 0)) :: (Lb172 ++ (Lb246 ++ []))) ∧ e1.sub [(5, .pointer (some ⟨b36, 0, none⟩)), (7, .pointer (some ⟨b43, 0, none⟩)), (12, .slice a170 n174 c171), (19, .func (.func 46) #[] #[.pointer (some ⟨b36, 0, none⟩)]), (22, .func (.func 47) #[] #[]), (23, .slice a244 n248 c245), (122, .int .i64 k6)] ∧ SlR K.w0.heap.size 59 2 (prE (iE .i64) (iE .i64)) F1 a244 n248 c245 other Lb246) ?_ ?_
       · clear r251
         refine wsr ?_
         refine ov (v_fieldAddr fa_26_1 rfl) rfl ?_
         refine ov (v_load Try.isAgg24 rfl (Has.frozen hz221) rfl) rfl ?_
         refine ov (v_lenS Try.underlying24 rfl) rfl ?_
         refine om rfl rfl (shO_nil ?_)
         refine shW_block ?_
         refine shW_lp (fun fu6 e1 F1 L1 => ∃ (tl : List (List Int)) (k7 : Int), tl.length = fu6 ∧ Lst w_hours k7 tl ∧ ∃ (q_at9 : Int) (q_turn9 : Int) (other2 : List (Int × Int)) (a252 : Option Addr) (n256 : Nat) (c253 : Nat) (Lb254 : LH), oyezlaw05_NightWrong_l6 metal2 l6 tl k7 q_at9 q_turn9 other2 = some (q_at8, q_turn8, other) ∧ FExt F239 F1 ∧ L1 = ((b43, .cells #[.slice a44 metal2.length c45, .int .i64 q_at9, .int .u32 q_turn9] 104 (0, 0)) :: (Lb172 ++ (Lb254 ++ []))) ∧ e1.sub [(5, .pointer (some ⟨b36, 0, none⟩)), (7, .pointer (some ⟨b43, 0, none⟩)), (12, .slice a170 n174 c171), (19, .func (.func 46) #[] #[.pointer (some ⟨b36, 0, none⟩)]), (22, .func (.func 47) #[] #[]), (23, .slice a252 n256 c253), (122, .int .i64 k6), (125, .slice a23 w_hours.length c24), (126, .int .i64 (w_hours.length : Int)), (127, .int .i64 k7)] ∧ SlR K.w0.heap.size 59 2 (prE (iE .i64) (iE .i64)) F1 a252 n256 c253 other2 Lb254) _ (m0 (kc (ka (ke kr))) ⟨_, _, rfl, Lst.start _, q_at6, q_turn6, [], none, 0, 0, [], h250, FExt.refl _, rfl, (sc rfl (sc rfl (sc rfl (sc rfl (sc rfl (sc rfl (sc rfl (sc rfl (sc rfl (sc rfl (sn _))))))))))), SlR.nil _ _ _ _ _⟩) ?_
         rintro fu6 e1 F262 _ ⟨tl, k7, hn259, hk258, q_at9, q_turn9, other2, a252, n256, c253, Lb254, r260, hF263, rfl, he261, hz255⟩
         refine shW_env _ he261 ?_; clear he261
         replace h46 := h46.mono (iE_ok _) hF263
         replace h218 := h218.mono (slE_ok (iE_ok _)) hF263
         replace hz173 := hz173.mono (prE_ok (iE_ok _) (iE_ok _)) hF263
         refine wsr ?_
         refine ov (v_lssK rfl rfl) rfl ?_
         refine shO_nil (shW_seq ?_)
         refine shW_condP rfl (fun c265 => ?_) (fun c265 => ?_)
         · obtain ⟨x3, tl2, rfl, hx267, g268, hk266⟩ := Lst.succ hk258 c265
           rw [oyezlaw05_NightWrong_l6] at r260
           refine shW_skip ?_
           obtain ⟨q_at10, q_turn10, other3, h275, r276⟩ := b3_ok r260; clear r260
           refine shW_join (fun e1 F1 L1 => ∃ (a269 : Option Addr) (n273 : Nat) (c270 : Nat) (Lb271 : LH), FExt F262 F1 ∧ L1 = ((b43, .cells #[.slice a44 metal2.length c45, .int .i64 q_at10, .int .u32 q_turn10] 104 (0, 0)) :: (Lb172 ++ (Lb271 ++ []))) ∧ e1.sub [(5, .pointer (some ⟨b36, 0, none⟩)), (7, .pointer (some ⟨b43, 0, none⟩)), (12, .slice a170 n174 c171), (19, .func (.func 46) #[] #[.pointer (some ⟨b36, 0, none⟩)]), (22, .func (.func 47) #[] #[]), (23, .slice a269 n273 c270), (122, .int .i64 k6), (125, .slice a23 w_hours.length c24), (126, .int .i64 (w_hours.length : Int)), (127, .int .i64 k7)] ∧ SlR K.w0.heap.size 59 2 (prE (iE .i64) (iE .i64)) F1 a269 n273 c270 other3 Lb271) ?_ ?_
           · clear r276
             refine shW_block ?_
             refine wsr (om rfl rfl ?_)
             obtain ⟨b277, o278, c279, vs280, ha281, hs282, hle283, ⟨a286, c287, rfl, h288⟩, hl284, hc285⟩ := RowR.at (slE_ok (iE_ok _)) h218 ((b43, .cells #[.slice a44 metal2.length c45, .int .i64 q_at9, .int .u32 q_turn9] 104 (0, 0)) :: (Lb172 ++ (Lb254 ++ []))) g268.1 hx267
             refine ov (v_indexO Try.underlying24 Try.sizeOf40 rfl ha281 rfl g268) rfl ?_
             refine ov (v_load Try.isAgg40 rfl hs282 (hc285 0 (by decide))) rfl ?_
             refine oa rfl rfl (oa rfl rfl (nsr (om rfl rfl ?_)))
             refine ov (v_lenS Try.underlying40 rfl) rfl ?_
             refine om rfl rfl (shO_nil ?_)
             refine shW_block ?_
             obtain ⟨g295, r296⟩ := gd_ok h275; clear h275
             refine shW_lp (fun fu7 e1 F1 L1 => ∃ (k8 : Int), Ctr 0 (x3.length : Int) k8 fu7 ∧ ∃ (q_at11 : Int) (q_turn11 : Int) (other4 : List (Int × Int)) (a289 : Option Addr) (n293 : Nat) (c290 : Nat) (Lb291 : LH), oyezlaw05_NightWrong_l7 metal2 l6 k7 fu7 k8 q_at11 q_turn11 other4 = some (q_at10, q_turn10, other3) ∧ FExt F262 F1 ∧ L1 = ((b43, .cells #[.slice a44 metal2.length c45, .int .i64 q_at11, .int .u32 q_turn11] 104 (0, 0)) :: (Lb172 ++ (Lb291 ++ []))) ∧ e1.sub [(5, .pointer (some ⟨b36, 0, none⟩)), (7, .pointer (some ⟨b43, 0, none⟩)), (12, .slice a170 n174 c171), (19, .func (.func 46) #[] #[.pointer (some ⟨b36, 0, none⟩)]), (22, .func (.func 47) #[] #[]), (23, .slice a289 n293 c290), (24, .int .i64 k7), (122, .int .i64 k6), (125, .slice a23 w_hours.length c24), (126, .int .i64 (w_hours.length : Int)), (127, .int .i64 k7), (133, .int .i64 (x3.length : Int)), (134, .int .i64 k8)] ∧ SlR K.w0.heap.size 59 2 (prE (iE .i64) (iE .i64)) F1 a289 n293 c290 other4 Lb291) _ (m0 kr ⟨_, Ctr.start _ _, q_at9, q_turn9, other2, a252, n256, c253, Lb254, r296, FExt.refl _, rfl, (sc rfl (sc rfl (sc rfl (sc rfl (sc rfl (sc rfl (sc rfl (sc rfl (sc rfl (sc rfl (sc rfl (sc rfl (sc rfl (sn _)))))))))))))), hz255⟩) ?_
             rintro fu7 e1 F301 _ ⟨k8, hk297, q_at11, q_turn11, other4, a289, n293, c290, Lb291, r299, hF302, rfl, he300, hz292⟩
             refine shW_env _ he300 ?_; clear he300
             replace h46 := h46.mono (iE_ok _) hF302
             replace hz173 := hz173.mono (prE_ok (iE_ok _) (iE_ok _)) hF302
             refine wsr ?_
             refine ov (v_lssK rfl rfl) rfl ?_
             refine shO_nil (shW_seq ?_)
             refine shW_condP rfl (fun c304 => ?_) (fun c304 => ?_)
             · obtain ⟨fu7, rfl, hk305⟩ := Ctr.succ hk297 c304
               rw [oyezlaw05_NightWrong_l7] at r299
               refine shW_skip (shW_seq ?_)
               refine shW_block ?_
               refine wsr (om rfl rfl (oa rfl rfl (shO_nil ?_)))
               obtain ⟨q_at12, q_turn12, k9, h306, r307⟩ := b3_ok r299; clear r299
               refine shW_join (fun e1 F1 L1 => FExt F301 F1 ∧ L1 = ((b43, .cells #[.slice a44 metal2.length c45, .int .i64 q_at12, .int .u32 q_turn12] 104 (0, 0)) :: (Lb172 ++ (Lb291 ++ []))) ∧ e1.sub [(5, .pointer (some ⟨b36, 0, none⟩)), (7, .pointer (some ⟨b43, 0, none⟩)), (12, .slice a170 n174 c171), (19, .func (.func 46) #[] #[.pointer (some ⟨b36, 0, none⟩)]), (22, .func (.func 47) #[] #[]), (23, .slice a289 n293 c290), (24, .int .i64 k7), (26, .int .i64 k8), (122, .int .i64 k6), (125, .slice a23 w_hours.length c24), (126, .int .i64 (w_hours.length : Int)), (127, .int .i64 k7), (133, .int .i64 (x3.length : Int)), (134, .int .i64 k8), (145, .bool k9)]) ?_ ?_
               · clear r307
                 refine shW_region (om rfl rfl ?_)
                 refine ov ((v_lenS Try.underlying83 rfl).i (SlR.lenI hz292)) rfl ?_
                 refine om rfl rfl ?_
                 refine ov ((v_lenS Try.underlying83 rfl).i (SlR.lenI hz173)) rfl ?_
                 refine ov (v_lssK rfl rfl) rfl ?_
                 refine om rfl rfl ?_
                 by_cases c308 : (other4.length : Int) < (l6.length : Int)
                 · have r309 := ite_t h306 c308; clear h306
                   refine shO_on (b := true) 142 rfl (Env.isT rfl c308) (om rfl rfl (shO_on (b := true) 142 rfl (Env.isT rfl c308) ?_))
                   obtain ⟨ok4, at_5, turn5, h310, r311⟩ := b3_ok r309; clear r309
                   refine o_callG (Lb := [(b43, .cells #[.slice a44 metal2.length c45, .int .i64 q_at11, .int .u32 q_turn11] 104 (0, 0))]) (Lr := Lb172 ++ (Lb291 ++ [])) rfl Try.call44 rfl rfl rfl (pR) (oyezkit_Bell_Seldom_w h46 h310) ?_; rintro _ F312 _ hF313 hd315 hn314 ⟨rfl, rfl⟩
                   refine shO_L (lb (ln rfl)) ?_
                   refine ov (v_pick_t (evD_true rfl c308) rfl) rfl ?_
                   refine shO_nil ?_
                   obtain ⟨rfl, rfl, rfl⟩ := inj3 r311
                   exact mi kr ⟨hF313, rfl, (sc rfl (sc rfl (sc rfl (sc rfl (sc rfl (sc rfl (sc rfl (sc rfl (sc rfl (sc rfl (sc rfl (sc rfl (sc rfl (sc rfl (sc rfl (sn _))))))))))))))))⟩
                 have r316 := ite_f h306 c308; clear h306
                 refine shO_off (b' := false) 142 rfl (Env.isF rfl c308) rfl rfl (shO_off (b' := false) 142 rfl (Env.isF rfl c308) rfl rfl ?_)
                 refine ov (v_pick_f (evD_false rfl c308) rfl) rfl ?_
                 refine shO_nil ?_
                 obtain ⟨rfl, rfl, rfl⟩ := inj3 r316
                 exact mi kr ⟨FExt.refl _, rfl, (sc rfl (sc rfl (sc rfl (sc rfl (sc rfl (sc rfl (sc rfl (sc rfl (sc rfl (sc rfl (sc rfl (sc rfl (sc rfl (sc rfl (sc rfl (sn _))))))))))))))))⟩
               rintro e1 F318 _ ⟨hF319, rfl, he317⟩
               refine shW_env _ he317 ?_; clear he317
               replace hz292 := hz292.mono (prE_ok (iE_ok _) (iE_ok _)) hF319
               refine shW_cond rfl (fun c320 => ?_) (fun c320 => ?_)
               · have r321 := bt r307 c320; clear r307
                 refine shW_region (om rfl rfl (om rfl rfl (om rfl rfl ?_)))
                 refine ov (v_build (v := .agg #[.int .i64 k7, .int .i64 k8]) rfl (by intro w; kernel_rfl)) rfl ?_
                 refine o_buildSlice (cs := #[.int .i64 k7, .int .i64 k8]) rfl rfl (buildSlice_all slt_83 [.agg #[.int .i64 k7, .int .i64 k8]] rfl (by decide) (by simp [Value.cells]) (by decide)) ?_; intro b322 hb322
                 obtain ⟨other5, h323, g324, r325⟩ := ap_ok r321; clear r321
                 refine o_appZ (xs := other4) (ys := [(k7, k8)]) (zs := other5) rfl slt_83 rfl rfl (Nat.le_refl _) (fun _ => .c (.c (.s .h))) hz292 (SrcR.box (vss := [[.int .i64 k7, .int .i64 k8]]) (ys := [(k7, k8)]) 0 rfl (prE_ok (iE_ok _) (iE_ok _)) (.cons ⟨_, _, rfl, rfl, rfl⟩ .nil) rfl rfl) h323 g324 (by decide) ?_; intro a326 n330 c327 Lb328 hz329
                 refine kO (kd kr) ?_
                 refine oa rfl rfl (shO_nil (inBlock_n (id := 9) (shW_region ?_)))
                 refine ov (v_add rfl rfl (Ctr.r64 hk297 c304 g295)) rfl ?_
                 refine om rfl rfl (shO_nil ?_)
                 exact le kr ⟨_, hk305, q_at12, q_turn12, other5, a326, n330, c327, Lb328, r325, (hF302.trans hF319), rfl, (sc rfl (sc rfl (sc rfl (sc rfl (sc rfl (sc rfl (sc rfl (sc rfl (sc rfl (sc rfl (sc rfl (sc rfl (sc rfl (sn _)))))))))))))), hz329⟩
               have r332 := bf r307 c320; clear r307
               refine shW_skip (inBlock_n (id := 9) (shW_region ?_))
               refine ov (v_add rfl rfl (Ctr.r64 hk297 c304 g295)) rfl ?_
               refine om rfl rfl (shO_nil ?_)
               exact le kr ⟨_, hk305, q_at12, q_turn12, other4, a289, n293, c290, Lb291, r332, (hF302.trans hF319), rfl, (sc rfl (sc rfl (sc rfl (sc rfl (sc rfl (sc rfl (sc rfl (sc rfl (sc rfl (sc rfl (sc rfl (sc rfl (sc rfl (sn _)))))))))))))), hz292⟩
             obtain rfl := Ctr.zero hk297 c304
             rw [oyezlaw05_NightWrong_l7] at r299
             refine shW_exit (andThen_exit (andThen_exit ?_))
             refine inBlock_exit ?_
             refine inBlock_n (id := 7) ?_
             obtain ⟨rfl, rfl, rfl⟩ := inj3 r299
             exact mi kr ⟨a289, n293, c290, Lb291, hF302, rfl, (sc rfl (sc rfl (sc rfl (sc rfl (sc rfl (sc rfl (sc rfl (sc rfl (sc rfl (sc rfl (sn _))))))))))), hz292⟩
           rintro e1 F334 _ ⟨a269, n273, c270, Lb271, hF335, rfl, he333, hz272⟩
           refine shW_env _ he333 ?_; clear he333
           replace h218 := h218.mono (slE_ok (iE_ok _)) hF335
           refine shW_region ?_
           refine ov (v_add rfl rfl (Lst.r64 hk258 c265 (RowR.lt h218))) rfl ?_
           refine om rfl rfl (shO_nil ?_)
           subst hn259; exact le kr ⟨_, _, rfl, hk266, q_at10, q_turn10, other3, a269, n273, c270, Lb271, r276, (hF263.trans hF335), rfl, (sc rfl (sc rfl (sc rfl (sc rfl (sc rfl (sc rfl (sc rfl (sc rfl (sc rfl (sc rfl (sn _))))))))))), hz272⟩
         obtain rfl := Lst.zero hk258 c265
         rw [oyezlaw05_NightWrong_l6] at r260
         refine shW_exit (andThen_exit (andThen_exit ?_))
         refine inBlock_exit ?_
         obtain ⟨rfl, rfl, rfl⟩ := inj3 r260
         exact mi kr ⟨a252, n256, c253, Lb254, hF263, rfl, (sc rfl (sc rfl (sc rfl (sc rfl (sc rfl (sc rfl (sc rfl (sn _)))))))), hz255⟩
       rintro e1 F337 _ ⟨a244, n248, c245, Lb246, hF338, rfl, he336, hz247⟩
       refine shW_env _ he336 ?_; clear he336
       replace h215 := h215.mono (slE_ok (iE_ok _)) hF338
       replace h218 := h218.mono (slE_ok (iE_ok _)) hF338
       replace hz173 := hz173.mono (prE_ok (iE_ok _) (iE_ok _)) hF338
       replace hz221 := hF338 _ _ hz221
       refine wsr (om rfl rfl (om rfl rfl ?_))
       obtain ⟨ok5, ok6, h339, r340⟩ := b2_ok r251; clear r251
       refine o_callT (Lt := Lb246 ++ []) (Lr := (b43, .cells #[.slice a44 metal2.length c45, .int .i64 q_at8, .int .u32 q_turn8] 104 (0, 0)) :: (Lb172 ++ [])) rfl Try.call46 rfl rfl rfl (pT ((fC (fS fP)).trans (pA pR)) (lp (ln rfl))) (fun F2 h2 h3 => by rw [(SlR.caps hz247).1]; exact oyezlaw05_NightWrong_1_w (hz247.row (prE_ok (iE_ok _) (iE_ok _)) h2 (fun p hp => h3 p (List.mem_append_left _ hp))) (h2 _ _ hz221) (h215.mono (slE_ok (iE_ok _)) h2) (h218.mono (slE_ok (iE_ok _)) h2) h339) ?_
       refine om rfl rfl (ox rfl rfl rfl (ox rfl rfl rfl (oa rfl rfl (oa rfl rfl (shO_nil ?_)))))
       obtain ⟨k10, h341, r342⟩ := b1_ok r340; clear r340
       refine shW_join (fun e1 F1 L1 => F337 = F1 ∧ L1 = ((b43, .cells #[.slice a44 metal2.length c45, .int .i64 q_at8, .int .u32 q_turn8] 104 (0, 0)) :: (Lb172 ++ [])) ∧ e1.sub [(5, .pointer (some ⟨b36, 0, none⟩)), (7, .pointer (some ⟨b43, 0, none⟩)), (12, .slice a170 n174 c171), (19, .func (.func 46) #[] #[.pointer (some ⟨b36, 0, none⟩)]), (22, .func (.func 47) #[] #[]), (122, .int .i64 k6), (178, .bool k10)]) ?_ ?_
       · clear r342
         refine shW_region (om rfl rfl ?_)
         refine ov (v_notB rfl) rfl ?_
         refine om rfl rfl ?_
         rcases bool_two (!ok6) with c343 | c343
         · have r344 := bt h341 c343; clear h341
           refine shO_off (b' := true) 162 rfl (EnvB rfl c343) rfl rfl (shO_off (b' := true) 162 rfl (EnvB rfl c343) rfl rfl (shO_offU 164 rfl rfl rfl (shO_offU 164 rfl rfl rfl (shO_offU 164 rfl rfl rfl (shO_offU 164 rfl rfl rfl (shO_offU 164 rfl rfl rfl (shO_offU 164 rfl rfl rfl (shO_offU 170 rfl rfl rfl (shO_offU 170 rfl rfl rfl ?_)))))))))
           refine shO_offU 170 rfl rfl rfl (shO_offU 170 rfl rfl rfl (shO_offU 170 rfl rfl rfl (shO_offU 164 rfl rfl rfl (shO_off (b' := true) 162 rfl (EnvB rfl c343) rfl rfl ?_))))
           refine ov (v_pick_t (evB rfl c343) rfl) rfl ?_
           refine shO_nil ?_
           obtain rfl := inj1 r344
           exact mi (kc (ka kn)) ⟨rfl, rfl, (sc rfl (sc rfl (sc rfl (sc rfl (sc rfl (sc rfl (sc rfl (sn _))))))))⟩
         have r345 := bf h341 c343; clear h341
         refine shO_on (b := false) 162 rfl (EnvB rfl c343) (om rfl rfl (shO_on (b := false) 162 rfl (EnvB rfl c343) (om rfl rfl ?_)))
         rcases bool_two ok5 with c346 | c346
         · have r347 := bt r345 c346; clear r345
           refine shO_on (b := true) 164 rfl (EnvB rfl c346) (om rfl rfl (shO_on (b := true) 164 rfl (EnvB rfl c346) ?_))
           refine ov ((v_lenS Try.underlying83 rfl).i (SlR.lenI hz247)) rfl ?_
           refine shO_on (b := true) 164 rfl (EnvB rfl c346) (om rfl rfl (shO_on (b := true) 164 rfl (EnvB rfl c346) ?_))
           refine ov ((v_lenS Try.underlying83 rfl).i (SlR.lenI hz173)) rfl ?_
           refine shO_on (b := true) 164 rfl (EnvB rfl c346) ?_
           refine ov (v_lssK rfl rfl) rfl ?_
           refine shO_on (b := true) 164 rfl (EnvB rfl c346) (om rfl rfl ?_)
           by_cases c348 : (other.length : Int) < (l6.length : Int)
           · have r349 := ite_t r347 c348; clear r347
             refine shO_off (b' := true) 170 rfl (Env.isT rfl c348) rfl rfl (shO_off (b' := true) 170 rfl (Env.isT rfl c348) rfl rfl (shO_off (b' := true) 170 rfl (Env.isT rfl c348) rfl rfl (shO_off (b' := true) 170 rfl (Env.isT rfl c348) rfl rfl (shO_off (b' := true) 170 rfl (Env.isT rfl c348) rfl rfl (shO_on (b := true) 164 rfl (EnvB rfl c346) ?_)))))
             refine ov (v_pick_t (evD_true rfl c348) rfl) rfl ?_
             refine shO_on (b := false) 162 rfl (EnvB rfl c343) ?_
             refine ov (v_pick_t (evB rfl c346) rfl) rfl ?_
             refine ov (v_pick_f (evB rfl c343) rfl) rfl ?_
             refine shO_nil ?_
             obtain rfl := inj1 r349
             exact mi (kc (ka kn)) ⟨rfl, rfl, (sc rfl (sc rfl (sc rfl (sc rfl (sc rfl (sc rfl (sc rfl (sn _))))))))⟩
           have r350 := ite_f r347 c348; clear r347
           refine shO_on (b := false) 170 rfl (Env.isF rfl c348) (om rfl rfl (shO_on (b := false) 170 rfl (Env.isF rfl c348) (om rfl rfl (shO_on (b := false) 170 rfl (Env.isF rfl c348) (om rfl rfl (shO_on (b := false) 170 rfl (Env.isF rfl c348) ?_))))))
           have hn351 : FnR Try.prog F337 47 #[] #[] (prE (agE (prE (iE .i64) (iE .i64))) (agE (prE (iE .i64) (iE .i64)))) (Value.int .i64) (fun xx_ : (Int × Int) × (Int × Int) => oyezlaw05_NightWrong_2 xx_.1.1 xx_.1.2 xx_.2.1 xx_.2.2) := ⟨Try.call47, fun F2 h2 vs xx_ r ha hr => by obtain ⟨_, _, rfl, ⟨_, rfl, ⟨_, _, rfl, rfl, rfl⟩⟩, ⟨_, rfl, ⟨_, _, rfl, rfl, rfl⟩⟩⟩ := ha; exact oyezlaw05_NightWrong_2_w hr⟩
           obtain ⟨n6, h352, r353⟩ := b1_ok r350; clear r350
           refine o_callT (Lt := Lb246 ++ (Lb172 ++ [])) (Lr := [(b43, .cells #[.slice a44 metal2.length c45, .int .i64 q_at8, .int .u32 q_turn8] 104 (0, 0))]) rfl Try.call48 rfl rfl rfl (pT ((fC (fS fP)).trans (pA ((fC fP).trans (pA pR)))) (lp (lp (ln rfl)))) (fun F2 h2 h3 => by rw [(SlR.caps hz247).1]; rw [(SlR.caps hz173).1]; exact slices_CompareFunc_night_Place_night_Place_night_Place_night_Place_w (hz247.row (prE_ok (iE_ok _) (iE_ok _)) h2 (fun p hp => h3 p (List.mem_append_left _ hp))) (hz173.row (prE_ok (iE_ok _) (iE_ok _)) h2 (fun p hp => h3 p (List.mem_append_right _ (List.mem_append_left _ hp)))) (hn351.mono h2) h352) ?_
           refine shO_on (b := false) 170 rfl (Env.isF rfl c348) ?_
           refine ov (v_lssK rfl rfl) rfl ?_
           refine shO_on (b := true) 164 rfl (EnvB rfl c346) ?_
           refine ov (v_pick_f (evD_false rfl c348) rfl) rfl ?_
           refine shO_on (b := false) 162 rfl (EnvB rfl c343) ?_
           refine ov (v_pick_t (evB rfl c346) rfl) rfl ?_
           refine ov (v_pick_f (evB rfl c343) rfl) rfl ?_
           refine shO_nil ?_
           obtain rfl := inj1 r353
           exact mi (kc (ka kn)) ⟨rfl, rfl, (sc rfl (sc rfl (sc rfl (sc rfl (sc rfl (sc rfl (sc rfl (sn _))))))))⟩
         have r354 := bf r345 c346; clear r345
         refine shO_off (b' := false) 164 rfl (EnvB rfl c346) rfl rfl (shO_off (b' := false) 164 rfl (EnvB rfl c346) rfl rfl (shO_off (b' := false) 164 rfl (EnvB rfl c346) rfl rfl (shO_off (b' := false) 164 rfl (EnvB rfl c346) rfl rfl (shO_off (b' := false) 164 rfl (EnvB rfl c346) rfl rfl (shO_off (b' := false) 164 rfl (EnvB rfl c346) rfl rfl (shO_offU 170 rfl rfl rfl (shO_offU 170 rfl rfl rfl (shO_offU 170 rfl rfl rfl (shO_offU 170 rfl rfl rfl ?_)))))))))
         refine shO_offU 170 rfl rfl rfl (shO_off (b' := false) 164 rfl (EnvB rfl c346) rfl rfl (shO_on (b := false) 162 rfl (EnvB rfl c343) ?_))
         refine ov (v_pick_f (evB rfl c346) rfl) rfl ?_
         refine ov (v_pick_f (evB rfl c343) rfl) rfl ?_
         refine shO_nil ?_
         obtain rfl := inj1 r354
         exact mi (kc (ka kn)) ⟨rfl, rfl, (sc rfl (sc rfl (sc rfl (sc rfl (sc rfl (sc rfl (sc rfl (sn _))))))))⟩
       rintro e1 _ _ ⟨rfl, rfl, he355⟩
       refine shW_env _ he355 ?_; clear he355
       refine shW_cond rfl (fun c356 => ?_) (fun c356 => ?_)
       · have r357 := bt r342 c356; clear r342
         refine wsr (oa rfl rfl (shO_nil ?_))
         refine kW kn ?_
         refine shW_ret (inBlock_ret (andThen_ret (andThen_ret (inBlock_ret (andThen_ret ?_)))))
         refine q_res1 Try.results9 (res_tmp rfl) (sr) ?_
         obtain rfl := inj1 r357
         exact rfl
       have r358 := bf r342 c356; clear r342
       refine shW_skip (inBlock_n (id := 5) ?_)
       exact mi kr ⟨q_at8, q_turn8, r358, hF338, rfl, (sc rfl (sc rfl (sc rfl (sc rfl (sc rfl (sc rfl (sn _)))))))⟩
     rintro e1 F361 _ ⟨q_at7, q_turn7, r359, hF362, rfl, he360⟩
     refine shW_env _ he360 ?_; clear he360
     rw [oyezlaw05_NightWrong_j5] at r359
     refine shW_region ?_
     refine ov (v_add rfl rfl (Ctr.r64 hk235 c242 g233)) rfl ?_
     refine om rfl rfl (shO_nil ?_)
     exact le kr ⟨_, hk243, q_at7, q_turn7, r359, (hF240.trans hF362), rfl, (sc rfl (sc rfl (sc rfl (sc rfl (sc rfl (sc rfl (sn _)))))))⟩
   obtain rfl := Ctr.zero hk235 c242
   rw [oyezlaw05_NightWrong_l4] at r237
   refine shW_exit (andThen_exit (andThen_exit ?_))
   refine inBlock_exit ?_
   exact mi kn ⟨r237, hF240, rfl, (sn _)⟩
 rintro e1 F365 _ ⟨r363, hF366, rfl, he364⟩
 refine shW_env _ he364 ?_; clear he364
 rw [oyezlaw05_NightWrong_j3] at r363
 refine wsr ?_
 obtain ⟨ok7, h367, r368⟩ := b1_ok r363; clear r363
 refine o_callV rfl Try.call18 rfl rfl rfl (oyezlaw05_awake_w h367) ?_
 refine oa rfl rfl (shO_nil (shW_ret ?_))
 refine q_res1 Try.results9 (res_tmp rfl) (sr) ?_
 obtain rfl := inj1 r368
 exact rfl
end Go.Proofs.Ytjgeaaganpkceaa
